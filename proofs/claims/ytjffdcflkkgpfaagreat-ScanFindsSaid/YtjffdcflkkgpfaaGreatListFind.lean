/-
  A block of a listing is looked for (package listing): Find, by halves.
  The blocks are few.
-/
import Derived.Test.YtjffdcflkkgpfaaGreatListEnc
import Derived.Test.YtjffdcflkkgpfaaGreatShelf
namespace Go.Proofs.YtjffdcflkkgpfaaGreat
open Go Go.RowKit Go.Conc
open Go.Op (bytesLess)

theorem cmp_lt : ∀ a b : List UInt8, Lib.compareBytes a b < 0 ↔ bytesLess a b = true
  | [], [] => by simp [Lib.compareBytes, bytesLess]
  | [], _ :: _ => by simp [Lib.compareBytes, bytesLess]
  | _ :: _, [] => by simp [Lib.compareBytes, bytesLess]
  | a :: xs, b :: ys => by
    have ih := cmp_lt xs ys
    unfold Lib.compareBytes bytesLess
    by_cases h1 : a < b
    · simp [h1]
    · by_cases h2 : b < a
      · have hne : ¬ a = b := fun e => by rw [e] at h2; exact absurd h2 (UInt8.lt_irrefl _)
        simp [h1, h2, hne]
      · have he : a = b := UInt8.le_antisymm (UInt8.not_lt.1 h2) (UInt8.not_lt.1 h1)
        subst he
        simp [h1, ih]

theorem cmp_eq0 : ∀ a b : List UInt8, Lib.compareBytes a b = 0 ↔ a = b
  | [], [] => by simp [Lib.compareBytes]
  | [], _ :: _ => by simp [Lib.compareBytes]
  | _ :: _, [] => by simp [Lib.compareBytes]
  | a :: xs, b :: ys => by
    have ih := cmp_eq0 xs ys
    unfold Lib.compareBytes
    by_cases h1 : a < b
    · have hne : ¬ a = b := fun e => by rw [e] at h1; exact absurd h1 (UInt8.lt_irrefl _)
      simp [h1, hne]
    · by_cases h2 : b < a
      · have hne : ¬ a = b := fun e => by rw [e] at h2; exact absurd h2 (UInt8.lt_irrefl _)
        simp [h1, h2, hne]
      · have he : a = b := UInt8.le_antisymm (UInt8.not_lt.1 h2) (UInt8.not_lt.1 h1)
        subst he
        simp [ih]


set_option maxRecDepth 100000 in
set_option maxHeartbeats 1000000 in
theorem findCmp_spec (B : Nat) (w : World) (vs : List Value) (m : MetaS) (id : ByteArray) (h : MetaV B w vs m) :
    Calls Tryz.prog 68 #[.agg vs.toArray, .string id] w fun e w' => e = .returned (.int .i64 (Lib.compareBytes m.id.data.toList id.data.toList)) ∧ Keeps [] w w' := by
  obtain ⟨vf, vo, rfl, hsf, hso⟩ := h
  obtain ⟨af, cf, rfl, -, -, -, -⟩ := hsf
  obtain ⟨ao, co, rfl, -, -, -, -⟩ := hso
  have Hc := Lib.hid (fun w => Tryz.strings_Compare m.id id w)
  go_enter Tryz.func68, Tryz.ntmps68
  go_wp2_with fail
  refine (Hc.out _).mono ?_
  rintro e w1 ⟨rfl, rfl⟩
  have Hk := Lib.hid (show Keeps [] w (w.alloc (.cells #[.string m.id, .int .i64 m.mn, .int .i64 m.mx, .int .i64 m.level, .int .i64 m.series, .int .i64 m.samples, .slice af m.files.length cf, .slice ao m.sources.length co] 63)) from (Keeps.refl [] w).alloc _)
  go_wp2_with fail
  go_ret
  exact ⟨rfl, Hk.out⟩


theorem less_transM : ∀ {a b c : List UInt8}, bytesLess a b = true → bytesLess b c = true → bytesLess a c = true
  | [], [], _, h, _ => by simp [bytesLess] at h
  | [], _ :: _, [], _, h => by simp [bytesLess] at h
  | [], _ :: _, _ :: _, _, _ => by simp [bytesLess]
  | _ :: _, [], _, h, _ => by simp [bytesLess] at h
  | _ :: _, _ :: _, [], _, h => by simp [bytesLess] at h
  | a :: xs, b :: ys, c :: zs, h1, h2 => by
    unfold bytesLess at h1 h2 ⊢
    have ih := @less_transM xs ys zs
    simp only [Bool.or_eq_true, Bool.and_eq_true, decide_eq_true_eq, beq_iff_eq] at h1 h2 ⊢
    rcases h1 with h1 | ⟨h1, h1'⟩ <;> rcases h2 with h2 | ⟨h2, h2'⟩
    · exact .inl (UInt8.lt_trans h1 h2)
    · subst h2; exact .inl h1
    · subst h1; exact .inl h2
    · subst h1 h2; exact .inr ⟨rfl, ih h1' h2'⟩

theorem cmp_mono {L : List MetaS} (hs : L.Pairwise fun a b => bytesLess a.id.data.toList b.id.data.toList = true) {id : ByteArray} {a b : Nat} (hab : a ≤ b) (ha : a < L.length) (hb : b < L.length) (h : Lib.compareBytes L[b].id.data.toList id.data.toList < 0) : Lib.compareBytes L[a].id.data.toList id.data.toList < 0 := by
  rcases Nat.lt_or_eq_of_le hab with hlt | rfl
  · have h1 := List.pairwise_iff_getElem.1 hs a b ha hb hlt
    rw [cmp_lt] at h ⊢
    exact less_transM h1 h
  · exact h

/-- What a search by halves answers. -/
structure Sought (L : List MetaS) (id : ByteArray) (i : Nat) : Prop where
  le : i ≤ L.length
  low : ∀ a (h : a < L.length), a < i → Lib.compareBytes L[a].id.data.toList id.data.toList < 0
  high : ∀ a (h : a < L.length), i ≤ a → 0 ≤ Lib.compareBytes L[a].id.data.toList id.data.toList

def foundB (L : List MetaS) (id : ByteArray) (i : Nat) : Bool := match L[i]? with
  | some m => decide (Lib.compareBytes m.id.data.toList id.data.toList = 0)
  | none => false

def SearchRel (w : World) (L : List MetaS) (id : ByteArray) (gk : Nat) (u9 u10 : Value) (wr : World) : Prop :=
  ∃ i j, i ≤ j ∧ j ≤ L.length ∧ gk = j - i ∧ u9 = .int .i64 (i : Nat) ∧ u10 = .int .i64 (j : Nat) ∧ (∀ a (h : a < L.length), a < i → Lib.compareBytes L[a].id.data.toList id.data.toList < 0) ∧ (∀ a (h : a < L.length), j ≤ a → 0 ≤ Lib.compareBytes L[a].id.data.toList id.data.toList) ∧ Keeps [] w wr

set_option linter.unusedSimpArgs false in
set_option maxRecDepth 100000 in
set_option maxHeartbeats 4000000 in
theorem search_spec (B : Nat) (w : World) (v : Value) (L : List MetaS) (id : ByteArray) (hL : MetasV B w v L) (hl : L.length ≤ 1000) (hs : L.Pairwise fun a b => bytesLess a.id.data.toList b.id.data.toList = true) :
    Calls Tryz.prog 67 #[v, .string id, .func (.func 68) #[] #[]] w fun e w' => ∃ i, e = .returned (.tuple #[.int .i64 (i : Nat), .bool (foundB L id i)]) ∧ Sought L id i ∧ Keeps [] w w' := by
  obtain ⟨VS, hV1, hV2, hV3⟩ := hL
  have Hv := Lib.hid (And.intro hV1 (And.intro hV2 hV3))
  obtain ⟨av, cv, rfl, -, -, -, -⟩ := hV1
  rw [hV2]
  have Hs := Lib.hid hs
  clear hV2 hV3 hs
  go_enter Tryz.func67, Tryz.ntmps67
  go_wp2_with fail
  go_loopg [9, 10] L.length (SearchRel w L id)
  case atStart => exact ⟨0, L.length, Nat.zero_le _, Nat.le_refl _, rfl, rfl, rfl, fun a _ h => by omega, fun a h h2 => by omega, Keeps.refl _ _⟩
  case round =>
    obtain ⟨i, j, hij, hj, hgk, rfl, rfl, hlo, hhi, hkr⟩ := hrel
    have Hg := Lib.hid hgk
    clear hgk
    by_cases hlt : i < j
    · have hlt' : (i : Int) < (j : Int) := by omega
      have hadd : IntKind.i64.wrap ((i : Int) + (j : Int)) = (i : Int) + j := IntWalk.i64_in _ (by omega)
      have hcv : IntKind.u64.wrap ((i : Int) + (j : Int)) = (i : Int) + j := IntWalk.u64_in _ (by omega)
      have Hk := Lib.hid (And.intro hkr (And.intro hlo hhi))
      clear hlo hhi
      go_upto_region 5 with fail
      obtain ⟨h, hh⟩ : ∃ n, n = (i + j) / 2 := ⟨_, rfl⟩
      have hhz : ((i : Int) + (j : Int)) / 2 = (h : Int) := by omega
      have hhj : h < j := by omega
      have hih : i ≤ h := by omega
      have hhL : h < L.length := by omega
      rw [hhz]
      clear hh hhz hadd hcv
      obtain ⟨b6, of6, ea, -, hb6, hc6⟩ := (Hv.out.1.keep Hk.out.1 (by simp)).atI h (by rw [Hv.out.2.1]; exact hhL)
      subst ea
      obtain ⟨vf, vo, hvs, hsf, hso⟩ := Hv.out.2.2 h (by rw [Hv.out.2.1]; exact hhL) hhL
      obtain ⟨af, cf, rfl, -, -, -, -⟩ := hsf
      obtain ⟨ao, co, rfl, -, -, -, -⟩ := hso
      rw [hvs] at hc6
      have Hmv := Lib.hid ((Hv.out.2.2 h (by rw [Hv.out.2.1]; exact hhL) hhL).same Hk.out.1)
      rw [hvs] at Hmv
      have Hcp := Lib.hid (fun (a b : Nat) hab ha hb => @cmp_mono L Hs.out id a b hab ha hb)
      have d0 : wr.cell? ⟨b6, of6 + h * 8, none⟩ = some (.string L[h].id) := hc6 0 (by decide)
      have d1 : wr.cell? ⟨b6, of6 + h * 8 + 1, none⟩ = some (.int .i64 L[h].mn) := hc6 1 (by decide)
      have d2 : wr.cell? ⟨b6, of6 + h * 8 + 2, none⟩ = some (.int .i64 L[h].mx) := hc6 2 (by decide)
      have d3 : wr.cell? ⟨b6, of6 + h * 8 + 3, none⟩ = some (.int .i64 L[h].level) := hc6 3 (by decide)
      have d4 : wr.cell? ⟨b6, of6 + h * 8 + 4, none⟩ = some (.int .i64 L[h].series) := hc6 4 (by decide)
      have d5 : wr.cell? ⟨b6, of6 + h * 8 + 5, none⟩ = some (.int .i64 L[h].samples) := hc6 5 (by decide)
      have d6 : wr.cell? ⟨b6, of6 + h * 8 + 6, none⟩ = some (.slice af L[h].files.length cf) := hc6 6 (by decide)
      have d7 : wr.cell? ⟨b6, of6 + h * 8 + 7, none⟩ = some (.slice ao L[h].sources.length co) := hc6 7 (by decide)
      have hhL' : (h : Int) < (L.length : Int) := by omega
      have Hcmp := Lib.hid (findCmp_spec B wr _ L[h] id Hmv.out)
      obtain ⟨c, hc⟩ : ∃ c, c = Lib.compareBytes L[h].id.data.toList id.data.toList := ⟨_, rfl⟩
      rw [← hc] at Hcmp
      have Hc := Lib.hid hc
      clear hc6 hvs hkr hc
      generalize L[h] = m at d0 d1 d2 d3 d4 d5 d6 d7 Hcmp
      have hadd2 : IntKind.i64.wrap ((h : Int) + 1) = ((h + 1 : Nat) : Int) := by rw [IntWalk.i64_in _ (by omega)]; omega
      go_wp2_with (refine wpList_call_value rfl _ _ _ rfl 68 #[] #[] rfl ⟨_, Tryz.func68, by kernel_rfl, by kernel_rfl⟩ ?_)
      refine Hcmp.out.mono ?_
      rintro e w5 ⟨rfl, hk5⟩
      have H5 := Lib.hid (Hk.out.1.trans hk5)
      clear hk5 d0 d1 d2 d3 d4 d5 d6 d7
      by_cases hcl : c < 0
      · go_wp2_with fail
        go_roundg (j - (h + 1))
        case measure => have := Hg.out; omega
        case rel => exact ⟨h + 1, j, by omega, hj, rfl, by go_num, rfl, fun a ha hal => Hcp.out a h (by omega) ha hhL (by rw [← Hc.out]; exact hcl), Hk.out.2.2, H5.out⟩
      · go_wp2_with fail
        go_roundg (h - i)
        case measure => have := Hg.out; omega
        case rel => exact ⟨i, h, hih, by omega, rfl, rfl, rfl, Hk.out.2.1, fun a ha hal => Int.not_lt.1 fun hlt => by have h1 := Hcp.out h a hal hhL ha hlt; rw [← Hc.out] at h1; omega, H5.out⟩
    · obtain rfl : i = j := by omega
      have hge : ¬ (i : Int) < (i : Int) := by omega
      have Hso := Lib.hid (Sought.mk hj hlo hhi)
      have Hk := Lib.hid hkr
      clear hlo hhi hkr
      by_cases hin : i < L.length
      · obtain ⟨b6, of6, ea, -, hb6, hc6⟩ := (Hv.out.1.keep Hk.out (by simp)).atI i (by rw [Hv.out.2.1]; exact hin)
        subst ea
        obtain ⟨vf, vo, hvs, hsf, hso⟩ := Hv.out.2.2 i (by rw [Hv.out.2.1]; exact hin) hin
        obtain ⟨af, cf, rfl, -, -, -, -⟩ := hsf
        obtain ⟨ao, co, rfl, -, -, -, -⟩ := hso
        rw [hvs] at hc6
        have Hmv := Lib.hid ((Hv.out.2.2 i (by rw [Hv.out.2.1]; exact hin) hin).same Hk.out)
        rw [hvs] at Hmv
        have d0 : wr.cell? ⟨b6, of6 + i * 8, none⟩ = some (.string L[i].id) := hc6 0 (by decide)
        have d1 : wr.cell? ⟨b6, of6 + i * 8 + 1, none⟩ = some (.int .i64 L[i].mn) := hc6 1 (by decide)
        have d2 : wr.cell? ⟨b6, of6 + i * 8 + 2, none⟩ = some (.int .i64 L[i].mx) := hc6 2 (by decide)
        have d3 : wr.cell? ⟨b6, of6 + i * 8 + 3, none⟩ = some (.int .i64 L[i].level) := hc6 3 (by decide)
        have d4 : wr.cell? ⟨b6, of6 + i * 8 + 4, none⟩ = some (.int .i64 L[i].series) := hc6 4 (by decide)
        have d5 : wr.cell? ⟨b6, of6 + i * 8 + 5, none⟩ = some (.int .i64 L[i].samples) := hc6 5 (by decide)
        have d6 : wr.cell? ⟨b6, of6 + i * 8 + 6, none⟩ = some (.slice af L[i].files.length cf) := hc6 6 (by decide)
        have d7 : wr.cell? ⟨b6, of6 + i * 8 + 7, none⟩ = some (.slice ao L[i].sources.length co) := hc6 7 (by decide)
        have hin' : (i : Int) < (L.length : Int) := by omega
        have Hcmp := Lib.hid (findCmp_spec B wr _ L[i] id Hmv.out)
        have hfb : foundB L id i = decide (Lib.compareBytes L[i].id.data.toList id.data.toList = 0) := by unfold foundB; rw [List.getElem?_eq_getElem hin]
        obtain ⟨c, hc⟩ : ∃ c, c = Lib.compareBytes L[i].id.data.toList id.data.toList := ⟨_, rfl⟩
        rw [← hc] at Hcmp hfb
        have Hfb := Lib.hid hfb
        clear hc6 hvs hc hfb
        generalize L[i] = m at d0 d1 d2 d3 d4 d5 d6 d7 Hcmp
        go_wp2_with (refine wpList_call_value rfl _ _ _ rfl 68 #[] #[] rfl ⟨_, Tryz.func68, by kernel_rfl, by kernel_rfl⟩ ?_)
        refine Hcmp.out.mono ?_
        rintro e w5 ⟨rfl, hk5⟩
        have H5 := Lib.hid (Hk.out.trans hk5)
        clear hk5 d0 d1 d2 d3 d4 d5 d6 d7
        by_cases hc0 : c = 0
        · have hd : decide (c = 0) = true := decide_eq_true hc0
          rw [hd] at Hfb
          go_wp2_with fail
          exact bodyPost_ret (v := .tuple #[.int .i64 (i : Nat), .bool true]) (by simp [results, Tryz.results67, go_sem]) rfl ⟨i, by rw [Hfb.out], Hso.out, H5.out⟩
        · have hd : decide (c = 0) = false := decide_eq_false hc0
          rw [hd] at Hfb
          have hcb : (c == 0) = false := by simp [hc0]
          go_wp2_with fail
          exact bodyPost_ret (v := .tuple #[.int .i64 (i : Nat), .bool false]) (by simp [results, Tryz.results67, go_sem]) rfl ⟨i, by rw [Hfb.out], Hso.out, H5.out⟩
      · have hin' : ¬ (i : Int) < (L.length : Int) := by omega
        have hfb : foundB L id i = false := by unfold foundB; rw [List.getElem?_eq_none (by omega)]
        have Hfb := Lib.hid hfb
        clear hfb
        go_wp2_with fail
        exact bodyPost_ret (v := .tuple #[.int .i64 (i : Nat), .bool false]) (by simp [results, Tryz.results67, go_sem]) rfl ⟨i, by rw [Hfb.out], Hso.out, Hk.out⟩


theorem sought_found {L : List MetaS} (hs : L.Pairwise fun a b => bytesLess a.id.data.toList b.id.data.toList = true) {id : ByteArray} {i : Nat} (h : Sought L id i) : foundB L id i = true ↔ ∃ m ∈ L, m.id = id := by
  unfold foundB
  constructor
  · intro hf
    cases hg : L[i]? with
    | none => rw [hg] at hf; cases hf
    | some m =>
      rw [hg] at hf
      simp only [decide_eq_true_eq] at hf
      exact ⟨m, List.mem_of_getElem? hg, ba_ext ((cmp_eq0 _ _).1 hf)⟩
  · rintro ⟨m, hm, rfl⟩
    obtain ⟨a, ha, rfl⟩ := List.mem_iff_getElem.1 hm
    have h0 : Lib.compareBytes L[a].id.data.toList L[a].id.data.toList = 0 := (cmp_eq0 _ _).2 rfl
    have hia : i ≤ a := Nat.le_of_not_lt fun hlt => by have := h.low a ha hlt; omega
    rcases Nat.lt_or_eq_of_le hia with hlt | rfl
    · have h1 := List.pairwise_iff_getElem.1 hs i a (by omega) ha hlt
      have h2 := h.high i (by omega) (Nat.le_refl _)
      rw [← cmp_lt] at h1
      omega
    · rw [List.getElem?_eq_getElem ha]
      simp only [decide_eq_true_eq]
      exact h0

def FindPost (B : Nat) (w : World) (L : List MetaS) (id : ByteArray) (e : Ending) (w' : World) : Prop :=
  ∃ vs ok, e = .returned (.tuple #[.agg vs.toArray, .bool ok]) ∧ (ok = true ↔ ∃ m ∈ L, m.id = id) ∧ (ok = true → ∃ m ∈ L, m.id = id ∧ MetaV B w' vs m) ∧ Keeps [] w w'

set_option linter.unusedSimpArgs false in
set_option maxRecDepth 100000 in
set_option maxHeartbeats 4000000 in
theorem find_spec (B : Nat) (w : World) (at_ : Int) (mp : Value) (v : Value) (L : List MetaS) (id : ByteArray) (hL : MetasV B w v L) (hl : L.length ≤ 1000) (hs : L.Pairwise fun a b => bytesLess a.id.data.toList b.id.data.toList = true) (mo : Option Nat) (hmp : mp = .map mo) :
    Calls Tryz.prog 29 #[.agg #[.int .i64 at_, v, mp], .string id] w (FindPost B w L id) := by
  subst hmp
  have Hso := Lib.hid (fun i => @sought_found L hs id i)
  have HL := Lib.hid hL
  obtain ⟨VS, hV1, hV2, hV3⟩ := hL
  have Hv := Lib.hid (And.intro hV1 (And.intro hV2 hV3))
  obtain ⟨av, cv, rfl, -, -, -, -⟩ := hV1
  rw [hV2] at HL ⊢
  have n0 := new2 w (.cells #[.int .i64 at_, .slice av L.length cv, .map mo] 32) (.cells #[.string ⟨#[]⟩, .int .i64 0, .int .i64 0, .int .i64 0, .int .i64 0, .int .i64 0, .slice none 0 0, .slice none 0 0] 63)
  have k0 : Keeps [] w ((w.alloc (.cells #[.int .i64 at_, .slice av L.length cv, .map mo] 32)).alloc (.cells #[.string ⟨#[]⟩, .int .i64 0, .int .i64 0, .int .i64 0, .int .i64 0, .int .i64 0, .slice none 0 0, .slice none 0 0] 63)) := ((Keeps.refl [] w).alloc _).alloc _
  have hsr := search_spec B _ _ L id (HL.out.same k0) hl hs
  have Hsr := Lib.hid hsr
  have H0 := Lib.hid (And.intro n0.1 (And.intro n0.2 k0))
  clear n0 k0 hsr hV2 hV3 hs
  go_enter Tryz.func29, Tryz.ntmps29
  go_wp2_with fail
  refine Hsr.out.mono ?_
  rintro e w5 ⟨i, rfl, hsi, hk5⟩
  have nl := hk5.at_ H0.out.1 (by simp)
  have nr := hk5.at_ H0.out.2.1 (by simp)
  have hfi := Hso.out i hsi
  have H5 := Lib.hid (And.intro nr (H0.out.2.2.trans hk5))
  have hrl : w.heap.size ≤ w.heap.size + 1 := by omega
  have cl := cells_at nl
  have ll := lt_of_at nl
  have cr := cells_at nr
  have fr := free_at nr
  have lr := lt_of_at nr
  clear nl nr hk5 Hsr H0
  cases hfb : foundB L id i with
  | false =>
    have se := set8 (v0 := .string ⟨#[]⟩) (v1 := .int .i64 0) (v2 := .int .i64 0) (v3 := .int .i64 0) (v4 := .int .i64 0) (v5 := .int .i64 0) (v6 := .slice none 0 0) (v7 := .slice none 0 0) H5.out.1
    have He := Lib.hid (And.intro se (And.intro H5.out.2 (show ¬ ∃ m ∈ L, m.id = id from fun hc => by rw [hfi.2 hc] at hfb; cases hfb)))
    clear se hfi hsi hfb
    go_wp2_with fail
    have hc := cells_at He.out.1.1
    have hlr := lt_of_at He.out.1.1
    refine bodyPost_ret (v := .tuple #[.agg #[.string ⟨#[]⟩, .int .i64 0, .int .i64 0, .int .i64 0, .int .i64 0, .int .i64 0, .slice none 0 0, .slice none 0 0], .bool false]) ?_ rfl ⟨[.string ⟨#[]⟩, .int .i64 0, .int .i64 0, .int .i64 0, .int .i64 0, .int .i64 0, .slice none 0 0, .slice none 0 0], false, rfl, ⟨fun h => (by cases h), fun h => absurd h He.out.2.2⟩, fun h => (by cases h), He.out.2.1.after He.out.1.2 (fun x hx => .inr (by simp only [List.mem_singleton] at hx; omega))⟩
    simp [results, Tryz.results29, go_sem, hc, hlr]
  | true =>
    have hin : i < L.length := by
      unfold foundB at hfb
      cases hg : L[i]? with
      | none => rw [hg] at hfb; cases hfb
      | some m => exact (List.getElem?_eq_some_iff.1 hg).1
    have hid : L[i].id = id := by
      unfold foundB at hfb
      rw [List.getElem?_eq_getElem hin] at hfb
      simp only [decide_eq_true_eq] at hfb
      exact ba_ext ((cmp_eq0 _ _).1 hfb)
    obtain ⟨b6, of6, ea, -, hb6, hc6⟩ := (Hv.out.1.keep H5.out.2 (by simp)).atI i (by rw [Hv.out.2.1]; exact hin)
    subst ea
    obtain ⟨vf, vo, hvs, hsf, hso⟩ := Hv.out.2.2 i (by rw [Hv.out.2.1]; exact hin) hin
    obtain ⟨af, cf, rfl, -, -, -, -⟩ := hsf
    obtain ⟨ao, co, rfl, -, -, -, -⟩ := hso
    rw [hvs] at hc6
    have Hmv := Lib.hid (Hv.out.2.2 i (by rw [Hv.out.2.1]; exact hin) hin)
    rw [hvs] at Hmv
    have d0 : w5.cell? ⟨b6, of6 + i * 8, none⟩ = some (.string L[i].id) := hc6 0 (by decide)
    have d1 : w5.cell? ⟨b6, of6 + i * 8 + 1, none⟩ = some (.int .i64 L[i].mn) := hc6 1 (by decide)
    have d2 : w5.cell? ⟨b6, of6 + i * 8 + 2, none⟩ = some (.int .i64 L[i].mx) := hc6 2 (by decide)
    have d3 : w5.cell? ⟨b6, of6 + i * 8 + 3, none⟩ = some (.int .i64 L[i].level) := hc6 3 (by decide)
    have d4 : w5.cell? ⟨b6, of6 + i * 8 + 4, none⟩ = some (.int .i64 L[i].series) := hc6 4 (by decide)
    have d5 : w5.cell? ⟨b6, of6 + i * 8 + 5, none⟩ = some (.int .i64 L[i].samples) := hc6 5 (by decide)
    have d6 : w5.cell? ⟨b6, of6 + i * 8 + 6, none⟩ = some (.slice af L[i].files.length cf) := hc6 6 (by decide)
    have d7 : w5.cell? ⟨b6, of6 + i * 8 + 7, none⟩ = some (.slice ao L[i].sources.length co) := hc6 7 (by decide)
    have hmm : L[i] ∈ L := List.getElem_mem _
    have hin' : (i : Int) < (L.length : Int) := by omega
    have Hm := Lib.hid (And.intro hmm hid)
    clear hc6 hvs hmm hid
    generalize L[i] = m at d0 d1 d2 d3 d4 d5 d6 d7 Hmv Hm
    have se := set8 (v0 := .string m.id) (v1 := .int .i64 m.mn) (v2 := .int .i64 m.mx) (v3 := .int .i64 m.level) (v4 := .int .i64 m.series) (v5 := .int .i64 m.samples) (v6 := .slice af m.files.length cf) (v7 := .slice ao m.sources.length co) H5.out.1
    have He := Lib.hid (And.intro se H5.out.2)
    clear se hfi hsi hfb
    go_wp2_with fail
    have hc := cells_at He.out.1.1
    have hlr := lt_of_at He.out.1.1
    have Kw := He.out.2.after He.out.1.2 (fun x hx => .inr (by simp only [List.mem_singleton] at hx; omega))
    refine bodyPost_ret (v := .tuple #[.agg #[.string m.id, .int .i64 m.mn, .int .i64 m.mx, .int .i64 m.level, .int .i64 m.series, .int .i64 m.samples, .slice af m.files.length cf, .slice ao m.sources.length co], .bool true]) ?_ rfl ⟨[.string m.id, .int .i64 m.mn, .int .i64 m.mx, .int .i64 m.level, .int .i64 m.series, .int .i64 m.samples, .slice af m.files.length cf, .slice ao m.sources.length co], true, rfl, ⟨fun _ => ⟨m, Hm.out.1, Hm.out.2⟩, fun _ => rfl⟩, fun _ => ⟨m, Hm.out.1, Hm.out.2, Hmv.out.same Kw⟩, Kw⟩
    simp [results, Tryz.results29, go_sem, hc, hlr]
end Go.Proofs.YtjffdcflkkgpfaaGreat
