/-
  The value of a name in a set of pairs: the program's Get and the document's.
  No condition beyond those that each theorem states.

  Does a matcher fit a value: the program's Fits and the document's.
  The matcher is one that may be: kind 1 to 4, at least one value.

  Does a matcher fit a value: the document's Fits.
  The matcher is one that may be: kind 1 to 4, at least one value.

  Do matchers match a set of pairs: the program's Match and the document's.
  Every matcher is one that may be: kind 1 to 4, at least one value.
-/
import Derived.Test.YtlifonflgcfafaaGreatDoorPairs
import Derived.Test.YtlifonflgcfafaaGreatDoorShelfA
namespace Go.Proofs.YtlifonflgcfafaaGreatDoor
open Go Go.RowKit

def getP : List PairB → ByteArray → ByteArray
  | [], _ => ⟨#[]⟩
  | p :: r, x => if p.1 = x then p.2 else getP r x

theorem getP_drop (L : List PairB) (x : ByteArray) (k : Nat) (hk : k < L.length) : getP (L.drop k) x = if L[k].1 = x then L[k].2 else getP (L.drop (k + 1)) x := by
  rw [List.drop_eq_getElem_cons hk]
  rfl

def GetRel (w : World) (L : List PairB) (x : ByteArray) (gk : Nat) (u9 : Value) (wr : World) : Prop := ∃ k, k ≤ L.length ∧ gk = L.length - k ∧ u9 = .int .i64 k ∧ getP (L.drop k) x = getP L x ∧ Keeps [] w wr

set_option linter.unusedSimpArgs false in
set_option maxRecDepth 100000 in
set_option maxHeartbeats 1000000 in
theorem getS_spec (w : World) (v : Value) (L : List PairB) (x : ByteArray) (h : SliceArg 2 encPB w v L) :
    Calls Tryz.prog 87 #[v, .string x] w fun e w' => e = .returned (.string (getP L x)) ∧ Keeps [] w w' := by
  have Hf := Lib.hid h
  obtain ⟨ao, cap, rfl, hl, -⟩ := h
  unfold maxLen at hl
  obtain ⟨R, hR⟩ : ∃ R, R = getP L x := ⟨_, rfl⟩
  rw [← hR]
  have HR := Lib.hid hR
  clear hR
  go_enter Tryz.func87, Tryz.ntmps87
  go_wp2_with fail
  go_loopg [9] L.length (GetRel w L x)
  case atStart => exact ⟨0, Nat.zero_le _, rfl, rfl, by rw [List.drop_zero], Keeps.refl _ _⟩
  case round =>
    obtain ⟨k, hk, hgk, rfl, hget, hkw⟩ := hrel
    have Hg := Lib.hid (And.intro hgk hget)
    clear hgk hget
    by_cases hlt : k < L.length
    · obtain ⟨b, off, cap', ea, hbW, d0, d1⟩ := pair_at (Hf.out.keep hkw) k hlt
      injection ea with ea _ ec
      subst ea ec
      have hlt' : (k : Int) < (L.length : Int) := by omega
      have Hd := Lib.hid (getP_drop L x k hlt)
      obtain ⟨p, hp⟩ : ∃ p, p = L[k] := ⟨_, rfl⟩
      rw [← hp] at d0 d1 Hd
      obtain ⟨p1, p2⟩ := p
      dsimp only at d0 d1 Hd
      have kA : Keeps [] wr (wr.alloc (.cells #[.string p1, .string p2] 138)) := (Keeps.refl [] wr).alloc _
      have Hk := Lib.hid (hkw.trans kA)
      clear hkw hp kA
      by_cases hx : p1 = x
      · subst hx
        go_wp2_with fail
        go_ret
        refine ⟨?_, Hk.out⟩
        have h1 := Hd.out
        rw [if_pos trivial] at h1
        rw [HR.out, ← Hg.out.2, h1]
        rfl
      · have hbb : (p1 == x) = false := by rw [ba_beq]; simpa using hx
        have hbb : (p1.toList == x.toList) = false := by rw [toList_beq]; exact decide_eq_false hx
        have Hx := Lib.hid hx
        clear hx
        go_wp2_with fail
        go_roundg (L.length - (k + 1))
        case measure => have := Hg.out.1; omega
        case rel =>
          refine ⟨k + 1, hlt, rfl, by go_num, ?_, Hk.out⟩
          have h1 := Hd.out
          rw [if_neg Hx.out] at h1
          rw [← h1, Hg.out.2]
    · have hlt' : ¬ (k : Int) < (L.length : Int) := by omega
      have Hk := Lib.hid hkw
      clear hkw
      go_wp2_with fail
      go_ret
      refine ⟨?_, Hk.out⟩
      have h1 := Hg.out.2
      rw [List.drop_of_length_le (by omega)] at h1
      rw [HR.out, ← h1]
      rfl

set_option linter.unusedSimpArgs false in
set_option maxRecDepth 100000 in
set_option maxHeartbeats 1000000 in
theorem getR_spec (w : World) (v : Value) (L : List PairB) (x : ByteArray) (h : SliceArg 2 encPB w v L) :
    Calls Tryz.prog 89 #[v, .string x] w fun e w' => e = .returned (.string (getP L x)) ∧ Keeps [] w w' := by
  have Hf := Lib.hid h
  obtain ⟨ao, cap, rfl, hl, -⟩ := h
  unfold maxLen at hl
  obtain ⟨R, hR⟩ : ∃ R, R = getP L x := ⟨_, rfl⟩
  rw [← hR]
  have HR := Lib.hid hR
  clear hR
  go_enter Tryz.func89, Tryz.ntmps89
  go_wp2_with fail
  go_loopg [9] L.length (GetRel w L x)
  case atStart => exact ⟨0, Nat.zero_le _, rfl, rfl, by rw [List.drop_zero], Keeps.refl _ _⟩
  case round =>
    obtain ⟨k, hk, hgk, rfl, hget, hkw⟩ := hrel
    have Hg := Lib.hid (And.intro hgk hget)
    clear hgk hget
    by_cases hlt : k < L.length
    · obtain ⟨b, off, cap', ea, hbW, d0, d1⟩ := pair_at (Hf.out.keep hkw) k hlt
      injection ea with ea _ ec
      subst ea ec
      have hlt' : (k : Int) < (L.length : Int) := by omega
      have Hd := Lib.hid (getP_drop L x k hlt)
      obtain ⟨p, hp⟩ : ∃ p, p = L[k] := ⟨_, rfl⟩
      rw [← hp] at d0 d1 Hd
      obtain ⟨p1, p2⟩ := p
      dsimp only at d0 d1 Hd
      have kA : Keeps [] wr (wr.alloc (.cells #[.string p1, .string p2] 140)) := (Keeps.refl [] wr).alloc _
      have Hk := Lib.hid (hkw.trans kA)
      clear hkw hp kA
      by_cases hx : p1 = x
      · subst hx
        go_wp2_with fail
        go_ret
        refine ⟨?_, Hk.out⟩
        have h1 := Hd.out
        rw [if_pos trivial] at h1
        rw [HR.out, ← Hg.out.2, h1]
        rfl
      · have hbb : (p1 == x) = false := by rw [ba_beq]; simpa using hx
        have hbb : (p1.toList == x.toList) = false := by rw [toList_beq]; exact decide_eq_false hx
        have Hx := Lib.hid hx
        clear hx
        go_wp2_with fail
        go_roundg (L.length - (k + 1))
        case measure => have := Hg.out.1; omega
        case rel =>
          refine ⟨k + 1, hlt, rfl, by go_num, ?_, Hk.out⟩
          have h1 := Hd.out
          rw [if_neg Hx.out] at h1
          rw [← h1, Hg.out.2]
    · have hlt' : ¬ (k : Int) < (L.length : Int) := by omega
      have Hk := Lib.hid hkw
      clear hkw
      go_wp2_with fail
      go_ret
      refine ⟨?_, Hk.out⟩
      have h1 := Hg.out.2
      rw [List.drop_of_length_le (by omega)] at h1
      rw [HR.out, ← h1]
      rfl
end Go.Proofs.YtlifonflgcfafaaGreatDoor

namespace Go.Proofs.YtlifonflgcfafaaGreatDoor
open Go Go.RowKit

def encS1 (s : ByteArray) : List Value := [.string s]

def fitsB (k : Int) (V : List ByteArray) (x : ByteArray) : Bool :=
  if k = 2 then !(Lib.containsS V x) else if k = 3 then decide (x ≠ ⟨#[]⟩) && Lib.hasPrefix x.data.toList (V.getD 0 ByteArray.empty).data.toList else Lib.containsS V x

theorem texts_at {w : World} {v : Value} {V : List ByteArray} (h : SliceArg 1 encS1 w v V) (hV : 0 < V.length) : ∃ b off cap, v = .slice (some ⟨b, off, none⟩) V.length cap ∧ b < w.heap.size ∧ ∀ j, j < V.length → w.cell? ⟨b, off + j, none⟩ = some (.string (V.getD j ByteArray.empty)) := by
  obtain ⟨ao, cap, e, hl, h⟩ := h
  obtain ⟨b, off, e2, hb, hc⟩ := h 0 hV
  subst e2
  refine ⟨b, off, cap, e, hb, fun j hj => ?_⟩
  obtain ⟨b', off', e3, -, hc'⟩ := h j hj
  injection e3 with e3
  injection e3 with e4 e5 _
  subst e4 e5
  have := hc' 0 (by decide)
  rw [Nat.mul_one, Nat.add_zero] at this
  rw [this, List.getD_eq_getElem?_getD, List.getElem?_eq_getElem hj]
  rfl

set_option linter.unusedSimpArgs false in
set_option maxRecDepth 100000 in
set_option maxHeartbeats 1000000 in
theorem fits_spec (w : World) (k : Int) (hk : k = 1 ∨ k = 2 ∨ k = 3 ∨ k = 4) (name : ByteArray) (v : Value) (V : List ByteArray) (h : SliceArg 1 encS1 w v V) (hV : 0 < V.length) (x : ByteArray) :
    Calls Tryz.prog 66 #[.agg #[.int .i64 k, .string name, v], .string x] w fun e w' => e = .returned (.bool (fitsB k V x)) ∧ Keeps [] w w' := by
  have hml : V.length ≤ 9223372036854775807 := by
    obtain ⟨_, _, _, hl, _⟩ := h
    unfold maxLen at hl
    omega
  obtain ⟨b, off, cap, rfl, hbW, hc⟩ := texts_at h hV
  obtain ⟨R, hR⟩ : ∃ R, R = fitsB k V x := ⟨_, rfl⟩
  rw [← hR]
  have HR := Lib.hid hR
  have kA : Keeps [] w (w.alloc (.cells #[.int .i64 k, .string name, .slice (some ⟨b, off, none⟩) V.length cap] 62)) := (Keeps.refl [] w).alloc _
  have HC := Lib.hid (show ∀ j, j < V.length → (w.alloc (.cells #[.int .i64 k, .string name, .slice (some ⟨b, off, none⟩) V.length cap] 62)).cell? ⟨b, off + j, none⟩ = some (.string (V.getD j ByteArray.empty)) from fun j hj => (kA.cell hbW (by simp)).trans (hc j hj))
  have Hk := Lib.hid kA
  have hv0 : (0 : Int) < (V.length : Int) := by omega
  clear hR hc h kA
  rcases hk with rfl | rfl | rfl | rfl
  all_goals
    go_enter Tryz.func66, Tryz.ntmps66
  · go_wp2_with fail
    refine (Tryz.slices_Contains_string b off V.length cap V x _ (Nat.le_refl _) hml HC.out).mono ?_
    rintro e w1 ⟨rfl, rfl⟩
    rw [List.take_length]
    go_wp2_with fail
    go_ret
    exact ⟨by rw [HR.out]; rfl, Hk.out⟩
  · go_wp2_with fail
    refine (Tryz.slices_Contains_string b off V.length cap V x _ (Nat.le_refl _) hml HC.out).mono ?_
    rintro e w1 ⟨rfl, rfl⟩
    rw [List.take_length]
    go_wp2_with fail
    go_ret
    exact ⟨by rw [HR.out]; rfl, Hk.out⟩
  · have h0 := HC.out 0 hV
    rw [Nat.add_zero] at h0
    have hbA := Hk.out.lt hbW
    by_cases hx : x = ⟨#[]⟩
    · subst hx
      go_wp2_with fail
      go_ret
      exact ⟨by rw [HR.out]; simp [fitsB], Hk.out⟩
    · have hbb : (x.toList == (⟨#[]⟩ : ByteArray).toList) = false := by rw [toList_beq]; exact decide_eq_false hx
      have Hx := Lib.hid hx
      clear hx
      have hne : ¬ x.data.toList = [] := fun e => Hx.out (ba_ext e)
      have hn1 : (x.toList == []) = false := by rw [ByteArray.toList_eq]; simpa using hne
      have hn2 : (x.toList != []) = true := by rw [bne, hn1]; rfl
      have hn3 : ¬ x.toList = [] := by rw [ByteArray.toList_eq]; exact hne
      go_wp2_with fail
      refine (Tryz.strings_HasPrefix x V[0] _).mono ?_
      rintro e w1 ⟨rfl, rfl⟩
      go_wp2_with fail
      go_ret
      refine ⟨?_, Hk.out⟩
      rw [HR.out]
      have hg : V.getD 0 ByteArray.empty = V[0] := by rw [List.getD_eq_getElem?_getD, List.getElem?_eq_getElem hV]; rfl
      show Ending.returned (.bool (Lib.hasPrefix x.data.toList V[0].data.toList)) = _
      unfold fitsB
      rw [if_neg (by decide), if_pos rfl, hg, decide_eq_true Hx.out, Bool.true_and]
  · go_wp2_with fail
    refine (Tryz.slices_Contains_string b off V.length cap V x _ (Nat.le_refl _) hml HC.out).mono ?_
    rintro e w1 ⟨rfl, rfl⟩
    rw [List.take_length]
    go_wp2_with fail
    go_ret
    exact ⟨by rw [HR.out]; rfl, Hk.out⟩
end Go.Proofs.YtlifonflgcfafaaGreatDoor

namespace Go.Proofs.YtlifonflgcfafaaGreatDoor
open Go Go.RowKit

def inB (V : List ByteArray) (x : ByteArray) : Bool := V.any fun v => decide (v = x)

theorem inB_contains (V : List ByteArray) (x : ByteArray) : inB V x = Lib.containsS V x := by
  rw [Bool.eq_iff_iff, Lib.containsS_iff]
  simp [inB]

theorem inB_succ (V : List ByteArray) (x : ByteArray) (k : Nat) (hk : k < V.length) : inB (V.take (k + 1)) x = (inB (V.take k) x || decide (V[k] = x)) := by
  unfold inB
  rw [List.take_add_one, List.getElem?_eq_getElem hk, Option.toList_some, List.any_append]
  simp

theorem hasPrefix_cut (x p : ByteArray) : Lib.hasPrefix x.data.toList p.data.toList = (decide ((p.size : Int) ≤ (x.size : Int)) && decide (x.extract 0 p.size = p)) := by
  rw [Bool.eq_iff_iff]
  unfold Lib.hasPrefix
  rw [List.isPrefixOf_iff_prefix, Bool.and_eq_true, decide_eq_true_eq, decide_eq_true_eq, List.prefix_iff_eq_take]
  constructor
  · intro h
    have hl := congrArg List.length h
    simp only [List.length_take] at hl
    have hs1 : p.data.toList.length = p.size := by simp
    have hs2 : x.data.toList.length = x.size := by simp
    refine ⟨by omega, ba_ext ?_⟩
    rw [h]
    simp [ByteArray.data_extract, Array.toList_extract, List.extract_eq_take_drop]
  · rintro ⟨h1, h2⟩
    have h3 := congrArg (fun s : ByteArray => s.data.toList) h2
    simp only [ByteArray.data_extract, Array.toList_extract, List.extract_eq_take_drop, List.drop_zero, Nat.sub_zero] at h3
    rw [show p.data.toList.length = p.size from by simp]
    exact h3.symm

def FitsRel (w : World) (V : List ByteArray) (x : ByteArray) (gk : Nat) (u5 u12 : Value) (wr : World) : Prop := ∃ k, k ≤ V.length ∧ gk = V.length - k ∧ u5 = .bool (inB (V.take k) x) ∧ u12 = .int .i64 k ∧ wr = w

set_option linter.unusedSimpArgs false in
set_option maxRecDepth 100000 in
set_option maxHeartbeats 1000000 in
theorem fitsR_spec (w : World) (k : Int) (hk : k = 1 ∨ k = 2 ∨ k = 3 ∨ k = 4) (name : ByteArray) (v : Value) (V : List ByteArray) (h : SliceArg 1 encS1 w v V) (hV : 0 < V.length) (x : ByteArray) :
    Calls Tryz.prog 88 #[.agg #[.int .i64 k, .string name, v], .string x] w fun e w' => e = .returned (.bool (fitsB k V x)) ∧ Keeps [] w w' := by
  have hml : V.length ≤ 9223372036854775807 := by
    obtain ⟨_, _, _, hl, _⟩ := h
    unfold maxLen at hl
    omega
  obtain ⟨b, off, cap, rfl, hbW, hc⟩ := texts_at h hV
  obtain ⟨R, hR⟩ : ∃ R, R = fitsB k V x := ⟨_, rfl⟩
  rw [← hR]
  have HR := Lib.hid hR
  have kA : Keeps [] w (w.alloc (.cells #[.int .i64 k, .string name, .slice (some ⟨b, off, none⟩) V.length cap] 113)) := (Keeps.refl [] w).alloc _
  have hp := heap_new w (.cells #[.int .i64 k, .string name, .slice (some ⟨b, off, none⟩) V.length cap] 113)
  have HC := Lib.hid (And.intro (show ∀ j, j < V.length → (w.alloc (.cells #[.int .i64 k, .string name, .slice (some ⟨b, off, none⟩) V.length cap] 113)).cell? ⟨b, off + j, none⟩ = some (.string (V.getD j ByteArray.empty)) from fun j hj => (kA.cell hbW (by simp)).trans (hc j hj)) (And.intro hp (And.intro (kA.lt hbW) kA)))
  have hv0 : (0 : Int) < (V.length : Int) := by omega
  clear hR hc h kA hp
  go_enter Tryz.func88, Tryz.ntmps88
  go_wp2_with fail
  generalize w.heap.size = pk at HC ⊢
  generalize w.alloc (.cells #[.int .i64 k, .string name, .slice (some ⟨b, off, none⟩) V.length cap] 113) = W at HC ⊢
  go_loopg [5, 12] V.length (FitsRel W V x)
  case atStart => exact ⟨0, Nat.zero_le _, rfl, by simp [inB], rfl, rfl⟩
  case round =>
    obtain ⟨j, hj, hgk, rfl, rfl, hw⟩ := hrel
    subst hw
    have Hg := Lib.hid hgk
    clear hgk
    by_cases hlt : j < V.length
    · have d0 := HC.out.1 j hlt
      rw [List.getD_eq_getElem?_getD, List.getElem?_eq_getElem hlt, Option.getD_some] at d0
      have hlt' : (j : Int) < (V.length : Int) := by omega
      have hbR := HC.out.2.2.1
      have Hi := Lib.hid (inB_succ V x j hlt)
      generalize V[j] = y at d0 Hi
      by_cases hin : inB (V.take j) x = true
      · rw [hin]
        rw [hin] at Hi
        have hin2 := Lib.hid hin
        clear hin
        go_wp2_with fail
        go_roundg (V.length - (j + 1))
        case measure => have := Hg.out; omega
        case rel => exact ⟨j + 1, hlt, rfl, by rw [Hi.out]; rfl, by go_num, rfl⟩
      · rw [Bool.not_eq_true] at hin
        rw [hin]
        rw [hin] at Hi
        clear hin
        by_cases hy : y = x
        · subst hy
          go_wp2_with fail
          go_roundg (V.length - (j + 1))
          case measure => have := Hg.out; omega
          case rel => exact ⟨j + 1, hlt, rfl, by rw [Hi.out]; simp, by go_num, rfl⟩
        · have hbb : (y.toList == x.toList) = false := by rw [toList_beq]; exact decide_eq_false hy
          have Hy := Lib.hid hy
          clear hy
          go_wp2_with fail
          go_roundg (V.length - (j + 1))
          case measure => have := Hg.out; omega
          case rel => exact ⟨j + 1, hlt, rfl, by rw [Hi.out, decide_eq_false Hy.out]; rfl, by go_num, rfl⟩
    · have hjn := Lib.hid (show j = V.length from by omega)
      have hlt' : ¬ (j : Int) < (V.length : Int) := by omega
      have e0 : inB (V.take j) x = Lib.containsS V x := by rw [hjn.out, List.take_length, inB_contains]
      rw [e0]
      have HE := Lib.hid e0
      clear e0
      have c0 : wr.cell? ⟨pk, 0, none⟩ = some (.int .i64 k) := cells_at HC.out.2.1 0
      have c2 : wr.cell? ⟨pk, 2, none⟩ = some (.slice (some ⟨b, off, none⟩) V.length cap) := cells_at HC.out.2.1 2
      rcases hk with rfl | rfl | rfl | rfl
      · go_wp2_with fail
        go_ret
        exact ⟨by rw [HR.out]; rfl, HC.out.2.2.2⟩
      · go_wp2_with fail
        go_ret
        exact ⟨by rw [HR.out]; rfl, HC.out.2.2.2⟩
      · have d0 := HC.out.1 0 hV
        rw [Nat.add_zero] at d0
        have hbR := HC.out.2.2.1
        have Hpre := Lib.hid (hasPrefix_cut x (V.getD 0 ByteArray.empty))
        have HR3 := Lib.hid (HR.out.trans (show fitsB 3 V x = (decide (x ≠ ⟨#[]⟩) && Lib.hasPrefix x.data.toList (V.getD 0 ByteArray.empty).data.toList) from by unfold fitsB; rw [if_neg (by decide), if_pos rfl]))
        generalize V.getD 0 ByteArray.empty = p at d0 Hpre HR3
        clear HR
        by_cases hx : x = ⟨#[]⟩
        · subst hx
          go_wp2_with fail
          go_ret
          exact ⟨by rw [HR3.out]; simp, HC.out.2.2.2⟩
        · have Hx := Lib.hid hx
          clear hx
          have hne : ¬ x.data.toList = [] := fun e => Hx.out (ba_ext e)
          have hn1 : (x.toList == []) = false := by rw [ByteArray.toList_eq]; simpa using hne
          have hn2 : (x.toList != []) = true := by rw [bne, hn1]; rfl
          have hn3 : ¬ x.toList = [] := by rw [ByteArray.toList_eq]; exact hne
          by_cases hsz : (p.size : Int) ≤ (x.size : Int)
          · have hszn : p.size ≤ x.size := by omega
            by_cases hpe : x.extract 0 p.size = p
            · have hbb : ((x.extract 0 p.size).toList == p.toList) = true := by rw [toList_beq]; exact decide_eq_true hpe
              have Hpe := Lib.hid hpe
              clear hpe
              go_wp2_with fail
              go_ret
              exact ⟨by rw [HR3.out, Hpre.out, decide_eq_true Hx.out, decide_eq_true hsz, decide_eq_true Hpe.out]; rfl, HC.out.2.2.2⟩
            · have hbb : ((x.extract 0 p.size).toList == p.toList) = false := by rw [toList_beq]; exact decide_eq_false hpe
              have Hpe := Lib.hid hpe
              clear hpe
              go_wp2_with fail
              go_ret
              exact ⟨by rw [HR3.out, Hpre.out, decide_eq_true Hx.out, decide_eq_true hsz, decide_eq_false Hpe.out]; rfl, HC.out.2.2.2⟩
          · go_wp2_with fail
            go_ret
            exact ⟨by rw [HR3.out, Hpre.out, decide_eq_true Hx.out, decide_eq_false (show ¬ (p.size : Int) ≤ (x.size : Int) from by omega)]; rfl, HC.out.2.2.2⟩
      · go_wp2_with fail
        go_ret
        exact ⟨by rw [HR.out]; rfl, HC.out.2.2.2⟩
end Go.Proofs.YtlifonflgcfafaaGreatDoor

namespace Go.Proofs.YtlifonflgcfafaaGreatDoor
open Go Go.RowKit

/-- A matcher: its kind, its name, its values. -/
abbrev MatB := Int × ByteArray × List ByteArray

abbrev MatV := Int × ByteArray × Value

def encMV (m : MatV) : List Value := [.int .i64 m.1, .string m.2.1, m.2.2]

/-- The slice v holds the matchers L. -/
def MatsAt (w : World) (v : Value) (L : List MatB) : Prop :=
  ∃ E : List MatV, SliceArg 3 encMV w v E ∧ E.length = L.length ∧ ∀ i (h : i < E.length) (h' : i < L.length), E[i].1 = L[i].1 ∧ E[i].2.1 = L[i].2.1 ∧ SliceArg 1 encS1 w E[i].2.2 L[i].2.2

theorem MatsAt.keep {w w' : World} {v : Value} {L : List MatB} (h : MatsAt w v L) (k : Keeps [] w w') : MatsAt w' v L := by
  obtain ⟨E, h1, h2, h3⟩ := h
  exact ⟨E, h1.keep k, h2, fun i hi hi' => ⟨(h3 i hi hi').1, (h3 i hi hi').2.1, (h3 i hi hi').2.2.keep k⟩⟩

theorem MatsAt.form {w : World} {v : Value} {L : List MatB} (h : MatsAt w v L) : ∃ ao cap, v = .slice ao L.length cap ∧ L.length ≤ maxLen := by
  obtain ⟨E, ⟨ao, cap, e, hl, -⟩, h2, -⟩ := h
  exact ⟨ao, cap, by rw [e, h2], by omega⟩

theorem MatsAt.at_ {w : World} {v : Value} {L : List MatB} (h : MatsAt w v L) (k : Nat) (hk : k < L.length) : ∃ b off cap u, v = .slice (some ⟨b, off, none⟩) L.length cap ∧ b < w.heap.size ∧
    w.cell? ⟨b, off + k * 3, none⟩ = some (.int .i64 L[k].1) ∧ w.cell? ⟨b, off + k * 3 + 1, none⟩ = some (.string L[k].2.1) ∧ w.cell? ⟨b, off + k * 3 + 2, none⟩ = some u ∧ SliceArg 1 encS1 w u L[k].2.2 := by
  obtain ⟨E, ⟨ao, cap, e, hl, hc⟩, h2, h3⟩ := h
  have hk' : k < E.length := by omega
  obtain ⟨b, off, e2, hb, hcell⟩ := hc k hk'
  obtain ⟨x1, x2, x3⟩ := h3 k hk' hk
  subst e2
  refine ⟨b, off, cap, E[k].2.2, by rw [e, h2], hb, ?_, ?_, ?_, x3⟩
  · rw [← x1]; exact hcell 0 (by decide)
  · rw [← x2]; have := hcell 1 (by decide); rw [← Nat.add_assoc] at this; exact this
  · have := hcell 2 (by decide); rw [← Nat.add_assoc] at this; exact this

def mayK (m : MatB) : Prop := (m.1 = 1 ∨ m.1 = 2 ∨ m.1 = 3 ∨ m.1 = 4) ∧ 0 < m.2.2.length

def fitsM (S : List PairB) (m : MatB) : Bool := fitsB m.1 m.2.2 (getP S m.2.1)

def MatchRel (w : World) (S : List PairB) (L : List MatB) (gk : Nat) (u9 : Value) (wr : World) : Prop := ∃ k, k ≤ L.length ∧ gk = L.length - k ∧ u9 = .int .i64 k ∧ (L.take k).all (fitsM S) = true ∧ Keeps [] w wr

set_option linter.unusedSimpArgs false in
set_option maxRecDepth 100000 in
set_option maxHeartbeats 1000000 in
theorem match_spec (w : World) (vs vm : Value) (S : List PairB) (L : List MatB) (hS : SliceArg 2 encPB w vs S) (hm : MatsAt w vm L) (hmay : ∀ m ∈ L, mayK m) :
    Calls Tryz.prog 51 #[vs, vm] w fun e w' => e = .returned (.bool (L.all (fitsM S))) ∧ Keeps [] w w' := by
  have Hf := Lib.hid (And.intro hS hm)
  obtain ⟨ao, cap, rfl, hl⟩ := hm.form
  unfold maxLen at hl
  clear hS hm
  obtain ⟨R, hR⟩ : ∃ R, R = L.all (fitsM S) := ⟨_, rfl⟩
  rw [← hR]
  have HR := Lib.hid hR
  clear hR
  go_enter Tryz.func51, Tryz.ntmps51
  go_wp2_with fail
  go_loopg [9] L.length (MatchRel w S L)
  case atStart => exact ⟨0, Nat.zero_le _, rfl, rfl, rfl, Keeps.refl _ _⟩
  case round =>
    obtain ⟨k, hk, hgk, rfl, hall, hkw⟩ := hrel
    have Hg := Lib.hid (And.intro hgk hall)
    clear hgk hall
    by_cases hlt : k < L.length
    · obtain ⟨b, off, cap', u, ea, hbW, d0, d1, d2, hu⟩ := (Hf.out.2.keep hkw).at_ k hlt
      injection ea with ea _ ec
      subst ea ec
      have hlt' : (k : Int) < (L.length : Int) := by omega
      have hmk := hmay L[k] (List.getElem_mem hlt)
      obtain ⟨m, hmm⟩ : ∃ m, m = L[k] := ⟨_, rfl⟩
      rw [← hmm] at d0 d1 hu hmk
      have Hm := Lib.hid hmm
      obtain ⟨mk, mn, mv⟩ := m
      dsimp only at d0 d1 hu hmk
      obtain ⟨W0, hW0⟩ : ∃ W0, W0 = (wr.alloc (.cells #[.int .i64 mk, .string mn, u] 62)).drew := ⟨_, rfl⟩
      have kW : Keeps [] wr W0 := by rw [hW0]; exact ((Keeps.refl [] wr).alloc _).drew
      have hp : W0.heap[wr.heap.size]? = some (.cells #[.int .i64 mk, .string mn, u] 62 (0, 0)) := by rw [hW0]; exact heap_new wr (.cells #[.int .i64 mk, .string mn, u] 62)
      have Hu := Lib.hid (And.intro (hu.keep kW) (And.intro hmk (And.intro (hkw.trans kW) ((Hf.out.1.keep hkw).keep kW))))
      obtain ⟨ua, uc, rfl, -, -⟩ := hu
      have D0 : ∀ s : Kept W0, s.val.cell? ⟨wr.heap.size, 0, none⟩ = some (.int .i64 mk) := keptCell (cells_at hp 0)
      have D1 : ∀ s : Kept W0, s.val.cell? ⟨wr.heap.size, 1, none⟩ = some (.string mn) := keptCell (cells_at hp 1)
      have D2 : ∀ s : Kept W0, s.val.cell? ⟨wr.heap.size, 2, none⟩ = some (.slice ua mv.length uc) := keptCell (cells_at hp 2)
      have HW := Lib.hid hW0
      clear hkw kW hp hW0 hmm hmk
      go_upto_region 4 with fail
      refine wp_region_held_drew (S := KeptS W0) (by kernel_rfl) (by rw [← HW.out]; exact keptS (Keeps.refl _ _)) (fun hS => ?_)
      rw [← HW.out] at hS ⊢
      generalize wr.heap.size = pk at D0 D1 D2 ⊢
      clear d0 d1 d2 HW
      refine wpAnyH_take (i := 0) (v := ?_) rfl (by kernel_rfl) (by kernel_rfl) (by kernel_rfl) (fun _ _ _ h => h) (Or.inl ⟨by rfl, ?_⟩) (by assumption) ?_
      rotate_left
      · intro w' s1; obtain ⟨s, rfl⟩ := s1; go_simp; (try with_reducible rfl)
      simp only [Act.put, List.getElem_toArray, List.getElem_cons_succ, List.getElem_cons_zero, List.setIfInBounds_toArray, List.set_cons_zero, List.set_cons_succ]
      refine wpAnyH_take (i := 1) (v := ?_) rfl (by kernel_rfl) (by kernel_rfl) (by kernel_rfl) (fun _ _ _ h => h) (Or.inl ⟨by rfl, ?_⟩) (by assumption) ?_
      rotate_left
      · intro w' s1; obtain ⟨s, rfl⟩ := s1; go_simp; (try with_reducible rfl)
      simp only [Act.put, List.getElem_toArray, List.getElem_cons_succ, List.getElem_cons_zero, List.setIfInBounds_toArray, List.set_cons_zero, List.set_cons_succ]
      refine wpAnyH_take (i := 2) (v := ?_) rfl (by kernel_rfl) (by kernel_rfl) (by kernel_rfl) (fun _ _ _ h => h) (Or.inl ⟨by rfl, ?_⟩) (by assumption) ?_
      rotate_left
      · intro w' s1; obtain ⟨s, rfl⟩ := s1; go_simp; (try with_reducible rfl)
      simp only [Act.put, List.getElem_toArray, List.getElem_cons_succ, List.getElem_cons_zero, List.setIfInBounds_toArray, List.set_cons_zero, List.set_cons_succ]
      refine wpAnyH_take (i := 3) (v := ?_) rfl (by kernel_rfl) (by kernel_rfl) (by kernel_rfl) (fun _ _ _ h => h) (Or.inl ⟨by rfl, ?_⟩) (by assumption) ?_
      rotate_left
      · intro w' s1; obtain ⟨s, rfl⟩ := s1; go_simp; (try with_reducible rfl)
      simp only [Act.put, List.getElem_toArray, List.getElem_cons_succ, List.getElem_cons_zero, List.setIfInBounds_toArray, List.set_cons_zero, List.set_cons_succ]
      refine wpAnyH_ready (rs := [4]) (by kernel_rfl) (by simp) ?_
      refine AllReadyH.cons rfl (fun K hK => ?_) AllReadyH.nil
      go_simp
      go_at_call 87
      refine (getS_spec W0 _ S mn Hu.out.2.2.2).mono ?_
      rintro e A1 ⟨rfl, kA1⟩
      go_simp
      refine hK.out _ _ (keptS kA1) (fun hS => ?_)
      clear hK K
      try simp only [Act.put, List.getElem_toArray, List.getElem_cons_succ, List.getElem_cons_zero, List.setIfInBounds_toArray, List.set_cons_zero, List.set_cons_succ]
      refine wpAnyH_ready (rs := [5]) (by kernel_rfl) (by simp) ?_
      refine AllReadyH.cons rfl (fun K hK => ?_) AllReadyH.nil
      go_simp
      go_at_call 66
      refine (fits_spec A1 mk Hu.out.2.1.1 mn _ mv (Hu.out.1.keep kA1) Hu.out.2.1.2 (getP S mn)).mono ?_
      rintro e A2 ⟨rfl, kA2⟩
      have kA12 := kA1.trans kA2
      have Hk := Lib.hid (Hu.out.2.2.1.trans kA12)
      go_simp
      refine hK.out _ _ (keptS kA12) (fun hS => ?_)
      clear hK K
      try simp only [Act.put, List.getElem_toArray, List.getElem_cons_succ, List.getElem_cons_zero, List.setIfInBounds_toArray, List.set_cons_zero, List.set_cons_succ]
      refine wpAnyH_take (i := 6) (v := ?_) rfl (by kernel_rfl) (by kernel_rfl) (by kernel_rfl) (fun _ _ _ h => h) (Or.inl ⟨by rfl, ?_⟩) (by assumption) ?_
      rotate_left
      · intro w' s1; obtain ⟨s, rfl⟩ := s1; go_simp; (try with_reducible rfl)
      simp only [Act.put, List.getElem_toArray, List.getElem_cons_succ, List.getElem_cons_zero, List.setIfInBounds_toArray, List.set_cons_zero, List.set_cons_succ]
      refine wpAnyH_done (by kernel_rfl) ?_ _
      have Hfit := Lib.hid (show fitsB mk mv (getP S mn) = fitsM S L[k] from by rw [← Hm.out]; rfl)
      have Hsp := Lib.hid (show (L.take (k + 1)).all (fitsM S) = ((L.take k).all (fitsM S) && fitsM S L[k]) from by rw [List.take_add_one, List.getElem?_eq_getElem hlt, Option.toList_some, List.all_append]; simp)
      have Hall := Lib.hid (show fitsM S L[k] = false → L.all (fitsM S) = false from fun h => by
        rw [List.all_eq_false]
        exact ⟨L[k], List.getElem_mem hlt, by rw [h]; decide⟩)
      generalize fitsB mk mv (getP S mn) = ft at Hfit ⊢
      clear kA1 kA2 kA12 hS D0 D1 D2
      cases ft with
      | false =>
        go_wp2_with fail
        go_ret
        exact ⟨by rw [HR.out, Hall.out Hfit.out.symm]; rfl, Hk.out⟩
      | true =>
        go_wp2_with fail
        go_roundg (L.length - (k + 1))
        case measure => have := Hg.out.1; omega
        case rel => exact ⟨k + 1, hlt, rfl, by go_num, by rw [Hsp.out, Hg.out.2, ← Hfit.out]; rfl, Hk.out⟩
    · have hjn := Lib.hid (show k = L.length from by omega)
      have hlt' : ¬ (k : Int) < (L.length : Int) := by omega
      have Hk := Lib.hid hkw
      clear hkw
      go_wp2_with fail
      go_ret
      refine ⟨?_, Hk.out⟩
      have h1 := Hg.out.2
      rw [hjn.out, List.take_length] at h1
      rw [HR.out, h1]
      rfl

set_option linter.unusedSimpArgs false in
set_option maxRecDepth 100000 in
set_option maxHeartbeats 1000000 in
theorem matchR_spec (w : World) (vs vm : Value) (S : List PairB) (L : List MatB) (hS : SliceArg 2 encPB w vs S) (hm : MatsAt w vm L) (hmay : ∀ m ∈ L, mayK m) :
    Calls Tryz.prog 52 #[vs, vm] w fun e w' => e = .returned (.bool (L.all (fitsM S))) ∧ Keeps [] w w' := by
  have Hf := Lib.hid (And.intro hS hm)
  obtain ⟨ao, cap, rfl, hl⟩ := hm.form
  unfold maxLen at hl
  clear hS hm
  obtain ⟨R, hR⟩ : ∃ R, R = L.all (fitsM S) := ⟨_, rfl⟩
  rw [← hR]
  have HR := Lib.hid hR
  clear hR
  go_enter Tryz.func52, Tryz.ntmps52
  go_wp2_with fail
  go_loopg [9] L.length (MatchRel w S L)
  case atStart => exact ⟨0, Nat.zero_le _, rfl, rfl, rfl, Keeps.refl _ _⟩
  case round =>
    obtain ⟨k, hk, hgk, rfl, hall, hkw⟩ := hrel
    have Hg := Lib.hid (And.intro hgk hall)
    clear hgk hall
    by_cases hlt : k < L.length
    · obtain ⟨b, off, cap', u, ea, hbW, d0, d1, d2, hu⟩ := (Hf.out.2.keep hkw).at_ k hlt
      injection ea with ea _ ec
      subst ea ec
      have hlt' : (k : Int) < (L.length : Int) := by omega
      have hmk := hmay L[k] (List.getElem_mem hlt)
      obtain ⟨m, hmm⟩ : ∃ m, m = L[k] := ⟨_, rfl⟩
      rw [← hmm] at d0 d1 hu hmk
      have Hm := Lib.hid hmm
      obtain ⟨mk, mn, mv⟩ := m
      dsimp only at d0 d1 hu hmk
      obtain ⟨W0, hW0⟩ : ∃ W0, W0 = (wr.alloc (.cells #[.int .i64 mk, .string mn, u] 113)).drew := ⟨_, rfl⟩
      have kW : Keeps [] wr W0 := by rw [hW0]; exact ((Keeps.refl [] wr).alloc _).drew
      have hp : W0.heap[wr.heap.size]? = some (.cells #[.int .i64 mk, .string mn, u] 113 (0, 0)) := by rw [hW0]; exact heap_new wr (.cells #[.int .i64 mk, .string mn, u] 113)
      have Hu := Lib.hid (And.intro (hu.keep kW) (And.intro hmk (And.intro (hkw.trans kW) ((Hf.out.1.keep hkw).keep kW))))
      obtain ⟨ua, uc, rfl, -, -⟩ := hu
      have D0 : ∀ s : Kept W0, s.val.cell? ⟨wr.heap.size, 0, none⟩ = some (.int .i64 mk) := keptCell (cells_at hp 0)
      have D1 : ∀ s : Kept W0, s.val.cell? ⟨wr.heap.size, 1, none⟩ = some (.string mn) := keptCell (cells_at hp 1)
      have D2 : ∀ s : Kept W0, s.val.cell? ⟨wr.heap.size, 2, none⟩ = some (.slice ua mv.length uc) := keptCell (cells_at hp 2)
      have HW := Lib.hid hW0
      clear hkw kW hp hW0 hmm hmk
      go_upto_region 4 with fail
      refine wp_region_held_drew (S := KeptS W0) (by kernel_rfl) (by rw [← HW.out]; exact keptS (Keeps.refl _ _)) (fun hS => ?_)
      rw [← HW.out] at hS ⊢
      generalize wr.heap.size = pk at D0 D1 D2 ⊢
      clear d0 d1 d2 HW
      refine wpAnyH_take (i := 0) (v := ?_) rfl (by kernel_rfl) (by kernel_rfl) (by kernel_rfl) (fun _ _ _ h => h) (Or.inl ⟨by rfl, ?_⟩) (by assumption) ?_
      rotate_left
      · intro w' s1; obtain ⟨s, rfl⟩ := s1; go_simp; (try with_reducible rfl)
      simp only [Act.put, List.getElem_toArray, List.getElem_cons_succ, List.getElem_cons_zero, List.setIfInBounds_toArray, List.set_cons_zero, List.set_cons_succ]
      refine wpAnyH_take (i := 1) (v := ?_) rfl (by kernel_rfl) (by kernel_rfl) (by kernel_rfl) (fun _ _ _ h => h) (Or.inl ⟨by rfl, ?_⟩) (by assumption) ?_
      rotate_left
      · intro w' s1; obtain ⟨s, rfl⟩ := s1; go_simp; (try with_reducible rfl)
      simp only [Act.put, List.getElem_toArray, List.getElem_cons_succ, List.getElem_cons_zero, List.setIfInBounds_toArray, List.set_cons_zero, List.set_cons_succ]
      refine wpAnyH_take (i := 2) (v := ?_) rfl (by kernel_rfl) (by kernel_rfl) (by kernel_rfl) (fun _ _ _ h => h) (Or.inl ⟨by rfl, ?_⟩) (by assumption) ?_
      rotate_left
      · intro w' s1; obtain ⟨s, rfl⟩ := s1; go_simp; (try with_reducible rfl)
      simp only [Act.put, List.getElem_toArray, List.getElem_cons_succ, List.getElem_cons_zero, List.setIfInBounds_toArray, List.set_cons_zero, List.set_cons_succ]
      refine wpAnyH_take (i := 3) (v := ?_) rfl (by kernel_rfl) (by kernel_rfl) (by kernel_rfl) (fun _ _ _ h => h) (Or.inl ⟨by rfl, ?_⟩) (by assumption) ?_
      rotate_left
      · intro w' s1; obtain ⟨s, rfl⟩ := s1; go_simp; (try with_reducible rfl)
      simp only [Act.put, List.getElem_toArray, List.getElem_cons_succ, List.getElem_cons_zero, List.setIfInBounds_toArray, List.set_cons_zero, List.set_cons_succ]
      refine wpAnyH_ready (rs := [4]) (by kernel_rfl) (by simp) ?_
      refine AllReadyH.cons rfl (fun K hK => ?_) AllReadyH.nil
      go_simp
      go_at_call 89
      refine (getR_spec W0 _ S mn Hu.out.2.2.2).mono ?_
      rintro e A1 ⟨rfl, kA1⟩
      go_simp
      refine hK.out _ _ (keptS kA1) (fun hS => ?_)
      clear hK K
      try simp only [Act.put, List.getElem_toArray, List.getElem_cons_succ, List.getElem_cons_zero, List.setIfInBounds_toArray, List.set_cons_zero, List.set_cons_succ]
      refine wpAnyH_ready (rs := [5]) (by kernel_rfl) (by simp) ?_
      refine AllReadyH.cons rfl (fun K hK => ?_) AllReadyH.nil
      go_simp
      go_at_call 88
      refine (fitsR_spec A1 mk Hu.out.2.1.1 mn _ mv (Hu.out.1.keep kA1) Hu.out.2.1.2 (getP S mn)).mono ?_
      rintro e A2 ⟨rfl, kA2⟩
      have kA12 := kA1.trans kA2
      have Hk := Lib.hid (Hu.out.2.2.1.trans kA12)
      go_simp
      refine hK.out _ _ (keptS kA12) (fun hS => ?_)
      clear hK K
      try simp only [Act.put, List.getElem_toArray, List.getElem_cons_succ, List.getElem_cons_zero, List.setIfInBounds_toArray, List.set_cons_zero, List.set_cons_succ]
      refine wpAnyH_take (i := 6) (v := ?_) rfl (by kernel_rfl) (by kernel_rfl) (by kernel_rfl) (fun _ _ _ h => h) (Or.inl ⟨by rfl, ?_⟩) (by assumption) ?_
      rotate_left
      · intro w' s1; obtain ⟨s, rfl⟩ := s1; go_simp; (try with_reducible rfl)
      simp only [Act.put, List.getElem_toArray, List.getElem_cons_succ, List.getElem_cons_zero, List.setIfInBounds_toArray, List.set_cons_zero, List.set_cons_succ]
      refine wpAnyH_done (by kernel_rfl) ?_ _
      have Hfit := Lib.hid (show fitsB mk mv (getP S mn) = fitsM S L[k] from by rw [← Hm.out]; rfl)
      have Hsp := Lib.hid (show (L.take (k + 1)).all (fitsM S) = ((L.take k).all (fitsM S) && fitsM S L[k]) from by rw [List.take_add_one, List.getElem?_eq_getElem hlt, Option.toList_some, List.all_append]; simp)
      have Hall := Lib.hid (show fitsM S L[k] = false → L.all (fitsM S) = false from fun h => by
        rw [List.all_eq_false]
        exact ⟨L[k], List.getElem_mem hlt, by rw [h]; decide⟩)
      generalize fitsB mk mv (getP S mn) = ft at Hfit ⊢
      clear kA1 kA2 kA12 hS D0 D1 D2
      cases ft with
      | false =>
        go_wp2_with fail
        go_ret
        exact ⟨by rw [HR.out, Hall.out Hfit.out.symm]; rfl, Hk.out⟩
      | true =>
        go_wp2_with fail
        go_roundg (L.length - (k + 1))
        case measure => have := Hg.out.1; omega
        case rel => exact ⟨k + 1, hlt, rfl, by go_num, by rw [Hsp.out, Hg.out.2, ← Hfit.out]; rfl, Hk.out⟩
    · have hjn := Lib.hid (show k = L.length from by omega)
      have hlt' : ¬ (k : Int) < (L.length : Int) := by omega
      have Hk := Lib.hid hkw
      clear hkw
      go_wp2_with fail
      go_ret
      refine ⟨?_, Hk.out⟩
      have h1 := Hg.out.2
      rw [hjn.out, List.take_length] at h1
      rw [HR.out, h1]
      rfl
end Go.Proofs.YtlifonflgcfafaaGreatDoor
