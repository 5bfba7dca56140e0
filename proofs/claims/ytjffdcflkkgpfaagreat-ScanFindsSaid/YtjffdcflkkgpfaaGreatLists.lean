/-
  Is a text among some (slices.Index, slices.Contains), is a block a source (package meta): Lists. Which blocks are live, in plain words.
  No condition beyond those that each theorem states.

  Two metas of the document's that are the same (package barographref09): Same. Metas against the document's (package barographlaw10): metas, has.
  Their lists are few.

  Metas against the document's (package barographlaw10): metas answers true where both are the same.
  They are few, each of few files.

  Is a block among the document's (has), is a listing the document's (Is; package barographlaw10).
  They are few, each of few files.
-/
import Derived.Test.YtjffdcflkkgpfaaGreatLstLaw
namespace Go.Proofs.YtjffdcflkkgpfaaGreat
open Go Go.RowKit Go.Conc
open Go.Op (bytesLess)

def hasB (S : List ByteArray) (id : ByteArray) : Bool := S.any fun x => decide (x = id)

theorem hasB_iff {S : List ByteArray} {id : ByteArray} : hasB S id = true ↔ id ∈ S := by
  simp [hasB]

def IndexPost (w : World) (S : List ByteArray) (id : ByteArray) (e : Ending) (w' : World) : Prop := ∃ n : Int, e = .returned (.int .i64 n) ∧ (0 ≤ n ↔ id ∈ S) ∧ w = w'

def IndexRel (w : World) (S : List ByteArray) (id : ByteArray) (gk : Nat) (u : Value) (wr : World) : Prop := ∃ k, k ≤ S.length ∧ gk = S.length - k ∧ u = .int .i64 k ∧ (∀ i (h : i < S.length), i < k → S[i] ≠ id) ∧ w = wr



/-! Which are live -/
theorem made_count (L : List MetaS) (s : ByteArray) : (look (madeM L) s).getD 0 = ((L.flatMap (·.sources)).filter fun x => decide (x = s)).length := by
  unfold madeM
  rw [inc_count s _ [] (by simp [look])]
  simp [look]

theorem mem_live {L : List MetaS} {m : MetaS} : m ∈ liveL L ↔ m ∈ L ∧ ∀ z ∈ L, m.id ∉ z.sources := by
  unfold liveL aliveB
  rw [List.mem_filter, decide_eq_true_eq, made_count]
  refine and_congr_right fun _ => ?_
  constructor
  · intro h z hz hm
    have h0 : ((L.flatMap (·.sources)).filter fun x => decide (x = m.id)) = [] := List.eq_nil_of_length_eq_zero (by omega)
    have : m.id ∈ (L.flatMap (·.sources)).filter fun x => decide (x = m.id) := List.mem_filter.2 ⟨List.mem_flatMap.2 ⟨z, hz, hm⟩, by simp⟩
    rw [h0] at this
    cases this
  · intro h
    have : ((L.flatMap (·.sources)).filter fun x => decide (x = m.id)) = [] := by
      rw [List.filter_eq_nil_iff]
      intro x hx e
      obtain ⟨z, hz, hm⟩ := List.mem_flatMap.1 hx
      simp only [decide_eq_true_eq] at e
      rw [e] at hm
      exact h z hz hm
    rw [this]
    rfl

def cntM (I : List ByteArray) : PartsM := I.foldl incM []

theorem cntM_snoc {Q : List MetaS} {k : Nat} (h : k < Q.length) : cntM ((Q.take (k + 1)).map (·.id)) = put (cntM ((Q.take k).map (·.id))) Q[k].id ((look (cntM ((Q.take k).map (·.id))) Q[k].id).getD 0 + 1) := by
  unfold cntM
  rw [List.take_succ_eq_append_getElem h, List.map_append, List.foldl_append]
  rfl

theorem cntM_le (I : List ByteArray) (s : ByteArray) : 0 ≤ (look (cntM I) s).getD 0 ∧ (look (cntM I) s).getD 0 ≤ I.length := inc_le I s

/-- Each live block was counted once. -/
theorem live_once {L : List MetaS} (hn : (L.map (·.id)).Nodup) {m : MetaS} (hm : m ∈ L) : ((look (cntM ((liveL L).map (·.id))) m.id).getD 0 == (1 : Int)) = ((look (madeM L) m.id).getD 0 == (0 : Int)) := by
  have h1 : (look (cntM ((liveL L).map (·.id))) m.id).getD 0 = (((liveL L).map (·.id)).filter fun x => decide (x = m.id)).length := by
    unfold cntM
    rw [inc_count m.id _ [] (by simp [look])]
    simp [look]
  have hnl : ((liveL L).map (·.id)).Nodup := hn.sublist ((List.filter_sublist).map _)
  rw [h1, Bool.eq_iff_iff, beq_iff_eq, beq_iff_eq]
  have hcount : (((liveL L).map (·.id)).filter fun x => decide (x = m.id)).length = if hasB ((liveL L).map (·.id)) m.id = true then 1 else 0 := by
    generalize (liveL L).map (·.id) = I at hnl
    induction I with
    | nil => rfl
    | cons x I ih =>
      rw [List.nodup_cons] at hnl
      have := ih hnl.2
      by_cases e : x = m.id
      · subst e
        have h0 : (I.filter fun y => decide (y = m.id)).length = 0 := by rw [this, if_neg (fun h => hnl.1 (hasB_iff.1 h))]
        simp [h0, hasB]
      · have e3 : hasB (x :: I) m.id = hasB I m.id := by simp [hasB, e]
        rw [e3, ← this]
        simp [e]
  rw [hcount]
  have hiff : hasB ((liveL L).map (·.id)) m.id = true ↔ (look (madeM L) m.id).getD 0 = 0 := by
    rw [hasB_iff, List.mem_map]
    constructor
    · rintro ⟨x, hx, e⟩
      have := (List.mem_filter.1 hx).2
      unfold aliveB at this
      rw [decide_eq_true_eq, e] at this
      exact this
    · intro h
      exact ⟨m, List.mem_filter.2 ⟨hm, by unfold aliveB; exact decide_eq_true h⟩, rfl⟩
  by_cases h : hasB ((liveL L).map (·.id)) m.id = true
  · rw [if_pos h]
    simp [hiff.1 h]
  · rw [if_neg h]
    have : ¬ (look (madeM L) m.id).getD 0 = 0 := fun e => h (hiff.2 e)
    simp [this]

/-- What is not a map stays while a map turns. -/
theorem SliceFrom.keepMap {α : Type} {B size : Nat} {enc : α → List Value} {w w' : World} {v : Value} {L : List α} {mb : Nat} {kv : KV} (h : SliceFrom B size enc w v L) (hs : 0 < size) (he : ∀ x ∈ L, size ≤ (enc x).length) (hm : MapAt w mb kv) (k : Keeps [mb] w w') : SliceFrom B size enc w' v L := by
  obtain ⟨ao, cap, e, hl, hc, hn, h⟩ := h
  refine ⟨ao, cap, e, hl, hc, hn, fun i hi => ?_⟩
  obtain ⟨b, off, e2, hb, hlt, hcell⟩ := h i hi
  have hbm : b ∉ [mb] := fun hx => by
    simp only [List.mem_singleton] at hx
    subst hx
    have h0 := hcell 0 hs
    rw [List.getElem?_eq_getElem (by have := he L[i] (List.getElem_mem _); omega)] at h0
    obtain ⟨E, c, hh, -⟩ := hm
    simp [World.cell?, hh] at h0
  exact ⟨b, off, e2, hb, k.lt hlt, fun j hj => (k.cell hlt hbm).trans (hcell j hj)⟩

theorem MetasV.keepMap {B : Nat} {w w' : World} {v : Value} {L : List MetaS} {mb : Nat} {kv : KV} (h : MetasV B w v L) (hm : MapAt w mb kv) (k : Keeps [mb] w w') : MetasV B w' v L := by
  obtain ⟨VS, h1, h2, h3⟩ := h
  have hlen : ∀ vs ∈ VS, 8 ≤ (id vs).length := fun vs hvs => by
    obtain ⟨i, hi, rfl⟩ := List.mem_iff_getElem.1 hvs
    obtain ⟨_, _, e, _⟩ := h3 i hi (by omega)
    rw [e]
    exact Nat.le_refl _
  refine ⟨VS, h1.keepMap (by decide) hlen hm k, h2, fun i hi hi' => ?_⟩
  obtain ⟨vf, vo, e, hf, ho⟩ := h3 i hi hi'
  exact ⟨vf, vo, e, hf.keepMap (by decide) (fun _ _ => Nat.le_refl _) hm k, ho.keepMap (by decide) (fun _ _ => Nat.le_refl _) hm k⟩

/-- An element of a slice of metas, its cells one by one. -/
theorem MetasV.elem {B : Nat} {w : World} {a : Option Addr} {n c : Nat} {L : List MetaS} (h : MetasV B w (.slice a n c) L) (k : Nat) (hk : k < L.length) :
    ∃ b off af cf ao co, a = some ⟨b, off, none⟩ ∧ b < w.heap.size ∧ MetaV B w [.string L[k].id, .int .i64 L[k].mn, .int .i64 L[k].mx, .int .i64 L[k].level, .int .i64 L[k].series, .int .i64 L[k].samples, .slice af L[k].files.length cf, .slice ao L[k].sources.length co] L[k] ∧
      w.cell? ⟨b, off + k * 8, none⟩ = some (.string L[k].id) ∧ w.cell? ⟨b, off + k * 8 + 1, none⟩ = some (.int .i64 L[k].mn) ∧ w.cell? ⟨b, off + k * 8 + 2, none⟩ = some (.int .i64 L[k].mx) ∧ w.cell? ⟨b, off + k * 8 + 3, none⟩ = some (.int .i64 L[k].level) ∧
      w.cell? ⟨b, off + k * 8 + 4, none⟩ = some (.int .i64 L[k].series) ∧ w.cell? ⟨b, off + k * 8 + 5, none⟩ = some (.int .i64 L[k].samples) ∧ w.cell? ⟨b, off + k * 8 + 6, none⟩ = some (.slice af L[k].files.length cf) ∧ w.cell? ⟨b, off + k * 8 + 7, none⟩ = some (.slice ao L[k].sources.length co) := by
  obtain ⟨VS, h1, h2, h3⟩ := h
  obtain ⟨b, off, e, -, hlt, hc⟩ := h1.atI k (by omega)
  have hv := h3 k (by omega) hk
  have hv' := hv
  obtain ⟨vf, vo, hvs, hf, ho⟩ := hv
  obtain ⟨af, cf, rfl, -, -, -, -⟩ := hf
  obtain ⟨ao, co, rfl, -, -, -, -⟩ := ho
  rw [hvs] at hc hv'
  exact ⟨b, off, af, cf, ao, co, e, hlt, hv', hc 0 (by decide), hc 1 (by decide), hc 2 (by decide), hc 3 (by decide), hc 4 (by decide), hc 5 (by decide), hc 6 (by decide), hc 7 (by decide)⟩
end Go.Proofs.YtjffdcflkkgpfaaGreat

namespace Go.Proofs.YtjffdcflkkgpfaaGreat
open Go Go.RowKit Go.Conc
open Go.Op (bytesLess)

def SameRel (W : World) (n gk : Nat) (u : Value) (wr : World) : Prop := ∃ k, k ≤ n ∧ gk = n - k ∧ u = .int .i64 k ∧ Keeps [] W wr

set_option linter.unusedSimpArgs false in
set_option maxRecDepth 100000 in
set_option maxHeartbeats 4000000 in
theorem same_spec (B B' : Nat) (w : World) (vs ts : List Value) (m : MetaS) (h1 : MetaV B w vs m) (h2 : MetaV B' w ts m) :
    Calls Tryz.prog 46 #[.agg vs.toArray, .agg ts.toArray] w fun e w' => e = .returned (.bool true) ∧ Keeps [] w w' := by
  obtain ⟨vf, vo, rfl, hf, ho⟩ := h1
  obtain ⟨tf, tq, rfl, gf, gq⟩ := h2
  have Hv := Lib.hid (And.intro hf (And.intro ho (And.intro gf gq)))
  obtain ⟨af, cf, rfl, hfm, -, -, -⟩ := hf
  obtain ⟨ao, co, rfl, hom, -, -, -⟩ := ho
  obtain ⟨bf, df, rfl, -, -, -, -⟩ := gf
  obtain ⟨bo, d_o, rfl, -, -, -, -⟩ := gq
  unfold maxLen at hfm hom
  obtain ⟨pa, hpa⟩ : ∃ n, n = w.heap.size := ⟨_, rfl⟩
  obtain ⟨pb, hpb⟩ : ∃ n, n = pa + 1 := ⟨_, rfl⟩
  have n0 := new2 w (.cells #[.string m.id, .int .i64 m.mn, .int .i64 m.mx, .int .i64 m.level, .int .i64 m.series, .int .i64 m.samples, .slice af m.files.length cf, .slice ao m.sources.length co] 66) (.cells #[.string m.id, .int .i64 m.mn, .int .i64 m.mx, .int .i64 m.level, .int .i64 m.series, .int .i64 m.samples, .slice bf m.files.length df, .slice bo m.sources.length d_o] 66)
  have k0 : Keeps [] w ((w.alloc (.cells #[.string m.id, .int .i64 m.mn, .int .i64 m.mx, .int .i64 m.level, .int .i64 m.series, .int .i64 m.samples, .slice af m.files.length cf, .slice ao m.sources.length co] 66)).alloc (.cells #[.string m.id, .int .i64 m.mn, .int .i64 m.mx, .int .i64 m.level, .int .i64 m.series, .int .i64 m.samples, .slice bf m.files.length df, .slice bo m.sources.length d_o] 66)) := ((Keeps.refl [] w).alloc _).alloc _
  rw [← hpa, ← hpb] at n0
  have H0 := Lib.hid (And.intro n0 k0)
  have HB := Lib.hid (And.intro hpa hpb)
  clear n0 k0 hpa hpb
  have hse : (m.id.toList == m.id.toList) = true := by simp
  go_enter Tryz.func46, Tryz.ntmps46
  go_upto_region 1 with fail
  rw [← HB.out.1, ← HB.out.2]
  generalize (w.alloc (.cells #[.string m.id, .int .i64 m.mn, .int .i64 m.mx, .int .i64 m.level, .int .i64 m.series, .int .i64 m.samples, .slice af m.files.length cf, .slice ao m.sources.length co] 66)).alloc (.cells #[.string m.id, .int .i64 m.mn, .int .i64 m.mx, .int .i64 m.level, .int .i64 m.series, .int .i64 m.samples, .slice bf m.files.length df, .slice bo m.sources.length d_o] 66) = W0 at H0 ⊢
  clear HB
  have ca := cells_at H0.out.1.1
  have la := lt_of_at H0.out.1.1
  have cb := cells_at H0.out.1.2
  have lb := lt_of_at H0.out.1.2
  go_wp2_with fail
  clear ca la cb lb
  go_loopg [26] m.files.length (SameRel W0 m.files.length)
  case atStart => exact ⟨0, Nat.zero_le _, rfl, rfl, Keeps.refl _ _⟩
  case round =>
    obtain ⟨k, hk, hgk, rfl, hkr⟩ := hrel
    have Hg := Lib.hid hgk
    have na := kp hkr H0.out.1
    have ca := cells_at na.1
    have la := lt_of_at na.1
    have cb := cells_at na.2
    have lb := lt_of_at na.2
    clear na
    by_cases hlt : k < m.files.length
    · obtain ⟨b1, o1, e1, -, hb1, hc1⟩ := (Hv.out.1.keep (H0.out.2.trans hkr) (by simp)).atI k hlt
      obtain ⟨b2, o2, e2, -, hb2, hc2⟩ := (Hv.out.2.2.1.keep (H0.out.2.trans hkr) (by simp)).atI k hlt
      subst e1 e2
      obtain ⟨⟨fm, fs, fc⟩, hfe⟩ : ∃ f, f = m.files[k] := ⟨_, rfl⟩
      rw [← hfe] at hc1 hc2
      have d0 : wr.cell? ⟨b1, o1 + k * 3, none⟩ = some (.string fm) := hc1 0 (by decide)
      have d1 : wr.cell? ⟨b1, o1 + k * 3 + 1, none⟩ = some (.int .i64 fs) := hc1 1 (by decide)
      have d2 : wr.cell? ⟨b1, o1 + k * 3 + 2, none⟩ = some (.int .u32 fc) := hc1 2 (by decide)
      have g0 : wr.cell? ⟨b2, o2 + k * 3, none⟩ = some (.string fm) := hc2 0 (by decide)
      have g1 : wr.cell? ⟨b2, o2 + k * 3 + 1, none⟩ = some (.int .i64 fs) := hc2 1 (by decide)
      have g2 : wr.cell? ⟨b2, o2 + k * 3 + 2, none⟩ = some (.int .u32 fc) := hc2 2 (by decide)
      have hlt' : (k : Int) < (m.files.length : Int) := by omega
      have hk0 : (0 : Int) ≤ (k : Int) := by omega
      have Hk := Lib.hid hkr
      have hsf : (fm.toList == fm.toList) = true := by simp
      clear hgk hkr hfe hc1 hc2
      go_wp2_with fail
      go_quiet (fail)
      go_wp2_with fail
      go_roundg (m.files.length - (k + 1))
      case measure => have := Hg.out; omega
      case rel => exact ⟨k + 1, by omega, rfl, by go_num, Hk.out.drewN _⟩
    · have hlt' : ¬ (k : Int) < (m.files.length : Int) := by omega
      have Hk := Lib.hid hkr
      clear hgk hkr
      go_wp2_with fail
      have H1 := Lib.hid (And.intro (kp Hk.out H0.out.1) (H0.out.2.trans Hk.out))
      clear ca la cb lb hlt' hlt hk Hg Hk H0
      generalize wr = W1 at H1 ⊢
      go_loopg [44] m.sources.length (SameRel W1 m.sources.length)
      case atStart => exact ⟨0, Nat.zero_le _, rfl, rfl, Keeps.refl _ _⟩
      case round =>
        obtain ⟨k, hk, hgk, rfl, hkr⟩ := hrel
        have Hg := Lib.hid hgk
        have na := kp hkr H1.out.1
        have ca := cells_at na.1
        have la := lt_of_at na.1
        have cb := cells_at na.2
        have lb := lt_of_at na.2
        clear na
        by_cases hlt : k < m.sources.length
        · obtain ⟨b1, o1, e1, -, hb1, hc1⟩ := (Hv.out.2.1.keep (H1.out.2.trans hkr) (by simp)).atI k hlt
          obtain ⟨b2, o2, e2, -, hb2, hc2⟩ := (Hv.out.2.2.2.keep (H1.out.2.trans hkr) (by simp)).atI k hlt
          subst e1 e2
          obtain ⟨sk, hsk⟩ : ∃ f, f = m.sources[k] := ⟨_, rfl⟩
          rw [← hsk] at hc1 hc2
          have d0 : wr.cell? ⟨b1, o1 + k, none⟩ = some (.string sk) := by simpa [encS1m] using hc1 0 (by decide)
          have g0 : wr.cell? ⟨b2, o2 + k, none⟩ = some (.string sk) := by simpa [encS1m] using hc2 0 (by decide)
          have hlt' : (k : Int) < (m.sources.length : Int) := by omega
          have hk0 : (0 : Int) ≤ (k : Int) := by omega
          have Hk := Lib.hid hkr
          have hsf : (sk.toList == sk.toList) = true := by simp
          clear hgk hkr hsk hc1 hc2
          go_wp2_with fail
          go_quiet (fail)
          go_wp2_with fail
          go_roundg (m.sources.length - (k + 1))
          case measure => have := Hg.out; omega
          case rel => exact ⟨k + 1, by omega, rfl, by go_num, Hk.out.drewN _⟩
        · have hlt' : ¬ (k : Int) < (m.sources.length : Int) := by omega
          have Hk := Lib.hid hkr
          clear hgk hkr
          go_wp2_with fail
          go_ret
          exact ⟨rfl, H1.out.2.trans Hk.out⟩
end Go.Proofs.YtjffdcflkkgpfaaGreat

namespace Go.Proofs.YtjffdcflkkgpfaaGreat
open Go Go.RowKit Go.Conc
open Go.Op (bytesLess)

/-- One of the worlds in which only new blocks have come. -/
def KeptS (W w : World) : Prop := ∃ s : Kept W, w = s.val

theorem keptS {W w : World} (h : Keeps [] W w) : KeptS W w := ⟨⟨w, h⟩, rfl⟩

theorem told9_meta (B B' : Nat) (w : World) (vs : List Value) (m : MetaS) (h : MetaV B w vs m) (hB' : B' ≤ B) (hw : B' ≤ w.heap.size) (hl : m.files.length ≤ 10) :
    Calls Tryz.prog 47 #[.agg vs.toArray] w fun e w' => ∃ ts, e = .returned (.agg ts) ∧ MetaV B' w' ts.toList m ∧ Keeps [] w w' := by
  obtain ⟨vf, vo, rfl, hf, ho⟩ := h
  refine (told9_spec B w vf vo m hf (by obtain ⟨a, c, e, -⟩ := ho; exact ⟨a, _, c, e⟩) hl).mono ?_
  rintro e w' ⟨vt, rfl, hr, hk⟩
  exact ⟨_, rfl, ⟨vt, vo, rfl, (sliceFrom_row (enc := encFile) (size := 3) (fun _ => rfl) hr).low hw, (kp hk ho).low hB'⟩, hk⟩

end Go.Proofs.YtjffdcflkkgpfaaGreat

namespace Go.Proofs.YtjffdcflkkgpfaaGreat
open Go Go.RowKit Go.Conc
open Go.Op (bytesLess)

theorem BlksV.form {B : Nat} {w : World} {v : Value} {T : List BlkS} (h : BlksV B w v T) : ∃ a c, v = .slice a T.length c := by
  obtain ⟨VS, ⟨a, c, e, -⟩, hl, -⟩ := h
  exact ⟨a, c, by rw [e, hl]⟩

theorem BlksV.elem {B : Nat} {w : World} {a : Option Addr} {n c : Nat} {T : List BlkS} (h : BlksV B w (.slice a n c) T) (k : Nat) (hk : k < T.length) :
    ∃ b off af cf ao co, a = some ⟨b, off, none⟩ ∧ b < w.heap.size ∧ MetaV B w [.string T[k].1.id, .int .i64 T[k].1.mn, .int .i64 T[k].1.mx, .int .i64 T[k].1.level, .int .i64 T[k].1.series, .int .i64 T[k].1.samples, .slice af T[k].1.files.length cf, .slice ao T[k].1.sources.length co] T[k].1 ∧
      w.cell? ⟨b, off + k * 9, none⟩ = some (.string T[k].1.id) ∧ w.cell? ⟨b, off + k * 9 + 1, none⟩ = some (.int .i64 T[k].1.mn) ∧ w.cell? ⟨b, off + k * 9 + 2, none⟩ = some (.int .i64 T[k].1.mx) ∧ w.cell? ⟨b, off + k * 9 + 3, none⟩ = some (.int .i64 T[k].1.level) ∧
      w.cell? ⟨b, off + k * 9 + 4, none⟩ = some (.int .i64 T[k].1.series) ∧ w.cell? ⟨b, off + k * 9 + 5, none⟩ = some (.int .i64 T[k].1.samples) ∧ w.cell? ⟨b, off + k * 9 + 6, none⟩ = some (.slice af T[k].1.files.length cf) ∧ w.cell? ⟨b, off + k * 9 + 7, none⟩ = some (.slice ao T[k].1.sources.length co) ∧ w.cell? ⟨b, off + k * 9 + 8, none⟩ = some (.int .i64 T[k].2) := by
  obtain ⟨VS, h1, h2, h3⟩ := h
  obtain ⟨b, off, e, -, hlt, hc⟩ := h1.atI k (by omega)
  obtain ⟨vs, hvs, hv⟩ := h3 k (by omega) hk
  have hv' := hv
  obtain ⟨vf, vo, hvs2, hf, ho⟩ := hv
  obtain ⟨af, cf, rfl, -, -, -, -⟩ := hf
  obtain ⟨ao, co, rfl, -, -, -, -⟩ := ho
  rw [hvs, hvs2] at hc
  rw [hvs2] at hv'
  exact ⟨b, off, af, cf, ao, co, e, hlt, hv', hc 0 (by decide), hc 1 (by decide), hc 2 (by decide), hc 3 (by decide), hc 4 (by decide), hc 5 (by decide), hc 6 (by decide), hc 7 (by decide), hc 8 (by decide)⟩

def HasRel (w : World) (T : List BlkS) (id : ByteArray) (gk : Nat) (u : Value) (wr : World) : Prop := ∃ k, k ≤ T.length ∧ gk = T.length - k ∧ u = .int .i64 k ∧ (∀ i (h : i < T.length), i < k → T[i].1.id ≠ id) ∧ Keeps [] w wr


/-- How many are marked. -/
def marked (T : List BlkS) : Nat := (T.filter fun p => decide (0 ≤ p.2)).length

theorem marked_yes {T : List BlkS} {k : Nat} (h : k < T.length) (h0 : 0 ≤ T[k].2) : marked (T.take (k + 1)) = marked (T.take k) + 1 := by
  unfold marked
  rw [List.take_succ_eq_append_getElem h, List.filter_append, List.length_append]
  simp [h0]

theorem marked_no {T : List BlkS} {k : Nat} (h : k < T.length) (h0 : ¬ 0 ≤ T[k].2) : marked (T.take (k + 1)) = marked (T.take k) := by
  unfold marked
  rw [List.take_succ_eq_append_getElem h, List.filter_append, List.length_append]
  simp [h0]

theorem marked_le (T : List BlkS) : marked T ≤ T.length := List.length_filter_le _ _

def markO (p : BlkS) : Option Int := if 0 ≤ p.2 then some p.2 else none

def IsRel (W0 : World) (T : List BlkS) (gk : Nat) (u5 u27 : Value) (wr : World) : Prop := ∃ k, k ≤ T.length ∧ gk = T.length - k ∧ u27 = .int .i64 k ∧ u5 = .int .i64 (marked (T.take k)) ∧ Keeps [] W0 wr

set_option linter.unusedSimpArgs false in
set_option maxRecDepth 100000 in
set_option maxHeartbeats 4000000 in
theorem is_spec (B B' : Nat) (w : World) (at_ : Int) (v u : Value) (mb : Nat) (M : PartsM) (T : List BlkS) (h1 : MetasV B w v (T.map (·.1))) (h2 : BlksV B' w u T) (hM : MapAt w mb (encMap encI M)) (hl : T.length ≤ 1000) (hf : ∀ p ∈ T, p.1.files.length ≤ 10) (hB : B ≤ w.heap.size)
    (hlk : ∀ p ∈ T, look M p.1.id = markO p) (hml : M.length = marked T) :
    Calls Tryz.prog 12 #[.agg #[.int .i64 at_, v, .map (some mb)], .agg #[.int .i64 at_, u]] w fun e w' => e = .returned (.int .i64 0) ∧ Keeps [] w w' := by
  have Hv := Lib.hid (And.intro h1 (And.intro h2 (And.intro hM hB)))
  have Hf := Lib.hid (And.intro hf (And.intro hlk hml))
  obtain ⟨a, c, rfl⟩ := h1.form
  obtain ⟨a2, c2, rfl⟩ := h2.form
  obtain ⟨n, hn⟩ : ∃ n, n = T.length := ⟨_, rfl⟩
  have hnm : (T.map (·.1)).length = n := by rw [List.length_map, hn]
  rw [hnm, ← hn] at Hv ⊢
  rw [← hn] at hl
  have HnT := Lib.hid hn
  obtain ⟨la, hla⟩ : ∃ b, b = w.heap.size := ⟨_, rfl⟩
  obtain ⟨xa, hxa⟩ : ∃ b, b = la + 1 := ⟨_, rfl⟩
  have n0 := new2 w (.cells #[.int .i64 at_, .slice a n c, .map (some mb)] 32) (.cells #[.int .i64 at_, .slice a2 n c2] 40)
  have k0 : Keeps [] w ((w.alloc (.cells #[.int .i64 at_, .slice a n c, .map (some mb)] 32)).alloc (.cells #[.int .i64 at_, .slice a2 n c2] 40)) := ((Keeps.refl [] w).alloc _).alloc _
  rw [← hla, ← hxa] at n0
  have H0 := Lib.hid (And.intro n0 (And.intro (kp k0 Hv.out) k0))
  have HA := Lib.hid (And.intro hla hxa)
  clear h1 h2 hM hf hlk hml hnm n0 k0 hla hxa hB hn Hv
  go_enter Tryz.func12, Tryz.ntmps12
  go_upto_region 2 with fail
  rw [← HA.out.1, ← HA.out.2]
  generalize (w.alloc (.cells #[.int .i64 at_, .slice a n c, .map (some mb)] 32)).alloc (.cells #[.int .i64 at_, .slice a2 n c2] 40) = W0 at H0 ⊢
  clear HA
  have ca := cells_at H0.out.1.1
  have lla := lt_of_at H0.out.1.1
  have cx := cells_at H0.out.1.2
  have llx := lt_of_at H0.out.1.2
  go_wp2_with fail
  clear ca lla cx llx
  go_loopg [5, 27] n (IsRel W0 T)
  case atStart => exact ⟨0, Nat.zero_le _, by rw [HnT.out]; rfl, rfl, rfl, Keeps.refl _ _⟩
  case round =>
    obtain ⟨k, hk, hgk, rfl, rfl, hkr⟩ := hrel
    have Hg := Lib.hid hgk
    clear hgk
    have Hr := Lib.hid (And.intro hkr (kp hkr H0.out))
    clear hkr
    by_cases hlt : k < T.length
    · obtain ⟨b2, o2, f2, g2, p2, q2, e2, hb2, hm2, d0, d1, d2, d3, d4, d5, d6, d7, d8⟩ := BlksV.elem Hr.out.2.2.1.2.1 k hlt
      subst e2
      have hfl := Hf.out.1 T[k] (List.getElem_mem _)
      have hlo := Hf.out.2.1 T[k] (List.getElem_mem _)
      have my := marked_yes hlt
      have mn := marked_no hlt
      have mle := marked_le (T.take k)
      rw [List.length_take] at mle
      obtain ⟨⟨m, mk⟩, hme⟩ : ∃ m, m = T[k] := ⟨_, rfl⟩
      rw [← hme] at d0 d1 d2 d3 d4 d5 d6 d7 d8 hm2 hfl my mn hlo
      simp only at d0 d1 d2 d3 d4 d5 d6 d7 d8 hm2 hfl my mn hlo
      have hlt' : (k : Int) < (n : Int) := by have := HnT.out; omega
      have hk0 : (0 : Int) ≤ (k : Int) := by omega
      have ka : Keeps [] wr (wr.alloc (.cells #[.string m.id, .int .i64 m.mn, .int .i64 m.mx, .int .i64 m.level, .int .i64 m.series, .int .i64 m.samples, .slice f2 m.files.length g2, .slice p2 m.sources.length q2, .int .i64 mk] 68)) := (Keeps.refl [] wr).alloc _
      have na := heap_new wr (.cells #[.string m.id, .int .i64 m.mn, .int .i64 m.mx, .int .i64 m.level, .int .i64 m.series, .int .i64 m.samples, .slice f2 m.files.length g2, .slice p2 m.sources.length q2, .int .i64 mk] 68)
      have HK := Lib.hid (And.intro na (And.intro (kp ka Hr.out) (And.intro (kp ka hm2) hfl)))
      have Hme := Lib.hid hme
      clear ka na hme hm2 hfl Hr
      go_upto_region 7 with fail
      clear d0 d1 d2 d3 d4 d5 d6 d7 d8
      generalize hWa : wr.alloc (.cells #[.string m.id, .int .i64 m.mn, .int .i64 m.mx, .int .i64 m.level, .int .i64 m.series, .int .i64 m.samples, .slice f2 m.files.length g2, .slice p2 m.sources.length q2, .int .i64 mk] 68) = W1 at HK ⊢
      generalize hyb : wr.heap.size = yb at HK ⊢
      clear hWa hyb
      by_cases h0 : 0 ≤ mk
      · -- marked
        have hlo2 : look M m.id = some mk := by rw [hlo]; unfold markO; exact if_pos h0
        have hrl := HK.out.2.1.2.2.1.2.2.1.run_lookup (P := Tryz.prog) Tryz.underlying30 Tryz.underlying9 (zeroInt _) m.id true
        rw [lookVal_intM, hlo2] at hrl
        simp only [Option.getD_some, Option.isSome_some] at hrl
        have hdk : decide (mk ≥ 0) = true := decide_eq_true h0
        have hcnt := Lib.hid (my h0)
        have cy := cells_at HK.out.1
        have ly := lt_of_at HK.out.1
        have ca := cells_at HK.out.2.1.2.1.1
        have lla := lt_of_at HK.out.2.1.2.1.1
        clear my mn hlo hlo2
        go_upto_region 8 with fail
        clear cy ly ca lla hrl
        obtain ⟨W2, hW2⟩ : ∃ W, W = W1.drew := ⟨_, rfl⟩
        have kd : Keeps [] W1 W2 := by rw [hW2]; exact (Keeps.refl [] W1).drew
        obtain ⟨ny, hr2, hm2, hfl⟩ := kp kd HK.out
        obtain ⟨b1, o1, f1, g1, p1, q1, e1, hb1, hm1, c0, c1', c2', c3, c4, c5, c6, c7⟩ := MetasV.elem hr2.2.2.1.1 k (by rw [List.length_map]; exact hlt)
        subst e1
        rw [List.getElem_map] at c0 c1' c2' c3 c4 c5 c6 c7 hm1
        rw [← Hme.out] at c0 c1' c2' c3 c4 c5 c6 c7 hm1
        simp only at c0 c1' c2' c3 c4 c5 c6 c7 hm1
        have nl := hr2.2.1.1
        have Hmm := Lib.hid (And.intro hm1 (And.intro hm2 (And.intro hfl (And.intro hr2.2.2.1.2.2.2 hr2.1))))
        have CA : ∀ (s : Kept W2) i, s.val.cell? ⟨la, i, none⟩ = (#[.int .i64 at_, .slice (some ⟨b1, o1, none⟩) n c, .map (some mb)] : Array Value)[i]? := fun s i => (s.property.cell (lt_of_at nl) (by simp)).trans (cells_at nl i)
        have LA : ∀ s : Kept W2, la < s.val.heap.size := fun s => s.property.lt (lt_of_at nl)
        have CY : ∀ (s : Kept W2) i, s.val.cell? ⟨yb, i, none⟩ = (#[.string m.id, .int .i64 m.mn, .int .i64 m.mx, .int .i64 m.level, .int .i64 m.series, .int .i64 m.samples, .slice f2 m.files.length g2, .slice p2 m.sources.length q2, .int .i64 mk] : Array Value)[i]? := fun s i => (s.property.cell (lt_of_at ny) (by simp)).trans (cells_at ny i)
        have LY : ∀ s : Kept W2, yb < s.val.heap.size := fun s => s.property.lt (lt_of_at ny)
        have LB : ∀ s : Kept W2, b1 < s.val.heap.size := fun s => s.property.lt hb1
        have B0 : ∀ s : Kept W2, s.val.cell? ⟨b1, o1 + k * 8, none⟩ = _ := fun s => (s.property.cell hb1 (by simp)).trans c0
        have B1 : ∀ s : Kept W2, s.val.cell? ⟨b1, o1 + k * 8 + 1, none⟩ = _ := fun s => (s.property.cell hb1 (by simp)).trans c1'
        have B2 : ∀ s : Kept W2, s.val.cell? ⟨b1, o1 + k * 8 + 2, none⟩ = _ := fun s => (s.property.cell hb1 (by simp)).trans c2'
        have B3 : ∀ s : Kept W2, s.val.cell? ⟨b1, o1 + k * 8 + 3, none⟩ = _ := fun s => (s.property.cell hb1 (by simp)).trans c3
        have B4 : ∀ s : Kept W2, s.val.cell? ⟨b1, o1 + k * 8 + 4, none⟩ = _ := fun s => (s.property.cell hb1 (by simp)).trans c4
        have B5 : ∀ s : Kept W2, s.val.cell? ⟨b1, o1 + k * 8 + 5, none⟩ = _ := fun s => (s.property.cell hb1 (by simp)).trans c5
        have B6 : ∀ s : Kept W2, s.val.cell? ⟨b1, o1 + k * 8 + 6, none⟩ = _ := fun s => (s.property.cell hb1 (by simp)).trans c6
        have B7 : ∀ s : Kept W2, s.val.cell? ⟨b1, o1 + k * 8 + 7, none⟩ = _ := fun s => (s.property.cell hb1 (by simp)).trans c7
        have HW := Lib.hid hW2
        clear c0 c1' c2' c3 c4 c5 c6 c7 hm1 hm2 hb1 nl ny hr2 hfl kd hW2
        refine wp_region_held_drew (S := KeptS W2) (by kernel_rfl) (by rw [← HW.out]; exact keptS (Keeps.refl _ _)) (fun hS => ?_)
        rw [← HW.out] at hS ⊢
        clear HW
        refine wpAnyH_take (i := 0) (v := ?_) rfl (by kernel_rfl) (by kernel_rfl) (by kernel_rfl) (fun _ _ _ h => h) (Or.inl ⟨by rfl, ?_⟩) (by assumption) ?_
        rotate_left
        · intro w' s1; obtain ⟨s, rfl⟩ := s1; go_simp; (try with_reducible rfl)
        simp only [Act.put, List.getElem_toArray, List.getElem_cons_succ, List.getElem_cons_zero, List.setIfInBounds_toArray, List.set_cons_zero, List.set_cons_succ]
        refine wpAnyH_take (i := 1) (v := ?_) rfl (by kernel_rfl) (by kernel_rfl) (by kernel_rfl) (fun _ _ _ h => h) (Or.inl ⟨by rfl, ?_⟩) (by assumption) ?_
        rotate_left
        · intro w' s1; obtain ⟨s, rfl⟩ := s1; go_simp; (try with_reducible rfl)
        simp only [Act.put, List.getElem_toArray, List.getElem_cons_succ, List.getElem_cons_zero, List.setIfInBounds_toArray, List.set_cons_zero, List.set_cons_succ]
        refine wpAnyH_take (i := 2) (v := ?_) rfl (by kernel_rfl) (by kernel_rfl) (by kernel_rfl) (fun _ _ _ h => h) (Or.inl ⟨by rfl, ?_⟩) (by assumption) ?_
        rotate_left
        · intro w' s1; obtain ⟨s, rfl⟩ := s1; go_simp; (try with_reducible rfl)
        simp only [Act.put, List.getElem_toArray, List.getElem_cons_succ, List.getElem_cons_zero, List.setIfInBounds_toArray, List.set_cons_zero, List.set_cons_succ]
        refine wpAnyH_take (i := 3) (v := ?_) rfl (by kernel_rfl) (by kernel_rfl) (by kernel_rfl) (fun _ _ _ h => h) (Or.inl ⟨by rfl, ?_⟩) (by assumption) ?_
        rotate_left
        · intro w' s1; obtain ⟨s, rfl⟩ := s1; go_simp; (try with_reducible rfl)
        simp only [Act.put, List.getElem_toArray, List.getElem_cons_succ, List.getElem_cons_zero, List.setIfInBounds_toArray, List.set_cons_zero, List.set_cons_succ]
        refine wpAnyH_take (i := 4) (v := ?_) rfl (by kernel_rfl) (by kernel_rfl) (by kernel_rfl) (fun _ _ _ h => h) (Or.inl ⟨by rfl, ?_⟩) (by assumption) ?_
        rotate_left
        · intro w' s1; obtain ⟨s, rfl⟩ := s1; go_simp; (try with_reducible rfl)
        simp only [Act.put, List.getElem_toArray, List.getElem_cons_succ, List.getElem_cons_zero, List.setIfInBounds_toArray, List.set_cons_zero, List.set_cons_succ]
        refine wpAnyH_take (i := 6) (v := ?_) rfl (by kernel_rfl) (by kernel_rfl) (by kernel_rfl) (fun _ _ _ h => h) (Or.inl ⟨by rfl, ?_⟩) (by assumption) ?_
        rotate_left
        · intro w' s1; obtain ⟨s, rfl⟩ := s1; go_simp; (try with_reducible rfl)
        simp only [Act.put, List.getElem_toArray, List.getElem_cons_succ, List.getElem_cons_zero, List.setIfInBounds_toArray, List.set_cons_zero, List.set_cons_succ]
        refine wpAnyH_take (i := 7) (v := ?_) rfl (by kernel_rfl) (by kernel_rfl) (by kernel_rfl) (fun _ _ _ h => h) (Or.inl ⟨by rfl, ?_⟩) (by assumption) ?_
        rotate_left
        · intro w' s1; obtain ⟨s, rfl⟩ := s1; go_simp; (try with_reducible rfl)
        simp only [Act.put, List.getElem_toArray, List.getElem_cons_succ, List.getElem_cons_zero, List.setIfInBounds_toArray, List.set_cons_zero, List.set_cons_succ]
        refine wpAnyH_ready (rs := [5]) (by kernel_rfl) (by simp) ?_
        refine AllReadyH.cons rfl (fun K hK => ?_) AllReadyH.nil
        go_simp
        go_at_call 47
        refine (told9_meta B B W2 _ m Hmm.out.1 (Nat.le_refl _) Hmm.out.2.2.2.1 Hmm.out.2.2.1).mono ?_
        rintro e w1 ⟨ts, rfl, ht, hk1⟩
        have H1 := Lib.hid (And.intro ht (And.intro (kp hk1 Hmm.out.2.1) (And.intro hk1 (Hmm.out.2.2.2.2.trans hk1))))
        clear ht
        go_simp
        refine hK.out _ _ (keptS hk1) (fun hS => ?_)
        clear hK K
        try simp only [Act.put, List.getElem_toArray, List.getElem_cons_succ, List.getElem_cons_zero, List.setIfInBounds_toArray, List.set_cons_zero, List.set_cons_succ]
        clear hk1
        refine wpAnyH_ready (rs := [8]) (by kernel_rfl) (by simp) ?_
        refine AllReadyH.cons rfl (fun K hK => ?_) AllReadyH.nil
        go_simp
        go_at_call 46
        refine (same_spec _ B' w1 ts.toList _ m H1.out.1 H1.out.2.1).mono ?_
        rintro e w2 ⟨rfl, hk2⟩
        have H2 := Lib.hid (H1.out.2.2.2.trans hk2)
        have hk02 := H1.out.2.2.1.trans hk2
        go_simp
        refine hK.out _ _ (keptS hk02) (fun hS => ?_)
        clear hK K
        try simp only [Act.put, List.getElem_toArray, List.getElem_cons_succ, List.getElem_cons_zero, List.setIfInBounds_toArray, List.set_cons_zero, List.set_cons_succ]
        clear hk02 hk2
        refine wpAnyH_take (i := 9) (v := ?_) rfl (by kernel_rfl) (by kernel_rfl) (by kernel_rfl) (fun _ _ _ h => h) (Or.inl ⟨by rfl, ?_⟩) (by assumption) ?_
        rotate_left
        · intro w' s1; obtain ⟨s, rfl⟩ := s1; go_simp; (try with_reducible rfl)
        simp only [Act.put, List.getElem_toArray, List.getElem_cons_succ, List.getElem_cons_zero, List.setIfInBounds_toArray, List.set_cons_zero, List.set_cons_succ]
        refine wpAnyH_take (i := 10) (v := ?_) rfl (by kernel_rfl) (by kernel_rfl) (by kernel_rfl) (fun _ _ _ h => h) (Or.inl ⟨by rfl, ?_⟩) (by assumption) ?_
        rotate_left
        · intro w' s1; obtain ⟨s, rfl⟩ := s1; go_simp; (try with_reducible rfl)
        simp only [Act.put, List.getElem_toArray, List.getElem_cons_succ, List.getElem_cons_zero, List.setIfInBounds_toArray, List.set_cons_zero, List.set_cons_succ]
        refine wpAnyH_take (i := 11) (v := ?_) rfl (by kernel_rfl) (by kernel_rfl) (by kernel_rfl) (fun _ _ _ h => h) (Or.inl ⟨by rfl, ?_⟩) (by assumption) ?_
        rotate_left
        · intro w' s1; obtain ⟨s, rfl⟩ := s1; go_simp; (try with_reducible rfl)
        simp only [Act.put, List.getElem_toArray, List.getElem_cons_succ, List.getElem_cons_zero, List.setIfInBounds_toArray, List.set_cons_zero, List.set_cons_succ]
        refine wpAnyH_take (i := 12) (v := ?_) rfl (by kernel_rfl) (by kernel_rfl) (by kernel_rfl) (fun _ _ _ h => h) (Or.inl ⟨by rfl, ?_⟩) (by assumption) ?_
        rotate_left
        · intro w' s1; obtain ⟨s, rfl⟩ := s1; go_simp; (try with_reducible rfl)
        simp only [Act.put, List.getElem_toArray, List.getElem_cons_succ, List.getElem_cons_zero, List.setIfInBounds_toArray, List.set_cons_zero, List.set_cons_succ]
        refine wpAnyH_take (i := 13) (v := ?_) rfl (by kernel_rfl) (by kernel_rfl) (by kernel_rfl) (fun _ _ _ h => h) (Or.inl ⟨by rfl, ?_⟩) (by assumption) ?_
        rotate_left
        · intro w' s1; obtain ⟨s, rfl⟩ := s1; go_simp; (try with_reducible rfl)
        simp only [Act.put, List.getElem_toArray, List.getElem_cons_succ, List.getElem_cons_zero, List.setIfInBounds_toArray, List.set_cons_zero, List.set_cons_succ]
        refine wpAnyH_take (i := 14) (v := ?_) rfl (by kernel_rfl) (by kernel_rfl) (by kernel_rfl) (fun _ _ _ h => h) (Or.inl ⟨by rfl, ?_⟩) (by assumption) ?_
        rotate_left
        · intro w' s1; obtain ⟨s, rfl⟩ := s1; go_simp; (try with_reducible rfl)
        simp only [Act.put, List.getElem_toArray, List.getElem_cons_succ, List.getElem_cons_zero, List.setIfInBounds_toArray, List.set_cons_zero, List.set_cons_succ]
        refine wpAnyH_take (i := 15) (v := ?_) rfl (by kernel_rfl) (by kernel_rfl) (by kernel_rfl) (fun _ _ _ h => h) (Or.inl ⟨by rfl, ?_⟩) (by assumption) ?_
        rotate_left
        · intro w' s1; obtain ⟨s, rfl⟩ := s1; go_simp; (try with_reducible rfl)
        simp only [Act.put, List.getElem_toArray, List.getElem_cons_succ, List.getElem_cons_zero, List.setIfInBounds_toArray, List.set_cons_zero, List.set_cons_succ]
        refine wpAnyH_take (i := 16) (v := ?_) rfl (by kernel_rfl) (by kernel_rfl) (by kernel_rfl) (fun _ _ _ h => h) (Or.inl ⟨by rfl, ?_⟩) (by assumption) ?_
        rotate_left
        · intro w' s1; obtain ⟨s, rfl⟩ := s1; go_simp; (try with_reducible rfl)
        simp only [Act.put, List.getElem_toArray, List.getElem_cons_succ, List.getElem_cons_zero, List.setIfInBounds_toArray, List.set_cons_zero, List.set_cons_succ]
        refine wpAnyH_take (i := 17) (v := ?_) rfl (by kernel_rfl) (by kernel_rfl) (by kernel_rfl) (fun _ _ _ h => h) (Or.inl ⟨by rfl, ?_⟩) (by assumption) ?_
        rotate_left
        · intro w' s1; obtain ⟨s, rfl⟩ := s1; go_simp; (try with_reducible rfl)
        simp only [Act.put, List.getElem_toArray, List.getElem_cons_succ, List.getElem_cons_zero, List.setIfInBounds_toArray, List.set_cons_zero, List.set_cons_succ]
        refine wpAnyH_take (i := 18) (v := ?_) rfl (by kernel_rfl) (by kernel_rfl) (by kernel_rfl) (fun _ _ _ h => h) (Or.inl ⟨by rfl, ?_⟩) (by assumption) ?_
        rotate_left
        · intro w' s1; obtain ⟨s, rfl⟩ := s1; go_simp; (try with_reducible rfl)
        simp only [Act.put, List.getElem_toArray, List.getElem_cons_succ, List.getElem_cons_zero, List.setIfInBounds_toArray, List.set_cons_zero, List.set_cons_succ]
        refine wpAnyH_take (i := 19) (v := ?_) rfl (by kernel_rfl) (by kernel_rfl) (by kernel_rfl) (fun _ _ _ h => h) (Or.inl ⟨by rfl, ?_⟩) (by assumption) ?_
        rotate_left
        · intro w' s1; obtain ⟨s, rfl⟩ := s1; go_simp; (try with_reducible rfl)
        simp only [Act.put, List.getElem_toArray, List.getElem_cons_succ, List.getElem_cons_zero, List.setIfInBounds_toArray, List.set_cons_zero, List.set_cons_succ]
        refine wpAnyH_take (i := 20) (v := ?_) rfl (by kernel_rfl) (by kernel_rfl) (by kernel_rfl) (fun _ _ _ h => h) (Or.inl ⟨by rfl, ?_⟩) (by assumption) ?_
        rotate_left
        · intro w' s1; obtain ⟨s, rfl⟩ := s1; go_simp; (try with_reducible rfl)
        simp only [Act.put, List.getElem_toArray, List.getElem_cons_succ, List.getElem_cons_zero, List.setIfInBounds_toArray, List.set_cons_zero, List.set_cons_succ]
        refine wpAnyH_take (i := 21) (v := ?_) rfl (by kernel_rfl) (by kernel_rfl) (by kernel_rfl) (fun _ _ _ h => h) (Or.inl ⟨by rfl, ?_⟩) (by assumption) ?_
        rotate_left
        · intro w' s1; obtain ⟨s, rfl⟩ := s1; go_simp; (try with_reducible rfl)
        simp only [Act.put, List.getElem_toArray, List.getElem_cons_succ, List.getElem_cons_zero, List.setIfInBounds_toArray, List.set_cons_zero, List.set_cons_succ]
        refine wpAnyH_take (i := 22) (v := ?_) rfl (by kernel_rfl) (by kernel_rfl) (by kernel_rfl) (fun _ _ _ h => h) (Or.inl ⟨by rfl, ?_⟩) (by assumption) ?_
        rotate_left
        · intro w' s1; obtain ⟨s, rfl⟩ := s1; go_simp; (try with_reducible rfl)
        simp only [Act.put, List.getElem_toArray, List.getElem_cons_succ, List.getElem_cons_zero, List.setIfInBounds_toArray, List.set_cons_zero, List.set_cons_succ]
        refine wpAnyH_take (i := 23) (v := ?_) rfl (by kernel_rfl) (by kernel_rfl) (by kernel_rfl) (fun _ _ _ h => h) (Or.inl ⟨by rfl, ?_⟩) (by assumption) ?_
        rotate_left
        · intro w' s1; obtain ⟨s, rfl⟩ := s1; go_simp; (try with_reducible rfl)
        simp only [Act.put, List.getElem_toArray, List.getElem_cons_succ, List.getElem_cons_zero, List.setIfInBounds_toArray, List.set_cons_zero, List.set_cons_succ]
        refine wpAnyH_take (i := 24) (v := ?_) rfl (by kernel_rfl) (by kernel_rfl) (by kernel_rfl) (fun _ _ _ h => h) (Or.inl ⟨by rfl, ?_⟩) (by assumption) ?_
        rotate_left
        · intro w' s1; obtain ⟨s, rfl⟩ := s1; go_simp; (try with_reducible rfl)
        simp only [Act.put, List.getElem_toArray, List.getElem_cons_succ, List.getElem_cons_zero, List.setIfInBounds_toArray, List.set_cons_zero, List.set_cons_succ]
        refine wpAnyH_take (i := 25) (v := ?_) rfl (by kernel_rfl) (by kernel_rfl) (by kernel_rfl) (fun _ _ _ h => h) (Or.inl ⟨by rfl, ?_⟩) (by assumption) ?_
        rotate_left
        · intro w' s1; obtain ⟨s, rfl⟩ := s1; go_simp; (try with_reducible rfl)
        simp only [Act.put, List.getElem_toArray, List.getElem_cons_succ, List.getElem_cons_zero, List.setIfInBounds_toArray, List.set_cons_zero, List.set_cons_succ]
        refine wpAnyH_done (by kernel_rfl) ?_ _
        clear CA LA CY LY LB B0 B1 B2 B3 B4 B5 B6 B7 hS
        have hw1 : IntKind.i64.wrap ((marked (T.take k) : Int) + 1) = ((marked (T.take k) + 1 : Nat) : Int) := by rw [IntWalk.i64_in _ (by omega)]; omega
        go_wp2_with fail
        go_roundg (n - (k + 1))
        case measure => have := Hg.out; have := HnT.out; omega
        case rel => exact ⟨k + 1, by omega, by have := HnT.out; omega, by go_num, by rw [hcnt.out]; first | done | rfl | go_num, H2.out⟩
      · -- not marked
        have hlo2 : look M m.id = none := by rw [hlo]; unfold markO; exact if_neg h0
        have hrl := HK.out.2.1.2.2.1.2.2.1.run_lookup (P := Tryz.prog) Tryz.underlying30 Tryz.underlying9 (zeroInt _) m.id true
        rw [lookVal_intM, hlo2] at hrl
        simp only [Option.getD_none, Option.isSome_none] at hrl
        have hdk : decide (mk ≥ 0) = false := decide_eq_false h0
        have hcnt := Lib.hid (mn h0)
        have cy := cells_at HK.out.1
        have ly := lt_of_at HK.out.1
        have ca := cells_at HK.out.2.1.2.1.1
        have lla := lt_of_at HK.out.2.1.2.1.1
        clear my mn hlo hlo2
        go_upto_region 8 with fail
        clear cy ly ca lla hrl
        obtain ⟨W2, hW2⟩ : ∃ W, W = W1.drew := ⟨_, rfl⟩
        have kd : Keeps [] W1 W2 := by rw [hW2]; exact (Keeps.refl [] W1).drew
        obtain ⟨ny, hr2, hm2, hfl⟩ := kp kd HK.out
        obtain ⟨b1, o1, f1, g1, p1, q1, e1, hb1, hm1, c0, c1', c2', c3, c4, c5, c6, c7⟩ := MetasV.elem hr2.2.2.1.1 k (by rw [List.length_map]; exact hlt)
        subst e1
        rw [List.getElem_map] at c0 c1' c2' c3 c4 c5 c6 c7 hm1
        rw [← Hme.out] at c0 c1' c2' c3 c4 c5 c6 c7 hm1
        simp only at c0 c1' c2' c3 c4 c5 c6 c7 hm1
        have nl := hr2.2.1.1
        have Hmm := Lib.hid (And.intro hm1 (And.intro hm2 (And.intro hfl (And.intro hr2.2.2.1.2.2.2 hr2.1))))
        have CA : ∀ (s : Kept W2) i, s.val.cell? ⟨la, i, none⟩ = (#[.int .i64 at_, .slice (some ⟨b1, o1, none⟩) n c, .map (some mb)] : Array Value)[i]? := fun s i => (s.property.cell (lt_of_at nl) (by simp)).trans (cells_at nl i)
        have LA : ∀ s : Kept W2, la < s.val.heap.size := fun s => s.property.lt (lt_of_at nl)
        have CY : ∀ (s : Kept W2) i, s.val.cell? ⟨yb, i, none⟩ = (#[.string m.id, .int .i64 m.mn, .int .i64 m.mx, .int .i64 m.level, .int .i64 m.series, .int .i64 m.samples, .slice f2 m.files.length g2, .slice p2 m.sources.length q2, .int .i64 mk] : Array Value)[i]? := fun s i => (s.property.cell (lt_of_at ny) (by simp)).trans (cells_at ny i)
        have LY : ∀ s : Kept W2, yb < s.val.heap.size := fun s => s.property.lt (lt_of_at ny)
        have LB : ∀ s : Kept W2, b1 < s.val.heap.size := fun s => s.property.lt hb1
        have B0 : ∀ s : Kept W2, s.val.cell? ⟨b1, o1 + k * 8, none⟩ = _ := fun s => (s.property.cell hb1 (by simp)).trans c0
        have B1 : ∀ s : Kept W2, s.val.cell? ⟨b1, o1 + k * 8 + 1, none⟩ = _ := fun s => (s.property.cell hb1 (by simp)).trans c1'
        have B2 : ∀ s : Kept W2, s.val.cell? ⟨b1, o1 + k * 8 + 2, none⟩ = _ := fun s => (s.property.cell hb1 (by simp)).trans c2'
        have B3 : ∀ s : Kept W2, s.val.cell? ⟨b1, o1 + k * 8 + 3, none⟩ = _ := fun s => (s.property.cell hb1 (by simp)).trans c3
        have B4 : ∀ s : Kept W2, s.val.cell? ⟨b1, o1 + k * 8 + 4, none⟩ = _ := fun s => (s.property.cell hb1 (by simp)).trans c4
        have B5 : ∀ s : Kept W2, s.val.cell? ⟨b1, o1 + k * 8 + 5, none⟩ = _ := fun s => (s.property.cell hb1 (by simp)).trans c5
        have B6 : ∀ s : Kept W2, s.val.cell? ⟨b1, o1 + k * 8 + 6, none⟩ = _ := fun s => (s.property.cell hb1 (by simp)).trans c6
        have B7 : ∀ s : Kept W2, s.val.cell? ⟨b1, o1 + k * 8 + 7, none⟩ = _ := fun s => (s.property.cell hb1 (by simp)).trans c7
        have HW := Lib.hid hW2
        clear c0 c1' c2' c3 c4 c5 c6 c7 hm1 hm2 hb1 nl ny hr2 hfl kd hW2
        refine wp_region_held_drew (S := KeptS W2) (by kernel_rfl) (by rw [← HW.out]; exact keptS (Keeps.refl _ _)) (fun hS => ?_)
        rw [← HW.out] at hS ⊢
        clear HW
        refine wpAnyH_take (i := 0) (v := ?_) rfl (by kernel_rfl) (by kernel_rfl) (by kernel_rfl) (fun _ _ _ h => h) (Or.inl ⟨by rfl, ?_⟩) (by assumption) ?_
        rotate_left
        · intro w' s1; obtain ⟨s, rfl⟩ := s1; go_simp; (try with_reducible rfl)
        simp only [Act.put, List.getElem_toArray, List.getElem_cons_succ, List.getElem_cons_zero, List.setIfInBounds_toArray, List.set_cons_zero, List.set_cons_succ]
        refine wpAnyH_take (i := 1) (v := ?_) rfl (by kernel_rfl) (by kernel_rfl) (by kernel_rfl) (fun _ _ _ h => h) (Or.inl ⟨by rfl, ?_⟩) (by assumption) ?_
        rotate_left
        · intro w' s1; obtain ⟨s, rfl⟩ := s1; go_simp; (try with_reducible rfl)
        simp only [Act.put, List.getElem_toArray, List.getElem_cons_succ, List.getElem_cons_zero, List.setIfInBounds_toArray, List.set_cons_zero, List.set_cons_succ]
        refine wpAnyH_take (i := 2) (v := ?_) rfl (by kernel_rfl) (by kernel_rfl) (by kernel_rfl) (fun _ _ _ h => h) (Or.inl ⟨by rfl, ?_⟩) (by assumption) ?_
        rotate_left
        · intro w' s1; obtain ⟨s, rfl⟩ := s1; go_simp; (try with_reducible rfl)
        simp only [Act.put, List.getElem_toArray, List.getElem_cons_succ, List.getElem_cons_zero, List.setIfInBounds_toArray, List.set_cons_zero, List.set_cons_succ]
        refine wpAnyH_take (i := 3) (v := ?_) rfl (by kernel_rfl) (by kernel_rfl) (by kernel_rfl) (fun _ _ _ h => h) (Or.inl ⟨by rfl, ?_⟩) (by assumption) ?_
        rotate_left
        · intro w' s1; obtain ⟨s, rfl⟩ := s1; go_simp; (try with_reducible rfl)
        simp only [Act.put, List.getElem_toArray, List.getElem_cons_succ, List.getElem_cons_zero, List.setIfInBounds_toArray, List.set_cons_zero, List.set_cons_succ]
        refine wpAnyH_take (i := 4) (v := ?_) rfl (by kernel_rfl) (by kernel_rfl) (by kernel_rfl) (fun _ _ _ h => h) (Or.inl ⟨by rfl, ?_⟩) (by assumption) ?_
        rotate_left
        · intro w' s1; obtain ⟨s, rfl⟩ := s1; go_simp; (try with_reducible rfl)
        simp only [Act.put, List.getElem_toArray, List.getElem_cons_succ, List.getElem_cons_zero, List.setIfInBounds_toArray, List.set_cons_zero, List.set_cons_succ]
        refine wpAnyH_take (i := 6) (v := ?_) rfl (by kernel_rfl) (by kernel_rfl) (by kernel_rfl) (fun _ _ _ h => h) (Or.inl ⟨by rfl, ?_⟩) (by assumption) ?_
        rotate_left
        · intro w' s1; obtain ⟨s, rfl⟩ := s1; go_simp; (try with_reducible rfl)
        simp only [Act.put, List.getElem_toArray, List.getElem_cons_succ, List.getElem_cons_zero, List.setIfInBounds_toArray, List.set_cons_zero, List.set_cons_succ]
        refine wpAnyH_take (i := 7) (v := ?_) rfl (by kernel_rfl) (by kernel_rfl) (by kernel_rfl) (fun _ _ _ h => h) (Or.inl ⟨by rfl, ?_⟩) (by assumption) ?_
        rotate_left
        · intro w' s1; obtain ⟨s, rfl⟩ := s1; go_simp; (try with_reducible rfl)
        simp only [Act.put, List.getElem_toArray, List.getElem_cons_succ, List.getElem_cons_zero, List.setIfInBounds_toArray, List.set_cons_zero, List.set_cons_succ]
        refine wpAnyH_ready (rs := [5]) (by kernel_rfl) (by simp) ?_
        refine AllReadyH.cons rfl (fun K hK => ?_) AllReadyH.nil
        go_simp
        go_at_call 47
        refine (told9_meta B B W2 _ m Hmm.out.1 (Nat.le_refl _) Hmm.out.2.2.2.1 Hmm.out.2.2.1).mono ?_
        rintro e w1 ⟨ts, rfl, ht, hk1⟩
        have H1 := Lib.hid (And.intro ht (And.intro (kp hk1 Hmm.out.2.1) (And.intro hk1 (Hmm.out.2.2.2.2.trans hk1))))
        clear ht
        go_simp
        refine hK.out _ _ (keptS hk1) (fun hS => ?_)
        clear hK K
        try simp only [Act.put, List.getElem_toArray, List.getElem_cons_succ, List.getElem_cons_zero, List.setIfInBounds_toArray, List.set_cons_zero, List.set_cons_succ]
        clear hk1
        refine wpAnyH_ready (rs := [8]) (by kernel_rfl) (by simp) ?_
        refine AllReadyH.cons rfl (fun K hK => ?_) AllReadyH.nil
        go_simp
        go_at_call 46
        refine (same_spec _ B' w1 ts.toList _ m H1.out.1 H1.out.2.1).mono ?_
        rintro e w2 ⟨rfl, hk2⟩
        have H2 := Lib.hid (H1.out.2.2.2.trans hk2)
        have hk02 := H1.out.2.2.1.trans hk2
        go_simp
        refine hK.out _ _ (keptS hk02) (fun hS => ?_)
        clear hK K
        try simp only [Act.put, List.getElem_toArray, List.getElem_cons_succ, List.getElem_cons_zero, List.setIfInBounds_toArray, List.set_cons_zero, List.set_cons_succ]
        clear hk02 hk2
        refine wpAnyH_take (i := 9) (v := ?_) rfl (by kernel_rfl) (by kernel_rfl) (by kernel_rfl) (fun _ _ _ h => h) (Or.inl ⟨by rfl, ?_⟩) (by assumption) ?_
        rotate_left
        · intro w' s1; obtain ⟨s, rfl⟩ := s1; go_simp; (try with_reducible rfl)
        simp only [Act.put, List.getElem_toArray, List.getElem_cons_succ, List.getElem_cons_zero, List.setIfInBounds_toArray, List.set_cons_zero, List.set_cons_succ]
        refine wpAnyH_take (i := 10) (v := ?_) rfl (by kernel_rfl) (by kernel_rfl) (by kernel_rfl) (fun _ _ _ h => h) (Or.inl ⟨by rfl, ?_⟩) (by assumption) ?_
        rotate_left
        · intro w' s1; obtain ⟨s, rfl⟩ := s1; go_simp; (try with_reducible rfl)
        simp only [Act.put, List.getElem_toArray, List.getElem_cons_succ, List.getElem_cons_zero, List.setIfInBounds_toArray, List.set_cons_zero, List.set_cons_succ]
        refine wpAnyH_take (i := 11) (v := ?_) rfl (by kernel_rfl) (by kernel_rfl) (by kernel_rfl) (fun _ _ _ h => h) (Or.inl ⟨by rfl, ?_⟩) (by assumption) ?_
        rotate_left
        · intro w' s1; obtain ⟨s, rfl⟩ := s1; go_simp; (try with_reducible rfl)
        simp only [Act.put, List.getElem_toArray, List.getElem_cons_succ, List.getElem_cons_zero, List.setIfInBounds_toArray, List.set_cons_zero, List.set_cons_succ]
        refine wpAnyH_take (i := 12) (v := ?_) rfl (by kernel_rfl) (by kernel_rfl) (by kernel_rfl) (fun _ _ _ h => h) (Or.inl ⟨by rfl, ?_⟩) (by assumption) ?_
        rotate_left
        · intro w' s1; obtain ⟨s, rfl⟩ := s1; go_simp; (try with_reducible rfl)
        simp only [Act.put, List.getElem_toArray, List.getElem_cons_succ, List.getElem_cons_zero, List.setIfInBounds_toArray, List.set_cons_zero, List.set_cons_succ]
        refine wpAnyH_take (i := 13) (v := ?_) rfl (by kernel_rfl) (by kernel_rfl) (by kernel_rfl) (fun _ _ _ h => h) (Or.inl ⟨by rfl, ?_⟩) (by assumption) ?_
        rotate_left
        · intro w' s1; obtain ⟨s, rfl⟩ := s1; go_simp; (try with_reducible rfl)
        simp only [Act.put, List.getElem_toArray, List.getElem_cons_succ, List.getElem_cons_zero, List.setIfInBounds_toArray, List.set_cons_zero, List.set_cons_succ]
        refine wpAnyH_take (i := 14) (v := ?_) rfl (by kernel_rfl) (by kernel_rfl) (by kernel_rfl) (fun _ _ _ h => h) (Or.inl ⟨by rfl, ?_⟩) (by assumption) ?_
        rotate_left
        · intro w' s1; obtain ⟨s, rfl⟩ := s1; go_simp; (try with_reducible rfl)
        simp only [Act.put, List.getElem_toArray, List.getElem_cons_succ, List.getElem_cons_zero, List.setIfInBounds_toArray, List.set_cons_zero, List.set_cons_succ]
        refine wpAnyH_take (i := 15) (v := ?_) rfl (by kernel_rfl) (by kernel_rfl) (by kernel_rfl) (fun _ _ _ h => h) (Or.inl ⟨by rfl, ?_⟩) (by assumption) ?_
        rotate_left
        · intro w' s1; obtain ⟨s, rfl⟩ := s1; go_simp; (try with_reducible rfl)
        simp only [Act.put, List.getElem_toArray, List.getElem_cons_succ, List.getElem_cons_zero, List.setIfInBounds_toArray, List.set_cons_zero, List.set_cons_succ]
        refine wpAnyH_take (i := 16) (v := ?_) rfl (by kernel_rfl) (by kernel_rfl) (by kernel_rfl) (fun _ _ _ h => h) (Or.inl ⟨by rfl, ?_⟩) (by assumption) ?_
        rotate_left
        · intro w' s1; obtain ⟨s, rfl⟩ := s1; go_simp; (try with_reducible rfl)
        simp only [Act.put, List.getElem_toArray, List.getElem_cons_succ, List.getElem_cons_zero, List.setIfInBounds_toArray, List.set_cons_zero, List.set_cons_succ]
        refine wpAnyH_take (i := 17) (v := ?_) rfl (by kernel_rfl) (by kernel_rfl) (by kernel_rfl) (fun _ _ _ h => h) (Or.inl ⟨by rfl, ?_⟩) (by assumption) ?_
        rotate_left
        · intro w' s1; obtain ⟨s, rfl⟩ := s1; go_simp; (try with_reducible rfl)
        simp only [Act.put, List.getElem_toArray, List.getElem_cons_succ, List.getElem_cons_zero, List.setIfInBounds_toArray, List.set_cons_zero, List.set_cons_succ]
        refine wpAnyH_take (i := 18) (v := ?_) rfl (by kernel_rfl) (by kernel_rfl) (by kernel_rfl) (fun _ _ _ h => h) (Or.inl ⟨by rfl, ?_⟩) (by assumption) ?_
        rotate_left
        · intro w' s1; obtain ⟨s, rfl⟩ := s1; go_simp; (try with_reducible rfl)
        simp only [Act.put, List.getElem_toArray, List.getElem_cons_succ, List.getElem_cons_zero, List.setIfInBounds_toArray, List.set_cons_zero, List.set_cons_succ]
        refine wpAnyH_take (i := 19) (v := ?_) rfl (by kernel_rfl) (by kernel_rfl) (by kernel_rfl) (fun _ _ _ h => h) (Or.inl ⟨by rfl, ?_⟩) (by assumption) ?_
        rotate_left
        · intro w' s1; obtain ⟨s, rfl⟩ := s1; go_simp; (try with_reducible rfl)
        simp only [Act.put, List.getElem_toArray, List.getElem_cons_succ, List.getElem_cons_zero, List.setIfInBounds_toArray, List.set_cons_zero, List.set_cons_succ]
        refine wpAnyH_take (i := 20) (v := undef) rfl (by kernel_rfl) (by kernel_rfl) (by kernel_rfl) (fun _ _ _ h => h) (Or.inr ⟨by rfl, rfl⟩) (by assumption) ?_
        simp only [Act.put, List.getElem_toArray, List.getElem_cons_succ, List.getElem_cons_zero, List.setIfInBounds_toArray, List.set_cons_zero, List.set_cons_succ]
        refine wpAnyH_take (i := 21) (v := undef) rfl (by kernel_rfl) (by kernel_rfl) (by kernel_rfl) (fun _ _ _ h => h) (Or.inr ⟨by rfl, rfl⟩) (by assumption) ?_
        simp only [Act.put, List.getElem_toArray, List.getElem_cons_succ, List.getElem_cons_zero, List.setIfInBounds_toArray, List.set_cons_zero, List.set_cons_succ]
        refine wpAnyH_take (i := 22) (v := undef) rfl (by kernel_rfl) (by kernel_rfl) (by kernel_rfl) (fun _ _ _ h => h) (Or.inr ⟨by rfl, rfl⟩) (by assumption) ?_
        simp only [Act.put, List.getElem_toArray, List.getElem_cons_succ, List.getElem_cons_zero, List.setIfInBounds_toArray, List.set_cons_zero, List.set_cons_succ]
        refine wpAnyH_take (i := 23) (v := undef) rfl (by kernel_rfl) (by kernel_rfl) (by kernel_rfl) (fun _ _ _ h => h) (Or.inr ⟨by rfl, rfl⟩) (by assumption) ?_
        simp only [Act.put, List.getElem_toArray, List.getElem_cons_succ, List.getElem_cons_zero, List.setIfInBounds_toArray, List.set_cons_zero, List.set_cons_succ]
        refine wpAnyH_take (i := 24) (v := ?_) rfl (by kernel_rfl) (by kernel_rfl) (by kernel_rfl) (fun _ _ _ h => h) (Or.inl ⟨by rfl, ?_⟩) (by assumption) ?_
        rotate_left
        · intro w' s1; obtain ⟨s, rfl⟩ := s1; go_simp; (try with_reducible rfl)
        simp only [Act.put, List.getElem_toArray, List.getElem_cons_succ, List.getElem_cons_zero, List.setIfInBounds_toArray, List.set_cons_zero, List.set_cons_succ]
        refine wpAnyH_take (i := 25) (v := ?_) rfl (by kernel_rfl) (by kernel_rfl) (by kernel_rfl) (fun _ _ _ h => h) (Or.inl ⟨by rfl, ?_⟩) (by assumption) ?_
        rotate_left
        · intro w' s1; obtain ⟨s, rfl⟩ := s1; go_simp; (try with_reducible rfl)
        simp only [Act.put, List.getElem_toArray, List.getElem_cons_succ, List.getElem_cons_zero, List.setIfInBounds_toArray, List.set_cons_zero, List.set_cons_succ]
        refine wpAnyH_done (by kernel_rfl) ?_ _
        clear CA LA CY LY LB B0 B1 B2 B3 B4 B5 B6 B7 hS
        go_wp2_with fail
        go_roundg (n - (k + 1))
        case measure => have := Hg.out; have := HnT.out; omega
        case rel => exact ⟨k + 1, by omega, by have := HnT.out; omega, by go_num, by rw [hcnt.out]; first | done | rfl | go_num, H2.out⟩
    · have hlt' : ¬ (k : Int) < (n : Int) := by have := HnT.out; omega
      have hkn : k = n := by have := HnT.out; omega
      have hcnt : marked (T.take k) = M.length := by rw [hkn, HnT.out, List.take_length, Hf.out.2.2]
      rw [hcnt]
      have ca := cells_at Hr.out.2.1.1
      have lla := lt_of_at Hr.out.2.1.1
      have hrl := Hr.out.2.2.1.2.2.1.run_lenK (P := Tryz.prog) Tryz.underlying30 3
      rw [show (encMap encI M).length = M.length from by simp only [encMap, List.length_map]] at hrl
      clear hcnt hkn
      go_wp2_with fail
      go_ret
      exact ⟨rfl, Hr.out.2.2.2⟩

theorem put_newK {α : Type} {id : ByteArray} {v : α} : ∀ {m : List (ByteArray × α)}, look m id = none → put m id v = m ++ [(id, v)]
  | [], _ => rfl
  | (k, x) :: m, h => by
    unfold look at h
    by_cases e : id = k
    · rw [if_pos e] at h; cases h
    · rw [if_neg e] at h
      unfold put
      rw [if_neg e, put_newK h]
      rfl

theorem find_nodup {T : List BlkS} : (T.map (fun p => p.1.id)).Nodup → ∀ p ∈ T, T.find? (fun q => decide (q.1.id = p.1.id)) = some p := by
  induction T with
  | nil => intro _ p hp; cases hp
  | cons q T ih =>
    intro hn p hp
    rw [List.map_cons, List.nodup_cons] at hn
    rcases List.mem_cons.1 hp with rfl | hp
    · exact List.find?_cons_of_pos (by simp)
    · rw [List.find?_cons_of_neg, ih hn.2 p hp]
      simp only [decide_eq_true_eq]
      intro e
      exact hn.1 (List.mem_map.2 ⟨p, hp, e.symm⟩)

theorem look_markO {T : List BlkS} (hn : (T.map (fun p => p.1.id)).Nodup) {p : BlkS} (hp : p ∈ T) : look (marksOf T) p.1.id = markO p := by
  rw [look_marksOf hn, find_nodup hn p hp]
  rfl

theorem marksOf_marked {T : List BlkS} (hn : (T.map (fun p => p.1.id)).Nodup) : (marksOf T).length = marked T := by
  have key : ∀ (T : List BlkS) (M : PartsM), (T.map (fun p => p.1.id)).Nodup → (∀ p ∈ T, look M p.1.id = none) → (T.foldl markStep M).length = M.length + marked T := by
    intro T
    induction T with
    | nil => intro M _ _; rfl
    | cons p T ih =>
      intro M hn hM
      rw [List.map_cons, List.nodup_cons] at hn
      have hM' : ∀ q ∈ T, look (markStep M p) q.1.id = none := fun q hq => by
        unfold markStep
        split
        · rw [look_put, if_neg]
          · exact hM q (by simp [hq])
          · intro e
            exact hn.1 (List.mem_map.2 ⟨q, hq, e⟩)
        · exact hM q (by simp [hq])
      rw [List.foldl_cons, ih _ hn.2 hM']
      unfold markStep marked
      by_cases h0 : 0 ≤ p.2
      · rw [if_pos h0, put_newK (hM p (by simp)), List.length_append, List.filter_cons_of_pos (by simpa using h0)]
        simp only [List.length_cons, List.length_nil]
        omega
      · rw [if_neg h0, List.filter_cons_of_neg (by simpa using h0)]
  have := key T [] hn (by simp [look])
  simpa [marksOf] using this

theorem marked_perm {A B : List BlkS} (h : A.Perm B) : marked A = marked B := (h.filter _).length_eq
end Go.Proofs.YtjffdcflkkgpfaaGreat
