/-
  Is a text among some (slices.Index, slices.Contains), is a block a source (package meta): Lists. Which blocks are live, in plain words.
  No condition beyond those that each theorem states.
-/
import Derived.Test.YthlmlneiehijkaaAwake10
namespace Go.Proofs.Ythlmlneiehijkaa
open Go Go.RowKit Go.Conc
open Go.Op (bytesLess)

def hasB (S : List ByteArray) (id : ByteArray) : Bool := S.any fun x => decide (x = id)

theorem hasB_iff {S : List ByteArray} {id : ByteArray} : hasB S id = true ↔ id ∈ S := by
  simp [hasB]

def IndexPost (w : World) (S : List ByteArray) (id : ByteArray) (e : Ending) (w' : World) : Prop := ∃ n : Int, e = .returned (.int .i64 n) ∧ (0 ≤ n ↔ id ∈ S) ∧ w = w'

def IndexRel (w : World) (S : List ByteArray) (id : ByteArray) (gk : Nat) (u : Value) (wr : World) : Prop := ∃ k, k ≤ S.length ∧ gk = S.length - k ∧ u = .int .i64 k ∧ (∀ i (h : i < S.length), i < k → S[i] ≠ id) ∧ w = wr

set_option linter.unusedSimpArgs false in
set_option maxRecDepth 100000 in
set_option maxHeartbeats 1000000 in
theorem index_spec (w : World) (v : Value) (S : List ByteArray) (id : ByteArray) (h : SliceArg 1 encS1m w v S) :
    Calls Try.prog 61 #[v, .string id] w (IndexPost w S id) := by
  have Hs := Lib.hid h
  obtain ⟨a, c, rfl, hml, -⟩ := h
  unfold maxLen at hml
  go_enter Try.func61, Try.ntmps61
  go_wp2_with fail
  go_loopg [8] S.length (IndexRel w S id)
  case atStart => exact ⟨0, Nat.zero_le _, rfl, rfl, fun i h h2 => by omega, rfl⟩
  case round =>
    obtain ⟨k, hk, hgk, rfl, hno, rfl⟩ := hrel
    have Hg := Lib.hid hgk
    have Hno := Lib.hid hno
    clear hgk hno
    by_cases hlt : k < S.length
    · obtain ⟨b, off, ea, hb, hc⟩ := Hs.out.atI k hlt
      subst ea
      have d0 : w.cell? ⟨b, off + k, none⟩ = some (.string S[k]) := by simpa [encS1m] using hc 0 (by decide)
      have hlt' : (k : Int) < (S.length : Int) := by omega
      have hse : (id.toList == S[k].toList) = decide (S[k] = id) := by rw [toList_beq]; exact decide_eq_decide.2 ⟨fun h => h.symm, fun h => h.symm⟩
      by_cases he : S[k] = id
      · have hse2 : (id.toList == S[k].toList) = true := by rw [hse]; exact decide_eq_true he
        have hm : id ∈ S := he ▸ List.getElem_mem _
        have Hm := Lib.hid hm
        clear hse he hc hm
        generalize S[k] = s at d0 hse2
        go_wp2_with fail
        go_ret
        exact ⟨k, rfl, ⟨fun _ => Hm.out, fun _ => by omega⟩, rfl⟩
      · have hse2 : (id.toList == S[k].toList) = false := by rw [hse]; exact decide_eq_false he
        have He : Hid (∀ i (h : i < S.length), i < k + 1 → S[i] ≠ id) := Lib.hid fun i h h2 => by
          by_cases e : i = k
          · subst e; exact he
          · exact Hno.out i h (by omega)
        clear hse he hc
        generalize S[k] = s at d0 hse2
        go_wp2_with fail
        go_roundg (S.length - (k + 1))
        case measure => have := Hg.out; omega
        case rel => exact ⟨k + 1, by omega, rfl, by go_num, He.out, rfl⟩
    · have hge : ¬ (k : Int) < (S.length : Int) := by omega
      have hn : id ∉ S := fun hm => by
        obtain ⟨i, hi, e⟩ := List.mem_iff_getElem.1 hm
        exact Hno.out i hi (by omega) e
      have Hn := Lib.hid hn
      clear hn
      go_wp2_with fail
      go_ret
      exact ⟨-1, rfl, ⟨fun h => by omega, fun h => absurd h Hn.out⟩, rfl⟩

set_option maxRecDepth 100000 in
set_option maxHeartbeats 1000000 in
theorem contains_spec (w : World) (v : Value) (S : List ByteArray) (id : ByteArray) (h : SliceArg 1 encS1m w v S) :
    Calls Try.prog 44 #[v, .string id] w fun e w' => e = .returned (.bool (hasB S id)) ∧ w = w' := by
  have Hi := Lib.hid (index_spec w v S id h)
  obtain ⟨b, hb⟩ : ∃ b, b = hasB S id := ⟨_, rfl⟩
  rw [← hb]
  have Hb := Lib.hid hb
  clear h hb
  go_enter Try.func44, Try.ntmps44
  go_wp2_with fail
  refine Hi.out.mono ?_
  rintro e w1 ⟨n, rfl, hn, rfl⟩
  have hbn : decide (n ≥ 0) = b := by rw [Hb.out, Bool.eq_iff_iff, decide_eq_true_eq, hasB_iff]; exact hn
  clear hn
  go_wp2_with fail
  go_ret
  exact ⟨by rw [← hbn]; rfl, rfl⟩

set_option maxRecDepth 100000 in
set_option maxHeartbeats 1000000 in
theorem lists_spec (B : Nat) (w : World) (vs : List Value) (m : MetaS) (id : ByteArray) (h : MetaV B w vs m) :
    Calls Try.prog 24 #[.agg vs.toArray, .string id] w fun e w' => e = .returned (.bool (hasB m.sources id)) ∧ Keeps [] w w' := by
  obtain ⟨vf, vo, rfl, hsf, hso⟩ := h
  obtain ⟨af, cf, rfl, -, -, -, -⟩ := hsf
  have Hso := Lib.hid hso
  obtain ⟨ao, co, rfl, -, -, -, -⟩ := hso
  have ka : Keeps [] w (w.alloc (.cells #[.string m.id, .int .i64 m.mn, .int .i64 m.mx, .int .i64 m.level, .int .i64 m.series, .int .i64 m.samples, .slice af m.files.length cf, .slice ao m.sources.length co] 56)) := (Keeps.refl [] w).alloc _
  have Hc := Lib.hid (contains_spec _ _ m.sources id (kp ka Hso.out).arg)
  have Hk := Lib.hid ka
  obtain ⟨b, hb⟩ : ∃ b, b = hasB m.sources id := ⟨_, rfl⟩
  rw [← hb] at Hc ⊢
  clear ka hb
  go_enter Try.func24, Try.ntmps24
  go_wp2_with fail
  refine Hc.out.mono ?_
  rintro e w1 ⟨rfl, rfl⟩
  go_wp2_with fail
  go_ret
  exact ⟨rfl, Hk.out⟩

/-! Which are live -/
theorem made_count (L : List MetaS) (s : ByteArray) : (look (madeM L) s).getD 0 = ((L.flatMap (·.sources)).filter fun x => decide (x = s)).length := by
  unfold madeM
  rw [inc_count s _ [] (by simp [look])]
  simp [look]

theorem mem_live {L : List MetaS} {m : MetaS} : m ∈ liveL L ↔ m ∈ L ∧ ∀ z ∈ L, m.id ∉ z.sources := by
  unfold liveL aliveB
  rw [List.mem_filter, decide_eq_true_eq, made_count]
  refine and_congr_right fun _ => ?_
  constructor
  · intro h z hz hm
    have h0 : ((L.flatMap (·.sources)).filter fun x => decide (x = m.id)) = [] := List.eq_nil_of_length_eq_zero (by omega)
    have : m.id ∈ (L.flatMap (·.sources)).filter fun x => decide (x = m.id) := List.mem_filter.2 ⟨List.mem_flatMap.2 ⟨z, hz, hm⟩, by simp⟩
    rw [h0] at this
    cases this
  · intro h
    have : ((L.flatMap (·.sources)).filter fun x => decide (x = m.id)) = [] := by
      rw [List.filter_eq_nil_iff]
      intro x hx e
      obtain ⟨z, hz, hm⟩ := List.mem_flatMap.1 hx
      simp only [decide_eq_true_eq] at e
      rw [e] at hm
      exact h z hz hm
    rw [this]
    rfl

def cntM (I : List ByteArray) : PartsM := I.foldl incM []

theorem cntM_snoc {Q : List MetaS} {k : Nat} (h : k < Q.length) : cntM ((Q.take (k + 1)).map (·.id)) = put (cntM ((Q.take k).map (·.id))) Q[k].id ((look (cntM ((Q.take k).map (·.id))) Q[k].id).getD 0 + 1) := by
  unfold cntM
  rw [List.take_succ_eq_append_getElem h, List.map_append, List.foldl_append]
  rfl

theorem cntM_le (I : List ByteArray) (s : ByteArray) : 0 ≤ (look (cntM I) s).getD 0 ∧ (look (cntM I) s).getD 0 ≤ I.length := inc_le I s

/-- Each live block was counted once. -/
theorem live_once {L : List MetaS} (hn : (L.map (·.id)).Nodup) {m : MetaS} (hm : m ∈ L) : ((look (cntM ((liveL L).map (·.id))) m.id).getD 0 == (1 : Int)) = ((look (madeM L) m.id).getD 0 == (0 : Int)) := by
  have h1 : (look (cntM ((liveL L).map (·.id))) m.id).getD 0 = (((liveL L).map (·.id)).filter fun x => decide (x = m.id)).length := by
    unfold cntM
    rw [inc_count m.id _ [] (by simp [look])]
    simp [look]
  have hnl : ((liveL L).map (·.id)).Nodup := hn.sublist ((List.filter_sublist).map _)
  rw [h1, Bool.eq_iff_iff, beq_iff_eq, beq_iff_eq]
  have hcount : (((liveL L).map (·.id)).filter fun x => decide (x = m.id)).length = if hasB ((liveL L).map (·.id)) m.id = true then 1 else 0 := by
    generalize (liveL L).map (·.id) = I at hnl
    induction I with
    | nil => rfl
    | cons x I ih =>
      rw [List.nodup_cons] at hnl
      have := ih hnl.2
      by_cases e : x = m.id
      · subst e
        have h0 : (I.filter fun y => decide (y = m.id)).length = 0 := by rw [this, if_neg (fun h => hnl.1 (hasB_iff.1 h))]
        simp [h0, hasB]
      · have e3 : hasB (x :: I) m.id = hasB I m.id := by simp [hasB, e]
        rw [e3, ← this]
        simp [e]
  rw [hcount]
  have hiff : hasB ((liveL L).map (·.id)) m.id = true ↔ (look (madeM L) m.id).getD 0 = 0 := by
    rw [hasB_iff, List.mem_map]
    constructor
    · rintro ⟨x, hx, e⟩
      have := (List.mem_filter.1 hx).2
      unfold aliveB at this
      rw [decide_eq_true_eq, e] at this
      exact this
    · intro h
      exact ⟨m, List.mem_filter.2 ⟨hm, by unfold aliveB; exact decide_eq_true h⟩, rfl⟩
  by_cases h : hasB ((liveL L).map (·.id)) m.id = true
  · rw [if_pos h]
    simp [hiff.1 h]
  · rw [if_neg h]
    have : ¬ (look (madeM L) m.id).getD 0 = 0 := fun e => h (hiff.2 e)
    simp [this]

/-- What is not a map stays while a map turns. -/
theorem SliceFrom.keepMap {α : Type} {B size : Nat} {enc : α → List Value} {w w' : World} {v : Value} {L : List α} {mb : Nat} {kv : KV} (h : SliceFrom B size enc w v L) (hs : 0 < size) (he : ∀ x ∈ L, size ≤ (enc x).length) (hm : MapAt w mb kv) (k : Keeps [mb] w w') : SliceFrom B size enc w' v L := by
  obtain ⟨ao, cap, e, hl, hc, hn, h⟩ := h
  refine ⟨ao, cap, e, hl, hc, hn, fun i hi => ?_⟩
  obtain ⟨b, off, e2, hb, hlt, hcell⟩ := h i hi
  have hbm : b ∉ [mb] := fun hx => by
    simp only [List.mem_singleton] at hx
    subst hx
    have h0 := hcell 0 hs
    rw [List.getElem?_eq_getElem (by have := he L[i] (List.getElem_mem _); omega)] at h0
    obtain ⟨E, c, hh, -⟩ := hm
    simp [World.cell?, hh] at h0
  exact ⟨b, off, e2, hb, k.lt hlt, fun j hj => (k.cell hlt hbm).trans (hcell j hj)⟩

theorem MetasV.keepMap {B : Nat} {w w' : World} {v : Value} {L : List MetaS} {mb : Nat} {kv : KV} (h : MetasV B w v L) (hm : MapAt w mb kv) (k : Keeps [mb] w w') : MetasV B w' v L := by
  obtain ⟨VS, h1, h2, h3⟩ := h
  have hlen : ∀ vs ∈ VS, 8 ≤ (id vs).length := fun vs hvs => by
    obtain ⟨i, hi, rfl⟩ := List.mem_iff_getElem.1 hvs
    obtain ⟨_, _, e, _⟩ := h3 i hi (by omega)
    rw [e]
    exact Nat.le_refl _
  refine ⟨VS, h1.keepMap (by decide) hlen hm k, h2, fun i hi hi' => ?_⟩
  obtain ⟨vf, vo, e, hf, ho⟩ := h3 i hi hi'
  exact ⟨vf, vo, e, hf.keepMap (by decide) (fun _ _ => Nat.le_refl _) hm k, ho.keepMap (by decide) (fun _ _ => Nat.le_refl _) hm k⟩

/-- An element of a slice of metas, its cells one by one. -/
theorem MetasV.elem {B : Nat} {w : World} {a : Option Addr} {n c : Nat} {L : List MetaS} (h : MetasV B w (.slice a n c) L) (k : Nat) (hk : k < L.length) :
    ∃ b off af cf ao co, a = some ⟨b, off, none⟩ ∧ b < w.heap.size ∧ MetaV B w [.string L[k].id, .int .i64 L[k].mn, .int .i64 L[k].mx, .int .i64 L[k].level, .int .i64 L[k].series, .int .i64 L[k].samples, .slice af L[k].files.length cf, .slice ao L[k].sources.length co] L[k] ∧
      w.cell? ⟨b, off + k * 8, none⟩ = some (.string L[k].id) ∧ w.cell? ⟨b, off + k * 8 + 1, none⟩ = some (.int .i64 L[k].mn) ∧ w.cell? ⟨b, off + k * 8 + 2, none⟩ = some (.int .i64 L[k].mx) ∧ w.cell? ⟨b, off + k * 8 + 3, none⟩ = some (.int .i64 L[k].level) ∧
      w.cell? ⟨b, off + k * 8 + 4, none⟩ = some (.int .i64 L[k].series) ∧ w.cell? ⟨b, off + k * 8 + 5, none⟩ = some (.int .i64 L[k].samples) ∧ w.cell? ⟨b, off + k * 8 + 6, none⟩ = some (.slice af L[k].files.length cf) ∧ w.cell? ⟨b, off + k * 8 + 7, none⟩ = some (.slice ao L[k].sources.length co) := by
  obtain ⟨VS, h1, h2, h3⟩ := h
  obtain ⟨b, off, e, -, hlt, hc⟩ := h1.atI k (by omega)
  have hv := h3 k (by omega) hk
  have hv' := hv
  obtain ⟨vf, vo, hvs, hf, ho⟩ := hv
  obtain ⟨af, cf, rfl, -, -, -, -⟩ := hf
  obtain ⟨ao, co, rfl, -, -, -, -⟩ := ho
  rw [hvs] at hc hv'
  exact ⟨b, off, af, cf, ao, co, e, hlt, hv', hc 0 (by decide), hc 1 (by decide), hc 2 (by decide), hc 3 (by decide), hc 4 (by decide), hc 5 (by decide), hc 6 (by decide), hc 7 (by decide)⟩
end Go.Proofs.Ythlmlneiehijkaa
