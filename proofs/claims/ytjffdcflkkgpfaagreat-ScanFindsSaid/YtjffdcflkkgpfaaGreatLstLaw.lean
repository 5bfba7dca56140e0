/-
  Listings in plain words: what a listing's bytes say again, which blocks are the same.
  No condition beyond those that each theorem states.
-/
import Derived.Test.YtjffdcflkkgpfaaGreatBlocks
import Derived.Test.YtjffdcflkkgpfaaGreatStb
namespace Go.Proofs.YtjffdcflkkgpfaaGreat
open Go Go.RowKit Go.Conc
open Go.Op (bytesLess)

/-- Two lists of the same that rise are one. -/
theorem rise_eq {α : Type} (key : α → List UInt8) : ∀ {A B : List α}, A.Perm B → A.Pairwise (fun x y => bytesLess (key x) (key y) = true) → B.Pairwise (fun x y => bytesLess (key x) (key y) = true) → A = B
  | [], B, hp, _, _ => (List.Perm.nil_eq hp)
  | a :: A, [], hp, _, _ => by have := hp.length_eq; simp at this
  | a :: A, b :: B, hp, ha, hb => by
    rw [List.pairwise_cons] at ha hb
    have hab : a = b := by
      rcases List.mem_cons.1 (hp.subset (by simp : a ∈ a :: A)) with h | h
      · exact h
      · rcases List.mem_cons.1 (hp.symm.subset (by simp : b ∈ b :: B)) with h2 | h2
        · exact h2.symm
        · have h3 := less_transM (ha.1 b h2) (hb.1 a h)
          rw [less_irr] at h3
          cases h3
    subst hab
    rw [rise_eq key (List.Perm.cons_inv hp) ha.2 hb.2]

theorem look_marksOf : ∀ {T : List BlkS}, (T.map (fun p => p.1.id)).Nodup → ∀ id, look (marksOf T) id = ((T.find? fun p => decide (p.1.id = id)).bind fun p => if 0 ≤ p.2 then some p.2 else none) := by
  have key : ∀ (T : List BlkS) (M : PartsM), (T.map (fun p => p.1.id)).Nodup → (∀ p ∈ T, look M p.1.id = none) → ∀ id, look (T.foldl markStep M) id = ((T.find? fun p => decide (p.1.id = id)).bind fun p => if 0 ≤ p.2 then some p.2 else none).orElse (fun _ => look M id) := by
    intro T
    induction T with
    | nil => intro M _ _ id; rfl
    | cons p T ih =>
      intro M hn hM id
      rw [List.map_cons, List.nodup_cons] at hn
      have hM' : ∀ q ∈ T, look (markStep M p) q.1.id = none := fun q hq => by
        unfold markStep
        split
        · rw [look_put, if_neg]
          · exact hM q (by simp [hq])
          · intro e
            exact hn.1 (List.mem_map.2 ⟨q, hq, e⟩)
        · exact hM q (by simp [hq])
      rw [List.foldl_cons, ih _ hn.2 hM' id]
      by_cases he : p.1.id = id
      · subst he
        have hf : T.find? (fun q => decide (q.1.id = p.1.id)) = none := by
          rw [List.find?_eq_none]
          intro q hq e
          simp only [decide_eq_true_eq] at e
          exact hn.1 (List.mem_map.2 ⟨q, hq, e⟩)
        rw [hf, List.find?_cons_of_pos (by simp)]
        unfold markStep
        by_cases h0 : 0 ≤ p.2
        · simp [h0, look_put]
        · simp [h0]
      · rw [List.find?_cons_of_neg (by simpa using he)]
        unfold markStep
        by_cases h0 : 0 ≤ p.2
        · have : ¬ id = p.1.id := fun e => he e.symm
          simp [h0, look_put, this]
        · simp [h0]
  intro T hn id
  have := key T [] hn (by simp [look]) id
  simpa [marksOf, look] using this

theorem marksOf_mem {T : List BlkS} {p : ByteArray × Int} (h : p ∈ marksOf T) : ∃ q ∈ T, q.1.id = p.1 ∧ q.2 = p.2 ∧ 0 ≤ p.2 := by
  have key : ∀ (T : List BlkS) (M : PartsM), p ∈ T.foldl markStep M → p ∈ M ∨ ∃ q ∈ T, q.1.id = p.1 ∧ q.2 = p.2 ∧ 0 ≤ p.2 := by
    intro T
    induction T with
    | nil => intro M h; exact .inl h
    | cons q T ih =>
      intro M h
      rw [List.foldl_cons] at h
      rcases ih _ h with h | ⟨r, hr, h⟩
      · unfold markStep at h
        split at h
        · rcases mem_put h with h | h
          · exact .inr ⟨q, by simp, by rw [h], by rw [h], by rw [h]; assumption⟩
          · exact .inl h
        · exact .inl h
      · exact .inr ⟨r, by simp [hr], h⟩
  rcases key T [] h with h | h
  · simp at h
  · exact h

theorem marksOf_len (T : List BlkS) : (marksOf T).length ≤ T.length := by
  have key : ∀ (T : List BlkS) (M : PartsM), (T.foldl markStep M).length ≤ M.length + T.length := by
    intro T
    induction T with
    | nil => intro M; simp
    | cons q T ih =>
      intro M
      rw [List.foldl_cons]
      have := ih (markStep M q)
      have h2 : (markStep M q).length ≤ M.length + 1 := by
        unfold markStep
        split
        · exact put_len_le _ _ _
        · omega
      simp only [List.length_cons]
      omega
  simpa [marksOf] using key T []

/-- The blocks' listing may be. -/
theorem listOk_of {T : List BlkS} (h : BlkInv10 T) (hl : T.length ≤ 10) {L : List MetaS} (hp : L.Perm (T.map (·.1))) (hr : L.Pairwise fun a b => bytesLess a.id.data.toList b.id.data.toList = true) {at_ : Nat} (ha : at_ ≤ 1099511627776) : ListOk at_ L (marksOf T) where
  at_ := ha
  few := by have := hp.length_eq; rw [List.length_map] at this; omega
  ok := fun m hm => by
    obtain ⟨p, hp2, rfl⟩ := List.mem_map.1 (hp.subset hm)
    exact h.ok p hp2
  rise := hr
  marks := fun p hpm => by
    obtain ⟨q, hq, e1, e2, e3⟩ := marksOf_mem hpm
    refine ⟨⟨q.1, hp.symm.subset (List.mem_map.2 ⟨q, hq, rfl⟩), e1⟩, e3, ?_⟩
    have := (h.mark q hq).2
    omega
  mfew := by have := marksOf_len T; omega

theorem lstL_took {at_ : Nat} (L : List MetaS) (M : PartsM) : lstL at_ L (tookM M L) = lstL at_ L M := by
  have hb : ∀ m ∈ L, blockL (tookM M L) m = blockL M m := fun m hm => by
    unfold blockL markN
    rw [look_tookM ⟨m, hm, rfl⟩]
  have : ∀ (Q : List MetaS), (∀ m ∈ Q, m ∈ L) → Q.flatMap (blockL (tookM M L)) = Q.flatMap (blockL M) := by
    intro Q
    induction Q with
    | nil => intro _; rfl
    | cons q Q ih =>
      intro h
      rw [List.flatMap_cons, List.flatMap_cons, ih fun m hm => h m (by simp [hm]), hb q (h q (by simp))]
  unfold lstL
  rw [this L fun _ h => h]
end Go.Proofs.YtjffdcflkkgpfaaGreat

namespace Go.Proofs.YtjffdcflkkgpfaaGreat
open Go Go.RowKit Go.Conc
open Go.Op (bytesLess)

theorem encOneL_len (x : OneL) : (encOneL x).length = 11 := rfl

theorem MetasV.form {B : Nat} {w : World} {v : Value} {L : List MetaS} (h : MetasV B w v L) : ∃ a c, v = .slice a L.length c := by
  obtain ⟨VS, ⟨a, c, e, -⟩, hl, -⟩ := h
  exact ⟨a, c, by rw [e, hl]⟩

theorem MetasV.id_at {B : Nat} {w : World} {a : Option Addr} {n c : Nat} {L : List MetaS} (h : MetasV B w (.slice a n c) L) (i : Nat) (hi : i < L.length) : ∃ b off, a = some ⟨b, off, none⟩ ∧ b < w.heap.size ∧ w.cell? ⟨b, off + i * 8, none⟩ = some (.string L[i].id) := by
  obtain ⟨VS, h1, h2, h3⟩ := h
  obtain ⟨b, off, e, -, hlt, hc⟩ := h1.atI i (by omega)
  obtain ⟨vf, vo, hvs, -⟩ := h3 i (by omega) hi
  have := hc 0 (by decide)
  rw [hvs] at this
  exact ⟨b, off, e, hlt, this⟩

theorem sliceArg_block {α : Type} {size : Nat} {enc : α → List Value} (henc : ∀ x, (enc x).length = size) {w : World} {b : Nat} {t : TypeId} {f : Nat × Nat} {O : List α} {n c : Nat} (h : w.heap[b]? = some (.cells (O.flatMap enc).toArray t f)) (hn : n = O.length) (hl : O.length ≤ maxLen) : SliceArg size enc w (.slice (some ⟨b, 0, none⟩) n c) O := by
  subst hn
  refine ⟨_, c, rfl, hl, fun i hi => ⟨b, 0, rfl, lt_of_at h, fun j hj => ?_⟩⟩
  rw [cells_at h, Nat.zero_add]
  simpa using flatMap_at enc size henc O i hi j hj
end Go.Proofs.YtjffdcflkkgpfaaGreat
