/-
  The document's victims are the program's, in plain words.
  No program in sight.
-/
import Derived.Test.YtbndpegilpgheaaGreatSweepFill
namespace Go.Proofs.YtbndpegilpgheaaGreat
open Go Go.RowKit

theorem sorted_unique {α : Type} (r : α → α → Prop) (irr : ∀ x, ¬ r x x) (tr : ∀ x y z, r x y → r y z → r x z) : ∀ {l l' : List α}, l.Pairwise r → l'.Pairwise r → (∀ x, x ∈ l ↔ x ∈ l') → l = l'
  | [], [], _, _, _ => rfl
  | [], y :: m, _, _, h => absurd ((h y).2 (by simp)) (by simp)
  | x :: l, [], _, _, h => absurd ((h x).1 (by simp)) (by simp)
  | x :: l, y :: m, h1, h2, h => by
    rw [List.pairwise_cons] at h1 h2
    have hxy : x = y := by
      rcases List.mem_cons.1 ((h x).1 (by simp)) with e | e
      · exact e
      · rcases List.mem_cons.1 ((h y).2 (by simp)) with e2 | e2
        · exact e2.symm
        · exact absurd (tr _ _ _ (h1.1 y e2) (h2.1 x e)) (irr x)
    subst hxy
    congr 1
    refine sorted_unique r irr tr h1.2 h2.2 fun z => ⟨fun hz => ?_, fun hz => ?_⟩
    · rcases List.mem_cons.1 ((h z).1 (by simp [hz])) with e | e
      · subst e; exact absurd (h1.1 z hz) (irr z)
      · exact e
    · rcases List.mem_cons.1 ((h z).2 (by simp [hz])) with e | e
      · subst e; exact absurd (h2.1 z hz) (irr z)
      · exact e

/-- Rising, strictly. -/
def ltB (a b : ByteArray) : Prop := a.data.toList < b.data.toList

theorem ltB_irr (a : ByteArray) : ¬ ltB a a := List.lt_irrefl _

theorem ltB_tr (a b c : ByteArray) (h1 : ltB a b) (h2 : ltB b c) : ltB a c := List.lt_trans h1 h2

theorem sortB_ltB {l : List ByteArray} (h : l.Nodup) : (sortB l).Pairwise ltB := by
  unfold sortB
  rw [List.pairwise_map]
  have tr : ∀ a b c : List UInt8, leB a b = true → leB b c = true → leB a c = true := fun a b c h1 h2 => by simp only [leB, decide_eq_true_eq] at *; exact List.le_trans h1 h2
  have to' : ∀ a b : List UInt8, (leB a b || leB b a) = true := fun a b => by simp only [leB, Bool.or_eq_true, decide_eq_true_eq]; exact List.le_total a b
  have h1 := List.pairwise_mergeSort tr to' (l.map (·.data.toList))
  have h2 : ((l.map (·.data.toList)).mergeSort leB).Nodup := by
    rw [(List.mergeSort_perm _ leB).nodup_iff]
    exact List.pairwise_map.2 (h.imp fun hne e => hne (ba_ext e))
  refine (h1.and h2).imp fun {a b} ⟨hle, hne⟩ => ?_
  simp only [leB, decide_eq_true_eq] at hle
  show a < b
  rcases Classical.em (a < b) with hlt | hlt
  · exact hlt
  · exact absurd (List.le_antisymm hle (List.not_lt.1 hlt)) hne

/-- Of two names with beginnings of one length the beginnings do not fall. -/
theorem pre_lt : ∀ {a b r s : List UInt8}, a.length = b.length → a ++ r < b ++ s → a = b ∨ a < b
  | [], [], _, _, _, _ => .inl rfl
  | x :: a, y :: b, r, s, hl, h => by
    simp only [List.cons_append, List.cons_lt_cons_iff] at h
    rcases h with h | ⟨rfl, h⟩
    · exact .inr (List.cons_lt_cons_iff.2 (.inl h))
    · rcases pre_lt (by simpa using hl) h with e | e
      · exact .inl (by rw [e])
      · exact .inr (List.cons_lt_cons_iff.2 (.inr ⟨rfl, e⟩))


/-- What the document does at an object's name: a block that it hasn't met just before. -/
def refStep (F : ByteArray → List ByteArray) (s : ByteArray × List ByteArray) (n : ByteArray) : ByteArray × List ByteArray :=
  match splitL n.data.toList with
  | none => s
  | some (id, _) => if (⟨id.toArray⟩ : ByteArray) = s.1 then s else (⟨id.toArray⟩, s.2 ++ F ⟨id.toArray⟩)

def refVict (F : ByteArray → List ByteArray) (N : List ByteArray) : ByteArray × List ByteArray := N.foldl (refStep F) (⟨#[]⟩, [])

theorem refVict_next (F : ByteArray → List ByteArray) {N : List ByteArray} {k : Nat} (hk : k < N.length) : refVict F (N.take (k + 1)) = refStep F (refVict F (N.take k)) N[k] := by
  unfold refVict
  rw [List.take_succ_eq_append_getElem hk, List.foldl_append]
  rfl

/-- A list of blocks, rising, that says what the document has met. -/
structure RefInv (F : ByteArray → List ByteArray) (M : List ByteArray) (s : ByteArray × List ByteArray) (D : List ByteArray) : Prop where
  out : s.2 = D.flatMap F
  rise : D.Pairwise ltB
  mem : ∀ id, id ∈ D ↔ ∃ n ∈ M, ∃ part, splitL n.data.toList = some (id.data.toList, part)
  last : D = [] ∧ s.1 = ⟨#[]⟩ ∨ ∃ D', D = D' ++ [s.1]

theorem ref_inv (F : ByteArray → List ByteArray) {N : List ByteArray} (hs : N.Pairwise ltB) (hv : ∀ n ∈ N, ∃ id part, isIDB id.data.toList = true ∧ part ∈ partsB ∧ n = objectB id part) : ∀ k, k ≤ N.length → ∃ D, RefInv F (N.take k) (refVict F (N.take k)) D
  | 0, _ => ⟨[], rfl, List.Pairwise.nil, by simp, .inl ⟨rfl, rfl⟩⟩
  | k + 1, hk => by
    obtain ⟨D, h⟩ := ref_inv F hs hv k (by omega)
    rw [refVict_next F (by omega)]
    obtain ⟨id, part, hi, hp, hn⟩ := hv N[k] (List.getElem_mem _)
    have hsp : splitL N[k].data.toList = some (id.data.toList, part.data.toList) := by rw [hn]; exact object_split hi hp
    have hmem : ∀ x, (∃ n ∈ N.take (k + 1), ∃ part, splitL n.data.toList = some (x.data.toList, part)) ↔ (x ∈ D ∨ x = id) := by
      intro x
      rw [List.take_succ_eq_append_getElem (by omega), h.mem]
      constructor
      · rintro ⟨n, hn, q, hq⟩
        rcases List.mem_append.1 hn with hn | hn
        · exact .inl ⟨n, hn, q, hq⟩
        · simp only [List.mem_singleton] at hn
          rw [hn, hsp] at hq
          simp only [Option.some.injEq, Prod.mk.injEq] at hq
          exact .inr (ba_ext hq.1.symm)
      · rintro (⟨n, hn, q, hq⟩ | rfl)
        · exact ⟨n, List.mem_append_left _ hn, q, hq⟩
        · exact ⟨N[k], List.mem_append_right _ (List.mem_singleton.2 rfl), _, hsp⟩
    unfold refStep
    rw [hsp]
    simp only
    rw [show (⟨id.data.toList.toArray⟩ : ByteArray) = id from ba_mk id]
    by_cases e : id = (refVict F (N.take k)).1
    · rw [if_pos e]
      refine ⟨D, h.out, h.rise, fun x => ?_, h.last⟩
      rw [hmem]
      refine ⟨.inl, fun hx => ?_⟩
      rcases hx with hx | rfl
      · exact hx
      · rcases h.last with ⟨_, h2⟩ | ⟨D', h2⟩
        · rw [h2] at e
          have := id_size hi
          rw [e] at this
          exact absurd this (by decide)
        · rw [h2, ← e]; simp
    · rw [if_neg e]
      refine ⟨D ++ [id], by simp [h.out], ?_, fun x => ?_, .inr ⟨D, rfl⟩⟩
      · rw [List.pairwise_append]
        refine ⟨h.rise, by simp, fun x hx y hy => ?_⟩
        simp only [List.mem_singleton] at hy
        have hy' := hy.symm
        subst hy'
        -- the last one is below: it is the block of some name ahead, and not this one
        have hlast : ∀ x ∈ D, x = (refVict F (N.take k)).1 ∨ ltB x (refVict F (N.take k)).1 := by
          intro x hx
          rcases h.last with ⟨h1, _⟩ | ⟨D', h1⟩
          · rw [h1] at hx; cases hx
          · have hr := h.rise
            rw [h1, List.pairwise_append] at hr
            rw [h1] at hx
            rcases List.mem_append.1 hx with hx | hx
            · exact .inr (hr.2.2 x hx _ (by simp))
            · exact .inl (by simpa using hx)
        have hl : (refVict F (N.take k)).1 ∈ D := by
          rcases h.last with ⟨h1, _⟩ | ⟨D', h1⟩
          · rw [h1] at hx; cases hx
          · rw [h1]; simp
        obtain ⟨n, hnm, q, hq⟩ := (h.mem _).1 hl
        obtain ⟨j, hj, rfl⟩ := List.getElem_of_mem hnm
        have hj2 : j < k := by rw [List.length_take] at hj; omega
        have hlt := List.pairwise_iff_getElem.1 hs j k (by omega) (by omega) hj2
        rw [List.getElem_take] at hq
        obtain ⟨a1, a2, a3⟩ := splitL_some hq
        obtain ⟨b1, b2, b3⟩ := splitL_some hsp
        have hlt' : N[j].data.toList < N[k].data.toList := hlt
        rw [a1, b1] at hlt'
        have hlen : (refVict F (N.take k)).1.data.toList.length = id.data.toList.length := by rw [(isID_signs a2).1, (isID_signs b2).1]
        have hltl : ltB (refVict F (N.take k)).1 id := by
          rcases pre_lt hlen hlt' with e2 | e2
          · exact absurd (ba_ext e2).symm e
          · exact e2
        rcases hlast x hx with rfl | h3
        · exact hltl
        · exact ltB_tr _ _ _ h3 hltl
      · rw [hmem]; simp

theorem leastL_ext {l l' : List Int} (h : ∀ x, x ∈ l ↔ x ∈ l') : leastL l = leastL l' := by
  by_cases hn : l = []
  · subst hn
    have : l' = [] := List.eq_nil_iff_forall_not_mem.2 fun x hx => by have := (h x).2 hx; cases this
    rw [this]
  · have hn' : l' ≠ [] := fun e => by
      subst e
      have := (h _).1 (leastL_mem hn)
      cases this
    have h1 := leastL_le ((h _).1 (leastL_mem hn))
    have h2 := leastL_le ((h _).2 (leastL_mem hn'))
    omega

/-- When the objects of a block were put, in their order. -/
def ticksIn (L : List (ByteArray × Ob)) (id : ByteArray) : List Int := L.filterMap fun p => match splitL p.1.data.toList with | some (a, _) => if (⟨a.toArray⟩ : ByteArray) = id then some p.2.2 else none | none => none

theorem mem_ticksIn {L : List (ByteArray × Ob)} {id : ByteArray} {t : Int} : t ∈ ticksIn L id ↔ ∃ p ∈ L, ∃ part, splitL p.1.data.toList = some (id.data.toList, part) ∧ p.2.2 = t := by
  unfold ticksIn
  rw [List.mem_filterMap]
  constructor
  · rintro ⟨p, hp, h⟩
    cases hs : splitL p.1.data.toList with
    | none => rw [hs] at h; cases h
    | some ab =>
      obtain ⟨a, b⟩ := ab
      rw [hs] at h
      simp only at h
      split at h
      · rename_i e
        injection h with h
        exact ⟨p, hp, b, by rw [← e]; exact hs, h⟩
      · cases h
  · rintro ⟨p, hp, part, hs, rfl⟩
    refine ⟨p, hp, ?_⟩
    rw [hs]
    exact if_pos (ba_mk id)

theorem ticks_blk {L : List (ByteArray × Ob)} (hnd : (L.map (·.1)).Nodup) (id : ByteArray) : leastL (ticksIn L id) = leastL ((blkOf L id).map (·.2)) := by
  have inv := blocks_inv hnd
  refine leastL_ext fun t => ?_
  rw [mem_ticksIn, List.mem_map]
  have hkey : ((blkOf L id).map (·.1)).Nodup := by
    unfold blkOf
    cases hl : look (blocksOf L) id with
    | none => simp
    | some x => exact (inv.keys _ (look_mem hl)).1
  constructor
  · rintro ⟨p, hp, part, hs, rfl⟩
    obtain ⟨hn, hi, hpp⟩ := split_name hs
    rw [show (⟨id.data.toList.toArray⟩ : ByteArray) = id from ba_mk id] at hn
    have h1 := inv.says id ⟨part.toArray⟩
    rw [if_pos ⟨hi, isPart_mem.2 hpp⟩, ← hn, look_of_mem hnd (v := p.2) hp] at h1
    exact ⟨_, look_mem h1, rfl⟩
  · rintro ⟨q, hq, rfl⟩
    have h1 := look_of_mem hkey (n := q.1) (v := q.2) hq
    have h2 := inv.says id q.1
    unfold blkOf at h1
    rw [h1] at h2
    split at h2
    · rename_i hc
      cases hl : look L (objectB id q.1) with
      | none => rw [hl] at h2; cases h2
      | some x =>
        rw [hl] at h2
        injection h2 with h2
        exact ⟨(objectB id q.1, x), look_mem hl, q.1.data.toList, object_split hc.1 (isPart_mem.1 hc.2), h2.symm⟩
    · cases h2

/-- The document's victims are the program's. -/
theorem ref_victims {d g now : Int} {o : Bkt} {k : Nat} (h : Parted o k) (mk : ByteArray → Option Int) :
    (refVict (victimsOf d g now (blocksOf (listing o ⟨#[]⟩)) mk) ((listing o ⟨#[]⟩).map (·.1))).2 = victimsL d g now (listing o ⟨#[]⟩) mk := by
  have hnd := listing_nodup h.nodup
  have inv := blocks_inv hnd
  have hs : ((listing o ⟨#[]⟩).map (·.1)).Pairwise ltB := by rw [listing_keys]; exact sortB_ltB h.nodup
  have hv : ∀ n ∈ (listing o ⟨#[]⟩).map (·.1), ∃ id part, isIDB id.data.toList = true ∧ part ∈ partsB ∧ n = objectB id part := fun n hn => h.name (listing_mem.1 hn)
  obtain ⟨D, hD⟩ := ref_inv (victimsOf d g now (blocksOf (listing o ⟨#[]⟩)) mk) hs hv ((listing o ⟨#[]⟩).map (·.1)).length (Nat.le_refl _)
  rw [List.take_length] at hD
  rw [hD.out]
  unfold victimsL
  congr 1
  refine sorted_unique ltB ltB_irr ltB_tr hD.rise (sortB_ltB inv.nodup) fun id => ?_
  rw [hD.mem, (sortB_perm _).mem_iff]
  constructor
  · rintro ⟨n, hn, part, hs⟩
    obtain ⟨hn2, hi, hp⟩ := split_name hs
    rw [show (⟨id.data.toList.toArray⟩ : ByteArray) = id from ba_mk id] at hn2
    obtain ⟨x, hx⟩ := look_isSome hn
    have h1 := inv.says id ⟨part.toArray⟩
    rw [if_pos ⟨hi, isPart_mem.2 hp⟩, ← hn2, hx] at h1
    cases hl : look (blocksOf (listing o ⟨#[]⟩)) id with
    | none => rw [hl] at h1; simp [look] at h1
    | some y => exact List.mem_map.2 ⟨_, look_mem hl, rfl⟩
  · intro hm
    obtain ⟨p, hp, rfl⟩ := List.mem_map.1 hm
    obtain ⟨hi, hne⟩ := inv.ok p hp
    obtain ⟨q, hq⟩ := List.exists_mem_of_ne_nil _ hne
    have hkk := inv.keys p hp
    have h1 := look_of_mem hkk.1 (n := q.1) (v := q.2) hq
    have h2 := inv.says p.1 q.1
    rw [look_of_mem inv.nodup (n := p.1) (v := p.2) hp, Option.getD_some, h1, if_pos ⟨hi, isPart_mem.2 (hkk.2 q hq)⟩] at h2
    cases hl : look (listing o ⟨#[]⟩) (objectB p.1 q.1) with
    | none => rw [hl] at h2; cases h2
    | some x => exact ⟨objectB p.1 q.1, List.mem_map.2 ⟨_, look_mem hl, rfl⟩, _, object_split hi (hkk.2 q hq)⟩
end Go.Proofs.YtbndpegilpgheaaGreat
