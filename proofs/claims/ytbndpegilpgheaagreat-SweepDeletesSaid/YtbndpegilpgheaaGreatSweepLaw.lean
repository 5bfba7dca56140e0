/-
  What a sweep takes, in plain words: the parts of blocks, the smallest tick, the victims.
  No condition beyond those that each theorem states.
-/
import Derived.Test.YtbndpegilpgheaaGreatMapRange
import Derived.Test.YtbndpegilpgheaaGreatSweep
import Derived.Test.YtbndpegilpgheaaGreatMark
namespace Go.Proofs.YtbndpegilpgheaaGreat
open Go Go.RowKit

instance decMemB (n : ByteArray) (V : List ByteArray) : Decidable (n ∈ V) := decidable_of_iff (V.any (fun x => decide (n = x)) = true) (by simp)
/-! ## The smallest of some ticks -/
def leastL : List Int → Int
  | [] => -1
  | x :: l => l.foldl min x

theorem foldl_min : ∀ (l : List Int) (x : Int), (l.foldl min x ∈ x :: l) ∧ ∀ y ∈ x :: l, l.foldl min x ≤ y
  | [], x => by simp
  | a :: l, x => by
    obtain ⟨h1, h2⟩ := foldl_min l (min x a)
    simp only [List.foldl_cons]
    constructor
    · rcases List.mem_cons.1 h1 with h | h
      · rw [h]
        rcases Int.le_total x a with h3 | h3
        · rw [Int.min_eq_left h3]; simp
        · rw [Int.min_eq_right h3]; simp
      · simp [h]
    · intro y hy
      have h0 := h2 (min x a) (by simp)
      rcases List.mem_cons.1 hy with rfl | hy
      · exact Int.le_trans h0 (Int.min_le_left _ _)
      · rcases List.mem_cons.1 hy with rfl | hy
        · exact Int.le_trans h0 (Int.min_le_right _ _)
        · exact h2 y (by simp [hy])

theorem leastL_mem {l : List Int} (h : l ≠ []) : leastL l ∈ l := by
  cases l with
  | nil => exact absurd rfl h
  | cons x l => exact (foldl_min l x).1

theorem leastL_le {l : List Int} {y : Int} (h : y ∈ l) : leastL l ≤ y := by
  cases l with
  | nil => cases h
  | cons x l => exact (foldl_min l x).2 y h

theorem leastL_perm {l l' : List Int} (h : l.Perm l') : leastL l = leastL l' := by
  by_cases hn : l = []
  · subst hn
    rw [h.symm.eq_nil]
  · have hn' : l' ≠ [] := fun e => hn (by subst e; exact h.eq_nil)
    have h1 := leastL_le (h.mem_iff.1 (leastL_mem hn))
    have h2 := leastL_le (h.mem_iff.2 (leastL_mem hn'))
    omega

theorem leastL_step (l : List Int) (a : Int) (h : ∀ x ∈ l, 0 ≤ x) : leastL (l ++ [a]) = if leastL l < 0 ∨ a < leastL l then a else leastL l := by
  cases l with
  | nil => simp [leastL]
  | cons x l =>
    have h0 : 0 ≤ leastL (x :: l) := h _ (leastL_mem (by simp))
    have e : leastL (x :: l ++ [a]) = min (leastL (x :: l)) a := by simp [leastL, List.foldl_append]
    rw [e]
    split
    · rename_i hc
      rw [Int.min_eq_right (by omega)]
    · rename_i hc
      rw [Int.min_eq_left (by omega)]

/-! ## Objects' names -/
def partsB : List ByteArray := [metaB, indexB, chunksB, markB]

def rankP (p : ByteArray) : Nat := if p = metaB then 0 else if p = indexB then 1 else if p = chunksB then 2 else 3

theorem isPart_mem {p : ByteArray} : isPart p.data.toList = true ↔ p ∈ partsB := by
  have h : ∀ q : ByteArray, (p.data.toList == q.data.toList) = true ↔ p = q := fun q => by
    rw [beq_iff_eq]
    exact ⟨ba_ext, fun e => by rw [e]⟩
  unfold isPart partsB
  simp only [Bool.or_eq_true, h, List.mem_cons, List.not_mem_nil, or_false]
  constructor
  · rintro (((h | h) | h) | h) <;> simp [h]
  · rintro (h | h | h | h) <;> simp [h]

theorem object_split {id part : ByteArray} (hi : isIDB id.data.toList = true) (hp : part ∈ partsB) : splitL (objectB id part).data.toList = some (id.data.toList, part.data.toList) := by
  rw [object_data]
  exact split_object hi (isPart_mem.2 hp)

theorem object_inj {id part id' part' : ByteArray} (hi : isIDB id.data.toList = true) (hp : part ∈ partsB) (hi' : isIDB id'.data.toList = true) (hp' : part' ∈ partsB) (h : objectB id part = objectB id' part') : id = id' ∧ part = part' := by
  have h1 := object_split hi hp
  rw [h, object_split hi' hp'] at h1
  simp only [Option.some.injEq, Prod.mk.injEq] at h1
  exact ⟨(ba_ext h1.1).symm, (ba_ext h1.2).symm⟩

theorem split_name {n : ByteArray} {id part : List UInt8} (h : splitL n.data.toList = some (id, part)) : n = objectB ⟨id.toArray⟩ ⟨part.toArray⟩ ∧ isIDB id = true ∧ (⟨part.toArray⟩ : ByteArray) ∈ partsB := by
  obtain ⟨h1, h2, h3⟩ := splitL_some h
  exact ⟨ba_ext (by rw [object_data]; exact h1), h2, isPart_mem.1 h3⟩

/-! ## The parts that there are -/
abbrev PartsM := List (ByteArray × Int)

def addPart (m : List (ByteArray × PartsM)) (p : ByteArray × Ob) : List (ByteArray × PartsM) :=
  match splitL p.1.data.toList with
  | none => m
  | some (id, part) => put m ⟨id.toArray⟩ (put ((look m ⟨id.toArray⟩).getD []) ⟨part.toArray⟩ p.2.2)

def blocksOf (L : List (ByteArray × Ob)) : List (ByteArray × PartsM) := L.foldl addPart []

def blkOf (L : List (ByteArray × Ob)) (id : ByteArray) : PartsM := (look (blocksOf L) id).getD []


theorem look_snoc {α : Type} (p : ByteArray × α) (n : ByteArray) : ∀ {M : List (ByteArray × α)}, p.1 ∉ M.map (·.1) → look (M ++ [p]) n = if n = p.1 then some p.2 else look M n
  | [], _ => by
    obtain ⟨a, b⟩ := p
    simp [look]
  | (k, v) :: M, h => by
    simp only [List.map_cons, List.mem_cons, not_or] at h
    have ih := look_snoc p n h.2
    simp only [List.cons_append, look]
    by_cases e : n = k
    · subst e
      rw [if_pos rfl, if_neg (fun e2 => h.1 e2.symm), if_pos rfl]
    · simp only [if_neg e]
      exact ih

theorem put_ne_nil {α : Type} (n : ByteArray) (v : α) (m : List (ByteArray × α)) : put m n v ≠ [] := by
  cases m with
  | nil => simp [put]
  | cons p m =>
    obtain ⟨k, x⟩ := p
    unfold put
    split <;> simp

theorem mem_put {α : Type} {n : ByteArray} {v : α} {q : ByteArray × α} : ∀ {m : List (ByteArray × α)}, q ∈ put m n v → q = (n, v) ∨ q ∈ m
  | [], h => by simp [put] at h; exact .inl h
  | (k, x) :: m, h => by
    unfold put at h
    split at h
    · rcases List.mem_cons.1 h with h | h
      · exact .inl h
      · exact .inr (by simp [h])
    · rcases List.mem_cons.1 h with h | h
      · exact .inr (by simp [h])
      · rcases mem_put h with h | h
        · exact .inl h
        · exact .inr (by simp [h])


/-- What the blocks say of the objects that were met. -/
structure BlkInv (m : List (ByteArray × PartsM)) (M : List (ByteArray × Ob)) : Prop where
  nodup : (m.map (·.1)).Nodup
  says : ∀ id part, look ((look m id).getD []) part = if isIDB id.data.toList = true ∧ isPart part.data.toList = true then (look M (objectB id part)).map (·.2) else none
  ok : ∀ p ∈ m, isIDB p.1.data.toList = true ∧ p.2 ≠ []
  ats : ∀ p ∈ m, ∀ q ∈ p.2, ∃ x ∈ M, q.2 = x.2.2
  keys : ∀ p ∈ m, (p.2.map (·.1)).Nodup ∧ ∀ q ∈ p.2, q.1 ∈ partsB


theorem BlkInv.add {m : List (ByteArray × PartsM)} {M : List (ByteArray × Ob)} (h : BlkInv m M) (p : ByteArray × Ob) (hp : p.1 ∉ M.map (·.1)) : BlkInv (addPart m p) (M ++ [p]) := by
  unfold addPart
  cases hs : splitL p.1.data.toList with
  | none =>
    refine ⟨h.nodup, fun id part => ?_, h.ok, fun r hr q hq => ?_, h.keys⟩
    · rw [h.says]
      split
      · rename_i hc
        rw [look_snoc p _ hp, if_neg]
        intro e
        have := object_split hc.1 (isPart_mem.1 hc.2)
        rw [e, hs] at this
        cases this
      · rfl
    · obtain ⟨x, hx, e⟩ := h.ats r hr q hq
      exact ⟨x, by simp [hx], e⟩
  | some ab =>
    obtain ⟨a, b⟩ := ab
    obtain ⟨hn, hi, hb⟩ := split_name hs
    simp only
    have hia : isIDB (⟨a.toArray⟩ : ByteArray).data.toList = true := hi
    generalize (⟨a.toArray⟩ : ByteArray) = id0 at hn hia ⊢
    generalize (⟨b.toArray⟩ : ByteArray) = part0 at hn hb ⊢
    have hold : ∀ q ∈ (look m id0).getD [], q.1 ∈ partsB ∧ ∃ x ∈ M, q.2 = x.2.2 := by
      intro q hq
      cases hl : look m id0 with
      | none => rw [hl] at hq; cases hq
      | some x =>
        rw [hl] at hq
        exact ⟨(h.keys _ (look_mem hl)).2 q hq, h.ats _ (look_mem hl) q hq⟩
    have holdn : (((look m id0).getD []).map (·.1)).Nodup := by
      cases hl : look m id0 with
      | none => simp
      | some x => exact (h.keys _ (look_mem hl)).1
    refine ⟨put_nodup h.nodup _ _, fun id part => ?_, fun r hr => ?_, fun r hr q hq => ?_, fun r hr => ?_⟩
    · rw [look_put]
      by_cases e : id = id0
      · subst e
        rw [if_pos rfl, Option.getD_some, look_put, h.says]
        by_cases e2 : part = part0
        · subst e2
          rw [if_pos rfl, if_pos ⟨hia, isPart_mem.2 hb⟩, look_snoc p _ hp, if_pos hn.symm]
          rfl
        · rw [if_neg e2]
          split
          · rename_i hc
            rw [look_snoc p _ hp, if_neg]
            intro e3
            exact e2 (object_inj hc.1 (isPart_mem.1 hc.2) hia hb (e3.trans hn)).2
          · rfl
      · rw [if_neg e, h.says]
        split
        · rename_i hc
          rw [look_snoc p _ hp, if_neg]
          intro e3
          exact e (object_inj hc.1 (isPart_mem.1 hc.2) hia hb (e3.trans hn)).1
        · rfl
    · rcases mem_put hr with rfl | hr
      · exact ⟨hia, put_ne_nil _ _ _⟩
      · exact h.ok r hr
    · rcases mem_put hr with rfl | hr
      · rcases mem_put hq with rfl | hq
        · exact ⟨p, by simp, rfl⟩
        · obtain ⟨x, hx, e⟩ := (hold q hq).2
          exact ⟨x, by simp [hx], e⟩
      · obtain ⟨x, hx, e⟩ := h.ats r hr q hq
        exact ⟨x, by simp [hx], e⟩
    · rcases mem_put hr with rfl | hr
      · refine ⟨put_nodup holdn _ _, fun q hq => ?_⟩
        rcases mem_put hq with rfl | hq
        · exact hb
        · exact (hold q hq).1
      · exact h.keys r hr

theorem BlkInv.all {m : List (ByteArray × PartsM)} : ∀ {L M : List (ByteArray × Ob)}, BlkInv m M → ((M ++ L).map (·.1)).Nodup → BlkInv (L.foldl addPart m) (M ++ L) := by
  intro L
  induction L generalizing m with
  | nil => intro M h _; simpa using h
  | cons p L ih =>
    intro M h hnd
    have hp : p.1 ∉ M.map (·.1) := by
      rw [List.map_append, List.nodup_append] at hnd
      exact fun hm => hnd.2.2 _ hm p.1 (by simp) rfl
    have := ih (h.add p hp) (by simpa using hnd)
    simpa using this

theorem blkInv_nil : BlkInv [] [] := ⟨by simp, fun id part => by simp [look], by simp, by simp, by simp⟩

theorem blocks_inv {L : List (ByteArray × Ob)} (h : (L.map (·.1)).Nodup) : BlkInv (blocksOf L) L := by
  have := blkInv_nil.all (L := L) (by simpa using h)
  rw [List.nil_append] at this
  exact this

theorem blocks_next {L : List (ByteArray × Ob)} {k : Nat} (hk : k < L.length) : blocksOf (L.take (k + 1)) = addPart (blocksOf (L.take k)) L[k] := by
  unfold blocksOf
  rw [List.take_succ_eq_append_getElem hk, List.foldl_append]
  rfl

/-! ## The victims -/
def goesB (d g now : Int) (x : PartsM) (mk : Option Int) : Bool :=
  match mk with
  | some at_ => decide (d < now - at_)
  | none => (look x metaB).isNone && decide (g < now - leastL (x.map (·.2)))

def victimsOf (d g now : Int) (m : List (ByteArray × PartsM)) (mk : ByteArray → Option Int) (id : ByteArray) : List ByteArray :=
  if goesB d g now ((look m id).getD []) (mk id) then (partsB.filter fun p => (look ((look m id).getD []) p).isSome).map (objectB id) else []

def victimsL (d g now : Int) (L : List (ByteArray × Ob)) (mk : ByteArray → Option Int) : List ByteArray :=
  (sortB ((blocksOf L).map (·.1))).flatMap (victimsOf d g now (blocksOf L) mk)


theorem mem_victims {d g now : Int} {L : List (ByteArray × Ob)} {mk : ByteArray → Option Int} (hnd : (L.map (·.1)).Nodup) {n : ByteArray} :
    n ∈ victimsL d g now L mk ↔ ∃ id part, isIDB id.data.toList = true ∧ part ∈ partsB ∧ n = objectB id part ∧ (look L n).isSome = true ∧ goesB d g now (blkOf L id) (mk id) = true := by
  have inv := blocks_inv hnd
  unfold victimsL
  rw [List.mem_flatMap]
  constructor
  · rintro ⟨id, hid, hn⟩
    unfold victimsOf at hn
    split at hn
    · rename_i hg
      obtain ⟨part, hp, rfl⟩ := List.mem_map.1 hn
      obtain ⟨hp1, hp2⟩ := List.mem_filter.1 hp
      rw [inv.says] at hp2
      split at hp2
      · rename_i hc
        exact ⟨id, part, hc.1, isPart_mem.1 hc.2, rfl, by simpa using hp2, hg⟩
      · cases hp2
    · cases hn
  · rintro ⟨id, part, hi, hp, rfl, hl, hg⟩
    have hs : (look ((look (blocksOf L) id).getD []) part).isSome = true := by
      rw [inv.says, if_pos ⟨hi, isPart_mem.2 hp⟩]
      simpa using hl
    refine ⟨id, ?_, ?_⟩
    · rw [(sortB_perm _).mem_iff]
      cases hl : look (blocksOf L) id with
      | none => rw [hl] at hs; simp [look] at hs
      | some x => exact List.mem_map.2 ⟨_, look_mem hl, rfl⟩
    · unfold victimsOf
      rw [if_pos (by exact hg)]
      exact List.mem_map.2 ⟨part, List.mem_filter.2 ⟨hp, hs⟩, rfl⟩

/-- Of two objects of one block the first goes first. -/
def Ahead (a b : ByteArray) : Prop := ∀ id pa pb, isIDB id.data.toList = true → pa ∈ partsB → pb ∈ partsB → a = objectB id pa → b = objectB id pb → rankP pa < rankP pb

theorem parts_ranks : partsB.Pairwise fun a b => rankP a < rankP b := by decide

theorem victims_order {d g now : Int} {L : List (ByteArray × Ob)} {mk : ByteArray → Option Int} (hnd : (L.map (·.1)).Nodup) : (victimsL d g now L mk).Pairwise Ahead := by
  have inv := blocks_inv hnd
  have hv : ∀ id ∈ sortB ((blocksOf L).map (·.1)), isIDB id.data.toList = true := by
    intro id hid
    rw [(sortB_perm _).mem_iff] at hid
    obtain ⟨p, hp, rfl⟩ := List.mem_map.1 hid
    exact (inv.ok p hp).1
  have hform : ∀ id, ∀ x ∈ victimsOf d g now (blocksOf L) mk id, ∃ p ∈ partsB, x = objectB id p := by
    intro id x hx
    unfold victimsOf at hx
    split at hx
    · obtain ⟨p, hp, rfl⟩ := List.mem_map.1 hx
      exact ⟨p, (List.mem_filter.1 hp).1, rfl⟩
    · cases hx
  unfold victimsL
  rw [List.pairwise_flatMap]
  constructor
  · intro id hid
    have hi := hv id hid
    unfold victimsOf
    split
    · rw [List.pairwise_map]
      have h0 := parts_ranks.filter fun p => (look ((look (blocksOf L) id).getD []) p).isSome
      refine h0.imp_of_mem fun {p q} hp hq hlt => ?_
      intro id' pa pb hi' hpa hpb e1 e2
      obtain ⟨_, rfl⟩ := object_inj hi (List.mem_filter.1 hp).1 hi' hpa e1
      obtain ⟨_, rfl⟩ := object_inj hi (List.mem_filter.1 hq).1 hi' hpb e2
      exact hlt
    · exact List.Pairwise.nil
  · have hn : (sortB ((blocksOf L).map (·.1))).Nodup := (sortB_perm _).nodup_iff.2 inv.nodup
    refine (List.nodup_iff_pairwise_ne.1 hn).imp_of_mem fun {a b} ha hb hne => ?_
    intro x hx y hy id' pa pb hi' hpa hpb e1 e2
    obtain ⟨p, hp, rfl⟩ := hform a x hx
    obtain ⟨q, hq, rfl⟩ := hform b y hy
    obtain ⟨rfl, _⟩ := object_inj (hv a ha) hp hi' hpa e1
    obtain ⟨rfl, _⟩ := object_inj (hv b hb) hq hi' hpb e2
    exact absurd rfl hne

theorem victims_nodup {d g now : Int} {L : List (ByteArray × Ob)} {mk : ByteArray → Option Int} (hnd : (L.map (·.1)).Nodup) : (victimsL d g now L mk).Nodup := by
  refine List.nodup_iff_pairwise_ne.2 ((victims_order hnd).imp_of_mem fun {a b} ha hb h e => ?_)
  subst e
  obtain ⟨id, part, hi, hp, rfl, _⟩ := (mem_victims hnd).1 ha
  exact Nat.lt_irrefl _ (h id part part hi hp hp rfl rfl)

/-! ## The marks that were got -/
def markSays (id : ByteArray) (data : ByteArray) : Option Int :=
  if (unmarkL data.data.toList).2.2 = 0 ∧ (unmarkL data.data.toList).1 = id.data.toList then some (unmarkL data.data.toList).2.1 else none

def markOf (G : List (ByteArray × ByteArray)) (id : ByteArray) : Option Int := (look G (objectB id markB)).bind (markSays id)

def addMark (M : PartsM) (n data : ByteArray) : PartsM :=
  match splitL n.data.toList with
  | none => M
  | some (id, part) => if part = markB.data.toList then (match markSays ⟨id.toArray⟩ data with | some t => put M ⟨id.toArray⟩ t | none => M) else M

theorem unmark_id {l : List UInt8} (h : (unmarkL l).2.2 = 0) : isIDB (unmarkL l).1 = true := by
  unfold unmarkL at h ⊢
  simp only at h ⊢
  split at h
  · rename_i h1
    exact absurd h h1
  · rename_i h1
    rw [if_neg h1]
    split at h
    · cases h
    · rename_i h2
      rw [if_neg h2]
      simp only [not_or, Bool.not_eq_false] at h2
      exact h2.2

theorem markSays_id {id data : ByteArray} {t : Int} (h : markSays id data = some t) : isIDB id.data.toList = true := by
  unfold markSays at h
  split at h
  · rename_i hc
    rw [← hc.2]
    exact unmark_id hc.1
  · cases h

theorem mark_part : markB ∈ partsB := by simp [partsB]

/-- One mark more. -/
theorem addMark_says {M : PartsM} {D : List (ByteArray × ByteArray)} (h : ∀ id, look M id = markOf D id) {n data : ByteArray} (hn : n ∉ D.map (·.1)) (id : ByteArray) : look (addMark M n data) id = markOf (D ++ [(n, data)]) id := by
  have e0 : markOf (D ++ [(n, data)]) id = if objectB id markB = n then markSays id data else markOf D id := by
    unfold markOf
    rw [look_snoc (n, data) _ hn]
    split <;> rfl
  rw [e0]
  unfold addMark
  cases hs : splitL n.data.toList with
  | none =>
    simp only
    split
    · rename_i he
      cases hm : markSays id data with
      | none =>
        rw [h]
        unfold markOf
        rw [he, (look_none_iff n D).2 hn]
        rfl
      | some t =>
        have := object_split (markSays_id hm) mark_part
        rw [he, hs] at this
        cases this
    · exact h id
  | some ab =>
    obtain ⟨a, b⟩ := ab
    obtain ⟨hname, hi, hb⟩ := split_name hs
    simp only
    have hD : ∀ id', objectB id' markB = n → markOf D id' = none := by
      intro id' he
      unfold markOf
      rw [he, (look_none_iff n D).2 hn]
      rfl
    have hia : isIDB (⟨a.toArray⟩ : ByteArray).data.toList = true := hi
    have hbm : b = markB.data.toList ↔ (⟨b.toArray⟩ : ByteArray) = markB := ⟨fun e => ba_ext (by simpa using e), fun e => by rw [← e]⟩
    simp only [hbm]
    generalize (⟨a.toArray⟩ : ByteArray) = id0 at hname hia ⊢
    generalize (⟨b.toArray⟩ : ByteArray) = part0 at hname hb ⊢
    by_cases hp : part0 = markB
    · subst hp
      rw [if_pos rfl]
      by_cases he : objectB id markB = n
      · rw [if_pos he]
        cases hm : markSays id data with
        | none =>
          by_cases e2 : id = id0
          · subst e2
            rw [hm]
            simp only
            rw [h, hD id he]
          · cases hm0 : markSays id0 data with
            | none => simp only; rw [h, hD id he]
            | some t => simp only; rw [look_put, if_neg e2, h, hD id he]
        | some t =>
          obtain ⟨rfl, _⟩ := object_inj (markSays_id hm) mark_part hia hb (he.trans hname)
          rw [hm]
          simp only
          rw [look_put, if_pos rfl]
      · rw [if_neg he]
        have e2 : id ≠ id0 := fun e => he (by rw [e, hname])
        cases hm0 : markSays id0 data with
        | none => simp only; exact h id
        | some t => simp only; rw [look_put, if_neg e2]; exact h id
    · rw [if_neg hp]
      by_cases he : objectB id markB = n
      · rw [if_pos he]
        cases hm : markSays id data with
        | none => rw [h, hD id he]
        | some t =>
          exact absurd (object_inj (markSays_id hm) mark_part hia hb (he.trans hname)).2.symm hp
      · rw [if_neg he]
        exact h id

theorem markOf_perm {G D : List (ByteArray × ByteArray)} (h : G.Perm D) (hnd : (G.map (·.1)).Nodup) (id : ByteArray) : markOf G id = markOf D id := by
  unfold markOf
  rw [look_perm h hnd]
end Go.Proofs.YtbndpegilpgheaaGreat
