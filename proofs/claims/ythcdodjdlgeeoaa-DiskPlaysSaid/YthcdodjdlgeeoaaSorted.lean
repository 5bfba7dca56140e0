/-
  Plain law: the objects of a bucket, rising by name, are what the document's list keeps: with put and deleted ones.
  No program in sight.
-/
import Derived.Test.YthcdodjdlgeeoaaRefWith
import Derived.Test.YthcdodjdlgeeoaaMapLaw
import Derived.Test.YthcdodjdlgeeoaaBucketWhole
namespace Go.Proofs.Ythcdodjdlgeeoaa
open Go Go.RowKit

/-- Rising: the first name is not above the second. -/
def leN (a b : ByteArray) : Prop := a.data.toList ≤ b.data.toList
theorem leN_trans {a b c : ByteArray} (h1 : leN a b) (h2 : leN b c) : leN a c := List.le_trans h1 h2
theorem leN_antisymm {a b : ByteArray} (h1 : leN a b) (h2 : leN b a) : a = b := ba_ext (List.le_antisymm h1 h2)
theorem less_iff : ∀ x y : List UInt8, Op.bytesLess x y = true ↔ x < y
  | x, [] => by cases x <;> simp [Op.bytesLess]
  | [], _ :: _ => by simp [Op.bytesLess]
  | a :: x, b :: y => by
    simp only [Op.bytesLess, Bool.or_eq_true, Bool.and_eq_true, decide_eq_true_eq, beq_iff_eq, List.cons_lt_cons_iff, less_iff x y]
theorem gt_false {a b : ByteArray} (h : gtB a b = false) : leN a b := by
  unfold gtB at h
  simp only [Bool.not_eq_false', Bool.or_eq_true, less_iff, beq_iff_eq, ByteArray.toList_eq] at h
  unfold leN
  rcases h with h | h
  · exact List.le_of_lt h
  · rw [h]; exact List.le_refl _
theorem gt_true {a b : ByteArray} (h : gtB a b = true) : leN b a := by
  unfold gtB at h
  simp only [Bool.not_eq_true', Bool.or_eq_false_iff, ByteArray.toList_eq] at h
  have h1 : ¬ a.data.toList < b.data.toList := fun hl => by rw [(less_iff _ _).2 hl] at h; simp at h
  exact List.not_lt.1 h1

/-- What the loop of with leaves: the new object between those that are not above it and those from the first above it on. -/
theorem insFold (x : ByteArray × Ob) : ∀ (M acc : List (ByteArray × Ob)), ∃ A B, M = A ++ B ∧ (∀ p ∈ A, gtB p.1 x.1 = false) ∧ (∀ q ∈ B.head?, gtB q.1 x.1 = true) ∧
    (if (M.foldl (insStep x) (false, acc)).1 then (M.foldl (insStep x) (false, acc)).2 else (M.foldl (insStep x) (false, acc)).2 ++ [x]) = acc ++ (A ++ x :: B) := by
  have ht : ∀ (M acc : List (ByteArray × Ob)), M.foldl (insStep x) (true, acc) = (true, acc ++ M) := by
    intro M
    induction M with
    | nil => intro acc; simp
    | cons o M ih => intro acc; rw [List.foldl_cons]; simp [insStep, ih]
  intro M
  induction M with
  | nil => intro acc; exact ⟨[], [], rfl, by simp, by simp, by simp⟩
  | cons o M ih =>
    intro acc
    cases hg : gtB o.1 x.1 with
    | true =>
      refine ⟨[], o :: M, rfl, by simp, by simpa using hg, ?_⟩
      rw [List.foldl_cons]
      simp [insStep, hg, ht]
    | false =>
      obtain ⟨A, B, h1, h2, h3, h4⟩ := ih (acc ++ [o])
      refine ⟨o :: A, B, by simp [h1], ?_, h3, ?_⟩
      · intro p hp
        rcases List.mem_cons.1 hp with rfl | hp
        · exact hg
        · exact h2 p hp
      · rw [List.foldl_cons]
        simp only [insStep, hg, Bool.not_false, Bool.and_false]
        simpa using h4
theorem insL_split (x : ByteArray × Ob) (M : List (ByteArray × Ob)) : ∃ A B, M = A ++ B ∧ (∀ p ∈ A, gtB p.1 x.1 = false) ∧ (∀ q ∈ B.head?, gtB q.1 x.1 = true) ∧ insL M x = A ++ x :: B := by
  obtain ⟨A, B, h1, h2, h3, h4⟩ := insFold x M []
  refine ⟨A, B, h1, h2, h3, ?_⟩
  unfold insL insK
  rw [List.take_length]
  simpa using h4

/-- M is the objects of o, rising by name. -/
structure Sorts (o M : List (ByteArray × Ob)) : Prop where
  srt : M.Pairwise fun a b => leN a.1 b.1
  mem : ∀ n x, (n, x) ∈ M ↔ look o n = some x
theorem nodup_keys {M : List (ByteArray × Ob)} (hn : (M.map (·.1)).Nodup) : M.Nodup := by
  rw [List.Nodup, List.pairwise_map] at hn
  exact hn.imp fun h e => h (by rw [e])
theorem sorts_unique {o M M' : List (ByteArray × Ob)} (h : Sorts o M) (h' : Sorts o M') (hn : (M.map (·.1)).Nodup) (hn' : (M'.map (·.1)).Nodup) : M = M' := by
  have hp : M.Perm M' := (List.perm_ext_iff_of_nodup (nodup_keys hn) (nodup_keys hn')).2 fun ⟨n, x⟩ => (h.mem n x).trans (h'.mem n x).symm
  refine List.Perm.eq_of_pairwise (le := fun a b : ByteArray × Ob => leN a.1 b.1) (fun a b ha hb h1 h2 => ?_) h.srt h'.srt hp
  obtain ⟨n, x⟩ := a
  obtain ⟨m, y⟩ := b
  have e := leN_antisymm h1 h2
  simp only at e
  subst e
  have e1 := (h.mem _ _).1 ha
  have e2 := (h'.mem _ _).1 hb
  rw [e1] at e2
  injection e2 with e2
  rw [e2]

/-- All objects, rising. -/
def full (o : List (ByteArray × Ob)) : List (ByteArray × Ob) := listing o ⟨#[]⟩
theorem hasPre_nil (s : ByteArray) : hasPre s ⟨#[]⟩ = true := by
  have e : s.extract 0 0 = ⟨#[]⟩ := by
    apply ba_ext
    simp
  simp only [hasPre, Bool.and_eq_true, decide_eq_true_eq]
  exact ⟨Nat.zero_le _, e⟩
theorem full_eq (o : List (ByteArray × Ob)) : full o = (sortedKeys o).map fun n => (n, obOr (look o n)) := by
  unfold full listing
  rw [List.filter_eq_self.2 fun n _ => hasPre_nil n]
theorem full_keys (o : List (ByteArray × Ob)) : (full o).map (·.1) = sortedKeys o := by
  rw [full_eq, List.map_map]
  exact List.map_id _
theorem listing_full (o : List (ByteArray × Ob)) (pre : ByteArray) : listing o pre = (full o).filter fun p => hasPre p.1 pre := by
  rw [full_eq, List.filter_map]
  rfl
theorem full_nodup {o : List (ByteArray × Ob)} (hn : (o.map (·.1)).Nodup) : ((full o).map (·.1)).Nodup := by
  rw [full_keys]
  exact (sortB_perm _).nodup_iff.2 hn
theorem full_sorts {o : List (ByteArray × Ob)} : Sorts o (full o) := by
  refine ⟨?_, ?_⟩
  · have h : (sortedKeys o).Pairwise leN := by
      unfold sortedKeys sortB
      rw [List.pairwise_map]
      refine (List.pairwise_mergeSort (le := leB) ?_ ?_ _).imp ?_
      · intro a b c h1 h2
        simp only [leB, decide_eq_true_eq] at *
        exact List.le_trans h1 h2
      · intro a b
        simp only [leB, Bool.or_eq_true, decide_eq_true_eq]
        exact List.le_total a b
      · intro a b h
        simpa [leN, leB] using h
    rw [full_eq, List.pairwise_map]
    exact h
  · intro n x
    rw [full_eq, List.mem_map]
    constructor
    · rintro ⟨m, hm, e⟩
      injection e with e1 e2
      subst e1
      obtain ⟨y, hy⟩ := look_isSome ((sortB_perm _).mem_iff.1 hm)
      rw [hy] at e2 ⊢
      simpa [obOr] using e2
    · intro h
      refine ⟨n, (sortB_perm _).mem_iff.2 (List.mem_map.2 ⟨(n, x), look_mem h, rfl⟩), by simp [obOr, h]⟩

theorem sorts_del {o M : List (ByteArray × Ob)} (h : Sorts o M) (hn : (o.map (·.1)).Nodup) (n : ByteArray) : Sorts (del o n) (M.filter fun p => !decide (p.1 = n)) := by
  refine ⟨h.srt.filter _, ?_⟩
  intro m x
  rw [List.mem_filter, h.mem, look_del n m o hn]
  by_cases hm : m = n <;> simp [hm]
theorem sorts_put {o M : List (ByteArray × Ob)} (h : Sorts o M) (n : ByteArray) (v : Ob) : Sorts (put o n v) (insL (M.filter fun p => !decide (p.1 = n)) (n, v)) := by
  obtain ⟨A, B, h1, h2, h3, h4⟩ := insL_split (n, v) (M.filter fun p => !decide (p.1 = n))
  have hs : (A ++ B).Pairwise fun a b => leN a.1 b.1 := by rw [← h1]; exact h.srt.filter _
  obtain ⟨sA, sB, sAB⟩ := List.pairwise_append.1 hs
  rw [h4]
  have hB : ∀ q ∈ B, leN n q.1 := by
    intro q hq
    cases B with
    | nil => cases hq
    | cons b B =>
      have hb := gt_true (h3 b (by simp))
      rcases List.mem_cons.1 hq with rfl | hq
      · exact hb
      · exact leN_trans hb ((List.pairwise_cons.1 sB).1 q hq)
  refine ⟨?_, ?_⟩
  · rw [List.pairwise_append]
    refine ⟨sA, List.pairwise_cons.2 ⟨hB, sB⟩, ?_⟩
    intro a ha b hb
    rcases List.mem_cons.1 hb with rfl | hb
    · exact gt_false (h2 a ha)
    · exact sAB a ha b hb
  · intro m x
    have e : (m, x) ∈ A ++ (n, v) :: B ↔ (m, x) = (n, v) ∨ (m, x) ∈ A ++ B := by
      simp only [List.mem_append, List.mem_cons]
      constructor
      · rintro (h | h | h)
        · exact .inr (.inl h)
        · exact .inl h
        · exact .inr (.inr h)
      · rintro (h | h | h)
        · exact .inr (.inl h)
        · exact .inl h
        · exact .inr (.inr h)
    rw [e, ← h1, List.mem_filter, h.mem, look_put]
    by_cases hm : m = n
    · simp [hm, eq_comm]
    · simp [hm]
theorem insL_nodup {M : List (ByteArray × Ob)} (hn : (M.map (·.1)).Nodup) (n : ByteArray) (v : Ob) : ((insL (M.filter fun p => !decide (p.1 = n)) (n, v)).map (·.1)).Nodup := by
  obtain ⟨A, B, h1, h2, h3, h4⟩ := insL_split (n, v) (M.filter fun p => !decide (p.1 = n))
  have hno : n ∉ (A ++ B).map (·.1) := by
    rw [← h1]
    intro h
    obtain ⟨p, hp, e⟩ := List.mem_map.1 h
    have := (List.mem_filter.1 hp).2
    simp [e] at this
  have hnd : ((A ++ B).map (·.1)).Nodup := by
    rw [← h1]
    exact (List.filter_sublist.map _).nodup hn
  rw [h4]
  have hp : (A ++ (n, v) :: B).Perm ((n, v) :: (A ++ B)) := List.perm_middle
  rw [(hp.map _).nodup_iff, List.map_cons, List.nodup_cons]
  exact ⟨hno, hnd⟩
theorem full_put {o : List (ByteArray × Ob)} (hn : (o.map (·.1)).Nodup) (hn' : ∀ n v, ((put o n v).map (·.1)).Nodup) (n : ByteArray) (v : Ob) : full (put o n v) = insL ((full o).filter fun p => !decide (p.1 = n)) (n, v) :=
  sorts_unique full_sorts (sorts_put full_sorts n v) (full_nodup (hn' n v)) (insL_nodup (full_nodup hn) n v)
theorem full_del {o : List (ByteArray × Ob)} (hn : (o.map (·.1)).Nodup) (n : ByteArray) (hn' : ((del o n).map (·.1)).Nodup) : full (del o n) = (full o).filter fun p => !decide (p.1 = n) :=
  sorts_unique full_sorts (sorts_del full_sorts hn n) (full_nodup hn') ((List.filter_sublist.map _).nodup (full_nodup hn))
theorem find_full (o : List (ByteArray × Ob)) (n : ByteArray) : (full o).find? (fun p => decide (p.1 = n)) = (look o n).map fun x => (n, x) := by
  cases hf : (full o).find? (fun p => decide (p.1 = n)) with
  | none =>
    rw [List.find?_eq_none] at hf
    cases hl : look o n with
    | none => rfl
    | some x => exact absurd (decide_eq_true rfl) (hf (n, x) ((full_sorts.mem n x).2 hl))
  | some p =>
    obtain ⟨m, x⟩ := p
    have h1 := List.find?_some hf
    have h2 := (full_sorts.mem m x).1 (List.mem_of_find?_eq_some hf)
    simp only [decide_eq_true_eq] at h1
    subst h1
    rw [h2]
    rfl

end Go.Proofs.Ythcdodjdlgeeoaa
