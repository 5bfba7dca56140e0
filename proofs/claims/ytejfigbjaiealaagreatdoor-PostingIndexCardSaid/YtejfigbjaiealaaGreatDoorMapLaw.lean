/-
  Plain laws on lists of pairs: look, put, del.
  No condition beyond those that each theorem states.
-/
import Derived.Test.YtejfigbjaiealaaGreatDoorMap
namespace Go.Proofs.YtejfigbjaiealaaGreatDoor
open Go

section
variable {α : Type}
theorem look_put (n m : ByteArray) (v : α) : ∀ o : List (ByteArray × α), look (put o n v) m = if m = n then some v else look o m
  | [] => by by_cases h : m = n <;> simp [put, look, h]
  | (k, x) :: r => by
    have ih := look_put n m v r
    by_cases h : n = k
    · subst h
      by_cases h2 : m = n <;> simp [put, look, h2]
    · simp only [put, if_neg h, look]
      by_cases h2 : m = k
      · have h3 : m ≠ n := fun e => h (e.symm.trans h2)
        simp [h2, show k ≠ n from fun e => h e.symm]
      · simp only [if_neg h2, ih]

theorem look_none_iff (n : ByteArray) : ∀ o : List (ByteArray × α), look o n = none ↔ n ∉ o.map (·.1)
  | [] => by simp [look]
  | (k, x) :: r => by
    have ih := look_none_iff n r
    by_cases h : n = k <;> simp [look, h, ih]

theorem look_mem {n : ByteArray} {v : α} : ∀ {o : List (ByteArray × α)}, look o n = some v → (n, v) ∈ o
  | [], h => by simp [look] at h
  | (k, x) :: r, h => by
    by_cases hk : n = k
    · simp [look, hk] at h
      subst h
      subst hk
      simp
    · simp only [look, if_neg hk] at h
      exact List.mem_cons_of_mem _ (look_mem h)

theorem look_isSome {n : ByteArray} {o : List (ByteArray × α)} (h : n ∈ o.map (·.1)) : ∃ v, look o n = some v := by
  cases hl : look o n with
  | none => exact absurd h ((look_none_iff n o).1 hl)
  | some v => exact ⟨v, rfl⟩

theorem look_del (n m : ByteArray) : ∀ o : List (ByteArray × α), (o.map (·.1)).Nodup → look (del o n) m = if m = n then none else look o m
  | [], _ => by by_cases h : m = n <;> simp [del, look]
  | (k, x) :: r, hnd => by
    simp only [List.map_cons, List.nodup_cons] at hnd
    have ih := look_del n m r hnd.2
    by_cases h : n = k
    · subst h
      simp only [del, if_true]
      by_cases h2 : m = n
      · subst h2
        rw [if_pos rfl]
        exact (look_none_iff m r).2 hnd.1
      · simp [look, h2]
    · simp only [del, if_neg h, look]
      by_cases h2 : m = k
      · subst h2
        rw [if_pos rfl, if_pos rfl, if_neg fun e => h e.symm]
      · rw [if_neg h2, if_neg h2, ih]

theorem length_put (n : ByteArray) (v : α) : ∀ o : List (ByteArray × α), (put o n v).length ≤ o.length + 1
  | [] => by simp [put]
  | (k, x) :: r => by
    have ih := length_put n v r
    by_cases h : n = k <;> simp [put, h] <;> omega

theorem length_del (n : ByteArray) : ∀ o : List (ByteArray × α), (del o n).length ≤ o.length
  | [] => by simp [del]
  | (k, x) :: r => by
    have ih := length_del n r
    by_cases h : n = k <;> simp [del, h] <;> omega

theorem mem_keys_put {n m : ByteArray} {v : α} : ∀ {o : List (ByteArray × α)}, m ∈ (put o n v).map (·.1) → m = n ∨ m ∈ o.map (·.1)
  | [], h => by simp [put] at h; exact .inl h
  | (k, x) :: r, h => by
    by_cases hk : n = k
    · simp only [put, if_pos hk, List.map_cons, List.mem_cons] at h ⊢
      rcases h with h | h
      · exact .inl h
      · exact .inr (.inr h)
    · simp only [put, if_neg hk, List.map_cons, List.mem_cons] at h ⊢
      rcases h with h | h
      · exact .inr (.inl h)
      · rcases mem_keys_put h with h | h
        · exact .inl h
        · exact .inr (.inr h)
end
theorem del_nodup {α : Type} {o : List (ByteArray × α)} (hn : (o.map (·.1)).Nodup) (n : ByteArray) : ((del o n).map (·.1)).Nodup := by
  have : ∀ o : List (ByteArray × α), (del o n).Sublist o := by
    intro o
    induction o with
    | nil => exact List.Sublist.refl _
    | cons p o ih =>
      obtain ⟨m, x⟩ := p
      unfold del
      split
      · exact List.sublist_cons_self _ _
      · exact ih.cons_cons _
  exact ((this o).map _).nodup hn

theorem put_nodup {α : Type} {o : List (ByteArray × α)} (hn : (o.map (·.1)).Nodup) (n : ByteArray) (v : α) : ((put o n v).map (·.1)).Nodup := by
  induction o with
  | nil => simp [put]
  | cons p o ih =>
    obtain ⟨m, x⟩ := p
    simp only [List.map_cons, List.nodup_cons] at hn
    unfold put
    split
    · rename_i e
      subst e
      simpa using hn
    · rename_i e
      simp only [List.map_cons, List.nodup_cons]
      refine ⟨fun hm => ?_, ih hn.2⟩
      rcases mem_keys_put hm with h | h
      · exact e h.symm
      · exact hn.1 h

theorem keys_put_mem (n : ByteArray) {α : Type} (v : α) : ∀ {o : List (ByteArray × α)}, n ∈ o.map (·.1) → (put o n v).map (·.1) = o.map (·.1)
  | [], h => by simp at h
  | (k, y) :: r, h => by
    by_cases e : n = k
    · simp [put, e]
    · have h' : n ∈ r.map (·.1) := by simpa [e] using h
      have ih := keys_put_mem n v h'
      simp only [put, if_neg e, List.map_cons, ih]

theorem mem_keys_del {n m : ByteArray} {α : Type} : ∀ {o : List (ByteArray × α)}, m ∈ (del o n).map (·.1) → m ∈ o.map (·.1)
  | [], h => by simp [del] at h
  | (k, y) :: r, h => by
    by_cases e : n = k
    · simp only [del, if_pos e] at h
      simp only [List.map_cons, List.mem_cons]
      exact .inr h
    · simp only [del, if_neg e, List.map_cons, List.mem_cons] at h ⊢
      rcases h with h | h
      · exact .inl h
      · exact .inr (mem_keys_del h)

end Go.Proofs.YtejfigbjaiealaaGreatDoor
