/-
  Maps of strings to numbers, small facts.
  No condition beyond those that each theorem states.
-/
import Derived.Test.YtjffdcflkkgpfaaGreatMapRange
import Derived.Test.YtjffdcflkkgpfaaGreatOps
namespace Go.Proofs.YtjffdcflkkgpfaaGreat
open Go Go.RowKit

abbrev PartsM := List (ByteArray × Int)

theorem look_snoc {α : Type} (p : ByteArray × α) (n : ByteArray) : ∀ {M : List (ByteArray × α)}, p.1 ∉ M.map (·.1) → look (M ++ [p]) n = if n = p.1 then some p.2 else look M n
  | [], _ => by
    obtain ⟨a, b⟩ := p
    simp [look]
  | (k, v) :: M, h => by
    simp only [List.map_cons, List.mem_cons, not_or] at h
    have ih := look_snoc p n h.2
    simp only [List.cons_append, look]
    by_cases e : n = k
    · subst e
      rw [if_pos rfl, if_neg (fun e2 => h.1 e2.symm), if_pos rfl]
    · simp only [if_neg e]
      exact ih

theorem put_ne_nil {α : Type} (n : ByteArray) (v : α) (m : List (ByteArray × α)) : put m n v ≠ [] := by
  cases m with
  | nil => simp [put]
  | cons p m =>
    obtain ⟨k, x⟩ := p
    unfold put
    split <;> simp

theorem mem_put {α : Type} {n : ByteArray} {v : α} {q : ByteArray × α} : ∀ {m : List (ByteArray × α)}, q ∈ put m n v → q = (n, v) ∨ q ∈ m
  | [], h => by simp [put] at h; exact .inl h
  | (k, x) :: m, h => by
    unfold put at h
    split at h
    · rcases List.mem_cons.1 h with h | h
      · exact .inl h
      · exact .inr (by simp [h])
    · rcases List.mem_cons.1 h with h | h
      · exact .inr (by simp [h])
      · rcases mem_put h with h | h
        · exact .inl h
        · exact .inr (by simp [h])

theorem mem_enc {α : Type} {enc : α → Value} {p : List (ByteArray × α)} {x : ByteArray} {c : Value} (h : (x, c) ∈ encMap enc p) : ∃ n, c = enc n ∧ (x, n) ∈ p := by
  simp only [encMap, List.mem_map, Prod.mk.injEq] at h
  obtain ⟨q, hq, rfl, rfl⟩ := h
  exact ⟨q.2, rfl, hq⟩
end Go.Proofs.YtjffdcflkkgpfaaGreat
