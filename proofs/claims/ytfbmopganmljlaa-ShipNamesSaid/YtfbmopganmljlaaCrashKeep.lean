/-
  What a crash leaves of a disk's files. No program in sight.
-/
import Derived.Test.YtfbmopganmljlaaDiskCrash
namespace Go.Proofs.Ytfbmopganmljlaa
open Go

theorem mem_names {o : List (ByteArray × Ob)} {pre n : ByteArray} (h : n ∈ names o pre) : n ∈ o.map (·.1) := by
  unfold names at h
  have h1 := (List.mem_filter.1 h).1
  exact (sortB_perm _).mem_iff.1 h1


theorem used_put_le {o : List (ByteArray × Ob)} {n : ByteArray} {x : Ob} (h : x.1.size ≤ (obOr (look o n)).1.size) : used (put o n x) ≤ used o := by
  have := used_put n x o
  omega

theorem crash_step_keep (ch : List Int) (s : List (ByteArray × Ob) × Nat) (n : ByteArray) (hn : n ∈ s.1.map (·.1)) : (crashStep ch s n).1.map (·.1) = s.1.map (·.1) ∧ used (crashStep ch s n).1 ≤ used s.1 ∧
    ∀ p t, look s.1 p = some (t, (t.size : Int)) → look (crashStep ch s n).1 p = some (t, (t.size : Int)) := by
  unfold crashStep
  dsimp only
  split
  · exact ⟨rfl, Nat.le_refl _, fun _ _ h => h⟩
  · rename_i hz
    refine ⟨keys_put_mem n _ hn, ?_, ?_⟩
    · exact used_put_le (by simp only [ByteArray.size_extract]; omega)
    · intro p t hp
      rw [look_put]
      split
      · rename_i e
        subst e
        rw [hp] at hz
        simp [obOr] at hz
      · exact hp

/-- What a crash leaves: the names, no more bytes, what was there for sure. -/
theorem crash_keep (ch : List Int) (o : List (ByteArray × Ob)) : (crashO ch o).map (·.1) = o.map (·.1) ∧ used (crashO ch o) ≤ used o ∧ ∀ p t, look o p = some (t, (t.size : Int)) → look (crashO ch o) p = some (t, (t.size : Int)) := by
  suffices hs : ∀ (M : List ByteArray) (s : List (ByteArray × Ob) × Nat), (∀ n ∈ M, n ∈ s.1.map (·.1)) → ((M.foldl (crashStep ch) s).1.map (·.1) = s.1.map (·.1) ∧ used (M.foldl (crashStep ch) s).1 ≤ used s.1 ∧
      ∀ p t, look s.1 p = some (t, (t.size : Int)) → look (M.foldl (crashStep ch) s).1 p = some (t, (t.size : Int))) from
    hs ((names o ⟨#[]⟩).take (names o ⟨#[]⟩).length) (o, 0) (fun n hn => mem_names (List.mem_of_mem_take hn))
  intro M
  induction M with
  | nil => intro s _; exact ⟨rfl, Nat.le_refl _, fun _ _ h => h⟩
  | cons n M ih =>
    intro s hM
    obtain ⟨a1, a2, a3⟩ := crash_step_keep ch s n (hM n (by simp))
    obtain ⟨b1, b2, b3⟩ := ih (crashStep ch s n) (fun q hq => by rw [a1]; exact hM q (by simp [hq]))
    rw [List.foldl_cons]
    exact ⟨b1.trans a1, Nat.le_trans b2 a2, fun p t hp => b3 p t (a3 p t hp)⟩

end Go.Proofs.Ytfbmopganmljlaa
