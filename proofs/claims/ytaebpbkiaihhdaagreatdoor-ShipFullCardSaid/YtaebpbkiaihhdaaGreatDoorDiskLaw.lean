/-
  Plain laws on a disk's files: how many bytes they have, and what each call makes of them.
  No program in sight.
-/
import Derived.Test.YtaebpbkiaihhdaaGreatDoorMap
import Derived.Test.YtaebpbkiaihhdaaGreatDoorFuse
namespace Go.Proofs.YtaebpbkiaihhdaaGreatDoor
open Go

theorem empty_size : (⟨#[]⟩ : ByteArray).size = 0 := rfl

/-- How many bytes all files have. -/
def used : List (ByteArray × Ob) → Nat
  | [] => 0
  | (_, x) :: r => x.1.size + used r

theorem used_put (n : ByteArray) (x : Ob) : ∀ o : List (ByteArray × Ob), used (put o n x) + (obOr (look o n)).1.size = used o + x.1.size
  | [] => by simp [put, used, look, obOr, empty_size]
  | (k, y) :: r => by
    have ih := used_put n x r
    by_cases h : n = k
    · simp only [put, look, if_pos h, used, obOr, Option.getD_some]; omega
    · simp only [put, look, if_neg h, used]; omega

theorem used_del (n : ByteArray) : ∀ o : List (ByteArray × Ob), used (del o n) + (obOr (look o n)).1.size = used o
  | [] => by simp [del, used, look, obOr, empty_size]
  | (k, y) :: r => by
    have ih := used_del n r
    by_cases h : n = k
    · simp only [del, look, if_pos h, used, obOr, Option.getD_some]; omega
    · simp only [del, look, if_neg h, used]; omega

theorem look_le {n : ByteArray} (o : List (ByteArray × Ob)) : (obOr (look o n)).1.size ≤ used o := by
  have := used_del n o
  omega


/-- Append, Sync, Truncate, Rename, Remove: the files behind a call that is done. -/
def appO (o : List (ByteArray × Ob)) (n s : ByteArray) : List (ByteArray × Ob) := put o n ((obOr (look o n)).1 ++ s, (obOr (look o n)).2)

def syncO (o : List (ByteArray × Ob)) (n : ByteArray) : List (ByteArray × Ob) := put o n ((obOr (look o n)).1, (obOr (look o n)).1.size)

def truncO (o : List (ByteArray × Ob)) (n : ByteArray) (k : Nat) : List (ByteArray × Ob) := put o n ((obOr (look o n)).1.extract 0 k, k)

def renO (o : List (ByteArray × Ob)) (a b : ByteArray) : List (ByteArray × Ob) := if a = b then o else put (del o a) b (obOr (look o a))

/-- The errors that a call has of its own. -/
def appR (room : Nat) (o : List (ByteArray × Ob)) (n s : ByteArray) : Option Int :=
  if n.size = 0 ∨ 40 < n.size then some 1 else if room < used o + s.size then some 7 else none

def noneR (o : List (ByteArray × Ob)) (n : ByteArray) : Option Int := if (look o n).isSome then none else some 5

def truncR (o : List (ByteArray × Ob)) (n : ByteArray) (k : Int) : Option Int :=
  if (look o n).isSome then (if k < 0 ∨ ((obOr (look o n)).1.size : Int) < k then some 1 else none) else some 5

def renR (o : List (ByteArray × Ob)) (a b : ByteArray) : Option Int :=
  if (look o a).isSome then (if b.size = 0 ∨ 40 < b.size then some 1 else none) else some 5


/-- Of each file the first bytes are there for sure. -/
def Sure (o : List (ByteArray × Ob)) : Prop := ∀ n x, look o n = some x → 0 ≤ x.2 ∧ x.2 ≤ x.1.size

theorem Sure.or {o : List (ByteArray × Ob)} (h : Sure o) (n : ByteArray) : 0 ≤ (obOr (look o n)).2 ∧ (obOr (look o n)).2 ≤ (obOr (look o n)).1.size := by
  cases hl : look o n with
  | none => simp [obOr, empty_size]
  | some x => exact h n x hl

theorem Sure.put {o : List (ByteArray × Ob)} (h : Sure o) (n : ByteArray) (x : Ob) (h0 : 0 ≤ x.2) (h1 : x.2 ≤ x.1.size) : Sure (put o n x) := by
  intro m y hy
  rw [look_put] at hy
  split at hy
  · injection hy with hy; subst hy; exact ⟨h0, h1⟩
  · exact h m y hy

theorem Sure.del {o : List (ByteArray × Ob)} (h : Sure o) (hn : (o.map (·.1)).Nodup) (n : ByteArray) : Sure (del o n) := by
  intro m y hy
  rw [look_del n m o hn] at hy
  split at hy
  · cases hy
  · exact h m y hy

theorem sure_nil : Sure [] := fun n x h => by simp [look] at h


theorem used_app (o : List (ByteArray × Ob)) (n s : ByteArray) : used (appO o n s) = used o + s.size := by
  have := used_put n ((obOr (look o n)).1 ++ s, (obOr (look o n)).2) o
  simp only [ByteArray.size_append] at this
  unfold appO
  omega

theorem used_sync (o : List (ByteArray × Ob)) (n : ByteArray) : used (syncO o n) = used o := by
  have := used_put n ((obOr (look o n)).1, ((obOr (look o n)).1.size : Int)) o
  simp only at this
  unfold syncO
  omega

theorem used_trunc (o : List (ByteArray × Ob)) (n : ByteArray) (k : Nat) (hk : k ≤ (obOr (look o n)).1.size) : used (truncO o n k) + ((obOr (look o n)).1.size - k) = used o := by
  have := used_put n ((obOr (look o n)).1.extract 0 k, (k : Int)) o
  simp only [ByteArray.size_extract] at this
  have h2 := look_le (n := n) o
  unfold truncO
  omega

theorem used_ren {o : List (ByteArray × Ob)} (hn : (o.map (·.1)).Nodup) {a b : ByteArray} (hab : a ≠ b) : used (put (del o a) b (obOr (look o a))) + (obOr (look o b)).1.size = used o := by
  have h1 := used_put b (obOr (look o a)) (del o a)
  have h2 := used_del a o
  rw [look_del a b o hn, if_neg (Ne.symm hab)] at h1
  omega
end Go.Proofs.YtaebpbkiaihhdaaGreatDoor
