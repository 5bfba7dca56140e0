/-
  The disk's Crash: of the bytes that aren't there for sure, file by file, as many as the choices say are left.
  It holds for every world in which the disk's blocks are laid as DiskAt says, and the choices can be read.

  What a crash leaves of a disk's files. No program in sight.
-/
import Derived.Test.YtaebpbkiaihhdaaGreatDoorDiskList
import Derived.Test.YtaebpbkiaihhdaaGreatDoorArgs
namespace Go.Proofs.YtaebpbkiaihhdaaGreatDoor
open Go Go.RowKit Go.Conc

/-- How many of the loose bytes are kept. -/
def keepOf (ch : List Int) (i loose : Nat) : Nat :=
  match ch[i]? with
  | none => 0
  | some c => (((c.tmod (loose + 1 : Nat) + loose + 1)) % (loose + 1 : Nat)).toNat

theorem keepOf_le (ch : List Int) (i loose : Nat) : keepOf ch i loose ≤ loose := by
  unfold keepOf
  split
  · omega
  · have h1 := Int.emod_lt_of_pos ((‹Int›).tmod (loose + 1 : Nat) + loose + 1) (b := ((loose + 1 : Nat) : Int)) (by omega)
    have h2 := Int.emod_nonneg ((‹Int›).tmod (loose + 1 : Nat) + loose + 1) (b := ((loose + 1 : Nat) : Int)) (by omega)
    omega

/-- One file of a crash: the files, and how many choices are used up. -/
def crashStep (ch : List Int) (s : List (ByteArray × Ob) × Nat) (n : ByteArray) : List (ByteArray × Ob) × Nat :=
  let x := obOr (look s.1 n)
  let loose := x.1.size - x.2.toNat
  if loose = 0 then s else (put s.1 n (x.1.extract 0 (x.2.toNat + keepOf ch s.2 loose), (x.2.toNat + keepOf ch s.2 loose : Nat)), s.2 + 1)

def crashK (ch : List Int) (ks : List ByteArray) (o : List (ByteArray × Ob)) (k : Nat) : List (ByteArray × Ob) × Nat := (ks.take k).foldl (crashStep ch) (o, 0)

/-- The files behind a crash. -/
def crashO (ch : List Int) (o : List (ByteArray × Ob)) : List (ByteArray × Ob) := (crashK ch (names o ⟨#[]⟩) o (names o ⟨#[]⟩).length).1

theorem crashK_succ (ch : List Int) (ks : List ByteArray) (o : List (ByteArray × Ob)) (k : Nat) (hk : k < ks.length) : crashK ch ks o (k + 1) = crashStep ch (crashK ch ks o k) ks[k] := by
  unfold crashK
  rw [List.take_succ_eq_append_getElem hk, List.foldl_append]
  rfl

theorem crash_count (ch : List Int) (ks : List ByteArray) (o : List (ByteArray × Ob)) : ∀ k, (crashK ch ks o k).2 ≤ k := by
  suffices h : ∀ (M : List ByteArray) s, (M.foldl (crashStep ch) s).2 ≤ s.2 + M.length by
    intro k
    have := h (ks.take k) (o, 0)
    have h2 : (ks.take k).length ≤ k := by rw [List.length_take]; omega
    unfold crashK
    simp at this
    omega
  intro M
  induction M with
  | nil => intro s; simp
  | cons n M ih =>
    intro s
    have := ih (crashStep ch s n)
    rw [List.foldl_cons, List.length_cons]
    have h2 : (crashStep ch s n).2 ≤ s.2 + 1 := by
      unfold crashStep
      dsimp only
      split <;> simp
    omega

def encN (n : Int) : List Value := [.int .i64 n]

def CrashPost (w : World) (d f c mb room : Nat) (o' : List (ByteArray × Ob)) (e : Ending) (w' : World) : Prop :=
  e = .returned (.tuple #[]) ∧ DiskAt w' d f c mb false [] room o' ∧ Keeps [f, c, mb, d] w w'

def CrashRel (w2 : World) (d f c mb room : Nat) (ch : List Int) (ks : List ByteArray) (o : List (ByteArray × Ob)) (gk : Nat) (u4 u18 : Value) (wr : World) : Prop :=
  ∃ k, k ≤ ks.length ∧ gk = ks.length - k ∧ u18 = .int .i64 k ∧ u4 = .int .i64 (crashK ch ks o k).2 ∧ DiskAt wr d f c mb false [] room (crashK ch ks o k).1 ∧ Keeps [mb, d] w2 wr ∧ used (crashK ch ks o k).1 ≤ used o


end Go.Proofs.YtaebpbkiaihhdaaGreatDoor

namespace Go.Proofs.YtaebpbkiaihhdaaGreatDoor
open Go

theorem mem_names {o : List (ByteArray × Ob)} {pre n : ByteArray} (h : n ∈ names o pre) : n ∈ o.map (·.1) := by
  unfold names at h
  have h1 := (List.mem_filter.1 h).1
  exact (sortB_perm _).mem_iff.1 h1


theorem used_put_le {o : List (ByteArray × Ob)} {n : ByteArray} {x : Ob} (h : x.1.size ≤ (obOr (look o n)).1.size) : used (put o n x) ≤ used o := by
  have := used_put n x o
  omega

theorem crash_step_keep (ch : List Int) (s : List (ByteArray × Ob) × Nat) (n : ByteArray) (hn : n ∈ s.1.map (·.1)) : (crashStep ch s n).1.map (·.1) = s.1.map (·.1) ∧ used (crashStep ch s n).1 ≤ used s.1 ∧
    ∀ p t, look s.1 p = some (t, (t.size : Int)) → look (crashStep ch s n).1 p = some (t, (t.size : Int)) := by
  unfold crashStep
  dsimp only
  split
  · exact ⟨rfl, Nat.le_refl _, fun _ _ h => h⟩
  · rename_i hz
    refine ⟨keys_put_mem n _ hn, ?_, ?_⟩
    · exact used_put_le (by simp only [ByteArray.size_extract]; omega)
    · intro p t hp
      rw [look_put]
      split
      · rename_i e
        subst e
        rw [hp] at hz
        simp [obOr] at hz
      · exact hp

/-- What a crash leaves: the names, no more bytes, what was there for sure. -/
theorem crash_keep (ch : List Int) (o : List (ByteArray × Ob)) : (crashO ch o).map (·.1) = o.map (·.1) ∧ used (crashO ch o) ≤ used o ∧ ∀ p t, look o p = some (t, (t.size : Int)) → look (crashO ch o) p = some (t, (t.size : Int)) := by
  suffices hs : ∀ (M : List ByteArray) (s : List (ByteArray × Ob) × Nat), (∀ n ∈ M, n ∈ s.1.map (·.1)) → ((M.foldl (crashStep ch) s).1.map (·.1) = s.1.map (·.1) ∧ used (M.foldl (crashStep ch) s).1 ≤ used s.1 ∧
      ∀ p t, look s.1 p = some (t, (t.size : Int)) → look (M.foldl (crashStep ch) s).1 p = some (t, (t.size : Int))) from
    hs ((names o ⟨#[]⟩).take (names o ⟨#[]⟩).length) (o, 0) (fun n hn => mem_names (List.mem_of_mem_take hn))
  intro M
  induction M with
  | nil => intro s _; exact ⟨rfl, Nat.le_refl _, fun _ _ h => h⟩
  | cons n M ih =>
    intro s hM
    obtain ⟨a1, a2, a3⟩ := crash_step_keep ch s n (hM n (by simp))
    obtain ⟨b1, b2, b3⟩ := ih (crashStep ch s n) (fun q hq => by rw [a1]; exact hM q (by simp [hq]))
    rw [List.foldl_cons]
    exact ⟨b1.trans a1, Nat.le_trans b2 a2, fun p t hp => b3 p t (a3 p t hp)⟩

end Go.Proofs.YtaebpbkiaihhdaaGreatDoor
