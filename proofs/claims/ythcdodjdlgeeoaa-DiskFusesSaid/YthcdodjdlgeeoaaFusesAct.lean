/-
  DiskFuses: the closure that it hands to Do, and what Do answers with it.
  It holds for every world in which the closure's three boxes are laid, and the fuse as FuseQ says.
-/
import Derived.Test.YthcdodjdlgeeoaaDoesArm
import Derived.Test.YthcdodjdlgeeoaaDiskMine
namespace Go.Proofs.Ythcdodjdlgeeoaa
open Go Go.RowKit Go.Conc Go.Deep

theorem goFn_fuses : GoFn Try.prog 30 := ⟨_, Try.func30, by kernel_rfl, by kernel_rfl⟩

/-- What Do answers: the act's error, or that the call failed. -/
def wantOf (Q : List (Int × Bool)) (x : Bool) : Int := if tryDone Q && x then 15 else if tryWorks Q then 0 else 8
def FusesPost (w : World) (f c pr : Nat) (Q : List (Int × Bool)) (x : Bool) (e : Ending) (w' : World) : Prop :=
  e = .returned (.int .i64 (wantOf Q x)) ∧ FuseQ w' f c (tryArmed Q) (tryQ Q) ∧ w'.heap[pr]? = some (.cells #[.bool (tryDone Q)] 4 (0, 0)) ∧ Keeps [pr, f, c] w w'

set_option maxRecDepth 100000 in
set_option maxHeartbeats 1000000 in
theorem fusesAct (w : World) (pr po pi b off k n cap : Nat) (x : Bool) (hk : k < n) (h1 : w.heap[pr]? = some (.cells #[.bool false] 4 (0, 0))) (h2 : w.heap[po]? = some (.cells #[.slice (some ⟨b, off, none⟩) n cap] 67 (0, 0)))
    (h3 : w.heap[pi]? = some (.cells #[.int .i64 k] 3 (0, 0))) (h4 : w.cell? ⟨b, off + k, none⟩ = some (.bool x)) (hb : b ≠ pr) :
    Calls Try.prog 30 #[.pointer (some ⟨pr, 0, none⟩), .pointer (some ⟨po, 0, none⟩), .pointer (some ⟨pi, 0, none⟩)] w
      (ActPost fun w' r => r = (if x then 15 else 0) ∧ w' = w.setCell ⟨pr, 0, none⟩ (.bool true)) := by
  have c1 := cells_at h1
  have f1 := free_at h1
  have n2 : po ≠ pr := ne_of_at h2 h1 (by simp)
  have n3 : pi ≠ pr := ne_of_at h3 h1 (by simp)
  have hkw : Keeps [pr] w (w.setCell ⟨pr, 0, none⟩ (.bool true)) := (Keeps.refl [pr] w).setCell (.inl (by simp)) _
  have c2 := cells_at (hkw.at_ h2 (by simpa using n2))
  have c3 := cells_at (hkw.at_ h3 (by simpa using n3))
  have c4 := (hkw.cell (World.block_lt_of_cell? w _ h4) (by simpa using hb)).trans h4
  have hk' : (k : Int) < (n : Int) := by omega
  clear h1 h2 h3 h4 hb hkw
  go_enter Try.func30, Try.ntmps30
  generalize hW : w.setCell ⟨pr, 0, none⟩ (.bool true) = W at c2 c3 c4
  cases x
  all_goals
    go_wp2_with fail
    go_ret
    exact ⟨_, rfl, rfl, rfl⟩

theorem fusesDo (w : World) (f c : Nat) (armed : Bool) (Q : List (Int × Bool)) (h : FuseQ w f c armed Q) (pr po pi b off k n cap : Nat) (x : Bool) (hk : k < n) (h1 : w.heap[pr]? = some (.cells #[.bool false] 4 (0, 0))) (h2 : w.heap[po]? = some (.cells #[.slice (some ⟨b, off, none⟩) n cap] 67 (0, 0)))
    (h3 : w.heap[pi]? = some (.cells #[.int .i64 k] 3 (0, 0))) (h4 : w.cell? ⟨b, off + k, none⟩ = some (.bool x)) (hb : b ≠ pr) (hbf : b ≠ f) (hbc : b ≠ c) :
    Calls Try.prog 29 #[.pointer (some ⟨f, 0, none⟩), .func (.func 30) #[] #[.pointer (some ⟨pr, 0, none⟩), .pointer (some ⟨po, 0, none⟩), .pointer (some ⟨pi, 0, none⟩)]] w (FusesPost w f c pr Q x) := by
  have nb : ∀ q cs t z, w.heap[q]? = some (.cells cs t z) → t ≠ 109 → q ≠ f ∧ q ≠ c := by
    intro q cs t z hq ht
    obtain ⟨now, wait, hf0, _⟩ := h
    obtain ⟨s, r, hc0⟩ := hf0.chan
    exact ⟨ne_of_at hq hf0.cells (by intro e; injection e with _ e; exact ht e), ne_of_at hq hc0 (by intro e; injection e)⟩
  obtain ⟨r1, r2⟩ := nb pr _ _ _ h1 (by decide)
  obtain ⟨o1, o2⟩ := nb po _ _ _ h2 (by decide)
  obtain ⟨i1, i2⟩ := nb pi _ _ _ h3 (by decide)
  refine (do_spec w f c armed Q h _ _ (fun w' r => r = (if x then 15 else 0) ∧ FuseQ w' f c (tryArmed Q) (tryQ Q) ∧ w'.heap[pr]? = some (.cells #[.bool true] 4 (0, 0)) ∧ Keeps [pr, f, c] w w') goFn_fuses ?_).mono ?_
  · intro _ w1 hq1 hk1
    have g1 := hk1.at_ h1 (by simp; omega)
    refine (fusesAct w1 pr po pi b off k n cap x hk g1 (hk1.at_ h2 (by simp; omega)) (hk1.at_ h3 (by simp; omega)) ((hk1.cell (World.block_lt_of_cell? w _ h4) (by simp; omega)).trans h4) hb).mono ?_
    rintro e w2 ⟨r, rfl, rfl, rfl⟩
    have hkw : Keeps [pr] w1 (w1.setCell ⟨pr, 0, none⟩ (.bool true)) := (Keeps.refl [pr] w1).setCell (.inl (by simp)) _
    exact ⟨_, rfl, rfl, hq1.keep hkw (by simp; omega) (by simp; omega), heap_cell_same (i := 0) g1 (.bool true), (hk1.mono (by simp)).after hkw (by simp)⟩
  · rintro e w' (⟨hd, n, ⟨rfl, hq, hh, hk⟩, rfl⟩ | ⟨hd, rfl, hq, hk⟩)
    · refine ⟨?_, hq, by rw [hd]; exact hh, hk⟩
      unfold doErr wantOf
      rw [hd]
      cases x <;> cases tryWorks Q <;> simp
    · refine ⟨?_, hq, by rw [hd]; exact hk.at_ h1 (by simp; omega), hk.mono (by simp)⟩
      unfold wantOf
      rw [hd, notDone hd]
      simp

end Go.Proofs.Ythcdodjdlgeeoaa
