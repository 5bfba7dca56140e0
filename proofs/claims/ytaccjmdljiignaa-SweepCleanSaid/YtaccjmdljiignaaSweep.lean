/-
  A sweeper (package sweep): New, Done, Gone.
  As in the scan's file.
-/
import Derived.Test.YtaccjmdljiignaaScanInfos
namespace Go.Proofs.Ytaccjmdljiignaa
open Go Go.RowKit

structure SweepS where
  cfg : Int × Int × Int
  scan : ScanS
  left : List ByteArray
  ready : Bool
  gone : Int

def encCfg (c : Int × Int × Int) : List Value := [.int .i64 c.1, .int .i64 c.2.1, .int .i64 c.2.2]

def SweepAt (w : World) (B p q gb : Nat) (Z : SweepS) : Prop :=
  B ≤ p ∧ p ≠ q ∧ p ≠ gb ∧ ∃ B2 vl, p < B2 ∧ q < B2 ∧ gb < B2 ∧
    w.heap[p]? = some (.cells #[.int .i64 Z.cfg.1, .int .i64 Z.cfg.2.1, .int .i64 Z.cfg.2.2, .pointer (some ⟨q, 0, none⟩), vl, .bool Z.ready, .int .i64 Z.gone] 141 (0, 0)) ∧
    SliceFrom B2 1 encS1 w vl Z.left ∧ ScanAt (p + 1) w B q gb Z.scan

theorem SweepAt.keep {w w' : World} {B p q gb : Nat} {Z : SweepS} {R : List Nat} (h : SweepAt w B p q gb Z) (k : Keeps R w w') (hR : ∀ x ∈ R, x < B) : SweepAt w' B p q gb Z := by
  obtain ⟨h1, h2, h2', B2, vl, h3, h4, h5, h6, h7, h8⟩ := h
  exact ⟨h1, h2, h2', B2, vl, h3, h4, h5, k.at_ h6 (fun hm => by have := hR _ hm; omega), h7.keep k (fun x hx => by have := hR x hx; omega), h8.keep k hR⟩


set_option maxRecDepth 100000 in
set_option maxHeartbeats 1000000 in
theorem sweepGone_spec (w : World) (B p q gb : Nat) (Z : SweepS) (h : SweepAt w B p q gb Z) : Calls Try.prog 41 #[.pointer (some ⟨p, 0, none⟩)] w fun e w' => e = .returned (.int .i64 Z.gone) ∧ w = w' := by
  obtain ⟨_, _, _, B2, vl, _, _, _, h6, _, _⟩ := h
  have c5 := cells_at h6
  have l5 := lt_of_at h6
  clear h6
  go_enter Try.func41, Try.ntmps41
  go_wp2_with fail
  go_ret
  exact ⟨rfl, rfl⟩


set_option maxRecDepth 100000 in
set_option maxHeartbeats 1000000 in
theorem sweepDone_spec (w : World) (B p q gb : Nat) (Z : SweepS) (h : SweepAt w B p q gb Z) : Calls Try.prog 36 #[.pointer (some ⟨p, 0, none⟩)] w fun e w' => e = .returned (.bool (Z.ready && Z.left.isEmpty)) ∧ w = w' := by
  obtain ⟨_, _, _, B2, vl, _, _, _, h6, h7, _⟩ := h
  obtain ⟨ao, cap, rfl, hl, _⟩ := h7
  unfold maxLen at hl
  have c5 := cells_at h6
  have l5 := lt_of_at h6
  clear h6
  cases hb : Z.ready with
  | true =>
    rw [hb] at c5
    cases hw : Z.left with
    | nil =>
      rw [hw] at c5
      simp only [List.length_nil] at c5
      go_enter Try.func36, Try.ntmps36
      go_wp2_with fail
      go_ret
      exact ⟨rfl, rfl⟩
    | cons x l =>
      rw [hw] at c5 hl
      have hne : ((((x :: l).length : Nat) : Int) == 0) = false := by rw [beq_eq_false_iff_ne]; simp only [List.length_cons]; omega
      have hne2 : ¬ (((x :: l).length : Nat) : Int) = 0 := by simp only [List.length_cons]; omega
      have hpos : 0 < (x :: l).length := by simp
      generalize (x :: l).length = n at c5 hl hne hne2 hpos
      clear hw
      go_enter Try.func36, Try.ntmps36
      go_wp2_with fail
      go_ret
      exact ⟨rfl, rfl⟩
  | false =>
    rw [hb] at c5
    go_enter Try.func36, Try.ntmps36
    go_wp2_with fail
    go_ret
    exact ⟨rfl, rfl⟩
end Go.Proofs.Ytaccjmdljiignaa
