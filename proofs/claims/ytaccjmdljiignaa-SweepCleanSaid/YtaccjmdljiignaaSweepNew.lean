/-
  A new sweeper (package sweep): New.
  As in the scan's file.
-/
import Derived.Test.YtaccjmdljiignaaSweep
import Derived.Deep.RegionWith
namespace Go.Proofs.Ytaccjmdljiignaa
open Go Go.RowKit

def NewPost (w : World) (c : Int × Int × Int) (e : Ending) (w' : World) : Prop :=
  ∃ p q gb, e = .returned (.pointer (some ⟨p, 0, none⟩)) ∧ SweepAt w' w.heap.size p q gb ⟨c, scan0, [], false, 0⟩ ∧ Keeps [] w w'


theorem ScanAt.low {X : Nat} {w : World} {B B' q gb : Nat} {S : ScanS} (h : ScanAt X w B q gb S) (hB : B' ≤ B) : ScanAt X w B' q gb S := ⟨Nat.le_trans hB h.1, Nat.le_trans hB h.2.1, h.2.2⟩

theorem newPost_of {w wa w1 : World} {c : Int × Int × Int} {q gb : Nat} (ka : Keeps [] w wa) (hS : ScanAt 0 w1 wa.heap.size q gb scan0) (hk : Keeps [] wa w1) :
    NewPost w c (.returned (.pointer (some ⟨w1.heap.size, 0, none⟩))) (w1.alloc (.cells #[.int .i64 c.1, .int .i64 c.2.1, .int .i64 c.2.2, .pointer (some ⟨q, 0, none⟩), .slice none 0 0, .bool false, .int .i64 0] 141)) := by
  have hl := hS.lt
  have h1 := ka.size
  have h2 := hk.size
  exact ⟨w1.heap.size, q, gb, rfl, ⟨by omega, by omega, by omega, w1.heap.size + 1, _, by omega, by omega, by omega, heap_new w1 _, sliceFrom_nil _ _ _ _, ((hS.low h1).same ((Keeps.refl [] w1).alloc _)).up (by simp)⟩, (ka.trans hk).alloc _⟩


set_option linter.unusedSimpArgs false in
set_option maxRecDepth 100000 in
set_option maxHeartbeats 1000000 in
theorem sweepNew_spec (w : World) (c : Int × Int × Int) : Calls Try.prog 35 #[.agg #[.int .i64 c.1, .int .i64 c.2.1, .int .i64 c.2.2]] w (NewPost w c) := by
  obtain ⟨c0, c1, c2⟩ := c
  have n1 := heap_new w (.cells #[.int .i64 c0, .int .i64 c1, .int .i64 c2] 78)
  have cc := cells_at n1
  have ka : Keeps [] w (w.alloc (.cells #[.int .i64 c0, .int .i64 c1, .int .i64 c2] 78)) := (Keeps.refl [] w).alloc _
  have l1 : w.heap.size < (w.alloc (.cells #[.int .i64 c0, .int .i64 c1, .int .i64 c2] 78)).heap.size := lt_of_at n1
  have d0 := cc 0
  have d1 := cc 1
  have d2 := cc 2
  simp only [List.getElem?_toArray, List.getElem?_cons_zero, List.getElem?_cons_succ] at d0 d1 d2
  go_enter Try.func35, Try.ntmps35
  go_upto_region 1 with fail
  go_region_with (go_at_call 69; refine (scanNew_spec _).mono ?_; rintro e w1 ⟨q, gb, rfl, hS, hk⟩; have e0 := (hk.cell l1 (by simp)).trans d0; have e1 := (hk.cell l1 (by simp)).trans d1; have e2 := (hk.cell l1 (by simp)).trans d2)
  all_goals
    go_wp2_with fail
    go_ret
    exact newPost_of ka.drew hS hk
end Go.Proofs.Ytaccjmdljiignaa
