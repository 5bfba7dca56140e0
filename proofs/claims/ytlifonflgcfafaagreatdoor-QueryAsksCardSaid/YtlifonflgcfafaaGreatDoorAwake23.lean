/-
  Layer 23's awake: it answers true.
  The library's variable internal/bytealg.MaxLen holds some number.
-/
import Derived.Test.YtlifonflgcfafaaGreatDoorQuery0
import Derived.Test.YtlifonflgcfafaaGreatDoorTabMk
namespace Go.Proofs.YtlifonflgcfafaaGreatDoor
open Go Go.RowKit

theorem o14_one {w : World} {p : Nat} (h : w.heap[p]? = some (.cells #[.int .u8 0, .int .i64 5, .int .u64 1] 84 (0, 0))) : SliceArg 3 encO14 w (.slice (some ⟨p, 0, none⟩) 1 1) [(0, 5, 1)] := by
  refine ⟨_, _, rfl, by simp [maxLen], fun i hi => ⟨p, 0, rfl, lt_of_at h, fun j hj => ?_⟩⟩
  obtain rfl : i = 0 := by simpa using hi
  rw [cells_at h]
  match j with
  | 0 => rfl
  | 1 => rfl
  | 2 => rfl
  | n + 3 => omega

set_option linter.unusedSimpArgs false in
set_option maxRecDepth 100000 in
set_option maxHeartbeats 4000000 in
theorem awake23_spec (w : World) (hv : LibVar w) : Calls Tryz.prog 18 #[] w fun e w' => e = .returned (.bool true) ∧ Keeps [] w w' := by
  have k1 : Keeps [] w (w.alloc (.cells #[.int .u8 0, .int .i64 5, .int .u64 1] 84)) := (Keeps.refl [] w).alloc _
  have H1 := Lib.hid (And.intro (o14_one (heap_new w (.cells #[.int .u8 0, .int .i64 5, .int .u64 1] 84))) (And.intro (hv.keep k1 (by simp)) k1))
  clear k1 hv
  go_enter Tryz.func18, Tryz.ntmps18
  go_wp2_with fail
  generalize w.alloc (.cells #[.int .u8 0, .int .i64 5, .int .u64 1] 84) = w1 at H1 ⊢
  generalize w.heap.size = p at H1 ⊢
  refine (table_spec w1 H1.out.2.1 _ [(0, 5, 1)] H1.out.1 (by simp)).mono ?_
  rintro e w2 ⟨va, vb, rfl, hT, -, k2⟩
  rw [show ([((0 : Int), (5 : Int), (1 : Int))] : List One14).take 40 = [(0, 5, 1)] from rfl, tblL_one] at hT
  obtain ⟨aa, ca, rfl⟩ := hT.form
  have H2 := Lib.hid (And.intro (hT.base (Nat.zero_le _)) (H1.out.2.2.trans k2))
  clear hT k2 H1
  go_wp2_with fail
  refine (newBucket_spec w2).mono ?_
  rintro e w3 ⟨b, f, c, mb, rfl, hb, k3, lb, lf, lc, lm⟩
  have H3 := Lib.hid (And.intro H2.out (And.intro hb (And.intro k3 (And.intro lf lc))))
  obtain ⟨now, wait, hfu, -⟩ := hb.fuse
  have cb := cells_at hb.cells
  have lbw := lt_of_at hb.cells
  rw [show ([(labA1, [((5 : Int), (1 : Int))])] : TabT).length = 1 from rfl] at *
  clear lb lf lc lm k3 H2
  go_wp2_with fail
  have k4 : Keeps [] w3 (w3.alloc (.cells #[.slice aa 1 ca] 47)) := (Keeps.refl [] w3).alloc _
  have Hn := Lib.hid (And.intro (show w3.heap.size ≠ f from by have := H3.out.2.1.lt.2.1; omega) (show w3.heap.size ≠ c from by have := H3.out.2.1.lt.2.2.1; omega))
  have H4 := Lib.hid (And.intro (heap_new w3 (.cells #[.slice aa 1 ca] 47)) (And.intro (H3.out.2.1.keepNew k4 (by simp)) (H3.out.2.2.1.trans k4)))
  clear k4 hfu cb lbw hb
  generalize w3.alloc (.cells #[.slice aa 1 ca] 47) = w4 at H4 ⊢
  generalize w3.heap.size = tb at Hn H4 ⊢
  refine (newQ_spec w4 tb 1).mono ?_
  rintro e w5 ⟨q, rfl, hql, hq, k5⟩
  have hqf : q ≠ f := by have := H4.out.2.1.lt.2.1; omega
  have hqc : q ≠ c := by have := H4.out.2.1.lt.2.2.1; omega
  have hqt : tb ≠ q := by have := lt_of_at H4.out.1; omega
  have hqw : w2.heap.size ≤ q := Nat.le_trans H4.out.2.2.size hql
  have Hq := Lib.hid (And.intro hqf (And.intro hqc (And.intro hqt hqw)))
  have H5 := Lib.hid (And.intro hq (And.intro (k5.at_ H4.out.1 (by simp)) (And.intro (H4.out.2.1.keepNew k5 (by simp)) (H4.out.2.2.trans k5))))
  clear hqf hqc hqt hqw hql hq k5 H4
  go_wp2_with fail
  refine (busy_spec w5 q tb 1 H5.out.1).mono ?_
  rintro e w6 ⟨rfl, rfl⟩
  go_wp2_with fail
  refine (stepQ0_spec w6 q tb 1 b f c mb H5.out.1 H5.out.2.2.1 Hq.out.1 Hq.out.2.1).mono ?_
  rintro e w7 ⟨rfl, h7, k7⟩
  have H7 := Lib.hid (And.intro h7 (And.intro (k7.at_ H5.out.2.1 (by have := Hq.out; have := Hn.out; simp; omega)) (H5.out.2.2.2.after k7 (fun x hx => .inr (by have := Hq.out.2.2.2; have := H3.out.2.2.2; simp at hx; omega)))))
  clear h7 k7 H5
  go_wp2_with fail
  refine (resultQ_spec w7 q tb 1 H7.out.1 _ labA1 (5, 1) (by rw [cells_at H7.out.2.1]; rfl) (go1 H7.out.2.2 H3.out.1.1) (by decide) (by decide) (by decide)).mono ?_
  rintro e w8 ⟨⟨a8, c8, rfl⟩, k8⟩
  have H8 := Lib.hid (And.intro (show QAt _ q tb 1 true true from k8.at_ H7.out.1 (by simp)) ((H3.out.1.2.trans H7.out.2.2).trans k8))
  clear k8 H7 H3
  go_wp2_with fail
  refine (ended_spec w8 q tb 1 true true H8.out.1).mono ?_
  rintro e w9 ⟨rfl, rfl⟩
  go_wp2_with fail
  refine (atQ_spec w9 q tb 1 true H8.out.1).mono ?_
  rintro e w10 ⟨rfl, rfl⟩
  go_wp2_with fail
  refine (stepQ1_spec w10 q tb 1 _ H8.out.1).mono ?_
  rintro e w11 ⟨rfl, rfl⟩
  go_wp2_with fail
  go_ret
  exact ⟨rfl, H8.out.2⟩
end Go.Proofs.YtlifonflgcfafaaGreatDoor
