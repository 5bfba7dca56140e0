/-
  Package head: which configs may be (Config.Check), and New, walked.
  No condition beyond those that each theorem states.
-/
import Derived.Test.YtgdkceeonnfejaaGreatDoorPostAdd
namespace Go.Proofs.YtgdkceeonnfejaaGreatDoor
set_option maxRecDepth 100000
set_option maxHeartbeats 1000000
set_option linter.unusedSimpArgs false
open Go Go.RowKit
def May (a b c : Int) : Prop := 1 ≤ a ∧ a ≤ 10000 ∧ 1 ≤ b ∧ b ≤ 1048576 ∧ 1 ≤ c ∧ c ≤ 1073741824
instance (a b c : Int) : Decidable (May a b c) := by unfold May; infer_instance
theorem cfgYes_spec (w : World) (a b c : Int) (h : May a b c) :
  Calls Tryz.prog 31 #[.agg #[.int .i64 a, .int .i64 b, .int .i64 c]] w fun e w' => e = .returned (.int .i64 0) ∧ Keeps [] w w' := by
 obtain ⟨h1, h2, h3, h4, h5, h6⟩ := h
 have n1 : ¬ a < 1 := by omega
 have n2 : ¬ 10000 < a := by omega
 have n3 : ¬ b < 1 := by omega
 have n4 : ¬ 1048576 < b := by omega
 have n5 : ¬ c < 1 := by omega
 have n6 : ¬ 1073741824 < c := by omega
 have k0 : Keeps [] w (w.alloc (.cells #[.int .i64 a, .int .i64 b, .int .i64 c] 28)) := (Keeps.refl [] w).alloc _
 have Hk := Lib.hid k0
 clear k0
 go_enter Tryz.func31, Tryz.ntmps31
 go_wp2_with fail
 all_goals first
  | (exfalso; omega)
  | (go_ret; exact ⟨rfl, Hk.out⟩)
def HeadC (w : World) (h : Nat) (a b c : Int) (rb ob x : Nat) (next n floor top : Int) : Prop :=
 w.heap[h]? = some (.cells #[.int .i64 a, .int .i64 b, .int .i64 c, .map (some rb), .map (some ob), .pointer (some ⟨x, 0, none⟩), .int .i64 next, .int .i64 n, .int .i64 floor, .int .i64 top] 83 (0, 0))
def Head0 (B : Nat) (w : World) (h : Nat) (a b c : Int) : Prop :=
 ∃ rb ob x mb, HeadC w h a b c rb ob x 1 0 0 (-1) ∧ MapAt w rb [] ∧ w.heap[ob]? = some (.map #[] 0) ∧ IxAt w x mb (.slice none 0 0) ∧ MapAt w mb [] ∧ rb ≠ ob ∧ rb ≠ mb ∧ ob ≠ mb ∧ B ≤ rb ∧ B ≤ ob ∧ B ≤ x ∧ B ≤ mb
instance go1Head {w w' : World} (h : Nat) (a b c : Int) (rb ob x : Nat) (next n floor top : Int) : Go1 w w' (HeadC w h a b c rb ob x next n floor top) (HeadC w' h a b c rb ob x next n floor top) := ⟨fun k g => k.at_ g (by simp)⟩
theorem newYes_spec (w : World) (a b c : Int) (h : May a b c) :
  Calls Tryz.prog 8 #[.agg #[.int .i64 a, .int .i64 b, .int .i64 c]] w fun e w' => ∃ p, e = .returned (.tuple #[.pointer (some ⟨p, 0, none⟩), .int .i64 0]) ∧ Head0 w.heap.size w' p a b c ∧ w.heap.size ≤ p ∧ Keeps [] w w' := by
 have hmm := @run_makeMap Tryz.prog
 have k0 : Keeps [] w (w.alloc (.cells #[.int .i64 a, .int .i64 b, .int .i64 c] 28)) := (Keeps.refl [] w).alloc _
 have H0 := Lib.hid (And.intro (heap_new w (.cells #[.int .i64 a, .int .i64 b, .int .i64 c] 28)) k0)
 clear k0
 go_enter Tryz.func8, Tryz.ntmps8
 go_wp2_with fail
 refine (cfgYes_spec _ a b c h).mono ?_
 rintro e w1 ⟨rfl, hk1⟩
 obtain ⟨A0, hA0⟩ : ∃ A0, A0 = w1.drew := ⟨_, rfl⟩
 have kw : Keeps [] w A0 := by rw [hA0]; exact (H0.out.2.trans hk1).drew
 have c0 := hk1.at_ H0.out.1 (by simp)
 have D0 : ∀ s : Kept A0, s.val.cell? ⟨w.heap.size, 0, none⟩ = some (.int .i64 a) := keptCell (by rw [hA0]; exact cells_at c0 0)
 have D1 : ∀ s : Kept A0, s.val.cell? ⟨w.heap.size, 1, none⟩ = some (.int .i64 b) := keptCell (by rw [hA0]; exact cells_at c0 1)
 have D2 : ∀ s : Kept A0, s.val.cell? ⟨w.heap.size, 2, none⟩ = some (.int .i64 c) := keptCell (by rw [hA0]; exact cells_at c0 2)
 have Hkw := Lib.hid kw
 have HW := Lib.hid hA0
 clear hk1 c0 kw hA0 H0
 go_upto_region 4 with fail
 refine wp_region_held_drew (S := KeptS A0) (by kernel_rfl) (by rw [← HW.out]; exact keptS (Keeps.refl _ _)) (fun hS => ?_)
 rw [← HW.out] at hS ⊢
 clear HW
 generalize w.heap.size = cb at D0 D1 D2 ⊢
 have kA0 : Keeps [] A0 A0 := Keeps.refl _ _
 refine tk (v := ?_) 0 rfl ?_ ?_; rotate_left
 ·rintro _ ⟨s, rfl⟩; go_simp; (try with_reducible rfl)
 simp only [Act.put, zz]
 clear D0 D1 D2
 refine wpAnyH_ready (rs := [1, 2, 3]) (by kernel_rfl) (by simp) ?_
 refine AllReadyH.cons rfl (fun K hK => ?_) ?_
 ·go_simp
  have lr : w.heap.size ≤ A0.heap.size := (Hkw.out.trans kA0).size
  have ka := (Keeps.refl [] A0).alloc (.map #[] 0)
  have kA1 : Keeps [] A0 (A0.alloc (.map #[] 0)) := kA0.alloc _
  have mr := mapAt_new A0
  try (have e1 : A0.heap.size ≠ ob := by have := lt_of_at mo; omega)
  try (have e2 : A0.heap.size ≠ mb := by have := hm.lt; omega)
  try (replace mo := go1 ka mo)
  try (replace hx := go1 ka hx)
  try (replace hm := go1 ka hm)
  generalize A0.heap.size = rb at *
  generalize A0.alloc (.map #[] 0) = A1 at *
  clear ka
  refine hK.out _ _ (keptS kA1) (fun hS => ?_)
  clear hK K
  try simp only [Act.put, zz]
  refine wpAnyH_ready (rs := [2, 3]) (by kernel_rfl) (by simp) ?_
  refine AllReadyH.cons rfl (fun K hK => ?_) ?_
  ·go_simp
   have lo : w.heap.size ≤ A1.heap.size := (Hkw.out.trans kA1).size
   have ka := (Keeps.refl [] A1).alloc (.map #[] 0)
   have kA2 : Keeps [] A0 (A1.alloc (.map #[] 0)) := kA1.alloc _
   have mo := heap_new A1 (.map #[] 0)
   try (have e1 : rb ≠ A1.heap.size := by have := mr.lt; omega)
   try (have e3 : A1.heap.size ≠ mb := by have := hm.lt; omega)
   try (replace mr := go1 ka mr)
   try (replace hx := go1 ka hx)
   try (replace hm := go1 ka hm)
   generalize A1.heap.size = ob at *
   generalize A1.alloc (.map #[] 0) = A2 at *
   clear ka
   refine hK.out _ _ (keptS kA2) (fun hS => ?_)
   clear hK K
   try simp only [Act.put, zz]
   refine rd 3 rfl fun K hK => ?_
   go_simp
   go_at_call 32
   refine (newIx_spec _).mono ?_
   rintro e A3 ⟨x, mb, rfl, hx, hm, lx, lm, -, kn⟩
   have lx := Nat.le_trans (Hkw.out.trans kA2).size lx
   have lm2 := Nat.le_trans (Hkw.out.trans kA2).size lm
   have kA3 := kA2.trans kn
   try (have e2 : rb ≠ mb := by have := mr.lt; omega)
   try (have e3 : ob ≠ mb := by have := lt_of_at mo; omega)
   try (replace mr := go1 kn mr)
   try (replace mo := go1 kn mo)
   clear kn lm
   go_simp
   refine hK.out _ _ (keptS kA3) (fun hS => ?_)
   clear hK K
   try simp only [Act.put, zz]
   refine tk (v := ?_) 4 rfl ?_ ?_; rotate_left
   ·rintro _ ⟨s, rfl⟩; go_simp; (try with_reducible rfl)
   simp only [Act.put, zz]
   refine rd 5 rfl fun K hK => ?_
   go_simp
   have ka := (Keeps.refl [] A3).alloc (.cells #[.int .i64 a, .int .i64 b, .int .i64 c, .map (some rb), .map (some ob), .pointer (some ⟨x, 0, none⟩), .int .i64 1, .int .i64 0, .int .i64 0, .int .i64 (-1)] 83)
   have HH := Lib.hid (And.intro (show Head0 w.heap.size (A3.alloc (.cells #[.int .i64 a, .int .i64 b, .int .i64 c, .map (some rb), .map (some ob), .pointer (some ⟨x, 0, none⟩), .int .i64 1, .int .i64 0, .int .i64 0, .int .i64 (-1)] 83)) A3.heap.size a b c from ⟨rb, ob, x, mb, heap_new A3 _, go1 ka mr, go1 ka mo, go1 ka hx, go1 ka hm, e1, e2, e3, lr, lo, lx, lm2⟩) (And.intro (Hkw.out.trans kA3).size (Hkw.out.trans (kA3.trans ka))))
   go_simp
   refine hK.out _ _ (keptS (kA3.trans ka)) (fun hS => ?_)
   clear hK K
   try simp only [Act.put, zz]
   refine rd 6 rfl fun K hK => ?_
   go_simp
   go_simp
   refine hK.out _ _ (keptS (kA3.trans ka)) (fun hS => ?_)
   clear hK K
   try simp only [Act.put, zz]
   refine rd 7 rfl fun K hK => ?_
   go_simp
   go_simp
   refine hK.out _ _ (keptS (kA3.trans ka)) (fun hS => ?_)
   clear hK K
   try simp only [Act.put, zz]
   refine wpAnyH_done (by kernel_rfl) ?_ _
   clear hS ka mr mo hx hm
   go_wp2_with fail
   go_ret2
   exact ⟨_, rfl, HH.out.1, HH.out.2.1, HH.out.2.2⟩
  refine AllReadyH.cons rfl (fun K hK => ?_) AllReadyH.nil
  go_simp
  go_at_call 32
  refine (newIx_spec _).mono ?_
  rintro e A2 ⟨x, mb, rfl, hx, hm, lx, lm, -, kn⟩
  have lx := Nat.le_trans (Hkw.out.trans kA1).size lx
  have lm2 := Nat.le_trans (Hkw.out.trans kA1).size lm
  have kA2 := kA1.trans kn
  try (have e2 : rb ≠ mb := by have := mr.lt; omega)
  try (have e3 : ob ≠ mb := by have := lt_of_at mo; omega)
  try (replace mr := go1 kn mr)
  try (replace mo := go1 kn mo)
  clear kn lm
  go_simp
  refine hK.out _ _ (keptS kA2) (fun hS => ?_)
  clear hK K
  try simp only [Act.put, zz]
  refine rd 2 rfl fun K hK => ?_
  go_simp
  have lo : w.heap.size ≤ A2.heap.size := (Hkw.out.trans kA2).size
  have ka := (Keeps.refl [] A2).alloc (.map #[] 0)
  have kA3 : Keeps [] A0 (A2.alloc (.map #[] 0)) := kA2.alloc _
  have mo := heap_new A2 (.map #[] 0)
  try (have e1 : rb ≠ A2.heap.size := by have := mr.lt; omega)
  try (have e3 : A2.heap.size ≠ mb := by have := hm.lt; omega)
  try (replace mr := go1 ka mr)
  try (replace hx := go1 ka hx)
  try (replace hm := go1 ka hm)
  generalize A2.heap.size = ob at *
  generalize A2.alloc (.map #[] 0) = A3 at *
  clear ka
  refine hK.out _ _ (keptS kA3) (fun hS => ?_)
  clear hK K
  try simp only [Act.put, zz]
  refine tk (v := ?_) 4 rfl ?_ ?_; rotate_left
  ·rintro _ ⟨s, rfl⟩; go_simp; (try with_reducible rfl)
  simp only [Act.put, zz]
  refine rd 5 rfl fun K hK => ?_
  go_simp
  have ka := (Keeps.refl [] A3).alloc (.cells #[.int .i64 a, .int .i64 b, .int .i64 c, .map (some rb), .map (some ob), .pointer (some ⟨x, 0, none⟩), .int .i64 1, .int .i64 0, .int .i64 0, .int .i64 (-1)] 83)
  have HH := Lib.hid (And.intro (show Head0 w.heap.size (A3.alloc (.cells #[.int .i64 a, .int .i64 b, .int .i64 c, .map (some rb), .map (some ob), .pointer (some ⟨x, 0, none⟩), .int .i64 1, .int .i64 0, .int .i64 0, .int .i64 (-1)] 83)) A3.heap.size a b c from ⟨rb, ob, x, mb, heap_new A3 _, go1 ka mr, go1 ka mo, go1 ka hx, go1 ka hm, e1, e2, e3, lr, lo, lx, lm2⟩) (And.intro (Hkw.out.trans kA3).size (Hkw.out.trans (kA3.trans ka))))
  go_simp
  refine hK.out _ _ (keptS (kA3.trans ka)) (fun hS => ?_)
  clear hK K
  try simp only [Act.put, zz]
  refine rd 6 rfl fun K hK => ?_
  go_simp
  go_simp
  refine hK.out _ _ (keptS (kA3.trans ka)) (fun hS => ?_)
  clear hK K
  try simp only [Act.put, zz]
  refine rd 7 rfl fun K hK => ?_
  go_simp
  go_simp
  refine hK.out _ _ (keptS (kA3.trans ka)) (fun hS => ?_)
  clear hK K
  try simp only [Act.put, zz]
  refine wpAnyH_done (by kernel_rfl) ?_ _
  clear hS ka mr mo hx hm
  go_wp2_with fail
  go_ret2
  exact ⟨_, rfl, HH.out.1, HH.out.2.1, HH.out.2.2⟩
 refine AllReadyH.cons rfl (fun K hK => ?_) ?_
 ·go_simp
  have lo : w.heap.size ≤ A0.heap.size := (Hkw.out.trans kA0).size
  have ka := (Keeps.refl [] A0).alloc (.map #[] 0)
  have kA1 : Keeps [] A0 (A0.alloc (.map #[] 0)) := kA0.alloc _
  have mo := heap_new A0 (.map #[] 0)
  try (have e1 : rb ≠ A0.heap.size := by have := mr.lt; omega)
  try (have e3 : A0.heap.size ≠ mb := by have := hm.lt; omega)
  try (replace mr := go1 ka mr)
  try (replace hx := go1 ka hx)
  try (replace hm := go1 ka hm)
  generalize A0.heap.size = ob at *
  generalize A0.alloc (.map #[] 0) = A1 at *
  clear ka
  refine hK.out _ _ (keptS kA1) (fun hS => ?_)
  clear hK K
  try simp only [Act.put, zz]
  refine wpAnyH_ready (rs := [1, 3]) (by kernel_rfl) (by simp) ?_
  refine AllReadyH.cons rfl (fun K hK => ?_) ?_
  ·go_simp
   have lr : w.heap.size ≤ A1.heap.size := (Hkw.out.trans kA1).size
   have ka := (Keeps.refl [] A1).alloc (.map #[] 0)
   have kA2 : Keeps [] A0 (A1.alloc (.map #[] 0)) := kA1.alloc _
   have mr := mapAt_new A1
   try (have e1 : A1.heap.size ≠ ob := by have := lt_of_at mo; omega)
   try (have e2 : A1.heap.size ≠ mb := by have := hm.lt; omega)
   try (replace mo := go1 ka mo)
   try (replace hx := go1 ka hx)
   try (replace hm := go1 ka hm)
   generalize A1.heap.size = rb at *
   generalize A1.alloc (.map #[] 0) = A2 at *
   clear ka
   refine hK.out _ _ (keptS kA2) (fun hS => ?_)
   clear hK K
   try simp only [Act.put, zz]
   refine rd 3 rfl fun K hK => ?_
   go_simp
   go_at_call 32
   refine (newIx_spec _).mono ?_
   rintro e A3 ⟨x, mb, rfl, hx, hm, lx, lm, -, kn⟩
   have lx := Nat.le_trans (Hkw.out.trans kA2).size lx
   have lm2 := Nat.le_trans (Hkw.out.trans kA2).size lm
   have kA3 := kA2.trans kn
   try (have e2 : rb ≠ mb := by have := mr.lt; omega)
   try (have e3 : ob ≠ mb := by have := lt_of_at mo; omega)
   try (replace mr := go1 kn mr)
   try (replace mo := go1 kn mo)
   clear kn lm
   go_simp
   refine hK.out _ _ (keptS kA3) (fun hS => ?_)
   clear hK K
   try simp only [Act.put, zz]
   refine tk (v := ?_) 4 rfl ?_ ?_; rotate_left
   ·rintro _ ⟨s, rfl⟩; go_simp; (try with_reducible rfl)
   simp only [Act.put, zz]
   refine rd 5 rfl fun K hK => ?_
   go_simp
   have ka := (Keeps.refl [] A3).alloc (.cells #[.int .i64 a, .int .i64 b, .int .i64 c, .map (some rb), .map (some ob), .pointer (some ⟨x, 0, none⟩), .int .i64 1, .int .i64 0, .int .i64 0, .int .i64 (-1)] 83)
   have HH := Lib.hid (And.intro (show Head0 w.heap.size (A3.alloc (.cells #[.int .i64 a, .int .i64 b, .int .i64 c, .map (some rb), .map (some ob), .pointer (some ⟨x, 0, none⟩), .int .i64 1, .int .i64 0, .int .i64 0, .int .i64 (-1)] 83)) A3.heap.size a b c from ⟨rb, ob, x, mb, heap_new A3 _, go1 ka mr, go1 ka mo, go1 ka hx, go1 ka hm, e1, e2, e3, lr, lo, lx, lm2⟩) (And.intro (Hkw.out.trans kA3).size (Hkw.out.trans (kA3.trans ka))))
   go_simp
   refine hK.out _ _ (keptS (kA3.trans ka)) (fun hS => ?_)
   clear hK K
   try simp only [Act.put, zz]
   refine rd 6 rfl fun K hK => ?_
   go_simp
   go_simp
   refine hK.out _ _ (keptS (kA3.trans ka)) (fun hS => ?_)
   clear hK K
   try simp only [Act.put, zz]
   refine rd 7 rfl fun K hK => ?_
   go_simp
   go_simp
   refine hK.out _ _ (keptS (kA3.trans ka)) (fun hS => ?_)
   clear hK K
   try simp only [Act.put, zz]
   refine wpAnyH_done (by kernel_rfl) ?_ _
   clear hS ka mr mo hx hm
   go_wp2_with fail
   go_ret2
   exact ⟨_, rfl, HH.out.1, HH.out.2.1, HH.out.2.2⟩
  refine AllReadyH.cons rfl (fun K hK => ?_) AllReadyH.nil
  go_simp
  go_at_call 32
  refine (newIx_spec _).mono ?_
  rintro e A2 ⟨x, mb, rfl, hx, hm, lx, lm, -, kn⟩
  have lx := Nat.le_trans (Hkw.out.trans kA1).size lx
  have lm2 := Nat.le_trans (Hkw.out.trans kA1).size lm
  have kA2 := kA1.trans kn
  try (have e2 : rb ≠ mb := by have := mr.lt; omega)
  try (have e3 : ob ≠ mb := by have := lt_of_at mo; omega)
  try (replace mr := go1 kn mr)
  try (replace mo := go1 kn mo)
  clear kn lm
  go_simp
  refine hK.out _ _ (keptS kA2) (fun hS => ?_)
  clear hK K
  try simp only [Act.put, zz]
  refine rd 1 rfl fun K hK => ?_
  go_simp
  have lr : w.heap.size ≤ A2.heap.size := (Hkw.out.trans kA2).size
  have ka := (Keeps.refl [] A2).alloc (.map #[] 0)
  have kA3 : Keeps [] A0 (A2.alloc (.map #[] 0)) := kA2.alloc _
  have mr := mapAt_new A2
  try (have e1 : A2.heap.size ≠ ob := by have := lt_of_at mo; omega)
  try (have e2 : A2.heap.size ≠ mb := by have := hm.lt; omega)
  try (replace mo := go1 ka mo)
  try (replace hx := go1 ka hx)
  try (replace hm := go1 ka hm)
  generalize A2.heap.size = rb at *
  generalize A2.alloc (.map #[] 0) = A3 at *
  clear ka
  refine hK.out _ _ (keptS kA3) (fun hS => ?_)
  clear hK K
  try simp only [Act.put, zz]
  refine tk (v := ?_) 4 rfl ?_ ?_; rotate_left
  ·rintro _ ⟨s, rfl⟩; go_simp; (try with_reducible rfl)
  simp only [Act.put, zz]
  refine rd 5 rfl fun K hK => ?_
  go_simp
  have ka := (Keeps.refl [] A3).alloc (.cells #[.int .i64 a, .int .i64 b, .int .i64 c, .map (some rb), .map (some ob), .pointer (some ⟨x, 0, none⟩), .int .i64 1, .int .i64 0, .int .i64 0, .int .i64 (-1)] 83)
  have HH := Lib.hid (And.intro (show Head0 w.heap.size (A3.alloc (.cells #[.int .i64 a, .int .i64 b, .int .i64 c, .map (some rb), .map (some ob), .pointer (some ⟨x, 0, none⟩), .int .i64 1, .int .i64 0, .int .i64 0, .int .i64 (-1)] 83)) A3.heap.size a b c from ⟨rb, ob, x, mb, heap_new A3 _, go1 ka mr, go1 ka mo, go1 ka hx, go1 ka hm, e1, e2, e3, lr, lo, lx, lm2⟩) (And.intro (Hkw.out.trans kA3).size (Hkw.out.trans (kA3.trans ka))))
  go_simp
  refine hK.out _ _ (keptS (kA3.trans ka)) (fun hS => ?_)
  clear hK K
  try simp only [Act.put, zz]
  refine rd 6 rfl fun K hK => ?_
  go_simp
  go_simp
  refine hK.out _ _ (keptS (kA3.trans ka)) (fun hS => ?_)
  clear hK K
  try simp only [Act.put, zz]
  refine rd 7 rfl fun K hK => ?_
  go_simp
  go_simp
  refine hK.out _ _ (keptS (kA3.trans ka)) (fun hS => ?_)
  clear hK K
  try simp only [Act.put, zz]
  refine wpAnyH_done (by kernel_rfl) ?_ _
  clear hS ka mr mo hx hm
  go_wp2_with fail
  go_ret2
  exact ⟨_, rfl, HH.out.1, HH.out.2.1, HH.out.2.2⟩
 refine AllReadyH.cons rfl (fun K hK => ?_) AllReadyH.nil
 go_simp
 go_at_call 32
 refine (newIx_spec _).mono ?_
 rintro e A1 ⟨x, mb, rfl, hx, hm, lx, lm, -, kn⟩
 have lx := Nat.le_trans (Hkw.out.trans kA0).size lx
 have lm2 := Nat.le_trans (Hkw.out.trans kA0).size lm
 have kA1 := kA0.trans kn
 try (have e2 : rb ≠ mb := by have := mr.lt; omega)
 try (have e3 : ob ≠ mb := by have := lt_of_at mo; omega)
 try (replace mr := go1 kn mr)
 try (replace mo := go1 kn mo)
 clear kn lm
 go_simp
 refine hK.out _ _ (keptS kA1) (fun hS => ?_)
 clear hK K
 try simp only [Act.put, zz]
 refine wpAnyH_ready (rs := [1, 2]) (by kernel_rfl) (by simp) ?_
 refine AllReadyH.cons rfl (fun K hK => ?_) ?_
 ·go_simp
  have lr : w.heap.size ≤ A1.heap.size := (Hkw.out.trans kA1).size
  have ka := (Keeps.refl [] A1).alloc (.map #[] 0)
  have kA2 : Keeps [] A0 (A1.alloc (.map #[] 0)) := kA1.alloc _
  have mr := mapAt_new A1
  try (have e1 : A1.heap.size ≠ ob := by have := lt_of_at mo; omega)
  try (have e2 : A1.heap.size ≠ mb := by have := hm.lt; omega)
  try (replace mo := go1 ka mo)
  try (replace hx := go1 ka hx)
  try (replace hm := go1 ka hm)
  generalize A1.heap.size = rb at *
  generalize A1.alloc (.map #[] 0) = A2 at *
  clear ka
  refine hK.out _ _ (keptS kA2) (fun hS => ?_)
  clear hK K
  try simp only [Act.put, zz]
  refine rd 2 rfl fun K hK => ?_
  go_simp
  have lo : w.heap.size ≤ A2.heap.size := (Hkw.out.trans kA2).size
  have ka := (Keeps.refl [] A2).alloc (.map #[] 0)
  have kA3 : Keeps [] A0 (A2.alloc (.map #[] 0)) := kA2.alloc _
  have mo := heap_new A2 (.map #[] 0)
  try (have e1 : rb ≠ A2.heap.size := by have := mr.lt; omega)
  try (have e3 : A2.heap.size ≠ mb := by have := hm.lt; omega)
  try (replace mr := go1 ka mr)
  try (replace hx := go1 ka hx)
  try (replace hm := go1 ka hm)
  generalize A2.heap.size = ob at *
  generalize A2.alloc (.map #[] 0) = A3 at *
  clear ka
  refine hK.out _ _ (keptS kA3) (fun hS => ?_)
  clear hK K
  try simp only [Act.put, zz]
  refine tk (v := ?_) 4 rfl ?_ ?_; rotate_left
  ·rintro _ ⟨s, rfl⟩; go_simp; (try with_reducible rfl)
  simp only [Act.put, zz]
  refine rd 5 rfl fun K hK => ?_
  go_simp
  have ka := (Keeps.refl [] A3).alloc (.cells #[.int .i64 a, .int .i64 b, .int .i64 c, .map (some rb), .map (some ob), .pointer (some ⟨x, 0, none⟩), .int .i64 1, .int .i64 0, .int .i64 0, .int .i64 (-1)] 83)
  have HH := Lib.hid (And.intro (show Head0 w.heap.size (A3.alloc (.cells #[.int .i64 a, .int .i64 b, .int .i64 c, .map (some rb), .map (some ob), .pointer (some ⟨x, 0, none⟩), .int .i64 1, .int .i64 0, .int .i64 0, .int .i64 (-1)] 83)) A3.heap.size a b c from ⟨rb, ob, x, mb, heap_new A3 _, go1 ka mr, go1 ka mo, go1 ka hx, go1 ka hm, e1, e2, e3, lr, lo, lx, lm2⟩) (And.intro (Hkw.out.trans kA3).size (Hkw.out.trans (kA3.trans ka))))
  go_simp
  refine hK.out _ _ (keptS (kA3.trans ka)) (fun hS => ?_)
  clear hK K
  try simp only [Act.put, zz]
  refine rd 6 rfl fun K hK => ?_
  go_simp
  go_simp
  refine hK.out _ _ (keptS (kA3.trans ka)) (fun hS => ?_)
  clear hK K
  try simp only [Act.put, zz]
  refine rd 7 rfl fun K hK => ?_
  go_simp
  go_simp
  refine hK.out _ _ (keptS (kA3.trans ka)) (fun hS => ?_)
  clear hK K
  try simp only [Act.put, zz]
  refine wpAnyH_done (by kernel_rfl) ?_ _
  clear hS ka mr mo hx hm
  go_wp2_with fail
  go_ret2
  exact ⟨_, rfl, HH.out.1, HH.out.2.1, HH.out.2.2⟩
 refine AllReadyH.cons rfl (fun K hK => ?_) AllReadyH.nil
 go_simp
 have lo : w.heap.size ≤ A1.heap.size := (Hkw.out.trans kA1).size
 have ka := (Keeps.refl [] A1).alloc (.map #[] 0)
 have kA2 : Keeps [] A0 (A1.alloc (.map #[] 0)) := kA1.alloc _
 have mo := heap_new A1 (.map #[] 0)
 try (have e1 : rb ≠ A1.heap.size := by have := mr.lt; omega)
 try (have e3 : A1.heap.size ≠ mb := by have := hm.lt; omega)
 try (replace mr := go1 ka mr)
 try (replace hx := go1 ka hx)
 try (replace hm := go1 ka hm)
 generalize A1.heap.size = ob at *
 generalize A1.alloc (.map #[] 0) = A2 at *
 clear ka
 refine hK.out _ _ (keptS kA2) (fun hS => ?_)
 clear hK K
 try simp only [Act.put, zz]
 refine rd 1 rfl fun K hK => ?_
 go_simp
 have lr : w.heap.size ≤ A2.heap.size := (Hkw.out.trans kA2).size
 have ka := (Keeps.refl [] A2).alloc (.map #[] 0)
 have kA3 : Keeps [] A0 (A2.alloc (.map #[] 0)) := kA2.alloc _
 have mr := mapAt_new A2
 try (have e1 : A2.heap.size ≠ ob := by have := lt_of_at mo; omega)
 try (have e2 : A2.heap.size ≠ mb := by have := hm.lt; omega)
 try (replace mo := go1 ka mo)
 try (replace hx := go1 ka hx)
 try (replace hm := go1 ka hm)
 generalize A2.heap.size = rb at *
 generalize A2.alloc (.map #[] 0) = A3 at *
 clear ka
 refine hK.out _ _ (keptS kA3) (fun hS => ?_)
 clear hK K
 try simp only [Act.put, zz]
 refine tk (v := ?_) 4 rfl ?_ ?_; rotate_left
 ·rintro _ ⟨s, rfl⟩; go_simp; (try with_reducible rfl)
 simp only [Act.put, zz]
 refine rd 5 rfl fun K hK => ?_
 go_simp
 have ka := (Keeps.refl [] A3).alloc (.cells #[.int .i64 a, .int .i64 b, .int .i64 c, .map (some rb), .map (some ob), .pointer (some ⟨x, 0, none⟩), .int .i64 1, .int .i64 0, .int .i64 0, .int .i64 (-1)] 83)
 have HH := Lib.hid (And.intro (show Head0 w.heap.size (A3.alloc (.cells #[.int .i64 a, .int .i64 b, .int .i64 c, .map (some rb), .map (some ob), .pointer (some ⟨x, 0, none⟩), .int .i64 1, .int .i64 0, .int .i64 0, .int .i64 (-1)] 83)) A3.heap.size a b c from ⟨rb, ob, x, mb, heap_new A3 _, go1 ka mr, go1 ka mo, go1 ka hx, go1 ka hm, e1, e2, e3, lr, lo, lx, lm2⟩) (And.intro (Hkw.out.trans kA3).size (Hkw.out.trans (kA3.trans ka))))
 go_simp
 refine hK.out _ _ (keptS (kA3.trans ka)) (fun hS => ?_)
 clear hK K
 try simp only [Act.put, zz]
 refine rd 6 rfl fun K hK => ?_
 go_simp
 go_simp
 refine hK.out _ _ (keptS (kA3.trans ka)) (fun hS => ?_)
 clear hK K
 try simp only [Act.put, zz]
 refine rd 7 rfl fun K hK => ?_
 go_simp
 go_simp
 refine hK.out _ _ (keptS (kA3.trans ka)) (fun hS => ?_)
 clear hK K
 try simp only [Act.put, zz]
 refine wpAnyH_done (by kernel_rfl) ?_ _
 clear hS ka mr mo hx hm
 go_wp2_with fail
 go_ret2
 exact ⟨_, rfl, HH.out.1, HH.out.2.1, HH.out.2.2⟩
end Go.Proofs.YtgdkceeonnfejaaGreatDoor
