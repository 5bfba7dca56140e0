/-
  DiskPlays: Does, of Clear.
-/
import Derived.Test.YthcdodjdlgeeoaaDiskDoesO
namespace Go.Proofs.Ythcdodjdlgeeoaa
open Go Go.RowKit Go.ChangeShapes Go.WideShapes Go.Deep

set_option linter.unusedSimpArgs false in
set_option maxRecDepth 100000 in
set_option maxHeartbeats 1000000 in
theorem doesD_clear (w : World) (d f c mb k room : Nat) (armed : Bool) (Q : List (Int × Bool)) (o : List (ByteArray × Ob)) (v : Value) (an : Int) (aa ab : ByteArray) (ad : Bool) (co : Option Addr) (cn cc : Nat)
    (hD : DiskAt w d f c mb armed Q room o) (hx : RefD w v (full o) (room : Int) Q) (hinv : InvD o k) :
    Calls Try.prog 44 #[.pointer (some ⟨d, 0, none⟩), v, .agg #[.int .i64 7, .int .i64 an, .string aa, .string ab, .bool ad, .slice co cn cc]] w (DoesDPost w d f c mb (k + 1) room) := by
  obtain ⟨a, ca, b, cb, rfl⟩ := hx.form
  have H := Lib.hid (And.intro hD (And.intro hx hinv))
  have hlt := hD.lt
  clear hD hx hinv
  go_enter Try.func44, Try.ntmps44
  go_upto_region 1 with fail
  have hk3 : Keeps [] w (((w.alloc (.cells #[.slice a (full o).length ca, .int .i64 (room : Int), .slice b Q.length cb] 96)).alloc (.cells #[.int .i64 7, .int .i64 an, .string aa, .string ab, .bool ad, .slice co cn cc] 70)).alloc (.cells #[.slice none 0 0, .int .i64 0, .slice none 0 0] 96)) := (((Keeps.refl [] w).alloc _).alloc _).alloc _
  obtain ⟨q0, q1, q2⟩ := new3 w (.cells #[.slice a (full o).length ca, .int .i64 (room : Int), .slice b Q.length cb] 96) (.cells #[.int .i64 7, .int .i64 an, .string aa, .string ab, .bool ad, .slice co cn cc] 70) (.cells #[.slice none 0 0, .int .i64 0, .slice none 0 0] 96)
  generalize (((w.alloc (.cells #[.slice a (full o).length ca, .int .i64 (room : Int), .slice b Q.length cb] 96)).alloc (.cells #[.int .i64 7, .int .i64 an, .string aa, .string ab, .bool ad, .slice co cn cc] 70)).alloc (.cells #[.slice none 0 0, .int .i64 0, .slice none 0 0] 96)) = W3 at hk3 q0 q1 q2 ⊢
  have c1 := cells_at q1
  have l1 := lt_of_at q1
  go_quiet ((go_at_call 14; exact quiet_same ((cut_any _ _ _ (by decide)))))
  generalize cut aa 45 = n
  generalize cut ab 50 = s
  have p0 : (W3.drewN nq).heap[w.heap.size]? = _ := q0
  have p1 : (W3.drewN nq).heap[w.heap.size + 1]? = _ := q1
  have p2 : (W3.drewN nq).heap[w.heap.size + 1 + 1]? = _ := q2
  have kp := hk3.drewN nq
  clear c1 l1 q0 q1 q2 hk3
  generalize W3.drewN nq = W4 at p0 p1 p2 kp ⊢
  have c1 := cells_at p1
  have cd := cells_at (H.out.1.same kp).cells
  have ld := (H.out.1.same kp).lt.1
  go_wp2_with fail
  refine (clear_spec W4 f c armed Q (H.out.1.same kp).fuse).mono ?_
  rintro e w5 ⟨rfl, hq5, hk5⟩
  have hk5' : Keeps [f, c, mb, d] W4 w5 := hk5.mono (by intro q hq; simp at hq ⊢; omega)
  have hd5 := (H.out.1.same kp).tried hk5 hq5
  have hx5 := (H.out.2.1.keep kp).calls (H.out.1.same kp) hk5'
  have hk05 : Keeps [f, c, mb, d] w w5 := (kp.mono (by simp)).after hk5' (fun q hq => .inl hq)
  replace p0 := hk5'.at_ p0 (by simp; omega)
  replace p1 := hk5'.at_ p1 (by simp; omega)
  replace p2 := hk5'.at_ p2 (by simp; omega)
  have c0 := cells_at p0
  have f0 := free_at p0
  have l0 := lt_of_at p0
  have c2 := cells_at p2
  have f2 := free_at p2
  have l2 := lt_of_at p2
  have k1 : Keeps [w.heap.size] w5 (w5.setCell ⟨w.heap.size, 2, none⟩ (.slice none 0 0)) := (Keeps.refl _ w5).setCell (.inl (by simp)) _
  have p2' := k1.at_ p2 (by simp only [List.mem_singleton]; omega)
  have kq : Keeps [w.heap.size + 1 + 1] (w5.setCell ⟨w.heap.size, 2, none⟩ (.slice none 0 0)) ((((w5.setCell ⟨w.heap.size, 2, none⟩ (.slice none 0 0)).setCell ⟨w.heap.size + 1 + 1, 0, none⟩ (.slice a (full o).length ca)).setCell ⟨w.heap.size + 1 + 1, 1, none⟩ (.int .i64 (room : Int))).setCell ⟨w.heap.size + 1 + 1, 2, none⟩ (.slice none 0 0)) := (((Keeps.refl _ _).setCell (.inl (by simp)) _).setCell (.inl (by simp)) _).setCell (.inl (by simp)) _
  have hx6 := hx5.step ⟨_, _, _, _, _, _, _, p0⟩ k1
  obtain ⟨sx, fx, hv, hsx, _, _⟩ := hx6.step ⟨_, _, _, _, _, _, _, p2'⟩ kq
  injection hv with hv
  simp only [Array.mk.injEq, List.cons.injEq, and_true, true_and] at hv
  obtain ⟨rfl, rfl⟩ := hv
  have hx7 : RefD _ (.agg #[.slice a (full o).length ca, .int .i64 (room : Int), .slice none 0 0]) (full o) (room : Int) [] := ⟨_, _, rfl, hsx, ⟨none, 0, 0, rfl, Nat.le_refl _, fun _ => rfl⟩, sliceArg_nil 2 encFo _, fun b n c e hn => by injection e with e1 _ _; cases e1⟩
  have hd7 := (hd5.keep k1 (by simp; omega) (by simp; omega) (by simp; omega) (by simp; omega)).keep kq (by simp; omega) (by simp; omega) (by simp; omega) (by simp; omega)
  have hk07 : Keeps [f, c, mb, d] w _ := (hk05.after k1 (fun q hq => .inr (by simp only [List.mem_singleton] at hq; omega))).after kq (fun q hq => .inr (by simp only [List.mem_singleton] at hq; omega))
  have r7 := heap_cell_same (i := 2) (heap_cell_same (i := 1) (heap_cell_same (i := 0) p2' (.slice a (full o).length ca)) (.int .i64 (room : Int))) (.slice none 0 0)
  have Hfin := Lib.hid (And.intro hx7 (And.intro hd7 (And.intro hk07 r7)))
  clear k1 kq hx5 hx6 hx7 hd5 hd7 hk05 hk07 r7 p0 p1 p2 p2' kp hk5 hk5' hq5 hsx cd
  go_wp2_with fail
  have hc := cells_at Hfin.out.2.2.2
  refine bodyPost_ret (v := .tuple #[.agg #[.slice a (full o).length ca, .int .i64 (room : Int), .slice none 0 0], .bool true]) ?_ rfl ?_
  · simp [results, Try.results44, go_sem, hc, l2]
  · exact ⟨_, _, _, o, rfl, Hfin.out.2.1, Hfin.out.1, H.out.2.2.next, Hfin.out.2.2.1⟩

end Go.Proofs.Ythcdodjdlgeeoaa
