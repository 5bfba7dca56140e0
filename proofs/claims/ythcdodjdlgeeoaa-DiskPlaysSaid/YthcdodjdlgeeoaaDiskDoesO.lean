/-
  DiskPlays: Does, of any other kind.
-/
import Derived.Test.YthcdodjdlgeeoaaDiskDoesT
namespace Go.Proofs.Ythcdodjdlgeeoaa
open Go Go.RowKit Go.ChangeShapes Go.WideShapes Go.Deep

set_option linter.unusedSimpArgs false in
set_option maxRecDepth 100000 in
set_option maxHeartbeats 1000000 in
theorem doesD_other (w : World) (d f c mb k room : Nat) (armed : Bool) (Q : List (Int × Bool)) (o : List (ByteArray × Ob)) (v : Value) (ak : Int) (hak : ak < 1 ∨ 8 < ak) (an : Int) (aa ab : ByteArray) (ad : Bool) (co : Option Addr) (cn cc : Nat)
    (hD : DiskAt w d f c mb armed Q room o) (hx : RefD w v (full o) (room : Int) Q) (hinv : InvD o k) :
    Calls Try.prog 44 #[.pointer (some ⟨d, 0, none⟩), v, .agg #[.int .i64 ak, .int .i64 an, .string aa, .string ab, .bool ad, .slice co cn cc]] w (DoesDPost w d f c mb (k + 1) room) := by
  obtain ⟨a, ca, b, cb, rfl⟩ := hx.form
  have H := Lib.hid (And.intro hD (And.intro hx hinv))
  have hlt := hD.lt
  clear hD hx hinv
  have k1 : (ak == 1) = false := by rw [beq_eq_false_iff_ne]; omega
  have k2 : (ak == 2) = false := by rw [beq_eq_false_iff_ne]; omega
  have k3 : (ak == 3) = false := by rw [beq_eq_false_iff_ne]; omega
  have k4 : (ak == 4) = false := by rw [beq_eq_false_iff_ne]; omega
  have k5 : (ak == 5) = false := by rw [beq_eq_false_iff_ne]; omega
  have k6 : (ak == 6) = false := by rw [beq_eq_false_iff_ne]; omega
  have k7 : (ak == 7) = false := by rw [beq_eq_false_iff_ne]; omega
  have k8 : (ak == 8) = false := by rw [beq_eq_false_iff_ne]; omega
  clear hak
  go_enter Try.func44, Try.ntmps44
  go_upto_region 1 with fail
  have hk3 : Keeps [] w (((w.alloc (.cells #[.slice a (full o).length ca, .int .i64 (room : Int), .slice b Q.length cb] 96)).alloc (.cells #[.int .i64 ak, .int .i64 an, .string aa, .string ab, .bool ad, .slice co cn cc] 70)).alloc (.cells #[.slice none 0 0, .int .i64 0, .slice none 0 0] 96)) := (((Keeps.refl [] w).alloc _).alloc _).alloc _
  obtain ⟨q0, q1, q2⟩ := new3 w (.cells #[.slice a (full o).length ca, .int .i64 (room : Int), .slice b Q.length cb] 96) (.cells #[.int .i64 ak, .int .i64 an, .string aa, .string ab, .bool ad, .slice co cn cc] 70) (.cells #[.slice none 0 0, .int .i64 0, .slice none 0 0] 96)
  generalize (((w.alloc (.cells #[.slice a (full o).length ca, .int .i64 (room : Int), .slice b Q.length cb] 96)).alloc (.cells #[.int .i64 ak, .int .i64 an, .string aa, .string ab, .bool ad, .slice co cn cc] 70)).alloc (.cells #[.slice none 0 0, .int .i64 0, .slice none 0 0] 96)) = W3 at hk3 q0 q1 q2 ⊢
  have c1 := cells_at q1
  have l1 := lt_of_at q1
  go_quiet ((go_at_call 14; exact quiet_same ((cut_any _ _ _ (by decide)))))
  generalize cut aa 45 = n
  generalize cut ab 50 = s
  have p0 : (W3.drewN nq).heap[w.heap.size]? = _ := q0
  have p1 : (W3.drewN nq).heap[w.heap.size + 1]? = _ := q1
  have p2 : (W3.drewN nq).heap[w.heap.size + 1 + 1]? = _ := q2
  have kp := hk3.drewN nq
  clear c1 l1 q0 q1 q2 hk3
  generalize W3.drewN nq = W4 at p0 p1 p2 kp ⊢
  have c0 := cells_at p0
  have c1 := cells_at p1
  have c2 := cells_at p2
  have f2 := free_at p2
  have l2 := lt_of_at p2
  have kq : Keeps [w.heap.size + 1 + 1] W4 (((W4.setCell ⟨w.heap.size + 1 + 1, 0, none⟩ (.slice a (full o).length ca)).setCell ⟨w.heap.size + 1 + 1, 1, none⟩ (.int .i64 (room : Int))).setCell ⟨w.heap.size + 1 + 1, 2, none⟩ (.slice b Q.length cb)) := (((Keeps.refl _ W4).setCell (.inl (by simp)) _).setCell (.inl (by simp)) _).setCell (.inl (by simp)) _
  have hx7 := (H.out.2.1.keep kp).step ⟨_, _, _, _, _, _, _, p2⟩ kq
  have hd7 := (H.out.1.same kp).keep kq (by simp; omega) (by simp; omega) (by simp; omega) (by simp; omega)
  have hk07 : Keeps [f, c, mb, d] w _ := (kp.mono (S' := [f, c, mb, d]) (by simp)).after kq (fun q hq => .inr (by simp only [List.mem_singleton] at hq; omega))
  have r7 := heap_cell_same (i := 2) (heap_cell_same (i := 1) (heap_cell_same (i := 0) p2 (.slice a (full o).length ca)) (.int .i64 (room : Int))) (.slice b Q.length cb)
  have Hfin := Lib.hid (And.intro hx7 (And.intro hd7 (And.intro hk07 r7)))
  clear kq hx7 hd7 hk07 r7 p0 p1 p2 kp
  go_wp2_with fail
  have hc := cells_at Hfin.out.2.2.2
  refine bodyPost_ret (v := .tuple #[.agg #[.slice a (full o).length ca, .int .i64 (room : Int), .slice b Q.length cb], .bool true]) ?_ rfl ?_
  · simp [results, Try.results44, go_sem, hc, l2]
  · exact ⟨_, _, _, o, rfl, Hfin.out.2.1, Hfin.out.1, H.out.2.2.next, Hfin.out.2.2.1⟩

end Go.Proofs.Ythcdodjdlgeeoaa
