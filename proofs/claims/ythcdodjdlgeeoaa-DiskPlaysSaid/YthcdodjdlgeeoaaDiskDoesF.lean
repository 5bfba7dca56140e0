/-
  DiskPlays: Does, of Arm.
-/
import Derived.Test.YthcdodjdlgeeoaaDiskArm
namespace Go.Proofs.Ythcdodjdlgeeoaa
open Go Go.RowKit Go.ChangeShapes Go.WideShapes Go.Deep

set_option linter.unusedSimpArgs false in
set_option maxRecDepth 100000 in
set_option maxHeartbeats 1000000 in
theorem doesD_arm (w : World) (d f c mb k room : Nat) (armed : Bool) (Q : List (Int × Bool)) (o : List (ByteArray × Ob)) (v : Value) (an : Int) (aa ab : ByteArray) (ad : Bool) (co : Option Addr) (cn cc : Nat) (han : an ≤ 9223372036854775807)
    (hD : DiskAt w d f c mb armed Q room o) (hx : RefD w v (full o) (room : Int) Q) (hinv : InvD o k) :
    Calls Try.prog 44 #[.pointer (some ⟨d, 0, none⟩), v, .agg #[.int .i64 6, .int .i64 an, .string aa, .string ab, .bool ad, .slice co cn cc]] w (DoesDPost w d f c mb (k + 1) room) := by
  obtain ⟨a, ca, b, cb, rfl⟩ := hx.form
  have H := Lib.hid (And.intro hD (And.intro hx hinv))
  have hlt := hD.lt
  clear hD hx hinv
  go_enter Try.func44, Try.ntmps44
  go_upto_region 1 with fail
  have hk3 : Keeps [] w (((w.alloc (.cells #[.slice a (full o).length ca, .int .i64 (room : Int), .slice b Q.length cb] 96)).alloc (.cells #[.int .i64 6, .int .i64 an, .string aa, .string ab, .bool ad, .slice co cn cc] 70)).alloc (.cells #[.slice none 0 0, .int .i64 0, .slice none 0 0] 96)) := (((Keeps.refl [] w).alloc _).alloc _).alloc _
  obtain ⟨q0, q1, q2⟩ := new3 w (.cells #[.slice a (full o).length ca, .int .i64 (room : Int), .slice b Q.length cb] 96) (.cells #[.int .i64 6, .int .i64 an, .string aa, .string ab, .bool ad, .slice co cn cc] 70) (.cells #[.slice none 0 0, .int .i64 0, .slice none 0 0] 96)
  generalize (((w.alloc (.cells #[.slice a (full o).length ca, .int .i64 (room : Int), .slice b Q.length cb] 96)).alloc (.cells #[.int .i64 6, .int .i64 an, .string aa, .string ab, .bool ad, .slice co cn cc] 70)).alloc (.cells #[.slice none 0 0, .int .i64 0, .slice none 0 0] 96)) = W3 at hk3 q0 q1 q2 ⊢
  have c1 := cells_at q1
  have l1 := lt_of_at q1
  go_quiet ((go_at_call 14; exact quiet_same ((cut_any _ _ _ (by decide)))))
  generalize cut aa 45 = n
  generalize cut ab 50 = s
  have p0 : (W3.drewN nq).heap[w.heap.size]? = _ := q0
  have p1 : (W3.drewN nq).heap[w.heap.size + 1]? = _ := q1
  have p2 : (W3.drewN nq).heap[w.heap.size + 1 + 1]? = _ := q2
  have kp := hk3.drewN nq
  clear c1 l1 q0 q1 q2 hk3
  generalize W3.drewN nq = W4 at p0 p1 p2 kp ⊢
  have c1 := cells_at p1
  have l1 := lt_of_at p1
  have cd := cells_at (H.out.1.same kp).cells
  have ld := (H.out.1.same kp).lt.1
  go_upto_region 17 with fail
  go_still_tail 8, (by kernel_rfl)
  change wpList _ _ _ _ _ W4.drew
  have kp5 := kp.drew
  replace p0 : W4.drew.heap[w.heap.size]? = _ := p0
  replace p1 : W4.drew.heap[w.heap.size + 1]? = _ := p1
  replace p2 : W4.drew.heap[w.heap.size + 1 + 1]? = _ := p2
  clear c1 l1 cd ld kp
  generalize W4.drew = W5 at p0 p1 p2 kp5 ⊢
  go_wp2_with fail
  refine (arm_spec W5 f c armed Q an ad han (H.out.1.same kp5).fuse).mono ?_
  rintro e w5 hp
  have hp' : ∃ Q5 er, e = .returned (.int .i64 er) ∧ FuseQ w5 f c armed Q5 ∧ Keeps [f, c] W5 w5 ∧ ((er = 0 ∧ Q.length ≤ 16 ∧ Q5 = Q ++ [(max an 0, ad)]) ∨ (er = 7 ∧ 16 ≤ Q.length ∧ Q5 = Q)) := by
    rcases hp with ⟨hq, he, hf4, hk4⟩ | ⟨hq, he, rfl⟩
    · exact ⟨_, _, he, hf4, hk4, .inl ⟨rfl, by cases armed <;> simp at hq <;> omega, rfl⟩⟩
    · exact ⟨_, _, he, (H.out.1.same kp5).fuse, Keeps.refl _ _, .inr ⟨rfl, by omega, rfl⟩⟩
  clear hp
  obtain ⟨Q5, er, rfl, hf5, hk5, hcase⟩ := hp'
  have hk5' : Keeps [f, c, mb, d] W5 w5 := hk5.mono (by intro q hq; simp at hq ⊢; omega)
  have hd5 := (H.out.1.same kp5).tried hk5 hf5
  have hx5 := (H.out.2.1.keep kp5).calls (H.out.1.same kp5) hk5'
  have hk05 : Keeps [f, c, mb, d] w w5 := (kp5.mono (by simp)).after hk5' (fun q hq => .inl hq)
  replace p0 := hk5'.at_ p0 (by simp; omega)
  replace p1 := hk5'.at_ p1 (by simp; omega)
  replace p2 := hk5'.at_ p2 (by simp; omega)
  have hQ := (H.out.1.fuse.bounds).1
  have harm : ∀ w', w' = w5 → Calls Try.prog 66 #[.agg #[.slice a (full o).length ca, .int .i64 (room : Int), .slice b Q.length cb], .agg #[.int .i64 6, .int .i64 an, .string aa, .string ab, .bool ad, .slice co cn cc], .int .i64 er] w5 fun e w' => ∃ x, e = .returned (.tuple #[x, .bool true]) ∧ RefD w' x (full o) room Q5 ∧ Keeps [] w5 w' := by
    intro _ _
    rcases hcase with ⟨rfl, h16, rfl⟩ | ⟨rfl, h16, rfl⟩
    · exact armD_more w5 _ _ _ Q (by omega) hx5 h16 6 an aa ab ad co cn cc
    · exact armD_full w5 _ _ _ _ hx5 h16 6 an aa ab ad co cn cc
  have Harm := Lib.hid harm
  have Hd := Lib.hid (And.intro hd5 (And.intro hk05 (And.intro p0 (And.intro p1 p2))))
  have c0 := cells_at p0
  have c1 := cells_at p1
  clear hcase harm hd5 hx5 hk05 hk5 hk5' p0 p1 p2 kp5 hf5
  go_wp2_with fail
  refine (Harm.out _ rfl).mono ?_
  rintro e w6 ⟨v6, rfl, hx6, hk6⟩
  obtain ⟨a6, c6, b6, d6, rfl⟩ := hx6.form
  have r2 := hk6.at_ Hd.out.2.2.2.2 (by simp)
  have hd6 := Hd.out.1.same hk6
  have hk06 : Keeps [f, c, mb, d] w w6 := Hd.out.2.1.after hk6 (by simp)
  have kq : Keeps [w.heap.size + 1 + 1] w6 (((w6.setCell ⟨w.heap.size + 1 + 1, 0, none⟩ (.slice a6 (full o).length c6)).setCell ⟨w.heap.size + 1 + 1, 1, none⟩ (.int .i64 (room : Int))).setCell ⟨w.heap.size + 1 + 1, 2, none⟩ (.slice b6 Q5.length d6)) := (((Keeps.refl _ w6).setCell (.inl (by simp)) _).setCell (.inl (by simp)) _).setCell (.inl (by simp)) _
  have hx7 := hx6.step ⟨_, _, _, _, _, _, _, r2⟩ kq
  have hd7 := hd6.keep kq (by simp; omega) (by simp; omega) (by simp; omega) (by simp; omega)
  have hk07 : Keeps [f, c, mb, d] w _ := hk06.after kq (fun q hq => .inr (by simp only [List.mem_singleton] at hq; omega))
  have r7 := heap_cell_same (i := 2) (heap_cell_same (i := 1) (heap_cell_same (i := 0) r2 (.slice a6 (full o).length c6)) (.int .i64 (room : Int))) (.slice b6 Q5.length d6)
  have Hfin := Lib.hid (And.intro hx7 (And.intro hd7 (And.intro hk07 r7)))
  have c2 := cells_at r2
  have f2 := free_at r2
  have l2 := lt_of_at r2
  clear hx6 hd6 hk06 kq hx7 hd7 hk07 r7 r2 hk6 Hd Harm c0 c1
  go_wp2_with fail
  have hc := cells_at Hfin.out.2.2.2
  refine bodyPost_ret (v := .tuple #[.agg #[.slice a6 (full o).length c6, .int .i64 (room : Int), .slice b6 Q5.length d6], .bool true]) ?_ rfl ?_
  · simp [results, Try.results44, go_sem, hc, l2]
  · exact ⟨_, _, _, o, rfl, Hfin.out.2.1, Hfin.out.1, H.out.2.2.next, Hfin.out.2.2.1⟩

end Go.Proofs.Ythcdodjdlgeeoaa
