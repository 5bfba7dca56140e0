/-
  DiskPlays: Does, of Append, Sync, Rename, Remove.
-/
import Derived.Test.YthcdodjdlgeeoaaDiskDoes
import Derived.Test.YthcdodjdlgeeoaaBucketLast
namespace Go.Proofs.Ythcdodjdlgeeoaa
open Go Go.RowKit Go.ChangeShapes Go.WideShapes Go.Deep

def DoesDPost (w : World) (d f c mb k room : Nat) (e : Ending) (w' : World) : Prop :=
  ∃ y armed Q o, e = .returned (.tuple #[y, .bool true]) ∧ DiskAt w' d f c mb armed Q room o ∧ RefD w' y (full o) (room : Int) Q ∧ InvD o k ∧ Keeps [f, c, mb, d] w w'

set_option linter.unusedSimpArgs false in
set_option maxRecDepth 100000 in
set_option maxHeartbeats 1000000 in
theorem doesD_app (w : World) (d f c mb k room : Nat) (armed : Bool) (Q : List (Int × Bool)) (o : List (ByteArray × Ob)) (v : Value) (an : Int) (aa ab : ByteArray) (ad : Bool) (co : Option Addr) (cn cc : Nat) (hk40 : k ≤ 40)
    (hD : DiskAt w d f c mb armed Q room o) (hx : RefD w v (full o) (room : Int) Q) (hinv : InvD o k) :
    Calls Try.prog 44 #[.pointer (some ⟨d, 0, none⟩), v, .agg #[.int .i64 1, .int .i64 an, .string aa, .string ab, .bool ad, .slice co cn cc]] w (DoesDPost w d f c mb (k + 1) room) := by
  obtain ⟨a, ca, b, cb, rfl⟩ := hx.form
  have H := Lib.hid (And.intro hD (And.intro hx hinv))
  have hlt := hD.lt
  clear hD hx hinv
  go_enter Try.func44, Try.ntmps44
  go_upto_region 1 with fail
  have hk3 : Keeps [] w (((w.alloc (.cells #[.slice a (full o).length ca, .int .i64 (room : Int), .slice b Q.length cb] 96)).alloc (.cells #[.int .i64 1, .int .i64 an, .string aa, .string ab, .bool ad, .slice co cn cc] 70)).alloc (.cells #[.slice none 0 0, .int .i64 0, .slice none 0 0] 96)) := (((Keeps.refl [] w).alloc _).alloc _).alloc _
  obtain ⟨q0, q1, q2⟩ := new3 w (.cells #[.slice a (full o).length ca, .int .i64 (room : Int), .slice b Q.length cb] 96) (.cells #[.int .i64 1, .int .i64 an, .string aa, .string ab, .bool ad, .slice co cn cc] 70) (.cells #[.slice none 0 0, .int .i64 0, .slice none 0 0] 96)
  generalize (((w.alloc (.cells #[.slice a (full o).length ca, .int .i64 (room : Int), .slice b Q.length cb] 96)).alloc (.cells #[.int .i64 1, .int .i64 an, .string aa, .string ab, .bool ad, .slice co cn cc] 70)).alloc (.cells #[.slice none 0 0, .int .i64 0, .slice none 0 0] 96)) = W3 at hk3 q0 q1 q2 ⊢
  have c1 := cells_at q1
  have l1 := lt_of_at q1
  have ha := cut_size aa 45
  have hb := cut_size ab 50
  go_quiet ((go_at_call 14; exact quiet_same ((cut_any _ _ _ (by decide)))))
  generalize cut aa 45 = n at ha ⊢
  generalize cut ab 50 = s at hb ⊢
  have p0 : (W3.drewN nq).heap[w.heap.size]? = _ := q0
  have p1 : (W3.drewN nq).heap[w.heap.size + 1]? = _ := q1
  have p2 : (W3.drewN nq).heap[w.heap.size + 1 + 1]? = _ := q2
  have kp := hk3.drewN nq
  clear c1 l1 q0 q1 q2 hk3
  generalize W3.drewN nq = W4 at p0 p1 p2 kp ⊢
  have c1 := cells_at p1
  go_wp2_with fail
  have hnd := H.out.1.nodup
  refine (append_spec W4 d f c mb armed Q room o (H.out.1.same kp) n s (by omega)).mono ?_
  rintro e w5 ⟨rfl, hd5, hk5⟩
  have hx5 := (H.out.2.1.keep kp).calls (H.out.1.same kp) hk5
  have hk05 : Keeps [f, c, mb, d] w w5 := (kp.mono (by simp)).after hk5 (fun q hq => .inl hq)
  replace p0 := hk5.at_ p0 (by simp; omega)
  replace p1 := hk5.at_ p1 (by simp; omega)
  replace p2 := hk5.at_ p2 (by simp; omega)
  have c0 := cells_at p0
  have c1 := cells_at p1
  have hi := H.out.2.2
  obtain ⟨hQ, hQk⟩ := H.out.1.fuse.bounds
  have hdo := refDo1 w5 _ o room Q hnd H.out.1.roomOk H.out.1.fits (by have := hi.usd; omega) (by have := hi.len; omega) hQ hQk hx5 n s (by omega) (by omega)
  have Hdo := Lib.hid hdo
  have Hi := Lib.hid (InvD.op (appR room o n s) Q hi (hi.app s (n := n) (by omega) hb))
  have Hd := Lib.hid (And.intro hd5 (And.intro hk05 (And.intro p0 (And.intro p1 p2))))
  clear hdo hi hd5 hk5 hx5 hk05 kp p0 p1 p2
  generalize appR room o n s = r at Hdo Hi Hd ⊢
  go_wp2_with fail
  refine Hdo.out.mono ?_
  rintro e w6 ⟨v6, rfl, hx6, hk6⟩
  obtain ⟨a6, c6, b6, d6, rfl⟩ := hx6.form
  have r2 := hk6.at_ Hd.out.2.2.2.2 (by simp)
  have hd6 := Hd.out.1.same hk6
  have hk06 : Keeps [f, c, mb, d] w w6 := Hd.out.2.1.after hk6 (by simp)
  generalize opO r Q o (appO o n s) = o5 at hx6 hd6 Hi ⊢
  generalize opQ r Q = Q5 at hx6 hd6 ⊢
  generalize opErr r Q = er
  generalize opArmed r armed Q = ar5 at hd6
  have kq : Keeps [w.heap.size + 1 + 1] w6 (((w6.setCell ⟨w.heap.size + 1 + 1, 0, none⟩ (.slice a6 (full o5).length c6)).setCell ⟨w.heap.size + 1 + 1, 1, none⟩ (.int .i64 (room : Int))).setCell ⟨w.heap.size + 1 + 1, 2, none⟩ (.slice b6 Q5.length d6)) := (((Keeps.refl _ w6).setCell (.inl (by simp)) _).setCell (.inl (by simp)) _).setCell (.inl (by simp)) _
  have hx7 := hx6.step ⟨_, _, _, _, _, _, _, r2⟩ kq
  have hd7 := hd6.keep kq (by simp; omega) (by simp; omega) (by simp; omega) (by simp; omega)
  have hk07 : Keeps [f, c, mb, d] w _ := hk06.after kq (fun q hq => .inr (by simp only [List.mem_singleton] at hq; omega))
  have r7 := heap_cell_same (i := 2) (heap_cell_same (i := 1) (heap_cell_same (i := 0) r2 (.slice a6 (full o5).length c6)) (.int .i64 (room : Int))) (.slice b6 Q5.length d6)
  have Hfin := Lib.hid (And.intro hx7 (And.intro hd7 (And.intro hk07 r7)))
  have c2 := cells_at r2
  have f2 := free_at r2
  have l2 := lt_of_at r2
  clear hx6 hd6 hk06 kq hx7 hd7 hk07 r7 r2 hk6 Hd Hdo c0 c1
  go_wp2_with fail
  have hc := cells_at Hfin.out.2.2.2
  refine bodyPost_ret (v := .tuple #[.agg #[.slice a6 (full o5).length c6, .int .i64 (room : Int), .slice b6 Q5.length d6], .bool true]) ?_ rfl ?_
  · simp [results, Try.results44, go_sem, hc, l2]
  · exact ⟨_, _, _, o5, rfl, Hfin.out.2.1.same ((Keeps.refl [] _).alloc _), Hfin.out.1.keep ((Keeps.refl [] _).alloc _), Hi.out, Hfin.out.2.2.1.alloc _⟩

set_option linter.unusedSimpArgs false in
set_option maxRecDepth 100000 in
set_option maxHeartbeats 1000000 in
theorem doesD_sync (w : World) (d f c mb k room : Nat) (armed : Bool) (Q : List (Int × Bool)) (o : List (ByteArray × Ob)) (v : Value) (an : Int) (aa ab : ByteArray) (ad : Bool) (co : Option Addr) (cn cc : Nat) (hk40 : k ≤ 40)
    (hD : DiskAt w d f c mb armed Q room o) (hx : RefD w v (full o) (room : Int) Q) (hinv : InvD o k) :
    Calls Try.prog 44 #[.pointer (some ⟨d, 0, none⟩), v, .agg #[.int .i64 2, .int .i64 an, .string aa, .string ab, .bool ad, .slice co cn cc]] w (DoesDPost w d f c mb (k + 1) room) := by
  obtain ⟨a, ca, b, cb, rfl⟩ := hx.form
  have H := Lib.hid (And.intro hD (And.intro hx hinv))
  have hlt := hD.lt
  clear hD hx hinv
  go_enter Try.func44, Try.ntmps44
  go_upto_region 1 with fail
  have hk3 : Keeps [] w (((w.alloc (.cells #[.slice a (full o).length ca, .int .i64 (room : Int), .slice b Q.length cb] 96)).alloc (.cells #[.int .i64 2, .int .i64 an, .string aa, .string ab, .bool ad, .slice co cn cc] 70)).alloc (.cells #[.slice none 0 0, .int .i64 0, .slice none 0 0] 96)) := (((Keeps.refl [] w).alloc _).alloc _).alloc _
  obtain ⟨q0, q1, q2⟩ := new3 w (.cells #[.slice a (full o).length ca, .int .i64 (room : Int), .slice b Q.length cb] 96) (.cells #[.int .i64 2, .int .i64 an, .string aa, .string ab, .bool ad, .slice co cn cc] 70) (.cells #[.slice none 0 0, .int .i64 0, .slice none 0 0] 96)
  generalize (((w.alloc (.cells #[.slice a (full o).length ca, .int .i64 (room : Int), .slice b Q.length cb] 96)).alloc (.cells #[.int .i64 2, .int .i64 an, .string aa, .string ab, .bool ad, .slice co cn cc] 70)).alloc (.cells #[.slice none 0 0, .int .i64 0, .slice none 0 0] 96)) = W3 at hk3 q0 q1 q2 ⊢
  have c1 := cells_at q1
  have l1 := lt_of_at q1
  have ha := cut_size aa 45
  have hb := cut_size ab 50
  go_quiet ((go_at_call 14; exact quiet_same ((cut_any _ _ _ (by decide)))))
  generalize cut aa 45 = n at ha ⊢
  generalize cut ab 50 = s at hb ⊢
  have p0 : (W3.drewN nq).heap[w.heap.size]? = _ := q0
  have p1 : (W3.drewN nq).heap[w.heap.size + 1]? = _ := q1
  have p2 : (W3.drewN nq).heap[w.heap.size + 1 + 1]? = _ := q2
  have kp := hk3.drewN nq
  clear c1 l1 q0 q1 q2 hk3
  generalize W3.drewN nq = W4 at p0 p1 p2 kp ⊢
  have c1 := cells_at p1
  go_wp2_with fail
  have hnd := H.out.1.nodup
  refine (sync_spec W4 d f c mb armed Q room o (H.out.1.same kp) n).mono ?_
  rintro e w5 ⟨rfl, hd5, hk5⟩
  have hx5 := (H.out.2.1.keep kp).calls (H.out.1.same kp) hk5
  have hk05 : Keeps [f, c, mb, d] w w5 := (kp.mono (by simp)).after hk5 (fun q hq => .inl hq)
  replace p0 := hk5.at_ p0 (by simp; omega)
  replace p1 := hk5.at_ p1 (by simp; omega)
  replace p2 := hk5.at_ p2 (by simp; omega)
  have c0 := cells_at p0
  have c1 := cells_at p1
  have hi := H.out.2.2
  obtain ⟨hQ, hQk⟩ := H.out.1.fuse.bounds
  have hdo := refDo2 w5 _ o room Q hnd H.out.1.roomOk H.out.1.fits (by have := hi.usd; omega) (by have := hi.len; omega) hQ hQk hx5 n s
  have Hdo := Lib.hid hdo
  have Hi := Lib.hid (InvD.op (noneR o n) Q hi (hi.syn (n := n) (by omega)))
  have Hd := Lib.hid (And.intro hd5 (And.intro hk05 (And.intro p0 (And.intro p1 p2))))
  clear hdo hi hd5 hk5 hx5 hk05 kp p0 p1 p2
  generalize noneR o n = r at Hdo Hi Hd ⊢
  go_wp2_with fail
  refine Hdo.out.mono ?_
  rintro e w6 ⟨v6, rfl, hx6, hk6⟩
  obtain ⟨a6, c6, b6, d6, rfl⟩ := hx6.form
  have r2 := hk6.at_ Hd.out.2.2.2.2 (by simp)
  have hd6 := Hd.out.1.same hk6
  have hk06 : Keeps [f, c, mb, d] w w6 := Hd.out.2.1.after hk6 (by simp)
  generalize opO r Q o (syncO o n) = o5 at hx6 hd6 Hi ⊢
  generalize opQ r Q = Q5 at hx6 hd6 ⊢
  generalize opErr r Q = er
  generalize opArmed r armed Q = ar5 at hd6
  have kq : Keeps [w.heap.size + 1 + 1] w6 (((w6.setCell ⟨w.heap.size + 1 + 1, 0, none⟩ (.slice a6 (full o5).length c6)).setCell ⟨w.heap.size + 1 + 1, 1, none⟩ (.int .i64 (room : Int))).setCell ⟨w.heap.size + 1 + 1, 2, none⟩ (.slice b6 Q5.length d6)) := (((Keeps.refl _ w6).setCell (.inl (by simp)) _).setCell (.inl (by simp)) _).setCell (.inl (by simp)) _
  have hx7 := hx6.step ⟨_, _, _, _, _, _, _, r2⟩ kq
  have hd7 := hd6.keep kq (by simp; omega) (by simp; omega) (by simp; omega) (by simp; omega)
  have hk07 : Keeps [f, c, mb, d] w _ := hk06.after kq (fun q hq => .inr (by simp only [List.mem_singleton] at hq; omega))
  have r7 := heap_cell_same (i := 2) (heap_cell_same (i := 1) (heap_cell_same (i := 0) r2 (.slice a6 (full o5).length c6)) (.int .i64 (room : Int))) (.slice b6 Q5.length d6)
  have Hfin := Lib.hid (And.intro hx7 (And.intro hd7 (And.intro hk07 r7)))
  have c2 := cells_at r2
  have f2 := free_at r2
  have l2 := lt_of_at r2
  clear hx6 hd6 hk06 kq hx7 hd7 hk07 r7 r2 hk6 Hd Hdo c0 c1
  go_wp2_with fail
  have hc := cells_at Hfin.out.2.2.2
  refine bodyPost_ret (v := .tuple #[.agg #[.slice a6 (full o5).length c6, .int .i64 (room : Int), .slice b6 Q5.length d6], .bool true]) ?_ rfl ?_
  · simp [results, Try.results44, go_sem, hc, l2]
  · exact ⟨_, _, _, o5, rfl, Hfin.out.2.1.same ((Keeps.refl [] _).alloc _), Hfin.out.1.keep ((Keeps.refl [] _).alloc _), Hi.out, Hfin.out.2.2.1.alloc _⟩

set_option linter.unusedSimpArgs false in
set_option maxRecDepth 100000 in
set_option maxHeartbeats 1000000 in
theorem doesD_ren (w : World) (d f c mb k room : Nat) (armed : Bool) (Q : List (Int × Bool)) (o : List (ByteArray × Ob)) (v : Value) (an : Int) (aa ab : ByteArray) (ad : Bool) (co : Option Addr) (cn cc : Nat) (hk40 : k ≤ 40)
    (hD : DiskAt w d f c mb armed Q room o) (hx : RefD w v (full o) (room : Int) Q) (hinv : InvD o k) :
    Calls Try.prog 44 #[.pointer (some ⟨d, 0, none⟩), v, .agg #[.int .i64 3, .int .i64 an, .string aa, .string ab, .bool ad, .slice co cn cc]] w (DoesDPost w d f c mb (k + 1) room) := by
  obtain ⟨a, ca, b, cb, rfl⟩ := hx.form
  have H := Lib.hid (And.intro hD (And.intro hx hinv))
  have hlt := hD.lt
  clear hD hx hinv
  go_enter Try.func44, Try.ntmps44
  go_upto_region 1 with fail
  have hk3 : Keeps [] w (((w.alloc (.cells #[.slice a (full o).length ca, .int .i64 (room : Int), .slice b Q.length cb] 96)).alloc (.cells #[.int .i64 3, .int .i64 an, .string aa, .string ab, .bool ad, .slice co cn cc] 70)).alloc (.cells #[.slice none 0 0, .int .i64 0, .slice none 0 0] 96)) := (((Keeps.refl [] w).alloc _).alloc _).alloc _
  obtain ⟨q0, q1, q2⟩ := new3 w (.cells #[.slice a (full o).length ca, .int .i64 (room : Int), .slice b Q.length cb] 96) (.cells #[.int .i64 3, .int .i64 an, .string aa, .string ab, .bool ad, .slice co cn cc] 70) (.cells #[.slice none 0 0, .int .i64 0, .slice none 0 0] 96)
  generalize (((w.alloc (.cells #[.slice a (full o).length ca, .int .i64 (room : Int), .slice b Q.length cb] 96)).alloc (.cells #[.int .i64 3, .int .i64 an, .string aa, .string ab, .bool ad, .slice co cn cc] 70)).alloc (.cells #[.slice none 0 0, .int .i64 0, .slice none 0 0] 96)) = W3 at hk3 q0 q1 q2 ⊢
  have c1 := cells_at q1
  have l1 := lt_of_at q1
  have ha := cut_size aa 45
  have hb := cut_size ab 50
  go_quiet ((go_at_call 14; exact quiet_same ((cut_any _ _ _ (by decide)))))
  generalize cut aa 45 = n at ha ⊢
  generalize cut ab 50 = s at hb ⊢
  have p0 : (W3.drewN nq).heap[w.heap.size]? = _ := q0
  have p1 : (W3.drewN nq).heap[w.heap.size + 1]? = _ := q1
  have p2 : (W3.drewN nq).heap[w.heap.size + 1 + 1]? = _ := q2
  have kp := hk3.drewN nq
  clear c1 l1 q0 q1 q2 hk3
  generalize W3.drewN nq = W4 at p0 p1 p2 kp ⊢
  have c1 := cells_at p1
  go_wp2_with fail
  have hnd := H.out.1.nodup
  refine (ren_spec W4 d f c mb armed Q room o (H.out.1.same kp) n s (by omega)).mono ?_
  rintro e w5 ⟨rfl, hd5, hk5⟩
  have hx5 := (H.out.2.1.keep kp).calls (H.out.1.same kp) hk5
  have hk05 : Keeps [f, c, mb, d] w w5 := (kp.mono (by simp)).after hk5 (fun q hq => .inl hq)
  replace p0 := hk5.at_ p0 (by simp; omega)
  replace p1 := hk5.at_ p1 (by simp; omega)
  replace p2 := hk5.at_ p2 (by simp; omega)
  have c0 := cells_at p0
  have c1 := cells_at p1
  have hi := H.out.2.2
  obtain ⟨hQ, hQk⟩ := H.out.1.fuse.bounds
  have hdo := refDo3 w5 _ o room Q hnd H.out.1.roomOk H.out.1.fits (by have := hi.usd; omega) (by have := hi.len; omega) hQ hQk hx5 n s (by omega)
  have Hdo := Lib.hid hdo
  have Hi := Lib.hid (InvD.op (renR o n s) Q hi (hi.ren hnd (a := n) (b := s) (by omega)))
  have Hd := Lib.hid (And.intro hd5 (And.intro hk05 (And.intro p0 (And.intro p1 p2))))
  clear hdo hi hd5 hk5 hx5 hk05 kp p0 p1 p2
  generalize renR o n s = r at Hdo Hi Hd ⊢
  go_wp2_with fail
  refine Hdo.out.mono ?_
  rintro e w6 ⟨v6, rfl, hx6, hk6⟩
  obtain ⟨a6, c6, b6, d6, rfl⟩ := hx6.form
  have r2 := hk6.at_ Hd.out.2.2.2.2 (by simp)
  have hd6 := Hd.out.1.same hk6
  have hk06 : Keeps [f, c, mb, d] w w6 := Hd.out.2.1.after hk6 (by simp)
  generalize opO r Q o (renO o n s) = o5 at hx6 hd6 Hi ⊢
  generalize opQ r Q = Q5 at hx6 hd6 ⊢
  generalize opErr r Q = er
  generalize opArmed r armed Q = ar5 at hd6
  have kq : Keeps [w.heap.size + 1 + 1] w6 (((w6.setCell ⟨w.heap.size + 1 + 1, 0, none⟩ (.slice a6 (full o5).length c6)).setCell ⟨w.heap.size + 1 + 1, 1, none⟩ (.int .i64 (room : Int))).setCell ⟨w.heap.size + 1 + 1, 2, none⟩ (.slice b6 Q5.length d6)) := (((Keeps.refl _ w6).setCell (.inl (by simp)) _).setCell (.inl (by simp)) _).setCell (.inl (by simp)) _
  have hx7 := hx6.step ⟨_, _, _, _, _, _, _, r2⟩ kq
  have hd7 := hd6.keep kq (by simp; omega) (by simp; omega) (by simp; omega) (by simp; omega)
  have hk07 : Keeps [f, c, mb, d] w _ := hk06.after kq (fun q hq => .inr (by simp only [List.mem_singleton] at hq; omega))
  have r7 := heap_cell_same (i := 2) (heap_cell_same (i := 1) (heap_cell_same (i := 0) r2 (.slice a6 (full o5).length c6)) (.int .i64 (room : Int))) (.slice b6 Q5.length d6)
  have Hfin := Lib.hid (And.intro hx7 (And.intro hd7 (And.intro hk07 r7)))
  have c2 := cells_at r2
  have f2 := free_at r2
  have l2 := lt_of_at r2
  clear hx6 hd6 hk06 kq hx7 hd7 hk07 r7 r2 hk6 Hd Hdo c0 c1
  go_wp2_with fail
  have hc := cells_at Hfin.out.2.2.2
  refine bodyPost_ret (v := .tuple #[.agg #[.slice a6 (full o5).length c6, .int .i64 (room : Int), .slice b6 Q5.length d6], .bool true]) ?_ rfl ?_
  · simp [results, Try.results44, go_sem, hc, l2]
  · exact ⟨_, _, _, o5, rfl, Hfin.out.2.1.same ((Keeps.refl [] _).alloc _), Hfin.out.1.keep ((Keeps.refl [] _).alloc _), Hi.out, Hfin.out.2.2.1.alloc _⟩

set_option linter.unusedSimpArgs false in
set_option maxRecDepth 100000 in
set_option maxHeartbeats 1000000 in
theorem doesD_remove (w : World) (d f c mb k room : Nat) (armed : Bool) (Q : List (Int × Bool)) (o : List (ByteArray × Ob)) (v : Value) (an : Int) (aa ab : ByteArray) (ad : Bool) (co : Option Addr) (cn cc : Nat) (hk40 : k ≤ 40)
    (hD : DiskAt w d f c mb armed Q room o) (hx : RefD w v (full o) (room : Int) Q) (hinv : InvD o k) :
    Calls Try.prog 44 #[.pointer (some ⟨d, 0, none⟩), v, .agg #[.int .i64 4, .int .i64 an, .string aa, .string ab, .bool ad, .slice co cn cc]] w (DoesDPost w d f c mb (k + 1) room) := by
  obtain ⟨a, ca, b, cb, rfl⟩ := hx.form
  have H := Lib.hid (And.intro hD (And.intro hx hinv))
  have hlt := hD.lt
  clear hD hx hinv
  go_enter Try.func44, Try.ntmps44
  go_upto_region 1 with fail
  have hk3 : Keeps [] w (((w.alloc (.cells #[.slice a (full o).length ca, .int .i64 (room : Int), .slice b Q.length cb] 96)).alloc (.cells #[.int .i64 4, .int .i64 an, .string aa, .string ab, .bool ad, .slice co cn cc] 70)).alloc (.cells #[.slice none 0 0, .int .i64 0, .slice none 0 0] 96)) := (((Keeps.refl [] w).alloc _).alloc _).alloc _
  obtain ⟨q0, q1, q2⟩ := new3 w (.cells #[.slice a (full o).length ca, .int .i64 (room : Int), .slice b Q.length cb] 96) (.cells #[.int .i64 4, .int .i64 an, .string aa, .string ab, .bool ad, .slice co cn cc] 70) (.cells #[.slice none 0 0, .int .i64 0, .slice none 0 0] 96)
  generalize (((w.alloc (.cells #[.slice a (full o).length ca, .int .i64 (room : Int), .slice b Q.length cb] 96)).alloc (.cells #[.int .i64 4, .int .i64 an, .string aa, .string ab, .bool ad, .slice co cn cc] 70)).alloc (.cells #[.slice none 0 0, .int .i64 0, .slice none 0 0] 96)) = W3 at hk3 q0 q1 q2 ⊢
  have c1 := cells_at q1
  have l1 := lt_of_at q1
  have ha := cut_size aa 45
  have hb := cut_size ab 50
  go_quiet ((go_at_call 14; exact quiet_same ((cut_any _ _ _ (by decide)))))
  generalize cut aa 45 = n at ha ⊢
  generalize cut ab 50 = s at hb ⊢
  have p0 : (W3.drewN nq).heap[w.heap.size]? = _ := q0
  have p1 : (W3.drewN nq).heap[w.heap.size + 1]? = _ := q1
  have p2 : (W3.drewN nq).heap[w.heap.size + 1 + 1]? = _ := q2
  have kp := hk3.drewN nq
  clear c1 l1 q0 q1 q2 hk3
  generalize W3.drewN nq = W4 at p0 p1 p2 kp ⊢
  have c1 := cells_at p1
  go_wp2_with fail
  have hnd := H.out.1.nodup
  refine (remove_spec W4 d f c mb armed Q room o (H.out.1.same kp) n).mono ?_
  rintro e w5 ⟨rfl, hd5, hk5⟩
  have hx5 := (H.out.2.1.keep kp).calls (H.out.1.same kp) hk5
  have hk05 : Keeps [f, c, mb, d] w w5 := (kp.mono (by simp)).after hk5 (fun q hq => .inl hq)
  replace p0 := hk5.at_ p0 (by simp; omega)
  replace p1 := hk5.at_ p1 (by simp; omega)
  replace p2 := hk5.at_ p2 (by simp; omega)
  have c0 := cells_at p0
  have c1 := cells_at p1
  have hi := H.out.2.2
  obtain ⟨hQ, hQk⟩ := H.out.1.fuse.bounds
  have hdo := refDo4 w5 _ o room Q hnd H.out.1.roomOk H.out.1.fits (by have := hi.usd; omega) (by have := hi.len; omega) hQ hQk hx5 n s
  have Hdo := Lib.hid hdo
  have Hi := Lib.hid (InvD.op (noneR o n) Q hi (hi.del n))
  have Hd := Lib.hid (And.intro hd5 (And.intro hk05 (And.intro p0 (And.intro p1 p2))))
  clear hdo hi hd5 hk5 hx5 hk05 kp p0 p1 p2
  generalize noneR o n = r at Hdo Hi Hd ⊢
  go_wp2_with fail
  refine Hdo.out.mono ?_
  rintro e w6 ⟨v6, rfl, hx6, hk6⟩
  obtain ⟨a6, c6, b6, d6, rfl⟩ := hx6.form
  have r2 := hk6.at_ Hd.out.2.2.2.2 (by simp)
  have hd6 := Hd.out.1.same hk6
  have hk06 : Keeps [f, c, mb, d] w w6 := Hd.out.2.1.after hk6 (by simp)
  generalize opO r Q o (del o n) = o5 at hx6 hd6 Hi ⊢
  generalize opQ r Q = Q5 at hx6 hd6 ⊢
  generalize opErr r Q = er
  generalize opArmed r armed Q = ar5 at hd6
  have kq : Keeps [w.heap.size + 1 + 1] w6 (((w6.setCell ⟨w.heap.size + 1 + 1, 0, none⟩ (.slice a6 (full o5).length c6)).setCell ⟨w.heap.size + 1 + 1, 1, none⟩ (.int .i64 (room : Int))).setCell ⟨w.heap.size + 1 + 1, 2, none⟩ (.slice b6 Q5.length d6)) := (((Keeps.refl _ w6).setCell (.inl (by simp)) _).setCell (.inl (by simp)) _).setCell (.inl (by simp)) _
  have hx7 := hx6.step ⟨_, _, _, _, _, _, _, r2⟩ kq
  have hd7 := hd6.keep kq (by simp; omega) (by simp; omega) (by simp; omega) (by simp; omega)
  have hk07 : Keeps [f, c, mb, d] w _ := hk06.after kq (fun q hq => .inr (by simp only [List.mem_singleton] at hq; omega))
  have r7 := heap_cell_same (i := 2) (heap_cell_same (i := 1) (heap_cell_same (i := 0) r2 (.slice a6 (full o5).length c6)) (.int .i64 (room : Int))) (.slice b6 Q5.length d6)
  have Hfin := Lib.hid (And.intro hx7 (And.intro hd7 (And.intro hk07 r7)))
  have c2 := cells_at r2
  have f2 := free_at r2
  have l2 := lt_of_at r2
  clear hx6 hd6 hk06 kq hx7 hd7 hk07 r7 r2 hk6 Hd Hdo c0 c1
  go_wp2_with fail
  have hc := cells_at Hfin.out.2.2.2
  refine bodyPost_ret (v := .tuple #[.agg #[.slice a6 (full o5).length c6, .int .i64 (room : Int), .slice b6 Q5.length d6], .bool true]) ?_ rfl ?_
  · simp [results, Try.results44, go_sem, hc, l2]
  · exact ⟨_, _, _, o5, rfl, Hfin.out.2.1.same ((Keeps.refl [] _).alloc _), Hfin.out.1.keep ((Keeps.refl [] _).alloc _), Hi.out, Hfin.out.2.2.1.alloc _⟩

end Go.Proofs.Ythcdodjdlgeeoaa
