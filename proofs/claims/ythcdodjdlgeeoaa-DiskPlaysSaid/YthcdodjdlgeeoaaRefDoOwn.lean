/-
  The document's disk (barographref04): Do where it has an error of its own.
-/
import Derived.Test.YthcdodjdlgeeoaaRefDo
namespace Go.Proofs.Ythcdodjdlgeeoaa
open Go Go.RowKit Go.ChangeShapes Go.WideShapes Go.Deep

def DoDPost (w : World) (L : List (ByteArray × Ob)) (room : Int) (Q : List (Int × Bool)) (r : Int) (e : Ending) (w' : World) : Prop :=
  ∃ v, e = .returned (.tuple #[v, .int .i64 r]) ∧ RefD w' v L room Q ∧ Keeps [] w w'

set_option maxRecDepth 100000 in
set_option maxHeartbeats 1000000 in
theorem do_bad (w : World) (v : Value) (L : List (ByteArray × Ob)) (room : Int) (Q : List (Int × Bool)) (n s : ByteArray) (hn : n.size ≤ 1000) (hbad : n.size = 0 ∨ 40 < n.size) (h : RefD w v L room Q) :
    Calls Try.prog 69 #[v, .int .i64 1, .string n, .string s] w (DoDPost w L room Q 1) := by
  have H := Lib.hid h
  obtain ⟨a, c, b, d, rfl⟩ := h.form
  have Hg : Hid (∀ W, Calls Try.prog 82 #[.string n] W fun e w' => e = .returned (.bool false) ∧ W = w') := Lib.hid fun W => by
    have := good_spec W n hn
    simp only [decide_eq_true hbad, Bool.not_true] at this
    exact this
  clear h hbad
  go_enter Try.func69, Try.ntmps69
  go_wp2_with fail
  have hk2 : Keeps [] w ((w.alloc (.cells #[.slice a L.length c, .int .i64 room, .slice b Q.length d] 96)).alloc (.cells #[.slice none 0 0, .int .i64 0, .slice none 0 0] 96)) := ((Keeps.refl [] w).alloc _).alloc _
  obtain ⟨q0, q1⟩ := new2 w (.cells #[.slice a L.length c, .int .i64 room, .slice b Q.length d] 96) (.cells #[.slice none 0 0, .int .i64 0, .slice none 0 0] 96)
  generalize ((w.alloc (.cells #[.slice a L.length c, .int .i64 room, .slice b Q.length d] 96)).alloc (.cells #[.slice none 0 0, .int .i64 0, .slice none 0 0] 96)) = W2 at hk2 q0 q1 ⊢
  refine (findD_spec W2 _ L room Q n (H.out.keep hk2)).mono ?_
  rintro e w3 ⟨rfl, hk3⟩
  replace q0 := hk3.at_ q0 (by simp)
  replace q1 := hk3.at_ q1 (by simp)
  have hk03 := hk2.trans hk3
  have c0 := cells_at q0
  have c1 := cells_at q1
  have f1 := free_at q1
  have l1 := lt_of_at q1
  clear hk2 hk3
  have Hfin := Lib.hid (resD (q := w.heap.size + 1) (by omega) (H.out.keep hk03) ⟨_, _, _, _, _, _, _, q1⟩ hk03)
  clear hk03 q0 q1
  generalize findIx L n = ix
  go_wp2_with (go_at_call 82; refine (Hg.out _).mono ?_; rintro e w' ⟨rfl, rfl⟩)
  obtain ⟨r1, r2, r3, _⟩ := Hfin.out
  have hc := cells_at r1
  refine bodyPost_ret (v := .tuple #[.agg #[.slice a L.length c, .int .i64 room, .slice b Q.length d], .int .i64 1]) ?_ rfl ?_
  · simp [results, Try.results69, go_sem, hc]
  · exact ⟨_, rfl, r2, r3⟩

set_option maxRecDepth 100000 in
set_option maxHeartbeats 1000000 in
theorem do_none (w : World) (v : Value) (L : List (ByteArray × Ob)) (room : Int) (Q : List (Int × Bool)) (n s : ByteArray) (kd : Int) (hkd : kd = 2 ∨ kd = 3 ∨ kd = 4) (hix : findIx L n = -1) (h : RefD w v L room Q) :
    Calls Try.prog 69 #[v, .int .i64 kd, .string n, .string s] w (DoDPost w L room Q 5) := by
  have H := Lib.hid h
  obtain ⟨a, c, b, d, rfl⟩ := h.form
  have k1 : (kd == 1) = false := by rw [beq_eq_false_iff_ne]; omega
  have k2 : decide (kd > 1) = true := by rw [decide_eq_true_iff]; omega
  clear h
  go_enter Try.func69, Try.ntmps69
  go_wp2_with fail
  have hk2 : Keeps [] w ((w.alloc (.cells #[.slice a L.length c, .int .i64 room, .slice b Q.length d] 96)).alloc (.cells #[.slice none 0 0, .int .i64 0, .slice none 0 0] 96)) := ((Keeps.refl [] w).alloc _).alloc _
  obtain ⟨q0, q1⟩ := new2 w (.cells #[.slice a L.length c, .int .i64 room, .slice b Q.length d] 96) (.cells #[.slice none 0 0, .int .i64 0, .slice none 0 0] 96)
  generalize ((w.alloc (.cells #[.slice a L.length c, .int .i64 room, .slice b Q.length d] 96)).alloc (.cells #[.slice none 0 0, .int .i64 0, .slice none 0 0] 96)) = W2 at hk2 q0 q1 ⊢
  refine (findD_spec W2 _ L room Q n (H.out.keep hk2)).mono ?_
  rintro e w3 ⟨rfl, hk3⟩
  replace q0 := hk3.at_ q0 (by simp)
  replace q1 := hk3.at_ q1 (by simp)
  have hk03 := hk2.trans hk3
  have c0 := cells_at q0
  have c1 := cells_at q1
  have f1 := free_at q1
  have l1 := lt_of_at q1
  clear hk2 hk3
  rw [hix]
  clear hix hkd
  go_upto_region 4 with fail
  go_quiet (fail)
  have p0 : (w3.drewN nq).heap[w.heap.size]? = _ := q0
  have p1 : (w3.drewN nq).heap[w.heap.size + 1]? = _ := q1
  have kp := hk03.drewN nq
  clear c0 c1 f1 l1 q0 q1 hk03
  generalize w3.drewN nq = w3 at p0 p1 kp ⊢
  have q0 := p0
  have q1 := p1
  have hk03 := kp
  clear p0 p1 kp
  have c0 := cells_at q0
  have c1 := cells_at q1
  have f1 := free_at q1
  have l1 := lt_of_at q1
  have Hfin := Lib.hid (resD (q := w.heap.size + 1) (by omega) (H.out.keep hk03) ⟨_, _, _, _, _, _, _, q1⟩ hk03)
  clear hk03 q0 q1
  go_wp2_with fail
  obtain ⟨r1, r2, r3, _⟩ := Hfin.out
  have hc := cells_at r1
  refine bodyPost_ret (v := .tuple #[.agg #[.slice a L.length c, .int .i64 room, .slice b Q.length d], .int .i64 5]) ?_ rfl ?_
  · simp [results, Try.results69, go_sem, hc]
  · exact ⟨_, rfl, r2, r3⟩

set_option maxRecDepth 100000 in
set_option maxHeartbeats 1000000 in
theorem do_bad3 (w : World) (v : Value) (L : List (ByteArray × Ob)) (room : Int) (Q : List (Int × Bool)) (n s : ByteArray) (hn : s.size ≤ 1000) (hbad : s.size = 0 ∨ 40 < s.size) (hix : 0 ≤ findIx L n) (h : RefD w v L room Q) :
    Calls Try.prog 69 #[v, .int .i64 3, .string n, .string s] w (DoDPost w L room Q 1) := by
  have H := Lib.hid h
  obtain ⟨a, c, b, d, rfl⟩ := h.form
  have Hg : Hid (∀ W, Calls Try.prog 82 #[.string s] W fun e w' => e = .returned (.bool false) ∧ W = w') := Lib.hid fun W => by
    have := good_spec W s hn
    simp only [decide_eq_true hbad, Bool.not_true] at this
    exact this
  clear h hbad
  go_enter Try.func69, Try.ntmps69
  go_wp2_with fail
  have hk2 : Keeps [] w ((w.alloc (.cells #[.slice a L.length c, .int .i64 room, .slice b Q.length d] 96)).alloc (.cells #[.slice none 0 0, .int .i64 0, .slice none 0 0] 96)) := ((Keeps.refl [] w).alloc _).alloc _
  obtain ⟨q0, q1⟩ := new2 w (.cells #[.slice a L.length c, .int .i64 room, .slice b Q.length d] 96) (.cells #[.slice none 0 0, .int .i64 0, .slice none 0 0] 96)
  generalize ((w.alloc (.cells #[.slice a L.length c, .int .i64 room, .slice b Q.length d] 96)).alloc (.cells #[.slice none 0 0, .int .i64 0, .slice none 0 0] 96)) = W2 at hk2 q0 q1 ⊢
  refine (findD_spec W2 _ L room Q n (H.out.keep hk2)).mono ?_
  rintro e w3 ⟨rfl, hk3⟩
  replace q0 := hk3.at_ q0 (by simp)
  replace q1 := hk3.at_ q1 (by simp)
  have hk03 := hk2.trans hk3
  have c0 := cells_at q0
  have c1 := cells_at q1
  have f1 := free_at q1
  have l1 := lt_of_at q1
  clear hk2 hk3
  generalize findIx L n = ix at hix
  have hix' : decide (ix < 0) = false := by rw [decide_eq_false_iff_not]; omega
  go_upto_region 4 with fail
  go_quiet (fail)
  have p0 : (w3.drewN nq).heap[w.heap.size]? = _ := q0
  have p1 : (w3.drewN nq).heap[w.heap.size + 1]? = _ := q1
  have kp := hk03.drewN nq
  clear c0 c1 f1 l1 q0 q1 hk03
  generalize w3.drewN nq = w3 at p0 p1 kp ⊢
  have q0 := p0
  have q1 := p1
  have hk03 := kp
  clear p0 p1 kp
  have c0 := cells_at q0
  have c1 := cells_at q1
  have f1 := free_at q1
  have l1 := lt_of_at q1
  have Hfin := Lib.hid (resD (q := w.heap.size + 1) (by omega) (H.out.keep hk03) ⟨_, _, _, _, _, _, _, q1⟩ hk03)
  clear hk03 q0 q1
  go_wp2_with (go_at_call 82; refine (Hg.out _).mono ?_; rintro e w' ⟨rfl, rfl⟩)
  obtain ⟨r1, r2, r3, _⟩ := Hfin.out
  have hc := cells_at r1
  refine bodyPost_ret (v := .tuple #[.agg #[.slice a L.length c, .int .i64 room, .slice b Q.length d], .int .i64 1]) ?_ rfl ?_
  · simp [results, Try.results69, go_sem, hc]
  · exact ⟨_, rfl, r2, r3⟩

set_option maxRecDepth 100000 in
set_option maxHeartbeats 1000000 in
theorem do_full (w : World) (v : Value) (L : List (ByteArray × Ob)) (room : Int) (Q : List (Int × Bool)) (n s : ByteArray) (hn : n.size ≤ 1000) (hbad : ¬ (n.size = 0 ∨ 40 < n.size)) (hsum : sumL L ≤ 1000000000000) (hfit : sumL L ≤ room) (hroom2 : room ≤ 9223372036854775807) (hfull : room < sumL L + s.size) (h : RefD w v L room Q) :
    Calls Try.prog 69 #[v, .int .i64 1, .string n, .string s] w (DoDPost w L room Q 7) := by
  have H := Lib.hid h
  obtain ⟨a, c, b, d, rfl⟩ := h.form
  have Hg : Hid (∀ W, Calls Try.prog 82 #[.string n] W fun e w' => e = .returned (.bool true) ∧ W = w') := Lib.hid fun W => by
    have := good_spec W n hn
    simp only [decide_eq_false hbad, Bool.not_false] at this
    exact this
  clear h hbad
  go_enter Try.func69, Try.ntmps69
  go_wp2_with fail
  have hk2 : Keeps [] w ((w.alloc (.cells #[.slice a L.length c, .int .i64 room, .slice b Q.length d] 96)).alloc (.cells #[.slice none 0 0, .int .i64 0, .slice none 0 0] 96)) := ((Keeps.refl [] w).alloc _).alloc _
  obtain ⟨q0, q1⟩ := new2 w (.cells #[.slice a L.length c, .int .i64 room, .slice b Q.length d] 96) (.cells #[.slice none 0 0, .int .i64 0, .slice none 0 0] 96)
  generalize ((w.alloc (.cells #[.slice a L.length c, .int .i64 room, .slice b Q.length d] 96)).alloc (.cells #[.slice none 0 0, .int .i64 0, .slice none 0 0] 96)) = W2 at hk2 q0 q1 ⊢
  refine (findD_spec W2 _ L room Q n (H.out.keep hk2)).mono ?_
  rintro e w3 ⟨rfl, hk3⟩
  replace q0 := hk3.at_ q0 (by simp)
  replace q1 := hk3.at_ q1 (by simp)
  have hk03 := hk2.trans hk3
  have c0 := cells_at q0
  have c1 := cells_at q1
  have f1 := free_at q1
  have l1 := lt_of_at q1
  clear hk2 hk3
  generalize findIx L n = ix
  have d0 : w3.cell? ⟨w.heap.size, 0, none⟩ = some (.slice a L.length c) := by rw [c0]; rfl
  have d1 : w3.cell? ⟨w.heap.size, 1, none⟩ = some (.int .i64 room) := by rw [c0]; rfl
  have d2 : w3.cell? ⟨w.heap.size, 2, none⟩ = some (.slice b Q.length d) := by rw [c0]; rfl
  have l0 := lt_of_at q0
  have Hu : Hid (∀ W, Keeps [] w3 W → Calls Try.prog 70 #[.agg #[.slice a L.length c, .int .i64 room, .slice b Q.length d]] W fun e w' => e = .returned (.int .i64 (sumL L)) ∧ Keeps [] W w') := Lib.hid fun W k => refUsed_spec W _ L room Q hsum (H.out.keep (hk03.trans k))
  generalize sumL L = S at *
  have b0 : (0 : Int) ≤ room - S := by omega
  have hgt : room - S < (s.size : Int) := by omega
  have hwr : IntKind.i64.wrap (room - (S : Int)) = room - S := IntWalk.i64_in _ ⟨by omega, by omega⟩
  go_upto_region 4 with (go_at_call 82; refine (Hg.out _).mono ?_; rintro e w' ⟨rfl, rfl⟩)
  clear c0 c1 f1 l1
  go_region_held3 (fun w' => w'.cell? ⟨w.heap.size, 0, none⟩ = some (.slice a L.length c) ∧ w'.cell? ⟨w.heap.size, 1, none⟩ = some (.int .i64 room) ∧ w'.cell? ⟨w.heap.size, 2, none⟩ = some (.slice b Q.length d)) (first | go_keep | exact ⟨(hk5.cell (w := w3.drew) l0 (by simp)).trans d0, (hk5.cell (w := w3.drew) l0 (by simp)).trans d1, (hk5.cell (w := w3.drew) l0 (by simp)).trans d2⟩) (first | (go_at_call 70; refine (Hu.out _ (Keeps.refl [] w3).drew).mono ?_; rintro e w5 ⟨rfl, hk5⟩))
  replace q0 := hk5.at_ (w := w3.drew) q0 (by simp)
  replace q1 := hk5.at_ (w := w3.drew) q1 (by simp)
  replace hk03 := hk03.drew.trans hk5
  clear d0 d1 d2 l0 Hu hk5
  have c0 := cells_at q0
  have c1 := cells_at q1
  have f1 := free_at q1
  have l1 := lt_of_at q1
  have Hfin := Lib.hid (resD (q := w.heap.size + 1) (by omega) (H.out.keep hk03) ⟨_, _, _, _, _, _, _, q1⟩ hk03)
  clear hk03 q0 q1
  go_wp2_with fail
  obtain ⟨r1, r2, r3, _⟩ := Hfin.out
  have hc := cells_at r1
  refine bodyPost_ret (v := .tuple #[.agg #[.slice a L.length c, .int .i64 room, .slice b Q.length d], .int .i64 7]) ?_ rfl ?_
  · simp [results, Try.results69, go_sem, hc]
  · exact ⟨_, rfl, r2, r3⟩

end Go.Proofs.Ythcdodjdlgeeoaa
