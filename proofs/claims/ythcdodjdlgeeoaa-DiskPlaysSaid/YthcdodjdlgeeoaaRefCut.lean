/-
  The document's disk (barographref04): Cut.
-/
import Derived.Test.YthcdodjdlgeeoaaRefDoOwn
namespace Go.Proofs.Ythcdodjdlgeeoaa
open Go Go.RowKit Go.ChangeShapes Go.WideShapes Go.Deep

theorem RefD.stepFile {w0 w w' : World} {a : Option Addr} {c : Nat} {f : Value} {L : List (ByteArray × Ob)} {room : Int} {Q : List (Int × Bool)} {q : Nat} {cs : Array Value} {z : Nat × Nat} (h : RefD w (.agg #[.slice a L.length c, .int .i64 room, f]) L room Q) (hs : SliceArg 3 encObj w0 (.slice a L.length c) L)
    (hq : w.heap[q]? = some (.cells cs 133 z)) (k : Keeps [q] w w') (k0 : Keeps [] w0 w') : RefD w' (.agg #[.slice a L.length c, .int .i64 room, f]) L room Q := by
  obtain ⟨s, f', hv, _, ho, hf⟩ := h
  injection hv with hv
  simp only [Array.mk.injEq, List.cons.injEq, and_true, true_and] at hv
  obtain ⟨rfl, rfl⟩ := hv
  refine ⟨_, _, rfl, hs.keep k0, ho, faults_keepS hf k ?_⟩
  intro p hp cs fz
  simp only [List.mem_singleton] at hp
  subst hp
  rw [hq]
  intro e
  injection e with e
  injection e with _ e
  exact absurd e (by decide)

set_option maxRecDepth 100000 in
set_option maxHeartbeats 1000000 in
theorem cut_none (w : World) (v : Value) (L : List (ByteArray × Ob)) (room : Int) (Q : List (Int × Bool)) (n : ByteArray) (k : Int) (hix : findIx L n = -1) (h : RefD w v L room Q) :
    Calls Try.prog 68 #[v, .string n, .int .i64 k] w (DoDPost w L room Q 5) := by
  have H := Lib.hid h
  obtain ⟨a, c, b, d, rfl⟩ := h.form
  clear h
  go_enter Try.func68, Try.ntmps68
  go_wp2_with fail
  have hk2 : Keeps [] w ((w.alloc (.cells #[.slice a L.length c, .int .i64 room, .slice b Q.length d] 96)).alloc (.cells #[.slice none 0 0, .int .i64 0, .slice none 0 0] 96)) := ((Keeps.refl [] w).alloc _).alloc _
  obtain ⟨q0, q1⟩ := new2 w (.cells #[.slice a L.length c, .int .i64 room, .slice b Q.length d] 96) (.cells #[.slice none 0 0, .int .i64 0, .slice none 0 0] 96)
  generalize ((w.alloc (.cells #[.slice a L.length c, .int .i64 room, .slice b Q.length d] 96)).alloc (.cells #[.slice none 0 0, .int .i64 0, .slice none 0 0] 96)) = W2 at hk2 q0 q1 ⊢
  refine (findD_spec W2 _ L room Q n (H.out.keep hk2)).mono ?_
  rintro e w3 ⟨rfl, hk3⟩
  replace q0 := hk3.at_ q0 (by simp)
  replace q1 := hk3.at_ q1 (by simp)
  have hk03 := hk2.trans hk3
  have c0 := cells_at q0
  have c1 := cells_at q1
  have f1 := free_at q1
  have l1 := lt_of_at q1
  clear hk2 hk3
  rw [hix]
  have Hfin := Lib.hid (resD (q := w.heap.size + 1) (by omega) (H.out.keep hk03) ⟨_, _, _, _, _, _, _, q1⟩ hk03)
  clear hk03 q0 q1
  go_wp2_with fail
  obtain ⟨r1, r2, r3, _⟩ := Hfin.out
  have hc := cells_at r1
  refine bodyPost_ret (v := .tuple #[.agg #[.slice a L.length c, .int .i64 room, .slice b Q.length d], .int .i64 5]) ?_ rfl ?_
  · simp [results, Try.results68, go_sem, hc]
  · exact ⟨_, rfl, r2, r3⟩

set_option maxRecDepth 100000 in
set_option maxHeartbeats 1000000 in
theorem cut_bad (w : World) (v : Value) (L : List (ByteArray × Ob)) (room : Int) (Q : List (Int × Bool)) (n : ByteArray) (k : Int) (i : Nat) (hi : i < L.length) (x : Ob) (hLi : L[i] = (n, x)) (hix : findIx L n = i) (hx : x.1.size ≤ 1000000000000) (hbad : k < 0 ∨ (x.1.size : Int) < k) (h : RefD w v L room Q) :
    Calls Try.prog 68 #[v, .string n, .int .i64 k] w (DoDPost w L room Q 1) := by
  have H := Lib.hid h
  obtain ⟨a, c, b, d, rfl⟩ := h.form
  clear h
  go_enter Try.func68, Try.ntmps68
  go_wp2_with fail
  have hk2 : Keeps [] w ((w.alloc (.cells #[.slice a L.length c, .int .i64 room, .slice b Q.length d] 96)).alloc (.cells #[.slice none 0 0, .int .i64 0, .slice none 0 0] 96)) := ((Keeps.refl [] w).alloc _).alloc _
  obtain ⟨q0, q1⟩ := new2 w (.cells #[.slice a L.length c, .int .i64 room, .slice b Q.length d] 96) (.cells #[.slice none 0 0, .int .i64 0, .slice none 0 0] 96)
  generalize ((w.alloc (.cells #[.slice a L.length c, .int .i64 room, .slice b Q.length d] 96)).alloc (.cells #[.slice none 0 0, .int .i64 0, .slice none 0 0] 96)) = W2 at hk2 q0 q1 ⊢
  refine (findD_spec W2 _ L room Q n (H.out.keep hk2)).mono ?_
  rintro e w3 ⟨rfl, hk3⟩
  replace q0 := hk3.at_ q0 (by simp)
  replace q1 := hk3.at_ q1 (by simp)
  have hk03 := hk2.trans hk3
  have c0 := cells_at q0
  have c1 := cells_at q1
  have f1 := free_at q1
  have l1 := lt_of_at q1
  clear hk2 hk3
  obtain ⟨xs, xt⟩ := x
  rw [hix]
  have hi0 : decide ((i : Int) < 0) = false := by rw [decide_eq_false_iff_not]; omega
  obtain ⟨_, _, hv0, hsl, hof, hff⟩ := H.out
  injection hv0 with hv0
  simp only [Array.mk.injEq, List.cons.injEq, and_true, true_and] at hv0
  obtain ⟨rfl, rfl⟩ := hv0
  have Hs := Lib.hid (And.intro hsl (And.intro hof hff))
  clear hsl hof hff
  obtain ⟨lb, lo, rfl, hlb, g0, g1, g2⟩ := objCells Hs.out.1 hi
  rw [hLi] at g0 g1 g2
  simp only at g0 g1 g2
  replace g0 := (hk03.cell hlb (by simp)).trans g0
  replace g1 := (hk03.cell hlb (by simp)).trans g1
  replace g2 := (hk03.cell hlb (by simp)).trans g2
  have hlb6 := hk03.lt hlb
  have hi' : (i : Int) < (L.length : Int) := by omega
  have l0 := lt_of_at q0
  have Hfin := Lib.hid (resD (q := w.heap.size + 1) (by omega) (H.out.keep hk03) ⟨_, _, _, _, _, _, _, q1⟩ hk03)
  clear hk03 q0 q1
  simp only at hbad
  by_cases hk0 : k < 0
  · clear hbad
    go_wp2_with fail
    obtain ⟨r1, r2, r3, _⟩ := Hfin.out
    have hc := cells_at (heap_old r1 (.cells #[.string n, .string xs, .int .i64 xt] 133))
    refine bodyPost_ret (v := .tuple #[.agg #[.slice (some ⟨lb, lo, none⟩) L.length c, .int .i64 room, .slice b Q.length d], .int .i64 1]) ?_ rfl ?_
    · simp [results, Try.results68, go_sem, hc]
    · exact ⟨_, rfl, r2.keep ((Keeps.refl [] _).alloc _), r3.alloc _⟩
  · have hk1 : (xs.size : Int) < k := by omega
    clear hbad
    go_wp2_with fail
    obtain ⟨r1, r2, r3, _⟩ := Hfin.out
    have hc := cells_at (heap_old r1 (.cells #[.string n, .string xs, .int .i64 xt] 133))
    refine bodyPost_ret (v := .tuple #[.agg #[.slice (some ⟨lb, lo, none⟩) L.length c, .int .i64 room, .slice b Q.length d], .int .i64 1]) ?_ rfl ?_
    · simp [results, Try.results68, go_sem, hc]
    · exact ⟨_, rfl, r2.keep ((Keeps.refl [] _).alloc _), r3.alloc _⟩

set_option maxRecDepth 100000 in
set_option maxHeartbeats 1000000 in
theorem cut_do (w : World) (v : Value) (L : List (ByteArray × Ob)) (room : Int) (Q : List (Int × Bool)) (n : ByteArray) (k : Int) (hL : L.length ≤ 900) (hQ : Q.length ≤ 1000) (hQk : ∀ x ∈ Q, okF x) (i : Nat) (hi : i < L.length) (x : Ob) (hLi : L[i] = (n, x)) (hix : findIx L n = i) (hx : x.1.size ≤ 1000000000000) (hk0 : 0 ≤ k) (hk1 : k ≤ (x.1.size : Int)) (h : RefD w v L room Q) :
    Calls Try.prog 68 #[v, .string n, .int .i64 k] w (DoDPost w (putL Q L (insL (L.filter fun p => !decide (p.1 = n)) (n, (x.1.extract 0 k.toNat, k)))) room (tryQ Q) (ioErr Q)) := by
  have H := Lib.hid h
  obtain ⟨a, c, b, d, rfl⟩ := h.form
  clear h
  go_enter Try.func68, Try.ntmps68
  go_wp2_with fail
  have hk2 : Keeps [] w ((w.alloc (.cells #[.slice a L.length c, .int .i64 room, .slice b Q.length d] 96)).alloc (.cells #[.slice none 0 0, .int .i64 0, .slice none 0 0] 96)) := ((Keeps.refl [] w).alloc _).alloc _
  obtain ⟨q0, q1⟩ := new2 w (.cells #[.slice a L.length c, .int .i64 room, .slice b Q.length d] 96) (.cells #[.slice none 0 0, .int .i64 0, .slice none 0 0] 96)
  generalize ((w.alloc (.cells #[.slice a L.length c, .int .i64 room, .slice b Q.length d] 96)).alloc (.cells #[.slice none 0 0, .int .i64 0, .slice none 0 0] 96)) = W2 at hk2 q0 q1 ⊢
  refine (findD_spec W2 _ L room Q n (H.out.keep hk2)).mono ?_
  rintro e w3 ⟨rfl, hk3⟩
  replace q0 := hk3.at_ q0 (by simp)
  replace q1 := hk3.at_ q1 (by simp)
  have hk03 := hk2.trans hk3
  have c0 := cells_at q0
  have c1 := cells_at q1
  have f1 := free_at q1
  have l1 := lt_of_at q1
  clear hk2 hk3
  obtain ⟨xs, xt⟩ := x
  rw [hix]
  have hi0 : decide ((i : Int) < 0) = false := by rw [decide_eq_false_iff_not]; omega
  obtain ⟨_, _, hv0, hsl, hof, hff⟩ := H.out
  injection hv0 with hv0
  simp only [Array.mk.injEq, List.cons.injEq, and_true, true_and] at hv0
  obtain ⟨rfl, rfl⟩ := hv0
  have Hs := Lib.hid (And.intro hsl (And.intro hof hff))
  clear hsl hof hff
  obtain ⟨lb, lo, rfl, hlb, g0, g1, g2⟩ := objCells Hs.out.1 hi
  rw [hLi] at g0 g1 g2
  simp only at g0 g1 g2
  replace g0 := (hk03.cell hlb (by simp)).trans g0
  replace g1 := (hk03.cell hlb (by simp)).trans g1
  replace g2 := (hk03.cell hlb (by simp)).trans g2
  have hlb6 := hk03.lt hlb
  have hi' : (i : Int) < (L.length : Int) := by omega
  have l0 := lt_of_at q0
  simp only at hx hk1
  obtain ⟨kn, rfl⟩ := Int.eq_ofNat_of_zero_le hk0
  have hkk : ¬ (xs.size : Int) < (kn : Int) := by omega
  have hkk2 : kn ≤ xs.size := by omega
  go_wp2_with fail
  replace q0 := heap_old q0 (.cells #[.string n, .string xs, .int .i64 xt] 133)
  replace q1 := heap_old q1 (.cells #[.string n, .string xs, .int .i64 xt] 133)
  have q2 := heap_new w3 (.cells #[.string n, .string xs, .int .i64 xt] 133)
  replace hk03 := hk03.alloc (.cells #[.string n, .string xs, .int .i64 xt] 133)
  have hsz := l1
  generalize w3.heap.size = q at q2 hsz ⊢
  generalize w3.alloc (.cells #[.string n, .string xs, .int .i64 xt] 133) = w3 at q0 q1 q2 hk03 ⊢
  clear c0 c1 f1 l1 l0 g0 g1 g2 hlb6
  have c0 := cells_at q0
  have c1 := cells_at q1
  have f1 := free_at q1
  have l1 := lt_of_at q1
  refine (refTry_spec w3 _ Q hQ hQk ⟨_, rfl, Hs.out.2.1, Hs.out.2.2.keep hk03⟩).mono ?_
  rintro e w6 ⟨vf, rfl, hfu, hk6⟩
  obtain ⟨b', d', rfl, ho', hf'⟩ := hfu.form
  replace q0 := hk6.at_ q0 (by simp)
  replace q1 := hk6.at_ q1 (by simp)
  replace q2 := hk6.at_ q2 (by simp)
  have c2 := cells_at q2
  have f2 := free_at q2
  have l2 := lt_of_at q2
  have hk06 := hk03.trans hk6
  clear hfu hk03 hk6 c0 c1 f1 l1
  have c0 := cells_at q0
  have f0 := free_at q0
  have c1 := cells_at q1
  have f1 := free_at q1
  have l0 := lt_of_at q0
  have l1 := lt_of_at q1
  have hne : w.heap.size ≠ w.heap.size + 1 := by omega
  have hRB : RefD w6 (.agg #[.slice (some ⟨lb, lo, none⟩) L.length c, .int .i64 room, .slice b' (tryQ Q).length d']) L room (tryQ Q) := ⟨_, _, rfl, Hs.out.1.keep hk06, ho', hf'⟩
  have hRB1 := hRB.setBox ⟨_, _, _, _, _, _, _, q0⟩ 2 (.slice b' (tryQ Q).length d')
  have q0' := heap_cell_same (i := 2) q0 (.slice b' (tryQ Q).length d')
  have q1' := (heap_cell_other (p := ⟨w.heap.size, 2, none⟩) (.slice b' (tryQ Q).length d') (by omega : w.heap.size + 1 ≠ w.heap.size)).trans q1
  have hk3' := hk06.setCell (p := ⟨w.heap.size, 2, none⟩) (.inr (Nat.le_refl _)) (.slice b' (tryQ Q).length d')
  have Hq := Lib.hid (And.intro q0' (And.intro q1' (And.intro hk3' hRB1)))
  clear q0 q1 hf' hRB hRB1 q0' q1' hk3'
  cases hd : tryDone Q with
  | false =>
    cases hw : tryWorks Q with
    | true => exact absurd (tryDone_of Q hw) (by simp [hd])
    | false =>
      have Hfin := Lib.hid (resD (q := w.heap.size + 1) (by omega) Hq.out.2.2.2 ⟨_, _, _, _, _, _, _, Hq.out.2.1⟩ Hq.out.2.2.1)
      go_wp2_with fail
      have hc := cells_at Hfin.out.1
      refine bodyPost_ret (v := .tuple #[.agg #[.slice (some ⟨lb, lo, none⟩) L.length c, .int .i64 room, .slice b' (tryQ Q).length d'], .int .i64 8]) ?_ rfl ?_
      · simp [results, Try.results68, go_sem, hc, l1]
      · exact ⟨.agg #[.slice (some ⟨lb, lo, none⟩) L.length c, .int .i64 room, .slice b' (tryQ Q).length d'], by simp [ioErr, hw], by rw [show putL Q L _ = L from by simp [putL, hd]]; exact Hfin.out.2.1.keep ((Keeps.refl [] _).alloc _), Hfin.out.2.2.1.alloc _⟩
  | true =>
    go_wp2_with fail
    have kq2 : Keeps [q] (w6.setCell ⟨w.heap.size, 2, none⟩ (.slice b' (tryQ Q).length d')) (((w6.setCell ⟨w.heap.size, 2, none⟩ (.slice b' (tryQ Q).length d')).setCell ⟨q, 1, none⟩ (.string (xs.extract 0 kn))).setCell ⟨q, 2, none⟩ (.int .i64 (kn : Int))) := ((Keeps.refl [q] _).setCell (.inl (by simp)) _).setCell (.inl (by simp)) _
    have hk4' := Hq.out.2.2.1.after kq2 (by simp; omega)
    have q2' := (heap_cell_other (p := ⟨w.heap.size, 2, none⟩) (.slice b' (tryQ Q).length d') (by omega : q ≠ w.heap.size)).trans q2
    have hRB4 := (Hq.out.2.2.2.stepFile Hs.out.1 q2' kq2 hk4').keep ((Keeps.refl [] _).alloc (.cells #[.slice b' (tryQ Q).length d'] 58))
    have hk4 := hk4'.alloc (.cells #[.slice b' (tryQ Q).length d'] 58)
    have r0 := heap_old (kq2.at_ Hq.out.1 (by simp; omega)) (.cells #[.slice b' (tryQ Q).length d'] 58)
    have r1 := heap_old (kq2.at_ Hq.out.2.1 (by simp; omega)) (.cells #[.slice b' (tryQ Q).length d'] 58)
    clear kq2 hk4' q2' c2 f2 l2 q2
    generalize (((w6.setCell ⟨w.heap.size, 2, none⟩ (.slice b' (tryQ Q).length d')).setCell ⟨q, 1, none⟩ (.string (xs.extract 0 kn))).setCell ⟨q, 2, none⟩ (.int .i64 (kn : Int))).alloc (.cells #[.slice b' (tryQ Q).length d'] 58) = W4 at hk4 hRB4 r0 r1 ⊢
    refine (set_spec W4 _ L room (tryQ Q) n (xs.extract 0 kn) (kn : Int) hL hRB4).mono ?_
    rintro e w8 ⟨v5, rfl, hB5, hk5⟩
    replace r0 := hk5.at_ r0 (by simp)
    replace r1 := hk5.at_ r1 (by simp)
    have hk05 := hk4.trans hk5
    obtain ⟨a5, c5, b5, d5, rfl⟩ := hB5.form
    generalize hM : insL (L.filter fun p => !decide (p.1 = n)) (n, (xs.extract 0 kn, (kn : Int))) = M5 at hB5
    have HM : Hid (putL Q L (insL (L.filter fun p => !decide (p.1 = n)) (n, (xs.extract 0 kn, (kn : Int)))) = M5) := Lib.hid (by simp [putL, hd, ← hM])
    clear hM
    obtain ⟨_, hRB6, hk6, kq⟩ := resD (Nat.le_refl w.heap.size) hB5 ⟨_, _, _, _, _, _, _, r0⟩ hk05
    have r1' := kq.at_ r1 (by simp)
    have Hfin := Lib.hid (resD (q := w.heap.size + 1) (by omega) hRB6 ⟨_, _, _, _, _, _, _, r1'⟩ hk6)
    have c0 := cells_at r0
    have f0 := free_at r0
    have c1 := cells_at r1
    have f1 := free_at r1
    clear r0 r1 r1' hRB4 hk4 hk5 hk05 hB5 hRB6 hk6 kq
    cases hw : tryWorks Q with
    | true =>
      go_wp2_with fail
      have hc := cells_at Hfin.out.1
      refine bodyPost_ret (v := .tuple #[.agg #[.slice a5 M5.length c5, .int .i64 room, .slice b5 (tryQ Q).length d5], .int .i64 0]) ?_ rfl ?_
      · simp [results, Try.results68, go_sem, hc]
      · rw [HM.out]; exact ⟨_, by simp [ioErr, hw], Hfin.out.2.1, Hfin.out.2.2.1⟩
    | false =>
      go_wp2_with fail
      have hc := cells_at Hfin.out.1
      refine bodyPost_ret (v := .tuple #[.agg #[.slice a5 M5.length c5, .int .i64 room, .slice b5 (tryQ Q).length d5], .int .i64 8]) ?_ rfl ?_
      · simp [results, Try.results68, go_sem, hc]
      · rw [HM.out]; exact ⟨_, by simp [ioErr, hw], Hfin.out.2.1, Hfin.out.2.2.1⟩

end Go.Proofs.Ythcdodjdlgeeoaa
