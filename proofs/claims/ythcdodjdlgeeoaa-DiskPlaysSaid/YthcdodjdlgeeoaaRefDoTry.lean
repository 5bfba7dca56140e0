/-
  The document's disk (barographref04): Do where the call is tried.
-/
import Derived.Test.YthcdodjdlgeeoaaRefDoOwn
namespace Go.Proofs.Ythcdodjdlgeeoaa
open Go Go.RowKit Go.ChangeShapes Go.WideShapes Go.Deep

set_option maxRecDepth 100000 in
set_option maxHeartbeats 1000000 in
theorem do_app_new (w : World) (v : Value) (L : List (ByteArray × Ob)) (room : Int) (Q : List (Int × Bool)) (n s : ByteArray) (hn : n.size ≤ 1000) (hbad : ¬ (n.size = 0 ∨ 40 < n.size)) (hsum : sumL L ≤ 1000000000000) (hfit : sumL L + s.size ≤ room) (hroom2 : room ≤ 9223372036854775807) (hL : L.length ≤ 900) (hQ : Q.length ≤ 1000) (hQk : ∀ x ∈ Q, okF x) (hix : findIx L n = -1) (h : RefD w v L room Q) :
    Calls Try.prog 69 #[v, .int .i64 1, .string n, .string s] w (DoDPost w (putL Q L (insL (L.filter fun p => !decide (p.1 = n)) (n, ((⟨#[]⟩ : ByteArray) ++ s, 0)))) room (tryQ Q) (ioErr Q)) := by
  have H := Lib.hid h
  obtain ⟨a, c, b, d, rfl⟩ := h.form
  have Hg : Hid (∀ W, Calls Try.prog 82 #[.string n] W fun e w' => e = .returned (.bool true) ∧ W = w') := Lib.hid fun W => by
    have := good_spec W n hn
    simp only [decide_eq_false hbad, Bool.not_false] at this
    exact this
  clear h hbad
  go_enter Try.func69, Try.ntmps69
  go_wp2_with fail
  have hk2 : Keeps [] w ((w.alloc (.cells #[.slice a L.length c, .int .i64 room, .slice b Q.length d] 96)).alloc (.cells #[.slice none 0 0, .int .i64 0, .slice none 0 0] 96)) := ((Keeps.refl [] w).alloc _).alloc _
  obtain ⟨q0, q1⟩ := new2 w (.cells #[.slice a L.length c, .int .i64 room, .slice b Q.length d] 96) (.cells #[.slice none 0 0, .int .i64 0, .slice none 0 0] 96)
  generalize ((w.alloc (.cells #[.slice a L.length c, .int .i64 room, .slice b Q.length d] 96)).alloc (.cells #[.slice none 0 0, .int .i64 0, .slice none 0 0] 96)) = W2 at hk2 q0 q1 ⊢
  refine (findD_spec W2 _ L room Q n (H.out.keep hk2)).mono ?_
  rintro e w3 ⟨rfl, hk3⟩
  replace q0 := hk3.at_ q0 (by simp)
  replace q1 := hk3.at_ q1 (by simp)
  have hk03 := hk2.trans hk3
  have c0 := cells_at q0
  have c1 := cells_at q1
  have f1 := free_at q1
  have l1 := lt_of_at q1
  clear hk2 hk3
  rw [hix]
  have d0 : w3.cell? ⟨w.heap.size, 0, none⟩ = some (.slice a L.length c) := by rw [c0]; rfl
  have d1 : w3.cell? ⟨w.heap.size, 1, none⟩ = some (.int .i64 room) := by rw [c0]; rfl
  have d2 : w3.cell? ⟨w.heap.size, 2, none⟩ = some (.slice b Q.length d) := by rw [c0]; rfl
  have l0 := lt_of_at q0
  have Hu : Hid (∀ W, Keeps [] w3 W → Calls Try.prog 70 #[.agg #[.slice a L.length c, .int .i64 room, .slice b Q.length d]] W fun e w' => e = .returned (.int .i64 (sumL L)) ∧ Keeps [] W w') := Lib.hid fun W k => refUsed_spec W _ L room Q hsum (H.out.keep (hk03.trans k))
  generalize sumL L = S at *
  have b0 : (0 : Int) ≤ room - S := by omega
  have hgt : ¬ room - S < (s.size : Int) := by omega
  have hwr : IntKind.i64.wrap (room - (S : Int)) = room - S := IntWalk.i64_in _ ⟨by omega, by omega⟩
  go_upto_region 4 with (go_at_call 82; refine (Hg.out _).mono ?_; rintro e w' ⟨rfl, rfl⟩)
  clear c0 c1 f1 l1
  go_region_held3 (fun w' => w'.cell? ⟨w.heap.size, 0, none⟩ = some (.slice a L.length c) ∧ w'.cell? ⟨w.heap.size, 1, none⟩ = some (.int .i64 room) ∧ w'.cell? ⟨w.heap.size, 2, none⟩ = some (.slice b Q.length d)) (first | go_keep | exact ⟨(hk5.cell (w := w3.drew) l0 (by simp)).trans d0, (hk5.cell (w := w3.drew) l0 (by simp)).trans d1, (hk5.cell (w := w3.drew) l0 (by simp)).trans d2⟩) (first | (go_at_call 70; refine (Hu.out _ (Keeps.refl [] w3).drew).mono ?_; rintro e w5 ⟨rfl, hk5⟩))
  replace q0 := hk5.at_ (w := w3.drew) q0 (by simp)
  replace q1 := hk5.at_ (w := w3.drew) q1 (by simp)
  replace hk03 := hk03.drew.trans hk5
  clear d0 d1 d2 l0 Hu hk5
  generalize w5 = w3 at q0 q1 hk03 ⊢
  have c0 := cells_at q0
  have c1 := cells_at q1
  have f1 := free_at q1
  have l1 := lt_of_at q1
  go_wp2_with fail
  obtain ⟨_, _, hv0, hsl, hof, hff⟩ := H.out
  injection hv0 with hv0
  simp only [Array.mk.injEq, List.cons.injEq, and_true, true_and] at hv0
  obtain ⟨rfl, rfl⟩ := hv0
  have Hs := Lib.hid (And.intro hsl (And.intro hof hff))
  clear hsl hof hff
  refine (refTry_spec w3 _ Q hQ hQk ⟨_, rfl, Hs.out.2.1, Hs.out.2.2.keep hk03⟩).mono ?_
  rintro e w6 ⟨vf, rfl, hfu, hk6⟩
  obtain ⟨b', d', rfl, ho', hf'⟩ := hfu.form
  replace q0 := hk6.at_ q0 (by simp)
  replace q1 := hk6.at_ q1 (by simp)
  have hk06 := hk03.trans hk6
  clear hfu hk03 hk6 c0 c1 f1 l1
  have c0 := cells_at q0
  have f0 := free_at q0
  have c1 := cells_at q1
  have f1 := free_at q1
  have l0 := lt_of_at q0
  have l1 := lt_of_at q1
  have hne : w.heap.size ≠ w.heap.size + 1 := by omega
  have hRB : RefD w6 (.agg #[.slice a L.length c, .int .i64 room, .slice b' (tryQ Q).length d']) L room (tryQ Q) := ⟨_, _, rfl, Hs.out.1.keep hk06, ho', hf'⟩
  have hRB1 := hRB.setBox ⟨_, _, _, _, _, _, _, q0⟩ 2 (.slice b' (tryQ Q).length d')
  have q0' := heap_cell_same (i := 2) q0 (.slice b' (tryQ Q).length d')
  have q1' := (heap_cell_other (p := ⟨w.heap.size, 2, none⟩) (.slice b' (tryQ Q).length d') (by omega : w.heap.size + 1 ≠ w.heap.size)).trans q1
  have hk3' := hk06.setCell (p := ⟨w.heap.size, 2, none⟩) (.inr (Nat.le_refl _)) (.slice b' (tryQ Q).length d')
  have Hq := Lib.hid (And.intro q0' (And.intro q1' (And.intro hk3' hRB1)))
  clear q0 q1 hf' hRB hRB1 q0' q1' hk3'
  cases hd : tryDone Q with
  | false =>
    cases hw : tryWorks Q with
    | true => exact absurd (tryDone_of Q hw) (by simp [hd])
    | false =>
      have Hfin := Lib.hid (resD (q := w.heap.size + 1) (by omega) Hq.out.2.2.2 ⟨_, _, _, _, _, _, _, Hq.out.2.1⟩ Hq.out.2.2.1)
      go_wp2_with fail
      have hc := cells_at Hfin.out.1
      refine bodyPost_ret (v := .tuple #[.agg #[.slice a L.length c, .int .i64 room, .slice b' (tryQ Q).length d'], .int .i64 8]) ?_ rfl ?_
      · simp [results, Try.results69, go_sem, hc, l1]
      · exact ⟨.agg #[.slice a L.length c, .int .i64 room, .slice b' (tryQ Q).length d'], by simp [ioErr, hw], by rw [show putL Q L _ = L from by simp [putL, hd]]; exact Hfin.out.2.1.keep ((Keeps.refl [] _).alloc _), Hfin.out.2.2.1.alloc _⟩
  | true =>
    go_wp2_with fail
    have hk4 := (Hq.out.2.2.1.alloc (.cells #[.slice b' (tryQ Q).length d'] 58)).alloc (.cells #[.string n, .string ((⟨#[]⟩ : ByteArray) ++ s), .int .i64 0] 133)
    have hRB4 := Hq.out.2.2.2.keep (((Keeps.refl [] _).alloc (.cells #[.slice b' (tryQ Q).length d'] 58)).alloc (.cells #[.string n, .string ((⟨#[]⟩ : ByteArray) ++ s), .int .i64 0] 133))
    have r0 := heap_old (heap_old Hq.out.1 (.cells #[.slice b' (tryQ Q).length d'] 58)) (.cells #[.string n, .string ((⟨#[]⟩ : ByteArray) ++ s), .int .i64 0] 133)
    have r1 := heap_old (heap_old Hq.out.2.1 (.cells #[.slice b' (tryQ Q).length d'] 58)) (.cells #[.string n, .string ((⟨#[]⟩ : ByteArray) ++ s), .int .i64 0] 133)
    have r2 := heap_new ((w6.setCell ⟨w.heap.size, 2, none⟩ (.slice b' (tryQ Q).length d')).alloc (.cells #[.slice b' (tryQ Q).length d'] 58)) (.cells #[.string n, .string ((⟨#[]⟩ : ByteArray) ++ s), .int .i64 0] 133)
    generalize ((w6.setCell ⟨w.heap.size, 2, none⟩ (.slice b' (tryQ Q).length d')).alloc (.cells #[.slice b' (tryQ Q).length d'] 58)).alloc (.cells #[.string n, .string ((⟨#[]⟩ : ByteArray) ++ s), .int .i64 0] 133) = W4 at hk4 hRB4 r0 r1 r2 ⊢
    refine (set_spec W4 _ L room (tryQ Q) n ((⟨#[]⟩ : ByteArray) ++ s) 0 hL hRB4).mono ?_
    rintro e w8 ⟨v5, rfl, hB5, hk5⟩
    replace r0 := hk5.at_ r0 (by simp)
    replace r1 := hk5.at_ r1 (by simp)
    have hk05 := hk4.trans hk5
    obtain ⟨a5, c5, b5, d5, rfl⟩ := hB5.form
    generalize hM : insL (L.filter fun p => !decide (p.1 = n)) (n, ((⟨#[]⟩ : ByteArray) ++ s, 0)) = M5 at hB5
    have HM : Hid (putL Q L (insL (L.filter fun p => !decide (p.1 = n)) (n, ((⟨#[]⟩ : ByteArray) ++ s, 0))) = M5) := Lib.hid (by simp [putL, hd, ← hM])
    clear hM
    obtain ⟨_, hRB6, hk6, kq⟩ := resD (Nat.le_refl w.heap.size) hB5 ⟨_, _, _, _, _, _, _, r0⟩ hk05
    have r1' := kq.at_ r1 (by simp)
    have Hfin := Lib.hid (resD (q := w.heap.size + 1) (by omega) hRB6 ⟨_, _, _, _, _, _, _, r1'⟩ hk6)
    have c0 := cells_at r0
    have f0 := free_at r0
    have c1 := cells_at r1
    have f1 := free_at r1
    clear r0 r1 r2 r1' hRB4 hk4 hk5 hk05 hB5 hRB6 hk6 kq
    cases hw : tryWorks Q with
    | true =>
      go_wp2_with fail
      have hc := cells_at Hfin.out.1
      refine bodyPost_ret (v := .tuple #[.agg #[.slice a5 M5.length c5, .int .i64 room, .slice b5 (tryQ Q).length d5], .int .i64 0]) ?_ rfl ?_
      · simp [results, Try.results69, go_sem, hc]
      · rw [HM.out]; exact ⟨_, by simp [ioErr, hw], Hfin.out.2.1, Hfin.out.2.2.1⟩
    | false =>
      go_wp2_with fail
      have hc := cells_at Hfin.out.1
      refine bodyPost_ret (v := .tuple #[.agg #[.slice a5 M5.length c5, .int .i64 room, .slice b5 (tryQ Q).length d5], .int .i64 8]) ?_ rfl ?_
      · simp [results, Try.results69, go_sem, hc]
      · rw [HM.out]; exact ⟨_, by simp [ioErr, hw], Hfin.out.2.1, Hfin.out.2.2.1⟩

set_option maxRecDepth 100000 in
set_option maxHeartbeats 1000000 in
theorem do_app_old (w : World) (v : Value) (L : List (ByteArray × Ob)) (room : Int) (Q : List (Int × Bool)) (n s : ByteArray) (hn : n.size ≤ 1000) (hbad : ¬ (n.size = 0 ∨ 40 < n.size)) (hsum : sumL L ≤ 1000000000000) (hfit : sumL L + s.size ≤ room) (hroom2 : room ≤ 9223372036854775807) (hL : L.length ≤ 900) (hQ : Q.length ≤ 1000) (hQk : ∀ x ∈ Q, okF x) (hs : s.size ≤ 1000) (i : Nat) (hi : i < L.length) (x : Ob) (hLi : L[i] = (n, x)) (hix : findIx L n = i) (hx : x.1.size ≤ 1000000000000) (h : RefD w v L room Q) :
    Calls Try.prog 69 #[v, .int .i64 1, .string n, .string s] w (DoDPost w (putL Q L (insL (L.filter fun p => !decide (p.1 = n)) (n, (x.1 ++ s, x.2)))) room (tryQ Q) (ioErr Q)) := by
  have H := Lib.hid h
  obtain ⟨a, c, b, d, rfl⟩ := h.form
  have Hg : Hid (∀ W, Calls Try.prog 82 #[.string n] W fun e w' => e = .returned (.bool true) ∧ W = w') := Lib.hid fun W => by
    have := good_spec W n hn
    simp only [decide_eq_false hbad, Bool.not_false] at this
    exact this
  clear h hbad
  go_enter Try.func69, Try.ntmps69
  go_wp2_with fail
  have hk2 : Keeps [] w ((w.alloc (.cells #[.slice a L.length c, .int .i64 room, .slice b Q.length d] 96)).alloc (.cells #[.slice none 0 0, .int .i64 0, .slice none 0 0] 96)) := ((Keeps.refl [] w).alloc _).alloc _
  obtain ⟨q0, q1⟩ := new2 w (.cells #[.slice a L.length c, .int .i64 room, .slice b Q.length d] 96) (.cells #[.slice none 0 0, .int .i64 0, .slice none 0 0] 96)
  generalize ((w.alloc (.cells #[.slice a L.length c, .int .i64 room, .slice b Q.length d] 96)).alloc (.cells #[.slice none 0 0, .int .i64 0, .slice none 0 0] 96)) = W2 at hk2 q0 q1 ⊢
  refine (findD_spec W2 _ L room Q n (H.out.keep hk2)).mono ?_
  rintro e w3 ⟨rfl, hk3⟩
  replace q0 := hk3.at_ q0 (by simp)
  replace q1 := hk3.at_ q1 (by simp)
  have hk03 := hk2.trans hk3
  have c0 := cells_at q0
  have c1 := cells_at q1
  have f1 := free_at q1
  have l1 := lt_of_at q1
  clear hk2 hk3
  rw [hix]
  have hi0 : decide ((i : Int) < 0) = false := by rw [decide_eq_false_iff_not]; omega
  have d0 : w3.cell? ⟨w.heap.size, 0, none⟩ = some (.slice a L.length c) := by rw [c0]; rfl
  have d1 : w3.cell? ⟨w.heap.size, 1, none⟩ = some (.int .i64 room) := by rw [c0]; rfl
  have d2 : w3.cell? ⟨w.heap.size, 2, none⟩ = some (.slice b Q.length d) := by rw [c0]; rfl
  have l0 := lt_of_at q0
  have Hu : Hid (∀ W, Keeps [] w3 W → Calls Try.prog 70 #[.agg #[.slice a L.length c, .int .i64 room, .slice b Q.length d]] W fun e w' => e = .returned (.int .i64 (sumL L)) ∧ Keeps [] W w') := Lib.hid fun W k => refUsed_spec W _ L room Q hsum (H.out.keep (hk03.trans k))
  generalize sumL L = S at *
  have b0 : (0 : Int) ≤ room - S := by omega
  have hgt : ¬ room - S < (s.size : Int) := by omega
  have hwr : IntKind.i64.wrap (room - (S : Int)) = room - S := IntWalk.i64_in _ ⟨by omega, by omega⟩
  go_upto_region 4 with (go_at_call 82; refine (Hg.out _).mono ?_; rintro e w' ⟨rfl, rfl⟩)
  clear c0 c1 f1 l1
  go_region_held3 (fun w' => w'.cell? ⟨w.heap.size, 0, none⟩ = some (.slice a L.length c) ∧ w'.cell? ⟨w.heap.size, 1, none⟩ = some (.int .i64 room) ∧ w'.cell? ⟨w.heap.size, 2, none⟩ = some (.slice b Q.length d)) (first | go_keep | exact ⟨(hk5.cell (w := w3.drew) l0 (by simp)).trans d0, (hk5.cell (w := w3.drew) l0 (by simp)).trans d1, (hk5.cell (w := w3.drew) l0 (by simp)).trans d2⟩) (first | (go_at_call 70; refine (Hu.out _ (Keeps.refl [] w3).drew).mono ?_; rintro e w5 ⟨rfl, hk5⟩))
  replace q0 := hk5.at_ (w := w3.drew) q0 (by simp)
  replace q1 := hk5.at_ (w := w3.drew) q1 (by simp)
  replace hk03 := hk03.drew.trans hk5
  clear d0 d1 d2 l0 Hu hk5
  generalize w5 = w3 at q0 q1 hk03 ⊢
  have c0 := cells_at q0
  have c1 := cells_at q1
  have f1 := free_at q1
  have l1 := lt_of_at q1
  go_wp2_with fail
  obtain ⟨_, _, hv0, hsl, hof, hff⟩ := H.out
  injection hv0 with hv0
  simp only [Array.mk.injEq, List.cons.injEq, and_true, true_and] at hv0
  obtain ⟨rfl, rfl⟩ := hv0
  have Hs := Lib.hid (And.intro hsl (And.intro hof hff))
  clear hsl hof hff
  refine (refTry_spec w3 _ Q hQ hQk ⟨_, rfl, Hs.out.2.1, Hs.out.2.2.keep hk03⟩).mono ?_
  rintro e w6 ⟨vf, rfl, hfu, hk6⟩
  obtain ⟨b', d', rfl, ho', hf'⟩ := hfu.form
  replace q0 := hk6.at_ q0 (by simp)
  replace q1 := hk6.at_ q1 (by simp)
  have hk06 := hk03.trans hk6
  clear hfu hk03 hk6 c0 c1 f1 l1
  have c0 := cells_at q0
  have f0 := free_at q0
  have c1 := cells_at q1
  have f1 := free_at q1
  have l0 := lt_of_at q0
  have l1 := lt_of_at q1
  have hne : w.heap.size ≠ w.heap.size + 1 := by omega
  have hRB : RefD w6 (.agg #[.slice a L.length c, .int .i64 room, .slice b' (tryQ Q).length d']) L room (tryQ Q) := ⟨_, _, rfl, Hs.out.1.keep hk06, ho', hf'⟩
  have hRB1 := hRB.setBox ⟨_, _, _, _, _, _, _, q0⟩ 2 (.slice b' (tryQ Q).length d')
  have q0' := heap_cell_same (i := 2) q0 (.slice b' (tryQ Q).length d')
  have q1' := (heap_cell_other (p := ⟨w.heap.size, 2, none⟩) (.slice b' (tryQ Q).length d') (by omega : w.heap.size + 1 ≠ w.heap.size)).trans q1
  have hk3' := hk06.setCell (p := ⟨w.heap.size, 2, none⟩) (.inr (Nat.le_refl _)) (.slice b' (tryQ Q).length d')
  have Hq := Lib.hid (And.intro q0' (And.intro q1' (And.intro hk3' hRB1)))
  clear q0 q1 hf' hRB hRB1 q0' q1' hk3'
  cases hd : tryDone Q with
  | false =>
    cases hw : tryWorks Q with
    | true => exact absurd (tryDone_of Q hw) (by simp [hd])
    | false =>
      have Hfin := Lib.hid (resD (q := w.heap.size + 1) (by omega) Hq.out.2.2.2 ⟨_, _, _, _, _, _, _, Hq.out.2.1⟩ Hq.out.2.2.1)
      go_wp2_with fail
      have hc := cells_at Hfin.out.1
      refine bodyPost_ret (v := .tuple #[.agg #[.slice a L.length c, .int .i64 room, .slice b' (tryQ Q).length d'], .int .i64 8]) ?_ rfl ?_
      · simp [results, Try.results69, go_sem, hc, l1]
      · exact ⟨.agg #[.slice a L.length c, .int .i64 room, .slice b' (tryQ Q).length d'], by simp [ioErr, hw], by rw [show putL Q L _ = L from by simp [putL, hd]]; exact Hfin.out.2.1.keep ((Keeps.refl [] _).alloc _), Hfin.out.2.2.1.alloc _⟩
  | true =>
    obtain ⟨lb, lo, rfl, hlb, g0, g1, g2⟩ := objCells Hs.out.1 hi
    rw [hLi] at g0 g1 g2
    obtain ⟨xs, xt⟩ := x
    simp only at g0 g1 g2
    replace g0 := (hk06.cell hlb (by simp)).trans g0
    replace g1 := (hk06.cell hlb (by simp)).trans g1
    replace g2 := (hk06.cell hlb (by simp)).trans g2
    have hlb6 := hk06.lt hlb
    have hi' : (i : Int) < (L.length : Int) := by omega
    go_wp2_with fail
    have hk4 := (Hq.out.2.2.1.alloc (.cells #[.slice b' (tryQ Q).length d'] 58)).alloc (.cells #[.string n, .string (xs ++ s), .int .i64 xt] 133)
    have hRB4 := Hq.out.2.2.2.keep (((Keeps.refl [] _).alloc (.cells #[.slice b' (tryQ Q).length d'] 58)).alloc (.cells #[.string n, .string (xs ++ s), .int .i64 xt] 133))
    have r0 := heap_old (heap_old Hq.out.1 (.cells #[.slice b' (tryQ Q).length d'] 58)) (.cells #[.string n, .string (xs ++ s), .int .i64 xt] 133)
    have r1 := heap_old (heap_old Hq.out.2.1 (.cells #[.slice b' (tryQ Q).length d'] 58)) (.cells #[.string n, .string (xs ++ s), .int .i64 xt] 133)
    have r2 := heap_new ((w6.setCell ⟨w.heap.size, 2, none⟩ (.slice b' (tryQ Q).length d')).alloc (.cells #[.slice b' (tryQ Q).length d'] 58)) (.cells #[.string n, .string (xs ++ s), .int .i64 xt] 133)
    generalize ((w6.setCell ⟨w.heap.size, 2, none⟩ (.slice b' (tryQ Q).length d')).alloc (.cells #[.slice b' (tryQ Q).length d'] 58)).alloc (.cells #[.string n, .string (xs ++ s), .int .i64 xt] 133) = W4 at hk4 hRB4 r0 r1 r2 ⊢
    refine (set_spec W4 _ L room (tryQ Q) n (xs ++ s) xt hL hRB4).mono ?_
    rintro e w8 ⟨v5, rfl, hB5, hk5⟩
    replace r0 := hk5.at_ r0 (by simp)
    replace r1 := hk5.at_ r1 (by simp)
    have hk05 := hk4.trans hk5
    obtain ⟨a5, c5, b5, d5, rfl⟩ := hB5.form
    generalize hM : insL (L.filter fun p => !decide (p.1 = n)) (n, (xs ++ s, xt)) = M5 at hB5
    have HM : Hid (putL Q L (insL (L.filter fun p => !decide (p.1 = n)) (n, (xs ++ s, xt))) = M5) := Lib.hid (by simp [putL, hd, ← hM])
    clear hM
    obtain ⟨_, hRB6, hk6, kq⟩ := resD (Nat.le_refl w.heap.size) hB5 ⟨_, _, _, _, _, _, _, r0⟩ hk05
    have r1' := kq.at_ r1 (by simp)
    have Hfin := Lib.hid (resD (q := w.heap.size + 1) (by omega) hRB6 ⟨_, _, _, _, _, _, _, r1'⟩ hk6)
    have c0 := cells_at r0
    have f0 := free_at r0
    have c1 := cells_at r1
    have f1 := free_at r1
    clear r0 r1 r2 r1' hRB4 hk4 hk5 hk05 hB5 hRB6 hk6 kq
    cases hw : tryWorks Q with
    | true =>
      go_wp2_with fail
      have hc := cells_at Hfin.out.1
      refine bodyPost_ret (v := .tuple #[.agg #[.slice a5 M5.length c5, .int .i64 room, .slice b5 (tryQ Q).length d5], .int .i64 0]) ?_ rfl ?_
      · simp [results, Try.results69, go_sem, hc]
      · rw [HM.out]; exact ⟨_, by simp [ioErr, hw], Hfin.out.2.1, Hfin.out.2.2.1⟩
    | false =>
      go_wp2_with fail
      have hc := cells_at Hfin.out.1
      refine bodyPost_ret (v := .tuple #[.agg #[.slice a5 M5.length c5, .int .i64 room, .slice b5 (tryQ Q).length d5], .int .i64 8]) ?_ rfl ?_
      · simp [results, Try.results69, go_sem, hc]
      · rw [HM.out]; exact ⟨_, by simp [ioErr, hw], Hfin.out.2.1, Hfin.out.2.2.1⟩

set_option maxRecDepth 100000 in
set_option maxHeartbeats 1000000 in
theorem do_sync (w : World) (v : Value) (L : List (ByteArray × Ob)) (room : Int) (Q : List (Int × Bool)) (n s : ByteArray) (hL : L.length ≤ 900) (hQ : Q.length ≤ 1000) (hQk : ∀ x ∈ Q, okF x) (i : Nat) (hi : i < L.length) (x : Ob) (hLi : L[i] = (n, x)) (hix : findIx L n = i) (hx : x.1.size ≤ 1000000000000) (h : RefD w v L room Q) :
    Calls Try.prog 69 #[v, .int .i64 2, .string n, .string s] w (DoDPost w (putL Q L (insL (L.filter fun p => !decide (p.1 = n)) (n, (x.1, (x.1.size : Int))))) room (tryQ Q) (ioErr Q)) := by
  have H := Lib.hid h
  obtain ⟨a, c, b, d, rfl⟩ := h.form
  clear h
  go_enter Try.func69, Try.ntmps69
  go_wp2_with fail
  have hk2 : Keeps [] w ((w.alloc (.cells #[.slice a L.length c, .int .i64 room, .slice b Q.length d] 96)).alloc (.cells #[.slice none 0 0, .int .i64 0, .slice none 0 0] 96)) := ((Keeps.refl [] w).alloc _).alloc _
  obtain ⟨q0, q1⟩ := new2 w (.cells #[.slice a L.length c, .int .i64 room, .slice b Q.length d] 96) (.cells #[.slice none 0 0, .int .i64 0, .slice none 0 0] 96)
  generalize ((w.alloc (.cells #[.slice a L.length c, .int .i64 room, .slice b Q.length d] 96)).alloc (.cells #[.slice none 0 0, .int .i64 0, .slice none 0 0] 96)) = W2 at hk2 q0 q1 ⊢
  refine (findD_spec W2 _ L room Q n (H.out.keep hk2)).mono ?_
  rintro e w3 ⟨rfl, hk3⟩
  replace q0 := hk3.at_ q0 (by simp)
  replace q1 := hk3.at_ q1 (by simp)
  have hk03 := hk2.trans hk3
  have c0 := cells_at q0
  have c1 := cells_at q1
  have f1 := free_at q1
  have l1 := lt_of_at q1
  clear hk2 hk3
  rw [hix]
  have hi0 : decide ((i : Int) < 0) = false := by rw [decide_eq_false_iff_not]; omega
  go_upto_region 4 with fail
  go_quiet (fail)
  have p0 : (w3.drewN nq).heap[w.heap.size]? = _ := q0
  have p1 : (w3.drewN nq).heap[w.heap.size + 1]? = _ := q1
  have kp := hk03.drewN nq
  clear c0 c1 f1 l1 q0 q1 hk03
  generalize w3.drewN nq = w3 at p0 p1 kp ⊢
  have q0 := p0
  have q1 := p1
  have hk03 := kp
  clear p0 p1 kp
  have c0 := cells_at q0
  have c1 := cells_at q1
  have f1 := free_at q1
  have l1 := lt_of_at q1
  go_wp2_with fail
  obtain ⟨_, _, hv0, hsl, hof, hff⟩ := H.out
  injection hv0 with hv0
  simp only [Array.mk.injEq, List.cons.injEq, and_true, true_and] at hv0
  obtain ⟨rfl, rfl⟩ := hv0
  have Hs := Lib.hid (And.intro hsl (And.intro hof hff))
  clear hsl hof hff
  refine (refTry_spec w3 _ Q hQ hQk ⟨_, rfl, Hs.out.2.1, Hs.out.2.2.keep hk03⟩).mono ?_
  rintro e w6 ⟨vf, rfl, hfu, hk6⟩
  obtain ⟨b', d', rfl, ho', hf'⟩ := hfu.form
  replace q0 := hk6.at_ q0 (by simp)
  replace q1 := hk6.at_ q1 (by simp)
  have hk06 := hk03.trans hk6
  clear hfu hk03 hk6 c0 c1 f1 l1
  have c0 := cells_at q0
  have f0 := free_at q0
  have c1 := cells_at q1
  have f1 := free_at q1
  have l0 := lt_of_at q0
  have l1 := lt_of_at q1
  have hne : w.heap.size ≠ w.heap.size + 1 := by omega
  have hRB : RefD w6 (.agg #[.slice a L.length c, .int .i64 room, .slice b' (tryQ Q).length d']) L room (tryQ Q) := ⟨_, _, rfl, Hs.out.1.keep hk06, ho', hf'⟩
  have hRB1 := hRB.setBox ⟨_, _, _, _, _, _, _, q0⟩ 2 (.slice b' (tryQ Q).length d')
  have q0' := heap_cell_same (i := 2) q0 (.slice b' (tryQ Q).length d')
  have q1' := (heap_cell_other (p := ⟨w.heap.size, 2, none⟩) (.slice b' (tryQ Q).length d') (by omega : w.heap.size + 1 ≠ w.heap.size)).trans q1
  have hk3' := hk06.setCell (p := ⟨w.heap.size, 2, none⟩) (.inr (Nat.le_refl _)) (.slice b' (tryQ Q).length d')
  have Hq := Lib.hid (And.intro q0' (And.intro q1' (And.intro hk3' hRB1)))
  clear q0 q1 hf' hRB hRB1 q0' q1' hk3'
  cases hd : tryDone Q with
  | false =>
    cases hw : tryWorks Q with
    | true => exact absurd (tryDone_of Q hw) (by simp [hd])
    | false =>
      have Hfin := Lib.hid (resD (q := w.heap.size + 1) (by omega) Hq.out.2.2.2 ⟨_, _, _, _, _, _, _, Hq.out.2.1⟩ Hq.out.2.2.1)
      go_wp2_with fail
      have hc := cells_at Hfin.out.1
      refine bodyPost_ret (v := .tuple #[.agg #[.slice a L.length c, .int .i64 room, .slice b' (tryQ Q).length d'], .int .i64 8]) ?_ rfl ?_
      · simp [results, Try.results69, go_sem, hc, l1]
      · exact ⟨.agg #[.slice a L.length c, .int .i64 room, .slice b' (tryQ Q).length d'], by simp [ioErr, hw], by rw [show putL Q L _ = L from by simp [putL, hd]]; exact Hfin.out.2.1.keep ((Keeps.refl [] _).alloc _), Hfin.out.2.2.1.alloc _⟩
  | true =>
    obtain ⟨lb, lo, rfl, hlb, g0, g1, g2⟩ := objCells Hs.out.1 hi
    rw [hLi] at g0 g1 g2
    obtain ⟨xs, xt⟩ := x
    simp only at g0 g1 g2
    replace g0 := (hk06.cell hlb (by simp)).trans g0
    replace g1 := (hk06.cell hlb (by simp)).trans g1
    replace g2 := (hk06.cell hlb (by simp)).trans g2
    have hlb6 := hk06.lt hlb
    have hi' : (i : Int) < (L.length : Int) := by omega
    go_wp2_with fail
    have hk4 := (Hq.out.2.2.1.alloc (.cells #[.slice b' (tryQ Q).length d'] 58)).alloc (.cells #[.string n, .string xs, .int .i64 (xs.size : Int)] 133)
    have hRB4 := Hq.out.2.2.2.keep (((Keeps.refl [] _).alloc (.cells #[.slice b' (tryQ Q).length d'] 58)).alloc (.cells #[.string n, .string xs, .int .i64 (xs.size : Int)] 133))
    have r0 := heap_old (heap_old Hq.out.1 (.cells #[.slice b' (tryQ Q).length d'] 58)) (.cells #[.string n, .string xs, .int .i64 (xs.size : Int)] 133)
    have r1 := heap_old (heap_old Hq.out.2.1 (.cells #[.slice b' (tryQ Q).length d'] 58)) (.cells #[.string n, .string xs, .int .i64 (xs.size : Int)] 133)
    have r2 := heap_new ((w6.setCell ⟨w.heap.size, 2, none⟩ (.slice b' (tryQ Q).length d')).alloc (.cells #[.slice b' (tryQ Q).length d'] 58)) (.cells #[.string n, .string xs, .int .i64 (xs.size : Int)] 133)
    generalize ((w6.setCell ⟨w.heap.size, 2, none⟩ (.slice b' (tryQ Q).length d')).alloc (.cells #[.slice b' (tryQ Q).length d'] 58)).alloc (.cells #[.string n, .string xs, .int .i64 (xs.size : Int)] 133) = W4 at hk4 hRB4 r0 r1 r2 ⊢
    refine (set_spec W4 _ L room (tryQ Q) n xs (xs.size : Int) hL hRB4).mono ?_
    rintro e w8 ⟨v5, rfl, hB5, hk5⟩
    replace r0 := hk5.at_ r0 (by simp)
    replace r1 := hk5.at_ r1 (by simp)
    have hk05 := hk4.trans hk5
    obtain ⟨a5, c5, b5, d5, rfl⟩ := hB5.form
    generalize hM : insL (L.filter fun p => !decide (p.1 = n)) (n, (xs, (xs.size : Int))) = M5 at hB5
    have HM : Hid (putL Q L (insL (L.filter fun p => !decide (p.1 = n)) (n, (xs, (xs.size : Int)))) = M5) := Lib.hid (by simp [putL, hd, ← hM])
    clear hM
    obtain ⟨_, hRB6, hk6, kq⟩ := resD (Nat.le_refl w.heap.size) hB5 ⟨_, _, _, _, _, _, _, r0⟩ hk05
    have r1' := kq.at_ r1 (by simp)
    have Hfin := Lib.hid (resD (q := w.heap.size + 1) (by omega) hRB6 ⟨_, _, _, _, _, _, _, r1'⟩ hk6)
    have c0 := cells_at r0
    have f0 := free_at r0
    have c1 := cells_at r1
    have f1 := free_at r1
    clear r0 r1 r2 r1' hRB4 hk4 hk5 hk05 hB5 hRB6 hk6 kq
    cases hw : tryWorks Q with
    | true =>
      go_wp2_with fail
      have hc := cells_at Hfin.out.1
      refine bodyPost_ret (v := .tuple #[.agg #[.slice a5 M5.length c5, .int .i64 room, .slice b5 (tryQ Q).length d5], .int .i64 0]) ?_ rfl ?_
      · simp [results, Try.results69, go_sem, hc]
      · rw [HM.out]; exact ⟨_, by simp [ioErr, hw], Hfin.out.2.1, Hfin.out.2.2.1⟩
    | false =>
      go_wp2_with fail
      have hc := cells_at Hfin.out.1
      refine bodyPost_ret (v := .tuple #[.agg #[.slice a5 M5.length c5, .int .i64 room, .slice b5 (tryQ Q).length d5], .int .i64 8]) ?_ rfl ?_
      · simp [results, Try.results69, go_sem, hc]
      · rw [HM.out]; exact ⟨_, by simp [ioErr, hw], Hfin.out.2.1, Hfin.out.2.2.1⟩

set_option maxRecDepth 100000 in
set_option maxHeartbeats 1000000 in
theorem do_remove (w : World) (v : Value) (L : List (ByteArray × Ob)) (room : Int) (Q : List (Int × Bool)) (n s : ByteArray) (hL : L.length ≤ 900) (hQ : Q.length ≤ 1000) (hQk : ∀ x ∈ Q, okF x) (i : Nat) (hi : i < L.length) (x : Ob) (hLi : L[i] = (n, x)) (hix : findIx L n = i) (h : RefD w v L room Q) :
    Calls Try.prog 69 #[v, .int .i64 4, .string n, .string s] w (DoDPost w (putL Q L (L.filter fun p => !decide (p.1 = n))) room (tryQ Q) (ioErr Q)) := by
  have H := Lib.hid h
  obtain ⟨a, c, b, d, rfl⟩ := h.form
  clear h
  go_enter Try.func69, Try.ntmps69
  go_wp2_with fail
  have hk2 : Keeps [] w ((w.alloc (.cells #[.slice a L.length c, .int .i64 room, .slice b Q.length d] 96)).alloc (.cells #[.slice none 0 0, .int .i64 0, .slice none 0 0] 96)) := ((Keeps.refl [] w).alloc _).alloc _
  obtain ⟨q0, q1⟩ := new2 w (.cells #[.slice a L.length c, .int .i64 room, .slice b Q.length d] 96) (.cells #[.slice none 0 0, .int .i64 0, .slice none 0 0] 96)
  generalize ((w.alloc (.cells #[.slice a L.length c, .int .i64 room, .slice b Q.length d] 96)).alloc (.cells #[.slice none 0 0, .int .i64 0, .slice none 0 0] 96)) = W2 at hk2 q0 q1 ⊢
  refine (findD_spec W2 _ L room Q n (H.out.keep hk2)).mono ?_
  rintro e w3 ⟨rfl, hk3⟩
  replace q0 := hk3.at_ q0 (by simp)
  replace q1 := hk3.at_ q1 (by simp)
  have hk03 := hk2.trans hk3
  have c0 := cells_at q0
  have c1 := cells_at q1
  have f1 := free_at q1
  have l1 := lt_of_at q1
  clear hk2 hk3
  rw [hix]
  have hi0 : decide ((i : Int) < 0) = false := by rw [decide_eq_false_iff_not]; omega
  go_upto_region 4 with fail
  go_quiet (fail)
  have p0 : (w3.drewN nq).heap[w.heap.size]? = _ := q0
  have p1 : (w3.drewN nq).heap[w.heap.size + 1]? = _ := q1
  have kp := hk03.drewN nq
  clear c0 c1 f1 l1 q0 q1 hk03
  generalize w3.drewN nq = w3 at p0 p1 kp ⊢
  have q0 := p0
  have q1 := p1
  have hk03 := kp
  clear p0 p1 kp
  have c0 := cells_at q0
  have c1 := cells_at q1
  have f1 := free_at q1
  have l1 := lt_of_at q1
  go_wp2_with fail
  obtain ⟨_, _, hv0, hsl, hof, hff⟩ := H.out
  injection hv0 with hv0
  simp only [Array.mk.injEq, List.cons.injEq, and_true, true_and] at hv0
  obtain ⟨rfl, rfl⟩ := hv0
  have Hs := Lib.hid (And.intro hsl (And.intro hof hff))
  clear hsl hof hff
  refine (refTry_spec w3 _ Q hQ hQk ⟨_, rfl, Hs.out.2.1, Hs.out.2.2.keep hk03⟩).mono ?_
  rintro e w6 ⟨vf, rfl, hfu, hk6⟩
  obtain ⟨b', d', rfl, ho', hf'⟩ := hfu.form
  replace q0 := hk6.at_ q0 (by simp)
  replace q1 := hk6.at_ q1 (by simp)
  have hk06 := hk03.trans hk6
  clear hfu hk03 hk6 c0 c1 f1 l1
  have c0 := cells_at q0
  have f0 := free_at q0
  have c1 := cells_at q1
  have f1 := free_at q1
  have l0 := lt_of_at q0
  have l1 := lt_of_at q1
  have hne : w.heap.size ≠ w.heap.size + 1 := by omega
  have hRB : RefD w6 (.agg #[.slice a L.length c, .int .i64 room, .slice b' (tryQ Q).length d']) L room (tryQ Q) := ⟨_, _, rfl, Hs.out.1.keep hk06, ho', hf'⟩
  have hRB1 := hRB.setBox ⟨_, _, _, _, _, _, _, q0⟩ 2 (.slice b' (tryQ Q).length d')
  have q0' := heap_cell_same (i := 2) q0 (.slice b' (tryQ Q).length d')
  have q1' := (heap_cell_other (p := ⟨w.heap.size, 2, none⟩) (.slice b' (tryQ Q).length d') (by omega : w.heap.size + 1 ≠ w.heap.size)).trans q1
  have hk3' := hk06.setCell (p := ⟨w.heap.size, 2, none⟩) (.inr (Nat.le_refl _)) (.slice b' (tryQ Q).length d')
  have Hq := Lib.hid (And.intro q0' (And.intro q1' (And.intro hk3' hRB1)))
  clear q0 q1 hf' hRB hRB1 q0' q1' hk3'
  cases hd : tryDone Q with
  | false =>
    cases hw : tryWorks Q with
    | true => exact absurd (tryDone_of Q hw) (by simp [hd])
    | false =>
      have Hfin := Lib.hid (resD (q := w.heap.size + 1) (by omega) Hq.out.2.2.2 ⟨_, _, _, _, _, _, _, Hq.out.2.1⟩ Hq.out.2.2.1)
      go_wp2_with fail
      have hc := cells_at Hfin.out.1
      refine bodyPost_ret (v := .tuple #[.agg #[.slice a L.length c, .int .i64 room, .slice b' (tryQ Q).length d'], .int .i64 8]) ?_ rfl ?_
      · simp [results, Try.results69, go_sem, hc, l1]
      · exact ⟨.agg #[.slice a L.length c, .int .i64 room, .slice b' (tryQ Q).length d'], by simp [ioErr, hw], by rw [show putL Q L _ = L from by simp [putL, hd]]; exact Hfin.out.2.1.keep ((Keeps.refl [] _).alloc _), Hfin.out.2.2.1.alloc _⟩
  | true =>
    obtain ⟨lb, lo, rfl, hlb, g0, g1, g2⟩ := objCells Hs.out.1 hi
    rw [hLi] at g0 g1 g2
    obtain ⟨xs, xt⟩ := x
    simp only at g0 g1 g2
    replace g0 := (hk06.cell hlb (by simp)).trans g0
    replace g1 := (hk06.cell hlb (by simp)).trans g1
    replace g2 := (hk06.cell hlb (by simp)).trans g2
    have hlb6 := hk06.lt hlb
    have hi' : (i : Int) < (L.length : Int) := by omega
    go_wp2_with fail
    have hk4 := (Hq.out.2.2.1.alloc (.cells #[.slice b' (tryQ Q).length d'] 58)).alloc (.cells #[.string n, .string xs, .int .i64 xt] 133)
    have hRB4 := Hq.out.2.2.2.keep (((Keeps.refl [] _).alloc (.cells #[.slice b' (tryQ Q).length d'] 58)).alloc (.cells #[.string n, .string xs, .int .i64 xt] 133))
    have r0 := heap_old (heap_old Hq.out.1 (.cells #[.slice b' (tryQ Q).length d'] 58)) (.cells #[.string n, .string xs, .int .i64 xt] 133)
    have r1 := heap_old (heap_old Hq.out.2.1 (.cells #[.slice b' (tryQ Q).length d'] 58)) (.cells #[.string n, .string xs, .int .i64 xt] 133)
    have r2 := heap_new ((w6.setCell ⟨w.heap.size, 2, none⟩ (.slice b' (tryQ Q).length d')).alloc (.cells #[.slice b' (tryQ Q).length d'] 58)) (.cells #[.string n, .string xs, .int .i64 xt] 133)
    generalize ((w6.setCell ⟨w.heap.size, 2, none⟩ (.slice b' (tryQ Q).length d')).alloc (.cells #[.slice b' (tryQ Q).length d'] 58)).alloc (.cells #[.string n, .string xs, .int .i64 xt] 133) = W4 at hk4 hRB4 r0 r1 r2 ⊢
    refine (drop_spec W4 _ L room (tryQ Q) n (by omega) hRB4).mono ?_
    rintro e w8 ⟨v5, rfl, hB5, hk5⟩
    replace r0 := hk5.at_ r0 (by simp)
    replace r1 := hk5.at_ r1 (by simp)
    have hk05 := hk4.trans hk5
    obtain ⟨a5, c5, b5, d5, rfl⟩ := hB5.form
    generalize hM : (L.filter fun p => !decide (p.1 = n)) = M5 at hB5
    have HM : Hid (putL Q L ((L.filter fun p => !decide (p.1 = n))) = M5) := Lib.hid (by simp [putL, hd, ← hM])
    clear hM
    obtain ⟨_, hRB6, hk6, kq⟩ := resD (Nat.le_refl w.heap.size) hB5 ⟨_, _, _, _, _, _, _, r0⟩ hk05
    have r1' := kq.at_ r1 (by simp)
    have Hfin := Lib.hid (resD (q := w.heap.size + 1) (by omega) hRB6 ⟨_, _, _, _, _, _, _, r1'⟩ hk6)
    have c0 := cells_at r0
    have f0 := free_at r0
    have c1 := cells_at r1
    have f1 := free_at r1
    clear r0 r1 r2 r1' hRB4 hk4 hk5 hk05 hB5 hRB6 hk6 kq
    cases hw : tryWorks Q with
    | true =>
      go_wp2_with fail
      have hc := cells_at Hfin.out.1
      refine bodyPost_ret (v := .tuple #[.agg #[.slice a5 M5.length c5, .int .i64 room, .slice b5 (tryQ Q).length d5], .int .i64 0]) ?_ rfl ?_
      · simp [results, Try.results69, go_sem, hc]
      · rw [HM.out]; exact ⟨_, by simp [ioErr, hw], Hfin.out.2.1, Hfin.out.2.2.1⟩
    | false =>
      go_wp2_with fail
      have hc := cells_at Hfin.out.1
      refine bodyPost_ret (v := .tuple #[.agg #[.slice a5 M5.length c5, .int .i64 room, .slice b5 (tryQ Q).length d5], .int .i64 8]) ?_ rfl ?_
      · simp [results, Try.results69, go_sem, hc]
      · rw [HM.out]; exact ⟨_, by simp [ioErr, hw], Hfin.out.2.1, Hfin.out.2.2.1⟩

end Go.Proofs.Ythcdodjdlgeeoaa
