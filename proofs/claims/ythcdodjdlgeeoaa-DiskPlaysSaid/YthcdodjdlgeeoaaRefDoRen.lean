/-
  The document's disk (barographref04): Do of a Rename that is tried.
-/
import Derived.Test.YthcdodjdlgeeoaaRefDoTry
import Derived.Test.YthcdodjdlgeeoaaRegion
namespace Go.Proofs.Ythcdodjdlgeeoaa
open Go Go.RowKit Go.ChangeShapes Go.WideShapes Go.Deep

/-- The files behind a Rename. -/
def renL (L : List (ByteArray × Ob)) (n s : ByteArray) (x : Ob) : List (ByteArray × Ob) := insL ((L.filter fun p => !decide (p.1 = n)).filter fun p => !decide (p.1 = s)) (s, x)

set_option linter.unusedSimpArgs false in
set_option maxRecDepth 100000 in
set_option maxHeartbeats 1000000 in
theorem do_rename (w : World) (v : Value) (L : List (ByteArray × Ob)) (room : Int) (Q : List (Int × Bool)) (n s : ByteArray) (hL : L.length ≤ 900) (hQ : Q.length ≤ 1000) (hQk : ∀ x ∈ Q, okF x) (i : Nat) (hi : i < L.length) (x : Ob) (hLi : L[i] = (n, x)) (hix : findIx L n = i) (hs : s.size ≤ 1000) (hbad : ¬ (s.size = 0 ∨ 40 < s.size)) (h : RefD w v L room Q) :
    Calls Try.prog 69 #[v, .int .i64 3, .string n, .string s] w (DoDPost w (putL Q L (renL L n s x)) room (tryQ Q) (ioErr Q)) := by
  have H := Lib.hid h
  obtain ⟨a, c, b, d, rfl⟩ := h.form
  have Hg : Hid (∀ W, Calls Try.prog 82 #[.string s] W fun e w' => e = .returned (.bool true) ∧ W = w') := Lib.hid fun W => by
    have := good_spec W s hs
    simp only [decide_eq_false hbad, Bool.not_false] at this
    exact this
  clear h hbad
  go_enter Try.func69, Try.ntmps69
  go_wp2_with fail
  have hk2 : Keeps [] w ((w.alloc (.cells #[.slice a L.length c, .int .i64 room, .slice b Q.length d] 96)).alloc (.cells #[.slice none 0 0, .int .i64 0, .slice none 0 0] 96)) := ((Keeps.refl [] w).alloc _).alloc _
  obtain ⟨q0, q1⟩ := new2 w (.cells #[.slice a L.length c, .int .i64 room, .slice b Q.length d] 96) (.cells #[.slice none 0 0, .int .i64 0, .slice none 0 0] 96)
  generalize ((w.alloc (.cells #[.slice a L.length c, .int .i64 room, .slice b Q.length d] 96)).alloc (.cells #[.slice none 0 0, .int .i64 0, .slice none 0 0] 96)) = W2 at hk2 q0 q1 ⊢
  refine (findD_spec W2 _ L room Q n (H.out.keep hk2)).mono ?_
  rintro e w3 ⟨rfl, hk3⟩
  replace q0 := hk3.at_ q0 (by simp)
  replace q1 := hk3.at_ q1 (by simp)
  have hk03 := hk2.trans hk3
  have c0 := cells_at q0
  have c1 := cells_at q1
  have f1 := free_at q1
  have l1 := lt_of_at q1
  clear hk2 hk3
  rw [hix]
  have hi0 : decide ((i : Int) < 0) = false := by rw [decide_eq_false_iff_not]; omega
  go_upto_region 4 with fail
  go_quiet (fail)
  have p0 : (w3.drewN nq).heap[w.heap.size]? = _ := q0
  have p1 : (w3.drewN nq).heap[w.heap.size + 1]? = _ := q1
  have kp := hk03.drewN nq
  clear c0 c1 f1 l1 q0 q1 hk03
  generalize w3.drewN nq = w3 at p0 p1 kp ⊢
  have q0 := p0
  have q1 := p1
  have hk03 := kp
  clear p0 p1 kp
  have c0 := cells_at q0
  have c1 := cells_at q1
  have f1 := free_at q1
  have l1 := lt_of_at q1
  go_wp2_with (go_at_call 82; refine (Hg.out _).mono ?_; rintro e w' ⟨rfl, rfl⟩)
  obtain ⟨_, _, hv0, hsl, hof, hff⟩ := H.out
  injection hv0 with hv0
  simp only [Array.mk.injEq, List.cons.injEq, and_true, true_and] at hv0
  obtain ⟨rfl, rfl⟩ := hv0
  have Hs := Lib.hid (And.intro hsl (And.intro hof hff))
  clear hsl hof hff
  refine (refTry_spec w3 _ Q hQ hQk ⟨_, rfl, Hs.out.2.1, Hs.out.2.2.keep hk03⟩).mono ?_
  rintro e w6 ⟨vf, rfl, hfu, hk6⟩
  obtain ⟨b', d', rfl, ho', hf'⟩ := hfu.form
  replace q0 := hk6.at_ q0 (by simp)
  replace q1 := hk6.at_ q1 (by simp)
  have hk06 := hk03.trans hk6
  clear hfu hk03 hk6 c0 c1 f1 l1
  have c0 := cells_at q0
  have f0 := free_at q0
  have c1 := cells_at q1
  have f1 := free_at q1
  have l0 := lt_of_at q0
  have l1 := lt_of_at q1
  have hne : w.heap.size ≠ w.heap.size + 1 := by omega
  have hRB : RefD w6 (.agg #[.slice a L.length c, .int .i64 room, .slice b' (tryQ Q).length d']) L room (tryQ Q) := ⟨_, _, rfl, Hs.out.1.keep hk06, ho', hf'⟩
  have hRB1 := hRB.setBox ⟨_, _, _, _, _, _, _, q0⟩ 2 (.slice b' (tryQ Q).length d')
  have q0' := heap_cell_same (i := 2) q0 (.slice b' (tryQ Q).length d')
  have q1' := (heap_cell_other (p := ⟨w.heap.size, 2, none⟩) (.slice b' (tryQ Q).length d') (by omega : w.heap.size + 1 ≠ w.heap.size)).trans q1
  have hk3' := hk06.setCell (p := ⟨w.heap.size, 2, none⟩) (.inr (Nat.le_refl _)) (.slice b' (tryQ Q).length d')
  have Hq := Lib.hid (And.intro q0' (And.intro q1' (And.intro hk3' hRB1)))
  clear q0 q1 hf' hRB hRB1 q0' q1' hk3'
  cases hd : tryDone Q with
  | false =>
    cases hw : tryWorks Q with
    | true => exact absurd (tryDone_of Q hw) (by simp [hd])
    | false =>
      have Hfin := Lib.hid (resD (q := w.heap.size + 1) (by omega) Hq.out.2.2.2 ⟨_, _, _, _, _, _, _, Hq.out.2.1⟩ Hq.out.2.2.1)
      go_wp2_with fail
      have hc := cells_at Hfin.out.1
      refine bodyPost_ret (v := .tuple #[.agg #[.slice a L.length c, .int .i64 room, .slice b' (tryQ Q).length d'], .int .i64 8]) ?_ rfl ?_
      · simp [results, Try.results69, go_sem, hc, l1]
      · exact ⟨.agg #[.slice a L.length c, .int .i64 room, .slice b' (tryQ Q).length d'], by simp [ioErr, hw], by rw [show putL Q L _ = L from by simp [putL, hd]]; exact Hfin.out.2.1.keep ((Keeps.refl [] _).alloc _), Hfin.out.2.2.1.alloc _⟩
  | true =>
    obtain ⟨lb, lo, rfl, hlb, g0, g1, g2⟩ := objCells Hs.out.1 hi
    rw [hLi] at g0 g1 g2
    obtain ⟨xs, xt⟩ := x
    simp only at g0 g1 g2
    replace g0 := (hk06.cell hlb (by simp)).trans g0
    replace g1 := (hk06.cell hlb (by simp)).trans g1
    replace g2 := (hk06.cell hlb (by simp)).trans g2
    have hlb6 := hk06.lt hlb
    have hi' : (i : Int) < (L.length : Int) := by omega
    go_upto_region 25 with fail
    have hk4 := (Hq.out.2.2.1.alloc (.cells #[.slice b' (tryQ Q).length d'] 58)).alloc (.cells #[.string s, .string xs, .int .i64 xt] 133)
    have hRB4 := Hq.out.2.2.2.keep (((Keeps.refl [] _).alloc (.cells #[.slice b' (tryQ Q).length d'] 58)).alloc (.cells #[.string s, .string xs, .int .i64 xt] 133))
    have r0 := heap_old (heap_old Hq.out.1 (.cells #[.slice b' (tryQ Q).length d'] 58)) (.cells #[.string s, .string xs, .int .i64 xt] 133)
    have r1 := heap_old (heap_old Hq.out.2.1 (.cells #[.slice b' (tryQ Q).length d'] 58)) (.cells #[.string s, .string xs, .int .i64 xt] 133)
    have r2 := heap_new ((w6.setCell ⟨w.heap.size, 2, none⟩ (.slice b' (tryQ Q).length d')).alloc (.cells #[.slice b' (tryQ Q).length d'] 58)) (.cells #[.string s, .string xs, .int .i64 xt] 133)
    have hsz : ((w6.setCell ⟨w.heap.size, 2, none⟩ (.slice b' (tryQ Q).length d')).alloc (.cells #[.slice b' (tryQ Q).length d'] 58)).heap.size = w6.heap.size + 1 := by simp
    rw [hsz] at r2
    clear hsz
    generalize ((w6.setCell ⟨w.heap.size, 2, none⟩ (.slice b' (tryQ Q).length d')).alloc (.cells #[.slice b' (tryQ Q).length d'] 58)).alloc (.cells #[.string s, .string xs, .int .i64 xt] 133) = W4 at hk4 hRB4 r0 r1 r2 ⊢
    have hlf : (L.filter fun p => !decide (p.1 = n)).length ≤ 900 := Nat.le_trans (List.length_filter_le _ _) hL
    have Hdrop : Hid (∀ W, Keeps [] W4 W → Calls Try.prog 83 #[.agg #[.slice (some ⟨lb, lo, none⟩) L.length c, .int .i64 room, .slice b' (tryQ Q).length d'], .string n] W (DPost W (L.filter fun p => !decide (p.1 = n)) room (tryQ Q))) := Lib.hid fun W k => drop_spec W _ L room (tryQ Q) n (by omega) (hRB4.keep k)
    have HL1 : Hid (putL Q L (renL L n s (xs, xt)) = insL ((L.filter fun p => !decide (p.1 = n)).filter fun p => !decide (p.1 = s)) (s, (xs, xt))) := Lib.hid (by unfold putL renL; rw [hd]; rfl)
    generalize (L.filter fun p => !decide (p.1 = n)) = M at hlf Hdrop HL1
    have Hset : Hid (∀ W v, RefD W v M room (tryQ Q) → Calls Try.prog 81 #[v, .agg #[.string s, .string xs, .int .i64 xt]] W (DPost W (insL (M.filter fun p => !decide (p.1 = s)) (s, (xs, xt))) room (tryQ Q))) := Lib.hid fun W v h => set_spec W v M room (tryQ Q) s xs xt hlf h
    generalize insL (M.filter fun p => !decide (p.1 = s)) (s, (xs, xt)) = N at Hset HL1
    have hw6 : w.heap.size ≤ w6.heap.size := hk06.size
    have c2 := cells_at r2
    have lq := lt_of_at r2
    have e0 : W4.cell? ⟨w6.heap.size + 1, 0, none⟩ = some (.string s) := by rw [c2]; rfl
    have e1 : W4.cell? ⟨w6.heap.size + 1, 1, none⟩ = some (.string xs) := by rw [c2]; rfl
    have e2 : W4.cell? ⟨w6.heap.size + 1, 2, none⟩ = some (.int .i64 xt) := by rw [c2]; rfl
    have hRk := Lib.hid (And.intro r0 (And.intro r1 hk4))
    have c0 := cells_at r0
    have l0 := lt_of_at r0
    clear c1 f1 f0 c2 r0 r1 r2 hk4 hRB4 g0 g1 g2
    have h0 : W4.cell? ⟨w.heap.size, 0, none⟩ = some (.slice (some ⟨lb, lo, none⟩) L.length c) := by rw [c0]; rfl
    have h1 : W4.cell? ⟨w.heap.size, 1, none⟩ = some (.int .i64 room) := by rw [c0]; rfl
    have h2 : W4.cell? ⟨w.heap.size, 2, none⟩ = some (.slice b' (tryQ Q).length d') := by rw [c0]; rfl
    refine wp_region_last_n 5 (fun w' => w'.cell? ⟨w.heap.size, 0, none⟩ = some (.slice (some ⟨lb, lo, none⟩) L.length c) ∧ w'.cell? ⟨w.heap.size, 1, none⟩ = some (.int .i64 room) ∧ w'.cell? ⟨w.heap.size, 2, none⟩ = some (.slice b' (tryQ Q).length d') ∧ w'.cell? ⟨w6.heap.size + 1, 0, none⟩ = some (.string s) ∧ w'.cell? ⟨w6.heap.size + 1, 1, none⟩ = some (.string xs) ∧ w'.cell? ⟨w6.heap.size + 1, 2, none⟩ = some (.int .i64 xt)) (by kernel_rfl) (by kernel_rfl) (by kernel_rfl) ?_
    have hS : (fun w' => w'.cell? ⟨w.heap.size, 0, none⟩ = some (.slice (some ⟨lb, lo, none⟩) L.length c) ∧ w'.cell? ⟨w.heap.size, 1, none⟩ = some (.int .i64 room) ∧ w'.cell? ⟨w.heap.size, 2, none⟩ = some (.slice b' (tryQ Q).length d') ∧ w'.cell? ⟨w6.heap.size + 1, 0, none⟩ = some (.string s) ∧ w'.cell? ⟨w6.heap.size + 1, 1, none⟩ = some (.string xs) ∧ w'.cell? ⟨w6.heap.size + 1, 2, none⟩ = some (.int .i64 xt)) W4.drew := ⟨h0, h1, h2, e0, e1, e2⟩
    simp only [List.take_succ_cons, List.take_zero]
    refine wpAnyH_take (i := 0) (v := ?_) rfl (by kernel_rfl) (by kernel_rfl) (by kernel_rfl) (fun _ _ _ h => h) (Or.inl ⟨by rfl, ?_⟩) (by assumption) ?_
    rotate_left
    · intro w' hSw; obtain ⟨s0, s1, s2, s3, s4, s5⟩ := hSw; go_simp; (try with_reducible rfl)
    try simp only [Act.put, List.getElem_toArray, List.getElem_cons_succ, List.getElem_cons_zero, List.setIfInBounds_toArray, List.set_cons_zero, List.set_cons_succ]
    refine wpAnyH_take (i := 1) (v := ?_) rfl (by kernel_rfl) (by kernel_rfl) (by kernel_rfl) (fun _ _ _ h => h) (Or.inl ⟨by rfl, ?_⟩) (by assumption) ?_
    rotate_left
    · intro w' hSw; obtain ⟨s0, s1, s2, s3, s4, s5⟩ := hSw; go_simp; (try with_reducible rfl)
    try simp only [Act.put, List.getElem_toArray, List.getElem_cons_succ, List.getElem_cons_zero, List.setIfInBounds_toArray, List.set_cons_zero, List.set_cons_succ]
    refine wpAnyH_take (i := 3) (v := ?_) rfl (by kernel_rfl) (by kernel_rfl) (by kernel_rfl) (fun _ _ _ h => h) (Or.inl ⟨by rfl, ?_⟩) (by assumption) ?_
    rotate_left
    · intro w' hSw; obtain ⟨s0, s1, s2, s3, s4, s5⟩ := hSw; go_simp; (try with_reducible rfl)
    try simp only [Act.put, List.getElem_toArray, List.getElem_cons_succ, List.getElem_cons_zero, List.setIfInBounds_toArray, List.set_cons_zero, List.set_cons_succ]
    refine wpAnyH_ready (rs := [2]) (by kernel_rfl) (by simp) ?_
    refine AllReadyH.cons rfl (fun K hK => ?_) AllReadyH.nil
    go_simp
    go_at_call 83
    refine (Hdrop.out _ (Keeps.refl [] W4).drew).mono ?_
    rintro e w7 ⟨v7, rfl, hB7, hk7⟩
    obtain ⟨a7, c7, b7, d7, rfl⟩ := hB7.form
    have p : (fun w' => w'.cell? ⟨w.heap.size, 0, none⟩ = some (.slice (some ⟨lb, lo, none⟩) L.length c) ∧ w'.cell? ⟨w.heap.size, 1, none⟩ = some (.int .i64 room) ∧ w'.cell? ⟨w.heap.size, 2, none⟩ = some (.slice b' (tryQ Q).length d') ∧ w'.cell? ⟨w6.heap.size + 1, 0, none⟩ = some (.string s) ∧ w'.cell? ⟨w6.heap.size + 1, 1, none⟩ = some (.string xs) ∧ w'.cell? ⟨w6.heap.size + 1, 2, none⟩ = some (.int .i64 xt)) w7 := ⟨(hk7.cell (w := W4.drew) l0 (by simp)).trans h0, (hk7.cell (w := W4.drew) l0 (by simp)).trans h1, (hk7.cell (w := W4.drew) l0 (by simp)).trans h2, (hk7.cell (w := W4.drew) lq (by simp)).trans e0, (hk7.cell (w := W4.drew) lq (by simp)).trans e1, (hk7.cell (w := W4.drew) lq (by simp)).trans e2⟩
    refine hK.out _ _ p (fun hS => ?_)
    clear hK K
    try simp only [Act.put, List.getElem_toArray, List.getElem_cons_succ, List.getElem_cons_zero, List.setIfInBounds_toArray, List.set_cons_zero, List.set_cons_succ]
    refine wpAnyH_ready (rs := [4]) (by kernel_rfl) (by simp) ?_
    refine AllReadyH.cons rfl (fun K hK => ?_) AllReadyH.nil
    go_simp
    go_at_call 81
    refine (Hset.out _ _ hB7).mono ?_
    rintro e w8 ⟨v8, rfl, hB8, hk8⟩
    obtain ⟨a8, c8, b8, d8, rfl⟩ := hB8.form
    have lq7 := hk7.lt (w := W4.drew) lq
    have l07 := hk7.lt (w := W4.drew) l0
    obtain ⟨p0, p1, p2, p3, p4, p5⟩ := p
    refine hK.out _ _ ⟨(hk8.cell l07 (by simp)).trans p0, (hk8.cell l07 (by simp)).trans p1, (hk8.cell l07 (by simp)).trans p2, (hk8.cell lq7 (by simp)).trans p3, (hk8.cell lq7 (by simp)).trans p4, (hk8.cell lq7 (by simp)).trans p5⟩ (fun hS => ?_)
    clear hK K hS p0 p1 p2 p3 p4 p5
    try simp only [Act.put, List.getElem_toArray, List.getElem_cons_succ, List.getElem_cons_zero, List.setIfInBounds_toArray, List.set_cons_zero, List.set_cons_succ]
    have r0 := hk8.at_ (hk7.at_ (w := W4.drew) hRk.out.1 (by simp)) (by simp)
    have r1 := hk8.at_ (hk7.at_ (w := W4.drew) hRk.out.2.1 (by simp)) (by simp)
    have hk08 := (hRk.out.2.2.drew.trans hk7).trans hk8
    clear c0 l0 h0 h1 h2 e0 e1 e2 lq lq7 l07 hk7 hk8 hB7 Hdrop Hset
    have c0 := cells_at r0
    have f0 := free_at r0
    have l0 := lt_of_at r0
    refine wpAnyH_done (by kernel_rfl) ?_ _
    refine lastQ_step rfl (fun K hK => ?_)
    go_simp
    refine hK _ _ ?_
    clear hK K
    obtain ⟨_, hRB6, hk6', kq⟩ := resD (Nat.le_refl w.heap.size) hB8 ⟨_, _, _, _, _, _, _, r0⟩ hk08
    have r1' := kq.at_ r1 (by simp)
    have r0' := heap_cell_same (i := 2) (heap_cell_same (i := 1) (heap_cell_same (i := 0) r0 (.slice a8 N.length c8)) (.int .i64 room)) (.slice b8 (tryQ Q).length d8)
    have Hfin := Lib.hid (resD (q := w.heap.size + 1) (by omega) hRB6 ⟨_, _, _, _, _, _, _, r1'⟩ hk6')
    clear c0 f0 l0
    have c0 := cells_at r0'
    have c1 := cells_at r1'
    have f1 := free_at r1'
    have l0 := lt_of_at r0'
    have l1 := lt_of_at r1'
    clear r0 r1 r0' r1' hk08 hB8 hRB6 hk6' kq hRk
    generalize (((w8.setCell ⟨w.heap.size, 0, none⟩ (.slice a8 N.length c8)).setCell ⟨w.heap.size, 1, none⟩ (.int .i64 room)).setCell ⟨w.heap.size, 2, none⟩ (.slice b8 (tryQ Q).length d8)) = W9 at c0 c1 f1 l0 l1 Hfin ⊢
    cases hw : tryWorks Q with
    | true =>
      go_wp2_with fail
      have hc := cells_at Hfin.out.1
      refine bodyPost_ret (v := .tuple #[.agg #[.slice a8 N.length c8, .int .i64 room, .slice b8 (tryQ Q).length d8], .int .i64 0]) ?_ rfl ?_
      · simp [results, Try.results69, go_sem, hc]
      · rw [HL1.out]; exact ⟨_, by simp [ioErr, hw], Hfin.out.2.1, Hfin.out.2.2.1⟩
    | false =>
      go_wp2_with fail
      have hc := cells_at Hfin.out.1
      refine bodyPost_ret (v := .tuple #[.agg #[.slice a8 N.length c8, .int .i64 room, .slice b8 (tryQ Q).length d8], .int .i64 8]) ?_ rfl ?_
      · simp [results, Try.results69, go_sem, hc]
      · rw [HL1.out]; exact ⟨_, by simp [ioErr, hw], Hfin.out.2.1, Hfin.out.2.2.1⟩

end Go.Proofs.Ythcdodjdlgeeoaa
