/-
  PostingLaws answers true, and leaves all memory that was there as it was.
  The library's variable internal/bytealg.MaxLen holds some number.
-/
import Derived.Test.YtpopeeiiblhbeaaDoorAwake12
namespace Go.Proofs.YtpopeeiiblhbeaaDoor
open Go Go.RowKit

theorem listsOf3 (a b c : List Int) : listsOf [a, b, c] = [listOf a, listOf b, listOf c] := rfl

theorem mkRows2 {W : World} {u v : Value} {l m : List Int} (h : Ints 0 W u l) (h2 : Ints 0 W v m) : Rows2 0 (W.alloc (.cells #[u, v] 37)) (.slice (some ⟨W.heap.size, 0, none⟩) 2 2) [l, m] :=
  rows2_new2 (heap_new W _) (Nat.zero_le _) (h.keep ((Keeps.refl [] W).alloc _) (by simp)) (h2.keep ((Keeps.refl [] W).alloc _) (by simp))

theorem mkRows3 {W : World} {u v x : Value} {l m k : List Int} (h : Ints 0 W u l) (h2 : Ints 0 W v m) (h3 : Ints 0 W x k) : Rows2 0 (W.alloc (.cells #[u, v, x] 37)) (.slice (some ⟨W.heap.size, 0, none⟩) 3 3) [l, m, k] :=
  rows2_new3 (heap_new W _) (Nat.zero_le _) (h.keep ((Keeps.refl [] W).alloc _) (by simp)) (h2.keep ((Keeps.refl [] W).alloc _) (by simp)) (h3.keep ((Keeps.refl [] W).alloc _) (by simp))

theorem rows2_nil (B : Nat) (w : World) : Rows2 B w (.slice none 0 0) [] := ⟨[], sliceFrom_nil B 1 _ w, rfl, fun i h => by simp at h⟩

theorem flat_le {LL : List (List Int)} {n m : Nat} (h : ∀ l ∈ LL, l.length ≤ n) (hl : LL.length ≤ m) : LL.flatten.length ≤ m * n := by
  have : LL.flatten.length ≤ LL.length * n := by
    clear hl
    induction LL with
    | nil => simp
    | cons x LL ih =>
      have h1 := h x (by simp)
      have h2 := ih (fun l hm => h l (List.mem_cons_of_mem _ hm))
      rw [List.flatten_cons, List.length_append, List.length_cons, Nat.add_mul]
      omega
  exact Nat.le_trans this (Nat.mul_le_mul_right _ hl)

set_option linter.unusedSimpArgs false in
set_option maxRecDepth 100000 in
set_option maxHeartbeats 1000000 in
theorem postingLaws_walk (w : World) (hv : LibVar w) (va : Value) (a : List Int) (ha : Ints 0 w va a) (vb : Value) (b : List Int) (hb : Ints 0 w vb b) (vc : Value) (c : List Int) (hc : Ints 0 w vc c) :
    Calls Tryd.prog 5 #[va, vb, vc] w fun e w' => e = .returned (.bool true) ∧ Keeps [] w w' := by
  have k0 : Keeps [] w (w.alloc (.cells #[va, vb, vc] 32)) := (Keeps.refl [] w).alloc _
  have n0 := heap_new w (.cells #[va, vb, vc] 32)
  have hR := rows2_new3 n0 (Nat.zero_le _) (go1 k0 ha) (go1 k0 hb) (go1 k0 hc)
  have Hv := Lib.hid (And.intro (go1 k0 hv) (And.intro hR k0))
  obtain ⟨aa, ca, rfl, -⟩ := ha
  obtain ⟨ab, cb, rfl, -⟩ := hb
  obtain ⟨ac, cc, rfl, -⟩ := hc
  clear k0 n0 hR hv
  go_enter Tryd.func5, Tryd.ntmps5
  go_wp2_with fail
  refine (lists_spec 0 _ _ [a, b, c] Hv.out.2.1).mono ?_
  rintro e w1 ⟨vo, vt, rfl, hro, hrt, hk1⟩
  rw [listsOf3] at hro
  have hx := listOf_rises a
  have hy := listOf_rises b
  have hz := listOf_rises c
  have lx := listOf_len a
  have ly := listOf_len b
  have lz := listOf_len c
  have HX := Lib.hid (And.intro hx (And.intro hy (And.intro hz (filter_rises (fun n => !decide (n ∈ listOf a)) hy : Rises (lessL (listOf b) (listOf a))))))
  generalize listOf a = X at hro HX lx
  generalize listOf b = Y at hro HX ly
  generalize listOf c = Z at hro HX lz
  obtain ⟨ao, co, rfl, -, hco, -⟩ := hro.form
  obtain ⟨g, o0, ux, e0, hg, d0, hux⟩ := hro.at_ 0 (by simp)
  subst e0
  obtain ⟨g', o', uy, e1, -, d1, huy⟩ := hro.at_ 1 (by simp)
  injection e1 with e1
  injection e1 with e1 e2 _
  subst e1 e2
  obtain ⟨g', o', uz, e1, -, d2, huz⟩ := hro.at_ 2 (by simp)
  injection e1 with e1
  injection e1 with e1 e2 _
  subst e1 e2
  simp only [List.getElem_cons_zero, List.getElem_cons_succ] at hux huy huz
  have hrt2 := hrt.form
  obtain ⟨at_, ct, rfl, -⟩ := hrt2
  have H1 := Lib.hid (And.intro (hux.low (Nat.zero_le _)) (And.intro (huy.low (Nat.zero_le _)) (And.intro (huz.low (Nat.zero_le _)) (And.intro (go1 hk1 Hv.out.1) (Hv.out.2.2.trans hk1)))))
  simp only [List.length_cons, List.length_nil, Nat.zero_add, Nat.reduceAdd] at hco
  clear hro hrt hk1 hux huy huz hx hy hz
  rw [Nat.add_zero] at d0
  obtain ⟨au, cu, hu, -⟩ := H1.out.1
  obtain ⟨ay, cy, hyu, -⟩ := H1.out.2.1
  obtain ⟨az, cz, hzu, -⟩ := H1.out.2.2.1
  subst hu hyu hzu
  have Hll := Lib.hid (And.intro (And.intro (lessL_len X Y) (lessL_len Y X)) (And.intro (meetL_len X Y) (anyL_len [Y, Z])))
  go_wp2_with fail
  go_quiet (fail)
  have H2 := Lib.hid (go1 ((Keeps.refl [] w1).drewN nq) H1.out)
  clear d0 d1 d2 hg H1 Hv
  generalize w1.drewN nq = W2 at H2 ⊢
  have hb1 : bothP [X, Y, Z] = bothL [X, Y, Z] := bothP_eq (by
    intro l hl
    simp only [List.mem_cons, List.not_mem_nil, or_false] at hl
    rcases hl with rfl | rfl | rfl
    · exact HX.out.1
    · exact HX.out.2.1
    · exact HX.out.2.2.1)
  have hb2 : bothP [Z, X, Y] = bothL [X, Y, Z] := by
    rw [laws_both X Y Z]
    exact bothP_eq (by
      intro l hl
      simp only [List.mem_cons, List.not_mem_nil, or_false] at hl
      rcases hl with rfl | rfl | rfl
      · exact HX.out.2.2.1
      · exact HX.out.1
      · exact HX.out.2.1)
  have Hb := Lib.hid (And.intro hb1 hb2)
  clear hb1 hb2
  have l1 := Hll.out.1.1
  have l2 := Hll.out.1.2
  have l3 := Hll.out.2.1
  have l4 := Hll.out.2.2
  simp only [List.flatten_cons, List.flatten_nil, List.append_nil, List.length_append] at l4
  --STEPS
  go_wp2_with fail
  refine (both_spec 0 _ _ [X, Y] (mkRows2 H2.out.1 H2.out.2.1) (by
    intro l hl
    simp only [List.mem_cons, List.not_mem_nil, or_false] at hl
    rcases hl with rfl | rfl
    · exact HX.out.1
    · exact HX.out.2.1) (by
    intro l hl
    simp only [List.mem_cons, List.not_mem_nil, or_false] at hl
    rcases hl with rfl | rfl <;> omega) (Nat.zero_le _)).mono ?_
  rintro e w11 ⟨vb, rfl, ho1, hk1⟩
  rw [show bothP [X, Y] = meetL X Y from rfl] at ho1
  have ka1 := ((Keeps.refl [] _).alloc _).trans hk1
  have H3 := Lib.hid (go1 ka1 H2.out)
  clear H2
  have E0vb := Lib.hid (ho1.ints.low (Nat.zero_le _))
  obtain ⟨avb, cvb, rfl, -, -, -⟩ := row_slice ho1
  clear ho1 hk1 ka1
  go_wp2_with fail
  refine (less_spec 0 _ _ _ X Y H3.out.1 H3.out.2.1 HX.out.1 HX.out.2.1 (by omega) (by omega)).mono ?_
  rintro e w12 ⟨vl, rfl, ho2, hk2⟩
  have H4 := Lib.hid (go1 hk2 H3.out)
  have E4vb := Lib.hid (go1 hk2 E0vb.out)
  clear E0vb
  clear H3
  have E0vl := Lib.hid (ho2.ints.low (Nat.zero_le _))
  obtain ⟨avl, cvl, rfl, -, -, -⟩ := row_slice ho2
  clear ho2 hk2
  go_wp2_with fail
  refine (any_spec 0 _ _ [meetL X Y, lessL X Y] (mkRows2 E4vb.out E0vl.out) (by simp only [List.flatten_cons, List.flatten_nil, List.append_nil, List.length_append]; omega)).mono ?_
  rintro e w13 ⟨vw, rfl, ho3, hk3⟩
  rw [laws_whole HX.out.1] at ho3
  have ka3 := ((Keeps.refl [] _).alloc _).trans hk3
  have H5 := Lib.hid (go1 ka3 H4.out)
  have E5vb := Lib.hid (go1 ka3 E4vb.out)
  clear E4vb
  have E5vl := Lib.hid (go1 ka3 E0vl.out)
  clear E0vl
  clear H4
  have E0vw := Lib.hid (ho3.ints.low (Nat.zero_le _))
  obtain ⟨avw, cvw, rfl, -, -, -⟩ := row_slice ho3
  clear ho3 hk3 ka3
  go_wp2_with fail
  refine (awake12_spec _ H5.out.2.2.2.1).mono ?_
  rintro e wA ⟨rfl, hkA⟩
  have H6 := Lib.hid (go1 hkA H5.out)
  have E6vw := Lib.hid (go1 hkA E0vw.out)
  clear E0vw
  clear H5
  clear hkA
  go_wp2_with fail
  refine (same_spec 0 0 _ _ _ _ E6vw.out H6.out.1).mono ?_
  rintro e w14 ⟨rfl, hk4⟩
  have H7 := Lib.hid (go1 hk4 H6.out)
  have E7vw := Lib.hid (go1 hk4 E6vw.out)
  clear E6vw
  clear H6
  clear hk4
  go_wp2_with fail
  refine (both_spec 0 _ _ [X, Y, Z] (mkRows3 H7.out.1 H7.out.2.1 H7.out.2.2.1) (by
    intro l hl
    simp only [List.mem_cons, List.not_mem_nil, or_false] at hl
    rcases hl with rfl | rfl | rfl
    · exact HX.out.1
    · exact HX.out.2.1
    · exact HX.out.2.2.1) (by
    intro l hl
    simp only [List.mem_cons, List.not_mem_nil, or_false] at hl
    rcases hl with rfl | rfl | rfl <;> omega) (Nat.zero_le _)).mono ?_
  rintro e w15 ⟨vp, rfl, ho5, hk5⟩
  rw [Hb.out.1] at ho5
  have ka5 := ((Keeps.refl [] _).alloc _).trans hk5
  have H8 := Lib.hid (go1 ka5 H7.out)
  have E8vw := Lib.hid (go1 ka5 E7vw.out)
  clear E7vw
  clear H7
  have E0vp := Lib.hid (ho5.ints.low (Nat.zero_le _))
  obtain ⟨avp, cvp, rfl, -, -, -⟩ := row_slice ho5
  clear ho5 hk5 ka5
  go_wp2_with fail
  refine (both_spec 0 _ _ [Z, X, Y] (mkRows3 H8.out.2.2.1 H8.out.1 H8.out.2.1) (by
    intro l hl
    simp only [List.mem_cons, List.not_mem_nil, or_false] at hl
    rcases hl with rfl | rfl | rfl
    · exact HX.out.2.2.1
    · exact HX.out.1
    · exact HX.out.2.1) (by
    intro l hl
    simp only [List.mem_cons, List.not_mem_nil, or_false] at hl
    rcases hl with rfl | rfl | rfl <;> omega) (Nat.zero_le _)).mono ?_
  rintro e w16 ⟨vq, rfl, ho6, hk6⟩
  rw [Hb.out.2] at ho6
  have ka6 := ((Keeps.refl [] _).alloc _).trans hk6
  have H9 := Lib.hid (go1 ka6 H8.out)
  have E9vw := Lib.hid (go1 ka6 E8vw.out)
  clear E8vw
  have E9vp := Lib.hid (go1 ka6 E0vp.out)
  clear E0vp
  clear H8
  have E0vq := Lib.hid (ho6.ints.low (Nat.zero_le _))
  obtain ⟨avq, cvq, rfl, -, -, -⟩ := row_slice ho6
  clear ho6 hk6 ka6
  go_wp2_with fail
  refine (same_spec 0 0 _ _ _ _ E9vp.out E0vq.out).mono ?_
  rintro e w17 ⟨rfl, hk7⟩
  have H10 := Lib.hid (go1 hk7 H9.out)
  have E10vw := Lib.hid (go1 hk7 E9vw.out)
  clear E9vw
  have E10vp := Lib.hid (go1 hk7 E9vp.out)
  clear E9vp
  have E10vq := Lib.hid (go1 hk7 E0vq.out)
  clear E0vq
  clear H9
  clear hk7
  go_wp2_with fail
  refine (any_spec 0 _ _ [X, Y, Z] (mkRows3 H10.out.1 H10.out.2.1 H10.out.2.2.1) (by simp only [List.flatten_cons, List.flatten_nil, List.append_nil, List.length_append]; omega)).mono ?_
  rintro e w18 ⟨vr, rfl, ho8, hk8⟩
  have ka8 := ((Keeps.refl [] _).alloc _).trans hk8
  have H11 := Lib.hid (go1 ka8 H10.out)
  have E11vw := Lib.hid (go1 ka8 E10vw.out)
  clear E10vw
  have E11vp := Lib.hid (go1 ka8 E10vp.out)
  clear E10vp
  have E11vq := Lib.hid (go1 ka8 E10vq.out)
  clear E10vq
  clear H10
  have E0vr := Lib.hid (ho8.ints.low (Nat.zero_le _))
  obtain ⟨avr, cvr, rfl, -, -, -⟩ := row_slice ho8
  clear ho8 hk8 ka8
  go_wp2_with fail
  refine (any_spec 0 _ _ [Y, Z] (mkRows2 H11.out.2.1 H11.out.2.2.1) (by simp only [List.flatten_cons, List.flatten_nil, List.append_nil, List.length_append]; omega)).mono ?_
  rintro e w19 ⟨vs, rfl, ho9, hk9⟩
  have ka9 := ((Keeps.refl [] _).alloc _).trans hk9
  have H12 := Lib.hid (go1 ka9 H11.out)
  have E12vw := Lib.hid (go1 ka9 E11vw.out)
  clear E11vw
  have E12vp := Lib.hid (go1 ka9 E11vp.out)
  clear E11vp
  have E12vq := Lib.hid (go1 ka9 E11vq.out)
  clear E11vq
  have E12vr := Lib.hid (go1 ka9 E0vr.out)
  clear E0vr
  clear H11
  have E0vs := Lib.hid (ho9.ints.low (Nat.zero_le _))
  obtain ⟨avs, cvs, rfl, -, -, -⟩ := row_slice ho9
  clear ho9 hk9 ka9
  go_wp2_with fail
  refine (any_spec 0 _ _ [anyL [Y, Z], X] (mkRows2 E0vs.out H12.out.1) (by simp only [List.flatten_cons, List.flatten_nil, List.append_nil, List.length_append]; omega)).mono ?_
  rintro e w20 ⟨vt2, rfl, ho10, hk10⟩
  rw [← laws_any] at ho10
  have ka10 := ((Keeps.refl [] _).alloc _).trans hk10
  have H13 := Lib.hid (go1 ka10 H12.out)
  have E13vw := Lib.hid (go1 ka10 E12vw.out)
  clear E12vw
  have E13vp := Lib.hid (go1 ka10 E12vp.out)
  clear E12vp
  have E13vq := Lib.hid (go1 ka10 E12vq.out)
  clear E12vq
  have E13vr := Lib.hid (go1 ka10 E12vr.out)
  clear E12vr
  have E13vs := Lib.hid (go1 ka10 E0vs.out)
  clear E0vs
  clear H12
  have E0vt2 := Lib.hid (ho10.ints.low (Nat.zero_le _))
  obtain ⟨avt2, cvt2, rfl, -, -, -⟩ := row_slice ho10
  clear ho10 hk10 ka10
  go_wp2_with fail
  refine (same_spec 0 0 _ _ _ _ E13vr.out E0vt2.out).mono ?_
  rintro e w21 ⟨rfl, hk11⟩
  have H14 := Lib.hid (go1 hk11 H13.out)
  have E14vw := Lib.hid (go1 hk11 E13vw.out)
  clear E13vw
  have E14vp := Lib.hid (go1 hk11 E13vp.out)
  clear E13vp
  have E14vq := Lib.hid (go1 hk11 E13vq.out)
  clear E13vq
  have E14vr := Lib.hid (go1 hk11 E13vr.out)
  clear E13vr
  have E14vs := Lib.hid (go1 hk11 E13vs.out)
  clear E13vs
  have E14vt2 := Lib.hid (go1 hk11 E0vt2.out)
  clear E0vt2
  clear H13
  clear hk11
  go_wp2_with fail
  refine (less_spec 0 _ _ _ Y X H14.out.2.1 H14.out.1 HX.out.2.1 HX.out.1 (by omega) (by omega)).mono ?_
  rintro e w22 ⟨vm, rfl, ho12, hk12⟩
  have H15 := Lib.hid (go1 hk12 H14.out)
  have E15vw := Lib.hid (go1 hk12 E14vw.out)
  clear E14vw
  have E15vp := Lib.hid (go1 hk12 E14vp.out)
  clear E14vp
  have E15vq := Lib.hid (go1 hk12 E14vq.out)
  clear E14vq
  have E15vr := Lib.hid (go1 hk12 E14vr.out)
  clear E14vr
  have E15vs := Lib.hid (go1 hk12 E14vs.out)
  clear E14vs
  have E15vt2 := Lib.hid (go1 hk12 E14vt2.out)
  clear E14vt2
  clear H14
  have E0vm := Lib.hid (ho12.ints.low (Nat.zero_le _))
  obtain ⟨avm, cvm, rfl, -, -, -⟩ := row_slice ho12
  clear ho12 hk12
  go_wp2_with fail
  refine (both_spec 0 _ _ [X, lessL Y X] (mkRows2 H15.out.1 E0vm.out) (by
    intro l hl
    simp only [List.mem_cons, List.not_mem_nil, or_false] at hl
    rcases hl with rfl | rfl
    · exact HX.out.1
    · exact HX.out.2.2.2) (by
    intro l hl
    simp only [List.mem_cons, List.not_mem_nil, or_false] at hl
    rcases hl with rfl | rfl <;> omega) (Nat.zero_le _)).mono ?_
  rintro e w23 ⟨vn, rfl, ho13, hk13⟩
  rw [show bothP [X, lessL Y X] = [] from laws_none X Y] at ho13
  have ka13 := ((Keeps.refl [] _).alloc _).trans hk13
  have H16 := Lib.hid (go1 ka13 H15.out)
  have E16vw := Lib.hid (go1 ka13 E15vw.out)
  clear E15vw
  have E16vp := Lib.hid (go1 ka13 E15vp.out)
  clear E15vp
  have E16vq := Lib.hid (go1 ka13 E15vq.out)
  clear E15vq
  have E16vr := Lib.hid (go1 ka13 E15vr.out)
  clear E15vr
  have E16vs := Lib.hid (go1 ka13 E15vs.out)
  clear E15vs
  have E16vt2 := Lib.hid (go1 ka13 E15vt2.out)
  clear E15vt2
  have E16vm := Lib.hid (go1 ka13 E0vm.out)
  clear E0vm
  clear H15
  have E0vn := Lib.hid (ho13.ints.low (Nat.zero_le _))
  obtain ⟨avn, cvn, rfl, -, -, -⟩ := row_slice ho13
  clear ho13 hk13 ka13
  go_wp2_with fail
  refine (both_spec 0 _ _ [] (rows2_nil 0 _) (fun _ h => by cases h) (fun _ h => by cases h) (Nat.zero_le _)).mono ?_
  rintro e w24 ⟨vx, rfl, ho14, hk14⟩
  have H17 := Lib.hid (go1 hk14 H16.out)
  have E17vw := Lib.hid (go1 hk14 E16vw.out)
  clear E16vw
  have E17vp := Lib.hid (go1 hk14 E16vp.out)
  clear E16vp
  have E17vq := Lib.hid (go1 hk14 E16vq.out)
  clear E16vq
  have E17vr := Lib.hid (go1 hk14 E16vr.out)
  clear E16vr
  have E17vs := Lib.hid (go1 hk14 E16vs.out)
  clear E16vs
  have E17vt2 := Lib.hid (go1 hk14 E16vt2.out)
  clear E16vt2
  have E17vm := Lib.hid (go1 hk14 E16vm.out)
  clear E16vm
  have E17vn := Lib.hid (go1 hk14 E0vn.out)
  clear E0vn
  clear H16
  have E0vx := Lib.hid (ho14.ints.low (Nat.zero_le _))
  obtain ⟨avx, cvx, rfl, -, -, -⟩ := row_slice ho14
  clear ho14 hk14
  go_wp2_with fail
  refine (any_spec 0 _ _ [] (rows2_nil 0 _) (by simp)).mono ?_
  rintro e w25 ⟨vy, rfl, ho15, hk15⟩
  have H18 := Lib.hid (go1 hk15 H17.out)
  have E18vw := Lib.hid (go1 hk15 E17vw.out)
  clear E17vw
  have E18vp := Lib.hid (go1 hk15 E17vp.out)
  clear E17vp
  have E18vq := Lib.hid (go1 hk15 E17vq.out)
  clear E17vq
  have E18vr := Lib.hid (go1 hk15 E17vr.out)
  clear E17vr
  have E18vs := Lib.hid (go1 hk15 E17vs.out)
  clear E17vs
  have E18vt2 := Lib.hid (go1 hk15 E17vt2.out)
  clear E17vt2
  have E18vm := Lib.hid (go1 hk15 E17vm.out)
  clear E17vm
  have E18vn := Lib.hid (go1 hk15 E17vn.out)
  clear E17vn
  have E18vx := Lib.hid (go1 hk15 E0vx.out)
  clear E0vx
  clear H17
  have E0vy := Lib.hid (ho15.ints.low (Nat.zero_le _))
  obtain ⟨avy, cvy, rfl, -, -, -⟩ := row_slice ho15
  clear ho15 hk15
  go_wp2_with fail
  go_ret
  exact ⟨rfl, H18.out.2.2.2.2⟩
end Go.Proofs.YtpopeeiiblhbeaaDoor
