/-
  FetchParts: what is between two times, and a third one; walked.
  No condition: every input that can be read.
-/
import Derived.Test.YtgcfkhcogllgfaaGreatDoorTabPt
import Derived.Test.YtgcfkhcogllgfaaGreatDoorTabSame
import Derived.Test.YtgcfkhcogllgfaaGreatDoorSignsL
namespace Go.Proofs.YtgcfkhcogllgfaaGreatDoor
set_option maxRecDepth 100000
set_option maxHeartbeats 4000000
set_option linter.unusedSimpArgs false
open Go Go.RowKit Go.Conc
theorem parts_sum {A : TabT} (h : BlkOk A 0 1000) {fr m up : Int} (h1 : fr ≤ m) (h2 : m ≤ up) (L : List MatB) {T : TabT} (hT : GRel (mrg ((betT fr m A).filter (fitR L)) ((betT m up A).filter (fitR L))) T) : T = (betT fr up A).filter (fitR L) := by
 refine gRel_eq hT ?_
 have e : ∀ a b : Int, (betT a b A).filter (fitR L) = betT a b (A.filter (fitR L)) := fun a b => betT_filter a b A (fun l => L.all (fitsM l))
 rw [e, e, e]
 exact parts_rel h1 h2 (h.good.rows.filter _) (fun r hr => (h.good.smps r (List.mem_filter.1 hr).1).1)
theorem rowFew_few {A : TabT} (hl : A.length ≤ 40) (h : ∀ r ∈ A, RowFew r) : FewT A := ⟨by omega, fun r hr => ⟨(h r hr).2.1, (h r hr).2.2.2⟩⟩
theorem fetchParts_walk (w : World) (hv : LibVar w) (hsg : SignsAt w) (hX : XorVar w) (v : Value) (LO : List One14) (h : SliceArg 3 encO14 w v LO) (hpos : ∀ x ∈ LO, 0 ≤ x.1 ∧ 0 ≤ x.2.2 ∧ x.2.2 < 18446744073709551616) (fr md up : Int) (vm : Value) (MM : List MatB) (hm : MatsAt w vm MM) :
  Calls Tryz.prog 3 #[v, .int .i64 fr, .int .i64 md, .int .i64 up, vm] w fun e w' => e = .returned (.bool true) ∧ Keeps [] w w' := by
 have hok : BlkOk (tblL (LO.take 40)) 0 1000 := blkOk_tbl (by rw [List.length_take]; omega) (fun x hx => hpos x (List.mem_of_mem_take hx))
 have Hf := Lib.hid (And.intro h (And.intro (show ∀ x ∈ LO, 0 ≤ x.1 from fun x hx => (hpos x hx).1) (And.intro hv (And.intro hsg (And.intro hX hm)))))
 obtain ⟨av, cv, rfl, -, -⟩ := h
 obtain ⟨am, cm, rfl, -⟩ := hm.form
 clear hpos hv hsg hX hm
 go_enter Tryz.func3, Tryz.ntmps3
 go_wp2_with fail
 refine (table_spec w Hf.out.2.2.1 _ LO Hf.out.1 Hf.out.2.1).mono ?_
 rintro e w1 ⟨va, vb, rfl, hTa, hTb, k1⟩
 obtain ⟨A, hA⟩ : ∃ A, A = tblL (LO.take 40) := ⟨_, rfl⟩
 rw [← hA] at hTa hTb hok
 have H1 := Lib.hid (And.intro (hTa.base (B' := 0) (Nat.zero_le _)) (And.intro hok k1))
 obtain ⟨aa, ca, rfl⟩ := hTa.form
 obtain ⟨ab, cb, rfl⟩ := hTb.form
 have hA40 := hok.few.1
 clear hok hA hTa hTb k1
 go_wp2_with fail
 refine (few13_spec w1 _ MM (go1 H1.out.2.2 Hf.out.2.2.2.2.2)).mono ?_
 rintro e wM ⟨vma, vmb, L, rfl, hma, hmb, hchk, hL4, kM⟩
 have HM := Lib.hid (And.intro hma (And.intro (show ∀ m ∈ L, mayK m from fun m hm => chkB_may (hchk m hm)) (H1.out.2.2.trans kM)))
 obtain ⟨ma, mc, rfl, -⟩ := hma.form
 obtain ⟨mb2, mc2, rfl, -⟩ := hmb.form
 have H1 := Lib.hid (And.intro (H1.out.1.keep kM) H1.out.2.1)
 clear hma hmb hchk kM
 go_upto_region 3 with fail
 go_cut [42] from 31 to 42 (fun cc wc => cc = .bool (decide (md < fr) || decide (up < md)) ∧ Keeps [] w wc ∧ Keeps [] wM wc)
 case first =>
  go_wp2_with fail
  refine (awake17_spec wM (Hf.out.2.2.1.keep HM.out.2.2 (by simp)) (go1 HM.out.2.2 Hf.out.2.2.2.1) (Hf.out.2.2.2.2.1.same HM.out.2.2)).mono ?_
  rintro e w2 ⟨rfl, k2⟩
  have H2 := Lib.hid (And.intro (HM.out.2.2.trans k2) k2)
  clear k2
  by_cases h1 : md < fr
  ·have hd := Lib.hid (decide_eq_true h1)
   go_wp2_with fail
   go_meet
   case rel => exact ⟨by rw [hd.out]; rfl, H2.out⟩
  ·have hd := Lib.hid (decide_eq_false h1)
   by_cases h2 : up < md
   ·have hd2 := Lib.hid (decide_eq_true h2)
    go_wp2_with fail
    go_meet
    case rel => exact ⟨by rw [hd.out, hd2.out] <;> rfl, H2.out⟩
   ·have hd2 := Lib.hid (decide_eq_false h2)
    go_wp2_with fail
    go_meet
    case rel => exact ⟨by rw [hd.out, hd2.out] <;> rfl, H2.out⟩
 case rest =>
  obtain ⟨rfl, kc, kcM⟩ := hcut
  obtain ⟨w2, rfl⟩ : ∃ W : World, W = wc := ⟨_, rfl⟩
  have H2 := Lib.hid (And.intro kc (And.intro (H1.out.1.keep kcM) (go1 kcM HM.out.1)))
  clear kc kcM
  by_cases hc : md < fr ∨ up < md
  ·have HT := Lib.hid (show (decide (md < fr) || decide (up < md)) = true by rcases hc with h | h <;> simp [h])
   rw [HT.out]
   clear hc
   go_wp2_with fail
   refine (awake17_spec w2 (Hf.out.2.2.1.keep H2.out.1 (by simp)) (go1 H2.out.1 Hf.out.2.2.2.1) (Hf.out.2.2.2.2.1.same H2.out.1)).mono ?_
   rintro e w3 ⟨rfl, k3⟩
   have H3 := Lib.hid (H2.out.1.trans k3)
   clear k3
   go_wp2_with fail
   go_ret
   exact ⟨rfl, H3.out⟩
  ·have HT := Lib.hid (show (decide (md < fr) || decide (up < md)) = false by simp only [Bool.or_eq_false_iff, decide_eq_false_iff_not]; omega)
   have Hc := Lib.hid (show fr ≤ md ∧ md ≤ up by omega)
   rw [HT.out]
   clear hc
   go_wp2_with fail
   refine (whole_spec w2 (Hf.out.2.2.2.2.1.same H2.out.1) 0 _ A H2.out.2.1 H1.out.2 fr md _ L H2.out.2.2 HM.out.2.1).mono ?_
   rintro e w3 ⟨v3, rfl, hT3, k3⟩
   obtain ⟨a3, c3, rfl⟩ := hT3.form
   have H3 := Lib.hid (And.intro (H2.out.1.trans k3) (And.intro (H2.out.2.1.keep k3) (And.intro (go1 k3 H2.out.2.2) hT3)))
   have l3 := (bet_few H1.out.2 fr md L).2.2
   clear k3 hT3
   go_wp2_with fail
   refine (whole_spec w3 (Hf.out.2.2.2.2.1.same H3.out.1) 0 _ A H3.out.2.1 H1.out.2 md up _ L H3.out.2.2.1 HM.out.2.1).mono ?_
   rintro e w4 ⟨v4, rfl, hT4, k4⟩
   obtain ⟨a4, c4, rfl⟩ := hT4.form
   have H4 := Lib.hid (And.intro (H3.out.1.trans k4) (And.intro (H3.out.2.1.keep k4) (And.intro (go1 k4 H3.out.2.2.1) (And.intro (H3.out.2.2.2.keep k4) hT4))))
   have l4 := (bet_few H1.out.2 md up L).2.2
   clear k4 hT4
   go_wp2_with fail
   refine (whole_spec w4 (Hf.out.2.2.2.2.1.same H4.out.1) 0 _ A H4.out.2.1 H1.out.2 fr up _ L H4.out.2.2.1 HM.out.2.1).mono ?_
   rintro e w5 ⟨v5, rfl, hT5, k5⟩
   obtain ⟨a5, c5, rfl⟩ := hT5.form
   have H5 := Lib.hid (And.intro (H4.out.1.trans k5) (And.intro (H4.out.2.2.2.1.keep k5) (And.intro (H4.out.2.2.2.2.keep k5) hT5)))
   have l5 := (bet_few H1.out.2 fr up L).2.2
   clear k5 hT5
   go_wp2_with fail
   have k6 : Keeps [] w5 (w5.alloc (.cells #[.slice a3 ((betT fr md A).filter (fitR L)).length c3, .slice a4 ((betT md up A).filter (fitR L)).length c4] 24)) := (Keeps.refl [] w5).alloc _
   have n6 := heap_new w5 (.cells #[.slice a3 ((betT fr md A).filter (fitR L)).length c3, .slice a4 ((betT md up A).filter (fitR L)).length c4] 24)
   have c60 := (cells_at n6 0).trans (show _ = some _ from rfl)
   have c61 := (cells_at n6 1).trans (show _ = some _ from rfl)
   refine (tables2_spec _ w5.heap.size 2 0 _ _ _ _ c60 c61 (H5.out.2.1.keep k6) (H5.out.2.2.1.keep k6) (bet_few H1.out.2 fr md L).1 (bet_few H1.out.2 md up L).1 (bet_few H1.out.2 fr md L).2.1 (bet_few H1.out.2 md up L).2.1 (by omega) (by omega)).mono ?_
   rintro e w7 ⟨v7, T, rfl, hT7, hG, k7⟩
   obtain rfl := parts_sum H1.out.2 Hc.out.1 Hc.out.2 L hG
   have H7 := Lib.hid (And.intro (H5.out.1.trans (k6.trans k7)) (And.intro (hT7.base (B' := 0) (Nat.zero_le _)) (H5.out.2.2.2.keep (k6.trans k7))))
   clear hT7 hG k6 k7 n6 c60 c61
   have HF := Lib.hid (rowFew_few l5 (bet_few H1.out.2 fr up L).2.1)
   go_wp2_with fail
   refine (told14_spec w7 _ _ H7.out.2.1 HF.out).mono ?_
   rintro e w8 ⟨v8, rfl, hT8, k8⟩
   have H8 := Lib.hid (And.intro (H7.out.1.trans k8) (And.intro (hT8.base (B' := 0) (Nat.zero_le _)) (H7.out.2.2.keep k8)))
   clear hT8 k8
   go_wp2_with fail
   refine (told14_spec w8 _ _ H8.out.2.2 HF.out).mono ?_
   rintro e w9 ⟨v9, rfl, hT9, k9⟩
   have H9 := Lib.hid (And.intro (H8.out.1.trans k9) (And.intro (H8.out.2.1.keep k9) (hT9.base (B' := 0) (Nat.zero_le _))))
   clear hT9 k9
   go_wp2_with fail
   refine (same14_spec w9 _ _ _ H9.out.2.1 H9.out.2.2 HF.out).mono ?_
   rintro e w10 ⟨rfl, k10⟩
   have H10 := Lib.hid (H9.out.1.trans k10)
   clear k10
   go_wp2_with fail
   go_ret
   exact ⟨rfl, H10.out⟩
theorem fetchParts_law (w : World) (hv : LibVar w) (hsg : SignsAt w) (hX : XorVar w) (v0 : Value) (h0 : O14W w v0) (fr : Int) (_w1 : (Lit.int .i64 fr).wf = true) (md : Int) (_w2 : (Lit.int .i64 md).wf = true) (up : Int) (_w3 : (Lit.int .i64 up).wf = true) (v4 : Value) (h4 : ∃ M : List MatB, MatsAt w v4 M) :
  Calls Tryz.prog 3 #[v0, .int .i64 fr, .int .i64 md, .int .i64 up, v4] w fun e w' => e = .returned (.bool true) ∧ Keeps [] w w' := by
 obtain ⟨L, hL, hb⟩ := h0
 obtain ⟨M, hM⟩ := h4
 exact fetchParts_walk w hv hsg hX v0 L hL hb fr md up v4 M hM
end Go.Proofs.YtgcfkhcogllgfaaGreatDoor
