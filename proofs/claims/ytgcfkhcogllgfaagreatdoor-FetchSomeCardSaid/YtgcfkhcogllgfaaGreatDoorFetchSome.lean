/-
  FetchSome: with one matcher more no row more; walked.
  No condition: every input that can be read.
-/
import Derived.Test.YtgcfkhcogllgfaaGreatDoorTabPt
import Derived.Test.YtgcfkhcogllgfaaGreatDoorTabSame
import Derived.Test.YtgcfkhcogllgfaaGreatDoorSignsL
namespace Go.Proofs.YtgcfkhcogllgfaaGreatDoor
set_option maxRecDepth 100000
set_option maxHeartbeats 4000000
set_option linter.unusedSimpArgs false
open Go Go.RowKit Go.Conc
theorem mats_shortF {w : World} (ao : Option Addr) (c : Nat) {L : List MatB} (h : L.length + 1 ≤ 1) : MatsAt w (.slice ao L.length c) L := by
 have : L = [] := List.eq_nil_of_length_eq_zero (by omega)
 subst this
 exact ⟨[], ⟨ao, c, rfl, by simp [maxLen], fun i hi => by simp at hi⟩, rfl, fun i hi => by simp at hi⟩
theorem mats_tailF {w : World} {b off n cap : Nat} {m : MatB} {L : List MatB} (h : MatsAt w (.slice (some ⟨b, off, none⟩) n cap) (m :: L)) (c : Nat) : MatsAt w (.slice (some ⟨b, off + 3, none⟩) L.length c) L := by
 obtain ⟨E, ⟨ao, cap', e, hl, hc⟩, h2, h3⟩ := h
 injection e with e1 e2 e3
 subst e1 e2 e3
 match E, h2 with
 | e0 :: E, h2 =>
  have hEL : E.length = L.length := by simpa using h2
  refine ⟨E, ⟨_, c, by rw [hEL], by simp at hl; omega, fun i hi => ?_⟩, hEL, fun i hi hi' => ?_⟩
  ·obtain ⟨b', off', e', hb', hcell⟩ := hc (i + 1) (by simpa using hi)
   injection e' with e'
   injection e' with e1 e2 _
   subst e1 e2
   refine ⟨b, off + 3, rfl, hb', fun j hj => ?_⟩
   have := hcell j hj
   simp only [List.getElem_cons_succ] at this
   rw [← this]
   congr 2
   omega
  ·have := h3 (i + 1) (by simpa using hi) (by simpa using hi')
   simpa using this
theorem fit_more {m : MatB} {L : List MatB} {r : RowT} (h : fitR (m :: L) r = true) : fitR L r = true := by
 unfold fitR at h ⊢
 rw [List.all_cons, Bool.and_eq_true] at h
 exact h.2
theorem some_sum {A : TabT} (h : BlkOk A 0 1000) (m : MatB) (L : List MatB) {T : TabT} (hT : GRel (mrg (A.filter (fitR L)) (A.filter (fitR (m :: L)))) T) : T = A.filter (fitR L) :=
 gRel_eq hT (some_rel h.good.rows (fun r hr => (h.good.smps r hr).1) fun _ _ => fit_more)
theorem some_len (A : TabT) (m : MatB) (L : List MatB) : (A.filter (fitR (m :: L))).length ≤ (A.filter (fitR L)).length := by
 have e : A.filter (fitR (m :: L)) = (A.filter (fitR L)).filter (fitR (m :: L)) := by
  rw [List.filter_filter]
  refine List.filter_congr fun r _ => ?_
  rcases h : fitR (m :: L) r with _ | _
  ·rfl
  ·rw [fit_more h]; rfl
 rw [e]
 exact List.length_filter_le _ _
theorem bet_allS {A : TabT} (h : BlkOk A 0 1000) : betT 0 1000 A = A := by
 have h1 : (A.map fun r => (r.1, betS 0 1000 r.2)) = A := by
  conv => rhs; rw [← List.map_id A]
  refine List.map_congr_left fun r hr => ?_
  have h2 : betS 0 1000 r.2 = r.2 := by
   unfold betS
   rw [List.filter_eq_self]
   intro s hs
   have := (h.vals r hr).2 s hs
   rw [decide_eq_true_eq]
   omega
  rw [h2]
  rfl
 unfold betT
 rw [h1, List.filter_eq_self]
 intro r hr
 have := (h.good.smps r hr).2
 simpa using this
theorem some_all {A : TabT} (h : BlkOk A 0 1000) (L : List MatB) : (betT 0 1000 A).filter (fitR L) = A.filter (fitR L) := by rw [bet_allS h]
theorem fit_few {A : TabT} (h : BlkOk A 0 1000) (L : List MatB) : RisesT (A.filter (fitR L)) ∧ (∀ r ∈ A.filter (fitR L), RowFew r) ∧ (A.filter (fitR L)).length ≤ 40 := by
 have h1 := bet_few h 0 1000 L
 rwa [bet_allS h] at h1
theorem fewT_of {A : TabT} (hl : A.length ≤ 40) (h : ∀ r ∈ A, RowFew r) : FewT A := ⟨by omega, fun r hr => ⟨(h r hr).2.1, (h r hr).2.2.2⟩⟩
theorem fetchSome_walk (w : World) (hv : LibVar w) (hsg : SignsAt w) (hX : XorVar w) (v : Value) (LO : List One14) (h : SliceArg 3 encO14 w v LO) (hpos : ∀ x ∈ LO, 0 ≤ x.1 ∧ 0 ≤ x.2.2 ∧ x.2.2 < 18446744073709551616) (vm : Value) (MM : List MatB) (hm : MatsAt w vm MM) :
  Calls Tryz.prog 4 #[v, vm] w fun e w' => e = .returned (.bool true) ∧ Keeps [] w w' := by
 have hok : BlkOk (tblL (LO.take 40)) 0 1000 := blkOk_tbl (by rw [List.length_take]; omega) (fun x hx => hpos x (List.mem_of_mem_take hx))
 have Hf := Lib.hid (And.intro h (And.intro (show ∀ x ∈ LO, 0 ≤ x.1 from fun x hx => (hpos x hx).1) (And.intro hv (And.intro hsg (And.intro hX hm)))))
 obtain ⟨av, cv, rfl, -, -⟩ := h
 obtain ⟨am, cm, rfl, -⟩ := hm.form
 clear hpos hv hsg hX hm
 go_enter Tryz.func4, Tryz.ntmps4
 go_wp2_with fail
 refine (table_spec w Hf.out.2.2.1 _ LO Hf.out.1 Hf.out.2.1).mono ?_
 rintro e w1 ⟨va, vb, rfl, hTa, hTb, k1⟩
 obtain ⟨A, hA⟩ : ∃ A, A = tblL (LO.take 40) := ⟨_, rfl⟩
 rw [← hA] at hTa hTb hok
 have H1 := Lib.hid (And.intro (hTa.base (B' := 0) (Nat.zero_le _)) (And.intro hok k1))
 obtain ⟨aa, ca, rfl⟩ := hTa.form
 obtain ⟨ab, cb, rfl⟩ := hTb.form
 have hA40 := hok.few.1
 clear hok hA hTa hTb k1
 go_wp2_with fail
 refine (few13R_spec w1 _ MM (go1 H1.out.2.2 Hf.out.2.2.2.2.2)).mono ?_
 rintro e wM ⟨vma, vmb, L, rfl, hma, hmb, hchk, hL4, kM⟩
 have HM := Lib.hid (And.intro hma.mats (And.intro (show ∀ m ∈ L, mayK m from fun m hm => chkB_may (hchk m hm)) (And.intro (H1.out.2.2.trans kM) (H1.out.1.keep kM))))
 obtain ⟨ma, mc, rfl, hlc, hcm, hab⟩ := hma.formR
 obtain ⟨mb2, mc2, rfl, -⟩ := hmb.form
 unfold maxLen at hcm
 clear hma hmb hchk kM
 go_wp2_with fail
 refine (awake17_spec wM (Hf.out.2.2.1.keep HM.out.2.2.1 (by simp)) (go1 HM.out.2.2.1 Hf.out.2.2.2.1) (Hf.out.2.2.2.2.1.same HM.out.2.2.1)).mono ?_
 rintro e w2 ⟨rfl, k2⟩
 have H2 := Lib.hid (And.intro (HM.out.2.2.1.trans k2) (And.intro (go1 k2 HM.out.1) (HM.out.2.2.2.keep k2)))
 clear k2
 cases L with
 | nil =>
  clear hab hlc
  go_wp2_with fail
  refine (awake17_spec w2 (Hf.out.2.2.1.keep H2.out.1 (by simp)) (go1 H2.out.1 Hf.out.2.2.2.1) (Hf.out.2.2.2.2.1.same H2.out.1)).mono ?_
  rintro e w3 ⟨rfl, k3⟩
  have H3 := Lib.hid (H2.out.1.trans k3)
  clear k3
  go_wp2_with fail
  go_ret
  exact ⟨rfl, H3.out⟩
 | cons m L =>
  obtain ⟨bm, rfl⟩ := hab (by simp)
  have hl0 : ((((m :: L).length : Nat) : Int) == 0) = false := by rw [beq_eq_false_iff_ne]; simp; omega
  have hl1 : ¬ (((m :: L).length : Nat) : Int) = 0 := by simp; omega
  simp only [List.length_cons] at hlc hl0 hl1
  clear hab
  have Ht := Lib.hid (mats_tailF H2.out.2.1)
  have hways : mc = 1 ∨ ¬ mc = 1 := by omega
  have hLn : mc = 1 → L = [] := fun e => List.eq_nil_of_length_eq_zero (by omega)
  go_upto_region 5 with fail
  go_cut [9, 10] from 31 to 37 (fun c9 c10 wc => c10 = .bool true ∧ TabAt 76 91 0 wc c9 (A.filter (fitR L)) ∧ Keeps [] w2 wc)
  case first =>
   rcases hways with rfl | hca
   ·obtain rfl := hLn rfl
    clear hLn
    go_wp2_with fail
    refine (whole_spec w2 (Hf.out.2.2.2.2.1.same H2.out.1) 0 _ A H2.out.2.2 H1.out.2.1 0 1000 _ [] (mats_shortF (L := []) _ _ (by decide)) (fun y hy => by cases hy)).mono ?_
    rintro e w3 ⟨v3, rfl, hT3, k3⟩
    have H3 := Lib.hid (And.intro (some_all H1.out.2.1 [] ▸ hT3) k3)
    obtain ⟨a3, c3, rfl⟩ := hT3.form
    clear hT3 k3
    go_wp2_with fail
    go_meet
    case rel => exact ⟨rfl, H3.out⟩
   ·clear hLn
    go_wp2_with fail
    refine (whole_spec w2 (Hf.out.2.2.2.2.1.same H2.out.1) 0 _ A H2.out.2.2 H1.out.2.1 0 1000 _ L (by simpa using Ht.out _) (fun y hy => HM.out.2.1 y (List.mem_cons_of_mem _ hy))).mono ?_
    rintro e w3 ⟨v3, rfl, hT3, k3⟩
    have H3 := Lib.hid (And.intro (some_all H1.out.2.1 L ▸ hT3) k3)
    obtain ⟨a3, c3, rfl⟩ := hT3.form
    clear hT3 k3
    go_wp2_with fail
    go_meet
    case rel => exact ⟨rfl, H3.out⟩
  case rest =>
   obtain ⟨rfl, hT3, k3⟩ := hcut
   obtain ⟨w3, rfl⟩ : ∃ W : World, W = wc := ⟨_, rfl⟩
   have H3 := Lib.hid (And.intro hT3 (And.intro (H2.out.1.trans k3) (And.intro (go1 k3 H2.out.2.1) (H2.out.2.2.keep k3))))
   obtain ⟨a3, c3, rfl⟩ := hT3.form
   clear hT3 k3 hways hLn
   have HX := Lib.hid (And.intro (fit_few H1.out.2.1 L) (fit_few H1.out.2.1 (m :: L)))
   have HE := Lib.hid (And.intro (fun T => @some_sum A H1.out.2.1 m L T) (some_all H1.out.2.1 (m :: L)))
   have hle := some_len A m L
   have l3 := (fit_few H1.out.2.1 L).2.2
   obtain ⟨TA, hTA⟩ : ∃ TA, TA = A.filter (fitR L) := ⟨_, rfl⟩
   obtain ⟨TB, hTB⟩ : ∃ TB, TB = A.filter (fitR (m :: L)) := ⟨_, rfl⟩
   have HG := Lib.hid (show GoodT TB by rw [hTB]; exact ⟨H1.out.2.1.good.rows.filter _, fun r hr => H1.out.2.1.good.smps r (List.mem_filter.1 hr).1⟩)
   rw [← hTA, ← hTB] at HX HE
   rw [← hTA, ← hTB] at hle
   rw [← hTA] at H3 l3 ⊢
   clear hTA hTB
   go_wp2_with fail
   refine (whole_spec w3 (Hf.out.2.2.2.2.1.same H3.out.2.1) 0 _ A H3.out.2.2.2 H1.out.2.1 0 1000 _ (m :: L) (by simpa using H3.out.2.2.1) HM.out.2.1).mono ?_
   rintro e w4 ⟨v4, rfl, hT4, k4⟩
   rw [HE.out.2] at hT4
   obtain ⟨a4, c4, rfl⟩ := hT4.form
   have H4 := Lib.hid (And.intro (H3.out.1.keep k4) (And.intro hT4 (H3.out.2.1.trans k4)))
   have hle' : (TB.length : Int) ≤ (TA.length : Int) := by omega
   clear hT4 k4
   go_wp2_with fail
   refine (good_spec w4 0 _ TB H4.out.2.1 HG.out (fewT_of (by omega) HX.out.2.2.1)).mono ?_
   rintro e w5 ⟨rfl, k5⟩
   have H5 := Lib.hid (And.intro (H4.out.1.keep k5) (And.intro (H4.out.2.1.keep k5) (H4.out.2.2.trans k5)))
   clear k5
   go_wp2_with fail
   have k6 : Keeps [] w5 (w5.alloc (.cells #[.slice a3 TA.length c3, .slice a4 TB.length c4] 24)) := (Keeps.refl [] w5).alloc _
   have n6 := heap_new w5 (.cells #[.slice a3 TA.length c3, .slice a4 TB.length c4] 24)
   have c60 := (cells_at n6 0).trans (show _ = some _ from rfl)
   have c61 := (cells_at n6 1).trans (show _ = some _ from rfl)
   refine (tables2_spec _ w5.heap.size 2 0 _ _ _ _ c60 c61 (H5.out.1.keep k6) (H5.out.2.1.keep k6) HX.out.1.1 HX.out.2.1 HX.out.1.2.1 HX.out.2.2.1 (by omega) (by omega)).mono ?_
   rintro e w7 ⟨v7, T, rfl, hT7, hG, k7⟩
   obtain rfl := HE.out.1 T hG
   have H7 := Lib.hid (And.intro (H5.out.2.2.trans (k6.trans k7)) (And.intro (hT7.base (B' := 0) (Nat.zero_le _)) (H5.out.1.keep (k6.trans k7))))
   clear hT7 hG k6 k7 n6 c60 c61
   have HF := Lib.hid (fewT_of l3 HX.out.1.2.1)
   go_wp2_with fail
   refine (told14_spec w7 _ _ H7.out.2.1 HF.out).mono ?_
   rintro e w8 ⟨v8, rfl, hT8, k8⟩
   have H8 := Lib.hid (And.intro (H7.out.1.trans k8) (And.intro (hT8.base (B' := 0) (Nat.zero_le _)) (H7.out.2.2.keep k8)))
   clear hT8 k8
   go_wp2_with fail
   refine (told14_spec w8 _ _ H8.out.2.2 HF.out).mono ?_
   rintro e w9 ⟨v9, rfl, hT9, k9⟩
   have H9 := Lib.hid (And.intro (H8.out.1.trans k9) (And.intro (H8.out.2.1.keep k9) (hT9.base (B' := 0) (Nat.zero_le _))))
   clear hT9 k9
   go_wp2_with fail
   refine (same14_spec w9 _ _ _ H9.out.2.1 H9.out.2.2 HF.out).mono ?_
   rintro e w10 ⟨rfl, k10⟩
   have H10 := Lib.hid (H9.out.1.trans k10)
   clear k10
   go_wp2_with fail
   go_ret
   exact ⟨rfl, H10.out⟩
theorem fetchSome_law (w : World) (hv : LibVar w) (hsg : SignsAt w) (hX : XorVar w) (v0 : Value) (h0 : O14W w v0) (v1 : Value) (h1 : ∃ M : List MatB, MatsAt w v1 M) :
  Calls Tryz.prog 4 #[v0, v1] w fun e w' => e = .returned (.bool true) ∧ Keeps [] w w' := by
 obtain ⟨L, hL, hb⟩ := h0
 obtain ⟨M, hM⟩ := h1
 exact fetchSome_walk w hv hsg hX v0 L hL hb v1 M hM
end Go.Proofs.YtgcfkhcogllgfaaGreatDoor
