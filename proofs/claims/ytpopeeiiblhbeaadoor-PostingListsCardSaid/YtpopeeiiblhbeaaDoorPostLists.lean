/-
  Lists of package barographlaw12: at most five lists, each of at most twenty numbers, rising, as the program's and as the document's. Same: of the same list 0.
  No condition beyond those that each theorem states.
-/
import Derived.Test.YtpopeeiiblhbeaaDoorPostKept
namespace Go.Proofs.YtpopeeiiblhbeaaDoor
open Go Go.RowKit

def SameRel (w : World) (l : List Int) (gk : Nat) (u13 : Value) (wr : World) : Prop := ∃ k, k ≤ l.length ∧ gk = l.length - k ∧ u13 = .int .i64 k ∧ Keeps [] w wr

set_option maxRecDepth 100000 in
set_option maxHeartbeats 1000000 in
theorem same_spec (B B' : Nat) (w : World) (va vb : Value) (l : List Int) (ha : Ints B w va l) (hb : Ints B' w vb l) :
    Calls Tryd.prog 16 #[va, vb] w fun e w' => e = .returned (.int .i64 0) ∧ Keeps [] w w' := by
  have Hf := Lib.hid (And.intro ha hb)
  obtain ⟨ao, cap, rfl, hl, -, -, -⟩ := ha
  obtain ⟨bo, cbp, rfl, -, -, -, -⟩ := hb
  unfold maxLen at hl
  go_enter Tryd.func16, Tryd.ntmps16
  go_wp2_with fail
  go_loopg [13] l.length (SameRel w l)
  case atStart => exact ⟨0, Nat.zero_le _, rfl, rfl, Keeps.refl [] w⟩
  case round =>
    obtain ⟨k, hk, hgk, rfl, hkw⟩ := hrel
    have Hg := Lib.hid hgk
    clear hgk
    by_cases hlt : k < l.length
    · obtain ⟨b1, of1, ea, hb1, d1⟩ := sf_at1 (Hf.out.1.keep hkw (by simp)) k hlt
      obtain ⟨b2, of2, eb, hb2, d2⟩ := sf_at1 (Hf.out.2.keep hkw (by simp)) k hlt
      subst ea eb
      have hlt' : (k : Int) < (l.length : Int) := by omega
      have Hk := Lib.hid hkw
      generalize l[k] = x at d1 d2
      clear hkw
      go_wp2_with fail
      go_quiet (fail)
      have Hk2 := Lib.hid (Hk.out.drewN nq)
      clear d1 d2 Hk
      generalize wr.drewN nq = W at Hk2 ⊢
      go_wp2_with fail
      go_roundg (l.length - (k + 1))
      case measure => have := Hg.out; omega
      case rel => exact ⟨k + 1, by omega, rfl, by go_num, Hk2.out⟩
    · have hkn : k = l.length := by omega
      subst hkn
      have Hk := Lib.hid hkw
      clear hkw
      go_wp2_with fail
      go_ret
      exact ⟨rfl, Hk.out⟩


theorem infoList : (Tryd.prog.info? 37).map (fun i => (i.zero, i.size, i.bytes)) = some (some (.slice none 0 0), 1, 24) := by kernel_rfl

theorem infoInts : (Tryd.prog.info? 32).map (fun i => (i.zero, i.size, i.bytes)) = some (some (.slice none 0 0), 1, 24) := by kernel_rfl

def listOf (l : List Int) : List Int := anyL [l.take 20]

def listsOf (LL : List (List Int)) : List (List Int) := (LL.take 5).map listOf

theorem listOf_len (l : List Int) : (listOf l).length ≤ 20 := by
  have := anyL_len [l.take 20]
  simp only [List.flatten_cons, List.flatten_nil, List.append_nil, List.length_take] at this
  unfold listOf
  omega

theorem listOf_rises (l : List Int) : Rises (listOf l) := anyL_rises _

def ListsRel (w : World) (LL : List (List Int)) (gk : Nat) (u4 u5 u6 : Value) (wr : World) : Prop :=
  ∃ (k : Nat) (VS : List Value), k ≤ LL.length ∧ k ≤ 5 ∧ gk = 5 - k ∧ u6 = .int .i64 k ∧ VS.length = k ∧ wr.ownsRow w.heap.size 37 1 u4 k VS ∧ wr.ownsRow w.heap.size 32 1 u5 k VS ∧
    (∀ i (_ : i < VS.length) (h' : i < LL.length), Own w.heap.size wr VS[i] (listOf LL[i])) ∧ Keeps [] w wr

def ListsPost (w : World) (LL : List (List Int)) (e : Ending) (w' : World) : Prop :=
  ∃ va vb, e = .returned (.tuple #[va, vb]) ∧ Rows2 w.heap.size w' va (listsOf LL) ∧ Rows2 w.heap.size w' vb (listsOf LL) ∧ Keeps [] w w'

theorem lists_end {w wr : World} {LL : List (List Int)} {k : Nat} {VS : List Value} {u4 u5 : Value} (hk : k = min LL.length 5) (hv : VS.length = k) (h4 : wr.ownsRow w.heap.size 37 1 u4 k VS) (h5 : wr.ownsRow w.heap.size 32 1 u5 k VS)
    (h : ∀ i (_ : i < VS.length) (h' : i < LL.length), Own w.heap.size wr VS[i] (listOf LL[i])) : Rows2 w.heap.size wr u4 (listsOf LL) ∧ Rows2 w.heap.size wr u5 (listsOf LL) := by
  subst hv
  have hl : VS.length = (listsOf LL).length := by unfold listsOf; rw [List.length_map, List.length_take]; omega
  have hi : ∀ i (h : i < VS.length) (h' : i < (listsOf LL).length), Ints w.heap.size wr VS[i] (listsOf LL)[i] := fun i hi hi' => by
    have e : (listsOf LL)[i] = listOf (LL[i]'(by omega)) := by simp [listsOf]
    rw [e]
    exact (h i hi (by omega)).ints
  exact ⟨rows2_of h4 hl hi, rows2_of h5 hl hi⟩

theorem minI (n : Nat) : min (n : Int) 20 = ((min n 20 : Nat) : Int) := by omega

set_option linter.unusedSimpArgs false in
set_option maxRecDepth 100000 in
set_option maxHeartbeats 1000000 in
theorem lists_spec (B : Nat) (w : World) (v : Value) (LL : List (List Int)) (h : Rows2 B w v LL) :
    Calls Tryd.prog 14 #[v] w (ListsPost w LL) := by
  have Hf := Lib.hid h
  obtain ⟨ao, cap, rfl, hm, -, -⟩ := h.form
  unfold maxLen at hm
  have k0 : Keeps [] w (w.alloc (.cells #[] 37)) := (Keeps.refl [] w).alloc _
  have k1 : Keeps [] (w.alloc (.cells #[] 37)) ((w.alloc (.cells #[] 37)).alloc (.cells #[] 32)) := (Keeps.refl [] _).alloc _
  have H0 := Lib.hid (And.intro (go1 k1 (own_made w w.heap.size 37 1 (Nat.le_refl _))) (And.intro (own_made (w.alloc (.cells #[] 37)) w.heap.size 32 1 (by simp)) (k0.trans k1)))
  clear h k0 k1
  go_enter Tryd.func14, Tryd.ntmps14
  go_wp2_with fail
  go_loopg [4, 5, 6] 5 (ListsRel w LL)
  case atStart => exact ⟨0, [], Nat.zero_le _, Nat.zero_le _, rfl, rfl, rfl, H0.out.1, by simpa using H0.out.2.1, fun i hi => by simp at hi, H0.out.2.2⟩
  case round =>
    obtain ⟨k, VS, hk, hk5, hgk, rfl, hVS, h4, h5, hown, hkw⟩ := hrel
    have Hg := Lib.hid hgk
    have hws := hkw.size
    clear hgk H0
    obtain ⟨a4, c4, rfl, -, -, -⟩ := row_slice h4
    obtain ⟨a5, c5, rfl, -, -, -⟩ := row_slice h5
    by_cases hend : k < LL.length ∧ k < 5
    · obtain ⟨hlt, hlt5⟩ := hend
      obtain ⟨b, of, u, ea, hb, d0, hu⟩ := (Hf.out.keep hkw (by simp)).at_ k hlt
      subst ea
      have hlt' : (k : Int) < (LL.length : Int) := by omega
      have hlt5' : (k : Int) < 5 := by omega
      obtain ⟨W0, hW0⟩ : ∃ W0, W0 = wr.drew := ⟨_, rfl⟩
      have D0 : ∀ s : Kept W0, s.val.cell? ⟨b, of + k, none⟩ = some u := keptCell (by rw [hW0]; exact d0)
      obtain ⟨L, hL⟩ : ∃ L, L = LL[k] := ⟨_, rfl⟩
      rw [← hL] at hu
      have Hu := Lib.hid (show Ints B W0 u L by rw [hW0]; exact hu)
      obtain ⟨al, cl, rfl, hll, hlc, hln, -⟩ := hu
      have Hr := Lib.hid (And.intro h4 (And.intro h5 (And.intro hown hkw)))
      have HW := Lib.hid hW0
      have HL := Lib.hid hL
      have hmin := minI L.length
      unfold maxLen at hll
      have hm1 : (min L.length 20 : Nat) ≤ cl := by omega
      have hm2 : ((min L.length 20 : Nat) : Int) ≤ (cl : Int) := by omega
      generalize hmn : min L.length 20 = mn at hmin hm1 hm2
      clear h4 h5 hown hkw hW0 d0 hL
      go_upto_region 6 with fail
      refine wp_region_held_drew (S := KeptS W0) (by kernel_rfl) (by rw [← HW.out]; exact keptS (Keeps.refl _ _)) (fun hS => ?_)
      rw [← HW.out] at hS ⊢
      refine wpAnyH_take (i := 0) (v := ?_) rfl (by kernel_rfl) (by kernel_rfl) (by kernel_rfl) (fun _ _ _ h => h) (Or.inl ⟨by rfl, ?_⟩) (by assumption) ?_
      rotate_left
      · intro w' s1; obtain ⟨s, rfl⟩ := s1; go_simp; (try with_reducible rfl)
      simp only [Act.put, List.getElem_toArray, List.getElem_cons_succ, List.getElem_cons_zero, List.setIfInBounds_toArray, List.set_cons_zero, List.set_cons_succ]
      refine wpAnyH_take (i := 1) (v := ?_) rfl (by kernel_rfl) (by kernel_rfl) (by kernel_rfl) (fun _ _ _ h => h) (Or.inl ⟨by rfl, ?_⟩) (by assumption) ?_
      rotate_left
      · intro w' s1; obtain ⟨s, rfl⟩ := s1; go_simp; (try with_reducible rfl)
      simp only [Act.put, List.getElem_toArray, List.getElem_cons_succ, List.getElem_cons_zero, List.setIfInBounds_toArray, List.set_cons_zero, List.set_cons_succ]
      refine wpAnyH_take (i := 2) (v := ?_) rfl (by kernel_rfl) (by kernel_rfl) (by kernel_rfl) (fun _ _ _ h => h) (Or.inl ⟨by rfl, ?_⟩) (by assumption) ?_
      rotate_left
      · intro w' s1; obtain ⟨s, rfl⟩ := s1; go_simp; (try with_reducible rfl)
      simp only [Act.put, List.getElem_toArray, List.getElem_cons_succ, List.getElem_cons_zero, List.setIfInBounds_toArray, List.set_cons_zero, List.set_cons_succ]
      refine wpAnyH_take (i := 3) (v := ?_) rfl (by kernel_rfl) (by kernel_rfl) (by kernel_rfl) (fun _ _ _ h => h) (Or.inl ⟨by rfl, ?_⟩) (by assumption) ?_
      rotate_left
      · intro w' s1; obtain ⟨s, rfl⟩ := s1; go_simp; (try with_reducible rfl)
      simp only [Act.put, List.getElem_toArray, List.getElem_cons_succ, List.getElem_cons_zero, List.setIfInBounds_toArray, List.set_cons_zero, List.set_cons_succ]
      refine wpAnyH_take (i := 4) (v := ?_) rfl (by kernel_rfl) (by kernel_rfl) (by kernel_rfl) (fun _ _ _ h => h) (Or.inl ⟨by rfl, ?_⟩) (by assumption) ?_
      rotate_left
      · intro w' s1; obtain ⟨s, rfl⟩ := s1; go_simp; (try with_reducible rfl)
      simp only [Act.put, List.getElem_toArray, List.getElem_cons_succ, List.getElem_cons_zero, List.setIfInBounds_toArray, List.set_cons_zero, List.set_cons_succ]
      refine wpAnyH_take (i := 5) (v := ?_) rfl (by kernel_rfl) (by kernel_rfl) (by kernel_rfl) (fun _ _ _ h => h) (Or.inl ⟨by rfl, ?_⟩) (by assumption) ?_
      rotate_left
      · intro w' s1; obtain ⟨s, rfl⟩ := s1; go_simp; (try with_reducible rfl)
      simp only [Act.put, List.getElem_toArray, List.getElem_cons_succ, List.getElem_cons_zero, List.setIfInBounds_toArray, List.set_cons_zero, List.set_cons_succ]
      refine wpAnyH_take (i := 6) (v := ?_) rfl (by kernel_rfl) (by kernel_rfl) (by kernel_rfl) (fun _ _ _ h => h) (Or.inl ⟨by rfl, ?_⟩) (by assumption) ?_
      rotate_left
      · intro w' s1; obtain ⟨s, rfl⟩ := s1; go_simp; (try with_reducible rfl)
      simp only [Act.put, List.getElem_toArray, List.getElem_cons_succ, List.getElem_cons_zero, List.setIfInBounds_toArray, List.set_cons_zero, List.set_cons_succ]
      refine wpAnyH_take (i := 7) (v := ?_) rfl (by kernel_rfl) (by kernel_rfl) (by kernel_rfl) (fun _ _ _ h => h) (Or.inl ⟨by rfl, ?_⟩) (by assumption) ?_
      rotate_left
      · intro w' s1; obtain ⟨s, rfl⟩ := s1; go_simp; (try with_reducible rfl)
      simp only [Act.put, List.getElem_toArray, List.getElem_cons_succ, List.getElem_cons_zero, List.setIfInBounds_toArray, List.set_cons_zero, List.set_cons_succ]
      refine wpAnyH_take (i := 8) (v := ?_) rfl (by kernel_rfl) (by kernel_rfl) (by kernel_rfl) (fun _ _ _ h => h) (Or.inl ⟨by rfl, ?_⟩) (by assumption) ?_
      rotate_left
      · intro w' s1; obtain ⟨s, rfl⟩ := s1; go_simp; (try with_reducible rfl)
      simp only [Act.put, List.getElem_toArray, List.getElem_cons_succ, List.getElem_cons_zero, List.setIfInBounds_toArray, List.set_cons_zero, List.set_cons_succ]
      refine wpAnyH_take (i := 9) (v := ?_) rfl (by kernel_rfl) (by kernel_rfl) (by kernel_rfl) (fun _ _ _ h => h) (Or.inl ⟨by rfl, ?_⟩) (by assumption) ?_
      rotate_left
      · intro w' s1; obtain ⟨s, rfl⟩ := s1; go_simp; (try with_reducible rfl)
      simp only [Act.put, List.getElem_toArray, List.getElem_cons_succ, List.getElem_cons_zero, List.setIfInBounds_toArray, List.set_cons_zero, List.set_cons_succ]
      refine wpAnyH_take (i := 10) (v := ?_) rfl (by kernel_rfl) (by kernel_rfl) (by kernel_rfl) (fun _ _ _ h => h) (Or.inl ⟨by rfl, ?_⟩) (by assumption) ?_
      rotate_left
      · intro w' s1; obtain ⟨s, rfl⟩ := s1; go_simp; (try with_reducible rfl)
      simp only [Act.put, List.getElem_toArray, List.getElem_cons_succ, List.getElem_cons_zero, List.setIfInBounds_toArray, List.set_cons_zero, List.set_cons_succ]
      refine wpAnyH_ready (rs := [11]) (by kernel_rfl) (by simp) ?_
      refine AllReadyH.cons rfl (fun K hK => ?_) AllReadyH.nil
      go_simp
      have kA1 : Keeps [] W0 (W0.alloc (.cells #[.slice al mn cl] 32)) := (Keeps.refl [] W0).alloc _
      have hR := rows2_new1 (B := 0) (heap_new W0 (.cells #[.slice al mn cl] 32)) (Nat.zero_le _) (l := L.take 20) (go1 kA1 (by
        have := (ints_take Hu.out 20).low (Nat.zero_le B)
        rw [hmn] at this
        exact this))
      have HR := Lib.hid hR
      clear hR
      go_simp
      refine hK.out _ _ (keptS kA1) (fun hS => ?_)
      clear hK K
      try simp only [Act.put, List.getElem_toArray, List.getElem_cons_succ, List.getElem_cons_zero, List.setIfInBounds_toArray, List.set_cons_zero, List.set_cons_succ]
      refine wpAnyH_ready (rs := [12]) (by kernel_rfl) (by simp) ?_
      refine AllReadyH.cons rfl (fun K hK => ?_) AllReadyH.nil
      go_simp
      go_at_call 20
      refine (anyR_spec 0 _ _ [L.take 20] HR.out (by simp only [List.flatten_cons, List.flatten_nil, List.append_nil, List.length_take]; omega)).mono ?_
      rintro e A2 ⟨v2, rfl, hown2, kB2⟩
      have kA2 := kA1.trans kB2
      have Hv := Lib.hid (row_base (b' := w.heap.size) hown2 (by
        have := kA1.size
        have := HW.out
        subst this
        simp at this ⊢
        omega))
      clear hown2
      go_simp
      refine hK.out _ _ (keptS kA2) (fun hS => ?_)
      clear hK K
      try simp only [Act.put, List.getElem_toArray, List.getElem_cons_succ, List.getElem_cons_zero, List.setIfInBounds_toArray, List.set_cons_zero, List.set_cons_succ]
      refine wpAnyH_ready (rs := [13]) (by kernel_rfl) (by simp) ?_
      refine AllReadyH.cons rfl (fun K hK => ?_) AllReadyH.nil
      go_simp
      go_simp
      refine hK.out _ _ (keptS kA2) (fun hS => ?_)
      clear hK K
      try simp only [Act.put, List.getElem_toArray, List.getElem_cons_succ, List.getElem_cons_zero, List.setIfInBounds_toArray, List.set_cons_zero, List.set_cons_succ]
      refine wpAnyH_done (by kernel_rfl) ?_ _
      have hlo : anyL [L.take 20] = listOf L := rfl
      rw [hlo] at Hv
      have hll2 := listOf_len L
      have H2 := Lib.hid (go1 kA2 (show _ ∧ _ from ⟨(by rw [HW.out]; exact Hr.out.1 : W0.ownsRow w.heap.size 37 1 (.slice a4 k c4) k VS), (by rw [HW.out]; exact Hr.out.2.1 : W0.ownsRow w.heap.size 32 1 (.slice a5 k c5) k VS)⟩))
      have H3 := Lib.hid (fun i (h : i < VS.length) (h' : i < LL.length) => go1 kA2 (show Own w.heap.size W0 VS[i] (listOf LL[i]) by rw [HW.out]; exact Hr.out.2.2.1 i h h'))
      have hkw2 : Keeps [] w A2 := (show Keeps [] w W0 by rw [HW.out]; exact Hr.out.2.2.2.drew).trans kA2
      have hws2 := hkw2.size
      have Hk2 := Lib.hid hkw2
      clear kA1 kA2 kB2 HR D0 hS hkw2 hlo
      obtain ⟨av, cv, rfl, hvc, hvm, -⟩ := row_slice Hv.out
      generalize hlx : listOf L = l at Hv hll2 hvc ⊢
      have Hlx := Lib.hid (show listOf LL[k] = l by rw [← HL.out]; exact hlx)
      clear hlx
      go_upto_region 8 with (at_builtin; refine row_append1 rfl (.tmp 33) (.tmp 35) 33 37 infoList rfl (by decide) Tryd.underlying33 rfl w.heap.size (.slice a4 k c4) VS (.slice av l.length cv) rfl k hVS rfl H2.out.1 rfl (by omega) (by omega) ?_; intro ao9 cp9 w9 hown9 ht9; have H9 := Lib.hid (And.intro hown9 ht9); clear hown9 ht9)
      have hk9 := H9.out.2.fresh Hk2.out (fun g hg => (World.ownsRow.lt H2.out.1 g hg).1)
      have hws9 := hk9.1.size
      have ht9 := H9.out.2.keeps
      have h5' := ht9.row H2.out.2 (rows_ne2 H2.out.1 H2.out.2 (by decide))
      have hv' := ht9.row Hv.out (rows_ne2 H2.out.1 Hv.out (by decide))
      have hown' : ∀ i (h : i < VS.length) (h' : i < LL.length), Own w.heap.size w9 VS[i] (listOf LL[i]) := fun i h h' => ht9.row (H3.out i h h') (rows_ne2 H2.out.1 (H3.out i h h') (by decide))
      have HH := Lib.hid (And.intro H9.out.1 (And.intro h5' (And.intro hv' (And.intro hown' hk9.1))))
      clear H9 H2 H3 Hv Hk2 hk9 ht9 h5' hv' hown'
      go_wp2_with (at_builtin; refine row_append1 rfl (.tmp 37) (.tmp 39) 31 32 infoInts rfl (by decide) Tryd.underlying31 rfl w.heap.size (.slice a5 k c5) VS (.slice av l.length cv) rfl k hVS rfl HH.out.2.1 rfl (by omega) (by omega) ?_; intro aoA cpA wA hownA htA; have HA := Lib.hid (And.intro hownA htA); clear hownA htA)
      have hk9 := HA.out.2.fresh HH.out.2.2.2.2 (fun g hg => (World.ownsRow.lt HH.out.2.1 g hg).1)
      have ht9 := HA.out.2.keeps
      have h4' := ht9.row HH.out.1 (rows_ne2 HH.out.2.1 HH.out.1 (by decide))
      have hv' := ht9.row HH.out.2.2.1 (rows_ne2 HH.out.2.1 HH.out.2.2.1 (by decide))
      have hown' : ∀ i (h : i < VS.length) (h' : i < LL.length), Own w.heap.size wA VS[i] (listOf LL[i]) := fun i h h' => ht9.row (HH.out.2.2.2.1 i h h') (rows_ne2 HH.out.2.1 (HH.out.2.2.2.1 i h h') (by decide))
      have HF := Lib.hid (And.intro h4' (And.intro HA.out.1 (And.intro hv' (And.intro hown' hk9.1))))
      clear HA HH hk9 ht9 h4' hv' hown'
      go_wp2_with fail
      go_roundg (5 - (k + 1))
      case measure => have := Hg.out; omega
      case rel =>
        refine ⟨k + 1, VS ++ [.slice av l.length cv], by omega, by omega, rfl, by go_num, by simp [hVS], HF.out.1, HF.out.2.1, fun i hi hi' => ?_, HF.out.2.2.2.2⟩
        by_cases hik : i < VS.length
        · have e : (VS ++ [Value.slice av l.length cv])[i] = VS[i] := List.getElem_append_left hik
          rw [e]
          exact HF.out.2.2.2.1 i hik hi'
        · obtain rfl : i = k := by simp at hi; omega
          subst hVS
          have e : (VS ++ [Value.slice av l.length cv])[VS.length] = Value.slice av l.length cv := by simp
          rw [e, Hlx.out]
          exact HF.out.2.2.1
    · have hkm : k = min LL.length 5 := by omega
      have Hr := Lib.hid (And.intro (lists_end hkm hVS h4 h5 hown) hkw)
      clear h4 h5 hown hkw hkm hVS
      by_cases hlt : (k : Int) < (LL.length : Int)
      · have hlt5 : ¬ (k : Int) < 5 := by omega
        go_wp2_with fail
        go_ret2
        exact ⟨_, _, rfl, Hr.out.1.1, Hr.out.1.2, Hr.out.2⟩
      · go_wp2_with fail
        go_ret2
        exact ⟨_, _, rfl, Hr.out.1.1, Hr.out.1.2, Hr.out.2⟩
end Go.Proofs.YtpopeeiiblhbeaaDoor
