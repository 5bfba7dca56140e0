/-
  PostingLists answers true, and leaves all memory that was there as it was.
  The library's variable internal/bytealg.MaxLen holds some number.
-/
import Derived.Test.YtpopeeiiblhbeaaDoorPostingLawsL
namespace Go.Proofs.YtpopeeiiblhbeaaDoor
open Go Go.RowKit

theorem Rows2.low {B B' : Nat} {w : World} {v : Value} {LL : List (List Int)} (h : Rows2 B w v LL) (hB : B' ≤ B) : Rows2 B' w v LL := by
  obtain ⟨VS, h1, h2, h3⟩ := h
  exact ⟨VS, h1.low hB, h2, fun i hi hi' => (h3 i hi hi').low hB⟩

theorem listsOf_rises {LL : List (List Int)} : ∀ l ∈ listsOf LL, Rises l := fun l hl => by
  obtain ⟨x, -, rfl⟩ := List.mem_map.1 hl
  exact listOf_rises x

theorem listsOf_short {LL : List (List Int)} : ∀ l ∈ listsOf LL, l.length ≤ 20 := fun l hl => by
  obtain ⟨x, -, rfl⟩ := List.mem_map.1 hl
  exact listOf_len x

theorem listsOf_flat (LL : List (List Int)) : (listsOf LL).flatten.length ≤ 1000 := by
  have := flat_le (listsOf_short (LL := LL)) (m := 5) (by unfold listsOf; rw [List.length_map, List.length_take]; omega)
  omega

theorem listsOf2 (a b : List Int) : listsOf [a, b] = [listOf a, listOf b] := rfl

set_option linter.unusedSimpArgs false in
set_option maxRecDepth 100000 in
set_option maxHeartbeats 1000000 in
theorem postingLists_walk (w : World) (hv : LibVar w) (v : Value) (LL : List (List Int)) (hl : Rows2 0 w v LL) (va : Value) (a : List Int) (ha : Ints 0 w va a) (vb : Value) (b : List Int) (hb : Ints 0 w vb b) :
    Calls Tryd.prog 4 #[v, va, vb] w fun e w' => e = .returned (.bool true) ∧ Keeps [] w w' := by
  have H0 := Lib.hid (And.intro hl (And.intro ha (And.intro hb hv)))
  obtain ⟨al, cl, rfl, -⟩ := hl.form
  obtain ⟨aa, ca, rfl, -⟩ := ha
  obtain ⟨ab, cb, rfl, -⟩ := hb
  clear hl hv
  go_enter Tryd.func4, Tryd.ntmps4
  go_wp2_with fail
  refine (lists_spec 0 _ _ LL H0.out.1).mono ?_
  rintro e w1 ⟨vo, vt, rfl, hro, hrt, hk1⟩
  obtain ⟨ao, co, rfl, -⟩ := hro.form
  obtain ⟨at_, ct, rfl, -⟩ := hrt.form
  have H1 := Lib.hid (And.intro (go1 hk1 H0.out) (And.intro (hro.low (Nat.zero_le _)) (And.intro (hrt.low (Nat.zero_le _)) hk1)))
  clear hro hrt hk1 H0
  have k2 : Keeps [] w1 (w1.alloc (.cells #[.slice aa a.length ca, .slice ab b.length cb] 32)) := (Keeps.refl [] w1).alloc _
  have hR2 := rows2_new2 (heap_new w1 (.cells #[.slice aa a.length ca, .slice ab b.length cb] 32)) (Nat.zero_le _) (go1 k2 H1.out.1.2.1) (go1 k2 H1.out.1.2.2.1)
  have H2 := Lib.hid (And.intro hR2 k2)
  clear k2 hR2
  go_wp2_with fail
  refine (lists_spec 0 _ _ [a, b] H2.out.1).mono ?_
  rintro e w3 ⟨v2, u2, rfl, hr2, hq2, hk3⟩
  rw [listsOf2] at hr2 hq2
  have hx := listOf_rises a
  have hy := listOf_rises b
  have lx := listOf_len a
  have ly := listOf_len b
  have Hxy := Lib.hid (And.intro hx hy)
  generalize listOf a = X at hr2 hq2 Hxy lx
  generalize listOf b = Y at hr2 hq2 Hxy ly
  have hkk := H2.out.2.trans hk3
  have hr2' := hr2.low (Nat.zero_le _)
  have hq2' := hq2.low (Nat.zero_le _)
  clear hr2 hq2 hx hy
  obtain ⟨a2, c2, rfl, -, hc2, -⟩ := hr2'.form
  obtain ⟨g, o0, ux, e0, hg, d0, hux⟩ := hr2'.at_ 0 (by simp)
  subst e0
  obtain ⟨g', o', uy, e1, -, d1, huy⟩ := hr2'.at_ 1 (by simp)
  injection e1 with e1
  injection e1 with e1 e2 e3
  subst e1 e2
  clear e3
  obtain ⟨a3, c3, rfl, -, hc3, -⟩ := hq2'.form
  obtain ⟨h, p0, tx, e0, hh, f0, htx⟩ := hq2'.at_ 0 (by simp)
  subst e0
  obtain ⟨g', o', ty, e1, -, f1, hty⟩ := hq2'.at_ 1 (by simp)
  injection e1 with e1
  injection e1 with e1 e2 e3
  subst e1 e2
  clear e3
  simp only [List.getElem_cons_zero, List.getElem_cons_succ] at hux huy htx hty
  simp only [List.length_cons, List.length_nil, Nat.zero_add, Nat.reduceAdd] at hc2 hc3
  rw [Nat.add_zero] at d0 f0
  obtain ⟨W0, hW0⟩ : ∃ W0, W0 = w3.drew := ⟨_, rfl⟩
  have kd : Keeps [] w3 W0 := by rw [hW0]; exact (Keeps.refl [] w3).drew
  have D0 : ∀ s : Kept W0, s.val.cell? ⟨g, o0, none⟩ = some ux := keptCell (by rw [hW0]; exact d0)
  have D1 : ∀ s : Kept W0, s.val.cell? ⟨g, o0 + 1, none⟩ = some uy := keptCell (by rw [hW0]; exact d1)
  have F0 : ∀ s : Kept W0, s.val.cell? ⟨h, p0, none⟩ = some tx := keptCell (by rw [hW0]; exact f0)
  have F1 : ∀ s : Kept W0, s.val.cell? ⟨h, p0 + 1, none⟩ = some ty := keptCell (by rw [hW0]; exact f1)
  have Hc := Lib.hid (go1 kd (And.intro hux (And.intro huy (And.intro htx hty))))
  obtain ⟨au, cu, hu, -⟩ := hux
  obtain ⟨ay, cy, hyu, -⟩ := huy
  obtain ⟨az, cz, hzu, -⟩ := htx
  obtain ⟨aw, cw, hwu, -⟩ := hty
  subst hu hyu hzu hwu
  simp only [List.length_cons, List.length_nil, Nat.zero_add, Nat.reduceAdd]
  have kw := H1.out.2.2.2
  have k13 := hkk.trans kd
  have HL := Lib.hid (go1 k13 H1.out)
  have Hfl := Lib.hid (And.intro (bothP_eq (listsOf_rises (LL := LL))) (And.intro (listsOf_rises (LL := LL)) (And.intro (show ∀ l ∈ listsOf LL, l.length ≤ 1000 from fun l hl => Nat.le_trans (listsOf_short (LL := LL) l hl) (by decide)) (listsOf_flat LL))))
  have HW := Lib.hid hW0
  generalize listsOf LL = NN at HL Hfl ⊢
  clear d0 d1 f0 f1 hg hh hkk kw k13 H1 H2 hr2' hq2' kd hW0
  go_upto_region 3 with fail
  refine wp_region_held_drew (S := KeptS W0) (by kernel_rfl) (by rw [← HW.out]; exact keptS (Keeps.refl _ _)) (fun hS => ?_)
  rw [← HW.out] at hS ⊢
  clear HW
  refine wpAnyH_ready (rs := [0]) (by kernel_rfl) (by simp) ?_
  refine AllReadyH.cons rfl (fun K hK => ?_) AllReadyH.nil
  go_simp
  go_at_call 15
  refine (awake12_spec _ HL.out.1.2.2.2).mono ?_
  rintro e A1 ⟨rfl, kA1⟩
  go_simp
  refine hK.out _ _ (keptS kA1) (fun hS => ?_)
  clear hK K
  try simp only [Act.put, List.getElem_toArray, List.getElem_cons_succ, List.getElem_cons_zero, List.setIfInBounds_toArray, List.set_cons_zero, List.set_cons_succ]
  refine wpAnyH_take (i := 1) (v := ?_) rfl (by kernel_rfl) (by kernel_rfl) (by kernel_rfl) (fun _ _ _ h => h) (Or.inl ⟨by rfl, ?_⟩) (by assumption) ?_
  rotate_left
  · intro w' s1; obtain ⟨s, rfl⟩ := s1; go_simp; (try with_reducible rfl)
  simp only [Act.put, List.getElem_toArray, List.getElem_cons_succ, List.getElem_cons_zero, List.setIfInBounds_toArray, List.set_cons_zero, List.set_cons_succ]
  refine wpAnyH_take (i := 2) (v := ?_) rfl (by kernel_rfl) (by kernel_rfl) (by kernel_rfl) (fun _ _ _ h => h) (Or.inl ⟨by rfl, ?_⟩) (by assumption) ?_
  rotate_left
  · intro w' s1; obtain ⟨s, rfl⟩ := s1; go_simp; (try with_reducible rfl)
  simp only [Act.put, List.getElem_toArray, List.getElem_cons_succ, List.getElem_cons_zero, List.setIfInBounds_toArray, List.set_cons_zero, List.set_cons_succ]
  refine wpAnyH_take (i := 4) (v := ?_) rfl (by kernel_rfl) (by kernel_rfl) (by kernel_rfl) (fun _ _ _ h => h) (Or.inl ⟨by rfl, ?_⟩) (by assumption) ?_
  rotate_left
  · intro w' s1; obtain ⟨s, rfl⟩ := s1; go_simp; (try with_reducible rfl)
  simp only [Act.put, List.getElem_toArray, List.getElem_cons_succ, List.getElem_cons_zero, List.setIfInBounds_toArray, List.set_cons_zero, List.set_cons_succ]
  refine wpAnyH_ready (rs := [3]) (by kernel_rfl) (by simp) ?_
  refine AllReadyH.cons rfl (fun K hK => ?_) AllReadyH.nil
  go_simp
  go_at_call 17
  refine (both_spec 0 _ _ NN (go1 kA1 HL.out.2.1) Hfl.out.2.1 Hfl.out.2.2.1 (Nat.zero_le _)).mono ?_
  rintro e A2 ⟨v2, rfl, ho2, kB2⟩
  rw [Hfl.out.1] at ho2
  have kA2 := kA1.trans kB2
  have E2 := Lib.hid (ho2.ints.low (Nat.zero_le _))
  clear ho2
  go_simp
  refine hK.out _ _ (keptS kA2) (fun hS => ?_)
  clear hK K
  try simp only [Act.put, List.getElem_toArray, List.getElem_cons_succ, List.getElem_cons_zero, List.setIfInBounds_toArray, List.set_cons_zero, List.set_cons_succ]
  refine wpAnyH_ready (rs := [5]) (by kernel_rfl) (by simp) ?_
  refine AllReadyH.cons rfl (fun K hK => ?_) AllReadyH.nil
  go_simp
  go_at_call 18
  refine (bothR_spec 0 _ _ NN (go1 kA2 HL.out.2.2.1) Hfl.out.2.2.2).mono ?_
  rintro e A3 ⟨v3, rfl, ho3, kB3⟩
  have kA3 := kA2.trans kB3
  have E3 := Lib.hid (And.intro (ho3.ints.low (Nat.zero_le _)) (go1 kB3 E2.out))
  clear ho3
  go_simp
  refine hK.out _ _ (keptS kA3) (fun hS => ?_)
  clear hK K
  try simp only [Act.put, List.getElem_toArray, List.getElem_cons_succ, List.getElem_cons_zero, List.setIfInBounds_toArray, List.set_cons_zero, List.set_cons_succ]
  refine wpAnyH_ready (rs := [6]) (by kernel_rfl) (by simp) ?_
  refine AllReadyH.cons rfl (fun K hK => ?_) AllReadyH.nil
  go_simp
  go_at_call 16
  refine (same_spec 0 0 _ _ _ _ E3.out.2 E3.out.1).mono ?_
  rintro e A4 ⟨rfl, kB4⟩
  have kA4 := kA3.trans kB4
  go_simp
  refine hK.out _ _ (keptS kA4) (fun hS => ?_)
  clear hK K
  try simp only [Act.put, List.getElem_toArray, List.getElem_cons_succ, List.getElem_cons_zero, List.setIfInBounds_toArray, List.set_cons_zero, List.set_cons_succ]
  refine wpAnyH_take (i := 7) (v := ?_) rfl (by kernel_rfl) (by kernel_rfl) (by kernel_rfl) (fun _ _ _ h => h) (Or.inl ⟨by rfl, ?_⟩) (by assumption) ?_
  rotate_left
  · intro w' s1; obtain ⟨s, rfl⟩ := s1; go_simp; (try with_reducible rfl)
  simp only [Act.put, List.getElem_toArray, List.getElem_cons_succ, List.getElem_cons_zero, List.setIfInBounds_toArray, List.set_cons_zero, List.set_cons_succ]
  refine wpAnyH_take (i := 8) (v := ?_) rfl (by kernel_rfl) (by kernel_rfl) (by kernel_rfl) (fun _ _ _ h => h) (Or.inl ⟨by rfl, ?_⟩) (by assumption) ?_
  rotate_left
  · intro w' s1; obtain ⟨s, rfl⟩ := s1; go_simp; (try with_reducible rfl)
  simp only [Act.put, List.getElem_toArray, List.getElem_cons_succ, List.getElem_cons_zero, List.setIfInBounds_toArray, List.set_cons_zero, List.set_cons_succ]
  refine wpAnyH_take (i := 9) (v := ?_) rfl (by kernel_rfl) (by kernel_rfl) (by kernel_rfl) (fun _ _ _ h => h) (Or.inl ⟨by rfl, ?_⟩) (by assumption) ?_
  rotate_left
  · intro w' s1; obtain ⟨s, rfl⟩ := s1; go_simp; (try with_reducible rfl)
  simp only [Act.put, List.getElem_toArray, List.getElem_cons_succ, List.getElem_cons_zero, List.setIfInBounds_toArray, List.set_cons_zero, List.set_cons_succ]
  refine wpAnyH_take (i := 10) (v := ?_) rfl (by kernel_rfl) (by kernel_rfl) (by kernel_rfl) (fun _ _ _ h => h) (Or.inl ⟨by rfl, ?_⟩) (by assumption) ?_
  rotate_left
  · intro w' s1; obtain ⟨s, rfl⟩ := s1; go_simp; (try with_reducible rfl)
  simp only [Act.put, List.getElem_toArray, List.getElem_cons_succ, List.getElem_cons_zero, List.setIfInBounds_toArray, List.set_cons_zero, List.set_cons_succ]
  refine wpAnyH_take (i := 12) (v := ?_) rfl (by kernel_rfl) (by kernel_rfl) (by kernel_rfl) (fun _ _ _ h => h) (Or.inl ⟨by rfl, ?_⟩) (by assumption) ?_
  rotate_left
  · intro w' s1; obtain ⟨s, rfl⟩ := s1; go_simp; (try with_reducible rfl)
  simp only [Act.put, List.getElem_toArray, List.getElem_cons_succ, List.getElem_cons_zero, List.setIfInBounds_toArray, List.set_cons_zero, List.set_cons_succ]
  refine wpAnyH_ready (rs := [11]) (by kernel_rfl) (by simp) ?_
  refine AllReadyH.cons rfl (fun K hK => ?_) AllReadyH.nil
  go_simp
  go_at_call 19
  refine (any_spec 0 _ _ NN (go1 kA4 HL.out.2.1) Hfl.out.2.2.2).mono ?_
  rintro e A5 ⟨v5, rfl, ho5, kB5⟩
  have kA5 := kA4.trans kB5
  have E5 := Lib.hid (ho5.ints.low (Nat.zero_le _))
  clear ho5
  go_simp
  refine hK.out _ _ (keptS kA5) (fun hS => ?_)
  clear hK K
  try simp only [Act.put, List.getElem_toArray, List.getElem_cons_succ, List.getElem_cons_zero, List.setIfInBounds_toArray, List.set_cons_zero, List.set_cons_succ]
  refine wpAnyH_ready (rs := [13]) (by kernel_rfl) (by simp) ?_
  refine AllReadyH.cons rfl (fun K hK => ?_) AllReadyH.nil
  go_simp
  go_at_call 20
  refine (anyR_spec 0 _ _ NN (go1 kA5 HL.out.2.2.1) Hfl.out.2.2.2).mono ?_
  rintro e A6 ⟨v6, rfl, ho6, kB6⟩
  have kA6 := kA5.trans kB6
  have E6 := Lib.hid (And.intro (ho6.ints.low (Nat.zero_le _)) (go1 kB6 E5.out))
  clear ho6
  go_simp
  refine hK.out _ _ (keptS kA6) (fun hS => ?_)
  clear hK K
  try simp only [Act.put, List.getElem_toArray, List.getElem_cons_succ, List.getElem_cons_zero, List.setIfInBounds_toArray, List.set_cons_zero, List.set_cons_succ]
  refine wpAnyH_ready (rs := [14]) (by kernel_rfl) (by simp) ?_
  refine AllReadyH.cons rfl (fun K hK => ?_) AllReadyH.nil
  go_simp
  go_at_call 16
  refine (same_spec 0 0 _ _ _ _ E6.out.2 E6.out.1).mono ?_
  rintro e A7 ⟨rfl, kB7⟩
  have kA7 := kA6.trans kB7
  go_simp
  refine hK.out _ _ (keptS kA7) (fun hS => ?_)
  clear hK K
  try simp only [Act.put, List.getElem_toArray, List.getElem_cons_succ, List.getElem_cons_zero, List.setIfInBounds_toArray, List.set_cons_zero, List.set_cons_succ]
  refine wpAnyH_take (i := 15) (v := ?_) rfl (by kernel_rfl) (by kernel_rfl) (by kernel_rfl) (fun _ _ _ h => h) (Or.inl ⟨by rfl, ?_⟩) (by assumption) ?_
  rotate_left
  · intro w' s1; obtain ⟨s, rfl⟩ := s1; go_simp; (try with_reducible rfl)
  simp only [Act.put, List.getElem_toArray, List.getElem_cons_succ, List.getElem_cons_zero, List.setIfInBounds_toArray, List.set_cons_zero, List.set_cons_succ]
  refine wpAnyH_take (i := 16) (v := ?_) rfl (by kernel_rfl) (by kernel_rfl) (by kernel_rfl) (fun _ _ _ h => h) (Or.inl ⟨by rfl, ?_⟩) (by assumption) ?_
  rotate_left
  · intro w' s1; obtain ⟨s, rfl⟩ := s1; go_simp; (try with_reducible rfl)
  simp only [Act.put, List.getElem_toArray, List.getElem_cons_succ, List.getElem_cons_zero, List.setIfInBounds_toArray, List.set_cons_zero, List.set_cons_succ]
  refine wpAnyH_take (i := 17) (v := ?_) rfl (by kernel_rfl) (by kernel_rfl) (by kernel_rfl) (fun _ _ _ h => h) (Or.inl ⟨by rfl, ?_⟩) (by assumption) ?_
  rotate_left
  · intro w' s1; obtain ⟨s, rfl⟩ := s1; go_simp; (try with_reducible rfl)
  simp only [Act.put, List.getElem_toArray, List.getElem_cons_succ, List.getElem_cons_zero, List.setIfInBounds_toArray, List.set_cons_zero, List.set_cons_succ]
  refine wpAnyH_take (i := 18) (v := ?_) rfl (by kernel_rfl) (by kernel_rfl) (by kernel_rfl) (fun _ _ _ h => h) (Or.inl ⟨by rfl, ?_⟩) (by assumption) ?_
  rotate_left
  · intro w' s1; obtain ⟨s, rfl⟩ := s1; go_simp; (try with_reducible rfl)
  simp only [Act.put, List.getElem_toArray, List.getElem_cons_succ, List.getElem_cons_zero, List.setIfInBounds_toArray, List.set_cons_zero, List.set_cons_succ]
  refine wpAnyH_take (i := 19) (v := ?_) rfl (by kernel_rfl) (by kernel_rfl) (by kernel_rfl) (fun _ _ _ h => h) (Or.inl ⟨by rfl, ?_⟩) (by assumption) ?_
  rotate_left
  · intro w' s1; obtain ⟨s, rfl⟩ := s1; go_simp; (try with_reducible rfl)
  simp only [Act.put, List.getElem_toArray, List.getElem_cons_succ, List.getElem_cons_zero, List.setIfInBounds_toArray, List.set_cons_zero, List.set_cons_succ]
  refine wpAnyH_take (i := 20) (v := ?_) rfl (by kernel_rfl) (by kernel_rfl) (by kernel_rfl) (fun _ _ _ h => h) (Or.inl ⟨by rfl, ?_⟩) (by assumption) ?_
  rotate_left
  · intro w' s1; obtain ⟨s, rfl⟩ := s1; go_simp; (try with_reducible rfl)
  simp only [Act.put, List.getElem_toArray, List.getElem_cons_succ, List.getElem_cons_zero, List.setIfInBounds_toArray, List.set_cons_zero, List.set_cons_succ]
  refine wpAnyH_take (i := 21) (v := ?_) rfl (by kernel_rfl) (by kernel_rfl) (by kernel_rfl) (fun _ _ _ h => h) (Or.inl ⟨by rfl, ?_⟩) (by assumption) ?_
  rotate_left
  · intro w' s1; obtain ⟨s, rfl⟩ := s1; go_simp; (try with_reducible rfl)
  simp only [Act.put, List.getElem_toArray, List.getElem_cons_succ, List.getElem_cons_zero, List.setIfInBounds_toArray, List.set_cons_zero, List.set_cons_succ]
  refine wpAnyH_take (i := 22) (v := ?_) rfl (by kernel_rfl) (by kernel_rfl) (by kernel_rfl) (fun _ _ _ h => h) (Or.inl ⟨by rfl, ?_⟩) (by assumption) ?_
  rotate_left
  · intro w' s1; obtain ⟨s, rfl⟩ := s1; go_simp; (try with_reducible rfl)
  simp only [Act.put, List.getElem_toArray, List.getElem_cons_succ, List.getElem_cons_zero, List.setIfInBounds_toArray, List.set_cons_zero, List.set_cons_succ]
  refine wpAnyH_take (i := 23) (v := ?_) rfl (by kernel_rfl) (by kernel_rfl) (by kernel_rfl) (fun _ _ _ h => h) (Or.inl ⟨by rfl, ?_⟩) (by assumption) ?_
  rotate_left
  · intro w' s1; obtain ⟨s, rfl⟩ := s1; go_simp; (try with_reducible rfl)
  simp only [Act.put, List.getElem_toArray, List.getElem_cons_succ, List.getElem_cons_zero, List.setIfInBounds_toArray, List.set_cons_zero, List.set_cons_succ]
  refine wpAnyH_take (i := 25) (v := ?_) rfl (by kernel_rfl) (by kernel_rfl) (by kernel_rfl) (fun _ _ _ h => h) (Or.inl ⟨by rfl, ?_⟩) (by assumption) ?_
  rotate_left
  · intro w' s1; obtain ⟨s, rfl⟩ := s1; go_simp; (try with_reducible rfl)
  simp only [Act.put, List.getElem_toArray, List.getElem_cons_succ, List.getElem_cons_zero, List.setIfInBounds_toArray, List.set_cons_zero, List.set_cons_succ]
  refine wpAnyH_take (i := 26) (v := ?_) rfl (by kernel_rfl) (by kernel_rfl) (by kernel_rfl) (fun _ _ _ h => h) (Or.inl ⟨by rfl, ?_⟩) (by assumption) ?_
  rotate_left
  · intro w' s1; obtain ⟨s, rfl⟩ := s1; go_simp; (try with_reducible rfl)
  simp only [Act.put, List.getElem_toArray, List.getElem_cons_succ, List.getElem_cons_zero, List.setIfInBounds_toArray, List.set_cons_zero, List.set_cons_succ]
  refine wpAnyH_take (i := 27) (v := ?_) rfl (by kernel_rfl) (by kernel_rfl) (by kernel_rfl) (fun _ _ _ h => h) (Or.inl ⟨by rfl, ?_⟩) (by assumption) ?_
  rotate_left
  · intro w' s1; obtain ⟨s, rfl⟩ := s1; go_simp; (try with_reducible rfl)
  simp only [Act.put, List.getElem_toArray, List.getElem_cons_succ, List.getElem_cons_zero, List.setIfInBounds_toArray, List.set_cons_zero, List.set_cons_succ]
  refine wpAnyH_take (i := 28) (v := ?_) rfl (by kernel_rfl) (by kernel_rfl) (by kernel_rfl) (fun _ _ _ h => h) (Or.inl ⟨by rfl, ?_⟩) (by assumption) ?_
  rotate_left
  · intro w' s1; obtain ⟨s, rfl⟩ := s1; go_simp; (try with_reducible rfl)
  simp only [Act.put, List.getElem_toArray, List.getElem_cons_succ, List.getElem_cons_zero, List.setIfInBounds_toArray, List.set_cons_zero, List.set_cons_succ]
  refine wpAnyH_take (i := 29) (v := ?_) rfl (by kernel_rfl) (by kernel_rfl) (by kernel_rfl) (fun _ _ _ h => h) (Or.inl ⟨by rfl, ?_⟩) (by assumption) ?_
  rotate_left
  · intro w' s1; obtain ⟨s, rfl⟩ := s1; go_simp; (try with_reducible rfl)
  simp only [Act.put, List.getElem_toArray, List.getElem_cons_succ, List.getElem_cons_zero, List.setIfInBounds_toArray, List.set_cons_zero, List.set_cons_succ]
  refine wpAnyH_take (i := 30) (v := ?_) rfl (by kernel_rfl) (by kernel_rfl) (by kernel_rfl) (fun _ _ _ h => h) (Or.inl ⟨by rfl, ?_⟩) (by assumption) ?_
  rotate_left
  · intro w' s1; obtain ⟨s, rfl⟩ := s1; go_simp; (try with_reducible rfl)
  simp only [Act.put, List.getElem_toArray, List.getElem_cons_succ, List.getElem_cons_zero, List.setIfInBounds_toArray, List.set_cons_zero, List.set_cons_succ]
  refine wpAnyH_ready (rs := [24]) (by kernel_rfl) (by simp) ?_
  refine AllReadyH.cons rfl (fun K hK => ?_) AllReadyH.nil
  go_simp
  go_at_call 21
  refine (less_spec 0 _ _ _ X Y (go1 kA7 Hc.out.1) (go1 kA7 Hc.out.2.1) Hxy.out.1 Hxy.out.2 (by omega) (by omega)).mono ?_
  rintro e A8 ⟨v8, rfl, ho8, kB8⟩
  have kA8 := kA7.trans kB8
  have E8 := Lib.hid (ho8.ints.low (Nat.zero_le _))
  clear ho8
  go_simp
  refine hK.out _ _ (keptS kA8) (fun hS => ?_)
  clear hK K
  try simp only [Act.put, List.getElem_toArray, List.getElem_cons_succ, List.getElem_cons_zero, List.setIfInBounds_toArray, List.set_cons_zero, List.set_cons_succ]
  refine wpAnyH_ready (rs := [31]) (by kernel_rfl) (by simp) ?_
  refine AllReadyH.cons rfl (fun K hK => ?_) AllReadyH.nil
  go_simp
  go_at_call 22
  refine (lessR_spec 0 _ _ _ X Y (go1 kA8 Hc.out.2.2.1) (go1 kA8 Hc.out.2.2.2) (by omega)).mono ?_
  rintro e A9 ⟨v9, rfl, ho9, kB9⟩
  have kA9 := kA8.trans kB9
  have E9 := Lib.hid (And.intro (ho9.ints.low (Nat.zero_le _)) (go1 kB9 E8.out))
  clear ho9
  go_simp
  refine hK.out _ _ (keptS kA9) (fun hS => ?_)
  clear hK K
  try simp only [Act.put, List.getElem_toArray, List.getElem_cons_succ, List.getElem_cons_zero, List.setIfInBounds_toArray, List.set_cons_zero, List.set_cons_succ]
  refine wpAnyH_ready (rs := [32]) (by kernel_rfl) (by simp) ?_
  refine AllReadyH.cons rfl (fun K hK => ?_) AllReadyH.nil
  go_simp
  go_at_call 16
  refine (same_spec 0 0 _ _ _ _ E9.out.2 E9.out.1).mono ?_
  rintro e AA ⟨rfl, kBA⟩
  have kAA := kA9.trans kBA
  go_simp
  refine hK.out _ _ (keptS kAA) (fun hS => ?_)
  clear hK K
  try simp only [Act.put, List.getElem_toArray, List.getElem_cons_succ, List.getElem_cons_zero, List.setIfInBounds_toArray, List.set_cons_zero, List.set_cons_succ]
  refine wpAnyH_take (i := 33) (v := ?_) rfl (by kernel_rfl) (by kernel_rfl) (by kernel_rfl) (fun _ _ _ h => h) (Or.inl ⟨by rfl, ?_⟩) (by assumption) ?_
  rotate_left
  · intro w' s1; obtain ⟨s, rfl⟩ := s1; go_simp; (try with_reducible rfl)
  simp only [Act.put, List.getElem_toArray, List.getElem_cons_succ, List.getElem_cons_zero, List.setIfInBounds_toArray, List.set_cons_zero, List.set_cons_succ]
  refine wpAnyH_take (i := 34) (v := ?_) rfl (by kernel_rfl) (by kernel_rfl) (by kernel_rfl) (fun _ _ _ h => h) (Or.inl ⟨by rfl, ?_⟩) (by assumption) ?_
  rotate_left
  · intro w' s1; obtain ⟨s, rfl⟩ := s1; go_simp; (try with_reducible rfl)
  simp only [Act.put, List.getElem_toArray, List.getElem_cons_succ, List.getElem_cons_zero, List.setIfInBounds_toArray, List.set_cons_zero, List.set_cons_succ]
  refine wpAnyH_ready (rs := [35]) (by kernel_rfl) (by simp) ?_
  refine AllReadyH.cons rfl (fun K hK => ?_) AllReadyH.nil
  go_simp
  go_simp
  refine hK.out _ _ (keptS kAA) (fun hS => ?_)
  clear hK K
  try simp only [Act.put, List.getElem_toArray, List.getElem_cons_succ, List.getElem_cons_zero, List.setIfInBounds_toArray, List.set_cons_zero, List.set_cons_succ]
  refine wpAnyH_done (by kernel_rfl) ?_ _
  have HF := Lib.hid (HL.out.2.2.2.trans kAA)
  clear kA1 kA2 kA3 kA4 kA5 kA6 kA7 kA8 kA9 kAA kB2 kB3 kB4 kB5 kB6 kB7 kB8 kB9 kBA hS
  go_wp2_with fail
  go_ret
  exact ⟨rfl, HF.out⟩

theorem postingLists_law (w : World) (hv : LibVar w) (v : Value) (hl : ∃ LL : List (List Int), Rows2 0 w v LL) (va : Value) (ha : ∃ zs : List Int, Ints 0 w va zs) (vb : Value) (hb : ∃ zs : List Int, Ints 0 w vb zs) :
    Calls Tryd.prog 4 #[v, va, vb] w fun e w' => e = .returned (.bool true) ∧ Keeps [] w w' := by
  obtain ⟨LL, hl⟩ := hl
  obtain ⟨a, ha⟩ := ha
  obtain ⟨b, hb⟩ := hb
  exact postingLists_walk w hv v LL hl va a ha vb b hb
end Go.Proofs.YtpopeeiiblhbeaaDoor
