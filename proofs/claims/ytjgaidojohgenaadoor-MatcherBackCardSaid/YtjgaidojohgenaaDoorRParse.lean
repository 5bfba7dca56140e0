/-
  The document's Parse at any text; same: matchers, and the document's.
  The text is no longer than 1000000 bytes.
-/
import Derived.Test.YtjgaidojohgenaaDoorROne
namespace Go.Proofs.YtjgaidojohgenaaDoor
open Go Go.RowKit

theorem mapB_at : ∀ (l : List ByteArray) (k : Nat) (hk : k < l.length), mparseB l[k] = none → mapB l = none
  | [], _, h, _ => absurd h (Nat.not_lt_zero _)
  | q :: l, 0, _, h => by
    unfold mapB
    rw [show mparseB q = none from h]
  | q :: l, k + 1, hk, h => by
    have ih := mapB_at l k (by simpa using hk) (by simpa using h)
    unfold mapB
    rw [ih]
    cases mparseB q <;> rfl

def RPRel (w : World) (parts : List ByteArray) (vp : Value) (gk : Nat) (u4 u16 : Value) (wr : World) : Prop :=
  ∃ (k : Nat) (E : List MatV) (L : List MatB), k ≤ parts.length ∧ gk = parts.length - k ∧ u16 = .int .i64 k ∧ E.length = k ∧ mapB (parts.take k) = some L ∧ wr.ownsRow w.heap.size 59 3 u4 E.length (E.flatMap encMV) ∧ ValsAt w.heap.size wr E L ∧ wr.ownsRow w.heap.size 9 1 vp parts.length (parts.map Value.string) ∧ Keeps [] w wr

set_option linter.unusedSimpArgs false in
set_option maxRecDepth 100000 in
set_option maxHeartbeats 1000000 in
theorem refParse_spec (w : World) (s : ByteArray) (hs : s.size ≤ 1000000) :
    Calls Tryd.prog 24 #[.string s] w (MsPost w (mparsesB s)) := by
  obtain ⟨ir, hir, hy0, hy1, hy2⟩ := info_parts infoMatR
  have k0 : Keeps [] w (w.alloc (.cells #[] 59)) := (Keeps.refl [] w).alloc _
  have H0 := Lib.hid (And.intro (own_made w w.heap.size 59 3 (Nat.le_refl _)) k0)
  clear k0
  obtain ⟨R, hR⟩ : ∃ R, R = mparsesB s := ⟨_, rfl⟩
  rw [← hR]
  have HR := Lib.hid hR
  clear hR
  go_enter Tryd.func24, Tryd.ntmps24
  by_cases hse : s = ⟨#[]⟩
  · subst hse
    go_wp2_with fail
    go_ret2
    rw [HR.out]
    exact ⟨_, rfl, mats_of (E := []) (L := []) (by simpa using H0.out.1) ⟨rfl, fun i hi => by simp at hi⟩, H0.out.2⟩
  obtain ⟨q1, q2, q3⟩ := not_empty hse
  have HR2 := Lib.hid (show R = mapB (partsB 44 s) from by rw [HR.out]; exact if_neg hse)
  clear HR hse
  go_wp2_with fail
  refine (cutR_spec _ s 44 hs).mono ?_
  rintro e w1 ⟨v1, rfl, hr1, hk1⟩
  have hps := parts_sizes 44 _ s (Nat.le_refl _)
  have H1 := Lib.hid (And.intro (row_base (b' := w.heap.size) hr1 (by have := H0.out.2.size; omega)) (go1 hk1 H0.out))
  obtain ⟨a1, c1, rfl, -, -, -⟩ := row_slice hr1
  have HP := Lib.hid hps
  clear hr1 hk1 H0 hps q1 q2 q3
  generalize partsB 44 s = parts at H1 HP HR2 ⊢
  have hpl : parts.length ≤ 1000001 := by have := HP.out.1; omega
  go_wp2_with fail
  go_loopg [4, 16] parts.length (RPRel w parts (.slice a1 parts.length c1))
  case atStart => exact ⟨0, [], [], Nat.zero_le _, rfl, rfl, rfl, rfl, by simpa using H1.out.2.1, ⟨rfl, fun i hi => by simp at hi⟩, H1.out.1, H1.out.2.2⟩
  case round =>
    obtain ⟨k, E, L, hk, hgk, rfl, hEk, hmap, hrow, hvals, hparts, hkw⟩ := hrel
    have hEL : E.length ≤ 1000001 := by omega
    have Hg := Lib.hid (And.intro hgk (And.intro hEk hmap))
    obtain ⟨a4, c4, rfl, -, -, -⟩ := row_slice hrow
    have Hr := Lib.hid (And.intro hrow (And.intro hvals (And.intro hparts hkw)))
    have hws := hkw.size
    clear hgk hEk hmap hrow hvals hparts hkw H1
    by_cases hlt : k < parts.length
    · have hlt' : (k : Int) < (parts.length : Int) := by omega
      obtain ⟨b, off, cap', ea, hbW, hcell⟩ := texts_at (row_texts Hr.out.2.2.1) (by omega)
      injection ea with ea _ ec
      subst ea ec
      have d0 := hcell k hlt
      rw [List.getD_eq_getElem?_getD, List.getElem?_eq_getElem hlt, Option.getD_some] at d0
      have hxz := HP.out.2 parts[k] (List.getElem_mem hlt)
      obtain ⟨x, hx⟩ : ∃ x, x = parts[k] := ⟨_, rfl⟩
      rw [← hx] at d0 hxz
      have Hx := Lib.hid hx
      clear hcell hx
      go_wp2_with fail
      refine (oneR_spec wr x (by omega)).mono ?_
      rintro e w2 ⟨mk, mn, mv, v2, bb, rfl, hr2, hmp, hk2⟩
      obtain ⟨a2, c2, rfl, -, -, -⟩ := row_slice hr2
      have kA : Keeps [] w2 (w2.alloc (.cells #[.int .i64 mk, .string mn, .slice a2 mv.length c2] 59)) := (Keeps.refl [] w2).alloc _
      have H2 := Lib.hid (And.intro (heap_new w2 (.cells #[.int .i64 mk, .string mn, .slice a2 mv.length c2] 59)) (And.intro (go1 kA (row_base (b' := w.heap.size) hr2 hws)) (go1 (hk2.trans kA) Hr.out)))
      have HM := Lib.hid hmp
      clear hr2 hk2 kA hmp d0
      have e0 : (w2.alloc (.cells #[.int .i64 mk, .string mn, .slice a2 mv.length c2] 59)).cell? ⟨w2.heap.size, 0, none⟩ = some (.int .i64 mk) := cells_at H2.out.1 0
      have e1 : (w2.alloc (.cells #[.int .i64 mk, .string mn, .slice a2 mv.length c2] 59)).cell? ⟨w2.heap.size, 1, none⟩ = some (.string mn) := cells_at H2.out.1 1
      have e2 : (w2.alloc (.cells #[.int .i64 mk, .string mn, .slice a2 mv.length c2] 59)).cell? ⟨w2.heap.size, 2, none⟩ = some (.slice a2 mv.length c2) := cells_at H2.out.1 2
      have l2 := lt_of_at H2.out.1
      cases bb with
      | false =>
        go_wp2_with fail
        go_ret2
        rw [HR2.out, mapB_at parts k hlt (by rw [← Hx.out, HM.out]; rfl)]
        exact ⟨rfl, H2.out.2.2.2.2.2⟩
      | true =>
        have kB : Keeps [] (w2.alloc (.cells #[.int .i64 mk, .string mn, .slice a2 mv.length c2] 59)) ((w2.alloc (.cells #[.int .i64 mk, .string mn, .slice a2 mv.length c2] 59)).alloc (.cells #[.int .i64 mk, .string mn, .slice a2 mv.length c2] 59)) := (Keeps.refl [] _).alloc _
        have H3 := Lib.hid (And.intro (new2 w2 (.cells #[.int .i64 mk, .string mn, .slice a2 mv.length c2] 59) (.cells #[.int .i64 mk, .string mn, .slice a2 mv.length c2] 59)).2 (go1 kB H2.out.2))
        clear kB
        go_wp2_with (at_builtin; refine wpList_append_own _ rfl (.tmp 27) (.tmp 29) 47 rfl w.heap.size 59 ir _ 3 48 Tryd.underlying47 hir hy0 hy1 hy2 rfl (by decide) (.slice a4 E.length c4) E.length (E.flatMap encMV) rfl H3.out.2.2.1 ⟨w2.heap.size + 1, 0, none⟩ 1 1 [.int .i64 mk, .string mn, .slice a2 mv.length c2] rfl rfl (news_three H3.out.1) (by simp [Value.oneCell']) (by simp only [maxLen]; omega) (by omega) H3.out.2.2.2.2.2.size ?_; intro v6 w6 hown6 hgrow6 hnil6; clear hnil6; obtain ⟨a6, c6, rfl, -, -, -⟩ := row_slice hown6; have k6 := keeps_row hgrow6; have hN := H3.out.2.2.1; have H6 := Lib.hid (And.intro hown6 (And.intro ((H3.out.2.2.2.1.keep k6 (fun _ _ _ hr => rows_ne2 hN hr (by decide))).snoc (k := mk) (n := mn) (k6.row H3.out.2.1 (rows_ne2 hN H3.out.2.1 (by decide)))) (And.intro (k6.row H3.out.2.2.2.2.1 (rows_ne2 hN H3.out.2.2.2.2.1 (by decide))) (keeps_own H3.out.2.2.2.2.2 hgrow6 (fun q hq => (World.ownsRow.lt hN q hq).1))))); clear hown6 hgrow6 k6 hN)
        go_roundg (parts.length - (k + 1))
        case measure => have := Hg.out.1; omega
        case rel =>
          refine ⟨k + 1, E ++ [(mk, mn, .slice a2 mv.length c2)], L ++ [(mk, mn, mv)], hlt, rfl, by go_num, by rw [List.length_append, Hg.out.2.1]; rfl, ?_, ?_, H6.out.2.1, H6.out.2.2.1, H6.out.2.2.2⟩
          · rw [List.take_add_one, List.getElem?_eq_getElem hlt, Option.toList_some, mapB_snoc, Hg.out.2.2, ← Hx.out, HM.out]
            rfl
          · have h6 := H6.out.1
            rw [List.length_append, List.flatMap_append]
            simpa [encMV] using h6
    · have hlt' : ¬ (k : Int) < (parts.length : Int) := by omega
      have HE := Lib.hid (show mapB parts = some L from by have := Hg.out.2.2; rwa [List.take_of_length_le (by omega)] at this)
      go_wp2_with fail
      go_ret2
      rw [HR2.out, HE.out]
      exact ⟨_, rfl, mats_of Hr.out.1 Hr.out.2.1, Hr.out.2.2.2⟩
/-! ### same -/
def SameRel (w : World) (L : List MatB) (gk : Nat) (u16 : Value) (wr : World) : Prop := ∃ k, k ≤ L.length ∧ gk = L.length - k ∧ u16 = .int .i64 k ∧ Keeps [] w wr

def SameIn (w : World) (V : List ByteArray) (gk : Nat) (u54 : Value) (wr : World) : Prop := ∃ j, j ≤ V.length ∧ gk = V.length - j ∧ u54 = .int .i64 j ∧ wr = w

set_option linter.unusedSimpArgs false in
set_option maxRecDepth 100000 in
set_option maxHeartbeats 1000000 in
theorem sameM_spec (w : World) (va vb : Value) (L : List MatB) (ha : MatsAt w va L) (hb : MatsAt w vb L) :
    Calls Tryd.prog 26 #[va, vb] w fun e w' => e = .returned (.bool true) ∧ Keeps [] w w' := by
  have HM := Lib.hid (And.intro ha hb)
  obtain ⟨aa, ca, rfl, hla⟩ := ha.form
  obtain ⟨ab, cb, rfl, -⟩ := hb.form
  unfold maxLen at hla
  clear ha hb
  go_enter Tryd.func26, Tryd.ntmps26
  go_wp2_with fail
  go_loopg [16] L.length (SameRel w L)
  case atStart => exact ⟨0, Nat.zero_le _, rfl, rfl, Keeps.refl _ _⟩
  case round =>
    obtain ⟨k, hk, hgk, rfl, hkw⟩ := hrel
    have Hg := Lib.hid hgk
    clear hgk
    by_cases hlt : k < L.length
    · have hlt' : (k : Int) < (L.length : Int) := by omega
      obtain ⟨b, off, cap', u, ea, hbW, d0, d1, d2, hu⟩ := (HM.out.1.keep hkw).at_ k hlt
      injection ea with ea _ ec
      subst ea ec
      obtain ⟨b', off', cap', u', ea, hbW', e0, e1, e2, hu'⟩ := (HM.out.2.keep hkw).at_ k hlt
      injection ea with ea _ ec
      subst ea ec
      generalize L[k] = m at d0 d1 hu e0 e1 hu'
      obtain ⟨mk, mn, mv⟩ := m
      dsimp only at d0 d1 hu e0 e1 hu'
      obtain ⟨W0, hW0⟩ : ∃ W0, W0 = (wr.alloc (.cells #[.int .i64 mk, .string mn, u'] 59)).drew := ⟨_, rfl⟩
      have kW : Keeps [] wr W0 := by rw [hW0]; exact ((Keeps.refl [] wr).alloc _).drew
      have np : W0.heap[wr.heap.size]? = some (.cells #[.int .i64 mk, .string mn, u'] 59 (0, 0)) := by rw [hW0]; exact heap_new wr (.cells #[.int .i64 mk, .string mn, u'] 59)
      have HU := Lib.hid (And.intro (hu.keep kW) (And.intro (hu'.keep kW) (And.intro (hkw.trans kW) (And.intro np ((kW.cell hbW (by simp)).trans d2)))))
      obtain ⟨ua, uc, rfl, hul, -⟩ := hu
      obtain ⟨ub, ud, rfl, -, -⟩ := hu'
      unfold maxLen at hul
      have D0 : ∀ s : Kept W0, s.val.cell? ⟨wr.heap.size, 0, none⟩ = some (.int .i64 mk) := keptCell (cells_at np 0)
      have D1 : ∀ s : Kept W0, s.val.cell? ⟨wr.heap.size, 1, none⟩ = some (.string mn) := keptCell (cells_at np 1)
      have D2 : ∀ s : Kept W0, s.val.cell? ⟨wr.heap.size, 2, none⟩ = some (.slice ub mv.length ud) := keptCell (cells_at np 2)
      have E0 : ∀ s : Kept W0, s.val.cell? ⟨b, off + k * 3, none⟩ = some (.int .i64 mk) := keptCell ((kW.cell hbW (by simp)).trans d0)
      have E1 : ∀ s : Kept W0, s.val.cell? ⟨b, off + k * 3 + 1, none⟩ = some (.string mn) := keptCell ((kW.cell hbW (by simp)).trans d1)
      have E2 : ∀ s : Kept W0, s.val.cell? ⟨b, off + k * 3 + 2, none⟩ = some (.slice ua mv.length uc) := keptCell ((kW.cell hbW (by simp)).trans d2)
      have hn1 : (mk != mk) = false := by simp
      have hn2 : (mn.toList != mn.toList) = false := by simp
      have hn3 : ((mv.length : Int) != (mv.length : Int)) = false := by simp
      have hbW0 : b < W0.heap.size := kW.lt hbW
      have HW := Lib.hid hW0
      clear hkw kW np hW0
      go_upto_region 6 with fail
      refine wp_region_held_drew (S := KeptS W0) (by kernel_rfl) (by rw [← HW.out]; exact keptS (Keeps.refl _ _)) (fun hS => ?_)
      rw [← HW.out] at hS ⊢
      generalize wr.heap.size = pk at D0 D1 D2 HU ⊢
      clear d0 d1 d2 e0 e1 e2 HW
      refine wpAnyH_take (i := 0) (v := ?_) rfl (by kernel_rfl) (by kernel_rfl) (by kernel_rfl) (fun _ _ _ h => h) (Or.inl ⟨by rfl, ?_⟩) (by assumption) ?_
      rotate_left
      · intro w' s1; obtain ⟨s, rfl⟩ := s1; go_simp; (try with_reducible rfl)
      simp only [Act.put, List.getElem_toArray, List.getElem_cons_succ, List.getElem_cons_zero, List.setIfInBounds_toArray, List.set_cons_zero, List.set_cons_succ]
      refine wpAnyH_take (i := 1) (v := ?_) rfl (by kernel_rfl) (by kernel_rfl) (by kernel_rfl) (fun _ _ _ h => h) (Or.inl ⟨by rfl, ?_⟩) (by assumption) ?_
      rotate_left
      · intro w' s1; obtain ⟨s, rfl⟩ := s1; go_simp; (try with_reducible rfl)
      simp only [Act.put, List.getElem_toArray, List.getElem_cons_succ, List.getElem_cons_zero, List.setIfInBounds_toArray, List.set_cons_zero, List.set_cons_succ]
      refine wpAnyH_take (i := 2) (v := ?_) rfl (by kernel_rfl) (by kernel_rfl) (by kernel_rfl) (fun _ _ _ h => h) (Or.inl ⟨by rfl, ?_⟩) (by assumption) ?_
      rotate_left
      · intro w' s1; obtain ⟨s, rfl⟩ := s1; go_simp; (try with_reducible rfl)
      simp only [Act.put, List.getElem_toArray, List.getElem_cons_succ, List.getElem_cons_zero, List.setIfInBounds_toArray, List.set_cons_zero, List.set_cons_succ]
      refine wpAnyH_take (i := 3) (v := ?_) rfl (by kernel_rfl) (by kernel_rfl) (by kernel_rfl) (fun _ _ _ h => h) (Or.inl ⟨by rfl, ?_⟩) (by assumption) ?_
      rotate_left
      · intro w' s1; obtain ⟨s, rfl⟩ := s1; go_simp; (try with_reducible rfl)
      simp only [Act.put, List.getElem_toArray, List.getElem_cons_succ, List.getElem_cons_zero, List.setIfInBounds_toArray, List.set_cons_zero, List.set_cons_succ]
      refine wpAnyH_take (i := 4) (v := ?_) rfl (by kernel_rfl) (by kernel_rfl) (by kernel_rfl) (fun _ _ _ h => h) (Or.inl ⟨by rfl, ?_⟩) (by assumption) ?_
      rotate_left
      · intro w' s1; obtain ⟨s, rfl⟩ := s1; go_simp; (try with_reducible rfl)
      simp only [Act.put, List.getElem_toArray, List.getElem_cons_succ, List.getElem_cons_zero, List.setIfInBounds_toArray, List.set_cons_zero, List.set_cons_succ]
      refine wpAnyH_take (i := 5) (v := ?_) rfl (by kernel_rfl) (by kernel_rfl) (by kernel_rfl) (fun _ _ _ h => h) (Or.inl ⟨by rfl, ?_⟩) (by assumption) ?_
      rotate_left
      · intro w' s1; obtain ⟨s, rfl⟩ := s1; go_simp; (try with_reducible rfl)
      simp only [Act.put, List.getElem_toArray, List.getElem_cons_succ, List.getElem_cons_zero, List.setIfInBounds_toArray, List.set_cons_zero, List.set_cons_succ]
      refine wpAnyH_take (i := 6) (v := ?_) rfl (by kernel_rfl) (by kernel_rfl) (by kernel_rfl) (fun _ _ _ h => h) (Or.inl ⟨by rfl, ?_⟩) (by assumption) ?_
      rotate_left
      · intro w' s1; obtain ⟨s, rfl⟩ := s1; go_simp; (try with_reducible rfl)
      simp only [Act.put, List.getElem_toArray, List.getElem_cons_succ, List.getElem_cons_zero, List.setIfInBounds_toArray, List.set_cons_zero, List.set_cons_succ]
      refine wpAnyH_take (i := 7) (v := ?_) rfl (by kernel_rfl) (by kernel_rfl) (by kernel_rfl) (fun _ _ _ h => h) (Or.inl ⟨by rfl, ?_⟩) (by assumption) ?_
      rotate_left
      · intro w' s1; obtain ⟨s, rfl⟩ := s1; go_simp; (try with_reducible rfl)
      simp only [Act.put, List.getElem_toArray, List.getElem_cons_succ, List.getElem_cons_zero, List.setIfInBounds_toArray, List.set_cons_zero, List.set_cons_succ]
      refine wpAnyH_take (i := 8) (v := ?_) rfl (by kernel_rfl) (by kernel_rfl) (by kernel_rfl) (fun _ _ _ h => h) (Or.inl ⟨by rfl, ?_⟩) (by assumption) ?_
      rotate_left
      · intro w' s1; obtain ⟨s, rfl⟩ := s1; go_simp; (try with_reducible rfl)
      simp only [Act.put, List.getElem_toArray, List.getElem_cons_succ, List.getElem_cons_zero, List.setIfInBounds_toArray, List.set_cons_zero, List.set_cons_succ]
      refine wpAnyH_take (i := 9) (v := ?_) rfl (by kernel_rfl) (by kernel_rfl) (by kernel_rfl) (fun _ _ _ h => h) (Or.inl ⟨by rfl, ?_⟩) (by assumption) ?_
      rotate_left
      · intro w' s1; obtain ⟨s, rfl⟩ := s1; go_simp; (try with_reducible rfl)
      simp only [Act.put, List.getElem_toArray, List.getElem_cons_succ, List.getElem_cons_zero, List.setIfInBounds_toArray, List.set_cons_zero, List.set_cons_succ]
      refine wpAnyH_take (i := 10) (v := ?_) rfl (by kernel_rfl) (by kernel_rfl) (by kernel_rfl) (fun _ _ _ h => h) (Or.inl ⟨by rfl, ?_⟩) (by assumption) ?_
      rotate_left
      · intro w' s1; obtain ⟨s, rfl⟩ := s1; go_simp; (try with_reducible rfl)
      simp only [Act.put, List.getElem_toArray, List.getElem_cons_succ, List.getElem_cons_zero, List.setIfInBounds_toArray, List.set_cons_zero, List.set_cons_succ]
      refine wpAnyH_take (i := 11) (v := ?_) rfl (by kernel_rfl) (by kernel_rfl) (by kernel_rfl) (fun _ _ _ h => h) (Or.inl ⟨by rfl, ?_⟩) (by assumption) ?_
      rotate_left
      · intro w' s1; obtain ⟨s, rfl⟩ := s1; go_simp; (try with_reducible rfl)
      simp only [Act.put, List.getElem_toArray, List.getElem_cons_succ, List.getElem_cons_zero, List.setIfInBounds_toArray, List.set_cons_zero, List.set_cons_succ]
      refine wpAnyH_take (i := 12) (v := ?_) rfl (by kernel_rfl) (by kernel_rfl) (by kernel_rfl) (fun _ _ _ h => h) (Or.inl ⟨by rfl, ?_⟩) (by assumption) ?_
      rotate_left
      · intro w' s1; obtain ⟨s, rfl⟩ := s1; go_simp; (try with_reducible rfl)
      simp only [Act.put, List.getElem_toArray, List.getElem_cons_succ, List.getElem_cons_zero, List.setIfInBounds_toArray, List.set_cons_zero, List.set_cons_succ]
      refine wpAnyH_take (i := 13) (v := ?_) rfl (by kernel_rfl) (by kernel_rfl) (by kernel_rfl) (fun _ _ _ h => h) (Or.inl ⟨by rfl, ?_⟩) (by assumption) ?_
      rotate_left
      · intro w' s1; obtain ⟨s, rfl⟩ := s1; go_simp; (try with_reducible rfl)
      simp only [Act.put, List.getElem_toArray, List.getElem_cons_succ, List.getElem_cons_zero, List.setIfInBounds_toArray, List.set_cons_zero, List.set_cons_succ]
      refine wpAnyH_take (i := 14) (v := ?_) rfl (by kernel_rfl) (by kernel_rfl) (by kernel_rfl) (fun _ _ _ h => h) (Or.inl ⟨by rfl, ?_⟩) (by assumption) ?_
      rotate_left
      · intro w' s1; obtain ⟨s, rfl⟩ := s1; go_simp; (try with_reducible rfl)
      simp only [Act.put, List.getElem_toArray, List.getElem_cons_succ, List.getElem_cons_zero, List.setIfInBounds_toArray, List.set_cons_zero, List.set_cons_succ]
      refine wpAnyH_take (i := 15) (v := ?_) rfl (by kernel_rfl) (by kernel_rfl) (by kernel_rfl) (fun _ _ _ h => h) (Or.inl ⟨by rfl, ?_⟩) (by assumption) ?_
      rotate_left
      · intro w' s1; obtain ⟨s, rfl⟩ := s1; go_simp; (try with_reducible rfl)
      simp only [Act.put, List.getElem_toArray, List.getElem_cons_succ, List.getElem_cons_zero, List.setIfInBounds_toArray, List.set_cons_zero, List.set_cons_succ]
      refine wpAnyH_take (i := 16) (v := ?_) rfl (by kernel_rfl) (by kernel_rfl) (by kernel_rfl) (fun _ _ _ h => h) (Or.inl ⟨by rfl, ?_⟩) (by assumption) ?_
      rotate_left
      · intro w' s1; obtain ⟨s, rfl⟩ := s1; go_simp; (try with_reducible rfl)
      simp only [Act.put, List.getElem_toArray, List.getElem_cons_succ, List.getElem_cons_zero, List.setIfInBounds_toArray, List.set_cons_zero, List.set_cons_succ]
      refine wpAnyH_take (i := 17) (v := ?_) rfl (by kernel_rfl) (by kernel_rfl) (by kernel_rfl) (fun _ _ _ h => h) (Or.inl ⟨by rfl, ?_⟩) (by assumption) ?_
      rotate_left
      · intro w' s1; obtain ⟨s, rfl⟩ := s1; go_simp; (try with_reducible rfl)
      simp only [Act.put, List.getElem_toArray, List.getElem_cons_succ, List.getElem_cons_zero, List.setIfInBounds_toArray, List.set_cons_zero, List.set_cons_succ]
      refine wpAnyH_take (i := 18) (v := ?_) rfl (by kernel_rfl) (by kernel_rfl) (by kernel_rfl) (fun _ _ _ h => h) (Or.inl ⟨by rfl, ?_⟩) (by assumption) ?_
      rotate_left
      · intro w' s1; obtain ⟨s, rfl⟩ := s1; go_simp; (try with_reducible rfl)
      simp only [Act.put, List.getElem_toArray, List.getElem_cons_succ, List.getElem_cons_zero, List.setIfInBounds_toArray, List.set_cons_zero, List.set_cons_succ]
      refine wpAnyH_take (i := 19) (v := ?_) rfl (by kernel_rfl) (by kernel_rfl) (by kernel_rfl) (fun _ _ _ h => h) (Or.inl ⟨by rfl, ?_⟩) (by assumption) ?_
      rotate_left
      · intro w' s1; obtain ⟨s, rfl⟩ := s1; go_simp; (try with_reducible rfl)
      simp only [Act.put, List.getElem_toArray, List.getElem_cons_succ, List.getElem_cons_zero, List.setIfInBounds_toArray, List.set_cons_zero, List.set_cons_succ]
      refine wpAnyH_take (i := 20) (v := ?_) rfl (by kernel_rfl) (by kernel_rfl) (by kernel_rfl) (fun _ _ _ h => h) (Or.inl ⟨by rfl, ?_⟩) (by assumption) ?_
      rotate_left
      · intro w' s1; obtain ⟨s, rfl⟩ := s1; go_simp; (try with_reducible rfl)
      simp only [Act.put, List.getElem_toArray, List.getElem_cons_succ, List.getElem_cons_zero, List.setIfInBounds_toArray, List.set_cons_zero, List.set_cons_succ]
      refine wpAnyH_take (i := 21) (v := ?_) rfl (by kernel_rfl) (by kernel_rfl) (by kernel_rfl) (fun _ _ _ h => h) (Or.inl ⟨by rfl, ?_⟩) (by assumption) ?_
      rotate_left
      · intro w' s1; obtain ⟨s, rfl⟩ := s1; go_simp; (try with_reducible rfl)
      simp only [Act.put, List.getElem_toArray, List.getElem_cons_succ, List.getElem_cons_zero, List.setIfInBounds_toArray, List.set_cons_zero, List.set_cons_succ]
      refine wpAnyH_take (i := 22) (v := ?_) rfl (by kernel_rfl) (by kernel_rfl) (by kernel_rfl) (fun _ _ _ h => h) (Or.inl ⟨by rfl, ?_⟩) (by assumption) ?_
      rotate_left
      · intro w' s1; obtain ⟨s, rfl⟩ := s1; go_simp; (try with_reducible rfl)
      simp only [Act.put, List.getElem_toArray, List.getElem_cons_succ, List.getElem_cons_zero, List.setIfInBounds_toArray, List.set_cons_zero, List.set_cons_succ]
      refine wpAnyH_take (i := 23) (v := ?_) rfl (by kernel_rfl) (by kernel_rfl) (by kernel_rfl) (fun _ _ _ h => h) (Or.inl ⟨by rfl, ?_⟩) (by assumption) ?_
      rotate_left
      · intro w' s1; obtain ⟨s, rfl⟩ := s1; go_simp; (try with_reducible rfl)
      simp only [Act.put, List.getElem_toArray, List.getElem_cons_succ, List.getElem_cons_zero, List.setIfInBounds_toArray, List.set_cons_zero, List.set_cons_succ]
      refine wpAnyH_take (i := 24) (v := ?_) rfl (by kernel_rfl) (by kernel_rfl) (by kernel_rfl) (fun _ _ _ h => h) (Or.inl ⟨by rfl, ?_⟩) (by assumption) ?_
      rotate_left
      · intro w' s1; obtain ⟨s, rfl⟩ := s1; go_simp; (try with_reducible rfl)
      simp only [Act.put, List.getElem_toArray, List.getElem_cons_succ, List.getElem_cons_zero, List.setIfInBounds_toArray, List.set_cons_zero, List.set_cons_succ]
      refine wpAnyH_take (i := 25) (v := ?_) rfl (by kernel_rfl) (by kernel_rfl) (by kernel_rfl) (fun _ _ _ h => h) (Or.inl ⟨by rfl, ?_⟩) (by assumption) ?_
      rotate_left
      · intro w' s1; obtain ⟨s, rfl⟩ := s1; go_simp; (try with_reducible rfl)
      simp only [Act.put, List.getElem_toArray, List.getElem_cons_succ, List.getElem_cons_zero, List.setIfInBounds_toArray, List.set_cons_zero, List.set_cons_succ]
      refine wpAnyH_take (i := 26) (v := ?_) rfl (by kernel_rfl) (by kernel_rfl) (by kernel_rfl) (fun _ _ _ h => h) (Or.inl ⟨by rfl, ?_⟩) (by assumption) ?_
      rotate_left
      · intro w' s1; obtain ⟨s, rfl⟩ := s1; go_simp; (try with_reducible rfl)
      simp only [Act.put, List.getElem_toArray, List.getElem_cons_succ, List.getElem_cons_zero, List.setIfInBounds_toArray, List.set_cons_zero, List.set_cons_succ]
      refine wpAnyH_take (i := 27) (v := ?_) rfl (by kernel_rfl) (by kernel_rfl) (by kernel_rfl) (fun _ _ _ h => h) (Or.inl ⟨by rfl, ?_⟩) (by assumption) ?_
      rotate_left
      · intro w' s1; obtain ⟨s, rfl⟩ := s1; go_simp; (try with_reducible rfl)
      simp only [Act.put, List.getElem_toArray, List.getElem_cons_succ, List.getElem_cons_zero, List.setIfInBounds_toArray, List.set_cons_zero, List.set_cons_succ]
      refine wpAnyH_take (i := 28) (v := ?_) rfl (by kernel_rfl) (by kernel_rfl) (by kernel_rfl) (fun _ _ _ h => h) (Or.inl ⟨by rfl, ?_⟩) (by assumption) ?_
      rotate_left
      · intro w' s1; obtain ⟨s, rfl⟩ := s1; go_simp; (try with_reducible rfl)
      simp only [Act.put, List.getElem_toArray, List.getElem_cons_succ, List.getElem_cons_zero, List.setIfInBounds_toArray, List.set_cons_zero, List.set_cons_succ]
      refine wpAnyH_take (i := 29) (v := ?_) rfl (by kernel_rfl) (by kernel_rfl) (by kernel_rfl) (fun _ _ _ h => h) (Or.inl ⟨by rfl, ?_⟩) (by assumption) ?_
      rotate_left
      · intro w' s1; obtain ⟨s, rfl⟩ := s1; go_simp; (try with_reducible rfl)
      simp only [Act.put, List.getElem_toArray, List.getElem_cons_succ, List.getElem_cons_zero, List.setIfInBounds_toArray, List.set_cons_zero, List.set_cons_succ]
      refine wpAnyH_done (by kernel_rfl) ?_ _
      clear hS D0 D1 D2 E0 E1 E2
      have c2 : W0.cell? ⟨pk, 2, none⟩ = some (.slice ub mv.length ud) := cells_at HU.out.2.2.2.1 2
      go_wp2_with fail
      clear c2
      go_loopg [54] mv.length (SameIn W0 mv)
      case atStart => exact ⟨0, Nat.zero_le _, rfl, rfl, rfl⟩
      case round =>
        obtain ⟨j, hj, hgj, rfl, hw⟩ := hrel
        subst hw
        have Hj := Lib.hid hgj
        clear hgj
        by_cases hlj : j < mv.length
        · have hlj' : (j : Int) < (mv.length : Int) := by omega
          obtain ⟨x1, x2, x3, ea, hx1, hc1⟩ := texts_at HU.out.1 (by omega)
          injection ea with ea _ ec
          subst ea ec
          obtain ⟨y1, y2, y3, ea, hy1, hc2⟩ := texts_at HU.out.2.1 (by omega)
          injection ea with ea _ ec
          subst ea ec
          have p0 := hc1 j hlj
          have p1 := hc2 j hlj
          have p2 := HU.out.2.2.2.2
          generalize mv.getD j ByteArray.empty = z at p0 p1
          have hn4 : (z.toList != z.toList) = false := by simp
          clear hc1 hc2
          go_wp2_with fail
          go_roundg (mv.length - (j + 1))
          case measure => have := Hj.out; omega
          case rel => exact ⟨j + 1, hlj, rfl, by go_num, rfl⟩
        · have hlj' : ¬ (j : Int) < (mv.length : Int) := by omega
          go_wp2_with fail
          go_roundg (L.length - (k + 1))
          case measure => have := Hg.out; omega
          case rel => exact ⟨k + 1, hlt, rfl, by go_num, HU.out.2.2.1⟩
    · have hlt' : ¬ (k : Int) < (L.length : Int) := by omega
      have Hk := Lib.hid hkw
      clear hkw
      go_wp2_with fail
      go_ret
      exact ⟨rfl, Hk.out⟩
end Go.Proofs.YtjgaidojohgenaaDoor
