/-
  MatcherMatches, walked.
  The variable matcher.signs holds its five signs; the library's variable internal/bytealg.MaxLen holds some number.
-/
import Derived.Test.YtjgaidojohgenaaDoorAwake13
import Derived.Test.YtjgaidojohgenaaDoorMatArgs
import Derived.Test.YtjgaidojohgenaaDoorSignsOf
namespace Go.Proofs.YtjgaidojohgenaaDoor
open Go Go.RowKit

def MatchesRel (w : World) (L : List MatB) (gk : Nat) (u36 : Value) (wr : World) : Prop := ∃ k, k ≤ L.length ∧ gk = L.length - k ∧ u36 = .int .i64 k ∧ Keeps [] w wr

set_option linter.unusedSimpArgs false in
set_option maxRecDepth 100000 in
set_option maxHeartbeats 1000000 in
theorem matches_walk (w : World) (hv : LibVar w) (hsg : SignsAt w) (v0 : Value) (P : List PairB) (h0 : SliceArg 2 encPB w v0 P) (v1 : Value) (M : List MatB) (h1 : MatsAt w v1 M) (x : ByteArray) :
    Calls Tryd.prog 5 #[v0, v1, .string x] w fun e w' => e = .returned (.bool true) ∧ Keeps [] w w' := by
  have H0 := Lib.hid (And.intro (And.intro hsg hv) (And.intro h0 (And.intro h1 (Keeps.refl [] w))))
  obtain ⟨ao0, cap0, rfl, -, -⟩ := h0
  obtain ⟨ao1, cap1, rfl, -⟩ := h1.form
  clear hv hsg h1
  go_enter Tryd.func5, Tryd.ntmps5
  go_wp2_with fail
  refine (cut_any x 40 _ (by decide)).mono ?_
  rintro e w' ⟨rfl, rfl⟩
  generalize cut x 40 = y
  go_wp2_with fail
  refine (few13_spec _ _ M H0.out.2.2.1).mono ?_
  rintro e w2 ⟨va, vb, L, rfl, ha, hb, hchk, -, hk2⟩
  have H2 := Lib.hid (And.intro ha (And.intro hb (go1 hk2 H0.out)))
  have Hmay := Lib.hid (show ∀ m ∈ L, mayK m from fun m hm => chkB_may (hchk m hm))
  obtain ⟨aa, ca, rfl, hla⟩ := ha.form
  obtain ⟨ab, cb, rfl, -⟩ := hb.form
  unfold maxLen at hla
  clear ha hb hk2 hchk H0
  go_wp2_with fail
  refine (few6_spec w2 _ P H2.out.2.2.2.1).mono ?_
  rintro e w3 ⟨v3, rfl, hr3, hk3⟩
  have H3 := Lib.hid (And.intro (row_pairs hr3) (go1 hk3 H2.out))
  obtain ⟨a3, c3, rfl, -, -, -⟩ := row_slice hr3
  clear hr3 hk3 H2
  go_wp2_with fail
  refine (awake13_spec w3 H3.out.2.2.2.1.1 H3.out.2.2.2.1.2).mono ?_
  rintro e w4 ⟨rfl, hk4⟩
  have H4 := Lib.hid (go1 hk4 H3.out)
  clear hk4 H3
  go_wp2_with fail
  refine (match_spec w4 _ _ (few6 P) L H4.out.1 H4.out.2.1 Hmay.out).mono ?_
  rintro e w5 ⟨rfl, hk5⟩
  have H5 := Lib.hid (go1 hk5 H4.out.2)
  clear hk5 H4
  go_wp2_with fail
  refine (few6_spec w5 _ P H5.out.2.2.2.1).mono ?_
  rintro e w6 ⟨v6, rfl, hr6, hk6⟩
  have H6 := Lib.hid (And.intro (row_pairs hr6) (go1 hk6 H5.out))
  obtain ⟨a6, c6, rfl, -, -, -⟩ := row_slice hr6
  clear hr6 hk6 H5
  go_wp2_with fail
  refine (told6_spec w6 _ (few6 P) H6.out.1 (few6_len P)).mono ?_
  rintro e w7 ⟨v7, rfl, hr7, hk7⟩
  have H7 := Lib.hid (And.intro (row_pairs hr7) (go1 hk7 H6.out.2))
  obtain ⟨a7, c7, rfl, -, -, -⟩ := row_slice hr7
  clear hr7 hk7 H6
  go_wp2_with fail
  refine (matchR_spec w7 _ _ (few6 P) L H7.out.1 H7.out.2.2.1 Hmay.out).mono ?_
  rintro e w8 ⟨rfl, hk8⟩
  have H8 := Lib.hid (go1 hk8 H7.out.2)
  clear hk8 H7
  generalize L.all (fitsM (few6 P)) = bb
  have hbb : (bb != bb) = false := by simp
  go_wp2_with fail
  go_loopg [36] L.length (MatchesRel w8 L)
  case atStart => exact ⟨0, Nat.zero_le _, rfl, rfl, Keeps.refl _ _⟩
  case round =>
    obtain ⟨k, hk, hgk, rfl, hkw⟩ := hrel
    have Hg := Lib.hid hgk
    clear hgk
    by_cases hlt : k < L.length
    · have hlt' : (k : Int) < (L.length : Int) := by omega
      obtain ⟨b, off, cap', u, ea, hbW, d0, d1, d2, hu⟩ := (H8.out.1.keep hkw).at_ k hlt
      injection ea with ea _ ec
      subst ea ec
      obtain ⟨b', off', cap', u', ea, hbW', e0, e1, e2, hu'⟩ := (H8.out.2.1.keep hkw).at_ k hlt
      injection ea with ea _ ec
      subst ea ec
      have hmk := Hmay.out L[k] (List.getElem_mem hlt)
      generalize L[k] = m at d0 d1 hu e0 e1 hu' hmk
      obtain ⟨mk, mn, mv⟩ := m
      dsimp only at d0 d1 hu e0 e1 hu' hmk
      obtain ⟨W0, hW0⟩ : ∃ W0, W0 = (wr.alloc (.cells #[.int .i64 mk, .string mn, u] 56)).drew := ⟨_, rfl⟩
      have kW : Keeps [] wr W0 := by rw [hW0]; exact ((Keeps.refl [] wr).alloc _).drew
      have hp : W0.heap[wr.heap.size]? = some (.cells #[.int .i64 mk, .string mn, u] 56 (0, 0)) := by rw [hW0]; exact heap_new wr (.cells #[.int .i64 mk, .string mn, u] 56)
      have Hu := Lib.hid (And.intro (hu.keep kW) (And.intro (hu'.keep kW) (And.intro hmk (hkw.trans kW))))
      obtain ⟨ua, uc, rfl, -, -⟩ := hu
      obtain ⟨ub, ud, rfl, -, -⟩ := hu'
      have D0 : ∀ s : Kept W0, s.val.cell? ⟨wr.heap.size, 0, none⟩ = some (.int .i64 mk) := keptCell (cells_at hp 0)
      have D1 : ∀ s : Kept W0, s.val.cell? ⟨wr.heap.size, 1, none⟩ = some (.string mn) := keptCell (cells_at hp 1)
      have D2 : ∀ s : Kept W0, s.val.cell? ⟨wr.heap.size, 2, none⟩ = some (.slice ua mv.length uc) := keptCell (cells_at hp 2)
      have E0 : ∀ s : Kept W0, s.val.cell? ⟨b', off' + k * 3, none⟩ = some (.int .i64 mk) := keptCell ((kW.cell hbW' (by simp)).trans e0)
      have E1 : ∀ s : Kept W0, s.val.cell? ⟨b', off' + k * 3 + 1, none⟩ = some (.string mn) := keptCell ((kW.cell hbW' (by simp)).trans e1)
      have E2 : ∀ s : Kept W0, s.val.cell? ⟨b', off' + k * 3 + 2, none⟩ = some (.slice ub mv.length ud) := keptCell ((kW.cell hbW' (by simp)).trans e2)
      have HW := Lib.hid hW0
      clear hkw kW hp hW0 hmk e0 e1 e2
      go_upto_region 9 with fail
      refine wp_region_held_drew (S := KeptS W0) (by kernel_rfl) (by rw [← HW.out]; exact keptS (Keeps.refl _ _)) (fun hS => ?_)
      rw [← HW.out] at hS ⊢
      generalize wr.heap.size = pk at D0 D1 D2 ⊢
      clear d0 d1 d2 HW
      refine wpAnyH_take (i := 0) (v := ?_) rfl (by kernel_rfl) (by kernel_rfl) (by kernel_rfl) (fun _ _ _ h => h) (Or.inl ⟨by rfl, ?_⟩) (by assumption) ?_
      rotate_left
      · intro w' s1; obtain ⟨s, rfl⟩ := s1; go_simp; (try with_reducible rfl)
      simp only [Act.put, List.getElem_toArray, List.getElem_cons_succ, List.getElem_cons_zero, List.setIfInBounds_toArray, List.set_cons_zero, List.set_cons_succ]
      refine wpAnyH_take (i := 1) (v := ?_) rfl (by kernel_rfl) (by kernel_rfl) (by kernel_rfl) (fun _ _ _ h => h) (Or.inl ⟨by rfl, ?_⟩) (by assumption) ?_
      rotate_left
      · intro w' s1; obtain ⟨s, rfl⟩ := s1; go_simp; (try with_reducible rfl)
      simp only [Act.put, List.getElem_toArray, List.getElem_cons_succ, List.getElem_cons_zero, List.setIfInBounds_toArray, List.set_cons_zero, List.set_cons_succ]
      refine wpAnyH_take (i := 3) (v := ?_) rfl (by kernel_rfl) (by kernel_rfl) (by kernel_rfl) (fun _ _ _ h => h) (Or.inl ⟨by rfl, ?_⟩) (by assumption) ?_
      rotate_left
      · intro w' s1; obtain ⟨s, rfl⟩ := s1; go_simp; (try with_reducible rfl)
      simp only [Act.put, List.getElem_toArray, List.getElem_cons_succ, List.getElem_cons_zero, List.setIfInBounds_toArray, List.set_cons_zero, List.set_cons_succ]
      refine wpAnyH_take (i := 4) (v := ?_) rfl (by kernel_rfl) (by kernel_rfl) (by kernel_rfl) (fun _ _ _ h => h) (Or.inl ⟨by rfl, ?_⟩) (by assumption) ?_
      rotate_left
      · intro w' s1; obtain ⟨s, rfl⟩ := s1; go_simp; (try with_reducible rfl)
      simp only [Act.put, List.getElem_toArray, List.getElem_cons_succ, List.getElem_cons_zero, List.setIfInBounds_toArray, List.set_cons_zero, List.set_cons_succ]
      refine wpAnyH_take (i := 5) (v := ?_) rfl (by kernel_rfl) (by kernel_rfl) (by kernel_rfl) (fun _ _ _ h => h) (Or.inl ⟨by rfl, ?_⟩) (by assumption) ?_
      rotate_left
      · intro w' s1; obtain ⟨s, rfl⟩ := s1; go_simp; (try with_reducible rfl)
      simp only [Act.put, List.getElem_toArray, List.getElem_cons_succ, List.getElem_cons_zero, List.setIfInBounds_toArray, List.set_cons_zero, List.set_cons_succ]
      refine wpAnyH_take (i := 6) (v := ?_) rfl (by kernel_rfl) (by kernel_rfl) (by kernel_rfl) (fun _ _ _ h => h) (Or.inl ⟨by rfl, ?_⟩) (by assumption) ?_
      rotate_left
      · intro w' s1; obtain ⟨s, rfl⟩ := s1; go_simp; (try with_reducible rfl)
      simp only [Act.put, List.getElem_toArray, List.getElem_cons_succ, List.getElem_cons_zero, List.setIfInBounds_toArray, List.set_cons_zero, List.set_cons_succ]
      refine wpAnyH_take (i := 7) (v := ?_) rfl (by kernel_rfl) (by kernel_rfl) (by kernel_rfl) (fun _ _ _ h => h) (Or.inl ⟨by rfl, ?_⟩) (by assumption) ?_
      rotate_left
      · intro w' s1; obtain ⟨s, rfl⟩ := s1; go_simp; (try with_reducible rfl)
      simp only [Act.put, List.getElem_toArray, List.getElem_cons_succ, List.getElem_cons_zero, List.setIfInBounds_toArray, List.set_cons_zero, List.set_cons_succ]
      refine wpAnyH_ready (rs := [2]) (by kernel_rfl) (by simp) ?_
      refine AllReadyH.cons rfl (fun K hK => ?_) AllReadyH.nil
      go_simp
      go_at_call 21
      refine (fits_spec W0 mk Hu.out.2.2.1.1 mn _ mv Hu.out.1 Hu.out.2.2.1.2 y).mono ?_
      rintro e A1 ⟨rfl, kA1⟩
      go_simp
      refine hK.out _ _ (keptS kA1) (fun hS => ?_)
      clear hK K
      try simp only [Act.put, List.getElem_toArray, List.getElem_cons_succ, List.getElem_cons_zero, List.setIfInBounds_toArray, List.set_cons_zero, List.set_cons_succ]
      refine wpAnyH_ready (rs := [8]) (by kernel_rfl) (by simp) ?_
      refine AllReadyH.cons rfl (fun K hK => ?_) AllReadyH.nil
      go_simp
      go_at_call 22
      refine (fitsR_spec A1 mk Hu.out.2.2.1.1 mn _ mv (Hu.out.2.1.keep kA1) Hu.out.2.2.1.2 y).mono ?_
      rintro e A2 ⟨rfl, kB2⟩
      have kA2 := kA1.trans kB2
      go_simp
      refine hK.out _ _ (keptS kA2) (fun hS => ?_)
      clear hK K
      try simp only [Act.put, List.getElem_toArray, List.getElem_cons_succ, List.getElem_cons_zero, List.setIfInBounds_toArray, List.set_cons_zero, List.set_cons_succ]
      generalize fitsB mk mv y = f1
      have hf1 : (f1 != f1) = false := by simp
      refine wpAnyH_take (i := 9) (v := ?_) rfl (by kernel_rfl) (by kernel_rfl) (by kernel_rfl) (fun _ _ _ h => h) (Or.inl ⟨by rfl, ?_⟩) (by assumption) ?_
      rotate_left
      · intro w' s1; obtain ⟨s, rfl⟩ := s1; go_simp; (try with_reducible rfl)
      simp only [Act.put, List.getElem_toArray, List.getElem_cons_succ, List.getElem_cons_zero, List.setIfInBounds_toArray, List.set_cons_zero, List.set_cons_succ]
      refine wpAnyH_take (i := 10) (v := ?_) rfl (by kernel_rfl) (by kernel_rfl) (by kernel_rfl) (fun _ _ _ h => h) (Or.inl ⟨by rfl, ?_⟩) (by assumption) ?_
      rotate_left
      · intro w' s1; obtain ⟨s, rfl⟩ := s1; go_simp; (try with_reducible rfl)
      simp only [Act.put, List.getElem_toArray, List.getElem_cons_succ, List.getElem_cons_zero, List.setIfInBounds_toArray, List.set_cons_zero, List.set_cons_succ]
      refine wpAnyH_take (i := 11) (v := ?_) rfl (by kernel_rfl) (by kernel_rfl) (by kernel_rfl) (fun _ _ _ h => h) (Or.inl ⟨by rfl, ?_⟩) (by assumption) ?_
      rotate_left
      · intro w' s1; obtain ⟨s, rfl⟩ := s1; go_simp; (try with_reducible rfl)
      simp only [Act.put, List.getElem_toArray, List.getElem_cons_succ, List.getElem_cons_zero, List.setIfInBounds_toArray, List.set_cons_zero, List.set_cons_succ]
      refine wpAnyH_take (i := 13) (v := ?_) rfl (by kernel_rfl) (by kernel_rfl) (by kernel_rfl) (fun _ _ _ h => h) (Or.inl ⟨by rfl, ?_⟩) (by assumption) ?_
      rotate_left
      · intro w' s1; obtain ⟨s, rfl⟩ := s1; go_simp; (try with_reducible rfl)
      simp only [Act.put, List.getElem_toArray, List.getElem_cons_succ, List.getElem_cons_zero, List.setIfInBounds_toArray, List.set_cons_zero, List.set_cons_succ]
      refine wpAnyH_take (i := 14) (v := ?_) rfl (by kernel_rfl) (by kernel_rfl) (by kernel_rfl) (fun _ _ _ h => h) (Or.inl ⟨by rfl, ?_⟩) (by assumption) ?_
      rotate_left
      · intro w' s1; obtain ⟨s, rfl⟩ := s1; go_simp; (try with_reducible rfl)
      simp only [Act.put, List.getElem_toArray, List.getElem_cons_succ, List.getElem_cons_zero, List.setIfInBounds_toArray, List.set_cons_zero, List.set_cons_succ]
      refine wpAnyH_take (i := 15) (v := ?_) rfl (by kernel_rfl) (by kernel_rfl) (by kernel_rfl) (fun _ _ _ h => h) (Or.inl ⟨by rfl, ?_⟩) (by assumption) ?_
      rotate_left
      · intro w' s1; obtain ⟨s, rfl⟩ := s1; go_simp; (try with_reducible rfl)
      simp only [Act.put, List.getElem_toArray, List.getElem_cons_succ, List.getElem_cons_zero, List.setIfInBounds_toArray, List.set_cons_zero, List.set_cons_succ]
      refine wpAnyH_take (i := 16) (v := ?_) rfl (by kernel_rfl) (by kernel_rfl) (by kernel_rfl) (fun _ _ _ h => h) (Or.inl ⟨by rfl, ?_⟩) (by assumption) ?_
      rotate_left
      · intro w' s1; obtain ⟨s, rfl⟩ := s1; go_simp; (try with_reducible rfl)
      simp only [Act.put, List.getElem_toArray, List.getElem_cons_succ, List.getElem_cons_zero, List.setIfInBounds_toArray, List.set_cons_zero, List.set_cons_succ]
      refine wpAnyH_ready (rs := [12]) (by kernel_rfl) (by simp) ?_
      refine AllReadyH.cons rfl (fun K hK => ?_) AllReadyH.nil
      go_simp
      go_at_call 21
      refine (fits_spec A2 mk Hu.out.2.2.1.1 mn _ mv (Hu.out.1.keep kA2) Hu.out.2.2.1.2 ⟨#[]⟩).mono ?_
      rintro e A3 ⟨rfl, kB3⟩
      have kA3 := kA2.trans kB3
      go_simp
      refine hK.out _ _ (keptS kA3) (fun hS => ?_)
      clear hK K
      try simp only [Act.put, List.getElem_toArray, List.getElem_cons_succ, List.getElem_cons_zero, List.setIfInBounds_toArray, List.set_cons_zero, List.set_cons_succ]
      refine wpAnyH_ready (rs := [17]) (by kernel_rfl) (by simp) ?_
      refine AllReadyH.cons rfl (fun K hK => ?_) AllReadyH.nil
      go_simp
      go_at_call 22
      refine (fitsR_spec A3 mk Hu.out.2.2.1.1 mn _ mv (Hu.out.2.1.keep kA3) Hu.out.2.2.1.2 ⟨#[]⟩).mono ?_
      rintro e A4 ⟨rfl, kB4⟩
      have kA4 := kA3.trans kB4
      go_simp
      refine hK.out _ _ (keptS kA4) (fun hS => ?_)
      clear hK K
      try simp only [Act.put, List.getElem_toArray, List.getElem_cons_succ, List.getElem_cons_zero, List.setIfInBounds_toArray, List.set_cons_zero, List.set_cons_succ]
      generalize fitsB mk mv ⟨#[]⟩ = f2
      have hf2 : (f2 != f2) = false := by simp
      refine wpAnyH_take (i := 18) (v := ?_) rfl (by kernel_rfl) (by kernel_rfl) (by kernel_rfl) (fun _ _ _ h => h) (Or.inl ⟨by rfl, ?_⟩) (by assumption) ?_
      rotate_left
      · intro w' s1; obtain ⟨s, rfl⟩ := s1; go_simp; (try with_reducible rfl)
      simp only [Act.put, List.getElem_toArray, List.getElem_cons_succ, List.getElem_cons_zero, List.setIfInBounds_toArray, List.set_cons_zero, List.set_cons_succ]
      refine wpAnyH_take (i := 19) (v := ?_) rfl (by kernel_rfl) (by kernel_rfl) (by kernel_rfl) (fun _ _ _ h => h) (Or.inl ⟨by rfl, ?_⟩) (by assumption) ?_
      rotate_left
      · intro w' s1; obtain ⟨s, rfl⟩ := s1; go_simp; (try with_reducible rfl)
      simp only [Act.put, List.getElem_toArray, List.getElem_cons_succ, List.getElem_cons_zero, List.setIfInBounds_toArray, List.set_cons_zero, List.set_cons_succ]
      refine wpAnyH_done (by kernel_rfl) ?_ _
      have Hk := Lib.hid (Hu.out.2.2.2.trans kA4)
      clear kA1 kA2 kA3 kA4 kB2 kB3 kB4 hS D0 D1 D2 E0 E1 E2
      go_wp2_with fail
      go_roundg (L.length - (k + 1))
      case measure => have := Hg.out; omega
      case rel => exact ⟨k + 1, hlt, rfl, by go_num, Hk.out⟩
    · have hlt' : ¬ (k : Int) < (L.length : Int) := by omega
      have Hk := Lib.hid (H8.out.2.2.2.2.2.trans hkw)
      clear hkw
      go_wp2_with fail
      go_ret
      exact ⟨rfl, Hk.out⟩

theorem matches_law (w : World) (hv : LibVar w) (hsg : SignsAt w) (v0 : Value) (h0 : ∃ P : List PairB, SliceArg 2 encPB w v0 P) (v1 : Value) (h1 : ∃ M : List MatB, MatsAt w v1 M) (x : ByteArray) (_hx : x.size ≤ maxLen) :
    Calls Tryd.prog 5 #[v0, v1, .string x] w fun e w' => e = .returned (.bool true) ∧ Keeps [] w w' := by
  obtain ⟨P, hP⟩ := h0
  obtain ⟨M, hM⟩ := h1
  exact matches_walk w hv hsg v0 P hP v1 M hM x
end Go.Proofs.YtjgaidojohgenaaDoor
