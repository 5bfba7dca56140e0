/-
  The document's Same: two tables that are one are the same, walked.
  The tables are of few rows.

  Package barographlaw14: Told: the program's table as the document's, walked. merge.Between: what is between two times.
  The tables are of few rows.

  How many steps a fetch has, by the document (package barographref17): Steps, walked.
  The table may be built (BlkOk); the matchers may be.

  The document's table between two times (package barographref14), walked.
  The tables are of few rows.

  The document's answer of what is read of a table (package barographref17): Rows, walked.
  The table may be built (BlkOk); the matchers may be.
-/
import Derived.Test.YtkffpcmminlndaaGreatDoorTabLaw
import Derived.Test.YtkffpcmminlndaaGreatDoorFetLaw
import Derived.Test.YtkffpcmminlndaaGreatDoorBldS
import Derived.Test.YtkffpcmminlndaaGreatDoorTabQ
import Derived.Maps.AppendAt
namespace Go.Proofs.YtkffpcmminlndaaGreatDoor
open Go Go.RowKit

def SameOut (w : World) (n gk : Nat) (u14 : Value) (wr : World) : Prop := ∃ k, k ≤ n ∧ gk = n - k ∧ u14 = .int .i64 k ∧ Keeps [] w wr

set_option linter.unusedSimpArgs false in
set_option maxRecDepth 100000 in
set_option maxHeartbeats 4000000 in
theorem same14_spec (w : World) (va vb : Value) (A : TabT) (ha : TabAt 110 134 0 w va A) (hb : TabAt 110 134 0 w vb A) (hf : FewT A) :
    Calls Tryz.prog 16 #[va, vb] w fun e w' => e = .returned (.bool true) ∧ Keeps [] w w' := by
  have Hf := Lib.hid (And.intro ha (And.intro hb hf.2))
  have hA100 := hf.1
  obtain ⟨aa, ca, rfl⟩ := ha.form
  obtain ⟨ab, cb, rfl⟩ := hb.form
  clear ha hb hf
  go_enter Tryz.func16, Tryz.ntmps16
  go_wp2_with fail
  go_loopg [14] A.length (SameOut w A.length)
  case atStart => exact ⟨0, Nat.zero_le _, rfl, rfl, Keeps.refl [] w⟩
  case round =>
    obtain ⟨k, hk, hgk, rfl, hkw⟩ := hrel
    have Hg := Lib.hid hgk
    clear hgk
    by_cases hlt : k < A.length
    · obtain ⟨b1, off1, u1, u2, ea, hb1, d0, d1, g1, g2⟩ := (go1 hkw Hf.out.1).at_ k hlt
      subst ea
      obtain ⟨b2, off2, x1, x2, ea, hb2, e0, e1, f1, f2⟩ := (go1 hkw Hf.out.2.1).at_ k hlt
      subst ea
      have hlt' : (k : Int) < (A.length : Int) := by omega
      have hr := Hf.out.2.2 A[k] (List.getElem_mem hlt)
      generalize A[k] = r at d0 d1 e0 e1 g1 g2 f1 f2 hr
      obtain ⟨r1, r2⟩ := r
      dsimp only at g1 g2 f1 f2 hr
      obtain ⟨ag1, cg1, rfl, -, -, -⟩ := row_slice g1
      obtain ⟨ag2, cg2, rfl, -, -, -⟩ := row_slice g2
      obtain ⟨af1, cf1, rfl, -, -, -⟩ := row_slice f1
      obtain ⟨af2, cf2, rfl, -, -, -⟩ := row_slice f2
      obtain ⟨W0, hW0⟩ : ∃ W0, W0 = wr.drew := ⟨_, rfl⟩
      have kW : Keeps [] wr W0 := by rw [hW0]; exact (Keeps.refl [] wr).drew
      have H1 := Lib.hid (And.intro (go1 kW (And.intro g1 (And.intro g2 (And.intro f1 f2)))) (hkw.trans kW))
      have D0 : ∀ s : Kept W0, s.val.cell? ⟨b1, off1 + k * 2, none⟩ = some (.slice ag1 r1.length cg1) := keptCell ((kW.cell hb1 (by simp)).trans d0)
      have D1 : ∀ s : Kept W0, s.val.cell? ⟨b1, off1 + k * 2 + 1, none⟩ = some (.slice ag2 r2.length cg2) := keptCell ((kW.cell hb1 (by simp)).trans d1)
      have E0 : ∀ s : Kept W0, s.val.cell? ⟨b2, off2 + k * 2, none⟩ = some (.slice af1 r1.length cf1) := keptCell ((kW.cell hb2 (by simp)).trans e0)
      have E1 : ∀ s : Kept W0, s.val.cell? ⟨b2, off2 + k * 2 + 1, none⟩ = some (.slice af2 r2.length cf2) := keptCell ((kW.cell hb2 (by simp)).trans e1)
      have HB := Lib.hid (And.intro (kW.lt hb1) (kW.lt hb2))
      have HW := Lib.hid hW0
      clear hkw kW hW0 d0 d1 e0 e1 g1 g2 f1 f2 hb1 hb2
      go_upto_region 6 with fail
      refine wp_region_held_drew (S := KeptS W0) (by kernel_rfl) (by rw [← HW.out]; exact keptS (Keeps.refl _ _)) (fun hS => ?_)
      rw [← HW.out] at hS ⊢
      clear HW
      refine wpAnyH_take (i := 0) (v := ?_) rfl (by kernel_rfl) (by kernel_rfl) (by kernel_rfl) (fun _ _ _ h => h) (Or.inl ⟨by rfl, ?_⟩) (by assumption) ?_
      rotate_left
      · intro w' s1; obtain ⟨s, rfl⟩ := s1; go_simp; (try with_reducible rfl)
      simp only [Act.put, List.getElem_toArray, List.getElem_cons_succ, List.getElem_cons_zero, List.setIfInBounds_toArray, List.set_cons_zero, List.set_cons_succ]
      refine wpAnyH_take (i := 1) (v := ?_) rfl (by kernel_rfl) (by kernel_rfl) (by kernel_rfl) (fun _ _ _ h => h) (Or.inl ⟨by rfl, ?_⟩) (by assumption) ?_
      rotate_left
      · intro w' s1; obtain ⟨s, rfl⟩ := s1; go_simp; (try with_reducible rfl)
      simp only [Act.put, List.getElem_toArray, List.getElem_cons_succ, List.getElem_cons_zero, List.setIfInBounds_toArray, List.set_cons_zero, List.set_cons_succ]
      refine wpAnyH_take (i := 2) (v := ?_) rfl (by kernel_rfl) (by kernel_rfl) (by kernel_rfl) (fun _ _ _ h => h) (Or.inl ⟨by rfl, ?_⟩) (by assumption) ?_
      rotate_left
      · intro w' s1; obtain ⟨s, rfl⟩ := s1; go_simp; (try with_reducible rfl)
      simp only [Act.put, List.getElem_toArray, List.getElem_cons_succ, List.getElem_cons_zero, List.setIfInBounds_toArray, List.set_cons_zero, List.set_cons_succ]
      refine wpAnyH_take (i := 3) (v := ?_) rfl (by kernel_rfl) (by kernel_rfl) (by kernel_rfl) (fun _ _ _ h => h) (Or.inl ⟨by rfl, ?_⟩) (by assumption) ?_
      rotate_left
      · intro w' s1; obtain ⟨s, rfl⟩ := s1; go_simp; (try with_reducible rfl)
      simp only [Act.put, List.getElem_toArray, List.getElem_cons_succ, List.getElem_cons_zero, List.setIfInBounds_toArray, List.set_cons_zero, List.set_cons_succ]
      refine wpAnyH_take (i := 4) (v := ?_) rfl (by kernel_rfl) (by kernel_rfl) (by kernel_rfl) (fun _ _ _ h => h) (Or.inl ⟨by rfl, ?_⟩) (by assumption) ?_
      rotate_left
      · intro w' s1; obtain ⟨s, rfl⟩ := s1; go_simp; (try with_reducible rfl)
      simp only [Act.put, List.getElem_toArray, List.getElem_cons_succ, List.getElem_cons_zero, List.setIfInBounds_toArray, List.set_cons_zero, List.set_cons_succ]
      refine wpAnyH_take (i := 5) (v := ?_) rfl (by kernel_rfl) (by kernel_rfl) (by kernel_rfl) (fun _ _ _ h => h) (Or.inl ⟨by rfl, ?_⟩) (by assumption) ?_
      rotate_left
      · intro w' s1; obtain ⟨s, rfl⟩ := s1; go_simp; (try with_reducible rfl)
      simp only [Act.put, List.getElem_toArray, List.getElem_cons_succ, List.getElem_cons_zero, List.setIfInBounds_toArray, List.set_cons_zero, List.set_cons_succ]
      refine wpAnyH_take (i := 6) (v := ?_) rfl (by kernel_rfl) (by kernel_rfl) (by kernel_rfl) (fun _ _ _ h => h) (Or.inl ⟨by rfl, ?_⟩) (by assumption) ?_
      rotate_left
      · intro w' s1; obtain ⟨s, rfl⟩ := s1; go_simp; (try with_reducible rfl)
      simp only [Act.put, List.getElem_toArray, List.getElem_cons_succ, List.getElem_cons_zero, List.setIfInBounds_toArray, List.set_cons_zero, List.set_cons_succ]
      refine wpAnyH_take (i := 7) (v := ?_) rfl (by kernel_rfl) (by kernel_rfl) (by kernel_rfl) (fun _ _ _ h => h) (Or.inl ⟨by rfl, ?_⟩) (by assumption) ?_
      rotate_left
      · intro w' s1; obtain ⟨s, rfl⟩ := s1; go_simp; (try with_reducible rfl)
      simp only [Act.put, List.getElem_toArray, List.getElem_cons_succ, List.getElem_cons_zero, List.setIfInBounds_toArray, List.set_cons_zero, List.set_cons_succ]
      refine wpAnyH_take (i := 8) (v := ?_) rfl (by kernel_rfl) (by kernel_rfl) (by kernel_rfl) (fun _ _ _ h => h) (Or.inl ⟨by rfl, ?_⟩) (by assumption) ?_
      rotate_left
      · intro w' s1; obtain ⟨s, rfl⟩ := s1; go_simp; (try with_reducible rfl)
      simp only [Act.put, List.getElem_toArray, List.getElem_cons_succ, List.getElem_cons_zero, List.setIfInBounds_toArray, List.set_cons_zero, List.set_cons_succ]
      refine wpAnyH_take (i := 9) (v := ?_) rfl (by kernel_rfl) (by kernel_rfl) (by kernel_rfl) (fun _ _ _ h => h) (Or.inl ⟨by rfl, ?_⟩) (by assumption) ?_
      rotate_left
      · intro w' s1; obtain ⟨s, rfl⟩ := s1; go_simp; (try with_reducible rfl)
      simp only [Act.put, List.getElem_toArray, List.getElem_cons_succ, List.getElem_cons_zero, List.setIfInBounds_toArray, List.set_cons_zero, List.set_cons_succ]
      refine wpAnyH_ready (rs := [10]) (by kernel_rfl) (by simp) ?_
      refine AllReadyH.cons rfl (fun K hK => ?_) AllReadyH.nil
      go_simp
      go_at_call 42
      refine (compareR_spec W0 _ _ r1 r1 (rowP H1.out.1.1) (rowP H1.out.1.2.2.1) (by omega)).mono ?_
      rintro e A1 ⟨rfl, q1⟩
      rw [cmpL_self]
      go_simp
      refine hK.out _ _ (keptS q1) (fun hS => ?_)
      clear hK K
      try simp only [Act.put, List.getElem_toArray, List.getElem_cons_succ, List.getElem_cons_zero, List.setIfInBounds_toArray, List.set_cons_zero, List.set_cons_succ]
      refine wpAnyH_take (i := 11) (v := ?_) rfl (by kernel_rfl) (by kernel_rfl) (by kernel_rfl) (fun _ _ _ h => h) (Or.inl ⟨by rfl, ?_⟩) (by assumption) ?_
      rotate_left
      · intro w' s1; obtain ⟨s, rfl⟩ := s1; go_simp; (try with_reducible rfl)
      simp only [Act.put, List.getElem_toArray, List.getElem_cons_succ, List.getElem_cons_zero, List.setIfInBounds_toArray, List.set_cons_zero, List.set_cons_succ]
      refine wpAnyH_take (i := 12) (v := ?_) rfl (by kernel_rfl) (by kernel_rfl) (by kernel_rfl) (fun _ _ _ h => h) (Or.inl ⟨by rfl, ?_⟩) (by assumption) ?_
      rotate_left
      · intro w' s1; obtain ⟨s, rfl⟩ := s1; go_simp; (try with_reducible rfl)
      simp only [Act.put, List.getElem_toArray, List.getElem_cons_succ, List.getElem_cons_zero, List.setIfInBounds_toArray, List.set_cons_zero, List.set_cons_succ]
      refine wpAnyH_take (i := 13) (v := ?_) rfl (by kernel_rfl) (by kernel_rfl) (by kernel_rfl) (fun _ _ _ h => h) (Or.inl ⟨by rfl, ?_⟩) (by assumption) ?_
      rotate_left
      · intro w' s1; obtain ⟨s, rfl⟩ := s1; go_simp; (try with_reducible rfl)
      simp only [Act.put, List.getElem_toArray, List.getElem_cons_succ, List.getElem_cons_zero, List.setIfInBounds_toArray, List.set_cons_zero, List.set_cons_succ]
      refine wpAnyH_take (i := 14) (v := ?_) rfl (by kernel_rfl) (by kernel_rfl) (by kernel_rfl) (fun _ _ _ h => h) (Or.inl ⟨by rfl, ?_⟩) (by assumption) ?_
      rotate_left
      · intro w' s1; obtain ⟨s, rfl⟩ := s1; go_simp; (try with_reducible rfl)
      simp only [Act.put, List.getElem_toArray, List.getElem_cons_succ, List.getElem_cons_zero, List.setIfInBounds_toArray, List.set_cons_zero, List.set_cons_succ]
      refine wpAnyH_take (i := 15) (v := ?_) rfl (by kernel_rfl) (by kernel_rfl) (by kernel_rfl) (fun _ _ _ h => h) (Or.inl ⟨by rfl, ?_⟩) (by assumption) ?_
      rotate_left
      · intro w' s1; obtain ⟨s, rfl⟩ := s1; go_simp; (try with_reducible rfl)
      simp only [Act.put, List.getElem_toArray, List.getElem_cons_succ, List.getElem_cons_zero, List.setIfInBounds_toArray, List.set_cons_zero, List.set_cons_succ]
      refine wpAnyH_take (i := 16) (v := ?_) rfl (by kernel_rfl) (by kernel_rfl) (by kernel_rfl) (fun _ _ _ h => h) (Or.inl ⟨by rfl, ?_⟩) (by assumption) ?_
      rotate_left
      · intro w' s1; obtain ⟨s, rfl⟩ := s1; go_simp; (try with_reducible rfl)
      simp only [Act.put, List.getElem_toArray, List.getElem_cons_succ, List.getElem_cons_zero, List.setIfInBounds_toArray, List.set_cons_zero, List.set_cons_succ]
      refine wpAnyH_take (i := 17) (v := ?_) rfl (by kernel_rfl) (by kernel_rfl) (by kernel_rfl) (fun _ _ _ h => h) (Or.inl ⟨by rfl, ?_⟩) (by assumption) ?_
      rotate_left
      · intro w' s1; obtain ⟨s, rfl⟩ := s1; go_simp; (try with_reducible rfl)
      simp only [Act.put, List.getElem_toArray, List.getElem_cons_succ, List.getElem_cons_zero, List.setIfInBounds_toArray, List.set_cons_zero, List.set_cons_succ]
      refine wpAnyH_take (i := 18) (v := ?_) rfl (by kernel_rfl) (by kernel_rfl) (by kernel_rfl) (fun _ _ _ h => h) (Or.inl ⟨by rfl, ?_⟩) (by assumption) ?_
      rotate_left
      · intro w' s1; obtain ⟨s, rfl⟩ := s1; go_simp; (try with_reducible rfl)
      simp only [Act.put, List.getElem_toArray, List.getElem_cons_succ, List.getElem_cons_zero, List.setIfInBounds_toArray, List.set_cons_zero, List.set_cons_succ]
      refine wpAnyH_take (i := 19) (v := ?_) rfl (by kernel_rfl) (by kernel_rfl) (by kernel_rfl) (fun _ _ _ h => h) (Or.inl ⟨by rfl, ?_⟩) (by assumption) ?_
      rotate_left
      · intro w' s1; obtain ⟨s, rfl⟩ := s1; go_simp; (try with_reducible rfl)
      simp only [Act.put, List.getElem_toArray, List.getElem_cons_succ, List.getElem_cons_zero, List.setIfInBounds_toArray, List.set_cons_zero, List.set_cons_succ]
      refine wpAnyH_take (i := 20) (v := ?_) rfl (by kernel_rfl) (by kernel_rfl) (by kernel_rfl) (fun _ _ _ h => h) (Or.inl ⟨by rfl, ?_⟩) (by assumption) ?_
      rotate_left
      · intro w' s1; obtain ⟨s, rfl⟩ := s1; go_simp; (try with_reducible rfl)
      simp only [Act.put, List.getElem_toArray, List.getElem_cons_succ, List.getElem_cons_zero, List.setIfInBounds_toArray, List.set_cons_zero, List.set_cons_succ]
      refine wpAnyH_take (i := 21) (v := ?_) rfl (by kernel_rfl) (by kernel_rfl) (by kernel_rfl) (fun _ _ _ h => h) (Or.inl ⟨by rfl, ?_⟩) (by assumption) ?_
      rotate_left
      · intro w' s1; obtain ⟨s, rfl⟩ := s1; go_simp; (try with_reducible rfl)
      simp only [Act.put, List.getElem_toArray, List.getElem_cons_succ, List.getElem_cons_zero, List.setIfInBounds_toArray, List.set_cons_zero, List.set_cons_succ]
      refine wpAnyH_take (i := 22) (v := ?_) rfl (by kernel_rfl) (by kernel_rfl) (by kernel_rfl) (fun _ _ _ h => h) (Or.inl ⟨by rfl, ?_⟩) (by assumption) ?_
      rotate_left
      · intro w' s1; obtain ⟨s, rfl⟩ := s1; go_simp; (try with_reducible rfl)
      simp only [Act.put, List.getElem_toArray, List.getElem_cons_succ, List.getElem_cons_zero, List.setIfInBounds_toArray, List.set_cons_zero, List.set_cons_succ]
      refine wpAnyH_take (i := 23) (v := ?_) rfl (by kernel_rfl) (by kernel_rfl) (by kernel_rfl) (fun _ _ _ h => h) (Or.inl ⟨by rfl, ?_⟩) (by assumption) ?_
      rotate_left
      · intro w' s1; obtain ⟨s, rfl⟩ := s1; go_simp; (try with_reducible rfl)
      simp only [Act.put, List.getElem_toArray, List.getElem_cons_succ, List.getElem_cons_zero, List.setIfInBounds_toArray, List.set_cons_zero, List.set_cons_succ]
      refine wpAnyH_take (i := 24) (v := ?_) rfl (by kernel_rfl) (by kernel_rfl) (by kernel_rfl) (fun _ _ _ h => h) (Or.inl ⟨by rfl, ?_⟩) (by assumption) ?_
      rotate_left
      · intro w' s1; obtain ⟨s, rfl⟩ := s1; go_simp; (try with_reducible rfl)
      simp only [Act.put, List.getElem_toArray, List.getElem_cons_succ, List.getElem_cons_zero, List.setIfInBounds_toArray, List.set_cons_zero, List.set_cons_succ]
      refine wpAnyH_take (i := 25) (v := ?_) rfl (by kernel_rfl) (by kernel_rfl) (by kernel_rfl) (fun _ _ _ h => h) (Or.inl ⟨by rfl, ?_⟩) (by assumption) ?_
      rotate_left
      · intro w' s1; obtain ⟨s, rfl⟩ := s1; go_simp; (try with_reducible rfl)
      simp only [Act.put, List.getElem_toArray, List.getElem_cons_succ, List.getElem_cons_zero, List.setIfInBounds_toArray, List.set_cons_zero, List.set_cons_succ]
      refine wpAnyH_take (i := 26) (v := ?_) rfl (by kernel_rfl) (by kernel_rfl) (by kernel_rfl) (fun _ _ _ h => h) (Or.inl ⟨by rfl, ?_⟩) (by assumption) ?_
      rotate_left
      · intro w' s1; obtain ⟨s, rfl⟩ := s1; go_simp; (try with_reducible rfl)
      simp only [Act.put, List.getElem_toArray, List.getElem_cons_succ, List.getElem_cons_zero, List.setIfInBounds_toArray, List.set_cons_zero, List.set_cons_succ]
      refine wpAnyH_done (by kernel_rfl) ?_ _
      have H2 := Lib.hid (And.intro (go1 q1 H1.out.1) (And.intro (H1.out.2.trans q1) (And.intro (show A1.cell? ⟨b1, off1 + k * 2 + 1, none⟩ = some (.slice ag2 r2.length cg2) from D1 ⟨A1, q1⟩) (And.intro (show A1.cell? ⟨b2, off2 + k * 2 + 1, none⟩ = some (.slice af2 r2.length cf2) from E1 ⟨A1, q1⟩) (And.intro (q1.lt HB.out.1) (q1.lt HB.out.2))))))
      clear D0 D1 E0 E1 hS q1 H1
      have d1 := H2.out.2.2.1
      have e1 := H2.out.2.2.2.1
      have l1 := H2.out.2.2.2.2.1
      have l2 := H2.out.2.2.2.2.2
      go_wp2_with fail
      clear d1 e1 l1 l2
      go_loopg [50] r2.length (SameOut A1 r2.length)
      case atStart => exact ⟨0, Nat.zero_le _, rfl, rfl, Keeps.refl [] A1⟩
      case round =>
        obtain ⟨j, hj, hgj, rfl, hkb⟩ := hrel
        have Hgj := Lib.hid hgj
        clear hgj
        by_cases hltj : j < r2.length
        · obtain ⟨b3, off3, ea, hb3, y0, y1⟩ := smp_at (go1 hkb H2.out.1.2.1) j hltj
          subst ea
          obtain ⟨b4, off4, ea, hb4, z0, z1⟩ := smp_at (go1 hkb H2.out.1.2.2.2) j hltj
          subst ea
          have hltj' : (j : Int) < (r2.length : Int) := by omega
          have d1 := (hkb.cell (i := off1 + k * 2 + 1) H2.out.2.2.2.2.1 (by simp)).trans H2.out.2.2.1
          have e1 := (hkb.cell (i := off2 + k * 2 + 1) H2.out.2.2.2.2.2 (by simp)).trans H2.out.2.2.2.1
          have l1 := hkb.lt H2.out.2.2.2.2.1
          have l2 := hkb.lt H2.out.2.2.2.2.2
          generalize r2[j] = s at y0 y1 z0 z1
          obtain ⟨s1, s2⟩ := s
          dsimp only at y0 y1 z0 z1
          have Hk := Lib.hid hkb
          clear hkb
          go_wp2_with fail
          go_quiet (fail)
          have Hk2 := Lib.hid (Hk.out.drewN nq)
          clear y0 y1 z0 z1 d1 e1 l1 l2 hb3 hb4 Hk
          generalize wr.drewN nq = W at Hk2 ⊢
          go_wp2_with fail
          go_roundg (r2.length - (j + 1))
          case measure => have := Hgj.out; omega
          case rel => exact ⟨j + 1, hltj, rfl, by go_num, Hk2.out⟩
        · have hge : ¬ (j : Int) < (r2.length : Int) := by omega
          have Hr := Lib.hid (H2.out.2.1.trans hkb)
          clear hkb
          go_wp2_with fail
          go_roundg (A.length - (k + 1))
          case measure => have := Hg.out; omega
          case rel => exact ⟨k + 1, hlt, rfl, by go_num, Hr.out⟩
    · have hge : ¬ (k : Int) < (A.length : Int) := by omega
      have Hr := Lib.hid hkw
      clear hkw
      go_wp2_with fail
      go_ret
      exact ⟨rfl, Hr.out⟩
end Go.Proofs.YtkffpcmminlndaaGreatDoor

namespace Go.Proofs.YtkffpcmminlndaaGreatDoor
open Go Go.RowKit

def ToldRelT (w : World) (A : TabT) (gk : Nat) (u3 u9 : Value) (wr : World) : Prop :=
  ∃ k, k ≤ A.length ∧ gk = A.length - k ∧ u9 = .int .i64 k ∧ TabAt 110 134 w.heap.size wr u3 (A.take k) ∧ Keeps [] w wr

set_option linter.unusedSimpArgs false in
set_option maxRecDepth 100000 in
set_option maxHeartbeats 4000000 in
theorem told14_spec (w : World) (v : Value) (A : TabT) (h : TabAt 108 131 0 w v A) (hf : FewT A) :
    Calls Tryz.prog 17 #[v] w fun e w' => ∃ v', e = .returned v' ∧ TabAt 110 134 w.heap.size w' v' A ∧ Keeps [] w w' := by
  obtain ⟨ir, hir, hy0, hy1, hy2⟩ := info_parts infoRow14
  have Hf := Lib.hid (And.intro h hf.2)
  have hA100 := hf.1
  have H0 := Lib.hid (And.intro (tab_made (tp := 134) (own_made w w.heap.size 110 2 (Nat.le_refl _))) ((Keeps.refl [] w).alloc (.cells #[] 110)))
  obtain ⟨ao, cap, rfl⟩ := h.form
  clear h hf
  go_enter Tryz.func17, Tryz.ntmps17
  go_wp2_with fail
  go_loopg [3, 9] A.length (ToldRelT w A)
  case atStart => exact ⟨0, Nat.zero_le _, rfl, rfl, H0.out.1, H0.out.2⟩
  case round =>
    obtain ⟨k, hk, hgk, rfl, hrow, hkw⟩ := hrel
    have Hg := Lib.hid hgk
    clear hgk H0
    obtain ⟨E, hE1, hE2⟩ := hrow
    have hEl : E.length ≤ 100 := by have := hE2.1; rw [List.length_take] at this; omega
    obtain ⟨ax, cx, rfl, -, -, -⟩ := row_slice hE1
    by_cases hlt : k < A.length
    · obtain ⟨b, off, u1, u2, ea, hb, d0, d1, g1, g2⟩ := (go1 hkw Hf.out.1).at_ k hlt
      subst ea
      have hlt' : (k : Int) < (A.length : Int) := by omega
      have hr := Hf.out.2 A[k] (List.getElem_mem hlt)
      have Htk := Lib.hid (show A.take (k + 1) = A.take k ++ [A[k]] from List.take_succ_eq_append_getElem hlt)
      generalize A[k] = r at d0 d1 g1 g2 hr Htk
      obtain ⟨r1, r2⟩ := r
      dsimp only at g1 g2 hr
      obtain ⟨ar1, cr1, rfl, -, -, -⟩ := row_slice g1
      obtain ⟨ar2, cr2, rfl, -, -, -⟩ := row_slice g2
      obtain ⟨W0, hW0⟩ : ∃ W0, W0 = (wr.alloc (.cells #[.slice ar1 r1.length cr1, .slice ar2 r2.length cr2] 108)).drew := ⟨_, rfl⟩
      have kW : Keeps [] wr W0 := by rw [hW0]; exact ((Keeps.refl [] wr).alloc _).drew
      have hp : W0.heap[wr.heap.size]? = some (.cells #[.slice ar1 r1.length cr1, .slice ar2 r2.length cr2] 108 (0, 0)) := by rw [hW0]; exact heap_new wr (.cells #[.slice ar1 r1.length cr1, .slice ar2 r2.length cr2] 108)
      have H1 := Lib.hid (And.intro (go1 kW (And.intro hE1 (And.intro hE2 (And.intro g1 g2)))) (And.intro (hkw.trans kW) hp))
      have Hne := Lib.hid (show ∀ g, (Value.slice ax E.length cx).ownBlock = some g → g ≠ wr.heap.size from fun g hg => by have := (World.ownsRow.lt hE1 g hg).2; omega)
      have HW := Lib.hid hW0
      clear hkw kW hp hW0 hE1 hE2 g1 g2
      go_upto_region 5 with fail
      have s1 : W0.cell? ⟨wr.heap.size, 0, none⟩ = some (.slice ar1 r1.length cr1) := by rw [cells_at H1.out.2.2]; rfl
      have s2 : W0.cell? ⟨wr.heap.size, 1, none⟩ = some (.slice ar2 r2.length cr2) := by rw [cells_at H1.out.2.2]; rfl
      refine wp_region_held_drew (S := fun w' => w'.cell? ⟨wr.heap.size, 0, none⟩ = some (.slice ar1 r1.length cr1) ∧ w'.cell? ⟨wr.heap.size, 1, none⟩ = some (.slice ar2 r2.length cr2)) (by kernel_rfl) (by rw [← HW.out]; exact ⟨s1, s2⟩) (fun hS => ?_)
      rw [← HW.out] at hS ⊢
      generalize wr.heap.size = pk at s1 s2 H1 Hne hS ⊢
      clear d0 d1 hb HW s1 s2
      refine wpAnyH_take (i := 0) (v := ?_) rfl (by kernel_rfl) (by kernel_rfl) (by kernel_rfl) (fun _ _ _ h => h) (Or.inl ⟨by rfl, ?_⟩) (by assumption) ?_
      rotate_left
      · intro w' hSw; obtain ⟨s1, s2⟩ := hSw; go_simp; (try with_reducible rfl)
      simp only [Act.put, List.getElem_toArray, List.getElem_cons_succ, List.getElem_cons_zero, List.setIfInBounds_toArray, List.set_cons_zero, List.set_cons_succ]
      refine wpAnyH_take (i := 1) (v := ?_) rfl (by kernel_rfl) (by kernel_rfl) (by kernel_rfl) (fun _ _ _ h => h) (Or.inl ⟨by rfl, ?_⟩) (by assumption) ?_
      rotate_left
      · intro w' hSw; obtain ⟨s1, s2⟩ := hSw; go_simp; (try with_reducible rfl)
      simp only [Act.put, List.getElem_toArray, List.getElem_cons_succ, List.getElem_cons_zero, List.setIfInBounds_toArray, List.set_cons_zero, List.set_cons_succ]
      refine wpAnyH_take (i := 2) (v := ?_) rfl (by kernel_rfl) (by kernel_rfl) (by kernel_rfl) (fun _ _ _ h => h) (Or.inl ⟨by rfl, ?_⟩) (by assumption) ?_
      rotate_left
      · intro w' hSw; obtain ⟨s1, s2⟩ := hSw; go_simp; (try with_reducible rfl)
      simp only [Act.put, List.getElem_toArray, List.getElem_cons_succ, List.getElem_cons_zero, List.setIfInBounds_toArray, List.set_cons_zero, List.set_cons_succ]
      refine wpAnyH_take (i := 4) (v := ?_) rfl (by kernel_rfl) (by kernel_rfl) (by kernel_rfl) (fun _ _ _ h => h) (Or.inl ⟨by rfl, ?_⟩) (by assumption) ?_
      rotate_left
      · intro w' hSw; obtain ⟨s1, s2⟩ := hSw; go_simp; (try with_reducible rfl)
      simp only [Act.put, List.getElem_toArray, List.getElem_cons_succ, List.getElem_cons_zero, List.setIfInBounds_toArray, List.set_cons_zero, List.set_cons_succ]
      refine wpAnyH_take (i := 5) (v := ?_) rfl (by kernel_rfl) (by kernel_rfl) (by kernel_rfl) (fun _ _ _ h => h) (Or.inl ⟨by rfl, ?_⟩) (by assumption) ?_
      rotate_left
      · intro w' hSw; obtain ⟨s1, s2⟩ := hSw; go_simp; (try with_reducible rfl)
      simp only [Act.put, List.getElem_toArray, List.getElem_cons_succ, List.getElem_cons_zero, List.setIfInBounds_toArray, List.set_cons_zero, List.set_cons_succ]
      refine wpAnyH_ready (rs := [3]) (by kernel_rfl) (by simp) ?_
      refine AllReadyH.cons rfl (fun K hK => ?_) AllReadyH.nil
      go_simp
      go_at_call 26
      refine (told6_spec W0 _ r1 (rowP H1.out.1.2.2.1) (by omega)).mono ?_
      rintro e A1 ⟨v1, rfl, hrow1, q1⟩
      have h1 := row_base (b' := 0) hrow1 (Nat.zero_le _)
      obtain ⟨al, cl, rfl, -, -, -⟩ := row_slice hrow1
      have H2 := Lib.hid (And.intro (go1 q1 H1.out.1) (And.intro (H1.out.2.1.trans q1) (And.intro (go1 q1 H1.out.2.2) h1)))
      have t2 : A1.cell? ⟨pk, 0, none⟩ = some (.slice ar1 r1.length cr1) ∧ A1.cell? ⟨pk, 1, none⟩ = some (.slice ar2 r2.length cr2) := ⟨by rw [cells_at H2.out.2.2.1]; rfl, by rw [cells_at H2.out.2.2.1]; rfl⟩
      clear hrow1 q1 h1 H1
      go_simp
      refine hK.out _ _ t2 (fun hS => ?_)
      clear hK K
      try simp only [Act.put, List.getElem_toArray, List.getElem_cons_succ, List.getElem_cons_zero, List.setIfInBounds_toArray, List.set_cons_zero, List.set_cons_succ]
      refine wpAnyH_ready (rs := [6]) (by kernel_rfl) (by simp) ?_
      refine AllReadyH.cons rfl (fun K hK => ?_) AllReadyH.nil
      go_simp
      go_simp
      refine hK.out _ _ t2 (fun hS => ?_)
      clear hK K
      try simp only [Act.put, List.getElem_toArray, List.getElem_cons_succ, List.getElem_cons_zero, List.setIfInBounds_toArray, List.set_cons_zero, List.set_cons_succ]
      refine wpAnyH_ready (rs := [7]) (by kernel_rfl) (by simp) ?_
      refine AllReadyH.cons rfl (fun K hK => ?_) AllReadyH.nil
      go_simp
      have kA : Keeps [] A1 (A1.alloc (.cells #[.slice al r1.length cl, .slice ar2 r2.length cr2] 110)) := (Keeps.refl [] A1).alloc _
      have H3 := Lib.hid (And.intro (heap_new A1 (.cells #[.slice al r1.length cl, .slice ar2 r2.length cr2] 110)) (And.intro (go1 kA H2.out.1) (And.intro (H2.out.2.1.trans kA) (go1 kA H2.out.2.2))))
      clear kA H2 t2
      generalize A1.heap.size = nb at H3 ⊢
      generalize A1.alloc (.cells #[.slice al r1.length cl, .slice ar2 r2.length cr2] 110) = A2 at H3 ⊢
      have t3 : A2.cell? ⟨pk, 0, none⟩ = some (.slice ar1 r1.length cr1) ∧ A2.cell? ⟨pk, 1, none⟩ = some (.slice ar2 r2.length cr2) := ⟨by rw [cells_at H3.out.2.2.2.1]; rfl, by rw [cells_at H3.out.2.2.2.1]; rfl⟩
      go_simp
      refine hK.out _ _ t3 (fun hS => ?_)
      clear hK K
      try simp only [Act.put, List.getElem_toArray, List.getElem_cons_succ, List.getElem_cons_zero, List.setIfInBounds_toArray, List.set_cons_zero, List.set_cons_succ]
      clear t3
      refine wpAnyH_ready (rs := [8]) (by kernel_rfl) (by simp) ?_
      refine AllReadyH.cons rfl (fun K hK => ?_) AllReadyH.nil
      refine step_appP rfl (.tmp 13) (.tmp 20) 26 rfl w.heap.size 110 ir _ 2 48 Tryz.underlying26 hir hy0 hy1 hy2 rfl (by decide) (.slice ax E.length cx) E.length (E.flatMap encRV) rfl H3.out.2.1.1 ⟨nb, 0, none⟩ 1 1 [.slice al r1.length cl, .slice ar2 r2.length cr2] rfl rfl (news_two H3.out.1) (by simp [Value.oneCell']) (by simp only [maxLen]; omega) (by omega) H3.out.2.2.1.size ?_
      intro v5 A3 hown5 hgrow5
      obtain ⟨ao5, cp5, rfl, -, -, -⟩ := row_slice hown5
      have k5 := keeps_row hgrow5
      have n5 := k5.at_ H3.out.2.2.2.1 (fun hm => Hne.out pk (by simpa using hm) rfl)
      have t5 : A3.cell? ⟨pk, 0, none⟩ = some (.slice ar1 r1.length cr1) ∧ A3.cell? ⟨pk, 1, none⟩ = some (.slice ar2 r2.length cr2) := ⟨by rw [cells_at n5]; rfl, by rw [cells_at n5]; rfl⟩
      have hel := (H3.out.2.1.2.1.snoc (r := (r1, r2)) H3.out.2.2.2.2 H3.out.2.1.2.2.2).grown H3.out.2.1.1 k5 (by decide) (by decide)
      have hk5 := keeps_own H3.out.2.2.1 hgrow5 (fun q hq => (World.ownsRow.lt H3.out.2.1.1 q hq).1)
      have H5 := Lib.hid (And.intro (rv_snoc hown5) (And.intro hel hk5))
      have T5 := Lib.hid t5
      clear hown5 hgrow5 k5 n5 hel hk5 t5 H3
      refine hK.out _ _ T5.out (fun hS => ?_)
      clear hK K
      try simp only [Act.put, List.getElem_toArray, List.getElem_cons_succ, List.getElem_cons_zero, List.setIfInBounds_toArray, List.set_cons_zero, List.set_cons_succ]
      refine wpAnyH_ready (rs := [9]) (by kernel_rfl) (by simp) ?_
      refine AllReadyH.cons rfl (fun K hK => ?_) AllReadyH.nil
      go_simp
      go_simp
      refine hK.out _ _ T5.out (fun hS => ?_)
      clear hK K
      try simp only [Act.put, List.getElem_toArray, List.getElem_cons_succ, List.getElem_cons_zero, List.setIfInBounds_toArray, List.set_cons_zero, List.set_cons_succ]
      refine wpAnyH_done (by kernel_rfl) ?_ _
      clear hS T5
      go_wp2_with fail
      go_roundg (A.length - (k + 1))
      case measure => have := Hg.out; omega
      case rel => exact ⟨k + 1, hlt, rfl, by go_num, by rw [Htk.out]; exact ⟨_, H5.out.1, H5.out.2.1⟩, H5.out.2.2⟩
    · have hge : ¬ (k : Int) < (A.length : Int) := by omega
      have hkn := Lib.hid (show A.take k = A from List.take_of_length_le (by omega))
      have Hr := Lib.hid (And.intro hE1 (And.intro hE2 hkw))
      clear hE1 hE2 hkw
      go_wp2_with fail
      go_ret
      exact ⟨_, rfl, by rw [← hkn.out]; exact ⟨E, Hr.out.1, Hr.out.2.1⟩, Hr.out.2.2⟩
end Go.Proofs.YtkffpcmminlndaaGreatDoor

namespace Go.Proofs.YtkffpcmminlndaaGreatDoor
open Go Go.RowKit

def StepsRel (w : World) (A : TabT) (fr up : Int) (L : List MatB) (gk : Nat) (u9 u15 : Value) (wr : World) : Prop :=
  ∃ k, k ≤ A.length ∧ gk = A.length - k ∧ u15 = .int .i64 (k : Nat) ∧ u9 = .int .i64 ((1 + ((A.take k).filter (wantR fr up L)).length : Nat) : Int) ∧ Keeps [] w wr

set_option linter.unusedSimpArgs false in
set_option maxRecDepth 100000 in
set_option maxHeartbeats 4000000 in
theorem stepsR_spec (w : World) (v : Value) (A : TabT) (fr up : Int) (vm : Value) (L : List MatB) (h : TabAt 110 134 0 w v A) (fr0 up0 : Nat) (hok : BlkOk A fr0 up0) (hm : MatsAt w vm L) (hmay : ∀ m ∈ L, mayK m) :
    Calls Tryz.prog 15 #[v, .int .i64 fr, .int .i64 up, vm] w fun e w' => e = .returned (.int .i64 ((1 + (wantT fr up L A).length : Nat) : Int)) ∧ Keeps [] w w' := by
  have Hf := Lib.hid (And.intro h (And.intro hok (And.intro hm hmay)))
  have hA40 := hok.few.1
  obtain ⟨ao, cap, rfl⟩ := h.form
  obtain ⟨am, cm, rfl, -⟩ := hm.form
  clear h hok hm hmay
  go_enter Tryz.func15, Tryz.ntmps15
  go_wp2_with fail
  go_loopg [9, 15] A.length (StepsRel w A fr up L)
  case atStart => exact ⟨0, Nat.zero_le _, rfl, rfl, by simp, Keeps.refl [] w⟩
  case round =>
    obtain ⟨k, hk, hgk, rfl, rfl, hkw⟩ := hrel
    have Hg := Lib.hid hgk
    clear hgk
    obtain ⟨cn, hcn⟩ : ∃ cn : Nat, cn = 1 + ((A.take k).filter (wantR fr up L)).length := ⟨_, rfl⟩
    rw [← hcn]
    have hcn50 : cn ≤ 50 := by
      have h1 := List.length_filter_le (wantR fr up L) (A.take k)
      rw [List.length_take] at h1
      omega
    have Hcn := Lib.hid hcn
    clear hcn
    by_cases hlt : k < A.length
    · obtain ⟨b, off, u1, u2, ea, hb, d0, d1, g1, g2⟩ := (go1 hkw Hf.out.1).at_ k hlt
      subst ea
      have hlt' : (k : Int) < (A.length : Int) := by omega
      have hmem := List.getElem_mem hlt
      have hrow := Hf.out.2.1.row hmem
      have hl110 := (Hf.out.2.1.few.2 _ hmem).2
      have Htk := Lib.hid (show A.take (k + 1) = A.take k ++ [A[k]] from List.take_succ_eq_append_getElem hlt)
      clear hmem
      generalize A[k] = r at d0 d1 g1 g2 hrow hl110 Htk
      obtain ⟨r1, r2⟩ := r
      dsimp only at g1 g2 hrow hl110
      obtain ⟨hl, -, -, -, -, hf0, hf1⟩ := hrow
      obtain ⟨ar1, cr1, rfl, -, -, -⟩ := row_slice g1
      obtain ⟨ba, oa, cr2, rfl⟩ : ∃ ba oa cr2, u2 = .slice (some ⟨ba, oa, none⟩) r2.length cr2 := by
        obtain ⟨g, c, e⟩ := row_some g2 hl
        exact ⟨g, 0, c, e⟩
      have Hsmp := Lib.hid (And.intro hl (And.intro hf0 hf1))
      have kP : Keeps [] wr (wr.alloc (.cells #[.slice ar1 r1.length cr1, .slice (some ⟨ba, oa, none⟩) r2.length cr2] 110)) := (Keeps.refl [] wr).alloc _
      have H1 := Lib.hid (And.intro (hkw.trans kP) (And.intro (heap_new wr (.cells #[.slice ar1 r1.length cr1, .slice (some ⟨ba, oa, none⟩) r2.length cr2] 110)) (And.intro (go1 kP g1) (And.intro (go1 kP g2) (go1 (hkw.trans kP) Hf.out.2.2.1)))))
      clear kP hkw g1 g2
      go_upto_region 5 with fail
      clear d0 d1 hb
      generalize hwp : wr.alloc (.cells #[.slice ar1 r1.length cr1, .slice (some ⟨ba, oa, none⟩) r2.length cr2] 110) = wp at H1 ⊢
      generalize hpb : wr.heap.size = pb at H1 ⊢
      clear hwp hpb
      have cp := cells_at H1.out.2.1
      have lp := lt_of_at H1.out.2.1
      obtain ⟨N1, hN1⟩ : ∃ N1, r2.length = N1 + 1 := ⟨r2.length - 1, by omega⟩
      obtain ⟨bx, ox, ex, hbx, x0, -⟩ := smp_at H1.out.2.2.2.1 0 hl
      injection ex with ex
      injection ex with ex1 ex2 _
      subst ex1 ex2
      obtain ⟨bz, oz, ez, -, z0, -⟩ := smp_at H1.out.2.2.2.1 N1 (by omega)
      injection ez with ez
      injection ez with ez1 ez2 _
      subst ez1 ez2
      have e0 : (r2[0]'hl).1 = (firstT r2 : Int) := by
        rw [List.getElem?_eq_getElem hl, Option.map_some] at hf0
        exact Option.some.inj hf0
      have e1 : (r2[N1]'(by omega)).1 = (lastT r2 : Int) := by
        rw [show r2.length - 1 = N1 by omega, List.getElem?_eq_getElem (by omega), Option.map_some] at hf1
        exact Option.some.inj hf1
      rw [e0] at x0
      rw [e1] at z0
      rw [Nat.zero_mul, Nat.add_zero] at x0
      have Hmt := Lib.hid (matchR_spec wp _ _ r1 L (rowP H1.out.2.2.1) H1.out.2.2.2.2 Hf.out.2.2.2)
      obtain ⟨Ln, hLn⟩ : ∃ Ln, Ln = r2.length := ⟨_, rfl⟩
      rw [← hLn] at hN1 cp ⊢
      have hl0 : (0 : Int) < (Ln : Int) := by omega
      have hl1 : (Ln : Int) - 1 = (N1 : Int) := by omega
      have hl2 := IntWalk.i64_in (N1 : Int) (by omega)
      have hl3 : (N1 : Int) < (Ln : Int) := by omega
      have hcn2 := IntWalk.i64_in ((cn : Int) + 1) (by omega)
      clear hN1 hLn e0 e1 hf0 hf1 hl
      have hways : (¬ (firstT r2 : Int) < up) ∨ ((firstT r2 : Int) < up ∧ ¬ fr ≤ (lastT r2 : Int)) ∨ ((firstT r2 : Int) < up ∧ fr ≤ (lastT r2 : Int)) := by omega
      rcases hways with h1 | ⟨h1, h2⟩ | ⟨h1, h2⟩
      · have Hw := Lib.hid (show wantR fr up L (r1, r2) = false by unfold wantR meetsR; dsimp only; rw [decide_eq_false h1]; rfl)
        generalize (firstT r2 : Int) = ft at h1 x0
        generalize (lastT r2 : Int) = lt at z0
        go_wp2_with fail
        go_roundg (A.length - (k + 1))
        case measure => have := Hg.out; omega
        case rel =>
          refine ⟨k + 1, hlt, rfl, by go_num, ?_, H1.out.1⟩
          rw [Htk.out, List.filter_append, show [(r1, r2)].filter (wantR fr up L) = [] from by simp [Hw.out], List.append_nil, ← Hcn.out]
      · have Hw := Lib.hid (show wantR fr up L (r1, r2) = false by unfold wantR meetsR; dsimp only; rw [decide_eq_true h1, decide_eq_false h2]; rfl)
        generalize (firstT r2 : Int) = ft at h1 x0
        generalize (lastT r2 : Int) = lt at h2 z0
        go_wp2_with fail
        go_roundg (A.length - (k + 1))
        case measure => have := Hg.out; omega
        case rel =>
          refine ⟨k + 1, hlt, rfl, by go_num, ?_, H1.out.1⟩
          rw [Htk.out, List.filter_append, show [(r1, r2)].filter (wantR fr up L) = [] from by simp [Hw.out], List.append_nil, ← Hcn.out]
      · have Hw := Lib.hid (show wantR fr up L (r1, r2) = L.all (fitsM r1) by unfold wantR meetsR fitR; dsimp only; rw [decide_eq_true h1, decide_eq_true h2]; rfl)
        generalize (firstT r2 : Int) = ft at h1 x0
        generalize (lastT r2 : Int) = lt at h2 z0
        go_wp2_with fail
        refine Hmt.out.mono ?_
        rintro e w3 ⟨rfl, k3⟩
        have H3 := Lib.hid (H1.out.1.trans k3)
        clear k3 cp lp
        rcases Bool.eq_false_or_eq_true (L.all (fitsM r1)) with hb | hb
        · rw [hb]
          rw [hb] at Hw
          go_wp2_with fail
          go_roundg (A.length - (k + 1))
          case measure => have := Hg.out; omega
          case rel =>
            refine ⟨k + 1, hlt, rfl, by go_num, ?_, H3.out⟩
            rw [Htk.out, List.filter_append, show [(r1, r2)].filter (wantR fr up L) = [(r1, r2)] from by simp [Hw.out], List.length_append, ← Nat.add_assoc, ← Hcn.out]
            simp
        · rw [hb]
          rw [hb] at Hw
          go_wp2_with fail
          go_roundg (A.length - (k + 1))
          case measure => have := Hg.out; omega
          case rel =>
            refine ⟨k + 1, hlt, rfl, by go_num, ?_, H3.out⟩
            rw [Htk.out, List.filter_append, show [(r1, r2)].filter (wantR fr up L) = [] from by simp [Hw.out], List.append_nil, ← Hcn.out]
    · have hge : ¬ (k : Int) < (A.length : Int) := by omega
      have hkn := Lib.hid (show A.take k = A from List.take_of_length_le (by omega))
      have Hr := Lib.hid hkw
      clear hkw
      go_wp2_with fail
      go_ret
      exact ⟨by rw [Hcn.out, hkn.out]; rfl, Hr.out⟩
end Go.Proofs.YtkffpcmminlndaaGreatDoor

namespace Go.Proofs.YtkffpcmminlndaaGreatDoor
open Go Go.RowKit

theorem take_mid2 {A : TabT} {k j : Nat} (hk : k < A.length) (hg : GoodT A) (hf : FewT A) :
    (∀ r ∈ A.take k, ltL r.1 A[k].1) ∧ FewT (A.take k ++ [(A[k].1, A[k].2.take j)]) ∧ (A.take k ++ [(A[k].1, A[k].2.take j)]).Pairwise (fun a b => ltL a.1 b.1) := by
  have h1 : ∀ r ∈ A.take k, ltL r.1 A[k].1 := fun r hr => by
    obtain ⟨i, hi, rfl⟩ := List.mem_iff_getElem.1 hr
    rw [List.getElem_take]
    rw [List.length_take] at hi
    exact List.pairwise_iff_getElem.1 hg.rows i k (by omega) hk (by omega)
  refine ⟨h1, ⟨?_, fun r hr => ?_⟩, ?_⟩
  · rw [List.length_append, List.length_take]
    have := hf.1
    simp only [List.length_cons, List.length_nil]
    omega
  · rcases List.mem_append.1 hr with hr | hr
    · exact hf.2 r (List.mem_of_mem_take hr)
    · obtain rfl : r = (A[k].1, A[k].2.take j) := by simpa using hr
      have := hf.2 A[k] (List.getElem_mem hk)
      exact ⟨this.1, by show (A[k].2.take j).length ≤ 500; rw [List.length_take]; omega⟩
  · rw [List.pairwise_append]
    refine ⟨hg.rows.sublist (List.take_sublist k A), by simp, fun a ha b hb => ?_⟩
    obtain rfl : b = (A[k].1, A[k].2.take j) := by simpa using hb
    exact h1 a ha

def ROut (w : World) (A : TabT) (from_ upt : Int) (gk : Nat) (u0 u17 : Value) (wr : World) : Prop :=
  ∃ k, k ≤ A.length ∧ gk = A.length - k ∧ u17 = .int .i64 k ∧ TabAt 110 134 w.heap.size wr u0 (betT from_ upt (A.take k)) ∧ Keeps [] w wr

def RIn (w : World) (C : TabT) (r : RowT) (pb : Nat) (v1 v2 : Value) (from_ upt : Int) (gk : Nat) (u0 u29 : Value) (wr : World) : Prop :=
  ∃ j, j ≤ r.2.length ∧ gk = r.2.length - j ∧ u29 = .int .i64 j ∧ TabAt 110 134 w.heap.size wr u0 (betT from_ upt (C ++ [(r.1, r.2.take j)])) ∧ wr.heap[pb]? = some (.cells #[v1, v2] 110 (0, 0)) ∧ wr.ownsRow 0 134 2 v1 r.1.length (r.1.flatMap encPB) ∧ wr.ownsRow 0 74 2 v2 r.2.length (r.2.flatMap encSm) ∧ Keeps [] w wr

set_option linter.unusedSimpArgs false in
set_option maxRecDepth 100000 in
set_option maxHeartbeats 4000000 in
theorem betweenR_spec (w : World) (v : Value) (A : TabT) (from_ upt : Int) (h : TabAt 110 134 0 w v A) (hf : FewT A) (hg : GoodT A) :
    Calls Tryz.prog 44 #[v, .int .i64 from_, .int .i64 upt] w fun e w' => ∃ v', e = .returned v' ∧ TabAt 110 134 w.heap.size w' v' (betT from_ upt A) ∧ Keeps [] w w' := by
  have Hf := Lib.hid (And.intro h (And.intro hf hg))
  have hA100 := hf.1
  obtain ⟨ao, cap, rfl⟩ := h.form
  have H0 := Lib.hid (And.intro (tab_made (tp := 134) (own_made w w.heap.size 110 2 (Nat.le_refl _))) ((Keeps.refl [] w).alloc (.cells #[] 110)))
  clear h hf hg
  go_enter Tryz.func44, Tryz.ntmps44
  go_wp2_with fail
  go_loopg [7, 15] A.length (ROut w A from_ upt)
  case atStart => exact ⟨0, Nat.zero_le _, rfl, rfl, by simpa [betT] using H0.out.1, H0.out.2⟩
  case round =>
    obtain ⟨k, hk, hgk, rfl, hrow, hkw⟩ := hrel
    have Hg := Lib.hid hgk
    clear hgk
    by_cases hlt : k < A.length
    · obtain ⟨b, off, u1, u2, ea, hb, d0, d1, g1, g2⟩ := (go1 hkw Hf.out.1).at_ k hlt
      subst ea
      have hlt' : (k : Int) < (A.length : Int) := by omega
      have hr := Hf.out.2.1.2 A[k] (List.getElem_mem hlt)
      have hrs := (Hf.out.2.2.smps A[k] (List.getElem_mem hlt)).1
      have Htk := Lib.hid (show A.take (k + 1) = A.take k ++ [A[k]] from List.take_succ_eq_append_getElem hlt)
      have Hmid := Lib.hid (fun (j : Nat) => take_mid2 (j := j) hlt Hf.out.2.2 Hf.out.2.1)
      generalize A[k] = r at d0 d1 g1 g2 hr hrs Htk Hmid
      obtain ⟨r1, r2⟩ := r
      dsimp only at g1 g2 hr hrs
      have Hrs := Lib.hid hrs
      clear hrs
      obtain ⟨ar1, cr1, rfl, -, -, -⟩ := row_slice g1
      obtain ⟨ar2, cr2, rfl, -, -, -⟩ := row_slice g2
      obtain ⟨ax, cx, hax⟩ := hrow.form
      obtain ⟨nX, hnX⟩ : ∃ n, n = (betT from_ upt (A.take k)).length := ⟨_, rfl⟩
      rw [← hnX] at hax
      subst hax
      have kP : Keeps [] wr (wr.alloc (.cells #[.slice ar1 r1.length cr1, .slice ar2 r2.length cr2] 110)) := (Keeps.refl [] wr).alloc _
      have H1 := Lib.hid (And.intro (go1 kP (And.intro hrow hkw)) (And.intro (heap_new wr (.cells #[.slice ar1 r1.length cr1, .slice ar2 r2.length cr2] 110)) (go1 kP (And.intro g1 g2))))
      clear kP hrow hkw g1 g2 hnX
      go_upto_region 5 with fail
      clear d0 d1 hb
      generalize hwp : wr.alloc (.cells #[.slice ar1 r1.length cr1, .slice ar2 r2.length cr2] 110) = wp at H1 ⊢
      generalize hpb : wr.heap.size = pb at H1 ⊢
      clear hwp hpb
      have cp := cells_at H1.out.2.1
      have lp := lt_of_at H1.out.2.1
      have H2 := H1
      clear H1
      go_wp2_with fail
      clear cp lp
      go_loopg [7, 22] r2.length (RIn w (A.take k) (r1, r2) pb (.slice ar1 r1.length cr1) (.slice ar2 r2.length cr2) from_ upt)
      case atStart => exact ⟨0, Nat.zero_le _, rfl, rfl, by rw [betT_app, betT_one]; simpa [betS] using H2.out.1.1, H2.out.2.1, H2.out.2.2.1, H2.out.2.2.2, H2.out.1.2⟩
      case round =>
        obtain ⟨j, hj, hgj, rfl, hrow, hpb, hv1, hv2, hkb⟩ := hrel
        have Hgj := Lib.hid hgj
        dsimp only at hj hrow hv1 hv2
        clear hgj
        obtain ⟨ax, cx, hax⟩ := hrow.form
        obtain ⟨nX, hnX⟩ : ∃ n, n = (betT from_ upt (A.take k ++ [(r1, r2.take j)])).length := ⟨_, rfl⟩
        rw [← hnX] at hax
        subst hax
        clear hnX
        by_cases hltj : j < r2.length
        · obtain ⟨b5, off5, ea, hb5, d0, d1⟩ := smp_at hv2 j hltj
          subst ea
          have hltj' : (j : Int) < (r2.length : Int) := by omega
          have HS := Lib.hid (show r2.take (j + 1) = r2.take j ++ [r2[j]] from List.take_succ_eq_append_getElem hltj)
          have Hps := Lib.hid (show (r2.take (j + 1)).Pairwise ltS from Hrs.out.sublist (List.take_sublist _ _))
          generalize r2[j] = s at d0 d1 HS
          obtain ⟨s1, s2⟩ := s
          dsimp only at d0 d1
          have kP : Keeps [] wr (wr.alloc (.cells #[.int .i64 s1, .int .u64 s2] 74)) := (Keeps.refl [] wr).alloc _
          have H3 := Lib.hid (And.intro (go1 kP (And.intro hrow (And.intro hpb (And.intro hv1 (And.intro hv2 hkb))))) (heap_new wr (.cells #[.int .i64 s1, .int .u64 s2] 74)))
          clear kP hrow hpb hv1 hv2 hkb
          go_upto_region 8 with fail
          clear d0 d1 hb5
          generalize hwq : wr.alloc (.cells #[.int .i64 s1, .int .u64 s2] 74) = wq at H3 ⊢
          generalize hqb : wr.heap.size = qb at H3 ⊢
          clear hwq hqb
          have cq := cells_at H3.out.2
          have lq := lt_of_at H3.out.2
          have cp := cells_at H3.out.1.2.1
          have lp := lt_of_at H3.out.1.2.1
          have hways : (¬ from_ ≤ s1) ∨ (from_ ≤ s1 ∧ ¬ s1 < upt) ∨ (from_ ≤ s1 ∧ s1 < upt) := by omega
          rcases hways with hx | ⟨hx, hy⟩ | ⟨hx, hy⟩
          · have Hb := Lib.hid (show ¬ betB from_ upt (s1, s2) from fun h => hx h.1)
            have hx' : s1 < from_ := by omega
            go_wp2_with fail
            go_roundg (r2.length - (j + 1))
            case measure => have := Hgj.out; omega
            case rel =>
              refine ⟨j + 1, hltj, rfl, by go_num, ?_, H3.out.1.2.1, H3.out.1.2.2.1, H3.out.1.2.2.2.1, H3.out.1.2.2.2.2⟩
              show TabAt _ _ _ _ _ (betT from_ upt (A.take k ++ [(r1, r2.take (j + 1))]))
              rw [HS.out, bet_stay Hb.out]
              exact H3.out.1.1
          · have Hb := Lib.hid (show ¬ betB from_ upt (s1, s2) from fun h => hy h.2)
            go_wp2_with fail
            go_roundg (r2.length - (j + 1))
            case measure => have := Hgj.out; omega
            case rel =>
              refine ⟨j + 1, hltj, rfl, by go_num, ?_, H3.out.1.2.1, H3.out.1.2.2.1, H3.out.1.2.2.2.1, H3.out.1.2.2.2.2⟩
              show TabAt _ _ _ _ _ (betT from_ upt (A.take k ++ [(r1, r2.take (j + 1))]))
              rw [HS.out, bet_stay Hb.out]
              exact H3.out.1.1
          · have Hb := Lib.hid (show betB from_ upt (s1, s2) from ⟨hx, hy⟩)
            have Hmj := Lib.hid (Hmid.out j)
            go_wp2_with fail
            refine (addM_spec wq _ _ (betT from_ upt (A.take k ++ [(r1, r2.take j)])) r1 (s1, s2) (H3.out.1.1.base (Nat.zero_le _)) (betT_few Hmj.out.2.1) (by
              unfold betT
              exact List.Pairwise.filter _ (List.pairwise_map.2 Hmj.out.2.2)) H3.out.1.2.2.1 (by omega)).mono ?_
            rintro e w6 ⟨v6, rfl, ht6, hk6⟩
            rw [bet_step Hmj.out.1 (by rw [← HS.out]; exact Hps.out) Hb.out, ← HS.out] at ht6
            have H6 := Lib.hid (And.intro (ht6.base (B' := w.heap.size) H3.out.1.2.2.2.2.size) (go1 hk6 H3.out.1.2))
            obtain ⟨ay, cy, hay⟩ := ht6.form
            obtain ⟨nY, hnY⟩ : ∃ n, n = (betT from_ upt (A.take k ++ [(r1, r2.take (j + 1))])).length := ⟨_, rfl⟩
            rw [← hnY] at hay
            subst hay
            clear ht6 hk6 hnY H3 cq lq cp lp
            go_wp2_with fail
            go_roundg (r2.length - (j + 1))
            case measure => have := Hgj.out; omega
            case rel => exact ⟨j + 1, hltj, rfl, by go_num, H6.out.1, H6.out.2.1, H6.out.2.2.1, H6.out.2.2.2.1, H6.out.2.2.2.2⟩
        · have hgej : ¬ (j : Int) < (r2.length : Int) := by omega
          have hjn : r2.take j = r2 := List.take_of_length_le (by omega)
          rw [hjn] at hrow
          have Hr := Lib.hid (And.intro hrow hkb)
          clear hrow hpb hkb hjn hv1 hv2
          go_wp2_with fail
          go_roundg (A.length - (k + 1))
          case measure => have := Hg.out; omega
          case rel =>
            refine ⟨k + 1, hlt, rfl, by go_num, ?_, Hr.out.2⟩
            rw [Htk.out]
            exact Hr.out.1
    · have hge : ¬ (k : Int) < (A.length : Int) := by omega
      have hkn := Lib.hid (show A.take k = A from List.take_of_length_le (by omega))
      have Hr := Lib.hid (And.intro hrow hkw)
      obtain ⟨ax, cx, hax⟩ := hrow.form
      obtain ⟨nX, hnX⟩ : ∃ n, n = (betT from_ upt (A.take k)).length := ⟨_, rfl⟩
      rw [← hnX] at hax
      subst hax
      clear hrow hkw hnX
      go_wp2_with fail
      go_ret
      exact ⟨_, rfl, by have h := Hr.out.1; rw [hkn.out] at h; exact h, Hr.out.2⟩
end Go.Proofs.YtkffpcmminlndaaGreatDoor

namespace Go.Proofs.YtkffpcmminlndaaGreatDoor
open Go Go.RowKit

/-- A row appended beside another table of rows of the same type. -/
theorem rows_app {B0 : Nat} {w w4 w5 : World} {ax : Option Addr} {cx : Nat} {E : List RowV} {A B : TabT} {u1 u2 v5 vb : Value} {r : RowT} (hE1 : w4.ownsRow B0 110 2 (.slice ax E.length cx) E.length (E.flatMap encRV)) (hE2 : ElemsAt 134 w4 E A) (g1 : w4.ownsRow 0 134 2 u1 r.1.length (r.1.flatMap encPB)) (g2 : w4.ownsRow 0 74 2 u2 r.2.length (r.2.flatMap encSm)) (hB : TabAt 110 134 0 w4 vb B) (hne : ∀ g, vb.ownBlock = some g → (Value.slice ax E.length cx).ownBlock ≠ some g) (hk : Keeps [] w w4) (hown : w5.ownsRow B0 110 2 v5 (E.length + 1) (E.flatMap encRV ++ [u1, u2])) (hg : w4.grownBy w5 (Value.slice ax E.length cx).ownBlock) (hob : v5.ownBlock = (Value.slice ax E.length cx).ownBlock ∨ v5.ownBlock = some w4.heap.size) (hB0 : w.heap.size ≤ B0 := by exact Nat.le_refl _) :
    TabAt 110 134 B0 w5 v5 (A ++ [r]) ∧ TabAt 110 134 0 w5 vb B ∧ (∀ g, vb.ownBlock = some g → v5.ownBlock ≠ some g) ∧ Keeps [] w w5 := by
  have k5 := keeps_row hg
  have hel := (hE2.snoc (r := r) g1 g2).grown hE1 k5 (by decide) (by decide)
  obtain ⟨F, hF1, hF2⟩ := hB
  refine ⟨⟨_, rv_snoc hown, hel⟩, ⟨F, k5.row hF1 (fun g hg' hm => hne g hg' (by simpa using hm)), hF2.grown hE1 k5 (by decide) (by decide)⟩, fun g hg' e => ?_, keeps_own hk hg (fun q hq => Nat.le_trans hB0 (World.ownsRow.lt hE1 q hq).1)⟩
  rcases hob with h | h
  · exact hne g hg' (by rw [← h]; exact e)
  · have h1 := (World.ownsRow.lt hF1 g hg').2
    rw [h] at e
    have := Option.some.inj e
    omega

def RowsRelF (w : World) (vb : Value) (B : TabT) (L : List MatB) (gk : Nat) (u9 u18 : Value) (wr : World) : Prop :=
  ∃ k, k ≤ B.length ∧ gk = B.length - k ∧ u18 = .int .i64 (k : Nat) ∧ TabAt 110 134 w.heap.size wr u9 ((B.take k).filter (fitR L)) ∧ TabAt 110 134 0 wr vb B ∧ (∀ g, vb.ownBlock = some g → u9.ownBlock ≠ some g) ∧ Keeps [] w wr

set_option linter.unusedSimpArgs false in
set_option maxRecDepth 100000 in
set_option maxHeartbeats 4000000 in
theorem rowsR_spec (w : World) (v : Value) (A : TabT) (fr up : Int) (vm : Value) (L : List MatB) (h : TabAt 110 134 0 w v A) (fr0 up0 : Nat) (hok : BlkOk A fr0 up0) (hm : MatsAt w vm L) (hmay : ∀ m ∈ L, mayK m) :
    Calls Tryz.prog 19 #[v, .int .i64 fr, .int .i64 up, vm] w fun e w' => ∃ v', e = .returned v' ∧ TabAt 110 134 w.heap.size w' v' ((betT fr up A).filter (fitR L)) ∧ Keeps [] w w' := by
  obtain ⟨ir, hir, hy0, hy1, hy2⟩ := info_parts infoRow14
  have Hf := Lib.hid (And.intro h (And.intro hok (And.intro hm hmay)))
  have H0 := Lib.hid (And.intro (tab_made (tp := 134) (own_made w w.heap.size 110 2 (Nat.le_refl _))) ((Keeps.refl [] w).alloc (.cells #[] 110)))
  obtain ⟨ao, cap, rfl⟩ := h.form
  obtain ⟨am, cm, rfl, -⟩ := hm.form
  clear h hok hm hmay
  go_enter Tryz.func19, Tryz.ntmps19
  go_wp2_with fail
  refine (betweenR_spec _ _ A fr up (Hf.out.1.keep H0.out.2) Hf.out.2.1.fewT Hf.out.2.1.good).mono ?_
  rintro e w1 ⟨vb, rfl, hTb, kb⟩
  obtain ⟨B, hB⟩ : ∃ B, B = betT fr up A := ⟨_, rfl⟩
  have hBf : FewT B := by rw [hB]; exact betT_few Hf.out.2.1.fewT
  rw [← hB] at hTb
  have hTo := H0.out.1.keep kb
  have hne : ∀ g, vb.ownBlock = some g → (Value.slice (some ⟨w.heap.size, 0, none⟩) 0 0).ownBlock ≠ some g := fun g hg e => by
    obtain ⟨E, hE, -⟩ := hTb
    have h1 := (World.ownsRow.lt hE g hg).1
    have h2 : w.heap.size = g := by simpa [Value.ownBlock] using e
    rw [World.size_alloc] at h1
    omega
  have H1 := Lib.hid (And.intro (hTb.base (Nat.zero_le _)) (And.intro (H0.out.2.trans kb) (And.intro hBf (And.intro hB (And.intro hTo hne)))))
  have hB100 := hBf.1
  obtain ⟨ab, cb, rfl⟩ := hTb.form
  clear hTb kb hB hBf hTo H0 hne
  go_wp2_with fail
  go_loopg [9, 18] B.length (RowsRelF w (.slice ab B.length cb) B L)
  case atStart => exact ⟨0, Nat.zero_le _, rfl, rfl, H1.out.2.2.2.2.1, H1.out.1, H1.out.2.2.2.2.2, H1.out.2.1⟩
  case round =>
    obtain ⟨k, hk, hgk, rfl, hrow, hbw, hne, hkw⟩ := hrel
    have Hg := Lib.hid hgk
    clear hgk
    obtain ⟨E, hE1, hE2⟩ := hrow
    have hEl : E.length ≤ 100 := by
      have h1 := hE2.1
      have h2 := List.length_filter_le (fitR L) (B.take k)
      rw [List.length_take] at h2
      omega
    obtain ⟨ax, cx, rfl, -, -, -⟩ := row_slice hE1
    by_cases hlt : k < B.length
    · obtain ⟨b, off, u1, u2, ea, hb, d0, d1, g1, g2⟩ := hbw.at_ k hlt
      subst ea
      have hlt' : (k : Int) < (B.length : Int) := by omega
      have Htk := Lib.hid (show B.take (k + 1) = B.take k ++ [B[k]] from List.take_succ_eq_append_getElem hlt)
      generalize B[k] = r at d0 d1 g1 g2 Htk
      obtain ⟨r1, r2⟩ := r
      dsimp only at g1 g2
      obtain ⟨ar1, cr1, rfl, -, -, -⟩ := row_slice g1
      obtain ⟨ar2, cr2, rfl, -, -, -⟩ := row_slice g2
      have kP : Keeps [] wr (wr.alloc (.cells #[.slice ar1 r1.length cr1, .slice ar2 r2.length cr2] 110)) := (Keeps.refl [] wr).alloc _
      have H2 := Lib.hid (And.intro (go1 kP (And.intro hE1 (And.intro hE2 (And.intro g1 g2)))) (And.intro (hbw.keep kP) (And.intro hne (And.intro (hkw.trans kP) (heap_new wr (.cells #[.slice ar1 r1.length cr1, .slice ar2 r2.length cr2] 110))))))
      clear kP hkw hE1 hE2 g1 g2 hbw hne
      go_upto_region 5 with fail
      clear d0 d1 hb
      generalize hwp : wr.alloc (.cells #[.slice ar1 r1.length cr1, .slice ar2 r2.length cr2] 110) = wp at H2 ⊢
      generalize hpb : wr.heap.size = pb at H2 ⊢
      clear hwp hpb
      have cp := cells_at H2.out.2.2.2.2
      have lp := lt_of_at H2.out.2.2.2.2
      go_wp2_with fail
      refine (matchR_spec wp _ _ r1 L (rowP H2.out.1.2.2.1) (go1 H2.out.2.2.2.1 Hf.out.2.2.1) Hf.out.2.2.2).mono ?_
      rintro e w3 ⟨rfl, k3⟩
      have n3 := k3.at_ H2.out.2.2.2.2 (by simp)
      have H3 := Lib.hid (And.intro (go1 k3 H2.out.1) (And.intro (H2.out.2.1.keep k3) (And.intro H2.out.2.2.1 (H2.out.2.2.2.1.trans k3))))
      clear cp lp k3 H2
      have cp := cells_at n3
      have lp := lt_of_at n3
      clear n3
      rcases Bool.eq_false_or_eq_true (L.all (fitsM r1)) with hf | hf
      · rw [hf]
        have Hfit := Lib.hid (show fitR L (r1, r2) = true from hf)
        clear hf
        have kA : Keeps [] w3 (w3.alloc (.cells #[.slice ar1 r1.length cr1, .slice ar2 r2.length cr2] 110)) := (Keeps.refl [] w3).alloc _
        have H4 := Lib.hid (And.intro (go1 kA H3.out.1) (And.intro (H3.out.2.1.keep kA) (And.intro H3.out.2.2.1 (And.intro (H3.out.2.2.2.trans kA) (heap_new w3 (.cells #[.slice ar1 r1.length cr1, .slice ar2 r2.length cr2] 110))))))
        clear kA H3
        go_wp2_with (at_builtin; refine wpList_append_own_at _ rfl (.tmp 26) (.tmp 28) 26 rfl w.heap.size 110 ir _ 2 48 Tryz.underlying26 hir hy0 hy1 hy2 rfl (by decide) (.slice ax E.length cx) E.length (E.flatMap encRV) rfl H4.out.1.1 ⟨w3.heap.size, 0, none⟩ 1 1 [.slice ar1 r1.length cr1, .slice ar2 r2.length cr2] rfl rfl (news_two H4.out.2.2.2.2) (by simp [Value.oneCell']) (by simp only [maxLen]; omega) (by omega) H4.out.2.2.2.1.size ?_; intro v5 w5 hown5 hgrow5 hnil5 hob5; clear hnil5; obtain ⟨ao5, cp5, rfl, -, -, -⟩ := row_slice hown5; have H5 := Lib.hid (rows_app (r := (r1, r2)) H4.out.1.1 H4.out.1.2.1 H4.out.1.2.2.1 H4.out.1.2.2.2 H4.out.2.1 H4.out.2.2.1 H4.out.2.2.2.1 hown5 hgrow5 hob5); clear hown5 hgrow5 hob5)
        go_roundg (B.length - (k + 1))
        case measure => have := Hg.out; omega
        case rel => exact ⟨k + 1, hlt, rfl, by go_num, by rw [Htk.out, List.filter_append, show [(r1, r2)].filter (fitR L) = [(r1, r2)] from by simp [Hfit.out]]; exact H5.out.1, H5.out.2.1, H5.out.2.2.1, H5.out.2.2.2⟩
      · rw [hf]
        have Hfit := Lib.hid (show fitR L (r1, r2) = false from hf)
        clear hf
        go_wp2_with fail
        go_roundg (B.length - (k + 1))
        case measure => have := Hg.out; omega
        case rel => exact ⟨k + 1, hlt, rfl, by go_num, by rw [Htk.out, List.filter_append, show [(r1, r2)].filter (fitR L) = [] from by simp [Hfit.out], List.append_nil]; exact ⟨E, H3.out.1.1, H3.out.1.2.1⟩, H3.out.2.1, H3.out.2.2.1, H3.out.2.2.2⟩
    · have hge : ¬ (k : Int) < (B.length : Int) := by omega
      have hkn := Lib.hid (show B.take k = B from List.take_of_length_le (by omega))
      have Hr := Lib.hid (And.intro hE1 (And.intro hE2 hkw))
      clear hE1 hE2 hkw hbw hne
      go_wp2_with fail
      go_ret
      exact ⟨_, rfl, by rw [← H1.out.2.2.2.1]; have h := Hr.out.2.1; rw [hkn.out] at h; exact ⟨E, Hr.out.1, h⟩, Hr.out.2.2⟩
end Go.Proofs.YtkffpcmminlndaaGreatDoor
