/-
  The document's Same: two tables that are one are the same, walked.
  The tables are of few rows.

  Package barographlaw14: Told: the program's table as the document's, walked. merge.Between: what is between two times.
  The tables are of few rows.

  How many steps a fetch has, by the document (package barographref17): Steps, walked.
  The table may be built (BlkOk); the matchers may be.

  The document's table between two times (package barographref14), walked.
  The tables are of few rows.

  The document's answer of what is read of a table (package barographref17): Rows, walked.
  The table may be built (BlkOk); the matchers may be.
-/
import Derived.Test.YtgcfkhcogllgfaaGreatDoorTabLaw
import Derived.Test.YtgcfkhcogllgfaaGreatDoorFetLaw
import Derived.Test.YtgcfkhcogllgfaaGreatDoorBldS
import Derived.Test.YtgcfkhcogllgfaaGreatDoorTabQ
import Derived.Maps.AppendAt
namespace Go.Proofs.YtgcfkhcogllgfaaGreatDoor
set_option maxRecDepth 100000
set_option maxHeartbeats 4000000
set_option linter.unusedSimpArgs false
open Go Go.RowKit
def SameOut (w : World) (n gk : Nat) (u14 : Value) (wr : World) : Prop := ∃ k, k ≤ n ∧ gk = n - k ∧ u14 = .int .i64 k ∧ Keeps [] w wr
theorem same14_spec (w : World) (va vb : Value) (A : TabT) (ha : TabAt 74 94 0 w va A) (hb : TabAt 74 94 0 w vb A) (hf : FewT A) :
  Calls Tryz.prog 9 #[va, vb] w fun e w' => e = .returned (.bool true) ∧ Keeps [] w w' := by
 have Hf := Lib.hid (And.intro ha (And.intro hb hf.2))
 have hA100 := hf.1
 obtain ⟨aa, ca, rfl⟩ := ha.form
 obtain ⟨ab, cb, rfl⟩ := hb.form
 clear ha hb hf
 go_enter Tryz.func9, Tryz.ntmps9
 go_wp2_with fail
 go_loopg [14] A.length (SameOut w A.length)
 case atStart => exact ⟨0, Nat.zero_le _, rfl, rfl, Keeps.refl [] w⟩
 case round =>
  obtain ⟨k, hk, hgk, rfl, hkw⟩ := hrel
  have Hg := Lib.hid hgk
  clear hgk
  by_cases hlt : k < A.length
  ·obtain ⟨b1, off1, u1, u2, ea, hb1, d0, d1, g1, g2⟩ := (go1 hkw Hf.out.1).at_ k hlt
   subst ea
   obtain ⟨b2, off2, x1, x2, ea, hb2, e0, e1, f1, f2⟩ := (go1 hkw Hf.out.2.1).at_ k hlt
   subst ea
   have hlt' : (k : Int) < (A.length : Int) := by omega
   have hr := Hf.out.2.2 A[k] (List.getElem_mem hlt)
   generalize A[k] = r at d0 d1 e0 e1 g1 g2 f1 f2 hr
   obtain ⟨r1, r2⟩ := r
   dsimp only at g1 g2 f1 f2 hr
   obtain ⟨ag1, cg1, rfl, -, -, -⟩ := row_slice g1
   obtain ⟨ag2, cg2, rfl, -, -, -⟩ := row_slice g2
   obtain ⟨af1, cf1, rfl, -, -, -⟩ := row_slice f1
   obtain ⟨af2, cf2, rfl, -, -, -⟩ := row_slice f2
   obtain ⟨W0, hW0⟩ : ∃ W0, W0 = wr.drew := ⟨_, rfl⟩
   have kW : Keeps [] wr W0 := by rw [hW0]; exact (Keeps.refl [] wr).drew
   have H1 := Lib.hid (And.intro (go1 kW (And.intro g1 (And.intro g2 (And.intro f1 f2)))) (hkw.trans kW))
   have D0 : ∀ s : Kept W0, s.val.cell? ⟨b1, off1 + k * 2, none⟩ = some (.slice ag1 r1.length cg1) := keptCell ((kW.cell hb1 (by simp)).trans d0)
   have D1 : ∀ s : Kept W0, s.val.cell? ⟨b1, off1 + k * 2 + 1, none⟩ = some (.slice ag2 r2.length cg2) := keptCell ((kW.cell hb1 (by simp)).trans d1)
   have E0 : ∀ s : Kept W0, s.val.cell? ⟨b2, off2 + k * 2, none⟩ = some (.slice af1 r1.length cf1) := keptCell ((kW.cell hb2 (by simp)).trans e0)
   have E1 : ∀ s : Kept W0, s.val.cell? ⟨b2, off2 + k * 2 + 1, none⟩ = some (.slice af2 r2.length cf2) := keptCell ((kW.cell hb2 (by simp)).trans e1)
   have HB := Lib.hid (And.intro (kW.lt hb1) (kW.lt hb2))
   have HW := Lib.hid hW0
   clear hkw kW hW0 d0 d1 e0 e1 g1 g2 f1 f2 hb1 hb2
   go_upto_region 6 with fail
   refine wp_region_held_drew (S := KeptS W0) (by kernel_rfl) (by rw [← HW.out]; exact keptS (Keeps.refl _ _)) (fun hS => ?_)
   rw [← HW.out] at hS ⊢
   clear HW
   refine tk (v := ?_) 0 rfl ?_ ?_; rotate_left
   ·rintro _ ⟨s, rfl⟩; go_simp; (try with_reducible rfl)
   simp only [Act.put, zz]
   refine tk (v := ?_) 1 rfl ?_ ?_; rotate_left
   ·rintro _ ⟨s, rfl⟩; go_simp; (try with_reducible rfl)
   simp only [Act.put, zz]
   refine tk (v := ?_) 2 rfl ?_ ?_; rotate_left
   ·rintro _ ⟨s, rfl⟩; go_simp; (try with_reducible rfl)
   simp only [Act.put, zz]
   refine tk (v := ?_) 3 rfl ?_ ?_; rotate_left
   ·rintro _ ⟨s, rfl⟩; go_simp; (try with_reducible rfl)
   simp only [Act.put, zz]
   refine tk (v := ?_) 4 rfl ?_ ?_; rotate_left
   ·rintro _ ⟨s, rfl⟩; go_simp; (try with_reducible rfl)
   simp only [Act.put, zz]
   refine tk (v := ?_) 5 rfl ?_ ?_; rotate_left
   ·rintro _ ⟨s, rfl⟩; go_simp; (try with_reducible rfl)
   simp only [Act.put, zz]
   refine tk (v := ?_) 6 rfl ?_ ?_; rotate_left
   ·rintro _ ⟨s, rfl⟩; go_simp; (try with_reducible rfl)
   simp only [Act.put, zz]
   refine tk (v := ?_) 7 rfl ?_ ?_; rotate_left
   ·rintro _ ⟨s, rfl⟩; go_simp; (try with_reducible rfl)
   simp only [Act.put, zz]
   refine tk (v := ?_) 8 rfl ?_ ?_; rotate_left
   ·rintro _ ⟨s, rfl⟩; go_simp; (try with_reducible rfl)
   simp only [Act.put, zz]
   refine tk (v := ?_) 9 rfl ?_ ?_; rotate_left
   ·rintro _ ⟨s, rfl⟩; go_simp; (try with_reducible rfl)
   simp only [Act.put, zz]
   refine rd 10 rfl fun K hK => ?_
   go_simp
   go_at_call 25
   refine (compareR_spec W0 _ _ r1 r1 (rowP H1.out.1.1) (rowP H1.out.1.2.2.1) (by omega)).mono ?_
   rintro e A1 ⟨rfl, q1⟩
   rw [cmpL_self]
   go_simp
   refine hK.out _ _ (keptS q1) (fun hS => ?_)
   clear hK K
   try simp only [Act.put, zz]
   refine tk (v := ?_) 11 rfl ?_ ?_; rotate_left
   ·rintro _ ⟨s, rfl⟩; go_simp; (try with_reducible rfl)
   simp only [Act.put, zz]
   refine tk (v := ?_) 12 rfl ?_ ?_; rotate_left
   ·rintro _ ⟨s, rfl⟩; go_simp; (try with_reducible rfl)
   simp only [Act.put, zz]
   refine tk (v := ?_) 13 rfl ?_ ?_; rotate_left
   ·rintro _ ⟨s, rfl⟩; go_simp; (try with_reducible rfl)
   simp only [Act.put, zz]
   refine tk (v := ?_) 14 rfl ?_ ?_; rotate_left
   ·rintro _ ⟨s, rfl⟩; go_simp; (try with_reducible rfl)
   simp only [Act.put, zz]
   refine tk (v := ?_) 15 rfl ?_ ?_; rotate_left
   ·rintro _ ⟨s, rfl⟩; go_simp; (try with_reducible rfl)
   simp only [Act.put, zz]
   refine tk (v := ?_) 16 rfl ?_ ?_; rotate_left
   ·rintro _ ⟨s, rfl⟩; go_simp; (try with_reducible rfl)
   simp only [Act.put, zz]
   refine tk (v := ?_) 17 rfl ?_ ?_; rotate_left
   ·rintro _ ⟨s, rfl⟩; go_simp; (try with_reducible rfl)
   simp only [Act.put, zz]
   refine tk (v := ?_) 18 rfl ?_ ?_; rotate_left
   ·rintro _ ⟨s, rfl⟩; go_simp; (try with_reducible rfl)
   simp only [Act.put, zz]
   refine tk (v := ?_) 19 rfl ?_ ?_; rotate_left
   ·rintro _ ⟨s, rfl⟩; go_simp; (try with_reducible rfl)
   simp only [Act.put, zz]
   refine tk (v := ?_) 20 rfl ?_ ?_; rotate_left
   ·rintro _ ⟨s, rfl⟩; go_simp; (try with_reducible rfl)
   simp only [Act.put, zz]
   refine tk (v := ?_) 21 rfl ?_ ?_; rotate_left
   ·rintro _ ⟨s, rfl⟩; go_simp; (try with_reducible rfl)
   simp only [Act.put, zz]
   refine tk (v := ?_) 22 rfl ?_ ?_; rotate_left
   ·rintro _ ⟨s, rfl⟩; go_simp; (try with_reducible rfl)
   simp only [Act.put, zz]
   refine tk (v := ?_) 23 rfl ?_ ?_; rotate_left
   ·rintro _ ⟨s, rfl⟩; go_simp; (try with_reducible rfl)
   simp only [Act.put, zz]
   refine tk (v := ?_) 24 rfl ?_ ?_; rotate_left
   ·rintro _ ⟨s, rfl⟩; go_simp; (try with_reducible rfl)
   simp only [Act.put, zz]
   refine tk (v := ?_) 25 rfl ?_ ?_; rotate_left
   ·rintro _ ⟨s, rfl⟩; go_simp; (try with_reducible rfl)
   simp only [Act.put, zz]
   refine tk (v := ?_) 26 rfl ?_ ?_; rotate_left
   ·rintro _ ⟨s, rfl⟩; go_simp; (try with_reducible rfl)
   simp only [Act.put, zz]
   refine wpAnyH_done (by kernel_rfl) ?_ _
   have H2 := Lib.hid (And.intro (go1 q1 H1.out.1) (And.intro (H1.out.2.trans q1) (And.intro (show A1.cell? ⟨b1, off1 + k * 2 + 1, none⟩ = some (.slice ag2 r2.length cg2) from D1 ⟨A1, q1⟩) (And.intro (show A1.cell? ⟨b2, off2 + k * 2 + 1, none⟩ = some (.slice af2 r2.length cf2) from E1 ⟨A1, q1⟩) (And.intro (q1.lt HB.out.1) (q1.lt HB.out.2))))))
   clear D0 D1 E0 E1 hS q1 H1
   have d1 := H2.out.2.2.1
   have e1 := H2.out.2.2.2.1
   have l1 := H2.out.2.2.2.2.1
   have l2 := H2.out.2.2.2.2.2
   go_wp2_with fail
   clear d1 e1 l1 l2
   go_loopg [50] r2.length (SameOut A1 r2.length)
   case atStart => exact ⟨0, Nat.zero_le _, rfl, rfl, Keeps.refl [] A1⟩
   case round =>
    obtain ⟨j, hj, hgj, rfl, hkb⟩ := hrel
    have Hgj := Lib.hid hgj
    clear hgj
    by_cases hltj : j < r2.length
    ·obtain ⟨b3, off3, ea, hb3, y0, y1⟩ := smp_at (go1 hkb H2.out.1.2.1) j hltj
     subst ea
     obtain ⟨b4, off4, ea, hb4, z0, z1⟩ := smp_at (go1 hkb H2.out.1.2.2.2) j hltj
     subst ea
     have hltj' : (j : Int) < (r2.length : Int) := by omega
     have d1 := (hkb.cell (i := off1 + k * 2 + 1) H2.out.2.2.2.2.1 (by simp)).trans H2.out.2.2.1
     have e1 := (hkb.cell (i := off2 + k * 2 + 1) H2.out.2.2.2.2.2 (by simp)).trans H2.out.2.2.2.1
     have l1 := hkb.lt H2.out.2.2.2.2.1
     have l2 := hkb.lt H2.out.2.2.2.2.2
     generalize r2[j] = s at y0 y1 z0 z1
     obtain ⟨s1, s2⟩ := s
     dsimp only at y0 y1 z0 z1
     have Hk := Lib.hid hkb
     clear hkb
     go_wp2_with fail
     go_quiet (fail)
     have Hk2 := Lib.hid (Hk.out.drewN nq)
     clear y0 y1 z0 z1 d1 e1 l1 l2 hb3 hb4 Hk
     generalize wr.drewN nq = W at Hk2 ⊢
     go_wp2_with fail
     go_roundg (r2.length - (j + 1))
     case measure => have := Hgj.out; omega
     case rel => exact ⟨j + 1, hltj, rfl, by go_num, Hk2.out⟩
    ·have hge : ¬ (j : Int) < (r2.length : Int) := by omega
     have Hr := Lib.hid (H2.out.2.1.trans hkb)
     clear hkb
     go_wp2_with fail
     go_roundg (A.length - (k + 1))
     case measure => have := Hg.out; omega
     case rel => exact ⟨k + 1, hlt, rfl, by go_num, Hr.out⟩
  ·have hge : ¬ (k : Int) < (A.length : Int) := by omega
   have Hr := Lib.hid hkw
   clear hkw
   go_wp2_with fail
   go_ret
   exact ⟨rfl, Hr.out⟩
def ToldRelT (w : World) (A : TabT) (gk : Nat) (u3 u9 : Value) (wr : World) : Prop :=
 ∃ k, k ≤ A.length ∧ gk = A.length - k ∧ u9 = .int .i64 k ∧ TabAt 74 94 w.heap.size wr u3 (A.take k) ∧ Keeps [] w wr
theorem told14_spec (w : World) (v : Value) (A : TabT) (h : TabAt 76 91 0 w v A) (hf : FewT A) :
  Calls Tryz.prog 10 #[v] w fun e w' => ∃ v', e = .returned v' ∧ TabAt 74 94 w.heap.size w' v' A ∧ Keeps [] w w' := by
 obtain ⟨ir, hir, hy0, hy1, hy2⟩ := info_parts infoRow14
 have Hf := Lib.hid (And.intro h hf.2)
 have hA100 := hf.1
 have H0 := Lib.hid (And.intro (tab_made (tp := 94) (own_made w w.heap.size 74 2 (Nat.le_refl _))) ((Keeps.refl [] w).alloc (.cells #[] 74)))
 obtain ⟨ao, cap, rfl⟩ := h.form
 clear h hf
 go_enter Tryz.func10, Tryz.ntmps10
 go_wp2_with fail
 go_loopg [3, 9] A.length (ToldRelT w A)
 case atStart => exact ⟨0, Nat.zero_le _, rfl, rfl, H0.out.1, H0.out.2⟩
 case round =>
  obtain ⟨k, hk, hgk, rfl, hrow, hkw⟩ := hrel
  have Hg := Lib.hid hgk
  clear hgk H0
  obtain ⟨E, hE1, hE2⟩ := hrow
  have hEl : E.length ≤ 100 := by have := hE2.1; rw [List.length_take] at this; omega
  obtain ⟨ax, cx, rfl, -, -, -⟩ := row_slice hE1
  by_cases hlt : k < A.length
  ·obtain ⟨b, off, u1, u2, ea, hb, d0, d1, g1, g2⟩ := (go1 hkw Hf.out.1).at_ k hlt
   subst ea
   have hlt' : (k : Int) < (A.length : Int) := by omega
   have hr := Hf.out.2 A[k] (List.getElem_mem hlt)
   have Htk := Lib.hid (show A.take (k + 1) = A.take k ++ [A[k]] from List.take_succ_eq_append_getElem hlt)
   generalize A[k] = r at d0 d1 g1 g2 hr Htk
   obtain ⟨r1, r2⟩ := r
   dsimp only at g1 g2 hr
   obtain ⟨ar1, cr1, rfl, -, -, -⟩ := row_slice g1
   obtain ⟨ar2, cr2, rfl, -, -, -⟩ := row_slice g2
   obtain ⟨W0, hW0⟩ : ∃ W0, W0 = (wr.alloc (.cells #[.slice ar1 r1.length cr1, .slice ar2 r2.length cr2] 76)).drew := ⟨_, rfl⟩
   have kW : Keeps [] wr W0 := by rw [hW0]; exact ((Keeps.refl [] wr).alloc _).drew
   have hp : W0.heap[wr.heap.size]? = some (.cells #[.slice ar1 r1.length cr1, .slice ar2 r2.length cr2] 76 (0, 0)) := by rw [hW0]; exact heap_new wr (.cells #[.slice ar1 r1.length cr1, .slice ar2 r2.length cr2] 76)
   have H1 := Lib.hid (And.intro (go1 kW (And.intro hE1 (And.intro hE2 (And.intro g1 g2)))) (And.intro (hkw.trans kW) hp))
   have Hne := Lib.hid (show ∀ g, (Value.slice ax E.length cx).ownBlock = some g → g ≠ wr.heap.size from fun g hg => by have := (World.ownsRow.lt hE1 g hg).2; omega)
   have HW := Lib.hid hW0
   clear hkw kW hp hW0 hE1 hE2 g1 g2
   go_upto_region 5 with fail
   have s1 : W0.cell? ⟨wr.heap.size, 0, none⟩ = some (.slice ar1 r1.length cr1) := by rw [cells_at H1.out.2.2]; rfl
   have s2 : W0.cell? ⟨wr.heap.size, 1, none⟩ = some (.slice ar2 r2.length cr2) := by rw [cells_at H1.out.2.2]; rfl
   refine wp_region_held_drew (S := fun w' => w'.cell? ⟨wr.heap.size, 0, none⟩ = some (.slice ar1 r1.length cr1) ∧ w'.cell? ⟨wr.heap.size, 1, none⟩ = some (.slice ar2 r2.length cr2)) (by kernel_rfl) (by rw [← HW.out]; exact ⟨s1, s2⟩) (fun hS => ?_)
   rw [← HW.out] at hS ⊢
   generalize wr.heap.size = pk at s1 s2 H1 Hne hS ⊢
   clear d0 d1 hb HW s1 s2
   refine tk (v := ?_) 0 rfl ?_ ?_; rotate_left
   ·rintro _ ⟨s1, s2⟩; go_simp; (try with_reducible rfl)
   simp only [Act.put, zz]
   refine tk (v := ?_) 1 rfl ?_ ?_; rotate_left
   ·rintro _ ⟨s1, s2⟩; go_simp; (try with_reducible rfl)
   simp only [Act.put, zz]
   refine tk (v := ?_) 2 rfl ?_ ?_; rotate_left
   ·rintro _ ⟨s1, s2⟩; go_simp; (try with_reducible rfl)
   simp only [Act.put, zz]
   refine tk (v := ?_) 4 rfl ?_ ?_; rotate_left
   ·rintro _ ⟨s1, s2⟩; go_simp; (try with_reducible rfl)
   simp only [Act.put, zz]
   refine tk (v := ?_) 5 rfl ?_ ?_; rotate_left
   ·rintro _ ⟨s1, s2⟩; go_simp; (try with_reducible rfl)
   simp only [Act.put, zz]
   refine rd 3 rfl fun K hK => ?_
   go_simp
   go_at_call 14
   refine (told6_spec W0 _ r1 (rowP H1.out.1.2.2.1) (by omega)).mono ?_
   rintro e A1 ⟨v1, rfl, hrow1, q1⟩
   have h1 := row_base (b' := 0) hrow1 (Nat.zero_le _)
   obtain ⟨al, cl, rfl, -, -, -⟩ := row_slice hrow1
   have H2 := Lib.hid (And.intro (go1 q1 H1.out.1) (And.intro (H1.out.2.1.trans q1) (And.intro (go1 q1 H1.out.2.2) h1)))
   have t2 : A1.cell? ⟨pk, 0, none⟩ = some (.slice ar1 r1.length cr1) ∧ A1.cell? ⟨pk, 1, none⟩ = some (.slice ar2 r2.length cr2) := ⟨by rw [cells_at H2.out.2.2.1]; rfl, by rw [cells_at H2.out.2.2.1]; rfl⟩
   clear hrow1 q1 h1 H1
   go_simp
   refine hK.out _ _ t2 (fun hS => ?_)
   clear hK K
   try simp only [Act.put, zz]
   refine rd 6 rfl fun K hK => ?_
   go_simp
   go_simp
   refine hK.out _ _ t2 (fun hS => ?_)
   clear hK K
   try simp only [Act.put, zz]
   refine rd 7 rfl fun K hK => ?_
   go_simp
   have kA : Keeps [] A1 (A1.alloc (.cells #[.slice al r1.length cl, .slice ar2 r2.length cr2] 74)) := (Keeps.refl [] A1).alloc _
   have H3 := Lib.hid (And.intro (heap_new A1 (.cells #[.slice al r1.length cl, .slice ar2 r2.length cr2] 74)) (And.intro (go1 kA H2.out.1) (And.intro (H2.out.2.1.trans kA) (go1 kA H2.out.2.2))))
   clear kA H2 t2
   generalize A1.heap.size = nb at H3 ⊢
   generalize A1.alloc (.cells #[.slice al r1.length cl, .slice ar2 r2.length cr2] 74) = A2 at H3 ⊢
   have t3 : A2.cell? ⟨pk, 0, none⟩ = some (.slice ar1 r1.length cr1) ∧ A2.cell? ⟨pk, 1, none⟩ = some (.slice ar2 r2.length cr2) := ⟨by rw [cells_at H3.out.2.2.2.1]; rfl, by rw [cells_at H3.out.2.2.2.1]; rfl⟩
   go_simp
   refine hK.out _ _ t3 (fun hS => ?_)
   clear hK K
   try simp only [Act.put, zz]
   clear t3
   refine rd 8 rfl fun K hK => ?_
   refine step_appP rfl (.tmp 13) (.tmp 20) 25 rfl w.heap.size 74 ir _ 2 48 Tryz.underlying25 hir hy0 hy1 hy2 rfl (by decide) (.slice ax E.length cx) E.length (E.flatMap encRV) rfl H3.out.2.1.1 ⟨nb, 0, none⟩ 1 1 [.slice al r1.length cl, .slice ar2 r2.length cr2] rfl rfl (news_two H3.out.1) (by simp [Value.oneCell']) (by simp only [maxLen]; omega) (by omega) H3.out.2.2.1.size ?_
   intro v5 A3 hown5 hgrow5
   obtain ⟨ao5, cp5, rfl, -, -, -⟩ := row_slice hown5
   have k5 := keeps_row hgrow5
   have n5 := k5.at_ H3.out.2.2.2.1 (fun hm => Hne.out pk (by simpa using hm) rfl)
   have t5 : A3.cell? ⟨pk, 0, none⟩ = some (.slice ar1 r1.length cr1) ∧ A3.cell? ⟨pk, 1, none⟩ = some (.slice ar2 r2.length cr2) := ⟨by rw [cells_at n5]; rfl, by rw [cells_at n5]; rfl⟩
   have hel := (H3.out.2.1.2.1.snoc (r := (r1, r2)) H3.out.2.2.2.2 H3.out.2.1.2.2.2).grown H3.out.2.1.1 k5 (by decide) (by decide)
   have hk5 := keeps_own H3.out.2.2.1 hgrow5 (fun q hq => (World.ownsRow.lt H3.out.2.1.1 q hq).1)
   have H5 := Lib.hid (And.intro (rv_snoc hown5) (And.intro hel hk5))
   have T5 := Lib.hid t5
   clear hown5 hgrow5 k5 n5 hel hk5 t5 H3
   refine hK.out _ _ T5.out (fun hS => ?_)
   clear hK K
   try simp only [Act.put, zz]
   refine rd 9 rfl fun K hK => ?_
   go_simp
   go_simp
   refine hK.out _ _ T5.out (fun hS => ?_)
   clear hK K
   try simp only [Act.put, zz]
   refine wpAnyH_done (by kernel_rfl) ?_ _
   clear hS T5
   go_wp2_with fail
   go_roundg (A.length - (k + 1))
   case measure => have := Hg.out; omega
   case rel => exact ⟨k + 1, hlt, rfl, by go_num, by rw [Htk.out]; exact ⟨_, H5.out.1, H5.out.2.1⟩, H5.out.2.2⟩
  ·have hge : ¬ (k : Int) < (A.length : Int) := by omega
   have hkn := Lib.hid (show A.take k = A from List.take_of_length_le (by omega))
   have Hr := Lib.hid (And.intro hE1 (And.intro hE2 hkw))
   clear hE1 hE2 hkw
   go_wp2_with fail
   go_ret
   exact ⟨_, rfl, by rw [← hkn.out]; exact ⟨E, Hr.out.1, Hr.out.2.1⟩, Hr.out.2.2⟩
end Go.Proofs.YtgcfkhcogllgfaaGreatDoor
