/-
  merge.Between and query.Ask's Of: the rows and samples between two times that fit, walked.
  The tables are of few rows, none without labels; the matchers may be.
-/
import Derived.Test.YtgcfkhcogllgfaaGreatDoorTabQ
import Derived.Test.YtgcfkhcogllgfaaGreatDoorLabelN
namespace Go.Proofs.YtgcfkhcogllgfaaGreatDoor
set_option maxRecDepth 100000
set_option maxHeartbeats 4000000
set_option linter.unusedSimpArgs false
open Go Go.RowKit
def BetOut (w : World) (A : TabT) (from_ upt : Int) (gk : Nat) (u7 u15 : Value) (wr : World) : Prop :=
 ∃ k, k ≤ A.length ∧ gk = A.length - k ∧ u15 = .int .i64 k ∧ TabAt 76 91 w.heap.size wr u7 (betT from_ upt (A.take k)) ∧ Keeps [] w wr
def BetIn (wp : World) (l : List SmpB) (from_ upt : Int) (gk : Nat) (u10 u22 : Value) (wr : World) : Prop :=
 ∃ j, j ≤ l.length ∧ gk = l.length - j ∧ u22 = .int .i64 j ∧ wr.ownsRow wp.heap.size 50 2 u10 (betS from_ upt (l.take j)).length ((betS from_ upt (l.take j)).flatMap encSm) ∧ Keeps [] wp wr
theorem between14_spec (w : World) (v : Value) (A : TabT) (from_ upt : Int) (h : TabAt 76 91 0 w v A) (hf : FewT A) (hne : ∀ r ∈ A, r.1 ≠ []) :
  Calls Tryz.prog 49 #[v, .int .i64 from_, .int .i64 upt] w fun e w' => ∃ v', e = .returned v' ∧ TabAt 76 91 w.heap.size w' v' (betT from_ upt A) ∧ Keeps [] w w' := by
 obtain ⟨ir, hir, hy0, hy1, hy2⟩ := info_parts infoRowM
 obtain ⟨im, him, hz0, hz1, hz2⟩ := info_parts infoSmp
 have Hf := Lib.hid (And.intro h (And.intro hf.2 hne))
 have hA100 := hf.1
 obtain ⟨ao, cap, rfl⟩ := h.form
 clear h hf hne
 go_enter Tryz.func49, Tryz.ntmps49
 go_wp2_with fail
 go_loopg [7, 15] A.length (BetOut w A from_ upt)
 case atStart => exact ⟨0, Nat.zero_le _, rfl, rfl, by simpa [betT] using tab_nil _ _ _ w, Keeps.refl [] w⟩
 case round =>
  obtain ⟨k, hk, hgk, rfl, hrow, hkw⟩ := hrel
  have Hg := Lib.hid hgk
  clear hgk
  obtain ⟨E, hE1, hE2⟩ := hrow
  have hEl : E.length ≤ 100 := by
   have h1 := hE2.1
   have h2 : (betT from_ upt (A.take k)).length ≤ k := by
    unfold betT
    refine Nat.le_trans (List.length_filter_le _ _) ?_
    rw [List.length_map, List.length_take]
    omega
   omega
  obtain ⟨ax, cx, rfl, -, -, -⟩ := row_slice hE1
  by_cases hlt : k < A.length
  ·obtain ⟨b, off, u1, u2, ea, hb, d0, d1, g1, g2⟩ := (go1 hkw Hf.out.1).at_ k hlt
   subst ea
   have hlt' : (k : Int) < (A.length : Int) := by omega
   have hr := Hf.out.2.1 A[k] (List.getElem_mem hlt)
   have hn := Hf.out.2.2 A[k] (List.getElem_mem hlt)
   have Htk := Lib.hid (show A.take (k + 1) = A.take k ++ [A[k]] from List.take_succ_eq_append_getElem hlt)
   generalize A[k] = r at d0 d1 g1 g2 hr hn Htk
   obtain ⟨r1, r2⟩ := r
   dsimp only at g1 g2 hr hn
   have hn0 : 0 < r1.length := by
    cases r1 with
    | nil => exact absurd rfl hn
    | cons x l => simp
   clear hn
   obtain ⟨ar1, cr1, rfl, -, -, -⟩ := row_slice g1
   obtain ⟨ar2, cr2, rfl, -, -, -⟩ := row_slice g2
   have kP : Keeps [] wr (wr.alloc (.cells #[.slice ar1 r1.length cr1, .slice ar2 r2.length cr2] 76)) := (Keeps.refl [] wr).alloc _
   have H1 := Lib.hid (And.intro (go1 kP (And.intro hE1 (And.intro hE2 hkw))) (And.intro (heap_new wr (.cells #[.slice ar1 r1.length cr1, .slice ar2 r2.length cr2] 76)) (go1 kP (And.intro g1 g2))))
   have Hne := Lib.hid (show ∀ g, (Value.slice ax E.length cx).ownBlock = some g → g ≠ wr.heap.size from fun g hg => by have := (World.ownsRow.lt hE1 g hg).2; omega)
   clear kP hE1 hE2 hkw g1 g2
   go_upto_region 6 with fail
   clear d0 d1 hb
   generalize hwp : wr.alloc (.cells #[.slice ar1 r1.length cr1, .slice ar2 r2.length cr2] 76) = wp at H1 ⊢
   generalize hpb : wr.heap.size = pb at H1 Hne ⊢
   clear hwp hpb
   have cp := cells_at H1.out.2.1
   have lp := lt_of_at H1.out.2.1
   go_wp2_with fail
   clear cp lp
   go_loopg [10, 22] r2.length (BetIn wp r2 from_ upt)
   case atStart => exact ⟨0, Nat.zero_le _, rfl, rfl, World.ownsRow_nil _ _ _ 2, Keeps.refl [] wp⟩
   case round =>
    obtain ⟨j, hj, hgj, rfl, hrow, hkb⟩ := hrel
    have Hgj := Lib.hid hgj
    clear hgj
    obtain ⟨N, hN⟩ : ∃ N, N = betS from_ upt (r2.take j) := ⟨_, rfl⟩
    rw [← hN] at hrow
    have hNl : N.length ≤ 500 := by
     rw [hN]
     have : (betS from_ upt (r2.take j)).length ≤ (r2.take j).length := List.length_filter_le _ _
     rw [List.length_take] at this
     omega
    have HN := Lib.hid hN
    clear hN
    obtain ⟨a6, c6, rfl, -, -, -⟩ := row_slice hrow
    by_cases hltj : j < r2.length
    ·obtain ⟨b5, off5, ea, hb5, d0, d1⟩ := smp_at (go1 hkb H1.out.2.2.2) j hltj
     subst ea
     have hltj' : (j : Int) < (r2.length : Int) := by omega
     have HS := Lib.hid (show r2.take (j + 1) = r2.take j ++ [r2[j]] from List.take_succ_eq_append_getElem hltj)
     generalize r2[j] = s at d0 d1 HS
     obtain ⟨s1, s2⟩ := s
     dsimp only at d0 d1
     have kQ : Keeps [] wr (wr.alloc (.cells #[.int .i64 s1, .int .u64 s2] 50)) := (Keeps.refl [] wr).alloc _
     have H2 := Lib.hid (And.intro (go1 kQ (And.intro hrow hkb)) (heap_new wr (.cells #[.int .i64 s1, .int .u64 s2] 50)))
     clear hrow hkb kQ
     go_upto_region 9 with fail
     clear d0 d1 hb5
     generalize hwq : wr.alloc (.cells #[.int .i64 s1, .int .u64 s2] 50) = wq at H2 ⊢
     generalize hqb : wr.heap.size = qb at H2 ⊢
     clear hwq hqb
     have cq := cells_at H2.out.2
     have lq := lt_of_at H2.out.2
     have hsz := H2.out.1.2.size
     have hways : (¬ from_ ≤ s1) ∨ (from_ ≤ s1 ∧ ¬ s1 < upt) ∨ (from_ ≤ s1 ∧ s1 < upt) := by omega
     rcases hways with hx | ⟨hx, hy⟩ | ⟨hx, hy⟩
     ·have Hb := Lib.hid (show ¬ betB from_ upt (s1, s2) from fun h => hx h.1)
      have hx' : s1 < from_ := by omega
      go_wp2_with fail
      go_roundg (r2.length - (j + 1))
      case measure => have := Hgj.out; omega
      case rel => exact ⟨j + 1, hltj, rfl, by go_num, by rw [HS.out, betS_no Hb.out, ← HN.out]; exact H2.out.1.1, H2.out.1.2⟩
     ·have Hb := Lib.hid (show ¬ betB from_ upt (s1, s2) from fun h => hy h.2)
      go_wp2_with fail
      go_roundg (r2.length - (j + 1))
      case measure => have := Hgj.out; omega
      case rel => exact ⟨j + 1, hltj, rfl, by go_num, by rw [HS.out, betS_no Hb.out, ← HN.out]; exact H2.out.1.1, H2.out.1.2⟩
     ·have Hb := Lib.hid (show betB from_ upt (s1, s2) from ⟨hx, hy⟩)
      go_wp2_with (at_builtin; refine wpList_append_own _ rfl (.tmp 36) (.tmp 38) 72 rfl wp.heap.size 50 im _ 2 16 Tryz.underlying72 him hz0 hz1 hz2 rfl (by decide) (.slice a6 N.length c6) N.length (N.flatMap encSm) rfl (H2.out.1.1.alloc _) ⟨wq.heap.size, 0, none⟩ 1 1 [.int .i64 s1, .int .u64 s2] rfl rfl (news_two (heap_new wq _)) (by simp [Value.oneCell']) (by simp only [maxLen]; omega) (by omega) (by rw [World.size_alloc]; omega) ?_; intro v8 w8 hown8 hgrow8 hnil8; clear hnil8; obtain ⟨ao8, cp8, rfl, -, -, -⟩ := row_slice hown8; skip)
      have hk8 := keeps_own (H2.out.1.2.alloc (.cells #[.int .i64 s1, .int .u64 s2] 50)) hgrow8 (fun g hg => (World.ownsRow.lt H2.out.1.1 g hg).1)
      have H8 := Lib.hid (And.intro (sm_snoc hown8) hk8)
      clear hown8 hgrow8 hk8 cq lq H2
      go_wp2_with fail
      go_roundg (r2.length - (j + 1))
      case measure => have := Hgj.out; omega
      case rel => exact ⟨j + 1, hltj, rfl, by go_num, by rw [HS.out, betS_yes Hb.out, ← HN.out]; have h := H8.out.1; rw [List.length_append] at h ⊢; exact h, H8.out.2⟩
    ·have hge : ¬ (j : Int) < (r2.length : Int) := by omega
     have hNr : N = betS from_ upt r2 := by rw [HN.out, List.take_of_length_le (by omega)]
     have HNr := Lib.hid hNr
     clear hNr
     have HR := Lib.hid (And.intro (row_base (b' := 0) hrow (Nat.zero_le _)) (And.intro (go1 hkb H1.out) (H1.out.1.2.2.trans hkb)))
     clear hrow hkb H1
     have hBt : betT from_ upt (A.take (k + 1)) = betT from_ upt (A.take k) ++ if N = [] then [] else [(r1, N)] := by rw [Htk.out, betT_app, betT_one, HNr.out]
     have HBt := Lib.hid hBt
     clear hBt
     by_cases hN0 : N.length = 0
     ·have HN0 := Lib.hid (List.eq_nil_of_length_eq_zero hN0)
      have hgt : ¬ (0 : Int) < (N.length : Int) := by omega
      clear hN0
      go_wp2_with fail
      go_roundg (A.length - (k + 1))
      case measure => have := Hg.out; omega
      case rel => exact ⟨k + 1, hlt, rfl, by go_num, by rw [HBt.out, if_pos HN0.out, List.append_nil]; exact ⟨E, HR.out.2.1.1.1, HR.out.2.1.1.2.1⟩, HR.out.2.2⟩
     ·have hgt : (0 : Int) < (N.length : Int) := by omega
      have HN0 := Lib.hid (show ¬ N = [] from fun e => hN0 (by rw [e]; rfl))
      have cp := cells_at HR.out.2.1.2.1
      have lp := lt_of_at HR.out.2.1.2.1
      go_wp2_with fail
      refine (cloneT_spec wr 0 _ r1 HR.out.2.1.2.2.1 hn0 (by omega)).mono ?_
      rintro e w8 ⟨v8, rfl, hown8, hk8⟩
      have h8 := row_base (b' := 0) hown8 (Nat.zero_le _)
      obtain ⟨ao8, cp8, rfl, -, -, -⟩ := row_slice hown8
      have H8 := Lib.hid (And.intro (go1 hk8 HR.out.2.1.1) (And.intro h8 (And.intro (go1 hk8 HR.out.1) (HR.out.2.2.trans hk8))))
      have hw8 := (HR.out.2.2.trans hk8).size
      clear hown8 hk8 h8 cp lp HR
      go_wp2_with (at_builtin; refine wpList_append_own _ rfl (.tmp 44) (.tmp 50) 24 rfl w.heap.size 76 ir _ 2 48 Tryz.underlying24 hir hy0 hy1 hy2 rfl (by decide) (.slice ax E.length cx) E.length (E.flatMap encRV) rfl (H8.out.1.1.alloc _) ⟨w8.heap.size, 0, none⟩ 1 1 [.slice ao8 r1.length cp8, .slice a6 N.length c6] rfl rfl (news_two (heap_new w8 _)) (by simp [Value.oneCell']) (by simp only [maxLen]; omega) (by omega) (by rw [World.size_alloc]; omega) ?_; intro v9 w9 hown9 hgrow9 hnil9; clear hnil9; obtain ⟨ao9, cp9, rfl, -, -, -⟩ := row_slice hown9; skip)
      have hgr := keeps_row hgrow9
      have kN : Keeps [] w8 (w8.alloc (.cells #[.slice ao8 r1.length cp8, .slice a6 N.length c6] 76)) := (Keeps.refl [] w8).alloc _
      have hel := ((ElemsAt.keep H8.out.1.2.1 kN).snoc (r := (r1, N)) (go1 kN H8.out.2.1) (go1 kN H8.out.2.2.1)).grown (go1 kN H8.out.1.1) hgr (by decide) (by decide)
      have hk9 := keeps_own (H8.out.2.2.2.trans kN) hgrow9 (fun g hg => (World.ownsRow.lt H8.out.1.1 g hg).1)
      have H9 := Lib.hid (And.intro (rv_snoc hown9) (And.intro hel hk9))
      clear hown9 hgrow9 hgr kN hel hk9 H8
      go_wp2_with fail
      go_roundg (A.length - (k + 1))
      case measure => have := Hg.out; omega
      case rel => exact ⟨k + 1, hlt, rfl, by go_num, by rw [HBt.out, if_neg HN0.out]; exact ⟨_, H9.out.1, H9.out.2.1⟩, H9.out.2.2⟩
  ·have hge : ¬ (k : Int) < (A.length : Int) := by omega
   have hkn := Lib.hid (show A.take k = A from List.take_of_length_le (by omega))
   have Hr := Lib.hid (And.intro hE1 (And.intro hE2 hkw))
   clear hE1 hE2 hkw
   go_wp2_with fail
   go_ret
   exact ⟨_, rfl, by rw [← hkn.out]; exact ⟨E, Hr.out.1, Hr.out.2.1⟩, Hr.out.2.2⟩
end Go.Proofs.YtgcfkhcogllgfaaGreatDoor
