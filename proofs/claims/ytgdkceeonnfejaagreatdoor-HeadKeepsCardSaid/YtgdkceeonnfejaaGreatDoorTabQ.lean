/-
  The document's Add of what is asked for of a table (package barographref23), walked.
  The tables are of few rows; the matchers may be.

  merge.Between and query.Ask's Of: the rows and samples between two times that fit, walked.
  The tables are of few rows, none without labels; the matchers may be.

  Package barographref14: Same and Between; package barographlaw14: Told; walked (a part of the text on fetches' tables).
  The tables are small.
-/
import Derived.Test.YtgdkceeonnfejaaGreatDoorTabLaw
import Derived.Test.YtgdkceeonnfejaaGreatDoorGetP
import Derived.Test.YtgdkceeonnfejaaGreatDoorLabelN
import Derived.Maps.AppendAt
namespace Go.Proofs.YtgdkceeonnfejaaGreatDoor
set_option maxRecDepth 100000
set_option maxHeartbeats 4000000
set_option linter.unusedSimpArgs false
open Go Go.RowKit
def betB (from_ upt : Int) (s : SmpB) : Prop := from_ ≤ s.1 ∧ s.1 < upt
theorem betS_yes {from_ upt : Int} {l : List SmpB} {s : SmpB} (h : betB from_ upt s) : betS from_ upt (l ++ [s]) = betS from_ upt l ++ [s] := by
 have : decide (from_ ≤ s.1 ∧ s.1 < upt) = true := decide_eq_true h
 simp only [betS, List.filter_append, List.filter_cons, List.filter_nil, this, if_true]
theorem betS_no {from_ upt : Int} {l : List SmpB} {s : SmpB} (h : ¬ betB from_ upt s) : betS from_ upt (l ++ [s]) = betS from_ upt l := by
 have : [s].filter (fun s => decide (from_ ≤ s.1 ∧ s.1 < upt)) = [] := by
  rw [List.filter_eq_nil_iff]
  intro q hq hc
  obtain rfl : q = s := by simpa using hq
  exact h (show from_ ≤ q.1 ∧ q.1 < upt from by simpa using hc)
 unfold betS
 rw [List.filter_append, this, List.append_nil]
theorem betT_one (from_ upt : Int) (lab : List PairB) (l : List SmpB) : betT from_ upt [(lab, l)] = if betS from_ upt l = [] then [] else [(lab, betS from_ upt l)] := by
 unfold betT
 by_cases h : betS from_ upt l = []
 ·simp [h]
 ·simp [h]
theorem bet_step {from_ upt : Int} {C : TabT} {lab : List PairB} {l : List SmpB} {s : SmpB} (hC : ∀ r ∈ C, ltL r.1 lab) (hl : (l ++ [s]).Pairwise ltS) (h : betB from_ upt s) : addT lab s (betT from_ upt (C ++ [(lab, l)])) = betT from_ upt (C ++ [(lab, l ++ [s])]) := by
 have hC' : ∀ r ∈ betT from_ upt C, ltL r.1 lab := fun r hr => by
  obtain ⟨q, hq, rfl, _⟩ := betT_mem hr
  exact hC q hq
 rw [betT_app, betT_app, betT_one, betT_one, betS_yes h]
 rw [if_neg (show ¬ (betS from_ upt l ++ [s] = []) from by simp)]
 by_cases h0 : betS from_ upt l = []
 ·rw [if_pos h0, h0, List.append_nil, addT_end hC']
  rfl
 ·rw [if_neg h0, addT_last (l := betS from_ upt l) hC' (fun y hy => (List.pairwise_append.1 hl).2.2 y (List.mem_filter.1 hy).1 s List.mem_cons_self)]
theorem bet_stay {from_ upt : Int} {C : TabT} {lab : List PairB} {l : List SmpB} {s : SmpB} (h : ¬ betB from_ upt s) : betT from_ upt (C ++ [(lab, l ++ [s])]) = betT from_ upt (C ++ [(lab, l)]) := by
 rw [betT_app, betT_app, betT_one, betT_one, betS_no h]
theorem betT_few {from_ upt : Int} {A : TabT} (h : FewT A) : FewT (betT from_ upt A) := by
 refine ⟨?_, fun q hq => ?_⟩
 ·unfold betT
  refine Nat.le_trans (List.length_filter_le _ _) ?_
  rw [List.length_map]
  exact h.1
 ·obtain ⟨r, hr, rfl, _⟩ := betT_mem hq
  have h1 := h.2 r hr
  have h2 : (betS from_ upt r.2).length ≤ r.2.length := List.length_filter_le _ _
  exact ⟨h1.1, by show (betS from_ upt r.2).length ≤ 500; omega⟩
def BetOut (w : World) (A : TabT) (from_ upt : Int) (gk : Nat) (u7 u15 : Value) (wr : World) : Prop :=
 ∃ k, k ≤ A.length ∧ gk = A.length - k ∧ u15 = .int .i64 k ∧ TabAt 110 149 w.heap.size wr u7 (betT from_ upt (A.take k)) ∧ Keeps [] w wr
def BetIn (wp : World) (l : List SmpB) (from_ upt : Int) (gk : Nat) (u10 u22 : Value) (wr : World) : Prop :=
 ∃ j, j ≤ l.length ∧ gk = l.length - j ∧ u22 = .int .i64 j ∧ wr.ownsRow wp.heap.size 42 2 u10 (betS from_ upt (l.take j)).length ((betS from_ upt (l.take j)).flatMap encSm) ∧ Keeps [] wp wr
theorem between14_spec (w : World) (v : Value) (A : TabT) (from_ upt : Int) (h : TabAt 110 149 0 w v A) (hf : FewT A) (hne : ∀ r ∈ A, r.1 ≠ []) :
  Calls Tryz.prog 42 #[v, .int .i64 from_, .int .i64 upt] w fun e w' => ∃ v', e = .returned v' ∧ TabAt 110 149 w.heap.size w' v' (betT from_ upt A) ∧ Keeps [] w w' := by
 obtain ⟨ir, hir, hy0, hy1, hy2⟩ := info_parts infoRowM
 obtain ⟨im, him, hz0, hz1, hz2⟩ := info_parts infoSmp
 have Hf := Lib.hid (And.intro h (And.intro hf.2 hne))
 have hA100 := hf.1
 obtain ⟨ao, cap, rfl⟩ := h.form
 clear h hf hne
 go_enter Tryz.func42, Tryz.ntmps42
 go_wp2_with fail
 go_loopg [7, 15] A.length (BetOut w A from_ upt)
 case atStart => exact ⟨0, Nat.zero_le _, rfl, rfl, by simpa [betT] using tab_nil _ _ _ w, Keeps.refl [] w⟩
 case round =>
  obtain ⟨k, hk, hgk, rfl, hrow, hkw⟩ := hrel
  have Hg := Lib.hid hgk
  clear hgk
  obtain ⟨E, hE1, hE2⟩ := hrow
  have hEl : E.length ≤ 100 := by
   have h1 := hE2.1
   have h2 : (betT from_ upt (A.take k)).length ≤ k := by
    unfold betT
    refine Nat.le_trans (List.length_filter_le _ _) ?_
    rw [List.length_map, List.length_take]
    omega
   omega
  obtain ⟨ax, cx, rfl, -, -, -⟩ := row_slice hE1
  by_cases hlt : k < A.length
  ·obtain ⟨b, off, u1, u2, ea, hb, d0, d1, g1, g2⟩ := (go1 hkw Hf.out.1).at_ k hlt
   subst ea
   have hlt' : (k : Int) < (A.length : Int) := by omega
   have hr := Hf.out.2.1 A[k] (List.getElem_mem hlt)
   have hn := Hf.out.2.2 A[k] (List.getElem_mem hlt)
   have Htk := Lib.hid (show A.take (k + 1) = A.take k ++ [A[k]] from List.take_succ_eq_append_getElem hlt)
   generalize A[k] = r at d0 d1 g1 g2 hr hn Htk
   obtain ⟨r1, r2⟩ := r
   dsimp only at g1 g2 hr hn
   have hn0 : 0 < r1.length := by
    cases r1 with
    | nil => exact absurd rfl hn
    | cons x l => simp
   clear hn
   obtain ⟨ar1, cr1, rfl, -, -, -⟩ := row_slice g1
   obtain ⟨ar2, cr2, rfl, -, -, -⟩ := row_slice g2
   have kP : Keeps [] wr (wr.alloc (.cells #[.slice ar1 r1.length cr1, .slice ar2 r2.length cr2] 110)) := (Keeps.refl [] wr).alloc _
   have H1 := Lib.hid (And.intro (go1 kP (And.intro hE1 (And.intro hE2 hkw))) (And.intro (heap_new wr (.cells #[.slice ar1 r1.length cr1, .slice ar2 r2.length cr2] 110)) (go1 kP (And.intro g1 g2))))
   have Hne := Lib.hid (show ∀ g, (Value.slice ax E.length cx).ownBlock = some g → g ≠ wr.heap.size from fun g hg => by have := (World.ownsRow.lt hE1 g hg).2; omega)
   clear kP hE1 hE2 hkw g1 g2
   go_upto_region 6 with fail
   clear d0 d1 hb
   generalize hwp : wr.alloc (.cells #[.slice ar1 r1.length cr1, .slice ar2 r2.length cr2] 110) = wp at H1 ⊢
   generalize hpb : wr.heap.size = pb at H1 Hne ⊢
   clear hwp hpb
   have cp := cells_at H1.out.2.1
   have lp := lt_of_at H1.out.2.1
   go_wp2_with fail
   clear cp lp
   go_loopg [10, 22] r2.length (BetIn wp r2 from_ upt)
   case atStart => exact ⟨0, Nat.zero_le _, rfl, rfl, World.ownsRow_nil _ _ _ 2, Keeps.refl [] wp⟩
   case round =>
    obtain ⟨j, hj, hgj, rfl, hrow, hkb⟩ := hrel
    have Hgj := Lib.hid hgj
    clear hgj
    obtain ⟨N, hN⟩ : ∃ N, N = betS from_ upt (r2.take j) := ⟨_, rfl⟩
    rw [← hN] at hrow
    have hNl : N.length ≤ 500 := by
     rw [hN]
     have : (betS from_ upt (r2.take j)).length ≤ (r2.take j).length := List.length_filter_le _ _
     rw [List.length_take] at this
     omega
    have HN := Lib.hid hN
    clear hN
    obtain ⟨a6, c6, rfl, -, -, -⟩ := row_slice hrow
    by_cases hltj : j < r2.length
    ·obtain ⟨b5, off5, ea, hb5, d0, d1⟩ := smp_at (go1 hkb H1.out.2.2.2) j hltj
     subst ea
     have hltj' : (j : Int) < (r2.length : Int) := by omega
     have HS := Lib.hid (show r2.take (j + 1) = r2.take j ++ [r2[j]] from List.take_succ_eq_append_getElem hltj)
     generalize r2[j] = s at d0 d1 HS
     obtain ⟨s1, s2⟩ := s
     dsimp only at d0 d1
     have kQ : Keeps [] wr (wr.alloc (.cells #[.int .i64 s1, .int .u64 s2] 42)) := (Keeps.refl [] wr).alloc _
     have H2 := Lib.hid (And.intro (go1 kQ (And.intro hrow hkb)) (heap_new wr (.cells #[.int .i64 s1, .int .u64 s2] 42)))
     clear hrow hkb kQ
     go_upto_region 9 with fail
     clear d0 d1 hb5
     generalize hwq : wr.alloc (.cells #[.int .i64 s1, .int .u64 s2] 42) = wq at H2 ⊢
     generalize hqb : wr.heap.size = qb at H2 ⊢
     clear hwq hqb
     have cq := cells_at H2.out.2
     have lq := lt_of_at H2.out.2
     have hsz := H2.out.1.2.size
     have hways : (¬ from_ ≤ s1) ∨ (from_ ≤ s1 ∧ ¬ s1 < upt) ∨ (from_ ≤ s1 ∧ s1 < upt) := by omega
     rcases hways with hx | ⟨hx, hy⟩ | ⟨hx, hy⟩
     ·have Hb := Lib.hid (show ¬ betB from_ upt (s1, s2) from fun h => hx h.1)
      have hx' : s1 < from_ := by omega
      go_wp2_with fail
      go_roundg (r2.length - (j + 1))
      case measure => have := Hgj.out; omega
      case rel => exact ⟨j + 1, hltj, rfl, by go_num, by rw [HS.out, betS_no Hb.out, ← HN.out]; exact H2.out.1.1, H2.out.1.2⟩
     ·have Hb := Lib.hid (show ¬ betB from_ upt (s1, s2) from fun h => hy h.2)
      go_wp2_with fail
      go_roundg (r2.length - (j + 1))
      case measure => have := Hgj.out; omega
      case rel => exact ⟨j + 1, hltj, rfl, by go_num, by rw [HS.out, betS_no Hb.out, ← HN.out]; exact H2.out.1.1, H2.out.1.2⟩
     ·have Hb := Lib.hid (show betB from_ upt (s1, s2) from ⟨hx, hy⟩)
      go_wp2_with (at_builtin; refine wpList_append_own _ rfl (.tmp 36) (.tmp 38) 100 rfl wp.heap.size 42 im _ 2 16 Tryz.underlying100 him hz0 hz1 hz2 rfl (by decide) (.slice a6 N.length c6) N.length (N.flatMap encSm) rfl (H2.out.1.1.alloc _) ⟨wq.heap.size, 0, none⟩ 1 1 [.int .i64 s1, .int .u64 s2] rfl rfl (news_two (heap_new wq _)) (by simp [Value.oneCell']) (by simp only [maxLen]; omega) (by omega) (by rw [World.size_alloc]; omega) ?_; intro v8 w8 hown8 hgrow8 hnil8; clear hnil8; obtain ⟨ao8, cp8, rfl, -, -, -⟩ := row_slice hown8; skip)
      have hk8 := keeps_own (H2.out.1.2.alloc (.cells #[.int .i64 s1, .int .u64 s2] 42)) hgrow8 (fun g hg => (World.ownsRow.lt H2.out.1.1 g hg).1)
      have H8 := Lib.hid (And.intro (sm_snoc hown8) hk8)
      clear hown8 hgrow8 hk8 cq lq H2
      go_wp2_with fail
      go_roundg (r2.length - (j + 1))
      case measure => have := Hgj.out; omega
      case rel => exact ⟨j + 1, hltj, rfl, by go_num, by rw [HS.out, betS_yes Hb.out, ← HN.out]; have h := H8.out.1; rw [List.length_append] at h ⊢; exact h, H8.out.2⟩
    ·have hge : ¬ (j : Int) < (r2.length : Int) := by omega
     have hNr : N = betS from_ upt r2 := by rw [HN.out, List.take_of_length_le (by omega)]
     have HNr := Lib.hid hNr
     clear hNr
     have HR := Lib.hid (And.intro (row_base (b' := 0) hrow (Nat.zero_le _)) (And.intro (go1 hkb H1.out) (H1.out.1.2.2.trans hkb)))
     clear hrow hkb H1
     have hBt : betT from_ upt (A.take (k + 1)) = betT from_ upt (A.take k) ++ if N = [] then [] else [(r1, N)] := by rw [Htk.out, betT_app, betT_one, HNr.out]
     have HBt := Lib.hid hBt
     clear hBt
     by_cases hN0 : N.length = 0
     ·have HN0 := Lib.hid (List.eq_nil_of_length_eq_zero hN0)
      have hgt : ¬ (0 : Int) < (N.length : Int) := by omega
      clear hN0
      go_wp2_with fail
      go_roundg (A.length - (k + 1))
      case measure => have := Hg.out; omega
      case rel => exact ⟨k + 1, hlt, rfl, by go_num, by rw [HBt.out, if_pos HN0.out, List.append_nil]; exact ⟨E, HR.out.2.1.1.1, HR.out.2.1.1.2.1⟩, HR.out.2.2⟩
     ·have hgt : (0 : Int) < (N.length : Int) := by omega
      have HN0 := Lib.hid (show ¬ N = [] from fun e => hN0 (by rw [e]; rfl))
      have cp := cells_at HR.out.2.1.2.1
      have lp := lt_of_at HR.out.2.1.2.1
      go_wp2_with fail
      refine (cloneT_spec wr 0 _ r1 HR.out.2.1.2.2.1 hn0 (by omega)).mono ?_
      rintro e w8 ⟨v8, rfl, hown8, hk8⟩
      have h8 := row_base (b' := 0) hown8 (Nat.zero_le _)
      obtain ⟨ao8, cp8, rfl, -, -, -⟩ := row_slice hown8
      have H8 := Lib.hid (And.intro (go1 hk8 HR.out.2.1.1) (And.intro h8 (And.intro (go1 hk8 HR.out.1) (HR.out.2.2.trans hk8))))
      have hw8 := (HR.out.2.2.trans hk8).size
      clear hown8 hk8 h8 cp lp HR
      go_wp2_with (at_builtin; refine wpList_append_own _ rfl (.tmp 44) (.tmp 50) 47 rfl w.heap.size 110 ir _ 2 48 Tryz.underlying47 hir hy0 hy1 hy2 rfl (by decide) (.slice ax E.length cx) E.length (E.flatMap encRV) rfl (H8.out.1.1.alloc _) ⟨w8.heap.size, 0, none⟩ 1 1 [.slice ao8 r1.length cp8, .slice a6 N.length c6] rfl rfl (news_two (heap_new w8 _)) (by simp [Value.oneCell']) (by simp only [maxLen]; omega) (by omega) (by rw [World.size_alloc]; omega) ?_; intro v9 w9 hown9 hgrow9 hnil9; clear hnil9; obtain ⟨ao9, cp9, rfl, -, -, -⟩ := row_slice hown9; skip)
      have hgr := keeps_row hgrow9
      have kN : Keeps [] w8 (w8.alloc (.cells #[.slice ao8 r1.length cp8, .slice a6 N.length c6] 110)) := (Keeps.refl [] w8).alloc _
      have hel := ((ElemsAt.keep H8.out.1.2.1 kN).snoc (r := (r1, N)) (go1 kN H8.out.2.1) (go1 kN H8.out.2.2.1)).grown (go1 kN H8.out.1.1) hgr (by decide) (by decide)
      have hk9 := keeps_own (H8.out.2.2.2.trans kN) hgrow9 (fun g hg => (World.ownsRow.lt H8.out.1.1 g hg).1)
      have H9 := Lib.hid (And.intro (rv_snoc hown9) (And.intro hel hk9))
      clear hown9 hgrow9 hgr kN hel hk9 H8
      go_wp2_with fail
      go_roundg (A.length - (k + 1))
      case measure => have := Hg.out; omega
      case rel => exact ⟨k + 1, hlt, rfl, by go_num, by rw [HBt.out, if_neg HN0.out]; exact ⟨_, H9.out.1, H9.out.2.1⟩, H9.out.2.2⟩
  ·have hge : ¬ (k : Int) < (A.length : Int) := by omega
   have hkn := Lib.hid (show A.take k = A from List.take_of_length_le (by omega))
   have Hr := Lib.hid (And.intro hE1 (And.intro hE2 hkw))
   clear hE1 hE2 hkw
   go_wp2_with fail
   go_ret
   exact ⟨_, rfl, by rw [← hkn.out]; exact ⟨E, Hr.out.1, Hr.out.2.1⟩, Hr.out.2.2⟩
def SameOut (w : World) (n gk : Nat) (u14 : Value) (wr : World) : Prop := ∃ k, k ≤ n ∧ gk = n - k ∧ u14 = .int .i64 k ∧ Keeps [] w wr
theorem same14_spec (w : World) (va vb : Value) (A : TabT) (ha : TabAt 106 152 0 w va A) (hb : TabAt 106 152 0 w vb A) (hf : FewT A) :
  Calls Tryz.prog 14 #[va, vb] w fun e w' => e = .returned (.bool true) ∧ Keeps [] w w' := by
 have Hf := Lib.hid (And.intro ha (And.intro hb hf.2))
 have hA100 := hf.1
 obtain ⟨aa, ca, rfl⟩ := ha.form
 obtain ⟨ab, cb, rfl⟩ := hb.form
 clear ha hb hf
 go_enter Tryz.func14, Tryz.ntmps14
 go_wp2_with fail
 go_loopg [14] A.length (SameOut w A.length)
 case atStart => exact ⟨0, Nat.zero_le _, rfl, rfl, Keeps.refl [] w⟩
 case round =>
  obtain ⟨k, hk, hgk, rfl, hkw⟩ := hrel
  have Hg := Lib.hid hgk
  clear hgk
  by_cases hlt : k < A.length
  ·obtain ⟨b1, off1, u1, u2, ea, hb1, d0, d1, g1, g2⟩ := (go1 hkw Hf.out.1).at_ k hlt
   subst ea
   obtain ⟨b2, off2, x1, x2, ea, hb2, e0, e1, f1, f2⟩ := (go1 hkw Hf.out.2.1).at_ k hlt
   subst ea
   have hlt' : (k : Int) < (A.length : Int) := by omega
   have hr := Hf.out.2.2 A[k] (List.getElem_mem hlt)
   generalize A[k] = r at d0 d1 e0 e1 g1 g2 f1 f2 hr
   obtain ⟨r1, r2⟩ := r
   dsimp only at g1 g2 f1 f2 hr
   obtain ⟨ag1, cg1, rfl, -, -, -⟩ := row_slice g1
   obtain ⟨ag2, cg2, rfl, -, -, -⟩ := row_slice g2
   obtain ⟨af1, cf1, rfl, -, -, -⟩ := row_slice f1
   obtain ⟨af2, cf2, rfl, -, -, -⟩ := row_slice f2
   obtain ⟨W0, hW0⟩ : ∃ W0, W0 = wr.drew := ⟨_, rfl⟩
   have kW : Keeps [] wr W0 := by rw [hW0]; exact (Keeps.refl [] wr).drew
   have H1 := Lib.hid (And.intro (go1 kW (And.intro g1 (And.intro g2 (And.intro f1 f2)))) (hkw.trans kW))
   have D0 : ∀ s : Kept W0, s.val.cell? ⟨b1, off1 + k * 2, none⟩ = some (.slice ag1 r1.length cg1) := keptCell ((kW.cell hb1 (by simp)).trans d0)
   have D1 : ∀ s : Kept W0, s.val.cell? ⟨b1, off1 + k * 2 + 1, none⟩ = some (.slice ag2 r2.length cg2) := keptCell ((kW.cell hb1 (by simp)).trans d1)
   have E0 : ∀ s : Kept W0, s.val.cell? ⟨b2, off2 + k * 2, none⟩ = some (.slice af1 r1.length cf1) := keptCell ((kW.cell hb2 (by simp)).trans e0)
   have E1 : ∀ s : Kept W0, s.val.cell? ⟨b2, off2 + k * 2 + 1, none⟩ = some (.slice af2 r2.length cf2) := keptCell ((kW.cell hb2 (by simp)).trans e1)
   have HB := Lib.hid (And.intro (kW.lt hb1) (kW.lt hb2))
   have HW := Lib.hid hW0
   clear hkw kW hW0 d0 d1 e0 e1 g1 g2 f1 f2 hb1 hb2
   go_upto_region 6 with fail
   refine wp_region_held_drew (S := KeptS W0) (by kernel_rfl) (by rw [← HW.out]; exact keptS (Keeps.refl _ _)) (fun hS => ?_)
   rw [← HW.out] at hS ⊢
   clear HW
   refine tk (v := ?_) 0 rfl ?_ ?_; rotate_left
   ·rintro _ ⟨s, rfl⟩; go_simp; (try with_reducible rfl)
   simp only [Act.put, zz]
   refine tk (v := ?_) 1 rfl ?_ ?_; rotate_left
   ·rintro _ ⟨s, rfl⟩; go_simp; (try with_reducible rfl)
   simp only [Act.put, zz]
   refine tk (v := ?_) 2 rfl ?_ ?_; rotate_left
   ·rintro _ ⟨s, rfl⟩; go_simp; (try with_reducible rfl)
   simp only [Act.put, zz]
   refine tk (v := ?_) 3 rfl ?_ ?_; rotate_left
   ·rintro _ ⟨s, rfl⟩; go_simp; (try with_reducible rfl)
   simp only [Act.put, zz]
   refine tk (v := ?_) 4 rfl ?_ ?_; rotate_left
   ·rintro _ ⟨s, rfl⟩; go_simp; (try with_reducible rfl)
   simp only [Act.put, zz]
   refine tk (v := ?_) 5 rfl ?_ ?_; rotate_left
   ·rintro _ ⟨s, rfl⟩; go_simp; (try with_reducible rfl)
   simp only [Act.put, zz]
   refine tk (v := ?_) 6 rfl ?_ ?_; rotate_left
   ·rintro _ ⟨s, rfl⟩; go_simp; (try with_reducible rfl)
   simp only [Act.put, zz]
   refine tk (v := ?_) 7 rfl ?_ ?_; rotate_left
   ·rintro _ ⟨s, rfl⟩; go_simp; (try with_reducible rfl)
   simp only [Act.put, zz]
   refine tk (v := ?_) 8 rfl ?_ ?_; rotate_left
   ·rintro _ ⟨s, rfl⟩; go_simp; (try with_reducible rfl)
   simp only [Act.put, zz]
   refine tk (v := ?_) 9 rfl ?_ ?_; rotate_left
   ·rintro _ ⟨s, rfl⟩; go_simp; (try with_reducible rfl)
   simp only [Act.put, zz]
   refine rd 10 rfl fun K hK => ?_
   go_simp
   go_at_call 40
   refine (compareR_spec W0 _ _ r1 r1 (rowP H1.out.1.1) (rowP H1.out.1.2.2.1) (by omega)).mono ?_
   rintro e A1 ⟨rfl, q1⟩
   rw [cmpL_self]
   go_simp
   refine hK.out _ _ (keptS q1) (fun hS => ?_)
   clear hK K
   try simp only [Act.put, zz]
   refine tk (v := ?_) 11 rfl ?_ ?_; rotate_left
   ·rintro _ ⟨s, rfl⟩; go_simp; (try with_reducible rfl)
   simp only [Act.put, zz]
   refine tk (v := ?_) 12 rfl ?_ ?_; rotate_left
   ·rintro _ ⟨s, rfl⟩; go_simp; (try with_reducible rfl)
   simp only [Act.put, zz]
   refine tk (v := ?_) 13 rfl ?_ ?_; rotate_left
   ·rintro _ ⟨s, rfl⟩; go_simp; (try with_reducible rfl)
   simp only [Act.put, zz]
   refine tk (v := ?_) 14 rfl ?_ ?_; rotate_left
   ·rintro _ ⟨s, rfl⟩; go_simp; (try with_reducible rfl)
   simp only [Act.put, zz]
   refine tk (v := ?_) 15 rfl ?_ ?_; rotate_left
   ·rintro _ ⟨s, rfl⟩; go_simp; (try with_reducible rfl)
   simp only [Act.put, zz]
   refine tk (v := ?_) 16 rfl ?_ ?_; rotate_left
   ·rintro _ ⟨s, rfl⟩; go_simp; (try with_reducible rfl)
   simp only [Act.put, zz]
   refine tk (v := ?_) 17 rfl ?_ ?_; rotate_left
   ·rintro _ ⟨s, rfl⟩; go_simp; (try with_reducible rfl)
   simp only [Act.put, zz]
   refine tk (v := ?_) 18 rfl ?_ ?_; rotate_left
   ·rintro _ ⟨s, rfl⟩; go_simp; (try with_reducible rfl)
   simp only [Act.put, zz]
   refine tk (v := ?_) 19 rfl ?_ ?_; rotate_left
   ·rintro _ ⟨s, rfl⟩; go_simp; (try with_reducible rfl)
   simp only [Act.put, zz]
   refine tk (v := ?_) 20 rfl ?_ ?_; rotate_left
   ·rintro _ ⟨s, rfl⟩; go_simp; (try with_reducible rfl)
   simp only [Act.put, zz]
   refine tk (v := ?_) 21 rfl ?_ ?_; rotate_left
   ·rintro _ ⟨s, rfl⟩; go_simp; (try with_reducible rfl)
   simp only [Act.put, zz]
   refine tk (v := ?_) 22 rfl ?_ ?_; rotate_left
   ·rintro _ ⟨s, rfl⟩; go_simp; (try with_reducible rfl)
   simp only [Act.put, zz]
   refine tk (v := ?_) 23 rfl ?_ ?_; rotate_left
   ·rintro _ ⟨s, rfl⟩; go_simp; (try with_reducible rfl)
   simp only [Act.put, zz]
   refine tk (v := ?_) 24 rfl ?_ ?_; rotate_left
   ·rintro _ ⟨s, rfl⟩; go_simp; (try with_reducible rfl)
   simp only [Act.put, zz]
   refine tk (v := ?_) 25 rfl ?_ ?_; rotate_left
   ·rintro _ ⟨s, rfl⟩; go_simp; (try with_reducible rfl)
   simp only [Act.put, zz]
   refine tk (v := ?_) 26 rfl ?_ ?_; rotate_left
   ·rintro _ ⟨s, rfl⟩; go_simp; (try with_reducible rfl)
   simp only [Act.put, zz]
   refine wpAnyH_done (by kernel_rfl) ?_ _
   have H2 := Lib.hid (And.intro (go1 q1 H1.out.1) (And.intro (H1.out.2.trans q1) (And.intro (show A1.cell? ⟨b1, off1 + k * 2 + 1, none⟩ = some (.slice ag2 r2.length cg2) from D1 ⟨A1, q1⟩) (And.intro (show A1.cell? ⟨b2, off2 + k * 2 + 1, none⟩ = some (.slice af2 r2.length cf2) from E1 ⟨A1, q1⟩) (And.intro (q1.lt HB.out.1) (q1.lt HB.out.2))))))
   clear D0 D1 E0 E1 hS q1 H1
   have d1 := H2.out.2.2.1
   have e1 := H2.out.2.2.2.1
   have l1 := H2.out.2.2.2.2.1
   have l2 := H2.out.2.2.2.2.2
   go_wp2_with fail
   clear d1 e1 l1 l2
   go_loopg [50] r2.length (SameOut A1 r2.length)
   case atStart => exact ⟨0, Nat.zero_le _, rfl, rfl, Keeps.refl [] A1⟩
   case round =>
    obtain ⟨j, hj, hgj, rfl, hkb⟩ := hrel
    have Hgj := Lib.hid hgj
    clear hgj
    by_cases hltj : j < r2.length
    ·obtain ⟨b3, off3, ea, hb3, y0, y1⟩ := smp_at (go1 hkb H2.out.1.2.1) j hltj
     subst ea
     obtain ⟨b4, off4, ea, hb4, z0, z1⟩ := smp_at (go1 hkb H2.out.1.2.2.2) j hltj
     subst ea
     have hltj' : (j : Int) < (r2.length : Int) := by omega
     have d1 := (hkb.cell (i := off1 + k * 2 + 1) H2.out.2.2.2.2.1 (by simp)).trans H2.out.2.2.1
     have e1 := (hkb.cell (i := off2 + k * 2 + 1) H2.out.2.2.2.2.2 (by simp)).trans H2.out.2.2.2.1
     have l1 := hkb.lt H2.out.2.2.2.2.1
     have l2 := hkb.lt H2.out.2.2.2.2.2
     generalize r2[j] = s at y0 y1 z0 z1
     obtain ⟨s1, s2⟩ := s
     dsimp only at y0 y1 z0 z1
     have Hk := Lib.hid hkb
     clear hkb
     go_wp2_with fail
     go_quiet (fail)
     have Hk2 := Lib.hid (Hk.out.drewN nq)
     clear y0 y1 z0 z1 d1 e1 l1 l2 hb3 hb4 Hk
     generalize wr.drewN nq = W at Hk2 ⊢
     go_wp2_with fail
     go_roundg (r2.length - (j + 1))
     case measure => have := Hgj.out; omega
     case rel => exact ⟨j + 1, hltj, rfl, by go_num, Hk2.out⟩
    ·have hge : ¬ (j : Int) < (r2.length : Int) := by omega
     have Hr := Lib.hid (H2.out.2.1.trans hkb)
     clear hkb
     go_wp2_with fail
     go_roundg (A.length - (k + 1))
     case measure => have := Hg.out; omega
     case rel => exact ⟨k + 1, hlt, rfl, by go_num, Hr.out⟩
  ·have hge : ¬ (k : Int) < (A.length : Int) := by omega
   have Hr := Lib.hid hkw
   clear hkw
   go_wp2_with fail
   go_ret
   exact ⟨rfl, Hr.out⟩
def ToldRelT (w : World) (A : TabT) (gk : Nat) (u3 u9 : Value) (wr : World) : Prop :=
 ∃ k, k ≤ A.length ∧ gk = A.length - k ∧ u9 = .int .i64 k ∧ TabAt 106 152 w.heap.size wr u3 (A.take k) ∧ Keeps [] w wr
theorem told14_spec (w : World) (v : Value) (A : TabT) (h : TabAt 110 149 0 w v A) (hf : FewT A) :
  Calls Tryz.prog 15 #[v] w fun e w' => ∃ v', e = .returned v' ∧ TabAt 106 152 w.heap.size w' v' A ∧ Keeps [] w w' := by
 obtain ⟨ir, hir, hy0, hy1, hy2⟩ := info_parts infoRow14
 have Hf := Lib.hid (And.intro h hf.2)
 have hA100 := hf.1
 have H0 := Lib.hid (And.intro (tab_made (tp := 152) (own_made w w.heap.size 106 2 (Nat.le_refl _))) ((Keeps.refl [] w).alloc (.cells #[] 106)))
 obtain ⟨ao, cap, rfl⟩ := h.form
 clear h hf
 go_enter Tryz.func15, Tryz.ntmps15
 go_wp2_with fail
 go_loopg [3, 9] A.length (ToldRelT w A)
 case atStart => exact ⟨0, Nat.zero_le _, rfl, rfl, H0.out.1, H0.out.2⟩
 case round =>
  obtain ⟨k, hk, hgk, rfl, hrow, hkw⟩ := hrel
  have Hg := Lib.hid hgk
  clear hgk H0
  obtain ⟨E, hE1, hE2⟩ := hrow
  have hEl : E.length ≤ 100 := by have := hE2.1; rw [List.length_take] at this; omega
  obtain ⟨ax, cx, rfl, -, -, -⟩ := row_slice hE1
  by_cases hlt : k < A.length
  ·obtain ⟨b, off, u1, u2, ea, hb, d0, d1, g1, g2⟩ := (go1 hkw Hf.out.1).at_ k hlt
   subst ea
   have hlt' : (k : Int) < (A.length : Int) := by omega
   have hr := Hf.out.2 A[k] (List.getElem_mem hlt)
   have Htk := Lib.hid (show A.take (k + 1) = A.take k ++ [A[k]] from List.take_succ_eq_append_getElem hlt)
   generalize A[k] = r at d0 d1 g1 g2 hr Htk
   obtain ⟨r1, r2⟩ := r
   dsimp only at g1 g2 hr
   obtain ⟨ar1, cr1, rfl, -, -, -⟩ := row_slice g1
   obtain ⟨ar2, cr2, rfl, -, -, -⟩ := row_slice g2
   obtain ⟨W0, hW0⟩ : ∃ W0, W0 = (wr.alloc (.cells #[.slice ar1 r1.length cr1, .slice ar2 r2.length cr2] 110)).drew := ⟨_, rfl⟩
   have kW : Keeps [] wr W0 := by rw [hW0]; exact ((Keeps.refl [] wr).alloc _).drew
   have hp : W0.heap[wr.heap.size]? = some (.cells #[.slice ar1 r1.length cr1, .slice ar2 r2.length cr2] 110 (0, 0)) := by rw [hW0]; exact heap_new wr (.cells #[.slice ar1 r1.length cr1, .slice ar2 r2.length cr2] 110)
   have H1 := Lib.hid (And.intro (go1 kW (And.intro hE1 (And.intro hE2 (And.intro g1 g2)))) (And.intro (hkw.trans kW) hp))
   have Hne := Lib.hid (show ∀ g, (Value.slice ax E.length cx).ownBlock = some g → g ≠ wr.heap.size from fun g hg => by have := (World.ownsRow.lt hE1 g hg).2; omega)
   have HW := Lib.hid hW0
   clear hkw kW hp hW0 hE1 hE2 g1 g2
   go_upto_region 5 with fail
   have s1 : W0.cell? ⟨wr.heap.size, 0, none⟩ = some (.slice ar1 r1.length cr1) := by rw [cells_at H1.out.2.2]; rfl
   have s2 : W0.cell? ⟨wr.heap.size, 1, none⟩ = some (.slice ar2 r2.length cr2) := by rw [cells_at H1.out.2.2]; rfl
   refine wp_region_held_drew (S := fun w' => w'.cell? ⟨wr.heap.size, 0, none⟩ = some (.slice ar1 r1.length cr1) ∧ w'.cell? ⟨wr.heap.size, 1, none⟩ = some (.slice ar2 r2.length cr2)) (by kernel_rfl) (by rw [← HW.out]; exact ⟨s1, s2⟩) (fun hS => ?_)
   rw [← HW.out] at hS ⊢
   generalize wr.heap.size = pk at s1 s2 H1 Hne hS ⊢
   clear d0 d1 hb HW s1 s2
   refine tk (v := ?_) 0 rfl ?_ ?_; rotate_left
   ·rintro _ ⟨s1, s2⟩; go_simp; (try with_reducible rfl)
   simp only [Act.put, zz]
   refine tk (v := ?_) 1 rfl ?_ ?_; rotate_left
   ·rintro _ ⟨s1, s2⟩; go_simp; (try with_reducible rfl)
   simp only [Act.put, zz]
   refine tk (v := ?_) 2 rfl ?_ ?_; rotate_left
   ·rintro _ ⟨s1, s2⟩; go_simp; (try with_reducible rfl)
   simp only [Act.put, zz]
   refine tk (v := ?_) 4 rfl ?_ ?_; rotate_left
   ·rintro _ ⟨s1, s2⟩; go_simp; (try with_reducible rfl)
   simp only [Act.put, zz]
   refine tk (v := ?_) 5 rfl ?_ ?_; rotate_left
   ·rintro _ ⟨s1, s2⟩; go_simp; (try with_reducible rfl)
   simp only [Act.put, zz]
   refine rd 3 rfl fun K hK => ?_
   go_simp
   go_at_call 36
   refine (told6_spec W0 _ r1 (rowP H1.out.1.2.2.1) (by omega)).mono ?_
   rintro e A1 ⟨v1, rfl, hrow1, q1⟩
   have h1 := row_base (b' := 0) hrow1 (Nat.zero_le _)
   obtain ⟨al, cl, rfl, -, -, -⟩ := row_slice hrow1
   have H2 := Lib.hid (And.intro (go1 q1 H1.out.1) (And.intro (H1.out.2.1.trans q1) (And.intro (go1 q1 H1.out.2.2) h1)))
   have t2 : A1.cell? ⟨pk, 0, none⟩ = some (.slice ar1 r1.length cr1) ∧ A1.cell? ⟨pk, 1, none⟩ = some (.slice ar2 r2.length cr2) := ⟨by rw [cells_at H2.out.2.2.1]; rfl, by rw [cells_at H2.out.2.2.1]; rfl⟩
   clear hrow1 q1 h1 H1
   go_simp
   refine hK.out _ _ t2 (fun hS => ?_)
   clear hK K
   try simp only [Act.put, zz]
   refine rd 6 rfl fun K hK => ?_
   go_simp
   go_simp
   refine hK.out _ _ t2 (fun hS => ?_)
   clear hK K
   try simp only [Act.put, zz]
   refine rd 7 rfl fun K hK => ?_
   go_simp
   have kA : Keeps [] A1 (A1.alloc (.cells #[.slice al r1.length cl, .slice ar2 r2.length cr2] 106)) := (Keeps.refl [] A1).alloc _
   have H3 := Lib.hid (And.intro (heap_new A1 (.cells #[.slice al r1.length cl, .slice ar2 r2.length cr2] 106)) (And.intro (go1 kA H2.out.1) (And.intro (H2.out.2.1.trans kA) (go1 kA H2.out.2.2))))
   clear kA H2 t2
   generalize A1.heap.size = nb at H3 ⊢
   generalize A1.alloc (.cells #[.slice al r1.length cl, .slice ar2 r2.length cr2] 106) = A2 at H3 ⊢
   have t3 : A2.cell? ⟨pk, 0, none⟩ = some (.slice ar1 r1.length cr1) ∧ A2.cell? ⟨pk, 1, none⟩ = some (.slice ar2 r2.length cr2) := ⟨by rw [cells_at H3.out.2.2.2.1]; rfl, by rw [cells_at H3.out.2.2.2.1]; rfl⟩
   go_simp
   refine hK.out _ _ t3 (fun hS => ?_)
   clear hK K
   try simp only [Act.put, zz]
   clear t3
   refine rd 8 rfl fun K hK => ?_
   refine step_appP rfl (.tmp 13) (.tmp 20) 30 rfl w.heap.size 106 ir _ 2 48 Tryz.underlying30 hir hy0 hy1 hy2 rfl (by decide) (.slice ax E.length cx) E.length (E.flatMap encRV) rfl H3.out.2.1.1 ⟨nb, 0, none⟩ 1 1 [.slice al r1.length cl, .slice ar2 r2.length cr2] rfl rfl (news_two H3.out.1) (by simp [Value.oneCell']) (by simp only [maxLen]; omega) (by omega) H3.out.2.2.1.size ?_
   intro v5 A3 hown5 hgrow5
   obtain ⟨ao5, cp5, rfl, -, -, -⟩ := row_slice hown5
   have k5 := keeps_row hgrow5
   have n5 := k5.at_ H3.out.2.2.2.1 (fun hm => Hne.out pk (by simpa using hm) rfl)
   have t5 : A3.cell? ⟨pk, 0, none⟩ = some (.slice ar1 r1.length cr1) ∧ A3.cell? ⟨pk, 1, none⟩ = some (.slice ar2 r2.length cr2) := ⟨by rw [cells_at n5]; rfl, by rw [cells_at n5]; rfl⟩
   have hel := (H3.out.2.1.2.1.snoc (r := (r1, r2)) H3.out.2.2.2.2 H3.out.2.1.2.2.2).grown H3.out.2.1.1 k5 (by decide) (by decide)
   have hk5 := keeps_own H3.out.2.2.1 hgrow5 (fun q hq => (World.ownsRow.lt H3.out.2.1.1 q hq).1)
   have H5 := Lib.hid (And.intro (rv_snoc hown5) (And.intro hel hk5))
   have T5 := Lib.hid t5
   clear hown5 hgrow5 k5 n5 hel hk5 t5 H3
   refine hK.out _ _ T5.out (fun hS => ?_)
   clear hK K
   try simp only [Act.put, zz]
   refine rd 9 rfl fun K hK => ?_
   go_simp
   go_simp
   refine hK.out _ _ T5.out (fun hS => ?_)
   clear hK K
   try simp only [Act.put, zz]
   refine wpAnyH_done (by kernel_rfl) ?_ _
   clear hS T5
   go_wp2_with fail
   go_roundg (A.length - (k + 1))
   case measure => have := Hg.out; omega
   case rel => exact ⟨k + 1, hlt, rfl, by go_num, by rw [Htk.out]; exact ⟨_, H5.out.1, H5.out.2.1⟩, H5.out.2.2⟩
  ·have hge : ¬ (k : Int) < (A.length : Int) := by omega
   have hkn := Lib.hid (show A.take k = A from List.take_of_length_le (by omega))
   have Hr := Lib.hid (And.intro hE1 (And.intro hE2 hkw))
   clear hE1 hE2 hkw
   go_wp2_with fail
   go_ret
   exact ⟨_, rfl, by rw [← hkn.out]; exact ⟨E, Hr.out.1, Hr.out.2.1⟩, Hr.out.2.2⟩
theorem take_mid2 {A : TabT} {k j : Nat} (hk : k < A.length) (hg : GoodT A) (hf : FewT A) :
  (∀ r ∈ A.take k, ltL r.1 A[k].1) ∧ FewT (A.take k ++ [(A[k].1, A[k].2.take j)]) ∧ (A.take k ++ [(A[k].1, A[k].2.take j)]).Pairwise (fun a b => ltL a.1 b.1) := by
 have h1 : ∀ r ∈ A.take k, ltL r.1 A[k].1 := fun r hr => by
  obtain ⟨i, hi, rfl⟩ := List.mem_iff_getElem.1 hr
  rw [List.getElem_take]
  rw [List.length_take] at hi
  exact List.pairwise_iff_getElem.1 hg.rows i k (by omega) hk (by omega)
 refine ⟨h1, ⟨?_, fun r hr => ?_⟩, ?_⟩
 ·rw [List.length_append, List.length_take]
  have := hf.1
  simp only [List.length_cons, List.length_nil]
  omega
 ·rcases List.mem_append.1 hr with hr | hr
  ·exact hf.2 r (List.mem_of_mem_take hr)
  ·obtain rfl : r = (A[k].1, A[k].2.take j) := by simpa using hr
   have := hf.2 A[k] (List.getElem_mem hk)
   exact ⟨this.1, by show (A[k].2.take j).length ≤ 500; rw [List.length_take]; omega⟩
 ·rw [List.pairwise_append]
  refine ⟨hg.rows.sublist (List.take_sublist k A), by simp, fun a ha b hb => ?_⟩
  obtain rfl : b = (A[k].1, A[k].2.take j) := by simpa using hb
  exact h1 a ha
def ROut (w : World) (A : TabT) (from_ upt : Int) (gk : Nat) (u0 u17 : Value) (wr : World) : Prop :=
 ∃ k, k ≤ A.length ∧ gk = A.length - k ∧ u17 = .int .i64 k ∧ TabAt 106 152 w.heap.size wr u0 (betT from_ upt (A.take k)) ∧ Keeps [] w wr
def RIn (w : World) (C : TabT) (r : RowT) (pb : Nat) (v1 v2 : Value) (from_ upt : Int) (gk : Nat) (u0 u29 : Value) (wr : World) : Prop :=
 ∃ j, j ≤ r.2.length ∧ gk = r.2.length - j ∧ u29 = .int .i64 j ∧ TabAt 106 152 w.heap.size wr u0 (betT from_ upt (C ++ [(r.1, r.2.take j)])) ∧ wr.heap[pb]? = some (.cells #[v1, v2] 106 (0, 0)) ∧ wr.ownsRow 0 152 2 v1 r.1.length (r.1.flatMap encPB) ∧ wr.ownsRow 0 42 2 v2 r.2.length (r.2.flatMap encSm) ∧ Keeps [] w wr
theorem betweenR_spec (w : World) (v : Value) (A : TabT) (from_ upt : Int) (h : TabAt 106 152 0 w v A) (hf : FewT A) (hg : GoodT A) :
  Calls Tryz.prog 18 #[v, .int .i64 from_, .int .i64 upt] w fun e w' => ∃ v', e = .returned v' ∧ TabAt 106 152 w.heap.size w' v' (betT from_ upt A) ∧ Keeps [] w w' := by
 have Hf := Lib.hid (And.intro h (And.intro hf hg))
 have hA100 := hf.1
 obtain ⟨ao, cap, rfl⟩ := h.form
 have H0 := Lib.hid (And.intro (tab_made (tp := 152) (own_made w w.heap.size 106 2 (Nat.le_refl _))) ((Keeps.refl [] w).alloc (.cells #[] 106)))
 clear h hf hg
 go_enter Tryz.func18, Tryz.ntmps18
 go_wp2_with fail
 go_loopg [7, 15] A.length (ROut w A from_ upt)
 case atStart => exact ⟨0, Nat.zero_le _, rfl, rfl, by simpa [betT] using H0.out.1, H0.out.2⟩
 case round =>
  obtain ⟨k, hk, hgk, rfl, hrow, hkw⟩ := hrel
  have Hg := Lib.hid hgk
  clear hgk
  by_cases hlt : k < A.length
  ·obtain ⟨b, off, u1, u2, ea, hb, d0, d1, g1, g2⟩ := (go1 hkw Hf.out.1).at_ k hlt
   subst ea
   have hlt' : (k : Int) < (A.length : Int) := by omega
   have hr := Hf.out.2.1.2 A[k] (List.getElem_mem hlt)
   have hrs := (Hf.out.2.2.smps A[k] (List.getElem_mem hlt)).1
   have Htk := Lib.hid (show A.take (k + 1) = A.take k ++ [A[k]] from List.take_succ_eq_append_getElem hlt)
   have Hmid := Lib.hid (fun (j : Nat) => take_mid2 (j := j) hlt Hf.out.2.2 Hf.out.2.1)
   generalize A[k] = r at d0 d1 g1 g2 hr hrs Htk Hmid
   obtain ⟨r1, r2⟩ := r
   dsimp only at g1 g2 hr hrs
   have Hrs := Lib.hid hrs
   clear hrs
   obtain ⟨ar1, cr1, rfl, -, -, -⟩ := row_slice g1
   obtain ⟨ar2, cr2, rfl, -, -, -⟩ := row_slice g2
   obtain ⟨ax, cx, hax⟩ := hrow.form
   obtain ⟨nX, hnX⟩ : ∃ n, n = (betT from_ upt (A.take k)).length := ⟨_, rfl⟩
   rw [← hnX] at hax
   subst hax
   have kP : Keeps [] wr (wr.alloc (.cells #[.slice ar1 r1.length cr1, .slice ar2 r2.length cr2] 106)) := (Keeps.refl [] wr).alloc _
   have H1 := Lib.hid (And.intro (go1 kP (And.intro hrow hkw)) (And.intro (heap_new wr (.cells #[.slice ar1 r1.length cr1, .slice ar2 r2.length cr2] 106)) (go1 kP (And.intro g1 g2))))
   clear kP hrow hkw g1 g2 hnX
   go_upto_region 5 with fail
   clear d0 d1 hb
   generalize hwp : wr.alloc (.cells #[.slice ar1 r1.length cr1, .slice ar2 r2.length cr2] 106) = wp at H1 ⊢
   generalize hpb : wr.heap.size = pb at H1 ⊢
   clear hwp hpb
   have cp := cells_at H1.out.2.1
   have lp := lt_of_at H1.out.2.1
   have H2 := H1
   clear H1
   go_wp2_with fail
   clear cp lp
   go_loopg [7, 22] r2.length (RIn w (A.take k) (r1, r2) pb (.slice ar1 r1.length cr1) (.slice ar2 r2.length cr2) from_ upt)
   case atStart => exact ⟨0, Nat.zero_le _, rfl, rfl, by rw [betT_app, betT_one]; simpa [betS] using H2.out.1.1, H2.out.2.1, H2.out.2.2.1, H2.out.2.2.2, H2.out.1.2⟩
   case round =>
    obtain ⟨j, hj, hgj, rfl, hrow, hpb, hv1, hv2, hkb⟩ := hrel
    have Hgj := Lib.hid hgj
    dsimp only at hj hrow hv1 hv2
    clear hgj
    obtain ⟨ax, cx, hax⟩ := hrow.form
    obtain ⟨nX, hnX⟩ : ∃ n, n = (betT from_ upt (A.take k ++ [(r1, r2.take j)])).length := ⟨_, rfl⟩
    rw [← hnX] at hax
    subst hax
    clear hnX
    by_cases hltj : j < r2.length
    ·obtain ⟨b5, off5, ea, hb5, d0, d1⟩ := smp_at hv2 j hltj
     subst ea
     have hltj' : (j : Int) < (r2.length : Int) := by omega
     have HS := Lib.hid (show r2.take (j + 1) = r2.take j ++ [r2[j]] from List.take_succ_eq_append_getElem hltj)
     have Hps := Lib.hid (show (r2.take (j + 1)).Pairwise ltS from Hrs.out.sublist (List.take_sublist _ _))
     generalize r2[j] = s at d0 d1 HS
     obtain ⟨s1, s2⟩ := s
     dsimp only at d0 d1
     have kP : Keeps [] wr (wr.alloc (.cells #[.int .i64 s1, .int .u64 s2] 42)) := (Keeps.refl [] wr).alloc _
     have H3 := Lib.hid (And.intro (go1 kP (And.intro hrow (And.intro hpb (And.intro hv1 (And.intro hv2 hkb))))) (heap_new wr (.cells #[.int .i64 s1, .int .u64 s2] 42)))
     clear kP hrow hpb hv1 hv2 hkb
     go_upto_region 8 with fail
     clear d0 d1 hb5
     generalize hwq : wr.alloc (.cells #[.int .i64 s1, .int .u64 s2] 42) = wq at H3 ⊢
     generalize hqb : wr.heap.size = qb at H3 ⊢
     clear hwq hqb
     have cq := cells_at H3.out.2
     have lq := lt_of_at H3.out.2
     have cp := cells_at H3.out.1.2.1
     have lp := lt_of_at H3.out.1.2.1
     have hways : (¬ from_ ≤ s1) ∨ (from_ ≤ s1 ∧ ¬ s1 < upt) ∨ (from_ ≤ s1 ∧ s1 < upt) := by omega
     rcases hways with hx | ⟨hx, hy⟩ | ⟨hx, hy⟩
     ·have Hb := Lib.hid (show ¬ betB from_ upt (s1, s2) from fun h => hx h.1)
      have hx' : s1 < from_ := by omega
      go_wp2_with fail
      go_roundg (r2.length - (j + 1))
      case measure => have := Hgj.out; omega
      case rel =>
       refine ⟨j + 1, hltj, rfl, by go_num, ?_, H3.out.1.2.1, H3.out.1.2.2.1, H3.out.1.2.2.2.1, H3.out.1.2.2.2.2⟩
       show TabAt _ _ _ _ _ (betT from_ upt (A.take k ++ [(r1, r2.take (j + 1))]))
       rw [HS.out, bet_stay Hb.out]
       exact H3.out.1.1
     ·have Hb := Lib.hid (show ¬ betB from_ upt (s1, s2) from fun h => hy h.2)
      go_wp2_with fail
      go_roundg (r2.length - (j + 1))
      case measure => have := Hgj.out; omega
      case rel =>
       refine ⟨j + 1, hltj, rfl, by go_num, ?_, H3.out.1.2.1, H3.out.1.2.2.1, H3.out.1.2.2.2.1, H3.out.1.2.2.2.2⟩
       show TabAt _ _ _ _ _ (betT from_ upt (A.take k ++ [(r1, r2.take (j + 1))]))
       rw [HS.out, bet_stay Hb.out]
       exact H3.out.1.1
     ·have Hb := Lib.hid (show betB from_ upt (s1, s2) from ⟨hx, hy⟩)
      have Hmj := Lib.hid (Hmid.out j)
      go_wp2_with fail
      refine (addM_spec wq _ _ (betT from_ upt (A.take k ++ [(r1, r2.take j)])) r1 (s1, s2) (H3.out.1.1.base (Nat.zero_le _)) (betT_few Hmj.out.2.1) (by
       unfold betT
       exact List.Pairwise.filter _ (List.pairwise_map.2 Hmj.out.2.2)) H3.out.1.2.2.1 (by omega)).mono ?_
      rintro e w6 ⟨v6, rfl, ht6, hk6⟩
      rw [bet_step Hmj.out.1 (by rw [← HS.out]; exact Hps.out) Hb.out, ← HS.out] at ht6
      have H6 := Lib.hid (And.intro (ht6.base (B' := w.heap.size) H3.out.1.2.2.2.2.size) (go1 hk6 H3.out.1.2))
      obtain ⟨ay, cy, hay⟩ := ht6.form
      obtain ⟨nY, hnY⟩ : ∃ n, n = (betT from_ upt (A.take k ++ [(r1, r2.take (j + 1))])).length := ⟨_, rfl⟩
      rw [← hnY] at hay
      subst hay
      clear ht6 hk6 hnY H3 cq lq cp lp
      go_wp2_with fail
      go_roundg (r2.length - (j + 1))
      case measure => have := Hgj.out; omega
      case rel => exact ⟨j + 1, hltj, rfl, by go_num, H6.out.1, H6.out.2.1, H6.out.2.2.1, H6.out.2.2.2.1, H6.out.2.2.2.2⟩
    ·have hgej : ¬ (j : Int) < (r2.length : Int) := by omega
     have hjn : r2.take j = r2 := List.take_of_length_le (by omega)
     rw [hjn] at hrow
     have Hr := Lib.hid (And.intro hrow hkb)
     clear hrow hpb hkb hjn hv1 hv2
     go_wp2_with fail
     go_roundg (A.length - (k + 1))
     case measure => have := Hg.out; omega
     case rel =>
      refine ⟨k + 1, hlt, rfl, by go_num, ?_, Hr.out.2⟩
      rw [Htk.out]
      exact Hr.out.1
  ·have hge : ¬ (k : Int) < (A.length : Int) := by omega
   have hkn := Lib.hid (show A.take k = A from List.take_of_length_le (by omega))
   have Hr := Lib.hid (And.intro hrow hkw)
   obtain ⟨ax, cx, hax⟩ := hrow.form
   obtain ⟨nX, hnX⟩ : ∃ n, n = (betT from_ upt (A.take k)).length := ⟨_, rfl⟩
   rw [← hnX] at hax
   subst hax
   clear hrow hkw hnX
   go_wp2_with fail
   go_ret
   exact ⟨_, rfl, by have h := Hr.out.1; rw [hkn.out] at h; exact h, Hr.out.2⟩
end Go.Proofs.YtgdkceeonnfejaaGreatDoor
