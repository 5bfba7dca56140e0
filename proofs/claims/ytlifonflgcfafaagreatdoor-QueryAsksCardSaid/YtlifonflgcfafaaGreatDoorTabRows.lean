/-
  Package barographlaw14: Rows: the document's table as the program's, walked.
  The tables are of few rows, none without samples.
-/
import Derived.Test.YtlifonflgcfafaaGreatDoorTabAdd
namespace Go.Proofs.YtlifonflgcfafaaGreatDoor
open Go Go.RowKit

theorem infoRowM : (Tryz.prog.info? 100).map (fun i => (i.zero, i.size, i.bytes)) = some (some (.agg #[.slice none 0 0, .slice none 0 0]), 2, 48) := by kernel_rfl

theorem row_news {B s n c g : Nat} {e : TypeId} {w : World} {xs : List Value} (h : w.ownsRow B e s (.slice (some ⟨g, 0, none⟩) n c) n xs) : ∀ j u, xs[j]? = some u → w.cell? ((⟨g, 0, none⟩ : Addr).add j) = some u := by
  intro j u hu
  have hj := (List.getElem?_eq_some_iff.1 hu).1
  have hadd : (⟨g, 0, none⟩ : Addr).add j = ⟨g, j, none⟩ := by unfold Addr.add; split <;> simp_all
  rw [hadd, World.ownsRow.cellAt h j (by rw [← h.1]; exact hj), hu]

theorem row_some {B s n : Nat} {e : TypeId} {w : World} {v : Value} {xs : List Value} (h : w.ownsRow B e s v n xs) (hn : 0 < n) : ∃ g c, v = .slice (some ⟨g, 0, none⟩) n c := by
  obtain ⟨_, ⟨rfl, h0⟩ | ⟨g, cap, cur, rfl, _⟩⟩ := h
  · omega
  · exact ⟨g, cap, rfl⟩

theorem sm_one (L : List SmpB) : ∀ u ∈ L.flatMap encSm, u.oneCell' = true := by
  intro u hu
  obtain ⟨s, _, hu⟩ := List.mem_flatMap.1 hu
  simp only [encSm, List.mem_cons, List.not_mem_nil, or_false] at hu
  rcases hu with rfl | rfl <;> rfl

theorem sm_flen (L : List SmpB) : (L.flatMap encSm).length = L.length * 2 := by
  induction L with
  | nil => rfl
  | cons s L ih => rw [List.flatMap_cons, List.length_append, ih, List.length_cons]; simp [encSm]; omega

def RowsRel (w : World) (A : TabT) (gk : Nat) (u3 u12 : Value) (wr : World) : Prop :=
  ∃ k, k ≤ A.length ∧ gk = A.length - k ∧ u12 = .int .i64 k ∧ TabAt 100 138 w.heap.size wr u3 (A.take k) ∧ Keeps [] w wr

def RowsIn (wp : World) (L : List PairB) (gk : Nat) (u6 u19 : Value) (wr : World) : Prop :=
  ∃ j, j ≤ L.length ∧ gk = L.length - j ∧ u19 = .int .i64 j ∧ wr.ownsRow wp.heap.size 138 2 u6 (L.take j).length ((L.take j).flatMap encPB) ∧ Keeps [] wp wr

theorem pb_snoc {w : World} {B : Nat} {v : Value} {N : List PairB} {q1 q2 : ByteArray} {T : TypeId} (h : w.ownsRow B T 2 v (N.length + 1) (N.flatMap encPB ++ [.string q1, .string q2])) : w.ownsRow B T 2 v (N ++ [(q1, q2)]).length ((N ++ [(q1, q2)]).flatMap encPB) := by
  rw [List.length_append, List.flatMap_append]
  simpa [encPB] using h

set_option linter.unusedSimpArgs false in
set_option maxRecDepth 100000 in
set_option maxHeartbeats 4000000 in
theorem rows_spec (w : World) (v : Value) (A : TabT) (h : TabAt 96 140 0 w v A) (hf : FewT A) (hne : ∀ r ∈ A, r.2 ≠ []) :
    Calls Tryz.prog 41 #[v] w fun e w' => ∃ v', e = .returned v' ∧ TabAt 100 138 w.heap.size w' v' A ∧ Keeps [] w w' := by
  obtain ⟨ir, hir, hy0, hy1, hy2⟩ := info_parts infoRowM
  obtain ⟨iq, hiq, hq0, hq1, hq2⟩ := info_parts infoPair
  obtain ⟨im, him, hz0, hz1, hz2⟩ := info_parts infoSmp
  have Hf := Lib.hid (And.intro h (And.intro hf.2 hne))
  have hA100 := hf.1
  have H0 := Lib.hid (And.intro (tab_made (tp := 138) (own_made w w.heap.size 100 2 (Nat.le_refl _))) ((Keeps.refl [] w).alloc (.cells #[] 100)))
  obtain ⟨ao, cap, rfl⟩ := h.form
  clear h hf hne
  go_enter Tryz.func41, Tryz.ntmps41
  go_wp2_with fail
  go_loopg [3, 12] A.length (RowsRel w A)
  case atStart => exact ⟨0, Nat.zero_le _, rfl, rfl, H0.out.1, H0.out.2⟩
  case round =>
    obtain ⟨k, hk, hgk, rfl, hrow, hkw⟩ := hrel
    have Hg := Lib.hid hgk
    clear hgk H0
    obtain ⟨E, hE1, hE2⟩ := hrow
    have hEl : E.length ≤ 100 := by have := hE2.1; rw [List.length_take] at this; omega
    obtain ⟨ax, cx, rfl, -, -, -⟩ := row_slice hE1
    by_cases hlt : k < A.length
    · obtain ⟨b, off, u1, u2, ea, hb, d0, d1, g1, g2⟩ := (go1 hkw Hf.out.1).at_ k hlt
      subst ea
      have hlt' : (k : Int) < (A.length : Int) := by omega
      have hr := Hf.out.2.1 A[k] (List.getElem_mem hlt)
      have hn := Hf.out.2.2 A[k] (List.getElem_mem hlt)
      have Htk := Lib.hid (show A.take (k + 1) = A.take k ++ [A[k]] from List.take_succ_eq_append_getElem hlt)
      generalize A[k] = r at d0 d1 g1 g2 hr hn Htk
      obtain ⟨r1, r2⟩ := r
      dsimp only at g1 g2 hr hn
      have hn0 : 0 < r2.length := by
        cases r2 with
        | nil => exact absurd rfl hn
        | cons x l => simp
      clear hn
      obtain ⟨ar1, cr1, rfl, -, -, -⟩ := row_slice g1
      obtain ⟨gb, cr2, rfl⟩ := row_some g2 hn0
      have kP : Keeps [] wr (wr.alloc (.cells #[.slice ar1 r1.length cr1, .slice (some ⟨gb, 0, none⟩) r2.length cr2] 96)) := (Keeps.refl [] wr).alloc _
      have H1 := Lib.hid (And.intro (go1 kP (And.intro hE1 (And.intro hE2 hkw))) (And.intro (heap_new wr (.cells #[.slice ar1 r1.length cr1, .slice (some ⟨gb, 0, none⟩) r2.length cr2] 96)) (go1 kP (And.intro g1 g2))))
      clear kP hE1 hE2 hkw g1 g2
      go_upto_region 6 with fail
      clear d0 d1 hb
      generalize hwp : wr.alloc (.cells #[.slice ar1 r1.length cr1, .slice (some ⟨gb, 0, none⟩) r2.length cr2] 96) = wp at H1 ⊢
      generalize hpb : wr.heap.size = pb at H1 ⊢
      clear hwp hpb
      have cp := cells_at H1.out.2.1
      have lp := lt_of_at H1.out.2.1
      go_wp2_with fail
      clear cp lp
      go_loopg [6, 19] r1.length (RowsIn wp r1)
      case atStart => exact ⟨0, Nat.zero_le _, rfl, rfl, World.ownsRow_nil _ _ _ 2, Keeps.refl [] wp⟩
      case round =>
        obtain ⟨j, hj, hgj, rfl, hrow, hkb⟩ := hrel
        have Hgj := Lib.hid hgj
        clear hgj
        obtain ⟨N, hN⟩ : ∃ N, N = r1.take j := ⟨_, rfl⟩
        rw [← hN] at hrow
        have hNl : N.length ≤ 1000 := by rw [hN, List.length_take]; omega
        have HN := Lib.hid hN
        clear hN
        obtain ⟨a6, c6, rfl, -, -, -⟩ := row_slice hrow
        by_cases hltj : j < r1.length
        · obtain ⟨b5, off5, cap5, ea, hb5, d0, d1⟩ := pair_at (rowP (go1 hkb H1.out.2.2.1)) j hltj
          injection ea with ea _ ec
          subst ea ec
          have hltj' : (j : Int) < (r1.length : Int) := by omega
          have HS := Lib.hid (show r1.take (j + 1) = r1.take j ++ [r1[j]] from List.take_succ_eq_append_getElem hltj)
          generalize r1[j] = p at d0 d1 HS
          obtain ⟨p1, p2⟩ := p
          dsimp only at d0 d1
          have kQ : Keeps [] wr (wr.alloc (.cells #[.string p1, .string p2] 140)) := (Keeps.refl [] wr).alloc _
          have H2 := Lib.hid (And.intro (go1 kQ (And.intro hrow hkb)) (heap_new wr (.cells #[.string p1, .string p2] 140)))
          clear hrow hkb kQ
          go_upto_region 9 with fail
          clear d0 d1 hb5
          generalize hwq : wr.alloc (.cells #[.string p1, .string p2] 140) = wq at H2 ⊢
          generalize hqb : wr.heap.size = qb at H2 ⊢
          clear hwq hqb
          have cq := cells_at H2.out.2
          have lq := lt_of_at H2.out.2
          have hsz := H2.out.1.2.size
          go_wp2_with (at_builtin; refine wpList_append_own _ rfl (.tmp 23) (.tmp 25) 74 rfl wp.heap.size 138 iq _ 2 32 Tryz.underlying74 hiq hq0 hq1 hq2 rfl (by decide) (.slice a6 N.length c6) N.length (N.flatMap encPB) rfl (H2.out.1.1.alloc _) ⟨wq.heap.size, 0, none⟩ 1 1 [.string p1, .string p2] rfl rfl (news_two (heap_new wq _)) (by simp [Value.oneCell']) (by simp only [maxLen]; omega) (by omega) (by rw [World.size_alloc]; omega) ?_; intro v8 w8 hown8 hgrow8 hnil8; clear hnil8; obtain ⟨ao8, cp8, rfl, -, -, -⟩ := row_slice hown8; skip)
          have hk8 := keeps_own (H2.out.1.2.alloc (.cells #[.string p1, .string p2] 138)) hgrow8 (fun g hg => (World.ownsRow.lt H2.out.1.1 g hg).1)
          have H8 := Lib.hid (And.intro (pb_snoc hown8) hk8)
          clear hown8 hgrow8 hk8 cq lq H2
          go_wp2_with fail
          go_roundg (r1.length - (j + 1))
          case measure => have := Hgj.out; omega
          case rel => exact ⟨j + 1, hltj, rfl, by go_num, by rw [HS.out, ← HN.out]; have h := H8.out.1; rw [List.length_append] at h ⊢; exact h, H8.out.2⟩
        · have hge : ¬ (j : Int) < (r1.length : Int) := by omega
          have hNr : N = r1 := by rw [HN.out]; exact List.take_of_length_le (by omega)
          subst hNr
          have kS : Keeps [] wr (wr.alloc (.cells #[] 42)) := (Keeps.refl [] wr).alloc _
          have mk := own_made wr wr.heap.size 42 2 (Nat.le_refl _)
          have HR := Lib.hid (And.intro (row_base (b' := 0) hrow (Nat.zero_le _)) (And.intro (go1 hkb H1.out) (H1.out.1.2.2.trans hkb)))
          have HS := Lib.hid (And.intro kS (And.intro mk (go1 kS HR.out.2.1.2.2.2)))
          have cp := cells_at (go1 kS HR.out.2.1.2.1)
          have lp := lt_of_at (go1 kS HR.out.2.1.2.1)
          have hwr : w.heap.size ≤ wr.heap.size := HR.out.2.2.size
          clear hrow hkb kS mk H1
          go_upto_region 11 with fail
          go_wp2_with (first
            | (at_builtin; refine wpList_append_own _ rfl (.tmp 30) (.tmp 32) 90 rfl wr.heap.size 42 im _ 2 16 Tryz.underlying90 him hz0 hz1 hz2 rfl (by decide) (.slice (some ⟨wr.heap.size, 0, none⟩) 0 0) 0 [] rfl HS.out.2.1 ⟨gb, 0, none⟩ r2.length cr2 (r2.flatMap encSm) rfl (sm_flen _) (row_news HS.out.2.2) (sm_one _) (by simp only [maxLen]; omega) (by omega) (by rw [World.size_alloc]; omega) ?_; intro v8 w8 hown8 hgrow8 hnil8; clear hnil8; have k8 := keeps_own HS.out.1 hgrow8 (fun g hg => (World.ownsRow.lt HS.out.2.1 g hg).1); rw [Nat.zero_add, List.nil_append] at hown8; obtain ⟨gc, c8, rfl⟩ := row_some hown8 hn0; have H8 := Lib.hid (And.intro hown8 k8); have hw8 := k8.size; clear hown8 hgrow8 k8; skip)
            | (at_builtin; refine wpList_append_own _ rfl (.tmp 28) (.tmp 35) 47 rfl w.heap.size 100 ir _ 2 48 Tryz.underlying47 hir hy0 hy1 hy2 rfl (by decide) (.slice ax E.length cx) E.length (E.flatMap encRV) rfl ((go1 H8.out.2 HR.out.2.1.1.1).alloc _) ⟨w8.heap.size, 0, none⟩ 1 1 [.slice a6 N.length c6, .slice (some ⟨gc, 0, none⟩) r2.length c8] rfl rfl (news_two (heap_new w8 _)) (by simp [Value.oneCell']) (by simp only [maxLen]; omega) (by omega) (by rw [World.size_alloc]; omega) ?_; intro v9 w9 hown9 hgrow9 hnil9; clear hnil9; obtain ⟨ao9, cp9, rfl, -, -, -⟩ := row_slice hown9; skip))
          have hgr := keeps_row hgrow9
          have kN : Keeps [] w8 (w8.alloc (.cells #[.slice a6 N.length c6, .slice (some ⟨gc, 0, none⟩) r2.length c8] 100)) := (Keeps.refl [] w8).alloc _
          have hel := ((ElemsAt.keep (ElemsAt.keep HR.out.2.1.1.2.1 H8.out.2) kN).snoc (r := (N, r2)) (go1 kN (go1 H8.out.2 HR.out.1)) (go1 kN (row_base (b' := 0) H8.out.1 (Nat.zero_le _)))).grown (go1 kN (go1 H8.out.2 HR.out.2.1.1.1)) hgr (by decide) (by decide)
          have hk9 := keeps_own ((HR.out.2.2.trans H8.out.2).trans kN) hgrow9 (fun g hg => (World.ownsRow.lt (go1 H8.out.2 HR.out.2.1.1.1) g hg).1)
          have H9 := Lib.hid (And.intro (rv_snoc hown9) (And.intro hel hk9))
          clear hown9 hgrow9 hgr kN hel hk9 cp lp
          go_wp2_with fail
          go_roundg (A.length - (k + 1))
          case measure => have := Hg.out; omega
          case rel => exact ⟨k + 1, hlt, rfl, by go_num, by rw [Htk.out]; exact ⟨_, H9.out.1, H9.out.2.1⟩, H9.out.2.2⟩
    · have hge : ¬ (k : Int) < (A.length : Int) := by omega
      have hkn := Lib.hid (show A.take k = A from List.take_of_length_le (by omega))
      have Hr := Lib.hid (And.intro hE1 (And.intro hE2 hkw))
      clear hE1 hE2 hkw
      go_wp2_with fail
      go_ret
      exact ⟨_, rfl, by rw [← hkn.out]; exact ⟨E, Hr.out.1, Hr.out.2.1⟩, Hr.out.2.2⟩
end Go.Proofs.YtlifonflgcfafaaGreatDoor
