/-
  query.Ask's Of and Check, walked: of a table the rows that all matchers fit, with their samples between two times; an ask may be when each matcher may be.
  The tables are of few rows, none without labels; the matchers may be.
-/
import Derived.Test.YtlifonflgcfafaaGreatDoorTabBet
import Derived.Test.YtlifonflgcfafaaGreatDoorMCheck
namespace Go.Proofs.YtlifonflgcfafaaGreatDoor
open Go Go.RowKit

theorem fit_filter (from_ to : Int) (A : TabT) (L : List MatB) : (betT from_ to A).filter (fitR L) = betT from_ to (A.filter (fitR L)) := betT_filter from_ to A (fun l => L.all (fitsM l))

def OfRel (wb : World) (A : TabT) (L : List MatB) (gk : Nat) (u5 u15 : Value) (wr : World) : Prop :=
  ∃ k, k ≤ A.length ∧ gk = A.length - k ∧ u15 = .int .i64 k ∧ TabAt 100 138 wb.heap.size wr u5 ((A.take k).filter (fitR L)) ∧ Keeps [] wb wr

set_option linter.unusedSimpArgs false in
set_option maxRecDepth 100000 in
set_option maxHeartbeats 4000000 in
theorem ofQ_spec (w : World) (v vm : Value) (A : TabT) (L : List MatB) (from_ to : Int) (h : TabAt 100 138 0 w v A) (hf : FewT A) (hne : ∀ r ∈ A, r.1 ≠ []) (hm : MatsAt w vm L) (hmay : ∀ m ∈ L, mayK m) :
    Calls Tryz.prog 20 #[.agg #[.int .i64 from_, .int .i64 to, vm], v] w fun e w' => ∃ v', e = .returned v' ∧ TabAt 100 138 w.heap.size w' v' (betT from_ to (A.filter (fitR L))) ∧ Keeps [] w w' := by
  obtain ⟨ir, hir, hy0, hy1, hy2⟩ := info_parts infoRowM
  have hbf := betT_few (from_ := from_) (to := to) hf
  obtain ⟨am, cm, rfl, hlm⟩ := hm.form
  unfold maxLen at hlm
  have kP : Keeps [] w (w.alloc (.cells #[.int .i64 from_, .int .i64 to, .slice am L.length cm] 59)) := (Keeps.refl [] w).alloc _
  have Hf := Lib.hid (And.intro (go1 kP h) (And.intro hf (And.intro hne (And.intro (go1 kP hm) (And.intro hmay (And.intro kP (heap_new w (.cells #[.int .i64 from_, .int .i64 to, .slice am L.length cm] 59))))))))
  rw [← fit_filter]
  generalize hD : betT from_ to A = D at hbf ⊢
  have HD := Lib.hid hD
  have hA100 := hbf.1
  have Hbf := Lib.hid hbf.2
  clear h hf hne hm hmay hbf hD kP
  go_enter Tryz.func20, Tryz.ntmps20
  go_upto_region 2 with fail
  generalize hwp : w.alloc (.cells #[.int .i64 from_, .int .i64 to, .slice am L.length cm] 59) = wp at Hf ⊢
  generalize hpb : w.heap.size = pb at Hf ⊢
  clear hwp hpb
  have cp := cells_at Hf.out.2.2.2.2.2.2
  have lp := lt_of_at Hf.out.2.2.2.2.2.2
  go_wp2_with fail
  refine (between14_spec wp v A from_ to Hf.out.1 Hf.out.2.1 Hf.out.2.2.1).mono ?_
  rintro e wb ⟨vb, rfl, htab, hkb⟩
  clear cp lp
  rw [HD.out] at htab
  obtain ⟨ab, cb, rfl⟩ := htab.form
  have Hb := Lib.hid (And.intro htab (And.intro (go1 hkb Hf.out.2.2.2.1) (And.intro (go1 hkb Hf.out.2.2.2.2.2.2) (Hf.out.2.2.2.2.2.1.trans hkb))))
  clear htab hkb
  go_wp2_with fail
  go_loopg [5, 15] D.length (OfRel wb D L)
  case atStart => exact ⟨0, Nat.zero_le _, rfl, rfl, by simpa using tab_nil _ _ _ wb, Keeps.refl [] wb⟩
  case round =>
    obtain ⟨k, hk, hgk, rfl, hrow, hkw⟩ := hrel
    have Hg := Lib.hid hgk
    clear hgk
    obtain ⟨E, hE1, hE2⟩ := hrow
    have hEl : E.length ≤ 100 := by
      have h1 := hE2.1
      have h2 := List.length_filter_le (fitR L) (D.take k)
      rw [List.length_take] at h2
      omega
    obtain ⟨ax, cx, rfl, -, -, -⟩ := row_slice hE1
    by_cases hlt : k < D.length
    · obtain ⟨b, off, u1, u2, ea, hb, d0, d1, g1, g2⟩ := (go1 hkw Hb.out.1).at_ k hlt
      subst ea
      have hlt' : (k : Int) < (D.length : Int) := by omega
      have hr := Hbf.out D[k] (List.getElem_mem hlt)
      have Htk := Lib.hid (show D.take (k + 1) = D.take k ++ [D[k]] from List.take_succ_eq_append_getElem hlt)
      generalize D[k] = r at d0 d1 g1 g2 hr Htk
      obtain ⟨r1, r2⟩ := r
      dsimp only at g1 g2 hr
      obtain ⟨ar1, cr1, rfl, -, -, -⟩ := row_slice g1
      obtain ⟨ar2, cr2, rfl, -, -, -⟩ := row_slice g2
      have kP : Keeps [] wr (wr.alloc (.cells #[.slice ar1 r1.length cr1, .slice ar2 r2.length cr2] 100)) := (Keeps.refl [] wr).alloc _
      have H1 := Lib.hid (And.intro (go1 kP (And.intro hE1 (And.intro hE2 hkw))) (And.intro (heap_new wr (.cells #[.slice ar1 r1.length cr1, .slice ar2 r2.length cr2] 100)) (And.intro (go1 kP (And.intro g1 g2)) (go1 kP (go1 hkw Hb.out.2)))))
      clear kP hE1 hE2 hkw g1 g2
      go_upto_region 5 with fail
      clear d0 d1 hb
      generalize hwp : wr.alloc (.cells #[.slice ar1 r1.length cr1, .slice ar2 r2.length cr2] 100) = wp at H1 ⊢
      generalize hpb : wr.heap.size = pb at H1 ⊢
      clear hwp hpb
      have cp := cells_at H1.out.2.1
      have lp := lt_of_at H1.out.2.1
      have cq := cells_at H1.out.2.2.2.2.1
      have lq := lt_of_at H1.out.2.2.2.2.1
      go_wp2_with fail
      refine (match_spec wp _ _ r1 L (rowP H1.out.2.2.1.1) H1.out.2.2.2.1 Hf.out.2.2.2.2.1).mono ?_
      rintro e w2 ⟨rfl, hk2⟩
      have H2 := Lib.hid (And.intro (go1 hk2 H1.out.1) (go1 hk2 H1.out.2))
      clear hk2 H1 cp lp cq lq
      cases hfit : L.all (fitsM r1) with
      | false =>
        have Hfit := Lib.hid (show fitR L (r1, r2) = false from hfit)
        clear hfit
        go_wp2_with fail
        go_roundg (D.length - (k + 1))
        case measure => have := Hg.out; omega
        case rel =>
          refine ⟨k + 1, hlt, rfl, by go_num, ?_, H2.out.1.2.2⟩
          rw [Htk.out, List.filter_append, show [(r1, r2)].filter (fitR L) = [] from by simp [Hfit.out], List.append_nil]
          exact ⟨E, H2.out.1.1, H2.out.1.2.1⟩
      | true =>
        have Hfit := Lib.hid (show fitR L (r1, r2) = true from hfit)
        have cp := cells_at H2.out.2.1
        have lp := lt_of_at H2.out.2.1
        clear hfit
        go_wp2_with (at_builtin; refine wpList_append_own _ rfl (.tmp 24) (.tmp 26) 47 rfl wb.heap.size 100 ir _ 2 48 Tryz.underlying47 hir hy0 hy1 hy2 rfl (by decide) (.slice ax E.length cx) E.length (E.flatMap encRV) rfl (H2.out.1.1.alloc _) ⟨w2.heap.size, 0, none⟩ 1 1 [.slice ar1 r1.length cr1, .slice ar2 r2.length cr2] rfl rfl (news_two (heap_new w2 _)) (by simp [Value.oneCell']) (by simp only [maxLen]; omega) (by omega) (by have := H2.out.1.2.2.size; rw [World.size_alloc]; omega) ?_; intro v9 w9 hown9 hgrow9 hnil9; clear hnil9; obtain ⟨ao9, cp9, rfl, -, -, -⟩ := row_slice hown9; skip)
        have hgr := keeps_row hgrow9
        have kN : Keeps [] w2 (w2.alloc (.cells #[.slice ar1 r1.length cr1, .slice ar2 r2.length cr2] 100)) := (Keeps.refl [] w2).alloc _
        have hel := ((ElemsAt.keep H2.out.1.2.1 kN).snoc (r := (r1, r2)) (go1 kN H2.out.2.2.1.1) (go1 kN H2.out.2.2.1.2)).grown (go1 kN H2.out.1.1) hgr (by decide) (by decide)
        have hk9 := keeps_own (H2.out.1.2.2.trans kN) hgrow9 (fun g hg => (World.ownsRow.lt H2.out.1.1 g hg).1)
        have H9 := Lib.hid (And.intro (rv_snoc hown9) (And.intro hel hk9))
        clear hown9 hgrow9 hgr kN hel hk9 H2 cp lp
        go_wp2_with fail
        go_roundg (D.length - (k + 1))
        case measure => have := Hg.out; omega
        case rel =>
          refine ⟨k + 1, hlt, rfl, by go_num, ?_, H9.out.2.2⟩
          rw [Htk.out, List.filter_append, show [(r1, r2)].filter (fitR L) = [(r1, r2)] from by simp [Hfit.out]]
          exact ⟨_, H9.out.1, H9.out.2.1⟩
    · have hge : ¬ (k : Int) < (D.length : Int) := by omega
      have hkn := Lib.hid (show D.take k = D from List.take_of_length_le (by omega))
      have Hr := Lib.hid (And.intro hE1 (And.intro hE2 hkw))
      clear hE1 hE2 hkw
      go_wp2_with fail
      go_ret
      have hs := Hb.out.2.2.2.size
      exact ⟨_, rfl, by rw [← hkn.out]; exact ⟨E, row_base Hr.out.1 hs, Hr.out.2.1⟩, Hb.out.2.2.2.trans Hr.out.2.2⟩

/-- The first matcher that may not be, ahead of k none. -/
def ChkRel (w : World) (L : List MatB) (gk : Nat) (u9 : Value) (wr : World) : Prop :=
  ∃ k, k ≤ L.length ∧ gk = L.length - k ∧ u9 = .int .i64 k ∧ (L.take k).all chkB = true ∧ Keeps [] w wr

set_option linter.unusedSimpArgs false in
set_option maxRecDepth 100000 in
set_option maxHeartbeats 4000000 in
theorem askCheck_spec (w : World) (vm : Value) (L : List MatB) (from_ to : Int) (hm : MatsAt w vm L) (hsz : ∀ m ∈ L, m.2.1.size < 4294967281 ∧ ∀ x ∈ m.2.2, x.size < 4294967281) :
    Calls Tryz.prog 19 #[.agg #[.int .i64 from_, .int .i64 to, vm]] w fun e w' => e = .returned (.int .i64 (errB (L.all chkB))) ∧ Keeps [] w w' := by
  obtain ⟨am, cm, rfl, hlm⟩ := hm.form
  unfold maxLen at hlm
  obtain ⟨R, hR⟩ : ∃ R, R = L.all chkB := ⟨_, rfl⟩
  rw [← hR]
  have HR := Lib.hid hR
  have kP : Keeps [] w (w.alloc (.cells #[.int .i64 from_, .int .i64 to, .slice am L.length cm] 59)) := (Keeps.refl [] w).alloc _
  have Hf := Lib.hid (And.intro (go1 kP hm) (And.intro hsz (And.intro kP (heap_new w (.cells #[.int .i64 from_, .int .i64 to, .slice am L.length cm] 59)))))
  clear hm hR kP hsz
  go_enter Tryz.func19, Tryz.ntmps19
  go_upto_region 1 with fail
  generalize hwp : w.alloc (.cells #[.int .i64 from_, .int .i64 to, .slice am L.length cm] 59) = wb at Hf ⊢
  generalize hpb : w.heap.size = pb at Hf ⊢
  clear hwp hpb
  have cp := cells_at Hf.out.2.2.2
  have lp := lt_of_at Hf.out.2.2.2
  go_wp2_with fail
  clear cp lp
  go_loopg [9] L.length (ChkRel wb L)
  case atStart => exact ⟨0, Nat.zero_le _, rfl, rfl, by simp, Keeps.refl [] wb⟩
  case round =>
    obtain ⟨k, hk, hgk, rfl, hall, hkw⟩ := hrel
    have Hg := Lib.hid hgk
    have Hall := Lib.hid hall
    clear hgk hall
    by_cases hlt : k < L.length
    · obtain ⟨b, off, cap, u, ea, hb, d0, d1, d2, g⟩ := (go1 hkw Hf.out.1).at_ k hlt
      injection ea with ea _ ec
      subst ea ec
      have hlt' : (k : Int) < (L.length : Int) := by omega
      have hs := Hf.out.2.1 L[k] (List.getElem_mem hlt)
      have Htk := Lib.hid (show L.take (k + 1) = L.take k ++ [L[k]] from List.take_succ_eq_append_getElem hlt)
      have Hmem := Lib.hid (List.getElem_mem hlt)
      generalize L[k] = m at d0 d1 d2 g hs Htk Hmem
      obtain ⟨mk, mn, mv⟩ := m
      dsimp only at g hs d0 d1
      have hg := g
      obtain ⟨av, cv, rfl, -, -⟩ := hg
      have kP : Keeps [] wr (wr.alloc (.cells #[.int .i64 mk, .string mn, .slice av mv.length cv] 62)) := (Keeps.refl [] wr).alloc _
      have H1 := Lib.hid (And.intro (go1 kP g) (And.intro (heap_new wr (.cells #[.int .i64 mk, .string mn, .slice av mv.length cv] 62)) (hkw.trans kP)))
      clear kP hkw g
      go_upto_region 4 with fail
      clear d0 d1 d2 hb
      generalize hwp : wr.alloc (.cells #[.int .i64 mk, .string mn, .slice av mv.length cv] 62) = wp at H1 ⊢
      generalize hpb : wr.heap.size = pb at H1 ⊢
      clear hwp hpb
      have cp := cells_at H1.out.2.1
      have lp := lt_of_at H1.out.2.1
      go_wp2_with fail
      refine (mcheck_spec wp mk mn _ mv H1.out.1 hs.1 hs.2).mono ?_
      rintro e w2 ⟨rfl, hk2⟩
      have H2 := Lib.hid (H1.out.2.2.trans hk2)
      clear hk2 H1 cp lp
      cases hc : chkB (mk, mn, mv) with
      | false =>
        have Hc := Lib.hid hc
        clear hc
        unfold errB
        go_wp2_with fail
        go_ret
        refine ⟨?_, Hf.out.2.2.1.trans H2.out⟩
        have : R = false := by
          rw [HR.out]
          exact Bool.eq_false_iff.2 (fun ha => by have := List.all_eq_true.1 ha _ Hmem.out; rw [Hc.out] at this; exact absurd this (by decide))
        rw [this]
        rfl
      | true =>
        have Hc := Lib.hid hc
        clear hc
        unfold errB
        go_wp2_with fail
        go_roundg (L.length - (k + 1))
        case measure => have := Hg.out; omega
        case rel =>
          refine ⟨k + 1, hlt, rfl, by go_num, ?_, H2.out⟩
          rw [Htk.out, List.all_append, Hall.out]
          simp [Hc.out]
    · have hge : ¬ (k : Int) < (L.length : Int) := by omega
      have HA := Lib.hid (And.intro (show L.all chkB = true from by rw [← Hall.out, List.take_of_length_le (by omega)]) hkw)
      clear hkw
      go_wp2_with fail
      go_ret
      exact ⟨by rw [HR.out, HA.out.1]; rfl, Hf.out.2.2.1.trans HA.out.2⟩
end Go.Proofs.YtlifonflgcfafaaGreatDoor
