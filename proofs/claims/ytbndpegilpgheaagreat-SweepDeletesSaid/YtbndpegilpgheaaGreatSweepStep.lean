/-
  A sweeper's step (package sweep): Step, where it does nothing, where it scans.
  As in the scan's file; names are short, ticks and bytes small.
-/
import Derived.Test.YtbndpegilpgheaaGreatSweepVict
import Derived.Test.YtbndpegilpgheaaGreatSweepMarks
import Derived.Test.YtbndpegilpgheaaGreatSweep
import Derived.Test.YtbndpegilpgheaaGreatRegion
namespace Go.Proofs.YtbndpegilpgheaaGreat
open Go Go.RowKit

def StepZ (w : World) (b f c mb B p q gb : Nat) (armed : Bool) (Q : List (Int × Bool)) (o : List (ByteArray × Ob)) (Z : SweepS) (err : Int) (e : Ending) (w' : World) : Prop :=
  e = .returned (.int .i64 err) ∧ SweepAt w' B p q gb Z ∧ BucketAt w' b f c mb armed Q o ∧ Keeps [f, c, mb, p, q, gb] w w'


set_option maxRecDepth 100000 in
set_option maxHeartbeats 1000000 in
theorem sweepStep_idle (w : World) (b f c mb B p q gb : Nat) (armed : Bool) (Q : List (Int × Bool)) (o : List (ByteArray × Ob)) (Z : SweepS) (now : Int) (hb : BucketAt w b f c mb armed Q o) (hz : SweepAt w B p q gb Z) (hd : (Z.ready && Z.left.isEmpty) = true) :
    Calls Tryz.prog 24 #[.pointer (some ⟨p, 0, none⟩), .pointer (some ⟨b, 0, none⟩), .int .i64 now] w (StepZ w b f c mb B p q gb armed Q o Z 17) := by
  have Hd := Lib.hid (And.intro hd (And.intro hb hz))
  clear hb hd
  go_enter Tryz.func24, Tryz.ntmps24
  go_wp2_with fail
  refine (sweepDone_spec w B p q gb Z hz).mono ?_
  rintro e w1 ⟨rfl, rfl⟩
  rw [Hd.out.1]
  go_wp2_with fail
  go_ret
  exact ⟨rfl, Hd.out.2.2, Hd.out.2.1, Keeps.refl _ _⟩


/-- What the tail of a step that scans finds. -/
structure Found (S : ScanS) : Prop where
  info : ∀ x ∈ S.infos, x.1.size ≤ 40 ∧ 0 ≤ x.2.2 ∧ x.2.2 ≤ 1099511627776
  infoLen : S.infos.length ≤ 1000
  infoNd : (S.infos.map (·.1)).Nodup
  got : ∀ x ∈ S.got, x.1.size ≤ 40 ∧ x.2.size ≤ 1000000
  gotLen : S.got.length ≤ 1000
  marks : ∀ id t, markOf S.got id = some t → 0 ≤ t ∧ t ≤ 1099511627776
  tick : S.begun = true → 0 ≤ S.tick ∧ S.tick ≤ 1099511627776


theorem readyZ_no {Z : SweepS} {S : ScanS} (h : (S.begun && S.wait.isEmpty) = false) (hr : Z.ready = false) : readyZ Z S = ⟨Z.cfg, S, Z.left, Z.ready, Z.gone⟩ := by
  unfold readyZ
  rw [if_neg, hr]
  rintro ⟨h1, h2⟩
  rw [h1, h2] at h
  cases h

theorem readyZ_yes {Z : SweepS} {S : ScanS} (h : (S.begun && S.wait.isEmpty) = true) : readyZ Z S = ⟨Z.cfg, S, victimsL Z.cfg.1 Z.cfg.2.1 S.tick S.infos (markOf S.got), true, Z.gone⟩ := by
  unfold readyZ
  rw [if_pos]
  simp only [Bool.and_eq_true, List.isEmpty_iff] at h
  exact h


set_option linter.unusedSimpArgs false in
set_option maxRecDepth 100000 in
set_option maxHeartbeats 1000000 in
theorem sweepStep_scan (w : World) (b f c mb B p q gb : Nat) (o : List (ByteArray × Ob)) (Z : SweepS) (now : Int) (hz : SweepAt w B p q gb Z) (hr : Z.ready = false) (hlow : b < B ∧ f < B ∧ c < B ∧ mb < B) (hv : LibVar w) (_hvB : 0 < B) (hvn : 0 ≠ f ∧ 0 ≠ c)
    (S' : ScanS) (err : Int) (armed' : Bool) (Q' : List (Int × Bool)) (hst : Calls Tryz.prog 65 #[.pointer (some ⟨q, 0, none⟩), .pointer (some ⟨b, 0, none⟩), .int .i64 now] w (StepPost (p + 1) w b f c mb B q gb armed' Q' o S' err))
    (hf : Z.scan.begun = true → 0 ≤ Z.scan.tick ∧ Z.scan.tick ≤ 1099511627776 ∧ now - Z.scan.tick ≤ Z.cfg.2.2) (hnow : 0 ≤ now ∧ now ≤ 1099511627776) (hF : Found S') :
    Calls Tryz.prog 24 #[.pointer (some ⟨p, 0, none⟩), .pointer (some ⟨b, 0, none⟩), .int .i64 now] w (StepZ w b f c mb B p q gb armed' Q' o (readyZ Z S') err) := by
  have Hd := Lib.hid (sweepDone_spec w B p q gb Z hz)
  rw [hr] at Hd
  obtain ⟨hB, hpq, hpg, B2, vl, hb1', hb2, hb3, h6, h7, h8⟩ := hz
  have hq8 := h8.1
  have hg8 := h8.2.1
  have Ha := Lib.hid (scanAt_spec w B q gb Z.scan h8)
  have Hst := Lib.hid hst
  have H0 := Lib.hid (And.intro h6 (And.intro h7 (And.intro hv hF)))
  have c5 := cells_at h6
  have l5 := lt_of_at h6
  rw [hr] at c5
  clear h6 h7 h8 hst hv hF
  obtain ⟨atv, hatv, hcase⟩ : ∃ a : Int, a = (if Z.scan.begun then Z.scan.tick else -1) ∧ (a = -1 ∨ (0 ≤ a ∧ a ≤ 1099511627776 ∧ now - a ≤ Z.cfg.2.2)) := by
    cases hbg : Z.scan.begun with
    | true => exact ⟨_, rfl, .inr (hf hbg)⟩
    | false => exact ⟨_, rfl, .inl rfl⟩
  rw [← hatv] at Ha
  clear hatv hf
  have hsub : IntKind.i64.wrap (now - atv) = now - atv := IntWalk.i64_in _ (by omega)
  go_enter Tryz.func24, Tryz.ntmps24
  go_wp2_with fail
  refine Hd.out.mono ?_
  rintro e w1 ⟨rfl, rfl⟩
  rw [Bool.false_and]
  go_wp2_with fail
  refine Ha.out.mono ?_
  rintro e w1 ⟨rfl, rfl⟩
  have hcase2 : (decide (atv ≥ 0) = false) ∨ (decide (atv ≥ 0) = true ∧ decide (now - atv > Z.cfg.2.2) = false) := by
    rcases hcase with h | ⟨h1, h2, h3⟩
    · left; rw [decide_eq_false_iff_not]; omega
    · right; rw [decide_eq_true_iff, decide_eq_false_iff_not]; omega
  rcases hcase2 with hge | ⟨hge, hle⟩
  · go_upto_region 8 with fail
    go_wp2_with fail
    refine Hst.out.mono ?_
    rintro e w1 ⟨rfl, hS1, hb1, hk1⟩
    have hpn : p ∉ [f, c, q, gb] := by simp; omega
    have h6 := hk1.at_ H0.out.1 hpn
    have h7 := H0.out.2.1.keep hk1 (by simp; omega)
    have hv1 := H0.out.2.2.1.keep hk1 (by simp; omega)
    have Hdn := Lib.hid (scanDone_spec w1 B q gb S' hS1)
    rw [hr] at h6
    replace c5 := cells_at h6
    replace l5 := lt_of_at h6
    have H1 := Lib.hid (And.intro h6 (And.intro h7 (And.intro hv1 (And.intro hS1 (And.intro hb1 hk1)))))
    cases hdn : (S'.begun && S'.wait.isEmpty) with
    | false =>
      have Hz := Lib.hid (readyZ_no hdn hr)
      rw [hdn] at Hdn
      clear h6 h7 hv1 hS1 hb1 hk1 hdn
      go_wp2_with fail
      refine Hdn.out.mono ?_
      rintro e w2 ⟨rfl, rfl⟩
      go_wp2_with fail
      go_ret
      refine ⟨rfl, ?_, H1.out.2.2.2.2.1, H1.out.2.2.2.2.2.mono (by simp)⟩
      rw [Hz.out, hr]
      exact ⟨hB, hpq, hpg, B2, vl, hb1', hb2, hb3, H1.out.1, H1.out.2.1, H1.out.2.2.2.1⟩
    | true =>
      have Hz := Lib.hid (readyZ_yes (Z := Z) hdn)
      have hbg : S'.begun = true := by simp only [Bool.and_eq_true] at hdn; exact hdn.1
      rw [hdn] at Hdn
      have f5 := free_at h6
      have t2 : (w1.setCell ⟨p, 5, none⟩ (.bool true)).heap[p]? = some (.cells #[.int .i64 Z.cfg.1, .int .i64 Z.cfg.2.1, .int .i64 Z.cfg.2.2, .pointer (some ⟨q, 0, none⟩), vl, .bool true, .int .i64 Z.gone] 153 (0, 0)) := (heap_cell_same (i := 5) h6 (.bool true)).trans (by simp)
      have k2 : Keeps [p] w1 (w1.setCell ⟨p, 5, none⟩ (.bool true)) := (Keeps.refl [p] w1).setCell (.inl (by simp)) _
      have hs2 := hS1.keepX k2 (by simp; omega)
      have h72 := h7.keep k2 (by simp; omega)
      have hv2 := hv1.keep k2 (by simp; omega)
      have hb2' := hb1.keep k2 (by simp; omega) (by simp; omega) (by simp; omega) (by simp; omega)
      have H2 := Lib.hid (And.intro t2 (And.intro (hk1.mono (by simp) |>.trans (k2.mono (by simp)) : Keeps [f, c, mb, p, q, gb] w _) (And.intro hs2 (And.intro h72 (And.intro hv2 hb2')))))
      clear h6 h7 hv1 hS1 hb1 hk1 hdn t2 k2 hs2 h72 hv2 hb2'
      go_wp2_with fail
      refine Hdn.out.mono ?_
      rintro e w2 ⟨rfl, rfl⟩
      go_upto_region 11 with fail
      clear c5 l5 f5 Hdn H1
      generalize w1.setCell ⟨p, 5, none⟩ (.bool true) = W2 at H2 ⊢
      have hsz : SweepAt W2 B p q gb ⟨Z.cfg, S', Z.left, true, Z.gone⟩ := ⟨hB, hpq, hpg, B2, vl, hb1', hb2, hb3, H2.out.1, H2.out.2.2.2.1, H2.out.2.2.1⟩
      have c2 := cells_at H2.out.1
      have l2 := lt_of_at H2.out.1
      have d0 : W2.cell? ⟨p, 0, none⟩ = some (.int .i64 Z.cfg.1) := by rw [c2]; rfl
      have d1 : W2.cell? ⟨p, 1, none⟩ = some (.int .i64 Z.cfg.2.1) := by rw [c2]; rfl
      have d2 : W2.cell? ⟨p, 2, none⟩ = some (.int .i64 Z.cfg.2.2) := by rw [c2]; rfl
      have d3 : W2.cell? ⟨p, 3, none⟩ = some (.pointer (some ⟨q, 0, none⟩)) := by rw [c2]; rfl
      have kd : Keeps [] W2 W2.drew := (Keeps.refl [] W2).drew
      have Hat := Lib.hid (scanAt_spec W2.drew B q gb S' (H2.out.2.2.1.same kd))
      have Hin := Lib.hid (scanInfos_spec W2.drew B q gb S' (H2.out.2.2.1.same kd) (by have := H0.out.2.2.2.infoLen; omega))
      have Hsz := Lib.hid hsz
      rw [hbg] at Hat
      simp only [if_true] at Hat
      clear hsz c2
      refine wp_region_held_drew (S := fun w' => w'.cell? ⟨p, 0, none⟩ = some (.int .i64 Z.cfg.1) ∧ w'.cell? ⟨p, 1, none⟩ = some (.int .i64 Z.cfg.2.1) ∧ w'.cell? ⟨p, 2, none⟩ = some (.int .i64 Z.cfg.2.2) ∧ w'.cell? ⟨p, 3, none⟩ = some (.pointer (some ⟨q, 0, none⟩))) (by kernel_rfl) ⟨d0, d1, d2, d3⟩ (fun hS => ?_)
      refine wpAnyH_take (i := 0) (v := ?_) rfl (by kernel_rfl) (by kernel_rfl) (by kernel_rfl) (fun _ _ _ h => h) (Or.inl ⟨by rfl, ?_⟩) (by assumption) ?_
      rotate_left
      · intro w' hSw; obtain ⟨s1, s2, s3, s4⟩ := hSw; go_simp; (try with_reducible rfl)
      simp only [Act.put, List.getElem_toArray, List.getElem_cons_succ, List.getElem_cons_zero, List.setIfInBounds_toArray, List.set_cons_zero, List.set_cons_succ]
      refine wpAnyH_take (i := 1) (v := ?_) rfl (by kernel_rfl) (by kernel_rfl) (by kernel_rfl) (fun _ _ _ h => h) (Or.inl ⟨by rfl, ?_⟩) (by assumption) ?_
      rotate_left
      · intro w' hSw; obtain ⟨s1, s2, s3, s4⟩ := hSw; go_simp; (try with_reducible rfl)
      simp only [Act.put, List.getElem_toArray, List.getElem_cons_succ, List.getElem_cons_zero, List.setIfInBounds_toArray, List.set_cons_zero, List.set_cons_succ]
      refine wpAnyH_take (i := 2) (v := ?_) rfl (by kernel_rfl) (by kernel_rfl) (by kernel_rfl) (fun _ _ _ h => h) (Or.inl ⟨by rfl, ?_⟩) (by assumption) ?_
      rotate_left
      · intro w' hSw; obtain ⟨s1, s2, s3, s4⟩ := hSw; go_simp; (try with_reducible rfl)
      simp only [Act.put, List.getElem_toArray, List.getElem_cons_succ, List.getElem_cons_zero, List.setIfInBounds_toArray, List.set_cons_zero, List.set_cons_succ]
      refine wpAnyH_take (i := 3) (v := ?_) rfl (by kernel_rfl) (by kernel_rfl) (by kernel_rfl) (fun _ _ _ h => h) (Or.inl ⟨by rfl, ?_⟩) (by assumption) ?_
      rotate_left
      · intro w' hSw; obtain ⟨s1, s2, s3, s4⟩ := hSw; go_simp; (try with_reducible rfl)
      simp only [Act.put, List.getElem_toArray, List.getElem_cons_succ, List.getElem_cons_zero, List.setIfInBounds_toArray, List.set_cons_zero, List.set_cons_succ]
      refine wpAnyH_take (i := 4) (v := ?_) rfl (by kernel_rfl) (by kernel_rfl) (by kernel_rfl) (fun _ _ _ h => h) (Or.inl ⟨by rfl, ?_⟩) (by assumption) ?_
      rotate_left
      · intro w' hSw; obtain ⟨s1, s2, s3, s4⟩ := hSw; go_simp; (try with_reducible rfl)
      simp only [Act.put, List.getElem_toArray, List.getElem_cons_succ, List.getElem_cons_zero, List.setIfInBounds_toArray, List.set_cons_zero, List.set_cons_succ]
      refine wpAnyH_take (i := 5) (v := ?_) rfl (by kernel_rfl) (by kernel_rfl) (by kernel_rfl) (fun _ _ _ h => h) (Or.inl ⟨by rfl, ?_⟩) (by assumption) ?_
      rotate_left
      · intro w' hSw; obtain ⟨s1, s2, s3, s4⟩ := hSw; go_simp; (try with_reducible rfl)
      simp only [Act.put, List.getElem_toArray, List.getElem_cons_succ, List.getElem_cons_zero, List.setIfInBounds_toArray, List.set_cons_zero, List.set_cons_succ]
      refine wpAnyH_take (i := 6) (v := ?_) rfl (by kernel_rfl) (by kernel_rfl) (by kernel_rfl) (fun _ _ _ h => h) (Or.inl ⟨by rfl, ?_⟩) (by assumption) ?_
      rotate_left
      · intro w' hSw; obtain ⟨s1, s2, s3, s4⟩ := hSw; go_simp; (try with_reducible rfl)
      simp only [Act.put, List.getElem_toArray, List.getElem_cons_succ, List.getElem_cons_zero, List.setIfInBounds_toArray, List.set_cons_zero, List.set_cons_succ]
      refine wpAnyH_take (i := 7) (v := ?_) rfl (by kernel_rfl) (by kernel_rfl) (by kernel_rfl) (fun _ _ _ h => h) (Or.inl ⟨by rfl, ?_⟩) (by assumption) ?_
      rotate_left
      · intro w' hSw; obtain ⟨s1, s2, s3, s4⟩ := hSw; go_simp; (try with_reducible rfl)
      simp only [Act.put, List.getElem_toArray, List.getElem_cons_succ, List.getElem_cons_zero, List.setIfInBounds_toArray, List.set_cons_zero, List.set_cons_succ]
      refine wpAnyH_take (i := 8) (v := ?_) rfl (by kernel_rfl) (by kernel_rfl) (by kernel_rfl) (fun _ _ _ h => h) (Or.inl ⟨by rfl, ?_⟩) (by assumption) ?_
      rotate_left
      · intro w' hSw; obtain ⟨s1, s2, s3, s4⟩ := hSw; go_simp; (try with_reducible rfl)
      simp only [Act.put, List.getElem_toArray, List.getElem_cons_succ, List.getElem_cons_zero, List.setIfInBounds_toArray, List.set_cons_zero, List.set_cons_succ]
      refine wpAnyH_take (i := 10) (v := ?_) rfl (by kernel_rfl) (by kernel_rfl) (by kernel_rfl) (fun _ _ _ h => h) (Or.inl ⟨by rfl, ?_⟩) (by assumption) ?_
      rotate_left
      · intro w' hSw; obtain ⟨s1, s2, s3, s4⟩ := hSw; go_simp; (try with_reducible rfl)
      simp only [Act.put, List.getElem_toArray, List.getElem_cons_succ, List.getElem_cons_zero, List.setIfInBounds_toArray, List.set_cons_zero, List.set_cons_succ]
      refine wpAnyH_take (i := 11) (v := ?_) rfl (by kernel_rfl) (by kernel_rfl) (by kernel_rfl) (fun _ _ _ h => h) (Or.inl ⟨by rfl, ?_⟩) (by assumption) ?_
      rotate_left
      · intro w' hSw; obtain ⟨s1, s2, s3, s4⟩ := hSw; go_simp; (try with_reducible rfl)
      simp only [Act.put, List.getElem_toArray, List.getElem_cons_succ, List.getElem_cons_zero, List.setIfInBounds_toArray, List.set_cons_zero, List.set_cons_succ]
      refine wpAnyH_take (i := 12) (v := ?_) rfl (by kernel_rfl) (by kernel_rfl) (by kernel_rfl) (fun _ _ _ h => h) (Or.inl ⟨by rfl, ?_⟩) (by assumption) ?_
      rotate_left
      · intro w' hSw; obtain ⟨s1, s2, s3, s4⟩ := hSw; go_simp; (try with_reducible rfl)
      simp only [Act.put, List.getElem_toArray, List.getElem_cons_succ, List.getElem_cons_zero, List.setIfInBounds_toArray, List.set_cons_zero, List.set_cons_succ]
      refine wpAnyH_take (i := 13) (v := ?_) rfl (by kernel_rfl) (by kernel_rfl) (by kernel_rfl) (fun _ _ _ h => h) (Or.inl ⟨by rfl, ?_⟩) (by assumption) ?_
      rotate_left
      · intro w' hSw; obtain ⟨s1, s2, s3, s4⟩ := hSw; go_simp; (try with_reducible rfl)
      simp only [Act.put, List.getElem_toArray, List.getElem_cons_succ, List.getElem_cons_zero, List.setIfInBounds_toArray, List.set_cons_zero, List.set_cons_succ]
      refine wpAnyH_take (i := 15) (v := ?_) rfl (by kernel_rfl) (by kernel_rfl) (by kernel_rfl) (fun _ _ _ h => h) (Or.inl ⟨by rfl, ?_⟩) (by assumption) ?_
      rotate_left
      · intro w' hSw; obtain ⟨s1, s2, s3, s4⟩ := hSw; go_simp; (try with_reducible rfl)
      simp only [Act.put, List.getElem_toArray, List.getElem_cons_succ, List.getElem_cons_zero, List.setIfInBounds_toArray, List.set_cons_zero, List.set_cons_succ]
      refine wpAnyH_ready (rs := [9]) (by kernel_rfl) (by simp) ?_
      refine AllReadyH.cons rfl (fun K hK => ?_) AllReadyH.nil
      go_simp
      go_at_call 64
      refine Hat.out.mono ?_
      rintro e w3 ⟨rfl, rfl⟩
      go_simp
      refine hK.out _ _ hS (fun hS => ?_)
      clear hK K
      try simp only [Act.put, List.getElem_toArray, List.getElem_cons_succ, List.getElem_cons_zero, List.setIfInBounds_toArray, List.set_cons_zero, List.set_cons_succ]
      refine wpAnyH_ready (rs := [14]) (by kernel_rfl) (by simp) ?_
      refine AllReadyH.cons rfl (fun K hK => ?_) AllReadyH.nil
      go_simp
      go_at_call 67
      refine Hin.out.mono ?_
      rintro e w3 ⟨vI, rfl, hI3, hk3⟩
      have e0 := (hk3.cell l2 (by simp)).trans d0
      have e1 := (hk3.cell l2 (by simp)).trans d1
      have e2 := (hk3.cell l2 (by simp)).trans d2
      have e3 := (hk3.cell l2 (by simp)).trans d3
      go_simp
      refine hK.out _ _ ⟨e0, e1, e2, e3⟩ (fun hS => ?_)
      clear hK K
      try simp only [Act.put, List.getElem_toArray, List.getElem_cons_succ, List.getElem_cons_zero, List.setIfInBounds_toArray, List.set_cons_zero, List.set_cons_succ]
      have k23 : Keeps [] W2 w3 := kd.trans hk3
      have Hmk := Lib.hid (marks_spec w3 B p q gb _ (Hsz.out.keep k23 (by simp)) (H2.out.2.2.2.2.1.same k23) H0.out.2.2.2.got H0.out.2.2.2.gotLen)
      have l3 := k23.lt l2
      have H3 := Lib.hid (And.intro hI3 k23)
      clear hI3 hk3 k23 d0 d1 d2 d3
      refine wpAnyH_ready (rs := [16]) (by kernel_rfl) (by simp) ?_
      refine AllReadyH.cons rfl (fun K hK => ?_) AllReadyH.nil
      go_simp
      go_at_call 68
      refine Hmk.out.mono ?_
      rintro e w4 ⟨mm, M, rfl, hmm, hM4, hsay, hk4⟩
      have g0 := (hk4.cell l3 (by simp)).trans e0
      have g1 := (hk4.cell l3 (by simp)).trans e1
      have g2 := (hk4.cell l3 (by simp)).trans e2
      have g3 := (hk4.cell l3 (by simp)).trans e3
      go_simp
      refine hK.out _ _ ⟨g0, g1, g2, g3⟩ (fun hS => ?_)
      clear hK K
      try simp only [Act.put, List.getElem_toArray, List.getElem_cons_succ, List.getElem_cons_zero, List.setIfInBounds_toArray, List.set_cons_zero, List.set_cons_succ]
      have k24 : Keeps [] W2 w4 := H3.out.2.trans hk4
      have hse : look M = markOf S'.got := funext hsay
      have htk := H0.out.2.2.2.tick hbg
      have hvc := victims_spec w4 Z.cfg.1 Z.cfg.2.1 Z.cfg.2.2 S'.tick vI S'.infos mm M ((H3.out.1.keep hk4 (by simp)).arg) hM4 (H2.out.2.2.2.2.1.same k24) H0.out.2.2.2.info H0.out.2.2.2.infoLen (fun id t h => H0.out.2.2.2.marks id t (by rw [← hsay]; exact h)) (by omega) H0.out.2.2.2.infoNd
      rw [hse] at hvc
      have Hvc := Lib.hid hvc
      have l4 := k24.lt l2
      have H4 := Lib.hid k24
      clear hvc hse hsay hM4 hk4 k24 e0 e1 e2 e3 htk
      refine wpAnyH_ready (rs := [17]) (by kernel_rfl) (by simp) ?_
      refine AllReadyH.cons rfl (fun K hK => ?_) AllReadyH.nil
      go_simp
      go_at_call 17
      refine Hvc.out.mono ?_
      rintro e w5 ⟨v5, rfl, hs5, hk5⟩
      have e0 := (hk5.cell l4 (by simp)).trans g0
      have e1 := (hk5.cell l4 (by simp)).trans g1
      have e2 := (hk5.cell l4 (by simp)).trans g2
      have e3 := (hk5.cell l4 (by simp)).trans g3
      go_simp
      refine hK.out _ _ ⟨e0, e1, e2, e3⟩ (fun hS => ?_)
      clear hK K
      try simp only [Act.put, List.getElem_toArray, List.getElem_cons_succ, List.getElem_cons_zero, List.setIfInBounds_toArray, List.set_cons_zero, List.set_cons_succ]
      have k25 : Keeps [] W2 w5 := H4.out.trans hk5
      have n5 := k25.at_ H2.out.1 (by simp)
      have f5 := free_at n5
      have c5 := cells_at n5
      have l5 := lt_of_at n5
      have hs5' := hs5
      obtain ⟨a5, q5, rfl, -⟩ := hs5
      have t6 : (w5.setCell ⟨p, 4, none⟩ (.slice a5 (victimsL Z.cfg.1 Z.cfg.2.1 S'.tick S'.infos (markOf S'.got)).length q5)).heap[p]? = some (.cells #[.int .i64 Z.cfg.1, .int .i64 Z.cfg.2.1, .int .i64 Z.cfg.2.2, .pointer (some ⟨q, 0, none⟩), .slice a5 (victimsL Z.cfg.1 Z.cfg.2.1 S'.tick S'.infos (markOf S'.got)).length q5, .bool true, .int .i64 Z.gone] 153 (0, 0)) := (heap_cell_same (i := 4) n5 _).trans (by simp)
      have k6 : Keeps [p] w5 (w5.setCell ⟨p, 4, none⟩ (.slice a5 (victimsL Z.cfg.1 Z.cfg.2.1 S'.tick S'.infos (markOf S'.got)).length q5)) := (Keeps.refl [p] w5).setCell (.inl (by simp)) _
      have hlo : w.heap.size ≤ w4.heap.size := by have := H2.out.2.1.size; have := H4.out.size; omega
      have hlp : p < w4.heap.size ∧ q < w4.heap.size ∧ gb < w4.heap.size := by have := (H2.out.2.2.1.lt); have := H4.out.size; omega
      have H5 := Lib.hid (And.intro t6 (And.intro k6 (And.intro hs5' k25)))
      clear hs5' t6 k6 k25 hk5 n5 g0 g1 g2 g3
      refine wpAnyH_take (i := 18) (v := ?_) rfl (by kernel_rfl) (by kernel_rfl) (by kernel_rfl) (fun _ _ _ h => h) (Or.inl ⟨by rfl, ?_⟩) (by assumption) ?_
      rotate_left
      · intro w' hSw; obtain ⟨s1, s2, s3, s4⟩ := hSw; go_simp; (try with_reducible rfl)
      simp only [Act.put, List.getElem_toArray, List.getElem_cons_succ, List.getElem_cons_zero, List.setIfInBounds_toArray, List.set_cons_zero, List.set_cons_succ]
      refine wpAnyH_take (i := 19) (v := ?_) rfl (by kernel_rfl) (by kernel_rfl) (by kernel_rfl) (fun _ _ _ h => h) (Or.inl ⟨by rfl, ?_⟩) (by assumption) ?_
      rotate_left
      · intro w' hSw; obtain ⟨s1, s2, s3, s4⟩ := hSw; go_simp; (try with_reducible rfl)
      simp only [Act.put, List.getElem_toArray, List.getElem_cons_succ, List.getElem_cons_zero, List.setIfInBounds_toArray, List.set_cons_zero, List.set_cons_succ]
      refine wpAnyH_ready (rs := [20]) (by kernel_rfl) (by simp) ?_
      refine AllReadyH.cons rfl (fun K hK => ?_) AllReadyH.nil
      go_simp
      generalize (victimsL Z.cfg.1 Z.cfg.2.1 S'.tick S'.infos (markOf S'.got)) = V at *
      generalize w5.setCell ⟨p, 4, none⟩ (.slice a5 V.length q5) = W6 at H5 ⊢
      have c6 := cells_at H5.out.1
      refine hK.out _ _ ⟨by rw [c6]; rfl, by rw [c6]; rfl, by rw [c6]; rfl, by rw [c6]; rfl⟩ (fun hS => ?_)
      clear hK K c6
      refine wpAnyH_done (by kernel_rfl) ?_ _
      clear hS
      go_wp2_with fail
      go_ret
      refine ⟨rfl, ?_, ?_, (H2.out.2.1.trans (H5.out.2.2.2.mono (by simp))).trans (H5.out.2.1.mono (by simp))⟩
      · rw [Hz.out]
        refine ⟨hB, hpq, hpg, w4.heap.size, _, hlp.1, hlp.2.1, hlp.2.2, H5.out.1, H5.out.2.2.1.keep H5.out.2.1 (by simp; omega), ?_⟩
        exact (H2.out.2.2.1.same H5.out.2.2.2).keepX H5.out.2.1 (by simp; omega)
      · exact (H2.out.2.2.2.2.2.keep H5.out.2.2.2 (by simp) (by simp) (by simp) (by simp)).keep H5.out.2.1 (by simp; omega) (by simp; omega) (by simp; omega) (by simp; omega)
  · go_upto_region 8 with fail
    go_wp2_with fail
    refine Hst.out.mono ?_
    rintro e w1 ⟨rfl, hS1, hb1, hk1⟩
    have hpn : p ∉ [f, c, q, gb] := by simp; omega
    have h6 := hk1.at_ H0.out.1 hpn
    have h7 := H0.out.2.1.keep hk1 (by simp; omega)
    have hv1 := H0.out.2.2.1.keep hk1 (by simp; omega)
    have Hdn := Lib.hid (scanDone_spec w1 B q gb S' hS1)
    rw [hr] at h6
    replace c5 := cells_at h6
    replace l5 := lt_of_at h6
    have H1 := Lib.hid (And.intro h6 (And.intro h7 (And.intro hv1 (And.intro hS1 (And.intro hb1 hk1)))))
    cases hdn : (S'.begun && S'.wait.isEmpty) with
    | false =>
      have Hz := Lib.hid (readyZ_no hdn hr)
      rw [hdn] at Hdn
      clear h6 h7 hv1 hS1 hb1 hk1 hdn
      go_wp2_with fail
      refine Hdn.out.mono ?_
      rintro e w2 ⟨rfl, rfl⟩
      go_wp2_with fail
      go_ret
      refine ⟨rfl, ?_, H1.out.2.2.2.2.1, H1.out.2.2.2.2.2.mono (by simp)⟩
      rw [Hz.out, hr]
      exact ⟨hB, hpq, hpg, B2, vl, hb1', hb2, hb3, H1.out.1, H1.out.2.1, H1.out.2.2.2.1⟩
    | true =>
      have Hz := Lib.hid (readyZ_yes (Z := Z) hdn)
      have hbg : S'.begun = true := by simp only [Bool.and_eq_true] at hdn; exact hdn.1
      rw [hdn] at Hdn
      have f5 := free_at h6
      have t2 : (w1.setCell ⟨p, 5, none⟩ (.bool true)).heap[p]? = some (.cells #[.int .i64 Z.cfg.1, .int .i64 Z.cfg.2.1, .int .i64 Z.cfg.2.2, .pointer (some ⟨q, 0, none⟩), vl, .bool true, .int .i64 Z.gone] 153 (0, 0)) := (heap_cell_same (i := 5) h6 (.bool true)).trans (by simp)
      have k2 : Keeps [p] w1 (w1.setCell ⟨p, 5, none⟩ (.bool true)) := (Keeps.refl [p] w1).setCell (.inl (by simp)) _
      have hs2 := hS1.keepX k2 (by simp; omega)
      have h72 := h7.keep k2 (by simp; omega)
      have hv2 := hv1.keep k2 (by simp; omega)
      have hb2' := hb1.keep k2 (by simp; omega) (by simp; omega) (by simp; omega) (by simp; omega)
      have H2 := Lib.hid (And.intro t2 (And.intro (hk1.mono (by simp) |>.trans (k2.mono (by simp)) : Keeps [f, c, mb, p, q, gb] w _) (And.intro hs2 (And.intro h72 (And.intro hv2 hb2')))))
      clear h6 h7 hv1 hS1 hb1 hk1 hdn t2 k2 hs2 h72 hv2 hb2'
      go_wp2_with fail
      refine Hdn.out.mono ?_
      rintro e w2 ⟨rfl, rfl⟩
      go_upto_region 11 with fail
      clear c5 l5 f5 Hdn H1
      generalize w1.setCell ⟨p, 5, none⟩ (.bool true) = W2 at H2 ⊢
      have hsz : SweepAt W2 B p q gb ⟨Z.cfg, S', Z.left, true, Z.gone⟩ := ⟨hB, hpq, hpg, B2, vl, hb1', hb2, hb3, H2.out.1, H2.out.2.2.2.1, H2.out.2.2.1⟩
      have c2 := cells_at H2.out.1
      have l2 := lt_of_at H2.out.1
      have d0 : W2.cell? ⟨p, 0, none⟩ = some (.int .i64 Z.cfg.1) := by rw [c2]; rfl
      have d1 : W2.cell? ⟨p, 1, none⟩ = some (.int .i64 Z.cfg.2.1) := by rw [c2]; rfl
      have d2 : W2.cell? ⟨p, 2, none⟩ = some (.int .i64 Z.cfg.2.2) := by rw [c2]; rfl
      have d3 : W2.cell? ⟨p, 3, none⟩ = some (.pointer (some ⟨q, 0, none⟩)) := by rw [c2]; rfl
      have kd : Keeps [] W2 W2.drew := (Keeps.refl [] W2).drew
      have Hat := Lib.hid (scanAt_spec W2.drew B q gb S' (H2.out.2.2.1.same kd))
      have Hin := Lib.hid (scanInfos_spec W2.drew B q gb S' (H2.out.2.2.1.same kd) (by have := H0.out.2.2.2.infoLen; omega))
      have Hsz := Lib.hid hsz
      rw [hbg] at Hat
      simp only [if_true] at Hat
      clear hsz c2
      refine wp_region_held_drew (S := fun w' => w'.cell? ⟨p, 0, none⟩ = some (.int .i64 Z.cfg.1) ∧ w'.cell? ⟨p, 1, none⟩ = some (.int .i64 Z.cfg.2.1) ∧ w'.cell? ⟨p, 2, none⟩ = some (.int .i64 Z.cfg.2.2) ∧ w'.cell? ⟨p, 3, none⟩ = some (.pointer (some ⟨q, 0, none⟩))) (by kernel_rfl) ⟨d0, d1, d2, d3⟩ (fun hS => ?_)
      refine wpAnyH_take (i := 0) (v := ?_) rfl (by kernel_rfl) (by kernel_rfl) (by kernel_rfl) (fun _ _ _ h => h) (Or.inl ⟨by rfl, ?_⟩) (by assumption) ?_
      rotate_left
      · intro w' hSw; obtain ⟨s1, s2, s3, s4⟩ := hSw; go_simp; (try with_reducible rfl)
      simp only [Act.put, List.getElem_toArray, List.getElem_cons_succ, List.getElem_cons_zero, List.setIfInBounds_toArray, List.set_cons_zero, List.set_cons_succ]
      refine wpAnyH_take (i := 1) (v := ?_) rfl (by kernel_rfl) (by kernel_rfl) (by kernel_rfl) (fun _ _ _ h => h) (Or.inl ⟨by rfl, ?_⟩) (by assumption) ?_
      rotate_left
      · intro w' hSw; obtain ⟨s1, s2, s3, s4⟩ := hSw; go_simp; (try with_reducible rfl)
      simp only [Act.put, List.getElem_toArray, List.getElem_cons_succ, List.getElem_cons_zero, List.setIfInBounds_toArray, List.set_cons_zero, List.set_cons_succ]
      refine wpAnyH_take (i := 2) (v := ?_) rfl (by kernel_rfl) (by kernel_rfl) (by kernel_rfl) (fun _ _ _ h => h) (Or.inl ⟨by rfl, ?_⟩) (by assumption) ?_
      rotate_left
      · intro w' hSw; obtain ⟨s1, s2, s3, s4⟩ := hSw; go_simp; (try with_reducible rfl)
      simp only [Act.put, List.getElem_toArray, List.getElem_cons_succ, List.getElem_cons_zero, List.setIfInBounds_toArray, List.set_cons_zero, List.set_cons_succ]
      refine wpAnyH_take (i := 3) (v := ?_) rfl (by kernel_rfl) (by kernel_rfl) (by kernel_rfl) (fun _ _ _ h => h) (Or.inl ⟨by rfl, ?_⟩) (by assumption) ?_
      rotate_left
      · intro w' hSw; obtain ⟨s1, s2, s3, s4⟩ := hSw; go_simp; (try with_reducible rfl)
      simp only [Act.put, List.getElem_toArray, List.getElem_cons_succ, List.getElem_cons_zero, List.setIfInBounds_toArray, List.set_cons_zero, List.set_cons_succ]
      refine wpAnyH_take (i := 4) (v := ?_) rfl (by kernel_rfl) (by kernel_rfl) (by kernel_rfl) (fun _ _ _ h => h) (Or.inl ⟨by rfl, ?_⟩) (by assumption) ?_
      rotate_left
      · intro w' hSw; obtain ⟨s1, s2, s3, s4⟩ := hSw; go_simp; (try with_reducible rfl)
      simp only [Act.put, List.getElem_toArray, List.getElem_cons_succ, List.getElem_cons_zero, List.setIfInBounds_toArray, List.set_cons_zero, List.set_cons_succ]
      refine wpAnyH_take (i := 5) (v := ?_) rfl (by kernel_rfl) (by kernel_rfl) (by kernel_rfl) (fun _ _ _ h => h) (Or.inl ⟨by rfl, ?_⟩) (by assumption) ?_
      rotate_left
      · intro w' hSw; obtain ⟨s1, s2, s3, s4⟩ := hSw; go_simp; (try with_reducible rfl)
      simp only [Act.put, List.getElem_toArray, List.getElem_cons_succ, List.getElem_cons_zero, List.setIfInBounds_toArray, List.set_cons_zero, List.set_cons_succ]
      refine wpAnyH_take (i := 6) (v := ?_) rfl (by kernel_rfl) (by kernel_rfl) (by kernel_rfl) (fun _ _ _ h => h) (Or.inl ⟨by rfl, ?_⟩) (by assumption) ?_
      rotate_left
      · intro w' hSw; obtain ⟨s1, s2, s3, s4⟩ := hSw; go_simp; (try with_reducible rfl)
      simp only [Act.put, List.getElem_toArray, List.getElem_cons_succ, List.getElem_cons_zero, List.setIfInBounds_toArray, List.set_cons_zero, List.set_cons_succ]
      refine wpAnyH_take (i := 7) (v := ?_) rfl (by kernel_rfl) (by kernel_rfl) (by kernel_rfl) (fun _ _ _ h => h) (Or.inl ⟨by rfl, ?_⟩) (by assumption) ?_
      rotate_left
      · intro w' hSw; obtain ⟨s1, s2, s3, s4⟩ := hSw; go_simp; (try with_reducible rfl)
      simp only [Act.put, List.getElem_toArray, List.getElem_cons_succ, List.getElem_cons_zero, List.setIfInBounds_toArray, List.set_cons_zero, List.set_cons_succ]
      refine wpAnyH_take (i := 8) (v := ?_) rfl (by kernel_rfl) (by kernel_rfl) (by kernel_rfl) (fun _ _ _ h => h) (Or.inl ⟨by rfl, ?_⟩) (by assumption) ?_
      rotate_left
      · intro w' hSw; obtain ⟨s1, s2, s3, s4⟩ := hSw; go_simp; (try with_reducible rfl)
      simp only [Act.put, List.getElem_toArray, List.getElem_cons_succ, List.getElem_cons_zero, List.setIfInBounds_toArray, List.set_cons_zero, List.set_cons_succ]
      refine wpAnyH_take (i := 10) (v := ?_) rfl (by kernel_rfl) (by kernel_rfl) (by kernel_rfl) (fun _ _ _ h => h) (Or.inl ⟨by rfl, ?_⟩) (by assumption) ?_
      rotate_left
      · intro w' hSw; obtain ⟨s1, s2, s3, s4⟩ := hSw; go_simp; (try with_reducible rfl)
      simp only [Act.put, List.getElem_toArray, List.getElem_cons_succ, List.getElem_cons_zero, List.setIfInBounds_toArray, List.set_cons_zero, List.set_cons_succ]
      refine wpAnyH_take (i := 11) (v := ?_) rfl (by kernel_rfl) (by kernel_rfl) (by kernel_rfl) (fun _ _ _ h => h) (Or.inl ⟨by rfl, ?_⟩) (by assumption) ?_
      rotate_left
      · intro w' hSw; obtain ⟨s1, s2, s3, s4⟩ := hSw; go_simp; (try with_reducible rfl)
      simp only [Act.put, List.getElem_toArray, List.getElem_cons_succ, List.getElem_cons_zero, List.setIfInBounds_toArray, List.set_cons_zero, List.set_cons_succ]
      refine wpAnyH_take (i := 12) (v := ?_) rfl (by kernel_rfl) (by kernel_rfl) (by kernel_rfl) (fun _ _ _ h => h) (Or.inl ⟨by rfl, ?_⟩) (by assumption) ?_
      rotate_left
      · intro w' hSw; obtain ⟨s1, s2, s3, s4⟩ := hSw; go_simp; (try with_reducible rfl)
      simp only [Act.put, List.getElem_toArray, List.getElem_cons_succ, List.getElem_cons_zero, List.setIfInBounds_toArray, List.set_cons_zero, List.set_cons_succ]
      refine wpAnyH_take (i := 13) (v := ?_) rfl (by kernel_rfl) (by kernel_rfl) (by kernel_rfl) (fun _ _ _ h => h) (Or.inl ⟨by rfl, ?_⟩) (by assumption) ?_
      rotate_left
      · intro w' hSw; obtain ⟨s1, s2, s3, s4⟩ := hSw; go_simp; (try with_reducible rfl)
      simp only [Act.put, List.getElem_toArray, List.getElem_cons_succ, List.getElem_cons_zero, List.setIfInBounds_toArray, List.set_cons_zero, List.set_cons_succ]
      refine wpAnyH_take (i := 15) (v := ?_) rfl (by kernel_rfl) (by kernel_rfl) (by kernel_rfl) (fun _ _ _ h => h) (Or.inl ⟨by rfl, ?_⟩) (by assumption) ?_
      rotate_left
      · intro w' hSw; obtain ⟨s1, s2, s3, s4⟩ := hSw; go_simp; (try with_reducible rfl)
      simp only [Act.put, List.getElem_toArray, List.getElem_cons_succ, List.getElem_cons_zero, List.setIfInBounds_toArray, List.set_cons_zero, List.set_cons_succ]
      refine wpAnyH_ready (rs := [9]) (by kernel_rfl) (by simp) ?_
      refine AllReadyH.cons rfl (fun K hK => ?_) AllReadyH.nil
      go_simp
      go_at_call 64
      refine Hat.out.mono ?_
      rintro e w3 ⟨rfl, rfl⟩
      go_simp
      refine hK.out _ _ hS (fun hS => ?_)
      clear hK K
      try simp only [Act.put, List.getElem_toArray, List.getElem_cons_succ, List.getElem_cons_zero, List.setIfInBounds_toArray, List.set_cons_zero, List.set_cons_succ]
      refine wpAnyH_ready (rs := [14]) (by kernel_rfl) (by simp) ?_
      refine AllReadyH.cons rfl (fun K hK => ?_) AllReadyH.nil
      go_simp
      go_at_call 67
      refine Hin.out.mono ?_
      rintro e w3 ⟨vI, rfl, hI3, hk3⟩
      have e0 := (hk3.cell l2 (by simp)).trans d0
      have e1 := (hk3.cell l2 (by simp)).trans d1
      have e2 := (hk3.cell l2 (by simp)).trans d2
      have e3 := (hk3.cell l2 (by simp)).trans d3
      go_simp
      refine hK.out _ _ ⟨e0, e1, e2, e3⟩ (fun hS => ?_)
      clear hK K
      try simp only [Act.put, List.getElem_toArray, List.getElem_cons_succ, List.getElem_cons_zero, List.setIfInBounds_toArray, List.set_cons_zero, List.set_cons_succ]
      have k23 : Keeps [] W2 w3 := kd.trans hk3
      have Hmk := Lib.hid (marks_spec w3 B p q gb _ (Hsz.out.keep k23 (by simp)) (H2.out.2.2.2.2.1.same k23) H0.out.2.2.2.got H0.out.2.2.2.gotLen)
      have l3 := k23.lt l2
      have H3 := Lib.hid (And.intro hI3 k23)
      clear hI3 hk3 k23 d0 d1 d2 d3
      refine wpAnyH_ready (rs := [16]) (by kernel_rfl) (by simp) ?_
      refine AllReadyH.cons rfl (fun K hK => ?_) AllReadyH.nil
      go_simp
      go_at_call 68
      refine Hmk.out.mono ?_
      rintro e w4 ⟨mm, M, rfl, hmm, hM4, hsay, hk4⟩
      have g0 := (hk4.cell l3 (by simp)).trans e0
      have g1 := (hk4.cell l3 (by simp)).trans e1
      have g2 := (hk4.cell l3 (by simp)).trans e2
      have g3 := (hk4.cell l3 (by simp)).trans e3
      go_simp
      refine hK.out _ _ ⟨g0, g1, g2, g3⟩ (fun hS => ?_)
      clear hK K
      try simp only [Act.put, List.getElem_toArray, List.getElem_cons_succ, List.getElem_cons_zero, List.setIfInBounds_toArray, List.set_cons_zero, List.set_cons_succ]
      have k24 : Keeps [] W2 w4 := H3.out.2.trans hk4
      have hse : look M = markOf S'.got := funext hsay
      have htk := H0.out.2.2.2.tick hbg
      have hvc := victims_spec w4 Z.cfg.1 Z.cfg.2.1 Z.cfg.2.2 S'.tick vI S'.infos mm M ((H3.out.1.keep hk4 (by simp)).arg) hM4 (H2.out.2.2.2.2.1.same k24) H0.out.2.2.2.info H0.out.2.2.2.infoLen (fun id t h => H0.out.2.2.2.marks id t (by rw [← hsay]; exact h)) (by omega) H0.out.2.2.2.infoNd
      rw [hse] at hvc
      have Hvc := Lib.hid hvc
      have l4 := k24.lt l2
      have H4 := Lib.hid k24
      clear hvc hse hsay hM4 hk4 k24 e0 e1 e2 e3 htk
      refine wpAnyH_ready (rs := [17]) (by kernel_rfl) (by simp) ?_
      refine AllReadyH.cons rfl (fun K hK => ?_) AllReadyH.nil
      go_simp
      go_at_call 17
      refine Hvc.out.mono ?_
      rintro e w5 ⟨v5, rfl, hs5, hk5⟩
      have e0 := (hk5.cell l4 (by simp)).trans g0
      have e1 := (hk5.cell l4 (by simp)).trans g1
      have e2 := (hk5.cell l4 (by simp)).trans g2
      have e3 := (hk5.cell l4 (by simp)).trans g3
      go_simp
      refine hK.out _ _ ⟨e0, e1, e2, e3⟩ (fun hS => ?_)
      clear hK K
      try simp only [Act.put, List.getElem_toArray, List.getElem_cons_succ, List.getElem_cons_zero, List.setIfInBounds_toArray, List.set_cons_zero, List.set_cons_succ]
      have k25 : Keeps [] W2 w5 := H4.out.trans hk5
      have n5 := k25.at_ H2.out.1 (by simp)
      have f5 := free_at n5
      have c5 := cells_at n5
      have l5 := lt_of_at n5
      have hs5' := hs5
      obtain ⟨a5, q5, rfl, -⟩ := hs5
      have t6 : (w5.setCell ⟨p, 4, none⟩ (.slice a5 (victimsL Z.cfg.1 Z.cfg.2.1 S'.tick S'.infos (markOf S'.got)).length q5)).heap[p]? = some (.cells #[.int .i64 Z.cfg.1, .int .i64 Z.cfg.2.1, .int .i64 Z.cfg.2.2, .pointer (some ⟨q, 0, none⟩), .slice a5 (victimsL Z.cfg.1 Z.cfg.2.1 S'.tick S'.infos (markOf S'.got)).length q5, .bool true, .int .i64 Z.gone] 153 (0, 0)) := (heap_cell_same (i := 4) n5 _).trans (by simp)
      have k6 : Keeps [p] w5 (w5.setCell ⟨p, 4, none⟩ (.slice a5 (victimsL Z.cfg.1 Z.cfg.2.1 S'.tick S'.infos (markOf S'.got)).length q5)) := (Keeps.refl [p] w5).setCell (.inl (by simp)) _
      have hlo : w.heap.size ≤ w4.heap.size := by have := H2.out.2.1.size; have := H4.out.size; omega
      have hlp : p < w4.heap.size ∧ q < w4.heap.size ∧ gb < w4.heap.size := by have := (H2.out.2.2.1.lt); have := H4.out.size; omega
      have H5 := Lib.hid (And.intro t6 (And.intro k6 (And.intro hs5' k25)))
      clear hs5' t6 k6 k25 hk5 n5 g0 g1 g2 g3
      refine wpAnyH_take (i := 18) (v := ?_) rfl (by kernel_rfl) (by kernel_rfl) (by kernel_rfl) (fun _ _ _ h => h) (Or.inl ⟨by rfl, ?_⟩) (by assumption) ?_
      rotate_left
      · intro w' hSw; obtain ⟨s1, s2, s3, s4⟩ := hSw; go_simp; (try with_reducible rfl)
      simp only [Act.put, List.getElem_toArray, List.getElem_cons_succ, List.getElem_cons_zero, List.setIfInBounds_toArray, List.set_cons_zero, List.set_cons_succ]
      refine wpAnyH_take (i := 19) (v := ?_) rfl (by kernel_rfl) (by kernel_rfl) (by kernel_rfl) (fun _ _ _ h => h) (Or.inl ⟨by rfl, ?_⟩) (by assumption) ?_
      rotate_left
      · intro w' hSw; obtain ⟨s1, s2, s3, s4⟩ := hSw; go_simp; (try with_reducible rfl)
      simp only [Act.put, List.getElem_toArray, List.getElem_cons_succ, List.getElem_cons_zero, List.setIfInBounds_toArray, List.set_cons_zero, List.set_cons_succ]
      refine wpAnyH_ready (rs := [20]) (by kernel_rfl) (by simp) ?_
      refine AllReadyH.cons rfl (fun K hK => ?_) AllReadyH.nil
      go_simp
      generalize (victimsL Z.cfg.1 Z.cfg.2.1 S'.tick S'.infos (markOf S'.got)) = V at *
      generalize w5.setCell ⟨p, 4, none⟩ (.slice a5 V.length q5) = W6 at H5 ⊢
      have c6 := cells_at H5.out.1
      refine hK.out _ _ ⟨by rw [c6]; rfl, by rw [c6]; rfl, by rw [c6]; rfl, by rw [c6]; rfl⟩ (fun hS => ?_)
      clear hK K c6
      refine wpAnyH_done (by kernel_rfl) ?_ _
      clear hS
      go_wp2_with fail
      go_ret
      refine ⟨rfl, ?_, ?_, (H2.out.2.1.trans (H5.out.2.2.2.mono (by simp))).trans (H5.out.2.1.mono (by simp))⟩
      · rw [Hz.out]
        refine ⟨hB, hpq, hpg, w4.heap.size, _, hlp.1, hlp.2.1, hlp.2.2, H5.out.1, H5.out.2.2.1.keep H5.out.2.1 (by simp; omega), ?_⟩
        exact (H2.out.2.2.1.same H5.out.2.2.2).keepX H5.out.2.1 (by simp; omega)
      · exact (H2.out.2.2.2.2.2.keep H5.out.2.2.2 (by simp) (by simp) (by simp) (by simp)).keep H5.out.2.1 (by simp; omega) (by simp; omega) (by simp; omega) (by simp; omega)
end Go.Proofs.YtbndpegilpgheaaGreat
