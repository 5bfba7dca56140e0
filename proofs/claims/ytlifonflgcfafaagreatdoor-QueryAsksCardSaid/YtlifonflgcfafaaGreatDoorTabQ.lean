/-
  The document's Add of what is asked for of a table (package barographref23), walked.
  The tables are of few rows; the matchers may be.
-/
import Derived.Test.YtlifonflgcfafaaGreatDoorTabRows
import Derived.Test.YtlifonflgcfafaaGreatDoorFew13
namespace Go.Proofs.YtlifonflgcfafaaGreatDoor
open Go Go.RowKit

def betB (from_ to : Int) (s : SmpB) : Prop := from_ ≤ s.1 ∧ s.1 < to

theorem betS_yes {from_ to : Int} {l : List SmpB} {s : SmpB} (h : betB from_ to s) : betS from_ to (l ++ [s]) = betS from_ to l ++ [s] := by
  have : decide (from_ ≤ s.1 ∧ s.1 < to) = true := decide_eq_true h
  simp only [betS, List.filter_append, List.filter_cons, List.filter_nil, this, if_true]

theorem betS_no {from_ to : Int} {l : List SmpB} {s : SmpB} (h : ¬ betB from_ to s) : betS from_ to (l ++ [s]) = betS from_ to l := by
  have : [s].filter (fun s => decide (from_ ≤ s.1 ∧ s.1 < to)) = [] := by
    rw [List.filter_eq_nil_iff]
    intro q hq hc
    obtain rfl : q = s := by simpa using hq
    exact h (show from_ ≤ q.1 ∧ q.1 < to from by simpa using hc)
  unfold betS
  rw [List.filter_append, this, List.append_nil]

theorem betT_one (from_ to : Int) (lab : List PairB) (l : List SmpB) : betT from_ to [(lab, l)] = if betS from_ to l = [] then [] else [(lab, betS from_ to l)] := by
  unfold betT
  by_cases h : betS from_ to l = []
  · simp [h]
  · simp [h]

/-- A sample more. -/
theorem bet_step {from_ to : Int} {C : TabT} {lab : List PairB} {l : List SmpB} {s : SmpB} (hC : ∀ r ∈ C, ltL r.1 lab) (hl : (l ++ [s]).Pairwise ltS) (h : betB from_ to s) : addT lab s (betT from_ to (C ++ [(lab, l)])) = betT from_ to (C ++ [(lab, l ++ [s])]) := by
  have hC' : ∀ r ∈ betT from_ to C, ltL r.1 lab := fun r hr => by
    obtain ⟨q, hq, rfl, _⟩ := betT_mem hr
    exact hC q hq
  rw [betT_app, betT_app, betT_one, betT_one, betS_yes h]
  rw [if_neg (show ¬ (betS from_ to l ++ [s] = []) from by simp)]
  by_cases h0 : betS from_ to l = []
  · rw [if_pos h0, h0, List.append_nil, addT_end hC']
    rfl
  · rw [if_neg h0, addT_last (l := betS from_ to l) hC' (fun y hy => (List.pairwise_append.1 hl).2.2 y (List.mem_filter.1 hy).1 s List.mem_cons_self)]

theorem bet_stay {from_ to : Int} {C : TabT} {lab : List PairB} {l : List SmpB} {s : SmpB} (h : ¬ betB from_ to s) : betT from_ to (C ++ [(lab, l ++ [s])]) = betT from_ to (C ++ [(lab, l)]) := by
  rw [betT_app, betT_app, betT_one, betT_one, betS_no h]

theorem betT_few {from_ to : Int} {A : TabT} (h : FewT A) : FewT (betT from_ to A) := by
  refine ⟨?_, fun q hq => ?_⟩
  · unfold betT
    refine Nat.le_trans (List.length_filter_le _ _) ?_
    rw [List.length_map]
    exact h.1
  · obtain ⟨r, hr, rfl, _⟩ := betT_mem hq
    have h1 := h.2 r hr
    have h2 : (betS from_ to r.2).length ≤ r.2.length := List.length_filter_le _ _
    exact ⟨h1.1, by show (betS from_ to r.2).length ≤ 500; omega⟩

def fitR (L : List MatB) (r : RowT) : Bool := L.all (fitsM r.1)

theorem take_mid {A : TabT} {k j : Nat} (hk : k < A.length) {p : RowT → Bool} (hg : GoodT A) (hf : FewT A) :
    (∀ r ∈ (A.take k).filter p, ltL r.1 A[k].1) ∧ FewT ((A.take k).filter p ++ [(A[k].1, A[k].2.take j)]) ∧ ((A.take k).filter p ++ [(A[k].1, A[k].2.take j)]).Pairwise (fun a b => ltL a.1 b.1) := by
  have h1 : ∀ r ∈ (A.take k).filter p, ltL r.1 A[k].1 := fun r hr => by
    obtain ⟨i, hi, rfl⟩ := List.mem_iff_getElem.1 (List.mem_filter.1 hr).1
    rw [List.length_take] at hi
    rw [List.getElem_take]
    exact List.pairwise_iff_getElem.1 hg.rows i k (by omega) hk (by omega)
  refine ⟨h1, ⟨?_, fun r hr => ?_⟩, ?_⟩
  · rw [List.length_append]
    have h2 := List.length_filter_le p (A.take k)
    rw [List.length_take] at h2
    have := hf.1
    simp only [List.length_cons, List.length_nil]
    omega
  · rcases List.mem_append.1 hr with hr | hr
    · exact hf.2 r (List.mem_of_mem_take (List.mem_filter.1 hr).1)
    · obtain rfl : r = (A[k].1, A[k].2.take j) := by simpa using hr
      have := hf.2 A[k] (List.getElem_mem hk)
      exact ⟨this.1, by show (A[k].2.take j).length ≤ 500; rw [List.length_take]; omega⟩
  · rw [List.pairwise_append]
    refine ⟨((hg.rows.sublist (List.take_sublist k A)).filter _), by simp, fun a ha b hb => ?_⟩
    obtain rfl : b = (A[k].1, A[k].2.take j) := by simpa using hb
    exact h1 a ha

def QOut (w : World) (A : TabT) (p : RowT → Bool) (from_ to : Int) (gk : Nat) (u0 u17 : Value) (wr : World) : Prop :=
  ∃ k, k ≤ A.length ∧ gk = A.length - k ∧ u17 = .int .i64 k ∧ TabAt 96 140 0 wr u0 (betT from_ to ((A.take k).filter p)) ∧ Keeps [] w wr

def QIn (w : World) (C : TabT) (r : RowT) (pb : Nat) (v1 v2 : Value) (from_ to : Int) (gk : Nat) (u0 u29 : Value) (wr : World) : Prop :=
  ∃ j, j ≤ r.2.length ∧ gk = r.2.length - j ∧ u29 = .int .i64 j ∧ TabAt 96 140 0 wr u0 (betT from_ to (C ++ [(r.1, r.2.take j)])) ∧ wr.heap[pb]? = some (.cells #[v1, v2] 96 (0, 0)) ∧ wr.ownsRow 0 140 2 v1 r.1.length (r.1.flatMap encPB) ∧ wr.ownsRow 0 42 2 v2 r.2.length (r.2.flatMap encSm) ∧ Keeps [] w wr

set_option linter.unusedSimpArgs false in
set_option maxRecDepth 100000 in
set_option maxHeartbeats 4000000 in
theorem addQ_spec (w : World) (v0 v : Value) (A : TabT) (from_ to : Int) (vm : Value) (L : List MatB) (h0 : TabAt 96 140 0 w v0 []) (h : TabAt 96 140 0 w v A) (hf : FewT A) (hg : GoodT A) (hm : MatsAt w vm L) (hmay : ∀ m ∈ L, mayK m) :
    Calls Tryz.prog 21 #[v0, v, .int .i64 from_, .int .i64 to, vm] w fun e w' => ∃ v', e = .returned v' ∧ TabAt 96 140 0 w' v' (betT from_ to (A.filter (fitR L))) ∧ Keeps [] w w' := by
  have Hf := Lib.hid (And.intro h (And.intro hm (And.intro hf (And.intro hg hmay))))
  have hA100 := hf.1
  have H0 := Lib.hid h0
  obtain ⟨a0, c0, rfl⟩ := h0.form
  obtain ⟨ao, cap, rfl⟩ := h.form
  obtain ⟨am, cm, rfl, -⟩ := hm.form
  clear h0 h hf hg hm hmay
  go_enter Tryz.func21, Tryz.ntmps21
  go_wp2_with fail
  go_loopg [0, 17] A.length (QOut w A (fitR L) from_ to)
  case atStart => exact ⟨0, Nat.zero_le _, rfl, rfl, by simpa [betT] using H0.out, Keeps.refl [] w⟩
  case round =>
    obtain ⟨k, hk, hgk, rfl, hrow, hkw⟩ := hrel
    have Hg := Lib.hid hgk
    clear hgk
    by_cases hlt : k < A.length
    · obtain ⟨b, off, u1, u2, ea, hb, d0, d1, g1, g2⟩ := (go1 hkw Hf.out.1).at_ k hlt
      subst ea
      have hlt' : (k : Int) < (A.length : Int) := by omega
      have hr := Hf.out.2.2.1.2 A[k] (List.getElem_mem hlt)
      have hrs := (Hf.out.2.2.2.1.smps A[k] (List.getElem_mem hlt)).1
      have Htk := Lib.hid (show A.take (k + 1) = A.take k ++ [A[k]] from List.take_succ_eq_append_getElem hlt)
      have Hmid := Lib.hid (fun (j : Nat) => take_mid (j := j) hlt (p := fitR L) Hf.out.2.2.2.1 Hf.out.2.2.1)
      generalize A[k] = r at d0 d1 g1 g2 hr hrs Htk Hmid
      obtain ⟨r1, r2⟩ := r
      dsimp only at g1 g2 hr hrs
      have Hrs := Lib.hid hrs
      clear hrs
      obtain ⟨ar1, cr1, rfl, -, -, -⟩ := row_slice g1
      obtain ⟨ar2, cr2, rfl, -, -, -⟩ := row_slice g2
      obtain ⟨ax, cx, hax⟩ := hrow.form
      obtain ⟨nX, hnX⟩ : ∃ n, n = (betT from_ to ((A.take k).filter (fitR L))).length := ⟨_, rfl⟩
      rw [← hnX] at hax
      subst hax
      have kP : Keeps [] wr (wr.alloc (.cells #[.slice ar1 r1.length cr1, .slice ar2 r2.length cr2] 96)) := (Keeps.refl [] wr).alloc _
      have H1 := Lib.hid (And.intro (go1 kP (And.intro hrow hkw)) (And.intro (heap_new wr (.cells #[.slice ar1 r1.length cr1, .slice ar2 r2.length cr2] 96)) (go1 kP (And.intro g1 (And.intro g2 (go1 hkw Hf.out.2.1))))))
      clear kP hrow hkw g1 g2 hnX
      go_upto_region 4 with fail
      clear d0 d1 hb
      generalize hwp : wr.alloc (.cells #[.slice ar1 r1.length cr1, .slice ar2 r2.length cr2] 96) = wp at H1 ⊢
      generalize hpb : wr.heap.size = pb at H1 ⊢
      clear hwp hpb
      have cp := cells_at H1.out.2.1
      have lp := lt_of_at H1.out.2.1
      go_wp2_with fail
      refine (matchR_spec wp _ _ r1 L (rowP H1.out.2.2.1) H1.out.2.2.2.2 Hf.out.2.2.2.2).mono ?_
      rintro e w2 ⟨rfl, hk2⟩
      have H2 := Lib.hid (And.intro (go1 hk2 H1.out.1) (go1 hk2 H1.out.2))
      clear hk2 H1 cp lp
      have cp := cells_at H2.out.2.1
      have lp := lt_of_at H2.out.2.1
      cases hfit : L.all (fitsM r1) with
      | false =>
        have Hfit := Lib.hid (show fitR L (r1, r2) = false from hfit)
        clear hfit cp lp
        go_wp2_with fail
        go_roundg (A.length - (k + 1))
        case measure => have := Hg.out; omega
        case rel =>
          refine ⟨k + 1, hlt, rfl, by go_num, ?_, H2.out.1.2⟩
          rw [Htk.out, List.filter_append, show [(r1, r2)].filter (fitR L) = [] from by simp [Hfit.out], List.append_nil]
          exact H2.out.1.1
      | true =>
        have Hfit := Lib.hid (show fitR L (r1, r2) = true from hfit)
        clear hfit
        go_wp2_with fail
        clear cp lp
        go_loopg [0, 29] r2.length (QIn w ((A.take k).filter (fitR L)) (r1, r2) pb (.slice ar1 r1.length cr1) (.slice ar2 r2.length cr2) from_ to)
        case atStart => exact ⟨0, Nat.zero_le _, rfl, rfl, by rw [betT_app, betT_one]; simpa [betS] using H2.out.1.1, H2.out.2.1, H2.out.2.2.1, H2.out.2.2.2.1, H2.out.1.2⟩
        case round =>
          obtain ⟨j, hj, hgj, rfl, hrow, hpb, hv1, hv2, hkb⟩ := hrel
          have Hgj := Lib.hid hgj
          dsimp only at hj hrow hv1 hv2
          clear hgj
          obtain ⟨ax, cx, hax⟩ := hrow.form
          obtain ⟨nX, hnX⟩ : ∃ n, n = (betT from_ to ((A.take k).filter (fitR L) ++ [(r1, r2.take j)])).length := ⟨_, rfl⟩
          rw [← hnX] at hax
          subst hax
          clear hnX
          by_cases hltj : j < r2.length
          · obtain ⟨b5, off5, ea, hb5, d0, d1⟩ := smp_at hv2 j hltj
            subst ea
            have hltj' : (j : Int) < (r2.length : Int) := by omega
            have HS := Lib.hid (show r2.take (j + 1) = r2.take j ++ [r2[j]] from List.take_succ_eq_append_getElem hltj)
            have Hps := Lib.hid (show (r2.take (j + 1)).Pairwise ltS from Hrs.out.sublist (List.take_sublist _ _))
            generalize r2[j] = s at d0 d1 HS
            obtain ⟨s1, s2⟩ := s
            dsimp only at d0 d1
            have kP : Keeps [] wr (wr.alloc (.cells #[.int .i64 s1, .int .u64 s2] 42)) := (Keeps.refl [] wr).alloc _
            have H3 := Lib.hid (And.intro (go1 kP (And.intro hrow (And.intro hpb (And.intro hv1 (And.intro hv2 hkb))))) (heap_new wr (.cells #[.int .i64 s1, .int .u64 s2] 42)))
            clear kP hrow hpb hv1 hv2 hkb
            go_upto_region 8 with fail
            clear d0 d1 hb5
            generalize hwq : wr.alloc (.cells #[.int .i64 s1, .int .u64 s2] 42) = wq at H3 ⊢
            generalize hqb : wr.heap.size = qb at H3 ⊢
            clear hwq hqb
            have cq := cells_at H3.out.2
            have lq := lt_of_at H3.out.2
            have cp := cells_at H3.out.1.2.1
            have lp := lt_of_at H3.out.1.2.1
            have hways : (¬ from_ ≤ s1) ∨ (from_ ≤ s1 ∧ ¬ s1 < to) ∨ (from_ ≤ s1 ∧ s1 < to) := by omega
            rcases hways with hx | ⟨hx, hy⟩ | ⟨hx, hy⟩
            · have Hb := Lib.hid (show ¬ betB from_ to (s1, s2) from fun h => hx h.1)
              have hx' : s1 < from_ := by omega
              go_wp2_with fail
              go_roundg (r2.length - (j + 1))
              case measure => have := Hgj.out; omega
              case rel =>
                refine ⟨j + 1, hltj, rfl, by go_num, ?_, H3.out.1.2.1, H3.out.1.2.2.1, H3.out.1.2.2.2.1, H3.out.1.2.2.2.2⟩
                show TabAt _ _ 0 _ _ (betT from_ to ((A.take k).filter (fitR L) ++ [(r1, r2.take (j + 1))]))
                rw [HS.out, bet_stay Hb.out]
                exact H3.out.1.1
            · have Hb := Lib.hid (show ¬ betB from_ to (s1, s2) from fun h => hy h.2)
              go_wp2_with fail
              go_roundg (r2.length - (j + 1))
              case measure => have := Hgj.out; omega
              case rel =>
                refine ⟨j + 1, hltj, rfl, by go_num, ?_, H3.out.1.2.1, H3.out.1.2.2.1, H3.out.1.2.2.2.1, H3.out.1.2.2.2.2⟩
                show TabAt _ _ 0 _ _ (betT from_ to ((A.take k).filter (fitR L) ++ [(r1, r2.take (j + 1))]))
                rw [HS.out, bet_stay Hb.out]
                exact H3.out.1.1
            · have Hb := Lib.hid (show betB from_ to (s1, s2) from ⟨hx, hy⟩)
              have Hmj := Lib.hid (Hmid.out j)
              go_wp2_with fail
              refine (addM_spec wq _ _ (betT from_ to ((A.take k).filter (fitR L) ++ [(r1, r2.take j)])) r1 (s1, s2) H3.out.1.1 (betT_few Hmj.out.2.1) (by
                unfold betT
                exact List.Pairwise.filter _ (List.pairwise_map.2 Hmj.out.2.2)) H3.out.1.2.2.1 (by omega)).mono ?_
              rintro e w6 ⟨v6, rfl, ht6, hk6⟩
              rw [bet_step Hmj.out.1 (by rw [← HS.out]; exact Hps.out) Hb.out, ← HS.out] at ht6
              have H6 := Lib.hid (And.intro (ht6.base (B' := 0) (Nat.zero_le _)) (go1 hk6 H3.out.1.2))
              obtain ⟨ay, cy, hay⟩ := ht6.form
              obtain ⟨nY, hnY⟩ : ∃ n, n = (betT from_ to ((A.take k).filter (fitR L) ++ [(r1, r2.take (j + 1))])).length := ⟨_, rfl⟩
              rw [← hnY] at hay
              subst hay
              clear ht6 hk6 hnY H3 cq lq cp lp
              go_wp2_with fail
              go_roundg (r2.length - (j + 1))
              case measure => have := Hgj.out; omega
              case rel => exact ⟨j + 1, hltj, rfl, by go_num, H6.out.1, H6.out.2.1, H6.out.2.2.1, H6.out.2.2.2.1, H6.out.2.2.2.2⟩
          · have hgej : ¬ (j : Int) < (r2.length : Int) := by omega
            have hjn : r2.take j = r2 := List.take_of_length_le (by omega)
            rw [hjn] at hrow
            have Hr := Lib.hid (And.intro hrow hkb)
            clear hrow hpb hkb hjn hv1 hv2
            go_wp2_with fail
            go_roundg (A.length - (k + 1))
            case measure => have := Hg.out; omega
            case rel =>
              refine ⟨k + 1, hlt, rfl, by go_num, ?_, Hr.out.2⟩
              rw [Htk.out, List.filter_append, show [(r1, r2)].filter (fitR L) = [(r1, r2)] from by simp [Hfit.out]]
              exact Hr.out.1
    · have hge : ¬ (k : Int) < (A.length : Int) := by omega
      have hkn := Lib.hid (show A.take k = A from List.take_of_length_le (by omega))
      have Hr := Lib.hid (And.intro hrow hkw)
      obtain ⟨ax, cx, hax⟩ := hrow.form
      obtain ⟨nX, hnX⟩ : ∃ n, n = (betT from_ to ((A.take k).filter (fitR L))).length := ⟨_, rfl⟩
      rw [← hnX] at hax
      subst hax
      clear hrow hkw hnX
      go_wp2_with fail
      go_ret
      exact ⟨_, rfl, by have h := Hr.out.1; rw [hkn.out] at h; exact h, Hr.out.2⟩
end Go.Proofs.YtlifonflgcfafaaGreatDoor
