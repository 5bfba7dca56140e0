/-
  Of which blocks others are made (package listing): Shadowed.
  The blocks are few.

  The blocks of which none is made (package listing): Live.
  The blocks are few.
-/
import Derived.Test.YtjffdcflkkgpfaaGreatListFind
namespace Go.Proofs.YtjffdcflkkgpfaaGreat
open Go Go.RowKit Go.Conc

def incM (M : PartsM) (s : ByteArray) : PartsM := put M s ((look M s).getD 0 + 1)

def madeM (L : List MetaS) : PartsM := (L.flatMap (·.sources)).foldl incM []

theorem inc_count (s : ByteArray) : ∀ (S : List ByteArray) (M : PartsM), (∀ t, 0 ≤ (look M t).getD 0) → (look (S.foldl incM M) s).getD 0 = (look M s).getD 0 + (S.filter fun x => decide (x = s)).length
  | [], M, _ => by simp
  | x :: S, M, h => by
    have h2 : ∀ t, 0 ≤ (look (incM M x) t).getD 0 := fun t => by
      unfold incM
      rw [look_put]
      split
      · have := h x; simp only [Option.getD_some]; omega
      · exact h t
    rw [List.foldl_cons, inc_count s S _ h2]
    unfold incM
    rw [look_put]
    by_cases e : s = x
    · subst e
      simp
      omega
    · have e2 : ¬ x = s := fun h => e h.symm
      simp [e, e2]

theorem inc_le (S : List ByteArray) (s : ByteArray) : 0 ≤ (look (S.foldl incM []) s).getD 0 ∧ (look (S.foldl incM []) s).getD 0 ≤ S.length := by
  rw [inc_count s S [] (by simp [look])]
  have := List.length_filter_le (fun x => decide (x = s)) S
  simp [look]
  omega

def MadeRel (w W1 : World) (mo : Nat) (L : List MetaS) (gk : Nat) (u : Value) (wr : World) : Prop :=
  ∃ k, k ≤ L.length ∧ gk = L.length - k ∧ u = .int .i64 k ∧ MapAt wr mo (encMap encI (madeM (L.take k))) ∧ Keeps [mo] W1 wr ∧ Keeps [] w wr

def MadeRel2 (w W1 : World) (mo : Nat) (S0 S : List ByteArray) (gk : Nat) (u : Value) (wr : World) : Prop :=
  ∃ j, j ≤ S.length ∧ gk = S.length - j ∧ u = .int .i64 j ∧ MapAt wr mo (encMap encI ((S0 ++ S.take j).foldl incM [])) ∧ Keeps [mo] W1 wr ∧ Keeps [] w wr

def MadePost (w : World) (L : List MetaS) (e : Ending) (w' : World) : Prop := ∃ mo, e = .returned (.map (some mo)) ∧ w.heap.size ≤ mo ∧ MapAt w' mo (encMap encI (madeM L)) ∧ Keeps [] w w'

set_option linter.unusedSimpArgs false in
set_option maxRecDepth 100000 in
set_option maxHeartbeats 4000000 in
theorem made_spec (B : Nat) (w : World) (at_ : Int) (mp : Option Nat) (v : Value) (L : List MetaS) (hL : MetasV B w v L) (hl : L.length ≤ 20) (hsr : ∀ m ∈ L, m.sources.length ≤ 50) :
    Calls Tryz.prog 86 #[.agg #[.int .i64 at_, v, .map mp]] w (MadePost w L) := by
  obtain ⟨VS, hV1, hV2, hV3⟩ := hL
  have Hv := Lib.hid (And.intro hV1 (And.intro hV2 hV3))
  obtain ⟨av, cv, rfl, -, -, -, -⟩ := hV1
  rw [hV2]
  have Hsr := Lib.hid hsr
  have hmm := @run_makeMap Tryz.prog
  have n0 := heap_new w (.cells #[.int .i64 at_, .slice av L.length cv, .map mp] 32)
  have k0 : Keeps [] w (w.alloc (.cells #[.int .i64 at_, .slice av L.length cv, .map mp] 32)) := (Keeps.refl [] w).alloc _
  have m1 := mapAt_new (w.alloc (.cells #[.int .i64 at_, .slice av L.length cv, .map mp] 32))
  have k1 : Keeps [] (w.alloc (.cells #[.int .i64 at_, .slice av L.length cv, .map mp] 32)) ((w.alloc (.cells #[.int .i64 at_, .slice av L.length cv, .map mp] 32)).alloc (.map #[] 0)) := (Keeps.refl [] _).alloc _
  have n1 := k1.at_ n0 (by simp)
  have hz : (w.alloc (.cells #[.int .i64 at_, .slice av L.length cv, .map mp] 32)).heap.size = w.heap.size + 1 := by simp
  rw [hz] at m1
  obtain ⟨mo, hmo⟩ : ∃ n, n = w.heap.size + 1 := ⟨_, rfl⟩
  have hle : w.heap.size ≤ mo := by omega
  rw [← hmo] at m1
  have Hmo := Lib.hid hmo
  have H0 := Lib.hid (And.intro m1 (k0.trans k1))
  clear hV2 hV3 hsr n0 k0 m1 k1 hmo
  have c1 := cells_at n1
  have l1 := lt_of_at n1
  clear n1
  go_enter Tryz.func86, Tryz.ntmps86
  go_upto_region 2 with fail
  rw [← Hmo.out]
  generalize (w.alloc (.cells #[.int .i64 at_, .slice av L.length cv, .map mp] 32)).alloc (.map #[] 0) = W1 at c1 l1 H0 ⊢
  clear Hmo hz hmm
  go_wp2_with fail
  clear c1 l1
  go_loopg [12] L.length (MadeRel w W1 mo L)
  case atStart => exact ⟨0, Nat.zero_le _, rfl, rfl, H0.out.1, Keeps.refl _ _, H0.out.2⟩
  case round =>
    obtain ⟨k, hk, hgk, rfl, hmr, hk1, hkw⟩ := hrel
    clear H0
    have Hg := Lib.hid hgk
    clear hgk
    by_cases hlt : k < L.length
    · obtain ⟨b6, of6, ea, -, hb6, hc6⟩ := (Hv.out.1.keep hkw (by simp)).atI k (by rw [Hv.out.2.1]; exact hlt)
      subst ea
      obtain ⟨vf, vo, hvs, hsf, hso⟩ := Hv.out.2.2 k (by rw [Hv.out.2.1]; exact hlt) hlt
      have Hso := Lib.hid hso
      obtain ⟨af, cf, rfl, -, -, -, -⟩ := hsf
      obtain ⟨ao, co, rfl, -, -, -, -⟩ := hso
      rw [hvs] at hc6
      have d0 : wr.cell? ⟨b6, of6 + k * 8, none⟩ = some (.string L[k].id) := hc6 0 (by decide)
      have d1 : wr.cell? ⟨b6, of6 + k * 8 + 1, none⟩ = some (.int .i64 L[k].mn) := hc6 1 (by decide)
      have d2 : wr.cell? ⟨b6, of6 + k * 8 + 2, none⟩ = some (.int .i64 L[k].mx) := hc6 2 (by decide)
      have d3 : wr.cell? ⟨b6, of6 + k * 8 + 3, none⟩ = some (.int .i64 L[k].level) := hc6 3 (by decide)
      have d4 : wr.cell? ⟨b6, of6 + k * 8 + 4, none⟩ = some (.int .i64 L[k].series) := hc6 4 (by decide)
      have d5 : wr.cell? ⟨b6, of6 + k * 8 + 5, none⟩ = some (.int .i64 L[k].samples) := hc6 5 (by decide)
      have d6 : wr.cell? ⟨b6, of6 + k * 8 + 6, none⟩ = some (.slice af L[k].files.length cf) := hc6 6 (by decide)
      have d7 : wr.cell? ⟨b6, of6 + k * 8 + 7, none⟩ = some (.slice ao L[k].sources.length co) := hc6 7 (by decide)
      have hns := Hsr.out L[k] (List.getElem_mem _)
      have Hnx : Hid (madeM (L.take (k + 1)) = (((L.take k).flatMap (·.sources)) ++ L[k].sources).foldl incM []) := Lib.hid (by unfold madeM; rw [List.take_succ_eq_append_getElem hlt, List.flatMap_append]; simp)
      have hS0l : ((L.take k).flatMap (·.sources)).length ≤ 50 * 20 := by
        have h1 : ∀ (Q : List MetaS), (∀ m ∈ Q, m.sources.length ≤ 50) → (Q.flatMap (·.sources)).length ≤ 50 * Q.length := by
          intro Q
          induction Q with
          | nil => simp
          | cons q Q ih =>
            intro hq
            have h2 := hq q (by simp)
            have h3 := ih fun m hm => hq m (by simp [hm])
            simp only [List.flatMap_cons, List.length_append, List.length_cons, Nat.mul_add]
            omega
        have h2 := h1 (L.take k) (fun m hm => Hsr.out m (List.mem_of_mem_take hm))
        rw [List.length_take] at h2
        omega
      have hmr0 : MapAt wr mo (encMap encI (((L.take k).flatMap (·.sources)).foldl incM [])) := hmr
      clear hc6 hvs hmr
      generalize (L.take k).flatMap (·.sources) = S0 at hmr0 Hnx hS0l
      generalize L[k] = m at d0 d1 d2 d3 d4 d5 d6 d7 hns Hnx Hso
      have hlt' : (k : Int) < (L.length : Int) := by omega
      have ka : Keeps [] wr (wr.alloc (.cells #[.string m.id, .int .i64 m.mn, .int .i64 m.mx, .int .i64 m.level, .int .i64 m.series, .int .i64 m.samples, .slice af m.files.length cf, .slice ao m.sources.length co] 63)) := (Keeps.refl [] wr).alloc _
      have HR := Lib.hid (And.intro (hmr0.keep ka (by simp)) (And.intro (hk1.trans (ka.mono (by simp))) (hkw.trans ka)))
      clear hmr0 hk1 hkw ka
      go_wp2_with fail
      clear d0 d1 d2 d3 d4 d5 d6 d7
      go_loopg [19] m.sources.length (MadeRel2 w W1 mo S0 m.sources)
      case atStart => exact ⟨0, Nat.zero_le _, rfl, rfl, by simpa using HR.out.1, HR.out.2⟩
      case round =>
        obtain ⟨j, hj, hgj, rfl, hmj, hk1, hkw⟩ := hrel
        clear HR
        have Hgj := Lib.hid hgj
        clear hgj
        by_cases hltj : j < m.sources.length
        · obtain ⟨b7, of7, ea, -, hb7, hc7⟩ := (Hso.out.keep hkw (by simp)).atI j hltj
          subst ea
          have d7 : wr.cell? ⟨b7, of7 + j, none⟩ = some (.string m.sources[j]) := by simpa [encS1m] using hc7 0 (by decide)
          have hltj' : (j : Int) < (m.sources.length : Int) := by omega
          have Hnj : Hid ((S0 ++ m.sources.take (j + 1)).foldl incM [] = put ((S0 ++ m.sources.take j).foldl incM []) m.sources[j] ((look ((S0 ++ m.sources.take j).foldl incM []) m.sources[j]).getD 0 + 1)) := Lib.hid (by rw [List.take_succ_eq_append_getElem hltj, ← List.append_assoc, List.foldl_append]; rfl)
          have hib := inc_le (S0 ++ m.sources.take j) m.sources[j]
          have hil : (S0 ++ m.sources.take j).length ≤ 2000 := by rw [List.length_append, List.length_take]; omega
          generalize m.sources[j] = sj at d7 Hnj hib
          generalize (S0 ++ m.sources.take j).foldl incM [] = M at hmj Hnj hib
          have hlo := hmj.run_lookup (P := Tryz.prog) Tryz.underlying30 Tryz.underlying9 (zeroInt _) sj false
          rw [lookVal_int] at hlo
          generalize (look M sj).getD 0 = c0 at hlo Hnj hib
          have hadd : IntKind.i64.wrap (c0 + 1) = c0 + 1 := IntWalk.i64_in _ (by omega)
          have Hk := Lib.hid (And.intro hk1 hkw)
          clear hc7 hk1 hkw
          go_wp2_with (refine wpList_update_str _ rfl (.tmp 23) (.tmp 24) (.tmp 26) _ _ _ rfl Tryz.underlying30 Tryz.underlying9 mo (encMap encI M) sj (encI (c0 + 1)) (by rfl) (by rfl) (by rfl) hmj ?_; intro w5 hm5 hk5)
          rw [put_enc] at hm5
          have H5 := Lib.hid (And.intro hm5 (And.intro (Hk.out.1.trans hk5) (Hk.out.2.after hk5 (fun x hx => .inr (by simp only [List.mem_singleton] at hx; omega)))))
          clear hm5 hk5
          go_wp2_with fail
          go_roundg (m.sources.length - (j + 1))
          case measure => have := Hgj.out; omega
          case rel => exact ⟨j + 1, by omega, rfl, by go_num, by rw [Hnj.out]; exact H5.out.1, H5.out.2⟩
        · obtain rfl : j = m.sources.length := by omega
          rw [List.take_length] at hmj
          have He := Lib.hid (And.intro hmj (And.intro hk1 hkw))
          have hge : ¬ (m.sources.length : Int) < (m.sources.length : Int) := by omega
          clear hmj hk1 hkw
          go_wp2_with fail
          go_roundg (L.length - (k + 1))
          case measure => have := Hg.out; omega
          case rel => exact ⟨k + 1, by omega, rfl, by go_num, by rw [Hnx.out]; exact He.out.1, He.out.2⟩
    · obtain rfl : k = L.length := by omega
      rw [List.take_length] at hmr
      have He := Lib.hid (And.intro hmr hkw)
      clear hmr hk1 hkw
      go_wp2_with fail
      go_ret
      exact ⟨mo, rfl, hle, He.out.1, He.out.2⟩
end Go.Proofs.YtjffdcflkkgpfaaGreat

namespace Go.Proofs.YtjffdcflkkgpfaaGreat
open Go Go.RowKit Go.Conc

theorem infoMeta : (Tryz.prog.info? 63).map (fun i => (i.zero, i.size, i.bytes)) = some (some (.agg #[.string ⟨#[]⟩, .int .i64 0, .int .i64 0, .int .i64 0, .int .i64 0, .int .i64 0, .slice none 0 0, .slice none 0 0]), 8, 104) := by kernel_rfl

def aliveB (L : List MetaS) (m : MetaS) : Bool := decide ((look (madeM L) m.id).getD 0 = 0)

def liveL (L : List MetaS) : List MetaS := L.filter (aliveB L)

theorem filter_yes {α : Type} (p : α → Bool) {L : List α} {k : Nat} (hk : k < L.length) (h : p L[k] = true) : (L.take (k + 1)).filter p = (L.take k).filter p ++ [L[k]] := by
  rw [List.take_succ_eq_append_getElem hk, List.filter_append]
  simp [h]

theorem filter_no {α : Type} (p : α → Bool) {L : List α} {k : Nat} (hk : k < L.length) (h : p L[k] = false) : (L.take (k + 1)).filter p = (L.take k).filter p := by
  rw [List.take_succ_eq_append_getElem hk, List.filter_append]
  simp [h]

/-- A row of metas of the walk's own; their lists lie in the world w. -/
def MetaRow (B base : Nat) (w wr : World) (v : Value) (Q : List MetaS) : Prop :=
  ∃ R : List (List Value), R.length = Q.length ∧ (∀ i (h : i < R.length) (h' : i < Q.length), MetaV B w R[i] Q[i]) ∧ wr.ownsRow base 63 8 v R.length (R.flatMap id)

theorem MetaRow.snoc {B base : Nat} {w w' : World} {v' : Value} {Q : List MetaS} {m : MetaS} {vs : List Value} {R : List (List Value)} (h1 : R.length = Q.length) (h2 : ∀ i (h : i < R.length) (h' : i < Q.length), MetaV B w R[i] Q[i]) (hm : MetaV B w vs m) (hr : w'.ownsRow base 63 8 v' (R.length + 1) (R.flatMap id ++ vs)) : MetaRow B base w w' v' (Q ++ [m]) := by
  refine ⟨R ++ [vs], by simp [h1], fun i hi hi' => ?_, by simpa using hr⟩
  by_cases e : i < R.length
  · rw [List.getElem_append_left e, List.getElem_append_left (by omega)]
    exact h2 i e (by omega)
  · have e1 : i = R.length := by simp at hi; omega
    subst e1
    rw [List.getElem_append_right (by omega), List.getElem_append_right (by omega)]
    simpa [h1] using hm

theorem metaV_len {B : Nat} {w : World} {vs : List Value} {m : MetaS} (h : MetaV B w vs m) : vs.length = 8 := by
  obtain ⟨_, _, rfl, _⟩ := h
  rfl

theorem flat8 {R : List (List Value)} : ∀ (_ : ∀ x ∈ R, x.length = 8) (i : Nat) (hi : i < R.length) (j : Nat), j < 8 → (R.flatMap id)[i * 8 + j]? = (id R[i])[j]? := by
  induction R with
  | nil => intro _ i hi; simp at hi
  | cons x R ih =>
    intro h i hi j hj
    have hx := h x (by simp)
    cases i with
    | zero =>
      simp only [List.flatMap_cons, id, Nat.zero_mul, Nat.zero_add, List.getElem_cons_zero]
      exact List.getElem?_append_left (by omega)
    | succ i =>
      have h2 := ih (fun y hy => h y (by simp [hy])) i (by simpa using hi) j hj
      simp only [List.flatMap_cons, List.getElem_cons_succ] at h2 ⊢
      rw [List.getElem?_append_right (by simp only [id]; omega), ← h2]
      congr 1
      simp only [id]
      omega

theorem MetaRow.metas {B base : Nat} {w wr : World} {v : Value} {Q : List MetaS} (h : MetaRow B base w wr v Q) (k : Keeps [] w wr) (hB : B ≤ base) : MetasV B wr v Q := by
  obtain ⟨R, h1, h2, h3⟩ := h
  have hlen : ∀ x ∈ R, x.length = 8 := fun x hx => by
    obtain ⟨i, hi, rfl⟩ := List.mem_iff_getElem.1 hx
    exact metaV_len (h2 i hi (by omega))
  refine ⟨R, ?_, h1, fun i hi hi' => (h2 i hi hi').same k⟩
  obtain ⟨ao, cap, rfl, hc, hm, hx⟩ := row_slice h3
  refine ⟨ao, cap, rfl, by omega, hc, fun e => ?_, fun i hi => ?_⟩
  · rcases Nat.eq_zero_or_pos R.length with h0 | h0
    · obtain ⟨hl, ⟨e2, _⟩ | ⟨g, cap2, cur, e2, _⟩⟩ := h3
      · injection e2
      · injection e2 with e2 _ _
        rw [e] at e2
        cases e2
    · obtain ⟨g, hg, _⟩ := hx 0 (by omega)
      rw [e] at hg
      cases hg
  · obtain ⟨g, hg, hb, hlt, _⟩ := hx (i * 8) (by omega)
    refine ⟨g, 0, hg, Nat.le_trans hB hb, hlt, fun j hj => ?_⟩
    obtain ⟨g2, hg2, _, _, hcell⟩ := hx (i * 8 + j) (by omega)
    rw [hg] at hg2
    injection hg2 with hg2
    injection hg2 with hg2 _ _
    subst hg2
    rw [Nat.zero_add, hcell]
    exact flat8 hlen i hi j hj


def LiveRel (B : Nat) (w w1 : World) (L : List MetaS) (gk : Nat) (u4 u12 : Value) (wr : World) : Prop :=
  ∃ k, k ≤ L.length ∧ gk = L.length - k ∧ u12 = .int .i64 k ∧ MetaRow B w1.heap.size w wr u4 ((L.take k).filter (aliveB L)) ∧ Keeps [] w1 wr

set_option linter.unusedSimpArgs false in
set_option maxRecDepth 100000 in
set_option maxHeartbeats 4000000 in
theorem live_spec (B : Nat) (w : World) (at_ : Int) (mp : Option Nat) (v : Value) (L : List MetaS) (hL : MetasV B w v L) (hl : L.length ≤ 20) (hsr : ∀ m ∈ L, m.sources.length ≤ 50) (hB : B ≤ w.heap.size) :
    Calls Tryz.prog 45 #[.agg #[.int .i64 at_, v, .map mp]] w fun e w' => ∃ v', e = .returned v' ∧ MetasV B w' v' (liveL L) ∧ Keeps [] w w' := by
  have HL := Lib.hid hL
  obtain ⟨VS, hV1, hV2, hV3⟩ := hL
  have Hv := Lib.hid (And.intro hV1 (And.intro hV2 hV3))
  obtain ⟨av, cv, rfl, -, -, -, -⟩ := hV1
  rw [hV2] at HL ⊢
  obtain ⟨im, him, hzm0, hzm1, hzm2⟩ := info_parts infoMeta
  have n0 := heap_new w (.cells #[.int .i64 at_, .slice av L.length cv, .map mp] 32)
  have k0 : Keeps [] w (w.alloc (.cells #[.int .i64 at_, .slice av L.length cv, .map mp] 32)) := (Keeps.refl [] w).alloc _
  have Hmd := Lib.hid (made_spec B _ at_ mp _ L (HL.out.same k0) hl hsr)
  have H0 := Lib.hid (And.intro n0 k0)
  clear hV2 hV3 hsr n0 k0
  go_enter Tryz.func45, Tryz.ntmps45
  go_wp2_with fail
  refine Hmd.out.mono ?_
  rintro e w1 ⟨mo, rfl, hmw, hm1, hk1⟩
  have n1 := hk1.at_ H0.out.1 (by simp)
  have c1 := cells_at n1
  have l1 := lt_of_at n1
  have H1 := Lib.hid (And.intro hm1 (H0.out.2.trans hk1))
  have hw1 : w.heap.size ≤ w1.heap.size := H1.out.2.size
  clear n1 hm1 hk1 Hmd H0
  go_wp2_with fail
  clear c1 l1
  go_loopg [4, 12] L.length (LiveRel B w w1 L)
  case atStart => exact ⟨0, Nat.zero_le _, rfl, rfl, ⟨[], rfl, fun i hi => by simp at hi, World.ownsRow_nil w1 _ _ 8⟩, Keeps.refl _ _⟩
  case round =>
    obtain ⟨k, hk, hgk, rfl, ⟨R, hR1, hR2, hR3⟩, hkr⟩ := hrel
    have Hg := Lib.hid hgk
    clear hgk
    have hkw := H1.out.2.trans hkr
    by_cases hlt : k < L.length
    · obtain ⟨b6, of6, ea, -, hb6, hc6⟩ := (Hv.out.1.keep hkw (by simp)).atI k (by rw [Hv.out.2.1]; exact hlt)
      subst ea
      have Hmv := Lib.hid (Hv.out.2.2 k (by rw [Hv.out.2.1]; exact hlt) hlt)
      obtain ⟨vf, vo, hvs, hsf, hso⟩ := Hv.out.2.2 k (by rw [Hv.out.2.1]; exact hlt) hlt
      obtain ⟨af, cf, rfl, -, -, -, -⟩ := hsf
      obtain ⟨ao, co, rfl, -, -, -, -⟩ := hso
      rw [hvs] at hc6 Hmv
      have d0 : wr.cell? ⟨b6, of6 + k * 8, none⟩ = some (.string L[k].id) := hc6 0 (by decide)
      have d1 : wr.cell? ⟨b6, of6 + k * 8 + 1, none⟩ = some (.int .i64 L[k].mn) := hc6 1 (by decide)
      have d2 : wr.cell? ⟨b6, of6 + k * 8 + 2, none⟩ = some (.int .i64 L[k].mx) := hc6 2 (by decide)
      have d3 : wr.cell? ⟨b6, of6 + k * 8 + 3, none⟩ = some (.int .i64 L[k].level) := hc6 3 (by decide)
      have d4 : wr.cell? ⟨b6, of6 + k * 8 + 4, none⟩ = some (.int .i64 L[k].series) := hc6 4 (by decide)
      have d5 : wr.cell? ⟨b6, of6 + k * 8 + 5, none⟩ = some (.int .i64 L[k].samples) := hc6 5 (by decide)
      have d6 : wr.cell? ⟨b6, of6 + k * 8 + 6, none⟩ = some (.slice af L[k].files.length cf) := hc6 6 (by decide)
      have d7 : wr.cell? ⟨b6, of6 + k * 8 + 7, none⟩ = some (.slice ao L[k].sources.length co) := hc6 7 (by decide)
      have hmr := H1.out.1.keep hkr (by simp)
      have ka : Keeps [] wr (wr.alloc (.cells #[.string L[k].id, .int .i64 L[k].mn, .int .i64 L[k].mx, .int .i64 L[k].level, .int .i64 L[k].series, .int .i64 L[k].samples, .slice af L[k].files.length cf, .slice ao L[k].sources.length co] 63)) := (Keeps.refl [] wr).alloc _
      have hlo := (hmr.keep ka (by simp)).run_lookup (P := Tryz.prog) Tryz.underlying30 Tryz.underlying9 (zeroInt _) L[k].id false
      rw [lookVal_int] at hlo
      have hRl : R.length ≤ 20 := by
        have := List.length_filter_le (aliveB L) (L.take k)
        rw [List.length_take] at this
        omega
      have hal : aliveB L L[k] = decide ((look (madeM L) L[k].id).getD 0 = 0) := rfl
      have Hyes := Lib.hid (filter_yes (aliveB L) hlt)
      have Hno := Lib.hid (filter_no (aliveB L) hlt)
      have HR := Lib.hid (And.intro hR1 (And.intro hR2 (And.intro hR3 (And.intro hkr hkw))))
      have hwr := hkr.size
      clear hc6 hvs hR1 hR2 hR3 hmr ka
      generalize aliveB L L[k] = al at hal Hyes Hno
      generalize L[k] = m at d0 d1 d2 d3 d4 d5 d6 d7 hlo hal Hmv Hyes Hno
      generalize (look (madeM L) m.id).getD 0 = c0 at hlo hal
      have Hal := Lib.hid hal
      clear hal
      have hlt' : (k : Int) < (L.length : Int) := by omega
      by_cases hc0 : c0 = 0
      · subst hc0
        have Hy := Lib.hid (Hyes.out (by rw [Hal.out]; rfl))
        clear hkr hkw
        go_wp2_with (at_builtin; refine wpList_append_own _ rfl (.tmp 21) (.tmp 23) 29 rfl w1.heap.size 63 im _ 8 104 Tryz.underlying29 him hzm0 hzm1 hzm2 rfl (by decide) u4 R.length (R.flatMap id) rfl ((HR.out.2.2.1.alloc _).alloc _) ⟨wr.heap.size + 1, 0, none⟩ 1 1 [.string m.id, .int .i64 m.mn, .int .i64 m.mx, .int .i64 m.level, .int .i64 m.series, .int .i64 m.samples, .slice af m.files.length cf, .slice ao m.sources.length co] rfl rfl (news_of (new2 wr _ _).2) (by simp [Value.oneCell']) (by simp only [maxLen]; omega) (by omega) (by simp; omega) ?_; intro v8 w8 hown8 hgrow8 hnil; clear hnil)
        have hk8 : Keeps [] w1 w8 := keeps_grownM ((HR.out.2.2.2.1.alloc _).alloc _) hgrow8 (fun q hq => (World.ownsRow.lt HR.out.2.2.1 q hq).1)
        have H8 := Lib.hid (And.intro (MetaRow.snoc HR.out.1 HR.out.2.1 Hmv.out hown8) hk8)
        clear hown8 hgrow8 hk8
        go_roundg (L.length - (k + 1))
        case measure => have := Hg.out; omega
        case rel => exact ⟨k + 1, by omega, rfl, by go_num, by rw [Hy.out]; exact H8.out.1, H8.out.2⟩
      · have Hn := Lib.hid (Hno.out (by rw [Hal.out]; exact decide_eq_false hc0))
        have hcb : (c0 == 0) = false := by simp [hc0]
        clear hkr hkw
        go_wp2_with fail
        go_roundg (L.length - (k + 1))
        case measure => have := Hg.out; omega
        case rel => exact ⟨k + 1, by omega, rfl, by go_num, by rw [Hn.out]; exact ⟨R, HR.out.1, HR.out.2.1, HR.out.2.2.1.alloc _⟩, HR.out.2.2.2.1.alloc _⟩
    · obtain rfl : k = L.length := by omega
      rw [List.take_length] at hR1 hR2
      have hrow : MetaRow B w1.heap.size w wr u4 (liveL L) := ⟨R, hR1, hR2, hR3⟩
      have He := Lib.hid (And.intro (hrow.metas hkw (by omega)) hkw)
      clear hkr hkw hR1 hR2 hR3 hrow
      go_wp2_with fail
      go_ret
      exact ⟨u4, rfl, He.out.1, He.out.2⟩
end Go.Proofs.YtjffdcflkkgpfaaGreat
