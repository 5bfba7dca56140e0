/-
  Of which blocks others are made (package listing): Shadowed.
  The blocks are few.
-/
import Derived.Test.YthlmlneiehijkaaListFind
namespace Go.Proofs.Ythlmlneiehijkaa
open Go Go.RowKit Go.Conc

def incM (M : PartsM) (s : ByteArray) : PartsM := put M s ((look M s).getD 0 + 1)

def madeM (L : List MetaS) : PartsM := (L.flatMap (·.sources)).foldl incM []

theorem inc_count (s : ByteArray) : ∀ (S : List ByteArray) (M : PartsM), (∀ t, 0 ≤ (look M t).getD 0) → (look (S.foldl incM M) s).getD 0 = (look M s).getD 0 + (S.filter fun x => decide (x = s)).length
  | [], M, _ => by simp
  | x :: S, M, h => by
    have h2 : ∀ t, 0 ≤ (look (incM M x) t).getD 0 := fun t => by
      unfold incM
      rw [look_put]
      split
      · have := h x; simp only [Option.getD_some]; omega
      · exact h t
    rw [List.foldl_cons, inc_count s S _ h2]
    unfold incM
    rw [look_put]
    by_cases e : s = x
    · subst e
      simp
      omega
    · have e2 : ¬ x = s := fun h => e h.symm
      simp [e, e2]

theorem inc_le (S : List ByteArray) (s : ByteArray) : 0 ≤ (look (S.foldl incM []) s).getD 0 ∧ (look (S.foldl incM []) s).getD 0 ≤ S.length := by
  rw [inc_count s S [] (by simp [look])]
  have := List.length_filter_le (fun x => decide (x = s)) S
  simp [look]
  omega

def MadeRel (w W1 : World) (mo : Nat) (L : List MetaS) (gk : Nat) (u : Value) (wr : World) : Prop :=
  ∃ k, k ≤ L.length ∧ gk = L.length - k ∧ u = .int .i64 k ∧ MapAt wr mo (encMap encI (madeM (L.take k))) ∧ Keeps [mo] W1 wr ∧ Keeps [] w wr

def MadeRel2 (w W1 : World) (mo : Nat) (S0 S : List ByteArray) (gk : Nat) (u : Value) (wr : World) : Prop :=
  ∃ j, j ≤ S.length ∧ gk = S.length - j ∧ u = .int .i64 j ∧ MapAt wr mo (encMap encI ((S0 ++ S.take j).foldl incM [])) ∧ Keeps [mo] W1 wr ∧ Keeps [] w wr

def MadePost (w : World) (L : List MetaS) (e : Ending) (w' : World) : Prop := ∃ mo, e = .returned (.map (some mo)) ∧ w.heap.size ≤ mo ∧ MapAt w' mo (encMap encI (madeM L)) ∧ Keeps [] w w'

set_option linter.unusedSimpArgs false in
set_option maxRecDepth 100000 in
set_option maxHeartbeats 4000000 in
theorem made_spec (B : Nat) (w : World) (at_ : Int) (mp : Option Nat) (v : Value) (L : List MetaS) (hL : MetasV B w v L) (hl : L.length ≤ 20) (hsr : ∀ m ∈ L, m.sources.length ≤ 50) :
    Calls Try.prog 18 #[.agg #[.int .i64 at_, v, .map mp]] w (MadePost w L) := by
  obtain ⟨VS, hV1, hV2, hV3⟩ := hL
  have Hv := Lib.hid (And.intro hV1 (And.intro hV2 hV3))
  obtain ⟨av, cv, rfl, -, -, -, -⟩ := hV1
  rw [hV2]
  have Hsr := Lib.hid hsr
  have hmm := @run_makeMap Try.prog
  have n0 := heap_new w (.cells #[.int .i64 at_, .slice av L.length cv, .map mp] 29)
  have k0 : Keeps [] w (w.alloc (.cells #[.int .i64 at_, .slice av L.length cv, .map mp] 29)) := (Keeps.refl [] w).alloc _
  have m1 := mapAt_new (w.alloc (.cells #[.int .i64 at_, .slice av L.length cv, .map mp] 29))
  have k1 : Keeps [] (w.alloc (.cells #[.int .i64 at_, .slice av L.length cv, .map mp] 29)) ((w.alloc (.cells #[.int .i64 at_, .slice av L.length cv, .map mp] 29)).alloc (.map #[] 0)) := (Keeps.refl [] _).alloc _
  have n1 := k1.at_ n0 (by simp)
  have hz : (w.alloc (.cells #[.int .i64 at_, .slice av L.length cv, .map mp] 29)).heap.size = w.heap.size + 1 := by simp
  rw [hz] at m1
  obtain ⟨mo, hmo⟩ : ∃ n, n = w.heap.size + 1 := ⟨_, rfl⟩
  have hle : w.heap.size ≤ mo := by omega
  rw [← hmo] at m1
  have Hmo := Lib.hid hmo
  have H0 := Lib.hid (And.intro m1 (k0.trans k1))
  clear hV2 hV3 hsr n0 k0 m1 k1 hmo
  have c1 := cells_at n1
  have l1 := lt_of_at n1
  clear n1
  go_enter Try.func18, Try.ntmps18
  go_upto_region 2 with fail
  rw [← Hmo.out]
  generalize (w.alloc (.cells #[.int .i64 at_, .slice av L.length cv, .map mp] 29)).alloc (.map #[] 0) = W1 at c1 l1 H0 ⊢
  clear Hmo hz hmm
  go_wp2_with fail
  clear c1 l1
  go_loopg [12] L.length (MadeRel w W1 mo L)
  case atStart => exact ⟨0, Nat.zero_le _, rfl, rfl, H0.out.1, Keeps.refl _ _, H0.out.2⟩
  case round =>
    obtain ⟨k, hk, hgk, rfl, hmr, hk1, hkw⟩ := hrel
    clear H0
    have Hg := Lib.hid hgk
    clear hgk
    by_cases hlt : k < L.length
    · obtain ⟨b6, of6, ea, -, hb6, hc6⟩ := (Hv.out.1.keep hkw (by simp)).atI k (by rw [Hv.out.2.1]; exact hlt)
      subst ea
      obtain ⟨vf, vo, hvs, hsf, hso⟩ := Hv.out.2.2 k (by rw [Hv.out.2.1]; exact hlt) hlt
      have Hso := Lib.hid hso
      obtain ⟨af, cf, rfl, -, -, -, -⟩ := hsf
      obtain ⟨ao, co, rfl, -, -, -, -⟩ := hso
      rw [hvs] at hc6
      have d0 : wr.cell? ⟨b6, of6 + k * 8, none⟩ = some (.string L[k].id) := hc6 0 (by decide)
      have d1 : wr.cell? ⟨b6, of6 + k * 8 + 1, none⟩ = some (.int .i64 L[k].mn) := hc6 1 (by decide)
      have d2 : wr.cell? ⟨b6, of6 + k * 8 + 2, none⟩ = some (.int .i64 L[k].mx) := hc6 2 (by decide)
      have d3 : wr.cell? ⟨b6, of6 + k * 8 + 3, none⟩ = some (.int .i64 L[k].level) := hc6 3 (by decide)
      have d4 : wr.cell? ⟨b6, of6 + k * 8 + 4, none⟩ = some (.int .i64 L[k].series) := hc6 4 (by decide)
      have d5 : wr.cell? ⟨b6, of6 + k * 8 + 5, none⟩ = some (.int .i64 L[k].samples) := hc6 5 (by decide)
      have d6 : wr.cell? ⟨b6, of6 + k * 8 + 6, none⟩ = some (.slice af L[k].files.length cf) := hc6 6 (by decide)
      have d7 : wr.cell? ⟨b6, of6 + k * 8 + 7, none⟩ = some (.slice ao L[k].sources.length co) := hc6 7 (by decide)
      have hns := Hsr.out L[k] (List.getElem_mem _)
      have Hnx : Hid (madeM (L.take (k + 1)) = (((L.take k).flatMap (·.sources)) ++ L[k].sources).foldl incM []) := Lib.hid (by unfold madeM; rw [List.take_succ_eq_append_getElem hlt, List.flatMap_append]; simp)
      have hS0l : ((L.take k).flatMap (·.sources)).length ≤ 50 * 20 := by
        have h1 : ∀ (Q : List MetaS), (∀ m ∈ Q, m.sources.length ≤ 50) → (Q.flatMap (·.sources)).length ≤ 50 * Q.length := by
          intro Q
          induction Q with
          | nil => simp
          | cons q Q ih =>
            intro hq
            have h2 := hq q (by simp)
            have h3 := ih fun m hm => hq m (by simp [hm])
            simp only [List.flatMap_cons, List.length_append, List.length_cons, Nat.mul_add]
            omega
        have h2 := h1 (L.take k) (fun m hm => Hsr.out m (List.mem_of_mem_take hm))
        rw [List.length_take] at h2
        omega
      have hmr0 : MapAt wr mo (encMap encI (((L.take k).flatMap (·.sources)).foldl incM [])) := hmr
      clear hc6 hvs hmr
      generalize (L.take k).flatMap (·.sources) = S0 at hmr0 Hnx hS0l
      generalize L[k] = m at d0 d1 d2 d3 d4 d5 d6 d7 hns Hnx Hso
      have hlt' : (k : Int) < (L.length : Int) := by omega
      have ka : Keeps [] wr (wr.alloc (.cells #[.string m.id, .int .i64 m.mn, .int .i64 m.mx, .int .i64 m.level, .int .i64 m.series, .int .i64 m.samples, .slice af m.files.length cf, .slice ao m.sources.length co] 56)) := (Keeps.refl [] wr).alloc _
      have HR := Lib.hid (And.intro (hmr0.keep ka (by simp)) (And.intro (hk1.trans (ka.mono (by simp))) (hkw.trans ka)))
      clear hmr0 hk1 hkw ka
      go_wp2_with fail
      clear d0 d1 d2 d3 d4 d5 d6 d7
      go_loopg [19] m.sources.length (MadeRel2 w W1 mo S0 m.sources)
      case atStart => exact ⟨0, Nat.zero_le _, rfl, rfl, by simpa using HR.out.1, HR.out.2⟩
      case round =>
        obtain ⟨j, hj, hgj, rfl, hmj, hk1, hkw⟩ := hrel
        clear HR
        have Hgj := Lib.hid hgj
        clear hgj
        by_cases hltj : j < m.sources.length
        · obtain ⟨b7, of7, ea, -, hb7, hc7⟩ := (Hso.out.keep hkw (by simp)).atI j hltj
          subst ea
          have d7 : wr.cell? ⟨b7, of7 + j, none⟩ = some (.string m.sources[j]) := by simpa [encS1m] using hc7 0 (by decide)
          have hltj' : (j : Int) < (m.sources.length : Int) := by omega
          have Hnj : Hid ((S0 ++ m.sources.take (j + 1)).foldl incM [] = put ((S0 ++ m.sources.take j).foldl incM []) m.sources[j] ((look ((S0 ++ m.sources.take j).foldl incM []) m.sources[j]).getD 0 + 1)) := Lib.hid (by rw [List.take_succ_eq_append_getElem hltj, ← List.append_assoc, List.foldl_append]; rfl)
          have hib := inc_le (S0 ++ m.sources.take j) m.sources[j]
          have hil : (S0 ++ m.sources.take j).length ≤ 2000 := by rw [List.length_append, List.length_take]; omega
          generalize m.sources[j] = sj at d7 Hnj hib
          generalize (S0 ++ m.sources.take j).foldl incM [] = M at hmj Hnj hib
          have hlo := hmj.run_lookup (P := Try.prog) Try.underlying24 Try.underlying9 (zeroInt _) sj false
          rw [lookVal_int] at hlo
          generalize (look M sj).getD 0 = c0 at hlo Hnj hib
          have hadd : IntKind.i64.wrap (c0 + 1) = c0 + 1 := IntWalk.i64_in _ (by omega)
          have Hk := Lib.hid (And.intro hk1 hkw)
          clear hc7 hk1 hkw
          go_wp2_with (refine wpList_update_str _ rfl (.tmp 23) (.tmp 24) (.tmp 26) _ _ _ rfl Try.underlying24 Try.underlying9 mo (encMap encI M) sj (encI (c0 + 1)) (by rfl) (by rfl) (by rfl) hmj ?_; intro w5 hm5 hk5)
          rw [put_enc] at hm5
          have H5 := Lib.hid (And.intro hm5 (And.intro (Hk.out.1.trans hk5) (Hk.out.2.after hk5 (fun x hx => .inr (by simp only [List.mem_singleton] at hx; omega)))))
          clear hm5 hk5
          go_wp2_with fail
          go_roundg (m.sources.length - (j + 1))
          case measure => have := Hgj.out; omega
          case rel => exact ⟨j + 1, by omega, rfl, by go_num, by rw [Hnj.out]; exact H5.out.1, H5.out.2⟩
        · obtain rfl : j = m.sources.length := by omega
          rw [List.take_length] at hmj
          have He := Lib.hid (And.intro hmj (And.intro hk1 hkw))
          have hge : ¬ (m.sources.length : Int) < (m.sources.length : Int) := by omega
          clear hmj hk1 hkw
          go_wp2_with fail
          go_roundg (L.length - (k + 1))
          case measure => have := Hg.out; omega
          case rel => exact ⟨k + 1, by omega, rfl, by go_num, by rw [Hnx.out]; exact He.out.1, He.out.2⟩
    · obtain rfl : k = L.length := by omega
      rw [List.take_length] at hmr
      have He := Lib.hid (And.intro hmr hkw)
      clear hmr hk1 hkw
      go_wp2_with fail
      go_ret
      exact ⟨mo, rfl, hle, He.out.1, He.out.2⟩
end Go.Proofs.Ythlmlneiehijkaa
