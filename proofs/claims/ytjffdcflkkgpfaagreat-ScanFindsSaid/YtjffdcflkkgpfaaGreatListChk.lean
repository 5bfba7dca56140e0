/-
  Check of a listing that may be (package listing).
  The blocks are few.
-/
import Derived.Test.YtjffdcflkkgpfaaGreatListMade
import Derived.Test.YtjffdcflkkgpfaaGreatMapRange
namespace Go.Proofs.YtjffdcflkkgpfaaGreat
open Go Go.RowKit Go.Conc Go.Maps
open Go.Op (bytesLess)

theorem enc_snocM {α : Type} (enc : α → Value) (D : List (ByteArray × α)) (n : ByteArray) (x : α) : encMap enc D ++ [(n, enc x)] = encMap enc (D ++ [(n, x)]) := by simp [encMap]

structure ListOk (at_ : Nat) (L : List MetaS) (M : PartsM) : Prop where
  at_ : at_ ≤ 1099511627776
  few : L.length ≤ 20
  ok : ∀ m ∈ L, MetaOk m
  rise : L.Pairwise fun a b => bytesLess a.id.data.toList b.id.data.toList = true
  marks : ∀ p ∈ M, (∃ m ∈ L, m.id = p.1) ∧ 0 ≤ p.2 ∧ p.2 ≤ 1099511627776
  mfew : M.length ≤ 1000

def LChkRel (W0 : World) (n gk : Nat) (u : Value) (wr : World) : Prop := ∃ k, k ≤ n ∧ gk = n - k ∧ u = .int .i64 k ∧ Keeps [] W0 wr

def LChkRel2 (w : World) (mb r : Nat) (M : PartsM) (gk : Nat) (wr : World) : Prop :=
  ∃ D : PartsM, Ranging Tryz.prog 9 wr mb r (encMap encI M) (encMap encI D) gk ∧ Keeps [] w wr

set_option linter.unusedSimpArgs false in
set_option maxRecDepth 100000 in
set_option maxHeartbeats 4000000 in
theorem listCheck_spec (B : Nat) (w : World) (at_ mb : Nat) (v : Value) (L : List MetaS) (M : PartsM) (hL : MetasV B w v L) (hM : MapAt w mb (encMap encI M)) (ok : ListOk at_ L M) :
    Calls Tryz.prog 14 #[.agg #[.int .i64 at_, v, .map (some mb)]] w fun e w' => e = .returned (.int .i64 0) ∧ Keeps [] w w' := by
  have HL := Lib.hid hL
  obtain ⟨VS, hV1, hV2, hV3⟩ := hL
  have Hv := Lib.hid (And.intro hV1 (And.intro hV2 hV3))
  obtain ⟨av, cv, rfl, -, -, -, -⟩ := hV1
  rw [hV2] at HL ⊢
  have hfew := ok.few
  have hat := ok.at_
  have g1 : ¬ (at_ : Int) < 0 := by omega
  have g2 : ¬ (at_ : Int) > 1099511627776 := by omega
  have g3 : ¬ (L.length : Int) > 5000 := by omega
  have n0 := heap_new w (.cells #[.int .i64 at_, .slice av L.length cv, .map (some mb)] 32)
  have k0 : Keeps [] w (w.alloc (.cells #[.int .i64 at_, .slice av L.length cv, .map (some mb)] 32)) := (Keeps.refl [] w).alloc _
  have H0 := Lib.hid (And.intro n0 (And.intro k0 (And.intro ok hM)))
  clear hV2 hV3 n0 k0 ok hM
  go_enter Tryz.func14, Tryz.ntmps14
  go_wp2_with fail
  generalize hW0 : w.alloc (.cells #[.int .i64 at_, .slice av L.length cv, .map (some mb)] 32) = W0 at H0 ⊢
  clear hW0
  generalize hlb : w.heap.size = lb at H0 ⊢
  clear hlb
  go_loopg [26] L.length (LChkRel W0 L.length)
  case atStart => exact ⟨0, Nat.zero_le _, rfl, rfl, Keeps.refl _ _⟩
  case round =>
    obtain ⟨k, hk, hgk, rfl, hkr⟩ := hrel
    have Hg := Lib.hid hgk
    clear hgk
    have hkw := H0.out.2.1.trans hkr
    have nb := hkr.at_ H0.out.1 (by simp)
    have cb := cells_at nb
    have lb' := lt_of_at nb
    by_cases hlt : k < L.length
    · obtain ⟨b6, of6, ea, -, hb6, hc6⟩ := (Hv.out.1.keep hkw (by simp)).atI k (by rw [Hv.out.2.1]; exact hlt)
      subst ea
      have Hmv := Lib.hid ((Hv.out.2.2 k (by rw [Hv.out.2.1]; exact hlt) hlt).same hkw)
      obtain ⟨vf, vo, hvs, hsf, hso⟩ := Hv.out.2.2 k (by rw [Hv.out.2.1]; exact hlt) hlt
      obtain ⟨af, cf, rfl, -, -, -, -⟩ := hsf
      obtain ⟨ao, co, rfl, -, -, -, -⟩ := hso
      rw [hvs] at hc6 Hmv
      have d0 : wr.cell? ⟨b6, of6 + k * 8, none⟩ = some (.string L[k].id) := hc6 0 (by decide)
      have d1 : wr.cell? ⟨b6, of6 + k * 8 + 1, none⟩ = some (.int .i64 L[k].mn) := hc6 1 (by decide)
      have d2 : wr.cell? ⟨b6, of6 + k * 8 + 2, none⟩ = some (.int .i64 L[k].mx) := hc6 2 (by decide)
      have d3 : wr.cell? ⟨b6, of6 + k * 8 + 3, none⟩ = some (.int .i64 L[k].level) := hc6 3 (by decide)
      have d4 : wr.cell? ⟨b6, of6 + k * 8 + 4, none⟩ = some (.int .i64 L[k].series) := hc6 4 (by decide)
      have d5 : wr.cell? ⟨b6, of6 + k * 8 + 5, none⟩ = some (.int .i64 L[k].samples) := hc6 5 (by decide)
      have d6 : wr.cell? ⟨b6, of6 + k * 8 + 6, none⟩ = some (.slice af L[k].files.length cf) := hc6 6 (by decide)
      have d7 : wr.cell? ⟨b6, of6 + k * 8 + 7, none⟩ = some (.slice ao L[k].sources.length co) := hc6 7 (by decide)
      have Hok := Lib.hid (H0.out.2.2.1.ok L[k] (List.getElem_mem _))
      have hlt' : (k : Int) < (L.length : Int) := by omega
      have Hpv : Hid (∀ (h0 : 0 < k), ∃ s : ByteArray, wr.cell? ⟨b6, of6 + (k - 1) * 8, none⟩ = some (.string s) ∧ bytesLess s.toList L[k].id.toList = true) := Lib.hid fun h0 => by
        obtain ⟨b7, of7, ea, -, hb7, hc7⟩ := (Hv.out.1.keep hkw (by simp)).atI (k - 1) (by rw [Hv.out.2.1]; omega)
        injection ea with ea
        injection ea with e1 e2 _
        subst e1 e2
        obtain ⟨vf7, vo7, hvs7, -, -⟩ := Hv.out.2.2 (k - 1) (by rw [Hv.out.2.1]; omega) (by omega)
        rw [hvs7] at hc7
        have h8 := List.pairwise_iff_getElem.1 H0.out.2.2.1.rise (k - 1) k (by omega) hlt (by omega)
        rw [← ByteArray.toList_eq, ← ByteArray.toList_eq] at h8
        exact ⟨_, hc7 0 (by decide), h8⟩
      clear hc6 hvs
      generalize L[k] = m at d0 d1 d2 d3 d4 d5 d6 d7 Hmv Hok Hpv
      have ka : Keeps [] wr (wr.alloc (.cells #[.string m.id, .int .i64 m.mn, .int .i64 m.mx, .int .i64 m.level, .int .i64 m.series, .int .i64 m.samples, .slice af m.files.length cf, .slice ao m.sources.length co] 63)) := (Keeps.refl [] wr).alloc _
      have na := heap_new wr (.cells #[.string m.id, .int .i64 m.mn, .int .i64 m.mx, .int .i64 m.level, .int .i64 m.series, .int .i64 m.samples, .slice af m.files.length cf, .slice ao m.sources.length co] 63)
      have na2 := ka.at_ nb (by simp)
      have HK := Lib.hid (And.intro na (And.intro na2 (And.intro (Hmv.out.same ka) (hkr.trans ka))))
      have Hp2 := Lib.hid (fun h0 => by
        obtain ⟨s, h1, h2⟩ := Hpv.out h0
        exact (⟨s, (ka.cell hb6 (by simp)).trans h1, h2⟩ : ∃ s : ByteArray, (wr.alloc (.cells #[.string m.id, .int .i64 m.mn, .int .i64 m.mx, .int .i64 m.level, .int .i64 m.series, .int .i64 m.samples, .slice af m.files.length cf, .slice ao m.sources.length co] 63)).cell? ⟨b6, of6 + (k - 1) * 8, none⟩ = some (.string s) ∧ bytesLess s.toList m.id.toList = true))
      have hb6a := ka.lt hb6
      clear na na2 ka nb cb lb' hkr hkw Hpv
      go_upto_region 6 with fail
      clear d0 d1 d2 d3 d4 d5 d6 d7
      generalize wr.alloc (.cells #[.string m.id, .int .i64 m.mn, .int .i64 m.mx, .int .i64 m.level, .int .i64 m.series, .int .i64 m.samples, .slice af m.files.length cf, .slice ao m.sources.length co] 63) = W2 at HK Hp2 hb6a ⊢
      generalize wr.heap.size = bx at HK ⊢
      have cx := cells_at HK.out.1
      have lx := lt_of_at HK.out.1
      have cl := cells_at HK.out.2.1
      have ll := lt_of_at HK.out.2.1
      have x0 : W2.cell? ⟨bx, 0, none⟩ = some (.string m.id) := by rw [cx]; rfl
      have x1 : W2.cell? ⟨bx, 1, none⟩ = some (.int .i64 m.mn) := by rw [cx]; rfl
      have x2 : W2.cell? ⟨bx, 2, none⟩ = some (.int .i64 m.mx) := by rw [cx]; rfl
      have x3 : W2.cell? ⟨bx, 3, none⟩ = some (.int .i64 m.level) := by rw [cx]; rfl
      have x4 : W2.cell? ⟨bx, 4, none⟩ = some (.int .i64 m.series) := by rw [cx]; rfl
      have x5 : W2.cell? ⟨bx, 5, none⟩ = some (.int .i64 m.samples) := by rw [cx]; rfl
      have x6 : W2.cell? ⟨bx, 6, none⟩ = some (.slice af m.files.length cf) := by rw [cx]; rfl
      have x7 : W2.cell? ⟨bx, 7, none⟩ = some (.slice ao m.sources.length co) := by rw [cx]; rfl
      have x8 : W2.cell? ⟨lb, 1, none⟩ = some (.slice (some ⟨b6, of6, none⟩) L.length cv) := by rw [cl]; rfl
      have kd : Keeps [] W2 W2.drew := (Keeps.refl [] W2).drew
      have Hck := Lib.hid (metaCheck_spec B W2.drew _ m (HK.out.2.2.1.same kd) Hok.out)
      rcases Nat.eq_zero_or_pos k with h0 | h0
      · subst h0
        refine wp_region_held_drew (S := fun w' => w'.cell? ⟨bx, 0, none⟩ = some (.string m.id) ∧ w'.cell? ⟨bx, 1, none⟩ = some (.int .i64 m.mn) ∧ w'.cell? ⟨bx, 2, none⟩ = some (.int .i64 m.mx) ∧ w'.cell? ⟨bx, 3, none⟩ = some (.int .i64 m.level) ∧ w'.cell? ⟨bx, 4, none⟩ = some (.int .i64 m.series) ∧ w'.cell? ⟨bx, 5, none⟩ = some (.int .i64 m.samples) ∧ w'.cell? ⟨bx, 6, none⟩ = some (.slice af m.files.length cf) ∧ w'.cell? ⟨bx, 7, none⟩ = some (.slice ao m.sources.length co) ∧ w'.cell? ⟨lb, 1, none⟩ = some (.slice (some ⟨b6, of6, none⟩) L.length cv)) (by kernel_rfl) ⟨x0, x1, x2, x3, x4, x5, x6, x7, x8⟩ (fun hS => ?_)
        refine wpAnyH_take (i := 0) (v := ?_) rfl (by kernel_rfl) (by kernel_rfl) (by kernel_rfl) (fun _ _ _ h => h) (Or.inl ⟨by rfl, ?_⟩) (by assumption) ?_
        rotate_left
        · intro w' hSw; obtain ⟨s1, s2, s3, s4, s5, s6, s7, s8, s9⟩ := hSw; go_simp; (try with_reducible rfl)
        simp only [Act.put, List.getElem_toArray, List.getElem_cons_succ, List.getElem_cons_zero, List.setIfInBounds_toArray, List.set_cons_zero, List.set_cons_succ]
        refine wpAnyH_ready (rs := [1]) (by kernel_rfl) (by simp) ?_
        refine AllReadyH.cons rfl (fun K hK => ?_) AllReadyH.nil
        go_simp
        go_at_call 53
        refine Hck.out.mono ?_
        rintro e w5 ⟨rfl, hk5⟩
        have k5 := kd.trans hk5
        have y0 := (k5.cell lx (by simp)).trans x0
        have y1 := (k5.cell lx (by simp)).trans x1
        have y2 := (k5.cell lx (by simp)).trans x2
        have y3 := (k5.cell lx (by simp)).trans x3
        have y4 := (k5.cell lx (by simp)).trans x4
        have y5 := (k5.cell lx (by simp)).trans x5
        have y6 := (k5.cell lx (by simp)).trans x6
        have y7 := (k5.cell lx (by simp)).trans x7
        have y8 := (k5.cell ll (by simp)).trans x8
        have H5 := Lib.hid (HK.out.2.2.2.trans k5)
        go_simp
        refine hK.out _ _ ⟨y0, y1, y2, y3, y4, y5, y6, y7, y8⟩ (fun hS => ?_)
        clear hK K hk5 k5
        try simp only [Act.put, List.getElem_toArray, List.getElem_cons_succ, List.getElem_cons_zero, List.setIfInBounds_toArray, List.set_cons_zero, List.set_cons_succ]
        refine wpAnyH_take (i := 2) (v := ?_) rfl (by kernel_rfl) (by kernel_rfl) (by kernel_rfl) (fun _ _ _ h => h) (Or.inl ⟨by rfl, ?_⟩) (by assumption) ?_
        rotate_left
        · intro w' hSw; obtain ⟨s1, s2, s3, s4, s5, s6, s7, s8, s9⟩ := hSw; go_simp; (try with_reducible rfl)
        simp only [Act.put, List.getElem_toArray, List.getElem_cons_succ, List.getElem_cons_zero, List.setIfInBounds_toArray, List.set_cons_zero, List.set_cons_succ]
        refine wpAnyH_take (i := 3) (v := ?_) rfl (by kernel_rfl) (by kernel_rfl) (by kernel_rfl) (fun _ _ _ h => h) (Or.inl ⟨by rfl, ?_⟩) (by assumption) ?_
        rotate_left
        · intro w' hSw; obtain ⟨s1, s2, s3, s4, s5, s6, s7, s8, s9⟩ := hSw; go_simp; (try with_reducible rfl)
        simp only [Act.put, List.getElem_toArray, List.getElem_cons_succ, List.getElem_cons_zero, List.setIfInBounds_toArray, List.set_cons_zero, List.set_cons_succ]
        refine wpAnyH_take (i := 4) (v := ?_) rfl (by kernel_rfl) (by kernel_rfl) (by kernel_rfl) (fun _ _ _ h => h) (Or.inl ⟨by rfl, ?_⟩) (by assumption) ?_
        rotate_left
        · intro w' hSw; obtain ⟨s1, s2, s3, s4, s5, s6, s7, s8, s9⟩ := hSw; go_simp; (try with_reducible rfl)
        simp only [Act.put, List.getElem_toArray, List.getElem_cons_succ, List.getElem_cons_zero, List.setIfInBounds_toArray, List.set_cons_zero, List.set_cons_succ]
        refine wpAnyH_take (i := 5) (v := ?_) rfl (by kernel_rfl) (by kernel_rfl) (by kernel_rfl) (fun _ _ _ h => h) (Or.inl ⟨by rfl, ?_⟩) (by assumption) ?_
        rotate_left
        · intro w' hSw; obtain ⟨s1, s2, s3, s4, s5, s6, s7, s8, s9⟩ := hSw; go_simp; (try with_reducible rfl)
        simp only [Act.put, List.getElem_toArray, List.getElem_cons_succ, List.getElem_cons_zero, List.setIfInBounds_toArray, List.set_cons_zero, List.set_cons_succ]
        refine wpAnyH_take (i := 6) (v := ?_) rfl (by kernel_rfl) (by kernel_rfl) (by kernel_rfl) (fun _ _ _ h => h) (Or.inl ⟨by rfl, ?_⟩) (by assumption) ?_
        rotate_left
        · intro w' hSw; obtain ⟨s1, s2, s3, s4, s5, s6, s7, s8, s9⟩ := hSw; go_simp; (try with_reducible rfl)
        simp only [Act.put, List.getElem_toArray, List.getElem_cons_succ, List.getElem_cons_zero, List.setIfInBounds_toArray, List.set_cons_zero, List.set_cons_succ]
        refine wpAnyH_take (i := 7) (v := undef) rfl (by kernel_rfl) (by kernel_rfl) (by kernel_rfl) (fun _ _ _ h => h) (Or.inr ⟨by rfl, rfl⟩) (by assumption) ?_
        simp only [Act.put, List.getElem_toArray, List.getElem_cons_succ, List.getElem_cons_zero, List.setIfInBounds_toArray, List.set_cons_zero, List.set_cons_succ]
        refine wpAnyH_take (i := 8) (v := undef) rfl (by kernel_rfl) (by kernel_rfl) (by kernel_rfl) (fun _ _ _ h => h) (Or.inr ⟨by rfl, rfl⟩) (by assumption) ?_
        simp only [Act.put, List.getElem_toArray, List.getElem_cons_succ, List.getElem_cons_zero, List.setIfInBounds_toArray, List.set_cons_zero, List.set_cons_succ]
        refine wpAnyH_take (i := 9) (v := undef) rfl (by kernel_rfl) (by kernel_rfl) (by kernel_rfl) (fun _ _ _ h => h) (Or.inr ⟨by rfl, rfl⟩) (by assumption) ?_
        simp only [Act.put, List.getElem_toArray, List.getElem_cons_succ, List.getElem_cons_zero, List.setIfInBounds_toArray, List.set_cons_zero, List.set_cons_succ]
        refine wpAnyH_take (i := 10) (v := undef) rfl (by kernel_rfl) (by kernel_rfl) (by kernel_rfl) (fun _ _ _ h => h) (Or.inr ⟨by rfl, rfl⟩) (by assumption) ?_
        simp only [Act.put, List.getElem_toArray, List.getElem_cons_succ, List.getElem_cons_zero, List.setIfInBounds_toArray, List.set_cons_zero, List.set_cons_succ]
        refine wpAnyH_take (i := 11) (v := undef) rfl (by kernel_rfl) (by kernel_rfl) (by kernel_rfl) (fun _ _ _ h => h) (Or.inr ⟨by rfl, rfl⟩) (by assumption) ?_
        simp only [Act.put, List.getElem_toArray, List.getElem_cons_succ, List.getElem_cons_zero, List.setIfInBounds_toArray, List.set_cons_zero, List.set_cons_succ]
        refine wpAnyH_take (i := 12) (v := undef) rfl (by kernel_rfl) (by kernel_rfl) (by kernel_rfl) (fun _ _ _ h => h) (Or.inr ⟨by rfl, rfl⟩) (by assumption) ?_
        simp only [Act.put, List.getElem_toArray, List.getElem_cons_succ, List.getElem_cons_zero, List.setIfInBounds_toArray, List.set_cons_zero, List.set_cons_succ]
        refine wpAnyH_take (i := 13) (v := undef) rfl (by kernel_rfl) (by kernel_rfl) (by kernel_rfl) (fun _ _ _ h => h) (Or.inr ⟨by rfl, rfl⟩) (by assumption) ?_
        simp only [Act.put, List.getElem_toArray, List.getElem_cons_succ, List.getElem_cons_zero, List.setIfInBounds_toArray, List.set_cons_zero, List.set_cons_succ]
        refine wpAnyH_take (i := 14) (v := undef) rfl (by kernel_rfl) (by kernel_rfl) (by kernel_rfl) (fun _ _ _ h => h) (Or.inr ⟨by rfl, rfl⟩) (by assumption) ?_
        simp only [Act.put, List.getElem_toArray, List.getElem_cons_succ, List.getElem_cons_zero, List.setIfInBounds_toArray, List.set_cons_zero, List.set_cons_succ]
        refine wpAnyH_take (i := 15) (v := undef) rfl (by kernel_rfl) (by kernel_rfl) (by kernel_rfl) (fun _ _ _ h => h) (Or.inr ⟨by rfl, rfl⟩) (by assumption) ?_
        simp only [Act.put, List.getElem_toArray, List.getElem_cons_succ, List.getElem_cons_zero, List.setIfInBounds_toArray, List.set_cons_zero, List.set_cons_succ]
        refine wpAnyH_take (i := 16) (v := undef) rfl (by kernel_rfl) (by kernel_rfl) (by kernel_rfl) (fun _ _ _ h => h) (Or.inr ⟨by rfl, rfl⟩) (by assumption) ?_
        simp only [Act.put, List.getElem_toArray, List.getElem_cons_succ, List.getElem_cons_zero, List.setIfInBounds_toArray, List.set_cons_zero, List.set_cons_succ]
        refine wpAnyH_take (i := 17) (v := ?_) rfl (by kernel_rfl) (by kernel_rfl) (by kernel_rfl) (fun _ _ _ h => h) (Or.inl ⟨by rfl, ?_⟩) (by assumption) ?_
        rotate_left
        · intro w' hSw; obtain ⟨s1, s2, s3, s4, s5, s6, s7, s8, s9⟩ := hSw; go_simp; (try with_reducible rfl)
        simp only [Act.put, List.getElem_toArray, List.getElem_cons_succ, List.getElem_cons_zero, List.setIfInBounds_toArray, List.set_cons_zero, List.set_cons_succ]
        refine wpAnyH_take (i := 18) (v := ?_) rfl (by kernel_rfl) (by kernel_rfl) (by kernel_rfl) (fun _ _ _ h => h) (Or.inl ⟨by rfl, ?_⟩) (by assumption) ?_
        rotate_left
        · intro w' hSw; obtain ⟨s1, s2, s3, s4, s5, s6, s7, s8, s9⟩ := hSw; go_simp; (try with_reducible rfl)
        simp only [Act.put, List.getElem_toArray, List.getElem_cons_succ, List.getElem_cons_zero, List.setIfInBounds_toArray, List.set_cons_zero, List.set_cons_succ]
        refine wpAnyH_done (by kernel_rfl) ?_ _
        clear hS
        clear y0 x0 y1 x1 y2 x2 y3 x3 y4 x4 y5 x5 y6 x6 y7 x7 y8 x8
        go_wp2_with fail
        go_roundg (L.length - 1)
        case measure => have := Hg.out; omega
        case rel => exact ⟨1, by omega, rfl, rfl, H5.out⟩
      · obtain ⟨sp, x9, hris⟩ := Hp2.out h0
        have hleq := leq_false hris
        have hpos : (k : Int) > 0 := by omega
        have hsub : IntKind.i64.wrap ((k : Int) - 1) = ((k - 1 : Nat) : Int) := by rw [IntWalk.i64_in _ (by omega)]; omega
        have hlt8 : ((k - 1 : Nat) : Int) < (L.length : Int) := by omega
        have hge8 : (0 : Int) ≤ ((k - 1 : Nat) : Int) := by omega
        generalize k - 1 = jp at x9 hsub hlt8 hge8
        refine wp_region_held_drew (S := fun w' => w'.cell? ⟨bx, 0, none⟩ = some (.string m.id) ∧ w'.cell? ⟨bx, 1, none⟩ = some (.int .i64 m.mn) ∧ w'.cell? ⟨bx, 2, none⟩ = some (.int .i64 m.mx) ∧ w'.cell? ⟨bx, 3, none⟩ = some (.int .i64 m.level) ∧ w'.cell? ⟨bx, 4, none⟩ = some (.int .i64 m.series) ∧ w'.cell? ⟨bx, 5, none⟩ = some (.int .i64 m.samples) ∧ w'.cell? ⟨bx, 6, none⟩ = some (.slice af m.files.length cf) ∧ w'.cell? ⟨bx, 7, none⟩ = some (.slice ao m.sources.length co) ∧ w'.cell? ⟨lb, 1, none⟩ = some (.slice (some ⟨b6, of6, none⟩) L.length cv) ∧ w'.cell? ⟨b6, of6 + jp * 8, none⟩ = some (.string sp)) (by kernel_rfl) ⟨x0, x1, x2, x3, x4, x5, x6, x7, x8, x9⟩ (fun hS => ?_)
        refine wpAnyH_take (i := 0) (v := ?_) rfl (by kernel_rfl) (by kernel_rfl) (by kernel_rfl) (fun _ _ _ h => h) (Or.inl ⟨by rfl, ?_⟩) (by assumption) ?_
        rotate_left
        · intro w' hSw; obtain ⟨s1, s2, s3, s4, s5, s6, s7, s8, s9, s10⟩ := hSw; go_simp; (try with_reducible rfl)
        simp only [Act.put, List.getElem_toArray, List.getElem_cons_succ, List.getElem_cons_zero, List.setIfInBounds_toArray, List.set_cons_zero, List.set_cons_succ]
        refine wpAnyH_ready (rs := [1]) (by kernel_rfl) (by simp) ?_
        refine AllReadyH.cons rfl (fun K hK => ?_) AllReadyH.nil
        go_simp
        go_at_call 53
        refine Hck.out.mono ?_
        rintro e w5 ⟨rfl, hk5⟩
        have k5 := kd.trans hk5
        have y0 := (k5.cell lx (by simp)).trans x0
        have y1 := (k5.cell lx (by simp)).trans x1
        have y2 := (k5.cell lx (by simp)).trans x2
        have y3 := (k5.cell lx (by simp)).trans x3
        have y4 := (k5.cell lx (by simp)).trans x4
        have y5 := (k5.cell lx (by simp)).trans x5
        have y6 := (k5.cell lx (by simp)).trans x6
        have y7 := (k5.cell lx (by simp)).trans x7
        have y8 := (k5.cell ll (by simp)).trans x8
        have y9 := (k5.cell hb6a (by simp)).trans x9
        have H5 := Lib.hid (HK.out.2.2.2.trans k5)
        go_simp
        refine hK.out _ _ ⟨y0, y1, y2, y3, y4, y5, y6, y7, y8, y9⟩ (fun hS => ?_)
        clear hK K hk5 k5
        try simp only [Act.put, List.getElem_toArray, List.getElem_cons_succ, List.getElem_cons_zero, List.setIfInBounds_toArray, List.set_cons_zero, List.set_cons_succ]
        refine wpAnyH_take (i := 2) (v := ?_) rfl (by kernel_rfl) (by kernel_rfl) (by kernel_rfl) (fun _ _ _ h => h) (Or.inl ⟨by rfl, ?_⟩) (by assumption) ?_
        rotate_left
        · intro w' hSw; obtain ⟨s1, s2, s3, s4, s5, s6, s7, s8, s9, s10⟩ := hSw; go_simp; (try with_reducible rfl)
        simp only [Act.put, List.getElem_toArray, List.getElem_cons_succ, List.getElem_cons_zero, List.setIfInBounds_toArray, List.set_cons_zero, List.set_cons_succ]
        refine wpAnyH_take (i := 3) (v := ?_) rfl (by kernel_rfl) (by kernel_rfl) (by kernel_rfl) (fun _ _ _ h => h) (Or.inl ⟨by rfl, ?_⟩) (by assumption) ?_
        rotate_left
        · intro w' hSw; obtain ⟨s1, s2, s3, s4, s5, s6, s7, s8, s9, s10⟩ := hSw; go_simp; (try with_reducible rfl)
        simp only [Act.put, List.getElem_toArray, List.getElem_cons_succ, List.getElem_cons_zero, List.setIfInBounds_toArray, List.set_cons_zero, List.set_cons_succ]
        refine wpAnyH_take (i := 4) (v := ?_) rfl (by kernel_rfl) (by kernel_rfl) (by kernel_rfl) (fun _ _ _ h => h) (Or.inl ⟨by rfl, ?_⟩) (by assumption) ?_
        rotate_left
        · intro w' hSw; obtain ⟨s1, s2, s3, s4, s5, s6, s7, s8, s9, s10⟩ := hSw; go_simp; (try with_reducible rfl)
        simp only [Act.put, List.getElem_toArray, List.getElem_cons_succ, List.getElem_cons_zero, List.setIfInBounds_toArray, List.set_cons_zero, List.set_cons_succ]
        refine wpAnyH_take (i := 5) (v := ?_) rfl (by kernel_rfl) (by kernel_rfl) (by kernel_rfl) (fun _ _ _ h => h) (Or.inl ⟨by rfl, ?_⟩) (by assumption) ?_
        rotate_left
        · intro w' hSw; obtain ⟨s1, s2, s3, s4, s5, s6, s7, s8, s9, s10⟩ := hSw; go_simp; (try with_reducible rfl)
        simp only [Act.put, List.getElem_toArray, List.getElem_cons_succ, List.getElem_cons_zero, List.setIfInBounds_toArray, List.set_cons_zero, List.set_cons_succ]
        refine wpAnyH_take (i := 6) (v := ?_) rfl (by kernel_rfl) (by kernel_rfl) (by kernel_rfl) (fun _ _ _ h => h) (Or.inl ⟨by rfl, ?_⟩) (by assumption) ?_
        rotate_left
        · intro w' hSw; obtain ⟨s1, s2, s3, s4, s5, s6, s7, s8, s9, s10⟩ := hSw; go_simp; (try with_reducible rfl)
        simp only [Act.put, List.getElem_toArray, List.getElem_cons_succ, List.getElem_cons_zero, List.setIfInBounds_toArray, List.set_cons_zero, List.set_cons_succ]
        refine wpAnyH_take (i := 7) (v := ?_) rfl (by kernel_rfl) (by kernel_rfl) (by kernel_rfl) (fun _ _ _ h => h) (Or.inl ⟨by rfl, ?_⟩) (by assumption) ?_
        rotate_left
        · intro w' hSw; obtain ⟨s1, s2, s3, s4, s5, s6, s7, s8, s9, s10⟩ := hSw; go_simp; (try with_reducible rfl)
        simp only [Act.put, List.getElem_toArray, List.getElem_cons_succ, List.getElem_cons_zero, List.setIfInBounds_toArray, List.set_cons_zero, List.set_cons_succ]
        refine wpAnyH_take (i := 8) (v := ?_) rfl (by kernel_rfl) (by kernel_rfl) (by kernel_rfl) (fun _ _ _ h => h) (Or.inl ⟨by rfl, ?_⟩) (by assumption) ?_
        rotate_left
        · intro w' hSw; obtain ⟨s1, s2, s3, s4, s5, s6, s7, s8, s9, s10⟩ := hSw; go_simp; (try with_reducible rfl)
        simp only [Act.put, List.getElem_toArray, List.getElem_cons_succ, List.getElem_cons_zero, List.setIfInBounds_toArray, List.set_cons_zero, List.set_cons_succ]
        refine wpAnyH_take (i := 9) (v := ?_) rfl (by kernel_rfl) (by kernel_rfl) (by kernel_rfl) (fun _ _ _ h => h) (Or.inl ⟨by rfl, ?_⟩) (by assumption) ?_
        rotate_left
        · intro w' hSw; obtain ⟨s1, s2, s3, s4, s5, s6, s7, s8, s9, s10⟩ := hSw; go_simp; (try with_reducible rfl)
        simp only [Act.put, List.getElem_toArray, List.getElem_cons_succ, List.getElem_cons_zero, List.setIfInBounds_toArray, List.set_cons_zero, List.set_cons_succ]
        refine wpAnyH_take (i := 10) (v := ?_) rfl (by kernel_rfl) (by kernel_rfl) (by kernel_rfl) (fun _ _ _ h => h) (Or.inl ⟨by rfl, ?_⟩) (by assumption) ?_
        rotate_left
        · intro w' hSw; obtain ⟨s1, s2, s3, s4, s5, s6, s7, s8, s9, s10⟩ := hSw; go_simp; (try with_reducible rfl)
        simp only [Act.put, List.getElem_toArray, List.getElem_cons_succ, List.getElem_cons_zero, List.setIfInBounds_toArray, List.set_cons_zero, List.set_cons_succ]
        refine wpAnyH_take (i := 11) (v := ?_) rfl (by kernel_rfl) (by kernel_rfl) (by kernel_rfl) (fun _ _ _ h => h) (Or.inl ⟨by rfl, ?_⟩) (by assumption) ?_
        rotate_left
        · intro w' hSw; obtain ⟨s1, s2, s3, s4, s5, s6, s7, s8, s9, s10⟩ := hSw; go_simp; (try with_reducible rfl)
        simp only [Act.put, List.getElem_toArray, List.getElem_cons_succ, List.getElem_cons_zero, List.setIfInBounds_toArray, List.set_cons_zero, List.set_cons_succ]
        refine wpAnyH_take (i := 12) (v := ?_) rfl (by kernel_rfl) (by kernel_rfl) (by kernel_rfl) (fun _ _ _ h => h) (Or.inl ⟨by rfl, ?_⟩) (by assumption) ?_
        rotate_left
        · intro w' hSw; obtain ⟨s1, s2, s3, s4, s5, s6, s7, s8, s9, s10⟩ := hSw; go_simp; (try with_reducible rfl)
        simp only [Act.put, List.getElem_toArray, List.getElem_cons_succ, List.getElem_cons_zero, List.setIfInBounds_toArray, List.set_cons_zero, List.set_cons_succ]
        refine wpAnyH_take (i := 13) (v := ?_) rfl (by kernel_rfl) (by kernel_rfl) (by kernel_rfl) (fun _ _ _ h => h) (Or.inl ⟨by rfl, ?_⟩) (by assumption) ?_
        rotate_left
        · intro w' hSw; obtain ⟨s1, s2, s3, s4, s5, s6, s7, s8, s9, s10⟩ := hSw; go_simp; (try with_reducible rfl)
        simp only [Act.put, List.getElem_toArray, List.getElem_cons_succ, List.getElem_cons_zero, List.setIfInBounds_toArray, List.set_cons_zero, List.set_cons_succ]
        refine wpAnyH_take (i := 14) (v := ?_) rfl (by kernel_rfl) (by kernel_rfl) (by kernel_rfl) (fun _ _ _ h => h) (Or.inl ⟨by rfl, ?_⟩) (by assumption) ?_
        rotate_left
        · intro w' hSw; obtain ⟨s1, s2, s3, s4, s5, s6, s7, s8, s9, s10⟩ := hSw; go_simp; (try with_reducible rfl)
        simp only [Act.put, List.getElem_toArray, List.getElem_cons_succ, List.getElem_cons_zero, List.setIfInBounds_toArray, List.set_cons_zero, List.set_cons_succ]
        refine wpAnyH_take (i := 15) (v := ?_) rfl (by kernel_rfl) (by kernel_rfl) (by kernel_rfl) (fun _ _ _ h => h) (Or.inl ⟨by rfl, ?_⟩) (by assumption) ?_
        rotate_left
        · intro w' hSw; obtain ⟨s1, s2, s3, s4, s5, s6, s7, s8, s9, s10⟩ := hSw; go_simp; (try with_reducible rfl)
        simp only [Act.put, List.getElem_toArray, List.getElem_cons_succ, List.getElem_cons_zero, List.setIfInBounds_toArray, List.set_cons_zero, List.set_cons_succ]
        refine wpAnyH_take (i := 16) (v := ?_) rfl (by kernel_rfl) (by kernel_rfl) (by kernel_rfl) (fun _ _ _ h => h) (Or.inl ⟨by rfl, ?_⟩) (by assumption) ?_
        rotate_left
        · intro w' hSw; obtain ⟨s1, s2, s3, s4, s5, s6, s7, s8, s9, s10⟩ := hSw; go_simp; (try with_reducible rfl)
        simp only [Act.put, List.getElem_toArray, List.getElem_cons_succ, List.getElem_cons_zero, List.setIfInBounds_toArray, List.set_cons_zero, List.set_cons_succ]
        refine wpAnyH_take (i := 17) (v := ?_) rfl (by kernel_rfl) (by kernel_rfl) (by kernel_rfl) (fun _ _ _ h => h) (Or.inl ⟨by rfl, ?_⟩) (by assumption) ?_
        rotate_left
        · intro w' hSw; obtain ⟨s1, s2, s3, s4, s5, s6, s7, s8, s9, s10⟩ := hSw; go_simp; (try with_reducible rfl)
        simp only [Act.put, List.getElem_toArray, List.getElem_cons_succ, List.getElem_cons_zero, List.setIfInBounds_toArray, List.set_cons_zero, List.set_cons_succ]
        refine wpAnyH_take (i := 18) (v := ?_) rfl (by kernel_rfl) (by kernel_rfl) (by kernel_rfl) (fun _ _ _ h => h) (Or.inl ⟨by rfl, ?_⟩) (by assumption) ?_
        rotate_left
        · intro w' hSw; obtain ⟨s1, s2, s3, s4, s5, s6, s7, s8, s9, s10⟩ := hSw; go_simp; (try with_reducible rfl)
        simp only [Act.put, List.getElem_toArray, List.getElem_cons_succ, List.getElem_cons_zero, List.setIfInBounds_toArray, List.set_cons_zero, List.set_cons_succ]
        refine wpAnyH_done (by kernel_rfl) ?_ _
        clear hS
        clear y0 x0 y1 x1 y2 x2 y3 x3 y4 x4 y5 x5 y6 x6 y7 x7 y8 x8 y9 x9
        go_wp2_with fail
        go_roundg (L.length - (k + 1))
        case measure => have := Hg.out; omega
        case rel => exact ⟨(k + 1), by omega, rfl, by go_num, H5.out⟩
    · obtain rfl : k = L.length := by omega
      have z3 : ∀ x ∈ encMap encI M, x.1.size ≤ maxLen := by
        intro x hx
        obtain ⟨x, c⟩ := x
        obtain ⟨n, _, hn⟩ := mem_enc hx
        obtain ⟨m, hm, e⟩ := (H0.out.2.2.1.marks _ hn).1
        have := id16 (H0.out.2.2.1.ok m hm).id
        simp only at e ⊢
        rw [← e]
        unfold maxLen; omega
      have z4 : (encMap encI M).length ≤ maxLen := by have := H0.out.2.2.1.mfew; simp only [encMap, List.length_map, maxLen]; omega
      have hmr := H0.out.2.2.2.keep hkw (by simp)
      have He := Lib.hid (And.intro hkr hkw)
      have hge : ¬ (L.length : Int) < (L.length : Int) := by omega
      clear hkr hkw nb
      go_wp2_with (at_range; refine wpList_range_map rfl _ _ rfl 3 Tryz.underlying30 Tryz.underlying9 mb _ rfl hmr z3 z4 ?_; intro w0 cnt hrg0 hk0)
      clear z3 z4 hmr cb lb'
      try go_frame
      obtain ⟨r, hr⟩ : ∃ n, n = wr.heap.size := ⟨_, rfl⟩
      have hrw : w.heap.size ≤ r := by have := He.out.2.size; omega
      have hrW : W0.heap.size ≤ r := by have := He.out.1.size; omega
      have hrl : lb ≠ r := by have := lt_of_at (He.out.1.at_ H0.out.1 (by simp)); omega
      rw [← hr] at hrg0 ⊢
      have H1 := Lib.hid (And.intro hrg0 (And.intro (He.out.1.trans hk0) (He.out.2.trans hk0)))
      have Hr := Lib.hid hr
      clear hrg0 hk0 hr
      go_loopg [] cnt (LChkRel2 W0 mb r M)
      case atStart => exact ⟨[], H1.out.1, H1.out.2.1⟩
      case round =>
        obtain ⟨D, hrg, hkr⟩ := hrel
        clear H1
        have Hkr := Lib.hid hkr
        clear hkr
        go_wp2_with (at_next; refine wpList_next_map rfl _ rfl Tryz.underlying9 mb r _ _ _ rfl hrg ?_ ?_)
        · intro hperm
          clear hperm hrg
          go_wp2_with fail
          go_ret
          exact ⟨rfl, H0.out.2.1.trans Hkr.out⟩
        · intro x c w1 cnt1 hmem hnin hxs hrg1 hltc hk1 hen
          obtain ⟨t, rfl, hdm⟩ := mem_enc hmem
          rw [enc_snocM] at hrg1
          obtain ⟨hin, ht0, ht1⟩ := H0.out.2.2.1.marks _ hdm
          simp only at hin ht0 ht1
          have k1 : Keeps [] W0 w1 := Hkr.out.after hk1 (fun q hq => .inr (by simp only [List.mem_singleton] at hq; omega))
          have nb := k1.at_ H0.out.1 (by simp)
          have cb := cells_at nb
          have lb' := lt_of_at nb
          have Hfd := Lib.hid (find_spec B w1 at_ _ _ L x (HL.out.same (H0.out.2.1.trans k1)) (by omega) H0.out.2.2.1.rise (some mb) rfl)
          have g4 : ¬ t < 0 := by omega
          have g5 : ¬ t > 1099511627776 := by omega
          have H1 := Lib.hid (And.intro hrg1 (And.intro k1 (And.intro hltc hin)))
          clear hmem hnin hxs hrg1 hltc hk1 hrg hdm hin ht0 ht1 k1 nb
          simp only [encI] at hen ⊢
          go_wp2_with fail
          refine Hfd.out.mono ?_
          rintro e w5 ⟨vs, okb, rfl, hiff, hmt, hk5⟩
          obtain rfl : okb = true := hiff.2 H1.out.2.2.2
          obtain ⟨m, -, -, hmv⟩ := hmt rfl
          obtain ⟨vf, vo, rfl, hsf, hso⟩ := hmv
          obtain ⟨af, cf, rfl, -, -, -, -⟩ := hsf
          obtain ⟨ao, co, rfl, -, -, -, -⟩ := hso
          have k5a := hk5.alloc (.cells #[.string m.id, .int .i64 m.mn, .int .i64 m.mx, .int .i64 m.level, .int .i64 m.series, .int .i64 m.samples, .slice af m.files.length cf, .slice ao m.sources.length co] 63)
          have H5 := Lib.hid (And.intro (H1.out.1.keep k5a (by simp) (by simp)) (H1.out.2.1.trans k5a))
          clear hk5 hiff hmt hen cb lb' k5a
          go_wp2_with fail
          go_roundg cnt1
          case measure => exact H1.out.2.2.1
          case rel => exact ⟨D ++ [(x, t)], H5.out.1, H5.out.2⟩
end Go.Proofs.YtjffdcflkkgpfaaGreat
