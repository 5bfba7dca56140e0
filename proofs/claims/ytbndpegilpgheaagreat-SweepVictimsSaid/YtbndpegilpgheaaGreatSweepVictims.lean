/-
  SweepVictims answers true for all lists of objects, every delay, grace and tick, and leaves all memory that was there as it was.
  No condition: every input that can be read.
-/
import Derived.Test.YtbndpegilpgheaaGreatSweepAwake
import Derived.Test.YtbndpegilpgheaaGreatSweepGround
import Derived.Test.YtbndpegilpgheaaGreatRefTold
namespace Go.Proofs.YtbndpegilpgheaaGreat
open Go Go.RowKit Go.Conc

def SVRel (w8 : World) (n gk : Nat) (u : Value) (wr : World) : Prop := ∃ k, k ≤ n ∧ gk = n - k ∧ u = .int .i64 k ∧ Keeps [] w8 wr

set_option linter.unusedSimpArgs false in
set_option maxRecDepth 100000 in
set_option maxHeartbeats 1000000 in
theorem sweepVictims_walk (w : World) (hv : LibVar w) (v : Value) (L : List OneS) (hL : SliceArg 6 encOne w v L) (delay grace now : Int) :
    Calls Tryz.prog 4 #[v, .int .i64 delay, .int .i64 grace, .int .i64 now] w fun e w' => e = .returned (.bool true) ∧ Keeps [] w w' := by
  have q1 := i64_and127 now
  obtain ⟨n, hn, hn3⟩ : ∃ n : Nat, now % 128 = (n : Int) ∧ n ≤ 127 := ⟨(now % 128).toNat, by omega, by omega⟩
  rw [hn] at q1
  have HL := Lib.hid hL
  have Haw := Lib.hid (awake22_spec w hv)
  have hI := fill15 L
  clear hL hn
  generalize hS : fillS (L.take 15) = S at hI
  have HS := Lib.hid hS
  have hP := hI.parted
  have hmk : ∀ id t, look S.2 id = some t → 0 ≤ t ∧ t ≤ 31 := fun id t h => hP.mark id t (by rw [← hI.marks]; exact h)
  have HP := Lib.hid (And.intro hP (And.intro hmk hv))
  have hcf := fun W => config_spec W delay grace 9
  rw [show (1 + (9 : Int) % 64) = 10 from rfl] at hcf
  obtain ⟨d, hd⟩ : ∃ d, d = delay % 32 := ⟨_, rfl⟩
  obtain ⟨g, hg⟩ : ∃ g, g = grace % 32 := ⟨_, rfl⟩
  rw [← hd, ← hg] at hcf
  have Hcf := Lib.hid hcf
  clear hS hI hP hmk hv hcf hd hg
  obtain ⟨o, M⟩ := S
  simp only at HP
  go_enter Tryz.func4, Tryz.ntmps4
  go_wp2_with fail
  refine Haw.out.mono ?_
  rintro e w1 ⟨rfl, hk1⟩
  have Hf := Lib.hid (filled_spec w1 v L (HL.out.keep hk1))
  have H1 := Lib.hid hk1
  clear hk1
  go_wp2_with fail
  refine Hf.out.mono ?_
  rintro e w2 ⟨b, f, c, mb, mm, rfl, hb2, hm2, hk2, l1, l2, l3, l4, l5⟩
  rw [HS.out] at hb2 hm2
  have H2 := Lib.hid (And.intro (show BucketAt w2 b f c mb false [] o from hb2) (And.intro (show MapAt w2 mm (encMap encI M) from hm2) (H1.out.trans hk2)))
  clear hb2 hm2 hk2 H1 Hf l1 l2 l3 l4 l5
  go_wp2_with fail
  refine (Hcf.out _).mono ?_
  rintro e w3 ⟨rfl, hk3⟩
  have n4 := heap_new w3 (.cells #[.int .i64 d, .int .i64 g, .int .i64 10] 50)
  have k4 : Keeps [] w3 (w3.alloc (.cells #[.int .i64 d, .int .i64 g, .int .i64 10] 50)) := (Keeps.refl [] w3).alloc _
  have k24 := hk3.trans k4
  have H4 := Lib.hid (And.intro (k24.keep_bucket H2.out.1) (And.intro (H2.out.2.1.keep k24 (by simp)) (And.intro (H2.out.2.2.trans k24) n4)))
  have Htd := Lib.hid (told_spec _ (HP.out.2.2.same H4.out.2.2.1) b f c mb o 15 H4.out.1 HP.out.1 (by decide) mm M H4.out.2.1)
  clear hk3 n4 k4 k24 H2
  go_wp2_with fail
  refine Htd.out.mono ?_
  rintro e w5 ⟨vo, vm, T, rfl, ho5, ht5, hsay, hlk, hk5⟩
  have n5 := hk5.at_ H4.out.2.2.2 (by simp)
  have b5 := hk5.keep_bucket H4.out.1
  have m5 := H4.out.2.1.keep hk5 (by simp)
  have k5 := H4.out.2.2.1.trans hk5
  have lc5 := lt_of_at n5
  generalize w3.heap.size = cb at n5 lc5 ⊢
  have c5 := cells_at n5
  have d0 : w5.cell? ⟨cb, 0, none⟩ = some (.int .i64 d) := by rw [c5]; rfl
  have d1 : w5.cell? ⟨cb, 1, none⟩ = some (.int .i64 g) := by rw [c5]; rfl
  have d2 : w5.cell? ⟨cb, 2, none⟩ = some (.int .i64 10) := by rw [c5]; rfl
  have kd : Keeps [] w5 w5.drew := (Keeps.refl [] w5).drew
  have H5 := Lib.hid (And.intro n5 (And.intro b5 (And.intro m5 (And.intro k5 (And.intro ho5 (And.intro ht5 (And.intro hsay hlk)))))))
  have Hlk := Lib.hid (look_parted (kd.keep_bucket b5) HP.out.1 (by decide))
  clear hk5 n5 b5 m5 k5 ho5 ht5 hsay hlk H4 Htd c5
  have hll : (listing o ⟨#[]⟩).length ≤ 15 := by rw [listing_len]; exact HP.out.1.len
  obtain ⟨V, hV⟩ : ∃ V, V = victimsL d g (n : Int) (listing o ⟨#[]⟩) (look M) := ⟨_, rfl⟩
  have HV := Lib.hid hV
  clear hV
  go_upto_region 9 with fail
  refine wp_region_held_drew (S := fun w' => w'.cell? ⟨cb, 0, none⟩ = some (.int .i64 d) ∧ w'.cell? ⟨cb, 1, none⟩ = some (.int .i64 g) ∧ w'.cell? ⟨cb, 2, none⟩ = some (.int .i64 10)) (by kernel_rfl) ⟨d0, d1, d2⟩ (fun hS => ?_)
  refine wpAnyH_take (i := 0) (v := ?_) rfl (by kernel_rfl) (by kernel_rfl) (by kernel_rfl) (fun _ _ _ h => h) (Or.inl ⟨by rfl, ?_⟩) (by assumption) ?_
  rotate_left
  · intro w' hSw; obtain ⟨s1, s2, s3⟩ := hSw; go_simp; (try with_reducible rfl)
  simp only [Act.put, List.getElem_toArray, List.getElem_cons_succ, List.getElem_cons_zero, List.setIfInBounds_toArray, List.set_cons_zero, List.set_cons_succ]
  refine wpAnyH_take (i := 1) (v := ?_) rfl (by kernel_rfl) (by kernel_rfl) (by kernel_rfl) (fun _ _ _ h => h) (Or.inl ⟨by rfl, ?_⟩) (by assumption) ?_
  rotate_left
  · intro w' hSw; obtain ⟨s1, s2, s3⟩ := hSw; go_simp; (try with_reducible rfl)
  simp only [Act.put, List.getElem_toArray, List.getElem_cons_succ, List.getElem_cons_zero, List.setIfInBounds_toArray, List.set_cons_zero, List.set_cons_succ]
  refine wpAnyH_take (i := 2) (v := ?_) rfl (by kernel_rfl) (by kernel_rfl) (by kernel_rfl) (fun _ _ _ h => h) (Or.inl ⟨by rfl, ?_⟩) (by assumption) ?_
  rotate_left
  · intro w' hSw; obtain ⟨s1, s2, s3⟩ := hSw; go_simp; (try with_reducible rfl)
  simp only [Act.put, List.getElem_toArray, List.getElem_cons_succ, List.getElem_cons_zero, List.setIfInBounds_toArray, List.set_cons_zero, List.set_cons_succ]
  refine wpAnyH_take (i := 4) (v := ?_) rfl (by kernel_rfl) (by kernel_rfl) (by kernel_rfl) (fun _ _ _ h => h) (Or.inl ⟨by rfl, ?_⟩) (by assumption) ?_
  rotate_left
  · intro w' hSw; obtain ⟨s1, s2, s3⟩ := hSw; go_simp; (try with_reducible rfl)
  simp only [Act.put, List.getElem_toArray, List.getElem_cons_succ, List.getElem_cons_zero, List.setIfInBounds_toArray, List.set_cons_zero, List.set_cons_succ]
  refine wpAnyH_ready (rs := [3]) (by kernel_rfl) (by simp) ?_
  refine AllReadyH.cons rfl (fun K hK => ?_) AllReadyH.nil
  go_simp
  go_at_call 18
  refine Hlk.out.mono ?_
  rintro e w6 ⟨v6, rfl, hs6, hk6⟩
  have e0 := (hk6.cell lc5 (by simp)).trans d0
  have e1 := (hk6.cell lc5 (by simp)).trans d1
  have e2 := (hk6.cell lc5 (by simp)).trans d2
  go_simp
  refine hK.out _ _ ⟨e0, e1, e2⟩ (fun hS => ?_)
  clear hK K
  try simp only [Act.put, List.getElem_toArray, List.getElem_cons_succ, List.getElem_cons_zero, List.setIfInBounds_toArray, List.set_cons_zero, List.set_cons_succ]
  have k56 : Keeps [] w5 w6 := kd.trans hk6
  have Hvc := Lib.hid (victims_spec w6 d g 10 n v6 (listing o ⟨#[]⟩) mm M hs6.arg (H5.out.2.2.1.keep k56 (by simp)) (HP.out.2.2.same (H5.out.2.2.2.1.trans k56))
    (fun x hx => by have h1 := HP.out.1.key x (listing_of hx); have h2 := (HP.out.1.obj x (listing_of hx)).2; omega) (by omega) (fun id t h => by have := HP.out.2.1 id t h; omega) (by omega) (listing_nodup HP.out.1.nodup))
  rw [← HV.out] at Hvc
  have lc6 := k56.lt lc5
  have H6 := Lib.hid k56
  clear hk6 hs6 k56 d0 d1 d2 Hlk
  refine wpAnyH_ready (rs := [5]) (by kernel_rfl) (by simp) ?_
  refine AllReadyH.cons rfl (fun K hK => ?_) AllReadyH.nil
  go_simp
  go_at_call 17
  refine Hvc.out.mono ?_
  rintro e w7 ⟨v7, rfl, hs7, hk7⟩
  have g0 := (hk7.cell lc6 (by simp)).trans e0
  have g1 := (hk7.cell lc6 (by simp)).trans e1
  have g2 := (hk7.cell lc6 (by simp)).trans e2
  go_simp
  refine hK.out _ _ ⟨g0, g1, g2⟩ (fun hS => ?_)
  clear hK K
  try simp only [Act.put, List.getElem_toArray, List.getElem_cons_succ, List.getElem_cons_zero, List.setIfInBounds_toArray, List.set_cons_zero, List.set_cons_succ]
  refine wpAnyH_ready (rs := [6]) (by kernel_rfl) (by simp) ?_
  refine AllReadyH.cons rfl (fun K hK => ?_) AllReadyH.nil
  go_simp
  refine hK.out _ _ ⟨g0, g1, g2⟩ (fun hS => ?_)
  clear hK K
  refine wpAnyH_done (by kernel_rfl) ?_ _
  clear hS e0 e1 e2
  have k57 : Keeps [] w5 w7 := H6.out.trans hk7
  have hra := ref_all (d := d) (g := g) (now := n) HP.out.1 M T H5.out.2.2.2.2.2.2.2
  rw [← HV.out] at hra
  have hrf := refVictims_spec w7 d g n vo vm (listing o ⟨#[]⟩) T (H5.out.2.2.2.2.1.keep k57) (H5.out.2.2.2.2.2.1.keep k57) (by omega) (by omega) (fun p hp => by have := HP.out.2.1 _ _ (H5.out.2.2.2.2.2.2.1 p hp); omega)
    (fun p hp => by have h2 := (HP.out.1.obj p (listing_of hp)).2; omega) (fun p hp => (HP.out.1.obj p (listing_of hp)).1) (by omega)
  rw [hra] at hrf
  have Hrf := Lib.hid hrf
  have hs7' := hs7
  obtain ⟨a7, q7, rfl, hv7, hv72, -, -⟩ := hs7'
  have H7 := Lib.hid (And.intro hs7 (H5.out.2.2.2.1.trans k57))
  clear hra hrf hs7 hk7 k57 Hvc H5 H6
  go_wp2_with fail
  refine Hrf.out.mono ?_
  rintro e w8 ⟨v8, rfl, hr8, hk8⟩
  have hs8 := sliceFrom_row (enc := encS1) (size := 1) (fun _ => rfl) (by rw [← encS1_map]; exact hr8)
  have hs8' := hs8
  obtain ⟨a8, q8, rfl, -, -, -, -⟩ := hs8'
  have H8 := Lib.hid (And.intro (H7.out.1.keep hk8 (by simp)) (And.intro hs8 (H7.out.2.trans hk8)))
  unfold maxLen at hv7
  clear hr8 hk8 hs8 g0 g1 g2 H7 Hrf
  go_wp2_with fail
  go_loopg [58] V.length (SVRel w8 V.length)
  case atStart => exact ⟨0, Nat.zero_le _, rfl, rfl, Keeps.refl _ _⟩
  case round =>
    obtain ⟨k, hk, hgk, rfl, hkr⟩ := hrel
    have Hg := Lib.hid hgk
    clear hgk
    by_cases hlt : k < V.length
    · obtain ⟨_, _, ea, _, _, _, hxa⟩ := H8.out.1.keep hkr (by simp)
      obtain ⟨_, _, eb, _, _, _, hxb⟩ := H8.out.2.1.keep hkr (by simp)
      obtain ⟨b7, o7, e7, _, hb7, hc7⟩ := hxa k hlt
      obtain ⟨b8, o8, e8, _, hb8, hc8⟩ := hxb k hlt
      injection ea with ea _ ea2
      injection eb with eb _ eb2
      subst ea eb ea2 eb2
      subst e7 e8
      have d7 : wr.cell? ⟨b7, o7 + k, none⟩ = some (.string V[k]) := by simpa [encS1] using hc7 0 (by decide)
      have d8 : wr.cell? ⟨b8, o8 + k, none⟩ = some (.string V[k]) := by simpa [encS1] using hc8 0 (by decide)
      have hlt' : (k : Int) < (V.length : Int) := by omega
      generalize V[k] = s at d7 d8
      have hse : (s.toList == s.toList) = true := by simp
      have Hk := Lib.hid hkr
      clear hxa hxb hc7 hc8 hkr
      go_wp2_with fail
      go_quiet (fail)
      rename_i nq
      have Hk2 := Lib.hid (Hk.out.drewN nq)
      go_wp2_with fail
      go_roundg (V.length - (k + 1))
      case measure => have := Hg.out; omega
      case rel => exact ⟨k + 1, by omega, rfl, by go_num, Hk2.out⟩
    · have He := Lib.hid hkr
      have hge : ¬ (k : Int) < (V.length : Int) := by omega
      clear hkr
      go_wp2_with fail
      go_ret
      exact ⟨rfl, H8.out.2.2.trans He.out⟩

theorem sweepVictims_law (W : World) (hv : LibVar W) (v0 : Value) (h0 : ∃ L : List OneS, SliceArg 6 encOne W v0 L ∧ ∀ x ∈ L, True) (a : Int) (_ : (Lit.int .i64 a).wf = true) (b : Int) (_ : (Lit.int .i64 b).wf = true) (n : Int) (_ : (Lit.int .i64 n).wf = true) :
    Calls Tryz.prog 4 #[v0, .int .i64 a, .int .i64 b, .int .i64 n] W fun e w' => e = .returned (.bool true) ∧ Keeps [] W w' := by
  obtain ⟨L, hs, _⟩ := h0
  exact sweepVictims_walk W hv v0 L hs a b n
end Go.Proofs.YtbndpegilpgheaaGreat
