/-
  A block's index is read (package block): Entries.
  No condition beyond those that each theorem states.
-/
import Derived.Test.YtkffpcmminlndaaGreatDoorBlkE
namespace Go.Proofs.YtkffpcmminlndaaGreatDoor
open Go Go.RowKit Go.Conc

def EsRel (W : World) (EP : List EntP) (gk : Nat) (u6 u7 u8 u9 : Value) (wr : World) : Prop :=
  ∃ j, j ≤ EP.length ∧ gk = EP.length - j ∧ u6 = .int .i64 0 ∧ u7 = .int .i64 ((EP.length - j : Nat) : Int) ∧ u8 = .string ⟨((EP.drop j).flatMap entL).toArray⟩ ∧ (∃ E, EntrAt W.heap.size wr u9 E ∧ E.length = j ∧ E.map (·.2) = EP.take j) ∧ Keeps [] W wr

theorem entL_len {e : EntP} (h : EntT e) : (entL e).length ≤ 1000 := by
  obtain ⟨P, f, n, mn, mx⟩ := e
  have h1 := pairsL_len (P := P) h.set.2.2
  have h2 : (keyP P).data.toList.length ≤ 10 + 100 * P.length := by
    show (keyL P P.length).length ≤ _
    unfold keyL
    rw [List.take_length, List.length_append]
    have := lebL_len10 (v := P.length) (by have := h.set.2.1; dsimp only at this; omega)
    omega
  have h3 := h.set.2.1
  have h4 := h.nums
  dsimp only at h3 h4
  unfold entL
  dsimp only
  have := lebL_len10 (v := f) (by omega)
  have := lebL_len10 (v := n) (by omega)
  have := lebL_len10 (v := mn) (by omega)
  have := lebL_len10 (v := mx) (by omega)
  simp only [List.length_append]
  omega

theorem entsL_len {EP : List EntP} (h : ∀ e ∈ EP, EntT e) : (EP.flatMap entL).length ≤ 1000 * EP.length := by
  induction EP with
  | nil => simp
  | cons e EP ih =>
    have h1 := entL_len (h e (by simp))
    have h2 := ih (fun q hq => h q (by simp [hq]))
    rw [List.flatMap_cons, List.length_append, List.length_cons]
    omega

set_option linter.unusedSimpArgs false in
set_option maxRecDepth 100000 in
set_option maxHeartbeats 4000000 in
theorem entriesR_spec (w : World) (s : ByteArray) (EP : List EntP) (hs : s.data.toList = idxL EP) (ht : ∀ e ∈ EP, EntT e) (hp : EP.Pairwise fun a b => ltL a.1 b.1) (hl : EP.length ≤ 50) :
    Calls Tryz.prog 73 #[.string s] w fun e w' => ∃ v E, e = .returned (.tuple #[v, .int .i64 0]) ∧ EntrAt w.heap.size w' v E ∧ E.map (·.2) = EP ∧ Keeps [] w w' := by
  obtain ⟨ie, hie, hz0, hz1, hz2⟩ := info_parts infoEntR
  have hel := entsL_len ht
  obtain ⟨D, hD⟩ : ∃ D : ByteArray, D = ⟨(lebL EP.length ++ EP.flatMap entL).toArray⟩ := ⟨_, rfl⟩
  have hDl : D.data.toList = lebL EP.length ++ EP.flatMap entL := by rw [hD]
  have hDz : D.size ≤ 50010 := by
    rw [← dsize, hDl, List.length_append]
    have := lebL_len10 (v := EP.length) (by omega)
    omega
  have hsz : s.size ≤ 60000 := by
    rw [← dsize, hs]
    unfold idxL
    rw [frameL_len, ← hDl, dsize]
    have := lebL_len10 (v := D.size) (by omega)
    omega
  have Hn := Lib.hid (next_spec w s (by omega))
  have hnx : nextF s.data.toList = (5, D.data.toList, [], 0) := by
    rw [hs, hDl]
    unfold idxL
    have := nextF_frame 5 (lebL EP.length ++ EP.flatMap entL) [] (by rw [← hDl, dsize]; omega)
    rw [List.append_nil] at this
    exact this
  rw [hnx] at Hn
  unfold NextPost nextVals at Hn
  dsimp only at Hn
  rw [back_arr] at Hn
  have hk5 : ((5 : UInt8).toNat : Int) = 5 := rfl
  rw [hk5] at Hn
  have Ht := Lib.hid (fun W : World => takeMost_spec W D (by unfold maxLen; omega) 10000 (by decide))
  rw [hDl, takeM_leb (m := EP.length) _ (by omega) (by decide)] at Ht
  unfold takeMVals at Ht
  dsimp only at Ht
  obtain ⟨s1, hs1⟩ : ∃ s1 : ByteArray, s1 = ⟨(EP.flatMap entL).toArray⟩ := ⟨_, rfl⟩
  rw [← hs1] at Ht
  have H := Lib.hid (And.intro ht (And.intro hp hs1))
  clear hs ht hp hel hD hDl hDz hsz hnx hk5 hs1
  go_enter Tryz.func73, Tryz.ntmps73
  go_wp2_with fail
  refine Hn.out.mono ?_
  rintro e w1 ⟨rfl, hk1⟩
  obtain ⟨r, hr⟩ : ∃ r, r = w1.heap.size := ⟨_, rfl⟩
  obtain ⟨w2, hw2⟩ : ∃ w2, w2 = w1.alloc (.cells #[.int .u8 5, .string D] 161) := ⟨_, rfl⟩
  have k2 : Keeps [] w1 w2 := by rw [hw2]; exact (Keeps.refl [] _).alloc _
  have n2 : w2.heap[r]? = some (.cells #[.int .u8 5, .string D] 161 (0, 0)) := by rw [hw2, hr]; exact heap_new w1 _
  have H2 := Lib.hid (hk1.trans k2)
  clear hk1 k2
  go_upto_region 2 with fail
  rw [← hw2, ← hr]
  clear hw2 hr
  have cr := cells_at n2
  have lr := lt_of_at n2
  clear n2
  go_wp2_with fail
  refine (Ht.out w2).mono ?_
  rintro e W ⟨rfl, m3, hm3⟩
  have k3 : Keeps [] w2 W := by rw [hm3]; exact (Keeps.refl [] _).drewN _
  have H3 := Lib.hid (H2.out.trans k3)
  clear hm3 k3 cr lr
  go_wp2_with fail
  go_loopg [6, 7, 8, 9] EP.length (EsRel W EP)
  case atStart => exact ⟨0, Nat.zero_le _, rfl, rfl, by simp, by rw [H.out.2.2]; rfl, ⟨[], ⟨World.ownsRow_nil _ _ _ 5, by simp⟩, rfl, rfl⟩, Keeps.refl _ _⟩
  case round =>
    obtain ⟨j, hj, hgk, rfl, rfl, rfl, ⟨E, hE, hEl, hEe⟩, hkr⟩ := hrel
    obtain ⟨m, hm⟩ : ∃ m, m = EP.length - j := ⟨_, rfl⟩
    rw [← hm]
    obtain ⟨t0, ht0⟩ : ∃ t0 : ByteArray, t0 = ⟨((EP.drop j).flatMap entL).toArray⟩ := ⟨_, rfl⟩
    rw [← ht0]
    obtain ⟨av, cv, rfl, -, -, -⟩ := row_slice hE.1
    by_cases hlt : j < EP.length
    · have hm0 : (m : Int) > 0 := by omega
      have hwm := IntWalk.i64_in ((m : Int) - 1) (by omega)
      have hdr : EP.drop j = EP[j] :: EP.drop (j + 1) := List.drop_eq_getElem_cons hlt
      have htk := take_push hlt
      have het := H.out.1 EP[j] (List.getElem_mem hlt)
      have hless : ∀ (h0 : 0 < j) (hi : j - 1 < E.length), ltL (E[j - 1]'hi).2.1 EP[j].1 ∧ (E[j - 1]'hi).2.1.length ≤ 8 := fun h0 hi => by
        have h1 : (E[j - 1]'hi).2 = EP[j - 1]'(by omega) := by
          have h2 : (E.map (·.2))[j - 1]? = (EP.take j)[j - 1]? := by rw [hEe]
          rw [List.getElem?_map, List.getElem?_eq_getElem hi, List.getElem?_take, if_pos (by omega), List.getElem?_eq_getElem (by omega)] at h2
          exact Option.some.inj h2
        rw [h1]
        exact ⟨List.pairwise_iff_getElem.1 H.out.2.1 (j - 1) j (by omega) hlt (by omega), (H.out.1 _ (List.getElem_mem _)).set.2.1⟩
      generalize EP[j] = x at hdr htk het hless
      obtain ⟨P, f, n, mn, mx⟩ := x
      dsimp only at hless
      obtain ⟨t1, ht1⟩ : ∃ t1 : ByteArray, t1 = ⟨((EP.drop (j + 1)).flatMap entL).toArray⟩ := ⟨_, rfl⟩
      have hd1 := entsL_len (EP := EP.drop (j + 1)) (fun q hq => H.out.1 q (List.mem_of_mem_drop hq))
      have Hc := Lib.hid (fun W' : World => entTake_spec W' t0 P f n mn mx ((EP.drop (j + 1)).flatMap entL) (by rw [ht0, hdr]; simp) het (by rw [List.length_drop] at hd1; omega))
      rw [← ht1] at Hc
      have hP8 := het.set.2.1
      have Hg := Lib.hid (And.intro hgk (And.intro hE (And.intro hkr (And.intro htk (And.intro ht1 (And.intro hm (And.intro hlt (And.intro hless (And.intro hEl (And.intro hEe hP8))))))))))
      have hj50 : j ≤ 50 := by omega
      obtain ⟨N, hN⟩ : ∃ N, N = E.length := ⟨_, rfl⟩
      have hN50 : N ≤ 50 := by omega
      rw [← hN]
      have HN := Lib.hid hN
      clear hgk hE hkr htk hdr ht0 ht1 hm hlt hless hEe hd1 het hP8 hEl hN
      obtain ⟨q, hq⟩ : ∃ q, q = wr.heap.size := ⟨_, rfl⟩
      obtain ⟨w4, hw4⟩ : ∃ w4, w4 = wr.alloc (.cells #[.slice none 0 0, .int .i64 0, .int .i64 0, .int .i64 0, .int .i64 0] 101) := ⟨_, rfl⟩
      have k4 : Keeps [] wr w4 := by rw [hw4]; exact (Keeps.refl [] _).alloc _
      have n4 : w4.heap[q]? = some (.cells #[.slice none 0 0, .int .i64 0, .int .i64 0, .int .i64 0, .int .i64 0] 101 (0, 0)) := by rw [hw4, hq]; exact heap_new wr _
      have hqW : W.heap.size ≤ q := by rw [hq]; exact Hg.out.2.2.1.size
      go_upto_region 11 with fail
      rw [← hw4, ← hq]
      have H4 := Lib.hid (And.intro n4 (And.intro k4 (And.intro hqW hq)))
      clear hw4 k4 n4 hqW hq
      go_wp2_with fail
      refine (Hc.out w4).mono ?_
      rintro e w5 ⟨v5, rfl, hr5, hk5⟩
      obtain ⟨a5, c5, rfl, -, -, -⟩ := row_slice hr5
      have n5 := hk5.at_ H4.out.1 (by simp)
      have k45 := H4.out.2.1.trans hk5
      have hE5 : EntrAt W.heap.size w5 (.slice av N cv) E := by
        have := (Hg.out.2.1.keep H4.out.2.1).keep hk5
        rw [HN.out]
        exact this
      have H5 := Lib.hid (And.intro n5 (And.intro hr5 (And.intro hE5 k45)))
      have cx := cells_at n5
      have fx := free_at n5
      have lx := lt_of_at n5
      clear n5 k45 hE5 hr5 hk5
      go_upto_region 12 with fail
      obtain ⟨nF, kF⟩ := set5of5 (v0 := .slice a5 P.length c5) (v1 := .int .i64 (f : Nat)) (v2 := .int .i64 (n : Nat)) (v3 := .int .i64 (mn : Nat)) (v4 := .int .i64 (mx : Nat)) H5.out.1
      generalize ((((w5.setCell ⟨q, 0, none⟩ (.slice a5 P.length c5)).setCell ⟨q, 1, none⟩ (.int .i64 (f : Nat))).setCell ⟨q, 2, none⟩ (.int .i64 (n : Nat))).setCell ⟨q, 3, none⟩ (.int .i64 (mn : Nat))).setCell ⟨q, 4, none⟩ (.int .i64 (mx : Nat)) = w6 at nF kF ⊢
      have hqn : q = wr.heap.size := H4.out.2.2.2
      have hnq1 : ∀ g, (Value.slice av N cv).ownBlock = some g → g ≠ q := fun g hg => by
        have h1 := (World.ownsRow.lt Hg.out.2.1.1 g (by rw [← HN.out]; exact hg)).2
        omega
      have hqne : ∀ e ∈ E, ∀ g, e.1.ownBlock = some g → g ≠ q := fun e he g hg => by
        have h1 := (World.ownsRow.lt (Hg.out.2.1.2 e he) g hg).2
        omega
      have hE6 : EntrAt W.heap.size w6 (.slice av N cv) E := by
        have h5 := H5.out.2.2.1
        refine ⟨kF.row h5.1 (fun g hg hm => hnq1 g hg (by simpa using hm)), fun e he => kF.row (h5.2 e he) (fun g hg hm => hqne e he g hg (by simpa using hm))⟩
      have hr6 := kF.row H5.out.2.1 (fun g hg hm => by
        have h1 := (World.ownsRow.lt H5.out.2.1 g hg).1
        have h2 := lt_of_at H4.out.1
        simp at hm
        omega)
      have hWq := H4.out.2.2.1
      have H6 := Lib.hid (And.intro nF (And.intro hr6 (And.intro hE6 ((Hg.out.2.2.1.trans H5.out.2.2.2).after kF (fun x hx => .inr (by simp at hx; rw [hx]; exact hWq))))))
      clear cx fx lx hE6 hr6 hWq kF hqne hnq1 hqn
      have cx := cells_at nF
      have lx := lt_of_at nF
      clear nF
      go_upto_region 14 with fail
      go_cut [70] from 57 to 69 (fun c wc => c = .bool false ∧ Keeps [] w6 wc)
      case first =>
        by_cases h0 : N = 0
        · subst h0
          rw [show ((0 : Nat) : Int) = 0 from rfl]
          go_quiet (fail)
          go_wp2_with fail
          go_meet
          case rel => exact ⟨rfl, (Keeps.refl [] _).drewN _⟩
        · obtain ⟨N1, hN1⟩ : ∃ N1, N = N1 + 1 := ⟨N - 1, by omega⟩
          have hlt1 : N1 < E.length := by have := HN.out; omega
          have hll := Hg.out.2.2.2.2.2.2.2.1
          have hEl := Hg.out.2.2.2.2.2.2.2.2.1
          have hless : ltL (E[N1]'hlt1).2.1 P ∧ (E[N1]'hlt1).2.1.length ≤ 8 := by
            have h1 := hll (by have := HN.out; omega) (by have := HN.out; omega)
            have h2 : j - 1 = N1 := by have := HN.out; omega
            simpa only [h2] using h1
          obtain ⟨X0, hX0⟩ : ∃ X0, X0 = w6.drew := ⟨_, rfl⟩
          have kX : Keeps [] w6 X0 := by rw [hX0]; exact (Keeps.refl [] _).drew
          have hEX := H6.out.2.2.1.keep kX
          obtain ⟨b6, o6, ha6, hb6, d1, -⟩ := ent_at hEX N1 hlt1
          subst ha6
          have hin := hEX.2 _ (List.getElem_mem hlt1)
          unfold EntIn at hin
          generalize E[N1] = y at d1 hin hless
          obtain ⟨yv, yP, yr⟩ := y
          dsimp only at d1 hin hless
          obtain ⟨ya, yc, rfl, -, -, -⟩ := row_slice hin
          have nX := kX.at_ H6.out.1 (by simp)
          have d2 : X0.cell? ⟨q, 0, none⟩ = some (.slice a5 P.length c5) := by rw [cells_at nX]; rfl
          have hidx : (N : Int) - 1 = (N1 : Int) := by omega
          have hwi := IntWalk.i64_in ((N : Int) - 1) (by omega)
          have hN1l : (N1 : Int) < (N : Int) := by omega
          have hgt : decide (0 < N) = true := by simp; omega
          have hy1000 : yP.length ≤ 1000 := by have := hless.2; omega
          have hwn1 := IntWalk.i64_in (N1 : Int) (by omega)
          have HX := Lib.hid (And.intro hX0 (And.intro kX (And.intro hin (And.intro (kX.row H6.out.2.1 (by simp)) hless))))
          have lX := kX.lt lx
          clear hX0 kX hEX hin hll hEl hless nX hN1 h0 cx lx
          refine wp_region_held_drew (S := fun w' => w'.cell? ⟨b6, o6 + N1 * 5, none⟩ = some (.slice ya yP.length yc) ∧ w'.cell? ⟨q, 0, none⟩ = some (.slice a5 P.length c5)) (by kernel_rfl) (by rw [← HX.out.1]; exact ⟨d1, d2⟩) (fun hS => ?_)
          rw [← HX.out.1] at hS ⊢
          refine wpAnyH_take (i := 0) (v := ?_) rfl (by kernel_rfl) (by kernel_rfl) (by kernel_rfl) (fun _ _ _ h => h) (Or.inl ⟨by rfl, ?_⟩) (by assumption) ?_
          rotate_left
          · intro w' hSw; obtain ⟨s1, s2⟩ := hSw; go_simp; (try with_reducible rfl)
          simp only [Act.put, List.getElem_toArray, List.getElem_cons_succ, List.getElem_cons_zero, List.setIfInBounds_toArray, List.set_cons_zero, List.set_cons_succ]
          refine wpAnyH_take (i := 1) (v := ?_) rfl (by kernel_rfl) (by kernel_rfl) (by kernel_rfl) (fun _ _ _ h => h) (Or.inl ⟨by rfl, ?_⟩) (by assumption) ?_
          rotate_left
          · intro w' hSw; obtain ⟨s1, s2⟩ := hSw; go_simp; (try with_reducible rfl)
          simp only [Act.put, List.getElem_toArray, List.getElem_cons_succ, List.getElem_cons_zero, List.setIfInBounds_toArray, List.set_cons_zero, List.set_cons_succ]
          refine wpAnyH_take (i := 2) (v := ?_) rfl (by kernel_rfl) (by kernel_rfl) (by kernel_rfl) (fun _ _ _ h => h) (Or.inl ⟨by rfl, ?_⟩) (by assumption) ?_
          rotate_left
          · intro w' hSw; obtain ⟨s1, s2⟩ := hSw; go_simp; (try with_reducible rfl)
          simp only [Act.put, List.getElem_toArray, List.getElem_cons_succ, List.getElem_cons_zero, List.setIfInBounds_toArray, List.set_cons_zero, List.set_cons_succ]
          refine wpAnyH_take (i := 3) (v := ?_) rfl (by kernel_rfl) (by kernel_rfl) (by kernel_rfl) (fun _ _ _ h => h) (Or.inl ⟨by rfl, ?_⟩) (by assumption) ?_
          rotate_left
          · intro w' hSw; obtain ⟨s1, s2⟩ := hSw; go_simp; (try with_reducible rfl)
          simp only [Act.put, List.getElem_toArray, List.getElem_cons_succ, List.getElem_cons_zero, List.setIfInBounds_toArray, List.set_cons_zero, List.set_cons_succ]
          refine wpAnyH_take (i := 4) (v := ?_) rfl (by kernel_rfl) (by kernel_rfl) (by kernel_rfl) (fun _ _ _ h => h) (Or.inl ⟨by rfl, ?_⟩) (by assumption) ?_
          rotate_left
          · intro w' hSw; obtain ⟨s1, s2⟩ := hSw; go_simp; (try with_reducible rfl)
          simp only [Act.put, List.getElem_toArray, List.getElem_cons_succ, List.getElem_cons_zero, List.setIfInBounds_toArray, List.set_cons_zero, List.set_cons_succ]
          refine wpAnyH_take (i := 5) (v := ?_) rfl (by kernel_rfl) (by kernel_rfl) (by kernel_rfl) (fun _ _ _ h => h) (Or.inl ⟨by rfl, ?_⟩) (by assumption) ?_
          rotate_left
          · intro w' hSw; obtain ⟨s1, s2⟩ := hSw; go_simp; (try with_reducible rfl)
          simp only [Act.put, List.getElem_toArray, List.getElem_cons_succ, List.getElem_cons_zero, List.setIfInBounds_toArray, List.set_cons_zero, List.set_cons_succ]
          refine wpAnyH_take (i := 6) (v := ?_) rfl (by kernel_rfl) (by kernel_rfl) (by kernel_rfl) (fun _ _ _ h => h) (Or.inl ⟨by rfl, ?_⟩) (by assumption) ?_
          rotate_left
          · intro w' hSw; obtain ⟨s1, s2⟩ := hSw; go_simp; (try with_reducible rfl)
          simp only [Act.put, List.getElem_toArray, List.getElem_cons_succ, List.getElem_cons_zero, List.setIfInBounds_toArray, List.set_cons_zero, List.set_cons_succ]
          refine wpAnyH_take (i := 7) (v := ?_) rfl (by kernel_rfl) (by kernel_rfl) (by kernel_rfl) (fun _ _ _ h => h) (Or.inl ⟨by rfl, ?_⟩) (by assumption) ?_
          rotate_left
          · intro w' hSw; obtain ⟨s1, s2⟩ := hSw; go_simp; (try with_reducible rfl)
          simp only [Act.put, List.getElem_toArray, List.getElem_cons_succ, List.getElem_cons_zero, List.setIfInBounds_toArray, List.set_cons_zero, List.set_cons_succ]
          refine wpAnyH_take (i := 8) (v := ?_) rfl (by kernel_rfl) (by kernel_rfl) (by kernel_rfl) (fun _ _ _ h => h) (Or.inl ⟨by rfl, ?_⟩) (by assumption) ?_
          rotate_left
          · intro w' hSw; obtain ⟨s1, s2⟩ := hSw; go_simp; (try with_reducible rfl)
          simp only [Act.put, List.getElem_toArray, List.getElem_cons_succ, List.getElem_cons_zero, List.setIfInBounds_toArray, List.set_cons_zero, List.set_cons_succ]
          refine wpAnyH_take (i := 9) (v := ?_) rfl (by kernel_rfl) (by kernel_rfl) (by kernel_rfl) (fun _ _ _ h => h) (Or.inl ⟨by rfl, ?_⟩) (by assumption) ?_
          rotate_left
          · intro w' hSw; obtain ⟨s1, s2⟩ := hSw; go_simp; (try with_reducible rfl)
          simp only [Act.put, List.getElem_toArray, List.getElem_cons_succ, List.getElem_cons_zero, List.setIfInBounds_toArray, List.set_cons_zero, List.set_cons_succ]
          refine wpAnyH_take (i := 10) (v := ?_) rfl (by kernel_rfl) (by kernel_rfl) (by kernel_rfl) (fun _ _ _ h => h) (Or.inl ⟨by rfl, ?_⟩) (by assumption) ?_
          rotate_left
          · intro w' hSw; obtain ⟨s1, s2⟩ := hSw; go_simp; (try with_reducible rfl)
          simp only [Act.put, List.getElem_toArray, List.getElem_cons_succ, List.getElem_cons_zero, List.setIfInBounds_toArray, List.set_cons_zero, List.set_cons_succ]
          refine wpAnyH_ready (rs := [11]) (by kernel_rfl) (by simp) ?_
          refine AllReadyH.cons rfl (fun K hK => ?_) AllReadyH.nil
          go_simp
          go_at_call 51
          refine (labCompare_spec X0 0 _ 131 _ _ yP P HX.out.2.2.1 HX.out.2.2.2.1 hy1000 HX.out.2.2.2.2.1).mono ?_
          rintro e w7 ⟨rfl, hk7⟩
          have hb6' := hb6
          have t1 : w7.cell? ⟨b6, o6 + N1 * 5, none⟩ = some (.slice ya yP.length yc) := (hk7.cell hb6 (by simp)).trans d1
          have t2 : w7.cell? ⟨q, 0, none⟩ = some (.slice a5 P.length c5) := (hk7.cell lX (by simp)).trans d2
          have HK7 := Lib.hid (HX.out.2.1.trans hk7)
          clear hk7
          go_simp
          refine hK.out _ _ ⟨t1, t2⟩ (fun hS => ?_)
          clear hK K
          try simp only [Act.put, List.getElem_toArray, List.getElem_cons_succ, List.getElem_cons_zero, List.setIfInBounds_toArray, List.set_cons_zero, List.set_cons_succ]
          refine wpAnyH_take (i := 12) (v := ?_) rfl (by kernel_rfl) (by kernel_rfl) (by kernel_rfl) (fun _ _ _ h => h) (Or.inl ⟨by rfl, ?_⟩) (by assumption) ?_
          rotate_left
          · intro w' hSw; obtain ⟨s1, s2⟩ := hSw; go_simp; (try with_reducible rfl)
          simp only [Act.put, List.getElem_toArray, List.getElem_cons_succ, List.getElem_cons_zero, List.setIfInBounds_toArray, List.set_cons_zero, List.set_cons_succ]
          refine wpAnyH_take (i := 13) (v := ?_) rfl (by kernel_rfl) (by kernel_rfl) (by kernel_rfl) (fun _ _ _ h => h) (Or.inl ⟨by rfl, ?_⟩) (by assumption) ?_
          rotate_left
          · intro w' hSw; obtain ⟨s1, s2⟩ := hSw; go_simp; (try with_reducible rfl)
          simp only [Act.put, List.getElem_toArray, List.getElem_cons_succ, List.getElem_cons_zero, List.setIfInBounds_toArray, List.set_cons_zero, List.set_cons_succ]
          refine wpAnyH_done (by kernel_rfl) ?_ _
          clear hS d1 d2 t1 t2
          go_wp2_with fail
          go_meet
          case rel => exact ⟨rfl, HK7.out⟩
      case rest =>
        obtain ⟨rfl, hk7⟩ := hcut
        have n7 := hk7.at_ H6.out.1 (by simp)
        have hE7 := H6.out.2.2.1.keep hk7
        have hr7 := hk7.row H6.out.2.1 (by simp)
        have H7 := Lib.hid (And.intro hE7 (And.intro hr7 (H6.out.2.2.2.trans hk7)))
        have hsz7 := H7.out.2.2.size
        clear cx lx hE7 hr7 hk7
        have cx := cells_at n7
        have lx := lt_of_at n7
        clear n7
        have hown7 : wc.ownsRow W.heap.size 101 5 (.slice av N cv) N (E.flatMap encE) := by rw [HN.out] at H7 ⊢; exact H7.out.1.1
        have Hown := Lib.hid hown7
        clear hown7
        go_wp2_with (at_builtin; refine wpList_append_own _ rfl (.tmp 71) (.tmp 73) 97 rfl W.heap.size 101 ie _ 5 56 Tryz.underlying97 hie hz0 hz1 hz2 rfl (by decide) (.slice av N cv) N (E.flatMap encE) rfl (Hown.out.alloc _) ⟨wc.heap.size, 0, none⟩ 1 1 [.slice a5 P.length c5, .int .i64 (f : Nat), .int .i64 (n : Nat), .int .i64 (mn : Nat), .int .i64 (mx : Nat)] rfl rfl (news_of (heap_new wc _)) (by simp [Value.oneCell']) (by simp only [maxLen]; omega) (by omega) (by rw [World.size_alloc]; omega) ?_; intro v9 w9 hown9 hgrow9 hnil9; clear hnil9; obtain ⟨ao9, cp9, rfl, -, -, -⟩ := row_slice hown9; skip)
        have kN : Keeps [] wc (wc.alloc (.cells #[.slice a5 P.length c5, .int .i64 (f : Nat), .int .i64 (n : Nat), .int .i64 (mn : Nat), .int .i64 (mx : Nat)] 101)) := (Keeps.refl [] wc).alloc _
        have hgr := keeps_rowM hgrow9
        have hk9 := keeps_own (H7.out.2.2.trans kN) hgrow9 (fun g hg => (World.ownsRow.lt Hown.out g hg).1)
        have hE9 : EntrAt W.heap.size w9 (.slice ao9 (N + 1) cp9) (E ++ [(.slice a5 P.length c5, (P, f, n, mn, mx))]) := by
          refine ⟨?_, fun e he => ?_⟩
          · have h1 : (E ++ [((.slice a5 P.length c5 : Value), ((P, f, n, mn, mx) : EntP))]).length = N + 1 := by rw [List.length_append, ← HN.out]; rfl
            have h2 : (E ++ [((.slice a5 P.length c5 : Value), ((P, f, n, mn, mx) : EntP))]).flatMap encE = E.flatMap encE ++ [.slice a5 P.length c5, .int .i64 (f : Nat), .int .i64 (n : Nat), .int .i64 (mn : Nat), .int .i64 (mx : Nat)] := by rw [List.flatMap_append]; rfl
            rw [h1, h2]
            exact hown9
          · rcases List.mem_append.1 he with he | he
            · exact hgr.row ((H7.out.1.keep kN).2 e he) (rows_ne2 (Hown.out.alloc _) ((H7.out.1.keep kN).2 e he) (by decide))
            · obtain rfl : e = _ := by simpa using he
              have h3 := kN.row H7.out.2.1 (by simp)
              exact row_base (hgr.row h3 (rows_ne2 (Hown.out.alloc _) h3 (by decide))) (Nat.zero_le _)
        have H9 := Lib.hid (And.intro hE9 hk9)
        clear hown9 hgrow9 kN hgr hk9 hE9
        go_wp2_with fail
        go_roundg (EP.length - (j + 1))
        case measure => have := Hg.out.1; have := Hg.out.2.2.2.2.2.2.1; omega
        case rel =>
          have hm := Hg.out.2.2.2.2.2.1
          have hlt := Hg.out.2.2.2.2.2.2.1
          refine ⟨j + 1, hlt, rfl, rfl, by congr 1; omega, by rw [Hg.out.2.2.2.2.1], ⟨_, H9.out.1, by rw [List.length_append, Hg.out.2.2.2.2.2.2.2.2.1]; rfl, ?_⟩, H9.out.2⟩
          rw [List.map_append, Hg.out.2.2.2.2.2.2.2.2.2.1, Hg.out.2.2.2.1]
          rfl
    · have hjn : j = EP.length := by omega
      have hm0 : m = 0 := by omega
      have htR : t0 = ⟨#[]⟩ := by rw [ht0, hjn, List.drop_length]; rfl
      have htk : EP.take j = EP := List.take_of_length_le (by omega)
      rw [htk] at hEe
      rw [htR]
      subst hm0
      have Hr := Lib.hid (And.intro hE (And.intro hkr hEe))
      clear hgk hE hkr ht0 htk htR hm hEe hEl hjn
      rw [show ((0 : Nat) : Int) = 0 from rfl]
      go_wp2_with fail
      go_ret2
      exact ⟨_, E, rfl, ⟨row_base Hr.out.1.1 H3.out.size, Hr.out.1.2⟩, Hr.out.2.2, H3.out.trans Hr.out.2.1⟩
end Go.Proofs.YtkffpcmminlndaaGreatDoor
