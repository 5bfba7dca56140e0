/-
  ListingBack answers true for every tick, all lists of blocks and every turn, and leaves all memory that was there as it was.
  No condition: every input that can be read.
-/
import Derived.Test.YthlmlneiehijkaaAwake10
import Derived.Test.YthlmlneiehijkaaLstArg
namespace Go.Proofs.Ythlmlneiehijkaa
open Go Go.RowKit Go.Conc
open Go.Op (bytesLess)

/-- Cells of a slice of metas, from an element on. -/
theorem cells_drop {B : Nat} {w : World} {g o k c : Nat} {D : List MetaC} (h : SliceFrom B 8 encMC w (.slice (some ⟨g, o, none⟩) k c) D) (n : Nat) : ∀ j u, ((D.drop n).flatMap encMC)[j]? = some u → w.cell? ((⟨g, o + n * 8, none⟩ : Addr).add j) = some u := by
  intro j u hu
  have hlen : ∀ l : List MetaC, (l.flatMap encMC).length = l.length * 8 := fun l => by
    induction l with
    | nil => rfl
    | cons a l ih => simp only [List.flatMap_cons, List.length_append, ih, List.length_cons, encMC_len]; omega
  have hjl : j < (D.drop n).length * 8 := by
    have hq := (List.getElem?_eq_some_iff.1 hu).1
    rwa [hlen] at hq
  have hk : j / 8 < (D.drop n).length := by omega
  have hk2 : n + j / 8 < D.length := by rw [List.length_drop] at hk; omega
  obtain ⟨b', o', e', _, hlt', hcell⟩ := h.atI (n + j / 8) hk2
  injection e' with e'
  injection e' with e1 e2 _
  subst e1 e2
  have hr := hcell (j % 8) (by omega)
  rw [← List.getElem_drop (h := hk), ← flatMap_at encMC 8 encMC_len (D.drop n) (j / 8) hk (j % 8) (by omega), show j / 8 * 8 + j % 8 = j from by omega, hu] at hr
  have hadd : (⟨g, o + n * 8, none⟩ : Addr).add j = ⟨g, o + ((n + j / 8) * 8 + j % 8), none⟩ := by
    unfold Addr.add
    split
    · subst_vars; simp
    · simp; omega
  rw [hadd]
  exact hr

theorem cells_take {B : Nat} {w : World} {g o k c : Nat} {D : List MetaC} (h : SliceFrom B 8 encMC w (.slice (some ⟨g, o, none⟩) k c) D) (n : Nat) : ∀ j u, ((D.take n).flatMap encMC)[j]? = some u → w.cell? ((⟨g, o, none⟩ : Addr).add j) = some u := by
  intro j u hu
  have h2 : (D.flatMap encMC)[j]? = some u := by
    have e : D.flatMap encMC = (D.take n).flatMap encMC ++ (D.drop n).flatMap encMC := by rw [← List.flatMap_append, List.take_append_drop]
    rw [e, List.getElem?_append_left (List.getElem?_eq_some_iff.1 hu).1]
    exact hu
  have := cells_drop h 0 j u (by simpa using h2)
  simpa using this

def TurnPost (B : Nat) (W : World) (L : List MetaS) (u : Value) (wc : World) : Prop := ∃ a c, u = .slice (some a) L.length c ∧ MetasV B wc (.slice (some a) L.length c) L ∧ Keeps [] W wc

set_option linter.unusedSimpArgs false in
set_option maxRecDepth 100000 in
set_option maxHeartbeats 4000000 in
theorem listingBack_walk (w : World) (at_ : Int) (v : Value) (O : List OneL) (hO : SliceArg 11 encOneL w v O) (n : Int) :
    Calls Try.prog 3 #[.int .i64 at_, v, .int .i64 n] w fun e w' => e = .returned (.bool true) ∧ Keeps [] w w' := by
  have Hb := Lib.hid (blocks_spec w v O hO)
  obtain ⟨T, hT⟩ : ∃ T, T = blkL (O.take 10) := ⟨_, rfl⟩
  have hinv : BlkInv10 T := by rw [hT]; exact blkInv _ (by rw [List.length_take]; omega)
  have hTl : T.length ≤ 10 := by rw [hT, blkL_len, List.length_take]; omega
  rw [← hT] at Hb
  have Hinv := Lib.hid hinv
  obtain ⟨av, cv, rfl, -, -⟩ := hO
  obtain ⟨atn, hat⟩ : ∃ m : Nat, m = (min (max at_ 0) 1099511627776).toNat := ⟨_, rfl⟩
  have qa : min (max at_ 0) 1099511627776 = (atn : Int) := by omega
  have hatl : atn ≤ 1099511627776 := by omega
  obtain ⟨k, hk⟩ : ∃ k, k = T.length := ⟨_, rfl⟩
  obtain ⟨nn, hnn⟩ : ∃ m : Nat, m = (min (max n 0) (k : Int)).toNat := ⟨_, rfl⟩
  have qn : min (max n 0) (k : Int) = (nn : Int) := by omega
  have hnk : nn ≤ k := by omega
  unfold BlksPost at Hb
  rw [← hk] at Hb hTl
  have Hk := Lib.hid hk
  clear hat hnn hk hT hinv
  go_enter Try.func3, Try.ntmps3
  go_wp2_with fail
  refine Hb.out.mono ?_
  rintro e w1 ⟨gm, c, mb, vt, rfl, hms, hmp, hmb, hbv, hk1⟩
  obtain ⟨D, hD, hDs, hDm⟩ := hms.reps
  have hDl : D.length = k := by have := congrArg List.length hD; rw [List.length_map, List.length_map, ← Hk.out] at this; exact this
  have hkc : k ≤ c := by obtain ⟨_, _, e, _, hc, _⟩ := hDs; injection e with _ e2 e3; omega
  obtain ⟨L2, hL2⟩ : ∃ L, L = (D.drop nn ++ D.take nn).map (·.1) := ⟨_, rfl⟩
  have hL2p : L2.Perm (T.map (·.1)) := by
    rw [hL2, ← hD]
    refine List.Perm.map _ ?_
    exact List.perm_append_comm.trans (by rw [List.take_append_drop])
  have hL2l : L2.length = k := by have := hL2p.length_eq; rw [List.length_map, ← Hk.out] at this; exact this
  have H1 := Lib.hid (And.intro hms (And.intro hmp (And.intro hbv (And.intro hk1 hk1.size))))
  have HD := Lib.hid (And.intro hDs (And.intro hDm (And.intro hDl hL2)))
  have HL2 := Lib.hid (And.intro hL2p hL2l)
  obtain ⟨im, him, hzm0, hzm1, hzm2⟩ := info_parts infoMeta
  clear hms hmp hbv hk1 Hb hD hDs hDm hDl hL2 hL2p hL2l
  have hlen : ∀ l : List MetaC, (l.flatMap encMC).length = l.length * 8 := fun l => by
    induction l with
    | nil => rfl
    | cons a l ih => simp only [List.flatMap_cons, List.length_append, ih, List.length_cons, encMC_len]; omega
  have Hlen := Lib.hid hlen
  clear hlen
  go_upto_region 4 with fail
  go_cut [10] from 29 to 37 (TurnPost w.heap.size w1 L2)
  case first =>
    have hi1 : (0 : Int) ≤ (nn : Int) := by omega
    have hi2 : (nn : Int) ≤ (k : Int) := by omega
    have hi3 : (nn : Int) ≤ (c : Int) := by omega
    have kA0 : Keeps [] w1 w1.drew := (Keeps.refl [] w1).drew
    by_cases hcn : c = nn
    · subst hcn
      obtain rfl : k = c := by omega
      refine wp_region_held_drew (S := fun w' => Keeps [] w1 w') (by kernel_rfl) kA0 (fun hS => ?_)
      generalize w1.drew = A0 at kA0 hS ⊢
      refine wpAnyH_take (i := 1) (v := ?_) rfl (by kernel_rfl) (by kernel_rfl) (by kernel_rfl) (fun _ _ _ h => h) (Or.inl ⟨by rfl, ?_⟩) (by assumption) ?_
      rotate_left
      · intro w' s1; go_simp; (try with_reducible rfl)
      simp only [Act.put, List.getElem_toArray, List.getElem_cons_succ, List.getElem_cons_zero, List.setIfInBounds_toArray, List.set_cons_zero, List.set_cons_succ]
      refine wpAnyH_take (i := 2) (v := ?_) rfl (by kernel_rfl) (by kernel_rfl) (by kernel_rfl) (fun _ _ _ h => h) (Or.inl ⟨by rfl, ?_⟩) (by assumption) ?_
      rotate_left
      · intro w' s1; go_simp; (try with_reducible rfl)
      simp only [Act.put, List.getElem_toArray, List.getElem_cons_succ, List.getElem_cons_zero, List.setIfInBounds_toArray, List.set_cons_zero, List.set_cons_succ]
      refine wpAnyH_take (i := 3) (v := ?_) rfl (by kernel_rfl) (by kernel_rfl) (by kernel_rfl) (fun _ _ _ h => h) (Or.inl ⟨by rfl, ?_⟩) (by assumption) ?_
      rotate_left
      · intro w' s1; go_simp; (try with_reducible rfl)
      simp only [Act.put, List.getElem_toArray, List.getElem_cons_succ, List.getElem_cons_zero, List.setIfInBounds_toArray, List.set_cons_zero, List.set_cons_succ]
      refine wpAnyH_take (i := 5) (v := ?_) rfl (by kernel_rfl) (by kernel_rfl) (by kernel_rfl) (fun _ _ _ h => h) (Or.inl ⟨by rfl, ?_⟩) (by assumption) ?_
      rotate_left
      · intro w' s1; go_simp; (try with_reducible rfl)
      simp only [Act.put, List.getElem_toArray, List.getElem_cons_succ, List.getElem_cons_zero, List.setIfInBounds_toArray, List.set_cons_zero, List.set_cons_succ]
      refine wpAnyH_take (i := 6) (v := ?_) rfl (by kernel_rfl) (by kernel_rfl) (by kernel_rfl) (fun _ _ _ h => h) (Or.inl ⟨by rfl, ?_⟩) (by assumption) ?_
      rotate_left
      · intro w' s1; go_simp; (try with_reducible rfl)
      simp only [Act.put, List.getElem_toArray, List.getElem_cons_succ, List.getElem_cons_zero, List.setIfInBounds_toArray, List.set_cons_zero, List.set_cons_succ]
      refine wpAnyH_take (i := 7) (v := ?_) rfl (by kernel_rfl) (by kernel_rfl) (by kernel_rfl) (fun _ _ _ h => h) (Or.inl ⟨by rfl, ?_⟩) (by assumption) ?_
      rotate_left
      · intro w' s1; go_simp; (try with_reducible rfl)
      simp only [Act.put, List.getElem_toArray, List.getElem_cons_succ, List.getElem_cons_zero, List.setIfInBounds_toArray, List.set_cons_zero, List.set_cons_succ]
      refine wpAnyH_ready (rs := [0]) (by kernel_rfl) (by simp) ?_
      refine AllReadyH.cons rfl (fun K hK => ?_) AllReadyH.nil
      go_simp
      have kA1 : Keeps [] w1 (A0.alloc (.cells #[] 56)) := kA0.alloc _
      have row := ownsRow_made A0 w1.heap.size 56 8 kA0.size
      generalize A0.heap.size = gb at row ⊢
      generalize A0.alloc (.cells #[] 56) = A1 at row kA1 ⊢
      refine hK.out _ _ kA1 (fun hS => ?_)
      clear hK K
      try simp only [Act.put, List.getElem_toArray, List.getElem_cons_succ, List.getElem_cons_zero, List.setIfInBounds_toArray, List.set_cons_zero, List.set_cons_succ]
      refine wpAnyH_ready (rs := [4]) (by kernel_rfl) (by simp) ?_
      refine AllReadyH.cons rfl (fun K hK => ?_) AllReadyH.nil
      refine step_append_ownN rfl (.tmp 29) (.tmp 32) 23 rfl w1.heap.size 56 im _ 8 104 Try.underlying23 him hzm0 hzm1 hzm2 rfl (by decide) (.slice (some ⟨gb, 0, none⟩) 0 0) 0 [] (by rfl) row ⟨gm, 0, none⟩ 0 0 ((D.drop k).flatMap encMC) (by rfl) (by (rw [Hlen.out, List.length_drop, HD.out.2.2.1]) <;> omega) (fun j u hu => by rw [show D.drop k = [] from List.drop_eq_nil_of_le (by rw [HD.out.2.2.1]; omega)] at hu; simp at hu) (fun u hu => by obtain ⟨x, _, hx⟩ := List.mem_flatMap.1 hu; exact encMC_one x u hx) (by simp only [maxLen]; omega) (by omega) kA1.size ?_
      intro v5 A2 hown5 hgrow5 hnil5
      have kA2 := keeps_grownM kA1 hgrow5 (fun g hg => (World.ownsRow.lt row g hg).1)
      refine hK.out _ _ kA2 (fun hS => ?_)
      clear hK K
      try simp only [Act.put, List.getElem_toArray, List.getElem_cons_succ, List.getElem_cons_zero, List.setIfInBounds_toArray, List.set_cons_zero, List.set_cons_succ]
      refine wpAnyH_ready (rs := [8]) (by kernel_rfl) (by simp) ?_
      refine AllReadyH.cons rfl (fun K hK => ?_) AllReadyH.nil
      refine step_append_ownN rfl (.tmp 33) (.tmp 36) 23 rfl w1.heap.size 56 im _ 8 104 Try.underlying23 him hzm0 hzm1 hzm2 rfl (by decide) v5 (0 + 0) ([] ++ (D.drop k).flatMap encMC) (by rfl) hown5 ⟨gm, 0, none⟩ k k ((D.take k).flatMap encMC) (by rfl) (by rw [Hlen.out, List.length_take, HD.out.2.2.1]; omega) (cells_take (HD.out.1.keep kA2 (by simp)) k) (fun u hu => by obtain ⟨x, _, hx⟩ := List.mem_flatMap.1 hu; exact encMC_one x u hx) (by simp only [maxLen]; omega) (by omega) kA2.size ?_
      intro v9 A3 hown9 hgrow9 hnil9
      have kA3 := keeps_grownM kA2 hgrow9 (fun g hg => (World.ownsRow.lt hown5 g hg).1)
      refine hK.out _ _ kA3 (fun hS => ?_)
      clear hK K
      try simp only [Act.put, List.getElem_toArray, List.getElem_cons_succ, List.getElem_cons_zero, List.setIfInBounds_toArray, List.set_cons_zero, List.set_cons_succ]
      refine wpAnyH_ready (rs := [9]) (by kernel_rfl) (by simp) ?_
      refine AllReadyH.cons rfl (fun K hK => ?_) AllReadyH.nil
      go_simp
      have kA4 := kA3
      refine hK.out _ _ kA4 (fun hS => ?_)
      clear hK K
      try simp only [Act.put, List.getElem_toArray, List.getElem_cons_succ, List.getElem_cons_zero, List.setIfInBounds_toArray, List.set_cons_zero, List.set_cons_succ]
      refine wpAnyH_done (by kernel_rfl) ?_ _
      have hne5 : v5 ≠ .slice none 0 0 := fun e => by have := (hnil5.1 e).1; cases this
      obtain ⟨g9, c9, rfl⟩ := row_some hown9 (fun e => hne5 (hnil9.1 e).1)
      have hrow : A3.ownsRow w1.heap.size 56 8 (.slice (some ⟨g9, 0, none⟩) (0 + 0 + k) c9) (D.drop k ++ D.take k).length ((D.drop k ++ D.take k).flatMap encMC) := by
        rw [List.length_append, List.length_drop, List.length_take, HD.out.2.2.1, List.flatMap_append]
        have e : k - k + min k k = 0 + 0 + k := by omega
        rw [e]
        simpa using hown9
      have hmv := metasV_of ((sliceFrom_row (enc := encMC) (fun x => encMC_len x) hrow).low H1.out.2.2.2.2) (fun x hx => by
        have hx2 : x ∈ D := by
          rcases List.mem_append.1 hx with h | h
          · exact List.mem_of_mem_drop h
          · exact List.mem_of_mem_take h
        exact (HD.out.2.1 x hx2).same kA3)
      rw [← HD.out.2.2.2] at hmv
      have e3 : 0 + 0 + k = k := by omega
      rw [e3] at hmv ⊢
      have HF := Lib.hid (And.intro hmv kA3)
      clear hS hrow hmv hown9 hgrow9 hnil9 hown5 hgrow5 hnil5 row hne5 e3
      go_wp2_with fail
      go_meet
      case rel => exact ⟨⟨g9, 0, none⟩, c9, by rw [HL2.out.2], by rw [HL2.out.2]; exact HF.out.1, HF.out.2⟩
    · have hcn2 : ¬ (c : Int) = (nn : Int) := by omega
      refine wp_region_held_drew (S := fun w' => Keeps [] w1 w') (by kernel_rfl) kA0 (fun hS => ?_)
      generalize w1.drew = A0 at kA0 hS ⊢
      refine wpAnyH_take (i := 1) (v := ?_) rfl (by kernel_rfl) (by kernel_rfl) (by kernel_rfl) (fun _ _ _ h => h) (Or.inl ⟨by rfl, ?_⟩) (by assumption) ?_
      rotate_left
      · intro w' s1; go_simp; (try with_reducible rfl)
      simp only [Act.put, List.getElem_toArray, List.getElem_cons_succ, List.getElem_cons_zero, List.setIfInBounds_toArray, List.set_cons_zero, List.set_cons_succ]
      refine wpAnyH_take (i := 2) (v := ?_) rfl (by kernel_rfl) (by kernel_rfl) (by kernel_rfl) (fun _ _ _ h => h) (Or.inl ⟨by rfl, ?_⟩) (by assumption) ?_
      rotate_left
      · intro w' s1; go_simp; (try with_reducible rfl)
      simp only [Act.put, List.getElem_toArray, List.getElem_cons_succ, List.getElem_cons_zero, List.setIfInBounds_toArray, List.set_cons_zero, List.set_cons_succ]
      refine wpAnyH_take (i := 3) (v := ?_) rfl (by kernel_rfl) (by kernel_rfl) (by kernel_rfl) (fun _ _ _ h => h) (Or.inl ⟨by rfl, ?_⟩) (by assumption) ?_
      rotate_left
      · intro w' s1; go_simp; (try with_reducible rfl)
      simp only [Act.put, List.getElem_toArray, List.getElem_cons_succ, List.getElem_cons_zero, List.setIfInBounds_toArray, List.set_cons_zero, List.set_cons_succ]
      refine wpAnyH_take (i := 5) (v := ?_) rfl (by kernel_rfl) (by kernel_rfl) (by kernel_rfl) (fun _ _ _ h => h) (Or.inl ⟨by rfl, ?_⟩) (by assumption) ?_
      rotate_left
      · intro w' s1; go_simp; (try with_reducible rfl)
      simp only [Act.put, List.getElem_toArray, List.getElem_cons_succ, List.getElem_cons_zero, List.setIfInBounds_toArray, List.set_cons_zero, List.set_cons_succ]
      refine wpAnyH_take (i := 6) (v := ?_) rfl (by kernel_rfl) (by kernel_rfl) (by kernel_rfl) (fun _ _ _ h => h) (Or.inl ⟨by rfl, ?_⟩) (by assumption) ?_
      rotate_left
      · intro w' s1; go_simp; (try with_reducible rfl)
      simp only [Act.put, List.getElem_toArray, List.getElem_cons_succ, List.getElem_cons_zero, List.setIfInBounds_toArray, List.set_cons_zero, List.set_cons_succ]
      refine wpAnyH_take (i := 7) (v := ?_) rfl (by kernel_rfl) (by kernel_rfl) (by kernel_rfl) (fun _ _ _ h => h) (Or.inl ⟨by rfl, ?_⟩) (by assumption) ?_
      rotate_left
      · intro w' s1; go_simp; (try with_reducible rfl)
      simp only [Act.put, List.getElem_toArray, List.getElem_cons_succ, List.getElem_cons_zero, List.setIfInBounds_toArray, List.set_cons_zero, List.set_cons_succ]
      refine wpAnyH_ready (rs := [0]) (by kernel_rfl) (by simp) ?_
      refine AllReadyH.cons rfl (fun K hK => ?_) AllReadyH.nil
      go_simp
      have kA1 : Keeps [] w1 (A0.alloc (.cells #[] 56)) := kA0.alloc _
      have row := ownsRow_made A0 w1.heap.size 56 8 kA0.size
      generalize A0.heap.size = gb at row ⊢
      generalize A0.alloc (.cells #[] 56) = A1 at row kA1 ⊢
      refine hK.out _ _ kA1 (fun hS => ?_)
      clear hK K
      try simp only [Act.put, List.getElem_toArray, List.getElem_cons_succ, List.getElem_cons_zero, List.setIfInBounds_toArray, List.set_cons_zero, List.set_cons_succ]
      refine wpAnyH_ready (rs := [4]) (by kernel_rfl) (by simp) ?_
      refine AllReadyH.cons rfl (fun K hK => ?_) AllReadyH.nil
      refine step_append_ownN rfl (.tmp 29) (.tmp 32) 23 rfl w1.heap.size 56 im _ 8 104 Try.underlying23 him hzm0 hzm1 hzm2 rfl (by decide) (.slice (some ⟨gb, 0, none⟩) 0 0) 0 [] (by rfl) row ⟨gm, nn * 8, none⟩ (k - nn) (c - nn) ((D.drop nn).flatMap encMC) (by rfl) (by (rw [Hlen.out, List.length_drop, HD.out.2.2.1]) <;> omega) (by have := cells_drop (HD.out.1.keep kA1 (by simp)) nn; rwa [Nat.zero_add] at this) (fun u hu => by obtain ⟨x, _, hx⟩ := List.mem_flatMap.1 hu; exact encMC_one x u hx) (by simp only [maxLen]; omega) (by omega) kA1.size ?_
      intro v5 A2 hown5 hgrow5 hnil5
      have kA2 := keeps_grownM kA1 hgrow5 (fun g hg => (World.ownsRow.lt row g hg).1)
      refine hK.out _ _ kA2 (fun hS => ?_)
      clear hK K
      try simp only [Act.put, List.getElem_toArray, List.getElem_cons_succ, List.getElem_cons_zero, List.setIfInBounds_toArray, List.set_cons_zero, List.set_cons_succ]
      refine wpAnyH_ready (rs := [8]) (by kernel_rfl) (by simp) ?_
      refine AllReadyH.cons rfl (fun K hK => ?_) AllReadyH.nil
      refine step_append_ownN rfl (.tmp 33) (.tmp 36) 23 rfl w1.heap.size 56 im _ 8 104 Try.underlying23 him hzm0 hzm1 hzm2 rfl (by decide) v5 (0 + (k - nn)) ([] ++ (D.drop nn).flatMap encMC) (by rfl) hown5 ⟨gm, 0, none⟩ nn c ((D.take nn).flatMap encMC) (by rfl) (by rw [Hlen.out, List.length_take, HD.out.2.2.1]; omega) (cells_take (HD.out.1.keep kA2 (by simp)) nn) (fun u hu => by obtain ⟨x, _, hx⟩ := List.mem_flatMap.1 hu; exact encMC_one x u hx) (by simp only [maxLen]; omega) (by omega) kA2.size ?_
      intro v9 A3 hown9 hgrow9 hnil9
      have kA3 := keeps_grownM kA2 hgrow9 (fun g hg => (World.ownsRow.lt hown5 g hg).1)
      refine hK.out _ _ kA3 (fun hS => ?_)
      clear hK K
      try simp only [Act.put, List.getElem_toArray, List.getElem_cons_succ, List.getElem_cons_zero, List.setIfInBounds_toArray, List.set_cons_zero, List.set_cons_succ]
      refine wpAnyH_ready (rs := [9]) (by kernel_rfl) (by simp) ?_
      refine AllReadyH.cons rfl (fun K hK => ?_) AllReadyH.nil
      go_simp
      have kA4 := kA3
      refine hK.out _ _ kA4 (fun hS => ?_)
      clear hK K
      try simp only [Act.put, List.getElem_toArray, List.getElem_cons_succ, List.getElem_cons_zero, List.setIfInBounds_toArray, List.set_cons_zero, List.set_cons_succ]
      refine wpAnyH_done (by kernel_rfl) ?_ _
      have hne5 : v5 ≠ .slice none 0 0 := fun e => by have := (hnil5.1 e).1; cases this
      obtain ⟨g9, c9, rfl⟩ := row_some hown9 (fun e => hne5 (hnil9.1 e).1)
      have hrow : A3.ownsRow w1.heap.size 56 8 (.slice (some ⟨g9, 0, none⟩) (0 + (k - nn) + nn) c9) (D.drop nn ++ D.take nn).length ((D.drop nn ++ D.take nn).flatMap encMC) := by
        rw [List.length_append, List.length_drop, List.length_take, HD.out.2.2.1, List.flatMap_append]
        have e : k - nn + min nn k = 0 + (k - nn) + nn := by omega
        rw [e]
        simpa using hown9
      have hmv := metasV_of ((sliceFrom_row (enc := encMC) (fun x => encMC_len x) hrow).low H1.out.2.2.2.2) (fun x hx => by
        have hx2 : x ∈ D := by
          rcases List.mem_append.1 hx with h | h
          · exact List.mem_of_mem_drop h
          · exact List.mem_of_mem_take h
        exact (HD.out.2.1 x hx2).same kA3)
      rw [← HD.out.2.2.2] at hmv
      have e3 : 0 + (k - nn) + nn = k := by omega
      rw [e3] at hmv ⊢
      have HF := Lib.hid (And.intro hmv kA3)
      clear hS hrow hmv hown9 hgrow9 hnil9 hown5 hgrow5 hnil5 row hne5 e3
      go_wp2_with fail
      go_meet
      case rel => exact ⟨⟨g9, 0, none⟩, c9, by rw [HL2.out.2], by rw [HL2.out.2]; exact HF.out.1, HF.out.2⟩
  case rest =>
    obtain ⟨a2, c2, rfl, hm2, hkc⟩ := hcut
    rw [HL2.out.2] at hm2 ⊢
    have hnd : (T.map (fun p => p.1.id)).Nodup := Hinv.out.nodup (by rw [← Hk.out]; omega)
    have hnd1 : ((T.map (·.1)).map (·.id)).Nodup := by rw [List.map_map]; exact hnd
    have hnd2 : (L2.map (·.id)).Nodup := ((HL2.out.1.map (·.id)).nodup_iff).2 hnd1
    have hb1 : w.heap.size ≤ wc.heap.size := Nat.le_trans H1.out.2.2.2.2 hkc.size
    have hTk : (T.map (·.1)).length = k := by rw [List.length_map]; exact Hk.out.symm
    have hmr := kp hkc H1.out
    have hna := new_spec w.heap.size wc atn ⟨gm, 0, none⟩ k c (T.map (·.1)) (some mb) (marksOf T) hmr.1 (by rw [hTk]; omega) hnd1 hb1 (.inl ⟨mb, rfl, hmr.2.1⟩)
    have Hna := Lib.hid hna
    have Hnb := Lib.hid (fun W (hk : Keeps [] wc W) => new_spec w.heap.size W atn a2 k c2 L2 (some mb) (marksOf T) (hm2.same hk) (by rw [HL2.out.2]; omega) hnd2 (Nat.le_trans hb1 hk.size) (.inl ⟨mb, rfl, hmr.2.1.keep hk (by simp)⟩))
    have H2 := Lib.hid (And.intro hmr hTk)
    clear hm2 hnd hnd1 hnd2 hb1 hTk hmr hna HD H1 hkc
    go_wp2_with fail
    refine Hna.out.mono ?_
    rintro e w3 ⟨La, va, ma, rfl, hpa, hra, hma, hqa, hla, hk3⟩
    go_wp2_with fail
    refine (Hnb.out w3 hk3).mono ?_
    rintro e w4 ⟨Lb, vb, mbb, rfl, hpb, hrb, hmb2, hqb, hlb, hk4⟩
    obtain rfl : La = Lb := rise_eq (fun m : MetaS => m.id.data.toList) (hpa.trans (HL2.out.1.symm.trans hpb.symm)) hra hrb
    obtain ⟨aa, ca, rfl⟩ := hma.form
    obtain ⟨ab, cb, rfl⟩ := hmb2.form
    have hLa : La.length = k := by rw [hpa.length_eq]; exact H2.out.2
    have hok := listOk_of Hinv.out (by rw [← Hk.out]; omega) hpa hra hatl
    rw [hLa] at hma hmb2 ⊢
    have H4 := Lib.hid (And.intro (kp hk4 (And.intro hma hqa)) (And.intro hmb2 (And.intro hqb (And.intro (kp (hk3.trans hk4) H2.out.1) hLa))))
    have Hok := Lib.hid hok
    clear hpa hra hma hqa hpb hrb hmb2 hqb hLa hok Hna Hnb H2 hk3 hk4


    go_upto_region 6 with fail
    obtain ⟨la, hla⟩ : ∃ n, n = w4.heap.size := ⟨_, rfl⟩
    obtain ⟨lb, hlb⟩ : ∃ n, n = la + 1 := ⟨_, rfl⟩
    have n5 := new2 w4 (.cells #[.int .i64 atn, .slice aa k ca, .map (some ma)] 29) (.cells #[.int .i64 atn, .slice ab k cb, .map (some mbb)] 29)
    have k5 : Keeps [] w4 ((w4.alloc (.cells #[.int .i64 atn, .slice aa k ca, .map (some ma)] 29)).alloc (.cells #[.int .i64 atn, .slice ab k cb, .map (some mbb)] 29)) := ((Keeps.refl [] w4).alloc _).alloc _
    rw [← hla, ← hlb] at n5
    have H5 := Lib.hid (And.intro (kp k5 H4.out) n5)
    have HL := Lib.hid (And.intro hla hlb)
    clear n5 k5 hla hlb H4
    rw [← HL.out.1, ← HL.out.2]
    generalize (w4.alloc (.cells #[.int .i64 atn, .slice aa k ca, .map (some ma)] 29)).alloc (.cells #[.int .i64 atn, .slice ab k cb, .map (some mbb)] 29) = W5 at H5 ⊢
    clear HL
    have hmk : ∀ id t, look (marksOf T) id = some t → 0 ≤ t ∧ t ≤ 1099511627776 := fun id t h => (Hok.out.marks _ (look_mem h)).2
    have hl20 : La.length ≤ 20 := by have := H5.out.1.2.2.2.2; omega
    obtain ⟨enc, henc⟩ : ∃ s : ByteArray, s = ⟨(frameL 3 (lstL atn La (marksOf T))).toArray⟩ := ⟨_, rfl⟩
    have hea := fun W (hk : Keeps [] W5 W) => listEnc_spec w.heap.size W (.slice aa k ca) La atn ma (marksOf T) (kp hk H5.out.1.1.1) Hok.out.ok (kp hk H5.out.1.1.2) hmk hatl hl20
    have heb := fun W (hk : Keeps [] W5 W) => listEnc_spec w.heap.size W (.slice ab k cb) La atn mbb (marksOf T) (kp hk H5.out.1.2.1) Hok.out.ok (kp hk H5.out.1.2.2.1) hmk hatl hl20
    rw [← henc] at hea heb
    have hdec := fun W => listDec_spec W enc atn La (marksOf T) (by rw [henc]) Hok.out
    have Hea := Lib.hid hea
    have Heb := Lib.hid heb
    have Hdec := Lib.hid hdec
    have Henc := Lib.hid henc
    have cb5 := cells_at H5.out.2.2
    have lb5 := lt_of_at H5.out.2.2
    clear hea heb hdec henc hmk
    go_wp2_with fail
    refine (Heb.out _ (Keeps.refl _ _)).mono ?_
    rintro e w6 ⟨rfl, hk6⟩
    go_wp2_with fail
    refine (Hdec.out _).mono ?_
    rintro e w7 ⟨vx, mx, rfl, hmx, hqx, hk7⟩
    obtain ⟨ax, cx, rfl⟩ := hmx.form
    have hLa : La.length = k := H5.out.1.2.2.2.2
    rw [hLa] at hmx ⊢
    obtain ⟨xb, hxb⟩ : ∃ n, n = w7.heap.size := ⟨_, rfl⟩
    have ka : Keeps [] w7 (w7.alloc (.cells #[.int .i64 atn, .slice ax k cx, .map (some mx)] 29)) := (Keeps.refl [] w7).alloc _
    have na := heap_new w7 (.cells #[.int .i64 atn, .slice ax k cx, .map (some mx)] 29)
    rw [← hxb] at na
    have k58 := (hk6.trans hk7).trans ka
    have H8 := Lib.hid (And.intro (kp k58 H5.out) (And.intro na (And.intro k58 (And.intro (kp ka hmx) (And.intro (kp ka hqx) (Nat.le_trans hk6.size (Nat.le_refl _)))))))
    have Hxb := Lib.hid hxb
    clear ka na hxb hk6 hk7 hmx hqx k58 cb5 lb5 hLa Hdec
    go_upto_region 7 with fail
    rw [← Hxb.out]
    generalize w7.alloc (.cells #[.int .i64 atn, .slice ax k cx, .map (some mx)] 29) = W8 at H8 ⊢
    clear Hxb
    obtain ⟨⟨⟨hA, hB, hQ, hM, hLa⟩, nA, nB⟩, nX, k58, hmx, hqx, hz6⟩ := H8.out
    have hmk2 : ∀ id t, look (tookM (marksOf T) La) id = some t → 0 ≤ t ∧ t ≤ 1099511627776 := fun id t h => (Hok.out.took.marks _ (look_mem h)).2
    have hea : ∀ W, Keeps [] W8 W → Calls Try.prog 9 #[.agg #[.int .i64 atn, .slice aa k ca, .map (some ma)]] W (fun e w' => e = .returned (.string enc) ∧ Keeps [] W w') := fun W hk => Hea.out W (k58.trans hk)
    have heb : ∀ W, Keeps [] W8 W → Calls Try.prog 9 #[.agg #[.int .i64 atn, .slice ab k cb, .map (some mbb)]] W (fun e w' => e = .returned (.string enc) ∧ Keeps [] W w') := fun W hk => Heb.out W (k58.trans hk)
    have hex : ∀ W, Keeps [] W8 W → Calls Try.prog 9 #[.agg #[.int .i64 atn, .slice ax k cx, .map (some mx)]] W (fun e w' => e = .returned (.string enc) ∧ Keeps [] W w') := fun W hk => by
      have h := listEnc_spec W5.heap.size W (.slice ax k cx) La atn mx (tookM (marksOf T) La) ((hmx.low hz6).same hk) Hok.out.ok (kp hk hqx) hmk2 hatl hl20
      rw [lstL_took, ← Henc.out] at h
      exact h
    have haw : ∀ W, Keeps [] W8 W → Calls Try.prog 10 #[] W (fun e w' => e = .returned (.bool true) ∧ Keeps [] W w') := fun W _ => awake10_spec W
    obtain ⟨bt, ct, hvt⟩ : ∃ a c, vt = .slice a k c := by
      obtain ⟨VS, ⟨a, c, e, -⟩, hl, -⟩ := hM.2.2.1
      refine ⟨a, c, ?_⟩
      rw [e, hl, (sortT_ok (Hinv.out.nodup (by rw [← Hk.out]; omega))).1.length_eq, ← Hk.out]
    subst hvt
    have HEa := Lib.hid hea
    have HEb := Lib.hid heb
    have HEx := Lib.hid hex
    have Haw := Lib.hid haw
    have HK := Lib.hid hM.2.2.2.1
    have cA : ∀ (s : Kept W8) i, s.val.cell? ⟨la, i, none⟩ = (#[Value.int .i64 atn, .slice aa k ca, .map (some ma)] : Array Value)[i]? := fun s i => (s.property.cell (lt_of_at nA) (by simp)).trans (cells_at nA i)
    have cB : ∀ (s : Kept W8) i, s.val.cell? ⟨lb, i, none⟩ = (#[Value.int .i64 atn, .slice ab k cb, .map (some mbb)] : Array Value)[i]? := fun s i => (s.property.cell (lt_of_at nB) (by simp)).trans (cells_at nB i)
    have cX : ∀ (s : Kept W8) i, s.val.cell? ⟨xb, i, none⟩ = (#[Value.int .i64 atn, .slice ax k cx, .map (some mx)] : Array Value)[i]? := fun s i => (s.property.cell (lt_of_at nX) (by simp)).trans (cells_at nX i)
    have lA : ∀ s : Kept W8, la < s.val.heap.size := fun s => s.property.lt (lt_of_at nA)
    have lB : ∀ s : Kept W8, lb < s.val.heap.size := fun s => s.property.lt (lt_of_at nB)
    have lX : ∀ s : Kept W8, xb < s.val.heap.size := fun s => s.property.lt (lt_of_at nX)
    have hse : (enc.toList == enc.toList) = true := by simp
    clear hA hB hQ hM hLa nA nB nX k58 hmx hqx hz6 hmk2 hea heb hex haw H8 H5 Hea Heb
    refine wp_region_kept W8 (by kernel_rfl) (by kernel_rfl) ((Keeps.refl [] W8).drew) ?_
    repeat (go_big_quiet_step (first | (go_at_call 10; exact Calls.kept Haw.out) | (go_at_call 9; first | with_reducible exact Calls.kept HEa.out | with_reducible exact Calls.kept HEb.out | with_reducible exact Calls.kept HEx.out)))
    refine wpQuiet_nil ?_
    rintro _ ⟨⟨w9, hk9⟩, rfl⟩
    have HF := Lib.hid (HK.out.trans hk9)
    clear hk9
    go_wp2_with fail
    go_ret
    exact ⟨rfl, HF.out⟩

theorem listingBack_law (W : World) (a : Int) (_ : (Lit.int .i64 a).wf = true) (v : Value) (h : ∃ L : List OneL, SliceArg 11 encOneL W v L ∧ ∀ x ∈ L, True) (n : Int) (_ : (Lit.int .i64 n).wf = true) :
    Calls Try.prog 3 #[.int .i64 a, v, .int .i64 n] W fun e w' => e = .returned (.bool true) ∧ Keeps [] W w' := by
  obtain ⟨L, hs, _⟩ := h
  exact listingBack_walk W a v L hs n
end Go.Proofs.Ythlmlneiehijkaa
