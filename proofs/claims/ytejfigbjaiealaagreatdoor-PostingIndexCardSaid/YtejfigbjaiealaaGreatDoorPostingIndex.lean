/-
  PostingIndex answers true, and leaves all memory that was there as it was.
  The library's variable internal/bytealg.MaxLen holds some number.

  PostingIndex, its arguments opened.
  The library's variable internal/bytealg.MaxLen holds some number.
-/
import Derived.Test.YtejfigbjaiealaaGreatDoorTextsR
import Derived.Test.YtejfigbjaiealaaGreatDoorAwake12
import Derived.Test.YtejfigbjaiealaaGreatDoorOnesArg
namespace Go.Proofs.YtejfigbjaiealaaGreatDoor
open Go Go.RowKit

def IxOut (w : World) (x : Nat) (vo : Value) (TV : List SerV) (gk : Nat) (u9 u28 : Value) (wr : World) : Prop :=
  ∃ k, k ≤ TV.length ∧ gk = TV.length - k ∧ u28 = .int .i64 k ∧ Own w.heap.size wr u9 (putAll (((TV.take k).map (·.1)).map (·.1))) ∧ Idx wr x (TV.map (·.1)) ∧ ToldR wr vo TV ∧ Keeps [] w wr

def IxIn (wb : World) (L : List PairB) (gk : Nat) (u39 : Value) (wr : World) : Prop :=
  ∃ j, j ≤ L.length ∧ gk = L.length - j ∧ u39 = .int .i64 j ∧ Keeps [] wb wr

set_option linter.unusedSimpArgs false in
set_option maxRecDepth 100000 in
set_option maxHeartbeats 2000000 in
theorem postingIndex_walk (w : World) (hv : LibVar w) (v : Value) (XS : List (Value × Bool)) (h : SliceArg 2 encOne w v XS) (hok : OnesOk w XS) (nm val : ByteArray) :
    Calls Tryz.prog 3 #[v, .string nm, .string val] w fun e w' => e = .returned (.bool true) ∧ Keeps [] w w' := by
  have Hf := Lib.hid (And.intro h (And.intro hok hv))
  obtain ⟨av, cv, rfl, -, -⟩ := h
  clear hok hv
  go_enter Tryz.func3, Tryz.ntmps3
  go_wp2_with fail
  refine (growD_spec w _ XS Hf.out.1 Hf.out.2.1).mono ?_
  rintro e w1 ⟨x, vo, TV, rfl, hix, htr, hTl, hser, -, hk1⟩
  obtain ⟨ao, co, rfl, -, -, -, -⟩ := id htr.row
  have H1 := Lib.hid (And.intro hix (And.intro htr (And.intro (go1 hk1 Hf.out.2.2) hk1)))
  have hs10 := Lib.hid (fun (q : SerV) (hq : q ∈ TV) => (hser q hq).len)
  have HT := Lib.hid (takeT_len hs10.out hTl)
  clear hix htr hser hk1
  go_wp2_with fail
  refine (awake12_spec _ H1.out.2.2.1).mono ?_
  rintro e w2 ⟨rfl, hk2⟩
  have H2 := Lib.hid (And.intro (go1 hk2 H1.out) (own_made w2 w.heap.size 3 1 (H1.out.2.2.2.trans hk2).size))
  clear hk2 H1
  have k3 := (Keeps.refl [] w2).alloc (.cells #[] 3)
  have H3 := Lib.hid (And.intro (go1 k3 H2.out.1) H2.out.2)
  clear k3 H2
  go_wp2_with fail
  go_loopg [9, 28] TV.length (IxOut w x (.slice ao TV.length co) TV)
  case atStart => exact ⟨0, Nat.zero_le _, rfl, rfl, by simpa [putAll, Own] using H3.out.2, H3.out.1.1, H3.out.1.2.1, H3.out.1.2.2.2⟩
  case round =>
    obtain ⟨k, hk, hgk, rfl, hrow, hix, htr, hkw⟩ := hrel
    have Hg := Lib.hid hgk
    clear hgk H3
    by_cases hlt : k < TV.length
    · obtain ⟨b, off, ea, hb, d0, d1⟩ := ser_at htr.row k hlt
      subst ea
      have hlt' : (k : Int) < (TV.length : Int) := by omega
      have hs1 := hs10.out TV[k] (List.getElem_mem hlt)
      have hv1 := htr.ser TV[k] (List.getElem_mem hlt)
      have HX := Lib.hid (mapTake hlt)
      generalize TV[k] = q at d0 d1 hs1 hv1 HX
      obtain ⟨⟨n, L⟩, vs⟩ := q
      dsimp only at d0 d1 hs1 hv1 HX
      obtain ⟨a2, c2, rfl, -, -, -, -⟩ := id hv1
      obtain ⟨X, hXe⟩ : ∃ X, X = putAll (((TV.take k).map (·.1)).map (·.1)) := ⟨_, rfl⟩
      have hXl : X.length ≤ 12 := by
        have := putAll_len (((TV.take k).map (·.1)).map (·.1))
        rw [← hXe, List.length_map, List.length_map, List.length_take] at this
        omega
      rw [← hXe] at hrow
      have HXe := Lib.hid hXe
      clear hXe
      have kA : Keeps [] wr (wr.alloc (.cells #[.int .i64 n, .slice a2 L.length c2] 31)) := (Keeps.refl [] wr).alloc _
      have H4 := Lib.hid (And.intro (go1 kA (And.intro hrow (And.intro hix (And.intro htr (And.intro hkw hv1))))) (heap_new wr (.cells #[.int .i64 n, .slice a2 L.length c2] 31)))
      obtain ⟨ax, cx, rfl, -, -, -⟩ := row_slice hrow
      clear kA hrow hix htr hkw hv1
      go_upto_region 8 with fail
      clear d0 d1 hb
      generalize hwa : wr.alloc (.cells #[.int .i64 n, .slice a2 L.length c2] 31) = wa at H4 ⊢
      generalize hsb : wr.heap.size = sb at H4 ⊢
      clear hwa hsb
      have cs := cells_at H4.out.2
      have ls := lt_of_at H4.out.2
      go_wp2_with fail
      refine (putR_spec w.heap.size _ _ X n (Own.ints H4.out.1.1) (by omega)).mono ?_
      rintro e w5 ⟨v5, rfl, hown5, hk5⟩
      have H5 := Lib.hid (And.intro (row_base (b' := w.heap.size) hown5 H4.out.1.2.2.2.1.size) (go1 hk5 (And.intro H4.out.1.2 H4.out.2)))
      clear hown5 hk5 cs ls H4
      have cs := cells_at H5.out.2.2
      have ls := lt_of_at H5.out.2.2
      go_wp2_with fail
      clear cs ls
      go_loopg [39] L.length (IxIn w5 L)
      case atStart => exact ⟨0, Nat.zero_le _, rfl, rfl, Keeps.refl [] w5⟩
      case round =>
        obtain ⟨j, hj, hgj, rfl, hkb⟩ := hrel
        have Hgj := Lib.hid hgj
        clear hgj
        by_cases hltj : j < L.length
        · obtain ⟨b5, off5, cap5, ea, hb5, d0, d1⟩ := pair_at (go1 hkb H5.out.2.1.2.2.2).arg j hltj
          injection ea with ea _ ec
          subst ea ec
          have hltj' : (j : Int) < (L.length : Int) := by omega
          generalize L[j] = p at d0 d1
          obtain ⟨p1, p2⟩ := p
          dsimp only at d0 d1
          have kP : Keeps [] wr (wr.alloc (.cells #[.string p1, .string p2] 34)) := (Keeps.refl [] wr).alloc _
          have H6 := Lib.hid (And.intro (go1 (hkb.trans kP) H5.out) (And.intro (hkb.trans kP) (heap_new wr (.cells #[.string p1, .string p2] 34))))
          clear hkb kP
          go_upto_region 12 with fail
          clear d0 d1 hb5
          generalize hwp : wr.alloc (.cells #[.string p1, .string p2] 34) = wp at H6 ⊢
          generalize hpb : wr.heap.size = pb at H6 ⊢
          clear hwp hpb
          obtain ⟨W0, hW0⟩ : ∃ W0, W0 = wp.drew := ⟨_, rfl⟩
          have kW : Keeps [] wp W0 := by rw [hW0]; exact (Keeps.refl [] wp).drew
          have H7 := Lib.hid (And.intro (go1 kW H6.out.1.2.1) (And.intro (H6.out.2.1.trans kW) (go1 kW H6.out.2.2)))
          have HW := Lib.hid hW0
          clear kW hW0 H6
          have F0 : ∀ s : Kept W0, s.val.cell? ⟨pb, 0, none⟩ = some (.string p1) := keptCell (by rw [cells_at H7.out.2.2]; rfl)
          have F1 : ∀ s : Kept W0, s.val.cell? ⟨pb, 1, none⟩ = some (.string p2) := keptCell (by rw [cells_at H7.out.2.2]; rfl)
          refine wp_region_held_drew (S := KeptS W0) (by kernel_rfl) (by rw [← HW.out]; exact keptS (Keeps.refl _ _)) (fun hS => ?_)
          rw [← HW.out] at hS ⊢
          clear HW
          refine wpAnyH_take (i := 0) (v := ?_) rfl (by kernel_rfl) (by kernel_rfl) (by kernel_rfl) (fun _ _ _ h => h) (Or.inl ⟨by rfl, ?_⟩) (by assumption) ?_
          rotate_left
          · intro w' s1; obtain ⟨s, rfl⟩ := s1; go_simp; (try with_reducible rfl)
          simp only [Act.put, List.getElem_toArray, List.getElem_cons_succ, List.getElem_cons_zero, List.setIfInBounds_toArray, List.set_cons_zero, List.set_cons_succ]
          refine wpAnyH_take (i := 1) (v := ?_) rfl (by kernel_rfl) (by kernel_rfl) (by kernel_rfl) (fun _ _ _ h => h) (Or.inl ⟨by rfl, ?_⟩) (by assumption) ?_
          rotate_left
          · intro w' s1; obtain ⟨s, rfl⟩ := s1; go_simp; (try with_reducible rfl)
          simp only [Act.put, List.getElem_toArray, List.getElem_cons_succ, List.getElem_cons_zero, List.setIfInBounds_toArray, List.set_cons_zero, List.set_cons_succ]
          refine wpAnyH_take (i := 2) (v := ?_) rfl (by kernel_rfl) (by kernel_rfl) (by kernel_rfl) (fun _ _ _ h => h) (Or.inl ⟨by rfl, ?_⟩) (by assumption) ?_
          rotate_left
          · intro w' s1; obtain ⟨s, rfl⟩ := s1; go_simp; (try with_reducible rfl)
          simp only [Act.put, List.getElem_toArray, List.getElem_cons_succ, List.getElem_cons_zero, List.setIfInBounds_toArray, List.set_cons_zero, List.set_cons_succ]
          refine wpAnyH_take (i := 3) (v := ?_) rfl (by kernel_rfl) (by kernel_rfl) (by kernel_rfl) (fun _ _ _ h => h) (Or.inl ⟨by rfl, ?_⟩) (by assumption) ?_
          rotate_left
          · intro w' s1; obtain ⟨s, rfl⟩ := s1; go_simp; (try with_reducible rfl)
          simp only [Act.put, List.getElem_toArray, List.getElem_cons_succ, List.getElem_cons_zero, List.setIfInBounds_toArray, List.set_cons_zero, List.set_cons_succ]
          refine wpAnyH_take (i := 4) (v := ?_) rfl (by kernel_rfl) (by kernel_rfl) (by kernel_rfl) (fun _ _ _ h => h) (Or.inl ⟨by rfl, ?_⟩) (by assumption) ?_
          rotate_left
          · intro w' s1; obtain ⟨s, rfl⟩ := s1; go_simp; (try with_reducible rfl)
          simp only [Act.put, List.getElem_toArray, List.getElem_cons_succ, List.getElem_cons_zero, List.setIfInBounds_toArray, List.set_cons_zero, List.set_cons_succ]
          refine wpAnyH_take (i := 6) (v := ?_) rfl (by kernel_rfl) (by kernel_rfl) (by kernel_rfl) (fun _ _ _ h => h) (Or.inl ⟨by rfl, ?_⟩) (by assumption) ?_
          rotate_left
          · intro w' s1; obtain ⟨s, rfl⟩ := s1; go_simp; (try with_reducible rfl)
          simp only [Act.put, List.getElem_toArray, List.getElem_cons_succ, List.getElem_cons_zero, List.setIfInBounds_toArray, List.set_cons_zero, List.set_cons_succ]
          refine wpAnyH_take (i := 7) (v := ?_) rfl (by kernel_rfl) (by kernel_rfl) (by kernel_rfl) (fun _ _ _ h => h) (Or.inl ⟨by rfl, ?_⟩) (by assumption) ?_
          rotate_left
          · intro w' s1; obtain ⟨s, rfl⟩ := s1; go_simp; (try with_reducible rfl)
          simp only [Act.put, List.getElem_toArray, List.getElem_cons_succ, List.getElem_cons_zero, List.setIfInBounds_toArray, List.set_cons_zero, List.set_cons_succ]
          refine wpAnyH_take (i := 8) (v := ?_) rfl (by kernel_rfl) (by kernel_rfl) (by kernel_rfl) (fun _ _ _ h => h) (Or.inl ⟨by rfl, ?_⟩) (by assumption) ?_
          rotate_left
          · intro w' s1; obtain ⟨s, rfl⟩ := s1; go_simp; (try with_reducible rfl)
          simp only [Act.put, List.getElem_toArray, List.getElem_cons_succ, List.getElem_cons_zero, List.setIfInBounds_toArray, List.set_cons_zero, List.set_cons_succ]
          refine wpAnyH_take (i := 9) (v := ?_) rfl (by kernel_rfl) (by kernel_rfl) (by kernel_rfl) (fun _ _ _ h => h) (Or.inl ⟨by rfl, ?_⟩) (by assumption) ?_
          rotate_left
          · intro w' s1; obtain ⟨s, rfl⟩ := s1; go_simp; (try with_reducible rfl)
          simp only [Act.put, List.getElem_toArray, List.getElem_cons_succ, List.getElem_cons_zero, List.setIfInBounds_toArray, List.set_cons_zero, List.set_cons_succ]
          refine wpAnyH_take (i := 10) (v := ?_) rfl (by kernel_rfl) (by kernel_rfl) (by kernel_rfl) (fun _ _ _ h => h) (Or.inl ⟨by rfl, ?_⟩) (by assumption) ?_
          rotate_left
          · intro w' s1; obtain ⟨s, rfl⟩ := s1; go_simp; (try with_reducible rfl)
          simp only [Act.put, List.getElem_toArray, List.getElem_cons_succ, List.getElem_cons_zero, List.setIfInBounds_toArray, List.set_cons_zero, List.set_cons_succ]
          refine wpAnyH_ready (rs := [5]) (by kernel_rfl) (by simp) ?_
          refine AllReadyH.cons rfl (fun K hK => ?_) AllReadyH.nil
          go_simp
          go_at_call 10
          refine (getD_spec W0 x (TV.map (·.1)) p1 p2 H7.out.1.1).mono ?_
          rintro e A1 ⟨v1, rfl, ho1, q1⟩
          have E1 := Lib.hid (And.intro ho1.ints (And.intro q1 (go1 q1 H7.out.1)))
          obtain ⟨a1, c1, rfl, -, -, -⟩ := row_slice ho1
          clear ho1 q1
          go_simp
          refine hK.out _ _ (keptS E1.out.2.1) (fun hS => ?_)
          clear hK K
          try simp only [Act.put, List.getElem_toArray, List.getElem_cons_succ, List.getElem_cons_zero, List.setIfInBounds_toArray, List.set_cons_zero, List.set_cons_succ]
          refine wpAnyH_ready (rs := [11]) (by kernel_rfl) (by simp) ?_
          refine AllReadyH.cons rfl (fun K hK => ?_) AllReadyH.nil
          go_simp
          go_at_call 11
          refine (getR_spec A1 _ TV p1 p2 E1.out.2.2.2.1 hTl hs10.out).mono ?_
          rintro e A2 ⟨v2, rfl, ho2, q2⟩
          have E2 := Lib.hid (And.intro ho2.ints (And.intro (go1 q2 E1.out.1) (And.intro (E1.out.2.1.trans q2) (go1 q2 E1.out.2.2))))
          obtain ⟨a2', c2', rfl, -, -, -⟩ := row_slice ho2
          clear ho2 q2 E1
          go_simp
          refine hK.out _ _ (keptS E2.out.2.2.1) (fun hS => ?_)
          clear hK K
          try simp only [Act.put, List.getElem_toArray, List.getElem_cons_succ, List.getElem_cons_zero, List.setIfInBounds_toArray, List.set_cons_zero, List.set_cons_succ]
          refine wpAnyH_ready (rs := [12]) (by kernel_rfl) (by simp) ?_
          refine AllReadyH.cons rfl (fun K hK => ?_) AllReadyH.nil
          go_simp
          go_at_call 9
          refine (same_spec _ _ A2 _ _ _ E2.out.2.1 E2.out.1).mono ?_
          rintro e A3 ⟨rfl, q3⟩
          have E3 := Lib.hid (And.intro (E2.out.2.2.1.trans q3) (go1 q3 E2.out.2.2.2))
          clear q3 E2
          go_simp
          refine hK.out _ _ (keptS E3.out.1) (fun hS => ?_)
          clear hK K
          try simp only [Act.put, List.getElem_toArray, List.getElem_cons_succ, List.getElem_cons_zero, List.setIfInBounds_toArray, List.set_cons_zero, List.set_cons_succ]
          refine wpAnyH_take (i := 13) (v := ?_) rfl (by kernel_rfl) (by kernel_rfl) (by kernel_rfl) (fun _ _ _ h => h) (Or.inl ⟨by rfl, ?_⟩) (by assumption) ?_
          rotate_left
          · intro w' s1; obtain ⟨s, rfl⟩ := s1; go_simp; (try with_reducible rfl)
          simp only [Act.put, List.getElem_toArray, List.getElem_cons_succ, List.getElem_cons_zero, List.setIfInBounds_toArray, List.set_cons_zero, List.set_cons_succ]
          refine wpAnyH_take (i := 14) (v := ?_) rfl (by kernel_rfl) (by kernel_rfl) (by kernel_rfl) (fun _ _ _ h => h) (Or.inl ⟨by rfl, ?_⟩) (by assumption) ?_
          rotate_left
          · intro w' s1; obtain ⟨s, rfl⟩ := s1; go_simp; (try with_reducible rfl)
          simp only [Act.put, List.getElem_toArray, List.getElem_cons_succ, List.getElem_cons_zero, List.setIfInBounds_toArray, List.set_cons_zero, List.set_cons_succ]
          refine wpAnyH_take (i := 15) (v := ?_) rfl (by kernel_rfl) (by kernel_rfl) (by kernel_rfl) (fun _ _ _ h => h) (Or.inl ⟨by rfl, ?_⟩) (by assumption) ?_
          rotate_left
          · intro w' s1; obtain ⟨s, rfl⟩ := s1; go_simp; (try with_reducible rfl)
          simp only [Act.put, List.getElem_toArray, List.getElem_cons_succ, List.getElem_cons_zero, List.setIfInBounds_toArray, List.set_cons_zero, List.set_cons_succ]
          refine wpAnyH_take (i := 16) (v := ?_) rfl (by kernel_rfl) (by kernel_rfl) (by kernel_rfl) (fun _ _ _ h => h) (Or.inl ⟨by rfl, ?_⟩) (by assumption) ?_
          rotate_left
          · intro w' s1; obtain ⟨s, rfl⟩ := s1; go_simp; (try with_reducible rfl)
          simp only [Act.put, List.getElem_toArray, List.getElem_cons_succ, List.getElem_cons_zero, List.setIfInBounds_toArray, List.set_cons_zero, List.set_cons_succ]
          refine wpAnyH_take (i := 17) (v := ?_) rfl (by kernel_rfl) (by kernel_rfl) (by kernel_rfl) (fun _ _ _ h => h) (Or.inl ⟨by rfl, ?_⟩) (by assumption) ?_
          rotate_left
          · intro w' s1; obtain ⟨s, rfl⟩ := s1; go_simp; (try with_reducible rfl)
          simp only [Act.put, List.getElem_toArray, List.getElem_cons_succ, List.getElem_cons_zero, List.setIfInBounds_toArray, List.set_cons_zero, List.set_cons_succ]
          refine wpAnyH_take (i := 19) (v := ?_) rfl (by kernel_rfl) (by kernel_rfl) (by kernel_rfl) (fun _ _ _ h => h) (Or.inl ⟨by rfl, ?_⟩) (by assumption) ?_
          rotate_left
          · intro w' s1; obtain ⟨s, rfl⟩ := s1; go_simp; (try with_reducible rfl)
          simp only [Act.put, List.getElem_toArray, List.getElem_cons_succ, List.getElem_cons_zero, List.setIfInBounds_toArray, List.set_cons_zero, List.set_cons_succ]
          refine wpAnyH_take (i := 20) (v := ?_) rfl (by kernel_rfl) (by kernel_rfl) (by kernel_rfl) (fun _ _ _ h => h) (Or.inl ⟨by rfl, ?_⟩) (by assumption) ?_
          rotate_left
          · intro w' s1; obtain ⟨s, rfl⟩ := s1; go_simp; (try with_reducible rfl)
          simp only [Act.put, List.getElem_toArray, List.getElem_cons_succ, List.getElem_cons_zero, List.setIfInBounds_toArray, List.set_cons_zero, List.set_cons_succ]
          refine wpAnyH_take (i := 21) (v := ?_) rfl (by kernel_rfl) (by kernel_rfl) (by kernel_rfl) (fun _ _ _ h => h) (Or.inl ⟨by rfl, ?_⟩) (by assumption) ?_
          rotate_left
          · intro w' s1; obtain ⟨s, rfl⟩ := s1; go_simp; (try with_reducible rfl)
          simp only [Act.put, List.getElem_toArray, List.getElem_cons_succ, List.getElem_cons_zero, List.setIfInBounds_toArray, List.set_cons_zero, List.set_cons_succ]
          refine wpAnyH_ready (rs := [18]) (by kernel_rfl) (by simp) ?_
          refine AllReadyH.cons rfl (fun K hK => ?_) AllReadyH.nil
          go_simp
          go_at_call 13
          refine (valuesD_spec A3 x (TV.map (·.1)) p1 E3.out.2.1).mono ?_
          rintro e A4 ⟨v4, rfl, ho4, q4⟩
          have E4 := Lib.hid (And.intro (OwnS.strs ho4) (And.intro (E3.out.1.trans q4) (go1 q4 E3.out.2)))
          obtain ⟨a4, c4, rfl, -, -, -⟩ := row_slice ho4
          clear ho4 q4 E3
          go_simp
          refine hK.out _ _ (keptS E4.out.2.1) (fun hS => ?_)
          clear hK K
          try simp only [Act.put, List.getElem_toArray, List.getElem_cons_succ, List.getElem_cons_zero, List.setIfInBounds_toArray, List.set_cons_zero, List.set_cons_succ]
          refine wpAnyH_ready (rs := [22]) (by kernel_rfl) (by simp) ?_
          refine AllReadyH.cons rfl (fun K hK => ?_) AllReadyH.nil
          go_simp
          go_at_call 14
          refine (valuesR_spec A4 _ TV p1 E4.out.2.2.2.1 hTl hs10.out).mono ?_
          rintro e A5 ⟨v5', rfl, ho5, q5⟩
          have E5 := Lib.hid (And.intro (OwnS.strs ho5) (And.intro (go1 q5 E4.out.1) (And.intro (E4.out.2.1.trans q5) (go1 q5 E4.out.2.2))))
          obtain ⟨a5', c5', rfl, -, -, -⟩ := row_slice ho5
          clear ho5 q5 E4
          go_simp
          refine hK.out _ _ (keptS E5.out.2.2.1) (fun hS => ?_)
          clear hK K
          try simp only [Act.put, List.getElem_toArray, List.getElem_cons_succ, List.getElem_cons_zero, List.setIfInBounds_toArray, List.set_cons_zero, List.set_cons_succ]
          refine wpAnyH_ready (rs := [23]) (by kernel_rfl) (by simp) ?_
          refine AllReadyH.cons rfl (fun K hK => ?_) AllReadyH.nil
          go_simp
          go_at_call 12
          refine (texts_spec _ _ A5 _ _ _ E5.out.2.1 E5.out.1).mono ?_
          rintro e A6 ⟨rfl, q6⟩
          have E6 := Lib.hid (E5.out.2.2.1.trans q6)
          clear q6 E5
          go_simp
          refine hK.out _ _ (keptS E6.out) (fun hS => ?_)
          clear hK K
          try simp only [Act.put, List.getElem_toArray, List.getElem_cons_succ, List.getElem_cons_zero, List.setIfInBounds_toArray, List.set_cons_zero, List.set_cons_succ]
          refine wpAnyH_take (i := 24) (v := ?_) rfl (by kernel_rfl) (by kernel_rfl) (by kernel_rfl) (fun _ _ _ h => h) (Or.inl ⟨by rfl, ?_⟩) (by assumption) ?_
          rotate_left
          · intro w' s1; obtain ⟨s, rfl⟩ := s1; go_simp; (try with_reducible rfl)
          simp only [Act.put, List.getElem_toArray, List.getElem_cons_succ, List.getElem_cons_zero, List.setIfInBounds_toArray, List.set_cons_zero, List.set_cons_succ]
          refine wpAnyH_take (i := 25) (v := ?_) rfl (by kernel_rfl) (by kernel_rfl) (by kernel_rfl) (fun _ _ _ h => h) (Or.inl ⟨by rfl, ?_⟩) (by assumption) ?_
          rotate_left
          · intro w' s1; obtain ⟨s, rfl⟩ := s1; go_simp; (try with_reducible rfl)
          simp only [Act.put, List.getElem_toArray, List.getElem_cons_succ, List.getElem_cons_zero, List.setIfInBounds_toArray, List.set_cons_zero, List.set_cons_succ]
          refine wpAnyH_done (by kernel_rfl) ?_ _
          have E7 := Lib.hid (H7.out.2.1.trans E6.out)
          clear F0 F1 hS E6 H7
          go_wp2_with fail
          go_roundg (L.length - (j + 1))
          case measure => have := Hgj.out; omega
          case rel => exact ⟨j + 1, hltj, rfl, by go_num, E7.out⟩
        · have hge : ¬ (j : Int) < (L.length : Int) := by omega
          have Hr := Lib.hid (And.intro (go1 hkb H5.out.1) (go1 hkb H5.out.2.1))
          clear hkb H5
          go_wp2_with fail
          go_roundg (TV.length - (k + 1))
          case measure => have := Hg.out; omega
          case rel => exact ⟨k + 1, hlt, rfl, by go_num, by rw [HX.out, List.map_append, List.map_cons, List.map_nil, putAll_snoc, ← HXe.out]; exact Hr.out.1, Hr.out.2.1, Hr.out.2.2.1, Hr.out.2.2.2.1⟩
    · have hge : ¬ (k : Int) < (TV.length : Int) := by omega
      have hkn : k = TV.length := by omega
      obtain ⟨X, hXe⟩ : ∃ X, X = putAll (((TV.take k).map (·.1)).map (·.1)) := ⟨_, rfl⟩
      rw [← hXe] at hrow
      have hXe2 := Lib.hid (show X = putAll ((TV.map (·.1)).map (·.1)) from by rw [hXe, hkn, List.take_length])
      clear hXe
      have H4 := Lib.hid (And.intro (Own.ints hrow) (And.intro hix (And.intro htr hkw)))
      obtain ⟨ax, cx, rfl, -, -, -⟩ := row_slice hrow
      clear hrow hix htr hkw hkn
      go_wp2_with fail
      refine (allD_spec _ x (TV.map (·.1)) H4.out.2.1).mono ?_
      rintro e A1 ⟨v1, rfl, ho1, q1⟩
      rw [← hXe2.out] at ho1
      have E1 := Lib.hid (And.intro ho1.ints (go1 q1 H4.out))
      obtain ⟨a1, c1, rfl, -, -, -⟩ := row_slice ho1
      clear ho1 q1 H4
      go_wp2_with fail
      refine (same_spec _ _ A1 _ _ _ E1.out.1 E1.out.2.1).mono ?_
      rintro e A2 ⟨rfl, q2⟩
      have E2 := Lib.hid (go1 q2 E1.out.2.2)
      clear q2 E1
      go_wp2_with fail
      refine (namesD_spec A2 x (TV.map (·.1)) E2.out.1).mono ?_
      rintro e A3 ⟨v3, rfl, ho3, q3⟩
      have E3 := Lib.hid (And.intro (OwnS.strs ho3) (go1 q3 E2.out))
      obtain ⟨a3, c3, rfl, -, -, -⟩ := row_slice ho3
      clear ho3 q3 E2
      go_wp2_with fail
      refine (namesR_spec A3 _ TV E3.out.2.2.1 hTl hs10.out).mono ?_
      rintro e A4 ⟨v4, rfl, ho4, q4⟩
      have E4 := Lib.hid (And.intro (OwnS.strs ho4) (go1 q4 E3.out))
      obtain ⟨a4, c4, rfl, -, -, -⟩ := row_slice ho4
      clear ho4 q4 E3
      go_wp2_with fail
      refine (texts_spec _ _ A4 _ _ _ E4.out.2.1 E4.out.1).mono ?_
      rintro e A5 ⟨rfl, q5⟩
      have E5 := Lib.hid (go1 q5 E4.out.2.2)
      clear q5 E4
      go_wp2_with fail
      refine (getD_spec A5 x (TV.map (·.1)) nm val E5.out.1).mono ?_
      rintro e A6 ⟨v6, rfl, ho6, q6⟩
      have E6 := Lib.hid (And.intro ho6.ints (go1 q6 E5.out))
      obtain ⟨a6, c6, rfl, -, -, -⟩ := row_slice ho6
      clear ho6 q6 E5
      go_wp2_with fail
      refine (getR_spec A6 _ TV nm val E6.out.2.2.1 hTl hs10.out).mono ?_
      rintro e A7 ⟨v7, rfl, ho7, q7⟩
      have E7 := Lib.hid (And.intro ho7.ints (go1 q7 E6.out))
      obtain ⟨a7, c7, rfl, -, -, -⟩ := row_slice ho7
      clear ho7 q7 E6
      go_wp2_with fail
      refine (same_spec _ _ A7 _ _ _ E7.out.2.1 E7.out.1).mono ?_
      rintro e A8 ⟨rfl, q8⟩
      have E8 := Lib.hid (go1 q8 E7.out.2.2)
      clear q8 E7
      go_wp2_with fail
      refine (valuesD_spec A8 x (TV.map (·.1)) nm E8.out.1).mono ?_
      rintro e A9 ⟨v9, rfl, ho9, q9⟩
      have E9 := Lib.hid (And.intro (OwnS.strs ho9) (go1 q9 E8.out))
      obtain ⟨a9, c9, rfl, -, -, -⟩ := row_slice ho9
      clear ho9 q9 E8
      go_wp2_with fail
      refine (valuesR_spec A9 _ TV nm E9.out.2.2.1 hTl hs10.out).mono ?_
      rintro e A10 ⟨v10, rfl, ho10, q10⟩
      have E10 := Lib.hid (And.intro (OwnS.strs ho10) (go1 q10 E9.out))
      obtain ⟨a10, c10, rfl, -, -, -⟩ := row_slice ho10
      clear ho10 q10 E9
      go_wp2_with fail
      refine (texts_spec _ _ A10 _ _ _ E10.out.2.1 E10.out.1).mono ?_
      rintro e A11 ⟨rfl, q11⟩
      have E11 := Lib.hid (E10.out.2.2.2.2.trans q11)
      clear q11 E10
      go_wp2_with fail
      go_ret
      exact ⟨rfl, E11.out⟩
end Go.Proofs.YtejfigbjaiealaaGreatDoor

namespace Go.Proofs.YtejfigbjaiealaaGreatDoor
open Go Go.RowKit

theorem postingIndex_law (w : World) (hv : LibVar w) (va : Value) (ha : Ones12 w va) (nm : ByteArray) (_ : nm.size ≤ maxLen) (val : ByteArray) (_ : val.size ≤ maxLen) :
    Calls Tryz.prog 3 #[va, .string nm, .string val] w fun e w' => e = .returned (.bool true) ∧ Keeps [] w w' := by
  obtain ⟨XS, h1, h2, -⟩ := ha
  exact postingIndex_walk w hv va XS h1 h2 nm val
end Go.Proofs.YtejfigbjaiealaaGreatDoor
