/-
  Package barographlaw13: short: a matcher's name and its first twelve values, each cut to 42 bytes.
  No condition beyond those that each theorem states.
-/
import Derived.Test.YtlifonflgcfafaaGreatDoorPlain
import Derived.Test.YtlifonflgcfafaaGreatDoorRegion
namespace Go.Proofs.YtlifonflgcfafaaGreatDoor
open Go Go.RowKit

theorem infoStr : (Tryz.prog.info? 9).map (fun i => (i.zero, i.size, i.bytes)) = some (some (.string ⟨#[]⟩), 1, 16) := by kernel_rfl

def shortV (V : List ByteArray) : List ByteArray := (V.take 12).map fun v => cut v 42

theorem short_end {B : Nat} {wr : World} {V : List ByteArray} {j : Nat} {v : Value} (hj : j = min V.length 12) (h : wr.ownsRow B 9 1 v j (((V.take j).map fun v => cut v 42).map Value.string)) : wr.ownsRow B 9 1 v (shortV V).length ((shortV V).map Value.string) := by
  have e : shortV V = (V.take j).map fun v => cut v 42 := by
    unfold shortV
    congr 1
    subst hj
    by_cases h12 : V.length ≤ 12
    · rw [List.take_of_length_le h12, List.take_of_length_le (by omega)]
    · rw [show min V.length 12 = 12 from by omega]
  have el : (shortV V).length = j := by rw [e, List.length_map, List.length_take]; omega
  rw [el, e]
  exact h

def ShortRel (b : Nat) (w : World) (p1 p2 p3 : Nat) (o1 o2 : Obj) (k : Int) (n : ByteArray) (V : List ByteArray) (gk : Nat) (u4 : Value) (wr : World) : Prop :=
  ∃ j va, j ≤ V.length ∧ j ≤ 12 ∧ gk = 12 - j ∧ u4 = .int .i64 j ∧ wr.heap[p1]? = some o1 ∧ wr.heap[p2]? = some o2 ∧ wr.heap[p3]? = some (.cells #[.int .i64 k, .string n, va] 113 (0, 0)) ∧ wr.ownsRow b 9 1 va j (((V.take j).map fun v => cut v 42).map Value.string) ∧ Keeps [] w wr

set_option linter.unusedSimpArgs false in
set_option maxRecDepth 100000 in
set_option maxHeartbeats 1000000 in
theorem short_spec (w : World) (k : Int) (n : ByteArray) (v : Value) (V : List ByteArray) (h : SliceArg 1 encS1 w v V) :
    Calls Tryz.prog 42 #[.agg #[.int .i64 k, .string n, v]] w fun e w' => ∃ v', e = .returned (.agg #[.int .i64 k, .string (cut n 42), v']) ∧ w'.ownsRow w.heap.size 9 1 v' (shortV V).length ((shortV V).map Value.string) ∧ Keeps [] w w' := by
  obtain ⟨ip, hip, hz0, hz1, hz2⟩ := info_parts infoStr
  have hf := h
  have Hf := Lib.hid h
  obtain ⟨ao, cap, rfl, hl, -⟩ := h
  unfold maxLen at hl
  obtain ⟨o1, ho1⟩ : ∃ o, o = Obj.cells #[.int .i64 k, .string n, .slice ao V.length cap] 62 (0, 0) := ⟨_, rfl⟩
  obtain ⟨o2, ho2⟩ : ∃ o, o = Obj.cells #[.int .i64 0, .string ⟨#[]⟩, .slice none 0 0] 113 (0, 0) := ⟨_, rfl⟩
  obtain ⟨A0, hA0⟩ : ∃ A0, A0 = ((w.alloc o1).alloc o2).drew := ⟨_, rfl⟩
  have kw : Keeps [] w A0 := by rw [hA0]; exact (((Keeps.refl [] w).alloc _).alloc _).drew
  have n12 := new2 w o1 o2
  have n1 : A0.heap[w.heap.size]? = some o1 := by rw [hA0]; exact n12.1
  have n2 : A0.heap[w.heap.size + 1]? = some o2 := by rw [hA0]; exact n12.2
  have H0 := Lib.hid (And.intro n1 (And.intro n2 (And.intro (hf.keep kw) kw)))
  have HW := Lib.hid (show A0 = ((w.alloc (.cells #[.int .i64 k, .string n, .slice ao V.length cap] 62)).alloc (.cells #[.int .i64 0, .string ⟨#[]⟩, .slice none 0 0] 113)).drew from by rw [hA0, ho1, ho2])
  have D0 : ∀ s : Kept A0, s.val.cell? ⟨w.heap.size, 0, none⟩ = some (.int .i64 k) := keptCell (by rw [cells_at (ho1 ▸ n1)]; rfl)
  have D1 : ∀ s : Kept A0, s.val.cell? ⟨w.heap.size, 1, none⟩ = some (.string n) := keptCell (by rw [cells_at (ho1 ▸ n1)]; rfl)
  have Ho := Lib.hid (And.intro ho1 ho2)
  clear hf kw n12 n1 n2 hA0 ho1 ho2
  go_enter Tryz.func42, Tryz.ntmps42
  go_upto_region 1 with fail
  refine wp_region_held_drew (S := KeptS A0) (by kernel_rfl) (by rw [← HW.out]; exact keptS (Keeps.refl _ _)) (fun hS => ?_)
  rw [← HW.out] at hS ⊢
  clear HW
  have kA0 : Keeps [] A0 A0 := Keeps.refl _ _
  refine wpAnyH_take (i := 0) (v := ?_) rfl (by kernel_rfl) (by kernel_rfl) (by kernel_rfl) (fun _ _ _ h => h) (Or.inl ⟨by rfl, ?_⟩) (by assumption) ?_
  rotate_left
  · intro w' s1; obtain ⟨s, rfl⟩ := s1; go_simp; (try with_reducible rfl)
  simp only [Act.put, List.getElem_toArray, List.getElem_cons_succ, List.getElem_cons_zero, List.setIfInBounds_toArray, List.set_cons_zero, List.set_cons_succ]
  refine wpAnyH_take (i := 1) (v := ?_) rfl (by kernel_rfl) (by kernel_rfl) (by kernel_rfl) (fun _ _ _ h => h) (Or.inl ⟨by rfl, ?_⟩) (by assumption) ?_
  rotate_left
  · intro w' s1; obtain ⟨s, rfl⟩ := s1; go_simp; (try with_reducible rfl)
  simp only [Act.put, List.getElem_toArray, List.getElem_cons_succ, List.getElem_cons_zero, List.setIfInBounds_toArray, List.set_cons_zero, List.set_cons_succ]
  refine wpAnyH_take (i := 2) (v := ?_) rfl (by kernel_rfl) (by kernel_rfl) (by kernel_rfl) (fun _ _ _ h => h) (Or.inl ⟨by rfl, ?_⟩) (by assumption) ?_
  rotate_left
  · intro w' s1; obtain ⟨s, rfl⟩ := s1; go_simp; (try with_reducible rfl)
  simp only [Act.put, List.getElem_toArray, List.getElem_cons_succ, List.getElem_cons_zero, List.setIfInBounds_toArray, List.set_cons_zero, List.set_cons_succ]
  refine wpAnyH_take (i := 3) (v := ?_) rfl (by kernel_rfl) (by kernel_rfl) (by kernel_rfl) (fun _ _ _ h => h) (Or.inl ⟨by rfl, ?_⟩) (by assumption) ?_
  rotate_left
  · intro w' s1; obtain ⟨s, rfl⟩ := s1; go_simp; (try with_reducible rfl)
  simp only [Act.put, List.getElem_toArray, List.getElem_cons_succ, List.getElem_cons_zero, List.setIfInBounds_toArray, List.set_cons_zero, List.set_cons_succ]
  have kA1 : Keeps [] A0 (A0.alloc (.cells #[.int .i64 0, .string ⟨#[]⟩, .slice none 0 0] 113)) := (Keeps.refl [] A0).alloc _
  have HP := Lib.hid (show w.heap.size ≤ A0.heap.size ∧ w.heap.size ≠ A0.heap.size ∧ w.heap.size + 1 ≠ A0.heap.size from by
    have := lt_of_at H0.out.1
    have := lt_of_at H0.out.2.1
    omega)
  have kA2 : Keeps [] A0 (A0.alloc (.cells #[.int .i64 k, .string (cut n 42), .slice none 0 0] 113)) := (Keeps.refl [] A0).alloc _
  have H1 := Lib.hid (And.intro (heap_new A0 (.cells #[.int .i64 k, .string (cut n 42), .slice none 0 0] 113)) (And.intro (kA2.at_ H0.out.1 (by simp)) (And.intro (kA2.at_ H0.out.2.1 (by simp)) (And.intro (H0.out.2.2.1.keep kA2) (H0.out.2.2.2.trans kA2)))))
  refine wpAnyH_ready (rs := [4, 6]) (by kernel_rfl) (by simp) ?_
  refine AllReadyH.cons rfl (fun K hK => ?_) (AllReadyH.cons rfl (fun K hK => ?_) AllReadyH.nil)
  · go_simp
    go_at_call 76
    refine (cut_any n 42 _ (by decide)).mono ?_
    rintro e w' ⟨rfl, rfl⟩
    go_simp
    refine hK.out _ _ (keptS kA0) (fun hS => ?_)
    clear hK K
    try simp only [Act.put, List.getElem_toArray, List.getElem_cons_succ, List.getElem_cons_zero, List.setIfInBounds_toArray, List.set_cons_zero, List.set_cons_succ]
    refine wpAnyH_take (i := 5) (v := ?_) rfl (by kernel_rfl) (by kernel_rfl) (by kernel_rfl) (fun _ _ _ h => h) (Or.inl ⟨by rfl, ?_⟩) (by assumption) ?_
    rotate_left
    · intro w' s1; obtain ⟨s, rfl⟩ := s1; go_simp; (try with_reducible rfl)
    simp only [Act.put, List.getElem_toArray, List.getElem_cons_succ, List.getElem_cons_zero, List.setIfInBounds_toArray, List.set_cons_zero, List.set_cons_succ]
    refine wpAnyH_ready (rs := [6]) (by kernel_rfl) (by simp) ?_
    refine AllReadyH.cons rfl (fun K hK => ?_) AllReadyH.nil
    go_simp
    go_simp
    refine hK.out _ _ (keptS kA1) (fun hS => ?_)
    clear hK K
    try simp only [Act.put, List.getElem_toArray, List.getElem_cons_succ, List.getElem_cons_zero, List.setIfInBounds_toArray, List.set_cons_zero, List.set_cons_succ]
    refine wpAnyH_ready (rs := [7]) (by kernel_rfl) (by simp) ?_
    refine AllReadyH.cons rfl (fun K hK => ?_) AllReadyH.nil
    go_simp
    go_simp
    refine hK.out _ _ (keptS kA2) (fun hS => ?_)
    clear hK K
    try simp only [Act.put, List.getElem_toArray, List.getElem_cons_succ, List.getElem_cons_zero, List.setIfInBounds_toArray, List.set_cons_zero, List.set_cons_succ]
    refine wpAnyH_done (by kernel_rfl) ?_ _
    clear hS kA0 kA1 kA2 D0 D1
    generalize A0.heap.size = p3 at H1 HP ⊢
    generalize A0.alloc (.cells #[.int .i64 k, .string (cut n 42), .slice none 0 0] 113) = W at H1 ⊢
    have HP3 := Lib.hid (show w.heap.size ≤ p3 ∧ w.heap.size ≠ p3 ∧ w.heap.size + 1 ≠ p3 from HP.out)
    clear HP
    go_wp2_with fail
    go_loopg [4] 12 (ShortRel w.heap.size w w.heap.size (w.heap.size + 1) p3 o1 o2 k (cut n 42) V)
    case atStart => exact ⟨0, .slice none 0 0, Nat.zero_le _, Nat.zero_le _, rfl, rfl, H1.out.2.1, H1.out.2.2.1, H1.out.1, World.ownsRow_nil _ _ _ 1, H1.out.2.2.2.2⟩
    case round =>
      obtain ⟨j, va, hj, hj12, hgk, rfl, h1, h2, h3, hown, hkw⟩ := hrel
      have Hg := Lib.hid hgk
      clear hgk
      have h1' := h1
      rw [Ho.out.1] at h1'
      obtain ⟨va', ca, rfl, -, -, -⟩ := row_slice hown
      by_cases hend : j < V.length ∧ j < 12
      · obtain ⟨hlt, hlt12⟩ := hend
        have hV0 : 0 < V.length := by omega
        have hb0 := H0.out.2.2.2.size
        obtain ⟨b, off, cap', ea, hbW, hcell⟩ := texts_at (Hf.out.keep hkw) hV0
        injection ea with ea _ ec
        subst ea ec
        have d0 := hcell j hlt
        rw [List.getD_eq_getElem?_getD, List.getElem?_eq_getElem hlt, Option.getD_some] at d0
        have Hb := Lib.hid (show b < w.heap.size from by
          obtain ⟨b', off', cap', ea, hbw, -⟩ := texts_at Hf.out hV0
          injection ea with ea _ _
          injection ea with ea
          injection ea with ea _ _
          omega)
        have hlt' : (j : Int) < (V.length : Int) := by omega
        have hlt12' : (j : Int) < 12 := by omega
        obtain ⟨y, hy⟩ : ∃ y, y = V[j] := ⟨_, rfl⟩
        rw [← hy] at d0
        have Hy := Lib.hid hy
        obtain ⟨W9, hW9⟩ : ∃ W9, W9 = wr.drew := ⟨_, rfl⟩
        have k9 : Keeps [] wr W9 := by rw [hW9]; exact (Keeps.refl [] wr).drew
        have H9 := Lib.hid (go1 k9 (And.intro h1' (And.intro h2 (And.intro h3 (And.intro hown hkw)))))
        have HW := Lib.hid hW9
        have s3 : W9.cell? ⟨b, off + j, none⟩ = some (.string y) := by rw [hW9]; exact d0
        have s1 : W9.cell? ⟨p3, 2, none⟩ = some (.slice va' j ca) := cells_at H9.out.2.2.1 2
        have s2 : W9.cell? ⟨w.heap.size, 2, none⟩ = some (.slice (some ⟨b, off, none⟩) V.length cap) := cells_at H9.out.1 2
        have c2 : wr.cell? ⟨w.heap.size, 2, none⟩ = some (.slice (some ⟨b, off, none⟩) V.length cap) := cells_at h1' 2
        clear hW9 k9 h1 h1' h2 h3 hown hkw d0 hcell hy
        go_upto_region 5 with fail
        clear c2
        refine wp_region_last_n 11 (fun w' => w'.cell? ⟨p3, 2, none⟩ = some (.slice va' j ca) ∧ w'.cell? ⟨w.heap.size, 2, none⟩ = some (.slice (some ⟨b, off, none⟩) V.length cap) ∧ w'.cell? ⟨b, off + j, none⟩ = some (.string y)) (by kernel_rfl) (by kernel_rfl) (by kernel_rfl) ?_
        rw [← HW.out]
        have hS : W9.cell? ⟨p3, 2, none⟩ = some (.slice va' j ca) ∧ W9.cell? ⟨w.heap.size, 2, none⟩ = some (.slice (some ⟨b, off, none⟩) V.length cap) ∧ W9.cell? ⟨b, off + j, none⟩ = some (.string y) := ⟨s1, s2, s3⟩
        have HS := Lib.hid hS
        simp only [List.take_succ_cons, List.take_zero, List.toList_toArray]
        clear s1 s2 s3
        have hbW9 : b < W9.heap.size := by have := H9.out.2.2.2.2.size; have := Hb.out; omega
        refine wpAnyH_take (i := 0) (v := ?_) rfl (by kernel_rfl) (by kernel_rfl) (by kernel_rfl) (fun _ _ _ h => h) (Or.inl ⟨by rfl, ?_⟩) (by assumption) ?_
        rotate_left
        · intro w' hSw; obtain ⟨s1, s2, s3⟩ := hSw; go_simp; (try with_reducible rfl)
        simp only [Act.put, List.getElem_toArray, List.getElem_cons_succ, List.getElem_cons_zero, List.setIfInBounds_toArray, List.set_cons_zero, List.set_cons_succ]
        refine wpAnyH_take (i := 1) (v := ?_) rfl (by kernel_rfl) (by kernel_rfl) (by kernel_rfl) (fun _ _ _ h => h) (Or.inl ⟨by rfl, ?_⟩) (by assumption) ?_
        rotate_left
        · intro w' hSw; obtain ⟨s1, s2, s3⟩ := hSw; go_simp; (try with_reducible rfl)
        simp only [Act.put, List.getElem_toArray, List.getElem_cons_succ, List.getElem_cons_zero, List.setIfInBounds_toArray, List.set_cons_zero, List.set_cons_succ]
        refine wpAnyH_take (i := 2) (v := ?_) rfl (by kernel_rfl) (by kernel_rfl) (by kernel_rfl) (fun _ _ _ h => h) (Or.inl ⟨by rfl, ?_⟩) (by assumption) ?_
        rotate_left
        · intro w' hSw; obtain ⟨s1, s2, s3⟩ := hSw; go_simp; (try with_reducible rfl)
        simp only [Act.put, List.getElem_toArray, List.getElem_cons_succ, List.getElem_cons_zero, List.setIfInBounds_toArray, List.set_cons_zero, List.set_cons_succ]
        refine wpAnyH_take (i := 3) (v := ?_) rfl (by kernel_rfl) (by kernel_rfl) (by kernel_rfl) (fun _ _ _ h => h) (Or.inl ⟨by rfl, ?_⟩) (by assumption) ?_
        rotate_left
        · intro w' hSw; obtain ⟨s1, s2, s3⟩ := hSw; go_simp; (try with_reducible rfl)
        simp only [Act.put, List.getElem_toArray, List.getElem_cons_succ, List.getElem_cons_zero, List.setIfInBounds_toArray, List.set_cons_zero, List.set_cons_succ]
        refine wpAnyH_take (i := 4) (v := ?_) rfl (by kernel_rfl) (by kernel_rfl) (by kernel_rfl) (fun _ _ _ h => h) (Or.inl ⟨by rfl, ?_⟩) (by assumption) ?_
        rotate_left
        · intro w' hSw; obtain ⟨s1, s2, s3⟩ := hSw; go_simp; (try with_reducible rfl)
        simp only [Act.put, List.getElem_toArray, List.getElem_cons_succ, List.getElem_cons_zero, List.setIfInBounds_toArray, List.set_cons_zero, List.set_cons_succ]
        refine wpAnyH_take (i := 5) (v := ?_) rfl (by kernel_rfl) (by kernel_rfl) (by kernel_rfl) (fun _ _ _ h => h) (Or.inl ⟨by rfl, ?_⟩) (by assumption) ?_
        rotate_left
        · intro w' hSw; obtain ⟨s1, s2, s3⟩ := hSw; go_simp; (try with_reducible rfl)
        simp only [Act.put, List.getElem_toArray, List.getElem_cons_succ, List.getElem_cons_zero, List.setIfInBounds_toArray, List.set_cons_zero, List.set_cons_succ]
        refine wpAnyH_take (i := 6) (v := ?_) rfl (by kernel_rfl) (by kernel_rfl) (by kernel_rfl) (fun _ _ _ h => h) (Or.inl ⟨by rfl, ?_⟩) (by assumption) ?_
        rotate_left
        · intro w' hSw; obtain ⟨s1, s2, s3⟩ := hSw; go_simp; (try with_reducible rfl)
        simp only [Act.put, List.getElem_toArray, List.getElem_cons_succ, List.getElem_cons_zero, List.setIfInBounds_toArray, List.set_cons_zero, List.set_cons_succ]
        refine wpAnyH_ready (rs := [7]) (by kernel_rfl) (by simp) ?_
        refine AllReadyH.cons rfl (fun K hK => ?_) AllReadyH.nil
        go_simp
        go_at_call 76
        refine (cut_any y 42 _ (by decide)).mono ?_
        rintro e w' ⟨rfl, rfl⟩
        go_simp
        refine hK.out _ _ HS.out (fun hS => ?_)
        clear hK K
        try simp only [Act.put, List.getElem_toArray, List.getElem_cons_succ, List.getElem_cons_zero, List.setIfInBounds_toArray, List.set_cons_zero, List.set_cons_succ]
        refine wpAnyH_ready (rs := [8]) (by kernel_rfl) (by simp) ?_
        refine AllReadyH.cons rfl (fun K hK => ?_) AllReadyH.nil
        go_simp
        have kA : Keeps [] W9 (W9.alloc (.cells #[.string (cut y 42)] 9)) := (Keeps.refl [] W9).alloc _
        have HA := Lib.hid (And.intro (heap_new W9 (.cells #[.string (cut y 42)] 9)) (And.intro (go1 kA H9.out) ((kA.cell hbW9 (by simp)).trans HS.out.2.2)))
        have hbA := kA.lt hbW9
        clear kA
        generalize W9.heap.size = nb at HA ⊢
        generalize W9.alloc (.cells #[.string (cut y 42)] 9) = A1 at HA hbA ⊢
        go_simp
        refine hK.out _ _ ⟨cells_at HA.out.2.1.2.2.1 2, cells_at HA.out.2.1.1 2, HA.out.2.2⟩ (fun hS => ?_)
        clear hK K
        try simp only [Act.put, List.getElem_toArray, List.getElem_cons_succ, List.getElem_cons_zero, List.setIfInBounds_toArray, List.set_cons_zero, List.set_cons_succ]
        refine wpAnyH_ready (rs := [9]) (by kernel_rfl) (by simp) ?_
        refine AllReadyH.cons rfl (fun K hK => ?_) AllReadyH.nil
        have hN := HA.out.2.1.2.2.2.1
        have hKA := HA.out.2.1.2.2.2.2
        refine step_appP rfl (.tmp 23) (.tmp 30) 60 rfl w.heap.size 9 ip _ 1 16 Tryz.underlying60 hip hz0 hz1 hz2 rfl (by decide) (.slice va' j ca) j (((V.take j).map fun v => cut v 42).map Value.string) rfl hN ⟨nb, 0, none⟩ 1 1 [.string (cut y 42)] rfl rfl (news_of HA.out.1) (by simp [Value.oneCell']) (by simp only [maxLen]; omega) (by omega) hKA.size ?_
        intro v5 A2 hown5 hgrow5
        obtain ⟨ao5, cp5, rfl, -, -, -⟩ := row_slice hown5
        have k5 := keeps_row hgrow5
        have hq : b ∉ (Value.slice va' j ca).ownBlock.toList := fun hm => by
          have := (World.ownsRow.lt hN b (by simpa using hm)).1
          have := Hb.out
          omega
        have t1 := k5.at_ HA.out.2.1.1 (fun hm => row_ne_cells hN HA.out.2.1.1 (by decide) _ (by simpa using hm) rfl)
        have t2 : A2.heap[w.heap.size + 1]? = some o2 := by
          have h2 := HA.out.2.1.2.1
          rw [Ho.out.2] at h2 ⊢
          exact k5.at_ h2 (fun hm => row_ne_cells hN h2 (by decide) _ (by simpa using hm) rfl)
        have t3 := k5.at_ HA.out.2.1.2.2.1 (fun hm => row_ne_cells hN HA.out.2.1.2.2.1 (by decide) _ (by simpa using hm) rfl)
        have t4 := (k5.cell (i := off + j) hbA hq).trans HA.out.2.2
        have t7 := keeps_own hKA hgrow5 (fun q hq => (World.ownsRow.lt hN q hq).1)
        have HB := Lib.hid (And.intro t1 (And.intro t2 (And.intro t3 (And.intro hown5 t7))))
        have HS2 := Lib.hid (And.intro (cells_at t3 2) (And.intro (cells_at t1 2) t4))
        clear hown5 hgrow5 k5 hq t1 t2 t3 t4 t7 hN hKA HA HS H9
        refine hK.out _ _ HS2.out (fun hS => ?_)
        clear hK K
        try simp only [Act.put, List.getElem_toArray, List.getElem_cons_succ, List.getElem_cons_zero, List.setIfInBounds_toArray, List.set_cons_zero, List.set_cons_succ]
        refine wpAnyH_take (i := 10) (v := ?_) rfl (by kernel_rfl) (by kernel_rfl) (by kernel_rfl) (fun _ _ _ h => h) (Or.inl ⟨by rfl, ?_⟩) (by assumption) ?_
        rotate_left
        · intro w' hSw; obtain ⟨s1, s2, s3⟩ := hSw; go_simp; (try with_reducible rfl)
        simp only [Act.put, List.getElem_toArray, List.getElem_cons_succ, List.getElem_cons_zero, List.setIfInBounds_toArray, List.set_cons_zero, List.set_cons_succ]
        have c5 := free_at HB.out.2.2.1
        have l5 := lt_of_at HB.out.2.2.1
        have v5c : A2.cell? ⟨p3, 2, none⟩ = some (.slice va' j ca) := cells_at HB.out.2.2.1 2
        refine wpAnyH_done (by kernel_rfl) ?_ _
        refine lastQ_step rfl (fun K hK => ?_)
        go_simp
        refine hK _ _ ?_
        clear hK K
        clear c5 l5 v5c hS HW hbA hbW9
        have hp3 : w.heap.size ≤ p3 := HP3.out.1
        have kS : Keeps [p3] A2 (A2.setCell ⟨p3, 2, none⟩ (.slice ao5 (j + 1) cp5)) := (Keeps.refl _ A2).setCell (.inl (by simp)) _
        have n5 : (A2.setCell ⟨p3, 2, none⟩ (.slice ao5 (j + 1) cp5)).heap[p3]? = some (.cells #[.int .i64 k, .string (cut n 42), .slice ao5 (j + 1) cp5] 113 (0, 0)) := (heap_cell_same (i := 2) HB.out.2.2.1 (.slice ao5 (j + 1) cp5)).trans (by simp)
        have HD := Lib.hid (And.intro (kS.at_ HB.out.1 (by simpa using HP3.out.2.1)) (And.intro (kS.at_ HB.out.2.1 (by simpa using HP3.out.2.2)) (And.intro n5 (And.intro (kS.row HB.out.2.2.2.1 (fun q hq => by simpa using row_ne_cells HB.out.2.2.2.1 HB.out.2.2.1 (by decide) q hq)) (HB.out.2.2.2.2.after kS (fun y hy => .inr (by rw [show y = p3 from (by simpa using hy)]; exact hp3)))))))
        clear kS n5 HB HS2
        generalize A2.setCell ⟨p3, 2, none⟩ (.slice ao5 (j + 1) cp5) = A3 at HD ⊢
        go_wp2_with fail
        go_roundg (12 - (j + 1))
        case measure => have := Hg.out; omega
        case rel =>
          refine ⟨j + 1, .slice ao5 (j + 1) cp5, hlt, by omega, rfl, by go_num, by rw [Ho.out.1]; exact HD.out.1, HD.out.2.1, HD.out.2.2.1, ?_, HD.out.2.2.2.2⟩
          have h6 := HD.out.2.2.2.1
          rw [List.take_add_one, List.getElem?_eq_getElem hlt, Option.toList_some, List.map_append, List.map_append, ← Hy.out]
          exact h6
      · have hjn := Lib.hid (show j = min V.length 12 from by omega)
        have h2' := h2
        rw [Ho.out.2] at h2'
        have cA0 : wr.cell? ⟨p3, 0, none⟩ = some (.int .i64 k) := cells_at h3 0
        have cA1 : wr.cell? ⟨p3, 1, none⟩ = some (.string (cut n 42)) := cells_at h3 1
        have cA2 : wr.cell? ⟨p3, 2, none⟩ = some (.slice va' j ca) := cells_at h3 2
        have lA := lt_of_at h3
        have fB := free_at h2'
        have lB := lt_of_at h2'
        have cB0 : wr.cell? ⟨w.heap.size + 1, 0, none⟩ = some (.int .i64 0) := cells_at h2' 0
        have cB1 : wr.cell? ⟨w.heap.size + 1, 1, none⟩ = some (.string ⟨#[]⟩) := cells_at h2' 1
        have cB2 : wr.cell? ⟨w.heap.size + 1, 2, none⟩ = some (.slice none 0 0) := cells_at h2' 2
        have c2 : wr.cell? ⟨w.heap.size, 2, none⟩ = some (.slice ao V.length cap) := cells_at h1' 2
        have He := Lib.hid (And.intro hown hkw)
        clear h1 h1' h2 h3 hown hkw
        by_cases hlt : j < V.length
        · have hlt' : (j : Int) < (V.length : Int) := by omega
          have hlt12 : ¬ (j : Int) < 12 := by omega
          go_wp2_with fail
          have g3 := heap_cell_same (i := 2) (heap_cell_same (i := 1) (heap_cell_same (i := 0) h2' (.int .i64 k)) (.string (cut n 42))) (.slice va' j ca)
          have kS : Keeps [w.heap.size + 1] wr (((wr.setCell ⟨w.heap.size + 1, 0, none⟩ (.int .i64 k)).setCell ⟨w.heap.size + 1, 1, none⟩ (.string (cut n 42))).setCell ⟨w.heap.size + 1, 2, none⟩ (.slice va' j ca)) := (((Keeps.refl _ wr).setCell (.inl (by simp)) _).setCell (.inl (by simp)) _).setCell (.inl (by simp)) _
          have hr5 := kS.row He.out.1 (fun q hq => by simpa using row_ne_cells He.out.1 h2' (by decide) q hq)
          have hk5 := He.out.2.after kS (fun y hy => .inr (by rw [show y = w.heap.size + 1 from (by simpa using hy)]; omega))
          generalize ((wr.setCell ⟨w.heap.size + 1, 0, none⟩ (.int .i64 k)).setCell ⟨w.heap.size + 1, 1, none⟩ (.string (cut n 42))).setCell ⟨w.heap.size + 1, 2, none⟩ (.slice va' j ca) = W5 at g3 hr5 hk5 ⊢
          have x0 : W5.cell? ⟨w.heap.size + 1, 0, none⟩ = some (.int .i64 k) := (cells_at g3 0).trans (by simp)
          have x1 : W5.cell? ⟨w.heap.size + 1, 1, none⟩ = some (.string (cut n 42)) := (cells_at g3 1).trans (by simp)
          have x2 : W5.cell? ⟨w.heap.size + 1, 2, none⟩ = some (.slice va' j ca) := (cells_at g3 2).trans (by simp)
          refine bodyPost_ret (v := .agg #[.int .i64 k, .string (cut n 42), .slice va' j ca]) (by simp [results, Tryz.results42, go_sem, x0, x1, x2]) rfl ?_
          exact ⟨_, rfl, short_end hjn.out hr5, hk5⟩
        · have hlt' : ¬ (j : Int) < (V.length : Int) := by omega
          go_wp2_with fail
          have g3 := heap_cell_same (i := 2) (heap_cell_same (i := 1) (heap_cell_same (i := 0) h2' (.int .i64 k)) (.string (cut n 42))) (.slice va' j ca)
          have kS : Keeps [w.heap.size + 1] wr (((wr.setCell ⟨w.heap.size + 1, 0, none⟩ (.int .i64 k)).setCell ⟨w.heap.size + 1, 1, none⟩ (.string (cut n 42))).setCell ⟨w.heap.size + 1, 2, none⟩ (.slice va' j ca)) := (((Keeps.refl _ wr).setCell (.inl (by simp)) _).setCell (.inl (by simp)) _).setCell (.inl (by simp)) _
          have hr5 := kS.row He.out.1 (fun q hq => by simpa using row_ne_cells He.out.1 h2' (by decide) q hq)
          have hk5 := He.out.2.after kS (fun y hy => .inr (by rw [show y = w.heap.size + 1 from (by simpa using hy)]; omega))
          generalize ((wr.setCell ⟨w.heap.size + 1, 0, none⟩ (.int .i64 k)).setCell ⟨w.heap.size + 1, 1, none⟩ (.string (cut n 42))).setCell ⟨w.heap.size + 1, 2, none⟩ (.slice va' j ca) = W5 at g3 hr5 hk5 ⊢
          have x0 : W5.cell? ⟨w.heap.size + 1, 0, none⟩ = some (.int .i64 k) := (cells_at g3 0).trans (by simp)
          have x1 : W5.cell? ⟨w.heap.size + 1, 1, none⟩ = some (.string (cut n 42)) := (cells_at g3 1).trans (by simp)
          have x2 : W5.cell? ⟨w.heap.size + 1, 2, none⟩ = some (.slice va' j ca) := (cells_at g3 2).trans (by simp)
          refine bodyPost_ret (v := .agg #[.int .i64 k, .string (cut n 42), .slice va' j ca]) (by simp [results, Tryz.results42, go_sem, x0, x1, x2]) rfl ?_
          exact ⟨_, rfl, short_end hjn.out hr5, hk5⟩
  · go_simp
    go_simp
    refine hK.out _ _ (keptS kA1) (fun hS => ?_)
    clear hK K
    try simp only [Act.put, List.getElem_toArray, List.getElem_cons_succ, List.getElem_cons_zero, List.setIfInBounds_toArray, List.set_cons_zero, List.set_cons_succ]
    refine wpAnyH_ready (rs := [4]) (by kernel_rfl) (by simp) ?_
    refine AllReadyH.cons rfl (fun K hK => ?_) AllReadyH.nil
    go_simp
    go_at_call 76
    refine (cut_any n 42 _ (by decide)).mono ?_
    rintro e w' ⟨rfl, rfl⟩
    go_simp
    refine hK.out _ _ (keptS kA1) (fun hS => ?_)
    clear hK K
    try simp only [Act.put, List.getElem_toArray, List.getElem_cons_succ, List.getElem_cons_zero, List.setIfInBounds_toArray, List.set_cons_zero, List.set_cons_succ]
    refine wpAnyH_take (i := 5) (v := ?_) rfl (by kernel_rfl) (by kernel_rfl) (by kernel_rfl) (fun _ _ _ h => h) (Or.inl ⟨by rfl, ?_⟩) (by assumption) ?_
    rotate_left
    · intro w' s1; obtain ⟨s, rfl⟩ := s1; go_simp; (try with_reducible rfl)
    simp only [Act.put, List.getElem_toArray, List.getElem_cons_succ, List.getElem_cons_zero, List.setIfInBounds_toArray, List.set_cons_zero, List.set_cons_succ]
    refine wpAnyH_ready (rs := [7]) (by kernel_rfl) (by simp) ?_
    refine AllReadyH.cons rfl (fun K hK => ?_) AllReadyH.nil
    go_simp
    go_simp
    refine hK.out _ _ (keptS kA2) (fun hS => ?_)
    clear hK K
    try simp only [Act.put, List.getElem_toArray, List.getElem_cons_succ, List.getElem_cons_zero, List.setIfInBounds_toArray, List.set_cons_zero, List.set_cons_succ]
    refine wpAnyH_done (by kernel_rfl) ?_ _
    clear hS kA0 kA1 kA2 D0 D1
    generalize A0.heap.size = p3 at H1 HP ⊢
    generalize A0.alloc (.cells #[.int .i64 k, .string (cut n 42), .slice none 0 0] 113) = W at H1 ⊢
    have HP3 := Lib.hid (show w.heap.size ≤ p3 ∧ w.heap.size ≠ p3 ∧ w.heap.size + 1 ≠ p3 from HP.out)
    clear HP
    go_wp2_with fail
    go_loopg [4] 12 (ShortRel w.heap.size w w.heap.size (w.heap.size + 1) p3 o1 o2 k (cut n 42) V)
    case atStart => exact ⟨0, .slice none 0 0, Nat.zero_le _, Nat.zero_le _, rfl, rfl, H1.out.2.1, H1.out.2.2.1, H1.out.1, World.ownsRow_nil _ _ _ 1, H1.out.2.2.2.2⟩
    case round =>
      obtain ⟨j, va, hj, hj12, hgk, rfl, h1, h2, h3, hown, hkw⟩ := hrel
      have Hg := Lib.hid hgk
      clear hgk
      have h1' := h1
      rw [Ho.out.1] at h1'
      obtain ⟨va', ca, rfl, -, -, -⟩ := row_slice hown
      by_cases hend : j < V.length ∧ j < 12
      · obtain ⟨hlt, hlt12⟩ := hend
        have hV0 : 0 < V.length := by omega
        have hb0 := H0.out.2.2.2.size
        obtain ⟨b, off, cap', ea, hbW, hcell⟩ := texts_at (Hf.out.keep hkw) hV0
        injection ea with ea _ ec
        subst ea ec
        have d0 := hcell j hlt
        rw [List.getD_eq_getElem?_getD, List.getElem?_eq_getElem hlt, Option.getD_some] at d0
        have Hb := Lib.hid (show b < w.heap.size from by
          obtain ⟨b', off', cap', ea, hbw, -⟩ := texts_at Hf.out hV0
          injection ea with ea _ _
          injection ea with ea
          injection ea with ea _ _
          omega)
        have hlt' : (j : Int) < (V.length : Int) := by omega
        have hlt12' : (j : Int) < 12 := by omega
        obtain ⟨y, hy⟩ : ∃ y, y = V[j] := ⟨_, rfl⟩
        rw [← hy] at d0
        have Hy := Lib.hid hy
        obtain ⟨W9, hW9⟩ : ∃ W9, W9 = wr.drew := ⟨_, rfl⟩
        have k9 : Keeps [] wr W9 := by rw [hW9]; exact (Keeps.refl [] wr).drew
        have H9 := Lib.hid (go1 k9 (And.intro h1' (And.intro h2 (And.intro h3 (And.intro hown hkw)))))
        have HW := Lib.hid hW9
        have s3 : W9.cell? ⟨b, off + j, none⟩ = some (.string y) := by rw [hW9]; exact d0
        have s1 : W9.cell? ⟨p3, 2, none⟩ = some (.slice va' j ca) := cells_at H9.out.2.2.1 2
        have s2 : W9.cell? ⟨w.heap.size, 2, none⟩ = some (.slice (some ⟨b, off, none⟩) V.length cap) := cells_at H9.out.1 2
        have c2 : wr.cell? ⟨w.heap.size, 2, none⟩ = some (.slice (some ⟨b, off, none⟩) V.length cap) := cells_at h1' 2
        clear hW9 k9 h1 h1' h2 h3 hown hkw d0 hcell hy
        go_upto_region 5 with fail
        clear c2
        refine wp_region_last_n 11 (fun w' => w'.cell? ⟨p3, 2, none⟩ = some (.slice va' j ca) ∧ w'.cell? ⟨w.heap.size, 2, none⟩ = some (.slice (some ⟨b, off, none⟩) V.length cap) ∧ w'.cell? ⟨b, off + j, none⟩ = some (.string y)) (by kernel_rfl) (by kernel_rfl) (by kernel_rfl) ?_
        rw [← HW.out]
        have hS : W9.cell? ⟨p3, 2, none⟩ = some (.slice va' j ca) ∧ W9.cell? ⟨w.heap.size, 2, none⟩ = some (.slice (some ⟨b, off, none⟩) V.length cap) ∧ W9.cell? ⟨b, off + j, none⟩ = some (.string y) := ⟨s1, s2, s3⟩
        have HS := Lib.hid hS
        simp only [List.take_succ_cons, List.take_zero, List.toList_toArray]
        clear s1 s2 s3
        have hbW9 : b < W9.heap.size := by have := H9.out.2.2.2.2.size; have := Hb.out; omega
        refine wpAnyH_take (i := 0) (v := ?_) rfl (by kernel_rfl) (by kernel_rfl) (by kernel_rfl) (fun _ _ _ h => h) (Or.inl ⟨by rfl, ?_⟩) (by assumption) ?_
        rotate_left
        · intro w' hSw; obtain ⟨s1, s2, s3⟩ := hSw; go_simp; (try with_reducible rfl)
        simp only [Act.put, List.getElem_toArray, List.getElem_cons_succ, List.getElem_cons_zero, List.setIfInBounds_toArray, List.set_cons_zero, List.set_cons_succ]
        refine wpAnyH_take (i := 1) (v := ?_) rfl (by kernel_rfl) (by kernel_rfl) (by kernel_rfl) (fun _ _ _ h => h) (Or.inl ⟨by rfl, ?_⟩) (by assumption) ?_
        rotate_left
        · intro w' hSw; obtain ⟨s1, s2, s3⟩ := hSw; go_simp; (try with_reducible rfl)
        simp only [Act.put, List.getElem_toArray, List.getElem_cons_succ, List.getElem_cons_zero, List.setIfInBounds_toArray, List.set_cons_zero, List.set_cons_succ]
        refine wpAnyH_take (i := 2) (v := ?_) rfl (by kernel_rfl) (by kernel_rfl) (by kernel_rfl) (fun _ _ _ h => h) (Or.inl ⟨by rfl, ?_⟩) (by assumption) ?_
        rotate_left
        · intro w' hSw; obtain ⟨s1, s2, s3⟩ := hSw; go_simp; (try with_reducible rfl)
        simp only [Act.put, List.getElem_toArray, List.getElem_cons_succ, List.getElem_cons_zero, List.setIfInBounds_toArray, List.set_cons_zero, List.set_cons_succ]
        refine wpAnyH_take (i := 3) (v := ?_) rfl (by kernel_rfl) (by kernel_rfl) (by kernel_rfl) (fun _ _ _ h => h) (Or.inl ⟨by rfl, ?_⟩) (by assumption) ?_
        rotate_left
        · intro w' hSw; obtain ⟨s1, s2, s3⟩ := hSw; go_simp; (try with_reducible rfl)
        simp only [Act.put, List.getElem_toArray, List.getElem_cons_succ, List.getElem_cons_zero, List.setIfInBounds_toArray, List.set_cons_zero, List.set_cons_succ]
        refine wpAnyH_take (i := 4) (v := ?_) rfl (by kernel_rfl) (by kernel_rfl) (by kernel_rfl) (fun _ _ _ h => h) (Or.inl ⟨by rfl, ?_⟩) (by assumption) ?_
        rotate_left
        · intro w' hSw; obtain ⟨s1, s2, s3⟩ := hSw; go_simp; (try with_reducible rfl)
        simp only [Act.put, List.getElem_toArray, List.getElem_cons_succ, List.getElem_cons_zero, List.setIfInBounds_toArray, List.set_cons_zero, List.set_cons_succ]
        refine wpAnyH_take (i := 5) (v := ?_) rfl (by kernel_rfl) (by kernel_rfl) (by kernel_rfl) (fun _ _ _ h => h) (Or.inl ⟨by rfl, ?_⟩) (by assumption) ?_
        rotate_left
        · intro w' hSw; obtain ⟨s1, s2, s3⟩ := hSw; go_simp; (try with_reducible rfl)
        simp only [Act.put, List.getElem_toArray, List.getElem_cons_succ, List.getElem_cons_zero, List.setIfInBounds_toArray, List.set_cons_zero, List.set_cons_succ]
        refine wpAnyH_take (i := 6) (v := ?_) rfl (by kernel_rfl) (by kernel_rfl) (by kernel_rfl) (fun _ _ _ h => h) (Or.inl ⟨by rfl, ?_⟩) (by assumption) ?_
        rotate_left
        · intro w' hSw; obtain ⟨s1, s2, s3⟩ := hSw; go_simp; (try with_reducible rfl)
        simp only [Act.put, List.getElem_toArray, List.getElem_cons_succ, List.getElem_cons_zero, List.setIfInBounds_toArray, List.set_cons_zero, List.set_cons_succ]
        refine wpAnyH_ready (rs := [7]) (by kernel_rfl) (by simp) ?_
        refine AllReadyH.cons rfl (fun K hK => ?_) AllReadyH.nil
        go_simp
        go_at_call 76
        refine (cut_any y 42 _ (by decide)).mono ?_
        rintro e w' ⟨rfl, rfl⟩
        go_simp
        refine hK.out _ _ HS.out (fun hS => ?_)
        clear hK K
        try simp only [Act.put, List.getElem_toArray, List.getElem_cons_succ, List.getElem_cons_zero, List.setIfInBounds_toArray, List.set_cons_zero, List.set_cons_succ]
        refine wpAnyH_ready (rs := [8]) (by kernel_rfl) (by simp) ?_
        refine AllReadyH.cons rfl (fun K hK => ?_) AllReadyH.nil
        go_simp
        have kA : Keeps [] W9 (W9.alloc (.cells #[.string (cut y 42)] 9)) := (Keeps.refl [] W9).alloc _
        have HA := Lib.hid (And.intro (heap_new W9 (.cells #[.string (cut y 42)] 9)) (And.intro (go1 kA H9.out) ((kA.cell hbW9 (by simp)).trans HS.out.2.2)))
        have hbA := kA.lt hbW9
        clear kA
        generalize W9.heap.size = nb at HA ⊢
        generalize W9.alloc (.cells #[.string (cut y 42)] 9) = A1 at HA hbA ⊢
        go_simp
        refine hK.out _ _ ⟨cells_at HA.out.2.1.2.2.1 2, cells_at HA.out.2.1.1 2, HA.out.2.2⟩ (fun hS => ?_)
        clear hK K
        try simp only [Act.put, List.getElem_toArray, List.getElem_cons_succ, List.getElem_cons_zero, List.setIfInBounds_toArray, List.set_cons_zero, List.set_cons_succ]
        refine wpAnyH_ready (rs := [9]) (by kernel_rfl) (by simp) ?_
        refine AllReadyH.cons rfl (fun K hK => ?_) AllReadyH.nil
        have hN := HA.out.2.1.2.2.2.1
        have hKA := HA.out.2.1.2.2.2.2
        refine step_appP rfl (.tmp 23) (.tmp 30) 60 rfl w.heap.size 9 ip _ 1 16 Tryz.underlying60 hip hz0 hz1 hz2 rfl (by decide) (.slice va' j ca) j (((V.take j).map fun v => cut v 42).map Value.string) rfl hN ⟨nb, 0, none⟩ 1 1 [.string (cut y 42)] rfl rfl (news_of HA.out.1) (by simp [Value.oneCell']) (by simp only [maxLen]; omega) (by omega) hKA.size ?_
        intro v5 A2 hown5 hgrow5
        obtain ⟨ao5, cp5, rfl, -, -, -⟩ := row_slice hown5
        have k5 := keeps_row hgrow5
        have hq : b ∉ (Value.slice va' j ca).ownBlock.toList := fun hm => by
          have := (World.ownsRow.lt hN b (by simpa using hm)).1
          have := Hb.out
          omega
        have t1 := k5.at_ HA.out.2.1.1 (fun hm => row_ne_cells hN HA.out.2.1.1 (by decide) _ (by simpa using hm) rfl)
        have t2 : A2.heap[w.heap.size + 1]? = some o2 := by
          have h2 := HA.out.2.1.2.1
          rw [Ho.out.2] at h2 ⊢
          exact k5.at_ h2 (fun hm => row_ne_cells hN h2 (by decide) _ (by simpa using hm) rfl)
        have t3 := k5.at_ HA.out.2.1.2.2.1 (fun hm => row_ne_cells hN HA.out.2.1.2.2.1 (by decide) _ (by simpa using hm) rfl)
        have t4 := (k5.cell (i := off + j) hbA hq).trans HA.out.2.2
        have t7 := keeps_own hKA hgrow5 (fun q hq => (World.ownsRow.lt hN q hq).1)
        have HB := Lib.hid (And.intro t1 (And.intro t2 (And.intro t3 (And.intro hown5 t7))))
        have HS2 := Lib.hid (And.intro (cells_at t3 2) (And.intro (cells_at t1 2) t4))
        clear hown5 hgrow5 k5 hq t1 t2 t3 t4 t7 hN hKA HA HS H9
        refine hK.out _ _ HS2.out (fun hS => ?_)
        clear hK K
        try simp only [Act.put, List.getElem_toArray, List.getElem_cons_succ, List.getElem_cons_zero, List.setIfInBounds_toArray, List.set_cons_zero, List.set_cons_succ]
        refine wpAnyH_take (i := 10) (v := ?_) rfl (by kernel_rfl) (by kernel_rfl) (by kernel_rfl) (fun _ _ _ h => h) (Or.inl ⟨by rfl, ?_⟩) (by assumption) ?_
        rotate_left
        · intro w' hSw; obtain ⟨s1, s2, s3⟩ := hSw; go_simp; (try with_reducible rfl)
        simp only [Act.put, List.getElem_toArray, List.getElem_cons_succ, List.getElem_cons_zero, List.setIfInBounds_toArray, List.set_cons_zero, List.set_cons_succ]
        have c5 := free_at HB.out.2.2.1
        have l5 := lt_of_at HB.out.2.2.1
        have v5c : A2.cell? ⟨p3, 2, none⟩ = some (.slice va' j ca) := cells_at HB.out.2.2.1 2
        refine wpAnyH_done (by kernel_rfl) ?_ _
        refine lastQ_step rfl (fun K hK => ?_)
        go_simp
        refine hK _ _ ?_
        clear hK K
        clear c5 l5 v5c hS HW hbA hbW9
        have hp3 : w.heap.size ≤ p3 := HP3.out.1
        have kS : Keeps [p3] A2 (A2.setCell ⟨p3, 2, none⟩ (.slice ao5 (j + 1) cp5)) := (Keeps.refl _ A2).setCell (.inl (by simp)) _
        have n5 : (A2.setCell ⟨p3, 2, none⟩ (.slice ao5 (j + 1) cp5)).heap[p3]? = some (.cells #[.int .i64 k, .string (cut n 42), .slice ao5 (j + 1) cp5] 113 (0, 0)) := (heap_cell_same (i := 2) HB.out.2.2.1 (.slice ao5 (j + 1) cp5)).trans (by simp)
        have HD := Lib.hid (And.intro (kS.at_ HB.out.1 (by simpa using HP3.out.2.1)) (And.intro (kS.at_ HB.out.2.1 (by simpa using HP3.out.2.2)) (And.intro n5 (And.intro (kS.row HB.out.2.2.2.1 (fun q hq => by simpa using row_ne_cells HB.out.2.2.2.1 HB.out.2.2.1 (by decide) q hq)) (HB.out.2.2.2.2.after kS (fun y hy => .inr (by rw [show y = p3 from (by simpa using hy)]; exact hp3)))))))
        clear kS n5 HB HS2
        generalize A2.setCell ⟨p3, 2, none⟩ (.slice ao5 (j + 1) cp5) = A3 at HD ⊢
        go_wp2_with fail
        go_roundg (12 - (j + 1))
        case measure => have := Hg.out; omega
        case rel =>
          refine ⟨j + 1, .slice ao5 (j + 1) cp5, hlt, by omega, rfl, by go_num, by rw [Ho.out.1]; exact HD.out.1, HD.out.2.1, HD.out.2.2.1, ?_, HD.out.2.2.2.2⟩
          have h6 := HD.out.2.2.2.1
          rw [List.take_add_one, List.getElem?_eq_getElem hlt, Option.toList_some, List.map_append, List.map_append, ← Hy.out]
          exact h6
      · have hjn := Lib.hid (show j = min V.length 12 from by omega)
        have h2' := h2
        rw [Ho.out.2] at h2'
        have cA0 : wr.cell? ⟨p3, 0, none⟩ = some (.int .i64 k) := cells_at h3 0
        have cA1 : wr.cell? ⟨p3, 1, none⟩ = some (.string (cut n 42)) := cells_at h3 1
        have cA2 : wr.cell? ⟨p3, 2, none⟩ = some (.slice va' j ca) := cells_at h3 2
        have lA := lt_of_at h3
        have fB := free_at h2'
        have lB := lt_of_at h2'
        have cB0 : wr.cell? ⟨w.heap.size + 1, 0, none⟩ = some (.int .i64 0) := cells_at h2' 0
        have cB1 : wr.cell? ⟨w.heap.size + 1, 1, none⟩ = some (.string ⟨#[]⟩) := cells_at h2' 1
        have cB2 : wr.cell? ⟨w.heap.size + 1, 2, none⟩ = some (.slice none 0 0) := cells_at h2' 2
        have c2 : wr.cell? ⟨w.heap.size, 2, none⟩ = some (.slice ao V.length cap) := cells_at h1' 2
        have He := Lib.hid (And.intro hown hkw)
        clear h1 h1' h2 h3 hown hkw
        by_cases hlt : j < V.length
        · have hlt' : (j : Int) < (V.length : Int) := by omega
          have hlt12 : ¬ (j : Int) < 12 := by omega
          go_wp2_with fail
          have g3 := heap_cell_same (i := 2) (heap_cell_same (i := 1) (heap_cell_same (i := 0) h2' (.int .i64 k)) (.string (cut n 42))) (.slice va' j ca)
          have kS : Keeps [w.heap.size + 1] wr (((wr.setCell ⟨w.heap.size + 1, 0, none⟩ (.int .i64 k)).setCell ⟨w.heap.size + 1, 1, none⟩ (.string (cut n 42))).setCell ⟨w.heap.size + 1, 2, none⟩ (.slice va' j ca)) := (((Keeps.refl _ wr).setCell (.inl (by simp)) _).setCell (.inl (by simp)) _).setCell (.inl (by simp)) _
          have hr5 := kS.row He.out.1 (fun q hq => by simpa using row_ne_cells He.out.1 h2' (by decide) q hq)
          have hk5 := He.out.2.after kS (fun y hy => .inr (by rw [show y = w.heap.size + 1 from (by simpa using hy)]; omega))
          generalize ((wr.setCell ⟨w.heap.size + 1, 0, none⟩ (.int .i64 k)).setCell ⟨w.heap.size + 1, 1, none⟩ (.string (cut n 42))).setCell ⟨w.heap.size + 1, 2, none⟩ (.slice va' j ca) = W5 at g3 hr5 hk5 ⊢
          have x0 : W5.cell? ⟨w.heap.size + 1, 0, none⟩ = some (.int .i64 k) := (cells_at g3 0).trans (by simp)
          have x1 : W5.cell? ⟨w.heap.size + 1, 1, none⟩ = some (.string (cut n 42)) := (cells_at g3 1).trans (by simp)
          have x2 : W5.cell? ⟨w.heap.size + 1, 2, none⟩ = some (.slice va' j ca) := (cells_at g3 2).trans (by simp)
          refine bodyPost_ret (v := .agg #[.int .i64 k, .string (cut n 42), .slice va' j ca]) (by simp [results, Tryz.results42, go_sem, x0, x1, x2]) rfl ?_
          exact ⟨_, rfl, short_end hjn.out hr5, hk5⟩
        · have hlt' : ¬ (j : Int) < (V.length : Int) := by omega
          go_wp2_with fail
          have g3 := heap_cell_same (i := 2) (heap_cell_same (i := 1) (heap_cell_same (i := 0) h2' (.int .i64 k)) (.string (cut n 42))) (.slice va' j ca)
          have kS : Keeps [w.heap.size + 1] wr (((wr.setCell ⟨w.heap.size + 1, 0, none⟩ (.int .i64 k)).setCell ⟨w.heap.size + 1, 1, none⟩ (.string (cut n 42))).setCell ⟨w.heap.size + 1, 2, none⟩ (.slice va' j ca)) := (((Keeps.refl _ wr).setCell (.inl (by simp)) _).setCell (.inl (by simp)) _).setCell (.inl (by simp)) _
          have hr5 := kS.row He.out.1 (fun q hq => by simpa using row_ne_cells He.out.1 h2' (by decide) q hq)
          have hk5 := He.out.2.after kS (fun y hy => .inr (by rw [show y = w.heap.size + 1 from (by simpa using hy)]; omega))
          generalize ((wr.setCell ⟨w.heap.size + 1, 0, none⟩ (.int .i64 k)).setCell ⟨w.heap.size + 1, 1, none⟩ (.string (cut n 42))).setCell ⟨w.heap.size + 1, 2, none⟩ (.slice va' j ca) = W5 at g3 hr5 hk5 ⊢
          have x0 : W5.cell? ⟨w.heap.size + 1, 0, none⟩ = some (.int .i64 k) := (cells_at g3 0).trans (by simp)
          have x1 : W5.cell? ⟨w.heap.size + 1, 1, none⟩ = some (.string (cut n 42)) := (cells_at g3 1).trans (by simp)
          have x2 : W5.cell? ⟨w.heap.size + 1, 2, none⟩ = some (.slice va' j ca) := (cells_at g3 2).trans (by simp)
          refine bodyPost_ret (v := .agg #[.int .i64 k, .string (cut n 42), .slice va' j ca]) (by simp [results, Tryz.results42, go_sem, x0, x1, x2]) rfl ?_
          exact ⟨_, rfl, short_end hjn.out hr5, hk5⟩
end Go.Proofs.YtlifonflgcfafaaGreatDoor
