/-
  A fetch's first step (package fetch): list; an error of the bucket's: lost; a file that holds a text: meta.File.Holds.
  The matchers may be.
-/
import Derived.Test.YtkffpcmminlndaaGreatDoorFetW
import Derived.Test.YtkffpcmminlndaaGreatDoorFuse
import Derived.Test.YtkffpcmminlndaaGreatDoorTaker
namespace Go.Proofs.YtkffpcmminlndaaGreatDoor
open Go Go.RowKit Go.Conc

set_option linter.unusedSimpArgs false in
set_option maxRecDepth 100000 in
theorem holdsF_spec (w : World) (nm s : ByteArray) (hs : s.size ≤ maxLen) :
    Calls Tryz.prog 72 #[.agg #[.string nm, .int .i64 s.size, .int .u32 (moreN 0 s.data.toList)], .string s] w fun e w' => e = .returned (.bool true) ∧ Keeps [] w w' := by
  obtain ⟨q, hq⟩ : ∃ q, q = w.heap.size := ⟨_, rfl⟩
  obtain ⟨cr, hcr⟩ : ∃ cr, cr = moreN 0 s.data.toList := ⟨_, rfl⟩
  have Hsum := Lib.hid (fun W => sum_spec W s hs)
  rw [← hcr] at Hsum ⊢
  obtain ⟨W1, hW1⟩ : ∃ W1, W1 = w.alloc (.cells #[.string nm, .int .i64 s.size, .int .u32 cr] 153) := ⟨_, rfl⟩
  have k1 : Keeps [] w W1 := by rw [hW1]; exact (Keeps.refl [] w).alloc _
  have n1 : W1.heap[q]? = some (.cells #[.string nm, .int .i64 s.size, .int .u32 cr] 153 (0, 0)) := by rw [hW1, hq]; exact heap_new w _
  have H := Lib.hid k1
  have c1 := cells_at n1
  have l1 := lt_of_at n1
  have hb : ((s.size : Int) == (s.size : Int)) = true := by simp
  clear hcr k1 n1
  go_enter Tryz.func72, Tryz.ntmps72
  go_upto_region 1 with fail
  rw [← hq, ← hW1]
  clear hq hW1
  go_quiet ((go_at_call 104; exact Calls.quiet_of_same ((Hsum.out _).mono (fun _ _ h => ⟨h.1, h.2.symm⟩))))
  rename_i nq
  have HF := Lib.hid (H.out.drewN nq)
  go_wp2_with fail
  go_ret
  exact ⟨rfl, HF.out⟩

set_option linter.unusedSimpArgs false in
theorem lost_spec (w : World) (e : Int) (he : e = 8 ∨ e = 5) : Calls Tryz.prog 39 #[.int .i64 e] w fun r w' => r = .returned (.int .i64 (if e = 5 then 14 else 8)) ∧ w' = w := by
  rcases he with rfl | rfl
  · go_enter Tryz.func39, Tryz.ntmps39
    go_wp2_with fail
    go_ret
    exact ⟨rfl, rfl⟩
  · go_enter Tryz.func39, Tryz.ntmps39
    go_wp2_with fail
    go_ret
    exact ⟨rfl, rfl⟩

theorem file_two {w : World} {X : Nat} {v : Value} {n1 n2 : ByteArray} {s1 s2 c1 c2 : Nat} (h : w.ownsRow X 153 3 v 2 [.string n1, .int .i64 (s1 : Nat), .int .u32 (c1 : Nat), .string n2, .int .i64 (s2 : Nat), .int .u32 (c2 : Nat)]) :
    ∃ g c, v = .slice (some ⟨g, 0, none⟩) 2 c ∧ g < w.heap.size ∧ w.cell? ⟨g, 3, none⟩ = some (.string n2) ∧ w.cell? ⟨g, 4, none⟩ = some (.int .i64 (s2 : Nat)) ∧ w.cell? ⟨g, 5, none⟩ = some (.int .u32 (c2 : Nat)) := by
  obtain ⟨g, c, rfl⟩ := row_some h (by decide)
  have hn := row_news h
  exact ⟨g, c, rfl, (World.ownsRow.lt h g rfl).2, hn 3 _ rfl, hn 4 _ rfl, hn 5 _ rfl⟩

def ListOut (w : World) (p : Nat) (M : MetaS) (vf vo : Value) (fr up : Int) (vm : Value) (L : List MatB) (EP : List EntP) (b f c mb : Nat) (Q : List (Int × Bool)) (o : List (ByteArray × Ob)) (r : Int) (e : Ending) (w' : World) : Prop :=
  BucketAt w' b f c mb (tryArmed Q) (tryQ Q) o ∧ Keeps [f, c, p] w w' ∧
    ((r = 8 ∧ e = .returned (.int .i64 8) ∧ FetAt w' p M vf vo fr up vm false (.slice none 0 0) (.slice none 0 0)) ∨ (r = 5 ∧ e = .returned (.int .i64 14) ∧ FetAt w' p M vf vo fr up vm false (.slice none 0 0) (.slice none 0 0)) ∨
      (r = 0 ∧ e = .returned (.int .i64 0) ∧ ∃ v' E', FetAt w' p M vf vo fr up vm true v' (.slice none 0 0) ∧ EntrAt w.heap.size w' v' E' ∧ E'.map (·.2) = EP.filter (wantE fr up L) ∧ E'.length ≤ EP.length))

set_option linter.unusedSimpArgs false in
set_option maxRecDepth 100000 in
set_option maxHeartbeats 4000000 in
theorem fetList_spec (w : World) (p X : Nat) (M : MetaS) (vf vo : Value) (fr up : Int) (vm : Value) (L : List MatB) (EP : List EntP) (ib n1 : ByteArray) (s1 c1 : Nat) (b f c mb : Nat) (armed : Bool) (Q : List (Int × Bool)) (o : List (ByteArray × Ob)) (r : ByteArray × Int)
    (hp : FetAt w p M vf vo fr up vm false (.slice none 0 0) (.slice none 0 0)) (hf : w.ownsRow X 153 3 vf 2 [.string n1, .int .i64 (s1 : Nat), .int .u32 (c1 : Nat), .string indexB, .int .i64 (ib.size : Nat), .int .u32 (moreN 0 ib.data.toList : Nat)])
    (hm : ∀ W, Keeps [f, c, p] w W → MatsAt W vm L) (hmay : ∀ m ∈ L, mayK m) (hb : BucketAt w b f c mb armed Q o) (hpb : p ≠ f ∧ p ≠ c ∧ p ≠ b ∧ p ≠ mb) (hid : M.id.size ≤ 1000) (hib : ib.data.toList = idxL EP) (hsz : ∀ x, look o (objectB M.id indexB) = some x → x.1.size ≤ maxLen)
    (ht : ∀ e ∈ EP, EntT e) (hpw : EP.Pairwise fun a b => ltL a.1 b.1) (hl : EP.length ≤ 50) (hr : rangeVal Q o (objectB M.id indexB) 0 ib.size = r) (hrr : r.2 = 8 ∨ r.2 = 5 ∨ r = (ib, 0)) (hz : ib.size ≤ 60000) :
    Calls Tryz.prog 37 #[.pointer (some ⟨p, 0, none⟩), .pointer (some ⟨b, 0, none⟩)] w (ListOut w p M vf vo fr up vm L EP b f c mb Q o r.2) := by
  obtain ⟨g, cg, rfl, hgl, d3, d4, d5⟩ := file_two hf
  have hbl := hb.lt
  have H := Lib.hid (And.intro hp (And.intro hm (And.intro hmay (And.intro hb (And.intro hib (And.intro hsz (And.intro ht (And.intro hpw (And.intro hr (And.intro hpb hbl))))))))))
  have cp := cells_at hp
  have lp := lt_of_at hp
  obtain ⟨q, hq⟩ : ∃ q, q = w.heap.size := ⟨_, rfl⟩
  obtain ⟨cr, hcr⟩ : ∃ cr, cr = moreN 0 ib.data.toList := ⟨_, rfl⟩
  rw [← hcr] at d5
  obtain ⟨W1, hW1⟩ : ∃ W1, W1 = w.alloc (.cells #[.string indexB, .int .i64 (ib.size : Nat), .int .u32 (cr : Nat)] 153) := ⟨_, rfl⟩
  have k1 : Keeps [] w W1 := by rw [hW1]; exact (Keeps.refl [] w).alloc _
  have nq : W1.heap[q]? = some (.cells #[.string indexB, .int .i64 (ib.size : Nat), .int .u32 (cr : Nat)] 153 (0, 0)) := by rw [hW1, hq]; exact heap_new w _
  have HC := Lib.hid hcr
  clear hp hf hm hmay hb hib hsz ht hpw hr hcr hpb hbl
  go_enter Tryz.func37, Tryz.ntmps37
  go_upto_region 2 with fail
  rw [← hq, ← hW1]
  have hqb : q ≠ f ∧ q ≠ c ∧ q ≠ p := by have := H.out.2.2.2.2.2.2.2.2.2.2; omega
  have H1 := Lib.hid (And.intro nq (And.intro k1 (And.intro (k1.at_ H.out.1 (by simp)) (And.intro (H.out.2.2.2.1.keep k1 (by simp) (by simp) (by simp) (by simp)) (And.intro hqb (show w.heap.size ≤ q by omega))))))
  clear hq hW1 nq k1 hqb cp lp d3 d4 d5 hgl
  obtain ⟨X0, hX0⟩ : ∃ X0, X0 = W1.drew := ⟨_, rfl⟩
  have kX : Keeps [] W1 X0 := by rw [hX0]; exact (Keeps.refl [] _).drew
  have nX := kX.at_ H1.out.1 (by simp)
  have pX := kX.at_ H1.out.2.2.1 (by simp)
  have e1 : X0.cell? ⟨p, 0, none⟩ = some (.string M.id) := by rw [cells_at pX]; rfl
  have e2 : X0.cell? ⟨q, 1, none⟩ = some (.int .i64 (ib.size : Nat)) := by rw [cells_at nX]; rfl
  have HX := Lib.hid (And.intro hX0 (And.intro kX (And.intro nX (And.intro pX (H1.out.2.2.2.1.keep kX (by simp) (by simp) (by simp) (by simp))))))
  clear hX0 kX nX pX
  refine wp_region_held_drew (S := fun w' => w'.cell? ⟨p, 0, none⟩ = some (.string M.id) ∧ w'.cell? ⟨q, 1, none⟩ = some (.int .i64 (ib.size : Nat))) (by kernel_rfl) (by rw [← HX.out.1]; exact ⟨e1, e2⟩) (fun hS => ?_)
  rw [← HX.out.1] at hS ⊢
  refine wpAnyH_take (i := 0) (v := ?_) rfl (by kernel_rfl) (by kernel_rfl) (by kernel_rfl) (fun _ _ _ h => h) (Or.inl ⟨by rfl, ?_⟩) (by assumption) ?_
  rotate_left
  · intro w' hSw; obtain ⟨s1, s2⟩ := hSw; go_simp; (try with_reducible rfl)
  simp only [Act.put, List.getElem_toArray, List.getElem_cons_succ, List.getElem_cons_zero, List.setIfInBounds_toArray, List.set_cons_zero, List.set_cons_succ]
  refine wpAnyH_take (i := 1) (v := ?_) rfl (by kernel_rfl) (by kernel_rfl) (by kernel_rfl) (fun _ _ _ h => h) (Or.inl ⟨by rfl, ?_⟩) (by assumption) ?_
  rotate_left
  · intro w' hSw; obtain ⟨s1, s2⟩ := hSw; go_simp; (try with_reducible rfl)
  simp only [Act.put, List.getElem_toArray, List.getElem_cons_succ, List.getElem_cons_zero, List.setIfInBounds_toArray, List.set_cons_zero, List.set_cons_succ]
  refine wpAnyH_take (i := 2) (v := ?_) rfl (by kernel_rfl) (by kernel_rfl) (by kernel_rfl) (fun _ _ _ h => h) (Or.inl ⟨by rfl, ?_⟩) (by assumption) ?_
  rotate_left
  · intro w' hSw; obtain ⟨s1, s2⟩ := hSw; go_simp; (try with_reducible rfl)
  simp only [Act.put, List.getElem_toArray, List.getElem_cons_succ, List.getElem_cons_zero, List.setIfInBounds_toArray, List.set_cons_zero, List.set_cons_succ]
  refine wpAnyH_take (i := 3) (v := ?_) rfl (by kernel_rfl) (by kernel_rfl) (by kernel_rfl) (fun _ _ _ h => h) (Or.inl ⟨by rfl, ?_⟩) (by assumption) ?_
  rotate_left
  · intro w' hSw; obtain ⟨s1, s2⟩ := hSw; go_simp; (try with_reducible rfl)
  simp only [Act.put, List.getElem_toArray, List.getElem_cons_succ, List.getElem_cons_zero, List.setIfInBounds_toArray, List.set_cons_zero, List.set_cons_succ]
  refine wpAnyH_take (i := 4) (v := ?_) rfl (by kernel_rfl) (by kernel_rfl) (by kernel_rfl) (fun _ _ _ h => h) (Or.inl ⟨by rfl, ?_⟩) (by assumption) ?_
  rotate_left
  · intro w' hSw; obtain ⟨s1, s2⟩ := hSw; go_simp; (try with_reducible rfl)
  simp only [Act.put, List.getElem_toArray, List.getElem_cons_succ, List.getElem_cons_zero, List.setIfInBounds_toArray, List.set_cons_zero, List.set_cons_succ]
  refine wpAnyH_take (i := 5) (v := ?_) rfl (by kernel_rfl) (by kernel_rfl) (by kernel_rfl) (fun _ _ _ h => h) (Or.inl ⟨by rfl, ?_⟩) (by assumption) ?_
  rotate_left
  · intro w' hSw; obtain ⟨s1, s2⟩ := hSw; go_simp; (try with_reducible rfl)
  simp only [Act.put, List.getElem_toArray, List.getElem_cons_succ, List.getElem_cons_zero, List.setIfInBounds_toArray, List.set_cons_zero, List.set_cons_succ]
  refine wpAnyH_take (i := 7) (v := ?_) rfl (by kernel_rfl) (by kernel_rfl) (by kernel_rfl) (fun _ _ _ h => h) (Or.inl ⟨by rfl, ?_⟩) (by assumption) ?_
  rotate_left
  · intro w' hSw; obtain ⟨s1, s2⟩ := hSw; go_simp; (try with_reducible rfl)
  simp only [Act.put, List.getElem_toArray, List.getElem_cons_succ, List.getElem_cons_zero, List.setIfInBounds_toArray, List.set_cons_zero, List.set_cons_succ]
  refine wpAnyH_take (i := 8) (v := ?_) rfl (by kernel_rfl) (by kernel_rfl) (by kernel_rfl) (fun _ _ _ h => h) (Or.inl ⟨by rfl, ?_⟩) (by assumption) ?_
  rotate_left
  · intro w' hSw; obtain ⟨s1, s2⟩ := hSw; go_simp; (try with_reducible rfl)
  simp only [Act.put, List.getElem_toArray, List.getElem_cons_succ, List.getElem_cons_zero, List.setIfInBounds_toArray, List.set_cons_zero, List.set_cons_succ]
  refine wpAnyH_ready (rs := [6]) (by kernel_rfl) (by simp) ?_
  refine AllReadyH.cons rfl (fun K hK => ?_) AllReadyH.nil
  go_simp
  go_at_call 21
  refine (object_spec X0 M.id indexB (by omega) (by decide)).mono ?_
  rintro e w3 ⟨rfl, rfl⟩
  go_simp
  refine hK.out _ _ ⟨e1, e2⟩ (fun hS => ?_)
  clear hK K
  try simp only [Act.put, List.getElem_toArray, List.getElem_cons_succ, List.getElem_cons_zero, List.setIfInBounds_toArray, List.set_cons_zero, List.set_cons_succ]
  refine wpAnyH_ready (rs := [9]) (by kernel_rfl) (by simp) ?_
  refine AllReadyH.cons rfl (fun K hK => ?_) AllReadyH.nil
  go_simp
  go_at_call 38
  refine (range_spec X0 b f c mb armed Q o HX.out.2.2.2.2 (objectB M.id indexB) 0 ib.size (by omega) (by omega) H.out.2.2.2.2.2.1).mono ?_
  rintro e w4 ⟨rfl, hb4, hk4⟩
  rw [H.out.2.2.2.2.2.2.2.2.1]
  have n4 := hk4.at_ HX.out.2.2.1 (by simp; exact ⟨H1.out.2.2.2.2.1.1, H1.out.2.2.2.2.1.2.1⟩)
  have p4 := hk4.at_ HX.out.2.2.2.1 (by simp; exact ⟨H.out.2.2.2.2.2.2.2.2.2.1.1, H.out.2.2.2.2.2.2.2.2.2.1.2.1⟩)
  have hk04 : Keeps [f, c, p] w w4 := ((H1.out.2.1.trans HX.out.2.1).mono (by simp) : Keeps [f, c, p] w X0).trans (hk4.mono (by simp))
  have H4 := Lib.hid (And.intro hb4 (And.intro n4 (And.intro p4 hk04)))
  have t1 : w4.cell? ⟨p, 0, none⟩ = some (.string M.id) := by rw [cells_at p4]; rfl
  have t2 : w4.cell? ⟨q, 1, none⟩ = some (.int .i64 (ib.size : Nat)) := by rw [cells_at n4]; rfl
  clear hb4 hk4 n4 p4 hk04 e1 e2
  obtain ⟨rs, re⟩ := r
  dsimp only at hrr
  go_simp
  refine hK.out _ _ ⟨t1, t2⟩ (fun hS => ?_)
  clear hK K
  try simp only [Act.put, List.getElem_toArray, List.getElem_cons_succ, List.getElem_cons_zero, List.setIfInBounds_toArray, List.set_cons_zero, List.set_cons_succ]
  refine wpAnyH_take (i := 10) (v := ?_) rfl (by kernel_rfl) (by kernel_rfl) (by kernel_rfl) (fun _ _ _ h => h) (Or.inl ⟨by rfl, ?_⟩) (by assumption) ?_
  rotate_left
  · intro w' hSw; obtain ⟨s1, s2⟩ := hSw; go_simp; (try with_reducible rfl)
  simp only [Act.put, List.getElem_toArray, List.getElem_cons_succ, List.getElem_cons_zero, List.setIfInBounds_toArray, List.set_cons_zero, List.set_cons_succ]
  refine wpAnyH_take (i := 11) (v := ?_) rfl (by kernel_rfl) (by kernel_rfl) (by kernel_rfl) (fun _ _ _ h => h) (Or.inl ⟨by rfl, ?_⟩) (by assumption) ?_
  rotate_left
  · intro w' hSw; obtain ⟨s1, s2⟩ := hSw; go_simp; (try with_reducible rfl)
  simp only [Act.put, List.getElem_toArray, List.getElem_cons_succ, List.getElem_cons_zero, List.setIfInBounds_toArray, List.set_cons_zero, List.set_cons_succ]
  refine wpAnyH_take (i := 12) (v := ?_) rfl (by kernel_rfl) (by kernel_rfl) (by kernel_rfl) (fun _ _ _ h => h) (Or.inl ⟨by rfl, ?_⟩) (by assumption) ?_
  rotate_left
  · intro w' hSw; obtain ⟨s1, s2⟩ := hSw; go_simp; (try with_reducible rfl)
  simp only [Act.put, List.getElem_toArray, List.getElem_cons_succ, List.getElem_cons_zero, List.setIfInBounds_toArray, List.set_cons_zero, List.set_cons_succ]
  refine wpAnyH_ready (rs := [13]) (by kernel_rfl) (by simp) ?_
  refine AllReadyH.cons rfl (fun K hK => ?_) AllReadyH.nil
  go_simp
  go_simp
  refine hK.out _ _ ⟨t1, t2⟩ (fun hS => ?_)
  clear hK K
  try simp only [Act.put, List.getElem_toArray, List.getElem_cons_succ, List.getElem_cons_zero, List.setIfInBounds_toArray, List.set_cons_zero, List.set_cons_succ]
  refine wpAnyH_ready (rs := [14]) (by kernel_rfl) (by simp) ?_
  refine AllReadyH.cons rfl (fun K hK => ?_) AllReadyH.nil
  go_simp
  go_simp
  refine hK.out _ _ ⟨t1, t2⟩ (fun hS => ?_)
  clear hK K
  try simp only [Act.put, List.getElem_toArray, List.getElem_cons_succ, List.getElem_cons_zero, List.setIfInBounds_toArray, List.set_cons_zero, List.set_cons_succ]
  refine wpAnyH_done (by kernel_rfl) ?_ _
  clear hS t1 t2
  obtain ⟨am, cm, hvm, -⟩ := (H.out.2.1 w (Keeps.refl _ _)).form
  subst hvm
  rcases hrr with rfl | rfl | hrr
  · go_wp2_with fail
    refine (lost_spec w4 8 (.inl rfl)).mono ?_
    rintro e w5 ⟨rfl, rfl⟩
    rw [if_neg (by decide)]
    go_wp2_with fail
    go_ret
    exact ⟨H4.out.1, H4.out.2.2.2, .inl ⟨rfl, rfl, H4.out.2.2.1⟩⟩
  · go_wp2_with fail
    refine (lost_spec w4 5 (.inr rfl)).mono ?_
    rintro e w5 ⟨rfl, rfl⟩
    rw [if_pos rfl]
    go_wp2_with fail
    go_ret
    exact ⟨H4.out.1, H4.out.2.2.2, .inr (.inl ⟨rfl, rfl, H4.out.2.2.1⟩)⟩
  · injection hrr with e1 e2
    subst e1 e2
    have cq := cells_at H4.out.2.1
    have lq := lt_of_at H4.out.2.1
    go_wp2_with fail
    rw [HC.out]
    refine (holdsF_spec w4 indexB rs (by unfold maxLen; omega)).mono ?_
    rintro e w5 ⟨rfl, hk5⟩
    rw [← HC.out]
    have H5 := Lib.hid (And.intro (hk5.at_ H4.out.2.2.1 (by simp)) (And.intro (H4.out.1.keep hk5 (by simp) (by simp) (by simp) (by simp)) (H4.out.2.2.2.trans (hk5.mono (by simp)))))
    clear cq lq hk5
    go_wp2_with fail
    refine (entriesR_spec w5 rs EP H.out.2.2.2.2.1 H.out.2.2.2.2.2.2.1 H.out.2.2.2.2.2.2.2.1 hl).mono ?_
    rintro e w6 ⟨v6, E, rfl, hE, hEm, hk6⟩
    have hEl : E.length = EP.length := by rw [← hEm, List.length_map]
    obtain ⟨a6, c6, rfl, -, -, -⟩ := row_slice hE.1
    have H6 := Lib.hid (And.intro (hk6.at_ H5.out.1 (by simp)) (And.intro (H5.out.2.1.keep hk6 (by simp) (by simp) (by simp) (by simp)) (And.intro (H5.out.2.2.trans (hk6.mono (by simp))) (And.intro hE hEm))))
    have Hw := Lib.hid (wanted_spec w6 p M _ vo fr up _ false (.slice none 0 0) (.slice none 0 0) (.slice a6 E.length c6) L E H6.out.1 (H.out.2.1 w6 H6.out.2.2.1) H.out.2.2.1 ⟨row_base hE.1 (Nat.zero_le _), hE.2⟩ (by omega))
    have HEl := Lib.hid hEl
    clear hE hEm hk6 hEl
    go_wp2_with fail
    refine Hw.out.mono ?_
    rintro e w7 ⟨v7, E7, rfl, hE7, hEm7, hEl7, hk7⟩
    obtain ⟨a7, c7, rfl, -, -, -⟩ := row_slice hE7.1
    have p7 := hk7.at_ H6.out.1 (by simp)
    have H7 := Lib.hid (And.intro p7 (And.intro (H6.out.2.1.keep hk7 (by simp) (by simp) (by simp) (by simp)) (And.intro (H6.out.2.2.1.trans (hk7.mono (by simp))) (And.intro hE7 (And.intro (show E7.map (·.2) = EP.filter (wantE fr up L) by rw [hEm7, H6.out.2.2.2.2]) (by have := HEl.out; omega : E7.length ≤ EP.length))))))
    have hpn : p < w.heap.size := lt_of_at H.out.1
    have hsz6 : w.heap.size ≤ w6.heap.size := H6.out.2.2.1.size
    have cp := cells_at p7
    have fp := free_at p7
    have lp := lt_of_at p7
    clear hE7 hEm7 hEl7 hk7 p7
    go_wp2_with fail
    go_ret
    have n9 : ((w7.setCell ⟨p, 11, none⟩ (.bool true)).setCell ⟨p, 12, none⟩ (.slice a7 E7.length c7)).heap[p]? = some (.cells #[.string M.id, .int .i64 (M.mn : Nat), .int .i64 (M.mx : Nat), .int .i64 (M.level : Nat), .int .i64 (M.series : Nat), .int .i64 (M.samples : Nat), .slice (some ⟨g, 0, none⟩) 2 cg, vo, .int .i64 fr, .int .i64 up, .slice am L.length cm, .bool true, .slice a7 E7.length c7, .slice none 0 0] 99 (0, 0)) := by
      have h1 := heap_cell_same (i := 11) H7.out.1 (.bool true)
      have h2 := heap_cell_same (i := 12) h1 (.slice a7 E7.length c7)
      simpa using h2
    have k9 : Keeps [p] w7 ((w7.setCell ⟨p, 11, none⟩ (.bool true)).setCell ⟨p, 12, none⟩ (.slice a7 E7.length c7)) := ((Keeps.refl _ w7).setCell (.inl (by simp)) _).setCell (.inl (by simp)) _
    have hne := H.out.2.2.2.2.2.2.2.2.2.1
    refine ⟨H7.out.2.1.keep k9 (by simp; exact Ne.symm hne.2.2.1) (by simp; exact Ne.symm hne.1) (by simp; exact Ne.symm hne.2.1) (by simp; exact Ne.symm hne.2.2.2), H7.out.2.2.1.trans (k9.mono (by simp)), .inr (.inr ⟨rfl, rfl, _, E7, n9, ⟨k9.row (row_base H7.out.2.2.2.1.1 hsz6) (fun x hx hm => ?_), fun e he => k9.row (H7.out.2.2.2.1.2 e he) (fun x hx hm => ?_)⟩, H7.out.2.2.2.2.1, H7.out.2.2.2.2.2⟩)⟩
    · obtain rfl : x = p := by simpa using hm
      exact row_ne_type H7.out.2.2.2.1.1 H7.out.1 (by decide) _ hx rfl
    · obtain rfl : x = p := by simpa using hm
      exact row_ne_type (H7.out.2.2.2.1.2 e he) H7.out.1 (by decide) _ hx rfl
end Go.Proofs.YtkffpcmminlndaaGreatDoor
