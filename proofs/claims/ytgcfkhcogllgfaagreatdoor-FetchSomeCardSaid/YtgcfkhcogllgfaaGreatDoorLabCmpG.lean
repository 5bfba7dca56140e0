/-
  label.Compare of any two sets, walked: the document's Compare.
  The first set is of few pairs.

  container/heap at merge's queue of at most two cursors, walked: Less, Swap, Push, Pop, Init, up, down.
  The cursors' labels are of few pairs.

  container/heap at merge's queue of at most two cursors, walked: Init, Push, Pop.
  The cursors' labels are of few pairs.
-/
import Derived.Test.YtgcfkhcogllgfaaGreatDoorTabMk
import Derived.Deep.CutRange
namespace Go.Proofs.YtgcfkhcogllgfaaGreatDoor
set_option maxRecDepth 100000
set_option maxHeartbeats 2000000
set_option linter.unusedSimpArgs false
open Go Go.RowKit Go.Conc
open Go.Op (bytesLess)
theorem cmpb_gt : ∀ a b : List UInt8, bytesLess b a = true → Lib.compareBytes a b = 1
 | [], [], h => by simp [bytesLess] at h
 | [], _ :: _, h => by simp [bytesLess] at h
 | _ :: _, [], _ => rfl
 | a :: xs, b :: ys, h => by
  unfold Lib.compareBytes
  unfold bytesLess at h
  by_cases h1 : b < a
  ·have h2 : ¬ a < b := fun h2 => absurd (UInt8.lt_trans h1 h2) (UInt8.lt_irrefl _)
   rw [if_neg h2, if_pos h1]
  ·by_cases h2 : a < b
   ·have hne : ¬ b = a := fun e => by rw [e] at h2; exact absurd h2 (UInt8.lt_irrefl _)
    simp [h1, hne] at h
   ·have he : a = b := UInt8.le_antisymm (UInt8.not_lt.1 h1) (UInt8.not_lt.1 h2)
    subst he
    rw [if_neg h1, if_neg h1]
    exact cmpb_gt xs ys (by simpa [h1] using h)
theorem cmpT_gt {a b : ByteArray} (h : ltT b a) : Lib.compareBytes a.data.toList b.data.toList = 1 := by
 unfold ltT at h
 rw [ByteArray.toList_eq, ByteArray.toList_eq] at h
 exact cmpb_gt _ _ h
theorem cmp1_gt (x y : PairB) (h : ltP y x) (W : World) : Calls Tryz.prog 57 #[.agg #[.string x.1, .string x.2], .agg #[.string y.1, .string y.2]] W fun e w' => e = .returned (.int .i64 1) ∧ Keeps [] W w' := by
 have kW : Keeps [] W ((W.alloc (.cells #[.string x.1, .string x.2] 91)).alloc (.cells #[.string y.1, .string y.2] 91)) := ((Keeps.refl [] W).alloc _).alloc _
 have Hk := Lib.hid kW
 clear kW
 rcases h with h | ⟨e', h⟩
 ·have hc := cmpT_gt h
  have hcon := fun W' => Tryz.strings_Compare x.1 y.1 W'
  rw [hc] at hcon
  have Hc := Lib.hid hcon
  clear hcon hc h
  go_enter Tryz.func57, Tryz.ntmps57
  go_wp2_with fail
  refine (Hc.out _).mono ?_
  rintro e w' ⟨rfl, rfl⟩
  go_wp2_with fail
  go_ret
  exact ⟨rfl, Hk.out⟩
 ·have e := e'.symm
  clear e'
  have hc := cmpT_gt h
  have hcon := fun W' => Tryz.strings_Compare x.2 y.2 W'
  rw [hc] at hcon
  have hcon0 := fun W' => Tryz.strings_Compare x.1 y.1 W'
  rw [e, cmpb_self] at hcon0
  have Hc := Lib.hid (And.intro hcon0 hcon)
  rw [e]
  clear hcon hcon0 hc h
  rw [e] at Hk
  go_enter Tryz.func57, Tryz.ntmps57
  go_wp2_with fail
  refine (Hc.out.1 _).mono ?_
  rintro e w' ⟨rfl, rfl⟩
  go_wp2_with fail
  refine (Hc.out.2 _).mono ?_
  rintro e w' ⟨rfl, rfl⟩
  go_wp2_with fail
  go_ret
  exact ⟨rfl, Hk.out⟩
def CmpRelG (w : World) (P R : List PairB) (c : Int) (gk : Nat) (u : Value) (wr : World) : Prop := ∃ k, k ≤ P.length ∧ gk = P.length - k ∧ u = .int .i64 (k : Nat) ∧ k ≤ R.length ∧ cmpL (P.drop k) (R.drop k) = c ∧ Keeps [] w wr
theorem cmpFuncG_spec (w : World) (B C : Nat) (T : TypeId) (va vb : Value) (P R : List PairB) (ha : w.ownsRow B T 2 va P.length (P.flatMap encPB)) (hb : w.ownsRow C T 2 vb R.length (R.flatMap encPB)) (hP : P.length ≤ 1000) (c : Int) (h : cmpL P R = c) :
  Calls Tryz.prog 56 #[va, vb, .func (.func 57) #[] #[]] w fun e w' => e = .returned (.int .i64 c) ∧ Keeps [] w w' := by
 have H := Lib.hid (And.intro ha hb)
 obtain ⟨aa, ca, rfl, -, -, -⟩ := row_slice ha
 obtain ⟨ab, cb, rfl, -, -, -⟩ := row_slice hb
 clear ha hb
 go_enter Tryz.func56, Tryz.ntmps56
 go_wp2_with fail
 go_loopg [13] P.length (CmpRelG w P R c)
 case atStart => exact ⟨0, Nat.zero_le _, rfl, rfl, Nat.zero_le _, h, Keeps.refl _ _⟩
 case round =>
  clear h
  obtain ⟨k, hk, hgk, rfl, hkR, hcmp, hkr⟩ := hrel
  have Hg := Lib.hid (And.intro hgk hkr)
  by_cases hlt : k < P.length
  ·by_cases hltR : k < R.length
   ·obtain ⟨b1, o1, e1, hb1, c0, c1⟩ := pair_row (hkr.row H.out.1 (by simp)) k hlt
    obtain ⟨b2, o2, e2, hb2, d0, d1⟩ := pair_row (hkr.row H.out.2 (by simp)) k hltR
    subst e1 e2
    have hlt1 : (k : Int) < (P.length : Int) := by omega
    have hlt2 : ¬ (k : Int) ≥ (R.length : Int) := by omega
    have hlt3 : (k : Int) < (R.length : Int) := by omega
    rw [List.drop_eq_getElem_cons hlt, List.drop_eq_getElem_cons hltR] at hcmp
    have HE : Hid ((ltP P[k] R[k] ∧ c = -1) ∨ (P[k] = R[k] ∧ cmpL (P.drop (k + 1)) (R.drop (k + 1)) = c) ∨ (ltP R[k] P[k] ∧ c = 1)) := by
     apply Lib.hid
     unfold cmpL at hcmp
     split at hcmp
     ·rename_i h1; exact .inl ⟨h1, hcmp.symm⟩
     ·rename_i h0
      split at hcmp
      ·rename_i h1; exact .inr (.inl ⟨h1, hcmp⟩)
      ·rename_i h1; exact .inr (.inr ⟨ltP_or h1 h0, hcmp.symm⟩)
    clear hgk hkr hcmp
    generalize P[k] = x at c0 c1 HE
    generalize R[k] = y at d0 d1 HE
    have kW : Keeps [] w ((wr.alloc (.cells #[.string x.1, .string x.2] 91)).alloc (.cells #[.string y.1, .string y.2] 91)) := (Hg.out.2.alloc _).alloc _
    have nx := (Keeps.refl [] _).alloc (.cells #[.string y.1, .string y.2] 91) |>.at_ (heap_new wr (.cells #[.string x.1, .string x.2] 91)) (by simp)
    have ny := heap_new (wr.alloc (.cells #[.string x.1, .string x.2] 91)) (.cells #[.string y.1, .string y.2] 91)
    rw [World.size_alloc] at ny
    go_upto_region 7 with fail
    generalize (wr.alloc (.cells #[.string x.1, .string x.2] 91)).alloc (.cells #[.string y.1, .string y.2] 91) = W2 at kW nx ny ⊢
    have cx := cells_at nx
    have cy := cells_at ny
    have lx := lt_of_at nx
    have ly := lt_of_at ny
    have HK := Lib.hid kW
    clear c0 c1 d0 d1 hb1 hb2 kW nx ny
    generalize wr.heap.size = q at cx cy lx ly ⊢
    rcases HE.out with ⟨h1, h2⟩ | ⟨h1, h2⟩ | ⟨h1, h2⟩
    ·have Hc := Lib.hid (And.intro (cmp1_lt x y h1) h2)
     clear h1 h2 HE
     go_wp2_with (refine wpList_call_value rfl _ _ _ rfl 57 #[] #[] rfl ⟨_, Tryz.func57, by kernel_rfl, by kernel_rfl⟩ ?_)
     refine (Hc.out.1 _).mono ?_
     rintro e w5 ⟨rfl, hk5⟩
     have H5 := Lib.hid (HK.out.trans hk5)
     clear hk5
     go_wp2_with fail
     go_ret
     exact ⟨by rw [Hc.out.2]; rfl, H5.out⟩
    ·subst h1
     have Hc := Lib.hid (cmp1_eq x)
     have H2 := Lib.hid h2
     clear h2 HE
     go_wp2_with (refine wpList_call_value rfl _ _ _ rfl 57 #[] #[] rfl ⟨_, Tryz.func57, by kernel_rfl, by kernel_rfl⟩ ?_)
     refine (Hc.out _).mono ?_
     rintro e w5 ⟨rfl, hk5⟩
     have H5 := Lib.hid (HK.out.trans hk5)
     clear hk5
     go_wp2_with fail
     go_roundg (P.length - (k + 1))
     case measure => have := Hg.out.1; omega
     case rel => exact ⟨k + 1, hlt, rfl, by go_num, hltR, H2.out, H5.out⟩
    ·have Hc := Lib.hid (And.intro (cmp1_gt x y h1) h2)
     clear h1 h2 HE
     go_wp2_with (refine wpList_call_value rfl _ _ _ rfl 57 #[] #[] rfl ⟨_, Tryz.func57, by kernel_rfl, by kernel_rfl⟩ ?_)
     refine (Hc.out.1 _).mono ?_
     rintro e w5 ⟨rfl, hk5⟩
     have H5 := Lib.hid (HK.out.trans hk5)
     clear hk5
     go_wp2_with fail
     go_ret
     exact ⟨by rw [Hc.out.2]; rfl, H5.out⟩
   ·obtain ⟨b1, o1, e1, hb1, c0, c1⟩ := pair_row (hkr.row H.out.1 (by simp)) k hlt
    subst e1
    have hlt1 : (k : Int) < (P.length : Int) := by omega
    have hlt2 : (k : Int) ≥ (R.length : Int) := by omega
    have hlt3 : (R.length : Int) ≤ (k : Int) := by omega
    have HE := Lib.hid (show c = 1 by
     rw [List.drop_eq_nil_of_le (by omega : R.length ≤ k), List.drop_eq_getElem_cons hlt] at hcmp
     simpa [cmpL] using hcmp.symm)
    have HK := Lib.hid (hkr.alloc (.cells #[.string P[k].1, .string P[k].2] 91))
    clear hgk hkr hcmp
    generalize P[k] = x at c0 c1 HK
    go_wp2_with fail
    go_ret
    exact ⟨by rw [HE.out]; rfl, HK.out⟩
  ·have hlt1 : ¬ (k : Int) < (P.length : Int) := by omega
   by_cases hltR : k < R.length
   ·have hlt2 : (P.length : Int) < (R.length : Int) := by omega
    have HE := Lib.hid (show c = -1 by
     rw [List.drop_eq_nil_of_le (by omega : P.length ≤ k), List.drop_eq_getElem_cons hltR] at hcmp
     simpa [cmpL] using hcmp.symm)
    clear hgk hkr hcmp
    go_wp2_with fail
    go_ret
    exact ⟨by rw [HE.out]; rfl, Hg.out.2⟩
   ·have hlt2 : ¬ (P.length : Int) < (R.length : Int) := by omega
    have HE := Lib.hid (show c = 0 by
     rw [List.drop_eq_nil_of_le (by omega : P.length ≤ k), List.drop_eq_nil_of_le (by omega : R.length ≤ k)] at hcmp
     simpa [cmpL] using hcmp.symm)
    clear hgk hkr hcmp
    go_wp2_with fail
    go_ret
    exact ⟨by rw [HE.out]; rfl, Hg.out.2⟩
theorem labCompareG_spec (w : World) (B C : Nat) (T : TypeId) (va vb : Value) (P R : List PairB) (ha : w.ownsRow B T 2 va P.length (P.flatMap encPB)) (hb : w.ownsRow C T 2 vb R.length (R.flatMap encPB)) (hP : P.length ≤ 1000) :
  Calls Tryz.prog 30 #[va, vb] w fun e w' => e = .returned (.int .i64 (cmpL P R)) ∧ Keeps [] w w' := by
 obtain ⟨c, hc⟩ : ∃ c, c = cmpL P R := ⟨_, rfl⟩
 rw [← hc]
 have Hc := Lib.hid (cmpFuncG_spec w B C T va vb P R ha hb hP c hc.symm)
 clear ha hb hc
 go_enter Tryz.func30, Tryz.ntmps30
 go_wp2_with fail
 refine Hc.out.mono ?_
 rintro e w5 ⟨rfl, hk5⟩
 have H5 := Lib.hid hk5
 clear hk5
 go_wp2_with fail
 go_ret
 exact ⟨rfl, H5.out⟩
open Go Go.RowKit
abbrev CurV := Nat × Nat × Value × Value
def encCur (c : CurV) : List Value := [.int .i64 (c.1 : Nat), .int .i64 (c.2.1 : Nat), c.2.2.1, c.2.2.2]
theorem encCur_flat (C : List CurV) : (C.flatMap encCur).length = C.length * 4 := by
 induction C with
 | nil => rfl
 | cons c C ih =>
  rw [List.flatMap_cons, List.length_append, ih, List.length_cons]
  show 4 + _ = _
  omega
theorem encCur_at : ∀ (C : List CurV) (i k : Nat) (c : CurV), C[i]? = some c → k < 4 → (C.flatMap encCur)[i * 4 + k]? = (encCur c)[k]?
 | [], i, k, c, h, _ => by simp at h
 | d :: C, 0, k, c, h, hk => by
  obtain rfl : d = c := by simpa using h
  rw [List.flatMap_cons, Nat.zero_mul, Nat.zero_add, List.getElem?_append_left (by show k < 4; exact hk)]
 | d :: C, i + 1, k, c, h, hk => by
  have h' : C[i]? = some c := by simpa using h
  rw [List.flatMap_cons, List.getElem?_append_right (by show 4 ≤ _; omega), ← encCur_at C i k c h' hk]
  congr 1
  show _ - 4 = _
  omega
def LabAt (w : World) (c : CurV) (P : List PairB) : Prop := w.ownsRow 0 91 2 c.2.2.1 P.length (P.flatMap encPB) ∧ P.length ≤ 1000
theorem cur_cells {w : World} {B g n cp : Nat} {C : List CurV} (h : w.ownsRow B 81 4 (.slice (some ⟨g, 0, none⟩) n cp) C.length (C.flatMap encCur)) (i : Nat) (c : CurV) (hi : C[i]? = some c) :
  w.cell? ⟨g, i * 4, none⟩ = some (.int .i64 (c.1 : Nat)) ∧ w.cell? ⟨g, i * 4 + 1, none⟩ = some (.int .i64 (c.2.1 : Nat)) ∧ w.cell? ⟨g, i * 4 + 2, none⟩ = some c.2.2.1 ∧ w.cell? ⟨g, i * 4 + 3, none⟩ = some c.2.2.2 := by
 have key : ∀ k, k < 4 → ∀ u, (encCur c)[k]? = some u → w.cell? ⟨g, i * 4 + k, none⟩ = some u := fun k hk u hu => by
  have h1 := World.ownsRow.cells h (g := g) rfl (i * 4 + k) u (by rw [encCur_at C i k c hi hk]; exact hu)
  have hadd : (⟨g, 0, none⟩ : Addr).add (i * 4 + k) = ⟨g, i * 4 + k, none⟩ := by unfold Addr.add; split <;> simp_all
  rw [hadd] at h1
  exact h1
 exact ⟨key 0 (by decide) _ rfl, key 1 (by decide) _ rfl, key 2 (by decide) _ rfl, key 3 (by decide) _ rfl⟩
noncomputable def lessB (a b : CurV) (P R : List PairB) : Bool := if cmpL P R = 0 then decide (a.1 < b.1) else decide (cmpL P R < 0)
theorem qless_spec (w : World) (B : Nat) (v : Value) (C : List CurV) (h : w.ownsRow B 81 4 v C.length (C.flatMap encCur)) (hn : C.length ≤ 100) (i j : Nat) (a b : CurV) (hi : C[i]? = some a) (hj : C[j]? = some b) (P R : List PairB) (la : LabAt w a P) (lb : LabAt w b R) :
  Calls Tryz.prog 210 #[v, .int .i64 (i : Nat), .int .i64 (j : Nat)] w fun e w' => e = .returned (.bool (lessB a b P R)) ∧ Keeps [] w w' := by
 obtain ⟨hil, -⟩ := List.getElem?_eq_some_iff.1 hi
 obtain ⟨hjl, -⟩ := List.getElem?_eq_some_iff.1 hj
 obtain ⟨g, cp, rfl⟩ := row_some h (by omega)
 obtain ⟨R0, hR0⟩ : ∃ R0, R0 = lessB a b P R := ⟨_, rfl⟩
 rw [← hR0]
 obtain ⟨a0, a1, a2, a3⟩ := cur_cells h i a hi
 obtain ⟨b0, b1, b2, b3⟩ := cur_cells h j b hj
 have hc3 := cmpL_cases P R
 obtain ⟨cR, hcR⟩ : ∃ cR, cR = cmpL P R := ⟨_, rfl⟩
 rw [← hcR] at hc3
 obtain ⟨W0, hW0⟩ : ∃ W0, W0 = w.drew := ⟨_, rfl⟩
 have kW : Keeps [] w W0 := by rw [hW0]; exact (Keeps.refl [] w).drew
 have lg := World.block_lt_of_cell? _ _ a0
 have H := Lib.hid (And.intro la (And.intro lb (And.intro hR0 (And.intro kW (And.intro (fun (w' : World) (k : Keeps [] w w') => (k.cell lg (by simp)).trans a0) (And.intro (fun (w' : World) (k : Keeps [] w w') => (k.cell lg (by simp)).trans b0) hcR))))))
 have F1 : ∀ s : Kept W0, s.val.cell? ⟨g, i * 4 + 2, none⟩ = some a.2.2.1 := keptCell ((kW.cell lg (by simp)).trans a2)
 have F2 : ∀ s : Kept W0, s.val.cell? ⟨g, j * 4 + 2, none⟩ = some b.2.2.1 := keptCell ((kW.cell lg (by simp)).trans b2)
 have hil2 : (i : Int) < (C.length : Int) := by omega
 have hjl2 : (j : Int) < (C.length : Int) := by omega
 have HW := Lib.hid hW0
 clear h hi hj la lb hR0 a0 a1 a2 a3 b0 b1 b2 b3 kW hW0 hcR
 go_enter Tryz.func210, Tryz.ntmps210
 go_upto_region 1 with fail
 refine wp_region_held_drew (S := KeptS W0) (by kernel_rfl) (by rw [← HW.out]; exact keptS (Keeps.refl _ _)) (fun hS => ?_)
 rw [← HW.out] at hS ⊢
 clear HW
 refine tk (v := ?_) 0 rfl ?_ ?_; rotate_left
 ·rintro _ ⟨s, rfl⟩; go_simp; (try with_reducible rfl)
 simp only [Act.put, zz]
 refine tk (v := ?_) 1 rfl ?_ ?_; rotate_left
 ·rintro _ ⟨s, rfl⟩; go_simp; (try with_reducible rfl)
 simp only [Act.put, zz]
 refine tk (v := ?_) 2 rfl ?_ ?_; rotate_left
 ·rintro _ ⟨s, rfl⟩; go_simp; (try with_reducible rfl)
 simp only [Act.put, zz]
 refine tk (v := ?_) 3 rfl ?_ ?_; rotate_left
 ·rintro _ ⟨s, rfl⟩; go_simp; (try with_reducible rfl)
 simp only [Act.put, zz]
 refine tk (v := ?_) 4 rfl ?_ ?_; rotate_left
 ·rintro _ ⟨s, rfl⟩; go_simp; (try with_reducible rfl)
 simp only [Act.put, zz]
 refine tk (v := ?_) 5 rfl ?_ ?_; rotate_left
 ·rintro _ ⟨s, rfl⟩; go_simp; (try with_reducible rfl)
 simp only [Act.put, zz]
 refine tk (v := ?_) 6 rfl ?_ ?_; rotate_left
 ·rintro _ ⟨s, rfl⟩; go_simp; (try with_reducible rfl)
 simp only [Act.put, zz]
 refine tk (v := ?_) 7 rfl ?_ ?_; rotate_left
 ·rintro _ ⟨s, rfl⟩; go_simp; (try with_reducible rfl)
 simp only [Act.put, zz]
 refine tk (v := ?_) 8 rfl ?_ ?_; rotate_left
 ·rintro _ ⟨s, rfl⟩; go_simp; (try with_reducible rfl)
 simp only [Act.put, zz]
 refine tk (v := ?_) 9 rfl ?_ ?_; rotate_left
 ·rintro _ ⟨s, rfl⟩; go_simp; (try with_reducible rfl)
 simp only [Act.put, zz]
 refine tk (v := ?_) 10 rfl ?_ ?_; rotate_left
 ·rintro _ ⟨s, rfl⟩; go_simp; (try with_reducible rfl)
 simp only [Act.put, zz]
 refine tk (v := ?_) 11 rfl ?_ ?_; rotate_left
 ·rintro _ ⟨s, rfl⟩; go_simp; (try with_reducible rfl)
 simp only [Act.put, zz]
 refine rd 12 rfl fun K hK => ?_
 go_simp
 go_at_call 30
 refine (labCompareG_spec W0 0 0 91 _ _ P R (go1 H.out.2.2.2.1 H.out.1.1) (go1 H.out.2.2.2.1 H.out.2.1.1) H.out.1.2).mono ?_
 rintro e A1 ⟨rfl, q1⟩
 rw [← H.out.2.2.2.2.2.2]
 go_simp
 refine hK.out _ _ (keptS q1) (fun hS => ?_)
 clear hK K
 try simp only [Act.put, zz]
 refine rd 13 rfl fun K hK => ?_
 go_simp
 go_simp
 refine hK.out _ _ (keptS q1) (fun hS => ?_)
 clear hK K
 try simp only [Act.put, zz]
 refine wpAnyH_done (by kernel_rfl) ?_ _
 have HQ := Lib.hid (H.out.2.2.2.1.trans q1)
 clear F1 F2 hS q1
 have hd : R0 = if cR = 0 then decide (a.1 < b.1) else decide (cR < 0) := by rw [H.out.2.2.1, H.out.2.2.2.2.2.2]; rfl
 have Hd := Lib.hid hd
 clear hd
 have g0 := H.out.2.2.2.2.1 A1 HQ.out
 have g1 := H.out.2.2.2.2.2.1 A1 HQ.out
 rcases hc3 with h3 | h3 | h3
 ·rw [h3] at Hd ⊢
  go_wp2_with fail
  go_ret
  exact ⟨by rw [Hd.out]; rfl, HQ.out⟩
 ·rw [h3] at Hd ⊢
  have lA := World.block_lt_of_cell? _ _ g0
  have Hl := Lib.hid (show decide (a.1 < b.1) = R0 by rw [Hd.out, if_pos rfl])
  go_wp2_with fail
  go_quiet (fail)
  rw [Hl.out]
  have HQ2 := Lib.hid (HQ.out.drewN nq)
  clear g0 g1 lA
  generalize A1.drewN nq = A2 at HQ2 ⊢
  go_wp2_with fail
  go_ret
  exact ⟨rfl, HQ2.out⟩
 ·rw [h3] at Hd ⊢
  go_wp2_with fail
  go_ret
  exact ⟨by rw [Hd.out]; rfl, HQ.out⟩
structure QAt (w : World) (q B : Nat) (v : Value) (C : List CurV) : Prop where
 q : w.heap[q]? = some (.cells #[v] 79 (0, 0))
 row : w.ownsRow B 81 4 v C.length (C.flatMap encCur)
theorem QAt.keep {w w' : World} {q B : Nat} {v : Value} {C : List CurV} {S : List Nat} (h : QAt w q B v C) (k : Keeps S w w') (hq : q ∉ S) (hg : ∀ g, v.ownBlock = some g → g ∉ S) : QAt w' q B v C := ⟨k.at_ h.q hq, k.row h.row hg⟩
theorem QAt.ne {w : World} {q B : Nat} {v : Value} {C : List CurV} (h : QAt w q B v C) : ∀ g, v.ownBlock = some g → g ≠ q := fun g hg e => by
 subst e
 exact row_ne_cells h.row h.q (by decide) g hg rfl
theorem mq_load (w : World) (q : Nat) (v : Value) (h : w.cell? ⟨q, 0, none⟩ = some v) : (loadVar 79 ⟨q, 0, none⟩).run Tryz.prog w = .ok v w := by
 go_simp
theorem mq_len (n : Nat) (a : Addr) (w : World) (v : Value) (h : (loadVar 79 a).run Tryz.prog w = .ok v w) : (method (n + 1) 83 (.pointer (some a)) "Len").run Tryz.prog w = .ok (209, v) w := by
 have h1 : (method (n + 1) 83 (.pointer (some a)) "Len").run Tryz.prog w = ((loadVar 79 a) >>= fun r => pure (209, r)).run Tryz.prog w := by kernel_rfl
 rw [h1]
 simp [h]
theorem mq_less (n : Nat) (a : Addr) (w : World) (v : Value) (h : (loadVar 79 a).run Tryz.prog w = .ok v w) : (method (n + 1) 83 (.pointer (some a)) "Less").run Tryz.prog w = .ok (210, v) w := by
 have h1 : (method (n + 1) 83 (.pointer (some a)) "Less").run Tryz.prog w = ((loadVar 79 a) >>= fun r => pure (210, r)).run Tryz.prog w := by kernel_rfl
 rw [h1]
 simp [h]
theorem mq_swap (n : Nat) (a : Addr) (w : World) (v : Value) (h : (loadVar 79 a).run Tryz.prog w = .ok v w) : (method (n + 1) 83 (.pointer (some a)) "Swap").run Tryz.prog w = .ok (211, v) w := by
 have h1 : (method (n + 1) 83 (.pointer (some a)) "Swap").run Tryz.prog w = ((loadVar 79 a) >>= fun r => pure (211, r)).run Tryz.prog w := by kernel_rfl
 rw [h1]
 simp [h]
theorem mq_pop (n : Nat) (a : Addr) (w : World) : (method (n + 1) 83 (.pointer (some a)) "Pop").run Tryz.prog w = .ok (212, .pointer (some a)) w := by kernel_rfl
theorem mq_push (n : Nat) (a : Addr) (w : World) : (method (n + 1) 83 (.pointer (some a)) "Push").run Tryz.prog w = .ok (213, .pointer (some a)) w := by kernel_rfl
theorem qlen2_spec (w : World) (a : Option Addr) (n c : Nat) : Calls Tryz.prog 209 #[.slice a n c] w fun e w' => e = .returned (.int .i64 n) ∧ w' = w := by
 go_enter Tryz.func209, Tryz.ntmps209
 go_wp2_with fail
 go_ret
 exact ⟨rfl, rfl⟩
def IsCur (c : CurV) : Prop := (∃ x n k, c.2.2.1 = .slice x n k) ∧ ∃ x n k, c.2.2.2 = .slice x n k
theorem swap2_spec (w : World) (B : Nat) (v : Value) (a b : CurV) (h : w.ownsRow B 81 4 v 2 ([a, b].flatMap encCur)) (ha : IsCur a) (hb : IsCur b) :
  Calls Tryz.prog 211 #[v, .int .i64 0, .int .i64 1] w fun e w' => e = .returned (.tuple #[]) ∧ w'.ownsRow B 81 4 v 2 ([b, a].flatMap encCur) ∧ Keeps v.ownBlock.toList w w' := by
 obtain ⟨hxl, ⟨-, e0⟩ | ⟨g, cp, cur, rfl, hbase, hg, h1, h2, h3, h4⟩⟩ := h
 ·cases e0
 obtain ⟨a0, a1, a2, a3⟩ := a
 obtain ⟨b0, b1, b2, b3⟩ := b
 obtain ⟨⟨xa, na, ka, ea⟩, ⟨ya, ma, la, fa⟩⟩ := ha
 obtain ⟨⟨xb, nb, kb, eb⟩, ⟨yb, mb, lb, fb⟩⟩ := hb
 dsimp only at ea fa eb fb
 subst ea fa eb fb
 have hcur : cur = (([.int .i64 (a0 : Nat), .int .i64 (a1 : Nat), .slice xa na ka, .slice ya ma la, .int .i64 (b0 : Nat), .int .i64 (b1 : Nat), .slice xb nb kb, .slice yb mb lb] : List Value) ++ cur.toList.drop 8).toArray := by
  have h5 := List.take_append_drop 8 cur.toList
  rw [h4] at h5
  apply Array.ext'
  rw [← h5]
  rfl
 obtain ⟨rest, hrest⟩ : ∃ rest, rest = cur.toList.drop 8 := ⟨_, rfl⟩
 rw [← hrest] at hcur
 rw [hcur] at hg
 have cg := cells_at hg
 have fg := free_at hg
 have lg := lt_of_at hg
 have H := Lib.hid (And.intro hg (And.intro hbase (And.intro h1 (And.intro h2 (show ((([.int .i64 (a0 : Nat), .int .i64 (a1 : Nat), .slice xa na ka, .slice ya ma la, .int .i64 (b0 : Nat), .int .i64 (b1 : Nat), .slice xb nb kb, .slice yb mb lb] : List Value) ++ rest)).length = cp * 4 by rw [hcur] at h3; exact h3)))))
 clear hg h1 h2 h3 h4 hcur hrest hxl
 go_enter Tryz.func211, Tryz.ntmps211
 have c0 : w.cell? ⟨g, 0, none⟩ = some (.int .i64 (a0 : Nat)) := by rw [cg]; rfl
 have c1 : w.cell? ⟨g, 1, none⟩ = some (.int .i64 (a1 : Nat)) := by rw [cg]; rfl
 have c2 : w.cell? ⟨g, 2, none⟩ = some (.slice xa na ka) := by rw [cg]; rfl
 have c3 : w.cell? ⟨g, 3, none⟩ = some (.slice ya ma la) := by rw [cg]; rfl
 have c4 : w.cell? ⟨g, 4, none⟩ = some (.int .i64 (b0 : Nat)) := by rw [cg]; rfl
 have c5 : w.cell? ⟨g, 5, none⟩ = some (.int .i64 (b1 : Nat)) := by rw [cg]; rfl
 have c6 : w.cell? ⟨g, 6, none⟩ = some (.slice xb nb kb) := by rw [cg]; rfl
 have c7 : w.cell? ⟨g, 7, none⟩ = some (.slice yb mb lb) := by rw [cg]; rfl
 clear cg
 go_region
 have g1 := heap_setCell_same w g 0 _ _ (.int .i64 (b0 : Nat)) H.out.1
 have g2 := heap_setCell_same _ g 1 _ _ (.int .i64 (b1 : Nat)) g1
 have g3 := heap_setCell_same _ g 2 _ _ (.slice xb nb kb) g2
 have g4 := heap_setCell_same _ g 3 _ _ (.slice yb mb lb) g3
 have g5 := heap_setCell_same _ g 4 _ _ (.int .i64 (a0 : Nat)) g4
 have g6 := heap_setCell_same _ g 5 _ _ (.int .i64 (a1 : Nat)) g5
 have g7 := heap_setCell_same _ g 6 _ _ (.slice xa na ka) g6
 have g8 := heap_setCell_same _ g 7 _ _ (.slice ya ma la) g7
 simp only [List.setIfInBounds_toArray, List.cons_append, List.nil_append, List.set_cons_zero, List.set_cons_succ] at g8
 have kk : Keeps [g] w ((((((((w.setCell ⟨g, 0, none⟩ (.int .i64 (b0 : Nat))).setCell ⟨g, 1, none⟩ (.int .i64 (b1 : Nat))).setCell ⟨g, 2, none⟩ (.slice xb nb kb)).setCell ⟨g, 3, none⟩ (.slice yb mb lb)).setCell ⟨g, 4, none⟩ (.int .i64 (a0 : Nat))).setCell ⟨g, 5, none⟩ (.int .i64 (a1 : Nat))).setCell ⟨g, 6, none⟩ (.slice xa na ka)).setCell ⟨g, 7, none⟩ (.slice ya ma la)) := ((((((((Keeps.refl [g] w).setCell (.inl (by simp)) _).setCell (.inl (by simp)) _).setCell (.inl (by simp)) _).setCell (.inl (by simp)) _).setCell (.inl (by simp)) _).setCell (.inl (by simp)) _).setCell (.inl (by simp)) _).setCell (.inl (by simp)) _
 have HE := Lib.hid (And.intro g8 kk)
 clear g1 g2 g3 g4 g5 g6 g7 g8 kk c0 c1 c2 c3 c4 c5 c6 c7 fg lg
 generalize ((((((((w.setCell ⟨g, 0, none⟩ (.int .i64 (b0 : Nat))).setCell ⟨g, 1, none⟩ (.int .i64 (b1 : Nat))).setCell ⟨g, 2, none⟩ (.slice xb nb kb)).setCell ⟨g, 3, none⟩ (.slice yb mb lb)).setCell ⟨g, 4, none⟩ (.int .i64 (a0 : Nat))).setCell ⟨g, 5, none⟩ (.int .i64 (a1 : Nat))).setCell ⟨g, 6, none⟩ (.slice xa na ka)).setCell ⟨g, 7, none⟩ (.slice ya ma la)) = w2 at HE ⊢
 go_wp2_with fail
 refine bodyPost_end (results_none rfl _ _ _) rfl ?_
 refine ⟨rfl, ⟨rfl, .inr ⟨g, cp, _, rfl, H.out.2.1, show (World.drew w2).heap[g]? = _ from HE.out.1, H.out.2.2.1, H.out.2.2.2.1, ?_, ?_⟩⟩, HE.out.2.drew⟩
 ·have h9 := H.out.2.2.2.2
  simp only [List.length_append, List.length_cons, List.length_nil] at h9
  simp only [List.size_toArray, List.length_cons]
  omega
 ·rfl
theorem row_init {w : World} {B g n cp : Nat} {T : TypeId} {xs ys : List Value} (_hy : ys.length = 4) (hx : xs.length = n * 4) (h : w.ownsRow B T 4 (.slice (some ⟨g, 0, none⟩) (n + 1) cp) (n + 1) (xs ++ ys)) : w.ownsRow B T 4 (.slice (some ⟨g, 0, none⟩) n cp) n xs := by
 obtain ⟨-, ⟨e, -⟩ | ⟨g', cp', cur, e, hb, hg, h1, h2, h3, h4⟩⟩ := h
 ·cases e
 ·injection e with e1 _ e3
  injection e1 with e1
  injection e1 with e1 _ _
  subst e1 e3
  refine ⟨hx, .inr ⟨g, cp, cur, rfl, hb, hg, by omega, h2, h3, ?_⟩⟩
  have h5 := congrArg (List.take (n * 4)) h4
  rw [List.take_take, Nat.min_eq_left (by omega)] at h5
  rw [h5, ← hx, List.take_left]
abbrev aggCur (c : CurV) : Value := .agg #[.int .i64 (c.1 : Nat), .int .i64 (c.2.1 : Nat), c.2.2.1, c.2.2.2]
theorem qpop2_spec (w : World) (q B : Nat) (v : Value) (C : List CurV) (c : CurV) (h : QAt w q B v (C ++ [c])) (hc : IsCur c) (hn : C.length ≤ 100) :
  Calls Tryz.prog 212 #[.pointer (some ⟨q, 0, none⟩)] w fun e w' => e = .returned (.iface 81 (aggCur c)) ∧ ∃ v', QAt w' q B v' C ∧ v'.ownBlock = v.ownBlock ∧ Keeps [q] w w' := by
 obtain ⟨g, cp, rfl⟩ := row_some h.row (by simp)
 have hne := h.ne g rfl
 have hrow := h.row
 have hq := h.q
 obtain ⟨d0, d1, d2, d3⟩ := cur_cells hrow C.length c (by simp)
 rw [show (C ++ [c]).length = C.length + 1 by simp] at hrow hq ⊢
 obtain ⟨n, hnn⟩ : ∃ n, n = C.length := ⟨_, rfl⟩
 rw [← hnn] at d0 d1 d2 d3 hq hrow hn ⊢
 obtain ⟨c0, c1, c2, c3⟩ := c
 obtain ⟨⟨xa, na, ka, ea⟩, ⟨ya, ma, la, fa⟩⟩ := hc
 dsimp only at ea fa d0 d1 d2 d3
 subst ea fa
 have lg := World.block_lt_of_cell? w _ d0
 have cq := cells_at hq
 have fq := free_at hq
 have lq := lt_of_at hq
 have H := Lib.hid (And.intro hq (And.intro hrow (And.intro hnn hne)))
 have hw1 : IntKind.i64.wrap ((n : Int) + 1 - 1) = (n : Int) := by rw [IntWalk.i64_in _ (by omega)]; omega
 have hcp : n ≤ cp := by
  obtain ⟨-, ⟨e, -⟩ | ⟨g', cp', cur, e, -, -, h1, -⟩⟩ := hrow
  ·cases e
  ·injection e with _ _ e3
   omega
 clear h hq hrow hnn
 go_enter Tryz.func212, Tryz.ntmps212
 go_wp2_with fail
 go_ret
 have kk : Keeps [q] w ((w.setCell ⟨q, 0, none⟩ (.slice (some ⟨g, 0, none⟩) n cp)).alloc (.cells #[.int .i64 (c0 : Nat), .int .i64 (c1 : Nat), .slice xa na ka, .slice ya ma la] 81)) := ((Keeps.refl [q] w).setCell (.inl (by simp)) _).alloc _
 refine ⟨rfl, .slice (some ⟨g, 0, none⟩) n cp, ⟨heap_old (heap_setCell_same w q 0 _ _ _ H.out.1) _, ?_⟩, rfl, kk⟩
 rw [← H.out.2.2.1]
 refine kk.row (row_init (ys := encCur (c0, c1, .slice xa na ka, .slice ya ma la)) rfl (by rw [encCur_flat, H.out.2.2.1]) (by have h1 := H.out.2.1; rw [List.flatMap_append] at h1; simpa using h1)) (fun x hx hm => H.out.2.2.2 ?_)
 simp [Value.ownBlock] at hx hm
 omega
theorem infoCur2 : (Tryz.prog.info? 81).map (fun i => (i.zero, i.size, i.bytes)) = some (some (.agg #[.int .i64 0, .int .i64 0, .slice none 0 0, .slice none 0 0]), 4, 64) := by kernel_rfl
theorem news_four2 {w : World} {g : Nat} {x y z u : Value} {t : TypeId} (hg : w.heap[g]? = some (.cells #[x, y, z, u] t (0, 0))) : ∀ j v, ([x, y, z, u] : List Value)[j]? = some v → w.cell? ((⟨g, 0, none⟩ : Addr).add j) = some v := by
 intro j v hv
 have hadd : (⟨g, 0, none⟩ : Addr).add j = ⟨g, j, none⟩ := by unfold Addr.add; split <;> simp_all
 rw [hadd, cells_at hg]
 match j with
 | 0 => exact hv
 | 1 => exact hv
 | 2 => exact hv
 | 3 => exact hv
 | n + 4 => simp at hv
theorem assert_cur2 (w : World) (x : Value) : (Instr.typeAssert (.iface 81 x) 20 81 true).run Tryz.prog w = .ok (.tuple #[x, .bool true]) w := by kernel_rfl
theorem qpush2_spec (w : World) (q B : Nat) (v : Value) (C : List CurV) (c : CurV) (h : QAt w q B v C) (hc : IsCur c) (hn : C.length ≤ 100) (hB : B ≤ w.heap.size) :
  Calls Tryz.prog 213 #[.pointer (some ⟨q, 0, none⟩), .iface 81 (aggCur c)] w fun e w' => e = .returned (.tuple #[]) ∧ ∃ v', QAt w' q B v' (C ++ [c]) ∧ Keeps (q :: v.ownBlock.toList) w w' := by
 obtain ⟨ic, hic, hz0, hz1, hz2⟩ := info_parts infoCur2
 have hne := h.ne
 have hq := h.q
 have hrow := h.row
 obtain ⟨ax, cx, rfl, -, -, -⟩ := row_slice hrow
 obtain ⟨c0, c1, c2, c3⟩ := c
 obtain ⟨⟨xa, na, ka, ea⟩, ⟨ya, ma, la, fa⟩⟩ := hc
 dsimp only at ea fa
 subst ea fa
 have qA := assert_cur2
 have kA : Keeps [] w (w.alloc (.cells #[.int .i64 (c0 : Nat), .int .i64 (c1 : Nat), .slice xa na ka, .slice ya ma la] 81)) := (Keeps.refl [] w).alloc _
 have H1 := Lib.hid (And.intro (kA.at_ hq (by simp)) (And.intro (go1 kA hrow) (And.intro (heap_new w (.cells #[.int .i64 (c0 : Nat), .int .i64 (c1 : Nat), .slice xa na ka, .slice ya ma la] 81)) (And.intro kA (And.intro hne (And.intro hB (fun g hg => (World.ownsRow.lt hrow g hg).2)))))))
 clear h hq hrow hne kA hB
 go_enter Tryz.func213, Tryz.ntmps213
 go_upto_region 2 with fail
 generalize hW1 : w.alloc (.cells #[.int .i64 (c0 : Nat), .int .i64 (c1 : Nat), .slice xa na ka, .slice ya ma la] 81) = W1 at H1 ⊢
 obtain ⟨W0, hW0⟩ : ∃ W0, W0 = W1.drew := ⟨_, rfl⟩
 have kW : Keeps [] W1 W0 := by rw [hW0]; exact (Keeps.refl [] W1).drew
 have H2 := Lib.hid (And.intro (kW.at_ H1.out.1 (by simp)) (And.intro (go1 kW H1.out.2.1) (And.intro (kW.at_ H1.out.2.2.1 (by simp)) (H1.out.2.2.2.1.trans kW))))
 generalize hk : w.heap.size = k at H2 ⊢
 have s0 : W0.cell? ⟨q, 0, none⟩ = some (.slice ax C.length cx) := cells_at H2.out.1 0
 have s1 : W0.cell? ⟨k, 0, none⟩ = some (.int .i64 (c0 : Nat)) := cells_at H2.out.2.2.1 0
 have s2 : W0.cell? ⟨k, 1, none⟩ = some (.int .i64 (c1 : Nat)) := cells_at H2.out.2.2.1 1
 have s3 : W0.cell? ⟨k, 2, none⟩ = some (.slice xa na ka) := cells_at H2.out.2.2.1 2
 have s4 : W0.cell? ⟨k, 3, none⟩ = some (.slice ya ma la) := cells_at H2.out.2.2.1 3
 have HW := Lib.hid hW0
 have Hwk := Lib.hid (show w.heap.size = k from hk)
 have hgk : ∀ g, (Value.slice ax C.length cx).ownBlock = some g → g ≠ k ∧ g ≠ q := fun g hg => ⟨by have := H1.out.2.2.2.2.2.2 g hg; omega, H1.out.2.2.2.2.1 g hg⟩
 have hqk : q ≠ k := by
  have h1 := lt_of_at H1.out.1
  rw [← hW1, World.size_alloc] at h1
  intro e
  have h2 := H1.out.1
  rw [← hW1, e, ← hk, heap_new] at h2
  have h3 := Option.some.inj h2
  injection h3 with _ h3 _
  exact absurd h3 (by decide)
 have HK := Lib.hid (And.intro hgk (And.intro hqk H1.out.2.2.2.2.2.1))
 clear kW hW0 hW1 hk hgk hqk H1 qA
 refine wp_region_last_n 8 (fun w' => w'.cell? ⟨q, 0, none⟩ = some (.slice ax C.length cx) ∧ w'.cell? ⟨k, 0, none⟩ = some (.int .i64 (c0 : Nat)) ∧ w'.cell? ⟨k, 1, none⟩ = some (.int .i64 (c1 : Nat)) ∧ w'.cell? ⟨k, 2, none⟩ = some (.slice xa na ka) ∧ w'.cell? ⟨k, 3, none⟩ = some (.slice ya ma la)) (by kernel_rfl) (by kernel_rfl) (by kernel_rfl) ?_
 rw [← HW.out]
 have hS : W0.cell? ⟨q, 0, none⟩ = some (.slice ax C.length cx) ∧ W0.cell? ⟨k, 0, none⟩ = some (.int .i64 (c0 : Nat)) ∧ W0.cell? ⟨k, 1, none⟩ = some (.int .i64 (c1 : Nat)) ∧ W0.cell? ⟨k, 2, none⟩ = some (.slice xa na ka) ∧ W0.cell? ⟨k, 3, none⟩ = some (.slice ya ma la) := ⟨s0, s1, s2, s3, s4⟩
 simp only [List.take_succ_cons, List.take_zero, List.toList_toArray]
 clear HW s0 s1 s2 s3 s4
 refine tk (v := ?_) 0 rfl ?_ ?_; rotate_left
 ·rintro _ ⟨s1, s2, s3, s4, s5⟩; go_simp; (try with_reducible rfl)
 simp only [Act.put, zz]
 refine tk (v := ?_) 1 rfl ?_ ?_; rotate_left
 ·rintro _ ⟨s1, s2, s3, s4, s5⟩; go_simp; (try with_reducible rfl)
 simp only [Act.put, zz]
 refine tk (v := ?_) 2 rfl ?_ ?_; rotate_left
 ·rintro _ ⟨s1, s2, s3, s4, s5⟩; go_simp; (try with_reducible rfl)
 simp only [Act.put, zz]
 refine tk (v := ?_) 3 rfl ?_ ?_; rotate_left
 ·rintro _ ⟨s1, s2, s3, s4, s5⟩; go_simp; (try with_reducible rfl)
 simp only [Act.put, zz]
 refine tk (v := ?_) 4 rfl ?_ ?_; rotate_left
 ·rintro _ ⟨s1, s2, s3, s4, s5⟩; go_simp; (try with_reducible rfl)
 simp only [Act.put, zz]
 refine rd 5 rfl fun K hK => ?_
 go_simp
 have kA : Keeps [] W0 (W0.alloc (.cells #[.int .i64 (c0 : Nat), .int .i64 (c1 : Nat), .slice xa na ka, .slice ya ma la] 81)) := (Keeps.refl [] W0).alloc _
 have H3 := Lib.hid (And.intro (heap_new W0 (.cells #[.int .i64 (c0 : Nat), .int .i64 (c1 : Nat), .slice xa na ka, .slice ya ma la] 81)) (And.intro (kA.at_ H2.out.1 (by simp)) (And.intro (go1 kA H2.out.2.1) (And.intro (kA.at_ H2.out.2.2.1 (by simp)) (H2.out.2.2.2.trans kA)))))
 clear kA H2
 generalize W0.heap.size = nb at H3 ⊢
 generalize W0.alloc (.cells #[.int .i64 (c0 : Nat), .int .i64 (c1 : Nat), .slice xa na ka, .slice ya ma la] 81) = A1 at H3 ⊢
 have t3 : A1.cell? ⟨q, 0, none⟩ = some (.slice ax C.length cx) ∧ A1.cell? ⟨k, 0, none⟩ = some (.int .i64 (c0 : Nat)) ∧ A1.cell? ⟨k, 1, none⟩ = some (.int .i64 (c1 : Nat)) ∧ A1.cell? ⟨k, 2, none⟩ = some (.slice xa na ka) ∧ A1.cell? ⟨k, 3, none⟩ = some (.slice ya ma la) := ⟨cells_at H3.out.2.1 0, cells_at H3.out.2.2.2.1 0, cells_at H3.out.2.2.2.1 1, cells_at H3.out.2.2.2.1 2, cells_at H3.out.2.2.2.1 3⟩
 go_simp
 refine hK.out _ _ t3 (fun hS => ?_)
 clear hK K
 try simp only [Act.put, zz]
 clear t3
 refine rd 6 rfl fun K hK => ?_
 refine step_appP rfl (.tmp 15) (.tmp 17) 79 rfl B 81 ic _ 4 64 Tryz.underlying79 hic hz0 hz1 hz2 rfl (by decide) (.slice ax C.length cx) C.length (C.flatMap encCur) rfl H3.out.2.2.1 ⟨nb, 0, none⟩ 1 1 [.int .i64 (c0 : Nat), .int .i64 (c1 : Nat), .slice xa na ka, .slice ya ma la] rfl rfl (news_four2 H3.out.1) (by simp [Value.oneCell']) (by simp only [maxLen]; omega) (by omega) (by have := HK.out.2.2; have := H3.out.2.2.2.2.size; omega) ?_
 intro v5 A3 hown5 hgrow5
 obtain ⟨ao5, cp5, rfl, -, -, -⟩ := row_slice hown5
 have k5 := keeps_row hgrow5
 have n5 := k5.at_ H3.out.2.2.2.1 (fun hm => (HK.out.1 k (by simpa using hm)).1 rfl)
 have q5 := k5.at_ H3.out.2.1 (fun hm => (HK.out.1 q (by simpa using hm)).2 rfl)
 have t5 : A3.cell? ⟨q, 0, none⟩ = some (.slice ax C.length cx) ∧ A3.cell? ⟨k, 0, none⟩ = some (.int .i64 (c0 : Nat)) ∧ A3.cell? ⟨k, 1, none⟩ = some (.int .i64 (c1 : Nat)) ∧ A3.cell? ⟨k, 2, none⟩ = some (.slice xa na ka) ∧ A3.cell? ⟨k, 3, none⟩ = some (.slice ya ma la) := ⟨cells_at q5 0, cells_at n5 0, cells_at n5 1, cells_at n5 2, cells_at n5 3⟩
 have H5 := Lib.hid (And.intro hown5 (And.intro q5 (show Keeps (q :: (Value.slice ax C.length cx).ownBlock.toList) w A3 from (H3.out.2.2.2.2.mono (by simp)).trans (k5.mono (fun x hx => List.mem_cons_of_mem _ hx)))))
 have T5 := Lib.hid t5
 clear hown5 hgrow5 k5 n5 q5 t5 H3
 refine hK.out _ _ T5.out (fun hS => ?_)
 clear hK K
 try simp only [Act.put, zz]
 refine tk (v := ?_) 7 rfl ?_ ?_; rotate_left
 ·rintro _ ⟨s1, s2, s3, s4, s5⟩; go_simp; (try with_reducible rfl)
 simp only [Act.put, zz]
 have cq : A3.cell? ⟨q, 0, none⟩ = some (.slice ax C.length cx) := T5.out.1
 have fq := free_at H5.out.2.1
 have lq := lt_of_at H5.out.2.1
 refine wpAnyH_done (by kernel_rfl) ?_ _
 refine lastQ_step rfl (fun K hK => ?_)
 go_simp
 refine hK _ _ ?_
 clear hK K
 have kq : Keeps [q] A3 (A3.setCell ⟨q, 0, none⟩ (.slice ao5 (C.length + 1) cp5)) := (Keeps.refl _ A3).setCell (.inl (by simp)) _
 have hqq := heap_setCell_same A3 q 0 _ _ (.slice ao5 (C.length + 1) cp5) H5.out.2.1
 have hrow2 : (A3.setCell ⟨q, 0, none⟩ (.slice ao5 (C.length + 1) cp5)).ownsRow B 81 4 (.slice ao5 (C.length + 1) cp5) (C ++ [((c0, c1, Value.slice xa na ka, Value.slice ya ma la) : CurV)]).length ((C ++ [((c0, c1, Value.slice xa na ka, Value.slice ya ma la) : CurV)]).flatMap encCur) := by
  rw [List.length_append, List.flatMap_append]
  refine kq.row H5.out.1 (fun g hg hm => ?_)
  obtain rfl : g = q := by simpa using hm
  exact row_ne_cells H5.out.1 H5.out.2.1 (by decide) g hg rfl
 have HE := Lib.hid (show QAt (A3.setCell ⟨q, 0, none⟩ (.slice ao5 (C.length + 1) cp5)) q B (.slice ao5 (C.length + 1) cp5) (C ++ [((c0, c1, Value.slice xa na ka, Value.slice ya ma la) : CurV)]) ∧ Keeps (q :: (Value.slice ax C.length cx).ownBlock.toList) w (A3.setCell ⟨q, 0, none⟩ (.slice ao5 (C.length + 1) cp5)) from ⟨⟨hqq, hrow2⟩, H5.out.2.2.trans (kq.mono (by simp))⟩)
 clear kq hqq hrow2 cq fq lq hS H5
 generalize A3.setCell ⟨q, 0, none⟩ (.slice ao5 (C.length + 1) cp5) = A4 at HE ⊢
 go_wp2_with fail
 refine bodyPost_end (results_none rfl _ _ _) rfl ?_
 exact ⟨rfl, _, HE.out⟩
theorem down2_spec (w : World) (q B : Nat) (v : Value) (a b : CurV) (h : QAt w q B v [a, b]) (ha : IsCur a) (hb : IsCur b) (P R : List PairB) (la : LabAt w a P) (lb : LabAt w b R) :
  Calls Tryz.prog 50 #[.iface 83 (.pointer (some ⟨q, 0, none⟩)), .int .i64 0, .int .i64 2] w fun e w' => e = .returned (.bool (lessB b a R P)) ∧ QAt w' q B v (if lessB b a R P then [b, a] else [a, b]) ∧ Keeps v.ownBlock.toList w w' := by
 have cq := cells_at h.q
 have lq := lt_of_at h.q
 have hl := fun n => mq_less n ⟨q, 0, none⟩ w v (mq_load w q _ (by rw [cq]; rfl))
 have Hless := Lib.hid (qless_spec w B v [a, b] h.row (by simp) 1 0 b a rfl rfl R P lb la)
 have H := Lib.hid (And.intro h (And.intro ha hb))
 obtain ⟨L, hL⟩ : ∃ L, L = lessB b a R P := ⟨_, rfl⟩
 rw [← hL] at Hless ⊢
 clear h ha hb la lb hL
 go_enter Tryz.func50, Tryz.ntmps50
 go_wp2_with fail
 go_loopg [7] 2 (fun (gk : Nat) (u7 : Value) (wr : World) => (gk = 2 ∧ u7 = .int .i64 0 ∧ wr = w) ∨ (gk = 1 ∧ u7 = .int .i64 1 ∧ L = true ∧ QAt wr q B v [b, a] ∧ Keeps v.ownBlock.toList w wr))
 case atStart => exact .inl ⟨rfl, rfl, rfl⟩
 case round =>
  rcases hrel with ⟨hgk, rfl, rfl⟩ | ⟨hgk, rfl, hLt, hQ2, hK2⟩
  ·go_wp2_with fail
   refine Hless.out.mono ?_
   rintro e w2 ⟨rfl, k2⟩
   have H2 := Lib.hid (And.intro (H.out.1.keep k2 (by simp) (by simp)) k2)
   clear cq lq hl k2
   cases L with
   | false =>
    go_wp2_with fail
    go_ret
    exact ⟨rfl, H2.out.1, H2.out.2.mono (by simp)⟩
   | true =>
    have cq := cells_at H2.out.1.q
    have lq := lt_of_at H2.out.1.q
    have hs := fun n => mq_swap n ⟨q, 0, none⟩ w2 v (mq_load w2 q _ (by rw [cq]; rfl))
    go_wp2_with fail
    refine (swap2_spec w2 B v a b H2.out.1.row H.out.2.1 H.out.2.2).mono ?_
    rintro e w3 ⟨rfl, hr3, k3⟩
    have hq3 := k3.at_ H2.out.1.q (fun hm => H2.out.1.ne q (by simpa using hm) rfl)
    have H3 := Lib.hid (And.intro (show QAt w3 q B v [b, a] from ⟨hq3, hr3⟩) ((H2.out.2.mono (S' := v.ownBlock.toList) (by simp)).trans k3))
    clear cq lq hs hr3 k3 hq3
    go_wp2_with fail
    go_roundg 1
    case measure => omega
    case rel => exact .inr ⟨rfl, rfl, trivial, H3.out⟩
  ·subst hLt
   have H3 := Lib.hid (And.intro hQ2 hK2)
   clear cq lq hl hQ2 hK2
   go_wp2_with fail
   go_ret
   exact ⟨rfl, H3.out.1, H3.out.2⟩
theorem down1_spec (w : World) (v : Value) (n : Nat) (hn : n ≤ 1) : Calls Tryz.prog 50 #[v, .int .i64 0, .int .i64 (n : Nat)] w fun e w' => e = .returned (.bool false) ∧ w' = w := by
 have h1 : (1 : Int) ≥ (n : Int) := by omega
 have h2 : (n : Int) ≤ 1 := by omega
 go_enter Tryz.func50, Tryz.ntmps50
 go_wp2_with fail
 go_loopg [7] 0 (fun (gk : Nat) (u7 : Value) (wr : World) => gk = 0 ∧ u7 = .int .i64 0 ∧ wr = w)
 case atStart => exact ⟨rfl, rfl, rfl⟩
 case round =>
  obtain ⟨hgk, rfl, rfl⟩ := hrel
  go_wp2_with fail
  go_ret
  exact ⟨rfl, rfl⟩
theorem up1_spec (w : World) (v : Value) : Calls Tryz.prog 59 #[v, .int .i64 0] w fun e w' => e = .returned (.tuple #[]) ∧ w' = w := by
 go_enter Tryz.func59, Tryz.ntmps59
 go_wp2_with fail
 go_loopg [1] 0 (fun (gk : Nat) (u1 : Value) (wr : World) => gk = 0 ∧ u1 = .int .i64 0 ∧ wr = w)
 case atStart => exact ⟨rfl, rfl, rfl⟩
 case round =>
  obtain ⟨hgk, rfl, rfl⟩ := hrel
  go_wp2_with fail
  refine bodyPost_end (results_none rfl _ _ _) rfl ?_
  exact ⟨rfl, rfl⟩
open Go Go.RowKit
theorem setCell_back2 {w : World} {g i : Nat} {v : Value} (h : w.cell? ⟨g, i, none⟩ = some v) : w.setCell ⟨g, i, none⟩ v = w := by
 have hx : w.heap.modify g (fun | .cells c elem frozen => .cells (if (none : Option Nat).isSome then c else c.setIfInBounds i v) elem frozen | o => o) = w.heap := by
  apply Array.ext
  ·simp
  ·intro j h1 h2
   rw [Array.getElem_modify]
   split
   ·rename_i e
    subst e
    have hh : w.heap[g]? = some w.heap[g] := Array.getElem?_eq_getElem h2
    generalize w.heap[g] = o at hh ⊢
    unfold World.cell? at h
    simp only [hh] at h
    cases o with
    | cells c t f =>
     have hc : c[i]? = some v := by simpa using h
     have : c.setIfInBounds i v = c := by
      apply Array.ext
      ·simp
      ·intro k k1 k2
       rw [Array.getElem_setIfInBounds]
       split
       ·rename_i e2
        subst e2
        obtain ⟨_, h5⟩ := Array.getElem?_eq_some_iff.1 hc
        exact h5.symm
       ·rfl
     simp [this]
    | _ => rfl
   ·rfl
 exact congrArg (fun H => ({ w with heap := H } : World)) hx
theorem swap1_spec (w : World) (B : Nat) (v : Value) (a : CurV) (h : w.ownsRow B 81 4 v 1 ([a].flatMap encCur)) (ha : IsCur a) :
  Calls Tryz.prog 211 #[v, .int .i64 0, .int .i64 0] w fun e w' => e = .returned (.tuple #[]) ∧ w' = w.drew := by
 obtain ⟨g, cp, rfl⟩ := row_some h (by decide)
 obtain ⟨d0, d1, d2, d3⟩ := cur_cells h 0 a rfl
 obtain ⟨a0, a1, a2, a3⟩ := a
 obtain ⟨⟨xa, na, ka, ea⟩, ⟨ya, ma, la, fa⟩⟩ := ha
 dsimp only at ea fa d0 d1 d2 d3
 subst ea fa
 simp only [Nat.zero_mul, Nat.zero_add] at d0 d1 d2 d3
 have hfr : ∀ i, w.frozen? ⟨g, i, none⟩ = false := by
  obtain ⟨-, ⟨e, -⟩ | ⟨g', cp', cur, e, hb, hg, -⟩⟩ := h
  ·cases e
  ·injection e with e1 _ _
   injection e1 with e1
   injection e1 with e1 _ _
   subst e1
   exact free_at hg
 have lg := World.block_lt_of_cell? w _ d0
 clear h
 go_enter Tryz.func211, Tryz.ntmps211
 go_region
 go_wp2_with fail
 refine bodyPost_end (results_none rfl _ _ _) rfl ?_
 rw [setCell_back2 d0, setCell_back2 d1, setCell_back2 d2, setCell_back2 d3, setCell_back2 d0, setCell_back2 d1, setCell_back2 d2, setCell_back2 d3]
 exact ⟨rfl, rfl⟩
theorem up2_spec (w : World) (q B : Nat) (v : Value) (a b : CurV) (h : QAt w q B v [a, b]) (ha : IsCur a) (hb : IsCur b) (P R : List PairB) (la : LabAt w a P) (lb : LabAt w b R) :
  Calls Tryz.prog 59 #[.iface 83 (.pointer (some ⟨q, 0, none⟩)), .int .i64 1] w fun e w' => e = .returned (.tuple #[]) ∧ QAt w' q B v (if lessB b a R P then [b, a] else [a, b]) ∧ Keeps v.ownBlock.toList w w' := by
 have cq := cells_at h.q
 have lq := lt_of_at h.q
 have hl := fun n => mq_less n ⟨q, 0, none⟩ w v (mq_load w q _ (by rw [cq]; rfl))
 have Hless := Lib.hid (qless_spec w B v [a, b] h.row (by simp) 1 0 b a rfl rfl R P lb la)
 have H := Lib.hid (And.intro h (And.intro ha hb))
 obtain ⟨L, hL⟩ : ∃ L, L = lessB b a R P := ⟨_, rfl⟩
 rw [← hL] at Hless ⊢
 clear h ha hb la lb hL
 go_enter Tryz.func59, Tryz.ntmps59
 go_wp2_with fail
 go_loopg [1] 2 (fun (gk : Nat) (u1 : Value) (wr : World) => (gk = 2 ∧ u1 = .int .i64 1 ∧ wr = w) ∨ (gk = 1 ∧ u1 = .int .i64 0 ∧ L = true ∧ QAt wr q B v [b, a] ∧ Keeps v.ownBlock.toList w wr))
 case atStart => exact .inl ⟨rfl, rfl, rfl⟩
 case round =>
  rcases hrel with ⟨hgk, rfl, rfl⟩ | ⟨hgk, rfl, hLt, hQ2, hK2⟩
  ·go_wp2_with fail
   refine Hless.out.mono ?_
   rintro e w2 ⟨rfl, k2⟩
   have H2 := Lib.hid (And.intro (H.out.1.keep k2 (by simp) (by simp)) k2)
   clear cq lq hl k2
   cases L with
   | false =>
    go_wp2_with fail
    refine bodyPost_end (results_none rfl _ _ _) rfl ?_
    exact ⟨rfl, H2.out.1, H2.out.2.mono (by simp)⟩
   | true =>
    have cq := cells_at H2.out.1.q
    have lq := lt_of_at H2.out.1.q
    have hs := fun n => mq_swap n ⟨q, 0, none⟩ w2 v (mq_load w2 q _ (by rw [cq]; rfl))
    go_wp2_with fail
    refine (swap2_spec w2 B v a b H2.out.1.row H.out.2.1 H.out.2.2).mono ?_
    rintro e w3 ⟨rfl, hr3, k3⟩
    have hq3 := k3.at_ H2.out.1.q (fun hm => H2.out.1.ne q (by simpa using hm) rfl)
    have H3 := Lib.hid (And.intro (show QAt w3 q B v [b, a] from ⟨hq3, hr3⟩) ((H2.out.2.mono (S' := v.ownBlock.toList) (by simp)).trans k3))
    clear cq lq hs hr3 k3 hq3
    go_wp2_with fail
    go_roundg 1
    case measure => omega
    case rel => exact .inr ⟨rfl, rfl, trivial, H3.out⟩
  ·subst hLt
   have H3 := Lib.hid (And.intro hQ2 hK2)
   clear cq lq hl hQ2 hK2
   go_wp2_with fail
   refine bodyPost_end (results_none rfl _ _ _) rfl ?_
   exact ⟨rfl, H3.out.1, H3.out.2⟩
theorem QAt.form {w : World} {q B : Nat} {v : Value} {C : List CurV} (h : QAt w q B v C) : ∃ a c, v = .slice a C.length c := by
 obtain ⟨a, c, e, -⟩ := row_slice h.row
 exact ⟨a, c, e⟩
theorem hinit1_spec (w : World) (q B : Nat) (v : Value) (C : List CurV) (h : QAt w q B v C) (hC : C.length ≤ 1) :
  Calls Tryz.prog 26 #[.iface 83 (.pointer (some ⟨q, 0, none⟩))] w fun e w' => e = .returned (.tuple #[]) ∧ w' = w := by
 obtain ⟨ax, cx, rfl⟩ := h.form
 have cq := cells_at h.q
 have lq := lt_of_at h.q
 have hm := fun n => mq_len n ⟨q, 0, none⟩ w _ (mq_load w q _ (by rw [cq]; rfl))
 rcases (show C.length = 0 ∨ C.length = 1 by omega) with h0 | h0
 all_goals
  rw [h0] at cq hm
  clear h hC h0
  go_enter Tryz.func26, Tryz.ntmps26
  go_wp2_with fail
  refine (qlen2_spec w _ _ _).mono ?_
  rintro e w2 ⟨rfl, rfl⟩
  go_wp2_with fail
  go_loopg [3] 0 (fun (gk : Nat) (u3 : Value) (wr : World) => gk = 0 ∧ u3 = .int .i64 (-1) ∧ wr = w2)
  case atStart => exact ⟨rfl, rfl, rfl⟩
  case round =>
   obtain ⟨hgk, rfl, rfl⟩ := hrel
   go_wp2_with fail
   refine bodyPost_end (results_none rfl _ _ _) rfl ?_
   exact ⟨rfl, rfl⟩
theorem hinit2_spec (w : World) (q B : Nat) (v : Value) (a b : CurV) (h : QAt w q B v [a, b]) (ha : IsCur a) (hb : IsCur b) (P R : List PairB) (la : LabAt w a P) (lb : LabAt w b R) :
  Calls Tryz.prog 26 #[.iface 83 (.pointer (some ⟨q, 0, none⟩))] w fun e w' => e = .returned (.tuple #[]) ∧ QAt w' q B v (if lessB b a R P then [b, a] else [a, b]) ∧ Keeps v.ownBlock.toList w w' := by
 have Hd := Lib.hid (down2_spec w q B v a b h ha hb P R la lb)
 obtain ⟨ax, cx, rfl⟩ := h.form
 have cq := cells_at h.q
 have lq := lt_of_at h.q
 have hm := fun n => mq_len n ⟨q, 0, none⟩ w _ (mq_load w q _ (by rw [cq]; rfl))
 obtain ⟨L, hL⟩ : ∃ L, L = lessB b a R P := ⟨_, rfl⟩
 rw [← hL] at Hd ⊢
 obtain ⟨C', hC'⟩ : ∃ C', C' = (if L = true then [b, a] else [a, b]) := ⟨_, rfl⟩
 rw [← hC'] at Hd ⊢
 rw [show ([a, b] : List CurV).length = 2 from rfl] at cq hm Hd ⊢
 clear h ha hb la lb hL hC'
 go_enter Tryz.func26, Tryz.ntmps26
 go_wp2_with fail
 refine (qlen2_spec w _ _ _).mono ?_
 rintro e w2 ⟨rfl, rfl⟩
 go_wp2_with fail
 go_loopg [3] 1 (fun (gk : Nat) (u3 : Value) (wr : World) => (gk = 1 ∧ u3 = .int .i64 0 ∧ wr = w2) ∨ (gk = 0 ∧ u3 = .int .i64 (-1) ∧ QAt wr q B (.slice ax 2 cx) C' ∧ Keeps (Value.slice ax 2 cx).ownBlock.toList w2 wr))
 case atStart => exact .inl ⟨rfl, rfl, rfl⟩
 case round =>
  rcases hrel with ⟨hgk, rfl, rfl⟩ | ⟨hgk, rfl, hQ, hK⟩
  ·go_wp2_with fail
   refine Hd.out.mono ?_
   rintro e w3 ⟨rfl, h3⟩
   have H3 := Lib.hid h3
   clear h3
   go_wp2_with fail
   go_roundg 0
   case measure => omega
   case rel => exact .inr ⟨rfl, by go_num, H3.out⟩
  ·have H3 := Lib.hid (And.intro hQ hK)
   clear hQ hK
   go_wp2_with fail
   refine bodyPost_end (results_none rfl _ _ _) rfl ?_
   exact ⟨rfl, H3.out⟩
def QFr (q : Nat) (w w' : World) : Prop := (∀ (x : Nat) (cs : Array Value) (T : TypeId) (z : Nat × Nat), T ≠ 81 → x ≠ q → w.heap[x]? = some (.cells cs T z) → w'.heap[x]? = some (.cells cs T z)) ∧ w.heap.size ≤ w'.heap.size
theorem QFr.trans {q : Nat} {a b c : World} (h : QFr q a b) (k : QFr q b c) : QFr q a c := ⟨fun x cs T z h1 h2 h3 => k.1 x cs T z h1 h2 (h.1 x cs T z h1 h2 h3), Nat.le_trans h.2 k.2⟩
theorem QFr.row {q B s n : Nat} {T : TypeId} {w w' : World} {v : Value} {xs : List Value} (h : QFr q w w') (hr : w.ownsRow B T s v n xs) (hT : T ≠ 81) (hq : ∀ g, v.ownBlock = some g → g ≠ q) : w'.ownsRow B T s v n xs := by
 obtain ⟨hl, ⟨rfl, h0⟩ | ⟨g, cp, cur, rfl, hb, hg, h1, h2, h3, h4⟩⟩ := hr
 ·exact ⟨hl, .inl ⟨rfl, h0⟩⟩
 ·exact ⟨hl, .inr ⟨g, cp, cur, rfl, hb, h.1 g cur T (0, 0) hT (hq g rfl) hg, h1, h2, h3, h4⟩⟩
theorem qfr_of {w w' : World} {q B : Nat} {v : Value} {C : List CurV} (h : QAt w q B v C) (k : Keeps (q :: v.ownBlock.toList) w w') : QFr q w w' := ⟨fun x cs T z hT hx hh => k.at_ hh (fun hm => by
 rcases List.mem_cons.1 hm with e | hm
 ·exact hx e
 ·obtain ⟨hl, ⟨rfl, h0⟩ | ⟨g, cp, cur, rfl, hb, hg, -⟩⟩ := h.row
  ·simp [Value.ownBlock] at hm
  ·obtain rfl : x = g := by simpa [Value.ownBlock] using hm
   rw [hh] at hg
   have := Option.some.inj hg
   injection this with _ e2 _
   exact hT e2), k.size⟩
theorem hpop1_spec (w : World) (q B : Nat) (v : Value) (a : CurV) (h : QAt w q B v [a]) (ha : IsCur a) :
  Calls Tryz.prog 29 #[.iface 83 (.pointer (some ⟨q, 0, none⟩))] w fun e w' => e = .returned (.iface 81 (aggCur a)) ∧ ∃ v', QAt w' q B v' [] ∧ Keeps (q :: v.ownBlock.toList) w w' := by
 obtain ⟨ax, cx, rfl⟩ := h.form
 rw [show ([a] : List CurV).length = 1 from rfl] at h ⊢
 have cq := cells_at h.q
 have lq := lt_of_at h.q
 have hm := fun n => mq_len n ⟨q, 0, none⟩ w _ (mq_load w q _ (by rw [cq]; rfl))
 have hs := fun n => mq_swap n ⟨q, 0, none⟩ w _ (mq_load w q _ (by rw [cq]; rfl))
 have hp := fun n w => mq_pop n ⟨q, 0, none⟩ w
 have H := Lib.hid (And.intro h ha)
 clear h ha
 go_enter Tryz.func29, Tryz.ntmps29
 go_wp2_with fail
 refine (qlen2_spec w _ 1 _).mono ?_
 rintro e w2 ⟨rfl, rfl⟩
 go_wp2_with fail
 refine (swap1_spec w2 B _ a H.out.1.row H.out.2).mono ?_
 rintro e w3 ⟨rfl, rfl⟩
 have kd : Keeps [] w2 w2.drew := (Keeps.refl [] w2).drew
 have H2 := Lib.hid (And.intro (H.out.1.keep kd (by simp) (by simp)) kd)
 clear kd
 go_wp2_with fail
 refine (down1_spec w2.drew _ 0 (by decide)).mono ?_
 rintro e w4 ⟨rfl, rfl⟩
 go_wp2_with fail
 refine (qpop2_spec w2.drew q B _ [] a H2.out.1 H.out.2 (by simp)).mono ?_
 rintro e w5 ⟨rfl, v5, h5, -, k5⟩
 have H5 := Lib.hid (And.intro h5 (show Keeps (q :: (Value.slice ax 1 cx).ownBlock.toList) w2 w5 from (H2.out.2.mono (by simp)).trans (k5.mono (by simp))))
 clear h5 k5
 go_wp2_with fail
 go_ret
 exact ⟨rfl, v5, H5.out⟩
theorem hpop2_spec (w : World) (q B : Nat) (v : Value) (a b : CurV) (h : QAt w q B v [a, b]) (ha : IsCur a) (hb : IsCur b) :
  Calls Tryz.prog 29 #[.iface 83 (.pointer (some ⟨q, 0, none⟩))] w fun e w' => e = .returned (.iface 81 (aggCur a)) ∧ ∃ v', QAt w' q B v' [b] ∧ Keeps (q :: v.ownBlock.toList) w w' := by
 obtain ⟨ax, cx, rfl⟩ := h.form
 rw [show ([a, b] : List CurV).length = 2 from rfl] at h ⊢
 have cq := cells_at h.q
 have lq := lt_of_at h.q
 have hm := fun n => mq_len n ⟨q, 0, none⟩ w _ (mq_load w q _ (by rw [cq]; rfl))
 have hs := fun n => mq_swap n ⟨q, 0, none⟩ w _ (mq_load w q _ (by rw [cq]; rfl))
 have hp := fun n w => mq_pop n ⟨q, 0, none⟩ w
 have H := Lib.hid (And.intro h (And.intro ha hb))
 clear h ha hb
 go_enter Tryz.func29, Tryz.ntmps29
 go_wp2_with fail
 refine (qlen2_spec w _ 2 _).mono ?_
 rintro e w2 ⟨rfl, rfl⟩
 go_wp2_with fail
 refine (swap2_spec w2 B _ a b H.out.1.row H.out.2.1 H.out.2.2).mono ?_
 rintro e w3 ⟨rfl, hr3, k3⟩
 have hq3 := k3.at_ H.out.1.q (fun hm => H.out.1.ne q (by simpa using hm) rfl)
 have H3 := Lib.hid (And.intro (show QAt w3 q B (.slice ax 2 cx) [b, a] from ⟨hq3, hr3⟩) k3)
 clear hr3 k3 hq3 cq lq hm hs
 go_wp2_with fail
 refine (down1_spec w3 _ 1 (by decide)).mono ?_
 rintro e w4 ⟨rfl, rfl⟩
 go_wp2_with fail
 refine (qpop2_spec w4 q B _ [b] a H3.out.1 H.out.2.1 (by simp)).mono ?_
 rintro e w5 ⟨rfl, v5, h5, -, k5⟩
 have H5 := Lib.hid (And.intro h5 (show Keeps (q :: (Value.slice ax 2 cx).ownBlock.toList) w2 w5 from (H3.out.2.mono (fun x hx => List.mem_cons_of_mem _ hx)).trans (k5.mono (by simp))))
 clear h5 k5
 go_wp2_with fail
 go_ret
 exact ⟨rfl, v5, H5.out⟩
theorem hpush0_spec (w : World) (q B : Nat) (v : Value) (c : CurV) (h : QAt w q B v []) (hc : IsCur c) (hB : B ≤ w.heap.size) :
  Calls Tryz.prog 32 #[.iface 83 (.pointer (some ⟨q, 0, none⟩)), .iface 81 (aggCur c)] w fun e w' => e = .returned (.tuple #[]) ∧ ∃ v', QAt w' q B v' [c] ∧ Keeps (q :: v.ownBlock.toList) w w' := by
 have hp := fun n w => mq_push n ⟨q, 0, none⟩ w
 have H := Lib.hid (qpush2_spec w q B v [] c h hc (by simp) hB)
 clear h hc hB
 go_enter Tryz.func32, Tryz.ntmps32
 go_wp2_with fail
 refine H.out.mono ?_
 rintro e w2 ⟨rfl, v2, h2, k2⟩
 obtain ⟨ax, cx, rfl⟩ := h2.form
 rw [List.nil_append] at h2
 rw [show ([c] : List CurV).length = 1 from rfl] at h2
 have cq := cells_at h2.q
 have lq := lt_of_at h2.q
 have hm := fun n => mq_len n ⟨q, 0, none⟩ w2 _ (mq_load w2 q _ (by rw [cq]; rfl))
 have H2 := Lib.hid (And.intro h2 k2)
 clear h2 k2 hp
 go_wp2_with fail
 refine (qlen2_spec w2 _ 1 _).mono ?_
 rintro e w3 ⟨rfl, rfl⟩
 go_wp2_with fail
 refine (up1_spec w3 _).mono ?_
 rintro e w4 ⟨rfl, rfl⟩
 go_wp2_with fail
 refine bodyPost_end (results_none rfl _ _ _) rfl ?_
 exact ⟨rfl, _, H2.out⟩
theorem hpush1_spec (w : World) (q B : Nat) (v : Value) (a c : CurV) (h : QAt w q B v [a]) (ha : IsCur a) (hc : IsCur c) (hB : B ≤ w.heap.size) (w0 : World) (k0 : Keeps [] w0 w) (hq0 : w0.heap.size ≤ q) (hB0 : w0.heap.size ≤ B) (P R : List PairB) (la : LabAt w0 a P) (lc : LabAt w0 c R) :
  Calls Tryz.prog 32 #[.iface 83 (.pointer (some ⟨q, 0, none⟩)), .iface 81 (aggCur c)] w fun e w' => e = .returned (.tuple #[]) ∧ ∃ v', QAt w' q B v' (if lessB c a R P then [c, a] else [a, c]) ∧ Keeps [] w0 w' ∧ QFr q w w' := by
 have hp := fun n w => mq_push n ⟨q, 0, none⟩ w
 obtain ⟨C', hC'⟩ : ∃ C', C' = (if lessB c a R P = true then [c, a] else [a, c]) := ⟨_, rfl⟩
 rw [← hC']
 have HC := Lib.hid hC'
 have HQ := Lib.hid h
 have H := Lib.hid (And.intro (qpush2_spec w q B v [a] c h hc (by simp) hB) (And.intro ha (And.intro hc (And.intro la (And.intro lc (And.intro k0 (And.intro hq0 (And.intro hB0 (fun g hg => (World.ownsRow.lt h.row g hg).1)))))))))
 clear h ha hc hB la lc k0 hq0 hB0 hC'
 go_enter Tryz.func32, Tryz.ntmps32
 go_wp2_with fail
 refine H.out.1.mono ?_
 rintro e w2 ⟨rfl, v2, h2, k2⟩
 have k02 : Keeps [] w0 w2 := H.out.2.2.2.2.2.1.after k2 (fun x hx => .inr (by
  rcases List.mem_cons.1 hx with rfl | hx
  ·exact H.out.2.2.2.2.2.2.1
  ·have h1 := H.out.2.2.2.2.2.2.2.2 x (by simpa using hx)
   have h2 := H.out.2.2.2.2.2.2.2.1
   omega))
 have Hu := Lib.hid (up2_spec w2 q B v2 a c h2 H.out.2.1 H.out.2.2.1 P R ⟨go1 k02 H.out.2.2.2.1.1, H.out.2.2.2.1.2⟩ ⟨go1 k02 H.out.2.2.2.2.1.1, H.out.2.2.2.2.1.2⟩)
 obtain ⟨ax, cx, rfl⟩ := h2.form
 rw [← HC.out] at Hu
 have hlt := fun g hg => (World.ownsRow.lt h2.row g hg)
 rw [show ([a] ++ [c] : List CurV).length = 2 from rfl] at h2 Hu hlt
 have cq := cells_at h2.q
 have lq := lt_of_at h2.q
 have hm := fun n => mq_len n ⟨q, 0, none⟩ w2 _ (mq_load w2 q _ (by rw [cq]; rfl))
 have H2 := Lib.hid (And.intro h2 (And.intro k2 (And.intro k02 hlt)))
 clear h2 k2 k02 hp hlt
 go_wp2_with fail
 refine (qlen2_spec w2 _ 2 _).mono ?_
 rintro e w3 ⟨rfl, rfl⟩
 go_wp2_with fail
 refine Hu.out.mono ?_
 rintro e w4 ⟨rfl, h4, k4⟩
 have H4 := Lib.hid (And.intro h4 (And.intro (H2.out.2.2.1.after k4 (fun x hx => .inr (by
  have h1 := (H2.out.2.2.2 x (by simpa using hx)).1
  have h2 := H.out.2.2.2.2.2.2.2.1
  omega))) k4))
 clear h4 k4 cq lq hm
 go_wp2_with fail
 refine bodyPost_end (results_none rfl _ _ _) rfl ?_
 exact ⟨rfl, _, H4.out.1, H4.out.2.1, (qfr_of HQ.out H2.out.2.1).trans (qfr_of H2.out.1 (H4.out.2.2.mono (fun x hx => List.mem_cons_of_mem _ hx)))⟩
end Go.Proofs.YtgcfkhcogllgfaaGreatDoor
