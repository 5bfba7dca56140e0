/-
  A change of a value's bits as bits, a sample more at a chunk (package xor): value, Append: which bits they are is told (BitLaw).
  The package's variable widths holds what its text says (XorVar).
-/
import Derived.Test.YtgcfkhcogllgfaaGreatDoorBitsS
namespace Go.Proofs.YtgcfkhcogllgfaaGreatDoor
set_option maxRecDepth 100000
set_option maxHeartbeats 2000000
set_option linter.unusedSimpArgs false
open Go Go.RowKit Go.Conc
def TailRel (w : World) (x : Nat) (gk : Nat) (u5 : Value) (wr : World) : Prop := ∃ t, t ≤ tailN x ∧ gk = tailN x - t ∧ u5 = .int .i64 (t : Nat) ∧ wr = w
def CondRel (w : World) (f : Bool) (c : Value) (wc : World) : Prop := c = .bool f ∧ Keeps [] w wc
def valHead (x l0 w0 : Nat) : List Bool := if fitsV x l0 w0 then [true, false] else [true, true] ++ bitsN (64 - widthN x) 6 ++ bitsN (widthN x - tailN x - 1) 6
theorem valHead_len (x l0 w0 : Nat) : (valHead x l0 w0).length ≤ 14 := by
 unfold valHead
 split
 ·decide
 ·simp only [List.length_append, bitsN_length, List.length_cons, List.length_nil]
  omega
theorem valBits_is {x l0 w0 : Nat} (hx0 : x ≠ 0) (hx : x < 18446744073709551616) : valBits x l0 w0 = valHead x l0 w0 ++ bitsN (x / 2 ^ (64 - valL x l0 w0 - valW x l0 w0)) (valW x l0 w0) := by
 have h64 := widthN_le (k := 64) (v := x) (by simpa using hx)
 have ht := tailN_lt hx0
 unfold valBits valHead valL valW
 rw [if_neg hx0, if_neg hx0, if_neg hx0]
 split
 ·rfl
 ·rw [show 64 - (64 - widthN x) - (widthN x - tailN x) = tailN x by omega]
def ValMid (w : World) (p : Nat) (B : List Bool) (x l0 w0 : Nat) (x2 x3 x4 x5 : Value) (wr : World) : Prop := RowAt wr p (B ++ valHead x l0 w0) x2 x3 x4 x5 (.int .i64 (valL x l0 w0 : Nat)) (.int .i64 (valW x l0 w0 : Nat)) ∧ Frm p w wr
theorem RowAt.set67 {w : World} {p : Nat} {B : List Bool} {x2 x3 x4 x5 x6 x7 : Value} (h : RowAt w p B x2 x3 x4 x5 x6 x7) (y6 y7 : Value) : RowAt ((w.setCell ⟨p, 6, none⟩ y6).setCell ⟨p, 7, none⟩ y7) p B x2 x3 x4 x5 y6 y7 := by
 obtain ⟨v, l, h1, h2, h3⟩ := h
 exact ⟨v, l, heap_cell_same (heap_cell_same h1 _) _, ownsRow_setCell_below (ownsRow_setCell_below h2 (by simp) _) (by simp) _, h3⟩
theorem RowAt.cells {w : World} {p : Nat} {B : List Bool} {x2 x3 x4 x5 x6 x7 : Value} (h : RowAt w p B x2 x3 x4 x5 x6 x7) : w.cell? ⟨p, 2, none⟩ = some x2 ∧ w.cell? ⟨p, 3, none⟩ = some x3 ∧ w.cell? ⟨p, 4, none⟩ = some x4 ∧ w.cell? ⟨p, 5, none⟩ = some x5 ∧ w.cell? ⟨p, 6, none⟩ = some x6 ∧ w.cell? ⟨p, 7, none⟩ = some x7 ∧ ∀ i, w.frozen? ⟨p, i, none⟩ = false := by
 obtain ⟨v, l, h1, -, -⟩ := h
 refine ⟨?_, ?_, ?_, ?_, ?_, ?_, free_at h1⟩ <;> rw [cells_at h1] <;> rfl
theorem value_spec (w : World) (p : Nat) (B : List Bool) (x l0 w0 : Nat) (x2 x3 x4 x5 : Value) (hn : B.length < 800000000) (hx : x < 18446744073709551616) (hlw : l0 + w0 ≤ 64) (h : RowAt w p B x2 x3 x4 x5 (.int .i64 l0) (.int .i64 w0)) :
  Calls Tryz.prog 163 #[.pointer (some ⟨p, 0, none⟩), .int .u64 x] w fun e w' => e = .returned (.tuple #[]) ∧ RowAt w' p (B ++ valBits x l0 w0) x2 x3 x4 x5 (.int .i64 (valL x l0 w0 : Nat)) (.int .i64 (valW x l0 w0 : Nat)) ∧ Frm p w w' := by
 have hw64 := widthN_le (k := 64) (v := x) (by simpa using hx)
 have Hw := Lib.hid (fun W => width_spec W x (by simpa using hx))
 have lp := h.lt
 by_cases hx0 : x = 0
 ·subst hx0
  rw [show ((0 : Nat) : Int) = 0 from rfl]
  have Hb := Lib.hid (bit_spec w p B x2 x3 x4 x5 _ _ false (by omega) h)
  clear h hw64 Hw
  go_enter Tryz.func163, Tryz.ntmps163
  go_wp2_with fail
  refine Hb.out.mono ?_
  rintro e w2 ⟨rfl, hr2, hB2⟩
  have H2 := Lib.hid (And.intro hr2 hB2)
  clear hr2 hB2
  go_wp2_with fail
  refine bodyPost_ret (results_none rfl _ _ _) rfl ?_
  exact ⟨rfl, H2.out.1, H2.out.2⟩
 ·have htl := tailN_lt hx0
  have hx0' : ¬ (x : Int) = 0 := by omega
  have hx0b : ((x : Int) != 0) = true := by rw [bne_iff_ne]; exact hx0'
  have Hh := Lib.hid h
  clear h
  go_enter Tryz.func163, Tryz.ntmps163
  go_wp2_with fail
  refine (bit_spec w p B x2 x3 x4 x5 _ _ true (by omega) Hh.out).mono ?_
  rintro e w2 ⟨rfl, hr2, hB2⟩
  have H2 := Lib.hid (And.intro hr2 hB2)
  clear hr2 hB2 Hh
  go_wp2_with fail
  refine (Hw.out _).mono ?_
  rintro e w3 ⟨rfl, rfl⟩
  have hsub : (64 : Int) - (widthN x : Int) = ((64 - widthN x : Nat) : Int) := by omega
  go_wp2_with fail
  go_loopg [5] (tailN x) (TailRel w2 x)
  case atStart => exact ⟨0, Nat.zero_le _, rfl, rfl, rfl⟩
  case round =>
   obtain ⟨t, ht, hgk, rfl, rfl⟩ := hrel
   have Hg := Lib.hid hgk
   clear hgk
   have hbit := tailN_bit hx0 t ht
   have hand := u64_and1 (x := x / 2 ^ t) (Nat.lt_of_le_of_lt (Nat.div_le_self _ _) hx)
   rw [hbit, show ((x / 2 ^ t : Nat) : Int) = (x : Int) / 2 ^ t by simp] at hand
   clear hbit
   by_cases hlt : t < tailN x
   ·rw [if_pos hlt] at hand
    have ht64 : t < 64 := by omega
    go_wp2_with fail
    go_roundg (tailN x - (t + 1))
    case measure => have := Hg.out; omega
    case rel => exact ⟨t + 1, hlt, rfl, by go_num, rfl⟩
   ·rw [if_neg hlt] at hand
    have ht64 : t < 64 := by omega
    go_upto_region 6 with fail
    have htt : t = tailN x := by omega
    obtain ⟨a, ha⟩ : ∃ a, a = 64 - widthN x := ⟨_, rfl⟩
    rw [← ha]
    have hat : a + t < 64 := by omega
    have HA := Lib.hid (And.intro ha htt)
    obtain ⟨c2, c3, c4, c5, c6, c7, fz⟩ := H2.out.1.cells
    have lp2 := H2.out.1.lt
    clear hand hlt ha htt htl
    go_cut [50] from 24 to 49 (CondRel wr (fitsV x l0 w0))
    case first =>
     have hways : decide (0 < w0) = false ∨ (decide (0 < w0) = true ∧ decide (l0 ≤ a) = false) ∨ (decide (0 < w0) = true ∧ decide (l0 ≤ a) = true ∧ decide (64 - (l0 : Int) - (w0 : Int) ≤ (t : Int)) = false) ∨ (decide (0 < w0) = true ∧ decide (l0 ≤ a) = true ∧ decide (64 - (l0 : Int) - (w0 : Int) ≤ (t : Int)) = true) := by
      simp only [decide_eq_true_eq, decide_eq_false_iff_not]
      omega
     have hr1 := IntWalk.i64_in (64 - (l0 : Int)) (by omega)
     have hr2 := IntWalk.i64_in (64 - (l0 : Int) - (w0 : Int)) (by omega)
     have hfv : fitsV x l0 w0 = (decide (0 < w0) && (decide (l0 ≤ a) && decide (64 - (l0 : Int) - (w0 : Int) ≤ (t : Int)))) := by
      unfold fitsV
      rw [← HA.out.1, ← HA.out.2]
      congr 2
      rw [decide_eq_decide]
      omega
     have hHf : ∃ f : Bool, fitsV x l0 w0 = f ∧ ((decide (0 < w0) = false ∧ f = false) ∨ (decide (0 < w0) = true ∧ decide (l0 ≤ a) = false ∧ f = false) ∨ (decide (0 < w0) = true ∧ decide (l0 ≤ a) = true ∧ decide (64 - (l0 : Int) - (w0 : Int) ≤ (t : Int)) = false ∧ f = false) ∨ (decide (0 < w0) = true ∧ decide (l0 ≤ a) = true ∧ decide (64 - (l0 : Int) - (w0 : Int) ≤ (t : Int)) = true ∧ f = true)) := by
      refine ⟨_, rfl, ?_⟩
      rw [hfv]
      rcases hways with h1 | ⟨h1, h2⟩ | ⟨h1, h2, h3⟩ | ⟨h1, h2, h3⟩
      ·exact .inl ⟨h1, by rw [h1]; rfl⟩
      ·exact .inr (.inl ⟨h1, h2, by rw [h1, h2]; rfl⟩)
      ·exact .inr (.inr (.inl ⟨h1, h2, h3, by rw [h1, h2, h3]; rfl⟩))
      ·exact .inr (.inr (.inr ⟨h1, h2, h3, by rw [h1, h2, h3]; rfl⟩))
     obtain ⟨f, hf, hc⟩ := hHf
     have Hfit := Lib.hid hf
     clear hf hways hfv
     rcases hc with ⟨h1, rfl⟩ | ⟨h1, h2, rfl⟩ | ⟨h1, h2, h3, rfl⟩ | ⟨h1, h2, h3, rfl⟩
     all_goals
      go_quiet (fail)
      go_wp2_with fail
      go_meet
      case rel => exact ⟨by rw [Hfit.out], (Keeps.refl [] _).drewN _⟩
    case rest =>
     obtain ⟨rfl, hk⟩ := hcut
     obtain ⟨b, hb⟩ : ∃ b, b = fitsV x l0 w0 := ⟨_, rfl⟩
     rw [← hb]
     have Hb := Lib.hid hb
     have H3 := Lib.hid (And.intro (H2.out.1.keep hk) (Frm.trans H2.out.2 (keeps_frm hk (Nat.le_of_lt lp2))))
     have lp3 := hk.lt lp2
     clear hb hk c2 c3 c4 c5 c6 c7 fz lp2 H2
     have Hs := Lib.hid (show (64 : Int) - (a : Int) - (t : Int) = ((64 - a - t : Nat) : Int) by omega)
     have hr1 := IntWalk.i64_in (64 - (a : Int)) (by omega)
     have hr2 := IntWalk.i64_in (64 - (a : Int) - (t : Int)) (by omega)
     have hB1 : (B ++ [true]).length < 800000001 := by rw [List.length_append]; show B.length + 1 < _; omega
     have hB2l : ∀ b : Bool, (B ++ [true] ++ [b]).length < 800000002 := fun b => by rw [List.length_append]; show (B ++ [true]).length + 1 < _; omega
     have HBl := Lib.hid (And.intro hB1 hB2l)
     clear hB1 hB2l
     go_upto_if 50 with fail
     go_cut [] from 24 to 85 (ValMid w p B x l0 w0 x2 x3 x4 x5)
     case first =>
      cases b
      ·go_wp2_with fail
       refine (bit_spec wc p (B ++ [true]) x2 x3 x4 x5 _ _ true (by have := HBl.out.1; omega) H3.out.1).mono ?_
       rintro e w4 ⟨rfl, hr4, hB4⟩
       obtain ⟨c2, c3, c4, c5, c6, c7, fz⟩ := hr4.cells
       have lp4 := hr4.lt
       have H4 := Lib.hid (And.intro hr4 (H3.out.2.trans hB4))
       clear hr4 hB4
       go_upto_region 10 with fail
       rw [Hs.out]
       have hr5 := H4.out.1.set67 (.int .i64 (a : Nat)) (.int .i64 ((64 - a - t : Nat) : Int))
       have hB5 := (H4.out.2.setCell (i := 6) (.int .i64 (a : Nat))).setCell (i := 7) (.int .i64 ((64 - a - t : Nat) : Int))
       generalize (w4.setCell ⟨p, 6, none⟩ (.int .i64 (a : Nat))).setCell ⟨p, 7, none⟩ (.int .i64 ((64 - a - t : Nat) : Int)) = w5 at hr5 hB5 ⊢
       have hx7 : ∃ q, q = 64 - a - t := ⟨_, rfl⟩
       obtain ⟨q, hq⟩ := hx7
       rw [← hq] at hr5
       have H5 := Lib.hid (And.intro hr5 (And.intro hB5 hq))
       have lp5 := hr5.lt
       clear hr5 hB5 hq c2 c3 c4 c5 c6 c7 fz lp4 hr1 hr2
       go_wp2_with fail
       refine (bits_spec w5 p (B ++ [true] ++ [true]) a 6 x2 x3 x4 x5 _ _ (by omega) (by have := HBl.out.2 true; omega) (by decide) H5.out.1).mono ?_
       rintro e w6 ⟨rfl, hr6, hB6⟩
       obtain ⟨c2, c3, c4, c5, c6, c7, fz⟩ := hr6.cells
       have lp6 := hr6.lt
       have H6 := Lib.hid (And.intro hr6 (H5.out.2.1.trans hB6))
       have hq1 : (1 : Int) ≤ (q : Int) := by have := H5.out.2.2; omega
       have hq2 : (q : Int) ≤ 64 := by have := H5.out.2.2; omega
       obtain ⟨q1, hqq⟩ : ∃ q1 : Nat, (q : Int) - 1 = (q1 : Int) := ⟨q - 1, by omega⟩
       have hq64 : q1 < 18446744073709551616 := Nat.lt_of_le_of_lt (m := 64) (by omega) (by decide)
       have Hqq := Lib.hid hqq
       have Hq64 := Lib.hid hq64
       clear hq64
       clear hr6 hB6 lp5 hqq
       go_upto_region 11 with fail
       go_still_tail 9, (by kernel_rfl)
       repeat still_step
       change wpList _ _ _ _ _ w6.drew
       rw [Hqq.out]
       have hwq : IntKind.u64.wrap (q1 : Int) = (q1 : Int) := IntWalk.u64_in _ (by have := Hqq.out; omega)
       have hwr : wrap64 (q1 : Int) = (q1 : Int) := IntWalk.wrap64_in _ (by have := Hqq.out; omega)
       go_wp2_with fail
       rw [hwr, hwq]
       clear hwr hwq
       refine (bits_spec w6.drew p (B ++ [true] ++ [true] ++ bitsN a 6) q1 6 x2 x3 x4 x5 _ _ Hq64.out (by rw [List.length_append, bitsN_length]; have := HBl.out.2 true; omega) (by decide) (H6.out.1.keep (Keeps.refl [] _).drew)).mono ?_
       rintro e w7 ⟨rfl, hr7, hB7⟩
       have H7 := Lib.hid (And.intro hr7 (Frm.trans H6.out.2 (Frm.trans ((Frm.refl _ _).drew) hB7)))
       clear hr7 hB7 c2 c3 c4 c5 c6 c7 fz lp6
       go_wp2_with fail
       go_meet
       case rel =>
        have hq := H5.out.2.2
        have hqq := Hqq.out
        have ha := HA.out.1
        have ht := HA.out.2
        have hf := Hb.out
        have htl := tailN_lt hx0
        have e1 : q = widthN x - tailN x := by omega
        have e2 : q1 = widthN x - tailN x - 1 := by omega
        refine ⟨?_, H7.out.2⟩
        unfold valHead valL valW
        rw [← hf, if_neg (by decide), if_neg hx0, if_neg hx0, if_neg (by decide), if_neg (by decide), ← e2, ← e1, ← ha]
        have hr := H7.out.1
        simp only [List.append_assoc] at hr ⊢
        exact hr
      ·go_wp2_with fail
       refine (bit_spec wc p (B ++ [true]) x2 x3 x4 x5 _ _ false (by have := HBl.out.1; omega) H3.out.1).mono ?_
       rintro e w4 ⟨rfl, hr4, hB4⟩
       have H4 := Lib.hid (And.intro hr4 (H3.out.2.trans hB4))
       clear hr4 hB4
       go_wp2_with fail
       go_meet
       case rel =>
        have hf := Hb.out
        refine ⟨?_, H4.out.2⟩
        unfold valHead valL valW
        rw [← hf, if_pos rfl, if_neg hx0, if_neg hx0, if_pos rfl, if_pos rfl]
        have hr := H4.out.1
        simp only [List.append_assoc] at hr ⊢
        exact hr
     case rest =>
      obtain ⟨hr, hB⟩ := hcut
      have hlw1 := valLW hx hlw
      have hvb := valBits_is (l0 := l0) (w0 := w0) hx0 hx
      have hvl := valHead_len x l0 w0
      obtain ⟨l1, hl1⟩ : ∃ l1, l1 = valL x l0 w0 := ⟨_, rfl⟩
      obtain ⟨w1, hw1⟩ : ∃ w1, w1 = valW x l0 w0 := ⟨_, rfl⟩
      rw [← hl1, ← hw1] at hr hlw1 hvb
      obtain ⟨c2, c3, c4, c5, c6, c7, fz⟩ := hr.cells
      have lp6 := hr.lt
      have hlen : (B ++ valHead x l0 w0).length < 900000000 := by rw [List.length_append]; omega
      have H6 := Lib.hid (And.intro hr (And.intro hB (And.intro hl1 (And.intro hw1 (And.intro hvb hlen)))))
      have hr3 := IntWalk.i64_in (64 - (l1 : Int)) (by omega)
      have hr4 := IntWalk.i64_in (64 - (l1 : Int) - (w1 : Int)) (by omega)
      have h0 : (0 : Int) ≤ 64 - (l1 : Int) - (w1 : Int) := by omega
      clear hr hB hr1 hr2 H3 lp3 hl1 hw1 hvb hvl hlen
      go_upto_region 12 with fail
      go_still_tail 19, (by kernel_rfl)
      repeat still_step
      change wpList _ _ _ _ _ wc.drew
      go_wp2_with fail
      rw [show (x : Int) / 2 ^ (64 - l1 - w1) = ((x / 2 ^ (64 - l1 - w1) : Nat) : Int) by simp]
      refine (bits_spec _ p (B ++ valHead x l0 w0) (x / 2 ^ (64 - l1 - w1)) w1 x2 x3 x4 x5 _ _ (Nat.lt_of_le_of_lt (Nat.div_le_self _ _) hx) (by have := H6.out.2.2.2.2.2; omega) (by omega) (H6.out.1.keep (Keeps.refl [] _).drew)).mono ?_
      rintro e w7 ⟨rfl, hr7, hB7⟩
      have H7 := Lib.hid (And.intro hr7 (Frm.trans H6.out.2.1 (Frm.trans ((Frm.refl _ _).drew) hB7)))
      clear hr7 hB7
      go_wp2_with fail
      refine bodyPost_end (results_none rfl _ _ _) rfl ?_
      refine ⟨rfl, ?_, H7.out.2⟩
      rw [H6.out.2.2.2.2.1, ← H6.out.2.2.1, ← H6.out.2.2.2.1, ← List.append_assoc]
      exact H7.out.1
section
variable {w : World} {p : Nat} {B : List Bool} {x2 x3 x4 x5 x6 x7 : Value}
theorem RowAt.set2 (h : RowAt w p B x2 x3 x4 x5 x6 x7) (y : Value) : RowAt (w.setCell ⟨p, 2, none⟩ y) p B y x3 x4 x5 x6 x7 := by
 obtain ⟨v, l, h1, h2, h3⟩ := h
 exact ⟨v, l, heap_cell_same h1 _, ownsRow_setCell_below h2 (by simp) _, h3⟩
theorem RowAt.set5 (h : RowAt w p B x2 x3 x4 x5 x6 x7) (y : Value) : RowAt (w.setCell ⟨p, 5, none⟩ y) p B x2 x3 x4 y x6 x7 := by
 obtain ⟨v, l, h1, h2, h3⟩ := h
 exact ⟨v, l, heap_cell_same h1 _, ownsRow_setCell_below h2 (by simp) _, h3⟩
theorem RowAt.set34 (h : RowAt w p B x2 x3 x4 x5 x6 x7) (y z : Value) : RowAt ((w.setCell ⟨p, 3, none⟩ y).setCell ⟨p, 4, none⟩ z) p B x2 y z x5 x6 x7 := by
 obtain ⟨v, l, h1, h2, h3⟩ := h
 exact ⟨v, l, heap_cell_same (heap_cell_same h1 _) _, ownsRow_setCell_below (ownsRow_setCell_below h2 (by simp) _) (by simp) _, h3⟩
end
def ChunkAt (w : World) (p : Nat) (s : XS) : Prop := s.l + s.w ≤ 64 ∧ RowAt w p s.B (.int .i64 (s.n : Nat)) (.int .i64 s.T) (.int .u64 (s.V : Nat)) (.int .i64 s.st) (.int .i64 (s.l : Nat)) (.int .i64 (s.w : Nat))
theorem append0_spec (w : World) (p : Nat) (s : XS) (t : Int) (y : Nat) (hs0 : s.n = 0) (hn : s.B.length < 800000000) (ht : 0 ≤ t ∧ t ≤ 1099511627776) (hy : y < 18446744073709551616) (h : ChunkAt w p s) :
  Calls Tryz.prog 127 #[.pointer (some ⟨p, 0, none⟩), .agg #[.int .i64 t, .int .u64 y]] w fun e w' => e = .returned (.int .i64 0) ∧ ChunkAt w' p (smpNext s t y) ∧ Frm p w w' := by
 obtain ⟨B, n, T, V, st, l0, w0⟩ := s
 obtain ⟨hlw, h⟩ := h
 dsimp only at hs0 hn hlw h
 subst hs0
 obtain ⟨tn, rfl⟩ : ∃ tn : Nat, t = (tn : Int) := ⟨t.toNat, by omega⟩
 have htn : tn < 18446744073709551616 := by omega
 obtain ⟨t, hte⟩ : ∃ t : Int, t = (tn : Int) := ⟨_, rfl⟩
 rw [← hte] at ht ⊢
 have HTE := Lib.hid hte
 clear hte
 have k0 : Keeps [] w (w.alloc (.cells #[.int .i64 t, .int .u64 y] 50)) := (Keeps.refl [] w).alloc _
 have n0 := heap_new w (.cells #[.int .i64 t, .int .u64 y] 50)
 have lp := h.lt
 obtain ⟨q, hq⟩ : ∃ q, q = w.heap.size := ⟨_, rfl⟩
 have hqp : p < q := by omega
 have H0 := Lib.hid (And.intro (h.keep k0) (And.intro (keeps_frm k0 h.pos) hlw))
 obtain ⟨c2, c3, c4, c5, c6, c7, fz⟩ := (h.keep k0).cells
 have hg1 : ¬ t < 0 := by omega
 have hg2 : ¬ t > 1099511627776 := by omega
 clear h ht hlw k0
 rw [← hq] at n0
 have HQ := Lib.hid hq
 have hwt : IntKind.u64.wrap t = t := IntWalk.u64_in _ (by have := HTE.out; omega)
 go_enter Tryz.func127, Tryz.ntmps127
 go_upto_region 1 with fail
 rw [← hq]
 clear hq
 generalize w.alloc (.cells #[.int .i64 t, .int .u64 y] 50) = W0 at n0 H0 c2 c3 c4 c5 c6 c7 fz ⊢
 have lpW : p < W0.heap.size := H0.out.1.lt
 have cq := cells_at n0
 have lq := lt_of_at n0
 have c2 : W0.cell? ⟨p, 2, none⟩ = some (.int .i64 0) := c2
 go_upto_region 3 with fail
 go_quiet (fail)
 obtain ⟨W1, hW1⟩ : ∃ W1, W1 = W0.drewN nq := ⟨_, rfl⟩
 rw [← hW1]
 have k1 : Keeps [] W0 W1 := by rw [hW1]; exact (Keeps.refl [] _).drewN _
 have n1 := k1.at_ n0 (by simp)
 have H1 := Lib.hid (And.intro (H0.out.1.keep k1) (Frm.trans H0.out.2.1 (keeps_frm k1 (Nat.le_of_lt lpW))))
 obtain ⟨d2, d3, d4, d5, d6, d7, fd⟩ := (H0.out.1.keep k1).cells
 have d2 : W1.cell? ⟨p, 2, none⟩ = some (.int .i64 0) := d2
 have dq := cells_at n1
 have lq1 := lt_of_at n1
 have lp1 := H1.out.1.lt
 clear c2 c3 c4 c5 c6 c7 fz cq lq lpW n0 hW1 k1
 go_upto_region 8 with fail
 go_still_tail 6, (by kernel_rfl)
 repeat still_step
 change wpList _ _ _ _ _ W1.drew
 go_wp2_with fail
 rw [HTE.out]
 refine (bits_spec W1.drew p B tn 41 _ _ _ _ _ _ htn (by omega) (by decide) (H1.out.1.keep (Keeps.refl [] _).drew)).mono ?_
 rintro e W2 ⟨rfl, hr2, hB2⟩
 have n2 := hB2.typ q _ _ _ (by omega) n1 (by decide)
 have H2 := Lib.hid (And.intro hr2 (H1.out.2.trans (Frm.trans ((Frm.refl _ _).drew) hB2)))
 have dq := cells_at n2
 have lq2 := lt_of_at n2
 have lp2 := hr2.lt
 clear hr2 hB2 d2 d3 d4 d5 d6 d7 fd lq1 lp1 n1
 go_upto_region 9 with fail
 go_still_tail 5, (by kernel_rfl)
 repeat still_step
 change wpList _ _ _ _ _ W2.drew
 go_wp2_with fail
 refine (bits_spec W2.drew p (B ++ bitsN tn 41) y 64 _ _ _ _ _ _ hy (by rw [List.length_append, bitsN_length]; omega) (by decide) (H2.out.1.keep (Keeps.refl [] _).drew)).mono ?_
 rintro e W3 ⟨rfl, hr3, hB3⟩
 have n3 := hB3.typ q _ _ _ (by omega) n2 (by decide)
 have H3 := Lib.hid (And.intro hr3 (H2.out.2.trans (Frm.trans ((Frm.refl _ _).drew) hB3)))
 obtain ⟨d2, d3, d4, d5, d6, d7, fd⟩ := hr3.cells
 have d2 : W3.cell? ⟨p, 2, none⟩ = some (.int .i64 0) := d2
 have dq := cells_at n3
 have lq2 := lt_of_at n3
 have lp3 := hr3.lt
 clear hr3 hB3 lp2 n2 n3
 go_wp2_with fail
 go_ret
 have hfin := (H3.out.1.set34 (.int .i64 t) (.int .u64 y)).set2 (.int .i64 1)
 refine ⟨rfl, ⟨?_, ?_⟩, ((H3.out.2.setCell (i := 3) _).setCell (i := 4) _).setCell (i := 2) _⟩
 ·unfold smpNext
  rw [if_pos rfl]
  exact H0.out.2.2
 ·unfold smpNext smpBits
  rw [if_pos rfl, if_pos rfl]
  rw [List.append_assoc] at hfin
  dsimp only
  rw [show t.toNat = tn by have := HTE.out; omega]
  exact hfin
theorem append1_spec (w : World) (hX : XorVar w) (p : Nat) (s : XS) (t : Int) (y : Nat) (hxp : 4 < p) (hn : s.B.length < 700000000) (hN : 0 < s.n) (hN2 : s.n < 120) (ht : 0 ≤ s.T ∧ s.T < t ∧ t ≤ 1099511627776) (hst0 : 0 ≤ s.st ∧ s.st ≤ 1099511627776) (hy : y < 18446744073709551616) (hV : s.V < 18446744073709551616) (h : ChunkAt w p s) :
  Calls Tryz.prog 127 #[.pointer (some ⟨p, 0, none⟩), .agg #[.int .i64 t, .int .u64 y]] w fun e w' => e = .returned (.int .i64 0) ∧ ChunkAt w' p (smpNext s t y) ∧ Frm p w w' := by
 obtain ⟨B, N, T, V, st, l0, w0⟩ := s
 obtain ⟨hlw, h⟩ := h
 dsimp only at hN hN2 hn hlw ht hst0 hV h
 have k0 : Keeps [] w (w.alloc (.cells #[.int .i64 t, .int .u64 y] 50)) := (Keeps.refl [] w).alloc _
 have n0 := heap_new w (.cells #[.int .i64 t, .int .u64 y] 50)
 have lp := h.lt
 obtain ⟨q, hq⟩ : ∃ q, q = w.heap.size := ⟨_, rfl⟩
 have hqp : p < q := by omega
 have H0 := Lib.hid (And.intro (h.keep k0) (And.intro (keeps_frm k0 h.pos) (And.intro hlw (hX.same k0))))
 obtain ⟨c2, c3, c4, c5, c6, c7, fz⟩ := (h.keep k0).cells
 have hg1 : ¬ t < 0 := by omega
 have hg2 : ¬ t > 1099511627776 := by omega
 have hz1 : decide (0 < N) = true := by simpa using hN
 have hz2 : decide (t ≤ T) = false := by simp; omega
 have hN0 : ¬ (N : Int) = 0 := by omega
 have hN3 : ¬ (N : Int) = 120 := by omega
 have hst := IntWalk.i64_in (t - T) (by omega)
 have hst2 := IntWalk.i64_in (t - T - st) (by omega)
 have Hst0 := Lib.hid hst0
 clear hst0
 have HT := Lib.hid ht
 have HN := Lib.hid hN
 clear h hlw k0 ht hX
 rw [← hq] at n0
 have HQ := Lib.hid hq
 go_enter Tryz.func127, Tryz.ntmps127
 go_upto_region 1 with fail
 rw [← hq]
 clear hq
 generalize w.alloc (.cells #[.int .i64 t, .int .u64 y] 50) = W0 at n0 H0 c2 c3 c4 c5 c6 c7 fz ⊢
 have lpW : p < W0.heap.size := H0.out.1.lt
 have cq := cells_at n0
 have lq := lt_of_at n0
 go_upto_region 3 with fail
 go_quiet (fail)
 obtain ⟨W1, hW1⟩ : ∃ W1, W1 = W0.drewN nq := ⟨_, rfl⟩
 rw [← hW1]
 have k1 : Keeps [] W0 W1 := by rw [hW1]; exact (Keeps.refl [] _).drewN _
 have n1 := k1.at_ n0 (by simp)
 have H1 := Lib.hid (And.intro (H0.out.1.keep k1) (And.intro (Frm.trans H0.out.2.1 (keeps_frm k1 (Nat.le_of_lt lpW))) (H0.out.2.2.2.same k1)))
 obtain ⟨d2, d3, d4, d5, d6, d7, fd⟩ := (H0.out.1.keep k1).cells
 have dq := cells_at n1
 have lq1 := lt_of_at n1
 have lp1 := H1.out.1.lt
 clear c2 c3 c4 c5 c6 c7 fz cq lq lpW n0 hW1 k1
 go_upto_region 10 with fail
 go_quiet (fail)
 obtain ⟨W2, hW2⟩ : ∃ W2, W2 = W1.drewN nq := ⟨_, rfl⟩
 rw [← hW2]
 have k2 : Keeps [] W1 W2 := by rw [hW2]; exact (Keeps.refl [] _).drewN _
 have n2 := k2.at_ n1 (by simp)
 have H2 := Lib.hid (And.intro (H1.out.1.keep k2) (And.intro (Frm.trans H1.out.2.1 (keeps_frm k2 (Nat.le_of_lt lp1))) (H1.out.2.2.same k2)))
 clear d2 d3 d4 d5 d6 d7 fd dq lq1 hW2
 obtain ⟨d2, d3, d4, d5, d6, d7, fd⟩ := (H1.out.1.keep k2).cells
 have lp2 := k2.lt lp1
 clear lp1 n1 k2 H1 hz1 hz2 hN0 hN3 hst hg1 hg2
 go_wp2_with fail
 refine (zig_spec W2 (t - T - st) (by have := Hst0.out; have := HT.out; omega)).mono ?_
 rintro e w3 ⟨rfl, rfl⟩
 have hu : zigN (t - T - st) < 18446744073709551616 := Nat.lt_trans (zigN_lt (by have := Hst0.out; have := HT.out; omega)) (by decide)
 obtain ⟨u, hue⟩ : ∃ u, u = zigN (t - T - st) := ⟨_, rfl⟩
 rw [← hue] at hu ⊢
 have HU := Lib.hid hue
 clear hue
 go_wp2_with fail
 refine (time_spec W2 H2.out.2.2 p B u _ _ _ _ _ _ hxp (by omega) hu H2.out.1).mono ?_
 rintro e W3 ⟨rfl, hr3, hB3⟩
 have n3 := hB3.typ q _ _ _ (by omega) n2 (by decide)
 have H3 := Lib.hid (And.intro (hr3.set5 (.int .i64 (t - T))) ((H2.out.2.1.trans hB3).setCell (i := 5) (.int .i64 (t - T))))
 have lp3 := hr3.lt
 have f3 := hr3.cells.2.2.2.2.2.2
 have e5 := hr3.cells.2.2.2.1
 clear hr3 hB3 d2 d3 d4 d5 d6 d7 fd
 go_upto_region 13 with fail
 have n4 : (W3.setCell ⟨p, 5, none⟩ (.int .i64 (t - T))).heap[q]? = some (.cells #[.int .i64 t, .int .u64 y] 50 (0, 0)) := (heap_cell_other (w := W3) (p := ⟨p, 5, none⟩) _ (by show q ≠ p; omega)).trans n3
 generalize W3.setCell ⟨p, 5, none⟩ (.int .i64 (t - T)) = W4 at n4 H3 ⊢
 obtain ⟨d2, d3, d4, d5, d6, d7, fd⟩ := H3.out.1.cells
 have dq := cells_at n4
 have lq4 := lt_of_at n4
 have lp4 := H3.out.1.lt
 have hx := bits_xor_u64_nat y V hy hV
 have hxl : y ^^^ V < 18446744073709551616 := Nat.xor_lt_two_pow (n := 64) hy hV
 obtain ⟨xv, hxv⟩ : ∃ xv, xv = y ^^^ V := ⟨_, rfl⟩
 rw [← hxv] at hx hxl
 have HXV := Lib.hid hxv
 clear hxv lp3 f3 e5 lp2 n2 n3
 go_still_tail 9, (by kernel_rfl)
 repeat still_step
 change wpList _ _ _ _ _ W4.drew
 go_wp2_with fail
 refine (value_spec W4.drew p (B ++ timeB u) xv l0 w0 _ _ _ _ (by rw [List.length_append]; have := timeB_len u; omega) hxl H0.out.2.2.1 (H3.out.1.keep (Keeps.refl [] _).drew)).mono ?_
 rintro e W5 ⟨rfl, hr5, hB5⟩
 have n5 := hB5.typ q _ _ _ (by omega) n4 (by decide)
 have H5 := Lib.hid (And.intro hr5 (H3.out.2.trans (Frm.trans ((Frm.refl _ _).drew) hB5)))
 clear d2 d3 d4 d5 d6 d7 fd dq lq4 hx lp4
 obtain ⟨d2, d3, d4, d5, d6, d7, fd⟩ := hr5.cells
 have dq := cells_at n5
 have lq5 := lt_of_at n5
 have lp5 := hr5.lt
 clear hr5 hB5 n4 n5
 go_wp2_with fail
 go_ret
 have hfin := (H5.out.1.set34 (.int .i64 t) (.int .u64 y)).set2 (.int .i64 ((N + 1 : Nat) : Int))
 have hN1 : N ≠ 0 := by have := HN.out; omega
 refine ⟨rfl, ⟨?_, ?_⟩, ((H5.out.2.setCell (i := 3) _).setCell (i := 4) _).setCell (i := 2) _⟩
 ·unfold smpNext
  rw [if_neg hN1]
  rw [HXV.out] at hxl
  exact valLW hxl H0.out.2.2.1
 ·unfold smpNext smpBits
  rw [if_neg hN1, if_neg hN1]
  rw [List.append_assoc, HU.out, HXV.out] at hfin
  exact hfin
open Go Go.RowKit Go.ChangeShapes Go.WideShapes Go.ChangeAt
theorem xorVar_of {W : World} {l : List (String × DataW Unit)} (hl : (l.filter fun x => x.1 == "barograph/xor.widths") = [("barograph/xor.widths", Rows.laid_barograph_xor_widths)]) (h0 : laidMetH Tryz.prog l W) : XorVar W := by
 have h := laidMetH.filter (fun x => x.1 == "barograph/xor.widths") h0
 rw [hl, MakeChecks.laidMetH_plain _ _ _ (by kernel_rfl)] at h
 obtain ⟨ps, ⟨g, t, cs, fuel, p, q, hg, ht, hv, hd, _, _⟩, _, _⟩ := h
 obtain rfl := Option.some.inj ((show Tryz.prog.globalNamed "barograph/xor.widths" = some 4 by kernel_rfl).symm.trans hg)
 obtain rfl := Option.some.inj ((show (Tryz.prog.globals[4]?).map (·.type) = some 283 by kernel_rfl).symm.trans ht)
 obtain ⟨xs, m, _, ex, _, hln, hel⟩ := DataW.trod_array Tryz.underlying283 hd
 have cS : Tryz.prog.cellsOf 3 = 1 := by kernel_rfl
 have e3 : (xs.map (·.1)) = [.lit (.int .i64 0), .lit (.int .i64 7), .lit (.int .i64 12), .lit (.int .i64 20), .lit (.int .i64 64)] := (DataW.agg.inj (Prod.mk.inj ex).1).symm
 have key : ∀ (r : Nat) (b : Int), r < 5 → ([.lit (.int .i64 0), .lit (.int .i64 7), .lit (.int .i64 12), .lit (.int .i64 20), .lit (.int .i64 64)] : List (DataW Unit))[r]? = some (.lit (.int .i64 b)) → W.cell? ⟨4, r, none⟩ = some (.int .i64 b) := by
  intro r b hr hb
  have hE := hel r hr
  rw [cS, Nat.mul_one, List.getElem?_eq_getElem (by omega)] at hE
  obtain ⟨s, e1, e2, _⟩ := DataW.trod_int Tryz.underlying3 hE
  have e4 : (xs.map (·.1))[r]? = some (.lit (.int .i64 b)) := by rw [e3]; exact hb
  rw [List.getElem?_map, List.getElem?_eq_getElem (by omega : r < xs.length), e2] at e4
  have hz : s = b := by simpa using e4
  rw [World.var?_cell hg hv r, ← hz]
  have : cs.toList[r]? = some (.int .i64 s) := by
   have h0 : ((cs.toList.drop r).take 1)[0]? = some (.int .i64 s) := by rw [e1]; rfl
   simpa using h0
  simpa using this
 intro k hk
 rcases (by omega : k = 0 ∨ k = 1 ∨ k = 2 ∨ k = 3 ∨ k = 4) with rfl | rfl | rfl | rfl | rfl
 ·exact key 0 _ (by decide) rfl
 ·exact key 1 _ (by decide) rfl
 ·exact key 2 _ (by decide) rfl
 ·exact key 3 _ (by decide) rfl
 ·exact key 4 _ (by decide) rfl
end Go.Proofs.YtgcfkhcogllgfaaGreatDoor
