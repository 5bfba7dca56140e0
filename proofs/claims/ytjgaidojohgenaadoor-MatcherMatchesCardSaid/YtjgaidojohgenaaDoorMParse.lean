/-
  matcher.parse at a text that is a matcher.
  The variable matcher.signs holds its five signs.
-/
import Derived.Test.YtjgaidojohgenaaDoorMChk
import Derived.Test.YtjgaidojohgenaaDoorFew13
namespace Go.Proofs.YtjgaidojohgenaaDoor
open Go Go.RowKit

/-- The signs by kind. -/
def signOf (k : Nat) : ByteArray := match k with | 1 => ⟨#[61]⟩ | 2 => ⟨#[33, 61]⟩ | 3 => ⟨#[94]⟩ | 4 => ⟨#[64]⟩ | _ => ⟨#[]⟩

def SignsAt (w : World) : Prop := w.cell? ⟨0, 1, none⟩ = some (.string (signOf 1)) ∧ w.cell? ⟨0, 2, none⟩ = some (.string (signOf 2)) ∧ w.cell? ⟨0, 3, none⟩ = some (.string (signOf 3)) ∧ w.cell? ⟨0, 4, none⟩ = some (.string (signOf 4))

theorem SignsAt.keep {w w' : World} (h : SignsAt w) (k : Keeps [] w w') : SignsAt w' := by
  obtain ⟨h1, h2, h3, h4⟩ := h
  have hl := World.block_lt_of_cell? w _ h1
  exact ⟨(k.cell hl (by simp)).trans h1, (k.cell hl (by simp)).trans h2, (k.cell hl (by simp)).trans h3, (k.cell hl (by simp)).trans h4⟩

instance go1Signs {w w' : World} : Go1 w w' (SignsAt w) (SignsAt w') := ⟨fun k h => h.keep k⟩

set_option maxRecDepth 100000 in
theorem kinds_at (W : World) : (Instr.index 115 (.agg #[.int .i64 2, .int .i64 1, .int .i64 3, .int .i64 4]) (.int .i64 0)).run Tryd.prog W = .ok (.int .i64 2) W ∧ (Instr.index 115 (.agg #[.int .i64 2, .int .i64 1, .int .i64 3, .int .i64 4]) (.int .i64 1)).run Tryd.prog W = .ok (.int .i64 1) W ∧
    (Instr.index 115 (.agg #[.int .i64 2, .int .i64 1, .int .i64 3, .int .i64 4]) (.int .i64 2)).run Tryd.prog W = .ok (.int .i64 3) W ∧ (Instr.index 115 (.agg #[.int .i64 2, .int .i64 1, .int .i64 3, .int .i64 4]) (.int .i64 3)).run Tryd.prog W = .ok (.int .i64 4) W := ⟨by kernel_rfl, by kernel_rfl, by kernel_rfl, by kernel_rfl⟩

/-- The place of a kind in the program's list of kinds. -/
def placeOf (k : Nat) : Nat := match k with | 2 => 0 | 1 => 1 | 3 => 2 | _ => 3

def kindAt (j : Nat) : Nat := match j with | 0 => 2 | 1 => 1 | 2 => 3 | _ => 4

def MParsePost (w : World) (k : Nat) (name val : ByteArray) (e : Ending) (w' : World) : Prop := ∃ q, e = .returned (.tuple #[.agg #[.int .i64 k, .string name, .slice (some ⟨q, 0, none⟩) 1 1], .int .i64 0]) ∧ w'.heap[q]? = some (.cells #[.string val] 9 (0, 0)) ∧ w.heap.size ≤ q ∧ Keeps [] w w'

def MPRel (W : World) (k : Nat) (gk : Nat) (u24 : Value) (wr : World) : Prop := ∃ j, j ≤ placeOf k ∧ gk = 4 - j ∧ u24 = .int .i64 j ∧ wr = W

set_option linter.unusedSimpArgs false in
set_option maxRecDepth 100000 in
set_option maxHeartbeats 1000000 in
theorem mparse_spec (w : World) (hsg : SignsAt w) (s : ByteArray) (h8 : s.size ≤ 8) (ha : asciiB s) (i : Nat) (hi : Lib.indexAny s.data.toList [61, 33, 94, 64] = (i : Int)) (his : i ≤ s.size)
    (k : Nat) (hk : k = 1 ∨ k = 2 ∨ k = 3) (hno : ∀ j, j < placeOf k → Lib.hasPrefix (s.extract i s.size).data.toList (signOf (kindAt j)).data.toList = false) (hyes : Lib.hasPrefix (s.extract i s.size).data.toList (signOf k).data.toList = true)
    (hname : cleanB (s.extract 0 i)) (hne : ¬ s.extract 0 i = ⟨#[]⟩) (val : ByteArray) (hval : (⟨(Lib.trimPrefix (s.extract i s.size).data.toList (signOf k).data.toList).toArray⟩ : ByteArray) = val) (hvc : cleanB val) (hvn : ¬ val = ⟨#[]⟩) :
    Calls Tryd.prog 47 #[.string s] w (MParsePost w k (s.extract 0 i) val) := by
  have hx := Tryd.strings_IndexAny_short s ⟨#[61, 33, 94, 64]⟩
  have hle : (i : Int) ≤ (s.size : Int) := by omega
  have hn0 : ¬ (i : Int) < 0 := by omega
  obtain ⟨name, hnm⟩ : ∃ x, x = s.extract 0 i := ⟨_, rfl⟩
  rw [← hnm] at hname hne ⊢
  have Hnm := Lib.hid hnm
  clear hnm
  have hpl : placeOf k ≤ 2 := by rcases hk with rfl | rfl | rfl <;> decide
  obtain ⟨Z, hZ⟩ : ∃ Z, Z = Obj.cells #[.int .i64 0, .string ⟨#[]⟩, .slice none 0 0] 56 (0, 0) := ⟨_, rfl⟩
  go_enter Tryd.func47, Tryd.ntmps47
  go_wp2_with fail
  refine (hx _ (by decide) h8 ha).mono ?_
  rintro e w1 ⟨rfl, pos, rfl⟩
  rw [hi]
  clear hx
  have kW : Keeps [] w (((w.alloc (.cells #[.int .i64 0, .string ⟨#[]⟩, .slice none 0 0] 56)).iter s pos).alloc (.cells #[.int .i64 0, .string (s.extract 0 i), .slice none 0 0] 56)) := (((Keeps.refl [] w).alloc _).alloc (.stringIter s pos)).alloc _
  have n3 := new3 w (.cells #[.int .i64 0, .string ⟨#[]⟩, .slice none 0 0] 56) (.stringIter s pos) (.cells #[.int .i64 0, .string (s.extract 0 i), .slice none 0 0] 56)
  have H0 := Lib.hid (show (((w.alloc (.cells #[.int .i64 0, .string ⟨#[]⟩, .slice none 0 0] 56)).iter s pos).alloc (.cells #[.int .i64 0, .string (s.extract 0 i), .slice none 0 0] 56)).heap[w.heap.size]? = some (.cells #[.int .i64 0, .string ⟨#[]⟩, .slice none 0 0] 56 (0, 0)) ∧
    (((w.alloc (.cells #[.int .i64 0, .string ⟨#[]⟩, .slice none 0 0] 56)).iter s pos).alloc (.cells #[.int .i64 0, .string (s.extract 0 i), .slice none 0 0] 56)).heap[((w.alloc (.cells #[.int .i64 0, .string ⟨#[]⟩, .slice none 0 0] 56)).iter s pos).heap.size]? = some (.cells #[.int .i64 0, .string (s.extract 0 i), .slice none 0 0] 56 (0, 0)) ∧ SignsAt (((w.alloc (.cells #[.int .i64 0, .string ⟨#[]⟩, .slice none 0 0] 56)).iter s pos).alloc (.cells #[.int .i64 0, .string (s.extract 0 i), .slice none 0 0] 56)) ∧ Keeps [] w (((w.alloc (.cells #[.int .i64 0, .string ⟨#[]⟩, .slice none 0 0] 56)).iter s pos).alloc (.cells #[.int .i64 0, .string (s.extract 0 i), .slice none 0 0] 56)) from ⟨n3.1, heap_new _ _, hsg.keep kW, kW⟩)
  have HP := Lib.hid (show w.heap.size < ((w.alloc (.cells #[.int .i64 0, .string ⟨#[]⟩, .slice none 0 0] 56)).iter s pos).heap.size from by simp [World.iter]; omega)
  clear kW n3 hsg
  go_wp2_with fail
  generalize ((w.alloc (.cells #[.int .i64 0, .string ⟨#[]⟩, .slice none 0 0] 56)).iter s pos).heap.size = p5 at H0 HP ⊢
  generalize ((w.alloc (.cells #[.int .i64 0, .string ⟨#[]⟩, .slice none 0 0] 56)).iter s pos).alloc (.cells #[.int .i64 0, .string (s.extract 0 i), .slice none 0 0] 56) = W at H0 ⊢
  generalize s.extract i s.size = rs at hno hyes hval ⊢
  rw [← Hnm.out] at H0 ⊢
  have HN := Lib.hid (And.intro hname (And.intro hne (And.intro hvc hvn)))
  have HV := Lib.hid hval
  clear hname hne hvc hvn hval
  go_loopg [24] 4 (MPRel W k)
  case atStart => exact ⟨0, Nat.zero_le _, rfl, rfl, rfl⟩
  case round =>
    obtain ⟨j, hj, hgk, rfl, hw⟩ := hrel
    subst hw
    have Hg := Lib.hid hgk
    clear hgk
    obtain ⟨x0, x1, x2, x3⟩ := kinds_at wr
    have g1 := H0.out.2.2.1.1
    have g2 := H0.out.2.2.1.2.1
    have g3 := H0.out.2.2.1.2.2.1
    have g4 := H0.out.2.2.1.2.2.2
    by_cases hlt : j < placeOf k
    · have hn := hno j hlt
      have hj2 : j = 0 ∨ j = 1 := by omega
      have HJ := Lib.hid hlt
      clear hlt hj hno hyes
      rcases hj2 with rfl | rfl
      · simp only [kindAt] at hn
        go_wp2_with fail
        refine (Tryd.strings_CutPrefix rs _ _).mono ?_
        rintro e w5 ⟨rfl, rfl⟩
        rw [hn]
        clear hn
        go_wp2_with fail
        go_roundg 3
        case measure => have := Hg.out; omega
        case rel => exact ⟨1, HJ.out, rfl, by go_num, rfl⟩
      · simp only [kindAt] at hn
        go_wp2_with fail
        refine (Tryd.strings_CutPrefix rs _ _).mono ?_
        rintro e w5 ⟨rfl, rfl⟩
        rw [hn]
        clear hn
        go_wp2_with fail
        go_roundg 2
        case measure => have := Hg.out; omega
        case rel => exact ⟨2, HJ.out, rfl, by go_num, rfl⟩
    · have hjp : j = placeOf k := by omega
      have f5 := free_at H0.out.2.1
      have l5 := lt_of_at H0.out.2.1
      have y0 : wr.cell? ⟨p5, 0, none⟩ = some (.int .i64 0) := cells_at H0.out.2.1 0
      have y1 : wr.cell? ⟨p5, 1, none⟩ = some (.string name) := cells_at H0.out.2.1 1
      have y2 : wr.cell? ⟨p5, 2, none⟩ = some (.slice none 0 0) := cells_at H0.out.2.1 2
      clear hlt hj hno hpl
      rcases hk with rfl | rfl | rfl
      · subst hjp
        simp only [placeOf] at *
        go_wp2_with fail
        refine (Tryd.strings_CutPrefix rs _ _).mono ?_
        rintro e w5 ⟨rfl, rfl⟩
        rw [hyes]
        clear hyes
        go_wp2_with fail
        clear y0 y1 y2 f5 l5 g1 g2 g3 g4 x0 x1 x2 x3
        have g0 := heap_cell_same (i := 2) (heap_cell_same (i := 0) H0.out.2.1 (.int .i64 1)) (.slice (some ⟨w5.heap.size, 0, none⟩) 1 1)
        have kS : Keeps [p5] w5 ((w5.setCell ⟨p5, 0, none⟩ (.int .i64 1)).setCell ⟨p5, 2, none⟩ (.slice (some ⟨w5.heap.size, 0, none⟩) 1 1)) := ((Keeps.refl _ w5).setCell (.inl (by simp)) _).setCell (.inl (by simp)) _
        have kA : Keeps [] ((w5.setCell ⟨p5, 0, none⟩ (.int .i64 1)).setCell ⟨p5, 2, none⟩ (.slice (some ⟨w5.heap.size, 0, none⟩) 1 1)) (((w5.setCell ⟨p5, 0, none⟩ (.int .i64 1)).setCell ⟨p5, 2, none⟩ (.slice (some ⟨w5.heap.size, 0, none⟩) 1 1)).alloc (.cells #[.string ⟨(Lib.trimPrefix rs.data.toList (signOf 1).data.toList).toArray⟩] 9)) := (Keeps.refl _ _).alloc _
        have n5 : (((w5.setCell ⟨p5, 0, none⟩ (.int .i64 1)).setCell ⟨p5, 2, none⟩ (.slice (some ⟨w5.heap.size, 0, none⟩) 1 1)).alloc (.cells #[.string ⟨(Lib.trimPrefix rs.data.toList (signOf 1).data.toList).toArray⟩] 9)).heap[p5]? = some (.cells #[.int .i64 1, .string name, .slice (some ⟨w5.heap.size, 0, none⟩) 1 1] 56 (0, 0)) := (kA.at_ g0 (by simp)).trans (by simp)
        have n2 := kA.at_ (kS.at_ H0.out.1 (by have := HP.out; simp; omega)) (by simp)
        have nq := heap_new ((w5.setCell ⟨p5, 0, none⟩ (.int .i64 1)).setCell ⟨p5, 2, none⟩ (.slice (some ⟨w5.heap.size, 0, none⟩) 1 1)) (.cells #[.string ⟨(Lib.trimPrefix rs.data.toList (signOf 1).data.toList).toArray⟩] 9)
        rw [show ((w5.setCell ⟨p5, 0, none⟩ (.int .i64 1)).setCell ⟨p5, 2, none⟩ (.slice (some ⟨w5.heap.size, 0, none⟩) 1 1)).heap.size = w5.heap.size from by simp] at nq
        have hk6 := (H0.out.2.2.2.after kS (fun y hy => .inr (by rw [show y = p5 from (by simpa using hy)]; exact Nat.le_of_lt HP.out))).trans kA
        have hq5 := H0.out.2.2.2.size
        rw [HV.out] at nq
        have H6 := Lib.hid (And.intro n5 (And.intro n2 (And.intro nq hk6)))
        clear g0 kS kA n5 n2 nq hk6
        rw [HV.out] at H6 ⊢
        generalize w5.heap.size = q at H6 hq5 ⊢
        generalize ((w5.setCell ⟨p5, 0, none⟩ (.int .i64 1)).setCell ⟨p5, 2, none⟩ (.slice (some ⟨q, 0, none⟩) 1 1)).alloc (.cells #[.string val] 9) = W6 at H6 ⊢
        refine (mchk_spec W6 1 (by decide) (by decide) name HN.out.1 HN.out.2.1 _ [val] ⟨_, _, rfl, by simp [maxLen], fun i hi => ⟨q, 0, rfl, lt_of_at H6.out.2.2.1, fun j hj => by obtain rfl : j = 0 := (by omega); obtain rfl : i = 0 := (by simp at hi; omega); exact cells_at H6.out.2.2.1 0⟩⟩ (by simp) (.inl rfl) (by simpa using HN.out.2.2)).mono ?_
        rintro e w7 ⟨rfl, hk7⟩
        have H7 := Lib.hid (And.intro (go1 hk7 H6.out) hq5)
        clear hk7 H6 hq5
        have z0 : w7.cell? ⟨p5, 0, none⟩ = some (.int .i64 1) := cells_at H7.out.1.1 0
        have z1 : w7.cell? ⟨p5, 1, none⟩ = some (.string name) := cells_at H7.out.1.1 1
        have z2 : w7.cell? ⟨p5, 2, none⟩ = some (.slice (some ⟨q, 0, none⟩) 1 1) := cells_at H7.out.1.1 2
        have lA := lt_of_at H7.out.1.1
        have fB := free_at H7.out.1.2.1
        have lB := lt_of_at H7.out.1.2.1
        have cB0 : w7.cell? ⟨w.heap.size, 0, none⟩ = some (.int .i64 0) := cells_at H7.out.1.2.1 0
        have cB1 : w7.cell? ⟨w.heap.size, 1, none⟩ = some (.string ⟨#[]⟩) := cells_at H7.out.1.2.1 1
        have cB2 : w7.cell? ⟨w.heap.size, 2, none⟩ = some (.slice none 0 0) := cells_at H7.out.1.2.1 2
        go_wp2_with fail
        have g3 := heap_cell_same (i := 2) (heap_cell_same (i := 1) (heap_cell_same (i := 0) H7.out.1.2.1 (.int .i64 1)) (.string name)) (.slice (some ⟨q, 0, none⟩) 1 1)
        have kS : Keeps [w.heap.size] w7 (((w7.setCell ⟨w.heap.size, 0, none⟩ (.int .i64 1)).setCell ⟨w.heap.size, 1, none⟩ (.string name)).setCell ⟨w.heap.size, 2, none⟩ (.slice (some ⟨q, 0, none⟩) 1 1)) := (((Keeps.refl _ w7).setCell (.inl (by simp)) _).setCell (.inl (by simp)) _).setCell (.inl (by simp)) _
        have nq := kS.at_ H7.out.1.2.2.1 (by simpa using ne_of_at H7.out.1.2.2.1 H7.out.1.2.1 (by simp))
        have hk9 := H7.out.1.2.2.2.after kS (fun y hy => .inr (by rw [show y = w.heap.size from (by simpa using hy)]; exact Nat.le_refl _))
        generalize (((w7.setCell ⟨w.heap.size, 0, none⟩ (.int .i64 1)).setCell ⟨w.heap.size, 1, none⟩ (.string name)).setCell ⟨w.heap.size, 2, none⟩ (.slice (some ⟨q, 0, none⟩) 1 1)) = W9 at g3 nq hk9 ⊢
        have x0 : W9.cell? ⟨w.heap.size, 0, none⟩ = some (.int .i64 1) := (cells_at g3 0).trans (by simp)
        have x1 : W9.cell? ⟨w.heap.size, 1, none⟩ = some (.string name) := (cells_at g3 1).trans (by simp)
        have x2 : W9.cell? ⟨w.heap.size, 2, none⟩ = some (.slice (some ⟨q, 0, none⟩) 1 1) := (cells_at g3 2).trans (by simp)
        refine bodyPost_ret (v := .tuple #[.agg #[.int .i64 1, .string name, .slice (some ⟨q, 0, none⟩) 1 1], .int .i64 0]) (by simp [results, Tryd.results47, go_sem, x0, x1, x2]) rfl ?_
        exact ⟨q, rfl, nq, H7.out.2, hk9⟩
      · subst hjp
        simp only [placeOf] at *
        go_wp2_with fail
        refine (Tryd.strings_CutPrefix rs _ _).mono ?_
        rintro e w5 ⟨rfl, rfl⟩
        rw [hyes]
        clear hyes
        go_wp2_with fail
        clear y0 y1 y2 f5 l5 g1 g2 g3 g4 x0 x1 x2 x3
        have g0 := heap_cell_same (i := 2) (heap_cell_same (i := 0) H0.out.2.1 (.int .i64 2)) (.slice (some ⟨w5.heap.size, 0, none⟩) 1 1)
        have kS : Keeps [p5] w5 ((w5.setCell ⟨p5, 0, none⟩ (.int .i64 2)).setCell ⟨p5, 2, none⟩ (.slice (some ⟨w5.heap.size, 0, none⟩) 1 1)) := ((Keeps.refl _ w5).setCell (.inl (by simp)) _).setCell (.inl (by simp)) _
        have kA : Keeps [] ((w5.setCell ⟨p5, 0, none⟩ (.int .i64 2)).setCell ⟨p5, 2, none⟩ (.slice (some ⟨w5.heap.size, 0, none⟩) 1 1)) (((w5.setCell ⟨p5, 0, none⟩ (.int .i64 2)).setCell ⟨p5, 2, none⟩ (.slice (some ⟨w5.heap.size, 0, none⟩) 1 1)).alloc (.cells #[.string ⟨(Lib.trimPrefix rs.data.toList (signOf 2).data.toList).toArray⟩] 9)) := (Keeps.refl _ _).alloc _
        have n5 : (((w5.setCell ⟨p5, 0, none⟩ (.int .i64 2)).setCell ⟨p5, 2, none⟩ (.slice (some ⟨w5.heap.size, 0, none⟩) 1 1)).alloc (.cells #[.string ⟨(Lib.trimPrefix rs.data.toList (signOf 2).data.toList).toArray⟩] 9)).heap[p5]? = some (.cells #[.int .i64 2, .string name, .slice (some ⟨w5.heap.size, 0, none⟩) 1 1] 56 (0, 0)) := (kA.at_ g0 (by simp)).trans (by simp)
        have n2 := kA.at_ (kS.at_ H0.out.1 (by have := HP.out; simp; omega)) (by simp)
        have nq := heap_new ((w5.setCell ⟨p5, 0, none⟩ (.int .i64 2)).setCell ⟨p5, 2, none⟩ (.slice (some ⟨w5.heap.size, 0, none⟩) 1 1)) (.cells #[.string ⟨(Lib.trimPrefix rs.data.toList (signOf 2).data.toList).toArray⟩] 9)
        rw [show ((w5.setCell ⟨p5, 0, none⟩ (.int .i64 2)).setCell ⟨p5, 2, none⟩ (.slice (some ⟨w5.heap.size, 0, none⟩) 1 1)).heap.size = w5.heap.size from by simp] at nq
        have hk6 := (H0.out.2.2.2.after kS (fun y hy => .inr (by rw [show y = p5 from (by simpa using hy)]; exact Nat.le_of_lt HP.out))).trans kA
        have hq5 := H0.out.2.2.2.size
        rw [HV.out] at nq
        have H6 := Lib.hid (And.intro n5 (And.intro n2 (And.intro nq hk6)))
        clear g0 kS kA n5 n2 nq hk6
        rw [HV.out] at H6 ⊢
        generalize w5.heap.size = q at H6 hq5 ⊢
        generalize ((w5.setCell ⟨p5, 0, none⟩ (.int .i64 2)).setCell ⟨p5, 2, none⟩ (.slice (some ⟨q, 0, none⟩) 1 1)).alloc (.cells #[.string val] 9) = W6 at H6 ⊢
        refine (mchk_spec W6 2 (by decide) (by decide) name HN.out.1 HN.out.2.1 _ [val] ⟨_, _, rfl, by simp [maxLen], fun i hi => ⟨q, 0, rfl, lt_of_at H6.out.2.2.1, fun j hj => by obtain rfl : j = 0 := (by omega); obtain rfl : i = 0 := (by simp at hi; omega); exact cells_at H6.out.2.2.1 0⟩⟩ (by simp) (.inl rfl) (by simpa using HN.out.2.2)).mono ?_
        rintro e w7 ⟨rfl, hk7⟩
        have H7 := Lib.hid (And.intro (go1 hk7 H6.out) hq5)
        clear hk7 H6 hq5
        have z0 : w7.cell? ⟨p5, 0, none⟩ = some (.int .i64 2) := cells_at H7.out.1.1 0
        have z1 : w7.cell? ⟨p5, 1, none⟩ = some (.string name) := cells_at H7.out.1.1 1
        have z2 : w7.cell? ⟨p5, 2, none⟩ = some (.slice (some ⟨q, 0, none⟩) 1 1) := cells_at H7.out.1.1 2
        have lA := lt_of_at H7.out.1.1
        have fB := free_at H7.out.1.2.1
        have lB := lt_of_at H7.out.1.2.1
        have cB0 : w7.cell? ⟨w.heap.size, 0, none⟩ = some (.int .i64 0) := cells_at H7.out.1.2.1 0
        have cB1 : w7.cell? ⟨w.heap.size, 1, none⟩ = some (.string ⟨#[]⟩) := cells_at H7.out.1.2.1 1
        have cB2 : w7.cell? ⟨w.heap.size, 2, none⟩ = some (.slice none 0 0) := cells_at H7.out.1.2.1 2
        go_wp2_with fail
        have g3 := heap_cell_same (i := 2) (heap_cell_same (i := 1) (heap_cell_same (i := 0) H7.out.1.2.1 (.int .i64 2)) (.string name)) (.slice (some ⟨q, 0, none⟩) 1 1)
        have kS : Keeps [w.heap.size] w7 (((w7.setCell ⟨w.heap.size, 0, none⟩ (.int .i64 2)).setCell ⟨w.heap.size, 1, none⟩ (.string name)).setCell ⟨w.heap.size, 2, none⟩ (.slice (some ⟨q, 0, none⟩) 1 1)) := (((Keeps.refl _ w7).setCell (.inl (by simp)) _).setCell (.inl (by simp)) _).setCell (.inl (by simp)) _
        have nq := kS.at_ H7.out.1.2.2.1 (by simpa using ne_of_at H7.out.1.2.2.1 H7.out.1.2.1 (by simp))
        have hk9 := H7.out.1.2.2.2.after kS (fun y hy => .inr (by rw [show y = w.heap.size from (by simpa using hy)]; exact Nat.le_refl _))
        generalize (((w7.setCell ⟨w.heap.size, 0, none⟩ (.int .i64 2)).setCell ⟨w.heap.size, 1, none⟩ (.string name)).setCell ⟨w.heap.size, 2, none⟩ (.slice (some ⟨q, 0, none⟩) 1 1)) = W9 at g3 nq hk9 ⊢
        have x0 : W9.cell? ⟨w.heap.size, 0, none⟩ = some (.int .i64 2) := (cells_at g3 0).trans (by simp)
        have x1 : W9.cell? ⟨w.heap.size, 1, none⟩ = some (.string name) := (cells_at g3 1).trans (by simp)
        have x2 : W9.cell? ⟨w.heap.size, 2, none⟩ = some (.slice (some ⟨q, 0, none⟩) 1 1) := (cells_at g3 2).trans (by simp)
        refine bodyPost_ret (v := .tuple #[.agg #[.int .i64 2, .string name, .slice (some ⟨q, 0, none⟩) 1 1], .int .i64 0]) (by simp [results, Tryd.results47, go_sem, x0, x1, x2]) rfl ?_
        exact ⟨q, rfl, nq, H7.out.2, hk9⟩
      · subst hjp
        simp only [placeOf] at *
        go_wp2_with fail
        refine (Tryd.strings_CutPrefix rs _ _).mono ?_
        rintro e w5 ⟨rfl, rfl⟩
        rw [hyes]
        clear hyes
        go_wp2_with fail
        clear y0 y1 y2 f5 l5 g1 g2 g3 g4 x0 x1 x2 x3
        have g0 := heap_cell_same (i := 2) (heap_cell_same (i := 0) H0.out.2.1 (.int .i64 3)) (.slice (some ⟨w5.heap.size, 0, none⟩) 1 1)
        have kS : Keeps [p5] w5 ((w5.setCell ⟨p5, 0, none⟩ (.int .i64 3)).setCell ⟨p5, 2, none⟩ (.slice (some ⟨w5.heap.size, 0, none⟩) 1 1)) := ((Keeps.refl _ w5).setCell (.inl (by simp)) _).setCell (.inl (by simp)) _
        have kA : Keeps [] ((w5.setCell ⟨p5, 0, none⟩ (.int .i64 3)).setCell ⟨p5, 2, none⟩ (.slice (some ⟨w5.heap.size, 0, none⟩) 1 1)) (((w5.setCell ⟨p5, 0, none⟩ (.int .i64 3)).setCell ⟨p5, 2, none⟩ (.slice (some ⟨w5.heap.size, 0, none⟩) 1 1)).alloc (.cells #[.string ⟨(Lib.trimPrefix rs.data.toList (signOf 3).data.toList).toArray⟩] 9)) := (Keeps.refl _ _).alloc _
        have n5 : (((w5.setCell ⟨p5, 0, none⟩ (.int .i64 3)).setCell ⟨p5, 2, none⟩ (.slice (some ⟨w5.heap.size, 0, none⟩) 1 1)).alloc (.cells #[.string ⟨(Lib.trimPrefix rs.data.toList (signOf 3).data.toList).toArray⟩] 9)).heap[p5]? = some (.cells #[.int .i64 3, .string name, .slice (some ⟨w5.heap.size, 0, none⟩) 1 1] 56 (0, 0)) := (kA.at_ g0 (by simp)).trans (by simp)
        have n2 := kA.at_ (kS.at_ H0.out.1 (by have := HP.out; simp; omega)) (by simp)
        have nq := heap_new ((w5.setCell ⟨p5, 0, none⟩ (.int .i64 3)).setCell ⟨p5, 2, none⟩ (.slice (some ⟨w5.heap.size, 0, none⟩) 1 1)) (.cells #[.string ⟨(Lib.trimPrefix rs.data.toList (signOf 3).data.toList).toArray⟩] 9)
        rw [show ((w5.setCell ⟨p5, 0, none⟩ (.int .i64 3)).setCell ⟨p5, 2, none⟩ (.slice (some ⟨w5.heap.size, 0, none⟩) 1 1)).heap.size = w5.heap.size from by simp] at nq
        have hk6 := (H0.out.2.2.2.after kS (fun y hy => .inr (by rw [show y = p5 from (by simpa using hy)]; exact Nat.le_of_lt HP.out))).trans kA
        have hq5 := H0.out.2.2.2.size
        rw [HV.out] at nq
        have H6 := Lib.hid (And.intro n5 (And.intro n2 (And.intro nq hk6)))
        clear g0 kS kA n5 n2 nq hk6
        rw [HV.out] at H6 ⊢
        generalize w5.heap.size = q at H6 hq5 ⊢
        generalize ((w5.setCell ⟨p5, 0, none⟩ (.int .i64 3)).setCell ⟨p5, 2, none⟩ (.slice (some ⟨q, 0, none⟩) 1 1)).alloc (.cells #[.string val] 9) = W6 at H6 ⊢
        refine (mchk_spec W6 3 (by decide) (by decide) name HN.out.1 HN.out.2.1 _ [val] ⟨_, _, rfl, by simp [maxLen], fun i hi => ⟨q, 0, rfl, lt_of_at H6.out.2.2.1, fun j hj => by obtain rfl : j = 0 := (by omega); obtain rfl : i = 0 := (by simp at hi; omega); exact cells_at H6.out.2.2.1 0⟩⟩ (by simp) (.inl rfl) (by simpa using HN.out.2.2)).mono ?_
        rintro e w7 ⟨rfl, hk7⟩
        have H7 := Lib.hid (And.intro (go1 hk7 H6.out) hq5)
        clear hk7 H6 hq5
        have z0 : w7.cell? ⟨p5, 0, none⟩ = some (.int .i64 3) := cells_at H7.out.1.1 0
        have z1 : w7.cell? ⟨p5, 1, none⟩ = some (.string name) := cells_at H7.out.1.1 1
        have z2 : w7.cell? ⟨p5, 2, none⟩ = some (.slice (some ⟨q, 0, none⟩) 1 1) := cells_at H7.out.1.1 2
        have lA := lt_of_at H7.out.1.1
        have fB := free_at H7.out.1.2.1
        have lB := lt_of_at H7.out.1.2.1
        have cB0 : w7.cell? ⟨w.heap.size, 0, none⟩ = some (.int .i64 0) := cells_at H7.out.1.2.1 0
        have cB1 : w7.cell? ⟨w.heap.size, 1, none⟩ = some (.string ⟨#[]⟩) := cells_at H7.out.1.2.1 1
        have cB2 : w7.cell? ⟨w.heap.size, 2, none⟩ = some (.slice none 0 0) := cells_at H7.out.1.2.1 2
        go_wp2_with fail
        have g3 := heap_cell_same (i := 2) (heap_cell_same (i := 1) (heap_cell_same (i := 0) H7.out.1.2.1 (.int .i64 3)) (.string name)) (.slice (some ⟨q, 0, none⟩) 1 1)
        have kS : Keeps [w.heap.size] w7 (((w7.setCell ⟨w.heap.size, 0, none⟩ (.int .i64 3)).setCell ⟨w.heap.size, 1, none⟩ (.string name)).setCell ⟨w.heap.size, 2, none⟩ (.slice (some ⟨q, 0, none⟩) 1 1)) := (((Keeps.refl _ w7).setCell (.inl (by simp)) _).setCell (.inl (by simp)) _).setCell (.inl (by simp)) _
        have nq := kS.at_ H7.out.1.2.2.1 (by simpa using ne_of_at H7.out.1.2.2.1 H7.out.1.2.1 (by simp))
        have hk9 := H7.out.1.2.2.2.after kS (fun y hy => .inr (by rw [show y = w.heap.size from (by simpa using hy)]; exact Nat.le_refl _))
        generalize (((w7.setCell ⟨w.heap.size, 0, none⟩ (.int .i64 3)).setCell ⟨w.heap.size, 1, none⟩ (.string name)).setCell ⟨w.heap.size, 2, none⟩ (.slice (some ⟨q, 0, none⟩) 1 1)) = W9 at g3 nq hk9 ⊢
        have x0 : W9.cell? ⟨w.heap.size, 0, none⟩ = some (.int .i64 3) := (cells_at g3 0).trans (by simp)
        have x1 : W9.cell? ⟨w.heap.size, 1, none⟩ = some (.string name) := (cells_at g3 1).trans (by simp)
        have x2 : W9.cell? ⟨w.heap.size, 2, none⟩ = some (.slice (some ⟨q, 0, none⟩) 1 1) := (cells_at g3 2).trans (by simp)
        refine bodyPost_ret (v := .tuple #[.agg #[.int .i64 3, .string name, .slice (some ⟨q, 0, none⟩) 1 1], .int .i64 0]) (by simp [results, Tryd.results47, go_sem, x0, x1, x2]) rfl ?_
        exact ⟨q, rfl, nq, H7.out.2, hk9⟩
end Go.Proofs.YtjgaidojohgenaaDoor
