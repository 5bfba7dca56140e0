/-
  Package barographlaw14: Labels, and the document's half of Table, walked.
  The library's variable internal/bytealg.MaxLen holds some number.

  Arguments of the laws on tables: samples, each a name, a time, a value; and plain facts on the tables that they make.
  No condition beyond those that each theorem states.

  What the tables of the laws on tables hold: labels of five kinds, times below a thousand, values of 64 bits.
  No condition beyond those that each theorem states.

  Package label: Compare of two sets, the first of which comes first (slices.CompareFunc, walked): -1.
  No condition beyond those that each theorem states.

  Package merge: Good at a table by rising labels and times, Count.
  No condition beyond those that each theorem states.
-/
import Derived.Test.YtgcfkhcogllgfaaGreatDoorTabLaw
import Derived.Test.YtgcfkhcogllgfaaGreatDoorLabelN
import Derived.Test.YtgcfkhcogllgfaaGreatDoorGetP
import Derived.Test.YtgcfkhcogllgfaaGreatDoorArgs
import Derived.Test.YtgcfkhcogllgfaaGreatDoorShelfA
import Derived.Deep.CutRange
namespace Go.Proofs.YtgcfkhcogllgfaaGreatDoor
set_option maxRecDepth 100000
set_option maxHeartbeats 4000000
set_option linter.unusedSimpArgs false
open Go Go.RowKit
def labA1 : List PairB := [(⟨#[97]⟩, ⟨#[49]⟩)]
def labA1B2 : List PairB := [(⟨#[97]⟩, ⟨#[49]⟩), (⟨#[98]⟩, ⟨#[50]⟩)]
def labA2 : List PairB := [(⟨#[97]⟩, ⟨#[50]⟩)]
def labB1 : List PairB := [(⟨#[98]⟩, ⟨#[49]⟩)]
def labJ : List PairB := [(⟨#[106, 111, 98]⟩, ⟨#[120]⟩)]
def labN (n : Int) : List PairB := if n % 5 = 0 then labA1 else if n % 5 = 1 then labA1B2 else if n % 5 = 2 then labA2 else if n % 5 = 3 then labB1 else labJ
theorem labN_len (n : Int) : (labN n).length ≤ 2 := by
 unfold labN
 repeat' split
 all_goals decide
theorem labels_spec (w : World) (hv : LibVar w) (n : Int) (h0 : 0 ≤ n) :
  Calls Tryz.prog 15 #[.int .u8 n] w fun e w' => ∃ v, e = .returned v ∧ SliceArg 2 encPB w' v (labN n) ∧ Keeps [] w w' := by
 obtain ⟨W, hW⟩ : ∃ W, W = w.alloc (.cells #[.string ⟨#[97, 61, 49]⟩, .string ⟨#[97, 61, 49, 44, 98, 61, 50]⟩, .string ⟨#[97, 61, 50]⟩, .string ⟨#[98, 61, 49]⟩, .string ⟨#[106, 111, 98, 61, 120]⟩] 9) := ⟨_, rfl⟩
 have kW : Keeps [] w W := by rw [hW]; exact (Keeps.refl [] w).alloc _
 have H0 := Lib.hid (And.intro (go1 kW hv) kW)
 have HW := Lib.hid hW
 clear kW hW hv
 have hm : n % 5 = 0 ∨ n % 5 = 1 ∨ n % 5 = 2 ∨ n % 5 = 3 ∨ n % 5 = 4 := by omega
 obtain ⟨R, hR⟩ : ∃ R, R = labN n := ⟨_, rfl⟩
 rw [← hR]
 have HR := Lib.hid hR
 clear hR
 rcases hm with hm | hm | hm | hm | hm
 all_goals
  have Hm := Lib.hid hm
  go_enter Tryz.func15, Tryz.ntmps15
  go_wp2_with fail
  rw [← HW.out]
 ·refine (labParse_spec W H0.out.1 ⟨#[97, 61, 49]⟩ (by decide) labA1 (by decide +kernel) (by decide) (by decide) (by decide +kernel)).mono ?_
  rintro e w2 ⟨v2, rfl, hs2, hk2⟩
  rw [show sortP labA1 = labA1 from by decide +kernel] at hs2
  have H2 := Lib.hid (And.intro hs2 (H0.out.2.trans hk2))
  obtain ⟨a2, c2, rfl, -, -⟩ := hs2
  clear hk2
  go_wp2_with fail
  go_ret
  exact ⟨_, rfl, by rw [HR.out]; unfold labN; rw [if_pos Hm.out]; exact H2.out.1, H2.out.2⟩
 ·refine (labParse_spec W H0.out.1 ⟨#[97, 61, 49, 44, 98, 61, 50]⟩ (by decide) labA1B2 (by decide +kernel) (by decide) (by decide) (by decide +kernel)).mono ?_
  rintro e w2 ⟨v2, rfl, hs2, hk2⟩
  rw [show sortP labA1B2 = labA1B2 from by decide +kernel] at hs2
  have H2 := Lib.hid (And.intro hs2 (H0.out.2.trans hk2))
  obtain ⟨a2, c2, rfl, -, -⟩ := hs2
  clear hk2
  go_wp2_with fail
  go_ret
  exact ⟨_, rfl, by rw [HR.out]; unfold labN; rw [Hm.out, if_neg (by decide), if_pos rfl]; exact H2.out.1, H2.out.2⟩
 ·refine (labParse_spec W H0.out.1 ⟨#[97, 61, 50]⟩ (by decide) labA2 (by decide +kernel) (by decide) (by decide) (by decide +kernel)).mono ?_
  rintro e w2 ⟨v2, rfl, hs2, hk2⟩
  rw [show sortP labA2 = labA2 from by decide +kernel] at hs2
  have H2 := Lib.hid (And.intro hs2 (H0.out.2.trans hk2))
  obtain ⟨a2, c2, rfl, -, -⟩ := hs2
  clear hk2
  go_wp2_with fail
  go_ret
  exact ⟨_, rfl, by rw [HR.out]; unfold labN; rw [Hm.out, if_neg (by decide), if_neg (by decide), if_pos rfl]; exact H2.out.1, H2.out.2⟩
 ·refine (labParse_spec W H0.out.1 ⟨#[98, 61, 49]⟩ (by decide) labB1 (by decide +kernel) (by decide) (by decide) (by decide +kernel)).mono ?_
  rintro e w2 ⟨v2, rfl, hs2, hk2⟩
  rw [show sortP labB1 = labB1 from by decide +kernel] at hs2
  have H2 := Lib.hid (And.intro hs2 (H0.out.2.trans hk2))
  obtain ⟨a2, c2, rfl, -, -⟩ := hs2
  clear hk2
  go_wp2_with fail
  go_ret
  exact ⟨_, rfl, by rw [HR.out]; unfold labN; rw [Hm.out, if_neg (by decide), if_neg (by decide), if_neg (by decide), if_pos rfl]; exact H2.out.1, H2.out.2⟩
 ·refine (labParse_spec W H0.out.1 ⟨#[106, 111, 98, 61, 120]⟩ (by decide) labJ (by decide +kernel) (by decide) (by decide) (by decide +kernel)).mono ?_
  rintro e w2 ⟨v2, rfl, hs2, hk2⟩
  rw [show sortP labJ = labJ from by decide +kernel] at hs2
  have H2 := Lib.hid (And.intro hs2 (H0.out.2.trans hk2))
  obtain ⟨a2, c2, rfl, -, -⟩ := hs2
  clear hk2
  go_wp2_with fail
  go_ret
  exact ⟨_, rfl, by rw [HR.out]; unfold labN; rw [Hm.out, if_neg (by decide), if_neg (by decide), if_neg (by decide), if_neg (by decide)]; exact H2.out.1, H2.out.2⟩
/-! ## Table -/
abbrev One14 := Int × Int × Int
def encO14 (x : One14) : List Value := [.int .u8 x.1, .int .i64 x.2.1, .int .u64 x.2.2]
def timeT (t : Int) : Int := (IntKind.i64.wrap (t.tmod 1000 + 1000)).tmod 1000
noncomputable def tblL (L : List One14) : TabT := L.foldl (fun A x => addT (labN x.1) (timeT x.2.1, x.2.2) A) []
theorem tblL_snoc (L : List One14) (x : One14) : tblL (L ++ [x]) = addT (labN x.1) (timeT x.2.1, x.2.2) (tblL L) := by unfold tblL; rw [List.foldl_append]; rfl
theorem addT_len {lab : List PairB} {s : SmpB} : ∀ {A : TabT}, (addT lab s A).length ≤ A.length + 1
 | [] => by simp [addT]
 | r :: A => by
  have ih := addT_len (lab := lab) (s := s) (A := A)
  unfold addT
  split
  ·simp
  ·split
   ·simp
   ·simp only [List.length_cons]; omega
theorem tblL_good (L : List One14) : GoodT (tblL L) ∧ (tblL L).length ≤ L.length ∧ ∀ r ∈ tblL L, r.1.length ≤ 2 ∧ r.2.length ≤ L.length := by
 have key : ∀ (L : List One14) (A : TabT) (n : Nat), GoodT A → A.length ≤ n → (∀ r ∈ A, r.1.length ≤ 2 ∧ r.2.length ≤ n) → GoodT (L.foldl (fun A x => addT (labN x.1) (timeT x.2.1, x.2.2) A) A) ∧ (L.foldl (fun A x => addT (labN x.1) (timeT x.2.1, x.2.2) A) A).length ≤ n + L.length ∧ ∀ r ∈ L.foldl (fun A x => addT (labN x.1) (timeT x.2.1, x.2.2) A) A, r.1.length ≤ 2 ∧ r.2.length ≤ n + L.length := by
  intro L
  induction L with
  | nil => intro A n h1 h2 h3; exact ⟨h1, by simpa using h2, by simpa using h3⟩
  | cons x L ih =>
   intro A n h1 h2 h3
   rw [List.foldl_cons]
   have h4 := ih (addT (labN x.1) (timeT x.2.1, x.2.2) A) (n + 1) (addT_good h1) (by have := addT_len (lab := labN x.1) (s := (timeT x.2.1, x.2.2)) (A := A); omega) (fun r hr => by
    rcases addT_mem hr with hr | ⟨e1, e2 | ⟨q, hq, _, e2⟩⟩
    ·have := h3 r hr; omega
    ·rw [e1, e2]
     exact ⟨labN_len _, by simp⟩
    ·rw [e1, e2]
     have := (h3 q hq).2
     have := putS_len (s := (timeT x.2.1, x.2.2)) (l := q.2)
     exact ⟨labN_len _, by omega⟩)
   rw [List.length_cons]
   exact ⟨h4.1, by have := h4.2.1; omega, fun r hr => by have := h4.2.2 r hr; omega⟩
 have := key L [] 0 ⟨by simp, by simp⟩ (by simp) (by simp)
 simpa [tblL] using this
theorem tblL_few {L : List One14} (h : L.length ≤ 40) : FewT (tblL L) := ⟨by have := (tblL_good L).2.1; omega, fun r hr => by have := (tblL_good L).2.2 r hr; omega⟩
theorem o14_at {w : World} {v : Value} {L : List One14} (h : SliceArg 3 encO14 w v L) (k : Nat) (hk : k < L.length) : ∃ b off cap, v = .slice (some ⟨b, off, none⟩) L.length cap ∧ b < w.heap.size ∧ w.cell? ⟨b, off + k * 3, none⟩ = some (.int .u8 L[k].1) ∧ w.cell? ⟨b, off + k * 3 + 1, none⟩ = some (.int .i64 L[k].2.1) ∧ w.cell? ⟨b, off + k * 3 + 2, none⟩ = some (.int .u64 L[k].2.2) := by
 obtain ⟨ao, cap, e, hl, h⟩ := h
 obtain ⟨b, off, e2, hb, hc⟩ := h k hk
 subst e2
 exact ⟨b, off, cap, e, hb, hc 0 (by decide), (by have := hc 1 (by decide); rw [← Nat.add_assoc] at this; exact this), (by have := hc 2 (by decide); rw [← Nat.add_assoc] at this; exact this)⟩
def TblRel (w : World) (L : List One14) (m gk : Nat) (u4 u5 : Value) (wr : World) : Prop :=
 ∃ i, i ≤ m ∧ gk = m - i ∧ u5 = .int .i64 i ∧ TabAt 74 94 w.heap.size wr u4 (tblL (L.take i)) ∧ Keeps [] w wr
theorem table_spec (w : World) (hv : LibVar w) (v : Value) (L : List One14) (h : SliceArg 3 encO14 w v L) (hb : ∀ x ∈ L, 0 ≤ x.1) :
  Calls Tryz.prog 5 #[v] w fun e w' => ∃ va vb, e = .returned (.tuple #[va, vb]) ∧ TabAt 76 91 w.heap.size w' va (tblL (L.take 40)) ∧ TabAt 74 94 w.heap.size w' vb (tblL (L.take 40)) ∧ Keeps [] w w' := by
 have Hf := Lib.hid (And.intro h (And.intro hb hv))
 obtain ⟨ao, cap, rfl, hlm, -⟩ := h
 unfold maxLen at hlm
 obtain ⟨m, hm⟩ : ∃ m : Nat, m = min L.length 40 := ⟨_, rfl⟩
 have hm1 : m ≤ L.length := by omega
 have hm2 : m ≤ 40 := by omega
 have hm3 : m = L.length ∨ m = 40 := by omega
 have Hm := Lib.hid hm
 clear hm hb hv
 have H0 := Lib.hid (And.intro (tab_made (tp := 94) (own_made w w.heap.size 74 2 (Nat.le_refl _))) ((Keeps.refl [] w).alloc (.cells #[] 74)))
 go_enter Tryz.func5, Tryz.ntmps5
 go_wp2_with fail
 go_loopg [4, 5] m (TblRel w L m)
 case atStart => exact ⟨0, Nat.zero_le _, rfl, rfl, H0.out.1, H0.out.2⟩
 case round =>
  obtain ⟨i, hi, hgk, rfl, hrow, hkw⟩ := hrel
  have Hg := Lib.hid hgk
  clear hgk H0
  obtain ⟨A, hA⟩ : ∃ A, A = tblL (L.take i) := ⟨_, rfl⟩
  rw [← hA] at hrow
  have HA := Lib.hid hA
  have hgood := tblL_good (L.take i)
  have hfew : FewT A := by rw [hA]; exact tblL_few (by rw [List.length_take]; omega)
  rw [← hA] at hgood
  have HG := Lib.hid (And.intro hgood.1 hfew)
  clear hA hgood hfew
  obtain ⟨a4, c4, rfl⟩ := hrow.form
  by_cases hlt : i < m
  ·have hltL : i < L.length := by omega
   obtain ⟨b, off, cap', ea, hbW, d0, d1, d2⟩ := o14_at (Hf.out.1.keep hkw) i hltL
   injection ea with ea _ ec
   subst ea ec
   have hlt1 : (i : Int) < (L.length : Int) := by omega
   have hlt2 : (i : Int) < 40 := by omega
   have hx0 := Hf.out.2.1 L[i] (List.getElem_mem hltL)
   have Htk := Lib.hid (show L.take (i + 1) = L.take i ++ [L[i]] from List.take_succ_eq_append_getElem hltL)
   generalize L[i] = x at d0 d1 d2 hx0 Htk
   obtain ⟨xn, xt, xv⟩ := x
   dsimp only at d0 d1 d2 hx0
   obtain ⟨W0, hW0⟩ : ∃ W0, W0 = (wr.alloc (.cells #[.int .u8 xn, .int .i64 xt, .int .u64 xv] 42)).drew := ⟨_, rfl⟩
   have kW : Keeps [] wr W0 := by rw [hW0]; exact ((Keeps.refl [] wr).alloc _).drew
   have hp : W0.heap[wr.heap.size]? = some (.cells #[.int .u8 xn, .int .i64 xt, .int .u64 xv] 42 (0, 0)) := by rw [hW0]; exact heap_new wr (.cells #[.int .u8 xn, .int .i64 xt, .int .u64 xv] 42)
   have H1 := Lib.hid (And.intro (go1 kW hrow) (And.intro (hkw.trans kW) (go1 (hkw.trans kW) Hf.out.2.2)))
   have D0 : ∀ s : Kept W0, s.val.cell? ⟨wr.heap.size, 0, none⟩ = some (.int .u8 xn) := keptCell (cells_at hp 0)
   have D1 : ∀ s : Kept W0, s.val.cell? ⟨wr.heap.size, 1, none⟩ = some (.int .i64 xt) := keptCell (cells_at hp 1)
   have D2 : ∀ s : Kept W0, s.val.cell? ⟨wr.heap.size, 2, none⟩ = some (.int .u64 xv) := keptCell (cells_at hp 2)
   have HW := Lib.hid hW0
   clear hkw kW hp hW0 hrow
   go_upto_region 6 with fail
   refine wp_region_held_drew (S := KeptS W0) (by kernel_rfl) (by rw [← HW.out]; exact keptS (Keeps.refl _ _)) (fun hS => ?_)
   rw [← HW.out] at hS ⊢
   generalize wr.heap.size = pk at D0 D1 D2 ⊢
   clear d0 d1 d2 HW hbW
   refine tk (v := ?_) 0 rfl ?_ ?_; rotate_left
   ·rintro _ ⟨s, rfl⟩; go_simp; (try with_reducible rfl)
   simp only [Act.put, zz]
   refine tk (v := ?_) 1 rfl ?_ ?_; rotate_left
   ·rintro _ ⟨s, rfl⟩; go_simp; (try with_reducible rfl)
   simp only [Act.put, zz]
   refine tk (v := ?_) 2 rfl ?_ ?_; rotate_left
   ·rintro _ ⟨s, rfl⟩; go_simp; (try with_reducible rfl)
   simp only [Act.put, zz]
   refine tk (v := ?_) 5 rfl ?_ ?_; rotate_left
   ·rintro _ ⟨s, rfl⟩; go_simp; (try with_reducible rfl)
   simp only [Act.put, zz]
   refine tk (v := ?_) 6 rfl ?_ ?_; rotate_left
   ·rintro _ ⟨s, rfl⟩; go_simp; (try with_reducible rfl)
   simp only [Act.put, zz]
   refine tk (v := ?_) 7 rfl ?_ ?_; rotate_left
   ·rintro _ ⟨s, rfl⟩; go_simp; (try with_reducible rfl)
   simp only [Act.put, zz]
   refine tk (v := ?_) 8 rfl ?_ ?_; rotate_left
   ·rintro _ ⟨s, rfl⟩; go_simp; (try with_reducible rfl)
   simp only [Act.put, zz]
   refine tk (v := ?_) 9 rfl ?_ ?_; rotate_left
   ·rintro _ ⟨s, rfl⟩; go_simp; (try with_reducible rfl)
   simp only [Act.put, zz]
   refine tk (v := ?_) 10 rfl ?_ ?_; rotate_left
   ·rintro _ ⟨s, rfl⟩; go_simp; (try with_reducible rfl)
   simp only [Act.put, zz]
   refine tk (v := ?_) 11 rfl ?_ ?_; rotate_left
   ·rintro _ ⟨s, rfl⟩; go_simp; (try with_reducible rfl)
   simp only [Act.put, zz]
   refine tk (v := ?_) 12 rfl ?_ ?_; rotate_left
   ·rintro _ ⟨s, rfl⟩; go_simp; (try with_reducible rfl)
   simp only [Act.put, zz]
   rw [show (IntKind.i64.wrap (xt.tmod 1000 + 1000)).tmod 1000 = timeT xt from rfl]
   generalize hty : timeT xt = ty
   have Hty := Lib.hid hty
   clear hty
   refine rd 3 rfl fun K hK => ?_
   go_simp
   go_at_call 15
   refine (labels_spec W0 H1.out.2.2 xn hx0).mono ?_
   rintro e A1 ⟨v1, rfl, hs1, q1⟩
   have E1 := Lib.hid (And.intro hs1 q1)
   obtain ⟨a1, c1, rfl, -, -⟩ := hs1
   clear q1
   go_simp
   refine hK.out _ _ (keptS E1.out.2) (fun hS => ?_)
   clear hK K
   try simp only [Act.put, zz]
   refine rd 4 rfl fun K hK => ?_
   go_simp
   go_at_call 14
   refine (told6_spec A1 _ (labN xn) E1.out.1 (by have := labN_len xn; omega)).mono ?_
   rintro e A2 ⟨v2, rfl, hrow2, q2⟩
   have E2 := Lib.hid (And.intro (row_base (b' := 0) hrow2 (Nat.zero_le _)) (E1.out.2.trans q2))
   obtain ⟨a2, c2, rfl, -, -, -⟩ := row_slice hrow2
   clear hrow2 q2 E1
   go_simp
   refine hK.out _ _ (keptS E2.out.2) (fun hS => ?_)
   clear hK K
   try simp only [Act.put, zz]
   refine rd 13 rfl fun K hK => ?_
   go_simp
   go_at_call 13
   refine (addM_spec A2 _ _ A (labN xn) (ty, xv) ((go1 E2.out.2 H1.out.1).base (Nat.zero_le _)) HG.out.2 HG.out.1.rows E2.out.1 (by have := labN_len xn; omega)).mono ?_
   rintro e A3 ⟨v3, rfl, ht3, q3⟩
   have E3 := Lib.hid (And.intro (ht3.base (B' := w.heap.size) (H1.out.2.1.trans E2.out.2).size) (E2.out.2.trans q3))
   obtain ⟨a3, c3, rfl⟩ := ht3.form
   clear ht3 q3 E2
   go_simp
   refine hK.out _ _ (keptS E3.out.2) (fun hS => ?_)
   clear hK K
   try simp only [Act.put, zz]
   refine rd 14 rfl fun K hK => ?_
   go_simp
   go_simp
   refine hK.out _ _ (keptS E3.out.2) (fun hS => ?_)
   clear hK K
   try simp only [Act.put, zz]
   refine wpAnyH_done (by kernel_rfl) ?_ _
   have H9 := Lib.hid (And.intro E3.out.1 (H1.out.2.1.trans E3.out.2))
   clear D0 D1 D2 hS E3 H1
   go_wp2_with fail
   go_roundg (m - (i + 1))
   case measure => have := Hg.out; omega
   case rel => exact ⟨i + 1, hlt, rfl, by go_num, by rw [Htk.out, tblL_snoc, ← HA.out, Hty.out]; exact H9.out.1, H9.out.2⟩
  ·have him : i = m := by omega
   have Hend := Lib.hid (show A = tblL (L.take 40) from by
    rw [HA.out, him, Hm.out]
    rcases hm3 with h3 | h3
    ·rw [show min L.length 40 = L.length from by omega, List.take_length, List.take_of_length_le (by omega)]
    ·rw [show min L.length 40 = 40 from by omega])
   have Hr := Lib.hid (And.intro hrow (And.intro hkw HG.out))
   have hne := Lib.hid (fun (r : RowT) (hr : r ∈ A) => (HG.out.1.smps r hr).2)
   clear hrow hkw
   have hways : (¬ (i : Int) < (L.length : Int)) ∨ ((i : Int) < (L.length : Int) ∧ ¬ (i : Int) < 40) := by omega
   clear him hm3
   rcases hways with hw1 | ⟨hw1, hw2⟩
   all_goals
    go_wp2_with fail
    refine (rows_spec wr _ A (Hr.out.1.base (Nat.zero_le _)) Hr.out.2.2.2 hne.out).mono ?_
    rintro e w5 ⟨v5, rfl, ht5, hk5⟩
    have H5 := Lib.hid (And.intro (ht5.base (B' := w.heap.size) Hr.out.2.1.size) (And.intro (go1 hk5 Hr.out.1) (Hr.out.2.1.trans hk5)))
    obtain ⟨a5, c5, rfl⟩ := ht5.form
    clear ht5 hk5
    go_wp2_with fail
    go_ret2
    exact ⟨_, _, rfl, by rw [← Hend.out]; exact H5.out.1, by rw [← Hend.out]; exact H5.out.2.1, H5.out.2.2⟩
open Go Go.RowKit Go.ChangeShapes Go.WideShapes Go.Deep
open Go Go.RowKit Go.ChangeShapes Go.WideShapes Go.Deep
def O14W (w : World) (v : Value) : Prop := ∃ L : List One14, SliceArg 3 encO14 w v L ∧ ∀ x ∈ L, 0 ≤ x.1 ∧ 0 ≤ x.2.2 ∧ x.2.2 < 18446744073709551616
theorem open_o14w {H : Type} {e0 : TypeId × Value → H} {W : World} {r : Reach} {b0 : Nat} {v : Value} {d : DataW H} {p : List MemPlace} (hok : Value.okWide Tryz.prog W r b0 22 v) (h : DataW.Trod e0 Tryz.prog W 0 (fun _ => true) true 22 v d p) : O14W W v := by
 refine open_structArg (fs := _) encO14 (fun _ x => 0 ≤ x.1 ∧ 0 ≤ x.2.2 ∧ x.2.2 < 18446744073709551616) Tryz.underlying22 Tryz.underlying42 (by kernel_rfl) (by kernel_rfl) (Nat.zero_lt_succ _) ?_ hok h
 intro us n hl hf
 obtain ⟨y0, u0, g0, h0⟩ := hf 0 _ rfl
 obtain ⟨y1, u1, g1, h1⟩ := hf 1 _ rfl
 obtain ⟨y2, u2, g2, h2⟩ := hf 2 _ rfl
 obtain ⟨n0, e0', _, hw⟩ := DataW.trod_int Tryz.underlying5 h0
 obtain ⟨n1, e1, _, _⟩ := DataW.trod_int Tryz.underlying2 h1
 obtain ⟨n2, e2, _, hw2⟩ := DataW.trod_int Tryz.underlying40 h2
 simp only [List.cons.injEq, and_true] at e0' e1 e2
 subst e0' e1 e2
 have h0' : 0 ≤ n0 := by
  simp [Lit.wf, IntKind.min, IntKind.max, IntKind.signed, IntKind.bits] at hw
  omega
 have h2' : 0 ≤ n2 ∧ n2 < 18446744073709551616 := by
  simp [Lit.wf, IntKind.min, IntKind.max, IntKind.signed, IntKind.bits] at hw2
  omega
 refine ⟨⟨n0, n1, n2⟩, ⟨h0', h2'⟩, ?_⟩
 match us, hl with
 | [a0, a1, a2], _ =>
  simp only [List.getElem?_cons_zero, List.getElem?_cons_succ, Option.some.injEq] at g0 g1 g2
  subst g0 g1 g2
  rfl
theorem timeT_in (t : Int) : 0 ≤ timeT t ∧ timeT t < 1000 := by
 have h1 := Int.tmod_lt_of_pos t (b := 1000) (by decide)
 have h2 : -1000 < t.tmod 1000 := by
  have := Int.tmod_lt_of_pos (-t) (b := 1000) (by decide)
  rw [Int.neg_tmod] at this
  omega
 unfold timeT
 rw [IntWalk.i64_in _ (by omega)]
 refine ⟨Int.tmod_nonneg _ (by omega), Int.tmod_lt_of_pos _ (by decide)⟩
def SmpOk (s : SmpB) : Prop := 0 ≤ s.1 ∧ s.1 < 1000 ∧ 0 ≤ s.2 ∧ s.2 < 18446744073709551616
theorem tblL_vals (L : List One14) (h : ∀ x ∈ L, 0 ≤ x.1 ∧ 0 ≤ x.2.2 ∧ x.2.2 < 18446744073709551616) : ∀ r ∈ tblL L, (∃ n, r.1 = labN n) ∧ ∀ s ∈ r.2, SmpOk s := by
 have key : ∀ (L : List One14) (A : TabT), (∀ x ∈ L, 0 ≤ x.1 ∧ 0 ≤ x.2.2 ∧ x.2.2 < 18446744073709551616) → (∀ r ∈ A, (∃ n, r.1 = labN n) ∧ ∀ s ∈ r.2, SmpOk s) → ∀ r ∈ L.foldl (fun A x => addT (labN x.1) (timeT x.2.1, x.2.2) A) A, (∃ n, r.1 = labN n) ∧ ∀ s ∈ r.2, SmpOk s := by
  intro L
  induction L with
  | nil => intro A _ h; exact h
  | cons x L ih =>
   intro A hL h
   rw [List.foldl_cons]
   refine ih _ (fun y hy => hL y (by simp [hy])) fun r hr => ?_
   have hx : SmpOk (timeT x.2.1, x.2.2) := ⟨(timeT_in _).1, (timeT_in _).2, (hL x (by simp)).2⟩
   rcases addT_mem hr with hr | ⟨e1, e2⟩
   ·exact h r hr
   ·refine ⟨⟨x.1, e1⟩, fun s hs => ?_⟩
    rcases e2 with e2 | ⟨q, hq, -, e2⟩
    ·rw [e2] at hs
     obtain rfl : s = _ := by simpa using hs
     exact hx
    ·rw [e2] at hs
     rcases putS_mem hs with rfl | hs
     ·exact hx
     ·exact (h q hq).2 s hs
 exact key L [] h (by simp)
open Go Go.RowKit Go.Conc
open Go.Op (bytesLess)
theorem cmpb_lt : ∀ a b : List UInt8, bytesLess a b = true → Lib.compareBytes a b = -1
 | [], [], h => by simp [bytesLess] at h
 | [], _ :: _, _ => rfl
 | _ :: _, [], h => by simp [bytesLess] at h
 | a :: xs, b :: ys, h => by
  unfold Lib.compareBytes
  by_cases h1 : a < b
  ·rw [if_pos h1]
  ·unfold bytesLess at h
   by_cases h2 : b < a
   ·have hne : ¬ a = b := fun e => by rw [e] at h2; exact absurd h2 (UInt8.lt_irrefl _)
    simp [h1, hne] at h
   ·have he : a = b := UInt8.le_antisymm (UInt8.not_lt.1 h2) (UInt8.not_lt.1 h1)
    subst he
    rw [if_neg h1, if_neg h2]
    exact cmpb_lt xs ys (by simpa [h1] using h)
theorem cmpb_self : ∀ a : List UInt8, Lib.compareBytes a a = 0
 | [] => rfl
 | a :: xs => by
  unfold Lib.compareBytes
  rw [if_neg (UInt8.lt_irrefl _), if_neg (UInt8.lt_irrefl _)]
  exact cmpb_self xs
theorem cmpT_lt {a b : ByteArray} (h : ltT a b) : Lib.compareBytes a.data.toList b.data.toList = -1 := by
 unfold ltT at h
 rw [ByteArray.toList_eq, ByteArray.toList_eq] at h
 exact cmpb_lt _ _ h
theorem cmp1_lt (x y : PairB) (h : ltP x y) (W : World) : Calls Tryz.prog 57 #[.agg #[.string x.1, .string x.2], .agg #[.string y.1, .string y.2]] W fun e w' => e = .returned (.int .i64 (-1)) ∧ Keeps [] W w' := by
 have kW : Keeps [] W ((W.alloc (.cells #[.string x.1, .string x.2] 91)).alloc (.cells #[.string y.1, .string y.2] 91)) := ((Keeps.refl [] W).alloc _).alloc _
 have Hk := Lib.hid kW
 clear kW
 rcases h with h | ⟨e, h⟩
 ·have hc := cmpT_lt h
  have hcon := fun W' => Tryz.strings_Compare x.1 y.1 W'
  rw [hc] at hcon
  have Hc := Lib.hid hcon
  clear hcon hc h
  go_enter Tryz.func57, Tryz.ntmps57
  go_wp2_with fail
  refine (Hc.out _).mono ?_
  rintro e w' ⟨rfl, rfl⟩
  go_wp2_with fail
  go_ret
  exact ⟨rfl, Hk.out⟩
 ·have hc := cmpT_lt h
  have hcon := fun W' => Tryz.strings_Compare x.2 y.2 W'
  rw [hc] at hcon
  have hcon0 := fun W' => Tryz.strings_Compare x.1 y.1 W'
  rw [e, cmpb_self] at hcon0
  have Hc := Lib.hid (And.intro hcon0 hcon)
  rw [e]
  clear hcon hcon0 hc h
  rw [e] at Hk
  go_enter Tryz.func57, Tryz.ntmps57
  go_wp2_with fail
  refine (Hc.out.1 _).mono ?_
  rintro e w' ⟨rfl, rfl⟩
  go_wp2_with fail
  refine (Hc.out.2 _).mono ?_
  rintro e w' ⟨rfl, rfl⟩
  go_wp2_with fail
  go_ret
  exact ⟨rfl, Hk.out⟩
theorem cmp1_eq (x : PairB) (W : World) : Calls Tryz.prog 57 #[.agg #[.string x.1, .string x.2], .agg #[.string x.1, .string x.2]] W fun e w' => e = .returned (.int .i64 0) ∧ Keeps [] W w' := by
 have kW : Keeps [] W ((W.alloc (.cells #[.string x.1, .string x.2] 91)).alloc (.cells #[.string x.1, .string x.2] 91)) := ((Keeps.refl [] W).alloc _).alloc _
 have Hk := Lib.hid kW
 have hcon := fun W' => Tryz.strings_Compare x.2 x.2 W'
 rw [cmpb_self] at hcon
 have hcon0 := fun W' => Tryz.strings_Compare x.1 x.1 W'
 rw [cmpb_self] at hcon0
 have Hc := Lib.hid (And.intro hcon0 hcon)
 clear hcon hcon0 kW
 go_enter Tryz.func57, Tryz.ntmps57
 go_wp2_with fail
 refine (Hc.out.1 _).mono ?_
 rintro e w' ⟨rfl, rfl⟩
 go_wp2_with fail
 refine (Hc.out.2 _).mono ?_
 rintro e w' ⟨rfl, rfl⟩
 go_wp2_with fail
 go_ret
 exact ⟨rfl, Hk.out⟩
theorem pair_row {w : World} {a : Option Addr} {n c B : Nat} {T : TypeId} {L : List PairB} (h : w.ownsRow B T 2 (.slice a n c) L.length (L.flatMap encPB)) (k : Nat) (hk : k < L.length) : ∃ b off, a = some ⟨b, off, none⟩ ∧ b < w.heap.size ∧ w.cell? ⟨b, off + k * 2, none⟩ = some (.string L[k].1) ∧ w.cell? ⟨b, off + k * 2 + 1, none⟩ = some (.string L[k].2) := by
 obtain ⟨b, off, e, _, hb, hc⟩ := sf_at (sliceFrom_row (enc := encPB) (fun _ => rfl) h) k hk
 exact ⟨b, off, e, hb, (by simpa [encPB] using hc 0 (by decide)), (by have := hc 1 (by decide); rw [← Nat.add_assoc] at this; simpa [encPB] using this)⟩
def CmpRelC (w : World) (P R : List PairB) (gk : Nat) (u : Value) (wr : World) : Prop := ∃ k, k ≤ P.length ∧ gk = P.length - k ∧ u = .int .i64 (k : Nat) ∧ k ≤ R.length ∧ cmpL (P.drop k) (R.drop k) = -1 ∧ Keeps [] w wr
theorem cmpFunc_spec (w : World) (B C : Nat) (T : TypeId) (va vb : Value) (P R : List PairB) (ha : w.ownsRow B T 2 va P.length (P.flatMap encPB)) (hb : w.ownsRow C T 2 vb R.length (R.flatMap encPB)) (hP : P.length ≤ 1000) (h : ltL P R) :
  Calls Tryz.prog 56 #[va, vb, .func (.func 57) #[] #[]] w fun e w' => e = .returned (.int .i64 (-1)) ∧ Keeps [] w w' := by
 have H := Lib.hid (And.intro ha hb)
 obtain ⟨aa, ca, rfl, -, -, -⟩ := row_slice ha
 obtain ⟨ab, cb, rfl, -, -, -⟩ := row_slice hb
 clear ha hb
 go_enter Tryz.func56, Tryz.ntmps56
 go_wp2_with fail
 go_loopg [13] P.length (CmpRelC w P R)
 case atStart => exact ⟨0, Nat.zero_le _, rfl, rfl, Nat.zero_le _, h, Keeps.refl _ _⟩
 case round =>
  obtain ⟨k, hk, hgk, rfl, hkR, hcmp, hkr⟩ := hrel
  have Hg := Lib.hid (And.intro hgk hkr)
  by_cases hlt : k < P.length
  ·have hltR : k < R.length := by
    rcases Nat.lt_or_ge k R.length with hr | hr
    ·exact hr
    ·rw [List.drop_eq_nil_of_le hr, List.drop_eq_getElem_cons hlt] at hcmp
     simp [cmpL] at hcmp
   obtain ⟨b1, o1, e1, hb1, c0, c1⟩ := pair_row (hkr.row H.out.1 (by simp)) k hlt
   obtain ⟨b2, o2, e2, hb2, d0, d1⟩ := pair_row (hkr.row H.out.2 (by simp)) k hltR
   subst e1 e2
   have hlt1 : (k : Int) < (P.length : Int) := by omega
   have hlt2 : ¬ (k : Int) ≥ (R.length : Int) := by omega
   have hlt3 : (k : Int) < (R.length : Int) := by omega
   rw [List.drop_eq_getElem_cons hlt, List.drop_eq_getElem_cons hltR] at hcmp
   have HE : Hid ((ltP P[k] R[k]) ∨ (P[k] = R[k] ∧ cmpL (P.drop (k + 1)) (R.drop (k + 1)) = -1)) := by
    apply Lib.hid
    unfold cmpL at hcmp
    split at hcmp
    ·rename_i h1; exact .inl h1
    ·split at hcmp
     ·rename_i h1; exact .inr ⟨h1, hcmp⟩
     ·exact absurd hcmp (by decide)
   clear hgk hkr hcmp
   generalize P[k] = x at c0 c1 HE
   generalize R[k] = y at d0 d1 HE
   have kW : Keeps [] w ((wr.alloc (.cells #[.string x.1, .string x.2] 91)).alloc (.cells #[.string y.1, .string y.2] 91)) := (Hg.out.2.alloc _).alloc _
   have nx := (Keeps.refl [] _).alloc (.cells #[.string y.1, .string y.2] 91) |>.at_ (heap_new wr (.cells #[.string x.1, .string x.2] 91)) (by simp)
   have ny := heap_new (wr.alloc (.cells #[.string x.1, .string x.2] 91)) (.cells #[.string y.1, .string y.2] 91)
   rw [World.size_alloc] at ny
   go_upto_region 7 with fail
   generalize (wr.alloc (.cells #[.string x.1, .string x.2] 91)).alloc (.cells #[.string y.1, .string y.2] 91) = W2 at kW nx ny ⊢
   have cx := cells_at nx
   have cy := cells_at ny
   have lx := lt_of_at nx
   have ly := lt_of_at ny
   have HK := Lib.hid kW
   clear c0 c1 d0 d1 hb1 hb2 kW nx ny
   generalize wr.heap.size = q at cx cy lx ly ⊢
   rcases HE.out with h1 | ⟨h1, h2⟩
   ·have Hc := Lib.hid (cmp1_lt x y h1)
    clear h1 HE
    go_wp2_with (refine wpList_call_value rfl _ _ _ rfl 57 #[] #[] rfl ⟨_, Tryz.func57, by kernel_rfl, by kernel_rfl⟩ ?_)
    refine (Hc.out _).mono ?_
    rintro e w5 ⟨rfl, hk5⟩
    have H5 := Lib.hid (HK.out.trans hk5)
    clear hk5
    go_wp2_with fail
    go_ret
    exact ⟨rfl, H5.out⟩
   ·subst h1
    have Hc := Lib.hid (cmp1_eq x)
    have H2 := Lib.hid h2
    clear h2 HE
    go_wp2_with (refine wpList_call_value rfl _ _ _ rfl 57 #[] #[] rfl ⟨_, Tryz.func57, by kernel_rfl, by kernel_rfl⟩ ?_)
    refine (Hc.out _).mono ?_
    rintro e w5 ⟨rfl, hk5⟩
    have H5 := Lib.hid (HK.out.trans hk5)
    clear hk5
    go_wp2_with fail
    go_roundg (P.length - (k + 1))
    case measure => have := Hg.out.1; omega
    case rel => exact ⟨k + 1, hlt, rfl, by go_num, hltR, H2.out, H5.out⟩
  ·have hkP : k = P.length := by omega
   have hltR : k < R.length := by
    rcases Nat.lt_or_ge k R.length with hr | hr
    ·exact hr
    ·rw [List.drop_eq_nil_of_le hr, List.drop_eq_nil_of_le (by omega)] at hcmp
     simp [cmpL] at hcmp
   have hlt1 : ¬ (k : Int) < (P.length : Int) := by omega
   have hlt2 : (P.length : Int) < (R.length : Int) := by omega
   clear hgk hkr hcmp hkP
   go_wp2_with fail
   go_ret
   exact ⟨rfl, Hg.out.2⟩
theorem labCompare_spec (w : World) (B C : Nat) (T : TypeId) (va vb : Value) (P R : List PairB) (ha : w.ownsRow B T 2 va P.length (P.flatMap encPB)) (hb : w.ownsRow C T 2 vb R.length (R.flatMap encPB)) (hP : P.length ≤ 1000) (h : ltL P R) :
  Calls Tryz.prog 30 #[va, vb] w fun e w' => e = .returned (.int .i64 (-1)) ∧ Keeps [] w w' := by
 have Hc := Lib.hid (cmpFunc_spec w B C T va vb P R ha hb hP h)
 clear ha hb h
 go_enter Tryz.func30, Tryz.ntmps30
 go_wp2_with fail
 refine Hc.out.mono ?_
 rintro e w5 ⟨rfl, hk5⟩
 have H5 := Lib.hid hk5
 clear hk5
 go_wp2_with fail
 go_ret
 exact ⟨rfl, H5.out⟩
def GoodRel (w : World) (n gk : Nat) (u : Value) (wr : World) : Prop := ∃ k, k ≤ n ∧ gk = n - k ∧ u = .int .i64 (k : Nat) ∧ Keeps [] w wr
def GoodIn (w : World) (n gk : Nat) (u5 : Value) (wr : World) : Prop := ∃ k, 1 ≤ k ∧ (k ≤ n ∨ k = 1) ∧ gk = n - k ∧ u5 = .int .i64 (k : Nat) ∧ Keeps [] w wr
def GoodMid (w : World) (c : Value) (wc : World) : Prop := c = .bool false ∧ Keeps [] w wc
theorem good_spec (w : World) (B : Nat) (v : Value) (A : TabT) (h : TabAt 76 91 B w v A) (hg : GoodT A) (hf : FewT A) :
  Calls Tryz.prog 12 #[v] w fun e w' => e = .returned (.bool true) ∧ Keeps [] w w' := by
 have H := Lib.hid (And.intro h (And.intro hg hf))
 obtain ⟨a0, c0, rfl⟩ := h.form
 have hA := hf.1
 clear h hg hf
 go_enter Tryz.func12, Tryz.ntmps12
 go_wp2_with fail
 go_loopg [8] A.length (GoodRel w A.length)
 case atStart => exact ⟨0, Nat.zero_le _, rfl, rfl, Keeps.refl _ _⟩
 case round =>
  obtain ⟨k, hk, hgk, rfl, hkr⟩ := hrel
  have Hg := Lib.hid (And.intro hgk hkr)
  by_cases hlt : k < A.length
  ·have hT := H.out.1.keep hkr
   obtain ⟨b, off, u1, u2, e1, hb, d0, d1, r1, r2⟩ := hT.at_ k hlt
   subst e1
   obtain ⟨a1, n1, rfl, -, -, -⟩ := row_slice r1
   obtain ⟨a2, n2, rfl, -, -, -⟩ := row_slice r2
   have hlt1 : (k : Int) < (A.length : Int) := by omega
   have kW : Keeps [] wr (wr.alloc (.cells #[.slice a1 A[k].1.length n1, .slice a2 A[k].2.length n2] 76)) := (Keeps.refl [] wr).alloc _
   have nx := heap_new wr (.cells #[.slice a1 A[k].1.length n1, .slice a2 A[k].2.length n2] 76)
   go_upto_region 4 with fail
   have HA := Lib.hid (And.intro hT (And.intro r1 r2))
   generalize wr.alloc (.cells #[.slice a1 A[k].1.length n1, .slice a2 A[k].2.length n2] 76) = W at kW nx ⊢
   generalize wr.heap.size = q at nx ⊢
   have HW := Lib.hid kW
   have dx := cells_at nx
   have lq := lt_of_at nx
   go_cut [26] from 13 to 25 (GoodMid W)
   case first =>
    by_cases hk0 : k = 0
    ·have hz : decide (0 < k) = false := by simp [hk0]
     clear hk0
     go_quiet (fail)
     go_wp2_with fail
     go_meet
     case rel => exact ⟨rfl, (Keeps.refl [] _).drewN _⟩
    ·obtain ⟨j, hj⟩ : ∃ j, k = j + 1 := ⟨k - 1, by omega⟩
     have hz : decide (0 < k) = true := by simp; omega
     have hkj : (k : Int) - 1 = (j : Int) := by omega
     have hjw : IntKind.i64.wrap (j : Int) = (j : Int) := IntWalk.i64_in _ (by omega)
     obtain ⟨b', off', u1, u2, e1, hb', f0, f1, s1, s2⟩ := hT.at_ j (by omega)
     injection e1 with e1
     injection e1 with e1 e2 _
     subst e1 e2
     obtain ⟨a3, n3, rfl, -, -, -⟩ := row_slice s1
     have hlt2 : (j : Int) < (A.length : Int) := by omega
     obtain ⟨W0, hW0⟩ : ∃ W0, W0 = W.drew := ⟨_, rfl⟩
     have k0 : Keeps [] wr W0 := by rw [hW0]; exact kW.drew
     have D0 : ∀ s : Kept W0, s.val.cell? ⟨b, off + j * 2, none⟩ = some (.slice a3 A[j].1.length n3) := keptCell ((k0.cell hb (by simp)).trans f0)
     have n0 : W0.heap[q]? = some (.cells #[.slice a1 A[k].1.length n1, .slice a2 A[k].2.length n2] 76 (0, 0)) := by rw [hW0]; exact nx
     have D1 : ∀ s : Kept W0, s.val.cell? ⟨q, 0, none⟩ = some (.slice a1 A[k].1.length n1) := keptCell (by rw [cells_at n0]; rfl)
     have hltL : ltL A[j].1 A[k].1 := List.pairwise_iff_getElem.1 H.out.2.1.rows j k (by omega) hlt (by omega)
     have Hc := Lib.hid (labCompare_spec W0 0 0 _ _ _ _ _ (k0.row s1 (by simp)) (k0.row r1 (by simp)) (H.out.2.2.2 _ (List.getElem_mem (by omega))).1 hltL)
     have HW0 := Lib.hid hW0
     refine wp_region_held_drew (S := KeptS W0) (by kernel_rfl) (by rw [← HW0.out]; exact keptS (Keeps.refl _ _)) (fun hS => ?_)
     rw [← HW0.out] at hS ⊢
     generalize A[j].1 = PJ at D0 Hc
     clear f0 f1 s1 s2 hltL d0 d1 r1 r2 hT hW0 n0 hj
     refine tk (v := ?_) 0 rfl ?_ ?_; rotate_left
     ·rintro _ ⟨s, rfl⟩; go_simp; (try with_reducible rfl)
     simp only [Act.put, zz]
     refine tk (v := ?_) 1 rfl ?_ ?_; rotate_left
     ·rintro _ ⟨s, rfl⟩; go_simp; (try with_reducible rfl)
     simp only [Act.put, zz]
     refine tk (v := ?_) 2 rfl ?_ ?_; rotate_left
     ·rintro _ ⟨s, rfl⟩; go_simp; (try with_reducible rfl)
     simp only [Act.put, zz]
     refine tk (v := ?_) 3 rfl ?_ ?_; rotate_left
     ·rintro _ ⟨s, rfl⟩; go_simp; (try with_reducible rfl)
     simp only [Act.put, zz]
     refine tk (v := ?_) 4 rfl ?_ ?_; rotate_left
     ·rintro _ ⟨s, rfl⟩; go_simp; (try with_reducible rfl)
     simp only [Act.put, zz]
     refine tk (v := ?_) 5 rfl ?_ ?_; rotate_left
     ·rintro _ ⟨s, rfl⟩; go_simp; (try with_reducible rfl)
     simp only [Act.put, zz]
     refine tk (v := ?_) 6 rfl ?_ ?_; rotate_left
     ·rintro _ ⟨s, rfl⟩; go_simp; (try with_reducible rfl)
     simp only [Act.put, zz]
     refine tk (v := ?_) 7 rfl ?_ ?_; rotate_left
     ·rintro _ ⟨s, rfl⟩; go_simp; (try with_reducible rfl)
     simp only [Act.put, zz]
     refine tk (v := ?_) 8 rfl ?_ ?_; rotate_left
     ·rintro _ ⟨s, rfl⟩; go_simp; (try with_reducible rfl)
     simp only [Act.put, zz]
     refine tk (v := ?_) 9 rfl ?_ ?_; rotate_left
     ·rintro _ ⟨s, rfl⟩; go_simp; (try with_reducible rfl)
     simp only [Act.put, zz]
     refine tk (v := ?_) 10 rfl ?_ ?_; rotate_left
     ·rintro _ ⟨s, rfl⟩; go_simp; (try with_reducible rfl)
     simp only [Act.put, zz]
     refine rd 11 rfl fun K hK => ?_
     go_simp
     go_at_call 30
     refine Hc.out.mono ?_
     rintro e w5 ⟨rfl, hk5⟩
     have H5 := Lib.hid hk5
     clear hk5
     go_simp
     refine hK.out _ _ (keptS H5.out) (fun hS => ?_)
     clear hK K
     try simp only [Act.put, zz]
     refine tk (v := ?_) 12 rfl ?_ ?_; rotate_left
     ·rintro _ ⟨s, rfl⟩; go_simp; (try with_reducible rfl)
     simp only [Act.put, zz]
     refine tk (v := ?_) 13 rfl ?_ ?_; rotate_left
     ·rintro _ ⟨s, rfl⟩; go_simp; (try with_reducible rfl)
     simp only [Act.put, zz]
     refine wpAnyH_done (by kernel_rfl) ?_ _
     clear D0 D1 hS
     go_wp2_with fail
     go_meet
     case rel => exact ⟨rfl, Keeps.trans (by rw [HW0.out]; exact (Keeps.refl [] _).drew) H5.out⟩
   case rest =>
    obtain ⟨rfl, hk1⟩ := hcut
    have n1 := hk1.at_ nx (by simp)
    have r3 := hk1.row (kW.row HA.out.2.2 (by simp)) (by simp)
    have H1 := Lib.hid (And.intro n1 (And.intro r3 (Keeps.trans Hg.out.2 (kW.trans hk1))))
    clear dx lq nx kW hk1 HW n1 r3 hgk hkr hT d0 d1 r1 r2 hb
    have hris := (H.out.2.1.smps _ (List.getElem_mem hlt)).1
    have hlen := (H.out.2.2.2 _ (List.getElem_mem hlt)).2
    generalize A[k].1.length = m1 at H1 ⊢
    generalize A[k].2 = L at H1 hris hlen HA ⊢
    have cq := cells_at H1.out.1
    have lq := lt_of_at H1.out.1
    go_wp2_with fail
    go_loopg [5] (L.length - 1) (GoodIn wc L.length)
    case atStart => exact ⟨1, Nat.le_refl _, .inr rfl, rfl, rfl, Keeps.refl _ _⟩
    case round =>
     obtain ⟨i, hi1, hi2, hgi, rfl, hki⟩ := hrel
     have Hi := Lib.hid (And.intro hgi hki)
     have n2 := hki.at_ H1.out.1 (by simp)
     have r2 := hki.row H1.out.2.1 (by simp)
     clear cq lq
     have cq := cells_at n2
     have lq := lt_of_at n2
     by_cases hlti : i < L.length
     ·obtain ⟨j, hj⟩ : ∃ j, i = j + 1 := ⟨i - 1, by omega⟩
      have hij : (i : Int) - 1 = (j : Int) := by omega
      obtain ⟨b3, o3, e3, hb3, f0, f1⟩ := smp_at r2 i hlti
      subst e3
      obtain ⟨b4, o4, e4, hb4, g0, g1⟩ := smp_at r2 j (by omega)
      injection e4 with e4
      injection e4 with e4 e5 _
      subst e4 e5
      have hlt2 : (i : Int) < (L.length : Int) := by omega
      have hlt3 : (j : Int) < (L.length : Int) := by omega
      have hts : L[j].1 < L[i].1 := List.pairwise_iff_getElem.1 hris j i (by omega) hlti (by omega)
      have Hn := Lib.hid hj
      clear f1 g1
      generalize L[j].1 = tj at g0 hts
      generalize L[i].1 = ti at f0 hts
      clear hj n2 r2 hgi hki
      have hts' : ¬ tj ≥ ti := by omega
      have hts2 : decide (ti ≤ tj) = false := by simp; omega
      go_upto_region 9 with fail
      go_quiet (fail)
      go_wp2_with fail
      go_roundg (L.length - (i + 1))
      case measure => have := Hi.out.1; omega
      case rel => exact ⟨i + 1, by omega, by omega, rfl, by go_num, Hi.out.2.drewN _⟩
     ·have hlt2 : ¬ (i : Int) < (L.length : Int) := by omega
      clear n2 r2 hgi hki
      go_wp2_with fail
      go_roundg (A.length - (k + 1))
      case measure => have := Hg.out.1; omega
      case rel => exact ⟨k + 1, hlt, rfl, by go_num, H1.out.2.2.trans Hi.out.2⟩
  ·have hlt1 : ¬ (k : Int) < (A.length : Int) := by omega
   clear hgk hkr
   go_wp2_with fail
   go_ret
   exact ⟨rfl, Hg.out.2⟩
def CountRel (w : World) (A : TabT) (gk : Nat) (u3 u8 : Value) (wr : World) : Prop := ∃ k, k ≤ A.length ∧ gk = A.length - k ∧ u8 = .int .i64 (k : Nat) ∧ u3 = .int .i64 (((A.take k).map fun r => r.2.length).sum : Nat) ∧ Keeps [] w wr
def countL (A : TabT) : Nat := (A.map fun r => r.2.length).sum
theorem countL_le {A : TabT} {m : Nat} (h : ∀ r ∈ A, r.2.length ≤ m) : countL A ≤ A.length * m := by
 unfold countL
 induction A with
 | nil => simp
 | cons r A ih =>
  have h1 := h r (by simp)
  have h2 := ih fun x hx => h x (by simp [hx])
  simp only [List.map_cons, List.sum_cons, List.length_cons, Nat.add_mul]
  omega
theorem countL_ge {A : TabT} (h : ∀ r ∈ A, r.2 ≠ []) : A.length ≤ countL A := by
 unfold countL
 induction A with
 | nil => simp
 | cons r A ih =>
  have h1 : r.2.length ≠ 0 := fun e => h r (by simp) (List.eq_nil_of_length_eq_zero e)
  have h2 := ih fun x hx => h x (by simp [hx])
  simp only [List.map_cons, List.sum_cons, List.length_cons]
  omega
theorem count_spec (w : World) (B : Nat) (v : Value) (A : TabT) (h : TabAt 76 91 B w v A) (hf : FewT A) :
  Calls Tryz.prog 66 #[v] w fun e w' => e = .returned (.int .i64 (countL A : Nat)) ∧ Keeps [] w w' := by
 have H := Lib.hid (And.intro h hf)
 obtain ⟨a0, c0, rfl⟩ := h.form
 have hA := hf.1
 have hbig : ∀ k, ((A.take k).map fun r => r.2.length).sum ≤ 100 * 500 := fun k => by
  have h1 := countL_le (A := A.take k) (m := 500) fun r hr => (hf.2 r (List.mem_of_mem_take hr)).2
  have h2 : (A.take k).length ≤ 100 := by rw [List.length_take]; omega
  exact Nat.le_trans h1 (Nat.mul_le_mul_right _ h2)
 have Hbig := Lib.hid hbig
 clear h hf hbig
 go_enter Tryz.func66, Tryz.ntmps66
 go_wp2_with fail
 go_loopg [3, 8] A.length (CountRel w A)
 case atStart => exact ⟨0, Nat.zero_le _, rfl, rfl, rfl, Keeps.refl _ _⟩
 case round =>
  obtain ⟨k, hk, hgk, rfl, rfl, hkr⟩ := hrel
  have Hg := Lib.hid (And.intro hgk hkr)
  have hsm := Hbig.out k
  obtain ⟨S, hS⟩ : ∃ S, S = ((A.take k).map fun r => r.2.length).sum := ⟨_, rfl⟩
  rw [← hS] at hsm ⊢
  by_cases hlt : k < A.length
  ·have hT := H.out.1.keep hkr
   obtain ⟨b, off, u1, u2, e1, hb, d0, d1, r1, r2⟩ := hT.at_ k hlt
   subst e1
   obtain ⟨a1, n1, rfl, -, -, -⟩ := row_slice r1
   obtain ⟨a2, n2, rfl, -, -, -⟩ := row_slice r2
   have hlt1 : (k : Int) < (A.length : Int) := by omega
   have hl5 := (H.out.2.2 _ (List.getElem_mem hlt)).2
   have hnx : Hid (((A.take (k + 1)).map fun r => r.2.length).sum = S + A[k].2.length) := by
    apply Lib.hid
    rw [List.take_succ_eq_append_getElem hlt, List.map_append, List.sum_append, hS]
    simp
   have kW : Keeps [] w (wr.alloc (.cells #[.slice a1 A[k].1.length n1, .slice a2 A[k].2.length n2] 76)) := hkr.alloc _
   have HK := Lib.hid kW
   clear hT r1 r2 hS hgk hkr kW
   generalize A[k].2.length = z at d1 hl5 hnx HK
   generalize A[k].1.length = z1 at d0 HK
   go_wp2_with fail
   go_roundg (A.length - (k + 1))
   case measure => have := Hg.out.1; omega
   case rel => exact ⟨k + 1, hlt, rfl, by go_num, by rw [hnx.out]; go_num, HK.out⟩
  ·have hlt1 : ¬ (k : Int) < (A.length : Int) := by omega
   have hend : Hid (S = countL A) := by
    apply Lib.hid
    rw [hS, List.take_of_length_le (by omega)]
    rfl
   clear hgk hkr hS
   go_wp2_with fail
   go_ret
   exact ⟨by rw [← hend.out]; rfl, Hg.out.2⟩
end Go.Proofs.YtgcfkhcogllgfaaGreatDoor
