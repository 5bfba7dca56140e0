/-
  Package barographlaw14: Labels, and the document's half of Table, walked.
  The library's variable internal/bytealg.MaxLen holds some number.

  Arguments of the laws on tables: samples, each a name, a time, a value; and plain facts on the tables that they make.
  No condition beyond those that each theorem states.

  What the tables of the laws on tables hold: labels of five kinds, times below a thousand, values of 64 bits.
  No condition beyond those that each theorem states.

  Package label: Compare of two sets, the first of which comes first (slices.CompareFunc, walked): -1.
  No condition beyond those that each theorem states.

  Package merge: Good at a table by rising labels and times, Count.
  No condition beyond those that each theorem states.
-/
import Derived.Test.YtgdkceeonnfejaaGreatDoorTabLaw
import Derived.Test.YtgdkceeonnfejaaGreatDoorLabelN
import Derived.Test.YtgdkceeonnfejaaGreatDoorGetP
import Derived.Test.YtgdkceeonnfejaaGreatDoorArgs
import Derived.Test.YtgdkceeonnfejaaGreatDoorShelfA
import Derived.Deep.CutRange
namespace Go.Proofs.YtgdkceeonnfejaaGreatDoor
set_option maxRecDepth 100000
set_option maxHeartbeats 1000000
set_option linter.unusedSimpArgs false
open Go Go.RowKit
def labA1 : List PairB := [(⟨#[97]⟩, ⟨#[49]⟩)]
def labA1B2 : List PairB := [(⟨#[97]⟩, ⟨#[49]⟩), (⟨#[98]⟩, ⟨#[50]⟩)]
def labA2 : List PairB := [(⟨#[97]⟩, ⟨#[50]⟩)]
def labB1 : List PairB := [(⟨#[98]⟩, ⟨#[49]⟩)]
def labJ : List PairB := [(⟨#[106, 111, 98]⟩, ⟨#[120]⟩)]
def labN (n : Int) : List PairB := if n % 5 = 0 then labA1 else if n % 5 = 1 then labA1B2 else if n % 5 = 2 then labA2 else if n % 5 = 3 then labB1 else labJ
theorem labN_len (n : Int) : (labN n).length ≤ 2 := by
 unfold labN
 repeat' split
 all_goals decide
theorem labelsO_spec (w : World) (hv : LibVar w) (n : Int) (h0 : 0 ≤ n) :
  Calls Tryz.prog 35 #[.int .u8 n] w fun e w' => ∃ v, e = .returned v ∧ w'.ownsRow 0 149 2 v (labN n).length ((labN n).flatMap encPB) ∧ Keeps [] w w' := by
 obtain ⟨W, hW⟩ : ∃ W, W = w.alloc (.cells #[.string ⟨#[97, 61, 49]⟩, .string ⟨#[97, 61, 49, 44, 98, 61, 50]⟩, .string ⟨#[97, 61, 50]⟩, .string ⟨#[98, 61, 49]⟩, .string ⟨#[106, 111, 98, 61, 120]⟩] 9) := ⟨_, rfl⟩
 have kW : Keeps [] w W := by rw [hW]; exact (Keeps.refl [] w).alloc _
 have H0 := Lib.hid (And.intro (go1 kW hv) kW)
 have HW := Lib.hid hW
 clear kW hW hv
 have hm : n % 5 = 0 ∨ n % 5 = 1 ∨ n % 5 = 2 ∨ n % 5 = 3 ∨ n % 5 = 4 := by omega
 obtain ⟨R, hR⟩ : ∃ R, R = labN n := ⟨_, rfl⟩
 rw [← hR]
 have HR := Lib.hid hR
 clear hR
 rcases hm with hm | hm | hm | hm | hm
 all_goals
  have Hm := Lib.hid hm
  go_enter Tryz.func35, Tryz.ntmps35
  go_wp2_with fail
  rw [← HW.out]
 ·refine (labParseO_spec W H0.out.1 ⟨#[97, 61, 49]⟩ (by decide) labA1 (by decide +kernel) (by decide) (by decide) (by decide +kernel)).mono ?_
  rintro e w2 ⟨v2, rfl, hs2, hk2⟩
  rw [show sortP labA1 = labA1 from by decide +kernel] at hs2
  have H2 := Lib.hid (And.intro hs2 (H0.out.2.trans hk2))
  obtain ⟨a2, c2, rfl, -, -, -⟩ := row_slice hs2
  clear hk2
  go_wp2_with fail
  go_ret
  exact ⟨_, rfl, by rw [HR.out]; unfold labN; rw [if_pos Hm.out]; exact H2.out.1, H2.out.2⟩
 ·refine (labParseO_spec W H0.out.1 ⟨#[97, 61, 49, 44, 98, 61, 50]⟩ (by decide) labA1B2 (by decide +kernel) (by decide) (by decide) (by decide +kernel)).mono ?_
  rintro e w2 ⟨v2, rfl, hs2, hk2⟩
  rw [show sortP labA1B2 = labA1B2 from by decide +kernel] at hs2
  have H2 := Lib.hid (And.intro hs2 (H0.out.2.trans hk2))
  obtain ⟨a2, c2, rfl, -, -, -⟩ := row_slice hs2
  clear hk2
  go_wp2_with fail
  go_ret
  exact ⟨_, rfl, by rw [HR.out]; unfold labN; rw [Hm.out, if_neg (by decide), if_pos rfl]; exact H2.out.1, H2.out.2⟩
 ·refine (labParseO_spec W H0.out.1 ⟨#[97, 61, 50]⟩ (by decide) labA2 (by decide +kernel) (by decide) (by decide) (by decide +kernel)).mono ?_
  rintro e w2 ⟨v2, rfl, hs2, hk2⟩
  rw [show sortP labA2 = labA2 from by decide +kernel] at hs2
  have H2 := Lib.hid (And.intro hs2 (H0.out.2.trans hk2))
  obtain ⟨a2, c2, rfl, -, -, -⟩ := row_slice hs2
  clear hk2
  go_wp2_with fail
  go_ret
  exact ⟨_, rfl, by rw [HR.out]; unfold labN; rw [Hm.out, if_neg (by decide), if_neg (by decide), if_pos rfl]; exact H2.out.1, H2.out.2⟩
 ·refine (labParseO_spec W H0.out.1 ⟨#[98, 61, 49]⟩ (by decide) labB1 (by decide +kernel) (by decide) (by decide) (by decide +kernel)).mono ?_
  rintro e w2 ⟨v2, rfl, hs2, hk2⟩
  rw [show sortP labB1 = labB1 from by decide +kernel] at hs2
  have H2 := Lib.hid (And.intro hs2 (H0.out.2.trans hk2))
  obtain ⟨a2, c2, rfl, -, -, -⟩ := row_slice hs2
  clear hk2
  go_wp2_with fail
  go_ret
  exact ⟨_, rfl, by rw [HR.out]; unfold labN; rw [Hm.out, if_neg (by decide), if_neg (by decide), if_neg (by decide), if_pos rfl]; exact H2.out.1, H2.out.2⟩
 ·refine (labParseO_spec W H0.out.1 ⟨#[106, 111, 98, 61, 120]⟩ (by decide) labJ (by decide +kernel) (by decide) (by decide) (by decide +kernel)).mono ?_
  rintro e w2 ⟨v2, rfl, hs2, hk2⟩
  rw [show sortP labJ = labJ from by decide +kernel] at hs2
  have H2 := Lib.hid (And.intro hs2 (H0.out.2.trans hk2))
  obtain ⟨a2, c2, rfl, -, -, -⟩ := row_slice hs2
  clear hk2
  go_wp2_with fail
  go_ret
  exact ⟨_, rfl, by rw [HR.out]; unfold labN; rw [Hm.out, if_neg (by decide), if_neg (by decide), if_neg (by decide), if_neg (by decide)]; exact H2.out.1, H2.out.2⟩
/-! ## Table -/
abbrev One14 := Int × Int × Int
def encO14 (x : One14) : List Value := [.int .u8 x.1, .int .i64 x.2.1, .int .u64 x.2.2]
theorem o14_at {w : World} {v : Value} {L : List One14} (h : SliceArg 3 encO14 w v L) (k : Nat) (hk : k < L.length) : ∃ b off cap, v = .slice (some ⟨b, off, none⟩) L.length cap ∧ b < w.heap.size ∧ w.cell? ⟨b, off + k * 3, none⟩ = some (.int .u8 L[k].1) ∧ w.cell? ⟨b, off + k * 3 + 1, none⟩ = some (.int .i64 L[k].2.1) ∧ w.cell? ⟨b, off + k * 3 + 2, none⟩ = some (.int .u64 L[k].2.2) := by
 obtain ⟨ao, cap, e, hl, h⟩ := h
 obtain ⟨b, off, e2, hb, hc⟩ := h k hk
 subst e2
 exact ⟨b, off, cap, e, hb, hc 0 (by decide), (by have := hc 1 (by decide); rw [← Nat.add_assoc] at this; exact this), (by have := hc 2 (by decide); rw [← Nat.add_assoc] at this; exact this)⟩
open Go Go.RowKit Go.ChangeShapes Go.WideShapes Go.Deep
open Go Go.RowKit Go.ChangeShapes Go.WideShapes Go.Deep
def O14W (w : World) (v : Value) : Prop := ∃ L : List One14, SliceArg 3 encO14 w v L ∧ ∀ x ∈ L, 0 ≤ x.1 ∧ 0 ≤ x.2.2 ∧ x.2.2 < 18446744073709551616
theorem open_o14w {H : Type} {e0 : TypeId × Value → H} {W : World} {r : Reach} {b0 : Nat} {v : Value} {d : DataW H} {p : List MemPlace} (hok : Value.okWide Tryz.prog W r b0 22 v) (h : DataW.Trod e0 Tryz.prog W 0 (fun _ => true) true 22 v d p) : O14W W v := by
 refine open_structArg (fs := _) encO14 (fun _ x => 0 ≤ x.1 ∧ 0 ≤ x.2.2 ∧ x.2.2 < 18446744073709551616) Tryz.underlying22 Tryz.underlying94 (by kernel_rfl) (by kernel_rfl) (Nat.zero_lt_succ _) ?_ hok h
 intro us n hl hf
 obtain ⟨y0, u0, g0, h0⟩ := hf 0 _ rfl
 obtain ⟨y1, u1, g1, h1⟩ := hf 1 _ rfl
 obtain ⟨y2, u2, g2, h2⟩ := hf 2 _ rfl
 obtain ⟨n0, e0', _, hw⟩ := DataW.trod_int Tryz.underlying5 h0
 obtain ⟨n1, e1, _, _⟩ := DataW.trod_int Tryz.underlying2 h1
 obtain ⟨n2, e2, _, hw2⟩ := DataW.trod_int Tryz.underlying40 h2
 simp only [List.cons.injEq, and_true] at e0' e1 e2
 subst e0' e1 e2
 have h0' : 0 ≤ n0 := by
  simp [Lit.wf, IntKind.min, IntKind.max, IntKind.signed, IntKind.bits] at hw
  omega
 have h2' : 0 ≤ n2 ∧ n2 < 18446744073709551616 := by
  simp [Lit.wf, IntKind.min, IntKind.max, IntKind.signed, IntKind.bits] at hw2
  omega
 refine ⟨⟨n0, n1, n2⟩, ⟨h0', h2'⟩, ?_⟩
 match us, hl with
 | [a0, a1, a2], _ =>
  simp only [List.getElem?_cons_zero, List.getElem?_cons_succ, Option.some.injEq] at g0 g1 g2
  subst g0 g1 g2
  rfl
open Go Go.RowKit Go.Conc
open Go.Op (bytesLess)
theorem cmpb_lt : ∀ a b : List UInt8, bytesLess a b = true → Lib.compareBytes a b = -1
 | [], [], h => by simp [bytesLess] at h
 | [], _ :: _, _ => rfl
 | _ :: _, [], h => by simp [bytesLess] at h
 | a :: xs, b :: ys, h => by
  unfold Lib.compareBytes
  by_cases h1 : a < b
  ·rw [if_pos h1]
  ·unfold bytesLess at h
   by_cases h2 : b < a
   ·have hne : ¬ a = b := fun e => by rw [e] at h2; exact absurd h2 (UInt8.lt_irrefl _)
    simp [h1, hne] at h
   ·have he : a = b := UInt8.le_antisymm (UInt8.not_lt.1 h2) (UInt8.not_lt.1 h1)
    subst he
    rw [if_neg h1, if_neg h2]
    exact cmpb_lt xs ys (by simpa [h1] using h)
theorem cmpb_self : ∀ a : List UInt8, Lib.compareBytes a a = 0
 | [] => rfl
 | a :: xs => by
  unfold Lib.compareBytes
  rw [if_neg (UInt8.lt_irrefl _), if_neg (UInt8.lt_irrefl _)]
  exact cmpb_self xs
theorem cmpT_lt {a b : ByteArray} (h : ltT a b) : Lib.compareBytes a.data.toList b.data.toList = -1 := by
 unfold ltT at h
 rw [ByteArray.toList_eq, ByteArray.toList_eq] at h
 exact cmpb_lt _ _ h
theorem pair_row {w : World} {a : Option Addr} {n c B : Nat} {T : TypeId} {L : List PairB} (h : w.ownsRow B T 2 (.slice a n c) L.length (L.flatMap encPB)) (k : Nat) (hk : k < L.length) : ∃ b off, a = some ⟨b, off, none⟩ ∧ b < w.heap.size ∧ w.cell? ⟨b, off + k * 2, none⟩ = some (.string L[k].1) ∧ w.cell? ⟨b, off + k * 2 + 1, none⟩ = some (.string L[k].2) := by
 obtain ⟨b, off, e, _, hb, hc⟩ := sf_at (sliceFrom_row (enc := encPB) (fun _ => rfl) h) k hk
 exact ⟨b, off, e, hb, (by simpa [encPB] using hc 0 (by decide)), (by have := hc 1 (by decide); rw [← Nat.add_assoc] at this; simpa [encPB] using this)⟩
end Go.Proofs.YtgdkceeonnfejaaGreatDoor
