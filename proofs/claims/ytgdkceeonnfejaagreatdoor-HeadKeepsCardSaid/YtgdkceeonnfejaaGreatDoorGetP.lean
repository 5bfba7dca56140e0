/-
  The value of a name in a set of pairs: the program's Get and the document's.
  No condition beyond those that each theorem states.

  Does a matcher fit a value: the program's Fits and the document's.
  The matcher is one that may be: kind 1 to 4, at least one value.

  Does a matcher fit a value: the document's Fits.
  The matcher is one that may be: kind 1 to 4, at least one value.

  Do matchers match a set of pairs: the program's Match and the document's.
  Every matcher is one that may be: kind 1 to 4, at least one value.

  A plain text: at most 40 bytes, none of them a sign: the document's.
  No condition beyond those that each theorem states.

  Which matchers may be: the document's Check.
  The texts are no longer than a slice may be.

  Package barographlaw13: short: a matcher's name and its first twelve values, each cut to 42 bytes.
  No condition beyond those that each theorem states.

  Package barographlaw13: Few: at most four matchers that may be, as the program's and as the document's.
  No condition beyond those that each theorem states.

  Rows of pairs as arguments; matchers and arguments kept.
  No condition beyond those that each theorem states.
-/
import Derived.Test.YtgdkceeonnfejaaGreatDoorPairs
import Derived.Test.YtgdkceeonnfejaaGreatDoorShelfA
import Derived.Lib.SlicesS
import Derived.Lib.SlBytesConst
import Derived.Test.YtgdkceeonnfejaaGreatDoorRegion
import Derived.Test.YtgdkceeonnfejaaGreatDoorLabel1
namespace Go.Proofs.YtgdkceeonnfejaaGreatDoor
set_option maxRecDepth 100000
set_option maxHeartbeats 1000000
set_option linter.unusedSimpArgs false
open Go Go.RowKit
def getP : List PairB → ByteArray → ByteArray
 | [], _ => ⟨#[]⟩
 | p :: r, x => if p.1 = x then p.2 else getP r x
def encS1 (s : ByteArray) : List Value := [.string s]
def fitsB (k : Int) (V : List ByteArray) (x : ByteArray) : Bool :=
 if k = 2 then !(Lib.containsS V x) else if k = 3 then decide (x ≠ ⟨#[]⟩) && Lib.hasPrefix x.data.toList (V.getD 0 ByteArray.empty).data.toList else Lib.containsS V x
theorem texts_at {w : World} {v : Value} {V : List ByteArray} (h : SliceArg 1 encS1 w v V) (hV : 0 < V.length) : ∃ b off cap, v = .slice (some ⟨b, off, none⟩) V.length cap ∧ b < w.heap.size ∧ ∀ j, j < V.length → w.cell? ⟨b, off + j, none⟩ = some (.string (V.getD j ByteArray.empty)) := by
 obtain ⟨ao, cap, e, hl, h⟩ := h
 obtain ⟨b, off, e2, hb, hc⟩ := h 0 hV
 subst e2
 refine ⟨b, off, cap, e, hb, fun j hj => ?_⟩
 obtain ⟨b', off', e3, -, hc'⟩ := h j hj
 injection e3 with e3
 injection e3 with e4 e5 _
 subst e4 e5
 have := hc' 0 (by decide)
 rw [Nat.mul_one, Nat.add_zero] at this
 rw [this, List.getD_eq_getElem?_getD, List.getElem?_eq_getElem hj]
 rfl
theorem fits_spec (w : World) (k : Int) (hk : k = 1 ∨ k = 2 ∨ k = 3 ∨ k = 4) (name : ByteArray) (v : Value) (V : List ByteArray) (h : SliceArg 1 encS1 w v V) (hV : 0 < V.length) (x : ByteArray) :
  Calls Tryz.prog 74 #[.agg #[.int .i64 k, .string name, v], .string x] w fun e w' => e = .returned (.bool (fitsB k V x)) ∧ Keeps [] w w' := by
 have hml : V.length ≤ 9223372036854775807 := by
  obtain ⟨_, _, _, hl, _⟩ := h
  unfold maxLen at hl
  omega
 obtain ⟨b, off, cap, rfl, hbW, hc⟩ := texts_at h hV
 obtain ⟨R, hR⟩ : ∃ R, R = fitsB k V x := ⟨_, rfl⟩
 rw [← hR]
 have HR := Lib.hid hR
 have kA : Keeps [] w (w.alloc (.cells #[.int .i64 k, .string name, .slice (some ⟨b, off, none⟩) V.length cap] 161)) := (Keeps.refl [] w).alloc _
 have HC := Lib.hid (show ∀ j, j < V.length → (w.alloc (.cells #[.int .i64 k, .string name, .slice (some ⟨b, off, none⟩) V.length cap] 161)).cell? ⟨b, off + j, none⟩ = some (.string (V.getD j ByteArray.empty)) from fun j hj => (kA.cell hbW (by simp)).trans (hc j hj))
 have Hk := Lib.hid kA
 have hv0 : (0 : Int) < (V.length : Int) := by omega
 clear hR hc h kA
 rcases hk with rfl | rfl | rfl | rfl
 all_goals
  go_enter Tryz.func74, Tryz.ntmps74
 ·go_wp2_with fail
  refine (Tryz.slices_Contains_string b off V.length cap V x _ (Nat.le_refl _) hml HC.out).mono ?_
  rintro e w1 ⟨rfl, rfl⟩
  rw [List.take_length]
  go_wp2_with fail
  go_ret
  exact ⟨by rw [HR.out]; rfl, Hk.out⟩
 ·go_wp2_with fail
  refine (Tryz.slices_Contains_string b off V.length cap V x _ (Nat.le_refl _) hml HC.out).mono ?_
  rintro e w1 ⟨rfl, rfl⟩
  rw [List.take_length]
  go_wp2_with fail
  go_ret
  exact ⟨by rw [HR.out]; rfl, Hk.out⟩
 ·have h0 := HC.out 0 hV
  rw [Nat.add_zero] at h0
  have hbA := Hk.out.lt hbW
  by_cases hx : x = ⟨#[]⟩
  ·subst hx
   go_wp2_with fail
   go_ret
   exact ⟨by rw [HR.out]; simp [fitsB], Hk.out⟩
  ·have hbb : (x.toList == (⟨#[]⟩ : ByteArray).toList) = false := by rw [toList_beq]; exact decide_eq_false hx
   have Hx := Lib.hid hx
   clear hx
   have hne : ¬ x.data.toList = [] := fun e => Hx.out (ba_ext e)
   have hn1 : (x.toList == []) = false := by rw [ByteArray.toList_eq]; simpa using hne
   have hn2 : (x.toList != []) = true := by rw [bne, hn1]; rfl
   have hn3 : ¬ x.toList = [] := by rw [ByteArray.toList_eq]; exact hne
   go_wp2_with fail
   refine (Tryz.strings_HasPrefix x V[0] _).mono ?_
   rintro e w1 ⟨rfl, rfl⟩
   go_wp2_with fail
   go_ret
   refine ⟨?_, Hk.out⟩
   rw [HR.out]
   have hg : V.getD 0 ByteArray.empty = V[0] := by rw [List.getD_eq_getElem?_getD, List.getElem?_eq_getElem hV]; rfl
   show Ending.returned (.bool (Lib.hasPrefix x.data.toList V[0].data.toList)) = _
   unfold fitsB
   rw [if_neg (by decide), if_pos rfl, hg, decide_eq_true Hx.out, Bool.true_and]
 ·go_wp2_with fail
  refine (Tryz.slices_Contains_string b off V.length cap V x _ (Nat.le_refl _) hml HC.out).mono ?_
  rintro e w1 ⟨rfl, rfl⟩
  rw [List.take_length]
  go_wp2_with fail
  go_ret
  exact ⟨by rw [HR.out]; rfl, Hk.out⟩
abbrev MatB := Int × ByteArray × List ByteArray
abbrev MatV := Int × ByteArray × Value
def encMV (m : MatV) : List Value := [.int .i64 m.1, .string m.2.1, m.2.2]
def MatsAt (w : World) (v : Value) (L : List MatB) : Prop :=
 ∃ E : List MatV, SliceArg 3 encMV w v E ∧ E.length = L.length ∧ ∀ i (h : i < E.length) (h' : i < L.length), E[i].1 = L[i].1 ∧ E[i].2.1 = L[i].2.1 ∧ SliceArg 1 encS1 w E[i].2.2 L[i].2.2
theorem MatsAt.keep {w w' : World} {v : Value} {L : List MatB} (h : MatsAt w v L) (k : Keeps [] w w') : MatsAt w' v L := by
 obtain ⟨E, h1, h2, h3⟩ := h
 exact ⟨E, h1.keep k, h2, fun i hi hi' => ⟨(h3 i hi hi').1, (h3 i hi hi').2.1, (h3 i hi hi').2.2.keep k⟩⟩
theorem MatsAt.form {w : World} {v : Value} {L : List MatB} (h : MatsAt w v L) : ∃ ao cap, v = .slice ao L.length cap ∧ L.length ≤ maxLen := by
 obtain ⟨E, ⟨ao, cap, e, hl, -⟩, h2, -⟩ := h
 exact ⟨ao, cap, by rw [e, h2], by omega⟩
theorem MatsAt.at_ {w : World} {v : Value} {L : List MatB} (h : MatsAt w v L) (k : Nat) (hk : k < L.length) : ∃ b off cap u, v = .slice (some ⟨b, off, none⟩) L.length cap ∧ b < w.heap.size ∧
  w.cell? ⟨b, off + k * 3, none⟩ = some (.int .i64 L[k].1) ∧ w.cell? ⟨b, off + k * 3 + 1, none⟩ = some (.string L[k].2.1) ∧ w.cell? ⟨b, off + k * 3 + 2, none⟩ = some u ∧ SliceArg 1 encS1 w u L[k].2.2 := by
 obtain ⟨E, ⟨ao, cap, e, hl, hc⟩, h2, h3⟩ := h
 have hk' : k < E.length := by omega
 obtain ⟨b, off, e2, hb, hcell⟩ := hc k hk'
 obtain ⟨x1, x2, x3⟩ := h3 k hk' hk
 subst e2
 refine ⟨b, off, cap, E[k].2.2, by rw [e, h2], hb, ?_, ?_, ?_, x3⟩
 ·rw [← x1]; exact hcell 0 (by decide)
 ·rw [← x2]; have := hcell 1 (by decide); rw [← Nat.add_assoc] at this; exact this
 ·have := hcell 2 (by decide); rw [← Nat.add_assoc] at this; exact this
def mayK (m : MatB) : Prop := (m.1 = 1 ∨ m.1 = 2 ∨ m.1 = 3 ∨ m.1 = 4) ∧ 0 < m.2.2.length
def fitsM (S : List PairB) (m : MatB) : Bool := fitsB m.1 m.2.2 (getP S m.2.1)
theorem not_empty {x : ByteArray} (h : ¬ x = ⟨#[]⟩) : (x.toList == []) = false ∧ (x.toList != []) = true ∧ ¬ x.toList = [] := by
 have hne : ¬ x.data.toList = [] := fun e => h (ba_ext e)
 have hn1 : (x.toList == []) = false := by rw [ByteArray.toList_eq]; simpa using hne
 exact ⟨hn1, by rw [bne, hn1]; rfl, by rw [ByteArray.toList_eq]; exact hne⟩
def ValsAt (B : Nat) (w : World) (E : List MatV) (L : List MatB) : Prop := E.length = L.length ∧ ∀ i (h : i < E.length) (h' : i < L.length), E[i].1 = L[i].1 ∧ E[i].2.1 = L[i].2.1 ∧ w.ownsRow B 9 1 E[i].2.2 L[i].2.2.length (L[i].2.2.map Value.string)
theorem ValsAt.keep {B : Nat} {w w' : World} {E : List MatV} {L : List MatB} {S : List Nat} (h : ValsAt B w E L) (k : Keeps S w w') (hS : ∀ v n xs, w.ownsRow B 9 1 v n xs → ∀ g, v.ownBlock = some g → g ∉ S) : ValsAt B w' E L :=
 ⟨h.1, fun i hi hi' => ⟨(h.2 i hi hi').1, (h.2 i hi hi').2.1, k.row (h.2 i hi hi').2.2 (hS _ _ _ (h.2 i hi hi').2.2)⟩⟩
theorem ValsAt.snoc {B : Nat} {w : World} {E : List MatV} {L : List MatB} (h : ValsAt B w E L) {k : Int} {n : ByteArray} {v : Value} {V : List ByteArray} (hr : w.ownsRow B 9 1 v V.length (V.map Value.string)) : ValsAt B w (E ++ [(k, n, v)]) (L ++ [(k, n, V)]) := by
 obtain ⟨h1, h2⟩ := h
 refine ⟨by simp [h1], fun i hi hi' => ?_⟩
 by_cases hlt : i < E.length
 ·rw [List.getElem_append_left hlt, List.getElem_append_left (by omega)]
  exact h2 i hlt (by omega)
 ·have e1 : i = E.length := by simp at hi; omega
  subst e1
  rw [List.getElem_append_right (Nat.le_refl _), List.getElem_append_right (by omega)]
  simp [h1]
  exact hr
instance go1Vals {w w' : World} (B : Nat) (E : List MatV) (L : List MatB) : Go1 w w' (ValsAt B w E L) (ValsAt B w' E L) := ⟨fun k h => h.keep k (fun _ _ _ _ _ _ => by simp)⟩
def RowsAt (B : Nat) (w : World) (v : Value) (L : List MatB) : Prop := ∃ E : List MatV, w.ownsRow B 161 3 v E.length (E.flatMap encMV) ∧ ValsAt B w E L
theorem RowsAt.keep {B : Nat} {w w' : World} {v : Value} {L : List MatB} (h : RowsAt B w v L) (k : Keeps [] w w') : RowsAt B w' v L := by
 obtain ⟨E, h1, h2⟩ := h
 exact ⟨E, k.row h1 (by simp), h2.keep k (fun _ _ _ _ _ _ => by simp)⟩
instance go1RowsAt {w w' : World} (B : Nat) (v : Value) (L : List MatB) : Go1 w w' (RowsAt B w v L) (RowsAt B w' v L) := ⟨fun k h => h.keep k⟩
theorem RowsAt.at_ {B : Nat} {w : World} {v : Value} {L : List MatB} (h : RowsAt B w v L) (k : Nat) (hk : k < L.length) : ∃ b cap u, v = .slice (some ⟨b, 0, none⟩) L.length cap ∧ b < w.heap.size ∧
  w.cell? ⟨b, k * 3, none⟩ = some (.int .i64 L[k].1) ∧ w.cell? ⟨b, k * 3 + 1, none⟩ = some (.string L[k].2.1) ∧ w.cell? ⟨b, k * 3 + 2, none⟩ = some u ∧ w.ownsRow B 9 1 u L[k].2.2.length (L[k].2.2.map Value.string) := by
 obtain ⟨E, hr, hl, hv⟩ := h
 have hk' : k < E.length := by omega
 obtain ⟨x1, x2, x3⟩ := hv k hk' hk
 obtain ⟨ao, cap, e, -, -, hc⟩ := row_slice hr
 obtain ⟨b, rfl, -, hb, -⟩ := hc (k * 3) (by omega)
 have cell : ∀ i, i < 3 → w.cell? ⟨b, k * 3 + i, none⟩ = (encMV E[k])[i]? := fun i hi => by
  obtain ⟨b', e2, -, -, hx⟩ := hc (k * 3 + i) (by omega)
  injection e2 with e2
  injection e2 with e2 _ _
  subst e2
  rw [hx, flatMap_at encMV 3 (fun _ => rfl) E k hk' i hi]
 refine ⟨b, cap, E[k].2.2, by rw [e, hl], hb, ?_, ?_, ?_, x3⟩
 ·rw [← x1]; exact cell 0 (by decide)
 ·rw [← x2]; exact cell 1 (by decide)
 ·exact cell 2 (by decide)
theorem row_pairs {B : Nat} {w : World} {e : TypeId} {v : Value} {P : List PairB} (h : w.ownsRow B e 2 v P.length (P.flatMap encPB)) : SliceArg 2 encPB w v P := (sliceFrom_row (enc := encPB) (fun _ => rfl) h).arg
instance go1Mats {w w' : World} (v : Value) (L : List MatB) : Go1 w w' (MatsAt w v L) (MatsAt w' v L) := ⟨fun k h => h.keep k⟩
instance go1SArg {α : Type} {w w' : World} (size : Nat) (enc : α → List Value) (v : Value) (L : List α) : Go1 w w' (SliceArg size enc w v L) (SliceArg size enc w' v L) := ⟨fun k h => h.keep k⟩
end Go.Proofs.YtgdkceeonnfejaaGreatDoor
