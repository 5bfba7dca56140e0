/-
  Does a matcher fit a value: the program's Fits and the document's.
  The matcher is one that may be: kind 1 to 4, at least one value.
-/
import Derived.Test.YtjgaidojohgenaaDoorGetP
import Derived.Test.YtjgaidojohgenaaDoorShelfM
namespace Go.Proofs.YtjgaidojohgenaaDoor
open Go Go.RowKit

def encS1 (s : ByteArray) : List Value := [.string s]

def fitsB (k : Int) (V : List ByteArray) (x : ByteArray) : Bool :=
  if k = 2 then !(Lib.containsS V x) else if k = 3 then decide (x ≠ ⟨#[]⟩) && Lib.hasPrefix x.data.toList (V.getD 0 ByteArray.empty).data.toList else Lib.containsS V x

theorem texts_at {w : World} {v : Value} {V : List ByteArray} (h : SliceArg 1 encS1 w v V) (hV : 0 < V.length) : ∃ b off cap, v = .slice (some ⟨b, off, none⟩) V.length cap ∧ b < w.heap.size ∧ ∀ j, j < V.length → w.cell? ⟨b, off + j, none⟩ = some (.string (V.getD j ByteArray.empty)) := by
  obtain ⟨ao, cap, e, hl, h⟩ := h
  obtain ⟨b, off, e2, hb, hc⟩ := h 0 hV
  subst e2
  refine ⟨b, off, cap, e, hb, fun j hj => ?_⟩
  obtain ⟨b', off', e3, -, hc'⟩ := h j hj
  injection e3 with e3
  injection e3 with e4 e5 _
  subst e4 e5
  have := hc' 0 (by decide)
  rw [Nat.mul_one, Nat.add_zero] at this
  rw [this, List.getD_eq_getElem?_getD, List.getElem?_eq_getElem hj]
  rfl

set_option linter.unusedSimpArgs false in
set_option maxRecDepth 100000 in
set_option maxHeartbeats 1000000 in
theorem fits_spec (w : World) (k : Int) (hk : k = 1 ∨ k = 2 ∨ k = 3 ∨ k = 4) (name : ByteArray) (v : Value) (V : List ByteArray) (h : SliceArg 1 encS1 w v V) (hV : 0 < V.length) (x : ByteArray) :
    Calls Tryd.prog 21 #[.agg #[.int .i64 k, .string name, v], .string x] w fun e w' => e = .returned (.bool (fitsB k V x)) ∧ Keeps [] w w' := by
  have hml : V.length ≤ 9223372036854775807 := by
    obtain ⟨_, _, _, hl, _⟩ := h
    unfold maxLen at hl
    omega
  obtain ⟨b, off, cap, rfl, hbW, hc⟩ := texts_at h hV
  obtain ⟨R, hR⟩ : ∃ R, R = fitsB k V x := ⟨_, rfl⟩
  rw [← hR]
  have HR := Lib.hid hR
  have kA : Keeps [] w (w.alloc (.cells #[.int .i64 k, .string name, .slice (some ⟨b, off, none⟩) V.length cap] 56)) := (Keeps.refl [] w).alloc _
  have HC := Lib.hid (show ∀ j, j < V.length → (w.alloc (.cells #[.int .i64 k, .string name, .slice (some ⟨b, off, none⟩) V.length cap] 56)).cell? ⟨b, off + j, none⟩ = some (.string (V.getD j ByteArray.empty)) from fun j hj => (kA.cell hbW (by simp)).trans (hc j hj))
  have Hk := Lib.hid kA
  have hv0 : (0 : Int) < (V.length : Int) := by omega
  clear hR hc h kA
  rcases hk with rfl | rfl | rfl | rfl
  all_goals
    go_enter Tryd.func21, Tryd.ntmps21
  · go_wp2_with fail
    refine (Tryd.slices_Contains_string b off V.length cap V x _ (Nat.le_refl _) hml HC.out).mono ?_
    rintro e w1 ⟨rfl, rfl⟩
    rw [List.take_length]
    go_wp2_with fail
    go_ret
    exact ⟨by rw [HR.out]; rfl, Hk.out⟩
  · go_wp2_with fail
    refine (Tryd.slices_Contains_string b off V.length cap V x _ (Nat.le_refl _) hml HC.out).mono ?_
    rintro e w1 ⟨rfl, rfl⟩
    rw [List.take_length]
    go_wp2_with fail
    go_ret
    exact ⟨by rw [HR.out]; rfl, Hk.out⟩
  · have h0 := HC.out 0 hV
    rw [Nat.add_zero] at h0
    have hbA := Hk.out.lt hbW
    by_cases hx : x = ⟨#[]⟩
    · subst hx
      go_wp2_with fail
      go_ret
      exact ⟨by rw [HR.out]; simp [fitsB], Hk.out⟩
    · have hbb : (x.toList == (⟨#[]⟩ : ByteArray).toList) = false := by rw [toList_beq]; exact decide_eq_false hx
      have Hx := Lib.hid hx
      clear hx
      have hne : ¬ x.data.toList = [] := fun e => Hx.out (ba_ext e)
      have hn1 : (x.toList == []) = false := by rw [ByteArray.toList_eq]; simpa using hne
      have hn2 : (x.toList != []) = true := by rw [bne, hn1]; rfl
      have hn3 : ¬ x.toList = [] := by rw [ByteArray.toList_eq]; exact hne
      go_wp2_with fail
      refine (Tryd.strings_HasPrefix x V[0] _).mono ?_
      rintro e w1 ⟨rfl, rfl⟩
      go_wp2_with fail
      go_ret
      refine ⟨?_, Hk.out⟩
      rw [HR.out]
      have hg : V.getD 0 ByteArray.empty = V[0] := by rw [List.getD_eq_getElem?_getD, List.getElem?_eq_getElem hV]; rfl
      show Ending.returned (.bool (Lib.hasPrefix x.data.toList V[0].data.toList)) = _
      unfold fitsB
      rw [if_neg (by decide), if_pos rfl, hg, decide_eq_true Hx.out, Bool.true_and]
  · go_wp2_with fail
    refine (Tryd.slices_Contains_string b off V.length cap V x _ (Nat.le_refl _) hml HC.out).mono ?_
    rintro e w1 ⟨rfl, rfl⟩
    rw [List.take_length]
    go_wp2_with fail
    go_ret
    exact ⟨by rw [HR.out]; rfl, Hk.out⟩
end Go.Proofs.YtjgaidojohgenaaDoor
