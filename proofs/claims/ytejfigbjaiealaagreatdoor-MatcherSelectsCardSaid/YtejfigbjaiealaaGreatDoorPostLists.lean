/-
  Lists of package barographlaw12: at most five lists, each of at most twenty numbers, rising, as the program's and as the document's. Same: of the same list 0.
  No condition beyond those that each theorem states.
-/
import Derived.Test.YtejfigbjaiealaaGreatDoorPostAny
namespace Go.Proofs.YtejfigbjaiealaaGreatDoor
open Go Go.RowKit

def SameRel (w : World) (l : List Int) (gk : Nat) (u13 : Value) (wr : World) : Prop := ∃ k, k ≤ l.length ∧ gk = l.length - k ∧ u13 = .int .i64 k ∧ Keeps [] w wr

set_option maxRecDepth 100000 in
set_option maxHeartbeats 1000000 in
theorem same_spec (B B' : Nat) (w : World) (va vb : Value) (l : List Int) (ha : Ints B w va l) (hb : Ints B' w vb l) :
    Calls Tryz.prog 9 #[va, vb] w fun e w' => e = .returned (.int .i64 0) ∧ Keeps [] w w' := by
  have Hf := Lib.hid (And.intro ha hb)
  obtain ⟨ao, cap, rfl, hl, -, -, -⟩ := ha
  obtain ⟨bo, cbp, rfl, -, -, -, -⟩ := hb
  unfold maxLen at hl
  go_enter Tryz.func9, Tryz.ntmps9
  go_wp2_with fail
  go_loopg [13] l.length (SameRel w l)
  case atStart => exact ⟨0, Nat.zero_le _, rfl, rfl, Keeps.refl [] w⟩
  case round =>
    obtain ⟨k, hk, hgk, rfl, hkw⟩ := hrel
    have Hg := Lib.hid hgk
    clear hgk
    by_cases hlt : k < l.length
    · obtain ⟨b1, of1, ea, hb1, d1⟩ := sf_at1 (Hf.out.1.keep hkw (by simp)) k hlt
      obtain ⟨b2, of2, eb, hb2, d2⟩ := sf_at1 (Hf.out.2.keep hkw (by simp)) k hlt
      subst ea eb
      have hlt' : (k : Int) < (l.length : Int) := by omega
      have Hk := Lib.hid hkw
      generalize l[k] = x at d1 d2
      clear hkw
      go_wp2_with fail
      go_quiet (fail)
      have Hk2 := Lib.hid (Hk.out.drewN nq)
      clear d1 d2 Hk
      generalize wr.drewN nq = W at Hk2 ⊢
      go_wp2_with fail
      go_roundg (l.length - (k + 1))
      case measure => have := Hg.out; omega
      case rel => exact ⟨k + 1, by omega, rfl, by go_num, Hk2.out⟩
    · have hkn : k = l.length := by omega
      subst hkn
      have Hk := Lib.hid hkw
      clear hkw
      go_wp2_with fail
      go_ret
      exact ⟨rfl, Hk.out⟩


theorem infoList : (Tryz.prog.info? 36).map (fun i => (i.zero, i.size, i.bytes)) = some (some (.slice none 0 0), 1, 24) := by kernel_rfl

theorem infoInts : (Tryz.prog.info? 28).map (fun i => (i.zero, i.size, i.bytes)) = some (some (.slice none 0 0), 1, 24) := by kernel_rfl

def listOf (l : List Int) : List Int := anyL [l.take 20]

def listsOf (LL : List (List Int)) : List (List Int) := (LL.take 5).map listOf

theorem listOf_len (l : List Int) : (listOf l).length ≤ 20 := by
  have := anyL_len [l.take 20]
  simp only [List.flatten_cons, List.flatten_nil, List.append_nil, List.length_take] at this
  unfold listOf
  omega

theorem listOf_rises (l : List Int) : Rises (listOf l) := anyL_rises _

def ListsRel (w : World) (LL : List (List Int)) (gk : Nat) (u4 u5 u6 : Value) (wr : World) : Prop :=
  ∃ (k : Nat) (VS : List Value), k ≤ LL.length ∧ k ≤ 5 ∧ gk = 5 - k ∧ u6 = .int .i64 k ∧ VS.length = k ∧ wr.ownsRow w.heap.size 36 1 u4 k VS ∧ wr.ownsRow w.heap.size 28 1 u5 k VS ∧
    (∀ i (_ : i < VS.length) (h' : i < LL.length), Own w.heap.size wr VS[i] (listOf LL[i])) ∧ Keeps [] w wr

def ListsPost (w : World) (LL : List (List Int)) (e : Ending) (w' : World) : Prop :=
  ∃ va vb, e = .returned (.tuple #[va, vb]) ∧ Rows2 w.heap.size w' va (listsOf LL) ∧ Rows2 w.heap.size w' vb (listsOf LL) ∧ Keeps [] w w'

theorem lists_end {w wr : World} {LL : List (List Int)} {k : Nat} {VS : List Value} {u4 u5 : Value} (hk : k = min LL.length 5) (hv : VS.length = k) (h4 : wr.ownsRow w.heap.size 36 1 u4 k VS) (h5 : wr.ownsRow w.heap.size 28 1 u5 k VS)
    (h : ∀ i (_ : i < VS.length) (h' : i < LL.length), Own w.heap.size wr VS[i] (listOf LL[i])) : Rows2 w.heap.size wr u4 (listsOf LL) ∧ Rows2 w.heap.size wr u5 (listsOf LL) := by
  subst hv
  have hl : VS.length = (listsOf LL).length := by unfold listsOf; rw [List.length_map, List.length_take]; omega
  have hi : ∀ i (h : i < VS.length) (h' : i < (listsOf LL).length), Ints w.heap.size wr VS[i] (listsOf LL)[i] := fun i hi hi' => by
    have e : (listsOf LL)[i] = listOf (LL[i]'(by omega)) := by simp [listsOf]
    rw [e]
    exact (h i hi (by omega)).ints
  exact ⟨rows2_of h4 hl hi, rows2_of h5 hl hi⟩

theorem minI (n : Nat) : min (n : Int) 20 = ((min n 20 : Nat) : Int) := by omega

end Go.Proofs.YtejfigbjaiealaaGreatDoor
