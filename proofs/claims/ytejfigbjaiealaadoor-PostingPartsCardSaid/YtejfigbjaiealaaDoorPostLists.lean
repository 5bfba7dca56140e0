/-
  Lists of package barographlaw12: at most five lists, each of at most twenty numbers, rising, as the program's and as the document's. Same: of the same list 0.
  No condition beyond those that each theorem states.
-/
import Derived.Test.YtejfigbjaiealaaDoorPostAny
namespace Go.Proofs.YtejfigbjaiealaaDoor
open Go Go.RowKit

def SameRel (w : World) (l : List Int) (gk : Nat) (u13 : Value) (wr : World) : Prop := ∃ k, k ≤ l.length ∧ gk = l.length - k ∧ u13 = .int .i64 k ∧ Keeps [] w wr


theorem infoList : (Tryd.prog.info? 33).map (fun i => (i.zero, i.size, i.bytes)) = some (some (.slice none 0 0), 1, 24) := by kernel_rfl

theorem infoInts : (Tryd.prog.info? 32).map (fun i => (i.zero, i.size, i.bytes)) = some (some (.slice none 0 0), 1, 24) := by kernel_rfl

def listOf (l : List Int) : List Int := anyL [l.take 20]

def listsOf (LL : List (List Int)) : List (List Int) := (LL.take 5).map listOf

theorem listOf_len (l : List Int) : (listOf l).length ≤ 20 := by
  have := anyL_len [l.take 20]
  simp only [List.flatten_cons, List.flatten_nil, List.append_nil, List.length_take] at this
  unfold listOf
  omega

theorem listOf_rises (l : List Int) : Rises (listOf l) := anyL_rises _

def ListsRel (w : World) (LL : List (List Int)) (gk : Nat) (u4 u5 u6 : Value) (wr : World) : Prop :=
  ∃ (k : Nat) (VS : List Value), k ≤ LL.length ∧ k ≤ 5 ∧ gk = 5 - k ∧ u6 = .int .i64 k ∧ VS.length = k ∧ wr.ownsRow w.heap.size 33 1 u4 k VS ∧ wr.ownsRow w.heap.size 32 1 u5 k VS ∧
    (∀ i (_ : i < VS.length) (h' : i < LL.length), Own w.heap.size wr VS[i] (listOf LL[i])) ∧ Keeps [] w wr

def ListsPost (w : World) (LL : List (List Int)) (e : Ending) (w' : World) : Prop :=
  ∃ va vb, e = .returned (.tuple #[va, vb]) ∧ Rows2 w.heap.size w' va (listsOf LL) ∧ Rows2 w.heap.size w' vb (listsOf LL) ∧ Keeps [] w w'

theorem lists_end {w wr : World} {LL : List (List Int)} {k : Nat} {VS : List Value} {u4 u5 : Value} (hk : k = min LL.length 5) (hv : VS.length = k) (h4 : wr.ownsRow w.heap.size 33 1 u4 k VS) (h5 : wr.ownsRow w.heap.size 32 1 u5 k VS)
    (h : ∀ i (_ : i < VS.length) (h' : i < LL.length), Own w.heap.size wr VS[i] (listOf LL[i])) : Rows2 w.heap.size wr u4 (listsOf LL) ∧ Rows2 w.heap.size wr u5 (listsOf LL) := by
  subst hv
  have hl : VS.length = (listsOf LL).length := by unfold listsOf; rw [List.length_map, List.length_take]; omega
  have hi : ∀ i (h : i < VS.length) (h' : i < (listsOf LL).length), Ints w.heap.size wr VS[i] (listsOf LL)[i] := fun i hi hi' => by
    have e : (listsOf LL)[i] = listOf (LL[i]'(by omega)) := by simp [listsOf]
    rw [e]
    exact (h i hi (by omega)).ints
  exact ⟨rows2_of h4 hl hi, rows2_of h5 hl hi⟩

theorem minI (n : Nat) : min (n : Int) 20 = ((min n 20 : Nat) : Int) := by omega

end Go.Proofs.YtejfigbjaiealaaDoor
