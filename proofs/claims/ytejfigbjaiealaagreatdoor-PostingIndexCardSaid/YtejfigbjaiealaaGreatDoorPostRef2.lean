/-
  The document's answer for package posting: Any, Both, Less, walked.
  The slices are read in memory from a bound on; they are of few numbers.
-/
import Derived.Test.YtejfigbjaiealaaGreatDoorPostRef
namespace Go.Proofs.YtejfigbjaiealaaGreatDoor
open Go Go.RowKit

def AnyRel (w : World) (LL : List (List Int)) (gk : Nat) (u3 u11 : Value) (wr : World) : Prop :=
  ∃ k, k ≤ LL.length ∧ gk = LL.length - k ∧ u11 = .int .i64 k ∧ Own w.heap.size wr u3 (anyL (LL.take k)) ∧ Keeps [] w wr

def AnyRel2 (base : Nat) (wo : World) (L X : List Int) (gk : Nat) (u3 u17 : Value) (wr : World) : Prop :=
  ∃ j, j ≤ L.length ∧ gk = L.length - j ∧ u17 = .int .i64 j ∧ Own base wr u3 ((L.take j).foldl putL X) ∧ Keeps [] wo wr


def LessRel (w : World) (a b : List Int) (gk : Nat) (u5 u11 : Value) (wr : World) : Prop :=
  ∃ k, k ≤ a.length ∧ gk = a.length - k ∧ u11 = .int .i64 k ∧ Own w.heap.size wr u5 ((a.take k).filter fun n => !decide (n ∈ b)) ∧ Keeps [] w wr


def BothRel (w : World) (LL : List (List Int)) (A : List Int) (ga : Nat) (oa : Obj) (gk : Nat) (u3 u13 : Value) (wr : World) : Prop :=
  ∃ k, k ≤ A.length ∧ gk = A.length - k ∧ u13 = .int .i64 k ∧ Own w.heap.size wr u3 ((A.take k).filter (inAll LL)) ∧ Keeps [] w wr ∧ wr.heap[ga]? = some oa ∧ ∀ g, u3.ownBlock = some g → g ≠ ga

def BothRel2 (wo : World) (LL : List (List Int)) (n : Int) (gk : Nat) (u6 u19 : Value) (wr : World) : Prop :=
  ∃ j, j ≤ LL.length ∧ gk = LL.length - j ∧ u19 = .int .i64 j ∧ u6 = .bool (inAll (LL.take j) n) ∧ wr = wo

theorem own_block {B : Nat} {w : World} {v : Value} {l : List Int} (h : Own B w v l) (hne : v ≠ .slice none 0 0) : ∃ g c o, v = .slice (some ⟨g, 0, none⟩) l.length c ∧ l.length ≤ c ∧ c ≤ maxLen ∧ B ≤ g ∧ w.heap[g]? = some o ∧ ∀ w' : World, w'.heap[g]? = some o → ∀ i (hi : i < l.length), w'.cell? ⟨g, i, none⟩ = some (.int .i64 l[i]) := by
  have hx := h
  obtain ⟨hl, ⟨rfl, hn⟩ | ⟨g, cap, cur, rfl, hbg, hg, hnc, hcm, hcs, htake⟩⟩ := h
  · exact absurd rfl hne
  · refine ⟨g, cap, _, rfl, hnc, hcm, hbg, hg, fun w' hw' i hi => ?_⟩
    rw [World.cell?_of_block (hw'.trans hg.symm)]
    rw [World.ownsRow.cellAt hx i (by omega)]
    simp [hi]

end Go.Proofs.YtejfigbjaiealaaGreatDoor
