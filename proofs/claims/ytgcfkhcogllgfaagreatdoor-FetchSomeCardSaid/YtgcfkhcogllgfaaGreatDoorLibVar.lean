/-
  The library's variable internal/bytealg.MaxLen holds some number: what that says, and when it stays so.
  No condition beyond those that each theorem states.

  Cut of package barographlaw01: a text cut to a length.
  It holds for every text and every length from 0 to 1000.
-/
import Derived.Test.YtgcfkhcogllgfaaGreatDoorRows
import Derived.Test.YtgcfkhcogllgfaaGreatDoorBase
import Derived.Shelf.Vars
namespace Go.Proofs.YtgcfkhcogllgfaaGreatDoor
set_option maxHeartbeats 400000
open Go Go.RowKit
def LibVar (w : World) : Prop := ∃ m, w.cell? ⟨1, 0, none⟩ = some (.int .i64 m)
theorem LibVar.lt {w : World} (h : LibVar w) : 1 < w.heap.size := by
 obtain ⟨m, hm⟩ := h
 exact World.block_lt_of_cell? w _ hm
theorem LibVar.keep {w w' : World} {S : List Nat} (h : LibVar w) (k : Keeps S w w') (hS : 1 ∉ S) : LibVar w' := by
 have hl := h.lt
 obtain ⟨m, hm⟩ := h
 exact ⟨m, (k.cell hl hS).trans hm⟩
theorem LibVar.same {w w' : World} (h : LibVar w) (k : Keeps [] w w') : LibVar w' := h.keep k (by simp)
theorem LibVar.frame {w w0 w' : World} {S : List Nat} (h : LibVar w) (k : Keeps S w w') (hS : ∀ x ∈ S, w0.heap.size ≤ x) (h0 : LibVar w0) : LibVar w' :=
 h.keep k fun hm => by have := hS _ hm; have := h0.lt; omega
def cut (s : ByteArray) (n : Nat) : ByteArray := if n < s.size then s.extract 0 n else s
theorem cut_size (s : ByteArray) (n : Nat) : (cut s n).size ≤ n := by
 unfold cut
 split
 ·simp [ByteArray.size_extract]
  omega
 ·omega
theorem cut_any (s : ByteArray) (n : Nat) (w : World) (h1 : n ≤ 1000) :
  Calls Tryz.prog 35 #[.string s, .int .i64 n] w fun e w' => e = .returned (.string (cut s n)) ∧ w = w' := by
 by_cases h : n < s.size
 ·go_enter Tryz.func35, Tryz.ntmps35
  go_wp2
  go_ret
  exact ⟨by rw [cut, if_pos h]; rfl, rfl⟩
 ·go_enter Tryz.func35, Tryz.ntmps35
  go_wp2
  go_ret
  exact ⟨by rw [cut, if_neg h]; rfl, rfl⟩
end Go.Proofs.YtgcfkhcogllgfaaGreatDoor
