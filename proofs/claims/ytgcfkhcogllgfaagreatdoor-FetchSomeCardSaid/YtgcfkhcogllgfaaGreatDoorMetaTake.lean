/-
  What is taken of a meta's bytes (package meta): taker.fields, Take, where the bytes are a meta's that may be, and more behind.
  The bytes are not too many.

  What is taken of a meta's bytes (package meta): Take, where the bytes are a meta's that may be, and more behind.
  The bytes are not too many.
-/
import Derived.Test.YtgcfkhcogllgfaaGreatDoorMetaPut
namespace Go.Proofs.YtgcfkhcogllgfaaGreatDoor
open Go Go.RowKit
theorem set8 {w : World} {p : Nat} {t : TypeId} {a0 a1 a2 a3 a4 a5 a6 a7 v0 v1 v2 v3 v4 v5 v6 v7 : Value} {z : Nat × Nat} (h : w.heap[p]? = some (.cells #[a0, a1, a2, a3, a4, a5, a6, a7] t z)) :
  ((((((((w.setCell ⟨p, 0, none⟩ v0).setCell ⟨p, 1, none⟩ v1).setCell ⟨p, 2, none⟩ v2).setCell ⟨p, 3, none⟩ v3).setCell ⟨p, 4, none⟩ v4).setCell ⟨p, 5, none⟩ v5).setCell ⟨p, 6, none⟩ v6).setCell ⟨p, 7, none⟩ v7).heap[p]? = some (.cells #[v0, v1, v2, v3, v4, v5, v6, v7] t z) ∧
   Keeps [p] w ((((((((w.setCell ⟨p, 0, none⟩ v0).setCell ⟨p, 1, none⟩ v1).setCell ⟨p, 2, none⟩ v2).setCell ⟨p, 3, none⟩ v3).setCell ⟨p, 4, none⟩ v4).setCell ⟨p, 5, none⟩ v5).setCell ⟨p, 6, none⟩ v6).setCell ⟨p, 7, none⟩ v7) := by
 have h0 := heap_cell_same (i := 0) h v0
 have h1 := heap_cell_same (i := 1) h0 v1
 have h2 := heap_cell_same (i := 2) h1 v2
 have h3 := heap_cell_same (i := 3) h2 v3
 have h4 := heap_cell_same (i := 4) h3 v4
 have h5 := heap_cell_same (i := 5) h4 v5
 have h6 := heap_cell_same (i := 6) h5 v6
 have h7 := heap_cell_same (i := 7) h6 v7
 exact ⟨h7.trans (by simp), ((((((((Keeps.refl [p] w).setCell (.inl (by simp)) v0).setCell (.inl (by simp)) v1).setCell (.inl (by simp)) v2).setCell (.inl (by simp)) v3).setCell (.inl (by simp)) v4).setCell (.inl (by simp)) v5).setCell (.inl (by simp)) v6).setCell (.inl (by simp)) v7⟩
theorem row_ne_type {w : World} {base s n b : Nat} {e t : TypeId} {v : Value} {xs : List Value} {cs : Array Value} {z : Nat × Nat} (h : w.ownsRow base e s v n xs) (hb : w.heap[b]? = some (.cells cs t z)) (ht : t ≠ e) : ∀ g, v.ownBlock = some g → g ≠ b := by
 rintro g hg rfl
 obtain ⟨_, ⟨rfl, _⟩ | ⟨g2, c2, r2, rfl, _, hb2, _⟩⟩ := h
 ·simp [Value.ownBlock] at hg
 ·simp [Value.ownBlock] at hg
  subst hg
  rw [hb] at hb2
  injection hb2 with hb2
  injection hb2 with _ hb2 _
  exact ht hb2
theorem keeps_grownM {S : List Nat} {a w w' : World} {row : Option Nat} (h : Keeps S a w) (hg : w.grownBy w' row) (hr : ∀ q, row = some q → a.heap.size ≤ q) : Keeps S a w' :=
 ⟨hg.os.trans h.os, hg.tape.trans h.tape, hg.output.trans h.output, Nat.le_trans h.size hg.size, fun k hk hn => (hg.block k (Nat.lt_of_lt_of_le hk h.size) (fun e => by
  have := hr k e.symm
  omega)).trans (h.block k hk hn)⟩
theorem keeps_rowM {w w' : World} {v : Value} (hg : w.grownBy w' v.ownBlock) : Keeps v.ownBlock.toList w w' := Keeps.of_grown hg (fun k hk => .inl (by simp [hk]))
open Go Go.RowKit Go.Conc
end Go.Proofs.YtgcfkhcogllgfaaGreatDoor
