/-
  Texts in their order: two lists of the same, rising, are one.
  No program in sight.

  Samples, as data: a time, a value's bits.
  No condition.
-/
import Derived.Test.YtgcfkhcogllgfaaGreatDoorBase
namespace Go.Proofs.YtgcfkhcogllgfaaGreatDoor
open Go Go.RowKit
def ltT (a b : ByteArray) : Prop := Op.bytesLess a.toList b.toList = true
theorem bl_lt : ∀ (x y : List UInt8), Op.bytesLess x y = true ↔ x < y
 | [], [] => by simp [Op.bytesLess]
 | [], y :: ys => by simp [Op.bytesLess]
 | x :: xs, [] => by simp [Op.bytesLess]
 | x :: xs, y :: ys => by
  have ih := bl_lt xs ys
  rw [List.cons_lt_cons_iff]
  unfold Op.bytesLess
  by_cases h1 : x < y
  ·simp [h1]
  ·by_cases h2 : y < x
   ·have : ¬ x = y := fun e => by subst e; exact absurd h2 h1
    simp [h1, this]
   ·have : x = y := by
     have a1 := UInt8.not_lt.1 h1
     have a2 := UInt8.not_lt.1 h2
     exact UInt8.le_antisymm a2 a1
    simp [this, ih]
theorem ltT_iff (a b : ByteArray) : ltT a b ↔ a.data.toList < b.data.toList := by
 unfold ltT
 rw [ByteArray.toList_eq, ByteArray.toList_eq]
 exact bl_lt _ _
theorem ltT_irr (a : ByteArray) : ¬ ltT a a := by rw [ltT_iff]; exact List.lt_irrefl _
theorem ltT_tr (a b c : ByteArray) (h1 : ltT a b) (h2 : ltT b c) : ltT a c := by rw [ltT_iff] at *; exact List.lt_trans h1 h2
theorem ltT_or {a b : ByteArray} (hne : a ≠ b) (h : ¬ ltT a b) : ltT b a := by
 rw [ltT_iff] at *
 refine Classical.byContradiction fun h2 => hne (ba_ext ?_)
 exact List.le_antisymm (List.not_lt.1 h2) (List.not_lt.1 h)
abbrev SmpB := Int × Int
def encSm (s : SmpB) : List Value := [.int .i64 s.1, .int .u64 s.2]
def ltS (a b : SmpB) : Prop := a.1 < b.1
end Go.Proofs.YtgcfkhcogllgfaaGreatDoor
