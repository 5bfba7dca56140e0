/-
  Texts in their order: two lists of the same, rising, are one.
  No program in sight.

  Samples, as data: a time, a value's bits.
  No condition.
-/
import Derived.Test.YtgdkceeonnfejaaGreatDoorBase
namespace Go.Proofs.YtgdkceeonnfejaaGreatDoor
open Go Go.RowKit
theorem uniqT {α : Type} (r : α → α → Prop) (irr : ∀ x, ¬ r x x) (tr : ∀ x y z, r x y → r y z → r x z) : ∀ {l l' : List α}, l.Pairwise r → l'.Pairwise r → (∀ x, x ∈ l ↔ x ∈ l') → l = l'
 | [], [], _, _, _ => rfl
 | [], y :: m, _, _, h => absurd ((h y).2 (by simp)) (by simp)
 | x :: l, [], _, _, h => absurd ((h x).1 (by simp)) (by simp)
 | x :: l, y :: m, h1, h2, h => by
  rw [List.pairwise_cons] at h1 h2
  have hxy : x = y := by
   rcases List.mem_cons.1 ((h x).1 (by simp)) with e | e
   ·exact e
   ·rcases List.mem_cons.1 ((h y).2 (by simp)) with e2 | e2
    ·exact e2.symm
    ·exact absurd (tr _ _ _ (h1.1 y e2) (h2.1 x e)) (irr x)
  subst hxy
  congr 1
  refine uniqT r irr tr h1.2 h2.2 fun z => ⟨fun hz => ?_, fun hz => ?_⟩
  ·rcases List.mem_cons.1 ((h z).1 (by simp [hz])) with e | e
   ·subst e; exact absurd (h1.1 z hz) (irr z)
   ·exact e
  ·rcases List.mem_cons.1 ((h z).2 (by simp [hz])) with e | e
   ·subst e; exact absurd (h2.1 z hz) (irr z)
   ·exact e
def ltT (a b : ByteArray) : Prop := Op.bytesLess a.toList b.toList = true
theorem bl_lt : ∀ (x y : List UInt8), Op.bytesLess x y = true ↔ x < y
 | [], [] => by simp [Op.bytesLess]
 | [], y :: ys => by simp [Op.bytesLess]
 | x :: xs, [] => by simp [Op.bytesLess]
 | x :: xs, y :: ys => by
  have ih := bl_lt xs ys
  rw [List.cons_lt_cons_iff]
  unfold Op.bytesLess
  by_cases h1 : x < y
  ·simp [h1]
  ·by_cases h2 : y < x
   ·have : ¬ x = y := fun e => by subst e; exact absurd h2 h1
    simp [h1, this]
   ·have : x = y := by
     have a1 := UInt8.not_lt.1 h1
     have a2 := UInt8.not_lt.1 h2
     exact UInt8.le_antisymm a2 a1
    simp [this, ih]
theorem ltT_iff (a b : ByteArray) : ltT a b ↔ a.data.toList < b.data.toList := by
 unfold ltT
 rw [ByteArray.toList_eq, ByteArray.toList_eq]
 exact bl_lt _ _
theorem ltT_irr (a : ByteArray) : ¬ ltT a a := by rw [ltT_iff]; exact List.lt_irrefl _
theorem ltT_tr (a b c : ByteArray) (h1 : ltT a b) (h2 : ltT b c) : ltT a c := by rw [ltT_iff] at *; exact List.lt_trans h1 h2
theorem ltT_or {a b : ByteArray} (hne : a ≠ b) (h : ¬ ltT a b) : ltT b a := by
 rw [ltT_iff] at *
 refine Classical.byContradiction fun h2 => hne (ba_ext ?_)
 exact List.le_antisymm (List.not_lt.1 h2) (List.not_lt.1 h)
abbrev SmpB := Int × Int
def encSm (s : SmpB) : List Value := [.int .i64 s.1, .int .u64 s.2]
def ltS (a b : SmpB) : Prop := a.1 < b.1
end Go.Proofs.YtgdkceeonnfejaaGreatDoor
