/-
  label.Compare of any two sets, walked: the document's Compare.
  The first set is of few pairs.

  container/heap at merge's queue of at most two cursors, walked: Less, Swap, Push, Pop, Init, up, down.
  The cursors' labels are of few pairs.

  container/heap at merge's queue of at most two cursors, walked: Init, Push, Pop.
  The cursors' labels are of few pairs.
-/
import Derived.Test.YtgdkceeonnfejaaGreatDoorTabMk
import Derived.Deep.CutRange
namespace Go.Proofs.YtgdkceeonnfejaaGreatDoor
open Go Go.RowKit Go.Conc
open Go.Op (bytesLess)
theorem cmpb_gt : ∀ a b : List UInt8, bytesLess b a = true → Lib.compareBytes a b = 1
 | [], [], h => by simp [bytesLess] at h
 | [], _ :: _, h => by simp [bytesLess] at h
 | _ :: _, [], _ => rfl
 | a :: xs, b :: ys, h => by
  unfold Lib.compareBytes
  unfold bytesLess at h
  by_cases h1 : b < a
  ·have h2 : ¬ a < b := fun h2 => absurd (UInt8.lt_trans h1 h2) (UInt8.lt_irrefl _)
   rw [if_neg h2, if_pos h1]
  ·by_cases h2 : a < b
   ·have hne : ¬ b = a := fun e => by rw [e] at h2; exact absurd h2 (UInt8.lt_irrefl _)
    simp [h1, hne] at h
   ·have he : a = b := UInt8.le_antisymm (UInt8.not_lt.1 h1) (UInt8.not_lt.1 h2)
    subst he
    rw [if_neg h1, if_neg h1]
    exact cmpb_gt xs ys (by simpa [h1] using h)
theorem cmpT_gt {a b : ByteArray} (h : ltT b a) : Lib.compareBytes a.data.toList b.data.toList = 1 := by
 unfold ltT at h
 rw [ByteArray.toList_eq, ByteArray.toList_eq] at h
 exact cmpb_gt _ _ h
open Go Go.RowKit
open Go Go.RowKit
end Go.Proofs.YtgdkceeonnfejaaGreatDoor
