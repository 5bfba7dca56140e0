/-
  Samples, as data: a time, a value's bits.
  No condition.
-/
import Derived.Test.YtkffpcmminlndaaGreatDoorBase
namespace Go.Proofs.YtkffpcmminlndaaGreatDoor
open Go Go.RowKit

abbrev SmpB := Int × Int

def encSm (s : SmpB) : List Value := [.int .i64 s.1, .int .u64 s.2]

def ltS (a b : SmpB) : Prop := a.1 < b.1
end Go.Proofs.YtkffpcmminlndaaGreatDoor
