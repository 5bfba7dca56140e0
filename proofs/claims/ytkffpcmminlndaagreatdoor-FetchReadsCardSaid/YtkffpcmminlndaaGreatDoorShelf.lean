/-
  The contracts of the library that the texts lean on: all of them lie in ShelfA.
  No condition.
-/
import Derived.Test.YtkffpcmminlndaaGreatDoorShelfA
namespace Go.Proofs.YtkffpcmminlndaaGreatDoor
end Go.Proofs.YtkffpcmminlndaaGreatDoor
