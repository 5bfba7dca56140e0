/-
  The contracts of the library that the texts lean on: all of them lie in ShelfA.
  No condition.
-/
import Derived.Test.YtaebpbkiaihhdaaGreatDoorShelfA
namespace Go.Proofs.YtaebpbkiaihhdaaGreatDoor
end Go.Proofs.YtaebpbkiaihhdaaGreatDoor
