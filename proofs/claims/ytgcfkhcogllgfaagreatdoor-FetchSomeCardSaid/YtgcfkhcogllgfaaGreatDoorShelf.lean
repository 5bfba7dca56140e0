/-
  The contracts of the library that the texts lean on: all of them lie in ShelfA.
  No condition.
-/
import Derived.Test.YtgcfkhcogllgfaaGreatDoorShelfA
namespace Go.Proofs.YtgcfkhcogllgfaaGreatDoor
end Go.Proofs.YtgcfkhcogllgfaaGreatDoor
