/-
  The fuse of package disk: contracts of NewFuse, Arm, Clear, Try and Do over a queue of faults.
  Each holds for every world in which the fuse's blocks are laid as FuseQ says.

  The bucket of package bucket: contracts of New, Put, Delete, Get, Range, List, Look and Peek over a list of objects and a queue of faults.
  Each holds for every world in which the bucket's blocks are laid as BucketAt says.
-/
import Derived.Test.YtgdkceeonnfejaaGreatDoorRows
import Derived.Test.YtgdkceeonnfejaaGreatDoorBase
import Derived.Deep.Cut
import Derived.Deep.QuietTactic
import Derived.BigQuiet
import Derived.Lib.Hide
import Derived.Test.YtgdkceeonnfejaaGreatDoorMap
import Derived.StillTailTactics
import Derived.BigRegion
namespace Go.Proofs.YtgdkceeonnfejaaGreatDoor
open Go Go.RowKit Go.Conc
abbrev Ob := ByteArray × Int
def obOr (x : Option Ob) : Ob := x.getD (⟨#[]⟩, 0)
end Go.Proofs.YtgdkceeonnfejaaGreatDoor
