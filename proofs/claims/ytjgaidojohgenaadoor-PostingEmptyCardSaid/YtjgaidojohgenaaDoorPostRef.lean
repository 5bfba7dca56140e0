/-
  The document's answer for package posting: Put, Any, Both, Less, walked.
  The slices are read in memory from a bound on; they are of few numbers.
-/
import Derived.Test.YtjgaidojohgenaaDoorPostBase
namespace Go.Proofs.YtjgaidojohgenaaDoor
open Go Go.RowKit

def PutRel (w : World) (l : List Int) (n : Int) (gk : Nat) (u5 u6 u15 : Value) (wr : World) : Prop :=
  ∃ k, k ≤ l.length ∧ gk = l.length - k ∧ u15 = .int .i64 k ∧ u6 = .bool (putDone l n k) ∧ Own w.heap.size wr u5 (putSo l n k) ∧ Keeps [] w wr

end Go.Proofs.YtjgaidojohgenaaDoor
