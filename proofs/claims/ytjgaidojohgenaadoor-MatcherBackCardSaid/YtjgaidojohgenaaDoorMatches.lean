/-
  Rows of pairs as arguments; matchers and arguments kept.
  No condition beyond those that each theorem states.
-/
import Derived.Test.YtjgaidojohgenaaDoorFew13
import Derived.Test.YtjgaidojohgenaaDoorLabel1P
namespace Go.Proofs.YtjgaidojohgenaaDoor
open Go Go.RowKit

theorem row_pairs {B : Nat} {w : World} {e : TypeId} {v : Value} {P : List PairB} (h : w.ownsRow B e 2 v P.length (P.flatMap encPB)) : SliceArg 2 encPB w v P := (sliceFrom_row (enc := encPB) (fun _ => rfl) h).arg

theorem few6_len (P : List PairB) : (few6 P).length ≤ 1000000 := by unfold few6; rw [List.length_map, List.length_take]; omega

instance go1Mats {w w' : World} (v : Value) (L : List MatB) : Go1 w w' (MatsAt w v L) (MatsAt w' v L) := ⟨fun k h => h.keep k⟩

instance go1SArg {α : Type} {w w' : World} (size : Nat) (enc : α → List Value) (v : Value) (L : List α) : Go1 w w' (SliceArg size enc w v L) (SliceArg size enc w' v L) := ⟨fun k h => h.keep k⟩
end Go.Proofs.YtjgaidojohgenaaDoor
