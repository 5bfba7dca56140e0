/-
  PostingLaws, its arguments opened.
  The library's variable internal/bytealg.MaxLen holds some number.
-/
import Derived.Test.YtpopeeiiblhbeaaDoorPostingLaws
import Derived.Test.YtpopeeiiblhbeaaDoorPostArgs
import Derived.Shelf.Vars
namespace Go.Proofs.YtpopeeiiblhbeaaDoor
open Go Go.RowKit
theorem libVar_of {w : World} (h : w.ShapedOpen Tryd.prog) : LibVar w :=
  Go.Proofs.cell_of_shapedOpen_int (zero := #[.int .i64 0]) (t := 3) h (of_decide_eq_true (by kernel_rfl)) (by kernel_rfl) rfl (by kernel_rfl) (by kernel_rfl) Tryd.underlying3

theorem postingLaws_law (w : World) (hv : LibVar w) (va : Value) (ha : ∃ zs : List Int, Ints 0 w va zs) (vb : Value) (hb : ∃ zs : List Int, Ints 0 w vb zs) (vc : Value) (hc : ∃ zs : List Int, Ints 0 w vc zs) :
    Calls Tryd.prog 5 #[va, vb, vc] w fun e w' => e = .returned (.bool true) ∧ Keeps [] w w' := by
  obtain ⟨a, ha⟩ := ha
  obtain ⟨b, hb⟩ := hb
  obtain ⟨c, hc⟩ := hc
  exact postingLaws_walk w hv va a ha vb b hb vc c hc
end Go.Proofs.YtpopeeiiblhbeaaDoor
