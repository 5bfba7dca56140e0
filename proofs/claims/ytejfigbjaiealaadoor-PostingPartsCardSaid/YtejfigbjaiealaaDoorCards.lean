/-
  DERIVED. GIVEN WITH THE SEED: THE CARDS: each row of YtejfigbjaiealaaDoorRows.lean that lists a variable, with what it lists TIED to the program's text (the seventh form; the later family's looks); each row that meets fmt, with fmt's text TOLD by the authors' own Lean function (tested against real Go, not proved from fmt's source: count such statements apart). THE CARD IS WHAT COUNTS. Prove the row's statement (the work); the ties are given (YtejfigbjaiealaaDoorTie.lean); close each card by the builder's one call (the guide's Derived/Test/ToyasCard.lean, 'card_holds'). Laid BY PROGRAM, IN A SANDBOX (cutbox-door.mjs). By AI agents, Wed Nov 11 2026. No macro, syntax, notation, axiom, sorry.
-/
import Derived.Test.YtejfigbjaiealaaDoorRows
import GoSem.ClaimSeven
namespace Go.Proofs.YtejfigbjaiealaaDoor
namespace Rows

/-- THE TIED CARD OF 'barographlaw12.PostingParts'. -/
def postingPartsCard : Claim7 := { stood := { row := postingPartsRow, standIns := [], harness := (true, "305b6b72dc07c3c6ce49789d0fcde1f2148c09ec9679173edab8c6c0fd2a3a53"), looks := false }, kinds := [], alts := [], laidByText := true, laidKinds := [.data, .pinned], laidTests := true, laidLooks := .later }
def PostingPartsCardSaid : Prop := Claim7.holds Tryd.pinned (.plain (OpenSpec.ofChange postingPartsSpec)) postingPartsCard

/-- THE SECOND FORM's CARD OF 'barographlaw12.PostingParts'. -/
def postingPartsUptoCard : Claim7 := { stood := { row := postingPartsUptoRow, standIns := [], harness := (true, "305b6b72dc07c3c6ce49789d0fcde1f2148c09ec9679173edab8c6c0fd2a3a53"), looks := false }, kinds := [], alts := [], laidByText := true, laidKinds := [.data, .pinned], laidTests := true, laidLooks := .later }
def PostingPartsUptoCardSaid : Prop := Claim7.holds Tryd.pinned (.plain (OpenSpec.upto postingPartsSpec)) postingPartsUptoCard
end Rows
end Go.Proofs.YtejfigbjaiealaaDoor
