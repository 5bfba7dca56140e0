/-
  DERIVED. GIVEN WITH THE SEED: THE CARDS: each row of YtgcfkhcogllgfaaGreatDoorRows.lean that lists a variable, with what it lists TIED to the program's text (the seventh form; the later family's looks); each row that meets fmt, with fmt's text TOLD by the authors' own Lean function (tested against real Go, not proved from fmt's source: count such statements apart). THE CARD IS WHAT COUNTS. Prove the row's statement (the work); the ties are given (YtgcfkhcogllgfaaGreatDoorTie.lean); close each card by the builder's one call (the guide's Derived/Test/ToyasCard.lean, 'card_holds'). Laid BY PROGRAM, IN A SANDBOX (cutbox-door.mjs). By AI agents, Wed Nov 11 2026. No macro, syntax, notation, axiom, sorry.
-/
import Derived.Test.YtgcfkhcogllgfaaGreatDoorRows
import GoSem.ClaimSeven
namespace Go.Proofs.YtgcfkhcogllgfaaGreatDoor
namespace Rows

/-- THE TIED CARD OF 'barographlaw17.FetchParts'. -/
def fetchPartsCard : Claim7 := { stood := { row := fetchPartsRow, standIns := [], harness := (true, "81eb594227ebafcbd56a9d8f96185ac6e7ee1d75534c491a0537491b6cdfeba6"), looks := true }, kinds := [], alts := [], laidByText := true, laidKinds := [.data, .data, .data, .pinned], laidTests := true, laidLooks := .later }
def FetchPartsCardSaid : Prop := Claim7.holds Tryz.pinned (.plain (OpenSpec.ofChange fetchPartsSpec)) fetchPartsCard

/-- THE TIED CARD OF 'barographlaw17.FetchSome'. -/
def fetchSomeCard : Claim7 := { stood := { row := fetchSomeRow, standIns := [], harness := (true, "81eb594227ebafcbd56a9d8f96185ac6e7ee1d75534c491a0537491b6cdfeba6"), looks := true }, kinds := [], alts := [], laidByText := true, laidKinds := [.data, .data, .data, .pinned], laidTests := true, laidLooks := .later }
def FetchSomeCardSaid : Prop := Claim7.holds Tryz.pinned (.plain (OpenSpec.ofChange fetchSomeSpec)) fetchSomeCard

/-- THE SECOND FORM's CARD OF 'barographlaw17.FetchParts'. -/
def fetchPartsUptoCard : Claim7 := { stood := { row := fetchPartsUptoRow, standIns := [], harness := (true, "81eb594227ebafcbd56a9d8f96185ac6e7ee1d75534c491a0537491b6cdfeba6"), looks := true }, kinds := [], alts := [], laidByText := true, laidKinds := [.data, .data, .data, .pinned], laidTests := true, laidLooks := .later }
def FetchPartsUptoCardSaid : Prop := Claim7.holds Tryz.pinned (.plain (OpenSpec.upto fetchPartsSpec)) fetchPartsUptoCard

/-- THE SECOND FORM's CARD OF 'barographlaw17.FetchSome'. -/
def fetchSomeUptoCard : Claim7 := { stood := { row := fetchSomeUptoRow, standIns := [], harness := (true, "81eb594227ebafcbd56a9d8f96185ac6e7ee1d75534c491a0537491b6cdfeba6"), looks := true }, kinds := [], alts := [], laidByText := true, laidKinds := [.data, .data, .data, .pinned], laidTests := true, laidLooks := .later }
def FetchSomeUptoCardSaid : Prop := Claim7.holds Tryz.pinned (.plain (OpenSpec.upto fetchSomeSpec)) fetchSomeUptoCard
end Rows
end Go.Proofs.YtgcfkhcogllgfaaGreatDoor
