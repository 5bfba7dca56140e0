/-
  DERIVED. GIVEN WITH THE SEED: THE CARDS: each row of YtkffpcmminlndaaGreatDoorRows.lean that lists a variable, with what it lists TIED to the program's text (the seventh form; the later family's looks); each row that meets fmt, with fmt's text TOLD by the authors' own Lean function (tested against real Go, not proved from fmt's source: count such statements apart). THE CARD IS WHAT COUNTS. Prove the row's statement (the work); the ties are given (YtkffpcmminlndaaGreatDoorTie.lean); close each card by the builder's one call (the guide's Derived/Test/ToyasCard.lean, 'card_holds'). Laid BY PROGRAM, IN A SANDBOX (cutbox-door.mjs). By AI agents, Wed Nov 11 2026. No macro, syntax, notation, axiom, sorry.
-/
import Derived.Test.YtkffpcmminlndaaGreatDoorRows
import GoSem.ClaimSeven
namespace Go.Proofs.YtkffpcmminlndaaGreatDoor
namespace Rows

/-- THE TIED CARD OF 'barographlaw17.FetchReads'. -/
def fetchReadsCard : Claim7 := { stood := { row := fetchReadsRow, standIns := [], harness := (true, "4f5d72d6383c40afec4c9cce282f291212de7e1e73fdcab22fcd284ebca42712"), looks := true }, kinds := [], alts := [], laidByText := true, laidKinds := [.data, .data, .data, .pinned], laidTests := true, laidLooks := .later }
def FetchReadsCardSaid : Prop := Claim7.holds Tryz.pinned (.plain (OpenSpec.ofChange fetchReadsSpec)) fetchReadsCard

/-- THE TIED CARD OF 'barographlaw17.FetchGone'. -/
def fetchGoneCard : Claim7 := { stood := { row := fetchGoneRow, standIns := [], harness := (true, "4f5d72d6383c40afec4c9cce282f291212de7e1e73fdcab22fcd284ebca42712"), looks := true }, kinds := [], alts := [], laidByText := true, laidKinds := [.data, .data, .data, .pinned], laidTests := true, laidLooks := .later }
def FetchGoneCardSaid : Prop := Claim7.holds Tryz.pinned (.plain (OpenSpec.ofChange fetchGoneSpec)) fetchGoneCard

/-- THE TIED CARD OF 'barographlaw17.FetchParts'. -/
def fetchPartsCard : Claim7 := { stood := { row := fetchPartsRow, standIns := [], harness := (true, "4f5d72d6383c40afec4c9cce282f291212de7e1e73fdcab22fcd284ebca42712"), looks := true }, kinds := [], alts := [], laidByText := true, laidKinds := [.data, .data, .data, .pinned], laidTests := true, laidLooks := .later }
def FetchPartsCardSaid : Prop := Claim7.holds Tryz.pinned (.plain (OpenSpec.ofChange fetchPartsSpec)) fetchPartsCard

/-- THE TIED CARD OF 'barographlaw17.FetchSome'. -/
def fetchSomeCard : Claim7 := { stood := { row := fetchSomeRow, standIns := [], harness := (true, "4f5d72d6383c40afec4c9cce282f291212de7e1e73fdcab22fcd284ebca42712"), looks := true }, kinds := [], alts := [], laidByText := true, laidKinds := [.data, .data, .data, .pinned], laidTests := true, laidLooks := .later }
def FetchSomeCardSaid : Prop := Claim7.holds Tryz.pinned (.plain (OpenSpec.ofChange fetchSomeSpec)) fetchSomeCard

/-- THE SECOND FORM's CARD OF 'barographlaw17.FetchReads'. -/
def fetchReadsUptoCard : Claim7 := { stood := { row := fetchReadsUptoRow, standIns := [], harness := (true, "4f5d72d6383c40afec4c9cce282f291212de7e1e73fdcab22fcd284ebca42712"), looks := true }, kinds := [], alts := [], laidByText := true, laidKinds := [.data, .data, .data, .pinned], laidTests := true, laidLooks := .later }
def FetchReadsUptoCardSaid : Prop := Claim7.holds Tryz.pinned (.plain (OpenSpec.upto fetchReadsSpec)) fetchReadsUptoCard

/-- THE SECOND FORM's CARD OF 'barographlaw17.FetchGone'. -/
def fetchGoneUptoCard : Claim7 := { stood := { row := fetchGoneUptoRow, standIns := [], harness := (true, "4f5d72d6383c40afec4c9cce282f291212de7e1e73fdcab22fcd284ebca42712"), looks := true }, kinds := [], alts := [], laidByText := true, laidKinds := [.data, .data, .data, .pinned], laidTests := true, laidLooks := .later }
def FetchGoneUptoCardSaid : Prop := Claim7.holds Tryz.pinned (.plain (OpenSpec.upto fetchGoneSpec)) fetchGoneUptoCard

/-- THE SECOND FORM's CARD OF 'barographlaw17.FetchParts'. -/
def fetchPartsUptoCard : Claim7 := { stood := { row := fetchPartsUptoRow, standIns := [], harness := (true, "4f5d72d6383c40afec4c9cce282f291212de7e1e73fdcab22fcd284ebca42712"), looks := true }, kinds := [], alts := [], laidByText := true, laidKinds := [.data, .data, .data, .pinned], laidTests := true, laidLooks := .later }
def FetchPartsUptoCardSaid : Prop := Claim7.holds Tryz.pinned (.plain (OpenSpec.upto fetchPartsSpec)) fetchPartsUptoCard

/-- THE SECOND FORM's CARD OF 'barographlaw17.FetchSome'. -/
def fetchSomeUptoCard : Claim7 := { stood := { row := fetchSomeUptoRow, standIns := [], harness := (true, "4f5d72d6383c40afec4c9cce282f291212de7e1e73fdcab22fcd284ebca42712"), looks := true }, kinds := [], alts := [], laidByText := true, laidKinds := [.data, .data, .data, .pinned], laidTests := true, laidLooks := .later }
def FetchSomeUptoCardSaid : Prop := Claim7.holds Tryz.pinned (.plain (OpenSpec.upto fetchSomeSpec)) fetchSomeUptoCard
end Rows
end Go.Proofs.YtkffpcmminlndaaGreatDoor
