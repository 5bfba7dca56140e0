/-
  DERIVED. GIVEN WITH THE SEED: THE CARDS: each row of YtejfigbjaiealaaGreatDoorRows.lean that lists a variable, with what it lists TIED to the program's text (the seventh form; the later family's looks); each row that meets fmt, with fmt's text TOLD by the authors' own Lean function (tested against real Go, not proved from fmt's source: count such statements apart). THE CARD IS WHAT COUNTS. Prove the row's statement (the work); the ties are given (YtejfigbjaiealaaGreatDoorTie.lean); close each card by the builder's one call (the guide's Derived/Test/ToyasCard.lean, 'card_holds'). Laid BY PROGRAM, IN A SANDBOX (cutbox-door.mjs). By AI agents, Wed Nov 11 2026. No macro, syntax, notation, axiom, sorry.
-/
import Derived.Test.YtejfigbjaiealaaGreatDoorRows
import GoSem.ClaimSeven
namespace Go.Proofs.YtejfigbjaiealaaGreatDoor
namespace Rows

/-- THE TIED CARD OF 'barographlaw12.PostingIndex'. -/
def postingIndexCard : Claim7 := { stood := { row := postingIndexRow, standIns := [], harness := (true, "63675576816178a68ac934548eff324df36bdb691b55191215ca225eba97e514"), looks := false }, kinds := [], alts := [], laidByText := true, laidKinds := [.data, .pinned], laidTests := true, laidLooks := .later }
def PostingIndexCardSaid : Prop := Claim7.holds Tryz.pinned (.plain (OpenSpec.ofChange postingIndexSpec)) postingIndexCard

/-- THE TIED CARD OF 'barographlaw13.MatcherSelects'. -/
def matcherSelectsCard : Claim7 := { stood := { row := matcherSelectsRow, standIns := [], harness := (true, "63675576816178a68ac934548eff324df36bdb691b55191215ca225eba97e514"), looks := false }, kinds := [], alts := [], laidByText := true, laidKinds := [.data, .data, .pinned], laidTests := true, laidLooks := .later }
def MatcherSelectsCardSaid : Prop := Claim7.holds Tryz.pinned (.plain (OpenSpec.ofChange matcherSelectsSpec)) matcherSelectsCard

/-- THE TIED CARD OF 'barographlaw13.MatcherMore'. -/
def matcherMoreCard : Claim7 := { stood := { row := matcherMoreRow, standIns := [], harness := (true, "63675576816178a68ac934548eff324df36bdb691b55191215ca225eba97e514"), looks := false }, kinds := [], alts := [], laidByText := true, laidKinds := [.data, .data, .pinned], laidTests := true, laidLooks := .later }
def MatcherMoreCardSaid : Prop := Claim7.holds Tryz.pinned (.plain (OpenSpec.ofChange matcherMoreSpec)) matcherMoreCard

/-- THE SECOND FORM's CARD OF 'barographlaw12.PostingIndex'. -/
def postingIndexUptoCard : Claim7 := { stood := { row := postingIndexUptoRow, standIns := [], harness := (true, "63675576816178a68ac934548eff324df36bdb691b55191215ca225eba97e514"), looks := false }, kinds := [], alts := [], laidByText := true, laidKinds := [.data, .pinned], laidTests := true, laidLooks := .later }
def PostingIndexUptoCardSaid : Prop := Claim7.holds Tryz.pinned (.plain (OpenSpec.upto postingIndexSpec)) postingIndexUptoCard

/-- THE SECOND FORM's CARD OF 'barographlaw13.MatcherSelects'. -/
def matcherSelectsUptoCard : Claim7 := { stood := { row := matcherSelectsUptoRow, standIns := [], harness := (true, "63675576816178a68ac934548eff324df36bdb691b55191215ca225eba97e514"), looks := false }, kinds := [], alts := [], laidByText := true, laidKinds := [.data, .data, .pinned], laidTests := true, laidLooks := .later }
def MatcherSelectsUptoCardSaid : Prop := Claim7.holds Tryz.pinned (.plain (OpenSpec.upto matcherSelectsSpec)) matcherSelectsUptoCard

/-- THE SECOND FORM's CARD OF 'barographlaw13.MatcherMore'. -/
def matcherMoreUptoCard : Claim7 := { stood := { row := matcherMoreUptoRow, standIns := [], harness := (true, "63675576816178a68ac934548eff324df36bdb691b55191215ca225eba97e514"), looks := false }, kinds := [], alts := [], laidByText := true, laidKinds := [.data, .data, .pinned], laidTests := true, laidLooks := .later }
def MatcherMoreUptoCardSaid : Prop := Claim7.holds Tryz.pinned (.plain (OpenSpec.upto matcherMoreSpec)) matcherMoreUptoCard
end Rows
end Go.Proofs.YtejfigbjaiealaaGreatDoor
