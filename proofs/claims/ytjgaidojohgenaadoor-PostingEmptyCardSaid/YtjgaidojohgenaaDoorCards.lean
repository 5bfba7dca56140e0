/-
  DERIVED. GIVEN WITH THE SEED: THE CARDS: each row of YtjgaidojohgenaaDoorRows.lean that lists a variable, with what it lists TIED to the program's text (the seventh form; the later family's looks); each row that meets fmt, with fmt's text TOLD by the authors' own Lean function (tested against real Go, not proved from fmt's source: count such statements apart). THE CARD IS WHAT COUNTS. Prove the row's statement (the work); the ties are given (YtjgaidojohgenaaDoorTie.lean); close each card by the builder's one call (the guide's Derived/Test/ToyasCard.lean, 'card_holds'). Laid BY PROGRAM, IN A SANDBOX (cutbox-door.mjs). By AI agents, Wed Nov 11 2026. No macro, syntax, notation, axiom, sorry.
-/
import Derived.Test.YtjgaidojohgenaaDoorRows
import GoSem.ClaimSeven
namespace Go.Proofs.YtjgaidojohgenaaDoor
namespace Rows

/-- THE TIED CARD OF 'barographlaw12.PostingEmpty'. -/
def postingEmptyCard : Claim7 := { stood := { row := postingEmptyRow, standIns := [], harness := (true, "7441a2a96dbbe94d858e3a057dbb2f90f4189732132ef5b4f2f23dc3ae4afc58"), looks := false }, kinds := [], alts := [], laidByText := true, laidKinds := [.data, .pinned], laidTests := true, laidLooks := .later }
def PostingEmptyCardSaid : Prop := Claim7.holds Tryd.pinned (.plain (OpenSpec.ofChange postingEmptySpec)) postingEmptyCard

/-- THE TIED CARD OF 'barographlaw12.PostingParts'. -/
def postingPartsCard : Claim7 := { stood := { row := postingPartsRow, standIns := [], harness := (true, "7441a2a96dbbe94d858e3a057dbb2f90f4189732132ef5b4f2f23dc3ae4afc58"), looks := false }, kinds := [], alts := [], laidByText := true, laidKinds := [.data, .pinned], laidTests := true, laidLooks := .later }
def PostingPartsCardSaid : Prop := Claim7.holds Tryd.pinned (.plain (OpenSpec.ofChange postingPartsSpec)) postingPartsCard

/-- THE TIED CARD OF 'barographlaw13.MatcherMatches'. -/
def matcherMatchesCard : Claim7 := { stood := { row := matcherMatchesRow, standIns := [], harness := (true, "7441a2a96dbbe94d858e3a057dbb2f90f4189732132ef5b4f2f23dc3ae4afc58"), looks := false }, kinds := [], alts := [], laidByText := true, laidKinds := [.data, .data, .pinned], laidTests := true, laidLooks := .later }
def MatcherMatchesCardSaid : Prop := Claim7.holds Tryd.pinned (.plain (OpenSpec.ofChange matcherMatchesSpec)) matcherMatchesCard

/-- THE TIED CARD OF 'barographlaw13.MatcherReads'. -/
def matcherReadsCard : Claim7 := { stood := { row := matcherReadsRow, standIns := [], harness := (true, "7441a2a96dbbe94d858e3a057dbb2f90f4189732132ef5b4f2f23dc3ae4afc58"), looks := false }, kinds := [], alts := [], laidByText := true, laidKinds := [.data, .data, .pinned], laidTests := true, laidLooks := .later }
def MatcherReadsCardSaid : Prop := Claim7.holds Tryd.pinned (.plain (OpenSpec.ofChange matcherReadsSpec)) matcherReadsCard

/-- THE TIED CARD OF 'barographlaw13.MatcherBack'. -/
def matcherBackCard : Claim7 := { stood := { row := matcherBackRow, standIns := [], harness := (true, "7441a2a96dbbe94d858e3a057dbb2f90f4189732132ef5b4f2f23dc3ae4afc58"), looks := false }, kinds := [], alts := [], laidByText := true, laidKinds := [.data, .data, .pinned], laidTests := true, laidLooks := .later }
def MatcherBackCardSaid : Prop := Claim7.holds Tryd.pinned (.plain (OpenSpec.ofChange matcherBackSpec)) matcherBackCard

/-- THE SECOND FORM's CARD OF 'barographlaw12.PostingEmpty'. -/
def postingEmptyUptoCard : Claim7 := { stood := { row := postingEmptyUptoRow, standIns := [], harness := (true, "7441a2a96dbbe94d858e3a057dbb2f90f4189732132ef5b4f2f23dc3ae4afc58"), looks := false }, kinds := [], alts := [], laidByText := true, laidKinds := [.data, .pinned], laidTests := true, laidLooks := .later }
def PostingEmptyUptoCardSaid : Prop := Claim7.holds Tryd.pinned (.plain (OpenSpec.upto postingEmptySpec)) postingEmptyUptoCard

/-- THE SECOND FORM's CARD OF 'barographlaw12.PostingParts'. -/
def postingPartsUptoCard : Claim7 := { stood := { row := postingPartsUptoRow, standIns := [], harness := (true, "7441a2a96dbbe94d858e3a057dbb2f90f4189732132ef5b4f2f23dc3ae4afc58"), looks := false }, kinds := [], alts := [], laidByText := true, laidKinds := [.data, .pinned], laidTests := true, laidLooks := .later }
def PostingPartsUptoCardSaid : Prop := Claim7.holds Tryd.pinned (.plain (OpenSpec.upto postingPartsSpec)) postingPartsUptoCard

/-- THE SECOND FORM's CARD OF 'barographlaw13.MatcherMatches'. -/
def matcherMatchesUptoCard : Claim7 := { stood := { row := matcherMatchesUptoRow, standIns := [], harness := (true, "7441a2a96dbbe94d858e3a057dbb2f90f4189732132ef5b4f2f23dc3ae4afc58"), looks := false }, kinds := [], alts := [], laidByText := true, laidKinds := [.data, .data, .pinned], laidTests := true, laidLooks := .later }
def MatcherMatchesUptoCardSaid : Prop := Claim7.holds Tryd.pinned (.plain (OpenSpec.upto matcherMatchesSpec)) matcherMatchesUptoCard

/-- THE SECOND FORM's CARD OF 'barographlaw13.MatcherReads'. -/
def matcherReadsUptoCard : Claim7 := { stood := { row := matcherReadsUptoRow, standIns := [], harness := (true, "7441a2a96dbbe94d858e3a057dbb2f90f4189732132ef5b4f2f23dc3ae4afc58"), looks := false }, kinds := [], alts := [], laidByText := true, laidKinds := [.data, .data, .pinned], laidTests := true, laidLooks := .later }
def MatcherReadsUptoCardSaid : Prop := Claim7.holds Tryd.pinned (.plain (OpenSpec.upto matcherReadsSpec)) matcherReadsUptoCard

/-- THE SECOND FORM's CARD OF 'barographlaw13.MatcherBack'. -/
def matcherBackUptoCard : Claim7 := { stood := { row := matcherBackUptoRow, standIns := [], harness := (true, "7441a2a96dbbe94d858e3a057dbb2f90f4189732132ef5b4f2f23dc3ae4afc58"), looks := false }, kinds := [], alts := [], laidByText := true, laidKinds := [.data, .data, .pinned], laidTests := true, laidLooks := .later }
def MatcherBackUptoCardSaid : Prop := Claim7.holds Tryd.pinned (.plain (OpenSpec.upto matcherBackSpec)) matcherBackUptoCard
end Rows
end Go.Proofs.YtjgaidojohgenaaDoor
