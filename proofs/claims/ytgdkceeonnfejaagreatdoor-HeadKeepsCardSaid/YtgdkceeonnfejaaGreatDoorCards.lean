/-
  DERIVED. GIVEN WITH THE SEED: THE CARDS: each row of YtgdkceeonnfejaaGreatDoorRows.lean that lists a variable, with what it lists TIED to the program's text (the seventh form; the later family's looks); each row that meets fmt, with fmt's text TOLD by the authors' own Lean function (tested against real Go, not proved from fmt's source: count such statements apart). THE CARD IS WHAT COUNTS. Prove the row's statement (the work); the ties are given (YtgdkceeonnfejaaGreatDoorTie.lean); close each card by the builder's one call (the guide's Derived/Test/ToyasCard.lean, 'card_holds'). Laid BY PROGRAM, IN A SANDBOX (cutbox-door.mjs). By AI agents, Wed Nov 11 2026. No macro, syntax, notation, axiom, sorry.
-/
import Derived.Test.YtgdkceeonnfejaaGreatDoorRows
import GoSem.ClaimSeven
namespace Go.Proofs.YtgdkceeonnfejaaGreatDoor
namespace Rows

/-- THE TIED CARD OF 'barographlaw15.HeadKeeps'. -/
def headKeepsCard : Claim7 := { stood := { row := headKeepsRow, standIns := [], harness := (true, "a4ad6eec6236c5277698e670fbea94568246e374f97f9501c823a3cb46fe749f"), looks := false }, kinds := [], alts := [], laidByText := true, laidKinds := [.data, .pinned], laidTests := true, laidLooks := .later }
def HeadKeepsCardSaid : Prop := Claim7.holds Tryz.pinned (.plain (OpenSpec.ofChange headKeepsSpec)) headKeepsCard

/-- THE TIED CARD OF 'barographlaw15.HeadPlays'. -/
def headPlaysCard : Claim7 := { stood := { row := headPlaysRow, standIns := [], harness := (true, "a4ad6eec6236c5277698e670fbea94568246e374f97f9501c823a3cb46fe749f"), looks := false }, kinds := [], alts := [], laidByText := true, laidKinds := [.data, .pinned], laidTests := true, laidLooks := .later }
def HeadPlaysCardSaid : Prop := Claim7.holds Tryz.pinned (.plain (OpenSpec.ofChange headPlaysSpec)) headPlaysCard

/-- THE TIED CARD OF 'barographlaw15.HeadRefuses'. -/
def headRefusesCard : Claim7 := { stood := { row := headRefusesRow, standIns := [], harness := (true, "a4ad6eec6236c5277698e670fbea94568246e374f97f9501c823a3cb46fe749f"), looks := false }, kinds := [], alts := [], laidByText := true, laidKinds := [.data, .pinned], laidTests := true, laidLooks := .later }
def HeadRefusesCardSaid : Prop := Claim7.holds Tryz.pinned (.plain (OpenSpec.ofChange headRefusesSpec)) headRefusesCard

/-- THE TIED CARD OF 'barographlaw15.HeadBegins'. -/
def headBeginsCard : Claim7 := { stood := { row := headBeginsRow, standIns := [], harness := (true, "a4ad6eec6236c5277698e670fbea94568246e374f97f9501c823a3cb46fe749f"), looks := false }, kinds := [], alts := [], laidByText := true, laidKinds := [.data, .pinned], laidTests := true, laidLooks := .later }
def HeadBeginsCardSaid : Prop := Claim7.holds Tryz.pinned (.plain (OpenSpec.ofChange headBeginsSpec)) headBeginsCard

/-- THE TIED CARD OF 'barographlaw15.HeadRebuilt'. -/
def headRebuiltCard : Claim7 := { stood := { row := headRebuiltRow, standIns := [], harness := (true, "a4ad6eec6236c5277698e670fbea94568246e374f97f9501c823a3cb46fe749f"), looks := false }, kinds := [], alts := [], laidByText := true, laidKinds := [.data, .pinned], laidTests := true, laidLooks := .later }
def HeadRebuiltCardSaid : Prop := Claim7.holds Tryz.pinned (.plain (OpenSpec.ofChange headRebuiltSpec)) headRebuiltCard

/-- THE SECOND FORM's CARD OF 'barographlaw15.HeadKeeps'. -/
def headKeepsUptoCard : Claim7 := { stood := { row := headKeepsUptoRow, standIns := [], harness := (true, "a4ad6eec6236c5277698e670fbea94568246e374f97f9501c823a3cb46fe749f"), looks := false }, kinds := [], alts := [], laidByText := true, laidKinds := [.data, .pinned], laidTests := true, laidLooks := .later }
def HeadKeepsUptoCardSaid : Prop := Claim7.holds Tryz.pinned (.plain (OpenSpec.upto headKeepsSpec)) headKeepsUptoCard

/-- THE SECOND FORM's CARD OF 'barographlaw15.HeadPlays'. -/
def headPlaysUptoCard : Claim7 := { stood := { row := headPlaysUptoRow, standIns := [], harness := (true, "a4ad6eec6236c5277698e670fbea94568246e374f97f9501c823a3cb46fe749f"), looks := false }, kinds := [], alts := [], laidByText := true, laidKinds := [.data, .pinned], laidTests := true, laidLooks := .later }
def HeadPlaysUptoCardSaid : Prop := Claim7.holds Tryz.pinned (.plain (OpenSpec.upto headPlaysSpec)) headPlaysUptoCard

/-- THE SECOND FORM's CARD OF 'barographlaw15.HeadRefuses'. -/
def headRefusesUptoCard : Claim7 := { stood := { row := headRefusesUptoRow, standIns := [], harness := (true, "a4ad6eec6236c5277698e670fbea94568246e374f97f9501c823a3cb46fe749f"), looks := false }, kinds := [], alts := [], laidByText := true, laidKinds := [.data, .pinned], laidTests := true, laidLooks := .later }
def HeadRefusesUptoCardSaid : Prop := Claim7.holds Tryz.pinned (.plain (OpenSpec.upto headRefusesSpec)) headRefusesUptoCard

/-- THE SECOND FORM's CARD OF 'barographlaw15.HeadBegins'. -/
def headBeginsUptoCard : Claim7 := { stood := { row := headBeginsUptoRow, standIns := [], harness := (true, "a4ad6eec6236c5277698e670fbea94568246e374f97f9501c823a3cb46fe749f"), looks := false }, kinds := [], alts := [], laidByText := true, laidKinds := [.data, .pinned], laidTests := true, laidLooks := .later }
def HeadBeginsUptoCardSaid : Prop := Claim7.holds Tryz.pinned (.plain (OpenSpec.upto headBeginsSpec)) headBeginsUptoCard

/-- THE SECOND FORM's CARD OF 'barographlaw15.HeadRebuilt'. -/
def headRebuiltUptoCard : Claim7 := { stood := { row := headRebuiltUptoRow, standIns := [], harness := (true, "a4ad6eec6236c5277698e670fbea94568246e374f97f9501c823a3cb46fe749f"), looks := false }, kinds := [], alts := [], laidByText := true, laidKinds := [.data, .pinned], laidTests := true, laidLooks := .later }
def HeadRebuiltUptoCardSaid : Prop := Claim7.holds Tryz.pinned (.plain (OpenSpec.upto headRebuiltSpec)) headRebuiltUptoCard
end Rows
end Go.Proofs.YtgdkceeonnfejaaGreatDoor
