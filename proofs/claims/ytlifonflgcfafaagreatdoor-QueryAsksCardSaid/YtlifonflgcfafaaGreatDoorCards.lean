/-
  DERIVED. GIVEN WITH THE SEED: THE CARDS: each row of YtlifonflgcfafaaGreatDoorRows.lean that lists a variable, with what it lists TIED to the program's text (the seventh form; the later family's looks); each row that meets fmt, with fmt's text TOLD by the authors' own Lean function (tested against real Go, not proved from fmt's source: count such statements apart). THE CARD IS WHAT COUNTS. Prove the row's statement (the work); the ties are given (YtlifonflgcfafaaGreatDoorTie.lean); close each card by the builder's one call (the guide's Derived/Test/ToyasCard.lean, 'card_holds'). Laid BY PROGRAM, IN A SANDBOX (cutbox-door.mjs). By AI agents, Wed Nov 11 2026. No macro, syntax, notation, axiom, sorry.
-/
import Derived.Test.YtlifonflgcfafaaGreatDoorRows
import GoSem.ClaimSeven
namespace Go.Proofs.YtlifonflgcfafaaGreatDoor
namespace Rows

/-- THE TIED CARD OF 'barographlaw15.HeadKeeps'. -/
def headKeepsCard : Claim7 := { stood := { row := headKeepsRow, standIns := [], harness := (true, "3c635553bdfe1671aac8397635f6ac3d97375942ae9629d12802a6452dd9c9cb"), looks := true }, kinds := [], alts := [], laidByText := true, laidKinds := [.data, .pinned], laidTests := true, laidLooks := .later }
def HeadKeepsCardSaid : Prop := Claim7.holds Tryz.pinned (.plain (OpenSpec.ofChange headKeepsSpec)) headKeepsCard

/-- THE TIED CARD OF 'barographlaw23.QueryAsks'. -/
def queryAsksCard : Claim7 := { stood := { row := queryAsksRow, standIns := [], harness := (true, "3c635553bdfe1671aac8397635f6ac3d97375942ae9629d12802a6452dd9c9cb"), looks := true }, kinds := [], alts := [], laidByText := true, laidKinds := [.data, .data, .pinned], laidTests := true, laidLooks := .later }
def QueryAsksCardSaid : Prop := Claim7.holds Tryz.pinned (.plain (OpenSpec.ofChange queryAsksSpec)) queryAsksCard

/-- THE SECOND FORM's CARD OF 'barographlaw15.HeadKeeps'. -/
def headKeepsUptoCard : Claim7 := { stood := { row := headKeepsUptoRow, standIns := [], harness := (true, "3c635553bdfe1671aac8397635f6ac3d97375942ae9629d12802a6452dd9c9cb"), looks := true }, kinds := [], alts := [], laidByText := true, laidKinds := [.data, .pinned], laidTests := true, laidLooks := .later }
def HeadKeepsUptoCardSaid : Prop := Claim7.holds Tryz.pinned (.plain (OpenSpec.upto headKeepsSpec)) headKeepsUptoCard

/-- THE SECOND FORM's CARD OF 'barographlaw23.QueryAsks'. -/
def queryAsksUptoCard : Claim7 := { stood := { row := queryAsksUptoRow, standIns := [], harness := (true, "3c635553bdfe1671aac8397635f6ac3d97375942ae9629d12802a6452dd9c9cb"), looks := true }, kinds := [], alts := [], laidByText := true, laidKinds := [.data, .data, .pinned], laidTests := true, laidLooks := .later }
def QueryAsksUptoCardSaid : Prop := Claim7.holds Tryz.pinned (.plain (OpenSpec.upto queryAsksSpec)) queryAsksUptoCard
end Rows
end Go.Proofs.YtlifonflgcfafaaGreatDoor
