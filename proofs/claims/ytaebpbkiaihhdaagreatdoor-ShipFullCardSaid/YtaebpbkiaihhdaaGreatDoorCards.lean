/-
  DERIVED. GIVEN WITH THE SEED: THE CARDS: each row of YtaebpbkiaihhdaaGreatDoorRows.lean that lists a variable, with what it lists TIED to the program's text (the seventh form; the later family's looks); each row that meets fmt, with fmt's text TOLD by the authors' own Lean function (tested against real Go, not proved from fmt's source: count such statements apart). THE CARD IS WHAT COUNTS. Prove the row's statement (the work); the ties are given (YtaebpbkiaihhdaaGreatDoorTie.lean); close each card by the builder's one call (the guide's Derived/Test/ToyasCard.lean, 'card_holds'). Laid BY PROGRAM, IN A SANDBOX (cutbox-door.mjs). By AI agents, Wed Nov 11 2026. No macro, syntax, notation, axiom, sorry.
-/
import Derived.Test.YtaebpbkiaihhdaaGreatDoorRows
import GoSem.ClaimSeven
namespace Go.Proofs.YtaebpbkiaihhdaaGreatDoor
namespace Rows

/-- THE TIED CARD OF 'barographlaw18.ShipThree'. -/
def shipThreeCard : Claim7 := { stood := { row := shipThreeRow, standIns := [], harness := (true, "4041bdb53d9422dce08dedcbc411c1dd45726d570caaf6b66c891c253e37f492"), looks := false }, kinds := [], alts := [], laidByText := true, laidKinds := [.data, .data, .pinned], laidTests := true, laidLooks := .later }
def ShipThreeCardSaid : Prop := Claim7.holds Tryz.pinned (.plain (OpenSpec.ofChange shipThreeSpec)) shipThreeCard

/-- THE TIED CARD OF 'barographlaw18.ShipUploads'. -/
def shipUploadsCard : Claim7 := { stood := { row := shipUploadsRow, standIns := [], harness := (true, "4041bdb53d9422dce08dedcbc411c1dd45726d570caaf6b66c891c253e37f492"), looks := false }, kinds := [], alts := [], laidByText := true, laidKinds := [.data, .data, .pinned], laidTests := true, laidLooks := .later }
def ShipUploadsCardSaid : Prop := Claim7.holds Tryz.pinned (.plain (OpenSpec.ofChange shipUploadsSpec)) shipUploadsCard

/-- THE TIED CARD OF 'barographlaw18.ShipNotes'. -/
def shipNotesCard : Claim7 := { stood := { row := shipNotesRow, standIns := [], harness := (true, "4041bdb53d9422dce08dedcbc411c1dd45726d570caaf6b66c891c253e37f492"), looks := false }, kinds := [], alts := [], laidByText := true, laidKinds := [.data, .data, .pinned], laidTests := true, laidLooks := .later }
def ShipNotesCardSaid : Prop := Claim7.holds Tryz.pinned (.plain (OpenSpec.ofChange shipNotesSpec)) shipNotesCard

/-- THE TIED CARD OF 'barographlaw18.ShipSaves'. -/
def shipSavesCard : Claim7 := { stood := { row := shipSavesRow, standIns := [], harness := (true, "4041bdb53d9422dce08dedcbc411c1dd45726d570caaf6b66c891c253e37f492"), looks := false }, kinds := [], alts := [], laidByText := true, laidKinds := [.data, .data, .pinned], laidTests := true, laidLooks := .later }
def ShipSavesCardSaid : Prop := Claim7.holds Tryz.pinned (.plain (OpenSpec.ofChange shipSavesSpec)) shipSavesCard

/-- THE TIED CARD OF 'barographlaw18.ShipFull'. -/
def shipFullCard : Claim7 := { stood := { row := shipFullRow, standIns := [], harness := (true, "4041bdb53d9422dce08dedcbc411c1dd45726d570caaf6b66c891c253e37f492"), looks := false }, kinds := [], alts := [], laidByText := true, laidKinds := [.data, .data, .pinned], laidTests := true, laidLooks := .later }
def ShipFullCardSaid : Prop := Claim7.holds Tryz.pinned (.plain (OpenSpec.ofChange shipFullSpec)) shipFullCard

/-- THE SECOND FORM's CARD OF 'barographlaw18.ShipThree'. -/
def shipThreeUptoCard : Claim7 := { stood := { row := shipThreeUptoRow, standIns := [], harness := (true, "4041bdb53d9422dce08dedcbc411c1dd45726d570caaf6b66c891c253e37f492"), looks := false }, kinds := [], alts := [], laidByText := true, laidKinds := [.data, .data, .pinned], laidTests := true, laidLooks := .later }
def ShipThreeUptoCardSaid : Prop := Claim7.holds Tryz.pinned (.plain (OpenSpec.upto shipThreeSpec)) shipThreeUptoCard

/-- THE SECOND FORM's CARD OF 'barographlaw18.ShipUploads'. -/
def shipUploadsUptoCard : Claim7 := { stood := { row := shipUploadsUptoRow, standIns := [], harness := (true, "4041bdb53d9422dce08dedcbc411c1dd45726d570caaf6b66c891c253e37f492"), looks := false }, kinds := [], alts := [], laidByText := true, laidKinds := [.data, .data, .pinned], laidTests := true, laidLooks := .later }
def ShipUploadsUptoCardSaid : Prop := Claim7.holds Tryz.pinned (.plain (OpenSpec.upto shipUploadsSpec)) shipUploadsUptoCard

/-- THE SECOND FORM's CARD OF 'barographlaw18.ShipNotes'. -/
def shipNotesUptoCard : Claim7 := { stood := { row := shipNotesUptoRow, standIns := [], harness := (true, "4041bdb53d9422dce08dedcbc411c1dd45726d570caaf6b66c891c253e37f492"), looks := false }, kinds := [], alts := [], laidByText := true, laidKinds := [.data, .data, .pinned], laidTests := true, laidLooks := .later }
def ShipNotesUptoCardSaid : Prop := Claim7.holds Tryz.pinned (.plain (OpenSpec.upto shipNotesSpec)) shipNotesUptoCard

/-- THE SECOND FORM's CARD OF 'barographlaw18.ShipSaves'. -/
def shipSavesUptoCard : Claim7 := { stood := { row := shipSavesUptoRow, standIns := [], harness := (true, "4041bdb53d9422dce08dedcbc411c1dd45726d570caaf6b66c891c253e37f492"), looks := false }, kinds := [], alts := [], laidByText := true, laidKinds := [.data, .data, .pinned], laidTests := true, laidLooks := .later }
def ShipSavesUptoCardSaid : Prop := Claim7.holds Tryz.pinned (.plain (OpenSpec.upto shipSavesSpec)) shipSavesUptoCard

/-- THE SECOND FORM's CARD OF 'barographlaw18.ShipFull'. -/
def shipFullUptoCard : Claim7 := { stood := { row := shipFullUptoRow, standIns := [], harness := (true, "4041bdb53d9422dce08dedcbc411c1dd45726d570caaf6b66c891c253e37f492"), looks := false }, kinds := [], alts := [], laidByText := true, laidKinds := [.data, .data, .pinned], laidTests := true, laidLooks := .later }
def ShipFullUptoCardSaid : Prop := Claim7.holds Tryz.pinned (.plain (OpenSpec.upto shipFullSpec)) shipFullUptoCard
end Rows
end Go.Proofs.YtaebpbkiaihhdaaGreatDoor
