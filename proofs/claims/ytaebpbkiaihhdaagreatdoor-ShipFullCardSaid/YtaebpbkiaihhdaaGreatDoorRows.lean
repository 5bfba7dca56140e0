/-
  NARROWER THAN 'FOR EVERY INPUT', by the rows' own cells (each row's printed sentence says how): ShipThree: laid · ShipUploads: laid · ShipNotes: laid · ShipSaves: laid · ShipFull: laid.
  DERIVED. THE GIVEN ROWS OF THIS SEAT. 5 by the template 'for every input the law returns true; each argument reads behind the call as it read before'; 0 by the template 'total and deterministic' (their statements: YtaebpbkiaihhdaaGreatDoorTotals.lean).
  GIVEN WITH THE SEED: the statements are not yours to turn. If you find one false, say at which input.
  Laid BY PROGRAM, IN A SANDBOX (cutbox-rows.mjs): the forced cells as the released guide's own fill.sh prints them over the translation 712a26827afa4498… (all of the seat's roots in one cut). By AI agents, Wed Nov 11 2026. No macro, syntax, notation, axiom, sorry.
-/
import Derived.Test.YtaebpbkiaihhdaaGreatDoorChecked
import GoSem.PinnedTables
import GoSem.Claim
import GoSem.ClaimJoined
import GoSem.ClaimMapViews
import Derived.JoinedTies
import Derived.KernelRfl
namespace Go.Proofs.YtaebpbkiaihhdaaGreatDoor
/- THE CELL 'sum', in the pinned program and in every row, IS THE sha256 OF THE DUMP (.gsa) THAT YtaebpbkiaihhdaaGreatDoorProg.lean LOADS. Nothing in Lean hashes anything: it is a label: what it is worth is what the hold of that sum in a sandbox is worth. -/
noncomputable def Tryz.pinned : Pinned := { name := "ytaebpbkiaihhdaagreatdoor", sum := "712a26827afa4498f1a6ea52f1b05735a7cc63605fe6834bf83c65ca7630d5cf", checked := Tryz.checked }
namespace Rows
def none {H : Type} : Left H := { results := [], args := [] }

/- WHAT THE LISTED PACKAGE-LEVEL VARIABLES READ AS WHEN THE CALL BEGINS. Each datum BY PROGRAM (the guide's laid-datum.mjs) off the statement by which the dump's own 'gosem.cut.vars' lays the variable. In a bare row this is a premise. The card (YtaebpbkiaihhdaaGreatDoorCards.lean) ties it to the program's text. -/
def laid_barograph_xor_widths {H : Type} : DataW H := .agg [.lit (.int .i64 0), .lit (.int .i64 7), .lit (.int .i64 12), .lit (.int .i64 20), .lit (.int .i64 64)]
def laid_unicode_utf8_acceptRanges {H : Type} : DataW H := .agg [.agg [.lit (.int .u8 128), .lit (.int .u8 191)], .agg [.lit (.int .u8 160), .lit (.int .u8 191)], .agg [.lit (.int .u8 128), .lit (.int .u8 159)], .agg [.lit (.int .u8 144), .lit (.int .u8 191)], .agg [.lit (.int .u8 128), .lit (.int .u8 143)], .agg [.lit (.int .u8 0), .lit (.int .u8 0)], .agg [.lit (.int .u8 0), .lit (.int .u8 0)], .agg [.lit (.int .u8 0), .lit (.int .u8 0)], .agg [.lit (.int .u8 0), .lit (.int .u8 0)], .agg [.lit (.int .u8 0), .lit (.int .u8 0)], .agg [.lit (.int .u8 0), .lit (.int .u8 0)], .agg [.lit (.int .u8 0), .lit (.int .u8 0)], .agg [.lit (.int .u8 0), .lit (.int .u8 0)], .agg [.lit (.int .u8 0), .lit (.int .u8 0)], .agg [.lit (.int .u8 0), .lit (.int .u8 0)], .agg [.lit (.int .u8 0), .lit (.int .u8 0)]]
/-- One of Go's own tables, pinned by name: the form's constant. -/
def laid_unicode_utf8_first : DataW Unit := Go.Pinned.utf8First

/-- 'barographlaw18.ShipThree': WHATEVER THE INPUT: true; the input reads as it did. -/
def shipThreeSpec : ChangeSpec := { name := "shipThree", fn := fun _ => fun
  | [d1, d2, d3] => { results := [.lit (.bool true)], args := [d1, d2, d3] }
  | _ => none }
def shipThreeRow : OpenClaim := { program := "ytaebpbkiaihhdaagreatdoor", sum := "712a26827afa4498f1a6ea52f1b05735a7cc63605fe6834bf83c65ca7630d5cf", func := "barograph/barographlaw18.ShipThree", spec := "shipThree", inPlace := ["internal/bytealg.IndexByteString", "internal/bytealg.IndexString", "internal/bytealg.abigen_runtime_cmpstring"], unfollowed := true, recurses := true, named := ["unicode/utf8.first", "unicode/utf8.acceptRanges", "internal/bytealg.MaxLen", "barograph/xor.widths"], apart := false, laid := [("barograph/xor.widths", laid_barograph_xor_widths), ("unicode/utf8.acceptRanges", laid_unicode_utf8_acceptRanges), ("unicode/utf8.first", laid_unicode_utf8_first)] }
def ShipThreeSaid : Prop := shipThreeRow.holds Tryz.pinned (OpenSpec.ofChange shipThreeSpec)

/-- ITS FALSE NEIGHBOUR: 'it returns false'. Refute it at one input. -/
def shipThreeWrong : ChangeSpec := { name := "shipThree", fn := fun _ => fun
  | [d1, d2, d3] => { results := [.lit (.bool false)], args := [d1, d2, d3] }
  | _ => none }
def ShipThreeWrongFalsely : Prop := shipThreeRow.holds Tryz.pinned (OpenSpec.ofChange shipThreeWrong)

/-- 'barographlaw18.ShipUploads': WHATEVER THE INPUT: true; the input reads as it did. -/
def shipUploadsSpec : ChangeSpec := { name := "shipUploads", fn := fun _ => fun
  | [d1, d2, d3, d4, d5] => { results := [.lit (.bool true)], args := [d1, d2, d3, d4, d5] }
  | _ => none }
def shipUploadsRow : OpenClaim := { program := "ytaebpbkiaihhdaagreatdoor", sum := "712a26827afa4498f1a6ea52f1b05735a7cc63605fe6834bf83c65ca7630d5cf", func := "barograph/barographlaw18.ShipUploads", spec := "shipUploads", inPlace := ["internal/bytealg.IndexByteString", "internal/bytealg.IndexString", "internal/bytealg.abigen_runtime_cmpstring"], unfollowed := true, recurses := true, named := ["unicode/utf8.first", "unicode/utf8.acceptRanges", "internal/bytealg.MaxLen", "barograph/xor.widths"], apart := false, laid := [("barograph/xor.widths", laid_barograph_xor_widths), ("unicode/utf8.acceptRanges", laid_unicode_utf8_acceptRanges), ("unicode/utf8.first", laid_unicode_utf8_first)] }
def ShipUploadsSaid : Prop := shipUploadsRow.holds Tryz.pinned (OpenSpec.ofChange shipUploadsSpec)

/-- ITS FALSE NEIGHBOUR: 'it returns false'. Refute it at one input. -/
def shipUploadsWrong : ChangeSpec := { name := "shipUploads", fn := fun _ => fun
  | [d1, d2, d3, d4, d5] => { results := [.lit (.bool false)], args := [d1, d2, d3, d4, d5] }
  | _ => none }
def ShipUploadsWrongFalsely : Prop := shipUploadsRow.holds Tryz.pinned (OpenSpec.ofChange shipUploadsWrong)

/-- 'barographlaw18.ShipNotes': WHATEVER THE INPUT: true; the input reads as it did. -/
def shipNotesSpec : ChangeSpec := { name := "shipNotes", fn := fun _ => fun
  | [d1, d2, d3] => { results := [.lit (.bool true)], args := [d1, d2, d3] }
  | _ => none }
def shipNotesRow : OpenClaim := { program := "ytaebpbkiaihhdaagreatdoor", sum := "712a26827afa4498f1a6ea52f1b05735a7cc63605fe6834bf83c65ca7630d5cf", func := "barograph/barographlaw18.ShipNotes", spec := "shipNotes", inPlace := ["internal/bytealg.IndexByteString", "internal/bytealg.IndexString", "internal/bytealg.abigen_runtime_cmpstring"], unfollowed := true, recurses := true, named := ["unicode/utf8.first", "unicode/utf8.acceptRanges", "internal/bytealg.MaxLen", "barograph/xor.widths"], apart := false, laid := [("barograph/xor.widths", laid_barograph_xor_widths), ("unicode/utf8.acceptRanges", laid_unicode_utf8_acceptRanges), ("unicode/utf8.first", laid_unicode_utf8_first)] }
def ShipNotesSaid : Prop := shipNotesRow.holds Tryz.pinned (OpenSpec.ofChange shipNotesSpec)

/-- ITS FALSE NEIGHBOUR: 'it returns false'. Refute it at one input. -/
def shipNotesWrong : ChangeSpec := { name := "shipNotes", fn := fun _ => fun
  | [d1, d2, d3] => { results := [.lit (.bool false)], args := [d1, d2, d3] }
  | _ => none }
def ShipNotesWrongFalsely : Prop := shipNotesRow.holds Tryz.pinned (OpenSpec.ofChange shipNotesWrong)

/-- 'barographlaw18.ShipSaves': WHATEVER THE INPUT: true; the input reads as it did. -/
def shipSavesSpec : ChangeSpec := { name := "shipSaves", fn := fun _ => fun
  | [d1, d2, d3, d4] => { results := [.lit (.bool true)], args := [d1, d2, d3, d4] }
  | _ => none }
def shipSavesRow : OpenClaim := { program := "ytaebpbkiaihhdaagreatdoor", sum := "712a26827afa4498f1a6ea52f1b05735a7cc63605fe6834bf83c65ca7630d5cf", func := "barograph/barographlaw18.ShipSaves", spec := "shipSaves", inPlace := ["internal/bytealg.IndexByteString", "internal/bytealg.IndexString", "internal/bytealg.abigen_runtime_cmpstring"], unfollowed := true, recurses := true, named := ["unicode/utf8.first", "unicode/utf8.acceptRanges", "internal/bytealg.MaxLen", "barograph/xor.widths"], apart := false, laid := [("barograph/xor.widths", laid_barograph_xor_widths), ("unicode/utf8.acceptRanges", laid_unicode_utf8_acceptRanges), ("unicode/utf8.first", laid_unicode_utf8_first)] }
def ShipSavesSaid : Prop := shipSavesRow.holds Tryz.pinned (OpenSpec.ofChange shipSavesSpec)

/-- ITS FALSE NEIGHBOUR: 'it returns false'. Refute it at one input. -/
def shipSavesWrong : ChangeSpec := { name := "shipSaves", fn := fun _ => fun
  | [d1, d2, d3, d4] => { results := [.lit (.bool false)], args := [d1, d2, d3, d4] }
  | _ => none }
def ShipSavesWrongFalsely : Prop := shipSavesRow.holds Tryz.pinned (OpenSpec.ofChange shipSavesWrong)

/-- 'barographlaw18.ShipFull': WHATEVER THE INPUT: true; the input reads as it did. -/
def shipFullSpec : ChangeSpec := { name := "shipFull", fn := fun _ => fun
  | [d1, d2] => { results := [.lit (.bool true)], args := [d1, d2] }
  | _ => none }
def shipFullRow : OpenClaim := { program := "ytaebpbkiaihhdaagreatdoor", sum := "712a26827afa4498f1a6ea52f1b05735a7cc63605fe6834bf83c65ca7630d5cf", func := "barograph/barographlaw18.ShipFull", spec := "shipFull", inPlace := ["internal/bytealg.IndexByteString", "internal/bytealg.IndexString", "internal/bytealg.abigen_runtime_cmpstring"], unfollowed := true, recurses := true, named := ["unicode/utf8.first", "unicode/utf8.acceptRanges", "internal/bytealg.MaxLen", "barograph/xor.widths"], apart := false, laid := [("barograph/xor.widths", laid_barograph_xor_widths), ("unicode/utf8.acceptRanges", laid_unicode_utf8_acceptRanges), ("unicode/utf8.first", laid_unicode_utf8_first)] }
def ShipFullSaid : Prop := shipFullRow.holds Tryz.pinned (OpenSpec.ofChange shipFullSpec)

/-- ITS FALSE NEIGHBOUR: 'it returns false'. Refute it at one input. -/
def shipFullWrong : ChangeSpec := { name := "shipFull", fn := fun _ => fun
  | [d1, d2] => { results := [.lit (.bool false)], args := [d1, d2] }
  | _ => none }
def ShipFullWrongFalsely : Prop := shipFullRow.holds Tryz.pinned (OpenSpec.ofChange shipFullWrong)

/- THE SECOND FORM. 'bulk': how many values and letters a reading holds, each counted each time it is reached (what is shared counts as often as it is met; a slice's spare places count too). A statement '..UptoSaid' is the law's where the arguments, and the package variables that the reading takes, are together of bulk at most 1048576: NARROWER than '..Said'. Prove '..Said' where nothing that the law and all that it calls make is longer than what came in: it says more and counts as full. Else prove '..UptoSaid'. A law counts once. -/
mutual
def uptoBulk {H : Type} : DataW H → Nat
  | .lit (.string bytes) => bytes.length + 1
  | .lit _ => 1
  | .nil => 1
  | .ptr d => uptoBulk d + 1
  | .slice elems spare => uptoBulkAll elems + uptoBulkAll spare + 1
  | .agg parts => uptoBulkAll parts + 1
  | .iface _ d => uptoBulk d + 1
  | .map entries => uptoBulkEntries entries + 1
  | .held _ => 1
def uptoBulkAll {H : Type} : List (DataW H) → Nat
  | [] => 0
  | d :: r => uptoBulk d + uptoBulkAll r
def uptoBulkEntries {H : Type} : List (Lit × DataW H) → Nat
  | [] => 0
  | x :: r => uptoBulkEntry x + uptoBulkEntries r
def uptoBulkEntry {H : Type} : Lit × DataW H → Nat
  | (.string bytes, d) => bytes.length + uptoBulk d + 1
  | (_, d) => uptoBulk d + 1
 end
def uptoSmall : (H : Type) → List (DataW H) → Bool := fun _ ds => decide (uptoBulkAll ds ≤ 1048576)
def OpenSpec.upto (s : _root_.Go.ChangeSpec) : _root_.Go.OpenSpec := { _root_.Go.OpenSpec.ofChange s with cond := some uptoSmall }

/-- 'barographlaw18.ShipThree', WHERE WHAT IT READS IS OF BULK AT MOST 1048576: true; the input reads as it did. -/
def shipThreeUptoRow : OpenClaim := { program := "ytaebpbkiaihhdaagreatdoor", sum := "712a26827afa4498f1a6ea52f1b05735a7cc63605fe6834bf83c65ca7630d5cf", func := "barograph/barographlaw18.ShipThree", spec := "shipThree", inPlace := ["internal/bytealg.IndexByteString", "internal/bytealg.IndexString", "internal/bytealg.abigen_runtime_cmpstring"], unfollowed := true, recurses := true, named := ["unicode/utf8.first", "unicode/utf8.acceptRanges", "internal/bytealg.MaxLen", "barograph/xor.widths"], apart := false, laid := [("barograph/xor.widths", laid_barograph_xor_widths), ("unicode/utf8.acceptRanges", laid_unicode_utf8_acceptRanges), ("unicode/utf8.first", laid_unicode_utf8_first)], narrowed := true }
def ShipThreeUptoSaid : Prop := shipThreeUptoRow.holds Tryz.pinned (OpenSpec.upto shipThreeSpec)

/-- 'barographlaw18.ShipUploads', WHERE WHAT IT READS IS OF BULK AT MOST 1048576: true; the input reads as it did. -/
def shipUploadsUptoRow : OpenClaim := { program := "ytaebpbkiaihhdaagreatdoor", sum := "712a26827afa4498f1a6ea52f1b05735a7cc63605fe6834bf83c65ca7630d5cf", func := "barograph/barographlaw18.ShipUploads", spec := "shipUploads", inPlace := ["internal/bytealg.IndexByteString", "internal/bytealg.IndexString", "internal/bytealg.abigen_runtime_cmpstring"], unfollowed := true, recurses := true, named := ["unicode/utf8.first", "unicode/utf8.acceptRanges", "internal/bytealg.MaxLen", "barograph/xor.widths"], apart := false, laid := [("barograph/xor.widths", laid_barograph_xor_widths), ("unicode/utf8.acceptRanges", laid_unicode_utf8_acceptRanges), ("unicode/utf8.first", laid_unicode_utf8_first)], narrowed := true }
def ShipUploadsUptoSaid : Prop := shipUploadsUptoRow.holds Tryz.pinned (OpenSpec.upto shipUploadsSpec)

/-- 'barographlaw18.ShipNotes', WHERE WHAT IT READS IS OF BULK AT MOST 1048576: true; the input reads as it did. -/
def shipNotesUptoRow : OpenClaim := { program := "ytaebpbkiaihhdaagreatdoor", sum := "712a26827afa4498f1a6ea52f1b05735a7cc63605fe6834bf83c65ca7630d5cf", func := "barograph/barographlaw18.ShipNotes", spec := "shipNotes", inPlace := ["internal/bytealg.IndexByteString", "internal/bytealg.IndexString", "internal/bytealg.abigen_runtime_cmpstring"], unfollowed := true, recurses := true, named := ["unicode/utf8.first", "unicode/utf8.acceptRanges", "internal/bytealg.MaxLen", "barograph/xor.widths"], apart := false, laid := [("barograph/xor.widths", laid_barograph_xor_widths), ("unicode/utf8.acceptRanges", laid_unicode_utf8_acceptRanges), ("unicode/utf8.first", laid_unicode_utf8_first)], narrowed := true }
def ShipNotesUptoSaid : Prop := shipNotesUptoRow.holds Tryz.pinned (OpenSpec.upto shipNotesSpec)

/-- 'barographlaw18.ShipSaves', WHERE WHAT IT READS IS OF BULK AT MOST 1048576: true; the input reads as it did. -/
def shipSavesUptoRow : OpenClaim := { program := "ytaebpbkiaihhdaagreatdoor", sum := "712a26827afa4498f1a6ea52f1b05735a7cc63605fe6834bf83c65ca7630d5cf", func := "barograph/barographlaw18.ShipSaves", spec := "shipSaves", inPlace := ["internal/bytealg.IndexByteString", "internal/bytealg.IndexString", "internal/bytealg.abigen_runtime_cmpstring"], unfollowed := true, recurses := true, named := ["unicode/utf8.first", "unicode/utf8.acceptRanges", "internal/bytealg.MaxLen", "barograph/xor.widths"], apart := false, laid := [("barograph/xor.widths", laid_barograph_xor_widths), ("unicode/utf8.acceptRanges", laid_unicode_utf8_acceptRanges), ("unicode/utf8.first", laid_unicode_utf8_first)], narrowed := true }
def ShipSavesUptoSaid : Prop := shipSavesUptoRow.holds Tryz.pinned (OpenSpec.upto shipSavesSpec)

/-- 'barographlaw18.ShipFull', WHERE WHAT IT READS IS OF BULK AT MOST 1048576: true; the input reads as it did. -/
def shipFullUptoRow : OpenClaim := { program := "ytaebpbkiaihhdaagreatdoor", sum := "712a26827afa4498f1a6ea52f1b05735a7cc63605fe6834bf83c65ca7630d5cf", func := "barograph/barographlaw18.ShipFull", spec := "shipFull", inPlace := ["internal/bytealg.IndexByteString", "internal/bytealg.IndexString", "internal/bytealg.abigen_runtime_cmpstring"], unfollowed := true, recurses := true, named := ["unicode/utf8.first", "unicode/utf8.acceptRanges", "internal/bytealg.MaxLen", "barograph/xor.widths"], apart := false, laid := [("barograph/xor.widths", laid_barograph_xor_widths), ("unicode/utf8.acceptRanges", laid_unicode_utf8_acceptRanges), ("unicode/utf8.first", laid_unicode_utf8_first)], narrowed := true }
def ShipFullUptoSaid : Prop := shipFullUptoRow.holds Tryz.pinned (OpenSpec.upto shipFullSpec)

end Rows
end Go.Proofs.YtaebpbkiaihhdaaGreatDoor
