/-
  NARROWER THAN 'FOR EVERY INPUT', by the rows' own cells (each row's printed sentence says how): HeadKeeps: laid · HeadPlays: laid · HeadRefuses: laid · HeadBegins: laid · HeadRebuilt: laid.
  DERIVED. THE GIVEN ROWS OF THIS SEAT. 5 by the template 'for every input the law returns true; each argument reads behind the call as it read before'; 0 by the template 'total and deterministic' (their statements: YtgdkceeonnfejaaGreatDoorTotals.lean).
  GIVEN WITH THE SEED: the statements are not yours to turn. If you find one false, say at which input.
  Laid BY PROGRAM, IN A SANDBOX (cutbox-rows.mjs): the forced cells as the released guide's own fill.sh prints them over the translation e1537c7540f35fce… (all of the seat's roots in one cut). By AI agents, Wed Nov 11 2026. No macro, syntax, notation, axiom, sorry.
-/
import Derived.Test.YtgdkceeonnfejaaGreatDoorChecked
import GoSem.PinnedTables
import GoSem.Claim
import GoSem.ClaimJoined
import GoSem.ClaimMapViews
import Derived.JoinedTies
import Derived.KernelRfl
namespace Go.Proofs.YtgdkceeonnfejaaGreatDoor
/- THE CELL 'sum', in the pinned program and in every row, IS THE sha256 OF THE DUMP (.gsa) THAT YtgdkceeonnfejaaGreatDoorProg.lean LOADS. Nothing in Lean hashes anything: it is a label: what it is worth is what the hold of that sum in a sandbox is worth. -/
noncomputable def Tryz.pinned : Pinned := { name := "ytgdkceeonnfejaagreatdoor", sum := "e1537c7540f35fceabc953f5feea0853b381a747f7a8a0a7e822b449b3e3b967", checked := Tryz.checked }
namespace Rows
def none {H : Type} : Left H := { results := [], args := [] }

/- WHAT THE LISTED PACKAGE-LEVEL VARIABLES READ AS WHEN THE CALL BEGINS. Each datum BY PROGRAM (the guide's laid-datum.mjs) off the statement by which the dump's own 'gosem.cut.vars' lays the variable. In a bare row this is a premise. The card (YtgdkceeonnfejaaGreatDoorCards.lean) ties it to the program's text. -/
def laid_unicode_utf8_acceptRanges {H : Type} : DataW H := .agg [.agg [.lit (.int .u8 128), .lit (.int .u8 191)], .agg [.lit (.int .u8 160), .lit (.int .u8 191)], .agg [.lit (.int .u8 128), .lit (.int .u8 159)], .agg [.lit (.int .u8 144), .lit (.int .u8 191)], .agg [.lit (.int .u8 128), .lit (.int .u8 143)], .agg [.lit (.int .u8 0), .lit (.int .u8 0)], .agg [.lit (.int .u8 0), .lit (.int .u8 0)], .agg [.lit (.int .u8 0), .lit (.int .u8 0)], .agg [.lit (.int .u8 0), .lit (.int .u8 0)], .agg [.lit (.int .u8 0), .lit (.int .u8 0)], .agg [.lit (.int .u8 0), .lit (.int .u8 0)], .agg [.lit (.int .u8 0), .lit (.int .u8 0)], .agg [.lit (.int .u8 0), .lit (.int .u8 0)], .agg [.lit (.int .u8 0), .lit (.int .u8 0)], .agg [.lit (.int .u8 0), .lit (.int .u8 0)], .agg [.lit (.int .u8 0), .lit (.int .u8 0)]]
/-- One of Go's own tables, pinned by name: the form's constant. -/
def laid_unicode_utf8_first : DataW Unit := Go.Pinned.utf8First

/-- 'barographlaw15.HeadKeeps': WHATEVER THE INPUT: true; the input reads as it did. -/
def headKeepsSpec : ChangeSpec := { name := "headKeeps", fn := fun _ => fun
  | [d1, d2] => { results := [.lit (.bool true)], args := [d1, d2] }
  | _ => none }
def headKeepsRow : OpenClaim := { program := "ytgdkceeonnfejaagreatdoor", sum := "e1537c7540f35fceabc953f5feea0853b381a747f7a8a0a7e822b449b3e3b967", func := "barograph/barographlaw15.HeadKeeps", spec := "headKeeps", inPlace := ["internal/bytealg.IndexByteString", "internal/bytealg.IndexString", "internal/bytealg.abigen_runtime_cmpstring", "slices.overlaps[int]"], unfollowed := true, recurses := true, named := ["unicode/utf8.first", "unicode/utf8.acceptRanges", "internal/bytealg.MaxLen"], apart := false, laid := [("unicode/utf8.acceptRanges", laid_unicode_utf8_acceptRanges), ("unicode/utf8.first", laid_unicode_utf8_first)] }
def HeadKeepsSaid : Prop := headKeepsRow.holds Tryz.pinned (OpenSpec.ofChange headKeepsSpec)

/-- ITS FALSE NEIGHBOUR: 'it returns false'. Refute it at one input. -/
def headKeepsWrong : ChangeSpec := { name := "headKeeps", fn := fun _ => fun
  | [d1, d2] => { results := [.lit (.bool false)], args := [d1, d2] }
  | _ => none }
def HeadKeepsWrongFalsely : Prop := headKeepsRow.holds Tryz.pinned (OpenSpec.ofChange headKeepsWrong)

/-- 'barographlaw15.HeadPlays': WHATEVER THE INPUT: true; the input reads as it did. -/
def headPlaysSpec : ChangeSpec := { name := "headPlays", fn := fun _ => fun
  | [d1, d2, d3, d4] => { results := [.lit (.bool true)], args := [d1, d2, d3, d4] }
  | _ => none }
def headPlaysRow : OpenClaim := { program := "ytgdkceeonnfejaagreatdoor", sum := "e1537c7540f35fceabc953f5feea0853b381a747f7a8a0a7e822b449b3e3b967", func := "barograph/barographlaw15.HeadPlays", spec := "headPlays", inPlace := ["internal/bytealg.IndexByteString", "internal/bytealg.IndexString", "internal/bytealg.abigen_runtime_cmpstring", "slices.overlaps[int]"], unfollowed := true, recurses := true, named := ["unicode/utf8.first", "unicode/utf8.acceptRanges", "internal/bytealg.MaxLen"], apart := false, laid := [("unicode/utf8.acceptRanges", laid_unicode_utf8_acceptRanges), ("unicode/utf8.first", laid_unicode_utf8_first)] }
def HeadPlaysSaid : Prop := headPlaysRow.holds Tryz.pinned (OpenSpec.ofChange headPlaysSpec)

/-- ITS FALSE NEIGHBOUR: 'it returns false'. Refute it at one input. -/
def headPlaysWrong : ChangeSpec := { name := "headPlays", fn := fun _ => fun
  | [d1, d2, d3, d4] => { results := [.lit (.bool false)], args := [d1, d2, d3, d4] }
  | _ => none }
def HeadPlaysWrongFalsely : Prop := headPlaysRow.holds Tryz.pinned (OpenSpec.ofChange headPlaysWrong)

/-- 'barographlaw15.HeadRefuses': WHATEVER THE INPUT: true; the input reads as it did. -/
def headRefusesSpec : ChangeSpec := { name := "headRefuses", fn := fun _ => fun
  | [d] => { results := [.lit (.bool true)], args := [d] }
  | _ => none }
def headRefusesRow : OpenClaim := { program := "ytgdkceeonnfejaagreatdoor", sum := "e1537c7540f35fceabc953f5feea0853b381a747f7a8a0a7e822b449b3e3b967", func := "barograph/barographlaw15.HeadRefuses", spec := "headRefuses", inPlace := ["slices.overlaps[int]", "internal/bytealg.IndexByteString", "internal/bytealg.IndexString", "internal/bytealg.abigen_runtime_cmpstring"], unfollowed := true, recurses := true, named := ["unicode/utf8.first", "unicode/utf8.acceptRanges", "internal/bytealg.MaxLen"], apart := false, laid := [("unicode/utf8.acceptRanges", laid_unicode_utf8_acceptRanges), ("unicode/utf8.first", laid_unicode_utf8_first)] }
def HeadRefusesSaid : Prop := headRefusesRow.holds Tryz.pinned (OpenSpec.ofChange headRefusesSpec)

/-- ITS FALSE NEIGHBOUR: 'it returns false'. Refute it at one input. -/
def headRefusesWrong : ChangeSpec := { name := "headRefuses", fn := fun _ => fun
  | [d] => { results := [.lit (.bool false)], args := [d] }
  | _ => none }
def HeadRefusesWrongFalsely : Prop := headRefusesRow.holds Tryz.pinned (OpenSpec.ofChange headRefusesWrong)

/-- 'barographlaw15.HeadBegins': WHATEVER THE INPUT: true; the input reads as it did. -/
def headBeginsSpec : ChangeSpec := { name := "headBegins", fn := fun _ => fun
  | [d1, d2, d3, d4, d5] => { results := [.lit (.bool true)], args := [d1, d2, d3, d4, d5] }
  | _ => none }
def headBeginsRow : OpenClaim := { program := "ytgdkceeonnfejaagreatdoor", sum := "e1537c7540f35fceabc953f5feea0853b381a747f7a8a0a7e822b449b3e3b967", func := "barograph/barographlaw15.HeadBegins", spec := "headBegins", inPlace := ["internal/bytealg.IndexByteString", "internal/bytealg.IndexString", "internal/bytealg.abigen_runtime_cmpstring", "slices.overlaps[int]"], unfollowed := true, recurses := true, named := ["unicode/utf8.first", "unicode/utf8.acceptRanges", "internal/bytealg.MaxLen"], apart := false, laid := [("unicode/utf8.acceptRanges", laid_unicode_utf8_acceptRanges), ("unicode/utf8.first", laid_unicode_utf8_first)] }
def HeadBeginsSaid : Prop := headBeginsRow.holds Tryz.pinned (OpenSpec.ofChange headBeginsSpec)

/-- ITS FALSE NEIGHBOUR: 'it returns false'. Refute it at one input. -/
def headBeginsWrong : ChangeSpec := { name := "headBegins", fn := fun _ => fun
  | [d1, d2, d3, d4, d5] => { results := [.lit (.bool false)], args := [d1, d2, d3, d4, d5] }
  | _ => none }
def HeadBeginsWrongFalsely : Prop := headBeginsRow.holds Tryz.pinned (OpenSpec.ofChange headBeginsWrong)

/-- 'barographlaw15.HeadRebuilt': WHATEVER THE INPUT: true; the input reads as it did. -/
def headRebuiltSpec : ChangeSpec := { name := "headRebuilt", fn := fun _ => fun
  | [d1, d2, d3, d4, d5] => { results := [.lit (.bool true)], args := [d1, d2, d3, d4, d5] }
  | _ => none }
def headRebuiltRow : OpenClaim := { program := "ytgdkceeonnfejaagreatdoor", sum := "e1537c7540f35fceabc953f5feea0853b381a747f7a8a0a7e822b449b3e3b967", func := "barograph/barographlaw15.HeadRebuilt", spec := "headRebuilt", inPlace := ["internal/bytealg.IndexByteString", "internal/bytealg.IndexString", "internal/bytealg.abigen_runtime_cmpstring", "slices.overlaps[int]"], unfollowed := true, recurses := true, named := ["unicode/utf8.first", "unicode/utf8.acceptRanges", "internal/bytealg.MaxLen"], apart := false, laid := [("unicode/utf8.acceptRanges", laid_unicode_utf8_acceptRanges), ("unicode/utf8.first", laid_unicode_utf8_first)] }
def HeadRebuiltSaid : Prop := headRebuiltRow.holds Tryz.pinned (OpenSpec.ofChange headRebuiltSpec)

/-- ITS FALSE NEIGHBOUR: 'it returns false'. Refute it at one input. -/
def headRebuiltWrong : ChangeSpec := { name := "headRebuilt", fn := fun _ => fun
  | [d1, d2, d3, d4, d5] => { results := [.lit (.bool false)], args := [d1, d2, d3, d4, d5] }
  | _ => none }
def HeadRebuiltWrongFalsely : Prop := headRebuiltRow.holds Tryz.pinned (OpenSpec.ofChange headRebuiltWrong)

/- THE SECOND FORM. 'bulk': how many values and letters a reading holds, each counted each time it is reached (what is shared counts as often as it is met; a slice's spare places count too). A statement '..UptoSaid' is the law's where the arguments, and the package variables that the reading takes, are together of bulk at most 1048576: NARROWER than '..Said'. Prove '..Said' where nothing that the law and all that it calls make is longer than what came in: it says more and counts as full. Else prove '..UptoSaid'. A law counts once. -/
mutual
def uptoBulk {H : Type} : DataW H → Nat
  | .lit (.string bytes) => bytes.length + 1
  | .lit _ => 1
  | .nil => 1
  | .ptr d => uptoBulk d + 1
  | .slice elems spare => uptoBulkAll elems + uptoBulkAll spare + 1
  | .agg parts => uptoBulkAll parts + 1
  | .iface _ d => uptoBulk d + 1
  | .map entries => uptoBulkEntries entries + 1
  | .held _ => 1
def uptoBulkAll {H : Type} : List (DataW H) → Nat
  | [] => 0
  | d :: r => uptoBulk d + uptoBulkAll r
def uptoBulkEntries {H : Type} : List (Lit × DataW H) → Nat
  | [] => 0
  | x :: r => uptoBulkEntry x + uptoBulkEntries r
def uptoBulkEntry {H : Type} : Lit × DataW H → Nat
  | (.string bytes, d) => bytes.length + uptoBulk d + 1
  | (_, d) => uptoBulk d + 1
 end
def uptoSmall : (H : Type) → List (DataW H) → Bool := fun _ ds => decide (uptoBulkAll ds ≤ 1048576)
def OpenSpec.upto (s : _root_.Go.ChangeSpec) : _root_.Go.OpenSpec := { _root_.Go.OpenSpec.ofChange s with cond := some uptoSmall }

/-- 'barographlaw15.HeadKeeps', WHERE WHAT IT READS IS OF BULK AT MOST 1048576: true; the input reads as it did. -/
def headKeepsUptoRow : OpenClaim := { program := "ytgdkceeonnfejaagreatdoor", sum := "e1537c7540f35fceabc953f5feea0853b381a747f7a8a0a7e822b449b3e3b967", func := "barograph/barographlaw15.HeadKeeps", spec := "headKeeps", inPlace := ["internal/bytealg.IndexByteString", "internal/bytealg.IndexString", "internal/bytealg.abigen_runtime_cmpstring", "slices.overlaps[int]"], unfollowed := true, recurses := true, named := ["unicode/utf8.first", "unicode/utf8.acceptRanges", "internal/bytealg.MaxLen"], apart := false, laid := [("unicode/utf8.acceptRanges", laid_unicode_utf8_acceptRanges), ("unicode/utf8.first", laid_unicode_utf8_first)], narrowed := true }
def HeadKeepsUptoSaid : Prop := headKeepsUptoRow.holds Tryz.pinned (OpenSpec.upto headKeepsSpec)

/-- 'barographlaw15.HeadPlays', WHERE WHAT IT READS IS OF BULK AT MOST 1048576: true; the input reads as it did. -/
def headPlaysUptoRow : OpenClaim := { program := "ytgdkceeonnfejaagreatdoor", sum := "e1537c7540f35fceabc953f5feea0853b381a747f7a8a0a7e822b449b3e3b967", func := "barograph/barographlaw15.HeadPlays", spec := "headPlays", inPlace := ["internal/bytealg.IndexByteString", "internal/bytealg.IndexString", "internal/bytealg.abigen_runtime_cmpstring", "slices.overlaps[int]"], unfollowed := true, recurses := true, named := ["unicode/utf8.first", "unicode/utf8.acceptRanges", "internal/bytealg.MaxLen"], apart := false, laid := [("unicode/utf8.acceptRanges", laid_unicode_utf8_acceptRanges), ("unicode/utf8.first", laid_unicode_utf8_first)], narrowed := true }
def HeadPlaysUptoSaid : Prop := headPlaysUptoRow.holds Tryz.pinned (OpenSpec.upto headPlaysSpec)

/-- 'barographlaw15.HeadRefuses', WHERE WHAT IT READS IS OF BULK AT MOST 1048576: true; the input reads as it did. -/
def headRefusesUptoRow : OpenClaim := { program := "ytgdkceeonnfejaagreatdoor", sum := "e1537c7540f35fceabc953f5feea0853b381a747f7a8a0a7e822b449b3e3b967", func := "barograph/barographlaw15.HeadRefuses", spec := "headRefuses", inPlace := ["slices.overlaps[int]", "internal/bytealg.IndexByteString", "internal/bytealg.IndexString", "internal/bytealg.abigen_runtime_cmpstring"], unfollowed := true, recurses := true, named := ["unicode/utf8.first", "unicode/utf8.acceptRanges", "internal/bytealg.MaxLen"], apart := false, laid := [("unicode/utf8.acceptRanges", laid_unicode_utf8_acceptRanges), ("unicode/utf8.first", laid_unicode_utf8_first)], narrowed := true }
def HeadRefusesUptoSaid : Prop := headRefusesUptoRow.holds Tryz.pinned (OpenSpec.upto headRefusesSpec)

/-- 'barographlaw15.HeadBegins', WHERE WHAT IT READS IS OF BULK AT MOST 1048576: true; the input reads as it did. -/
def headBeginsUptoRow : OpenClaim := { program := "ytgdkceeonnfejaagreatdoor", sum := "e1537c7540f35fceabc953f5feea0853b381a747f7a8a0a7e822b449b3e3b967", func := "barograph/barographlaw15.HeadBegins", spec := "headBegins", inPlace := ["internal/bytealg.IndexByteString", "internal/bytealg.IndexString", "internal/bytealg.abigen_runtime_cmpstring", "slices.overlaps[int]"], unfollowed := true, recurses := true, named := ["unicode/utf8.first", "unicode/utf8.acceptRanges", "internal/bytealg.MaxLen"], apart := false, laid := [("unicode/utf8.acceptRanges", laid_unicode_utf8_acceptRanges), ("unicode/utf8.first", laid_unicode_utf8_first)], narrowed := true }
def HeadBeginsUptoSaid : Prop := headBeginsUptoRow.holds Tryz.pinned (OpenSpec.upto headBeginsSpec)

/-- 'barographlaw15.HeadRebuilt', WHERE WHAT IT READS IS OF BULK AT MOST 1048576: true; the input reads as it did. -/
def headRebuiltUptoRow : OpenClaim := { program := "ytgdkceeonnfejaagreatdoor", sum := "e1537c7540f35fceabc953f5feea0853b381a747f7a8a0a7e822b449b3e3b967", func := "barograph/barographlaw15.HeadRebuilt", spec := "headRebuilt", inPlace := ["internal/bytealg.IndexByteString", "internal/bytealg.IndexString", "internal/bytealg.abigen_runtime_cmpstring", "slices.overlaps[int]"], unfollowed := true, recurses := true, named := ["unicode/utf8.first", "unicode/utf8.acceptRanges", "internal/bytealg.MaxLen"], apart := false, laid := [("unicode/utf8.acceptRanges", laid_unicode_utf8_acceptRanges), ("unicode/utf8.first", laid_unicode_utf8_first)], narrowed := true }
def HeadRebuiltUptoSaid : Prop := headRebuiltUptoRow.holds Tryz.pinned (OpenSpec.upto headRebuiltSpec)

end Rows
end Go.Proofs.YtgdkceeonnfejaaGreatDoor
