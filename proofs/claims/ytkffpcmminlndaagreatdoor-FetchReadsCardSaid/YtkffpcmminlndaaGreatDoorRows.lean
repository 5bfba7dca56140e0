/-
  NARROWER THAN 'FOR EVERY INPUT', by the rows' own cells (each row's printed sentence says how): FetchReads: laid · FetchGone: laid · FetchParts: laid · FetchSome: laid.
  DERIVED. THE GIVEN ROWS OF THIS SEAT. 4 by the template 'for every input the law returns true; each argument reads behind the call as it read before'; 0 by the template 'total and deterministic' (their statements: YtkffpcmminlndaaGreatDoorTotals.lean).
  GIVEN WITH THE SEED: the statements are not yours to turn. If you find one false, say at which input.
  Laid BY PROGRAM, IN A SANDBOX (cutbox-rows.mjs): the forced cells as the released guide's own fill.sh prints them over the translation 0030a6475727ff4f… (all of the seat's roots in one cut). By AI agents, Wed Nov 11 2026. No macro, syntax, notation, axiom, sorry.
-/
import Derived.Test.YtkffpcmminlndaaGreatDoorChecked
import GoSem.PinnedTables
import GoSem.Claim
import GoSem.ClaimJoined
import GoSem.ClaimMapViews
import Derived.JoinedTies
import Derived.KernelRfl
namespace Go.Proofs.YtkffpcmminlndaaGreatDoor
/- THE CELL 'sum', in the pinned program and in every row, IS THE sha256 OF THE DUMP (.gsa) THAT YtkffpcmminlndaaGreatDoorProg.lean LOADS. Nothing in Lean hashes anything: it is a label: what it is worth is what the hold of that sum in a sandbox is worth. -/
noncomputable def Tryz.pinned : Pinned := { name := "ytkffpcmminlndaagreatdoor", sum := "0030a6475727ff4f79c58c0e850bead0e137771aff4c331b919fab115e47ea12", checked := Tryz.checked }
namespace Rows
def none {H : Type} : Left H := { results := [], args := [] }

/- WHAT THE LISTED PACKAGE-LEVEL VARIABLES READ AS WHEN THE CALL BEGINS. Each datum BY PROGRAM (the guide's laid-datum.mjs) off the statement by which the dump's own 'gosem.cut.vars' lays the variable. In a bare row this is a premise. The card (YtkffpcmminlndaaGreatDoorCards.lean) ties it to the program's text. -/
def laid_barograph_xor_widths {H : Type} : DataW H := .agg [.lit (.int .i64 0), .lit (.int .i64 7), .lit (.int .i64 12), .lit (.int .i64 20), .lit (.int .i64 64)]
def laid_unicode_utf8_acceptRanges {H : Type} : DataW H := .agg [.agg [.lit (.int .u8 128), .lit (.int .u8 191)], .agg [.lit (.int .u8 160), .lit (.int .u8 191)], .agg [.lit (.int .u8 128), .lit (.int .u8 159)], .agg [.lit (.int .u8 144), .lit (.int .u8 191)], .agg [.lit (.int .u8 128), .lit (.int .u8 143)], .agg [.lit (.int .u8 0), .lit (.int .u8 0)], .agg [.lit (.int .u8 0), .lit (.int .u8 0)], .agg [.lit (.int .u8 0), .lit (.int .u8 0)], .agg [.lit (.int .u8 0), .lit (.int .u8 0)], .agg [.lit (.int .u8 0), .lit (.int .u8 0)], .agg [.lit (.int .u8 0), .lit (.int .u8 0)], .agg [.lit (.int .u8 0), .lit (.int .u8 0)], .agg [.lit (.int .u8 0), .lit (.int .u8 0)], .agg [.lit (.int .u8 0), .lit (.int .u8 0)], .agg [.lit (.int .u8 0), .lit (.int .u8 0)], .agg [.lit (.int .u8 0), .lit (.int .u8 0)]]
def laid_barograph_matcher_signs {H : Type} : DataW H := .agg [.lit (.string []), .lit (.string [61]), .lit (.string [33, 61]), .lit (.string [94]), .lit (.string [64])]
/-- One of Go's own tables, pinned by name: the form's constant. -/
def laid_unicode_utf8_first : DataW Unit := Go.Pinned.utf8First

/-- 'barographlaw17.FetchReads': WHATEVER THE INPUT: true; the input reads as it did. -/
def fetchReadsSpec : ChangeSpec := { name := "fetchReads", fn := fun _ => fun
  | [d1, d2, d3, d4, d5] => { results := [.lit (.bool true)], args := [d1, d2, d3, d4, d5] }
  | _ => none }
def fetchReadsRow : OpenClaim := { program := "ytkffpcmminlndaagreatdoor", sum := "0030a6475727ff4f79c58c0e850bead0e137771aff4c331b919fab115e47ea12", func := "barograph/barographlaw17.FetchReads", spec := "fetchReads", inPlace := ["internal/bytealg.IndexByteString", "internal/bytealg.IndexString", "internal/bytealg.abigen_runtime_cmpstring", "internal/bytealg.CountString"], unfollowed := true, recurses := true, named := ["unicode/utf8.first", "unicode/utf8.acceptRanges", "internal/bytealg.MaxLen", "barograph/xor.widths", "barograph/matcher.signs"], apart := false, laid := [("barograph/xor.widths", laid_barograph_xor_widths), ("unicode/utf8.acceptRanges", laid_unicode_utf8_acceptRanges), ("barograph/matcher.signs", laid_barograph_matcher_signs), ("unicode/utf8.first", laid_unicode_utf8_first)] }
def FetchReadsSaid : Prop := fetchReadsRow.holds Tryz.pinned (OpenSpec.ofChange fetchReadsSpec)

/-- ITS FALSE NEIGHBOUR: 'it returns false'. Refute it at one input. -/
def fetchReadsWrong : ChangeSpec := { name := "fetchReads", fn := fun _ => fun
  | [d1, d2, d3, d4, d5] => { results := [.lit (.bool false)], args := [d1, d2, d3, d4, d5] }
  | _ => none }
def FetchReadsWrongFalsely : Prop := fetchReadsRow.holds Tryz.pinned (OpenSpec.ofChange fetchReadsWrong)

/-- 'barographlaw17.FetchGone': WHATEVER THE INPUT: true; the input reads as it did. -/
def fetchGoneSpec : ChangeSpec := { name := "fetchGone", fn := fun _ => fun
  | [d1, d2, d3] => { results := [.lit (.bool true)], args := [d1, d2, d3] }
  | _ => none }
def fetchGoneRow : OpenClaim := { program := "ytkffpcmminlndaagreatdoor", sum := "0030a6475727ff4f79c58c0e850bead0e137771aff4c331b919fab115e47ea12", func := "barograph/barographlaw17.FetchGone", spec := "fetchGone", inPlace := ["internal/bytealg.IndexByteString", "internal/bytealg.IndexString", "internal/bytealg.abigen_runtime_cmpstring", "internal/bytealg.CountString"], unfollowed := true, recurses := true, named := ["unicode/utf8.first", "unicode/utf8.acceptRanges", "internal/bytealg.MaxLen", "barograph/xor.widths", "barograph/matcher.signs"], apart := false, laid := [("barograph/xor.widths", laid_barograph_xor_widths), ("unicode/utf8.acceptRanges", laid_unicode_utf8_acceptRanges), ("barograph/matcher.signs", laid_barograph_matcher_signs), ("unicode/utf8.first", laid_unicode_utf8_first)] }
def FetchGoneSaid : Prop := fetchGoneRow.holds Tryz.pinned (OpenSpec.ofChange fetchGoneSpec)

/-- ITS FALSE NEIGHBOUR: 'it returns false'. Refute it at one input. -/
def fetchGoneWrong : ChangeSpec := { name := "fetchGone", fn := fun _ => fun
  | [d1, d2, d3] => { results := [.lit (.bool false)], args := [d1, d2, d3] }
  | _ => none }
def FetchGoneWrongFalsely : Prop := fetchGoneRow.holds Tryz.pinned (OpenSpec.ofChange fetchGoneWrong)

/-- 'barographlaw17.FetchParts': WHATEVER THE INPUT: true; the input reads as it did. -/
def fetchPartsSpec : ChangeSpec := { name := "fetchParts", fn := fun _ => fun
  | [d1, d2, d3, d4, d5] => { results := [.lit (.bool true)], args := [d1, d2, d3, d4, d5] }
  | _ => none }
def fetchPartsRow : OpenClaim := { program := "ytkffpcmminlndaagreatdoor", sum := "0030a6475727ff4f79c58c0e850bead0e137771aff4c331b919fab115e47ea12", func := "barograph/barographlaw17.FetchParts", spec := "fetchParts", inPlace := ["internal/bytealg.IndexByteString", "internal/bytealg.IndexString", "internal/bytealg.abigen_runtime_cmpstring", "internal/bytealg.CountString"], unfollowed := true, recurses := true, named := ["unicode/utf8.first", "unicode/utf8.acceptRanges", "internal/bytealg.MaxLen", "barograph/xor.widths", "barograph/matcher.signs"], apart := false, laid := [("barograph/xor.widths", laid_barograph_xor_widths), ("unicode/utf8.acceptRanges", laid_unicode_utf8_acceptRanges), ("barograph/matcher.signs", laid_barograph_matcher_signs), ("unicode/utf8.first", laid_unicode_utf8_first)] }
def FetchPartsSaid : Prop := fetchPartsRow.holds Tryz.pinned (OpenSpec.ofChange fetchPartsSpec)

/-- ITS FALSE NEIGHBOUR: 'it returns false'. Refute it at one input. -/
def fetchPartsWrong : ChangeSpec := { name := "fetchParts", fn := fun _ => fun
  | [d1, d2, d3, d4, d5] => { results := [.lit (.bool false)], args := [d1, d2, d3, d4, d5] }
  | _ => none }
def FetchPartsWrongFalsely : Prop := fetchPartsRow.holds Tryz.pinned (OpenSpec.ofChange fetchPartsWrong)

/-- 'barographlaw17.FetchSome': WHATEVER THE INPUT: true; the input reads as it did. -/
def fetchSomeSpec : ChangeSpec := { name := "fetchSome", fn := fun _ => fun
  | [d1, d2] => { results := [.lit (.bool true)], args := [d1, d2] }
  | _ => none }
def fetchSomeRow : OpenClaim := { program := "ytkffpcmminlndaagreatdoor", sum := "0030a6475727ff4f79c58c0e850bead0e137771aff4c331b919fab115e47ea12", func := "barograph/barographlaw17.FetchSome", spec := "fetchSome", inPlace := ["internal/bytealg.IndexByteString", "internal/bytealg.IndexString", "internal/bytealg.abigen_runtime_cmpstring", "internal/bytealg.CountString"], unfollowed := true, recurses := true, named := ["unicode/utf8.first", "unicode/utf8.acceptRanges", "internal/bytealg.MaxLen", "barograph/xor.widths", "barograph/matcher.signs"], apart := false, laid := [("barograph/xor.widths", laid_barograph_xor_widths), ("unicode/utf8.acceptRanges", laid_unicode_utf8_acceptRanges), ("barograph/matcher.signs", laid_barograph_matcher_signs), ("unicode/utf8.first", laid_unicode_utf8_first)] }
def FetchSomeSaid : Prop := fetchSomeRow.holds Tryz.pinned (OpenSpec.ofChange fetchSomeSpec)

/-- ITS FALSE NEIGHBOUR: 'it returns false'. Refute it at one input. -/
def fetchSomeWrong : ChangeSpec := { name := "fetchSome", fn := fun _ => fun
  | [d1, d2] => { results := [.lit (.bool false)], args := [d1, d2] }
  | _ => none }
def FetchSomeWrongFalsely : Prop := fetchSomeRow.holds Tryz.pinned (OpenSpec.ofChange fetchSomeWrong)

/- THE SECOND FORM. 'bulk': how many values and letters a reading holds, each counted each time it is reached (what is shared counts as often as it is met; a slice's spare places count too). A statement '..UptoSaid' is the law's where the arguments, and the package variables that the reading takes, are together of bulk at most 1048576: NARROWER than '..Said'. Prove '..Said' where nothing that the law and all that it calls make is longer than what came in: it says more and counts as full. Else prove '..UptoSaid'. A law counts once. -/
mutual
def uptoBulk {H : Type} : DataW H → Nat
  | .lit (.string bytes) => bytes.length + 1
  | .lit _ => 1
  | .nil => 1
  | .ptr d => uptoBulk d + 1
  | .slice elems spare => uptoBulkAll elems + uptoBulkAll spare + 1
  | .agg parts => uptoBulkAll parts + 1
  | .iface _ d => uptoBulk d + 1
  | .map entries => uptoBulkEntries entries + 1
  | .held _ => 1
def uptoBulkAll {H : Type} : List (DataW H) → Nat
  | [] => 0
  | d :: r => uptoBulk d + uptoBulkAll r
def uptoBulkEntries {H : Type} : List (Lit × DataW H) → Nat
  | [] => 0
  | x :: r => uptoBulkEntry x + uptoBulkEntries r
def uptoBulkEntry {H : Type} : Lit × DataW H → Nat
  | (.string bytes, d) => bytes.length + uptoBulk d + 1
  | (_, d) => uptoBulk d + 1
 end
def uptoSmall : (H : Type) → List (DataW H) → Bool := fun _ ds => decide (uptoBulkAll ds ≤ 1048576)
def OpenSpec.upto (s : _root_.Go.ChangeSpec) : _root_.Go.OpenSpec := { _root_.Go.OpenSpec.ofChange s with cond := some uptoSmall }

/-- 'barographlaw17.FetchReads', WHERE WHAT IT READS IS OF BULK AT MOST 1048576: true; the input reads as it did. -/
def fetchReadsUptoRow : OpenClaim := { program := "ytkffpcmminlndaagreatdoor", sum := "0030a6475727ff4f79c58c0e850bead0e137771aff4c331b919fab115e47ea12", func := "barograph/barographlaw17.FetchReads", spec := "fetchReads", inPlace := ["internal/bytealg.IndexByteString", "internal/bytealg.IndexString", "internal/bytealg.abigen_runtime_cmpstring", "internal/bytealg.CountString"], unfollowed := true, recurses := true, named := ["unicode/utf8.first", "unicode/utf8.acceptRanges", "internal/bytealg.MaxLen", "barograph/xor.widths", "barograph/matcher.signs"], apart := false, laid := [("barograph/xor.widths", laid_barograph_xor_widths), ("unicode/utf8.acceptRanges", laid_unicode_utf8_acceptRanges), ("barograph/matcher.signs", laid_barograph_matcher_signs), ("unicode/utf8.first", laid_unicode_utf8_first)], narrowed := true }
def FetchReadsUptoSaid : Prop := fetchReadsUptoRow.holds Tryz.pinned (OpenSpec.upto fetchReadsSpec)

/-- 'barographlaw17.FetchGone', WHERE WHAT IT READS IS OF BULK AT MOST 1048576: true; the input reads as it did. -/
def fetchGoneUptoRow : OpenClaim := { program := "ytkffpcmminlndaagreatdoor", sum := "0030a6475727ff4f79c58c0e850bead0e137771aff4c331b919fab115e47ea12", func := "barograph/barographlaw17.FetchGone", spec := "fetchGone", inPlace := ["internal/bytealg.IndexByteString", "internal/bytealg.IndexString", "internal/bytealg.abigen_runtime_cmpstring", "internal/bytealg.CountString"], unfollowed := true, recurses := true, named := ["unicode/utf8.first", "unicode/utf8.acceptRanges", "internal/bytealg.MaxLen", "barograph/xor.widths", "barograph/matcher.signs"], apart := false, laid := [("barograph/xor.widths", laid_barograph_xor_widths), ("unicode/utf8.acceptRanges", laid_unicode_utf8_acceptRanges), ("barograph/matcher.signs", laid_barograph_matcher_signs), ("unicode/utf8.first", laid_unicode_utf8_first)], narrowed := true }
def FetchGoneUptoSaid : Prop := fetchGoneUptoRow.holds Tryz.pinned (OpenSpec.upto fetchGoneSpec)

/-- 'barographlaw17.FetchParts', WHERE WHAT IT READS IS OF BULK AT MOST 1048576: true; the input reads as it did. -/
def fetchPartsUptoRow : OpenClaim := { program := "ytkffpcmminlndaagreatdoor", sum := "0030a6475727ff4f79c58c0e850bead0e137771aff4c331b919fab115e47ea12", func := "barograph/barographlaw17.FetchParts", spec := "fetchParts", inPlace := ["internal/bytealg.IndexByteString", "internal/bytealg.IndexString", "internal/bytealg.abigen_runtime_cmpstring", "internal/bytealg.CountString"], unfollowed := true, recurses := true, named := ["unicode/utf8.first", "unicode/utf8.acceptRanges", "internal/bytealg.MaxLen", "barograph/xor.widths", "barograph/matcher.signs"], apart := false, laid := [("barograph/xor.widths", laid_barograph_xor_widths), ("unicode/utf8.acceptRanges", laid_unicode_utf8_acceptRanges), ("barograph/matcher.signs", laid_barograph_matcher_signs), ("unicode/utf8.first", laid_unicode_utf8_first)], narrowed := true }
def FetchPartsUptoSaid : Prop := fetchPartsUptoRow.holds Tryz.pinned (OpenSpec.upto fetchPartsSpec)

/-- 'barographlaw17.FetchSome', WHERE WHAT IT READS IS OF BULK AT MOST 1048576: true; the input reads as it did. -/
def fetchSomeUptoRow : OpenClaim := { program := "ytkffpcmminlndaagreatdoor", sum := "0030a6475727ff4f79c58c0e850bead0e137771aff4c331b919fab115e47ea12", func := "barograph/barographlaw17.FetchSome", spec := "fetchSome", inPlace := ["internal/bytealg.IndexByteString", "internal/bytealg.IndexString", "internal/bytealg.abigen_runtime_cmpstring", "internal/bytealg.CountString"], unfollowed := true, recurses := true, named := ["unicode/utf8.first", "unicode/utf8.acceptRanges", "internal/bytealg.MaxLen", "barograph/xor.widths", "barograph/matcher.signs"], apart := false, laid := [("barograph/xor.widths", laid_barograph_xor_widths), ("unicode/utf8.acceptRanges", laid_unicode_utf8_acceptRanges), ("barograph/matcher.signs", laid_barograph_matcher_signs), ("unicode/utf8.first", laid_unicode_utf8_first)], narrowed := true }
def FetchSomeUptoSaid : Prop := fetchSomeUptoRow.holds Tryz.pinned (OpenSpec.upto fetchSomeSpec)

end Rows
end Go.Proofs.YtkffpcmminlndaaGreatDoor
