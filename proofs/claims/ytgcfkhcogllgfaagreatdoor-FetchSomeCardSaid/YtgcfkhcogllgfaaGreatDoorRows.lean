/-
  NARROWER THAN 'FOR EVERY INPUT', by the rows' own cells (each row's printed sentence says how): FetchParts: laid · FetchSome: laid.
  DERIVED. THE GIVEN ROWS OF THIS SEAT. 2 by the template 'for every input the law returns true; each argument reads behind the call as it read before'; 0 by the template 'total and deterministic' (their statements: YtgcfkhcogllgfaaGreatDoorTotals.lean).
  GIVEN WITH THE SEED: the statements are not yours to turn. If you find one false, say at which input.
  Laid BY PROGRAM, IN A SANDBOX (cutbox-rows.mjs): the forced cells as the released guide's own fill.sh prints them over the translation 4b14eb64ae4a3052… (all of the seat's roots in one cut). By AI agents, Wed Nov 11 2026. No macro, syntax, notation, axiom, sorry.
-/
import Derived.Test.YtgcfkhcogllgfaaGreatDoorChecked
import GoSem.PinnedTables
import GoSem.Claim
import GoSem.ClaimJoined
import GoSem.ClaimMapViews
import Derived.JoinedTies
import Derived.KernelRfl
namespace Go.Proofs.YtgcfkhcogllgfaaGreatDoor
/- THE CELL 'sum', in the pinned program and in every row, IS THE sha256 OF THE DUMP (.gsa) THAT YtgcfkhcogllgfaaGreatDoorProg.lean LOADS. Nothing in Lean hashes anything: it is a label: what it is worth is what the hold of that sum in a sandbox is worth. -/
noncomputable def Tryz.pinned : Pinned := { name := "ytgcfkhcogllgfaagreatdoor", sum := "4b14eb64ae4a3052f10f4834135e135aaf76ce44649cf32b7472196be7fd828c", checked := Tryz.checked }
namespace Rows
def none {H : Type} : Left H := { results := [], args := [] }

/- WHAT THE LISTED PACKAGE-LEVEL VARIABLES READ AS WHEN THE CALL BEGINS. Each datum BY PROGRAM (the guide's laid-datum.mjs) off the statement by which the dump's own 'gosem.cut.vars' lays the variable. In a bare row this is a premise. The card (YtgcfkhcogllgfaaGreatDoorCards.lean) ties it to the program's text. -/
def laid_barograph_xor_widths {H : Type} : DataW H := .agg [.lit (.int .i64 0), .lit (.int .i64 7), .lit (.int .i64 12), .lit (.int .i64 20), .lit (.int .i64 64)]
def laid_unicode_utf8_acceptRanges {H : Type} : DataW H := .agg [.agg [.lit (.int .u8 128), .lit (.int .u8 191)], .agg [.lit (.int .u8 160), .lit (.int .u8 191)], .agg [.lit (.int .u8 128), .lit (.int .u8 159)], .agg [.lit (.int .u8 144), .lit (.int .u8 191)], .agg [.lit (.int .u8 128), .lit (.int .u8 143)], .agg [.lit (.int .u8 0), .lit (.int .u8 0)], .agg [.lit (.int .u8 0), .lit (.int .u8 0)], .agg [.lit (.int .u8 0), .lit (.int .u8 0)], .agg [.lit (.int .u8 0), .lit (.int .u8 0)], .agg [.lit (.int .u8 0), .lit (.int .u8 0)], .agg [.lit (.int .u8 0), .lit (.int .u8 0)], .agg [.lit (.int .u8 0), .lit (.int .u8 0)], .agg [.lit (.int .u8 0), .lit (.int .u8 0)], .agg [.lit (.int .u8 0), .lit (.int .u8 0)], .agg [.lit (.int .u8 0), .lit (.int .u8 0)], .agg [.lit (.int .u8 0), .lit (.int .u8 0)]]
def laid_barograph_matcher_signs {H : Type} : DataW H := .agg [.lit (.string []), .lit (.string [61]), .lit (.string [33, 61]), .lit (.string [94]), .lit (.string [64])]
/-- One of Go's own tables, pinned by name: the form's constant. -/
def laid_unicode_utf8_first : DataW Unit := Go.Pinned.utf8First

/-- 'barographlaw17.FetchParts': WHATEVER THE INPUT: true; the input reads as it did. -/
def fetchPartsSpec : ChangeSpec := { name := "fetchParts", fn := fun _ => fun
  | [d1, d2, d3, d4, d5] => { results := [.lit (.bool true)], args := [d1, d2, d3, d4, d5] }
  | _ => none }
def fetchPartsRow : OpenClaim := { program := "ytgcfkhcogllgfaagreatdoor", sum := "4b14eb64ae4a3052f10f4834135e135aaf76ce44649cf32b7472196be7fd828c", func := "barograph/barographlaw17.FetchParts", spec := "fetchParts", inPlace := ["internal/bytealg.IndexByteString", "internal/bytealg.IndexString", "internal/bytealg.abigen_runtime_cmpstring", "internal/bytealg.CountString"], unfollowed := true, recurses := true, named := ["unicode/utf8.first", "unicode/utf8.acceptRanges", "internal/bytealg.MaxLen", "barograph/xor.widths", "barograph/matcher.signs"], apart := false, laid := [("barograph/xor.widths", laid_barograph_xor_widths), ("unicode/utf8.acceptRanges", laid_unicode_utf8_acceptRanges), ("barograph/matcher.signs", laid_barograph_matcher_signs), ("unicode/utf8.first", laid_unicode_utf8_first)] }
def FetchPartsSaid : Prop := fetchPartsRow.holds Tryz.pinned (OpenSpec.ofChange fetchPartsSpec)

/-- ITS FALSE NEIGHBOUR: 'it returns false'. Refute it at one input. -/
def fetchPartsWrong : ChangeSpec := { name := "fetchParts", fn := fun _ => fun
  | [d1, d2, d3, d4, d5] => { results := [.lit (.bool false)], args := [d1, d2, d3, d4, d5] }
  | _ => none }
def FetchPartsWrongFalsely : Prop := fetchPartsRow.holds Tryz.pinned (OpenSpec.ofChange fetchPartsWrong)

/-- 'barographlaw17.FetchSome': WHATEVER THE INPUT: true; the input reads as it did. -/
def fetchSomeSpec : ChangeSpec := { name := "fetchSome", fn := fun _ => fun
  | [d1, d2] => { results := [.lit (.bool true)], args := [d1, d2] }
  | _ => none }
def fetchSomeRow : OpenClaim := { program := "ytgcfkhcogllgfaagreatdoor", sum := "4b14eb64ae4a3052f10f4834135e135aaf76ce44649cf32b7472196be7fd828c", func := "barograph/barographlaw17.FetchSome", spec := "fetchSome", inPlace := ["internal/bytealg.IndexByteString", "internal/bytealg.IndexString", "internal/bytealg.abigen_runtime_cmpstring", "internal/bytealg.CountString"], unfollowed := true, recurses := true, named := ["unicode/utf8.first", "unicode/utf8.acceptRanges", "internal/bytealg.MaxLen", "barograph/xor.widths", "barograph/matcher.signs"], apart := false, laid := [("barograph/xor.widths", laid_barograph_xor_widths), ("unicode/utf8.acceptRanges", laid_unicode_utf8_acceptRanges), ("barograph/matcher.signs", laid_barograph_matcher_signs), ("unicode/utf8.first", laid_unicode_utf8_first)] }
def FetchSomeSaid : Prop := fetchSomeRow.holds Tryz.pinned (OpenSpec.ofChange fetchSomeSpec)

/-- ITS FALSE NEIGHBOUR: 'it returns false'. Refute it at one input. -/
def fetchSomeWrong : ChangeSpec := { name := "fetchSome", fn := fun _ => fun
  | [d1, d2] => { results := [.lit (.bool false)], args := [d1, d2] }
  | _ => none }
def FetchSomeWrongFalsely : Prop := fetchSomeRow.holds Tryz.pinned (OpenSpec.ofChange fetchSomeWrong)

/- THE SECOND FORM. 'bulk': how many values and letters a reading holds, each counted each time it is reached (what is shared counts as often as it is met; a slice's spare places count too). A statement '..UptoSaid' is the law's where the arguments, and the package variables that the reading takes, are together of bulk at most 1048576: NARROWER than '..Said'. Prove '..Said' where nothing that the law and all that it calls make is longer than what came in: it says more and counts as full. Else prove '..UptoSaid'. A law counts once. -/
mutual
def uptoBulk {H : Type} : DataW H → Nat
  | .lit (.string bytes) => bytes.length + 1
  | .lit _ => 1
  | .nil => 1
  | .ptr d => uptoBulk d + 1
  | .slice elems spare => uptoBulkAll elems + uptoBulkAll spare + 1
  | .agg parts => uptoBulkAll parts + 1
  | .iface _ d => uptoBulk d + 1
  | .map entries => uptoBulkEntries entries + 1
  | .held _ => 1
def uptoBulkAll {H : Type} : List (DataW H) → Nat
  | [] => 0
  | d :: r => uptoBulk d + uptoBulkAll r
def uptoBulkEntries {H : Type} : List (Lit × DataW H) → Nat
  | [] => 0
  | x :: r => uptoBulkEntry x + uptoBulkEntries r
def uptoBulkEntry {H : Type} : Lit × DataW H → Nat
  | (.string bytes, d) => bytes.length + uptoBulk d + 1
  | (_, d) => uptoBulk d + 1
 end
def uptoSmall : (H : Type) → List (DataW H) → Bool := fun _ ds => decide (uptoBulkAll ds ≤ 1048576)
def OpenSpec.upto (s : _root_.Go.ChangeSpec) : _root_.Go.OpenSpec := { _root_.Go.OpenSpec.ofChange s with cond := some uptoSmall }

/-- 'barographlaw17.FetchParts', WHERE WHAT IT READS IS OF BULK AT MOST 1048576: true; the input reads as it did. -/
def fetchPartsUptoRow : OpenClaim := { program := "ytgcfkhcogllgfaagreatdoor", sum := "4b14eb64ae4a3052f10f4834135e135aaf76ce44649cf32b7472196be7fd828c", func := "barograph/barographlaw17.FetchParts", spec := "fetchParts", inPlace := ["internal/bytealg.IndexByteString", "internal/bytealg.IndexString", "internal/bytealg.abigen_runtime_cmpstring", "internal/bytealg.CountString"], unfollowed := true, recurses := true, named := ["unicode/utf8.first", "unicode/utf8.acceptRanges", "internal/bytealg.MaxLen", "barograph/xor.widths", "barograph/matcher.signs"], apart := false, laid := [("barograph/xor.widths", laid_barograph_xor_widths), ("unicode/utf8.acceptRanges", laid_unicode_utf8_acceptRanges), ("barograph/matcher.signs", laid_barograph_matcher_signs), ("unicode/utf8.first", laid_unicode_utf8_first)], narrowed := true }
def FetchPartsUptoSaid : Prop := fetchPartsUptoRow.holds Tryz.pinned (OpenSpec.upto fetchPartsSpec)

/-- 'barographlaw17.FetchSome', WHERE WHAT IT READS IS OF BULK AT MOST 1048576: true; the input reads as it did. -/
def fetchSomeUptoRow : OpenClaim := { program := "ytgcfkhcogllgfaagreatdoor", sum := "4b14eb64ae4a3052f10f4834135e135aaf76ce44649cf32b7472196be7fd828c", func := "barograph/barographlaw17.FetchSome", spec := "fetchSome", inPlace := ["internal/bytealg.IndexByteString", "internal/bytealg.IndexString", "internal/bytealg.abigen_runtime_cmpstring", "internal/bytealg.CountString"], unfollowed := true, recurses := true, named := ["unicode/utf8.first", "unicode/utf8.acceptRanges", "internal/bytealg.MaxLen", "barograph/xor.widths", "barograph/matcher.signs"], apart := false, laid := [("barograph/xor.widths", laid_barograph_xor_widths), ("unicode/utf8.acceptRanges", laid_unicode_utf8_acceptRanges), ("barograph/matcher.signs", laid_barograph_matcher_signs), ("unicode/utf8.first", laid_unicode_utf8_first)], narrowed := true }
def FetchSomeUptoSaid : Prop := fetchSomeUptoRow.holds Tryz.pinned (OpenSpec.upto fetchSomeSpec)

end Rows
end Go.Proofs.YtgcfkhcogllgfaaGreatDoor
