/-
  NARROWER THAN 'FOR EVERY INPUT', by the rows' own cells (each row's printed sentence says how): PostingEmpty: laid · PostingParts: laid · MatcherMatches: laid · MatcherReads: laid · MatcherBack: laid.
  DERIVED. THE GIVEN ROWS OF THIS SEAT. 5 by the template 'for every input the law returns true; each argument reads behind the call as it read before'; 0 by the template 'total and deterministic' (their statements: YtjgaidojohgenaaDoorTotals.lean).
  GIVEN WITH THE SEED: the statements are not yours to turn. If you find one false, say at which input.
  Laid BY PROGRAM, IN A SANDBOX (cutbox-rows.mjs): the forced cells as the released guide's own fill.sh prints them over the translation 4cfd12d41c6ab1b1… (all of the seat's roots in one cut). By AI agents, Wed Nov 11 2026. No macro, syntax, notation, axiom, sorry.
-/
import Derived.Test.YtjgaidojohgenaaDoorChecked
import GoSem.PinnedTables
import GoSem.Claim
import GoSem.ClaimJoined
import GoSem.ClaimMapViews
import Derived.JoinedTies
import Derived.KernelRfl
namespace Go.Proofs.YtjgaidojohgenaaDoor
/- THE CELL 'sum', in the pinned program and in every row, IS THE sha256 OF THE DUMP (.gsa) THAT YtjgaidojohgenaaDoorProg.lean LOADS. Nothing in Lean hashes anything: it is a label: what it is worth is what the hold of that sum in a sandbox is worth. -/
noncomputable def Tryd.pinned : Pinned := { name := "ytjgaidojohgenaadoor", sum := "4cfd12d41c6ab1b1055b885dff7cc1cc45c21b1f577bf783568f0c63457fce80", checked := Tryd.checked }
namespace Rows
def none {H : Type} : Left H := { results := [], args := [] }

/- WHAT THE LISTED PACKAGE-LEVEL VARIABLES READ AS WHEN THE CALL BEGINS. Each datum BY PROGRAM (the guide's laid-datum.mjs) off the statement by which the dump's own 'gosem.cut.vars' lays the variable. In a bare row this is a premise. The card (YtjgaidojohgenaaDoorCards.lean) ties it to the program's text. -/
def laid_unicode_utf8_acceptRanges {H : Type} : DataW H := .agg [.agg [.lit (.int .u8 128), .lit (.int .u8 191)], .agg [.lit (.int .u8 160), .lit (.int .u8 191)], .agg [.lit (.int .u8 128), .lit (.int .u8 159)], .agg [.lit (.int .u8 144), .lit (.int .u8 191)], .agg [.lit (.int .u8 128), .lit (.int .u8 143)], .agg [.lit (.int .u8 0), .lit (.int .u8 0)], .agg [.lit (.int .u8 0), .lit (.int .u8 0)], .agg [.lit (.int .u8 0), .lit (.int .u8 0)], .agg [.lit (.int .u8 0), .lit (.int .u8 0)], .agg [.lit (.int .u8 0), .lit (.int .u8 0)], .agg [.lit (.int .u8 0), .lit (.int .u8 0)], .agg [.lit (.int .u8 0), .lit (.int .u8 0)], .agg [.lit (.int .u8 0), .lit (.int .u8 0)], .agg [.lit (.int .u8 0), .lit (.int .u8 0)], .agg [.lit (.int .u8 0), .lit (.int .u8 0)], .agg [.lit (.int .u8 0), .lit (.int .u8 0)]]
/-- One of Go's own tables, pinned by name: the form's constant. -/
def laid_unicode_utf8_first : DataW Unit := Go.Pinned.utf8First
def laid_barograph_matcher_signs {H : Type} : DataW H := .agg [.lit (.string []), .lit (.string [61]), .lit (.string [33, 61]), .lit (.string [94]), .lit (.string [64])]

/-- 'barographlaw12.PostingEmpty': WHATEVER THE INPUT: true; the input reads as it did. -/
def postingEmptySpec : ChangeSpec := { name := "postingEmpty", fn := fun _ => fun
  | [d] => { results := [.lit (.bool true)], args := [d] }
  | _ => none }
def postingEmptyRow : OpenClaim := { program := "ytjgaidojohgenaadoor", sum := "4cfd12d41c6ab1b1055b885dff7cc1cc45c21b1f577bf783568f0c63457fce80", func := "barograph/barographlaw12.PostingEmpty", spec := "postingEmpty", inPlace := ["slices.overlaps[int]", "internal/bytealg.IndexByteString", "internal/bytealg.IndexString", "internal/bytealg.abigen_runtime_cmpstring"], unfollowed := true, recurses := true, named := ["unicode/utf8.first", "unicode/utf8.acceptRanges", "internal/bytealg.MaxLen"], apart := false, laid := [("unicode/utf8.acceptRanges", laid_unicode_utf8_acceptRanges), ("unicode/utf8.first", laid_unicode_utf8_first)] }
def PostingEmptySaid : Prop := postingEmptyRow.holds Tryd.pinned (OpenSpec.ofChange postingEmptySpec)

/-- ITS FALSE NEIGHBOUR: 'it returns false'. Refute it at one input. -/
def postingEmptyWrong : ChangeSpec := { name := "postingEmpty", fn := fun _ => fun
  | [d] => { results := [.lit (.bool false)], args := [d] }
  | _ => none }
def PostingEmptyWrongFalsely : Prop := postingEmptyRow.holds Tryd.pinned (OpenSpec.ofChange postingEmptyWrong)

/-- 'barographlaw12.PostingParts': WHATEVER THE INPUT: true; the input reads as it did. -/
def postingPartsSpec : ChangeSpec := { name := "postingParts", fn := fun _ => fun
  | [d] => { results := [.lit (.bool true)], args := [d] }
  | _ => none }
def postingPartsRow : OpenClaim := { program := "ytjgaidojohgenaadoor", sum := "4cfd12d41c6ab1b1055b885dff7cc1cc45c21b1f577bf783568f0c63457fce80", func := "barograph/barographlaw12.PostingParts", spec := "postingParts", inPlace := ["slices.overlaps[int]", "internal/bytealg.IndexByteString", "internal/bytealg.IndexString", "internal/bytealg.abigen_runtime_cmpstring"], unfollowed := true, recurses := true, named := ["unicode/utf8.first", "unicode/utf8.acceptRanges", "internal/bytealg.MaxLen"], apart := false, laid := [("unicode/utf8.acceptRanges", laid_unicode_utf8_acceptRanges), ("unicode/utf8.first", laid_unicode_utf8_first)] }
def PostingPartsSaid : Prop := postingPartsRow.holds Tryd.pinned (OpenSpec.ofChange postingPartsSpec)

/-- ITS FALSE NEIGHBOUR: 'it returns false'. Refute it at one input. -/
def postingPartsWrong : ChangeSpec := { name := "postingParts", fn := fun _ => fun
  | [d] => { results := [.lit (.bool false)], args := [d] }
  | _ => none }
def PostingPartsWrongFalsely : Prop := postingPartsRow.holds Tryd.pinned (OpenSpec.ofChange postingPartsWrong)

/-- 'barographlaw13.MatcherMatches': WHATEVER THE INPUT: true; the input reads as it did. -/
def matcherMatchesSpec : ChangeSpec := { name := "matcherMatches", fn := fun _ => fun
  | [d1, d2, d3] => { results := [.lit (.bool true)], args := [d1, d2, d3] }
  | _ => none }
def matcherMatchesRow : OpenClaim := { program := "ytjgaidojohgenaadoor", sum := "4cfd12d41c6ab1b1055b885dff7cc1cc45c21b1f577bf783568f0c63457fce80", func := "barograph/barographlaw13.MatcherMatches", spec := "matcherMatches", inPlace := ["internal/bytealg.IndexByteString", "internal/bytealg.IndexString", "internal/bytealg.CountString", "internal/bytealg.abigen_runtime_cmpstring"], unfollowed := true, recurses := true, named := ["unicode/utf8.first", "unicode/utf8.acceptRanges", "internal/bytealg.MaxLen", "barograph/matcher.signs"], apart := false, laid := [("unicode/utf8.acceptRanges", laid_unicode_utf8_acceptRanges), ("barograph/matcher.signs", laid_barograph_matcher_signs), ("unicode/utf8.first", laid_unicode_utf8_first)] }
def MatcherMatchesSaid : Prop := matcherMatchesRow.holds Tryd.pinned (OpenSpec.ofChange matcherMatchesSpec)

/-- ITS FALSE NEIGHBOUR: 'it returns false'. Refute it at one input. -/
def matcherMatchesWrong : ChangeSpec := { name := "matcherMatches", fn := fun _ => fun
  | [d1, d2, d3] => { results := [.lit (.bool false)], args := [d1, d2, d3] }
  | _ => none }
def MatcherMatchesWrongFalsely : Prop := matcherMatchesRow.holds Tryd.pinned (OpenSpec.ofChange matcherMatchesWrong)

/-- 'barographlaw13.MatcherReads': WHATEVER THE INPUT: true; the input reads as it did. -/
def matcherReadsSpec : ChangeSpec := { name := "matcherReads", fn := fun _ => fun
  | [d1, d2] => { results := [.lit (.bool true)], args := [d1, d2] }
  | _ => none }
def matcherReadsRow : OpenClaim := { program := "ytjgaidojohgenaadoor", sum := "4cfd12d41c6ab1b1055b885dff7cc1cc45c21b1f577bf783568f0c63457fce80", func := "barograph/barographlaw13.MatcherReads", spec := "matcherReads", inPlace := ["internal/bytealg.IndexByteString", "internal/bytealg.IndexString", "internal/bytealg.CountString", "internal/bytealg.abigen_runtime_cmpstring", "internal/abi.NoEscape", "internal/bytealg.MakeNoZero"], unfollowed := true, recurses := true, named := ["unicode/utf8.first", "unicode/utf8.acceptRanges", "internal/bytealg.MaxLen", "barograph/matcher.signs"], apart := false, laid := [("unicode/utf8.acceptRanges", laid_unicode_utf8_acceptRanges), ("barograph/matcher.signs", laid_barograph_matcher_signs), ("unicode/utf8.first", laid_unicode_utf8_first)] }
def MatcherReadsSaid : Prop := matcherReadsRow.holds Tryd.pinned (OpenSpec.ofChange matcherReadsSpec)

/-- ITS FALSE NEIGHBOUR: 'it returns false'. Refute it at one input. -/
def matcherReadsWrong : ChangeSpec := { name := "matcherReads", fn := fun _ => fun
  | [d1, d2] => { results := [.lit (.bool false)], args := [d1, d2] }
  | _ => none }
def MatcherReadsWrongFalsely : Prop := matcherReadsRow.holds Tryd.pinned (OpenSpec.ofChange matcherReadsWrong)

/-- 'barographlaw13.MatcherBack': WHATEVER THE INPUT: true; the input reads as it did. -/
def matcherBackSpec : ChangeSpec := { name := "matcherBack", fn := fun _ => fun
  | [d] => { results := [.lit (.bool true)], args := [d] }
  | _ => none }
def matcherBackRow : OpenClaim := { program := "ytjgaidojohgenaadoor", sum := "4cfd12d41c6ab1b1055b885dff7cc1cc45c21b1f577bf783568f0c63457fce80", func := "barograph/barographlaw13.MatcherBack", spec := "matcherBack", inPlace := ["internal/abi.NoEscape", "internal/bytealg.MakeNoZero", "internal/bytealg.IndexByteString", "internal/bytealg.IndexString", "internal/bytealg.CountString", "internal/bytealg.abigen_runtime_cmpstring"], unfollowed := true, recurses := true, named := ["barograph/matcher.signs", "unicode/utf8.first", "unicode/utf8.acceptRanges", "internal/bytealg.MaxLen"], apart := false, laid := [("unicode/utf8.acceptRanges", laid_unicode_utf8_acceptRanges), ("barograph/matcher.signs", laid_barograph_matcher_signs), ("unicode/utf8.first", laid_unicode_utf8_first)] }
def MatcherBackSaid : Prop := matcherBackRow.holds Tryd.pinned (OpenSpec.ofChange matcherBackSpec)

/-- ITS FALSE NEIGHBOUR: 'it returns false'. Refute it at one input. -/
def matcherBackWrong : ChangeSpec := { name := "matcherBack", fn := fun _ => fun
  | [d] => { results := [.lit (.bool false)], args := [d] }
  | _ => none }
def MatcherBackWrongFalsely : Prop := matcherBackRow.holds Tryd.pinned (OpenSpec.ofChange matcherBackWrong)

/- THE SECOND FORM. 'bulk': how many values and letters a reading holds, each counted each time it is reached (what is shared counts as often as it is met; a slice's spare places count too). A statement '..UptoSaid' is the law's where the arguments, and the package variables that the reading takes, are together of bulk at most 1048576: NARROWER than '..Said'. Prove '..Said' where nothing that the law and all that it calls make is longer than what came in: it says more and counts as full. Else prove '..UptoSaid'. A law counts once. -/
mutual
def uptoBulk {H : Type} : DataW H → Nat
  | .lit (.string bytes) => bytes.length + 1
  | .lit _ => 1
  | .nil => 1
  | .ptr d => uptoBulk d + 1
  | .slice elems spare => uptoBulkAll elems + uptoBulkAll spare + 1
  | .agg parts => uptoBulkAll parts + 1
  | .iface _ d => uptoBulk d + 1
  | .map entries => uptoBulkEntries entries + 1
  | .held _ => 1
def uptoBulkAll {H : Type} : List (DataW H) → Nat
  | [] => 0
  | d :: r => uptoBulk d + uptoBulkAll r
def uptoBulkEntries {H : Type} : List (Lit × DataW H) → Nat
  | [] => 0
  | x :: r => uptoBulkEntry x + uptoBulkEntries r
def uptoBulkEntry {H : Type} : Lit × DataW H → Nat
  | (.string bytes, d) => bytes.length + uptoBulk d + 1
  | (_, d) => uptoBulk d + 1
 end
def uptoSmall : (H : Type) → List (DataW H) → Bool := fun _ ds => decide (uptoBulkAll ds ≤ 1048576)
def OpenSpec.upto (s : _root_.Go.ChangeSpec) : _root_.Go.OpenSpec := { _root_.Go.OpenSpec.ofChange s with cond := some uptoSmall }

/-- 'barographlaw12.PostingEmpty', WHERE WHAT IT READS IS OF BULK AT MOST 1048576: true; the input reads as it did. -/
def postingEmptyUptoRow : OpenClaim := { program := "ytjgaidojohgenaadoor", sum := "4cfd12d41c6ab1b1055b885dff7cc1cc45c21b1f577bf783568f0c63457fce80", func := "barograph/barographlaw12.PostingEmpty", spec := "postingEmpty", inPlace := ["slices.overlaps[int]", "internal/bytealg.IndexByteString", "internal/bytealg.IndexString", "internal/bytealg.abigen_runtime_cmpstring"], unfollowed := true, recurses := true, named := ["unicode/utf8.first", "unicode/utf8.acceptRanges", "internal/bytealg.MaxLen"], apart := false, laid := [("unicode/utf8.acceptRanges", laid_unicode_utf8_acceptRanges), ("unicode/utf8.first", laid_unicode_utf8_first)], narrowed := true }
def PostingEmptyUptoSaid : Prop := postingEmptyUptoRow.holds Tryd.pinned (OpenSpec.upto postingEmptySpec)

/-- 'barographlaw12.PostingParts', WHERE WHAT IT READS IS OF BULK AT MOST 1048576: true; the input reads as it did. -/
def postingPartsUptoRow : OpenClaim := { program := "ytjgaidojohgenaadoor", sum := "4cfd12d41c6ab1b1055b885dff7cc1cc45c21b1f577bf783568f0c63457fce80", func := "barograph/barographlaw12.PostingParts", spec := "postingParts", inPlace := ["slices.overlaps[int]", "internal/bytealg.IndexByteString", "internal/bytealg.IndexString", "internal/bytealg.abigen_runtime_cmpstring"], unfollowed := true, recurses := true, named := ["unicode/utf8.first", "unicode/utf8.acceptRanges", "internal/bytealg.MaxLen"], apart := false, laid := [("unicode/utf8.acceptRanges", laid_unicode_utf8_acceptRanges), ("unicode/utf8.first", laid_unicode_utf8_first)], narrowed := true }
def PostingPartsUptoSaid : Prop := postingPartsUptoRow.holds Tryd.pinned (OpenSpec.upto postingPartsSpec)

/-- 'barographlaw13.MatcherMatches', WHERE WHAT IT READS IS OF BULK AT MOST 1048576: true; the input reads as it did. -/
def matcherMatchesUptoRow : OpenClaim := { program := "ytjgaidojohgenaadoor", sum := "4cfd12d41c6ab1b1055b885dff7cc1cc45c21b1f577bf783568f0c63457fce80", func := "barograph/barographlaw13.MatcherMatches", spec := "matcherMatches", inPlace := ["internal/bytealg.IndexByteString", "internal/bytealg.IndexString", "internal/bytealg.CountString", "internal/bytealg.abigen_runtime_cmpstring"], unfollowed := true, recurses := true, named := ["unicode/utf8.first", "unicode/utf8.acceptRanges", "internal/bytealg.MaxLen", "barograph/matcher.signs"], apart := false, laid := [("unicode/utf8.acceptRanges", laid_unicode_utf8_acceptRanges), ("barograph/matcher.signs", laid_barograph_matcher_signs), ("unicode/utf8.first", laid_unicode_utf8_first)], narrowed := true }
def MatcherMatchesUptoSaid : Prop := matcherMatchesUptoRow.holds Tryd.pinned (OpenSpec.upto matcherMatchesSpec)

/-- 'barographlaw13.MatcherReads', WHERE WHAT IT READS IS OF BULK AT MOST 1048576: true; the input reads as it did. -/
def matcherReadsUptoRow : OpenClaim := { program := "ytjgaidojohgenaadoor", sum := "4cfd12d41c6ab1b1055b885dff7cc1cc45c21b1f577bf783568f0c63457fce80", func := "barograph/barographlaw13.MatcherReads", spec := "matcherReads", inPlace := ["internal/bytealg.IndexByteString", "internal/bytealg.IndexString", "internal/bytealg.CountString", "internal/bytealg.abigen_runtime_cmpstring", "internal/abi.NoEscape", "internal/bytealg.MakeNoZero"], unfollowed := true, recurses := true, named := ["unicode/utf8.first", "unicode/utf8.acceptRanges", "internal/bytealg.MaxLen", "barograph/matcher.signs"], apart := false, laid := [("unicode/utf8.acceptRanges", laid_unicode_utf8_acceptRanges), ("barograph/matcher.signs", laid_barograph_matcher_signs), ("unicode/utf8.first", laid_unicode_utf8_first)], narrowed := true }
def MatcherReadsUptoSaid : Prop := matcherReadsUptoRow.holds Tryd.pinned (OpenSpec.upto matcherReadsSpec)

/-- 'barographlaw13.MatcherBack', WHERE WHAT IT READS IS OF BULK AT MOST 1048576: true; the input reads as it did. -/
def matcherBackUptoRow : OpenClaim := { program := "ytjgaidojohgenaadoor", sum := "4cfd12d41c6ab1b1055b885dff7cc1cc45c21b1f577bf783568f0c63457fce80", func := "barograph/barographlaw13.MatcherBack", spec := "matcherBack", inPlace := ["internal/abi.NoEscape", "internal/bytealg.MakeNoZero", "internal/bytealg.IndexByteString", "internal/bytealg.IndexString", "internal/bytealg.CountString", "internal/bytealg.abigen_runtime_cmpstring"], unfollowed := true, recurses := true, named := ["barograph/matcher.signs", "unicode/utf8.first", "unicode/utf8.acceptRanges", "internal/bytealg.MaxLen"], apart := false, laid := [("unicode/utf8.acceptRanges", laid_unicode_utf8_acceptRanges), ("barograph/matcher.signs", laid_barograph_matcher_signs), ("unicode/utf8.first", laid_unicode_utf8_first)], narrowed := true }
def MatcherBackUptoSaid : Prop := matcherBackUptoRow.holds Tryd.pinned (OpenSpec.upto matcherBackSpec)

end Rows
end Go.Proofs.YtjgaidojohgenaaDoor
