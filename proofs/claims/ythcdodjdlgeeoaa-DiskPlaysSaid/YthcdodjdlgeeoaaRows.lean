/-
  No cell of these rows narrows 'for every input' (looked for: loops, veiled, ifaces, maps, wideKeys, modest, calm, conditions, laid).
  DERIVED. THE GIVEN ROWS OF THIS SEAT. 11 by the template 'for every input the law returns true; each argument reads behind the call as it read before'; 0 by the template 'total and deterministic' (their statements: YthcdodjdlgeeoaaTotals.lean).
  GIVEN WITH THE SEED: the statements are not yours to turn. If you find one false, say at which input.
  Laid BY PROGRAM, IN A SANDBOX (cutbox-rows.mjs): the forced cells as the released guide's own fill.sh prints them over the translation 3fbdebf9dae967d4… (all of the seat's roots in one cut). By AI agents, Wed Nov 11 2026. No macro, syntax, notation, axiom, sorry.
-/
import Derived.Test.YthcdodjdlgeeoaaChecked
import GoSem.Claim
import GoSem.ClaimJoined
import GoSem.ClaimMapViews
import Derived.JoinedTies
import Derived.KernelRfl
namespace Go.Proofs.Ythcdodjdlgeeoaa
/- THE CELL 'sum', in the pinned program and in every row, IS THE sha256 OF THE DUMP (.gsa) THAT YthcdodjdlgeeoaaProg.lean LOADS. Nothing in Lean hashes anything: it is a label: what it is worth is what the hold of that sum in a sandbox is worth. -/
noncomputable def Try.pinned : Pinned := { name := "ythcdodjdlgeeoaa", sum := "3fbdebf9dae967d4c0007471fb5807aca647748a4bfda70c40554854aac74d3f", checked := Try.checked }
namespace Rows
def none {H : Type} : Left H := { results := [], args := [] }

/-- 'barographlaw05.BucketParts': WHATEVER THE INPUT: true; the input reads as it did. -/
def bucketPartsSpec : ChangeSpec := { name := "bucketParts", fn := fun _ => fun
  | [d1, d2] => { results := [.lit (.bool true)], args := [d1, d2] }
  | _ => none }
def bucketPartsRow : OpenClaim := { program := "ythcdodjdlgeeoaa", sum := "3fbdebf9dae967d4c0007471fb5807aca647748a4bfda70c40554854aac74d3f", func := "barograph/barographlaw05.BucketParts", spec := "bucketParts", unfollowed := true, recurses := true, apart := false }
def BucketPartsSaid : Prop := bucketPartsRow.holds Try.pinned (OpenSpec.ofChange bucketPartsSpec)

/-- ITS FALSE NEIGHBOUR: 'it returns false'. Refute it at one input. -/
def bucketPartsWrong : ChangeSpec := { name := "bucketParts", fn := fun _ => fun
  | [d1, d2] => { results := [.lit (.bool false)], args := [d1, d2] }
  | _ => none }
def BucketPartsWrongFalsely : Prop := bucketPartsRow.holds Try.pinned (OpenSpec.ofChange bucketPartsWrong)

/-- 'barographlaw05.BucketWhole': WHATEVER THE INPUT: true; the input reads as it did. -/
def bucketWholeSpec : ChangeSpec := { name := "bucketWhole", fn := fun _ => fun
  | [d] => { results := [.lit (.bool true)], args := [d] }
  | _ => none }
def bucketWholeRow : OpenClaim := { program := "ythcdodjdlgeeoaa", sum := "3fbdebf9dae967d4c0007471fb5807aca647748a4bfda70c40554854aac74d3f", func := "barograph/barographlaw05.BucketWhole", spec := "bucketWhole", unfollowed := true, recurses := true, apart := false }
def BucketWholeSaid : Prop := bucketWholeRow.holds Try.pinned (OpenSpec.ofChange bucketWholeSpec)

/-- ITS FALSE NEIGHBOUR: 'it returns false'. Refute it at one input. -/
def bucketWholeWrong : ChangeSpec := { name := "bucketWhole", fn := fun _ => fun
  | [d] => { results := [.lit (.bool false)], args := [d] }
  | _ => none }
def BucketWholeWrongFalsely : Prop := bucketWholeRow.holds Try.pinned (OpenSpec.ofChange bucketWholeWrong)

/-- 'barographlaw05.BucketAgain': WHATEVER THE INPUT: true; the input reads as it did. -/
def bucketAgainSpec : ChangeSpec := { name := "bucketAgain", fn := fun _ => fun
  | [d1, d2, d3] => { results := [.lit (.bool true)], args := [d1, d2, d3] }
  | _ => none }
def bucketAgainRow : OpenClaim := { program := "ythcdodjdlgeeoaa", sum := "3fbdebf9dae967d4c0007471fb5807aca647748a4bfda70c40554854aac74d3f", func := "barograph/barographlaw05.BucketAgain", spec := "bucketAgain", unfollowed := true, recurses := true, apart := false }
def BucketAgainSaid : Prop := bucketAgainRow.holds Try.pinned (OpenSpec.ofChange bucketAgainSpec)

/-- ITS FALSE NEIGHBOUR: 'it returns false'. Refute it at one input. -/
def bucketAgainWrong : ChangeSpec := { name := "bucketAgain", fn := fun _ => fun
  | [d1, d2, d3] => { results := [.lit (.bool false)], args := [d1, d2, d3] }
  | _ => none }
def BucketAgainWrongFalsely : Prop := bucketAgainRow.holds Try.pinned (OpenSpec.ofChange bucketAgainWrong)

/-- 'barographlaw05.BucketLast': WHATEVER THE INPUT: true; the input reads as it did. -/
def bucketLastSpec : ChangeSpec := { name := "bucketLast", fn := fun _ => fun
  | [d1, d2] => { results := [.lit (.bool true)], args := [d1, d2] }
  | _ => none }
def bucketLastRow : OpenClaim := { program := "ythcdodjdlgeeoaa", sum := "3fbdebf9dae967d4c0007471fb5807aca647748a4bfda70c40554854aac74d3f", func := "barograph/barographlaw05.BucketLast", spec := "bucketLast", unfollowed := true, recurses := true, apart := false }
def BucketLastSaid : Prop := bucketLastRow.holds Try.pinned (OpenSpec.ofChange bucketLastSpec)

/-- ITS FALSE NEIGHBOUR: 'it returns false'. Refute it at one input. -/
def bucketLastWrong : ChangeSpec := { name := "bucketLast", fn := fun _ => fun
  | [d1, d2] => { results := [.lit (.bool false)], args := [d1, d2] }
  | _ => none }
def BucketLastWrongFalsely : Prop := bucketLastRow.holds Try.pinned (OpenSpec.ofChange bucketLastWrong)

/-- 'barographlaw05.BucketPlays': WHATEVER THE INPUT: true; the input reads as it did. -/
def bucketPlaysSpec : ChangeSpec := { name := "bucketPlays", fn := fun _ => fun
  | [d] => { results := [.lit (.bool true)], args := [d] }
  | _ => none }
def bucketPlaysRow : OpenClaim := { program := "ythcdodjdlgeeoaa", sum := "3fbdebf9dae967d4c0007471fb5807aca647748a4bfda70c40554854aac74d3f", func := "barograph/barographlaw05.BucketPlays", spec := "bucketPlays", unfollowed := true, recurses := true, apart := false }
def BucketPlaysSaid : Prop := bucketPlaysRow.holds Try.pinned (OpenSpec.ofChange bucketPlaysSpec)

/-- ITS FALSE NEIGHBOUR: 'it returns false'. Refute it at one input. -/
def bucketPlaysWrong : ChangeSpec := { name := "bucketPlays", fn := fun _ => fun
  | [d] => { results := [.lit (.bool false)], args := [d] }
  | _ => none }
def BucketPlaysWrongFalsely : Prop := bucketPlaysRow.holds Try.pinned (OpenSpec.ofChange bucketPlaysWrong)

/-- 'barographlaw04.DiskFuses': WHATEVER THE INPUT: true; the input reads as it did. -/
def diskFusesSpec : ChangeSpec := { name := "diskFuses", fn := fun _ => fun
  | [d1, d2] => { results := [.lit (.bool true)], args := [d1, d2] }
  | _ => none }
def diskFusesRow : OpenClaim := { program := "ythcdodjdlgeeoaa", sum := "3fbdebf9dae967d4c0007471fb5807aca647748a4bfda70c40554854aac74d3f", func := "barograph/barographlaw04.DiskFuses", spec := "diskFuses", unfollowed := true, recurses := true, apart := false }
def DiskFusesSaid : Prop := diskFusesRow.holds Try.pinned (OpenSpec.ofChange diskFusesSpec)

/-- ITS FALSE NEIGHBOUR: 'it returns false'. Refute it at one input. -/
def diskFusesWrong : ChangeSpec := { name := "diskFuses", fn := fun _ => fun
  | [d1, d2] => { results := [.lit (.bool false)], args := [d1, d2] }
  | _ => none }
def DiskFusesWrongFalsely : Prop := diskFusesRow.holds Try.pinned (OpenSpec.ofChange diskFusesWrong)

/-- 'barographlaw04.DiskKeeps': WHATEVER THE INPUT: true; the input reads as it did. -/
def diskKeepsSpec : ChangeSpec := { name := "diskKeeps", fn := fun _ => fun
  | [d1, d2, d3] => { results := [.lit (.bool true)], args := [d1, d2, d3] }
  | _ => none }
def diskKeepsRow : OpenClaim := { program := "ythcdodjdlgeeoaa", sum := "3fbdebf9dae967d4c0007471fb5807aca647748a4bfda70c40554854aac74d3f", func := "barograph/barographlaw04.DiskKeeps", spec := "diskKeeps", unfollowed := true, recurses := true, apart := false }
def DiskKeepsSaid : Prop := diskKeepsRow.holds Try.pinned (OpenSpec.ofChange diskKeepsSpec)

/-- ITS FALSE NEIGHBOUR: 'it returns false'. Refute it at one input. -/
def diskKeepsWrong : ChangeSpec := { name := "diskKeeps", fn := fun _ => fun
  | [d1, d2, d3] => { results := [.lit (.bool false)], args := [d1, d2, d3] }
  | _ => none }
def DiskKeepsWrongFalsely : Prop := diskKeepsRow.holds Try.pinned (OpenSpec.ofChange diskKeepsWrong)

/-- 'barographlaw04.DiskFull': WHATEVER THE INPUT: true; the input reads as it did. -/
def diskFullSpec : ChangeSpec := { name := "diskFull", fn := fun _ => fun
  | [d1, d2] => { results := [.lit (.bool true)], args := [d1, d2] }
  | _ => none }
def diskFullRow : OpenClaim := { program := "ythcdodjdlgeeoaa", sum := "3fbdebf9dae967d4c0007471fb5807aca647748a4bfda70c40554854aac74d3f", func := "barograph/barographlaw04.DiskFull", spec := "diskFull", unfollowed := true, recurses := true, apart := false }
def DiskFullSaid : Prop := diskFullRow.holds Try.pinned (OpenSpec.ofChange diskFullSpec)

/-- ITS FALSE NEIGHBOUR: 'it returns false'. Refute it at one input. -/
def diskFullWrong : ChangeSpec := { name := "diskFull", fn := fun _ => fun
  | [d1, d2] => { results := [.lit (.bool false)], args := [d1, d2] }
  | _ => none }
def DiskFullWrongFalsely : Prop := diskFullRow.holds Try.pinned (OpenSpec.ofChange diskFullWrong)

/-- 'barographlaw04.DiskNames': WHATEVER THE INPUT: true; the input reads as it did. -/
def diskNamesSpec : ChangeSpec := { name := "diskNames", fn := fun _ => fun
  | [d1, d2] => { results := [.lit (.bool true)], args := [d1, d2] }
  | _ => none }
def diskNamesRow : OpenClaim := { program := "ythcdodjdlgeeoaa", sum := "3fbdebf9dae967d4c0007471fb5807aca647748a4bfda70c40554854aac74d3f", func := "barograph/barographlaw04.DiskNames", spec := "diskNames", unfollowed := true, recurses := true, apart := false }
def DiskNamesSaid : Prop := diskNamesRow.holds Try.pinned (OpenSpec.ofChange diskNamesSpec)

/-- ITS FALSE NEIGHBOUR: 'it returns false'. Refute it at one input. -/
def diskNamesWrong : ChangeSpec := { name := "diskNames", fn := fun _ => fun
  | [d1, d2] => { results := [.lit (.bool false)], args := [d1, d2] }
  | _ => none }
def DiskNamesWrongFalsely : Prop := diskNamesRow.holds Try.pinned (OpenSpec.ofChange diskNamesWrong)

/-- 'barographlaw04.DiskOthers': WHATEVER THE INPUT: true; the input reads as it did. -/
def diskOthersSpec : ChangeSpec := { name := "diskOthers", fn := fun _ => fun
  | [d1, d2] => { results := [.lit (.bool true)], args := [d1, d2] }
  | _ => none }
def diskOthersRow : OpenClaim := { program := "ythcdodjdlgeeoaa", sum := "3fbdebf9dae967d4c0007471fb5807aca647748a4bfda70c40554854aac74d3f", func := "barograph/barographlaw04.DiskOthers", spec := "diskOthers", unfollowed := true, recurses := true, apart := false }
def DiskOthersSaid : Prop := diskOthersRow.holds Try.pinned (OpenSpec.ofChange diskOthersSpec)

/-- ITS FALSE NEIGHBOUR: 'it returns false'. Refute it at one input. -/
def diskOthersWrong : ChangeSpec := { name := "diskOthers", fn := fun _ => fun
  | [d1, d2] => { results := [.lit (.bool false)], args := [d1, d2] }
  | _ => none }
def DiskOthersWrongFalsely : Prop := diskOthersRow.holds Try.pinned (OpenSpec.ofChange diskOthersWrong)

/-- 'barographlaw04.DiskPlays': WHATEVER THE INPUT: true; the input reads as it did. -/
def diskPlaysSpec : ChangeSpec := { name := "diskPlays", fn := fun _ => fun
  | [d1, d2] => { results := [.lit (.bool true)], args := [d1, d2] }
  | _ => none }
def diskPlaysRow : OpenClaim := { program := "ythcdodjdlgeeoaa", sum := "3fbdebf9dae967d4c0007471fb5807aca647748a4bfda70c40554854aac74d3f", func := "barograph/barographlaw04.DiskPlays", spec := "diskPlays", unfollowed := true, recurses := true, apart := false }
def DiskPlaysSaid : Prop := diskPlaysRow.holds Try.pinned (OpenSpec.ofChange diskPlaysSpec)

/-- ITS FALSE NEIGHBOUR: 'it returns false'. Refute it at one input. -/
def diskPlaysWrong : ChangeSpec := { name := "diskPlays", fn := fun _ => fun
  | [d1, d2] => { results := [.lit (.bool false)], args := [d1, d2] }
  | _ => none }
def DiskPlaysWrongFalsely : Prop := diskPlaysRow.holds Try.pinned (OpenSpec.ofChange diskPlaysWrong)

/- THE SECOND FORM. 'bulk': how many values and letters a reading holds, each counted each time it is reached (what is shared counts as often as it is met; a slice's spare places count too). A statement '..UptoSaid' is the law's where the arguments, and the package variables that the reading takes, are together of bulk at most 1048576: NARROWER than '..Said'. Prove '..Said' where nothing that the law and all that it calls make is longer than what came in: it says more and counts as full. Else prove '..UptoSaid'. A law counts once. -/
mutual
def uptoBulk {H : Type} : DataW H → Nat
  | .lit (.string bytes) => bytes.length + 1
  | .lit _ => 1
  | .nil => 1
  | .ptr d => uptoBulk d + 1
  | .slice elems spare => uptoBulkAll elems + uptoBulkAll spare + 1
  | .agg parts => uptoBulkAll parts + 1
  | .iface _ d => uptoBulk d + 1
  | .map entries => uptoBulkEntries entries + 1
  | .held _ => 1
def uptoBulkAll {H : Type} : List (DataW H) → Nat
  | [] => 0
  | d :: r => uptoBulk d + uptoBulkAll r
def uptoBulkEntries {H : Type} : List (Lit × DataW H) → Nat
  | [] => 0
  | x :: r => uptoBulkEntry x + uptoBulkEntries r
def uptoBulkEntry {H : Type} : Lit × DataW H → Nat
  | (.string bytes, d) => bytes.length + uptoBulk d + 1
  | (_, d) => uptoBulk d + 1
 end
def uptoSmall : (H : Type) → List (DataW H) → Bool := fun _ ds => decide (uptoBulkAll ds ≤ 1048576)
def OpenSpec.upto (s : _root_.Go.ChangeSpec) : _root_.Go.OpenSpec := { _root_.Go.OpenSpec.ofChange s with cond := some uptoSmall }

/-- 'barographlaw05.BucketParts', WHERE WHAT IT READS IS OF BULK AT MOST 1048576: true; the input reads as it did. -/
def bucketPartsUptoRow : OpenClaim := { program := "ythcdodjdlgeeoaa", sum := "3fbdebf9dae967d4c0007471fb5807aca647748a4bfda70c40554854aac74d3f", func := "barograph/barographlaw05.BucketParts", spec := "bucketParts", unfollowed := true, recurses := true, apart := false, narrowed := true }
def BucketPartsUptoSaid : Prop := bucketPartsUptoRow.holds Try.pinned (OpenSpec.upto bucketPartsSpec)

/-- 'barographlaw05.BucketWhole', WHERE WHAT IT READS IS OF BULK AT MOST 1048576: true; the input reads as it did. -/
def bucketWholeUptoRow : OpenClaim := { program := "ythcdodjdlgeeoaa", sum := "3fbdebf9dae967d4c0007471fb5807aca647748a4bfda70c40554854aac74d3f", func := "barograph/barographlaw05.BucketWhole", spec := "bucketWhole", unfollowed := true, recurses := true, apart := false, narrowed := true }
def BucketWholeUptoSaid : Prop := bucketWholeUptoRow.holds Try.pinned (OpenSpec.upto bucketWholeSpec)

/-- 'barographlaw05.BucketAgain', WHERE WHAT IT READS IS OF BULK AT MOST 1048576: true; the input reads as it did. -/
def bucketAgainUptoRow : OpenClaim := { program := "ythcdodjdlgeeoaa", sum := "3fbdebf9dae967d4c0007471fb5807aca647748a4bfda70c40554854aac74d3f", func := "barograph/barographlaw05.BucketAgain", spec := "bucketAgain", unfollowed := true, recurses := true, apart := false, narrowed := true }
def BucketAgainUptoSaid : Prop := bucketAgainUptoRow.holds Try.pinned (OpenSpec.upto bucketAgainSpec)

/-- 'barographlaw05.BucketLast', WHERE WHAT IT READS IS OF BULK AT MOST 1048576: true; the input reads as it did. -/
def bucketLastUptoRow : OpenClaim := { program := "ythcdodjdlgeeoaa", sum := "3fbdebf9dae967d4c0007471fb5807aca647748a4bfda70c40554854aac74d3f", func := "barograph/barographlaw05.BucketLast", spec := "bucketLast", unfollowed := true, recurses := true, apart := false, narrowed := true }
def BucketLastUptoSaid : Prop := bucketLastUptoRow.holds Try.pinned (OpenSpec.upto bucketLastSpec)

/-- 'barographlaw05.BucketPlays', WHERE WHAT IT READS IS OF BULK AT MOST 1048576: true; the input reads as it did. -/
def bucketPlaysUptoRow : OpenClaim := { program := "ythcdodjdlgeeoaa", sum := "3fbdebf9dae967d4c0007471fb5807aca647748a4bfda70c40554854aac74d3f", func := "barograph/barographlaw05.BucketPlays", spec := "bucketPlays", unfollowed := true, recurses := true, apart := false, narrowed := true }
def BucketPlaysUptoSaid : Prop := bucketPlaysUptoRow.holds Try.pinned (OpenSpec.upto bucketPlaysSpec)

/-- 'barographlaw04.DiskFuses', WHERE WHAT IT READS IS OF BULK AT MOST 1048576: true; the input reads as it did. -/
def diskFusesUptoRow : OpenClaim := { program := "ythcdodjdlgeeoaa", sum := "3fbdebf9dae967d4c0007471fb5807aca647748a4bfda70c40554854aac74d3f", func := "barograph/barographlaw04.DiskFuses", spec := "diskFuses", unfollowed := true, recurses := true, apart := false, narrowed := true }
def DiskFusesUptoSaid : Prop := diskFusesUptoRow.holds Try.pinned (OpenSpec.upto diskFusesSpec)

/-- 'barographlaw04.DiskKeeps', WHERE WHAT IT READS IS OF BULK AT MOST 1048576: true; the input reads as it did. -/
def diskKeepsUptoRow : OpenClaim := { program := "ythcdodjdlgeeoaa", sum := "3fbdebf9dae967d4c0007471fb5807aca647748a4bfda70c40554854aac74d3f", func := "barograph/barographlaw04.DiskKeeps", spec := "diskKeeps", unfollowed := true, recurses := true, apart := false, narrowed := true }
def DiskKeepsUptoSaid : Prop := diskKeepsUptoRow.holds Try.pinned (OpenSpec.upto diskKeepsSpec)

/-- 'barographlaw04.DiskFull', WHERE WHAT IT READS IS OF BULK AT MOST 1048576: true; the input reads as it did. -/
def diskFullUptoRow : OpenClaim := { program := "ythcdodjdlgeeoaa", sum := "3fbdebf9dae967d4c0007471fb5807aca647748a4bfda70c40554854aac74d3f", func := "barograph/barographlaw04.DiskFull", spec := "diskFull", unfollowed := true, recurses := true, apart := false, narrowed := true }
def DiskFullUptoSaid : Prop := diskFullUptoRow.holds Try.pinned (OpenSpec.upto diskFullSpec)

/-- 'barographlaw04.DiskNames', WHERE WHAT IT READS IS OF BULK AT MOST 1048576: true; the input reads as it did. -/
def diskNamesUptoRow : OpenClaim := { program := "ythcdodjdlgeeoaa", sum := "3fbdebf9dae967d4c0007471fb5807aca647748a4bfda70c40554854aac74d3f", func := "barograph/barographlaw04.DiskNames", spec := "diskNames", unfollowed := true, recurses := true, apart := false, narrowed := true }
def DiskNamesUptoSaid : Prop := diskNamesUptoRow.holds Try.pinned (OpenSpec.upto diskNamesSpec)

/-- 'barographlaw04.DiskOthers', WHERE WHAT IT READS IS OF BULK AT MOST 1048576: true; the input reads as it did. -/
def diskOthersUptoRow : OpenClaim := { program := "ythcdodjdlgeeoaa", sum := "3fbdebf9dae967d4c0007471fb5807aca647748a4bfda70c40554854aac74d3f", func := "barograph/barographlaw04.DiskOthers", spec := "diskOthers", unfollowed := true, recurses := true, apart := false, narrowed := true }
def DiskOthersUptoSaid : Prop := diskOthersUptoRow.holds Try.pinned (OpenSpec.upto diskOthersSpec)

/-- 'barographlaw04.DiskPlays', WHERE WHAT IT READS IS OF BULK AT MOST 1048576: true; the input reads as it did. -/
def diskPlaysUptoRow : OpenClaim := { program := "ythcdodjdlgeeoaa", sum := "3fbdebf9dae967d4c0007471fb5807aca647748a4bfda70c40554854aac74d3f", func := "barograph/barographlaw04.DiskPlays", spec := "diskPlays", unfollowed := true, recurses := true, apart := false, narrowed := true }
def DiskPlaysUptoSaid : Prop := diskPlaysUptoRow.holds Try.pinned (OpenSpec.upto diskPlaysSpec)

end Rows
end Go.Proofs.Ythcdodjdlgeeoaa
