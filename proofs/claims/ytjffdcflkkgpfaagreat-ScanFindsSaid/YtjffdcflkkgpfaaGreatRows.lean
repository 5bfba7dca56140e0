/-
  No cell of these rows narrows 'for every input' (looked for: loops, veiled, ifaces, maps, wideKeys, modest, calm, conditions, laid).
  DERIVED. THE GIVEN ROWS OF THIS SEAT. 5 by the template 'for every input the law returns true; each argument reads behind the call as it read before'; 0 by the template 'total and deterministic' (their statements: YtjffdcflkkgpfaaGreatTotals.lean).
  GIVEN WITH THE SEED: the statements are not yours to turn. If you find one false, say at which input.
  Laid BY PROGRAM, IN A SANDBOX (cutbox-rows.mjs): the forced cells as the released guide's own fill.sh prints them over the translation 8578718c00e3e1f5… (all of the seat's roots in one cut). By AI agents, Wed Nov 11 2026. No macro, syntax, notation, axiom, sorry.
-/
import Derived.Test.YtjffdcflkkgpfaaGreatChecked
import GoSem.Claim
import GoSem.ClaimJoined
import GoSem.ClaimMapViews
import Derived.JoinedTies
import Derived.KernelRfl
namespace Go.Proofs.YtjffdcflkkgpfaaGreat
/- THE CELL 'sum', in the pinned program and in every row, IS THE sha256 OF THE DUMP (.gsa) THAT YtjffdcflkkgpfaaGreatProg.lean LOADS. Nothing in Lean hashes anything: it is a label: what it is worth is what the hold of that sum in a sandbox is worth. -/
noncomputable def Tryz.pinned : Pinned := { name := "ytjffdcflkkgpfaagreat", sum := "8578718c00e3e1f52a3af00a1c2d42ba4c0ad8d36f1293c842a43eaf30dfd32b", checked := Tryz.checked }
namespace Rows
def none {H : Type} : Left H := { results := [], args := [] }

/-- 'barographlaw10.ListingOf': WHATEVER THE INPUT: true; the input reads as it did. -/
def listingOfSpec : ChangeSpec := { name := "listingOf", fn := fun _ => fun
  | [d1, d2] => { results := [.lit (.bool true)], args := [d1, d2] }
  | _ => none }
def listingOfRow : OpenClaim := { program := "ytjffdcflkkgpfaagreat", sum := "8578718c00e3e1f52a3af00a1c2d42ba4c0ad8d36f1293c842a43eaf30dfd32b", func := "barograph/barographlaw10.ListingOf", spec := "listingOf", inPlace := ["internal/bytealg.IndexByteString", "internal/bytealg.IndexString", "maps.clone", "internal/bytealg.abigen_runtime_cmpstring"], unfollowed := true, recurses := true, named := ["internal/bytealg.MaxLen"], apart := false }
def ListingOfSaid : Prop := listingOfRow.holds Tryz.pinned (OpenSpec.ofChange listingOfSpec)

/-- ITS FALSE NEIGHBOUR: 'it returns false'. Refute it at one input. -/
def listingOfWrong : ChangeSpec := { name := "listingOf", fn := fun _ => fun
  | [d1, d2] => { results := [.lit (.bool false)], args := [d1, d2] }
  | _ => none }
def ListingOfWrongFalsely : Prop := listingOfRow.holds Tryz.pinned (OpenSpec.ofChange listingOfWrong)

/-- 'barographlaw19.ScanAgain': WHATEVER THE INPUT: true; the input reads as it did. -/
def scanAgainSpec : ChangeSpec := { name := "scanAgain", fn := fun _ => fun
  | [d1, d2] => { results := [.lit (.bool true)], args := [d1, d2] }
  | _ => none }
def scanAgainRow : OpenClaim := { program := "ytjffdcflkkgpfaagreat", sum := "8578718c00e3e1f52a3af00a1c2d42ba4c0ad8d36f1293c842a43eaf30dfd32b", func := "barograph/barographlaw19.ScanAgain", spec := "scanAgain", inPlace := ["internal/bytealg.IndexByteString", "internal/bytealg.IndexString", "maps.clone", "internal/bytealg.abigen_runtime_cmpstring"], unfollowed := true, recurses := true, named := ["internal/bytealg.MaxLen"], apart := false }
def ScanAgainSaid : Prop := scanAgainRow.holds Tryz.pinned (OpenSpec.ofChange scanAgainSpec)

/-- ITS FALSE NEIGHBOUR: 'it returns false'. Refute it at one input. -/
def scanAgainWrong : ChangeSpec := { name := "scanAgain", fn := fun _ => fun
  | [d1, d2] => { results := [.lit (.bool false)], args := [d1, d2] }
  | _ => none }
def ScanAgainWrongFalsely : Prop := scanAgainRow.holds Tryz.pinned (OpenSpec.ofChange scanAgainWrong)

/-- 'barographlaw19.ScanMoving': WHATEVER THE INPUT: true; the input reads as it did. -/
def scanMovingSpec : ChangeSpec := { name := "scanMoving", fn := fun _ => fun
  | [d1, d2] => { results := [.lit (.bool true)], args := [d1, d2] }
  | _ => none }
def scanMovingRow : OpenClaim := { program := "ytjffdcflkkgpfaagreat", sum := "8578718c00e3e1f52a3af00a1c2d42ba4c0ad8d36f1293c842a43eaf30dfd32b", func := "barograph/barographlaw19.ScanMoving", spec := "scanMoving", inPlace := ["internal/bytealg.IndexByteString", "internal/bytealg.IndexString", "maps.clone", "internal/bytealg.abigen_runtime_cmpstring"], unfollowed := true, recurses := true, named := ["internal/bytealg.MaxLen"], apart := false }
def ScanMovingSaid : Prop := scanMovingRow.holds Tryz.pinned (OpenSpec.ofChange scanMovingSpec)

/-- ITS FALSE NEIGHBOUR: 'it returns false'. Refute it at one input. -/
def scanMovingWrong : ChangeSpec := { name := "scanMoving", fn := fun _ => fun
  | [d1, d2] => { results := [.lit (.bool false)], args := [d1, d2] }
  | _ => none }
def ScanMovingWrongFalsely : Prop := scanMovingRow.holds Tryz.pinned (OpenSpec.ofChange scanMovingWrong)

/-- 'barographlaw19.ScanPuts': WHATEVER THE INPUT: true; the input reads as it did. -/
def scanPutsSpec : ChangeSpec := { name := "scanPuts", fn := fun _ => fun
  | [d1, d2, d3, d4] => { results := [.lit (.bool true)], args := [d1, d2, d3, d4] }
  | _ => none }
def scanPutsRow : OpenClaim := { program := "ytjffdcflkkgpfaagreat", sum := "8578718c00e3e1f52a3af00a1c2d42ba4c0ad8d36f1293c842a43eaf30dfd32b", func := "barograph/barographlaw19.ScanPuts", spec := "scanPuts", inPlace := ["internal/bytealg.IndexByteString", "internal/bytealg.IndexString", "maps.clone", "internal/bytealg.abigen_runtime_cmpstring"], unfollowed := true, recurses := true, named := ["internal/bytealg.MaxLen"], apart := false }
def ScanPutsSaid : Prop := scanPutsRow.holds Tryz.pinned (OpenSpec.ofChange scanPutsSpec)

/-- ITS FALSE NEIGHBOUR: 'it returns false'. Refute it at one input. -/
def scanPutsWrong : ChangeSpec := { name := "scanPuts", fn := fun _ => fun
  | [d1, d2, d3, d4] => { results := [.lit (.bool false)], args := [d1, d2, d3, d4] }
  | _ => none }
def ScanPutsWrongFalsely : Prop := scanPutsRow.holds Tryz.pinned (OpenSpec.ofChange scanPutsWrong)

/-- 'barographlaw19.ScanFinds': WHATEVER THE INPUT: true; the input reads as it did. -/
def scanFindsSpec : ChangeSpec := { name := "scanFinds", fn := fun _ => fun
  | [d1, d2, d3, d4] => { results := [.lit (.bool true)], args := [d1, d2, d3, d4] }
  | _ => none }
def scanFindsRow : OpenClaim := { program := "ytjffdcflkkgpfaagreat", sum := "8578718c00e3e1f52a3af00a1c2d42ba4c0ad8d36f1293c842a43eaf30dfd32b", func := "barograph/barographlaw19.ScanFinds", spec := "scanFinds", inPlace := ["internal/bytealg.IndexByteString", "internal/bytealg.IndexString", "maps.clone", "internal/bytealg.abigen_runtime_cmpstring"], unfollowed := true, recurses := true, named := ["internal/bytealg.MaxLen"], apart := false }
def ScanFindsSaid : Prop := scanFindsRow.holds Tryz.pinned (OpenSpec.ofChange scanFindsSpec)

/-- ITS FALSE NEIGHBOUR: 'it returns false'. Refute it at one input. -/
def scanFindsWrong : ChangeSpec := { name := "scanFinds", fn := fun _ => fun
  | [d1, d2, d3, d4] => { results := [.lit (.bool false)], args := [d1, d2, d3, d4] }
  | _ => none }
def ScanFindsWrongFalsely : Prop := scanFindsRow.holds Tryz.pinned (OpenSpec.ofChange scanFindsWrong)

/- THE SECOND FORM. 'bulk': how many values and letters a reading holds, each counted each time it is reached (what is shared counts as often as it is met; a slice's spare places count too). A statement '..UptoSaid' is the law's where the arguments, and the package variables that the reading takes, are together of bulk at most 1048576: NARROWER than '..Said'. Prove '..Said' where nothing that the law and all that it calls make is longer than what came in: it says more and counts as full. Else prove '..UptoSaid'. A law counts once. -/
mutual
def uptoBulk {H : Type} : DataW H → Nat
  | .lit (.string bytes) => bytes.length + 1
  | .lit _ => 1
  | .nil => 1
  | .ptr d => uptoBulk d + 1
  | .slice elems spare => uptoBulkAll elems + uptoBulkAll spare + 1
  | .agg parts => uptoBulkAll parts + 1
  | .iface _ d => uptoBulk d + 1
  | .map entries => uptoBulkEntries entries + 1
  | .held _ => 1
def uptoBulkAll {H : Type} : List (DataW H) → Nat
  | [] => 0
  | d :: r => uptoBulk d + uptoBulkAll r
def uptoBulkEntries {H : Type} : List (Lit × DataW H) → Nat
  | [] => 0
  | x :: r => uptoBulkEntry x + uptoBulkEntries r
def uptoBulkEntry {H : Type} : Lit × DataW H → Nat
  | (.string bytes, d) => bytes.length + uptoBulk d + 1
  | (_, d) => uptoBulk d + 1
 end
def uptoSmall : (H : Type) → List (DataW H) → Bool := fun _ ds => decide (uptoBulkAll ds ≤ 1048576)
def OpenSpec.upto (s : _root_.Go.ChangeSpec) : _root_.Go.OpenSpec := { _root_.Go.OpenSpec.ofChange s with cond := some uptoSmall }

/-- 'barographlaw10.ListingOf', WHERE WHAT IT READS IS OF BULK AT MOST 1048576: true; the input reads as it did. -/
def listingOfUptoRow : OpenClaim := { program := "ytjffdcflkkgpfaagreat", sum := "8578718c00e3e1f52a3af00a1c2d42ba4c0ad8d36f1293c842a43eaf30dfd32b", func := "barograph/barographlaw10.ListingOf", spec := "listingOf", inPlace := ["internal/bytealg.IndexByteString", "internal/bytealg.IndexString", "maps.clone", "internal/bytealg.abigen_runtime_cmpstring"], unfollowed := true, recurses := true, named := ["internal/bytealg.MaxLen"], apart := false, narrowed := true }
def ListingOfUptoSaid : Prop := listingOfUptoRow.holds Tryz.pinned (OpenSpec.upto listingOfSpec)

/-- 'barographlaw19.ScanAgain', WHERE WHAT IT READS IS OF BULK AT MOST 1048576: true; the input reads as it did. -/
def scanAgainUptoRow : OpenClaim := { program := "ytjffdcflkkgpfaagreat", sum := "8578718c00e3e1f52a3af00a1c2d42ba4c0ad8d36f1293c842a43eaf30dfd32b", func := "barograph/barographlaw19.ScanAgain", spec := "scanAgain", inPlace := ["internal/bytealg.IndexByteString", "internal/bytealg.IndexString", "maps.clone", "internal/bytealg.abigen_runtime_cmpstring"], unfollowed := true, recurses := true, named := ["internal/bytealg.MaxLen"], apart := false, narrowed := true }
def ScanAgainUptoSaid : Prop := scanAgainUptoRow.holds Tryz.pinned (OpenSpec.upto scanAgainSpec)

/-- 'barographlaw19.ScanMoving', WHERE WHAT IT READS IS OF BULK AT MOST 1048576: true; the input reads as it did. -/
def scanMovingUptoRow : OpenClaim := { program := "ytjffdcflkkgpfaagreat", sum := "8578718c00e3e1f52a3af00a1c2d42ba4c0ad8d36f1293c842a43eaf30dfd32b", func := "barograph/barographlaw19.ScanMoving", spec := "scanMoving", inPlace := ["internal/bytealg.IndexByteString", "internal/bytealg.IndexString", "maps.clone", "internal/bytealg.abigen_runtime_cmpstring"], unfollowed := true, recurses := true, named := ["internal/bytealg.MaxLen"], apart := false, narrowed := true }
def ScanMovingUptoSaid : Prop := scanMovingUptoRow.holds Tryz.pinned (OpenSpec.upto scanMovingSpec)

/-- 'barographlaw19.ScanPuts', WHERE WHAT IT READS IS OF BULK AT MOST 1048576: true; the input reads as it did. -/
def scanPutsUptoRow : OpenClaim := { program := "ytjffdcflkkgpfaagreat", sum := "8578718c00e3e1f52a3af00a1c2d42ba4c0ad8d36f1293c842a43eaf30dfd32b", func := "barograph/barographlaw19.ScanPuts", spec := "scanPuts", inPlace := ["internal/bytealg.IndexByteString", "internal/bytealg.IndexString", "maps.clone", "internal/bytealg.abigen_runtime_cmpstring"], unfollowed := true, recurses := true, named := ["internal/bytealg.MaxLen"], apart := false, narrowed := true }
def ScanPutsUptoSaid : Prop := scanPutsUptoRow.holds Tryz.pinned (OpenSpec.upto scanPutsSpec)

/-- 'barographlaw19.ScanFinds', WHERE WHAT IT READS IS OF BULK AT MOST 1048576: true; the input reads as it did. -/
def scanFindsUptoRow : OpenClaim := { program := "ytjffdcflkkgpfaagreat", sum := "8578718c00e3e1f52a3af00a1c2d42ba4c0ad8d36f1293c842a43eaf30dfd32b", func := "barograph/barographlaw19.ScanFinds", spec := "scanFinds", inPlace := ["internal/bytealg.IndexByteString", "internal/bytealg.IndexString", "maps.clone", "internal/bytealg.abigen_runtime_cmpstring"], unfollowed := true, recurses := true, named := ["internal/bytealg.MaxLen"], apart := false, narrowed := true }
def ScanFindsUptoSaid : Prop := scanFindsUptoRow.holds Tryz.pinned (OpenSpec.upto scanFindsSpec)

end Rows
end Go.Proofs.YtjffdcflkkgpfaaGreat
