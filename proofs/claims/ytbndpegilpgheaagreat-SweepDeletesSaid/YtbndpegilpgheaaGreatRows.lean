/-
  No cell of these rows narrows 'for every input' (looked for: loops, veiled, ifaces, maps, wideKeys, modest, calm, conditions, laid).
  DERIVED. THE GIVEN ROWS OF THIS SEAT. 3 by the template 'for every input the law returns true; each argument reads behind the call as it read before'; 0 by the template 'total and deterministic' (their statements: YtbndpegilpgheaaGreatTotals.lean).
  GIVEN WITH THE SEED: the statements are not yours to turn. If you find one false, say at which input.
  Laid BY PROGRAM, IN A SANDBOX (cutbox-rows.mjs): the forced cells as the released guide's own fill.sh prints them over the translation 6067ec64f92feca3… (all of the seat's roots in one cut). By AI agents, Wed Nov 11 2026. No macro, syntax, notation, axiom, sorry.
-/
import Derived.Test.YtbndpegilpgheaaGreatChecked
import GoSem.Claim
import GoSem.ClaimJoined
import GoSem.ClaimMapViews
import Derived.JoinedTies
import Derived.KernelRfl
namespace Go.Proofs.YtbndpegilpgheaaGreat
/- THE CELL 'sum', in the pinned program and in every row, IS THE sha256 OF THE DUMP (.gsa) THAT YtbndpegilpgheaaGreatProg.lean LOADS. Nothing in Lean hashes anything: it is a label: what it is worth is what the hold of that sum in a sandbox is worth. -/
noncomputable def Tryz.pinned : Pinned := { name := "ytbndpegilpgheaagreat", sum := "6067ec64f92feca333c9ec7fe6f6d673f0ba0f4424a18cf254b5b8cc50d27dc8", checked := Tryz.checked }
namespace Rows
def none {H : Type} : Left H := { results := [], args := [] }

/-- 'barographlaw10.ListingOf': WHATEVER THE INPUT: true; the input reads as it did. -/
def listingOfSpec : ChangeSpec := { name := "listingOf", fn := fun _ => fun
  | [d1, d2] => { results := [.lit (.bool true)], args := [d1, d2] }
  | _ => none }
def listingOfRow : OpenClaim := { program := "ytbndpegilpgheaagreat", sum := "6067ec64f92feca333c9ec7fe6f6d673f0ba0f4424a18cf254b5b8cc50d27dc8", func := "barograph/barographlaw10.ListingOf", spec := "listingOf", inPlace := ["internal/bytealg.IndexByteString", "internal/bytealg.IndexString", "maps.clone", "internal/bytealg.abigen_runtime_cmpstring"], unfollowed := true, recurses := true, named := ["internal/bytealg.MaxLen"], apart := false }
def ListingOfSaid : Prop := listingOfRow.holds Tryz.pinned (OpenSpec.ofChange listingOfSpec)

/-- ITS FALSE NEIGHBOUR: 'it returns false'. Refute it at one input. -/
def listingOfWrong : ChangeSpec := { name := "listingOf", fn := fun _ => fun
  | [d1, d2] => { results := [.lit (.bool false)], args := [d1, d2] }
  | _ => none }
def ListingOfWrongFalsely : Prop := listingOfRow.holds Tryz.pinned (OpenSpec.ofChange listingOfWrong)

/-- 'barographlaw22.SweepVictims': WHATEVER THE INPUT: true; the input reads as it did. -/
def sweepVictimsSpec : ChangeSpec := { name := "sweepVictims", fn := fun _ => fun
  | [d1, d2, d3, d4] => { results := [.lit (.bool true)], args := [d1, d2, d3, d4] }
  | _ => none }
def sweepVictimsRow : OpenClaim := { program := "ytbndpegilpgheaagreat", sum := "6067ec64f92feca333c9ec7fe6f6d673f0ba0f4424a18cf254b5b8cc50d27dc8", func := "barograph/barographlaw22.SweepVictims", spec := "sweepVictims", inPlace := ["internal/bytealg.IndexByteString", "internal/bytealg.IndexString", "maps.clone"], unfollowed := true, recurses := true, named := ["internal/bytealg.MaxLen"], apart := false }
def SweepVictimsSaid : Prop := sweepVictimsRow.holds Tryz.pinned (OpenSpec.ofChange sweepVictimsSpec)

/-- ITS FALSE NEIGHBOUR: 'it returns false'. Refute it at one input. -/
def sweepVictimsWrong : ChangeSpec := { name := "sweepVictims", fn := fun _ => fun
  | [d1, d2, d3, d4] => { results := [.lit (.bool false)], args := [d1, d2, d3, d4] }
  | _ => none }
def SweepVictimsWrongFalsely : Prop := sweepVictimsRow.holds Tryz.pinned (OpenSpec.ofChange sweepVictimsWrong)

/-- 'barographlaw22.SweepDeletes': WHATEVER THE INPUT: true; the input reads as it did. -/
def sweepDeletesSpec : ChangeSpec := { name := "sweepDeletes", fn := fun _ => fun
  | [d1, d2, d3, d4, d5] => { results := [.lit (.bool true)], args := [d1, d2, d3, d4, d5] }
  | _ => none }
def sweepDeletesRow : OpenClaim := { program := "ytbndpegilpgheaagreat", sum := "6067ec64f92feca333c9ec7fe6f6d673f0ba0f4424a18cf254b5b8cc50d27dc8", func := "barograph/barographlaw22.SweepDeletes", spec := "sweepDeletes", inPlace := ["internal/bytealg.IndexByteString", "internal/bytealg.IndexString", "maps.clone"], unfollowed := true, recurses := true, named := ["internal/bytealg.MaxLen"], apart := false }
def SweepDeletesSaid : Prop := sweepDeletesRow.holds Tryz.pinned (OpenSpec.ofChange sweepDeletesSpec)

/-- ITS FALSE NEIGHBOUR: 'it returns false'. Refute it at one input. -/
def sweepDeletesWrong : ChangeSpec := { name := "sweepDeletes", fn := fun _ => fun
  | [d1, d2, d3, d4, d5] => { results := [.lit (.bool false)], args := [d1, d2, d3, d4, d5] }
  | _ => none }
def SweepDeletesWrongFalsely : Prop := sweepDeletesRow.holds Tryz.pinned (OpenSpec.ofChange sweepDeletesWrong)

/- THE SECOND FORM. 'bulk': how many values and letters a reading holds, each counted each time it is reached (what is shared counts as often as it is met; a slice's spare places count too). A statement '..UptoSaid' is the law's where the arguments, and the package variables that the reading takes, are together of bulk at most 1048576: NARROWER than '..Said'. Prove '..Said' where nothing that the law and all that it calls make is longer than what came in: it says more and counts as full. Else prove '..UptoSaid'. A law counts once. -/
mutual
def uptoBulk {H : Type} : DataW H → Nat
  | .lit (.string bytes) => bytes.length + 1
  | .lit _ => 1
  | .nil => 1
  | .ptr d => uptoBulk d + 1
  | .slice elems spare => uptoBulkAll elems + uptoBulkAll spare + 1
  | .agg parts => uptoBulkAll parts + 1
  | .iface _ d => uptoBulk d + 1
  | .map entries => uptoBulkEntries entries + 1
  | .held _ => 1
def uptoBulkAll {H : Type} : List (DataW H) → Nat
  | [] => 0
  | d :: r => uptoBulk d + uptoBulkAll r
def uptoBulkEntries {H : Type} : List (Lit × DataW H) → Nat
  | [] => 0
  | x :: r => uptoBulkEntry x + uptoBulkEntries r
def uptoBulkEntry {H : Type} : Lit × DataW H → Nat
  | (.string bytes, d) => bytes.length + uptoBulk d + 1
  | (_, d) => uptoBulk d + 1
 end
def uptoSmall : (H : Type) → List (DataW H) → Bool := fun _ ds => decide (uptoBulkAll ds ≤ 1048576)
def OpenSpec.upto (s : _root_.Go.ChangeSpec) : _root_.Go.OpenSpec := { _root_.Go.OpenSpec.ofChange s with cond := some uptoSmall }

/-- 'barographlaw10.ListingOf', WHERE WHAT IT READS IS OF BULK AT MOST 1048576: true; the input reads as it did. -/
def listingOfUptoRow : OpenClaim := { program := "ytbndpegilpgheaagreat", sum := "6067ec64f92feca333c9ec7fe6f6d673f0ba0f4424a18cf254b5b8cc50d27dc8", func := "barograph/barographlaw10.ListingOf", spec := "listingOf", inPlace := ["internal/bytealg.IndexByteString", "internal/bytealg.IndexString", "maps.clone", "internal/bytealg.abigen_runtime_cmpstring"], unfollowed := true, recurses := true, named := ["internal/bytealg.MaxLen"], apart := false, narrowed := true }
def ListingOfUptoSaid : Prop := listingOfUptoRow.holds Tryz.pinned (OpenSpec.upto listingOfSpec)

/-- 'barographlaw22.SweepVictims', WHERE WHAT IT READS IS OF BULK AT MOST 1048576: true; the input reads as it did. -/
def sweepVictimsUptoRow : OpenClaim := { program := "ytbndpegilpgheaagreat", sum := "6067ec64f92feca333c9ec7fe6f6d673f0ba0f4424a18cf254b5b8cc50d27dc8", func := "barograph/barographlaw22.SweepVictims", spec := "sweepVictims", inPlace := ["internal/bytealg.IndexByteString", "internal/bytealg.IndexString", "maps.clone"], unfollowed := true, recurses := true, named := ["internal/bytealg.MaxLen"], apart := false, narrowed := true }
def SweepVictimsUptoSaid : Prop := sweepVictimsUptoRow.holds Tryz.pinned (OpenSpec.upto sweepVictimsSpec)

/-- 'barographlaw22.SweepDeletes', WHERE WHAT IT READS IS OF BULK AT MOST 1048576: true; the input reads as it did. -/
def sweepDeletesUptoRow : OpenClaim := { program := "ytbndpegilpgheaagreat", sum := "6067ec64f92feca333c9ec7fe6f6d673f0ba0f4424a18cf254b5b8cc50d27dc8", func := "barograph/barographlaw22.SweepDeletes", spec := "sweepDeletes", inPlace := ["internal/bytealg.IndexByteString", "internal/bytealg.IndexString", "maps.clone"], unfollowed := true, recurses := true, named := ["internal/bytealg.MaxLen"], apart := false, narrowed := true }
def SweepDeletesUptoSaid : Prop := sweepDeletesUptoRow.holds Tryz.pinned (OpenSpec.upto sweepDeletesSpec)

end Rows
end Go.Proofs.YtbndpegilpgheaaGreat
