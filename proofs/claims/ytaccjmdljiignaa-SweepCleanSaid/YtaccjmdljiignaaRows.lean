/-
  No cell of these rows narrows 'for every input' (looked for: loops, veiled, ifaces, maps, wideKeys, modest, calm, conditions, laid).
  DERIVED. THE GIVEN ROWS OF THIS SEAT. 6 by the template 'for every input the law returns true; each argument reads behind the call as it read before'; 0 by the template 'total and deterministic' (their statements: YtaccjmdljiignaaTotals.lean).
  GIVEN WITH THE SEED: the statements are not yours to turn. If you find one false, say at which input.
  Laid BY PROGRAM, IN A SANDBOX (cutbox-rows.mjs): the forced cells as the released guide's own fill.sh prints them over the translation bf8af2780eeb56c6… (all of the seat's roots in one cut). By AI agents, Wed Nov 11 2026. No macro, syntax, notation, axiom, sorry.
-/
import Derived.Test.YtaccjmdljiignaaChecked
import GoSem.Claim
import GoSem.ClaimJoined
import GoSem.ClaimMapViews
import Derived.JoinedTies
import Derived.KernelRfl
namespace Go.Proofs.Ytaccjmdljiignaa
/- THE CELL 'sum', in the pinned program and in every row, IS THE sha256 OF THE DUMP (.gsa) THAT YtaccjmdljiignaaProg.lean LOADS. Nothing in Lean hashes anything: it is a label: what it is worth is what the hold of that sum in a sandbox is worth. -/
noncomputable def Try.pinned : Pinned := { name := "ytaccjmdljiignaa", sum := "bf8af2780eeb56c6132050bc26d0ef4fc340638debc0d825e31296c05d13f0da", checked := Try.checked }
namespace Rows
def none {H : Type} : Left H := { results := [], args := [] }

/-- 'barographlaw10.ListingBack': WHATEVER THE INPUT: true; the input reads as it did. -/
def listingBackSpec : ChangeSpec := { name := "listingBack", fn := fun _ => fun
  | [d1, d2, d3] => { results := [.lit (.bool true)], args := [d1, d2, d3] }
  | _ => none }
def listingBackRow : OpenClaim := { program := "ytaccjmdljiignaa", sum := "bf8af2780eeb56c6132050bc26d0ef4fc340638debc0d825e31296c05d13f0da", func := "barograph/barographlaw10.ListingBack", spec := "listingBack", inPlace := ["maps.clone", "internal/bytealg.abigen_runtime_cmpstring", "internal/bytealg.IndexByteString"], unfollowed := true, recurses := true, apart := false }
def ListingBackSaid : Prop := listingBackRow.holds Try.pinned (OpenSpec.ofChange listingBackSpec)

/-- ITS FALSE NEIGHBOUR: 'it returns false'. Refute it at one input. -/
def listingBackWrong : ChangeSpec := { name := "listingBack", fn := fun _ => fun
  | [d1, d2, d3] => { results := [.lit (.bool false)], args := [d1, d2, d3] }
  | _ => none }
def ListingBackWrongFalsely : Prop := listingBackRow.holds Try.pinned (OpenSpec.ofChange listingBackWrong)

/-- 'barographlaw10.ListingShows': WHATEVER THE INPUT: true; the input reads as it did. -/
def listingShowsSpec : ChangeSpec := { name := "listingShows", fn := fun _ => fun
  | [d1, d2, d3, d4, d5] => { results := [.lit (.bool true)], args := [d1, d2, d3, d4, d5] }
  | _ => none }
def listingShowsRow : OpenClaim := { program := "ytaccjmdljiignaa", sum := "bf8af2780eeb56c6132050bc26d0ef4fc340638debc0d825e31296c05d13f0da", func := "barograph/barographlaw10.ListingShows", spec := "listingShows", inPlace := ["maps.clone", "internal/bytealg.abigen_runtime_cmpstring", "internal/bytealg.IndexByteString"], unfollowed := true, recurses := true, apart := false }
def ListingShowsSaid : Prop := listingShowsRow.holds Try.pinned (OpenSpec.ofChange listingShowsSpec)

/-- ITS FALSE NEIGHBOUR: 'it returns false'. Refute it at one input. -/
def listingShowsWrong : ChangeSpec := { name := "listingShows", fn := fun _ => fun
  | [d1, d2, d3, d4, d5] => { results := [.lit (.bool false)], args := [d1, d2, d3, d4, d5] }
  | _ => none }
def ListingShowsWrongFalsely : Prop := listingShowsRow.holds Try.pinned (OpenSpec.ofChange listingShowsWrong)

/-- 'barographlaw10.ListingLive': WHATEVER THE INPUT: true; the input reads as it did. -/
def listingLiveSpec : ChangeSpec := { name := "listingLive", fn := fun _ => fun
  | [d] => { results := [.lit (.bool true)], args := [d] }
  | _ => none }
def listingLiveRow : OpenClaim := { program := "ytaccjmdljiignaa", sum := "bf8af2780eeb56c6132050bc26d0ef4fc340638debc0d825e31296c05d13f0da", func := "barograph/barographlaw10.ListingLive", spec := "listingLive", inPlace := ["maps.clone", "internal/bytealg.abigen_runtime_cmpstring", "internal/bytealg.IndexByteString"], unfollowed := true, recurses := true, apart := false }
def ListingLiveSaid : Prop := listingLiveRow.holds Try.pinned (OpenSpec.ofChange listingLiveSpec)

/-- ITS FALSE NEIGHBOUR: 'it returns false'. Refute it at one input. -/
def listingLiveWrong : ChangeSpec := { name := "listingLive", fn := fun _ => fun
  | [d] => { results := [.lit (.bool false)], args := [d] }
  | _ => none }
def ListingLiveWrongFalsely : Prop := listingLiveRow.holds Try.pinned (OpenSpec.ofChange listingLiveWrong)

/-- 'barographlaw22.SweepHalf': WHATEVER THE INPUT: true; the input reads as it did. -/
def sweepHalfSpec : ChangeSpec := { name := "sweepHalf", fn := fun _ => fun
  | [d1, d2] => { results := [.lit (.bool true)], args := [d1, d2] }
  | _ => none }
def sweepHalfRow : OpenClaim := { program := "ytaccjmdljiignaa", sum := "bf8af2780eeb56c6132050bc26d0ef4fc340638debc0d825e31296c05d13f0da", func := "barograph/barographlaw22.SweepHalf", spec := "sweepHalf", inPlace := ["internal/bytealg.IndexByteString", "internal/bytealg.IndexString", "maps.clone"], unfollowed := true, recurses := true, named := ["internal/bytealg.MaxLen"], apart := false }
def SweepHalfSaid : Prop := sweepHalfRow.holds Try.pinned (OpenSpec.ofChange sweepHalfSpec)

/-- ITS FALSE NEIGHBOUR: 'it returns false'. Refute it at one input. -/
def sweepHalfWrong : ChangeSpec := { name := "sweepHalf", fn := fun _ => fun
  | [d1, d2] => { results := [.lit (.bool false)], args := [d1, d2] }
  | _ => none }
def SweepHalfWrongFalsely : Prop := sweepHalfRow.holds Try.pinned (OpenSpec.ofChange sweepHalfWrong)

/-- 'barographlaw22.SweepYoung': WHATEVER THE INPUT: true; the input reads as it did. -/
def sweepYoungSpec : ChangeSpec := { name := "sweepYoung", fn := fun _ => fun
  | [d1, d2] => { results := [.lit (.bool true)], args := [d1, d2] }
  | _ => none }
def sweepYoungRow : OpenClaim := { program := "ytaccjmdljiignaa", sum := "bf8af2780eeb56c6132050bc26d0ef4fc340638debc0d825e31296c05d13f0da", func := "barograph/barographlaw22.SweepYoung", spec := "sweepYoung", inPlace := ["internal/bytealg.IndexByteString", "internal/bytealg.IndexString", "maps.clone"], unfollowed := true, recurses := true, named := ["internal/bytealg.MaxLen"], apart := false }
def SweepYoungSaid : Prop := sweepYoungRow.holds Try.pinned (OpenSpec.ofChange sweepYoungSpec)

/-- ITS FALSE NEIGHBOUR: 'it returns false'. Refute it at one input. -/
def sweepYoungWrong : ChangeSpec := { name := "sweepYoung", fn := fun _ => fun
  | [d1, d2] => { results := [.lit (.bool false)], args := [d1, d2] }
  | _ => none }
def SweepYoungWrongFalsely : Prop := sweepYoungRow.holds Try.pinned (OpenSpec.ofChange sweepYoungWrong)

/-- 'barographlaw22.SweepClean': WHATEVER THE INPUT: true; the input reads as it did. -/
def sweepCleanSpec : ChangeSpec := { name := "sweepClean", fn := fun _ => fun
  | [d1, d2] => { results := [.lit (.bool true)], args := [d1, d2] }
  | _ => none }
def sweepCleanRow : OpenClaim := { program := "ytaccjmdljiignaa", sum := "bf8af2780eeb56c6132050bc26d0ef4fc340638debc0d825e31296c05d13f0da", func := "barograph/barographlaw22.SweepClean", spec := "sweepClean", inPlace := ["internal/bytealg.IndexByteString", "internal/bytealg.IndexString", "maps.clone"], unfollowed := true, recurses := true, named := ["internal/bytealg.MaxLen"], apart := false }
def SweepCleanSaid : Prop := sweepCleanRow.holds Try.pinned (OpenSpec.ofChange sweepCleanSpec)

/-- ITS FALSE NEIGHBOUR: 'it returns false'. Refute it at one input. -/
def sweepCleanWrong : ChangeSpec := { name := "sweepClean", fn := fun _ => fun
  | [d1, d2] => { results := [.lit (.bool false)], args := [d1, d2] }
  | _ => none }
def SweepCleanWrongFalsely : Prop := sweepCleanRow.holds Try.pinned (OpenSpec.ofChange sweepCleanWrong)

/- THE SECOND FORM. 'bulk': how many values and letters a reading holds, each counted each time it is reached (what is shared counts as often as it is met; a slice's spare places count too). A statement '..UptoSaid' is the law's where the arguments, and the package variables that the reading takes, are together of bulk at most 1048576: NARROWER than '..Said'. Prove '..Said' where nothing that the law and all that it calls make is longer than what came in: it says more and counts as full. Else prove '..UptoSaid'. A law counts once. -/
mutual
def uptoBulk {H : Type} : DataW H → Nat
  | .lit (.string bytes) => bytes.length + 1
  | .lit _ => 1
  | .nil => 1
  | .ptr d => uptoBulk d + 1
  | .slice elems spare => uptoBulkAll elems + uptoBulkAll spare + 1
  | .agg parts => uptoBulkAll parts + 1
  | .iface _ d => uptoBulk d + 1
  | .map entries => uptoBulkEntries entries + 1
  | .held _ => 1
def uptoBulkAll {H : Type} : List (DataW H) → Nat
  | [] => 0
  | d :: r => uptoBulk d + uptoBulkAll r
def uptoBulkEntries {H : Type} : List (Lit × DataW H) → Nat
  | [] => 0
  | x :: r => uptoBulkEntry x + uptoBulkEntries r
def uptoBulkEntry {H : Type} : Lit × DataW H → Nat
  | (.string bytes, d) => bytes.length + uptoBulk d + 1
  | (_, d) => uptoBulk d + 1
 end
def uptoSmall : (H : Type) → List (DataW H) → Bool := fun _ ds => decide (uptoBulkAll ds ≤ 1048576)
def OpenSpec.upto (s : _root_.Go.ChangeSpec) : _root_.Go.OpenSpec := { _root_.Go.OpenSpec.ofChange s with cond := some uptoSmall }

/-- 'barographlaw10.ListingBack', WHERE WHAT IT READS IS OF BULK AT MOST 1048576: true; the input reads as it did. -/
def listingBackUptoRow : OpenClaim := { program := "ytaccjmdljiignaa", sum := "bf8af2780eeb56c6132050bc26d0ef4fc340638debc0d825e31296c05d13f0da", func := "barograph/barographlaw10.ListingBack", spec := "listingBack", inPlace := ["maps.clone", "internal/bytealg.abigen_runtime_cmpstring", "internal/bytealg.IndexByteString"], unfollowed := true, recurses := true, apart := false, narrowed := true }
def ListingBackUptoSaid : Prop := listingBackUptoRow.holds Try.pinned (OpenSpec.upto listingBackSpec)

/-- 'barographlaw10.ListingShows', WHERE WHAT IT READS IS OF BULK AT MOST 1048576: true; the input reads as it did. -/
def listingShowsUptoRow : OpenClaim := { program := "ytaccjmdljiignaa", sum := "bf8af2780eeb56c6132050bc26d0ef4fc340638debc0d825e31296c05d13f0da", func := "barograph/barographlaw10.ListingShows", spec := "listingShows", inPlace := ["maps.clone", "internal/bytealg.abigen_runtime_cmpstring", "internal/bytealg.IndexByteString"], unfollowed := true, recurses := true, apart := false, narrowed := true }
def ListingShowsUptoSaid : Prop := listingShowsUptoRow.holds Try.pinned (OpenSpec.upto listingShowsSpec)

/-- 'barographlaw10.ListingLive', WHERE WHAT IT READS IS OF BULK AT MOST 1048576: true; the input reads as it did. -/
def listingLiveUptoRow : OpenClaim := { program := "ytaccjmdljiignaa", sum := "bf8af2780eeb56c6132050bc26d0ef4fc340638debc0d825e31296c05d13f0da", func := "barograph/barographlaw10.ListingLive", spec := "listingLive", inPlace := ["maps.clone", "internal/bytealg.abigen_runtime_cmpstring", "internal/bytealg.IndexByteString"], unfollowed := true, recurses := true, apart := false, narrowed := true }
def ListingLiveUptoSaid : Prop := listingLiveUptoRow.holds Try.pinned (OpenSpec.upto listingLiveSpec)

/-- 'barographlaw22.SweepHalf', WHERE WHAT IT READS IS OF BULK AT MOST 1048576: true; the input reads as it did. -/
def sweepHalfUptoRow : OpenClaim := { program := "ytaccjmdljiignaa", sum := "bf8af2780eeb56c6132050bc26d0ef4fc340638debc0d825e31296c05d13f0da", func := "barograph/barographlaw22.SweepHalf", spec := "sweepHalf", inPlace := ["internal/bytealg.IndexByteString", "internal/bytealg.IndexString", "maps.clone"], unfollowed := true, recurses := true, named := ["internal/bytealg.MaxLen"], apart := false, narrowed := true }
def SweepHalfUptoSaid : Prop := sweepHalfUptoRow.holds Try.pinned (OpenSpec.upto sweepHalfSpec)

/-- 'barographlaw22.SweepYoung', WHERE WHAT IT READS IS OF BULK AT MOST 1048576: true; the input reads as it did. -/
def sweepYoungUptoRow : OpenClaim := { program := "ytaccjmdljiignaa", sum := "bf8af2780eeb56c6132050bc26d0ef4fc340638debc0d825e31296c05d13f0da", func := "barograph/barographlaw22.SweepYoung", spec := "sweepYoung", inPlace := ["internal/bytealg.IndexByteString", "internal/bytealg.IndexString", "maps.clone"], unfollowed := true, recurses := true, named := ["internal/bytealg.MaxLen"], apart := false, narrowed := true }
def SweepYoungUptoSaid : Prop := sweepYoungUptoRow.holds Try.pinned (OpenSpec.upto sweepYoungSpec)

/-- 'barographlaw22.SweepClean', WHERE WHAT IT READS IS OF BULK AT MOST 1048576: true; the input reads as it did. -/
def sweepCleanUptoRow : OpenClaim := { program := "ytaccjmdljiignaa", sum := "bf8af2780eeb56c6132050bc26d0ef4fc340638debc0d825e31296c05d13f0da", func := "barograph/barographlaw22.SweepClean", spec := "sweepClean", inPlace := ["internal/bytealg.IndexByteString", "internal/bytealg.IndexString", "maps.clone"], unfollowed := true, recurses := true, named := ["internal/bytealg.MaxLen"], apart := false, narrowed := true }
def SweepCleanUptoSaid : Prop := sweepCleanUptoRow.holds Try.pinned (OpenSpec.upto sweepCleanSpec)

end Rows
end Go.Proofs.Ytaccjmdljiignaa
