/-
  A round of a sweep when nothing fails (barographlaw22.round).
  The bucket's objects are parts of blocks, ticks are small.
-/
import Derived.Test.YtbndpegilpgheaaGreatSweepRnd
namespace Go.Proofs.YtbndpegilpgheaaGreat
open Go Go.RowKit

def RoundPost (w0 w : World) (b f c mb B p : Nat) (cfg : Int × Int × Int) (now g0 : Int) (o : Bkt) (e : Ending) (w' : World) : Prop :=
  ∃ n : Nat, e = .returned (.int .i64 n) ∧ ∃ q gb, SweepAt w' B p q gb (stC cfg now g0 o (victR cfg now o).length) ∧ BucketAt w' b f c mb false [] (delAll o (victR cfg now o)) ∧ Keeps [] w0 w' ∧ Keeps [f, c, mb, p] w w'

def RoundRel (w0 w : World) (b f c mb B p q gb : Nat) (cfg : Int × Int × Int) (now g0 : Int) (o : Bkt) (gk : Nat) (u : Value) (wr : World) : Prop :=
  ∃ i Z o1, i ≤ 100 ∧ gk = 100 - i ∧ u = .int .i64 i ∧ Rnd cfg now g0 o i Z o1 ∧ SweepAt wr B p q gb Z ∧ BucketAt wr b f c mb false [] o1 ∧ Keeps [] w0 wr ∧ Keeps [f, c, mb, p] w wr


end Go.Proofs.YtbndpegilpgheaaGreat
