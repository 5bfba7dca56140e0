/-
  SweepDeletes: its arguments opened.
  No condition: every input that can be read.
-/
import Derived.Test.YtbndpegilpgheaaGreatDelWalk
import Derived.Laws.IdiomArrays
namespace Go.Proofs.YtbndpegilpgheaaGreat
open Go Go.RowKit Go.Conc Go.ChangeShapes Go.WideShapes Go.Deep

set_option maxRecDepth 100000 in
theorem open_cfg {H : Type} {e0 : TypeId × Value → H} {W : World} {r : Reach} {b0 : Nat} {v : Value} {d : DataW H} {p : List MemPlace} (hok : Value.okWide Tryz.prog W r b0 62 v) (h : DataW.Trod e0 Tryz.prog W 0 (fun _ => true) true 62 v d p) :
    ∃ c0 c1 c2 : Int, v = .agg #[.int .i64 c0, .int .i64 c1, .int .i64 c2] := by
  simp only [Value.okWide, Tryz.underlying62] at hok
  obtain ⟨cs, rfl, h2, _⟩ := hok
  have h3 : cs.size = 3 := by rw [h2]; kernel_rfl
  obtain ⟨fuel, hf⟩ := h
  obtain ⟨l⟩ := cs
  match l, h3 with
  | [y0, y1, y2], _ =>
    obtain ⟨z0, z1, z2, m, _, g0, g1, g2⟩ := trod_array3 (c0 := y0) (c1 := y1) (c2 := y2) Tryz.underlying62 (by kernel_rfl) hf
    obtain ⟨n0, e0', _, _⟩ := DataW.trod_int Tryz.underlying3 g0
    obtain ⟨n1, e1, _, _⟩ := DataW.trod_int Tryz.underlying3 g1
    obtain ⟨n2, e2, _, _⟩ := DataW.trod_int Tryz.underlying3 g2
    simp only [List.cons.injEq, and_true] at e0' e1 e2
    subst e0' e1 e2
    exact ⟨n0, n1, n2, rfl⟩


theorem sweepDeletes_law (W : World) (hv : LibVar W) (v0 : Value) (h0 : ∃ L : List OneS, SliceArg 6 encOne W v0 L ∧ ∀ x ∈ L, True) (v1 : Value) (h1 : ∃ zs : List Int, SliceArg 1 (fun n => [Value.int .i64 n]) W v1 zs ∧ ∀ n ∈ zs, -9223372036854775808 ≤ n ∧ n ≤ 9223372036854775807)
    (v2 : Value) (h2 : ∃ c0 c1 c2 : Int, v2 = .agg #[.int .i64 c0, .int .i64 c1, .int .i64 c2]) (v3 : Value) (h3 : ∃ zs : List Int, SliceArg 1 (fun n => [Value.int .i64 n]) W v3 zs ∧ ∀ n ∈ zs, -9223372036854775808 ≤ n ∧ n ≤ 9223372036854775807)
    (v4 : Value) (h4 : ∃ zs : List Int, SliceArg 1 (fun n => [Value.int .i64 n]) W v4 zs ∧ ∀ n ∈ zs, -9223372036854775808 ≤ n ∧ n ≤ 9223372036854775807) :
    Calls Tryz.prog 5 #[v0, v1, v2, v3, v4] W fun e w' => e = .returned (.bool true) ∧ Keeps [] W w' := by
  obtain ⟨L, hs, _⟩ := h0
  obtain ⟨L1, hs1, _⟩ := h1
  obtain ⟨c0, c1, c2, rfl⟩ := h2
  obtain ⟨L3, hs3, _⟩ := h3
  obtain ⟨L4, hs4, _⟩ := h4
  exact sweepDeletes_walk W hv v0 v1 v3 v4 L L1 L3 L4 hs hs1 hs3 hs4 c0 c1 c2
end Go.Proofs.YtbndpegilpgheaaGreat
