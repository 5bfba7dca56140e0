/-
  SweepYoung: its arguments opened.
  No condition: every input that can be read.
-/
import Derived.Test.YtaccjmdljiignaaSweepYoung
namespace Go.Proofs.Ytaccjmdljiignaa
open Go Go.RowKit Go.Conc Go.ChangeShapes Go.WideShapes Go.Deep

set_option maxRecDepth 100000 in
theorem open_oneS {H : Type} {e0 : TypeId × Value → H} {W : World} {r : Reach} {b0 : Nat} {v : Value} {d : DataW H} {p : List MemPlace} (hok : Value.okWide Try.prog W r b0 68 v) (h : DataW.Trod e0 Try.prog W 0 (fun _ => true) true 68 v d p) :
    ∃ L : List OneS, SliceArg 6 encOne W v L ∧ ∀ x ∈ L, True := by
  refine open_structArg (fs := _) encOne (fun _ _ => True) Try.underlying68 Try.underlying126 (by kernel_rfl) (by kernel_rfl) (Nat.zero_lt_succ _) ?_ hok h
  intro us n hl hf
  obtain ⟨y0, u0, g0, h0⟩ := hf 0 _ rfl
  obtain ⟨y1, u1, g1, h1⟩ := hf 1 _ rfl
  obtain ⟨y2, u2, g2, h2⟩ := hf 2 _ rfl
  obtain ⟨y3, u3, g3, h3⟩ := hf 3 _ rfl
  obtain ⟨y4, u4, g4, h4⟩ := hf 4 _ rfl
  obtain ⟨y5, u5, g5, h5⟩ := hf 5 _ rfl
  obtain ⟨n0, e0', _, _⟩ := DataW.trod_int Try.underlying3 h0
  obtain ⟨n1, e1, _, _⟩ := DataW.trod_int Try.underlying3 h1
  obtain ⟨n2, e2, _, _⟩ := DataW.trod_int Try.underlying3 h2
  obtain ⟨n3, e3, _, _⟩ := DataW.trod_int Try.underlying3 h3
  obtain ⟨n4, e4, _, _⟩ := DataW.trod_int Try.underlying3 h4
  obtain ⟨b5, e5, _⟩ := DataW.trod_bool Try.underlying4 h5
  simp only [List.cons.injEq, and_true] at e0' e1 e2 e3 e4 e5
  subst e0' e1 e2 e3 e4 e5
  refine ⟨⟨n0, n1, n2, n3, n4, b5⟩, trivial, ?_⟩
  match us, hl with
  | [a0, a1, a2, a3, a4, a5], _ =>
    simp only [List.getElem?_cons_zero, List.getElem?_cons_succ, Option.some.injEq] at g0 g1 g2 g3 g4 g5
    subst g0 g1 g2 g3 g4 g5
    rfl


theorem sweepYoung_law (W : World) (hv : LibVar W) (v0 : Value) (h0 : ∃ L : List OneS, SliceArg 6 encOne W v0 L ∧ ∀ x ∈ L, True) (n : Int) (_ : (Lit.int .i64 n).wf = true) :
    Calls Try.prog 7 #[v0, .int .i64 n] W fun e w' => e = .returned (.bool true) ∧ Keeps [] W w' := by
  obtain ⟨L, hs, _⟩ := h0
  exact sweepYoung_walk W hv v0 L hs n

end Go.Proofs.Ytaccjmdljiignaa
