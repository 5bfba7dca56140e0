/-
  An argument that is a slice of blocks (package barographlaw10), opened.
  No condition beyond those that each theorem states.
-/
import Derived.Test.YthlmlneiehijkaaBlkLaw
namespace Go.Proofs.Ythlmlneiehijkaa
open Go Go.RowKit Go.ChangeShapes Go.WideShapes Go.Deep

section
variable {H : Type} {e0 : TypeId × Value → H} {P : Program} {W : World} {sp : Nat → Bool} {held : Bool} {b0 : Nat} {t e : TypeId}
theorem trod_sliceForm {fuel : Nat} {u : Value} {x : DataW H × List MemPlace} (ht : P.underlying t = some (.slice e)) (h : DataW.trod e0 P W b0 sp held fuel t [u] = some x) : ∃ a n c, u = .slice a n c := by
  rcases DataW.trod_slice ht h with ⟨hcs, _⟩ | ⟨a, len, cap, _, _, _, _, hcs, _⟩
  · simp only [List.cons.injEq, and_true] at hcs
    exact ⟨_, _, _, hcs⟩
  · simp only [List.cons.injEq, and_true] at hcs
    exact ⟨_, _, _, hcs⟩

theorem trod_field {fs : Array Field} {fuel : Nat} {cs : List Value} {x : DataW H × List MemPlace} (ht : P.underlying t = some (.struct fs)) (h : DataW.trod e0 P W b0 sp held fuel t cs = some x) : ∃ n, ∀ (i : Nat) (f : Field), fs[i]? = some f → ∃ y, DataW.trod e0 P W b0 sp held n f.type ((cs.drop f.offset).take (P.cellsOf f.type)) = some y := by
  obtain ⟨ys, n, _, _, _, hl, hg⟩ := DataW.trod_struct ht h
  refine ⟨n, fun i f hf => ?_⟩
  have hlt : i < ys.length := by rw [hl]; exact (Array.getElem?_eq_some_iff.1 hf).1
  exact ⟨ys[i], by rw [hg i f hf, List.getElem?_eq_getElem hlt]⟩
end
set_option maxRecDepth 100000 in
theorem open_one10 {H : Type} {e0 : TypeId × Value → H} {W : World} {r : Reach} {b0 : Nat} {v : Value} {d : DataW H} {p : List MemPlace} (hok : Value.okWide Try.prog W r b0 22 v) (h : DataW.Trod e0 Try.prog W 0 (fun _ => true) true 22 v d p) :
    ∃ L : List OneL, SliceArg 11 encOneL W v L ∧ ∀ x ∈ L, True := by
  obtain ⟨a0, len0, cap0, rfl⟩ := okWide_slice Try.underlying22 hok
  obtain ⟨fuel, hf⟩ := h
  have hC : Try.prog.cellsOf 66 = 11 := by kernel_rfl
  have hCM : Try.prog.cellsOf 56 = 8 := by kernel_rfl
  have hCi : Try.prog.cellsOf 3 = 1 := by kernel_rfl
  have hC64 : Try.prog.cellsOf 2 = 1 := by kernel_rfl
  have hCs : Try.prog.cellsOf 9 = 1 := by kernel_rfl
  have hCf : Try.prog.cellsOf 54 = 1 := by kernel_rfl
  have hCt : Try.prog.cellsOf 49 = 1 := by kernel_rfl
  rcases open_slice Try.underlying22 hf with ⟨hcs, _⟩ | ⟨a, len, cap, m, n, D, Pl, hcs, _, hl, hm, hmm, _, hi⟩
  · simp [Value.cells] at hcs
    obtain ⟨rfl, rfl, rfl⟩ := hcs
    exact ⟨[], ⟨_, _, rfl, by simp [maxLen], fun i hi => by simp at hi⟩, by simp⟩
  · simp [Value.cells] at hcs
    obtain ⟨rfl, rfl, rfl⟩ := hcs
    simp only [if_true] at hmm
    subst hmm
    refine sliceArg_of (by omega) (by omega) fun i hlt => ?_
    obtain ⟨cs', hc', ht'⟩ := hi i (by omega)
    rw [hC] at hc'
    obtain ⟨_, hcl, hat⟩ := World.cells?_some hc'
    obtain ⟨n1, hg⟩ := trod_field Try.underlying66 ht'
    obtain ⟨y0, h0⟩ := hg 0 _ rfl
    obtain ⟨y1, h1⟩ := hg 1 _ rfl
    obtain ⟨y2, h2⟩ := hg 2 _ rfl
    obtain ⟨y3, h3⟩ := hg 3 _ rfl
    simp only [List.getElem_toArray, List.getElem_cons_zero, List.getElem_cons_succ] at h0 h1 h2 h3
    simp only [hCM] at h0
    simp only [hCi] at h1 h2 h3
    match cs', hcl with
    | [c0, c1, c2, c3, c4, c5, c6, c7, c8, c9, c10], _ =>
      simp only [List.drop_zero, List.drop_succ_cons, List.take_succ_cons, List.take_zero] at h0 h1 h2 h3
      obtain ⟨n2, hm⟩ := trod_field Try.underlying56 h0
      obtain ⟨z0, m0⟩ := hm 0 _ rfl
      obtain ⟨z1, m1⟩ := hm 1 _ rfl
      obtain ⟨z2, m2⟩ := hm 2 _ rfl
      obtain ⟨z3, m3⟩ := hm 3 _ rfl
      obtain ⟨z4, m4⟩ := hm 4 _ rfl
      obtain ⟨z5, m5⟩ := hm 5 _ rfl
      obtain ⟨z6, m6⟩ := hm 6 _ rfl
      obtain ⟨z7, m7⟩ := hm 7 _ rfl
      simp only [List.getElem_toArray, List.getElem_cons_zero, List.getElem_cons_succ] at m0 m1 m2 m3 m4 m5 m6 m7
      simp only [hCs, hCi, hC64, hCf, hCt, List.drop_zero, List.drop_succ_cons, List.take_succ_cons, List.take_zero] at m0 m1 m2 m3 m4 m5 m6 m7
      obtain ⟨s0, e0', _, _⟩ := DataW.trod_string Try.underlying9 m0
      obtain ⟨i1, e1, _, _⟩ := DataW.trod_int Try.underlying2 m1
      obtain ⟨i2, e2, _, _⟩ := DataW.trod_int Try.underlying2 m2
      obtain ⟨i3, e3, _, _⟩ := DataW.trod_int Try.underlying3 m3
      obtain ⟨i4, e4, _, _⟩ := DataW.trod_int Try.underlying3 m4
      obtain ⟨i5, e5, _, _⟩ := DataW.trod_int Try.underlying3 m5
      obtain ⟨fa, fn, fc, e6⟩ := trod_sliceForm Try.underlying54 m6
      obtain ⟨sa, sn, sc, e7⟩ := trod_sliceForm Try.underlying49 m7
      obtain ⟨i8, e8, _, _⟩ := DataW.trod_int Try.underlying3 h1
      obtain ⟨i9, e9, _, _⟩ := DataW.trod_int Try.underlying3 h2
      obtain ⟨i10, e10, _, _⟩ := DataW.trod_int Try.underlying3 h3
      simp only [List.cons.injEq, and_true] at e0' e1 e2 e3 e4 e5 e8 e9 e10
      subst e0' e1 e2 e3 e4 e5 e6 e7 e8 e9 e10
      refine ⟨⟨⟨s0, i1, i2, i3, i4, i5, fa, fn, fc, sa, sn, sc⟩, i8, i9, i10⟩, trivial, rfl, fun j hj => ?_⟩
      rw [← Go.Deep.add_add]
      exact hat j hj

def CapOk (v : Value) : Prop := ∃ a n c, v = .slice a n c ∧ n ≤ c

set_option maxRecDepth 100000 in
theorem open_one10c {H : Type} {e0 : TypeId × Value → H} {W : World} {r : Reach} {b0 : Nat} {v : Value} {d : DataW H} {p : List MemPlace} (hok : Value.okWide Try.prog W r b0 22 v) (h : DataW.Trod e0 Try.prog W 0 (fun _ => true) true 22 v d p) :
    ∃ L : List OneL, SliceArg 11 encOneL W v L ∧ CapOk v := by
  obtain ⟨L, hL, _⟩ := open_one10 hok h
  refine ⟨L, hL, ?_⟩
  obtain ⟨a0, len0, cap0, rfl⟩ := okWide_slice Try.underlying22 hok
  obtain ⟨fuel, hf⟩ := h
  rcases open_slice Try.underlying22 hf with ⟨hcs, _⟩ | ⟨a, len, cap, m, n, D, Pl, hcs, _, hl, hm, hmm, _, hi⟩
  · simp [Value.cells] at hcs
    obtain ⟨rfl, rfl, rfl⟩ := hcs
    exact ⟨_, _, _, rfl, Nat.le_refl _⟩
  · simp [Value.cells] at hcs
    obtain ⟨rfl, rfl, rfl⟩ := hcs
    exact ⟨_, _, _, rfl, by omega⟩
end Go.Proofs.Ythlmlneiehijkaa
