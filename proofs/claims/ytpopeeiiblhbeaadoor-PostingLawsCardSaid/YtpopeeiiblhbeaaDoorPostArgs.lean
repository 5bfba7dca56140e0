/-
  Arguments that are slices of numbers, opened, with their capacities.
  No condition beyond those that each theorem states.
-/
import Derived.Test.YtpopeeiiblhbeaaDoorPostBase
namespace Go.Proofs.YtpopeeiiblhbeaaDoor
open Go Go.RowKit Go.ChangeShapes Go.WideShapes Go.Deep

def CapOk (v : Value) : Prop := ∃ a n c, v = .slice a n c ∧ n ≤ c ∧ (a = none → c = 0)
section
variable {H : Type} {e0 : TypeId × Value → H} {P : Program} {W : World} {r : Reach} {b0 : Nat} {t e : TypeId} {v : Value} {d : DataW H} {p : List MemPlace}
theorem open_cap (ht : P.underlying t = some (.slice e)) (hok : Value.okWide P W r b0 t v) (h : DataW.Trod e0 P W 0 (fun _ => true) true t v d p) : CapOk v := by
  obtain ⟨a0, len0, cap0, rfl⟩ := okWide_slice ht hok
  obtain ⟨fuel, hf⟩ := h
  rcases open_slice ht hf with ⟨hcs, _⟩ | ⟨a, len, cap, m, n, D, Pl, hcs, _, hl, hm, hmm, _, hi⟩
  · simp [Value.cells] at hcs
    obtain ⟨rfl, rfl, rfl⟩ := hcs
    exact ⟨_, _, _, rfl, Nat.le_refl _, fun _ => rfl⟩
  · simp [Value.cells] at hcs
    obtain ⟨rfl, rfl, rfl⟩ := hcs
    exact ⟨_, _, _, rfl, by omega, fun e => by cases e⟩
end
theorem SliceArg.from_ {α : Type} {size : Nat} {enc : α → List Value} {w : World} {v : Value} {L : List α} (h : SliceArg size enc w v L) (hc : CapOk v) : SliceFrom 0 size enc w v L := by
  obtain ⟨ao, cap, rfl, hl, hx⟩ := h
  obtain ⟨a, n, c, e, h1, h2⟩ := hc
  injection e with e1 e2 e3
  subst e1 e2 e3
  refine ⟨_, _, rfl, hl, h1, h2, fun i hi => ?_⟩
  obtain ⟨b, off, e, hb, hj⟩ := hx i hi
  exact ⟨b, off, e, Nat.zero_le _, hb, hj⟩

set_option maxRecDepth 100000 in
theorem open_intsP {H : Type} {e0 : TypeId × Value → H} {W : World} {r : Reach} {b0 : Nat} {v : Value} {d : DataW H} {p : List MemPlace} (hok : Value.okWide Tryd.prog W r b0 32 v) (h : DataW.Trod e0 Tryd.prog W 0 (fun _ => true) true 32 v d p) : ∃ zs : List Int, Ints 0 W v zs := by
  obtain ⟨zs, hz, -⟩ := open_intArg Tryd.underlying32 Tryd.underlying3 (by kernel_rfl) hok h
  exact ⟨zs, hz.from_ (open_cap Tryd.underlying32 hok h)⟩
end Go.Proofs.YtpopeeiiblhbeaaDoor
