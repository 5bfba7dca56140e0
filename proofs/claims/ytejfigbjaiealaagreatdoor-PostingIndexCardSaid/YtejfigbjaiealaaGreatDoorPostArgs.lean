/-
  Arguments that are slices of numbers, opened, with their capacities.
  No condition beyond those that each theorem states.
-/
import Derived.Test.YtejfigbjaiealaaGreatDoorPostBase
namespace Go.Proofs.YtejfigbjaiealaaGreatDoor
open Go Go.RowKit Go.ChangeShapes Go.WideShapes Go.Deep

def CapOk (v : Value) : Prop := ∃ a n c, v = .slice a n c ∧ n ≤ c ∧ (a = none → c = 0)
section
variable {H : Type} {e0 : TypeId × Value → H} {P : Program} {W : World} {r : Reach} {b0 : Nat} {t e : TypeId} {v : Value} {d : DataW H} {p : List MemPlace}
theorem open_cap (ht : P.underlying t = some (.slice e)) (hok : Value.okWide P W r b0 t v) (h : DataW.Trod e0 P W 0 (fun _ => true) true t v d p) : CapOk v := by
  obtain ⟨a0, len0, cap0, rfl⟩ := okWide_slice ht hok
  obtain ⟨fuel, hf⟩ := h
  rcases open_slice ht hf with ⟨hcs, _⟩ | ⟨a, len, cap, m, n, D, Pl, hcs, _, hl, hm, hmm, _, hi⟩
  · simp [Value.cells] at hcs
    obtain ⟨rfl, rfl, rfl⟩ := hcs
    exact ⟨_, _, _, rfl, Nat.le_refl _, fun _ => rfl⟩
  · simp [Value.cells] at hcs
    obtain ⟨rfl, rfl, rfl⟩ := hcs
    exact ⟨_, _, _, rfl, by omega, fun e => by cases e⟩
end
theorem SliceArg.from_ {α : Type} {size : Nat} {enc : α → List Value} {w : World} {v : Value} {L : List α} (h : SliceArg size enc w v L) (hc : CapOk v) : SliceFrom 0 size enc w v L := by
  obtain ⟨ao, cap, rfl, hl, hx⟩ := h
  obtain ⟨a, n, c, e, h1, h2⟩ := hc
  injection e with e1 e2 e3
  subst e1 e2 e3
  refine ⟨_, _, rfl, hl, h1, h2, fun i hi => ?_⟩
  obtain ⟨b, off, e, hb, hj⟩ := hx i hi
  exact ⟨b, off, e, Nat.zero_le _, hb, hj⟩

set_option maxRecDepth 100000 in
theorem open_intsP {H : Type} {e0 : TypeId × Value → H} {W : World} {r : Reach} {b0 : Nat} {v : Value} {d : DataW H} {p : List MemPlace} (hok : Value.okWide Tryz.prog W r b0 28 v) (h : DataW.Trod e0 Tryz.prog W 0 (fun _ => true) true 28 v d p) : ∃ zs : List Int, Ints 0 W v zs := by
  obtain ⟨zs, hz, -⟩ := open_intArg Tryz.underlying28 Tryz.underlying3 (by kernel_rfl) hok h
  exact ⟨zs, hz.from_ (open_cap Tryz.underlying28 hok h)⟩
section
variable {H : Type} {e0 : TypeId × Value → H} {P : Program} {W : World} {r : Reach} {b0 : Nat} {t e : TypeId}
/-- A slice of numbers, from its cells' reading. -/
theorem ints_of_trod (ht : P.underlying t = some (.slice e)) (he : P.underlying e = some (.int .i64)) (hc : P.cellsOf e = 1) {fuel : Nat} {u : Value} {x : DataW H × List MemPlace} (h : DataW.trod e0 P W 0 (fun _ => true) true fuel t [u] = some x) : ∃ zs : List Int, Ints 0 W u zs := by
  rcases open_slice ht h with ⟨hcs, _⟩ | ⟨a, len, cap, m, n, D, Pl, hcs, _, hl, hm, hmm, _, hi⟩
  · simp only [List.cons.injEq, and_true] at hcs
    subst hcs
    exact ⟨[], sliceFrom_nil _ _ _ _⟩
  · simp only [List.cons.injEq, and_true] at hcs
    subst hcs
    simp only [if_true] at hmm
    subst hmm
    obtain ⟨L, hL, -⟩ := sliceArg_of (w := W) (a := a) (len := len) (cap := m) (size := 1) (enc := fun n => [Value.int .i64 n]) (ok := fun _ => True) (by omega) (by omega) fun i hlt => by
      obtain ⟨cs', hc', ht'⟩ := hi i (by omega)
      rw [hc] at hc'
      obtain ⟨v, rfl, hv⟩ := cells1 hc'
      obtain ⟨s, hs, _, hsz⟩ := DataW.trod_int he ht'
      simp only [List.cons.injEq, and_true] at hs
      subst hs
      exact ⟨s, trivial, rfl, fun j hj => (by obtain rfl : j = 0 := (by omega); simpa using hv)⟩
    exact ⟨L, hL.from_ ⟨_, _, _, rfl, hl, fun e => by cases e⟩⟩
end
end Go.Proofs.YtejfigbjaiealaaGreatDoor
