/-
  Arguments that are slices of numbers, opened, with their capacities.
  No condition beyond those that each theorem states.

  A law's argument: series, each a slice of pairs and a bool; opened.
  No condition beyond those that each theorem states.
-/
import Derived.Test.YtlifonflgcfafaaGreatDoorPostBase
import Derived.Test.YtlifonflgcfafaaGreatDoorSort6
import Derived.Test.YtlifonflgcfafaaGreatDoorLabel1
import Derived.Test.YtlifonflgcfafaaGreatDoorArgs
import Derived.Shelf.Vars
namespace Go.Proofs.YtlifonflgcfafaaGreatDoor
open Go Go.RowKit Go.ChangeShapes Go.WideShapes Go.Deep

def CapOk (v : Value) : Prop := ∃ a n c, v = .slice a n c ∧ n ≤ c ∧ (a = none → c = 0)
section
variable {H : Type} {e0 : TypeId × Value → H} {P : Program} {W : World} {r : Reach} {b0 : Nat} {t e : TypeId} {v : Value} {d : DataW H} {p : List MemPlace}
theorem open_cap (ht : P.underlying t = some (.slice e)) (hok : Value.okWide P W r b0 t v) (h : DataW.Trod e0 P W 0 (fun _ => true) true t v d p) : CapOk v := by
  obtain ⟨a0, len0, cap0, rfl⟩ := okWide_slice ht hok
  obtain ⟨fuel, hf⟩ := h
  rcases open_slice ht hf with ⟨hcs, _⟩ | ⟨a, len, cap, m, n, D, Pl, hcs, _, hl, hm, hmm, _, hi⟩
  · simp [Value.cells] at hcs
    obtain ⟨rfl, rfl, rfl⟩ := hcs
    exact ⟨_, _, _, rfl, Nat.le_refl _, fun _ => rfl⟩
  · simp [Value.cells] at hcs
    obtain ⟨rfl, rfl, rfl⟩ := hcs
    exact ⟨_, _, _, rfl, by omega, fun e => by cases e⟩
end
theorem SliceArg.from_ {α : Type} {size : Nat} {enc : α → List Value} {w : World} {v : Value} {L : List α} (h : SliceArg size enc w v L) (hc : CapOk v) : SliceFrom 0 size enc w v L := by
  obtain ⟨ao, cap, rfl, hl, hx⟩ := h
  obtain ⟨a, n, c, e, h1, h2⟩ := hc
  injection e with e1 e2 e3
  subst e1 e2 e3
  refine ⟨_, _, rfl, hl, h1, h2, fun i hi => ?_⟩
  obtain ⟨b, off, e, hb, hj⟩ := hx i hi
  exact ⟨b, off, e, Nat.zero_le _, hb, hj⟩

set_option maxRecDepth 100000 in
theorem open_intsP {H : Type} {e0 : TypeId × Value → H} {W : World} {r : Reach} {b0 : Nat} {v : Value} {d : DataW H} {p : List MemPlace} (hok : Value.okWide Tryz.prog W r b0 103 v) (h : DataW.Trod e0 Tryz.prog W 0 (fun _ => true) true 103 v d p) : ∃ zs : List Int, Ints 0 W v zs := by
  obtain ⟨zs, hz, -⟩ := open_intArg Tryz.underlying103 Tryz.underlying3 (by kernel_rfl) hok h
  exact ⟨zs, hz.from_ (open_cap Tryz.underlying103 hok h)⟩
section
variable {H : Type} {e0 : TypeId × Value → H} {P : Program} {W : World} {r : Reach} {b0 : Nat} {t e : TypeId}
/-- A slice of numbers, from its cells' reading. -/
theorem ints_of_trod (ht : P.underlying t = some (.slice e)) (he : P.underlying e = some (.int .i64)) (hc : P.cellsOf e = 1) {fuel : Nat} {u : Value} {x : DataW H × List MemPlace} (h : DataW.trod e0 P W 0 (fun _ => true) true fuel t [u] = some x) : ∃ zs : List Int, Ints 0 W u zs := by
  rcases open_slice ht h with ⟨hcs, _⟩ | ⟨a, len, cap, m, n, D, Pl, hcs, _, hl, hm, hmm, _, hi⟩
  · simp only [List.cons.injEq, and_true] at hcs
    subst hcs
    exact ⟨[], sliceFrom_nil _ _ _ _⟩
  · simp only [List.cons.injEq, and_true] at hcs
    subst hcs
    simp only [if_true] at hmm
    subst hmm
    obtain ⟨L, hL, -⟩ := sliceArg_of (w := W) (a := a) (len := len) (cap := m) (size := 1) (enc := fun n => [Value.int .i64 n]) (ok := fun _ => True) (by omega) (by omega) fun i hlt => by
      obtain ⟨cs', hc', ht'⟩ := hi i (by omega)
      rw [hc] at hc'
      obtain ⟨v, rfl, hv⟩ := cells1 hc'
      obtain ⟨s, hs, _, hsz⟩ := DataW.trod_int he ht'
      simp only [List.cons.injEq, and_true] at hs
      subst hs
      exact ⟨s, trivial, rfl, fun j hj => (by obtain rfl : j = 0 := (by omega); simpa using hv)⟩
    exact ⟨L, hL.from_ ⟨_, _, _, rfl, hl, fun e => by cases e⟩⟩
end
end Go.Proofs.YtlifonflgcfafaaGreatDoor

namespace Go.Proofs.YtlifonflgcfafaaGreatDoor
open Go Go.RowKit Go.ChangeShapes Go.WideShapes Go.Deep

section
variable {H : Type} {e0 : TypeId × Value → H} {P : Program} {W : World} {t e : TypeId}
/-- A slice of structs of one-cell fields that lies in a cell. -/
theorem structs_of_trod {α : Type} {fs : Array Field} (enc : α → List Value) (ht : P.underlying t = some (.slice e)) (he : P.underlying e = some (.struct fs))
    (hone : oneCellFields P fs = true) (hC : P.cellsOf e = fs.size) (hpos : 0 < fs.size)
    (hx : ∀ (us : List Value) (n : Nat), us.length = fs.size → (∀ (j : Nat) (f : Field), fs[j]? = some f → ∃ y u, us[j]? = some u ∧ DataW.trod e0 P W 0 (fun _ => true) true n f.type [u] = some y) → ∃ x : α, enc x = us)
    {fuel : Nat} {v : Value} {x : DataW H × List MemPlace} (hf : DataW.trod e0 P W 0 (fun _ => true) true fuel t [v] = some x) :
    ∃ L : List α, SliceArg fs.size enc W v L := by
  rcases open_slice ht hf with ⟨hcs, _⟩ | ⟨a, len, cap, m, n, D, Pl, hcs, _, hl, hm, hmm, _, hi⟩
  · simp only [List.cons.injEq, and_true] at hcs
    subst hcs
    exact ⟨[], ⟨_, _, rfl, by simp [maxLen], fun i hi => by simp at hi⟩⟩
  · simp only [List.cons.injEq, and_true] at hcs
    subst hcs
    simp only [if_true] at hmm
    subst hmm
    obtain ⟨L, hL, -⟩ := sliceArg_of (w := W) (a := a) (len := len) (cap := m) (size := fs.size) (enc := enc) (ok := fun _ => True) hpos (by omega) fun i hlt => by
      obtain ⟨cs', hc', ht'⟩ := hi i (by omega)
      rw [hC] at hc'
      obtain ⟨ys, n', hn', hy, hlen, hyl, hg⟩ := DataW.trod_struct he ht'
      obtain ⟨_, hcl, hat⟩ := World.cells?_some hc'
      obtain ⟨x, hxe⟩ := hx cs' n' hcl fun j f hj => by
        obtain ⟨ho, hk⟩ := hone_of hone j f hj
        have hjl : j < fs.size := (Array.getElem?_eq_some_iff.1 hj).1
        have h1 := hg j f hj
        rw [ho, hk] at h1
        have hone' : (cs'.drop j).take 1 = [cs'[j]'(by omega)] := by
          rw [List.drop_eq_getElem_cons (by omega)]
          rfl
        rw [hone'] at h1
        have hys : ys[j]? = some (ys[j]'(by omega)) := List.getElem?_eq_getElem (by omega)
        exact ⟨_, _, List.getElem?_eq_getElem (by omega), h1.trans hys⟩
      refine ⟨x, trivial, by rw [hxe, hcl], fun j hj => ?_⟩
      rw [hxe, ← Go.Deep.add_add]
      exact hat j hj
    exact ⟨L, hL⟩
end
def Ones12 (w : World) (v : Value) : Prop := ∃ XS : List (Value × Bool), SliceArg 2 encOne w v XS ∧ OnesOk w XS ∧ CapOk v


theorem libVar_of {w : World} (h : w.ShapedOpen Tryz.prog) : LibVar w :=
  Go.Proofs.cell_of_shapedOpen_int (zero := #[.int .i64 0]) (t := 3) h (of_decide_eq_true (by kernel_rfl)) (by kernel_rfl) rfl (by kernel_rfl) (by kernel_rfl) Tryz.underlying3
end Go.Proofs.YtlifonflgcfafaaGreatDoor
