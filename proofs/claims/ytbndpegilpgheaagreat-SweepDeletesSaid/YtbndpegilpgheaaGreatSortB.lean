/-
  slices.Sort on a slice of strings of the walk's own.
  No condition beyond those that each theorem states.
-/
import Derived.Test.YtbndpegilpgheaaGreatKeys
import Derived.Test.YtbndpegilpgheaaGreatShelf
import Derived.Sort.OwnSorted
namespace Go.Proofs.YtbndpegilpgheaaGreat
open Go Go.RowKit Go.Sort

def SortPost (w : World) (base : Nat) (v : Value) (N : List ByteArray) (e : Ending) (w' : World) : Prop :=
  e = .returned (.tuple #[]) ∧ w'.ownsRow base 9 1 v N.length ((sortB N).map Value.string) ∧ w.grownBy w' v.ownBlock

theorem sort_spec (w : World) (base : Nat) (v : Value) (N : List ByteArray) (h : w.ownsRow base 9 1 v N.length (N.map Value.string)) (hl : N.length < 4611686018427387904) :
    Calls Tryz.prog 55 #[v] w (SortPost w base v N) := by
  have h' := h
  obtain ⟨_, ⟨rfl, hn⟩ | ⟨g, cap, cur, rfl, hbase, hb, h1, h2, h3, h4⟩⟩ := h
  · refine (Tryz.slices_Sort_string_none none 0 w).mono ?_
    rintro e w' ⟨rfl, rfl⟩
    have : N = [] := List.eq_nil_of_length_eq_zero hn
    subst this
    exact ⟨rfl, by simpa [sortB] using h', ⟨rfl, rfl, rfl, Nat.le_refl _, fun _ _ _ => rfl⟩⟩
  · have e1 : N.map Value.string = (N.map (·.data.toList)).map encStr := by
      rw [List.map_map]
      rfl
    have e2 : (sortB N).map Value.string = ((N.map (·.data.toList)).mergeSort fun x y => decide (x ≤ y)).map encStr := by
      unfold sortB
      rw [List.map_map]
      rfl
    have hlen : (N.map (·.data.toList)).length = N.length := List.length_map _
    have hc := Tryz.slices_Sort_string g 0 cap (N.map (·.data.toList)) w (holds_of_block hb (by rw [← e1, hlen]; simpa using h4)) (lt_of_at hb) (by rw [hlen]; exact hl)
    rw [hlen] at hc
    refine hc.mono ?_
    rintro e w' ⟨rfl, n, os, rfl⟩
    have hs := ownsRow_sorted (w := w) (base := base) (g := g) (cap := cap) (n := n) (e := 9) (os := os) (cur := cur) (ss := N.map (·.data.toList)) (ts := (N.map (·.data.toList)).mergeSort fun x y => decide (x ≤ y)) (by simp) hbase hb (by rw [hlen]; exact h1) h2 h3
    rw [hlen] at hs
    refine ⟨rfl, ?_, grownBy_sorted _⟩
    rw [e2]
    exact hs
end Go.Proofs.YtbndpegilpgheaaGreat
