/-
  The document's fuse (barographref04.Try): over a list of faults that reads as the queue does.
  Each contract holds in every world in which the list can be read; old memory is left as it was.
-/
import Derived.Test.YtaebpbkiaihhdaaGreatDoorFuse
import Derived.Test.YtaebpbkiaihhdaaGreatDoorArgs
import Derived.OwnWalk
import Derived.Lib.SmallJoins
import Derived.Lib.OwnKind
import Derived.OneCell
import Derived.Deep.RegionLaw
import Derived.BigRegion
namespace Go.Proofs.YtaebpbkiaihhdaaGreatDoor
open Go Go.RowKit Go.ChangeShapes Go.WideShapes Go.Deep

/-- Cell i of the j-th part. -/
theorem flat_ix {α : Type} (enc : α → List Value) (s : Nat) (hs : ∀ x, (enc x).length = s) : ∀ (L : List α) (j : Nat) (hj : j < L.length) (i : Nat), i < s → (L.flatMap enc)[j * s + i]? = (enc L[j])[i]?
  | [], j, hj, _, _ => by simp at hj
  | x :: L, 0, _, i, hi => by
    simp only [List.flatMap_cons, Nat.zero_mul, Nat.zero_add, List.getElem_cons_zero]
    exact List.getElem?_append_left (by rw [hs]; exact hi)
  | x :: L, j + 1, hj, i, hi => by
    have ih := flat_ix enc s hs L j (by simpa using hj) i hi
    simp only [List.flatMap_cons, List.getElem_cons_succ]
    rw [List.getElem?_append_right (by rw [hs, Nat.add_mul]; omega), hs, show (j + 1) * s + i - s = j * s + i from by rw [Nat.add_mul]; omega]
    exact ih

theorem flat_len {α : Type} (enc : α → List Value) (s : Nat) (hs : ∀ x, (enc x).length = s) : ∀ L : List α, (L.flatMap enc).length = L.length * s
  | [] => by simp
  | x :: L => by
    simp only [List.flatMap_cons, List.length_append, List.length_cons, hs, flat_len enc s hs L]
    rw [Nat.add_mul, Nat.one_mul, Nat.add_comm]

/-- What the walk owns reads as a slice that came in. -/
theorem arg_of_row {α : Type} {size base : Nat} {enc : α → List Value} {w : World} {e : TypeId} {v : Value} {L : List α} (hs : ∀ x, (enc x).length = size)
    (h : w.ownsRow base e size v L.length (L.flatMap enc)) : SliceArg size enc w v L := by
  obtain ⟨ao, cap, rfl, h1, h2, h3⟩ := row_slice h
  by_cases h0 : size = 0
  · refine ⟨ao, cap, rfl, by omega, fun i hi => ?_⟩
    subst h0
    obtain ⟨_, ⟨hv, hn⟩ | ⟨g, cap', cur, hv, hg1, hg2, _⟩⟩ := h
    · omega
    · injection hv with e1 e2 e3
      exact ⟨g, 0, e1, lt_of_at hg2, fun j hj => by omega⟩
  · refine ⟨ao, cap, rfl, by omega, fun i hi => ?_⟩
    obtain ⟨g, hg, _, hg2, _⟩ := h3 (i * size) (Nat.mul_lt_mul_of_pos_right hi (by omega))
    refine ⟨g, 0, hg, hg2, fun j hj => ?_⟩
    have hlt : i * size + j < L.length * size := by
      have : (i + 1) * size ≤ L.length * size := Nat.mul_le_mul_right _ hi
      rw [Nat.add_mul] at this
      omega
    obtain ⟨g', hg', _, _, hc⟩ := h3 (i * size + j) hlt
    rw [hg] at hg'
    injection hg' with hg'
    injection hg' with hg'
    subst hg'
    rw [Nat.zero_add, hc, flat_ix enc size hs L i hi j hj]


theorem SliceArg.len {α : Type} {size : Nat} {enc : α → List Value} {w : World} {v : Value} {L : List α} (h : SliceArg size enc w v L) : L.length ≤ maxLen := by
  obtain ⟨_, _, _, h, _⟩ := h
  exact h

theorem sliceArg_nil {α : Type} (size : Nat) (enc : α → List Value) (w : World) : SliceArg size enc w (.slice none 0 0) ([] : List α) := ⟨none, 0, rfl, by simp [maxLen], fun i hi => by simp at hi⟩


def encFo (x : Int × Bool) : List Value := [.int .i64 x.1, .bool x.2]

/-- A slice's value: its length is within its capacity; nil has none. -/
def SlOk (s : Value) : Prop := ∃ ao n cap, s = .slice ao n cap ∧ n ≤ cap ∧ (ao = none → cap = 0)

theorem slOk_row {base size : Nat} {w : World} {e : TypeId} {v : Value} {n : Nat} {xs : List Value} (h : w.ownsRow base e size v n xs) : SlOk v := by
  obtain ⟨_, ⟨rfl, _⟩ | ⟨g, cap, cur, rfl, _, _, h3, _⟩⟩ := h
  · exact ⟨none, 0, 0, rfl, Nat.le_refl _, fun _ => rfl⟩
  · exact ⟨_, _, _, rfl, h3, fun h => by cases h⟩

/-- The block of a slice that is not empty is a row of the type e. -/
def Typed (w : World) (e : TypeId) (v : Value) : Prop := ∀ b n c, v = .slice (some b) n c → 0 < n → ∃ cs fz, w.heap[b.block]? = some (.cells cs e fz)




theorem typed_row {base size : Nat} {w : World} {e : TypeId} {v : Value} {n : Nat} {xs : List Value} (h : w.ownsRow base e size v n xs) : Typed w e v := by
  intro b m c hv hm
  obtain ⟨_, ⟨rfl, _⟩ | ⟨g, cap, cur, rfl, _, h2, _⟩⟩ := h
  · cases hv
  · injection hv with e1 e2 e3
    injection e1 with e1
    subst e1
    exact ⟨_, _, h2⟩



theorem enc1 (L : List (Int × Bool)) : ∀ u ∈ L.flatMap encFo, u.oneCell' = true := by
  intro u hu
  simp only [List.mem_flatMap, encFo, List.mem_cons, List.not_mem_nil, or_false] at hu
  obtain ⟨x, _, rfl | rfl⟩ := hu <;> rfl

/-- The cells of a slice that came in, as an append's source. -/
theorem SliceArg.src {α : Type} {size : Nat} {enc : α → List Value} {w w' : World} {b off n cap : Nat} {L : List α} (hs : ∀ x, (enc x).length = size) (h : SliceArg size enc w (.slice (some ⟨b, off, none⟩) n cap) L) (k : ∀ i, w'.cell? ⟨b, i, none⟩ = w.cell? ⟨b, i, none⟩) :
    ∀ j u, (L.flatMap enc)[j]? = some u → w'.cell? ((⟨b, off, none⟩ : Addr).add j) = some u := by
  obtain ⟨ao, cp, he, _, hc⟩ := h
  injection he with e1 e2 e3
  subst e1 e2 e3
  intro j u hu
  have hj : j < (L.flatMap enc).length := (List.getElem?_eq_some_iff.1 hu).1
  rw [flat_len enc size hs] at hj
  have hs0 : 0 < size := by
    rcases Nat.eq_zero_or_pos size with h | h
    · subst h; simp at hj
    · exact h
  have hi : j / size < L.length := Nat.div_lt_of_lt_mul (by rwa [Nat.mul_comm] at hj)
  have hm : j % size < size := Nat.mod_lt _ hs0
  obtain ⟨b', off', he, _, hc'⟩ := hc (j / size) hi
  injection he with he
  injection he with e1 e2
  subst e1 e2
  have h1 := hc' (j % size) hm
  have h2 : j / size * size + j % size = j := by have := Nat.div_add_mod j size; rw [Nat.mul_comm] at this; exact this
  have h3 := flat_ix enc size hs L (j / size) hi (j % size) hm
  rw [h2] at h1 h3
  rw [← h3, hu] at h1
  have hadd : (⟨b, off, none⟩ : Addr).add j = ⟨b, off + j, none⟩ := by unfold Addr.add; split <;> simp_all
  rw [hadd, k, h1]






end Go.Proofs.YtaebpbkiaihhdaaGreatDoor
