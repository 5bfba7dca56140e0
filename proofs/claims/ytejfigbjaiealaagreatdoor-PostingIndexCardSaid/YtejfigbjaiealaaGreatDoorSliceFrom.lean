/-
  Slices that lie in blocks from a bound on: they outlive what turns blocks ahead of it.
  No condition beyond those that each theorem states.
-/
import Derived.Test.YtejfigbjaiealaaGreatDoorArgs
namespace Go.Proofs.YtejfigbjaiealaaGreatDoor
open Go Go.RowKit

def SliceFrom {α : Type} (B size : Nat) (enc : α → List Value) (w : World) (v : Value) (L : List α) : Prop :=
  ∃ ao cap, v = .slice ao L.length cap ∧ L.length ≤ maxLen ∧ L.length ≤ cap ∧ (ao = none → cap = 0) ∧
    ∀ i (h : i < L.length), ∃ b off, ao = some ⟨b, off, none⟩ ∧ B ≤ b ∧ b < w.heap.size ∧ ∀ j, j < size → w.cell? ⟨b, off + (i * size + j), none⟩ = (enc L[i])[j]?
section
variable {α : Type} {B size : Nat} {enc : α → List Value} {w w' : World} {v : Value} {L : List α}
theorem sliceFrom_nil (B size : Nat) (enc : α → List Value) (w : World) : SliceFrom B size enc w (.slice none 0 0) [] := ⟨none, 0, rfl, by simp [maxLen], Nat.le_refl _, fun _ => rfl, fun i h => by simp at h⟩

theorem SliceFrom.keep {S : List Nat} (h : SliceFrom B size enc w v L) (k : Keeps S w w') (hS : ∀ x ∈ S, x < B) : SliceFrom B size enc w' v L := by
  obtain ⟨ao, cap, e, hl, hc, hn, h⟩ := h
  refine ⟨ao, cap, e, hl, hc, hn, fun i hi => ?_⟩
  obtain ⟨b, off, e2, hb, hlt, hcell⟩ := h i hi
  exact ⟨b, off, e2, hb, k.lt hlt, fun j hj => (k.cell hlt (fun hm => by have := hS b hm; omega)).trans (hcell j hj)⟩

theorem SliceFrom.low {B' : Nat} (h : SliceFrom B size enc w v L) (hB : B' ≤ B) : SliceFrom B' size enc w v L := by
  obtain ⟨ao, cap, e, hl, hc, hn, h⟩ := h
  refine ⟨ao, cap, e, hl, hc, hn, fun i hi => ?_⟩
  obtain ⟨b, off, e2, hb, hlt, hcell⟩ := h i hi
  exact ⟨b, off, e2, Nat.le_trans hB hb, hlt, hcell⟩

theorem SliceFrom.arg (h : SliceFrom B size enc w v L) : SliceArg size enc w v L := by
  obtain ⟨ao, cap, e, hl, hc, hn, h⟩ := h
  refine ⟨ao, cap, e, hl, fun i hi => ?_⟩
  obtain ⟨b, off, e2, hb, hlt, hcell⟩ := h i hi
  exact ⟨b, off, e2, hlt, hcell⟩

theorem flatMap_at {α : Type} (enc : α → List Value) (s : Nat) (hs : ∀ x, (enc x).length = s) : ∀ (L : List α) (j : Nat) (hj : j < L.length) (i : Nat), i < s → (L.flatMap enc)[j * s + i]? = (enc L[j])[i]?
  | [], j, hj, _, _ => by simp at hj
  | x :: L, 0, _, i, hi => by
    simp only [List.flatMap_cons, Nat.zero_mul, Nat.zero_add, List.getElem_cons_zero]
    exact List.getElem?_append_left (by rw [hs]; exact hi)
  | x :: L, j + 1, hj, i, hi => by
    have ih := flatMap_at enc s hs L j (by simpa using hj) i hi
    simp only [List.flatMap_cons, List.getElem_cons_succ]
    rw [List.getElem?_append_right (by rw [hs, Nat.add_mul]; omega), hs, ← ih]
    congr 1
    rw [Nat.add_mul]
    omega

/-- A row of the walk's own. -/
theorem sliceFrom_row {e : TypeId} (henc : ∀ x, (enc x).length = size) (h : w.ownsRow B e size v L.length (L.flatMap enc)) : SliceFrom B size enc w v L := by
  have hx := h
  obtain ⟨hl, ⟨rfl, hn⟩ | ⟨g, cap, cur, rfl, hbg, hg, hnc, hcm, hcs, htake⟩⟩ := h
  · have : L = [] := List.eq_nil_of_length_eq_zero hn
    subst this
    exact sliceFrom_nil B size enc w
  · refine ⟨_, cap, rfl, by omega, hnc, (fun e => by cases e), fun i hi => ⟨g, 0, rfl, hbg, lt_of_at hg, fun j hj => ?_⟩⟩
    rw [Nat.zero_add, World.ownsRow.cellAt hx (i * size + j) (by
      have h2 : (i + 1) * size ≤ L.length * size := Nat.mul_le_mul_right _ hi
      rw [Nat.add_mul, Nat.one_mul] at h2
      omega)]
    exact flatMap_at enc size henc L i hi j hj

/-- Without its first. -/
theorem SliceFrom.tail {x : α} {ao : Option Addr} {n cap : Nat} (h : SliceFrom B 1 enc w (.slice ao n cap) (x :: L)) : ∃ b off, ao = some ⟨b, off, none⟩ ∧ n = L.length + 1 ∧ L.length + 1 ≤ cap ∧ b < w.heap.size ∧ w.cell? ⟨b, off, none⟩ = (enc x)[0]? ∧
    (1 < cap → SliceFrom B 1 enc w (.slice (some ⟨b, off + 1, none⟩) L.length (cap - 1)) L) ∧ (cap = 1 → L = []) := by
  obtain ⟨ao', cap', e, hl, hc, hn, h⟩ := h
  injection e with e1 e2 e3
  subst e1 e2 e3
  obtain ⟨b, off, rfl, hb, hlt, hcell⟩ := h 0 (by simp)
  refine ⟨b, off, rfl, by simp, by simpa using hc, hlt, by simpa using hcell 0 (by decide), fun hcap => ⟨_, _, rfl, by simp at hl; omega, by simp at hc; omega, (fun e => by cases e), fun i hi => ?_⟩, fun hcap => ?_⟩
  · obtain ⟨b', off', e', hb', hlt', hcell'⟩ := h (i + 1) (by simp; omega)
    injection e' with e'
    injection e' with e1 e2 _
    subst e1 e2
    refine ⟨b, off + 1, rfl, hb, hlt, fun j hj => ?_⟩
    have := hcell' j hj
    simp only [List.getElem_cons_succ] at this
    rw [← this]
    congr 2
    omega
  · simp at hc
    exact List.eq_nil_of_length_eq_zero (by omega)
end
end Go.Proofs.YtejfigbjaiealaaGreatDoor
