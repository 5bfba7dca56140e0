/-
  Arguments that are slices, opened: of strings, ints, bools, and of structs of one-cell fields.
  No condition beyond those that each theorem states.

  Slices that lie in blocks from a bound on: they outlive what turns blocks ahead of it.
  No condition beyond those that each theorem states.
-/
import Derived.Test.YtgdkceeonnfejaaGreatDoorBase
import Derived.ProofKit
import Derived.Deep.Slices
import Derived.Deep.Fields
namespace Go.Proofs.YtgdkceeonnfejaaGreatDoor
open Go Go.RowKit Go.ChangeShapes Go.WideShapes Go.Deep
def SliceArg {α : Type} (size : Nat) (enc : α → List Value) (w : World) (v : Value) (L : List α) : Prop :=
 ∃ ao cap, v = .slice ao L.length cap ∧ L.length ≤ maxLen ∧ ∀ i (h : i < L.length), ∃ b off, ao = some ⟨b, off, none⟩ ∧ b < w.heap.size ∧
  ∀ j, j < size → w.cell? ⟨b, off + (i * size + j), none⟩ = (enc L[i])[j]?
theorem SliceArg.keep {α : Type} {size : Nat} {enc : α → List Value} {w w' : World} {v : Value} {L : List α} (h : SliceArg size enc w v L) (k : Keeps [] w w') : SliceArg size enc w' v L := by
 obtain ⟨ao, cap, rfl, hl, hc⟩ := h
 refine ⟨ao, cap, rfl, hl, fun i hi => ?_⟩
 obtain ⟨b, off, rfl, hb, hj⟩ := hc i hi
 exact ⟨b, off, rfl, k.lt hb, fun j hj' => (k.cell hb (by simp)).trans (hj j hj')⟩
theorem addr_norm {w : World} {a : Addr} {v : Value} (h : w.cell? a = some v) : a = ⟨a.block, a.off, none⟩ := by
 unfold World.cell? at h
 split at h
 ·obtain ⟨b, o, s⟩ := a
  cases s with
  | none => rfl
  | some x => simp at h
 ·cases h
theorem list_of {α : Type} {n : Nat} {p : Nat → α → Prop} (h : ∀ i, i < n → ∃ x, p i x) : ∃ L : List α, L.length = n ∧ ∀ i (hi : i < L.length), p i L[i] := by
 induction n with
 | zero => exact ⟨[], rfl, fun i hi => by simp at hi⟩
 | succ n ih =>
  obtain ⟨L, hl, hp⟩ := ih fun i hi => h i (by omega)
  obtain ⟨x, hx⟩ := h n (by omega)
  refine ⟨L ++ [x], by simp [hl], fun i hi => ?_⟩
  by_cases hlt : i < L.length
  ·rw [List.getElem_append_left hlt]
   exact hp i hlt
  ·have : i = n := by simp at hi; omega
   subst this
   subst hl
   simpa using hx
theorem sliceArg_of {α : Type} {size : Nat} {enc : α → List Value} {w : World} {a : Addr} {len cap : Nat} {ok : α → Prop} (hs : 0 < size) (hl : len ≤ maxLen)
  (h : ∀ i, i < len → ∃ x : α, ok x ∧ (enc x).length = size ∧ ∀ j, j < size → w.cell? (a.add (i * size + j)) = (enc x)[j]?) :
  ∃ L : List α, SliceArg size enc w (.slice (some a) len cap) L ∧ ∀ x ∈ L, ok x := by
 obtain ⟨L, hL, hp⟩ := list_of h
 subst hL
 have hok : ∀ x ∈ L, ok x := fun x hx => by
  obtain ⟨i, hi, rfl⟩ := List.mem_iff_getElem.1 hx
  exact (hp i hi).1
 refine ⟨L, ⟨_, cap, rfl, hl, fun i hi => ?_⟩, hok⟩
 have h00 := (hp 0 (by omega)).2.2 0 hs
 have hlen0 := (hp 0 (by omega)).2.1
 obtain ⟨v0, hv0⟩ : ∃ v0, (enc L[0])[0]? = some v0 := ⟨(enc L[0])[0]'(by omega), List.getElem?_eq_getElem (by omega)⟩
 rw [hv0] at h00
 have hblt := World.block_lt_of_cell? w _ h00
 have hn := addr_norm h00
 have hadd0 : a.add (0 * size + 0) = a := by simp [Addr.add]
 rw [hadd0] at hn hblt
 refine ⟨a.block, a.off, by rw [← hn], hblt, fun j hj => ?_⟩
 have := (hp i hi).2.2 j hj
 rw [hn] at this
 rw [← this]
 congr 1
 unfold Addr.add
 split
 ·rename_i h0; rw [h0]; rfl
 ·rfl
section
variable {H : Type} {e0 : TypeId × Value → H} {P : Program} {W : World} {sp : Nat → Bool} {held : Bool} {r : Reach} {b0 : Nat} {t e : TypeId} {v : Value} {d : DataW H} {p : List MemPlace}
theorem open_structArg {α : Type} {fs : Array Field} (enc : α → List Value) (ok : World → α → Prop) (ht : P.underlying t = some (.slice e)) (he : P.underlying e = some (.struct fs))
  (hone : oneCellFields P fs = true) (hC : P.cellsOf e = fs.size) (hpos : 0 < fs.size)
  (hx : ∀ (us : List Value) (n : Nat), us.length = fs.size → (∀ (j : Nat) (f : Field), fs[j]? = some f → ∃ y u, us[j]? = some u ∧ DataW.trod e0 P W 0 (fun _ => true) true n f.type [u] = some y) → ∃ x : α, ok W x ∧ enc x = us)
  (hok : Value.okWide P W r b0 t v) (h : DataW.Trod e0 P W 0 (fun _ => true) true t v d p) :
  ∃ L : List α, SliceArg fs.size enc W v L ∧ ∀ x ∈ L, ok W x := by
 obtain ⟨a0, len0, cap0, rfl⟩ := okWide_slice ht hok
 obtain ⟨fuel, hf⟩ := h
 rcases open_slice ht hf with ⟨hcs, _⟩ | ⟨a, len, cap, m, n, D, Pl, hcs, _, hl, hm, hmm, _, hi⟩
 ·simp [Value.cells] at hcs
  obtain ⟨rfl, rfl, rfl⟩ := hcs
  exact ⟨[], ⟨_, _, rfl, by simp [maxLen], fun i hi => by simp at hi⟩, by simp⟩
 ·simp [Value.cells] at hcs
  obtain ⟨rfl, rfl, rfl⟩ := hcs
  simp only [if_true] at hmm
  subst hmm
  refine sliceArg_of hpos (by omega) fun i hlt => ?_
  obtain ⟨cs', hc', ht'⟩ := hi i (by omega)
  rw [hC] at hc'
  obtain ⟨ys, n', hn', hy, hlen, hyl, hg⟩ := DataW.trod_struct he ht'
  obtain ⟨_, hcl, hat⟩ := World.cells?_some hc'
  obtain ⟨x, hxo, hxe⟩ := hx cs' n' hcl fun j f hj => by
   obtain ⟨ho, hk⟩ := hone_of hone j f hj
   have hjl : j < fs.size := (Array.getElem?_eq_some_iff.1 hj).1
   have h1 := hg j f hj
   rw [ho, hk] at h1
   have hone' : (cs'.drop j).take 1 = [cs'[j]'(by omega)] := by
    rw [List.drop_eq_getElem_cons (by omega)]
    rfl
   rw [hone'] at h1
   have hys : ys[j]? = some (ys[j]'(by omega)) := List.getElem?_eq_getElem (by omega)
   exact ⟨_, _, List.getElem?_eq_getElem (by omega), h1.trans hys⟩
  refine ⟨x, hxo, by rw [hxe, hcl], fun j hj => ?_⟩
  rw [hxe, ← Go.Deep.add_add]
  exact hat j hj
end
open Go Go.RowKit
def SliceFrom {α : Type} (B size : Nat) (enc : α → List Value) (w : World) (v : Value) (L : List α) : Prop :=
 ∃ ao cap, v = .slice ao L.length cap ∧ L.length ≤ maxLen ∧ L.length ≤ cap ∧ (ao = none → cap = 0) ∧
  ∀ i (h : i < L.length), ∃ b off, ao = some ⟨b, off, none⟩ ∧ B ≤ b ∧ b < w.heap.size ∧ ∀ j, j < size → w.cell? ⟨b, off + (i * size + j), none⟩ = (enc L[i])[j]?
section
variable {α : Type} {B size : Nat} {enc : α → List Value} {w w' : World} {v : Value} {L : List α}
theorem sliceFrom_nil (B size : Nat) (enc : α → List Value) (w : World) : SliceFrom B size enc w (.slice none 0 0) [] := ⟨none, 0, rfl, by simp [maxLen], Nat.le_refl _, fun _ => rfl, fun i h => by simp at h⟩
theorem SliceFrom.keep {S : List Nat} (h : SliceFrom B size enc w v L) (k : Keeps S w w') (hS : ∀ x ∈ S, x < B) : SliceFrom B size enc w' v L := by
 obtain ⟨ao, cap, e, hl, hc, hn, h⟩ := h
 refine ⟨ao, cap, e, hl, hc, hn, fun i hi => ?_⟩
 obtain ⟨b, off, e2, hb, hlt, hcell⟩ := h i hi
 exact ⟨b, off, e2, hb, k.lt hlt, fun j hj => (k.cell hlt (fun hm => by have := hS b hm; omega)).trans (hcell j hj)⟩
theorem SliceFrom.low {B' : Nat} (h : SliceFrom B size enc w v L) (hB : B' ≤ B) : SliceFrom B' size enc w v L := by
 obtain ⟨ao, cap, e, hl, hc, hn, h⟩ := h
 refine ⟨ao, cap, e, hl, hc, hn, fun i hi => ?_⟩
 obtain ⟨b, off, e2, hb, hlt, hcell⟩ := h i hi
 exact ⟨b, off, e2, Nat.le_trans hB hb, hlt, hcell⟩
theorem SliceFrom.arg (h : SliceFrom B size enc w v L) : SliceArg size enc w v L := by
 obtain ⟨ao, cap, e, hl, hc, hn, h⟩ := h
 refine ⟨ao, cap, e, hl, fun i hi => ?_⟩
 obtain ⟨b, off, e2, hb, hlt, hcell⟩ := h i hi
 exact ⟨b, off, e2, hlt, hcell⟩
theorem flatMap_at {α : Type} (enc : α → List Value) (s : Nat) (hs : ∀ x, (enc x).length = s) : ∀ (L : List α) (j : Nat) (hj : j < L.length) (i : Nat), i < s → (L.flatMap enc)[j * s + i]? = (enc L[j])[i]?
 | [], j, hj, _, _ => by simp at hj
 | x :: L, 0, _, i, hi => by
  simp only [List.flatMap_cons, Nat.zero_mul, Nat.zero_add, List.getElem_cons_zero]
  exact List.getElem?_append_left (by rw [hs]; exact hi)
 | x :: L, j + 1, hj, i, hi => by
  have ih := flatMap_at enc s hs L j (by simpa using hj) i hi
  simp only [List.flatMap_cons, List.getElem_cons_succ]
  rw [List.getElem?_append_right (by rw [hs, Nat.add_mul]; omega), hs, ← ih]
  congr 1
  rw [Nat.add_mul]
  omega
theorem sliceFrom_row {e : TypeId} (henc : ∀ x, (enc x).length = size) (h : w.ownsRow B e size v L.length (L.flatMap enc)) : SliceFrom B size enc w v L := by
 have hx := h
 obtain ⟨hl, ⟨rfl, hn⟩ | ⟨g, cap, cur, rfl, hbg, hg, hnc, hcm, hcs, htake⟩⟩ := h
 ·have : L = [] := List.eq_nil_of_length_eq_zero hn
  subst this
  exact sliceFrom_nil B size enc w
 ·refine ⟨_, cap, rfl, by omega, hnc, (fun e => by cases e), fun i hi => ⟨g, 0, rfl, hbg, lt_of_at hg, fun j hj => ?_⟩⟩
  rw [Nat.zero_add, World.ownsRow.cellAt hx (i * size + j) (by
   have h2 : (i + 1) * size ≤ L.length * size := Nat.mul_le_mul_right _ hi
   rw [Nat.add_mul, Nat.one_mul] at h2
   omega)]
  exact flatMap_at enc size henc L i hi j hj
end
end Go.Proofs.YtgdkceeonnfejaaGreatDoor
