/-
  What stays as it is while only new blocks come: carried over a call in one step. An append into a struct's field.
  No condition beyond those that each theorem states.

  A region that draws its order and whose operations only read, its calls making new memory at most: one walk in the order of the text. An append in a region that draws, told whole. The length of a map.
  No condition beyond those that each theorem states.
-/
import Derived.Test.YtgcfkhcogllgfaaGreatDoorArgs
import Derived.Test.YtgcfkhcogllgfaaGreatDoorMetaTake
import Derived.Test.YtgcfkhcogllgfaaGreatDoorMap
import Derived.BigQuiet
namespace Go.Proofs.YtgcfkhcogllgfaaGreatDoor
open Go Go.RowKit
class Mv (w w' : World) (A : Prop) (B : outParam Prop) : Prop where
 out : Keeps [] w w' → A → B
theorem kp {w w' : World} (k : Keeps [] w w') {A B : Prop} [h : Mv w w' A B] (a : A) : B := h.out k a
section
variable {α : Type} {w w' : World}
instance (priority := 10) mvConst (A : Prop) : Mv w w' A A := ⟨fun _ h => h⟩
instance mvAnd (A B A' B' : Prop) [hp : Mv w w' A A'] [hq : Mv w w' B B'] : Mv w w' (A ∧ B) (A' ∧ B') := ⟨fun k h => ⟨hp.out k h.1, hq.out k h.2⟩⟩
instance mvEx (p q : α → Prop) [hp : ∀ x, Mv w w' (p x) (q x)] : Mv w w' (∃ x, p x) (∃ x, q x) := ⟨fun k ⟨x, h⟩ => ⟨x, (hp x).out k h⟩⟩
instance mvAt (b : Nat) (o : Obj) : Mv w w' (w.heap[b]? = some o) (w'.heap[b]? = some o) := ⟨fun k h => k.at_ h (by simp)⟩
instance mvMap (b : Nat) (m : KV) : Mv w w' (MapAt w b m) (MapAt w' b m) := ⟨fun k h => h.keep k (by simp)⟩
instance mvRow (base : Nat) (e : TypeId) (size n : Nat) (v : Value) (xs : List Value) : Mv w w' (w.ownsRow base e size v n xs) (w'.ownsRow base e size v n xs) := ⟨fun k h => k.row h (by simp)⟩
instance mvLt (b : Nat) : Mv w w' (b < w.heap.size) (b < w'.heap.size) := ⟨fun k h => k.lt h⟩
instance mvLe (b : Nat) : Mv w w' (b ≤ w.heap.size) (b ≤ w'.heap.size) := ⟨fun k h => Nat.le_trans h k.size⟩
instance mvKeeps (S : List Nat) (w0 : World) : Mv w w' (Keeps S w0 w) (Keeps S w0 w') := ⟨fun k h => h.trans (k.mono (by simp))⟩
instance mvSlice (B size : Nat) (enc : α → List Value) (v : Value) (L : List α) : Mv w w' (SliceFrom B size enc w v L) (SliceFrom B size enc w' v L) := ⟨fun k h => h.keep k (by simp)⟩
instance mvArg (size : Nat) (enc : α → List Value) (v : Value) (L : List α) : Mv w w' (SliceArg size enc w v L) (SliceArg size enc w' v L) := ⟨fun k h => h.keep k⟩
instance mvMeta (B : Nat) (vs : List Value) (m : MetaS) : Mv w w' (MetaV B w vs m) (MetaV B w' vs m) := ⟨fun k h => h.same k⟩
instance mvMetaR (B : Nat) (vs : List Value) (m : MetaS) : Mv w w' (MetaR B w vs m) (MetaR B w' vs m) := ⟨fun k h => h.same k⟩
end
theorem app_field {W w8 : World} {base : Nat} {e tx : TypeId} {size n n' xb i : Nat} {cs : Array Value} {v v8 : Value} {xs ys : List Value} {o : Obj} (hx : W.heap[xb]? = some (.cells cs tx (0, 0))) (hr : W.ownsRow base e size v n xs) (ht : tx ≠ e)
  (hown : w8.ownsRow base e size v8 n' ys) (hg : (W.alloc o).grownBy w8 v.ownBlock) :
  (w8.setCell ⟨xb, i, none⟩ v8).heap[xb]? = some (.cells (cs.setIfInBounds i v8) tx (0, 0)) ∧ (w8.setCell ⟨xb, i, none⟩ v8).ownsRow base e size v8 n' ys ∧ Keeps (xb :: v.ownBlock.toList) W (w8.setCell ⟨xb, i, none⟩ v8) := by
 have kb := keeps_rowM hg
 have hx1 := heap_old hx o
 have hx8 := kb.at_ hx1 (fun hm => row_ne_type (hr.alloc o) hx1 ht xb (by simpa using hm) rfl)
 have k89 : Keeps [xb] w8 (w8.setCell ⟨xb, i, none⟩ v8) := (Keeps.refl [xb] w8).setCell (.inl (by simp)) _
 refine ⟨heap_cell_same hx8 v8, k89.row hown (fun g hg => by have := row_ne_type hown hx8 ht g hg; simpa using this), ?_⟩
 have ka : Keeps (xb :: v.ownBlock.toList) W (W.alloc o) := (Keeps.refl _ W).alloc o
 exact (ka.after kb (fun x hx => .inl (by simp at hx; simp [hx]))).after k89 (fun x hx => .inl (by simp only [List.mem_singleton] at hx; simp [hx]))
end Go.Proofs.YtgcfkhcogllgfaaGreatDoor
