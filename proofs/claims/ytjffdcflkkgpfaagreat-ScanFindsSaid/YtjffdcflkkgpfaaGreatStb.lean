/-
  What stays as it is while only new blocks come: carried over a call in one step. An append into a struct's field.
  No condition beyond those that each theorem states.

  A region that draws its order and whose operations only read, its calls making new memory at most: one walk in the order of the text. An append in a region that draws, told whole. The length of a map.
  No condition beyond those that each theorem states.
-/
import Derived.Test.YtjffdcflkkgpfaaGreatArgs
import Derived.Test.YtjffdcflkkgpfaaGreatMetaTake
import Derived.Test.YtjffdcflkkgpfaaGreatMap
import Derived.BigQuiet
namespace Go.Proofs.YtjffdcflkkgpfaaGreat
open Go Go.RowKit

/-- From what holds in w to what holds in w', where only new blocks have come. -/
class Mv (w w' : World) (A : Prop) (B : outParam Prop) : Prop where
  out : Keeps [] w w' → A → B

theorem kp {w w' : World} (k : Keeps [] w w') {A B : Prop} [h : Mv w w' A B] (a : A) : B := h.out k a
section
variable {α : Type} {w w' : World}
instance (priority := 10) mvConst (A : Prop) : Mv w w' A A := ⟨fun _ h => h⟩
instance mvAnd (A B A' B' : Prop) [hp : Mv w w' A A'] [hq : Mv w w' B B'] : Mv w w' (A ∧ B) (A' ∧ B') := ⟨fun k h => ⟨hp.out k h.1, hq.out k h.2⟩⟩

instance mvEx (p q : α → Prop) [hp : ∀ x, Mv w w' (p x) (q x)] : Mv w w' (∃ x, p x) (∃ x, q x) := ⟨fun k ⟨x, h⟩ => ⟨x, (hp x).out k h⟩⟩

instance mvAt (b : Nat) (o : Obj) : Mv w w' (w.heap[b]? = some o) (w'.heap[b]? = some o) := ⟨fun k h => k.at_ h (by simp)⟩

instance mvMap (b : Nat) (m : KV) : Mv w w' (MapAt w b m) (MapAt w' b m) := ⟨fun k h => h.keep k (by simp)⟩

instance mvRow (base : Nat) (e : TypeId) (size n : Nat) (v : Value) (xs : List Value) : Mv w w' (w.ownsRow base e size v n xs) (w'.ownsRow base e size v n xs) := ⟨fun k h => k.row h (by simp)⟩

instance mvLt (b : Nat) : Mv w w' (b < w.heap.size) (b < w'.heap.size) := ⟨fun k h => k.lt h⟩

instance mvLe (b : Nat) : Mv w w' (b ≤ w.heap.size) (b ≤ w'.heap.size) := ⟨fun k h => Nat.le_trans h k.size⟩

instance mvKeeps (S : List Nat) (w0 : World) : Mv w w' (Keeps S w0 w) (Keeps S w0 w') := ⟨fun k h => h.trans (k.mono (by simp))⟩

instance mvSlice (B size : Nat) (enc : α → List Value) (v : Value) (L : List α) : Mv w w' (SliceFrom B size enc w v L) (SliceFrom B size enc w' v L) := ⟨fun k h => h.keep k (by simp)⟩

instance mvArg (size : Nat) (enc : α → List Value) (v : Value) (L : List α) : Mv w w' (SliceArg size enc w v L) (SliceArg size enc w' v L) := ⟨fun k h => h.keep k⟩

instance mvMeta (B : Nat) (vs : List Value) (m : MetaS) : Mv w w' (MetaV B w vs m) (MetaV B w' vs m) := ⟨fun k h => h.same k⟩

instance mvMetaR (B : Nat) (vs : List Value) (m : MetaS) : Mv w w' (MetaR B w vs m) (MetaR B w' vs m) := ⟨fun k h => h.same k⟩
end
/-- append onto a row of the walk's own, and what comes of it stored into a field of a block of another type. -/
theorem app_field {W w8 : World} {base : Nat} {e tx : TypeId} {size n n' xb i : Nat} {cs : Array Value} {v v8 : Value} {xs ys : List Value} {o : Obj} (hx : W.heap[xb]? = some (.cells cs tx (0, 0))) (hr : W.ownsRow base e size v n xs) (ht : tx ≠ e)
    (hown : w8.ownsRow base e size v8 n' ys) (hg : (W.alloc o).grownBy w8 v.ownBlock) :
    (w8.setCell ⟨xb, i, none⟩ v8).heap[xb]? = some (.cells (cs.setIfInBounds i v8) tx (0, 0)) ∧ (w8.setCell ⟨xb, i, none⟩ v8).ownsRow base e size v8 n' ys ∧ Keeps (xb :: v.ownBlock.toList) W (w8.setCell ⟨xb, i, none⟩ v8) := by
  have kb := keeps_rowM hg
  have hx1 := heap_old hx o
  have hx8 := kb.at_ hx1 (fun hm => row_ne_type (hr.alloc o) hx1 ht xb (by simpa using hm) rfl)
  have k89 : Keeps [xb] w8 (w8.setCell ⟨xb, i, none⟩ v8) := (Keeps.refl [xb] w8).setCell (.inl (by simp)) _
  refine ⟨heap_cell_same hx8 v8, k89.row hown (fun g hg => by have := row_ne_type hown hx8 ht g hg; simpa using this), ?_⟩
  have ka : Keeps (xb :: v.ownBlock.toList) W (W.alloc o) := (Keeps.refl _ W).alloc o
  exact (ka.after kb (fun x hx => .inl (by simp at hx; simp [hx]))).after k89 (fun x hx => .inl (by simp only [List.mem_singleton] at hx; simp [hx]))
end Go.Proofs.YtjffdcflkkgpfaaGreat

namespace Go.Proofs.YtjffdcflkkgpfaaGreat
open Go Go.RowKit

/-- A world in which only new blocks have come since W. -/
structure Kept (W : World) where
  val : World
  property : Keeps [] W val
instance (W : World) : Nonempty (Kept W) := ⟨⟨W, Keeps.refl [] W⟩⟩
theorem wp_region_kept {P : Program} {id : Nat} {Q : Exit → Act → World → Prop} {a : Act} {w : World} {l : List Oper} (W : World) (hm : P.follows .mixedOrders = true) (hB : Region.lexB .any l.toArray = true) (hW : Keeps [] W w.drew)
    (h : wpQuiet P l.toArray (fun w' => ∃ s : Kept W, w' = s.val) (fun a' => ∀ w', (∃ s : Kept W, w' = s.val) → Q .normal a' w') l a) : (Code.region id l.toArray true).wp P Q a w :=
  wp_region_quiet (C := fun w' => ∃ s : Kept W, w' = s.val) hm hB ⟨⟨_, hW⟩, rfl⟩ h

theorem Calls.kept {P : Program} {f : FuncId} {args : Array Value} {W : World} {s : Kept W} {v : Value} (h : ∀ w, Keeps [] W w → Calls P f args w fun e w' => e = .returned v ∧ Keeps [] w w') :
    Calls P f args s.val fun e w'' => e = .returned v ∧ ∃ s' : Kept W, w'' = s'.val :=
  (h s.val s.property).mono fun _ w'' ⟨he, hk⟩ => ⟨he, ⟨w'', s.property.trans hk⟩, rfl⟩

/-- append onto a slice of the walk's own, as one step of a region that draws: whether it is nil, too. -/
theorem step_append_ownN {P : Program} {ops : Array Oper} {o : Oper} {a : Act} {w : World} {K : Act → World → Prop} {Q : Exit → Act → World → Prop} {E : Prop}
    (hg : o.guard = none) (s x : Operand) (t : TypeId) (hop : o.op = Op.call { callee := Callee.builtin Builtin.append, args := #[s, x], argTypes := #[t, t] })
    (base : Nat) (e : TypeId) (i : TypeInfo) (z : Value) (size bytes : Nat) (h1 : P.underlying t = some (.slice e)) (h2 : P.info? e = some i) (h3 : i.zero = some z) (h4 : i.size = size) (h5 : i.bytes = bytes) (h6 : z.cells.size = size) (h7 : 0 < size)
    (v : Value) (n : Nat) (xs : List Value) (hs : a.eval s = v) (hown : w.ownsRow base e size v n xs)
    (ad : Addr) (m c : Nat) (news : List Value) (hx : a.eval x = .slice (some ad) m c) (hn : news.length = m * size) (hc : ∀ j u, news[j]? = some u → w.cell? (ad.add j) = some u) (h1c : ∀ u ∈ news, u.oneCell' = true)
    (b1 : n + m ≤ maxLen) (b2 : (n + m) * bytes ≤ 140737488355328) (b3 : base ≤ w.heap.size)
    (hK : ∀ v' w', w'.ownsRow base e size v' (n + m) (xs ++ news) → w.grownBy w' v.ownBlock → (v' = .slice none 0 0 ↔ v = .slice none 0 0 ∧ m = 0) → K (a.put o.dst v') w') :
    if Region.wanted o (yielded ops a.tmps) = true then Oper.wp P o a w K Q else E := by
  have hw : Region.wanted o (yielded ops a.tmps) = true := by simp [Region.wanted, hg]
  rw [if_pos hw]
  obtain ⟨v', w', hrun, r1, r2, r3⟩ := run_append_own (P := P) w base t o.type e i z size bytes h1 h2 h3 h4 h5 h6 h7 v n xs hown ad m c news hn hc h1c b1 b2 b3
  unfold Oper.wp
  simp [execOp, hop, resolve, invoke, builtin, hs, hx, hrun, Result.andThen]
  exact hK v' w' r1 r2 r3

theorem MapAt.run_lenK {P : Program} {w : World} {b : Nat} {m : KV} {t k e : TypeId} (h : MapAt w b m) (ht : P.underlying t = some (.map k e)) (ty : TypeId) : (Builtin.len_ #[t] ty #[.map (some b)]).run P w = .ok (.int .i64 m.length) w := by
  obtain ⟨E, c, h1, h2, rfl⟩ := h
  simp [Builtin.len_, run_underlying ht, MapKept.run_getObj_map h1, goInt, Result.andThen, pairs]
end Go.Proofs.YtjffdcflkkgpfaaGreat
