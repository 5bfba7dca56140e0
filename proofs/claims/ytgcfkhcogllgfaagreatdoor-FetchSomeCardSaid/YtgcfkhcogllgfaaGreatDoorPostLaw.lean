/-
  Lists of numbers, rising, each once: plain laws (package posting and the document's answer for it), no program in sight.
  No condition beyond those that each theorem states.

  Rows of numbers, and slices of them; what stays as it is while only new blocks come.
  No condition beyond those that each theorem states.

  The document's answer for package posting: Put, Any, Both, Less, walked.
  The slices are read in memory from a bound on; they are of few numbers.

  The document's answer for package posting: Any, Both, Less, walked.
  The slices are read in memory from a bound on; they are of few numbers.

  Package posting: slices.Clone of a list, meet, Both, Less, walked.
  The lists rise, and lie in memory from a bound on; they are of few numbers.

  Package posting: Any, walked: all in one, sorted, each once.
  The lists lie in memory from a bound on; they are of few numbers.

  The worlds in which only new blocks have come; append of one value of any one-cell type onto a row of the walk's own.
  No condition beyond those that each theorem states.
-/
import Derived.Test.YtgcfkhcogllgfaaGreatDoorBase
import Derived.Lib.SlicesCompact
import Derived.Test.YtgcfkhcogllgfaaGreatDoorArgs
import Derived.Test.YtgcfkhcogllgfaaGreatDoorMap
import Derived.Test.YtgcfkhcogllgfaaGreatDoorBuf
import Derived.Test.YtgcfkhcogllgfaaGreatDoorRows
import Derived.Deep.Cut
import Derived.Deep.QuietTactic
import Derived.BigQuiet
import Derived.Lib.Hide
import Derived.Test.YtgcfkhcogllgfaaGreatDoorShelfA
import Derived.Sort.OwnSortedInts
import Derived.Lib.RowBridge
import Derived.Laws.AppendOwnNone
import Derived.Deep.RegionHeld3
namespace Go.Proofs.YtgcfkhcogllgfaaGreatDoor
abbrev Rises (l : List Int) : Prop := l.Pairwise (· < ·)
/-! ## The document's words -/
/-! ## The program's -/
/-! ## Two rows side by side -/
def Beside (a b : List Int) (i k : Nat) : Prop := ∀ j (hj : j < b.length), j < k → ∀ t (ht : t < a.length), i ≤ t → b[j] < a[t]
theorem rises_lt {a : List Int} (h : Rises a) {i j : Nat} (hij : i < j) (hj : j < a.length) : a[i]'(by omega) < a[j] := List.pairwise_iff_getElem.1 h i j (by omega) hj hij
theorem Beside.left {a b : List Int} {i k : Nat} (h : Beside a b i k) : Beside a b (i + 1) k := fun j hj hk t ht hi => h j hj hk t ht (by omega)
theorem Beside.right {a b : List Int} {i k : Nat} (h : Beside a b i k) (ha : Rises a) (hi : i < a.length) (hk : k < b.length) (hlt : b[k] < a[i]) : Beside a b i (k + 1) := fun j hj hjk t ht hit => by
 by_cases hj' : j < k
 ·exact h j hj hj' t ht hit
 ·obtain rfl : j = k := by omega
  by_cases he : t = i
  ·subst he; exact hlt
  ·have := rises_lt ha (show i < t by omega) ht
   omega
theorem Beside.out {a b : List Int} {i k : Nat} (h : Beside a b i k) (hb : Rises b) (hi : i < a.length) (hk : k = b.length ∨ ∃ hk : k < b.length, a[i] < b[k]) : a[i] ∉ b := fun hm => by
 obtain ⟨j, hj, e⟩ := List.mem_iff_getElem.1 hm
 by_cases hjk : j < k
 ·have := h j hj hjk i hi (Nat.le_refl _)
  omega
 ·rcases hk with rfl | ⟨hk, hlt⟩
  ·omega
  ·by_cases he : j = k
   ·subst he; omega
   ·have := rises_lt hb (show k < j by omega) hj
    omega
/-! ## The law -/
/-! ## Step by step -/
open Go Go.RowKit
theorem sf_at {α : Type} {B size : Nat} {enc : α → List Value} {w : World} {a : Option Addr} {n c : Nat} {L : List α} (h : SliceFrom B size enc w (.slice a n c) L) (i : Nat) (hi : i < L.length) :
  ∃ b off, a = some ⟨b, off, none⟩ ∧ B ≤ b ∧ b < w.heap.size ∧ ∀ j, j < size → w.cell? ⟨b, off + (i * size + j), none⟩ = (enc L[i])[j]? := by
 obtain ⟨ao, cap, e, -, -, -, hx⟩ := h
 injection e with e1 _ _
 subst e1
 exact hx i hi
theorem sf_at1 {α : Type} {B : Nat} {f : α → Value} {w : World} {a : Option Addr} {n c : Nat} {L : List α} (h : SliceFrom B 1 (fun x => [f x]) w (.slice a n c) L) (i : Nat) (hi : i < L.length) :
  ∃ b off, a = some ⟨b, off, none⟩ ∧ b < w.heap.size ∧ w.cell? ⟨b, off + i, none⟩ = some (f L[i]) := by
 obtain ⟨b, off, e, -, hb, hc⟩ := sf_at h i hi
 exact ⟨b, off, e, hb, by simpa using hc 0 (by decide)⟩
theorem row_ne_cells {w : World} {base s n b : Nat} {e t : TypeId} {v : Value} {xs : List Value} {cs : Array Value} {z : Nat × Nat} (h : w.ownsRow base e s v n xs) (hb : w.heap[b]? = some (.cells cs t z)) (ht : t ≠ e) : ∀ g, v.ownBlock = some g → g ≠ b := by
 intro g hg e1
 subst e1
 obtain ⟨_, ⟨rfl, _⟩ | ⟨g', cap, cur, rfl, _, h1, _⟩⟩ := h
 ·simp [Value.ownBlock] at hg
 ·obtain rfl : g' = g := by simpa [Value.ownBlock] using hg
  rw [h1] at hb
  injection hb with hb
  injection hb with _ e2 _
  exact ht e2.symm
theorem keeps_own {S : List Nat} {a w w' : World} {row : Option Nat} (h : Keeps S a w) (hg : w.grownBy w' row) (hr : ∀ q, row = some q → a.heap.size ≤ q) : Keeps S a w' :=
 ⟨hg.os.trans h.os, hg.tape.trans h.tape, hg.output.trans h.output, Nat.le_trans h.size hg.size, fun k hk hn => (hg.block k (Nat.lt_of_lt_of_le hk h.size) (fun e => by
  have := hr k e.symm
  omega)).trans (h.block k hk hn)⟩
theorem keeps_row {w w' : World} {v : Value} (hg : w.grownBy w' v.ownBlock) : Keeps v.ownBlock.toList w w' := Keeps.of_grown hg (fun k hk => .inl (by simp [hk]))
theorem own_made (w : World) (base : Nat) (e : TypeId) (size : Nat) (h : base ≤ w.heap.size) : (w.alloc (.cells #[] e)).ownsRow base e size (.slice (some ⟨w.heap.size, 0, none⟩) 0 0) 0 [] :=
 ⟨by simp, .inr ⟨w.heap.size, 0, #[], rfl, h, heap_new w _, Nat.le_refl _, by simp [maxLen], by simp, by simp⟩⟩
class Go1 (w w' : World) (A : Prop) (B : outParam Prop) : Prop where
 out : Keeps [] w w' → A → B
theorem go1 {w w' : World} (k : Keeps [] w w') {A B : Prop} [h : Go1 w w' A B] (a : A) : B := h.out k a
section
variable {α : Type} {w w' : World}
instance (priority := 10) go1Const (A : Prop) : Go1 w w' A A := ⟨fun _ h => h⟩
instance go1And (A B A' B' : Prop) [hp : Go1 w w' A A'] [hq : Go1 w w' B B'] : Go1 w w' (A ∧ B) (A' ∧ B') := ⟨fun k h => ⟨hp.out k h.1, hq.out k h.2⟩⟩
instance go1At (b : Nat) (o : Obj) : Go1 w w' (w.heap[b]? = some o) (w'.heap[b]? = some o) := ⟨fun k h => k.at_ h (by simp)⟩
instance go1Map (b : Nat) (m : KV) : Go1 w w' (MapAt w b m) (MapAt w' b m) := ⟨fun k h => h.keep k (by simp)⟩
instance go1Row (base : Nat) (e : TypeId) (size n : Nat) (v : Value) (xs : List Value) : Go1 w w' (w.ownsRow base e size v n xs) (w'.ownsRow base e size v n xs) := ⟨fun k h => k.row h (by simp)⟩
instance go1Lt (b : Nat) : Go1 w w' (b < w.heap.size) (b < w'.heap.size) := ⟨fun k h => k.lt h⟩
instance go1Le (b : Nat) : Go1 w w' (b ≤ w.heap.size) (b ≤ w'.heap.size) := ⟨fun k h => Nat.le_trans h k.size⟩
instance go1Keeps (S : List Nat) (w0 : World) : Go1 w w' (Keeps S w0 w) (Keeps S w0 w') := ⟨fun k h => h.trans (k.mono (by simp))⟩
instance go1Slice (B size : Nat) (enc : α → List Value) (v : Value) (L : List α) : Go1 w w' (SliceFrom B size enc w v L) (SliceFrom B size enc w' v L) := ⟨fun k h => h.keep k (by simp)⟩
instance go1Arg (size : Nat) (enc : α → List Value) (v : Value) (L : List α) : Go1 w w' (SliceArg size enc w v L) (SliceArg size enc w' v L) := ⟨fun k h => h.keep k⟩
end
/-! ## Numbers -/
abbrev Ints (B : Nat) (w : World) (v : Value) (l : List Int) : Prop := SliceFrom B 1 (fun n => [Value.int .i64 n]) w v l
abbrev Own (B : Nat) (w : World) (v : Value) (l : List Int) : Prop := w.ownsRow B 3 1 v l.length (l.map (Value.int .i64))
theorem flat_one {α : Type} (f : α → Value) (l : List α) : l.flatMap (fun x => [f x]) = l.map f := by
 induction l with
 | nil => rfl
 | cons x l ih => simp [ih]
theorem Own.ints {B : Nat} {w : World} {v : Value} {l : List Int} (h : Own B w v l) : Ints B w v l := by
 refine sliceFrom_row (e := 3) (fun _ => rfl) ?_
 rw [flat_one]
 exact h
section
variable {ops : Array Oper} {rest : List Oper} {o : Oper} {a : Act} {Q : Exit → Act → World → Prop}
end
def Rows2 (B : Nat) (w : World) (v : Value) (LL : List (List Int)) : Prop :=
 ∃ VS : List Value, SliceFrom B 1 (fun x => [x]) w v VS ∧ VS.length = LL.length ∧ ∀ i (h : i < VS.length) (h' : i < LL.length), Ints B w VS[i] LL[i]
theorem Rows2.keep {B : Nat} {w w' : World} {v : Value} {LL : List (List Int)} {S : List Nat} (h : Rows2 B w v LL) (k : Keeps S w w') (hS : ∀ x ∈ S, x < B) : Rows2 B w' v LL := by
 obtain ⟨VS, h1, h2, h3⟩ := h
 exact ⟨VS, h1.keep k hS, h2, fun i hi hi' => (h3 i hi hi').keep k hS⟩
instance go1Rows {w w' : World} (B : Nat) (v : Value) (LL : List (List Int)) : Go1 w w' (Rows2 B w v LL) (Rows2 B w' v LL) := ⟨fun k h => h.keep k (by simp)⟩
theorem Rows2.at_ {B : Nat} {w : World} {a : Option Addr} {n c : Nat} {LL : List (List Int)} (h : Rows2 B w (.slice a n c) LL) (i : Nat) (hi : i < LL.length) :
  ∃ b off u, a = some ⟨b, off, none⟩ ∧ b < w.heap.size ∧ w.cell? ⟨b, off + i, none⟩ = some u ∧ Ints B w u LL[i] := by
 obtain ⟨VS, h1, h2, h3⟩ := h
 obtain ⟨b, off, e, hb, hc⟩ := sf_at1 h1 i (by omega)
 exact ⟨b, off, VS[i], e, hb, hc, h3 i (by omega) hi⟩
theorem Rows2.form {B : Nat} {w : World} {v : Value} {LL : List (List Int)} (h : Rows2 B w v LL) : ∃ ao cap, v = .slice ao LL.length cap ∧ LL.length ≤ maxLen ∧ LL.length ≤ cap ∧ (ao = none → cap = 0) := by
 obtain ⟨VS, ⟨ao, cap, e, h1, h2, h3, -⟩, hl, -⟩ := h
 rw [hl] at e h1 h2
 exact ⟨ao, cap, e, h1, h2, h3⟩
/-! ## The document's words -/
open Go Go.RowKit
open Go Go.RowKit
open Go Go.RowKit
theorem run_equalIn_slice_nilP {P : Program} (w : World) (d : Nat) (t e : TypeId) (a : Option Addr) (n c : Nat) (h : P.underlying t = some (.slice e)) :
  (Op.equalIn (d + 1) t (.slice a n c) (.slice none 0 0)).run P w = .ok a.isNone w := by
 cases a <;> simp [Op.equalIn, run_underlying h]
theorem run_eql_slice_nilP {P : Program} (w : World) (t e : TypeId) (a : Option Addr) (n c : Nat) (h : P.underlying t = some (.slice e)) :
  (binOp .eql t (.slice a n c) (.slice none 0 0)).run P w = .ok (.bool a.isNone) w := by
 simp only [binOp]
 simp [show Op.equal t (.slice a n c) (.slice none 0 0) = Op.equalIn (9999 + 1) t (.slice a n c) (.slice none 0 0) from rfl, run_equalIn_slice_nilP w 9999 t e a n c h]
open Go Go.RowKit Go.Sort
section
variable {ops : Array Oper} {rest : List Oper} {o : Oper} {a : Act} {Q : Exit → Act → World → Prop}
end
open Go Go.RowKit
structure Kept (W : World) where
 val : World
 property : Keeps [] W val
instance (W : World) : Nonempty (Kept W) := ⟨⟨W, Keeps.refl [] W⟩⟩
def KeptS (W w : World) : Prop := ∃ s : Kept W, w = s.val
theorem keptS {W w : World} (h : Keeps [] W w) : KeptS W w := ⟨⟨w, h⟩, rfl⟩
theorem keptCell {W : World} {b i : Nat} {u : Value} (h : W.cell? ⟨b, i, none⟩ = some u) : ∀ s : Kept W, s.val.cell? ⟨b, i, none⟩ = some u := fun s => (s.property.cell (World.block_lt_of_cell? W _ h) (by simp)).trans h
theorem rows_ne2 {w : World} {b1 b2 s1 s2 n1 n2 : Nat} {e1 e2 : TypeId} {v1 v2 : Value} {x1 x2 : List Value} (h1 : w.ownsRow b1 e1 s1 v1 n1 x1) (h2 : w.ownsRow b2 e2 s2 v2 n2 x2) (he : e1 ≠ e2) : ∀ g, v2.ownBlock = some g → g ∉ v1.ownBlock.toList := by
 intro g hg hm
 obtain ⟨_, ⟨rfl, _⟩ | ⟨g2, c2, r2, rfl, _, hb2, _⟩⟩ := h2
 ·simp [Value.ownBlock] at hg
 ·simp [Value.ownBlock] at hg
  subst hg
  exact row_ne_cells h1 hb2 (fun e => he e.symm) _ (by simpa using hm) rfl
section
variable {ops : Array Oper} {rest : List Oper} {o : Oper} {a : Act} {Q : Exit → Act → World → Prop}
end
end Go.Proofs.YtgcfkhcogllgfaaGreatDoor
