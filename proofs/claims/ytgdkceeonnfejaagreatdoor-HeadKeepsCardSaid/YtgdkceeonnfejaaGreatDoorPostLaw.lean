/-
  Lists of numbers, rising, each once: plain laws (package posting and the document's answer for it), no program in sight.
  No condition beyond those that each theorem states.

  Rows of numbers, and slices of them; what stays as it is while only new blocks come.
  No condition beyond those that each theorem states.

  The document's answer for package posting: Put, Any, Both, Less, walked.
  The slices are read in memory from a bound on; they are of few numbers.

  The document's answer for package posting: Any, Both, Less, walked.
  The slices are read in memory from a bound on; they are of few numbers.

  Package posting: slices.Clone of a list, meet, Both, Less, walked.
  The lists rise, and lie in memory from a bound on; they are of few numbers.

  Package posting: Any, walked: all in one, sorted, each once.
  The lists lie in memory from a bound on; they are of few numbers.

  The worlds in which only new blocks have come; append of one value of any one-cell type onto a row of the walk's own.
  No condition beyond those that each theorem states.
-/
import Derived.Test.YtgdkceeonnfejaaGreatDoorBase
import Derived.Lib.SlicesCompact
import Derived.Test.YtgdkceeonnfejaaGreatDoorArgs
import Derived.Test.YtgdkceeonnfejaaGreatDoorMap
import Derived.Test.YtgdkceeonnfejaaGreatDoorBuf
import Derived.Test.YtgdkceeonnfejaaGreatDoorRows
import Derived.Deep.Cut
import Derived.Deep.QuietTactic
import Derived.BigQuiet
import Derived.Lib.Hide
import Derived.Test.YtgdkceeonnfejaaGreatDoorShelfA
import Derived.Sort.OwnSortedInts
import Derived.Lib.RowBridge
import Derived.Laws.AppendOwnNone
import Derived.Deep.RegionHeld3
namespace Go.Proofs.YtgdkceeonnfejaaGreatDoor
set_option maxRecDepth 100000
set_option maxHeartbeats 1000000
abbrev Rises (l : List Int) : Prop := l.Pairwise (· < ·)
theorem rises_ext : ∀ {a b : List Int}, Rises a → Rises b → (∀ n, n ∈ a ↔ n ∈ b) → a = b
 | [], [], _, _, _ => rfl
 | [], y :: b, _, _, h => by have := (h y).2 (by simp); simp at this
 | x :: a, [], _, _, h => by have := (h x).1 (by simp); simp at this
 | x :: a, y :: b, ha, hb, h => by
  have ha' := List.pairwise_cons.1 ha
  have hb' := List.pairwise_cons.1 hb
  have hxy : x = y := by
   have h1 := (h x).1 (by simp)
   have h2 := (h y).2 (by simp)
   rcases List.mem_cons.1 h1 with h1 | h1
   ·exact h1
   ·rcases List.mem_cons.1 h2 with h2 | h2
    ·exact h2.symm
    ·have := ha'.1 y h2
     have := hb'.1 x h1
     omega
  subst hxy
  congr 1
  refine rises_ext ha'.2 hb'.2 fun n => ?_
  have hn := h n
  constructor
  ·intro hm
   have hne : n ≠ x := by have := ha'.1 n hm; omega
   have := hn.1 (List.mem_cons_of_mem _ hm)
   simpa [hne] using this
  ·intro hm
   have hne : n ≠ x := by have := hb'.1 n hm; omega
   have := hn.2 (List.mem_cons_of_mem _ hm)
   simpa [hne] using this
/-! ## The document's words -/
def insL (n : Int) : List Int → List Int
 | [] => [n]
 | x :: l => if n < x then n :: x :: l else x :: insL n l
def putL (l : List Int) (n : Int) : List Int := if n ∈ l then l else insL n l
theorem mem_insL {n m : Int} : ∀ {l : List Int}, m ∈ insL n l ↔ m = n ∨ m ∈ l
 | [] => by simp [insL]
 | x :: l => by
  unfold insL
  split
  ·simp
  ·simp only [List.mem_cons, mem_insL (l := l)]
   constructor
   ·rintro (h | h | h) <;> simp [h]
   ·rintro (h | h | h) <;> simp [h]
theorem insL_rises {n : Int} : ∀ {l : List Int}, Rises l → n ∉ l → Rises (insL n l)
 | [], _, _ => by simp [insL]
 | x :: l, h, hn => by
  have h' := List.pairwise_cons.1 h
  unfold insL
  split
  ·rename_i hlt
   refine List.pairwise_cons.2 ⟨fun y hy => ?_, h⟩
   rcases List.mem_cons.1 hy with rfl | hy
   ·exact hlt
   ·have := h'.1 y hy; omega
  ·rename_i hlt
   have hne : n ≠ x := fun e => hn (by simp [e])
   refine List.pairwise_cons.2 ⟨fun y hy => ?_, insL_rises h'.2 (fun hm => hn (List.mem_cons_of_mem _ hm))⟩
   rcases mem_insL.1 hy with rfl | hy
   ·omega
   ·exact h'.1 y hy
theorem length_insL (n : Int) : ∀ l : List Int, (insL n l).length = l.length + 1
 | [] => rfl
 | x :: l => by
  unfold insL
  split
  ·simp
  ·simp [length_insL n l]
theorem mem_putL {l : List Int} {n m : Int} : m ∈ putL l n ↔ m = n ∨ m ∈ l := by
 unfold putL
 split
 ·rename_i h
  constructor
  ·intro hm; exact .inr hm
  ·rintro (rfl | hm)
   ·exact h
   ·exact hm
 ·exact mem_insL
theorem putL_rises {l : List Int} {n : Int} (h : Rises l) : Rises (putL l n) := by
 unfold putL
 split
 ·exact h
 ·rename_i hn; exact insL_rises h hn
theorem length_putL (l : List Int) (n : Int) : (putL l n).length ≤ l.length + 1 := by
 unfold putL
 split
 ·omega
 ·rw [length_insL]; omega
def anyL (LL : List (List Int)) : List Int := LL.flatten.foldl putL []
theorem foldl_putL (L : List Int) : ∀ (l : List Int), Rises l → Rises (L.foldl putL l) ∧ ∀ n, n ∈ L.foldl putL l ↔ n ∈ l ∨ n ∈ L := by
 induction L with
 | nil => intro l h; exact ⟨h, by simp⟩
 | cons x L ih =>
  intro l h
  obtain ⟨h1, h2⟩ := ih (putL l x) (putL_rises h)
  refine ⟨h1, fun n => ?_⟩
  rw [List.foldl_cons, h2, mem_putL, List.mem_cons]
  constructor
  ·rintro ((h | h) | h) <;> simp [h]
  ·rintro (h | h | h) <;> simp [h]
theorem anyL_rises (LL : List (List Int)) : Rises (anyL LL) := (foldl_putL _ [] List.Pairwise.nil).1
theorem mem_anyL {LL : List (List Int)} {n : Int} : n ∈ anyL LL ↔ ∃ l ∈ LL, n ∈ l := by
 unfold anyL
 rw [(foldl_putL _ [] List.Pairwise.nil).2]
 simp
theorem foldl_putL_len (L : List Int) : ∀ l : List Int, (L.foldl putL l).length ≤ l.length + L.length := by
 induction L with
 | nil => intro l; simp
 | cons x L ih =>
  intro l
  rw [List.foldl_cons]
  have := ih (putL l x)
  have := length_putL l x
  rw [List.length_cons]
  omega
theorem anyL_len (LL : List (List Int)) : (anyL LL).length ≤ LL.flatten.length := by
 have := foldl_putL_len LL.flatten []
 simpa [anyL] using this
def lessL (a b : List Int) : List Int := a.filter fun n => !decide (n ∈ b)
def meetL (a b : List Int) : List Int := a.filter fun n => decide (n ∈ b)
theorem filter_rises {l : List Int} (p : Int → Bool) (h : Rises l) : Rises (l.filter p) := List.Pairwise.filter p h
/-! ## The program's -/
def bothP : List (List Int) → List Int
 | [] => []
 | l :: LL => LL.foldl meetL l
theorem meet_fold (LL : List (List Int)) : ∀ (l : List Int), Rises l → Rises (LL.foldl meetL l) ∧ ∀ n, n ∈ LL.foldl meetL l ↔ n ∈ l ∧ ∀ x ∈ LL, n ∈ x := by
 induction LL with
 | nil => intro l h; exact ⟨h, by simp⟩
 | cons y LL ih =>
  intro l h
  obtain ⟨h1, h2⟩ := ih (meetL l y) (filter_rises _ h)
  refine ⟨h1, fun n => ?_⟩
  rw [List.foldl_cons, h2]
  unfold meetL
  rw [List.mem_filter]
  simp only [decide_eq_true_eq, List.mem_cons, forall_eq_or_imp, and_assoc]
theorem meetL_len (a b : List Int) : (meetL a b).length ≤ a.length := List.length_filter_le _ _
theorem lessL_len (a b : List Int) : (lessL a b).length ≤ a.length := List.length_filter_le _ _
/-! ## Two rows side by side -/
def Beside (a b : List Int) (i k : Nat) : Prop := ∀ j (hj : j < b.length), j < k → ∀ t (ht : t < a.length), i ≤ t → b[j] < a[t]
theorem beside_zero (a b : List Int) : Beside a b 0 0 := fun j _ h => by omega
theorem rises_lt {a : List Int} (h : Rises a) {i j : Nat} (hij : i < j) (hj : j < a.length) : a[i]'(by omega) < a[j] := List.pairwise_iff_getElem.1 h i j (by omega) hj hij
theorem Beside.left {a b : List Int} {i k : Nat} (h : Beside a b i k) : Beside a b (i + 1) k := fun j hj hk t ht hi => h j hj hk t ht (by omega)
theorem Beside.right {a b : List Int} {i k : Nat} (h : Beside a b i k) (ha : Rises a) (hi : i < a.length) (hk : k < b.length) (hlt : b[k] < a[i]) : Beside a b i (k + 1) := fun j hj hjk t ht hit => by
 by_cases hj' : j < k
 ·exact h j hj hj' t ht hit
 ·obtain rfl : j = k := by omega
  by_cases he : t = i
  ·subst he; exact hlt
  ·have := rises_lt ha (show i < t by omega) ht
   omega
theorem Beside.both {a b : List Int} {i k : Nat} (h : Beside a b i k) (ha : Rises a) (hi : i < a.length) (hk : k < b.length) (he : b[k] = a[i]) : Beside a b (i + 1) (k + 1) := fun j hj hjk t ht hit => by
 by_cases hj' : j < k
 ·exact h j hj hj' t ht (by omega)
 ·obtain rfl : j = k := by omega
  have := rises_lt ha (show i < t by omega) ht
  omega
theorem Beside.out {a b : List Int} {i k : Nat} (h : Beside a b i k) (hb : Rises b) (hi : i < a.length) (hk : k = b.length ∨ ∃ hk : k < b.length, a[i] < b[k]) : a[i] ∉ b := fun hm => by
 obtain ⟨j, hj, e⟩ := List.mem_iff_getElem.1 hm
 by_cases hjk : j < k
 ·have := h j hj hjk i hi (Nat.le_refl _)
  omega
 ·rcases hk with rfl | ⟨hk, hlt⟩
  ·omega
  ·by_cases he : j = k
   ·subst he; omega
   ·have := rises_lt hb (show k < j by omega) hj
    omega
theorem meet_step {a b : List Int} {i : Nat} (hi : i < a.length) : (a.take (i + 1)).filter (fun n => decide (n ∈ b)) = (a.take i).filter (fun n => decide (n ∈ b)) ++ if a[i] ∈ b then [a[i]] else [] := by
 rw [List.take_succ_eq_append_getElem hi, List.filter_append]
 congr 1
 by_cases h : a[i] ∈ b <;> simp [h]
theorem less_step {a b : List Int} {i : Nat} (hi : i < a.length) : (a.take (i + 1)).filter (fun n => !decide (n ∈ b)) = (a.take i).filter (fun n => !decide (n ∈ b)) ++ if a[i] ∈ b then [] else [a[i]] := by
 rw [List.take_succ_eq_append_getElem hi, List.filter_append]
 congr 1
 by_cases h : a[i] ∈ b <;> simp [h]
theorem meet_end {a b : List Int} {i k : Nat} (h : Beside a b i k) (hik : i ≤ a.length) (hk : i = a.length ∨ k = b.length) : (a.take i).filter (fun n => decide (n ∈ b)) = meetL a b := by
 unfold meetL
 conv => rhs; rw [← List.take_append_drop i a, List.filter_append]
 have : (a.drop i).filter (fun n => decide (n ∈ b)) = [] := by
  rw [List.filter_eq_nil_iff]
  intro n hn hm
  simp only [decide_eq_true_eq] at hm
  obtain ⟨t, ht, rfl⟩ := List.mem_iff_getElem.1 hn
  rw [List.getElem_drop] at hm
  rw [List.length_drop] at ht
  rcases hk with rfl | rfl
  ·omega
  ·obtain ⟨j, hj, e⟩ := List.mem_iff_getElem.1 hm
   have := h j hj hj (i + t) (by omega) (by omega)
   omega
 rw [this, List.append_nil]
theorem compact_upto {d : Array Int} (h : ∀ i j, i < j → j < d.size → d[i]! ≤ d[j]!) : ∀ m, m ≤ d.size → Rises (Lib.compactUpTo d m) ∧ (∀ n, n ∈ Lib.compactUpTo d m ↔ ∃ j, j < m ∧ n = d[j]!)
 | 0, _ => by simp [Lib.compactUpTo]
 | m + 1, hm => by
  obtain ⟨h1, h2⟩ := compact_upto h m (by omega)
  rw [Lib.compactUpTo_succ]
  by_cases hk : Lib.keeps d m = true
  ·rw [if_pos hk]
   have hne : m = 0 ∨ d[m]! ≠ d[m - 1]! := by simpa [Lib.keeps] using hk
   constructor
   ·refine List.pairwise_append.2 ⟨h1, by simp, fun a ha b hb => ?_⟩
    obtain rfl : b = d[m]! := by simpa using hb
    obtain ⟨j, hj, rfl⟩ := (h2 a).1 ha
    have hle : d[j]! ≤ d[m - 1]! := by
     by_cases e : j = m - 1
     ·subst e; omega
     ·exact h j (m - 1) (by omega) (by omega)
    have hlm := h (m - 1) m (by omega) (by omega)
    rcases hne with hne | hne <;> omega
   ·intro n
    rw [List.mem_append, h2]
    constructor
    ·rintro (⟨j, hj, e⟩ | e)
     ·exact ⟨j, by omega, e⟩
     ·exact ⟨m, by omega, by simpa using e⟩
    ·rintro ⟨j, hj, e⟩
     by_cases hjm : j < m
     ·exact .inl ⟨j, hjm, e⟩
     ·obtain rfl : j = m := by omega
      exact .inr (by simp [e])
  ·rw [if_neg hk, List.append_nil]
   refine ⟨h1, fun n => ?_⟩
   rw [h2]
   have he : m ≠ 0 ∧ d[m]! = d[m - 1]! := by simpa [Lib.keeps] using hk
   constructor
   ·rintro ⟨j, hj, e⟩
    exact ⟨j, by omega, e⟩
   ·rintro ⟨j, hj, e⟩
    by_cases hjm : j < m
    ·exact ⟨j, hjm, e⟩
    ·obtain rfl : j = m := by omega
     exact ⟨j - 1, by omega, by rw [e, he.2]⟩
theorem compact_rises {l : List Int} (h : l.Pairwise (· ≤ ·)) : Rises (Lib.compact l) ∧ ∀ n, n ∈ Lib.compact l ↔ n ∈ l := by
 have hs : ∀ i j, i < j → j < l.toArray.size → l.toArray[i]! ≤ l.toArray[j]! := fun i j hij hj => by
  have hj' : j < l.length := by simpa using hj
  have := List.pairwise_iff_getElem.1 h i j (by omega) hj' hij
  simpa [getElem!_pos, hj', show i < l.length by omega] using this
 obtain ⟨h1, h2⟩ := compact_upto hs l.length (by simp)
 refine ⟨h1, fun n => ?_⟩
 show n ∈ Lib.compactUpTo l.toArray l.length ↔ _
 rw [h2]
 constructor
 ·rintro ⟨j, hj, rfl⟩
  simp [hj]
 ·intro hm
  obtain ⟨j, hj, e⟩ := List.mem_iff_getElem.1 hm
  exact ⟨j, hj, by simp [hj, e]⟩
def anyP (l : List Int) : List Int := Lib.compact (l.mergeSort fun x y => decide (x ≤ y))
theorem sort_le (l : List Int) : (l.mergeSort fun x y => decide (x ≤ y)).Pairwise (· ≤ ·) := by
 have := List.pairwise_mergeSort (le := fun x y : Int => decide (x ≤ y)) (fun a b c => by simp; omega) (fun a b => by simp; omega) l
 exact this.imp (by simp)
theorem anyP_rises (l : List Int) : Rises (anyP l) := (compact_rises (sort_le l)).1
theorem anyP_eq (LL : List (List Int)) : anyP LL.flatten = anyL LL := by
 refine rises_ext (anyP_rises _) (anyL_rises LL) fun n => ?_
 unfold anyP
 rw [(compact_rises (sort_le _)).2, List.mem_mergeSort, mem_anyL, List.mem_flatten]
/-! ## The law -/
/-! ## Step by step -/
theorem flat_take {LL : List (List Int)} {k : Nat} (hk : k < LL.length) : (LL.take k).flatten.length + LL[k].length ≤ LL.flatten.length := by
 have h : (LL.take (k + 1)).flatten.length = (LL.take k).flatten.length + LL[k].length := by
  rw [List.take_succ_eq_append_getElem hk, List.flatten_append, List.length_append]
  simp
 have h2 : LL.flatten.length = (LL.take (k + 1)).flatten.length + (LL.drop (k + 1)).flatten.length := by
  conv => lhs; rw [← List.take_append_drop (k + 1) LL, List.flatten_append, List.length_append]
 omega
theorem filter_take_len {A : List Int} (p : Int → Bool) (k : Nat) : ((A.take k).filter p).length ≤ A.length := by
 have := List.length_filter_le p (A.take k)
 rw [List.length_take] at this
 omega
open Go Go.RowKit
theorem sf_at {α : Type} {B size : Nat} {enc : α → List Value} {w : World} {a : Option Addr} {n c : Nat} {L : List α} (h : SliceFrom B size enc w (.slice a n c) L) (i : Nat) (hi : i < L.length) :
  ∃ b off, a = some ⟨b, off, none⟩ ∧ B ≤ b ∧ b < w.heap.size ∧ ∀ j, j < size → w.cell? ⟨b, off + (i * size + j), none⟩ = (enc L[i])[j]? := by
 obtain ⟨ao, cap, e, -, -, -, hx⟩ := h
 injection e with e1 _ _
 subst e1
 exact hx i hi
theorem sf_at1 {α : Type} {B : Nat} {f : α → Value} {w : World} {a : Option Addr} {n c : Nat} {L : List α} (h : SliceFrom B 1 (fun x => [f x]) w (.slice a n c) L) (i : Nat) (hi : i < L.length) :
  ∃ b off, a = some ⟨b, off, none⟩ ∧ b < w.heap.size ∧ w.cell? ⟨b, off + i, none⟩ = some (f L[i]) := by
 obtain ⟨b, off, e, -, hb, hc⟩ := sf_at h i hi
 exact ⟨b, off, e, hb, by simpa using hc 0 (by decide)⟩
theorem row_ne_cells {w : World} {base s n b : Nat} {e t : TypeId} {v : Value} {xs : List Value} {cs : Array Value} {z : Nat × Nat} (h : w.ownsRow base e s v n xs) (hb : w.heap[b]? = some (.cells cs t z)) (ht : t ≠ e) : ∀ g, v.ownBlock = some g → g ≠ b := by
 intro g hg e1
 subst e1
 obtain ⟨_, ⟨rfl, _⟩ | ⟨g', cap, cur, rfl, _, h1, _⟩⟩ := h
 ·simp [Value.ownBlock] at hg
 ·obtain rfl : g' = g := by simpa [Value.ownBlock] using hg
  rw [h1] at hb
  injection hb with hb
  injection hb with _ e2 _
  exact ht e2.symm
theorem keeps_own {S : List Nat} {a w w' : World} {row : Option Nat} (h : Keeps S a w) (hg : w.grownBy w' row) (hr : ∀ q, row = some q → a.heap.size ≤ q) : Keeps S a w' :=
 ⟨hg.os.trans h.os, hg.tape.trans h.tape, hg.output.trans h.output, Nat.le_trans h.size hg.size, fun k hk hn => (hg.block k (Nat.lt_of_lt_of_le hk h.size) (fun e => by
  have := hr k e.symm
  omega)).trans (h.block k hk hn)⟩
theorem keeps_row {w w' : World} {v : Value} (hg : w.grownBy w' v.ownBlock) : Keeps v.ownBlock.toList w w' := Keeps.of_grown hg (fun k hk => .inl (by simp [hk]))
theorem own_made (w : World) (base : Nat) (e : TypeId) (size : Nat) (h : base ≤ w.heap.size) : (w.alloc (.cells #[] e)).ownsRow base e size (.slice (some ⟨w.heap.size, 0, none⟩) 0 0) 0 [] :=
 ⟨by simp, .inr ⟨w.heap.size, 0, #[], rfl, h, heap_new w _, Nat.le_refl _, by simp [maxLen], by simp, by simp⟩⟩
class Go1 (w w' : World) (A : Prop) (B : outParam Prop) : Prop where
 out : Keeps [] w w' → A → B
theorem go1 {w w' : World} (k : Keeps [] w w') {A B : Prop} [h : Go1 w w' A B] (a : A) : B := h.out k a
section
variable {α : Type} {w w' : World}
instance (priority := 10) go1Const (A : Prop) : Go1 w w' A A := ⟨fun _ h => h⟩
instance go1And (A B A' B' : Prop) [hp : Go1 w w' A A'] [hq : Go1 w w' B B'] : Go1 w w' (A ∧ B) (A' ∧ B') := ⟨fun k h => ⟨hp.out k h.1, hq.out k h.2⟩⟩
instance go1At (b : Nat) (o : Obj) : Go1 w w' (w.heap[b]? = some o) (w'.heap[b]? = some o) := ⟨fun k h => k.at_ h (by simp)⟩
instance go1Map (b : Nat) (m : KV) : Go1 w w' (MapAt w b m) (MapAt w' b m) := ⟨fun k h => h.keep k (by simp)⟩
instance go1Row (base : Nat) (e : TypeId) (size n : Nat) (v : Value) (xs : List Value) : Go1 w w' (w.ownsRow base e size v n xs) (w'.ownsRow base e size v n xs) := ⟨fun k h => k.row h (by simp)⟩
instance go1Lt (b : Nat) : Go1 w w' (b < w.heap.size) (b < w'.heap.size) := ⟨fun k h => k.lt h⟩
instance go1Le (b : Nat) : Go1 w w' (b ≤ w.heap.size) (b ≤ w'.heap.size) := ⟨fun k h => Nat.le_trans h k.size⟩
instance go1Keeps (S : List Nat) (w0 : World) : Go1 w w' (Keeps S w0 w) (Keeps S w0 w') := ⟨fun k h => h.trans (k.mono (by simp))⟩
instance go1Slice (B size : Nat) (enc : α → List Value) (v : Value) (L : List α) : Go1 w w' (SliceFrom B size enc w v L) (SliceFrom B size enc w' v L) := ⟨fun k h => h.keep k (by simp)⟩
instance go1Arg (size : Nat) (enc : α → List Value) (v : Value) (L : List α) : Go1 w w' (SliceArg size enc w v L) (SliceArg size enc w' v L) := ⟨fun k h => h.keep k⟩
end
/-! ## Numbers -/
abbrev Ints (B : Nat) (w : World) (v : Value) (l : List Int) : Prop := SliceFrom B 1 (fun n => [Value.int .i64 n]) w v l
abbrev Own (B : Nat) (w : World) (v : Value) (l : List Int) : Prop := w.ownsRow B 3 1 v l.length (l.map (Value.int .i64))
theorem infoInt : (Tryz.prog.info? 3).map (fun i => (i.zero, i.size, i.bytes)) = some (some (.int .i64 0), 1, 8) := by kernel_rfl
theorem flat_one {α : Type} (f : α → Value) (l : List α) : l.flatMap (fun x => [f x]) = l.map f := by
 induction l with
 | nil => rfl
 | cons x l ih => simp [ih]
theorem Own.ints {B : Nat} {w : World} {v : Value} {l : List Int} (h : Own B w v l) : Ints B w v l := by
 refine sliceFrom_row (e := 3) (fun _ => rfl) ?_
 rw [flat_one]
 exact h
section
variable {ops : Array Oper} {rest : List Oper} {o : Oper} {a : Act} {Q : Exit → Act → World → Prop}
theorem own_append {w : World} (hgd : o.guard = none) (s x : Operand) (T : TypeId) (hT : Tryz.prog.underlying T = some (.slice 3)) (ho : o.op = .call { callee := .builtin .append, args := #[s, x], argTypes := #[T, T] })
  (B : Nat) (v : Value) (l : List Int) (hs : a.eval s = v) (hb : Own B w v l) (ad : Addr) (m c : Nat) (news : List Int) (hm : news.length = m) (hx : a.eval x = .slice (some ad) m c) (hnews : ∀ j u, (news.map (Value.int .i64))[j]? = some u → w.cell? (ad.add j) = some u)
  (h63 : l.length + m ≤ 1000000) (hB : B ≤ w.heap.size) (h : ∀ ao cp w', Own B w' (.slice ao (l.length + m) cp) (l ++ news) → Turns v w (.slice ao (l.length + m) cp) w' → wpList Tryz.prog ops Q rest (a.put o.dst (.slice ao (l.length + m) cp)) w') : wpList Tryz.prog ops Q (o :: rest) a w := by
 obtain ⟨i, hi, hz0, hz1, hz2⟩ := info_parts infoInt
 refine wpList_plain hgd fun K hK => ?_
 obtain ⟨v', w', hr, h2, h3⟩ := run_append_turns (P := Tryz.prog) w B T o.type 3 i _ 1 8 hT hi hz0 hz1 hz2 rfl (by decide) v _ _ hb ad m c (news.map (Value.int .i64)) (by rw [List.length_map, hm, Nat.mul_one]) hnews (by
  intro u hu
  obtain ⟨n, _, rfl⟩ := List.mem_map.1 hu
  rfl) (by simp only [maxLen]; omega) (by omega) hB
 unfold Oper.wp execOp
 simp only [ho, resolve, invoke, builtin, Sem.run_bind, Sem.run_pure, Result.andThen_ok, List.map_toArray, List.map_cons, List.map_nil, hs, hx, hr]
 obtain ⟨ao, cp, rfl, -, -, -⟩ := row_slice h2
 exact hK _ _ (h ao cp w' (by unfold Own; rw [List.map_append, List.length_append, hm]; exact h2) h3)
theorem own_append1 {w : World} (hgd : o.guard = none) (s x : Operand) (T : TypeId) (hT : Tryz.prog.underlying T = some (.slice 3)) (ho : o.op = .call { callee := .builtin .append, args := #[s, x], argTypes := #[T, T] })
  (B : Nat) (v : Value) (l : List Int) (n : Int) (hs : a.eval s = v) (hb : Own B w v l) (hx : a.eval x = .slice (some ⟨w.heap.size, 0, none⟩) 1 1)
  (h63 : l.length + 1 ≤ 1000000) (hB : B ≤ w.heap.size) (h : ∀ ao cp w', Own B w' (.slice ao (l.length + 1) cp) (l ++ [n]) → Turns v w (.slice ao (l.length + 1) cp) w' → wpList Tryz.prog ops Q rest (a.put o.dst (.slice ao (l.length + 1) cp)) w') : wpList Tryz.prog ops Q (o :: rest) a (w.alloc (.cells #[.int .i64 n] 3)) :=
 own_append hgd s x T hT ho B v l hs (hb.alloc _) ⟨w.heap.size, 0, none⟩ 1 1 [n] rfl hx (news_of (heap_new w _)) h63 (by rw [World.size_alloc]; omega) (fun ao cp w' h1 h2 => h ao cp w' h1 (Turns.since ((Keeps.refl [] w).alloc _) h2))
end
def Rows2 (B : Nat) (w : World) (v : Value) (LL : List (List Int)) : Prop :=
 ∃ VS : List Value, SliceFrom B 1 (fun x => [x]) w v VS ∧ VS.length = LL.length ∧ ∀ i (h : i < VS.length) (h' : i < LL.length), Ints B w VS[i] LL[i]
theorem Rows2.keep {B : Nat} {w w' : World} {v : Value} {LL : List (List Int)} {S : List Nat} (h : Rows2 B w v LL) (k : Keeps S w w') (hS : ∀ x ∈ S, x < B) : Rows2 B w' v LL := by
 obtain ⟨VS, h1, h2, h3⟩ := h
 exact ⟨VS, h1.keep k hS, h2, fun i hi hi' => (h3 i hi hi').keep k hS⟩
instance go1Rows {w w' : World} (B : Nat) (v : Value) (LL : List (List Int)) : Go1 w w' (Rows2 B w v LL) (Rows2 B w' v LL) := ⟨fun k h => h.keep k (by simp)⟩
theorem Rows2.at_ {B : Nat} {w : World} {a : Option Addr} {n c : Nat} {LL : List (List Int)} (h : Rows2 B w (.slice a n c) LL) (i : Nat) (hi : i < LL.length) :
  ∃ b off u, a = some ⟨b, off, none⟩ ∧ b < w.heap.size ∧ w.cell? ⟨b, off + i, none⟩ = some u ∧ Ints B w u LL[i] := by
 obtain ⟨VS, h1, h2, h3⟩ := h
 obtain ⟨b, off, e, hb, hc⟩ := sf_at1 h1 i (by omega)
 exact ⟨b, off, VS[i], e, hb, hc, h3 i (by omega) hi⟩
theorem Rows2.form {B : Nat} {w : World} {v : Value} {LL : List (List Int)} (h : Rows2 B w v LL) : ∃ ao cap, v = .slice ao LL.length cap ∧ LL.length ≤ maxLen ∧ LL.length ≤ cap ∧ (ao = none → cap = 0) := by
 obtain ⟨VS, ⟨ao, cap, e, h1, h2, h3, -⟩, hl, -⟩ := h
 rw [hl] at e h1 h2
 exact ⟨ao, cap, e, h1, h2, h3⟩
theorem rows2_of {B : Nat} {w : World} {v : Value} {e : TypeId} {VS : List Value} {LL : List (List Int)} (hr : w.ownsRow B e 1 v VS.length VS) (hl : VS.length = LL.length) (h : ∀ i (h : i < VS.length) (h' : i < LL.length), Ints B w VS[i] LL[i]) : Rows2 B w v LL :=
 ⟨VS, sliceFrom_row (e := e) (fun _ => rfl) (by rw [flat_one]; simpa using hr), hl, h⟩
/-! ## The document's words -/
open Go Go.RowKit
open Go Go.RowKit
open Go Go.RowKit
theorem ints_news {B : Nat} {w : World} {ad : Addr} {n c : Nat} {l : List Int} (h : Ints B w (.slice (some ad) n c) l) : ∀ j u, (l.map (Value.int .i64))[j]? = some u → w.cell? (ad.add j) = some u := by
 intro j u hu
 have hj : j < l.length := by
  have := (List.getElem?_eq_some_iff.1 hu).1
  simpa using this
 obtain ⟨b, off, e, hb, hc⟩ := sf_at1 h j hj
 injection e with e
 subst e
 rw [List.getElem?_map, List.getElem?_eq_getElem hj] at hu
 injection hu with hu
 subst hu
 have hadd : (⟨b, off, none⟩ : Addr).add j = ⟨b, off + j, none⟩ := by unfold Addr.add; split <;> simp_all
 rw [hadd]
 exact hc
theorem run_equalIn_slice_nilP {P : Program} (w : World) (d : Nat) (t e : TypeId) (a : Option Addr) (n c : Nat) (h : P.underlying t = some (.slice e)) :
  (Op.equalIn (d + 1) t (.slice a n c) (.slice none 0 0)).run P w = .ok a.isNone w := by
 cases a <;> simp [Op.equalIn, run_underlying h]
theorem run_eql_slice_nilP {P : Program} (w : World) (t e : TypeId) (a : Option Addr) (n c : Nat) (h : P.underlying t = some (.slice e)) :
  (binOp .eql t (.slice a n c) (.slice none 0 0)).run P w = .ok (.bool a.isNone) w := by
 simp only [binOp]
 simp [show Op.equal t (.slice a n c) (.slice none 0 0) = Op.equalIn (9999 + 1) t (.slice a n c) (.slice none 0 0) from rfl, run_equalIn_slice_nilP w 9999 t e a n c h]
theorem cloneL_spec (B : Nat) (w : World) (v : Value) (l : List Int) (h : Ints B w v l) (hl : l.length ≤ 1000) :
  Calls Tryz.prog 103 #[v] w fun e w' => ∃ v', e = .returned v' ∧ Own w.heap.size w' v' l ∧ Keeps [] w w' := by
 have Hf := Lib.hid h
 have qT : ∀ (w : World) (a : Option Addr) (n c : Nat), (binOp .eql 114 (.slice a n c) (.slice none 0 0)).run Tryz.prog w = .ok (.bool a.isNone) w := fun w a n c => run_eql_slice_nilP w _ _ a n c Tryz.underlying114
 obtain ⟨ao, cap, rfl, -, hlc, hnil, -⟩ := h
 cases ao with
 | none =>
  have hc := hnil rfl
  have hl0 : l = [] := List.eq_nil_of_length_eq_zero (by omega)
  subst hl0 hc
  clear hnil
  go_enter Tryz.func103, Tryz.ntmps103
  go_wp2_with fail
  go_ret
  exact ⟨_, rfl, World.ownsRow_nil _ _ _ 1, Keeps.refl [] w⟩
 | some ad =>
  clear hnil
  have k0 : Keeps [] w (w.alloc (.cells #[] 3)) := (Keeps.refl [] w).alloc _
  have H0 := Lib.hid (And.intro (own_made w w.heap.size 3 1 (Nat.le_refl _)) (And.intro k0 (go1 k0 Hf.out)))
  clear k0
  go_enter Tryz.func103, Tryz.ntmps103
  go_wp2_with (at_builtin; refine own_append rfl (.tmp 5) (.tmp 6) 114 Tryz.underlying114 rfl w.heap.size (.slice (some ⟨w.heap.size, 0, none⟩) 0 0) [] rfl H0.out.1 ad l.length cap l rfl rfl (ints_news H0.out.2.2) (by simp; omega) (by simp) ?_; intro ao9 cp9 w9 hown9 ht9; have H9 := Lib.hid (And.intro hown9 (ht9.fresh H0.out.2.1 (fun g hg => by simp [Value.ownBlock] at hg; omega)).1); clear hown9 ht9)
  go_ret
  exact ⟨_, rfl, by simpa using H9.out.1, H9.out.2⟩
def MeetRel (w : World) (a b : List Int) (gk : Nat) (u5 u6 u7 : Value) (wr : World) : Prop :=
 ∃ i k, i ≤ a.length ∧ k ≤ b.length ∧ gk = (a.length - i) + (b.length - k) ∧ u6 = .int .i64 i ∧ u7 = .int .i64 k ∧ Beside a b i k ∧ Own w.heap.size wr u5 ((a.take i).filter fun n => decide (n ∈ b)) ∧ Keeps [] w wr
theorem meet_spec (B : Nat) (w : World) (va vb : Value) (a b : List Int) (ha : Ints B w va a) (hb : Ints B w vb b) (hra : Rises a) (hrb : Rises b) (hl : a.length ≤ 1000) (hl2 : b.length ≤ 1000) :
  Calls Tryz.prog 110 #[va, vb] w fun e w' => ∃ v', e = .returned v' ∧ Own w.heap.size w' v' (meetL a b) ∧ Keeps [] w w' := by
 have Hf := Lib.hid (And.intro ha hb)
 obtain ⟨ao, cap, rfl, -, -, -, -⟩ := ha
 obtain ⟨bo, cbp, rfl, -, -, -, -⟩ := hb
 go_enter Tryz.func110, Tryz.ntmps110
 go_wp2_with fail
 go_loopg [5, 6, 7] (a.length + b.length) (MeetRel w a b)
 case atStart => exact ⟨0, 0, Nat.zero_le _, Nat.zero_le _, rfl, rfl, rfl, beside_zero a b, World.ownsRow_nil _ _ _ 1, Keeps.refl [] w⟩
 case round =>
  obtain ⟨i, k, hi, hk, hgk, rfl, rfl, hbes, hrow, hkw⟩ := hrel
  have Hg := Lib.hid hgk
  have hws := hkw.size
  clear hgk
  by_cases hend : i = a.length ∨ k = b.length
  ·rw [meet_end hbes hi hend] at hrow
   have Hr := Lib.hid (And.intro hrow hkw)
   clear hrow hkw hbes
   have hnot : ¬ ((i : Int) < (a.length : Int)) ∨ ¬ ((k : Int) < (b.length : Int)) := by omega
   by_cases hi2 : (i : Int) < (a.length : Int)
   ·have hk2 : ¬ (k : Int) < (b.length : Int) := by omega
    go_wp2_with fail
    go_ret
    exact ⟨_, rfl, Hr.out.1, Hr.out.2⟩
   ·go_wp2_with fail
    go_ret
    exact ⟨_, rfl, Hr.out.1, Hr.out.2⟩
  ·have hil : i < a.length := by omega
   have hkl : k < b.length := by omega
   have hil' : (i : Int) < (a.length : Int) := by omega
   have hkl' : (k : Int) < (b.length : Int) := by omega
   obtain ⟨b1, of1, ea, hb1, d1⟩ := sf_at1 (Hf.out.1.keep hkw (by simp)) i hil
   obtain ⟨b2, of2, eb, hb2, d2⟩ := sf_at1 (Hf.out.2.keep hkw (by simp)) k hkl
   subst ea eb
   have Hs := Lib.hid (meet_step (b := b) hil)
   have Hb := Lib.hid hbes
   have Hmk := Lib.hid (List.getElem_mem hkl)
   have Hin := Lib.hid (fun h => hbes.out hrb hil (.inr ⟨hkl, h⟩))
   have Hright := Lib.hid (fun h => hbes.right hra hil hkl h)
   have Hboth := Lib.hid (fun h => hbes.both hra hil hkl h)
   have hfl := filter_take_len (A := a) (fun n => decide (n ∈ b)) i
   generalize a[i] = x at d1 Hs Hin Hright Hboth
   generalize b[k] = y at d2 Hin Hright Hboth Hmk
   generalize hY : (a.take i).filter (fun n => decide (n ∈ b)) = Y at hrow Hs hfl
   have HY := Lib.hid hY
   clear hY
   obtain ⟨ax, cx, rfl, hxc, hxm, -⟩ := row_slice hrow
   have Hr := Lib.hid (And.intro hrow hkw)
   clear hrow hkw hbes
   go_wp2_with fail
   go_quiet (fail)
   have d1' : (wr.drewN nq).cell? ⟨b1, of1 + i, none⟩ = some (.int .i64 x) := d1
   have d2' : (wr.drewN nq).cell? ⟨b2, of2 + k, none⟩ = some (.int .i64 y) := d2
   have hb1' : b1 < (wr.drewN nq).heap.size := hb1
   have hb2' : b2 < (wr.drewN nq).heap.size := hb2
   have hws' : w.heap.size ≤ (wr.drewN nq).heap.size := hws
   have Hr' := Lib.hid (And.intro (show Own w.heap.size (wr.drewN nq) (.slice ax Y.length cx) Y from Hr.out.1) (Hr.out.2.drewN nq))
   clear d1 d2 hb1 hb2 hws Hr
   generalize wr.drewN nq = W at d1' d2' hb1' hb2' hws' Hr' ⊢
   by_cases hxy : x < y
   ·rw [decide_eq_true hxy]
    rw [if_neg (Hin.out hxy), List.append_nil] at Hs
    clear d1' d2'
    go_wp2_with fail
    go_roundg ((a.length - (i + 1)) + (b.length - k))
    case measure => have := Hg.out; omega
    case rel => exact ⟨i + 1, k, by omega, by omega, rfl, by go_num, rfl, Hb.out.left, by rw [Hs.out]; exact Hr'.out.1, Hr'.out.2⟩
   ·rw [decide_eq_false hxy]
    go_wp2_with fail
    go_quiet (fail)
    have d1 : (W.drewN nq).cell? ⟨b1, of1 + i, none⟩ = some (.int .i64 x) := d1'
    have hb1 : b1 < (W.drewN nq).heap.size := hb1'
    have hws : w.heap.size ≤ (W.drewN nq).heap.size := hws'
    have Hr := Lib.hid (And.intro (show Own w.heap.size (W.drewN nq) (.slice ax Y.length cx) Y from Hr'.out.1) (Hr'.out.2.drewN nq))
    clear d1' d2' hb1' hb2' hws' Hr'
    generalize W.drewN nq = W2 at d1 hb1 hws Hr ⊢
    by_cases hyx : y < x
    ·rw [decide_eq_true hyx]
     clear d1
     go_wp2_with fail
     go_roundg ((a.length - i) + (b.length - (k + 1)))
     case measure => have := Hg.out; omega
     case rel => exact ⟨i, k + 1, by omega, by omega, rfl, rfl, by go_num, Hright.out hyx, by rw [HY.out]; exact Hr.out.1, Hr.out.2⟩
    ·rw [decide_eq_false hyx]
     have hexy : y = x := by omega
     have hb' := Hboth.out hexy
     subst hexy
     have Hb' := Lib.hid hb'
     rw [if_pos Hmk.out] at Hs
     clear hb'
     go_wp2_with (at_builtin; refine own_append1 rfl (.tmp 18) (.tmp 23) 114 Tryz.underlying114 rfl w.heap.size (.slice ax Y.length cx) Y _ rfl Hr.out.1 rfl (by omega) (by omega) ?_; intro ao9 cp9 w9 hown9 ht9; have H9 := Lib.hid (And.intro hown9 (ht9.fresh Hr.out.2 (fun g hg => (World.ownsRow.lt Hr.out.1 g hg).1)).1); clear hown9 ht9)
     go_roundg ((a.length - (i + 1)) + (b.length - (k + 1)))
     case measure => have := Hg.out; omega
     case rel => exact ⟨i + 1, k + 1, by omega, by omega, rfl, by go_num, by go_num, Hb'.out, by rw [Hs.out]; exact H9.out.1, H9.out.2⟩
def BothPRel (w : World) (LL : List (List Int)) (l : List Int) (gk : Nat) (u3 u16 : Value) (wr : World) : Prop :=
 ∃ k, k ≤ LL.length ∧ gk = LL.length - k ∧ u16 = .int .i64 k ∧ Own w.heap.size wr u3 ((LL.take k).foldl meetL l) ∧ Keeps [] w wr
theorem meet_fold_len : ∀ (LL : List (List Int)) (l : List Int), (LL.foldl meetL l).length ≤ l.length
 | [], _ => Nat.le_refl _
 | x :: LL, l => Nat.le_trans (meet_fold_len LL (meetL l x)) (meetL_len l x)
theorem meet_snoc {LL : List (List Int)} {l : List Int} {k : Nat} (hk : k < LL.length) : (LL.take (k + 1)).foldl meetL l = meetL ((LL.take k).foldl meetL l) LL[k] := by
 rw [List.take_succ_eq_append_getElem hk, List.foldl_append]
 rfl
theorem both_spec (B : Nat) (w : World) (v : Value) (LL : List (List Int)) (h : Rows2 B w v LL) (hr : ∀ l ∈ LL, Rises l) (hl : ∀ l ∈ LL, l.length ≤ 1000) (hB : B ≤ w.heap.size) :
  Calls Tryz.prog 79 #[v] w fun e w' => ∃ v', e = .returned v' ∧ Own w.heap.size w' v' (bothP LL) ∧ Keeps [] w w' := by
 have Hf := Lib.hid h
 obtain ⟨ao, cap, rfl, hm, hmc, -⟩ := h.form
 unfold maxLen at hm
 cases LL with
 | nil =>
  go_enter Tryz.func79, Tryz.ntmps79
  go_wp2_with fail
  go_ret
  exact ⟨_, rfl, World.ownsRow_nil _ _ _ 1, Keeps.refl [] w⟩
 | cons l LL =>
  obtain ⟨b, of, u, ea, hb, d0, hu⟩ := h.at_ 0 (by simp)
  subst ea
  rw [Nat.add_zero] at d0
  have hu' : Ints B w u l := hu
  have hll := hl l (by simp)
  have hrl := hr l (by simp)
  clear hu
  have hne : ¬ (((l :: LL).length : Nat) : Int) = 0 := by simp only [List.length_cons]; omega
  have hle : (((l :: LL).length : Nat) : Int) = (LL.length : Int) + 1 := by simp
  have Hl := Lib.hid (And.intro hr hl)
  simp only [List.length_cons] at hm hmc hne
  go_enter Tryz.func79, Tryz.ntmps79
  go_wp2_with fail
  refine (cloneL_spec B _ _ l hu' hll).mono ?_
  rintro e w1 ⟨v1, rfl, hown1, hk1⟩
  have H1 := Lib.hid (And.intro hown1 hk1)
  clear hown1 hk1 d0 hu' h hr hl
  go_wp2_with fail
  ·have hL0 : LL = [] := List.eq_nil_of_length_eq_zero (by omega)
   subst hL0
   go_loopg [3, 16] 0 (fun gk u3 u16 wr => u3 = v1 ∧ u16 = .int .i64 0 ∧ wr = w1)
   case atStart => exact ⟨rfl, rfl, rfl⟩
   case round =>
    obtain ⟨rfl, rfl, rfl⟩ := hrel
    go_wp2_with fail
    go_ret
    exact ⟨_, rfl, H1.out.1, H1.out.2⟩
  ·go_loopg [3, 16] LL.length (BothPRel w LL l)
   case atStart => exact ⟨0, Nat.zero_le _, rfl, rfl, H1.out.1, H1.out.2⟩
   case round =>
    obtain ⟨k, hk, hgk, rfl, hrow, hkw⟩ := hrel
    have Hg := Lib.hid hgk
    have hws := hkw.size
    clear hgk
    by_cases hlt : k < LL.length
    ·obtain ⟨b2, of2, u2, ea, hb2, d0, hu2⟩ := (Hf.out.keep hkw (by simp)).at_ (k + 1) (by simp; omega)
     injection ea with ea
     injection ea with e1 e2 _
     subst e1 e2
     have d1 : wr.cell? ⟨b, of + 1 + k, none⟩ = some u2 := by rw [← d0]; congr 2; omega
     have hu3 : Ints B wr u2 LL[k] := hu2
     have hlt' : (k : Int) < (LL.length : Int) := by omega
     have Hs := Lib.hid (And.intro (meet_snoc (l := l) hlt) (And.intro (Hl.out.1 LL[k] (List.mem_cons_of_mem _ (List.getElem_mem hlt))) (Hl.out.2 LL[k] (List.mem_cons_of_mem _ (List.getElem_mem hlt)))))
     have Hx := Lib.hid (And.intro (meet_fold (LL.take k) l hrl).1 (meet_fold_len (LL.take k) l))
     generalize LL[k] = L at hu3 Hs
     generalize (LL.take k).foldl meetL l = X at hrow Hs Hx
     have Hr := Lib.hid (And.intro hrow (And.intro hkw hu3))
     clear hrow hkw hu2 hu3 d0
     go_wp2_with fail
     refine (meet_spec B _ _ _ X L ((Hr.out.1.ints).low (by omega)) Hr.out.2.2 Hx.out.1 Hs.out.2.1 (by have := Hx.out.2; omega) Hs.out.2.2).mono ?_
     rintro e w8 ⟨v8, rfl, hown8, hk8⟩
     have H8 := Lib.hid (And.intro (row_base (b' := w.heap.size) hown8 (by omega)) (Hr.out.2.1.trans hk8))
     clear hown8 hk8 d1
     go_wp2_with fail
     go_roundg (LL.length - (k + 1))
     case measure => have := Hg.out; omega
     case rel => exact ⟨k + 1, by omega, rfl, by go_num, by rw [Hs.out.1]; exact H8.out.1, H8.out.2⟩
    ·have hkn : k = LL.length := by omega
     subst hkn
     rw [List.take_length] at hrow
     have Hr := Lib.hid (And.intro hrow hkw)
     clear hrow hkw
     go_wp2_with fail
     go_ret
     exact ⟨_, rfl, Hr.out.1, Hr.out.2⟩
def LessPRel (w : World) (a b : List Int) (gk : Nat) (u5 u6 u11 : Value) (wr : World) : Prop :=
 ∃ i k, i ≤ a.length ∧ k ≤ b.length ∧ gk = a.length - i ∧ u11 = .int .i64 i ∧ u6 = .int .i64 k ∧ Beside a b i k ∧ Own w.heap.size wr u5 ((a.take i).filter fun n => !decide (n ∈ b)) ∧ Keeps [] w wr
def LessPRel2 (wo : World) (a b : List Int) (i : Nat) (gk : Nat) (u6 : Value) (wr : World) : Prop :=
 ∃ k, k ≤ b.length ∧ gk = b.length - k ∧ u6 = .int .i64 k ∧ Beside a b i k ∧ wr = wo
theorem Beside.outL {a b : List Int} {i k : Nat} (h : Beside a b i k) (hb : Rises b) (hi : i < a.length) (hk : k ≤ b.length) (hge : ∀ hk : k < b.length, a[i] < b[k]) : a[i] ∉ b := by
 by_cases hkl : k < b.length
 ·exact h.out hb hi (.inr ⟨hkl, hge hkl⟩)
 ·exact h.out hb hi (.inl (by omega))
theorem less_spec (B : Nat) (w : World) (va vb : Value) (a b : List Int) (ha : Ints B w va a) (hb : Ints B w vb b) (hra : Rises a) (hrb : Rises b) (hl : a.length ≤ 1000) (hl2 : b.length ≤ 1000) :
  Calls Tryz.prog 78 #[va, vb] w fun e w' => ∃ v', e = .returned v' ∧ Own w.heap.size w' v' (lessL a b) ∧ Keeps [] w w' := by
 have Hf := Lib.hid (And.intro ha hb)
 obtain ⟨ao, cap, rfl, -, -, -, -⟩ := ha
 obtain ⟨bo, cbp, rfl, -, -, -, -⟩ := hb
 go_enter Tryz.func78, Tryz.ntmps78
 go_wp2_with fail
 go_loopg [5, 6, 11] a.length (LessPRel w a b)
 case atStart => exact ⟨0, 0, Nat.zero_le _, Nat.zero_le _, rfl, rfl, rfl, beside_zero a b, World.ownsRow_nil _ _ _ 1, Keeps.refl [] w⟩
 case round =>
  obtain ⟨i, k, hi, hk, hgk, rfl, rfl, hbes, hrow, hkw⟩ := hrel
  have Hg := Lib.hid hgk
  have hws := hkw.size
  clear hgk
  by_cases hil : i < a.length
  ·have hil' : (i : Int) < (a.length : Int) := by omega
   obtain ⟨b1, of1, ea, hb1, d1⟩ := sf_at1 (Hf.out.1.keep hkw (by simp)) i hil
   subst ea
   have Hs := Lib.hid (less_step (b := b) hil)
   have Hb := Lib.hid hbes
   have Hai := Lib.hid (fun (k : Nat) (h : Beside a b i k) (hk : k ≤ b.length) => h.outL hrb hil hk)
   have Hright := Lib.hid (fun (k : Nat) (h : Beside a b i k) (hkl : k < b.length) (hx : b[k] < a[i]) => h.right hra hil hkl hx)
   have hfl := filter_take_len (A := a) (fun n => !decide (n ∈ b)) i
   obtain ⟨x, hx⟩ : ∃ x, x = a[i] := ⟨_, rfl⟩
   rw [← hx] at d1 Hs Hai Hright
   generalize (a.take i).filter (fun n => !decide (n ∈ b)) = Y at hrow Hs hfl
   obtain ⟨ax, cx, rfl, hxc, hxm, -⟩ := row_slice hrow
   have Hr := Lib.hid (And.intro hrow hkw)
   obtain ⟨wo, hwo⟩ : ∃ wo : World, wo = wr := ⟨_, rfl⟩
   rw [← hwo] at Hr d1 hb1 hws
   rw [← hwo]
   clear hrow hkw hbes hwo hx
   go_wp2_with fail
   clear d1 hb1
   go_loopg [6] (b.length - k) (LessPRel2 wo a b i)
   case atStart => exact ⟨k, hk, rfl, rfl, Hb.out, rfl⟩
   case round =>
    clear hk Hb
    obtain ⟨k, hk, hgk2, rfl, hb2, rfl⟩ := hrel
    have Hgk := Lib.hid hgk2
    have Hb := Lib.hid hb2
    clear hgk2 hb2
    by_cases hkl : k < b.length
    ·have hkl' : (k : Int) < (b.length : Int) := by omega
     obtain ⟨b2, of2, eb, hb2, d2⟩ := sf_at1 (Hf.out.2.keep Hr.out.2 (by simp)) k hkl
     subst eb
     have Hr2 := Lib.hid (Hright.out k Hb.out hkl)
     have Ho := Lib.hid (Hai.out k Hb.out hk)
     have Hm := Lib.hid (List.getElem_mem hkl)
     obtain ⟨y, hy⟩ : ∃ y, y = b[k] := ⟨_, rfl⟩
     have hout : x < y → x ∉ b := fun h => Ho.out (fun _ => by rw [← hy]; exact h)
     rw [← hy] at d2 Hr2 Hm
     have Hout := Lib.hid hout
     have hky : ¬ (k : Int) = (b.length : Int) := by omega
     clear hy hout Ho
     by_cases hyx : y < x
     ·go_wp2_with fail
      go_roundg (b.length - (k + 1))
      case measure => have := Hgk.out; omega
      case rel => exact ⟨k + 1, by omega, rfl, by go_num, Hr2.out hyx, rfl⟩
     ·by_cases hne : y = x
      ·subst hne
       rw [if_pos Hm.out, List.append_nil] at Hs
       go_wp2_with fail
       go_roundg (a.length - (i + 1))
       case measure => have := Hg.out; omega
       case rel => exact ⟨i + 1, k, by omega, by omega, rfl, by go_num, rfl, Hb.out.left, by rw [Hs.out]; exact Hr.out.1, Hr.out.2⟩
      ·rw [if_neg (Hout.out (by omega))] at Hs
       have hne2 : (y != x) = true := by simp [hne]
       go_wp2_with (at_builtin; refine own_append1 rfl (.tmp 41) (.tmp 43) 114 Tryz.underlying114 rfl w.heap.size (.slice ax Y.length cx) Y _ rfl Hr.out.1 rfl (by omega) (by omega) ?_; intro ao9 cp9 w9 hown9 ht9; have H9 := Lib.hid (And.intro hown9 (ht9.fresh Hr.out.2 (fun g hg => (World.ownsRow.lt Hr.out.1 g hg).1)).1); clear hown9 ht9)
       go_roundg (a.length - (i + 1))
       case measure => have := Hg.out; omega
       case rel => exact ⟨i + 1, k, by omega, by omega, rfl, by go_num, rfl, Hb.out.left, by rw [Hs.out]; exact H9.out.1, H9.out.2⟩
    ·have hke : k = b.length := by omega
     subst hke
     rw [if_neg (Hai.out _ Hb.out hk (fun h => absurd h (Nat.lt_irrefl _)))] at Hs
     go_wp2_with (at_builtin; refine own_append1 rfl (.tmp 41) (.tmp 43) 114 Tryz.underlying114 rfl w.heap.size (.slice ax Y.length cx) Y _ rfl Hr.out.1 rfl (by omega) (by omega) ?_; intro ao9 cp9 w9 hown9 ht9; have H9 := Lib.hid (And.intro hown9 (ht9.fresh Hr.out.2 (fun g hg => (World.ownsRow.lt Hr.out.1 g hg).1)).1); clear hown9 ht9)
     go_roundg (a.length - (i + 1))
     case measure => have := Hg.out; omega
     case rel => exact ⟨i + 1, b.length, by omega, by omega, rfl, by go_num, rfl, Hb.out.left, by rw [Hs.out]; exact H9.out.1, H9.out.2⟩
  ·have hkn : i = a.length := by omega
   subst hkn
   rw [List.take_length] at hrow
   have Hr := Lib.hid (And.intro hrow hkw)
   clear hrow hkw
   go_wp2_with fail
   go_ret
   exact ⟨_, rfl, Hr.out.1, Hr.out.2⟩
open Go Go.RowKit Go.Sort
theorem sortI_spec (w : World) (base : Nat) (v : Value) (l : List Int) (h : Own base w v l) (hl : l.length < 4611686018427387904) :
  Calls Tryz.prog 108 #[v] w fun e w' => e = .returned (.tuple #[]) ∧ Own base w' v (l.mergeSort fun x y => decide (x ≤ y)) ∧ w.grownBy w' v.ownBlock := by
 have h' := h
 obtain ⟨_, ⟨rfl, hn⟩ | ⟨g, cap, cur, rfl, hbase, hb, h1, h2, h3, h4⟩⟩ := h
 ·have hc := AnyM.slices_Sort_int_none Tryz.sortL none 0 w
  change Calls Tryz.prog 108 _ _ _ at hc
  refine hc.mono ?_
  rintro e w' ⟨rfl, rfl⟩
  have : l = [] := List.eq_nil_of_length_eq_zero hn
  subst this
  exact ⟨rfl, by simpa using h', ⟨rfl, rfl, rfl, Nat.le_refl _, fun _ _ _ => rfl⟩⟩
 ·have hc := AnyM.slices_Sort_int Tryz.sortL g 0 cap l w (holds_of_blockI hb (by simpa using h4)) (lt_of_at hb) hl
  change Calls Tryz.prog 108 _ _ _ at hc
  refine hc.mono ?_
  rintro e w' ⟨rfl, n, os, rfl⟩
  have hs := ownsRow_sortedI (w := w) (base := base) (g := g) (cap := cap) (n := n) (e := 3) (os := os) (cur := cur) (ss := l) (ts := l.mergeSort fun x y => decide (x ≤ y)) (by simp) hbase hb h1 h2 h3
  refine ⟨rfl, ?_, grownBy_sortedI _⟩
  unfold Own
  rw [List.length_mergeSort]
  exact hs
theorem putRow_ahead_heap (w : World) (q g : Nat) (d : Array Int) : (putRow (Value.int .i64) (Sort.ahead w q) g 0 d) = grow (putRow (Value.int .i64) (Sort.ahead w q) g 0 d) #[] := by
 generalize putRow (Value.int .i64) (Sort.ahead w q) g 0 d = W
 cases W
 simp [grow]
theorem compactI_spec (w : World) (base : Nat) (v : Value) (l : List Int) (h : Own base w v l) (hl : l.length ≤ 1000000) :
  Calls Tryz.prog 109 #[v] w fun e w' => ∃ v', e = .returned v' ∧ Own base w' v' (Lib.compact l) ∧ w.grownBy w' v.ownBlock := by
 have h' := h
 obtain ⟨_, ⟨rfl, hn⟩ | ⟨g, cap, cur, rfl, hbase, hb, h1, h2, h3, h4⟩⟩ := h
 ·have hc := AnyG.slices_Compact_int_empty Tryz.compL none 0 w
  change Calls Tryz.prog 109 _ _ _ at hc
  refine hc.mono ?_
  rintro e w' ⟨rfl, rfl⟩
  have : l = [] := List.eq_nil_of_length_eq_zero hn
  subst this
  exact ⟨_, rfl, h', ⟨rfl, rfl, rfl, Nat.le_refl _, fun _ _ _ => rfl⟩⟩
 ·have hc := AnyG.slices_Compact_int Tryz.compL g 0 cap l w (holds_of_blockI hb (by simpa using h4)) (by omega) h1
  change Calls Tryz.prog 109 _ _ _ at hc
  have hcl := Lib.compact_length_le l
  refine hc.mono ?_
  rintro e w' ⟨rfl, q, rfl⟩
  rw [putRow_ahead_heap]
  have hlen : (Lib.compact l ++ List.replicate (l.length - (Lib.compact l).length) 0).length = l.length := by simp; omega
  have hs := ownsRow_sortedI (w := w) (base := base) (g := g) (cap := cap) (n := q) (e := 3) (os := #[]) (cur := cur) (ss := l) (ts := Lib.compact l ++ List.replicate (l.length - (Lib.compact l).length) 0) hlen hbase hb h1 h2 h3
  refine ⟨_, rfl, ?_, grownBy_sortedI _⟩
  obtain ⟨_, ⟨e, _⟩ | ⟨g', cap', cur', e, hbase', hb', h1', h2', h3', h4'⟩⟩ := hs
  ·cases e
  ·injection e with e1 e2 e3
   injection e1 with e1
   injection e1 with e1 _ _
   subst e1 e3
   refine ⟨by simp, .inr ⟨g, cap, cur', rfl, hbase, hb', by omega, h2, h3', ?_⟩⟩
   have ht : (cur'.toList.take (l.length * 1)).take ((Lib.compact l).length * 1) = (Lib.compact l).map (Value.int .i64) := by
    rw [h4', Nat.mul_one, List.map_append]
    rw [List.take_append_of_le_length (by simp)]
    rw [List.take_of_length_le (by simp)]
   rw [List.take_take] at ht
   rw [← ht]
   congr 1
   omega
section
variable {ops : Array Oper} {rest : List Oper} {o : Oper} {a : Act} {Q : Exit → Act → World → Prop}
theorem own_appendV {w : World} (hgd : o.guard = none) (s x : Operand) (T : TypeId) (hT : Tryz.prog.underlying T = some (.slice 3)) (ho : o.op = .call { callee := .builtin .append, args := #[s, x], argTypes := #[T, T] })
  (B B' : Nat) (v u : Value) (l news : List Int) (hs : a.eval s = v) (hb : Own B w v l) (hx : a.eval x = u) (hu : Ints B' w u news)
  (h63 : l.length + news.length ≤ 1000000) (hB : B ≤ w.heap.size) (h : ∀ ao cp w', Own B w' (.slice ao (l.length + news.length) cp) (l ++ news) → Turns v w (.slice ao (l.length + news.length) cp) w' → wpList Tryz.prog ops Q rest (a.put o.dst (.slice ao (l.length + news.length) cp)) w') : wpList Tryz.prog ops Q (o :: rest) a w := by
 have hu2 := hu
 obtain ⟨ao, cap, rfl, -, hlc, hnil, -⟩ := hu2
 cases ao with
 | some ad => exact own_append hgd s x T hT ho B v l hs hb ad news.length cap news rfl hx (ints_news hu) h63 hB h
 | none =>
  have hc := hnil rfl
  have h0 : news = [] := List.eq_nil_of_length_eq_zero (by omega)
  subst h0 hc
  obtain ⟨i, hi, hz0, hz1, hz2⟩ := info_parts infoInt
  refine wpList_append_own_none hgd s x T ho B 3 i 1 hT hi v l.length _ hs hb hx ?_
  obtain ⟨av, cv, rfl, -, -, -⟩ := row_slice hb
  exact h av cv w (by simpa using hb) (Turns.refl _ _)
end
def AnyPRel (w : World) (LL : List (List Int)) (gk : Nat) (u3 u8 : Value) (wr : World) : Prop :=
 ∃ k, k ≤ LL.length ∧ gk = LL.length - k ∧ u8 = .int .i64 k ∧ Own w.heap.size wr u3 (LL.take k).flatten ∧ Keeps [] w wr
theorem flat_snoc {LL : List (List Int)} {k : Nat} (hk : k < LL.length) : (LL.take (k + 1)).flatten = (LL.take k).flatten ++ LL[k] := by
 rw [List.take_succ_eq_append_getElem hk, List.flatten_append]
 simp
theorem any_spec (B : Nat) (w : World) (v : Value) (LL : List (List Int)) (h : Rows2 B w v LL) (hl : LL.flatten.length ≤ 1000) :
  Calls Tryz.prog 77 #[v] w fun e w' => ∃ v', e = .returned v' ∧ Own w.heap.size w' v' (anyL LL) ∧ Keeps [] w w' := by
 have Hf := Lib.hid h
 obtain ⟨ao, cap, rfl, hm, -, -⟩ := h.form
 unfold maxLen at hm
 have He := Lib.hid (anyP_eq LL)
 generalize anyL LL = R at He ⊢
 go_enter Tryz.func77, Tryz.ntmps77
 go_wp2_with fail
 go_loopg [3, 8] LL.length (AnyPRel w LL)
 case atStart => exact ⟨0, Nat.zero_le _, rfl, rfl, World.ownsRow_nil _ _ _ 1, Keeps.refl [] w⟩
 case round =>
  obtain ⟨k, hk, hgk, rfl, hrow, hkw⟩ := hrel
  have Hg := Lib.hid hgk
  have hws := hkw.size
  clear hgk
  by_cases hlt : k < LL.length
  ·obtain ⟨b, of, u, ea, hb, d0, hu⟩ := (Hf.out.keep hkw (by simp)).at_ k hlt
   subst ea
   have hlt' : (k : Int) < (LL.length : Int) := by omega
   have Hs := Lib.hid (flat_snoc hlt)
   have hfl := flat_take hlt
   generalize LL[k] = L at hu Hs hfl
   generalize (LL.take k).flatten = X at hrow Hs hfl
   have Hu := Lib.hid hu
   obtain ⟨al, cl, rfl, -, -, -, -⟩ := hu
   obtain ⟨ax, cx, rfl, hxc, hxm, -⟩ := row_slice hrow
   have Hr := Lib.hid (And.intro hrow hkw)
   clear hrow hkw
   go_wp2_with (at_builtin; refine own_appendV rfl (.tmp 12) (.tmp 13) 114 Tryz.underlying114 rfl w.heap.size B (.slice ax X.length cx) _ X L rfl Hr.out.1 rfl Hu.out (by omega) (by omega) ?_; intro ao9 cp9 w9 hown9 ht9; have H9 := Lib.hid (And.intro hown9 (ht9.fresh Hr.out.2 (fun g hg => (World.ownsRow.lt Hr.out.1 g hg).1)).1); clear hown9 ht9)
   go_roundg (LL.length - (k + 1))
   case measure => have := Hg.out; omega
   case rel => exact ⟨k + 1, by omega, rfl, by go_num, by rw [Hs.out]; exact H9.out.1, H9.out.2⟩
  ·have hkn : k = LL.length := by omega
   subst hkn
   rw [List.take_length] at hrow
   generalize LL.flatten = X at hrow hl He
   obtain ⟨ax, cx, rfl, hxc, hxm, -⟩ := row_slice hrow
   have Hr := Lib.hid (And.intro hrow hkw)
   clear hrow hkw
   go_wp2_with fail
   refine (sortI_spec _ w.heap.size _ X Hr.out.1 (by omega)).mono ?_
   rintro e w8 ⟨rfl, hown8, hg8⟩
   have hk8 := keeps_own Hr.out.2 hg8 (fun g hg => (World.ownsRow.lt Hr.out.1 g hg).1)
   have H8 := Lib.hid (And.intro hown8 hk8)
   clear hown8 hg8 hk8
   go_wp2_with fail
   refine (compactI_spec _ w.heap.size _ _ H8.out.1 (by rw [List.length_mergeSort]; omega)).mono ?_
   rintro e w9 ⟨v9, rfl, hown9, hg9⟩
   have hk9 := keeps_own H8.out.2 hg9 (fun g hg => (World.ownsRow.lt H8.out.1 g hg).1)
   have H9 := Lib.hid (And.intro hown9 hk9)
   clear hown9 hg9 hk9
   go_wp2_with fail
   go_ret
   exact ⟨_, rfl, by rw [← He.out]; exact H9.out.1, H9.out.2⟩
open Go Go.RowKit
structure Kept (W : World) where
 val : World
 property : Keeps [] W val
instance (W : World) : Nonempty (Kept W) := ⟨⟨W, Keeps.refl [] W⟩⟩
def KeptS (W w : World) : Prop := ∃ s : Kept W, w = s.val
theorem keptS {W w : World} (h : Keeps [] W w) : KeptS W w := ⟨⟨w, h⟩, rfl⟩
theorem keptCell {W : World} {b i : Nat} {u : Value} (h : W.cell? ⟨b, i, none⟩ = some u) : ∀ s : Kept W, s.val.cell? ⟨b, i, none⟩ = some u := fun s => (s.property.cell (World.block_lt_of_cell? W _ h) (by simp)).trans h
theorem rows_ne2 {w : World} {b1 b2 s1 s2 n1 n2 : Nat} {e1 e2 : TypeId} {v1 v2 : Value} {x1 x2 : List Value} (h1 : w.ownsRow b1 e1 s1 v1 n1 x1) (h2 : w.ownsRow b2 e2 s2 v2 n2 x2) (he : e1 ≠ e2) : ∀ g, v2.ownBlock = some g → g ∉ v1.ownBlock.toList := by
 intro g hg hm
 obtain ⟨_, ⟨rfl, _⟩ | ⟨g2, c2, r2, rfl, _, hb2, _⟩⟩ := h2
 ·simp [Value.ownBlock] at hg
 ·simp [Value.ownBlock] at hg
  subst hg
  exact row_ne_cells h1 hb2 (fun e => he e.symm) _ (by simpa using hm) rfl
section
variable {ops : Array Oper} {rest : List Oper} {o : Oper} {a : Act} {Q : Exit → Act → World → Prop}
theorem row_append1 {w : World} (hgd : o.guard = none) (s x : Operand) (T e : TypeId) {z : Value} {bytes : Nat} (hi : (Tryz.prog.info? e).map (fun i => (i.zero, i.size, i.bytes)) = some (some z, 1, bytes)) (hz : z.cells.size = 1) (hby : bytes ≤ 64)
  (hT : Tryz.prog.underlying T = some (.slice e)) (ho : o.op = .call { callee := .builtin .append, args := #[s, x], argTypes := #[T, T] })
  (B : Nat) (v : Value) (VS : List Value) (u : Value) (h1 : u.oneCell' = true) (n : Nat) (hn : VS.length = n) (hs : a.eval s = v) (hb : w.ownsRow B e 1 v n VS) (hx : a.eval x = .slice (some ⟨w.heap.size, 0, none⟩) 1 1)
  (h63 : n + 1 ≤ 1000000) (hB : B ≤ w.heap.size) (h : ∀ ao cp w', w'.ownsRow B e 1 (.slice ao (n + 1) cp) (n + 1) (VS ++ [u]) → Turns v w (.slice ao (n + 1) cp) w' → wpList Tryz.prog ops Q rest (a.put o.dst (.slice ao (n + 1) cp)) w') : wpList Tryz.prog ops Q (o :: rest) a (w.alloc (.cells #[u] e)) := by
 obtain ⟨i, hi, hz0, hz1, hz2⟩ := info_parts hi
 refine wpList_plain hgd fun K hK => ?_
 obtain ⟨v', w', hr, h2, h3⟩ := run_append_turns (P := Tryz.prog) (w.alloc (.cells #[u] e)) B T o.type e i z 1 bytes hT hi hz0 hz1 hz2 hz (by decide) v n VS (hb.alloc _) ⟨w.heap.size, 0, none⟩ 1 1 [u] rfl (news_of (heap_new w _)) (by
  intro y hy
  obtain rfl : y = u := by simpa using hy
  exact h1) (by simp only [maxLen]; omega) (by have := Nat.mul_le_mul h63 hby; omega) (by rw [World.size_alloc]; omega)
 unfold Oper.wp execOp
 simp only [ho, resolve, invoke, builtin, Sem.run_bind, Sem.run_pure, Result.andThen_ok, List.map_toArray, List.map_cons, List.map_nil, hs, hx, hr]
 obtain ⟨ao, cp, rfl, -, -, -⟩ := row_slice h2
 exact hK _ _ (h ao cp w' h2 (Turns.since ((Keeps.refl [] w).alloc _) h3))
end
theorem rows2_new {B : Nat} {w : World} {g n : Nat} {e : TypeId} {VS : List Value} {LL : List (List Int)} (hg : w.heap[g]? = some (.cells VS.toArray e (0, 0))) (hB : B ≤ g) (hn : VS.length = n) (hm : n ≤ maxLen) (hl : VS.length = LL.length) (h : ∀ i (h : i < VS.length) (h' : i < LL.length), Ints B w VS[i] LL[i]) : Rows2 B w (.slice (some ⟨g, 0, none⟩) n n) LL := by
 subst hn
 refine ⟨VS, ⟨_, _, rfl, hm, Nat.le_refl _, (fun e => by cases e), fun i hi => ⟨g, 0, rfl, hB, lt_of_at hg, fun j hj => ?_⟩⟩, hl, h⟩
 obtain rfl : j = 0 := by omega
 rw [cells_at hg]
 simp [hi]
theorem rows2_new2 {B : Nat} {w : World} {g : Nat} {e : TypeId} {u v : Value} {l m : List Int} (hg : w.heap[g]? = some (.cells #[u, v] e (0, 0))) (hB : B ≤ g) (h : Ints B w u l) (h2 : Ints B w v m) : Rows2 B w (.slice (some ⟨g, 0, none⟩) 2 2) [l, m] :=
 rows2_new (VS := [u, v]) hg hB rfl (by simp [maxLen]) rfl (fun i hi hi' => by
  match i with
  | 0 => exact h
  | 1 => exact h2
  | n + 2 => exact absurd hi (by show ¬ n + 2 < 2; omega))
end Go.Proofs.YtgdkceeonnfejaaGreatDoor
