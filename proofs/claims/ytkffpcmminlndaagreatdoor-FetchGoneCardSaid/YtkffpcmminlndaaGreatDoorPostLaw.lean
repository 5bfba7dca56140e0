/-
  Lists of numbers, rising, each once: plain laws (package posting and the document's answer for it), no program in sight.
  No condition beyond those that each theorem states.

  Rows of numbers, and slices of them; what stays as it is while only new blocks come.
  No condition beyond those that each theorem states.

  The document's answer for package posting: Put, Any, Both, Less, walked.
  The slices are read in memory from a bound on; they are of few numbers.

  The document's answer for package posting: Any, Both, Less, walked.
  The slices are read in memory from a bound on; they are of few numbers.

  Package posting: slices.Clone of a list, meet, Both, Less, walked.
  The lists rise, and lie in memory from a bound on; they are of few numbers.

  Package posting: Any, walked: all in one, sorted, each once.
  The lists lie in memory from a bound on; they are of few numbers.

  The worlds in which only new blocks have come; append of one value of any one-cell type onto a row of the walk's own.
  No condition beyond those that each theorem states.
-/
import Derived.Test.YtkffpcmminlndaaGreatDoorBase
import Derived.Lib.SlicesCompact
import Derived.Test.YtkffpcmminlndaaGreatDoorArgs
import Derived.Test.YtkffpcmminlndaaGreatDoorMap
import Derived.Test.YtkffpcmminlndaaGreatDoorBuf
import Derived.Test.YtkffpcmminlndaaGreatDoorRows
import Derived.Deep.Cut
import Derived.Deep.QuietTactic
import Derived.BigQuiet
import Derived.Lib.Hide
import Derived.Test.YtkffpcmminlndaaGreatDoorShelfA
import Derived.Sort.OwnSortedInts
import Derived.Lib.RowBridge
import Derived.Laws.AppendOwnNone
import Derived.Deep.RegionHeld3
namespace Go.Proofs.YtkffpcmminlndaaGreatDoor

/-- Rising, each once. -/
abbrev Rises (l : List Int) : Prop := l.Pairwise (· < ·)

theorem rises_ext : ∀ {a b : List Int}, Rises a → Rises b → (∀ n, n ∈ a ↔ n ∈ b) → a = b
  | [], [], _, _, _ => rfl
  | [], y :: b, _, _, h => by have := (h y).2 (by simp); simp at this
  | x :: a, [], _, _, h => by have := (h x).1 (by simp); simp at this
  | x :: a, y :: b, ha, hb, h => by
    have ha' := List.pairwise_cons.1 ha
    have hb' := List.pairwise_cons.1 hb
    have hxy : x = y := by
      have h1 := (h x).1 (by simp)
      have h2 := (h y).2 (by simp)
      rcases List.mem_cons.1 h1 with h1 | h1
      · exact h1
      · rcases List.mem_cons.1 h2 with h2 | h2
        · exact h2.symm
        · have := ha'.1 y h2
          have := hb'.1 x h1
          omega
    subst hxy
    congr 1
    refine rises_ext ha'.2 hb'.2 fun n => ?_
    have hn := h n
    constructor
    · intro hm
      have hne : n ≠ x := by have := ha'.1 n hm; omega
      have := hn.1 (List.mem_cons_of_mem _ hm)
      simpa [hne] using this
    · intro hm
      have hne : n ≠ x := by have := hb'.1 n hm; omega
      have := hn.2 (List.mem_cons_of_mem _ hm)
      simpa [hne] using this

/-! ## The document's words -/
/-- n ahead of the first that is greater. -/
def insL (n : Int) : List Int → List Int
  | [] => [n]
  | x :: l => if n < x then n :: x :: l else x :: insL n l

def putL (l : List Int) (n : Int) : List Int := if n ∈ l then l else insL n l

theorem mem_insL {n m : Int} : ∀ {l : List Int}, m ∈ insL n l ↔ m = n ∨ m ∈ l
  | [] => by simp [insL]
  | x :: l => by
    unfold insL
    split
    · simp
    · simp only [List.mem_cons, mem_insL (l := l)]
      constructor
      · rintro (h | h | h) <;> simp [h]
      · rintro (h | h | h) <;> simp [h]

theorem insL_rises {n : Int} : ∀ {l : List Int}, Rises l → n ∉ l → Rises (insL n l)
  | [], _, _ => by simp [insL]
  | x :: l, h, hn => by
    have h' := List.pairwise_cons.1 h
    unfold insL
    split
    · rename_i hlt
      refine List.pairwise_cons.2 ⟨fun y hy => ?_, h⟩
      rcases List.mem_cons.1 hy with rfl | hy
      · exact hlt
      · have := h'.1 y hy; omega
    · rename_i hlt
      have hne : n ≠ x := fun e => hn (by simp [e])
      refine List.pairwise_cons.2 ⟨fun y hy => ?_, insL_rises h'.2 (fun hm => hn (List.mem_cons_of_mem _ hm))⟩
      rcases mem_insL.1 hy with rfl | hy
      · omega
      · exact h'.1 y hy

theorem length_insL (n : Int) : ∀ l : List Int, (insL n l).length = l.length + 1
  | [] => rfl
  | x :: l => by
    unfold insL
    split
    · simp
    · simp [length_insL n l]

theorem mem_putL {l : List Int} {n m : Int} : m ∈ putL l n ↔ m = n ∨ m ∈ l := by
  unfold putL
  split
  · rename_i h
    constructor
    · intro hm; exact .inr hm
    · rintro (rfl | hm)
      · exact h
      · exact hm
  · exact mem_insL

theorem putL_rises {l : List Int} {n : Int} (h : Rises l) : Rises (putL l n) := by
  unfold putL
  split
  · exact h
  · rename_i hn; exact insL_rises h hn

theorem length_putL (l : List Int) (n : Int) : (putL l n).length ≤ l.length + 1 := by
  unfold putL
  split
  · omega
  · rw [length_insL]; omega

/-- What the loop of Put has laid behind k of the list, and whether n is in. -/
def putDone (l : List Int) (n : Int) (k : Nat) : Bool := decide (n ∈ l) || (l.take k).any fun x => decide (n < x)

def putSo (l : List Int) (n : Int) (k : Nat) : List Int := if n ∈ l then l.take k else if (l.take k).any fun x => decide (n < x) then insL n (l.take k) else l.take k

theorem putSo_zero (l : List Int) (n : Int) : putSo l n 0 = [] := by unfold putSo; split <;> simp

theorem insL_snoc {n y : Int} : ∀ {l : List Int}, (l.any fun x => decide (n < x)) = true → insL n (l ++ [y]) = insL n l ++ [y]
  | [], h => by simp at h
  | x :: l, h => by
    rw [List.cons_append]
    simp only [insL]
    split
    · rfl
    · rename_i hx
      have : (l.any fun x => decide (n < x)) = true := by simpa [hx] using h
      rw [insL_snoc this]
      rfl

theorem insL_last {n y : Int} (hy : n < y) : ∀ {l : List Int}, (l.any fun x => decide (n < x)) = false → insL n (l ++ [y]) = l ++ [n, y]
  | [], _ => by simp [insL, hy]
  | x :: l, h => by
    have hx : ¬ n < x := by simp at h; omega
    have hl : (l.any fun x => decide (n < x)) = false := by
      simp at h ⊢
      exact h.2
    rw [List.cons_append]
    simp only [insL, if_neg hx]
    rw [insL_last hy hl]
    rfl

theorem insL_none {n : Int} : ∀ {l : List Int}, (l.any fun x => decide (n < x)) = false → insL n l = l ++ [n]
  | [], _ => rfl
  | x :: l, h => by
    have hx : ¬ n < x := by simp at h; omega
    have hl : (l.any fun x => decide (n < x)) = false := by
      simp at h ⊢
      exact h.2
    simp only [insL, if_neg hx]
    rw [insL_none hl]
    rfl

theorem put_done_succ {l : List Int} {n : Int} {k : Nat} (hk : k < l.length) : putDone l n (k + 1) = (putDone l n k || decide (n < l[k])) := by
  unfold putDone
  rw [List.take_succ_eq_append_getElem hk, List.any_append]
  simp [Bool.or_assoc]

theorem putSo_succ {l : List Int} {n : Int} {k : Nat} (hk : k < l.length) : putSo l n (k + 1) = putSo l n k ++ (if putDone l n k = false ∧ n < l[k] then [n, l[k]] else [l[k]]) := by
  have ht := List.take_succ_eq_append_getElem hk
  unfold putSo putDone
  by_cases hm : n ∈ l
  · simp only [hm, decide_true, Bool.true_or]
    rw [ht]
    rfl
  · simp only [hm, if_false, decide_false, Bool.false_or]
    cases ha : (l.take k).any fun x => decide (n < x) with
    | true =>
      rw [ht, List.any_append, ha]
      simp only [Bool.true_or, if_true]
      rw [insL_snoc ha]
      simp
    | false =>
      rw [ht, List.any_append, ha]
      by_cases hx : n < l[k]
      · simp only [hx, Bool.false_or, List.any_cons, List.any_nil, decide_true, Bool.or_false, if_true, and_self]
        rw [insL_last hx ha]
        simp
      · simp [hx]

theorem putL_so (l : List Int) (n : Int) : putL l n = if putDone l n l.length = false then putSo l n l.length ++ [n] else putSo l n l.length := by
  unfold putL putDone putSo
  rw [List.take_length]
  by_cases hm : n ∈ l
  · simp [hm]
  · simp only [hm, if_false, decide_false, Bool.false_or]
    cases ha : l.any fun x => decide (n < x) with
    | true => simp
    | false => simp [insL_none ha]

theorem putSo_len (l : List Int) (n : Int) (k : Nat) : (putSo l n k).length ≤ k + 1 := by
  unfold putSo
  have := List.length_take_le k l
  split
  · omega
  · split
    · rw [length_insL]; omega
    · omega


def anyL (LL : List (List Int)) : List Int := LL.flatten.foldl putL []

theorem foldl_putL (L : List Int) : ∀ (l : List Int), Rises l → Rises (L.foldl putL l) ∧ ∀ n, n ∈ L.foldl putL l ↔ n ∈ l ∨ n ∈ L := by
  induction L with
  | nil => intro l h; exact ⟨h, by simp⟩
  | cons x L ih =>
    intro l h
    obtain ⟨h1, h2⟩ := ih (putL l x) (putL_rises h)
    refine ⟨h1, fun n => ?_⟩
    rw [List.foldl_cons, h2, mem_putL, List.mem_cons]
    constructor
    · rintro ((h | h) | h) <;> simp [h]
    · rintro (h | h | h) <;> simp [h]

theorem anyL_rises (LL : List (List Int)) : Rises (anyL LL) := (foldl_putL _ [] List.Pairwise.nil).1

theorem mem_anyL {LL : List (List Int)} {n : Int} : n ∈ anyL LL ↔ ∃ l ∈ LL, n ∈ l := by
  unfold anyL
  rw [(foldl_putL _ [] List.Pairwise.nil).2]
  simp

theorem foldl_putL_len (L : List Int) : ∀ l : List Int, (L.foldl putL l).length ≤ l.length + L.length := by
  induction L with
  | nil => intro l; simp
  | cons x L ih =>
    intro l
    rw [List.foldl_cons]
    have := ih (putL l x)
    have := length_putL l x
    rw [List.length_cons]
    omega

theorem anyL_len (LL : List (List Int)) : (anyL LL).length ≤ LL.flatten.length := by
  have := foldl_putL_len LL.flatten []
  simpa [anyL] using this

theorem anyL_one {l : List Int} (h : Rises l) : anyL [l] = l := rises_ext (anyL_rises _) h fun n => by rw [mem_anyL]; simp

def inAll (LL : List (List Int)) (n : Int) : Bool := LL.all fun l => decide (n ∈ l)

def bothL (LL : List (List Int)) : List Int := (anyL LL).filter (inAll LL)

def lessL (a b : List Int) : List Int := a.filter fun n => !decide (n ∈ b)

def meetL (a b : List Int) : List Int := a.filter fun n => decide (n ∈ b)

theorem filter_rises {l : List Int} (p : Int → Bool) (h : Rises l) : Rises (l.filter p) := List.Pairwise.filter p h

theorem mem_bothL {LL : List (List Int)} {n : Int} : n ∈ bothL LL ↔ LL ≠ [] ∧ ∀ l ∈ LL, n ∈ l := by
  unfold bothL inAll
  rw [List.mem_filter, mem_anyL, List.all_eq_true]
  simp only [decide_eq_true_eq]
  constructor
  · rintro ⟨⟨l, hl, _⟩, h2⟩
    refine ⟨fun e => ?_, h2⟩
    subst e
    cases hl
  · rintro ⟨h1, h2⟩
    cases LL with
    | nil => exact absurd rfl h1
    | cons l LL => exact ⟨⟨l, by simp, h2 l (by simp)⟩, h2⟩

theorem bothL_rises (LL : List (List Int)) : Rises (bothL LL) := filter_rises _ (anyL_rises LL)
/-! ## The program's -/
def bothP : List (List Int) → List Int
  | [] => []
  | l :: LL => LL.foldl meetL l

theorem meet_fold (LL : List (List Int)) : ∀ (l : List Int), Rises l → Rises (LL.foldl meetL l) ∧ ∀ n, n ∈ LL.foldl meetL l ↔ n ∈ l ∧ ∀ x ∈ LL, n ∈ x := by
  induction LL with
  | nil => intro l h; exact ⟨h, by simp⟩
  | cons y LL ih =>
    intro l h
    obtain ⟨h1, h2⟩ := ih (meetL l y) (filter_rises _ h)
    refine ⟨h1, fun n => ?_⟩
    rw [List.foldl_cons, h2]
    unfold meetL
    rw [List.mem_filter]
    simp only [decide_eq_true_eq, List.mem_cons, forall_eq_or_imp, and_assoc]

theorem bothP_eq {LL : List (List Int)} (h : ∀ l ∈ LL, Rises l) : bothP LL = bothL LL := by
  cases LL with
  | nil => rfl
  | cons l LL =>
    obtain ⟨h1, h2⟩ := meet_fold LL l (h l (by simp))
    refine rises_ext h1 (bothL_rises _) fun n => ?_
    show n ∈ LL.foldl meetL l ↔ _
    rw [h2, mem_bothL]
    simp

theorem meetL_len (a b : List Int) : (meetL a b).length ≤ a.length := List.length_filter_le _ _

theorem lessL_len (a b : List Int) : (lessL a b).length ≤ a.length := List.length_filter_le _ _

/-! ## Two rows side by side -/
/-- All of b ahead of k is below all of a from i on. -/
def Beside (a b : List Int) (i k : Nat) : Prop := ∀ j (hj : j < b.length), j < k → ∀ t (ht : t < a.length), i ≤ t → b[j] < a[t]

theorem beside_zero (a b : List Int) : Beside a b 0 0 := fun j _ h => by omega

theorem rises_lt {a : List Int} (h : Rises a) {i j : Nat} (hij : i < j) (hj : j < a.length) : a[i]'(by omega) < a[j] := List.pairwise_iff_getElem.1 h i j (by omega) hj hij

theorem Beside.left {a b : List Int} {i k : Nat} (h : Beside a b i k) : Beside a b (i + 1) k := fun j hj hk t ht hi => h j hj hk t ht (by omega)

theorem Beside.right {a b : List Int} {i k : Nat} (h : Beside a b i k) (ha : Rises a) (hi : i < a.length) (hk : k < b.length) (hlt : b[k] < a[i]) : Beside a b i (k + 1) := fun j hj hjk t ht hit => by
  by_cases hj' : j < k
  · exact h j hj hj' t ht hit
  · obtain rfl : j = k := by omega
    by_cases he : t = i
    · subst he; exact hlt
    · have := rises_lt ha (show i < t by omega) ht
      omega

theorem Beside.both {a b : List Int} {i k : Nat} (h : Beside a b i k) (ha : Rises a) (hi : i < a.length) (hk : k < b.length) (he : b[k] = a[i]) : Beside a b (i + 1) (k + 1) := fun j hj hjk t ht hit => by
  by_cases hj' : j < k
  · exact h j hj hj' t ht (by omega)
  · obtain rfl : j = k := by omega
    have := rises_lt ha (show i < t by omega) ht
    omega

theorem Beside.out {a b : List Int} {i k : Nat} (h : Beside a b i k) (hb : Rises b) (hi : i < a.length) (hk : k = b.length ∨ ∃ hk : k < b.length, a[i] < b[k]) : a[i] ∉ b := fun hm => by
  obtain ⟨j, hj, e⟩ := List.mem_iff_getElem.1 hm
  by_cases hjk : j < k
  · have := h j hj hjk i hi (Nat.le_refl _)
    omega
  · rcases hk with rfl | ⟨hk, hlt⟩
    · omega
    · by_cases he : j = k
      · subst he; omega
      · have := rises_lt hb (show k < j by omega) hj
        omega

theorem meet_step {a b : List Int} {i : Nat} (hi : i < a.length) : (a.take (i + 1)).filter (fun n => decide (n ∈ b)) = (a.take i).filter (fun n => decide (n ∈ b)) ++ if a[i] ∈ b then [a[i]] else [] := by
  rw [List.take_succ_eq_append_getElem hi, List.filter_append]
  congr 1
  by_cases h : a[i] ∈ b <;> simp [h]

theorem less_step {a b : List Int} {i : Nat} (hi : i < a.length) : (a.take (i + 1)).filter (fun n => !decide (n ∈ b)) = (a.take i).filter (fun n => !decide (n ∈ b)) ++ if a[i] ∈ b then [] else [a[i]] := by
  rw [List.take_succ_eq_append_getElem hi, List.filter_append]
  congr 1
  by_cases h : a[i] ∈ b <;> simp [h]

theorem meet_end {a b : List Int} {i k : Nat} (h : Beside a b i k) (hik : i ≤ a.length) (hk : i = a.length ∨ k = b.length) : (a.take i).filter (fun n => decide (n ∈ b)) = meetL a b := by
  unfold meetL
  conv => rhs; rw [← List.take_append_drop i a, List.filter_append]
  have : (a.drop i).filter (fun n => decide (n ∈ b)) = [] := by
    rw [List.filter_eq_nil_iff]
    intro n hn hm
    simp only [decide_eq_true_eq] at hm
    obtain ⟨t, ht, rfl⟩ := List.mem_iff_getElem.1 hn
    rw [List.getElem_drop] at hm
    rw [List.length_drop] at ht
    rcases hk with rfl | rfl
    · omega
    · obtain ⟨j, hj, e⟩ := List.mem_iff_getElem.1 hm
      have := h j hj hj (i + t) (by omega) (by omega)
      omega
  rw [this, List.append_nil]

/-- Sorted, and each once. -/
theorem compact_upto {d : Array Int} (h : ∀ i j, i < j → j < d.size → d[i]! ≤ d[j]!) : ∀ m, m ≤ d.size → Rises (Lib.compactUpTo d m) ∧ (∀ n, n ∈ Lib.compactUpTo d m ↔ ∃ j, j < m ∧ n = d[j]!)
  | 0, _ => by simp [Lib.compactUpTo]
  | m + 1, hm => by
    obtain ⟨h1, h2⟩ := compact_upto h m (by omega)
    rw [Lib.compactUpTo_succ]
    by_cases hk : Lib.keeps d m = true
    · rw [if_pos hk]
      have hne : m = 0 ∨ d[m]! ≠ d[m - 1]! := by simpa [Lib.keeps] using hk
      constructor
      · refine List.pairwise_append.2 ⟨h1, by simp, fun a ha b hb => ?_⟩
        obtain rfl : b = d[m]! := by simpa using hb
        obtain ⟨j, hj, rfl⟩ := (h2 a).1 ha
        have hle : d[j]! ≤ d[m - 1]! := by
          by_cases e : j = m - 1
          · subst e; omega
          · exact h j (m - 1) (by omega) (by omega)
        have hlm := h (m - 1) m (by omega) (by omega)
        rcases hne with hne | hne <;> omega
      · intro n
        rw [List.mem_append, h2]
        constructor
        · rintro (⟨j, hj, e⟩ | e)
          · exact ⟨j, by omega, e⟩
          · exact ⟨m, by omega, by simpa using e⟩
        · rintro ⟨j, hj, e⟩
          by_cases hjm : j < m
          · exact .inl ⟨j, hjm, e⟩
          · obtain rfl : j = m := by omega
            exact .inr (by simp [e])
    · rw [if_neg hk, List.append_nil]
      refine ⟨h1, fun n => ?_⟩
      rw [h2]
      have he : m ≠ 0 ∧ d[m]! = d[m - 1]! := by simpa [Lib.keeps] using hk
      constructor
      · rintro ⟨j, hj, e⟩
        exact ⟨j, by omega, e⟩
      · rintro ⟨j, hj, e⟩
        by_cases hjm : j < m
        · exact ⟨j, hjm, e⟩
        · obtain rfl : j = m := by omega
          exact ⟨j - 1, by omega, by rw [e, he.2]⟩

theorem compact_rises {l : List Int} (h : l.Pairwise (· ≤ ·)) : Rises (Lib.compact l) ∧ ∀ n, n ∈ Lib.compact l ↔ n ∈ l := by
  have hs : ∀ i j, i < j → j < l.toArray.size → l.toArray[i]! ≤ l.toArray[j]! := fun i j hij hj => by
    have hj' : j < l.length := by simpa using hj
    have := List.pairwise_iff_getElem.1 h i j (by omega) hj' hij
    simpa [getElem!_pos, hj', show i < l.length by omega] using this
  obtain ⟨h1, h2⟩ := compact_upto hs l.length (by simp)
  refine ⟨h1, fun n => ?_⟩
  show n ∈ Lib.compactUpTo l.toArray l.length ↔ _
  rw [h2]
  constructor
  · rintro ⟨j, hj, rfl⟩
    simp [hj]
  · intro hm
    obtain ⟨j, hj, e⟩ := List.mem_iff_getElem.1 hm
    exact ⟨j, hj, by simp [hj, e]⟩

/-- What Any computes: all in one, sorted, each once. -/
def anyP (l : List Int) : List Int := Lib.compact (l.mergeSort fun x y => decide (x ≤ y))

theorem sort_le (l : List Int) : (l.mergeSort fun x y => decide (x ≤ y)).Pairwise (· ≤ ·) := by
  have := List.pairwise_mergeSort (le := fun x y : Int => decide (x ≤ y)) (fun a b c => by simp; omega) (fun a b => by simp; omega) l
  exact this.imp (by simp)

theorem anyP_rises (l : List Int) : Rises (anyP l) := (compact_rises (sort_le l)).1

theorem anyP_eq (LL : List (List Int)) : anyP LL.flatten = anyL LL := by
  refine rises_ext (anyP_rises _) (anyL_rises LL) fun n => ?_
  unfold anyP
  rw [(compact_rises (sort_le _)).2, List.mem_mergeSort, mem_anyL, List.mem_flatten]
/-! ## The law -/
theorem laws_whole {x y : List Int} (hx : Rises x) : anyL [meetL x y, lessL x y] = x := by
  refine rises_ext (anyL_rises _) hx fun n => ?_
  rw [mem_anyL]
  unfold meetL lessL
  simp only [List.mem_cons, List.not_mem_nil, or_false, exists_eq_or_imp, exists_eq_left, List.mem_filter, decide_eq_true_eq, Bool.not_eq_true', decide_eq_false_iff_not]
  by_cases hy : n ∈ y <;> simp [hy]

theorem laws_both (x y z : List Int) : bothL [x, y, z] = bothL [z, x, y] := by
  refine rises_ext (bothL_rises _) (bothL_rises _) fun n => ?_
  rw [mem_bothL, mem_bothL]
  simp only [List.mem_cons, List.not_mem_nil, or_false, forall_eq_or_imp, forall_eq, ne_eq, reduceCtorEq, not_false_eq_true, true_and]
  constructor
  · rintro ⟨h1, h2, h3⟩; exact ⟨h3, h1, h2⟩
  · rintro ⟨h1, h2, h3⟩; exact ⟨h2, h3, h1⟩

theorem laws_any (x y z : List Int) : anyL [x, y, z] = anyL [anyL [y, z], x] := by
  refine rises_ext (anyL_rises _) (anyL_rises _) fun n => ?_
  rw [mem_anyL, mem_anyL]
  simp only [List.mem_cons, List.not_mem_nil, or_false, exists_eq_or_imp, exists_eq_left, mem_anyL]
  constructor
  · rintro (h | h | h) <;> simp [h]
  · rintro ((h | h) | h) <;> simp [h]

theorem laws_none (x y : List Int) : meetL x (lessL y x) = [] := by
  unfold meetL lessL
  rw [List.filter_eq_nil_iff]
  intro n hn
  simp [hn]
/-! ## Step by step -/
theorem any_snoc {LL : List (List Int)} {k : Nat} (hk : k < LL.length) : anyL (LL.take (k + 1)) = LL[k].foldl putL (anyL (LL.take k)) := by
  unfold anyL
  rw [List.take_succ_eq_append_getElem hk, List.flatten_append, List.foldl_append]
  simp

theorem fold_snoc {L X : List Int} {j : Nat} (hj : j < L.length) : (L.take (j + 1)).foldl putL X = putL ((L.take j).foldl putL X) L[j] := by
  rw [List.take_succ_eq_append_getElem hj, List.foldl_append]
  rfl

theorem flat_take {LL : List (List Int)} {k : Nat} (hk : k < LL.length) : (LL.take k).flatten.length + LL[k].length ≤ LL.flatten.length := by
  have h : (LL.take (k + 1)).flatten.length = (LL.take k).flatten.length + LL[k].length := by
    rw [List.take_succ_eq_append_getElem hk, List.flatten_append, List.length_append]
    simp
  have h2 : LL.flatten.length = (LL.take (k + 1)).flatten.length + (LL.drop (k + 1)).flatten.length := by
    conv => lhs; rw [← List.take_append_drop (k + 1) LL, List.flatten_append, List.length_append]
  omega

theorem fold_len {LL : List (List Int)} {k j : Nat} (hk : k < LL.length) : ((LL[k].take j).foldl putL (anyL (LL.take k))).length ≤ LL.flatten.length := by
  have h1 := foldl_putL_len (LL[k].take j) (anyL (LL.take k))
  have h2 := anyL_len (LL.take k)
  have h3 := flat_take hk
  have h4 : (LL[k].take j).length ≤ LL[k].length := by rw [List.length_take]; omega
  omega

theorem filter_snoc {A : List Int} {p : Int → Bool} {k : Nat} (hk : k < A.length) : (A.take (k + 1)).filter p = (A.take k).filter p ++ if p A[k] then [A[k]] else [] := by
  rw [List.take_succ_eq_append_getElem hk, List.filter_append]
  congr 1
  cases h : p A[k] <;> simp [h]

theorem filter_take_len {A : List Int} (p : Int → Bool) (k : Nat) : ((A.take k).filter p).length ≤ A.length := by
  have := List.length_filter_le p (A.take k)
  rw [List.length_take] at this
  omega

theorem all_snoc {LL : List (List Int)} {n : Int} {j : Nat} (hj : j < LL.length) : inAll (LL.take (j + 1)) n = (inAll (LL.take j) n && decide (n ∈ LL[j])) := by
  unfold inAll
  rw [List.take_succ_eq_append_getElem hj, List.all_append]
  simp
end Go.Proofs.YtkffpcmminlndaaGreatDoor

namespace Go.Proofs.YtkffpcmminlndaaGreatDoor
open Go Go.RowKit

theorem sf_at {α : Type} {B size : Nat} {enc : α → List Value} {w : World} {a : Option Addr} {n c : Nat} {L : List α} (h : SliceFrom B size enc w (.slice a n c) L) (i : Nat) (hi : i < L.length) :
    ∃ b off, a = some ⟨b, off, none⟩ ∧ B ≤ b ∧ b < w.heap.size ∧ ∀ j, j < size → w.cell? ⟨b, off + (i * size + j), none⟩ = (enc L[i])[j]? := by
  obtain ⟨ao, cap, e, -, -, -, hx⟩ := h
  injection e with e1 _ _
  subst e1
  exact hx i hi

theorem sf_at1 {α : Type} {B : Nat} {f : α → Value} {w : World} {a : Option Addr} {n c : Nat} {L : List α} (h : SliceFrom B 1 (fun x => [f x]) w (.slice a n c) L) (i : Nat) (hi : i < L.length) :
    ∃ b off, a = some ⟨b, off, none⟩ ∧ b < w.heap.size ∧ w.cell? ⟨b, off + i, none⟩ = some (f L[i]) := by
  obtain ⟨b, off, e, -, hb, hc⟩ := sf_at h i hi
  exact ⟨b, off, e, hb, by simpa using hc 0 (by decide)⟩

theorem row_ne_cells {w : World} {base s n b : Nat} {e t : TypeId} {v : Value} {xs : List Value} {cs : Array Value} {z : Nat × Nat} (h : w.ownsRow base e s v n xs) (hb : w.heap[b]? = some (.cells cs t z)) (ht : t ≠ e) : ∀ g, v.ownBlock = some g → g ≠ b := by
  intro g hg e1
  subst e1
  obtain ⟨_, ⟨rfl, _⟩ | ⟨g', cap, cur, rfl, _, h1, _⟩⟩ := h
  · simp [Value.ownBlock] at hg
  · obtain rfl : g' = g := by simpa [Value.ownBlock] using hg
    rw [h1] at hb
    injection hb with hb
    injection hb with _ e2 _
    exact ht e2.symm

theorem keeps_own {S : List Nat} {a w w' : World} {row : Option Nat} (h : Keeps S a w) (hg : w.grownBy w' row) (hr : ∀ q, row = some q → a.heap.size ≤ q) : Keeps S a w' :=
  ⟨hg.os.trans h.os, hg.tape.trans h.tape, hg.output.trans h.output, Nat.le_trans h.size hg.size, fun k hk hn => (hg.block k (Nat.lt_of_lt_of_le hk h.size) (fun e => by
    have := hr k e.symm
    omega)).trans (h.block k hk hn)⟩

theorem keeps_row {w w' : World} {v : Value} (hg : w.grownBy w' v.ownBlock) : Keeps v.ownBlock.toList w w' := Keeps.of_grown hg (fun k hk => .inl (by simp [hk]))

theorem own_made (w : World) (base : Nat) (e : TypeId) (size : Nat) (h : base ≤ w.heap.size) : (w.alloc (.cells #[] e)).ownsRow base e size (.slice (some ⟨w.heap.size, 0, none⟩) 0 0) 0 [] :=
  ⟨by simp, .inr ⟨w.heap.size, 0, #[], rfl, h, heap_new w _, Nat.le_refl _, by simp [maxLen], by simp, by simp⟩⟩


/-- From what holds in w to what holds in w', where only new blocks have come. -/
class Go1 (w w' : World) (A : Prop) (B : outParam Prop) : Prop where
  out : Keeps [] w w' → A → B

theorem go1 {w w' : World} (k : Keeps [] w w') {A B : Prop} [h : Go1 w w' A B] (a : A) : B := h.out k a
section
variable {α : Type} {w w' : World}
instance (priority := 10) go1Const (A : Prop) : Go1 w w' A A := ⟨fun _ h => h⟩
instance go1And (A B A' B' : Prop) [hp : Go1 w w' A A'] [hq : Go1 w w' B B'] : Go1 w w' (A ∧ B) (A' ∧ B') := ⟨fun k h => ⟨hp.out k h.1, hq.out k h.2⟩⟩

instance go1At (b : Nat) (o : Obj) : Go1 w w' (w.heap[b]? = some o) (w'.heap[b]? = some o) := ⟨fun k h => k.at_ h (by simp)⟩

instance go1Map (b : Nat) (m : KV) : Go1 w w' (MapAt w b m) (MapAt w' b m) := ⟨fun k h => h.keep k (by simp)⟩

instance go1Row (base : Nat) (e : TypeId) (size n : Nat) (v : Value) (xs : List Value) : Go1 w w' (w.ownsRow base e size v n xs) (w'.ownsRow base e size v n xs) := ⟨fun k h => k.row h (by simp)⟩

instance go1Lt (b : Nat) : Go1 w w' (b < w.heap.size) (b < w'.heap.size) := ⟨fun k h => k.lt h⟩

instance go1Le (b : Nat) : Go1 w w' (b ≤ w.heap.size) (b ≤ w'.heap.size) := ⟨fun k h => Nat.le_trans h k.size⟩

instance go1Keeps (S : List Nat) (w0 : World) : Go1 w w' (Keeps S w0 w) (Keeps S w0 w') := ⟨fun k h => h.trans (k.mono (by simp))⟩

instance go1Slice (B size : Nat) (enc : α → List Value) (v : Value) (L : List α) : Go1 w w' (SliceFrom B size enc w v L) (SliceFrom B size enc w' v L) := ⟨fun k h => h.keep k (by simp)⟩

instance go1Arg (size : Nat) (enc : α → List Value) (v : Value) (L : List α) : Go1 w w' (SliceArg size enc w v L) (SliceArg size enc w' v L) := ⟨fun k h => h.keep k⟩
end

/-! ## Numbers -/
abbrev Ints (B : Nat) (w : World) (v : Value) (l : List Int) : Prop := SliceFrom B 1 (fun n => [Value.int .i64 n]) w v l

abbrev Own (B : Nat) (w : World) (v : Value) (l : List Int) : Prop := w.ownsRow B 3 1 v l.length (l.map (Value.int .i64))

theorem infoInt : (Tryz.prog.info? 3).map (fun i => (i.zero, i.size, i.bytes)) = some (some (.int .i64 0), 1, 8) := by kernel_rfl

theorem flat_one {α : Type} (f : α → Value) (l : List α) : l.flatMap (fun x => [f x]) = l.map f := by
  induction l with
  | nil => rfl
  | cons x l ih => simp [ih]

theorem Own.ints {B : Nat} {w : World} {v : Value} {l : List Int} (h : Own B w v l) : Ints B w v l := by
  refine sliceFrom_row (e := 3) (fun _ => rfl) ?_
  rw [flat_one]
  exact h
section
variable {ops : Array Oper} {rest : List Oper} {o : Oper} {a : Act} {Q : Exit → Act → World → Prop}
/-- append of numbers that lie in memory. -/
theorem own_append {w : World} (hgd : o.guard = none) (s x : Operand) (T : TypeId) (hT : Tryz.prog.underlying T = some (.slice 3)) (ho : o.op = .call { callee := .builtin .append, args := #[s, x], argTypes := #[T, T] })
    (B : Nat) (v : Value) (l : List Int) (hs : a.eval s = v) (hb : Own B w v l) (ad : Addr) (m c : Nat) (news : List Int) (hm : news.length = m) (hx : a.eval x = .slice (some ad) m c) (hnews : ∀ j u, (news.map (Value.int .i64))[j]? = some u → w.cell? (ad.add j) = some u)
    (h63 : l.length + m ≤ 1000000) (hB : B ≤ w.heap.size) (h : ∀ ao cp w', Own B w' (.slice ao (l.length + m) cp) (l ++ news) → Turns v w (.slice ao (l.length + m) cp) w' → wpList Tryz.prog ops Q rest (a.put o.dst (.slice ao (l.length + m) cp)) w') : wpList Tryz.prog ops Q (o :: rest) a w := by
  obtain ⟨i, hi, hz0, hz1, hz2⟩ := info_parts infoInt
  refine wpList_plain hgd fun K hK => ?_
  obtain ⟨v', w', hr, h2, h3⟩ := run_append_turns (P := Tryz.prog) w B T o.type 3 i _ 1 8 hT hi hz0 hz1 hz2 rfl (by decide) v _ _ hb ad m c (news.map (Value.int .i64)) (by rw [List.length_map, hm, Nat.mul_one]) hnews (by
    intro u hu
    obtain ⟨n, _, rfl⟩ := List.mem_map.1 hu
    rfl) (by simp only [maxLen]; omega) (by omega) hB
  unfold Oper.wp execOp
  simp only [ho, resolve, invoke, builtin, Sem.run_bind, Sem.run_pure, Result.andThen_ok, List.map_toArray, List.map_cons, List.map_nil, hs, hx, hr]
  obtain ⟨ao, cp, rfl, -, -, -⟩ := row_slice h2
  exact hK _ _ (h ao cp w' (by unfold Own; rw [List.map_append, List.length_append, hm]; exact h2) h3)

/-- append of one number, in new memory. -/
theorem own_append1 {w : World} (hgd : o.guard = none) (s x : Operand) (T : TypeId) (hT : Tryz.prog.underlying T = some (.slice 3)) (ho : o.op = .call { callee := .builtin .append, args := #[s, x], argTypes := #[T, T] })
    (B : Nat) (v : Value) (l : List Int) (n : Int) (hs : a.eval s = v) (hb : Own B w v l) (hx : a.eval x = .slice (some ⟨w.heap.size, 0, none⟩) 1 1)
    (h63 : l.length + 1 ≤ 1000000) (hB : B ≤ w.heap.size) (h : ∀ ao cp w', Own B w' (.slice ao (l.length + 1) cp) (l ++ [n]) → Turns v w (.slice ao (l.length + 1) cp) w' → wpList Tryz.prog ops Q rest (a.put o.dst (.slice ao (l.length + 1) cp)) w') : wpList Tryz.prog ops Q (o :: rest) a (w.alloc (.cells #[.int .i64 n] 3)) :=
  own_append hgd s x T hT ho B v l hs (hb.alloc _) ⟨w.heap.size, 0, none⟩ 1 1 [n] rfl hx (news_of (heap_new w _)) h63 (by rw [World.size_alloc]; omega) (fun ao cp w' h1 h2 => h ao cp w' h1 (Turns.since ((Keeps.refl [] w).alloc _) h2))
end
/-- A slice of slices of numbers, all in blocks from B on. -/
def Rows2 (B : Nat) (w : World) (v : Value) (LL : List (List Int)) : Prop :=
  ∃ VS : List Value, SliceFrom B 1 (fun x => [x]) w v VS ∧ VS.length = LL.length ∧ ∀ i (h : i < VS.length) (h' : i < LL.length), Ints B w VS[i] LL[i]

theorem Rows2.keep {B : Nat} {w w' : World} {v : Value} {LL : List (List Int)} {S : List Nat} (h : Rows2 B w v LL) (k : Keeps S w w') (hS : ∀ x ∈ S, x < B) : Rows2 B w' v LL := by
  obtain ⟨VS, h1, h2, h3⟩ := h
  exact ⟨VS, h1.keep k hS, h2, fun i hi hi' => (h3 i hi hi').keep k hS⟩

instance go1Rows {w w' : World} (B : Nat) (v : Value) (LL : List (List Int)) : Go1 w w' (Rows2 B w v LL) (Rows2 B w' v LL) := ⟨fun k h => h.keep k (by simp)⟩

theorem Rows2.at_ {B : Nat} {w : World} {a : Option Addr} {n c : Nat} {LL : List (List Int)} (h : Rows2 B w (.slice a n c) LL) (i : Nat) (hi : i < LL.length) :
    ∃ b off u, a = some ⟨b, off, none⟩ ∧ b < w.heap.size ∧ w.cell? ⟨b, off + i, none⟩ = some u ∧ Ints B w u LL[i] := by
  obtain ⟨VS, h1, h2, h3⟩ := h
  obtain ⟨b, off, e, hb, hc⟩ := sf_at1 h1 i (by omega)
  exact ⟨b, off, VS[i], e, hb, hc, h3 i (by omega) hi⟩

theorem Rows2.form {B : Nat} {w : World} {v : Value} {LL : List (List Int)} (h : Rows2 B w v LL) : ∃ ao cap, v = .slice ao LL.length cap ∧ LL.length ≤ maxLen ∧ LL.length ≤ cap ∧ (ao = none → cap = 0) := by
  obtain ⟨VS, ⟨ao, cap, e, h1, h2, h3, -⟩, hl, -⟩ := h
  rw [hl] at e h1 h2
  exact ⟨ao, cap, e, h1, h2, h3⟩

theorem rows2_of {B : Nat} {w : World} {v : Value} {e : TypeId} {VS : List Value} {LL : List (List Int)} (hr : w.ownsRow B e 1 v VS.length VS) (hl : VS.length = LL.length) (h : ∀ i (h : i < VS.length) (h' : i < LL.length), Ints B w VS[i] LL[i]) : Rows2 B w v LL :=
  ⟨VS, sliceFrom_row (e := e) (fun _ => rfl) (by rw [flat_one]; simpa using hr), hl, h⟩

/-! ## The document's words -/
def InRel (w : World) (l : List Int) (n : Int) (gk : Nat) (u : Value) (wr : World) : Prop := ∃ k, k ≤ l.length ∧ gk = l.length - k ∧ u = .int .i64 k ∧ n ∉ l.take k ∧ wr = w

theorem take_not {l : List Int} {n : Int} {k : Nat} (hk : k < l.length) (h : n ∉ l.take k) (hx : ¬ l[k] = n) : n ∉ l.take (k + 1) := by
  rw [List.take_succ_eq_append_getElem hk]
  simp only [List.mem_append, List.mem_singleton, not_or]
  exact ⟨h, fun e => hx e.symm⟩

end Go.Proofs.YtkffpcmminlndaaGreatDoor

namespace Go.Proofs.YtkffpcmminlndaaGreatDoor
open Go Go.RowKit

def PutRel (w : World) (l : List Int) (n : Int) (gk : Nat) (u5 u6 u15 : Value) (wr : World) : Prop :=
  ∃ k, k ≤ l.length ∧ gk = l.length - k ∧ u15 = .int .i64 k ∧ u6 = .bool (putDone l n k) ∧ Own w.heap.size wr u5 (putSo l n k) ∧ Keeps [] w wr

end Go.Proofs.YtkffpcmminlndaaGreatDoor

namespace Go.Proofs.YtkffpcmminlndaaGreatDoor
open Go Go.RowKit

def AnyRel (w : World) (LL : List (List Int)) (gk : Nat) (u3 u11 : Value) (wr : World) : Prop :=
  ∃ k, k ≤ LL.length ∧ gk = LL.length - k ∧ u11 = .int .i64 k ∧ Own w.heap.size wr u3 (anyL (LL.take k)) ∧ Keeps [] w wr

def AnyRel2 (base : Nat) (wo : World) (L X : List Int) (gk : Nat) (u3 u17 : Value) (wr : World) : Prop :=
  ∃ j, j ≤ L.length ∧ gk = L.length - j ∧ u17 = .int .i64 j ∧ Own base wr u3 ((L.take j).foldl putL X) ∧ Keeps [] wo wr


def LessRel (w : World) (a b : List Int) (gk : Nat) (u5 u11 : Value) (wr : World) : Prop :=
  ∃ k, k ≤ a.length ∧ gk = a.length - k ∧ u11 = .int .i64 k ∧ Own w.heap.size wr u5 ((a.take k).filter fun n => !decide (n ∈ b)) ∧ Keeps [] w wr


def BothRel (w : World) (LL : List (List Int)) (A : List Int) (ga : Nat) (oa : Obj) (gk : Nat) (u3 u13 : Value) (wr : World) : Prop :=
  ∃ k, k ≤ A.length ∧ gk = A.length - k ∧ u13 = .int .i64 k ∧ Own w.heap.size wr u3 ((A.take k).filter (inAll LL)) ∧ Keeps [] w wr ∧ wr.heap[ga]? = some oa ∧ ∀ g, u3.ownBlock = some g → g ≠ ga

def BothRel2 (wo : World) (LL : List (List Int)) (n : Int) (gk : Nat) (u6 u19 : Value) (wr : World) : Prop :=
  ∃ j, j ≤ LL.length ∧ gk = LL.length - j ∧ u19 = .int .i64 j ∧ u6 = .bool (inAll (LL.take j) n) ∧ wr = wo

theorem own_block {B : Nat} {w : World} {v : Value} {l : List Int} (h : Own B w v l) (hne : v ≠ .slice none 0 0) : ∃ g c o, v = .slice (some ⟨g, 0, none⟩) l.length c ∧ l.length ≤ c ∧ c ≤ maxLen ∧ B ≤ g ∧ w.heap[g]? = some o ∧ ∀ w' : World, w'.heap[g]? = some o → ∀ i (hi : i < l.length), w'.cell? ⟨g, i, none⟩ = some (.int .i64 l[i]) := by
  have hx := h
  obtain ⟨hl, ⟨rfl, hn⟩ | ⟨g, cap, cur, rfl, hbg, hg, hnc, hcm, hcs, htake⟩⟩ := h
  · exact absurd rfl hne
  · refine ⟨g, cap, _, rfl, hnc, hcm, hbg, hg, fun w' hw' i hi => ?_⟩
    rw [World.cell?_of_block (hw'.trans hg.symm)]
    rw [World.ownsRow.cellAt hx i (by omega)]
    simp [hi]

end Go.Proofs.YtkffpcmminlndaaGreatDoor

namespace Go.Proofs.YtkffpcmminlndaaGreatDoor
open Go Go.RowKit

theorem ints_news {B : Nat} {w : World} {ad : Addr} {n c : Nat} {l : List Int} (h : Ints B w (.slice (some ad) n c) l) : ∀ j u, (l.map (Value.int .i64))[j]? = some u → w.cell? (ad.add j) = some u := by
  intro j u hu
  have hj : j < l.length := by
    have := (List.getElem?_eq_some_iff.1 hu).1
    simpa using this
  obtain ⟨b, off, e, hb, hc⟩ := sf_at1 h j hj
  injection e with e
  subst e
  rw [List.getElem?_map, List.getElem?_eq_getElem hj] at hu
  injection hu with hu
  subst hu
  have hadd : (⟨b, off, none⟩ : Addr).add j = ⟨b, off + j, none⟩ := by unfold Addr.add; split <;> simp_all
  rw [hadd]
  exact hc

theorem run_equalIn_slice_nilP {P : Program} (w : World) (d : Nat) (t e : TypeId) (a : Option Addr) (n c : Nat) (h : P.underlying t = some (.slice e)) :
    (Op.equalIn (d + 1) t (.slice a n c) (.slice none 0 0)).run P w = .ok a.isNone w := by
  cases a <;> simp [Op.equalIn, run_underlying h]

theorem run_eql_slice_nilP {P : Program} (w : World) (t e : TypeId) (a : Option Addr) (n c : Nat) (h : P.underlying t = some (.slice e)) :
    (binOp .eql t (.slice a n c) (.slice none 0 0)).run P w = .ok (.bool a.isNone) w := by
  simp only [binOp]
  simp [show Op.equal t (.slice a n c) (.slice none 0 0) = Op.equalIn (9999 + 1) t (.slice a n c) (.slice none 0 0) from rfl, run_equalIn_slice_nilP w 9999 t e a n c h]


def MeetRel (w : World) (a b : List Int) (gk : Nat) (u5 u6 u7 : Value) (wr : World) : Prop :=
  ∃ i k, i ≤ a.length ∧ k ≤ b.length ∧ gk = (a.length - i) + (b.length - k) ∧ u6 = .int .i64 i ∧ u7 = .int .i64 k ∧ Beside a b i k ∧ Own w.heap.size wr u5 ((a.take i).filter fun n => decide (n ∈ b)) ∧ Keeps [] w wr


def BothPRel (w : World) (LL : List (List Int)) (l : List Int) (gk : Nat) (u3 u16 : Value) (wr : World) : Prop :=
  ∃ k, k ≤ LL.length ∧ gk = LL.length - k ∧ u16 = .int .i64 k ∧ Own w.heap.size wr u3 ((LL.take k).foldl meetL l) ∧ Keeps [] w wr

theorem meet_fold_len : ∀ (LL : List (List Int)) (l : List Int), (LL.foldl meetL l).length ≤ l.length
  | [], _ => Nat.le_refl _
  | x :: LL, l => Nat.le_trans (meet_fold_len LL (meetL l x)) (meetL_len l x)

theorem meet_snoc {LL : List (List Int)} {l : List Int} {k : Nat} (hk : k < LL.length) : (LL.take (k + 1)).foldl meetL l = meetL ((LL.take k).foldl meetL l) LL[k] := by
  rw [List.take_succ_eq_append_getElem hk, List.foldl_append]
  rfl


def LessPRel (w : World) (a b : List Int) (gk : Nat) (u5 u6 u11 : Value) (wr : World) : Prop :=
  ∃ i k, i ≤ a.length ∧ k ≤ b.length ∧ gk = a.length - i ∧ u11 = .int .i64 i ∧ u6 = .int .i64 k ∧ Beside a b i k ∧ Own w.heap.size wr u5 ((a.take i).filter fun n => !decide (n ∈ b)) ∧ Keeps [] w wr

def LessPRel2 (wo : World) (a b : List Int) (i : Nat) (gk : Nat) (u6 : Value) (wr : World) : Prop :=
  ∃ k, k ≤ b.length ∧ gk = b.length - k ∧ u6 = .int .i64 k ∧ Beside a b i k ∧ wr = wo

theorem Beside.outL {a b : List Int} {i k : Nat} (h : Beside a b i k) (hb : Rises b) (hi : i < a.length) (hk : k ≤ b.length) (hge : ∀ hk : k < b.length, a[i] < b[k]) : a[i] ∉ b := by
  by_cases hkl : k < b.length
  · exact h.out hb hi (.inr ⟨hkl, hge hkl⟩)
  · exact h.out hb hi (.inl (by omega))

end Go.Proofs.YtkffpcmminlndaaGreatDoor

namespace Go.Proofs.YtkffpcmminlndaaGreatDoor
open Go Go.RowKit Go.Sort


theorem putRow_ahead_heap (w : World) (q g : Nat) (d : Array Int) : (putRow (Value.int .i64) (Sort.ahead w q) g 0 d) = grow (putRow (Value.int .i64) (Sort.ahead w q) g 0 d) #[] := by
  generalize putRow (Value.int .i64) (Sort.ahead w q) g 0 d = W
  cases W
  simp [grow]

section
variable {ops : Array Oper} {rest : List Oper} {o : Oper} {a : Act} {Q : Exit → Act → World → Prop}
/-- append of all numbers of a slice, nil or not. -/
theorem own_appendV {w : World} (hgd : o.guard = none) (s x : Operand) (T : TypeId) (hT : Tryz.prog.underlying T = some (.slice 3)) (ho : o.op = .call { callee := .builtin .append, args := #[s, x], argTypes := #[T, T] })
    (B B' : Nat) (v u : Value) (l news : List Int) (hs : a.eval s = v) (hb : Own B w v l) (hx : a.eval x = u) (hu : Ints B' w u news)
    (h63 : l.length + news.length ≤ 1000000) (hB : B ≤ w.heap.size) (h : ∀ ao cp w', Own B w' (.slice ao (l.length + news.length) cp) (l ++ news) → Turns v w (.slice ao (l.length + news.length) cp) w' → wpList Tryz.prog ops Q rest (a.put o.dst (.slice ao (l.length + news.length) cp)) w') : wpList Tryz.prog ops Q (o :: rest) a w := by
  have hu2 := hu
  obtain ⟨ao, cap, rfl, -, hlc, hnil, -⟩ := hu2
  cases ao with
  | some ad => exact own_append hgd s x T hT ho B v l hs hb ad news.length cap news rfl hx (ints_news hu) h63 hB h
  | none =>
    have hc := hnil rfl
    have h0 : news = [] := List.eq_nil_of_length_eq_zero (by omega)
    subst h0 hc
    obtain ⟨i, hi, hz0, hz1, hz2⟩ := info_parts infoInt
    refine wpList_append_own_none hgd s x T ho B 3 i 1 hT hi v l.length _ hs hb hx ?_
    obtain ⟨av, cv, rfl, -, -, -⟩ := row_slice hb
    exact h av cv w (by simpa using hb) (Turns.refl _ _)
end
def AnyPRel (w : World) (LL : List (List Int)) (gk : Nat) (u3 u8 : Value) (wr : World) : Prop :=
  ∃ k, k ≤ LL.length ∧ gk = LL.length - k ∧ u8 = .int .i64 k ∧ Own w.heap.size wr u3 (LL.take k).flatten ∧ Keeps [] w wr

theorem flat_snoc {LL : List (List Int)} {k : Nat} (hk : k < LL.length) : (LL.take (k + 1)).flatten = (LL.take k).flatten ++ LL[k] := by
  rw [List.take_succ_eq_append_getElem hk, List.flatten_append]
  simp

theorem anyP_len (l : List Int) : (anyP l).length ≤ l.length := by
  unfold anyP
  have := Lib.compact_length_le (l.mergeSort fun x y => decide (x ≤ y))
  rw [List.length_mergeSort] at this
  exact this

end Go.Proofs.YtkffpcmminlndaaGreatDoor

namespace Go.Proofs.YtkffpcmminlndaaGreatDoor
open Go Go.RowKit

/-- A world in which only new blocks have come since W. -/
structure Kept (W : World) where
  val : World
  property : Keeps [] W val
instance (W : World) : Nonempty (Kept W) := ⟨⟨W, Keeps.refl [] W⟩⟩
def KeptS (W w : World) : Prop := ∃ s : Kept W, w = s.val

theorem keptS {W w : World} (h : Keeps [] W w) : KeptS W w := ⟨⟨w, h⟩, rfl⟩

theorem keptCell {W : World} {b i : Nat} {u : Value} (h : W.cell? ⟨b, i, none⟩ = some u) : ∀ s : Kept W, s.val.cell? ⟨b, i, none⟩ = some u := fun s => (s.property.cell (World.block_lt_of_cell? W _ h) (by simp)).trans h

theorem rows_ne2 {w : World} {b1 b2 s1 s2 n1 n2 : Nat} {e1 e2 : TypeId} {v1 v2 : Value} {x1 x2 : List Value} (h1 : w.ownsRow b1 e1 s1 v1 n1 x1) (h2 : w.ownsRow b2 e2 s2 v2 n2 x2) (he : e1 ≠ e2) : ∀ g, v2.ownBlock = some g → g ∉ v1.ownBlock.toList := by
  intro g hg hm
  obtain ⟨_, ⟨rfl, _⟩ | ⟨g2, c2, r2, rfl, _, hb2, _⟩⟩ := h2
  · simp [Value.ownBlock] at hg
  · simp [Value.ownBlock] at hg
    subst hg
    exact row_ne_cells h1 hb2 (fun e => he e.symm) _ (by simpa using hm) rfl
section
variable {ops : Array Oper} {rest : List Oper} {o : Oper} {a : Act} {Q : Exit → Act → World → Prop}
/-- append of one value, in new memory. -/
theorem row_append1 {w : World} (hgd : o.guard = none) (s x : Operand) (T e : TypeId) {z : Value} {bytes : Nat} (hi : (Tryz.prog.info? e).map (fun i => (i.zero, i.size, i.bytes)) = some (some z, 1, bytes)) (hz : z.cells.size = 1) (hby : bytes ≤ 64)
    (hT : Tryz.prog.underlying T = some (.slice e)) (ho : o.op = .call { callee := .builtin .append, args := #[s, x], argTypes := #[T, T] })
    (B : Nat) (v : Value) (VS : List Value) (u : Value) (h1 : u.oneCell' = true) (n : Nat) (hn : VS.length = n) (hs : a.eval s = v) (hb : w.ownsRow B e 1 v n VS) (hx : a.eval x = .slice (some ⟨w.heap.size, 0, none⟩) 1 1)
    (h63 : n + 1 ≤ 1000000) (hB : B ≤ w.heap.size) (h : ∀ ao cp w', w'.ownsRow B e 1 (.slice ao (n + 1) cp) (n + 1) (VS ++ [u]) → Turns v w (.slice ao (n + 1) cp) w' → wpList Tryz.prog ops Q rest (a.put o.dst (.slice ao (n + 1) cp)) w') : wpList Tryz.prog ops Q (o :: rest) a (w.alloc (.cells #[u] e)) := by
  obtain ⟨i, hi, hz0, hz1, hz2⟩ := info_parts hi
  refine wpList_plain hgd fun K hK => ?_
  obtain ⟨v', w', hr, h2, h3⟩ := run_append_turns (P := Tryz.prog) (w.alloc (.cells #[u] e)) B T o.type e i z 1 bytes hT hi hz0 hz1 hz2 hz (by decide) v n VS (hb.alloc _) ⟨w.heap.size, 0, none⟩ 1 1 [u] rfl (news_of (heap_new w _)) (by
    intro y hy
    obtain rfl : y = u := by simpa using hy
    exact h1) (by simp only [maxLen]; omega) (by have := Nat.mul_le_mul h63 hby; omega) (by rw [World.size_alloc]; omega)
  unfold Oper.wp execOp
  simp only [ho, resolve, invoke, builtin, Sem.run_bind, Sem.run_pure, Result.andThen_ok, List.map_toArray, List.map_cons, List.map_nil, hs, hx, hr]
  obtain ⟨ao, cp, rfl, -, -, -⟩ := row_slice h2
  exact hK _ _ (h ao cp w' h2 (Turns.since ((Keeps.refl [] w).alloc _) h3))
end
theorem ints_take {B : Nat} {w : World} {a : Option Addr} {n c : Nat} {L : List Int} (h : Ints B w (.slice a n c) L) (k : Nat) : Ints B w (.slice a (min n k) c) (L.take k) := by
  obtain ⟨ao, cap, e, h1, h2, h3, h4⟩ := h
  injection e with e1 e2 e3
  subst e1 e2 e3
  refine ⟨_, _, by rw [List.length_take, Nat.min_comm], by rw [List.length_take]; omega, by rw [List.length_take]; omega, h3, fun i hi => ?_⟩
  have hi' : i < L.length := by rw [List.length_take] at hi; omega
  obtain ⟨b, off, e, hb, hlt, hc⟩ := h4 i hi'
  refine ⟨b, off, e, hb, hlt, fun j hj => ?_⟩
  rw [hc j hj, List.getElem_take]

/-- Slices in new memory. -/
theorem rows2_new {B : Nat} {w : World} {g n : Nat} {e : TypeId} {VS : List Value} {LL : List (List Int)} (hg : w.heap[g]? = some (.cells VS.toArray e (0, 0))) (hB : B ≤ g) (hn : VS.length = n) (hm : n ≤ maxLen) (hl : VS.length = LL.length) (h : ∀ i (h : i < VS.length) (h' : i < LL.length), Ints B w VS[i] LL[i]) : Rows2 B w (.slice (some ⟨g, 0, none⟩) n n) LL := by
  subst hn
  refine ⟨VS, ⟨_, _, rfl, hm, Nat.le_refl _, (fun e => by cases e), fun i hi => ⟨g, 0, rfl, hB, lt_of_at hg, fun j hj => ?_⟩⟩, hl, h⟩
  obtain rfl : j = 0 := by omega
  rw [cells_at hg]
  simp [hi]

theorem rows2_new1 {B : Nat} {w : World} {g : Nat} {e : TypeId} {u : Value} {l : List Int} (hg : w.heap[g]? = some (.cells #[u] e (0, 0))) (hB : B ≤ g) (h : Ints B w u l) : Rows2 B w (.slice (some ⟨g, 0, none⟩) 1 1) [l] :=
  rows2_new (VS := [u]) hg hB rfl (by simp [maxLen]) rfl (fun i hi hi' => by
    obtain rfl : i = 0 := by simpa using hi
    exact h)

theorem rows2_new2 {B : Nat} {w : World} {g : Nat} {e : TypeId} {u v : Value} {l m : List Int} (hg : w.heap[g]? = some (.cells #[u, v] e (0, 0))) (hB : B ≤ g) (h : Ints B w u l) (h2 : Ints B w v m) : Rows2 B w (.slice (some ⟨g, 0, none⟩) 2 2) [l, m] :=
  rows2_new (VS := [u, v]) hg hB rfl (by simp [maxLen]) rfl (fun i hi hi' => by
    match i with
    | 0 => exact h
    | 1 => exact h2
    | n + 2 => exact absurd hi (by show ¬ n + 2 < 2; omega))

theorem rows2_new3 {B : Nat} {w : World} {g : Nat} {e : TypeId} {u v x : Value} {l m k : List Int} (hg : w.heap[g]? = some (.cells #[u, v, x] e (0, 0))) (hB : B ≤ g) (h : Ints B w u l) (h2 : Ints B w v m) (h3 : Ints B w x k) : Rows2 B w (.slice (some ⟨g, 0, none⟩) 3 3) [l, m, k] :=
  rows2_new (VS := [u, v, x]) hg hB rfl (by simp [maxLen]) rfl (fun i hi hi' => by
    match i with
    | 0 => exact h
    | 1 => exact h2
    | 2 => exact h3
    | n + 3 => exact absurd hi (by show ¬ n + 3 < 3; omega))
end Go.Proofs.YtkffpcmminlndaaGreatDoor
