/-
  Lists of numbers, rising, each once: plain laws (package posting and the document's answer for it), no program in sight.
  No condition beyond those that each theorem states.
-/
import Derived.Test.YtlifonflgcfafaaGreatDoorBase
import Derived.Lib.SlicesCompact
namespace Go.Proofs.YtlifonflgcfafaaGreatDoor

/-- Rising, each once. -/
abbrev Rises (l : List Int) : Prop := l.Pairwise (· < ·)

theorem rises_ext : ∀ {a b : List Int}, Rises a → Rises b → (∀ n, n ∈ a ↔ n ∈ b) → a = b
  | [], [], _, _, _ => rfl
  | [], y :: b, _, _, h => by have := (h y).2 (by simp); simp at this
  | x :: a, [], _, _, h => by have := (h x).1 (by simp); simp at this
  | x :: a, y :: b, ha, hb, h => by
    have ha' := List.pairwise_cons.1 ha
    have hb' := List.pairwise_cons.1 hb
    have hxy : x = y := by
      have h1 := (h x).1 (by simp)
      have h2 := (h y).2 (by simp)
      rcases List.mem_cons.1 h1 with h1 | h1
      · exact h1
      · rcases List.mem_cons.1 h2 with h2 | h2
        · exact h2.symm
        · have := ha'.1 y h2
          have := hb'.1 x h1
          omega
    subst hxy
    congr 1
    refine rises_ext ha'.2 hb'.2 fun n => ?_
    have hn := h n
    constructor
    · intro hm
      have hne : n ≠ x := by have := ha'.1 n hm; omega
      have := hn.1 (List.mem_cons_of_mem _ hm)
      simpa [hne] using this
    · intro hm
      have hne : n ≠ x := by have := hb'.1 n hm; omega
      have := hn.2 (List.mem_cons_of_mem _ hm)
      simpa [hne] using this

/-! ## The document's words -/
/-- n ahead of the first that is greater. -/
def insL (n : Int) : List Int → List Int
  | [] => [n]
  | x :: l => if n < x then n :: x :: l else x :: insL n l

def putL (l : List Int) (n : Int) : List Int := if n ∈ l then l else insL n l

theorem mem_insL {n m : Int} : ∀ {l : List Int}, m ∈ insL n l ↔ m = n ∨ m ∈ l
  | [] => by simp [insL]
  | x :: l => by
    unfold insL
    split
    · simp
    · simp only [List.mem_cons, mem_insL (l := l)]
      constructor
      · rintro (h | h | h) <;> simp [h]
      · rintro (h | h | h) <;> simp [h]

theorem insL_rises {n : Int} : ∀ {l : List Int}, Rises l → n ∉ l → Rises (insL n l)
  | [], _, _ => by simp [insL]
  | x :: l, h, hn => by
    have h' := List.pairwise_cons.1 h
    unfold insL
    split
    · rename_i hlt
      refine List.pairwise_cons.2 ⟨fun y hy => ?_, h⟩
      rcases List.mem_cons.1 hy with rfl | hy
      · exact hlt
      · have := h'.1 y hy; omega
    · rename_i hlt
      have hne : n ≠ x := fun e => hn (by simp [e])
      refine List.pairwise_cons.2 ⟨fun y hy => ?_, insL_rises h'.2 (fun hm => hn (List.mem_cons_of_mem _ hm))⟩
      rcases mem_insL.1 hy with rfl | hy
      · omega
      · exact h'.1 y hy

theorem length_insL (n : Int) : ∀ l : List Int, (insL n l).length = l.length + 1
  | [] => rfl
  | x :: l => by
    unfold insL
    split
    · simp
    · simp [length_insL n l]

theorem mem_putL {l : List Int} {n m : Int} : m ∈ putL l n ↔ m = n ∨ m ∈ l := by
  unfold putL
  split
  · rename_i h
    constructor
    · intro hm; exact .inr hm
    · rintro (rfl | hm)
      · exact h
      · exact hm
  · exact mem_insL

theorem putL_rises {l : List Int} {n : Int} (h : Rises l) : Rises (putL l n) := by
  unfold putL
  split
  · exact h
  · rename_i hn; exact insL_rises h hn

theorem length_putL (l : List Int) (n : Int) : (putL l n).length ≤ l.length + 1 := by
  unfold putL
  split
  · omega
  · rw [length_insL]; omega

/-- What the loop of Put has laid behind k of the list, and whether n is in. -/
def putDone (l : List Int) (n : Int) (k : Nat) : Bool := decide (n ∈ l) || (l.take k).any fun x => decide (n < x)

def putSo (l : List Int) (n : Int) (k : Nat) : List Int := if n ∈ l then l.take k else if (l.take k).any fun x => decide (n < x) then insL n (l.take k) else l.take k

theorem putSo_zero (l : List Int) (n : Int) : putSo l n 0 = [] := by unfold putSo; split <;> simp

theorem insL_snoc {n y : Int} : ∀ {l : List Int}, (l.any fun x => decide (n < x)) = true → insL n (l ++ [y]) = insL n l ++ [y]
  | [], h => by simp at h
  | x :: l, h => by
    rw [List.cons_append]
    simp only [insL]
    split
    · rfl
    · rename_i hx
      have : (l.any fun x => decide (n < x)) = true := by simpa [hx] using h
      rw [insL_snoc this]
      rfl

theorem insL_last {n y : Int} (hy : n < y) : ∀ {l : List Int}, (l.any fun x => decide (n < x)) = false → insL n (l ++ [y]) = l ++ [n, y]
  | [], _ => by simp [insL, hy]
  | x :: l, h => by
    have hx : ¬ n < x := by simp at h; omega
    have hl : (l.any fun x => decide (n < x)) = false := by
      simp at h ⊢
      exact h.2
    rw [List.cons_append]
    simp only [insL, if_neg hx]
    rw [insL_last hy hl]
    rfl

theorem insL_none {n : Int} : ∀ {l : List Int}, (l.any fun x => decide (n < x)) = false → insL n l = l ++ [n]
  | [], _ => rfl
  | x :: l, h => by
    have hx : ¬ n < x := by simp at h; omega
    have hl : (l.any fun x => decide (n < x)) = false := by
      simp at h ⊢
      exact h.2
    simp only [insL, if_neg hx]
    rw [insL_none hl]
    rfl

theorem put_done_succ {l : List Int} {n : Int} {k : Nat} (hk : k < l.length) : putDone l n (k + 1) = (putDone l n k || decide (n < l[k])) := by
  unfold putDone
  rw [List.take_succ_eq_append_getElem hk, List.any_append]
  simp [Bool.or_assoc]

theorem putSo_succ {l : List Int} {n : Int} {k : Nat} (hk : k < l.length) : putSo l n (k + 1) = putSo l n k ++ (if putDone l n k = false ∧ n < l[k] then [n, l[k]] else [l[k]]) := by
  have ht := List.take_succ_eq_append_getElem hk
  unfold putSo putDone
  by_cases hm : n ∈ l
  · simp only [hm, decide_true, Bool.true_or]
    rw [ht]
    rfl
  · simp only [hm, if_false, decide_false, Bool.false_or]
    cases ha : (l.take k).any fun x => decide (n < x) with
    | true =>
      rw [ht, List.any_append, ha]
      simp only [Bool.true_or, if_true]
      rw [insL_snoc ha]
      simp
    | false =>
      rw [ht, List.any_append, ha]
      by_cases hx : n < l[k]
      · simp only [hx, Bool.false_or, List.any_cons, List.any_nil, decide_true, Bool.or_false, if_true, and_self]
        rw [insL_last hx ha]
        simp
      · simp [hx]

theorem putL_so (l : List Int) (n : Int) : putL l n = if putDone l n l.length = false then putSo l n l.length ++ [n] else putSo l n l.length := by
  unfold putL putDone putSo
  rw [List.take_length]
  by_cases hm : n ∈ l
  · simp [hm]
  · simp only [hm, if_false, decide_false, Bool.false_or]
    cases ha : l.any fun x => decide (n < x) with
    | true => simp
    | false => simp [insL_none ha]

theorem putSo_len (l : List Int) (n : Int) (k : Nat) : (putSo l n k).length ≤ k + 1 := by
  unfold putSo
  have := List.length_take_le k l
  split
  · omega
  · split
    · rw [length_insL]; omega
    · omega


def anyL (LL : List (List Int)) : List Int := LL.flatten.foldl putL []

theorem foldl_putL (L : List Int) : ∀ (l : List Int), Rises l → Rises (L.foldl putL l) ∧ ∀ n, n ∈ L.foldl putL l ↔ n ∈ l ∨ n ∈ L := by
  induction L with
  | nil => intro l h; exact ⟨h, by simp⟩
  | cons x L ih =>
    intro l h
    obtain ⟨h1, h2⟩ := ih (putL l x) (putL_rises h)
    refine ⟨h1, fun n => ?_⟩
    rw [List.foldl_cons, h2, mem_putL, List.mem_cons]
    constructor
    · rintro ((h | h) | h) <;> simp [h]
    · rintro (h | h | h) <;> simp [h]

theorem anyL_rises (LL : List (List Int)) : Rises (anyL LL) := (foldl_putL _ [] List.Pairwise.nil).1

theorem mem_anyL {LL : List (List Int)} {n : Int} : n ∈ anyL LL ↔ ∃ l ∈ LL, n ∈ l := by
  unfold anyL
  rw [(foldl_putL _ [] List.Pairwise.nil).2]
  simp

theorem foldl_putL_len (L : List Int) : ∀ l : List Int, (L.foldl putL l).length ≤ l.length + L.length := by
  induction L with
  | nil => intro l; simp
  | cons x L ih =>
    intro l
    rw [List.foldl_cons]
    have := ih (putL l x)
    have := length_putL l x
    rw [List.length_cons]
    omega

theorem anyL_len (LL : List (List Int)) : (anyL LL).length ≤ LL.flatten.length := by
  have := foldl_putL_len LL.flatten []
  simpa [anyL] using this

theorem anyL_one {l : List Int} (h : Rises l) : anyL [l] = l := rises_ext (anyL_rises _) h fun n => by rw [mem_anyL]; simp

def inAll (LL : List (List Int)) (n : Int) : Bool := LL.all fun l => decide (n ∈ l)

def bothL (LL : List (List Int)) : List Int := (anyL LL).filter (inAll LL)

def lessL (a b : List Int) : List Int := a.filter fun n => !decide (n ∈ b)

def meetL (a b : List Int) : List Int := a.filter fun n => decide (n ∈ b)

theorem filter_rises {l : List Int} (p : Int → Bool) (h : Rises l) : Rises (l.filter p) := List.Pairwise.filter p h

theorem mem_bothL {LL : List (List Int)} {n : Int} : n ∈ bothL LL ↔ LL ≠ [] ∧ ∀ l ∈ LL, n ∈ l := by
  unfold bothL inAll
  rw [List.mem_filter, mem_anyL, List.all_eq_true]
  simp only [decide_eq_true_eq]
  constructor
  · rintro ⟨⟨l, hl, _⟩, h2⟩
    refine ⟨fun e => ?_, h2⟩
    subst e
    cases hl
  · rintro ⟨h1, h2⟩
    cases LL with
    | nil => exact absurd rfl h1
    | cons l LL => exact ⟨⟨l, by simp, h2 l (by simp)⟩, h2⟩

theorem bothL_rises (LL : List (List Int)) : Rises (bothL LL) := filter_rises _ (anyL_rises LL)
/-! ## The program's -/
def bothP : List (List Int) → List Int
  | [] => []
  | l :: LL => LL.foldl meetL l

theorem meet_fold (LL : List (List Int)) : ∀ (l : List Int), Rises l → Rises (LL.foldl meetL l) ∧ ∀ n, n ∈ LL.foldl meetL l ↔ n ∈ l ∧ ∀ x ∈ LL, n ∈ x := by
  induction LL with
  | nil => intro l h; exact ⟨h, by simp⟩
  | cons y LL ih =>
    intro l h
    obtain ⟨h1, h2⟩ := ih (meetL l y) (filter_rises _ h)
    refine ⟨h1, fun n => ?_⟩
    rw [List.foldl_cons, h2]
    unfold meetL
    rw [List.mem_filter]
    simp only [decide_eq_true_eq, List.mem_cons, forall_eq_or_imp, and_assoc]

theorem bothP_eq {LL : List (List Int)} (h : ∀ l ∈ LL, Rises l) : bothP LL = bothL LL := by
  cases LL with
  | nil => rfl
  | cons l LL =>
    obtain ⟨h1, h2⟩ := meet_fold LL l (h l (by simp))
    refine rises_ext h1 (bothL_rises _) fun n => ?_
    show n ∈ LL.foldl meetL l ↔ _
    rw [h2, mem_bothL]
    simp

theorem meetL_len (a b : List Int) : (meetL a b).length ≤ a.length := List.length_filter_le _ _

theorem lessL_len (a b : List Int) : (lessL a b).length ≤ a.length := List.length_filter_le _ _

/-! ## Two rows side by side -/
/-- All of b ahead of k is below all of a from i on. -/
def Beside (a b : List Int) (i k : Nat) : Prop := ∀ j (hj : j < b.length), j < k → ∀ t (ht : t < a.length), i ≤ t → b[j] < a[t]

theorem beside_zero (a b : List Int) : Beside a b 0 0 := fun j _ h => by omega

theorem rises_lt {a : List Int} (h : Rises a) {i j : Nat} (hij : i < j) (hj : j < a.length) : a[i]'(by omega) < a[j] := List.pairwise_iff_getElem.1 h i j (by omega) hj hij

theorem Beside.left {a b : List Int} {i k : Nat} (h : Beside a b i k) : Beside a b (i + 1) k := fun j hj hk t ht hi => h j hj hk t ht (by omega)

theorem Beside.right {a b : List Int} {i k : Nat} (h : Beside a b i k) (ha : Rises a) (hi : i < a.length) (hk : k < b.length) (hlt : b[k] < a[i]) : Beside a b i (k + 1) := fun j hj hjk t ht hit => by
  by_cases hj' : j < k
  · exact h j hj hj' t ht hit
  · obtain rfl : j = k := by omega
    by_cases he : t = i
    · subst he; exact hlt
    · have := rises_lt ha (show i < t by omega) ht
      omega

theorem Beside.both {a b : List Int} {i k : Nat} (h : Beside a b i k) (ha : Rises a) (hi : i < a.length) (hk : k < b.length) (he : b[k] = a[i]) : Beside a b (i + 1) (k + 1) := fun j hj hjk t ht hit => by
  by_cases hj' : j < k
  · exact h j hj hj' t ht (by omega)
  · obtain rfl : j = k := by omega
    have := rises_lt ha (show i < t by omega) ht
    omega

theorem Beside.out {a b : List Int} {i k : Nat} (h : Beside a b i k) (hb : Rises b) (hi : i < a.length) (hk : k = b.length ∨ ∃ hk : k < b.length, a[i] < b[k]) : a[i] ∉ b := fun hm => by
  obtain ⟨j, hj, e⟩ := List.mem_iff_getElem.1 hm
  by_cases hjk : j < k
  · have := h j hj hjk i hi (Nat.le_refl _)
    omega
  · rcases hk with rfl | ⟨hk, hlt⟩
    · omega
    · by_cases he : j = k
      · subst he; omega
      · have := rises_lt hb (show k < j by omega) hj
        omega

theorem meet_step {a b : List Int} {i : Nat} (hi : i < a.length) : (a.take (i + 1)).filter (fun n => decide (n ∈ b)) = (a.take i).filter (fun n => decide (n ∈ b)) ++ if a[i] ∈ b then [a[i]] else [] := by
  rw [List.take_succ_eq_append_getElem hi, List.filter_append]
  congr 1
  by_cases h : a[i] ∈ b <;> simp [h]

theorem less_step {a b : List Int} {i : Nat} (hi : i < a.length) : (a.take (i + 1)).filter (fun n => !decide (n ∈ b)) = (a.take i).filter (fun n => !decide (n ∈ b)) ++ if a[i] ∈ b then [] else [a[i]] := by
  rw [List.take_succ_eq_append_getElem hi, List.filter_append]
  congr 1
  by_cases h : a[i] ∈ b <;> simp [h]

theorem meet_end {a b : List Int} {i k : Nat} (h : Beside a b i k) (hik : i ≤ a.length) (hk : i = a.length ∨ k = b.length) : (a.take i).filter (fun n => decide (n ∈ b)) = meetL a b := by
  unfold meetL
  conv => rhs; rw [← List.take_append_drop i a, List.filter_append]
  have : (a.drop i).filter (fun n => decide (n ∈ b)) = [] := by
    rw [List.filter_eq_nil_iff]
    intro n hn hm
    simp only [decide_eq_true_eq] at hm
    obtain ⟨t, ht, rfl⟩ := List.mem_iff_getElem.1 hn
    rw [List.getElem_drop] at hm
    rw [List.length_drop] at ht
    rcases hk with rfl | rfl
    · omega
    · obtain ⟨j, hj, e⟩ := List.mem_iff_getElem.1 hm
      have := h j hj hj (i + t) (by omega) (by omega)
      omega
  rw [this, List.append_nil]

/-- Sorted, and each once. -/
theorem compact_upto {d : Array Int} (h : ∀ i j, i < j → j < d.size → d[i]! ≤ d[j]!) : ∀ m, m ≤ d.size → Rises (Lib.compactUpTo d m) ∧ (∀ n, n ∈ Lib.compactUpTo d m ↔ ∃ j, j < m ∧ n = d[j]!)
  | 0, _ => by simp [Lib.compactUpTo]
  | m + 1, hm => by
    obtain ⟨h1, h2⟩ := compact_upto h m (by omega)
    rw [Lib.compactUpTo_succ]
    by_cases hk : Lib.keeps d m = true
    · rw [if_pos hk]
      have hne : m = 0 ∨ d[m]! ≠ d[m - 1]! := by simpa [Lib.keeps] using hk
      constructor
      · refine List.pairwise_append.2 ⟨h1, by simp, fun a ha b hb => ?_⟩
        obtain rfl : b = d[m]! := by simpa using hb
        obtain ⟨j, hj, rfl⟩ := (h2 a).1 ha
        have hle : d[j]! ≤ d[m - 1]! := by
          by_cases e : j = m - 1
          · subst e; omega
          · exact h j (m - 1) (by omega) (by omega)
        have hlm := h (m - 1) m (by omega) (by omega)
        rcases hne with hne | hne <;> omega
      · intro n
        rw [List.mem_append, h2]
        constructor
        · rintro (⟨j, hj, e⟩ | e)
          · exact ⟨j, by omega, e⟩
          · exact ⟨m, by omega, by simpa using e⟩
        · rintro ⟨j, hj, e⟩
          by_cases hjm : j < m
          · exact .inl ⟨j, hjm, e⟩
          · obtain rfl : j = m := by omega
            exact .inr (by simp [e])
    · rw [if_neg hk, List.append_nil]
      refine ⟨h1, fun n => ?_⟩
      rw [h2]
      have he : m ≠ 0 ∧ d[m]! = d[m - 1]! := by simpa [Lib.keeps] using hk
      constructor
      · rintro ⟨j, hj, e⟩
        exact ⟨j, by omega, e⟩
      · rintro ⟨j, hj, e⟩
        by_cases hjm : j < m
        · exact ⟨j, hjm, e⟩
        · obtain rfl : j = m := by omega
          exact ⟨j - 1, by omega, by rw [e, he.2]⟩

theorem compact_rises {l : List Int} (h : l.Pairwise (· ≤ ·)) : Rises (Lib.compact l) ∧ ∀ n, n ∈ Lib.compact l ↔ n ∈ l := by
  have hs : ∀ i j, i < j → j < l.toArray.size → l.toArray[i]! ≤ l.toArray[j]! := fun i j hij hj => by
    have hj' : j < l.length := by simpa using hj
    have := List.pairwise_iff_getElem.1 h i j (by omega) hj' hij
    simpa [getElem!_pos, hj', show i < l.length by omega] using this
  obtain ⟨h1, h2⟩ := compact_upto hs l.length (by simp)
  refine ⟨h1, fun n => ?_⟩
  show n ∈ Lib.compactUpTo l.toArray l.length ↔ _
  rw [h2]
  constructor
  · rintro ⟨j, hj, rfl⟩
    simp [hj]
  · intro hm
    obtain ⟨j, hj, e⟩ := List.mem_iff_getElem.1 hm
    exact ⟨j, hj, by simp [hj, e]⟩

/-- What Any computes: all in one, sorted, each once. -/
def anyP (l : List Int) : List Int := Lib.compact (l.mergeSort fun x y => decide (x ≤ y))

theorem sort_le (l : List Int) : (l.mergeSort fun x y => decide (x ≤ y)).Pairwise (· ≤ ·) := by
  have := List.pairwise_mergeSort (le := fun x y : Int => decide (x ≤ y)) (fun a b c => by simp; omega) (fun a b => by simp; omega) l
  exact this.imp (by simp)

theorem anyP_rises (l : List Int) : Rises (anyP l) := (compact_rises (sort_le l)).1

theorem anyP_eq (LL : List (List Int)) : anyP LL.flatten = anyL LL := by
  refine rises_ext (anyP_rises _) (anyL_rises LL) fun n => ?_
  unfold anyP
  rw [(compact_rises (sort_le _)).2, List.mem_mergeSort, mem_anyL, List.mem_flatten]
/-! ## The law -/
theorem laws_whole {x y : List Int} (hx : Rises x) : anyL [meetL x y, lessL x y] = x := by
  refine rises_ext (anyL_rises _) hx fun n => ?_
  rw [mem_anyL]
  unfold meetL lessL
  simp only [List.mem_cons, List.not_mem_nil, or_false, exists_eq_or_imp, exists_eq_left, List.mem_filter, decide_eq_true_eq, Bool.not_eq_true', decide_eq_false_iff_not]
  by_cases hy : n ∈ y <;> simp [hy]

theorem laws_both (x y z : List Int) : bothL [x, y, z] = bothL [z, x, y] := by
  refine rises_ext (bothL_rises _) (bothL_rises _) fun n => ?_
  rw [mem_bothL, mem_bothL]
  simp only [List.mem_cons, List.not_mem_nil, or_false, forall_eq_or_imp, forall_eq, ne_eq, reduceCtorEq, not_false_eq_true, true_and]
  constructor
  · rintro ⟨h1, h2, h3⟩; exact ⟨h3, h1, h2⟩
  · rintro ⟨h1, h2, h3⟩; exact ⟨h2, h3, h1⟩

theorem laws_any (x y z : List Int) : anyL [x, y, z] = anyL [anyL [y, z], x] := by
  refine rises_ext (anyL_rises _) (anyL_rises _) fun n => ?_
  rw [mem_anyL, mem_anyL]
  simp only [List.mem_cons, List.not_mem_nil, or_false, exists_eq_or_imp, exists_eq_left, mem_anyL]
  constructor
  · rintro (h | h | h) <;> simp [h]
  · rintro ((h | h) | h) <;> simp [h]

theorem laws_none (x y : List Int) : meetL x (lessL y x) = [] := by
  unfold meetL lessL
  rw [List.filter_eq_nil_iff]
  intro n hn
  simp [hn]
/-! ## Step by step -/
theorem any_snoc {LL : List (List Int)} {k : Nat} (hk : k < LL.length) : anyL (LL.take (k + 1)) = LL[k].foldl putL (anyL (LL.take k)) := by
  unfold anyL
  rw [List.take_succ_eq_append_getElem hk, List.flatten_append, List.foldl_append]
  simp

theorem fold_snoc {L X : List Int} {j : Nat} (hj : j < L.length) : (L.take (j + 1)).foldl putL X = putL ((L.take j).foldl putL X) L[j] := by
  rw [List.take_succ_eq_append_getElem hj, List.foldl_append]
  rfl

theorem flat_take {LL : List (List Int)} {k : Nat} (hk : k < LL.length) : (LL.take k).flatten.length + LL[k].length ≤ LL.flatten.length := by
  have h : (LL.take (k + 1)).flatten.length = (LL.take k).flatten.length + LL[k].length := by
    rw [List.take_succ_eq_append_getElem hk, List.flatten_append, List.length_append]
    simp
  have h2 : LL.flatten.length = (LL.take (k + 1)).flatten.length + (LL.drop (k + 1)).flatten.length := by
    conv => lhs; rw [← List.take_append_drop (k + 1) LL, List.flatten_append, List.length_append]
  omega

theorem fold_len {LL : List (List Int)} {k j : Nat} (hk : k < LL.length) : ((LL[k].take j).foldl putL (anyL (LL.take k))).length ≤ LL.flatten.length := by
  have h1 := foldl_putL_len (LL[k].take j) (anyL (LL.take k))
  have h2 := anyL_len (LL.take k)
  have h3 := flat_take hk
  have h4 : (LL[k].take j).length ≤ LL[k].length := by rw [List.length_take]; omega
  omega

theorem filter_snoc {A : List Int} {p : Int → Bool} {k : Nat} (hk : k < A.length) : (A.take (k + 1)).filter p = (A.take k).filter p ++ if p A[k] then [A[k]] else [] := by
  rw [List.take_succ_eq_append_getElem hk, List.filter_append]
  congr 1
  cases h : p A[k] <;> simp [h]

theorem filter_take_len {A : List Int} (p : Int → Bool) (k : Nat) : ((A.take k).filter p).length ≤ A.length := by
  have := List.length_filter_le p (A.take k)
  rw [List.length_take] at this
  omega

theorem all_snoc {LL : List (List Int)} {n : Int} {j : Nat} (hj : j < LL.length) : inAll (LL.take (j + 1)) n = (inAll (LL.take j) n && decide (n ∈ LL[j])) := by
  unfold inAll
  rw [List.take_succ_eq_append_getElem hj, List.all_append]
  simp
end Go.Proofs.YtlifonflgcfafaaGreatDoor
