/-
  Layer 14's tables in plain words: rows by rising labels, samples by rising times; a sample more; what is between two times.
  No program in sight.

  Layer 14's tables in memory: rows, each with a slice of pairs and a slice of samples, all of the walk's own. The document's Compare.
  No condition beyond those that each theorem states.

  The document's Compare of pairs, Put of samples and Add of tables, walked.
  The slices are of few elements.

  The document's Add: a table with a sample of labels, walked.
  The tables are of few rows.

  Package barographlaw14: Rows: the document's table as the program's, walked.
  The tables are of few rows, none without samples.
-/
import Derived.Test.YtgdkceeonnfejaaGreatDoorOrder
import Derived.Test.YtgdkceeonnfejaaGreatDoorPairs
namespace Go.Proofs.YtgdkceeonnfejaaGreatDoor
set_option maxRecDepth 100000
set_option maxHeartbeats 4000000
set_option linter.unusedSimpArgs false
open Go Go.RowKit
def ltP (p q : PairB) : Prop := ltT p.1 q.1 ∨ (p.1 = q.1 ∧ ltT p.2 q.2)
theorem ltP_irr (p : PairB) : ¬ ltP p p := fun h => by
 rcases h with h | ⟨_, h⟩
 ·exact ltT_irr _ h
 ·exact ltT_irr _ h
theorem ltP_tr {p q r : PairB} (h1 : ltP p q) (h2 : ltP q r) : ltP p r := by
 rcases h1 with h1 | ⟨e1, h1⟩
 ·rcases h2 with h2 | ⟨e2, _⟩
  ·exact .inl (ltT_tr _ _ _ h1 h2)
  ·exact .inl (e2 ▸ h1)
 ·rcases h2 with h2 | ⟨e2, h2⟩
  ·exact .inl (e1 ▸ h2)
  ·exact .inr ⟨e1.trans e2, ltT_tr _ _ _ h1 h2⟩
theorem ltP_or {p q : PairB} (hne : p ≠ q) (h : ¬ ltP p q) : ltP q p := by
 by_cases e : p.1 = q.1
 ·have h2 : p.2 ≠ q.2 := fun e2 => hne (Prod.ext e e2)
  exact .inr ⟨e.symm, ltT_or h2 fun hlt => h (.inr ⟨e, hlt⟩)⟩
 ·exact .inl (ltT_or e fun hlt => h (.inl hlt))
open Classical in
noncomputable def cmpL : List PairB → List PairB → Int
 | [], [] => 0
 | [], _ :: _ => -1
 | _ :: _, [] => 1
 | x :: a, y :: b => if ltP x y then -1 else if x = y then cmpL a b else 1
theorem cmpL_self : ∀ a : List PairB, cmpL a a = 0
 | [] => rfl
 | x :: a => by
  unfold cmpL
  rw [if_neg (ltP_irr x), if_pos rfl]
  exact cmpL_self a
theorem cmpL_cases : ∀ a b : List PairB, cmpL a b = -1 ∨ cmpL a b = 0 ∨ cmpL a b = 1
 | [], [] => .inr (.inl rfl)
 | [], _ :: _ => .inl rfl
 | _ :: _, [] => .inr (.inr rfl)
 | x :: a, y :: b => by
  unfold cmpL
  split
  ·exact .inl rfl
  ·split
   ·exact cmpL_cases a b
   ·exact .inr (.inr rfl)
theorem cmpL_zero : ∀ {a b : List PairB}, cmpL a b = 0 → a = b
 | [], [], _ => rfl
 | [], _ :: _, h => by simp [cmpL] at h
 | _ :: _, [], h => by simp [cmpL] at h
 | x :: a, y :: b, h => by
  unfold cmpL at h
  split at h
  ·exact absurd h (by decide)
  ·split at h
   ·rename_i e
    rw [e, cmpL_zero h]
   ·exact absurd h (by decide)
theorem cmpL_swap : ∀ a b : List PairB, cmpL b a = - cmpL a b
 | [], [] => rfl
 | [], _ :: _ => rfl
 | _ :: _, [] => rfl
 | x :: a, y :: b => by
  have ih := cmpL_swap a b
  unfold cmpL
  by_cases h1 : ltP x y
  ·have h2 : ¬ ltP y x := fun h => ltP_irr _ (ltP_tr h1 h)
   have h3 : ¬ y = x := fun e => ltP_irr x (by rw [e] at h1; exact h1)
   rw [if_pos h1, if_neg h2, if_neg h3]
   rfl
  ·by_cases h2 : x = y
   ·subst h2
    rw [if_neg h1, if_pos rfl, if_neg h1, if_pos rfl, ih]
   ·rw [if_neg h1, if_neg h2, if_pos (ltP_or h2 h1)]
def ltL (a b : List PairB) : Prop := cmpL a b = -1
theorem ltL_irr (a : List PairB) : ¬ ltL a a := by unfold ltL; rw [cmpL_self]; decide
theorem ltL_tr : ∀ {a b c : List PairB}, ltL a b → ltL b c → ltL a c
 | [], b, [], h1, h2 => by
  cases b with
  | nil => exact absurd h1 (ltL_irr _)
  | cons y b => exact absurd h2 (by unfold ltL cmpL; decide)
 | [], _, _ :: _, _, _ => rfl
 | x :: a, [], c, h1, _ => absurd h1 (by unfold ltL cmpL; decide)
 | x :: a, y :: b, [], _, h2 => absurd h2 (by unfold ltL cmpL; decide)
 | x :: a, y :: b, z :: c, h1, h2 => by
  unfold ltL cmpL at h1 h2 ⊢
  by_cases h3 : ltP x y
  ·by_cases h4 : ltP y z
   ·rw [if_pos (ltP_tr h3 h4)]
   ·rw [if_neg h4] at h2
    by_cases h5 : y = z
    ·rw [← h5, if_pos h3]
    ·rw [if_neg h5] at h2
     exact absurd h2 (by decide)
  ·rw [if_neg h3] at h1
   by_cases h6 : x = y
   ·rw [if_pos h6] at h1
    subst h6
    by_cases h4 : ltP x z
    ·rw [if_pos h4]
    ·rw [if_neg h4] at h2 ⊢
     by_cases h5 : x = z
     ·rw [if_pos h5] at h2 ⊢
      exact ltL_tr (a := a) (b := b) (c := c) h1 h2
     ·rw [if_neg h5] at h2
      exact absurd h2 (by decide)
   ·rw [if_neg h6] at h1
    exact absurd h1 (by decide)
theorem ltL_or {a b : List PairB} (hne : a ≠ b) (h : ¬ ltL a b) : ltL b a := by
 unfold ltL at *
 rcases cmpL_cases a b with e | e | e
 ·exact absurd e h
 ·exact absurd (cmpL_zero e) hne
 ·rw [cmpL_swap, e]
abbrev RowT := List PairB × List SmpB
abbrev TabT := List RowT
def putS (s : SmpB) : List SmpB → List SmpB
 | [] => [s]
 | x :: l => if x.1 = s.1 then x :: l else if s.1 < x.1 then s :: x :: l else x :: putS s l
theorem putS_end {s : SmpB} : ∀ {l : List SmpB}, (∀ y ∈ l, y.1 < s.1) → putS s l = l ++ [s]
 | [], _ => rfl
 | x :: l, h => by
  have hx := h x List.mem_cons_self
  unfold putS
  rw [if_neg (by omega), if_neg (by omega), putS_end fun y hy => h y (List.mem_cons_of_mem _ hy)]
  rfl
open Classical in
noncomputable def addT (lab : List PairB) (s : SmpB) : TabT → TabT
 | [] => [(lab, [s])]
 | r :: l => if lab = r.1 then (r.1, putS s r.2) :: l else if ltL lab r.1 then (lab, [s]) :: r :: l else r :: addT lab s l
structure GoodT (A : TabT) : Prop where
 rows : A.Pairwise fun a b => ltL a.1 b.1
 smps : ∀ r ∈ A, r.2.Pairwise ltS ∧ r.2 ≠ []
theorem addT_mem {lab : List PairB} {s : SmpB} {r : RowT} : ∀ {A : TabT}, r ∈ addT lab s A → r ∈ A ∨ (r.1 = lab ∧ (r.2 = [s] ∨ ∃ q ∈ A, q.1 = lab ∧ r.2 = putS s q.2))
 | [], h => by
  have h : r = (lab, [s]) := by simpa [addT] using h
  exact .inr ⟨by rw [h], .inl (by rw [h])⟩
 | q :: A, h => by
  unfold addT at h
  split at h
  ·rename_i e
   rcases List.mem_cons.1 h with rfl | h
   ·exact .inr ⟨e.symm, .inr ⟨q, List.mem_cons_self, e.symm, rfl⟩⟩
   ·exact .inl (List.mem_cons_of_mem _ h)
  ·split at h
   ·rcases List.mem_cons.1 h with rfl | h
    ·exact .inr ⟨rfl, .inl rfl⟩
    ·exact .inl h
   ·rcases List.mem_cons.1 h with rfl | h
    ·exact .inl List.mem_cons_self
    ·rcases addT_mem h with h | ⟨h1, h2 | ⟨q', h3, h4, h5⟩⟩
     ·exact .inl (List.mem_cons_of_mem _ h)
     ·exact .inr ⟨h1, .inl h2⟩
     ·exact .inr ⟨h1, .inr ⟨q', List.mem_cons_of_mem _ h3, h4, h5⟩⟩
theorem addT_end {lab : List PairB} {s : SmpB} : ∀ {A : TabT}, (∀ r ∈ A, ltL r.1 lab) → addT lab s A = A ++ [(lab, [s])]
 | [], _ => rfl
 | r :: A, h => by
  have h1 := h r List.mem_cons_self
  have hne : ¬ lab = r.1 := fun e => ltL_irr _ (e ▸ h1)
  have hnl : ¬ ltL lab r.1 := fun h2 => ltL_irr _ (ltL_tr h1 h2)
  unfold addT
  rw [if_neg hne, if_neg hnl, addT_end fun x hx => h x (List.mem_cons_of_mem _ hx)]
  rfl
theorem addT_last {lab : List PairB} {s : SmpB} {l : List SmpB} : ∀ {A : TabT}, (∀ r ∈ A, ltL r.1 lab) → (∀ y ∈ l, y.1 < s.1) → addT lab s (A ++ [(lab, l)]) = A ++ [(lab, l ++ [s])]
 | [], _, h2 => by
  show addT lab s [(lab, l)] = _
  unfold addT
  rw [if_pos rfl, putS_end h2]
  rfl
 | r :: A, h, h2 => by
  have h1 := h r List.mem_cons_self
  have hne : ¬ lab = r.1 := fun e => ltL_irr _ (e ▸ h1)
  have hnl : ¬ ltL lab r.1 := fun h2 => ltL_irr _ (ltL_tr h1 h2)
  show addT lab s (r :: (A ++ [(lab, l)])) = _
  unfold addT
  rw [if_neg hne, if_neg hnl, addT_last (fun x hx => h x (List.mem_cons_of_mem _ hx)) h2]
  rfl
def betS (from_ upt : Int) (l : List SmpB) : List SmpB := l.filter fun s => decide (from_ ≤ s.1 ∧ s.1 < upt)
def betT (from_ upt : Int) (A : TabT) : TabT := (A.map fun r => (r.1, betS from_ upt r.2)).filter fun r => !r.2.isEmpty
theorem betT_app (from_ upt : Int) (A C : TabT) : betT from_ upt (A ++ C) = betT from_ upt A ++ betT from_ upt C := by simp [betT]
theorem betT_mem {from_ upt : Int} {A : TabT} {q : RowT} (h : q ∈ betT from_ upt A) : ∃ r ∈ A, q = (r.1, betS from_ upt r.2) ∧ betS from_ upt r.2 ≠ [] := by
 unfold betT at h
 obtain ⟨h1, h2⟩ := List.mem_filter.1 h
 obtain ⟨r, hr, rfl⟩ := List.mem_map.1 h1
 exact ⟨r, hr, rfl, by simpa using h2⟩
/-! ## The document's loops -/
open Classical in
theorem cmpL_cons (x y : PairB) (a b : List PairB) : cmpL (x :: a) (y :: b) = if ltP x y then -1 else if x = y then cmpL a b else 1 := by rw [cmpL]
theorem cmpL_drop {a b : List PairB} {k : Nat} (ha : k < a.length) (hb : k < b.length) : (ltP a[k] b[k] → cmpL (a.drop k) (b.drop k) = -1) ∧ (a[k] = b[k] → cmpL (a.drop k) (b.drop k) = cmpL (a.drop (k + 1)) (b.drop (k + 1))) ∧ (¬ ltP a[k] b[k] → ¬ a[k] = b[k] → cmpL (a.drop k) (b.drop k) = 1) := by
 rw [List.drop_eq_getElem_cons ha, List.drop_eq_getElem_cons hb, cmpL_cons]
 refine ⟨fun h => if_pos h, fun h => ?_, fun h h2 => ?_⟩
 ·rw [h, if_neg (ltP_irr _), if_pos rfl]
 ·rw [if_neg h, if_neg h2]
theorem cmpL_end {a b : List PairB} {k : Nat} (h : ¬ (k < a.length ∧ k < b.length)) (hk : k ≤ a.length ∧ k ≤ b.length) : (a.length < b.length → cmpL (a.drop k) (b.drop k) = -1) ∧ (b.length < a.length → cmpL (a.drop k) (b.drop k) = 1) ∧ (a.length = b.length → cmpL (a.drop k) (b.drop k) = 0) := by
 have ha : a.length ≤ k → a.drop k = [] := fun h => List.drop_eq_nil_of_le h
 have hb : b.length ≤ k → b.drop k = [] := fun h => List.drop_eq_nil_of_le h
 refine ⟨fun hlt => ?_, fun hlt => ?_, fun he => ?_⟩
 ·rw [ha (by omega), List.drop_eq_getElem_cons (show k < b.length by omega)]
  rfl
 ·rw [hb (by omega), List.drop_eq_getElem_cons (show k < a.length by omega)]
  rfl
 ·rw [ha (by omega), hb (by omega)]
  rfl
theorem pair_ways (x y : PairB) : (Op.bytesLess x.1.toList y.1.toList = true ∧ ltP x y) ∨ (Op.bytesLess x.1.toList y.1.toList = false ∧ (x.1.toList == y.1.toList) = true ∧ Op.bytesLess x.2.toList y.2.toList = true ∧ ltP x y) ∨
  (Op.bytesLess x.1.toList y.1.toList = false ∧ (x.1.toList == y.1.toList) = true ∧ Op.bytesLess x.2.toList y.2.toList = false ∧ (x.2.toList == y.2.toList) = true ∧ x = y) ∨
  (Op.bytesLess x.1.toList y.1.toList = false ∧ (x.1.toList == y.1.toList) = true ∧ Op.bytesLess x.2.toList y.2.toList = false ∧ (x.2.toList == y.2.toList) = false ∧ ¬ ltP x y ∧ ¬ x = y) ∨
  (Op.bytesLess x.1.toList y.1.toList = false ∧ (x.1.toList == y.1.toList) = false ∧ ¬ ltP x y ∧ ¬ x = y) := by
 obtain ⟨x1, x2⟩ := x
 obtain ⟨y1, y2⟩ := y
 rw [toList_beq, toList_beq]
 cases h1 : Op.bytesLess x1.toList y1.toList with
 | true => exact .inl ⟨rfl, .inl h1⟩
 | false =>
  have n1 : ¬ ltT x1 y1 := fun h => by rw [ltT, h1] at h; cases h
  by_cases e1 : x1 = y1
  ·cases h2 : Op.bytesLess x2.toList y2.toList with
   | true => exact .inr (.inl ⟨rfl, by simp [e1], rfl, .inr ⟨e1, h2⟩⟩)
   | false =>
    have n2 : ¬ ltT x2 y2 := fun h => by rw [ltT, h2] at h; cases h
    by_cases e2 : x2 = y2
    ·exact .inr (.inr (.inl ⟨rfl, by simp [e1], rfl, by simp [e2], by rw [e1, e2]⟩))
    ·exact .inr (.inr (.inr (.inl ⟨rfl, by simp [e1], rfl, by simp [e2], fun h => by
      rcases h with h | ⟨_, h⟩
      ·exact n1 h
      ·exact n2 h, fun e => e2 (by injection e)⟩)))
  ·exact .inr (.inr (.inr (.inr ⟨rfl, by simp [e1], fun h => by
    rcases h with h | ⟨h, _⟩
    ·exact n1 h
    ·exact e1 h, fun e => e1 (by injection e)⟩)))
def pStep (s : SmpB) (st : List SmpB × Bool) (x : SmpB) : List SmpB × Bool :=
 if x.1 = s.1 then (st.1 ++ [x], true) else if st.2 = false ∧ s.1 < x.1 then (st.1 ++ [s] ++ [x], true) else (st.1 ++ [x], st.2)
def pSo (s : SmpB) (l : List SmpB) (k : Nat) : List SmpB × Bool := (l.take k).foldl (pStep s) ([], false)
def pEnd (s : SmpB) (st : List SmpB × Bool) : List SmpB := if st.2 = true then st.1 else st.1 ++ [s]
theorem pSo_succ (s : SmpB) (l : List SmpB) {k : Nat} (hk : k < l.length) : pSo s l (k + 1) = pStep s (pSo s l k) l[k] := by
 unfold pSo
 rw [List.take_succ_eq_append_getElem hk, List.foldl_append]
 rfl
theorem p_done (s : SmpB) : ∀ (l acc : List SmpB), l.foldl (pStep s) (acc, true) = (acc ++ l, true)
 | [], acc => by simp
 | x :: l, acc => by
  have e : pStep s (acc, true) x = (acc ++ [x], true) := by unfold pStep; split <;> simp
  rw [List.foldl_cons, e, p_done s l]
  simp
theorem p_ins (s : SmpB) : ∀ (l acc : List SmpB), pEnd s (l.foldl (pStep s) (acc, false)) = acc ++ putS s l
 | [], acc => by simp [pEnd, putS]
 | x :: l, acc => by
  rw [List.foldl_cons]
  unfold putS
  by_cases h1 : x.1 = s.1
  ·have e : pStep s (acc, false) x = (acc ++ [x], true) := by unfold pStep; rw [if_pos h1]
   rw [e, p_done, if_pos h1]
   simp [pEnd]
  ·by_cases h2 : s.1 < x.1
   ·have e : pStep s (acc, false) x = (acc ++ [s] ++ [x], true) := by unfold pStep; rw [if_neg h1, if_pos ⟨rfl, h2⟩]
    rw [e, p_done, if_neg h1, if_pos h2]
    simp [pEnd]
   ·have e : pStep s (acc, false) x = (acc ++ [x], false) := by unfold pStep; rw [if_neg h1, if_neg (fun h => h2 h.2)]
    rw [e, p_ins s l, if_neg h1, if_neg h2]
    simp
theorem putS_so (s : SmpB) (l : List SmpB) : pEnd s (pSo s l l.length) = putS s l := by
 unfold pSo
 rw [List.take_length, p_ins]
 rfl
theorem pSo_len (s : SmpB) (l : List SmpB) : ∀ k, (pSo s l k).1.length ≤ k + 1 ∧ ((pSo s l k).2 = false → (pSo s l k).1.length ≤ k)
 | 0 => by simp [pSo]
 | k + 1 => by
  have ih := pSo_len s l k
  by_cases hk : k < l.length
  ·rw [pSo_succ s l hk]
   unfold pStep
   split
   ·refine ⟨?_, fun h => by simp at h⟩
    simp only [List.length_append, List.length_cons, List.length_nil]
    omega
   ·split
    ·rename_i h2
     have := ih.2 h2.1
     refine ⟨?_, fun h => by simp at h⟩
     simp only [List.length_append, List.length_cons, List.length_nil]
     omega
    ·refine ⟨?_, fun h => ?_⟩
     ·simp only [List.length_append, List.length_cons, List.length_nil]
      omega
     ·have := ih.2 h
      simp only [List.length_append, List.length_cons, List.length_nil]
      omega
  ·have e : pSo s l (k + 1) = pSo s l k := by unfold pSo; rw [List.take_of_length_le (by omega), List.take_of_length_le (by omega)]
   rw [e]
   exact ⟨by omega, fun h => by have := ih.2 h; omega⟩
open Classical in
noncomputable def aStep (lab : List PairB) (s : SmpB) (st : TabT × Bool) (r : RowT) : TabT × Bool :=
 if lab = r.1 then (st.1 ++ [(r.1, putS s r.2)], true) else if st.2 = false ∧ ltL lab r.1 then (st.1 ++ [(lab, [s])] ++ [r], true) else (st.1 ++ [r], st.2)
noncomputable def aSo (lab : List PairB) (s : SmpB) (A : TabT) (k : Nat) : TabT × Bool := (A.take k).foldl (aStep lab s) ([], false)
noncomputable def aEnd (lab : List PairB) (s : SmpB) (st : TabT × Bool) : TabT := if st.2 = true then st.1 else st.1 ++ [(lab, [s])]
theorem aSo_succ (lab : List PairB) (s : SmpB) (A : TabT) {k : Nat} (hk : k < A.length) : aSo lab s A (k + 1) = aStep lab s (aSo lab s A k) A[k] := by
 unfold aSo
 rw [List.take_succ_eq_append_getElem hk, List.foldl_append]
 rfl
theorem a_done (lab : List PairB) (s : SmpB) : ∀ (A acc : TabT), (∀ r ∈ A, ltL lab r.1) → A.foldl (aStep lab s) (acc, true) = (acc ++ A, true)
 | [], acc, _ => by simp
 | r :: A, acc, h => by
  have h1 := h r List.mem_cons_self
  have e : aStep lab s (acc, true) r = (acc ++ [r], true) := by
   unfold aStep
   rw [if_neg (fun e => ltL_irr _ (e ▸ h1)), if_neg (by simp)]
  rw [List.foldl_cons, e, a_done lab s A _ fun x hx => h x (List.mem_cons_of_mem _ hx)]
  simp
theorem a_ins (lab : List PairB) (s : SmpB) : ∀ (A acc : TabT), (A.Pairwise fun a b => ltL a.1 b.1) → aEnd lab s (A.foldl (aStep lab s) (acc, false)) = acc ++ addT lab s A
 | [], acc, _ => by simp [aEnd, addT]
 | r :: A, acc, h => by
  have h' := List.pairwise_cons.1 h
  rw [List.foldl_cons]
  unfold addT
  by_cases h1 : lab = r.1
  ·have e : aStep lab s (acc, false) r = (acc ++ [(r.1, putS s r.2)], true) := by unfold aStep; rw [if_pos h1]
   rw [e, a_done lab s A _ (fun x hx => by rw [h1]; exact h'.1 x hx), if_pos h1]
   simp [aEnd]
  ·by_cases h2 : ltL lab r.1
   ·have e : aStep lab s (acc, false) r = (acc ++ [(lab, [s])] ++ [r], true) := by unfold aStep; rw [if_neg h1, if_pos ⟨rfl, h2⟩]
    rw [e, a_done lab s A _ (fun x hx => ltL_tr h2 (h'.1 x hx)), if_neg h1, if_pos h2]
    simp [aEnd]
   ·have e : aStep lab s (acc, false) r = (acc ++ [r], false) := by unfold aStep; rw [if_neg h1, if_neg (fun h => h2 h.2)]
    rw [e, a_ins lab s A _ h'.2, if_neg h1, if_neg h2]
    simp
theorem addT_so {lab : List PairB} {s : SmpB} {A : TabT} (h : A.Pairwise fun a b => ltL a.1 b.1) : aEnd lab s (aSo lab s A A.length) = addT lab s A := by
 unfold aSo
 rw [List.take_length, a_ins lab s A [] h]
 rfl
theorem aSo_len (lab : List PairB) (s : SmpB) (A : TabT) : ∀ k, (aSo lab s A k).1.length ≤ k + 1 ∧ ((aSo lab s A k).2 = false → (aSo lab s A k).1.length ≤ k)
 | 0 => by simp [aSo]
 | k + 1 => by
  have ih := aSo_len lab s A k
  by_cases hk : k < A.length
  ·rw [aSo_succ lab s A hk]
   unfold aStep
   split
   ·refine ⟨?_, fun h => by simp at h⟩
    simp only [List.length_append, List.length_cons, List.length_nil]
    omega
   ·split
    ·rename_i h2
     have := ih.2 h2.1
     refine ⟨?_, fun h => by simp at h⟩
     simp only [List.length_append, List.length_cons, List.length_nil]
     omega
    ·refine ⟨?_, fun h => ?_⟩
     ·simp only [List.length_append, List.length_cons, List.length_nil]
      omega
     ·have := ih.2 h
      simp only [List.length_append, List.length_cons, List.length_nil]
      omega
  ·have e : aSo lab s A (k + 1) = aSo lab s A k := by unfold aSo; rw [List.take_of_length_le (by omega), List.take_of_length_le (by omega)]
   rw [e]
   exact ⟨by omega, fun h => by have := ih.2 h; omega⟩
open Go.Op (bytesLess)
abbrev RowV := Value × Value
def encRV (e : RowV) : List Value := [e.1, e.2]
def ElemsAt (tp : TypeId) (w : World) (E : List RowV) (A : TabT) : Prop :=
 E.length = A.length ∧ ∀ i (_ : i < E.length) (_ : i < A.length), w.ownsRow 0 tp 2 E[i].1 A[i].1.length (A[i].1.flatMap encPB) ∧ w.ownsRow 0 42 2 E[i].2 A[i].2.length (A[i].2.flatMap encSm)
def TabAt (tr tp : TypeId) (B : Nat) (w : World) (v : Value) (A : TabT) : Prop := ∃ E : List RowV, w.ownsRow B tr 2 v E.length (E.flatMap encRV) ∧ ElemsAt tp w E A
section
variable {tr tp : TypeId} {B : Nat} {w w' : World} {v : Value} {A : TabT} {E : List RowV}
theorem ElemsAt.keep (h : ElemsAt tp w E A) (k : Keeps [] w w') : ElemsAt tp w' E A := ⟨h.1, fun i hi hi' => ⟨go1 k (h.2 i hi hi').1, go1 k (h.2 i hi hi').2⟩⟩
theorem TabAt.keep (h : TabAt tr tp B w v A) (k : Keeps [] w w') : TabAt tr tp B w' v A := by
 obtain ⟨E, h1, h2⟩ := h
 exact ⟨E, go1 k h1, h2.keep k⟩
end
instance go1Elems {w w' : World} (tp : TypeId) (E : List RowV) (A : TabT) : Go1 w w' (ElemsAt tp w E A) (ElemsAt tp w' E A) := ⟨fun k h => h.keep k⟩
instance go1Tab {w w' : World} (tr tp : TypeId) (B : Nat) (v : Value) (A : TabT) : Go1 w w' (TabAt tr tp B w v A) (TabAt tr tp B w' v A) := ⟨fun k h => h.keep k⟩
theorem tab_nil (tr tp : TypeId) (B : Nat) (w : World) : TabAt tr tp B w (.slice none 0 0) [] := ⟨[], World.ownsRow_nil _ _ _ 2, rfl, fun i hi => by simp at hi⟩
theorem tab_made {tr tp : TypeId} {B : Nat} {w : World} {v : Value} (h : w.ownsRow B tr 2 v 0 []) : TabAt tr tp B w v [] := ⟨[], by simpa using h, rfl, fun i hi => by simp at hi⟩
theorem TabAt.form {tr tp : TypeId} {B : Nat} {w : World} {v : Value} {A : TabT} (h : TabAt tr tp B w v A) : ∃ a c, v = .slice a A.length c := by
 obtain ⟨E, h1, h2⟩ := h
 obtain ⟨a, c, e, -, -, -⟩ := row_slice h1
 exact ⟨a, c, by rw [e, h2.1]⟩
theorem TabAt.base {tr tp : TypeId} {B B' : Nat} {w : World} {v : Value} {A : TabT} (h : TabAt tr tp B w v A) (hB : B' ≤ B) : TabAt tr tp B' w v A := by
 obtain ⟨E, h1, h2⟩ := h
 exact ⟨E, row_base h1 hB, h2⟩
theorem TabAt.at_ {tr tp : TypeId} {B n c : Nat} {w : World} {a : Option Addr} {A : TabT} (h : TabAt tr tp B w (.slice a n c) A) (k : Nat) (hk : k < A.length) :
  ∃ b off u1 u2, a = some ⟨b, off, none⟩ ∧ b < w.heap.size ∧ w.cell? ⟨b, off + k * 2, none⟩ = some u1 ∧ w.cell? ⟨b, off + k * 2 + 1, none⟩ = some u2 ∧ w.ownsRow 0 tp 2 u1 A[k].1.length (A[k].1.flatMap encPB) ∧ w.ownsRow 0 42 2 u2 A[k].2.length (A[k].2.flatMap encSm) := by
 obtain ⟨E, h1, h2⟩ := h
 have hk' : k < E.length := by rw [h2.1]; exact hk
 obtain ⟨b, off, e, _, hb, hc⟩ := sf_at (sliceFrom_row (enc := encRV) (fun _ => rfl) h1) k hk'
 obtain ⟨g1, g2⟩ := h2.2 k hk' hk
 exact ⟨b, off, E[k].1, E[k].2, e, hb, by simpa [encRV] using hc 0 (by decide), by have := hc 1 (by decide); rw [← Nat.add_assoc] at this; simpa [encRV] using this, g1, g2⟩
theorem ElemsAt.snoc {tp : TypeId} {w : World} {E : List RowV} {A : TabT} {u1 u2 : Value} {r : RowT} (h : ElemsAt tp w E A) (g1 : w.ownsRow 0 tp 2 u1 r.1.length (r.1.flatMap encPB)) (g2 : w.ownsRow 0 42 2 u2 r.2.length (r.2.flatMap encSm)) : ElemsAt tp w (E ++ [(u1, u2)]) (A ++ [r]) := by
 refine ⟨by simp [h.1], fun i hi hi' => ?_⟩
 by_cases hlt : i < E.length
 ·rw [List.getElem_append_left hlt, List.getElem_append_left (by have := h.1; omega)]
  exact h.2 i hlt (by have := h.1; omega)
 ·have e1 : i = E.length := by simp at hi; omega
  subst e1
  have e2 := h.1
  rw [List.getElem_append_right (Nat.le_refl _), List.getElem_append_right (by omega)]
  simp only [e2, Nat.sub_self, List.getElem_cons_zero]
  exact ⟨g1, g2⟩
theorem ElemsAt.grown {tr tp : TypeId} {B n : Nat} {w w' : World} {v : Value} {xs : List Value} {E : List RowV} {A : TabT} (h : ElemsAt tp w E A) (ho : w.ownsRow B tr 2 v n xs) (k : Keeps v.ownBlock.toList w w') (h1 : tr ≠ tp) (h2 : tr ≠ 42) : ElemsAt tp w' E A :=
 ⟨h.1, fun i hi hi' => ⟨k.row (h.2 i hi hi').1 (rows_ne2 ho (h.2 i hi hi').1 h1), k.row (h.2 i hi hi').2 (rows_ne2 ho (h.2 i hi hi').2 h2)⟩⟩
theorem rv_snoc {w : World} {B : Nat} {v : Value} {E : List RowV} {u1 u2 : Value} {tr : TypeId} (h : w.ownsRow B tr 2 v (E.length + 1) (E.flatMap encRV ++ [u1, u2])) : w.ownsRow B tr 2 v (E ++ [(u1, u2)]).length ((E ++ [(u1, u2)]).flatMap encRV) := by
 rw [List.length_append, List.flatMap_append]
 simpa [encRV] using h
theorem sm_snoc {w : World} {B : Nat} {v : Value} {N : List SmpB} {t : Int} {y : Int} {T : TypeId} (h : w.ownsRow B T 2 v (N.length + 1) (N.flatMap encSm ++ [.int .i64 t, .int .u64 y])) : w.ownsRow B T 2 v (N ++ [(t, y)]).length ((N ++ [(t, y)]).flatMap encSm) := by
 rw [List.length_append, List.flatMap_append]
 simpa [encSm] using h
theorem smp_at {w : World} {a : Option Addr} {n c : Nat} {L : List SmpB} {B : Nat} {T : TypeId} (h : w.ownsRow B T 2 (.slice a n c) L.length (L.flatMap encSm)) (k : Nat) (hk : k < L.length) : ∃ b off, a = some ⟨b, off, none⟩ ∧ b < w.heap.size ∧ w.cell? ⟨b, off + k * 2, none⟩ = some (.int .i64 L[k].1) ∧ w.cell? ⟨b, off + k * 2 + 1, none⟩ = some (.int .u64 L[k].2) := by
 obtain ⟨b, off, e, _, hb, hc⟩ := sf_at (sliceFrom_row (enc := encSm) (fun _ => rfl) h) k hk
 exact ⟨b, off, e, hb, (by simpa [encSm] using hc 0 (by decide)), (by have := hc 1 (by decide); rw [← Nat.add_assoc] at this; simpa [encSm] using this)⟩
open Go.Op (bytesLess)
def CmpRel (w : World) (a b : List PairB) (gk : Nat) (u5 : Value) (wr : World) : Prop :=
 ∃ k, k ≤ a.length ∧ k ≤ b.length ∧ gk = a.length - k ∧ u5 = .int .i64 k ∧ cmpL (a.drop k) (b.drop k) = cmpL a b ∧ Keeps [] w wr
theorem compareR_spec (w : World) (va vb : Value) (a b : List PairB) (ha : SliceArg 2 encPB w va a) (hb : SliceArg 2 encPB w vb b) (hal : a.length ≤ 1000000) :
  Calls Tryz.prog 40 #[va, vb] w fun e w' => e = .returned (.int .i64 (cmpL a b)) ∧ Keeps [] w w' := by
 have Hf := Lib.hid (And.intro ha hb)
 obtain ⟨aa, ca, rfl, -, -⟩ := ha
 obtain ⟨ab, cb, rfl, -, -⟩ := hb
 obtain ⟨R, hR⟩ : ∃ R, R = cmpL a b := ⟨_, rfl⟩
 rw [← hR]
 have HR := Lib.hid hR
 clear hR
 go_enter Tryz.func40, Tryz.ntmps40
 go_wp2_with fail
 go_loopg [5] a.length (CmpRel w a b)
 case atStart => exact ⟨0, Nat.zero_le _, Nat.zero_le _, rfl, rfl, rfl, Keeps.refl [] w⟩
 case round =>
  obtain ⟨k, hka, hkb, hgk, rfl, hc, hkw⟩ := hrel
  have Hg := Lib.hid (And.intro hgk hc)
  clear hgk hc
  by_cases hlt : k < a.length ∧ k < b.length
  ·obtain ⟨b1, off1, cap1, ea, hb1, d0, d1⟩ := pair_at (Hf.out.1.keep hkw) k hlt.1
   injection ea with ea _ ec
   subst ea ec
   obtain ⟨b2, off2, cap2, ea, hb2, e0, e1⟩ := pair_at (Hf.out.2.keep hkw) k hlt.2
   injection ea with ea _ ec
   subst ea ec
   have hlt1 : (k : Int) < (a.length : Int) := by omega
   have hlt2 : (k : Int) < (b.length : Int) := by omega
   have Hd := Lib.hid (cmpL_drop hlt.1 hlt.2)
   generalize a[k] = x at d0 d1 Hd
   generalize b[k] = y at e0 e1 Hd
   obtain ⟨x1, x2⟩ := x
   obtain ⟨y1, y2⟩ := y
   dsimp only at d0 d1 e0 e1
   have kA : Keeps [] wr (wr.alloc (.cells #[.string x1, .string x2] 152)) := (Keeps.refl [] wr).alloc _
   have H1 := Lib.hid (And.intro (hkw.trans kA) (And.intro (heap_new wr (.cells #[.string x1, .string x2] 152)) (And.intro ((kA.cell hb2 (by simp)).trans e0) (And.intro ((kA.cell hb2 (by simp)).trans e1) (kA.lt hb2)))))
   clear hkw kA e0 e1 hb2
   go_upto_region 5 with fail
   clear d0 d1 hb1
   generalize hwa : wr.alloc (.cells #[.string x1, .string x2] 152) = wa at H1 ⊢
   generalize hpa : wr.heap.size = pa at H1 ⊢
   clear hwa hpa
   have f0 := H1.out.2.2.1
   have f1 := H1.out.2.2.2.1
   have f2 := H1.out.2.2.2.2
   have kB : Keeps [] wa (wa.alloc (.cells #[.string y1, .string y2] 152)) := (Keeps.refl [] wa).alloc _
   have H2 := Lib.hid (And.intro (H1.out.1.trans kB) (And.intro (go1 kB H1.out.2.1) (heap_new wa (.cells #[.string y1, .string y2] 152))))
   clear kB
   go_upto_region 6 with fail
   clear f0 f1 f2 H1
   generalize hwb : wa.alloc (.cells #[.string y1, .string y2] 152) = wb at H2 ⊢
   generalize hpb : wa.heap.size = pb at H2 ⊢
   clear hwb hpb
   have c1 := cells_at H2.out.2.1
   have l1 := lt_of_at H2.out.2.1
   have c2 := cells_at H2.out.2.2
   have l2 := lt_of_at H2.out.2.2
   rcases pair_ways (x1, x2) (y1, y2) with ⟨h1, hp⟩ | ⟨h1, h2, h3, hp⟩ | ⟨h1, h2, h3, h4, hp⟩ | ⟨h1, h2, h3, h4, hp, hq⟩ | ⟨h1, h2, hp, hq⟩
   all_goals dsimp only at h1
   ·have Hp := Lib.hid hp
    clear hp
    go_wp2_with fail
    go_ret
    exact ⟨by rw [HR.out, ← Hg.out.2, Hd.out.1 Hp.out]; rfl, H2.out.1⟩
   ·dsimp only at h2 h3
    have Hp := Lib.hid hp
    clear hp
    go_wp2_with fail
    go_ret
    exact ⟨by rw [HR.out, ← Hg.out.2, Hd.out.1 Hp.out]; rfl, H2.out.1⟩
   ·dsimp only at h2 h3 h4
    have Hp := Lib.hid hp
    clear hp
    go_wp2_with fail
    go_roundg (a.length - (k + 1))
    case measure => have := Hg.out.1; omega
    case rel => exact ⟨k + 1, by omega, by omega, rfl, by go_num, by rw [← Hd.out.2.1 Hp.out]; exact Hg.out.2, H2.out.1⟩
   ·dsimp only at h2 h3 h4
    have Hp := Lib.hid (And.intro hp hq)
    clear hp hq
    go_wp2_with fail
    go_ret
    exact ⟨by rw [HR.out, ← Hg.out.2, Hd.out.2.2 Hp.out.1 Hp.out.2]; rfl, H2.out.1⟩
   ·dsimp only at h2
    have Hp := Lib.hid (And.intro hp hq)
    clear hp hq
    go_wp2_with fail
    go_ret
    exact ⟨by rw [HR.out, ← Hg.out.2, Hd.out.2.2 Hp.out.1 Hp.out.2]; rfl, H2.out.1⟩
  ·have He := Lib.hid (cmpL_end hlt ⟨hka, hkb⟩)
   have Hk := Lib.hid hkw
   have hways : (k < a.length ∧ ¬ k < b.length) ∨ ¬ k < a.length := by omega
   have hlen : a.length < b.length ∨ b.length < a.length ∨ a.length = b.length := by omega
   clear hkw hlt
   rcases hlen with hl | hl | hl
   ·have hi1 : (a.length : Int) < (b.length : Int) := by omega
    have hi2 : ¬ (k : Int) < (a.length : Int) := by omega
    go_wp2_with fail
    go_ret
    exact ⟨by rw [HR.out, ← Hg.out.2, He.out.1 hl]; rfl, Hk.out⟩
   ·have hi1 : ¬ (a.length : Int) < (b.length : Int) := by omega
    have hi2 : (b.length : Int) < (a.length : Int) := by omega
    have hi3 : (k : Int) < (a.length : Int) := by omega
    have hi4 : ¬ (k : Int) < (b.length : Int) := by omega
    go_wp2_with fail
    go_ret
    exact ⟨by rw [HR.out, ← Hg.out.2, He.out.2.1 hl]; rfl, Hk.out⟩
   ·have hi1 : ¬ (a.length : Int) < (b.length : Int) := by omega
    have hi2 : ¬ (b.length : Int) < (a.length : Int) := by omega
    have hi3 : ¬ (k : Int) < (a.length : Int) := by omega
    go_wp2_with fail
    go_ret
    exact ⟨by rw [HR.out, ← Hg.out.2, He.out.2.2 hl]; rfl, Hk.out⟩
theorem infoSmp : (Tryz.prog.info? 42).map (fun i => (i.zero, i.size, i.bytes)) = some (some (.agg #[.int .i64 0, .int .u64 0]), 2, 16) := by kernel_rfl
abbrev OwnM (B : Nat) (w : World) (v : Value) (l : List SmpB) : Prop := w.ownsRow B 42 2 v l.length (l.flatMap encSm)
def PRel (w : World) (l : List SmpB) (s : SmpB) (sb : Nat) (gk : Nat) (u5 u6 u12 : Value) (wr : World) : Prop :=
 ∃ k, k ≤ l.length ∧ gk = l.length - k ∧ u12 = .int .i64 k ∧ u6 = .bool (pSo s l k).2 ∧ OwnM (w.heap.size + 1) wr u5 (pSo s l k).1 ∧ wr.heap[sb]? = some (.cells #[.int .i64 s.1, .int .u64 s.2] 42 (0, 0)) ∧ Keeps [] w wr
theorem pStep_eq {s x : SmpB} {st : List SmpB × Bool} (h : x.1 = s.1) : pStep s st x = (st.1 ++ [x], true) := by unfold pStep; rw [if_pos h]
theorem pStep_put {s x : SmpB} {S : List SmpB} (h : ¬ x.1 = s.1) (h2 : s.1 < x.1) : pStep s (S, false) x = (S ++ [s] ++ [x], true) := by unfold pStep; rw [if_neg h, if_pos ⟨rfl, h2⟩]
theorem pStep_on {s x : SmpB} {S : List SmpB} {d : Bool} (h : ¬ x.1 = s.1) (h2 : ¬ (d = false ∧ s.1 < x.1)) : pStep s (S, d) x = (S ++ [x], d) := by unfold pStep; rw [if_neg h, if_neg h2]
theorem putM_spec (w : World) (v : Value) (l : List SmpB) (s : SmpB) (h : w.ownsRow 0 42 2 v l.length (l.flatMap encSm)) (hl : l.length ≤ 1000) :
  Calls Tryz.prog 41 #[v, .agg #[.int .i64 s.1, .int .u64 s.2]] w fun e w' => ∃ v', e = .returned v' ∧ OwnM w.heap.size w' v' (putS s l) ∧ Keeps [] w w' := by
 obtain ⟨ii, hii, hz0, hz1, hz2⟩ := info_parts infoSmp
 obtain ⟨s1, s2⟩ := s
 have kA : Keeps [] w (w.alloc (.cells #[.int .i64 s1, .int .u64 s2] 42)) := (Keeps.refl [] w).alloc _
 have kB := (Keeps.refl [] (w.alloc (.cells #[.int .i64 s1, .int .u64 s2] 42))).alloc (.cells #[] 42)
 have hzA : (w.alloc (.cells #[.int .i64 s1, .int .u64 s2] 42)).heap.size = w.heap.size + 1 := by simp
 have mk := own_made (w.alloc (.cells #[.int .i64 s1, .int .u64 s2] 42)) (w.heap.size + 1) 42 2 (by omega)
 rw [hzA] at mk
 have Hf := Lib.hid h
 have H0 := Lib.hid (And.intro mk (And.intro (go1 kB (heap_new w (.cells #[.int .i64 s1, .int .u64 s2] 42))) (kA.trans kB)))
 obtain ⟨ao, cap, rfl, -, -, -⟩ := row_slice h
 have Hput := Lib.hid (putS_so (s1, s2) l)
 generalize putS (s1, s2) l = R at Hput ⊢
 clear kA kB hzA mk h
 go_enter Tryz.func41, Tryz.ntmps41
 go_wp2_with fail
 go_loopg [5, 6, 12] l.length (PRel w l (s1, s2) w.heap.size)
 case atStart => exact ⟨0, Nat.zero_le _, rfl, rfl, rfl, by simpa [pSo, OwnM] using H0.out.1, H0.out.2.1, H0.out.2.2⟩
 case round =>
  obtain ⟨k, hk, hgk, rfl, rfl, hrow, hsb, hkw⟩ := hrel
  have Hg := Lib.hid hgk
  have hsl := (pSo_len (s1, s2) l k).1
  clear hgk H0
  by_cases hlt : k < l.length
  ·obtain ⟨b, off, ea, hb, d0, d1⟩ := smp_at (go1 hkw Hf.out) k hlt
   subst ea
   have hlt' : (k : Int) < (l.length : Int) := by omega
   have Hs := Lib.hid (pSo_succ (s1, s2) l hlt)
   generalize l[k] = x at d0 d1 Hs
   obtain ⟨x1, x2⟩ := x
   dsimp only at d0 d1
   generalize pSo (s1, s2) l k = st at hrow hsl Hs ⊢
   obtain ⟨S, d⟩ := st
   dsimp only at hrow hsl ⊢
   obtain ⟨ax, cx, rfl, hxc, hxm, -⟩ := row_slice hrow
   have kP : Keeps [] wr (wr.alloc (.cells #[.int .i64 x1, .int .u64 x2] 42)) := (Keeps.refl [] wr).alloc _
   have H1 := Lib.hid (And.intro (go1 kP (And.intro hrow (And.intro hsb hkw))) (heap_new wr (.cells #[.int .i64 x1, .int .u64 x2] 42)))
   have Hne := Lib.hid (show ∀ g, (Value.slice ax S.length cx).ownBlock = some g → g ≠ wr.heap.size from fun g hg => by have := (World.ownsRow.lt hrow g hg).2; omega)
   clear kP hrow hsb hkw
   go_upto_region 6 with fail
   clear d0 d1 hb
   generalize hwp : wr.alloc (.cells #[.int .i64 x1, .int .u64 x2] 42) = wp at H1 ⊢
   generalize hpb : wr.heap.size = pb at H1 Hne ⊢
   clear hwp hpb
   have cs := cells_at H1.out.1.2.1
   have ls := lt_of_at H1.out.1.2.1
   have cp := cells_at H1.out.2
   have lp := lt_of_at H1.out.2
   have hws := H1.out.1.2.2.size
   have hws2 : w.heap.size + 1 ≤ wp.heap.size := by have := lt_of_at H1.out.1.2.1; omega
   have hways : (x1 = s1 ∧ pStep (s1, s2) (S, d) (x1, x2) = (S ++ [(x1, x2)], true)) ∨ (¬ x1 = s1 ∧ d = true ∧ pStep (s1, s2) (S, d) (x1, x2) = (S ++ [(x1, x2)], d)) ∨ (¬ x1 = s1 ∧ d = false ∧ ¬ s1 < x1 ∧ pStep (s1, s2) (S, d) (x1, x2) = (S ++ [(x1, x2)], d)) ∨ (¬ x1 = s1 ∧ d = false ∧ s1 < x1 ∧ pStep (s1, s2) (S, d) (x1, x2) = (S ++ [(s1, s2)] ++ [(x1, x2)], true)) := by
    by_cases h1 : x1 = s1
    ·exact .inl ⟨h1, pStep_eq h1⟩
    ·cases d with
     | true => exact .inr (.inl ⟨h1, rfl, pStep_on h1 (by simp)⟩)
     | false =>
      by_cases h2 : s1 < x1
      ·exact .inr (.inr (.inr ⟨h1, rfl, h2, pStep_put h1 h2⟩))
      ·exact .inr (.inr (.inl ⟨h1, rfl, h2, pStep_on h1 (fun h => h2 h.2)⟩))
   rcases hways with ⟨hx, hst⟩ | ⟨hx, rfl, hst⟩ | ⟨hx, rfl, hlt2, hst⟩ | ⟨hx, rfl, hlt2, hst⟩
   ·have Hst := Lib.hid hst
    clear hst
    subst hx
    go_wp2_with (at_builtin; refine wpList_append_own _ rfl (.tmp 34) (.tmp 36) 100 rfl (w.heap.size + 1) 42 ii _ 2 16 Tryz.underlying100 hii hz0 hz1 hz2 rfl (by decide) (.slice ax S.length cx) S.length (S.flatMap encSm) rfl (H1.out.1.1.alloc _) ⟨wp.heap.size, 0, none⟩ 1 1 [.int .i64 x1, .int .u64 x2] rfl rfl (news_two (heap_new wp _)) (by simp [Value.oneCell']) (by simp only [maxLen]; omega) (by omega) (by rw [World.size_alloc]; omega) ?_; intro v9 w9 hown9 hgrow9 hnil9; clear hnil9; obtain ⟨ao9, cp9, rfl, -, -, -⟩ := row_slice hown9; skip)
    have hgr := keeps_row hgrow9
    have hs9 := hgr.at_ (heap_old H1.out.1.2.1 _) (fun hm => by have := (World.ownsRow.lt H1.out.1.1 w.heap.size (by simpa using hm)).1; omega)
    have hk9 := keeps_own (H1.out.1.2.2.alloc _) hgrow9 (fun g hg => by have := (World.ownsRow.lt H1.out.1.1 g hg).1; omega)
    have H9 := Lib.hid (And.intro (sm_snoc hown9) (And.intro hs9 hk9))
    clear hown9 hgrow9 hgr hs9 hk9 cs ls cp lp
    go_wp2_with fail
    go_roundg (l.length - (k + 1))
    case measure => have := Hg.out; omega
    case rel => exact ⟨k + 1, hlt, rfl, by go_num, by rw [Hs.out, Hst.out], by rw [Hs.out, Hst.out]; show w9.ownsRow (w.heap.size + 1) 42 2 _ (S ++ [(x1, x2)]).length _; have h := H9.out.1; rw [List.length_append] at h ⊢; exact h, H9.out.2.1, H9.out.2.2⟩
   ·have Hst := Lib.hid hst
    clear hst
    have hxb : (x1 == s1) = false := by rw [beq_eq_false_iff_ne]; exact hx
    go_wp2_with (at_builtin; refine wpList_append_own _ rfl (.tmp 34) (.tmp 36) 100 rfl (w.heap.size + 1) 42 ii _ 2 16 Tryz.underlying100 hii hz0 hz1 hz2 rfl (by decide) (.slice ax S.length cx) S.length (S.flatMap encSm) rfl (H1.out.1.1.alloc _) ⟨wp.heap.size, 0, none⟩ 1 1 [.int .i64 x1, .int .u64 x2] rfl rfl (news_two (heap_new wp _)) (by simp [Value.oneCell']) (by simp only [maxLen]; omega) (by omega) (by rw [World.size_alloc]; omega) ?_; intro v9 w9 hown9 hgrow9 hnil9; clear hnil9; obtain ⟨ao9, cp9, rfl, -, -, -⟩ := row_slice hown9; skip)
    have hgr := keeps_row hgrow9
    have hs9 := hgr.at_ (heap_old H1.out.1.2.1 _) (fun hm => by have := (World.ownsRow.lt H1.out.1.1 w.heap.size (by simpa using hm)).1; omega)
    have hk9 := keeps_own (H1.out.1.2.2.alloc _) hgrow9 (fun g hg => by have := (World.ownsRow.lt H1.out.1.1 g hg).1; omega)
    have H9 := Lib.hid (And.intro (sm_snoc hown9) (And.intro hs9 hk9))
    clear hown9 hgrow9 hgr hs9 hk9 cs ls cp lp
    go_wp2_with fail
    go_roundg (l.length - (k + 1))
    case measure => have := Hg.out; omega
    case rel => exact ⟨k + 1, hlt, rfl, by go_num, by rw [Hs.out, Hst.out], by rw [Hs.out, Hst.out]; show w9.ownsRow (w.heap.size + 1) 42 2 _ (S ++ [(x1, x2)]).length _; have h := H9.out.1; rw [List.length_append] at h ⊢; exact h, H9.out.2.1, H9.out.2.2⟩
   ·have Hst := Lib.hid hst
    clear hst
    have hxb : (x1 == s1) = false := by rw [beq_eq_false_iff_ne]; exact hx
    go_wp2_with (at_builtin; refine wpList_append_own _ rfl (.tmp 34) (.tmp 36) 100 rfl (w.heap.size + 1) 42 ii _ 2 16 Tryz.underlying100 hii hz0 hz1 hz2 rfl (by decide) (.slice ax S.length cx) S.length (S.flatMap encSm) rfl (H1.out.1.1.alloc _) ⟨wp.heap.size, 0, none⟩ 1 1 [.int .i64 x1, .int .u64 x2] rfl rfl (news_two (heap_new wp _)) (by simp [Value.oneCell']) (by simp only [maxLen]; omega) (by omega) (by rw [World.size_alloc]; omega) ?_; intro v9 w9 hown9 hgrow9 hnil9; clear hnil9; obtain ⟨ao9, cp9, rfl, -, -, -⟩ := row_slice hown9; skip)
    have hgr := keeps_row hgrow9
    have hs9 := hgr.at_ (heap_old H1.out.1.2.1 _) (fun hm => by have := (World.ownsRow.lt H1.out.1.1 w.heap.size (by simpa using hm)).1; omega)
    have hk9 := keeps_own (H1.out.1.2.2.alloc _) hgrow9 (fun g hg => by have := (World.ownsRow.lt H1.out.1.1 g hg).1; omega)
    have H9 := Lib.hid (And.intro (sm_snoc hown9) (And.intro hs9 hk9))
    clear hown9 hgrow9 hgr hs9 hk9 cs ls cp lp
    go_wp2_with fail
    go_roundg (l.length - (k + 1))
    case measure => have := Hg.out; omega
    case rel => exact ⟨k + 1, hlt, rfl, by go_num, by rw [Hs.out, Hst.out], by rw [Hs.out, Hst.out]; show w9.ownsRow (w.heap.size + 1) 42 2 _ (S ++ [(x1, x2)]).length _; have h := H9.out.1; rw [List.length_append] at h ⊢; exact h, H9.out.2.1, H9.out.2.2⟩
   ·have Hst := Lib.hid hst
    clear hst
    have hxb : (x1 == s1) = false := by rw [beq_eq_false_iff_ne]; exact hx
    go_upto_region 10 with (at_builtin; refine wpList_append_own _ rfl (.tmp 30) (.tmp 32) 100 rfl (w.heap.size + 1) 42 ii _ 2 16 Tryz.underlying100 hii hz0 hz1 hz2 rfl (by decide) (.slice ax S.length cx) S.length (S.flatMap encSm) rfl (H1.out.1.1.alloc _) ⟨wp.heap.size, 0, none⟩ 1 1 [.int .i64 s1, .int .u64 s2] rfl rfl (news_two (heap_new wp _)) (by simp [Value.oneCell']) (by simp only [maxLen]; omega) (by omega) (by rw [World.size_alloc]; omega) ?_; intro v9 w9 hown9 hgrow9 hnil9; clear hnil9; obtain ⟨ao9, cp9, rfl, -, -, -⟩ := row_slice hown9; skip)
    have hgr := keeps_row hgrow9
    have hs9 := hgr.at_ (heap_old H1.out.1.2.1 _) (fun hm => by have := (World.ownsRow.lt H1.out.1.1 w.heap.size (by simpa using hm)).1; omega)
    have hk9 := keeps_own (H1.out.1.2.2.alloc _) hgrow9 (fun g hg => by have := (World.ownsRow.lt H1.out.1.1 g hg).1; omega)
    have hp9 := hgr.at_ (heap_old H1.out.2 _) (fun hm => Hne.out pb (by simpa using hm) rfl)
    have h9l : (S ++ [(s1, s2)]).length = S.length + 1 := by simp
    have hr9 := sm_snoc hown9
    have H9 := Lib.hid (And.intro (And.intro hr9 (And.intro hs9 hk9)) hp9)
    have hw9 := hk9.size
    have hw9b : w.heap.size + 1 ≤ w9.heap.size := by have := lt_of_at hs9; omega
    clear hown9 hgrow9 hgr hs9 hk9 cs ls cp lp hp9 hr9
    rw [h9l] at H9
    have cp := cells_at H9.out.2
    have lp := lt_of_at H9.out.2
    go_wp2_with (at_builtin; refine wpList_append_own _ rfl (.tmp 34) (.tmp 36) 100 rfl (w.heap.size + 1) 42 ii _ 2 16 Tryz.underlying100 hii hz0 hz1 hz2 rfl (by decide) (.slice ao9 (S.length + 1) cp9) (S.length + 1) ((S ++ [(s1, s2)]).flatMap encSm) rfl (H9.out.1.1.alloc _) ⟨w9.heap.size, 0, none⟩ 1 1 [.int .i64 x1, .int .u64 x2] rfl rfl (news_two (heap_new w9 _)) (by simp [Value.oneCell']) (by simp only [maxLen]; omega) (by omega) (by rw [World.size_alloc]; omega) ?_; intro v10 w10 hown10 hgrow10 hnil10; clear hnil10; obtain ⟨ao10, cp10, rfl, -, -, -⟩ := row_slice hown10; skip)
    have hgr := keeps_row hgrow10
    have hs10 := hgr.at_ (heap_old H9.out.1.2.1 _) (fun hm => by have := (World.ownsRow.lt H9.out.1.1 w.heap.size (by simpa using hm)).1; omega)
    have hk10 := keeps_own (H9.out.1.2.2.alloc _) hgrow10 (fun g hg => by have := (World.ownsRow.lt H9.out.1.1 g hg).1; omega)
    have hr10 := sm_snoc (N := S ++ [(s1, s2)]) (by rw [h9l]; exact hown10)
    have H10 := Lib.hid (And.intro hr10 (And.intro hs10 hk10))
    have h10l : (S ++ [(s1, s2)] ++ [(x1, x2)]).length = S.length + 1 + 1 := by simp
    clear hown10 hgrow10 hgr hs10 hk10 cp lp hr10
    go_wp2_with fail
    go_roundg (l.length - (k + 1))
    case measure => have := Hg.out; omega
    case rel => exact ⟨k + 1, hlt, rfl, by go_num, by rw [Hs.out, Hst.out], by rw [Hs.out, Hst.out]; show w10.ownsRow (w.heap.size + 1) 42 2 _ (S ++ [(s1, s2)] ++ [(x1, x2)]).length _; have h := H10.out.1; rw [h10l] at h ⊢; exact h, H10.out.2.1, H10.out.2.2⟩
  ·have hkn : k = l.length := by omega
   have hge : ¬ (k : Int) < (l.length : Int) := by omega
   subst hkn
   generalize pSo (s1, s2) l l.length = st at hrow hsl Hput ⊢
   obtain ⟨S, d⟩ := st
   dsimp only at hrow hsl ⊢
   obtain ⟨ax, cx, rfl, hxc, hxm, -⟩ := row_slice hrow
   have Hr := Lib.hid (And.intro (And.intro hrow (And.intro hsb hkw)) trivial)
   have hws2 : w.heap.size + 1 ≤ wr.heap.size := by have := lt_of_at hsb; omega
   have cs := cells_at hsb
   have ls := lt_of_at hsb
   clear hrow hsb hkw
   cases d with
   | true =>
    go_wp2_with fail
    go_ret
    exact ⟨_, rfl, by rw [← Hput.out]; exact row_base Hr.out.1.1 (by omega), Hr.out.1.2.2⟩
   | false =>
    go_wp2_with (at_builtin; refine wpList_append_own _ rfl (.tmp 41) (.tmp 43) 100 rfl (w.heap.size + 1) 42 ii _ 2 16 Tryz.underlying100 hii hz0 hz1 hz2 rfl (by decide) (.slice ax S.length cx) S.length (S.flatMap encSm) rfl (Hr.out.1.1.alloc _) ⟨wr.heap.size, 0, none⟩ 1 1 [.int .i64 s1, .int .u64 s2] rfl rfl (news_two (heap_new wr _)) (by simp [Value.oneCell']) (by simp only [maxLen]; omega) (by omega) (by rw [World.size_alloc]; omega) ?_; intro v9 w9 hown9 hgrow9 hnil9; clear hnil9; obtain ⟨ao9, cp9, rfl, -, -, -⟩ := row_slice hown9; skip)
    have hk9 := keeps_own (Hr.out.1.2.2.alloc _) hgrow9 (fun g hg => by have := (World.ownsRow.lt Hr.out.1.1 g hg).1; omega)
    have h9l : (S ++ [(s1, s2)]).length = S.length + 1 := by simp
    have H9 := Lib.hid (And.intro (sm_snoc hown9) hk9)
    clear hown9 hgrow9 hk9
    go_wp2_with fail
    go_ret
    refine ⟨_, rfl, ?_, H9.out.2⟩
    rw [← Hput.out]
    have h := row_base (b' := w.heap.size) H9.out.1 (by omega)
    rw [h9l] at h
    show w9.ownsRow w.heap.size 42 2 (.slice ao9 (S.length + 1) cp9) (S ++ [(s1, s2)]).length _
    rw [h9l]
    exact h
open Go.Op (bytesLess)
theorem infoRow14 : (Tryz.prog.info? 106).map (fun i => (i.zero, i.size, i.bytes)) = some (some (.agg #[.slice none 0 0, .slice none 0 0]), 2, 48) := by kernel_rfl
theorem rowP {B : Nat} {w : World} {e : TypeId} {v : Value} {P : List PairB} (h : w.ownsRow B e 2 v P.length (P.flatMap encPB)) : SliceArg 2 encPB w v P := (sliceFrom_row (enc := encPB) (fun _ => rfl) h).arg
theorem own_one (w : World) (t y : Int) : (w.alloc (.cells #[.int .i64 t, .int .u64 y] 42)).ownsRow 0 42 2 (.slice (some ⟨w.heap.size, 0, none⟩) 1 1) [(t, y)].length ([(t, y)].flatMap encSm) :=
 ⟨by simp [encSm], .inr ⟨w.heap.size, 1, _, rfl, Nat.zero_le _, heap_new w _, Nat.le_refl _, by simp [maxLen], rfl, rfl⟩⟩
def FewT (A : TabT) : Prop := A.length ≤ 100 ∧ ∀ r ∈ A, r.1.length ≤ 1000 ∧ r.2.length ≤ 500
def ARel (w : World) (lab : List PairB) (s : SmpB) (A : TabT) (sb : Nat) (gk : Nat) (u7 u8 u15 : Value) (wr : World) : Prop :=
 ∃ k, k ≤ A.length ∧ gk = A.length - k ∧ u15 = .int .i64 k ∧ u8 = .bool (aSo lab s A k).2 ∧ TabAt 106 152 (w.heap.size + 1) wr u7 (aSo lab s A k).1 ∧ wr.heap[sb]? = some (.cells #[.int .i64 s.1, .int .u64 s.2] 42 (0, 0)) ∧ Keeps [] w wr
theorem aStep_eq {lab : List PairB} {s : SmpB} {r : RowT} {st : TabT × Bool} (h : lab = r.1) : aStep lab s st r = (st.1 ++ [(r.1, putS s r.2)], true) := by unfold aStep; rw [if_pos h]
theorem aStep_put {lab : List PairB} {s : SmpB} {r : RowT} {S : TabT} (h : ¬ lab = r.1) (h2 : ltL lab r.1) : aStep lab s (S, false) r = (S ++ [(lab, [s])] ++ [r], true) := by unfold aStep; rw [if_neg h, if_pos ⟨rfl, h2⟩]
theorem aStep_on {lab : List PairB} {s : SmpB} {r : RowT} {S : TabT} {d : Bool} (h : ¬ lab = r.1) (h2 : ¬ (d = false ∧ ltL lab r.1)) : aStep lab s (S, d) r = (S ++ [r], d) := by unfold aStep; rw [if_neg h, if_neg h2]
theorem addM_spec (w : World) (v vl : Value) (A : TabT) (lab : List PairB) (s : SmpB) (h : TabAt 106 152 0 w v A) (hf : FewT A) (hg : A.Pairwise fun a b => ltL a.1 b.1) (hlab : w.ownsRow 0 152 2 vl lab.length (lab.flatMap encPB)) (hll : lab.length ≤ 1000) :
  Calls Tryz.prog 13 #[v, vl, .agg #[.int .i64 s.1, .int .u64 s.2]] w fun e w' => ∃ v', e = .returned v' ∧ TabAt 106 152 w.heap.size w' v' (addT lab s A) ∧ Keeps [] w w' := by
 obtain ⟨ir, hir, hy0, hy1, hy2⟩ := info_parts infoRow14
 obtain ⟨s1, s2⟩ := s
 have kA : Keeps [] w (w.alloc (.cells #[.int .i64 s1, .int .u64 s2] 42)) := (Keeps.refl [] w).alloc _
 have kB := (Keeps.refl [] (w.alloc (.cells #[.int .i64 s1, .int .u64 s2] 42))).alloc (.cells #[] 106)
 have hzA : (w.alloc (.cells #[.int .i64 s1, .int .u64 s2] 42)).heap.size = w.heap.size + 1 := by simp
 have mk := own_made (w.alloc (.cells #[.int .i64 s1, .int .u64 s2] 42)) (w.heap.size + 1) 106 2 (by omega)
 rw [hzA] at mk
 have Hf := Lib.hid (And.intro h (And.intro hlab hf.2))
 have H0 := Lib.hid (And.intro (tab_made (tp := 152) mk) (And.intro (go1 kB (heap_new w (.cells #[.int .i64 s1, .int .u64 s2] 42))) (kA.trans kB)))
 have hA100 := hf.1
 obtain ⟨ao, cap, rfl⟩ := h.form
 obtain ⟨al, cl, rfl, -, -, -⟩ := row_slice hlab
 have Hput := Lib.hid (addT_so (lab := lab) (s := (s1, s2)) hg)
 generalize addT lab (s1, s2) A = R at Hput ⊢
 clear kA kB hzA mk h hlab hf hg
 go_enter Tryz.func13, Tryz.ntmps13
 go_wp2_with fail
 go_loopg [7, 8, 15] A.length (ARel w lab (s1, s2) A w.heap.size)
 case atStart => exact ⟨0, Nat.zero_le _, rfl, rfl, rfl, H0.out.1, H0.out.2.1, H0.out.2.2⟩
 case round =>
  obtain ⟨k, hk, hgk, rfl, rfl, hrow, hsb, hkw⟩ := hrel
  have Hg := Lib.hid hgk
  have hsl := (aSo_len lab (s1, s2) A k).1
  clear hgk H0
  by_cases hlt : k < A.length
  ·obtain ⟨b, off, u1, u2, ea, hb, d0, d1, g1, g2⟩ := (go1 hkw Hf.out.1).at_ k hlt
   subst ea
   have hlt' : (k : Int) < (A.length : Int) := by omega
   have Hs := Lib.hid (aSo_succ lab (s1, s2) A hlt)
   have hr := Hf.out.2.2 A[k] (List.getElem_mem hlt)
   generalize A[k] = r at d0 d1 g1 g2 Hs hr
   obtain ⟨r1, r2⟩ := r
   dsimp only at g1 g2 hr
   obtain ⟨ar1, cr1, rfl, -, -, -⟩ := row_slice g1
   obtain ⟨ar2, cr2, rfl, -, -, -⟩ := row_slice g2
   generalize aSo lab (s1, s2) A k = st at hrow hsl Hs ⊢
   obtain ⟨S, d⟩ := st
   dsimp only at hrow hsl ⊢
   have kP : Keeps [] wr (wr.alloc (.cells #[.slice ar1 r1.length cr1, .slice ar2 r2.length cr2] 106)) := (Keeps.refl [] wr).alloc _
   obtain ⟨E, hE1, hE2⟩ := hrow
   obtain ⟨ax, cx, rfl, hxc, hxm, -⟩ := row_slice hE1
   have hEl : E.length ≤ 102 := by have := hE2.1; omega
   have H1 := Lib.hid (And.intro (go1 kP (And.intro hE1 (And.intro hE2 (And.intro hsb hkw)))) (And.intro (heap_new wr (.cells #[.slice ar1 r1.length cr1, .slice ar2 r2.length cr2] 106)) (go1 kP (And.intro g1 (And.intro g2 (go1 hkw Hf.out.2.1))))))
   have Hne := Lib.hid (show ∀ g, (Value.slice ax E.length cx).ownBlock = some g → g ≠ wr.heap.size from fun g hg => by have := (World.ownsRow.lt hE1 g hg).2; omega)
   have hwlt : w.heap.size < wr.heap.size := lt_of_at hsb
   clear kP hE1 hE2 hsb hkw g1 g2
   go_upto_region 6 with fail
   clear d0 d1 hb
   generalize hwp : wr.alloc (.cells #[.slice ar1 r1.length cr1, .slice ar2 r2.length cr2] 106) = wp at H1 ⊢
   have hpw : w.heap.size ≤ wr.heap.size := Nat.le_trans (Nat.le_of_lt (show w.heap.size < wr.heap.size from by omega)) (Nat.le_refl _)
   generalize hpb : wr.heap.size = pb at H1 Hne hpw ⊢
   clear hwp hpb
   have cp := cells_at H1.out.2.1
   have lp := lt_of_at H1.out.2.1
   go_wp2_with fail
   refine (compareR_spec wp _ _ lab r1 (rowP H1.out.2.2.2.2) (rowP H1.out.2.2.1) (by omega)).mono ?_
   rintro e w2 ⟨rfl, hk2⟩
   have H2 := Lib.hid (And.intro (go1 hk2 H1.out.1) (go1 hk2 H1.out.2))
   clear hk2 H1 cp lp
   have cp := cells_at H2.out.2.1
   have fp := free_at H2.out.2.1
   have lp := lt_of_at H2.out.2.1
   have cs := cells_at H2.out.1.2.2.1
   have ls := lt_of_at H2.out.1.2.2.1
   have hws2 : w.heap.size + 1 ≤ w2.heap.size := by omega
   have hways : (cmpL lab r1 = 0 ∧ aStep lab (s1, s2) (S, d) (r1, r2) = (S ++ [(r1, putS (s1, s2) r2)], true)) ∨ (¬ cmpL lab r1 = 0 ∧ d = true ∧ aStep lab (s1, s2) (S, d) (r1, r2) = (S ++ [(r1, r2)], d)) ∨ (¬ cmpL lab r1 = 0 ∧ d = false ∧ ¬ cmpL lab r1 < 0 ∧ aStep lab (s1, s2) (S, d) (r1, r2) = (S ++ [(r1, r2)], d)) ∨ (¬ cmpL lab r1 = 0 ∧ d = false ∧ cmpL lab r1 < 0 ∧ aStep lab (s1, s2) (S, d) (r1, r2) = (S ++ [(lab, [(s1, s2)])] ++ [(r1, r2)], true)) := by
    by_cases h1 : lab = r1
    ·exact .inl ⟨by rw [h1]; exact cmpL_self _, aStep_eq h1⟩
    ·have h0 : ¬ cmpL lab r1 = 0 := fun e => h1 (cmpL_zero e)
     cases d with
     | true => exact .inr (.inl ⟨h0, rfl, aStep_on h1 (by simp)⟩)
     | false =>
      by_cases h2 : ltL lab r1
      ·exact .inr (.inr (.inr ⟨h0, rfl, by unfold ltL at h2; omega, aStep_put h1 h2⟩))
      ·exact .inr (.inr (.inl ⟨h0, rfl, fun hc => by
        rcases cmpL_cases lab r1 with e | e | e
        ·exact h2 e
        ·exact h0 e
        ·omega, aStep_on h1 (fun h => h2 h.2)⟩))
   generalize cmpL lab r1 = c at hways ⊢
   rcases hways with ⟨hx, hst⟩ | ⟨hx, rfl, hst⟩ | ⟨hx, rfl, hlt2, hst⟩ | ⟨hx, rfl, hlt2, hst⟩
   ·have Hst := Lib.hid hst
    clear hst
    go_wp2_with fail
    refine (putM_spec w2 _ r2 (s1, s2) H2.out.2.2.2.1 (by omega)).mono ?_
    rintro e w3 ⟨v3, rfl, hown3, hk3⟩
    have h3 := row_base (b' := 0) hown3 (Nat.zero_le _)
    obtain ⟨a3, c3, rfl, -, -, -⟩ := row_slice hown3
    have H3 := Lib.hid (And.intro (go1 hk3 H2.out.1) (And.intro (go1 hk3 H2.out.2.1) (And.intro (go1 hk3 H2.out.2.2.1) h3)))
    have hw3 := hk3.size
    clear hk3 hown3 h3 H2 cp fp lp cs ls
    have cp := cells_at H3.out.2.1
    have fp := free_at H3.out.2.1
    have lp := lt_of_at H3.out.2.1
    go_upto_region 9 with fail
    clear cp fp lp
    have k4 : Keeps [pb] w3 (w3.setCell ⟨pb, 1, none⟩ (.slice a3 (putS (s1, s2) r2).length c3)) := (Keeps.refl _ w3).setCell (.inl (by simp)) _
    have n4 : (w3.setCell ⟨pb, 1, none⟩ (.slice a3 (putS (s1, s2) r2).length c3)).heap[pb]? = some (.cells #[.slice ar1 r1.length cr1, .slice a3 (putS (s1, s2) r2).length c3] 106 (0, 0)) := (heap_cell_same (i := 1) H3.out.2.1 _).trans (by simp)
    have nepb : w.heap.size ≠ pb := fun e => by
     have h1 := H3.out.1.2.2.1
     have h2 := H3.out.2.1
     rw [e, h2] at h1
     injection h1 with h1
     injection h1 with _ h1 _
     exact absurd h1 (by decide)
    have kpw : Keeps [] w (w3.setCell ⟨pb, 1, none⟩ (.slice a3 (putS (s1, s2) r2).length c3)) := H3.out.1.2.2.2.after k4 (fun y hy => .inr (by
     obtain rfl : y = pb := by simpa using hy
     exact hpw))
    have rowk : ∀ {T : TypeId} {v : Value} {n : Nat} {xs : List Value}, T ≠ 106 → w3.ownsRow 0 T 2 v n xs → (w3.setCell ⟨pb, 1, none⟩ (.slice a3 (putS (s1, s2) r2).length c3)).ownsRow 0 T 2 v n xs := fun hT ho => k4.row ho (fun g hg => by have := row_ne_cells ho H3.out.2.1 (fun e => hT e.symm) g hg; simpa using this)
    have H4 := Lib.hid (And.intro (And.intro (k4.row H3.out.1.1 (fun g hg => by have := Hne.out g hg; simpa using this)) (And.intro (⟨H3.out.1.2.1.1, fun i hi hi' => ⟨rowk (by decide) (H3.out.1.2.1.2 i hi hi').1, rowk (by decide) (H3.out.1.2.1.2 i hi hi').2⟩⟩ : ElemsAt 152 _ E S) (And.intro (k4.at_ H3.out.1.2.2.1 (by simpa using nepb)) kpw))) (And.intro (rowk (by decide) H3.out.2.2.1) (And.intro (rowk (by decide) H3.out.2.2.2) n4)))
    have hw4 : w.heap.size + 1 ≤ (w3.setCell ⟨pb, 1, none⟩ (.slice a3 (putS (s1, s2) r2).length c3)).heap.size := by have := k4.size; omega
    clear k4 n4 kpw rowk H3
    generalize w3.setCell ⟨pb, 1, none⟩ (.slice a3 (putS (s1, s2) r2).length c3) = w4 at H4 hw4 ⊢
    have cp := cells_at H4.out.2.2.2
    have lp := lt_of_at H4.out.2.2.2
    go_wp2_with (at_builtin; refine wpList_append_own _ rfl (.tmp 43) (.tmp 45) 30 rfl (w.heap.size + 1) 106 ir _ 2 48 Tryz.underlying30 hir hy0 hy1 hy2 rfl (by decide) (.slice ax E.length cx) E.length (E.flatMap encRV) rfl (H4.out.1.1.alloc _) ⟨w4.heap.size, 0, none⟩ 1 1 [.slice ar1 r1.length cr1, .slice a3 (putS (s1, s2) r2).length c3] rfl rfl (news_two (heap_new w4 _)) (by simp [Value.oneCell']) (by simp only [maxLen]; omega) (by omega) (by rw [World.size_alloc]; omega) ?_; intro v9 w9 hown9 hgrow9 hnil9; clear hnil9; obtain ⟨ao9, cp9, rfl, -, -, -⟩ := row_slice hown9; skip)
    have hgr := keeps_row hgrow9
    have hs9 := hgr.at_ (heap_old H4.out.1.2.2.1 _) (fun hm => by have := (World.ownsRow.lt H4.out.1.1 w.heap.size (by simpa using hm)).1; omega)
    have hk9 := keeps_own (H4.out.1.2.2.2.alloc _) hgrow9 (fun g hg => by have := (World.ownsRow.lt H4.out.1.1 g hg).1; omega)
    have kN : Keeps [] w4 (w4.alloc (.cells #[.slice ar1 r1.length cr1, .slice a3 (putS (s1, s2) r2).length c3] 106)) := (Keeps.refl [] w4).alloc _
    have hel := ((ElemsAt.keep H4.out.1.2.1 kN).snoc (r := (r1, putS (s1, s2) r2)) (go1 kN H4.out.2.1) (go1 kN H4.out.2.2.1)).grown (go1 kN H4.out.1.1) hgr (by decide) (by decide)
    have H9 := Lib.hid (And.intro (rv_snoc hown9) (And.intro hel (And.intro hs9 hk9)))
    clear hown9 hgrow9 hgr hs9 hk9 kN hel
    try clear cs ls cp lp fp
    go_wp2_with fail
    go_roundg (A.length - (k + 1))
    case measure => have := Hg.out; omega
    case rel => exact ⟨k + 1, hlt, rfl, by go_num, by rw [Hs.out, Hst.out], by rw [Hs.out, Hst.out]; exact ⟨_, H9.out.1, H9.out.2.1⟩, H9.out.2.2.1, H9.out.2.2.2⟩
   ·have Hst := Lib.hid hst
    have H4 := Lib.hid (And.intro H2.out.1 (And.intro H2.out.2.2.1 H2.out.2.2.2.1))
    clear hst
    go_wp2_with (at_builtin; refine wpList_append_own _ rfl (.tmp 43) (.tmp 45) 30 rfl (w.heap.size + 1) 106 ir _ 2 48 Tryz.underlying30 hir hy0 hy1 hy2 rfl (by decide) (.slice ax E.length cx) E.length (E.flatMap encRV) rfl (H4.out.1.1.alloc _) ⟨w2.heap.size, 0, none⟩ 1 1 [.slice ar1 r1.length cr1, .slice ar2 r2.length cr2] rfl rfl (news_two (heap_new w2 _)) (by simp [Value.oneCell']) (by simp only [maxLen]; omega) (by omega) (by rw [World.size_alloc]; omega) ?_; intro v9 w9 hown9 hgrow9 hnil9; clear hnil9; obtain ⟨ao9, cp9, rfl, -, -, -⟩ := row_slice hown9; skip)
    have hgr := keeps_row hgrow9
    have hs9 := hgr.at_ (heap_old H4.out.1.2.2.1 _) (fun hm => by have := (World.ownsRow.lt H4.out.1.1 w.heap.size (by simpa using hm)).1; omega)
    have hk9 := keeps_own (H4.out.1.2.2.2.alloc _) hgrow9 (fun g hg => by have := (World.ownsRow.lt H4.out.1.1 g hg).1; omega)
    have kN : Keeps [] w2 (w2.alloc (.cells #[.slice ar1 r1.length cr1, .slice ar2 r2.length cr2] 106)) := (Keeps.refl [] w2).alloc _
    have hel := ((ElemsAt.keep H4.out.1.2.1 kN).snoc (r := (r1, r2)) (go1 kN H4.out.2.1) (go1 kN H4.out.2.2)).grown (go1 kN H4.out.1.1) hgr (by decide) (by decide)
    have H9 := Lib.hid (And.intro (rv_snoc hown9) (And.intro hel (And.intro hs9 hk9)))
    clear hown9 hgrow9 hgr hs9 hk9 kN hel
    try clear cs ls cp lp fp
    go_wp2_with fail
    go_roundg (A.length - (k + 1))
    case measure => have := Hg.out; omega
    case rel => exact ⟨k + 1, hlt, rfl, by go_num, by rw [Hs.out, Hst.out], by rw [Hs.out, Hst.out]; exact ⟨_, H9.out.1, H9.out.2.1⟩, H9.out.2.2.1, H9.out.2.2.2⟩
   ·have Hst := Lib.hid hst
    have H4 := Lib.hid (And.intro H2.out.1 (And.intro H2.out.2.2.1 H2.out.2.2.2.1))
    clear hst
    go_wp2_with (at_builtin; refine wpList_append_own _ rfl (.tmp 43) (.tmp 45) 30 rfl (w.heap.size + 1) 106 ir _ 2 48 Tryz.underlying30 hir hy0 hy1 hy2 rfl (by decide) (.slice ax E.length cx) E.length (E.flatMap encRV) rfl (H4.out.1.1.alloc _) ⟨w2.heap.size, 0, none⟩ 1 1 [.slice ar1 r1.length cr1, .slice ar2 r2.length cr2] rfl rfl (news_two (heap_new w2 _)) (by simp [Value.oneCell']) (by simp only [maxLen]; omega) (by omega) (by rw [World.size_alloc]; omega) ?_; intro v9 w9 hown9 hgrow9 hnil9; clear hnil9; obtain ⟨ao9, cp9, rfl, -, -, -⟩ := row_slice hown9; skip)
    have hgr := keeps_row hgrow9
    have hs9 := hgr.at_ (heap_old H4.out.1.2.2.1 _) (fun hm => by have := (World.ownsRow.lt H4.out.1.1 w.heap.size (by simpa using hm)).1; omega)
    have hk9 := keeps_own (H4.out.1.2.2.2.alloc _) hgrow9 (fun g hg => by have := (World.ownsRow.lt H4.out.1.1 g hg).1; omega)
    have kN : Keeps [] w2 (w2.alloc (.cells #[.slice ar1 r1.length cr1, .slice ar2 r2.length cr2] 106)) := (Keeps.refl [] w2).alloc _
    have hel := ((ElemsAt.keep H4.out.1.2.1 kN).snoc (r := (r1, r2)) (go1 kN H4.out.2.1) (go1 kN H4.out.2.2)).grown (go1 kN H4.out.1.1) hgr (by decide) (by decide)
    have H9 := Lib.hid (And.intro (rv_snoc hown9) (And.intro hel (And.intro hs9 hk9)))
    clear hown9 hgrow9 hgr hs9 hk9 kN hel
    try clear cs ls cp lp fp
    go_wp2_with fail
    go_roundg (A.length - (k + 1))
    case measure => have := Hg.out; omega
    case rel => exact ⟨k + 1, hlt, rfl, by go_num, by rw [Hs.out, Hst.out], by rw [Hs.out, Hst.out]; exact ⟨_, H9.out.1, H9.out.2.1⟩, H9.out.2.2.1, H9.out.2.2.2⟩
   ·have Hst := Lib.hid hst
    clear hst
    have kS : Keeps [] w2 (w2.alloc (.cells #[.int .i64 s1, .int .u64 s2] 42)) := (Keeps.refl [] w2).alloc _
    have hoS := own_one w2 s1 s2
    obtain ⟨ws, hws⟩ : ∃ ws, ws = w2.alloc (.cells #[.int .i64 s1, .int .u64 s2] 42) := ⟨_, rfl⟩
    rw [← hws] at kS hoS
    have HS := Lib.hid (And.intro (go1 kS H2.out.1) (And.intro (go1 kS H2.out.2.2.2.2) (And.intro hoS (go1 kS H2.out.2))))
    have hwsz : w.heap.size + 1 ≤ ws.heap.size := by have := kS.size; omega
    have Hws := Lib.hid hws
    clear kS hoS hws
    obtain ⟨nb, hnb⟩ : ∃ nb, nb = w2.heap.size := ⟨_, rfl⟩
    rw [← hnb] at HS
    have Hnb := Lib.hid hnb
    have HszE := Lib.hid (show ws.heap.size = nb + 1 from by rw [Hws.out, Hnb.out]; simp)
    clear hnb
    go_upto_region 12 with (at_builtin; rw [← Hws.out, ← Hnb.out, ← HszE.out]; refine wpList_append_own _ rfl (.tmp 36) (.tmp 41) 30 rfl (w.heap.size + 1) 106 ir _ 2 48 Tryz.underlying30 hir hy0 hy1 hy2 rfl (by decide) (.slice ax E.length cx) E.length (E.flatMap encRV) rfl (HS.out.1.1.alloc _) ⟨ws.heap.size, 0, none⟩ 1 1 [.slice al lab.length cl, .slice (some ⟨nb, 0, none⟩) 1 1] rfl rfl (news_two (heap_new ws _)) (by simp [Value.oneCell']) (by simp only [maxLen]; omega) (by omega) (by rw [World.size_alloc]; omega) ?_; intro v9 w9 hown9 hgrow9 hnil9; clear hnil9; obtain ⟨ao9, cp9, rfl, -, -, -⟩ := row_slice hown9; skip)
    have hgr := keeps_row hgrow9
    have kN : Keeps [] ws (ws.alloc (.cells #[.slice al lab.length cl, .slice (some ⟨nb, 0, none⟩) 1 1] 106)) := (Keeps.refl [] ws).alloc _
    have hs9 := hgr.at_ (heap_old HS.out.1.2.2.1 _) (fun hm => by have := (World.ownsRow.lt HS.out.1.1 w.heap.size (by simpa using hm)).1; omega)
    have hk9 := keeps_own (HS.out.1.2.2.2.alloc _) hgrow9 (fun g hg => by have := (World.ownsRow.lt HS.out.1.1 g hg).1; omega)
    have hel := ((ElemsAt.keep HS.out.1.2.1 kN).snoc (r := (lab, [(s1, s2)])) (go1 kN HS.out.2.1) (go1 kN HS.out.2.2.1)).grown (go1 kN HS.out.1.1) hgr (by decide) (by decide)
    have rowk : ∀ {T : TypeId} {v : Value} {n : Nat} {xs : List Value}, T ≠ 106 → ws.ownsRow 0 T 2 v n xs → w9.ownsRow 0 T 2 v n xs := fun hT ho => hgr.row (go1 kN ho) (rows_ne2 (go1 kN HS.out.1.1) (go1 kN ho) (fun e => hT e.symm))
    have hp9 := hgr.at_ (go1 kN HS.out.2.2.2.1) (fun hm => Hne.out pb (by simpa using hm) rfl)
    have h9l : (E ++ [((.slice al lab.length cl : Value), (.slice (some ⟨nb, 0, none⟩) 1 1 : Value))]).length = E.length + 1 := by simp
    have H4 := Lib.hid (And.intro (And.intro (rv_snoc hown9) (And.intro hel (And.intro hs9 hk9))) (And.intro (rowk (by decide) HS.out.2.2.2.2.1) (And.intro (rowk (by decide) HS.out.2.2.2.2.2.1) hp9)))
    have hw9b : w.heap.size + 1 ≤ w9.heap.size := by have := lt_of_at hs9; omega
    clear hown9 hgrow9 hgr hs9 hk9 kN hel rowk hp9 HS H2 cp fp lp cs ls
    generalize hE9 : (E ++ [((.slice al lab.length cl : Value), (.slice (some ⟨nb, 0, none⟩) 1 1 : Value))]) = E9 at H4 h9l
    rw [← h9l] at H4 ⊢
    have hEl9 : E9.length ≤ 103 := by omega
    clear h9l hE9
    have cp := cells_at H4.out.2.2.2
    have lp := lt_of_at H4.out.2.2.2
    go_wp2_with (at_builtin; refine wpList_append_own _ rfl (.tmp 43) (.tmp 45) 30 rfl (w.heap.size + 1) 106 ir _ 2 48 Tryz.underlying30 hir hy0 hy1 hy2 rfl (by decide) (.slice ao9 E9.length cp9) E9.length (E9.flatMap encRV) rfl (H4.out.1.1.alloc _) ⟨w9.heap.size, 0, none⟩ 1 1 [.slice ar1 r1.length cr1, .slice ar2 r2.length cr2] rfl rfl (news_two (heap_new w9 _)) (by simp [Value.oneCell']) (by simp only [maxLen]; omega) (by omega) (by rw [World.size_alloc]; omega) ?_; intro v10 w10 hown10 hgrow10 hnil10; clear hnil10; obtain ⟨ao10, cp10, rfl, -, -, -⟩ := row_slice hown10; skip)
    have hgr := keeps_row hgrow10
    have hs10 := hgr.at_ (heap_old H4.out.1.2.2.1 _) (fun hm => by have := (World.ownsRow.lt H4.out.1.1 w.heap.size (by simpa using hm)).1; omega)
    have hk10 := keeps_own (H4.out.1.2.2.2.alloc _) hgrow10 (fun g hg => by have := (World.ownsRow.lt H4.out.1.1 g hg).1; omega)
    have kN : Keeps [] w9 (w9.alloc (.cells #[.slice ar1 r1.length cr1, .slice ar2 r2.length cr2] 106)) := (Keeps.refl [] w9).alloc _
    have hel := ((ElemsAt.keep H4.out.1.2.1 kN).snoc (r := (r1, r2)) (go1 kN H4.out.2.1) (go1 kN H4.out.2.2.1)).grown (go1 kN H4.out.1.1) hgr (by decide) (by decide)
    have H10 := Lib.hid (And.intro (rv_snoc hown10) (And.intro hel (And.intro hs10 hk10)))
    clear hown10 hgrow10 hgr hs10 hk10 kN hel
    try clear cs ls cp lp fp
    go_wp2_with fail
    go_roundg (A.length - (k + 1))
    case measure => have := Hg.out; omega
    case rel => exact ⟨k + 1, hlt, rfl, by go_num, by rw [Hs.out, Hst.out], by rw [Hs.out, Hst.out]; exact ⟨_, H10.out.1, H10.out.2.1⟩, H10.out.2.2.1, H10.out.2.2.2⟩
  ·have hkn : k = A.length := by omega
   have hge : ¬ (k : Int) < (A.length : Int) := by omega
   subst hkn
   generalize aSo lab (s1, s2) A A.length = st at hrow hsl Hput ⊢
   obtain ⟨S, d⟩ := st
   dsimp only at hrow hsl ⊢
   obtain ⟨E, hE1, hE2⟩ := hrow
   obtain ⟨ax, cx, rfl, hxc, hxm, -⟩ := row_slice hE1
   have hEl : E.length ≤ 102 := by have := hE2.1; omega
   have H2 := Lib.hid (And.intro (And.intro hE1 (And.intro hE2 (And.intro hsb hkw))) (go1 hkw Hf.out.2.1))
   have hws2 : w.heap.size + 1 ≤ wr.heap.size := by have := lt_of_at hsb; omega
   have cs := cells_at hsb
   have ls := lt_of_at hsb
   clear hE1 hE2 hsb hkw
   cases d with
   | true =>
    go_wp2_with fail
    go_ret
    exact ⟨_, rfl, by rw [← Hput.out]; exact TabAt.base ⟨E, H2.out.1.1, H2.out.1.2.1⟩ (by omega), H2.out.1.2.2.2⟩
   | false =>
    have kS : Keeps [] wr (wr.alloc (.cells #[.int .i64 s1, .int .u64 s2] 42)) := (Keeps.refl [] wr).alloc _
    have hoS := own_one wr s1 s2
    obtain ⟨ws, hws⟩ : ∃ ws, ws = wr.alloc (.cells #[.int .i64 s1, .int .u64 s2] 42) := ⟨_, rfl⟩
    rw [← hws] at kS hoS
    have HS := Lib.hid (And.intro (go1 kS H2.out.1) (And.intro (go1 kS H2.out.2) (And.intro hoS trivial)))
    have hwsz : w.heap.size + 1 ≤ ws.heap.size := by have := kS.size; omega
    have Hws := Lib.hid hws
    clear kS hoS hws
    obtain ⟨nb, hnb⟩ : ∃ nb, nb = wr.heap.size := ⟨_, rfl⟩
    rw [← hnb] at HS
    have Hnb := Lib.hid hnb
    have HszE := Lib.hid (show ws.heap.size = nb + 1 from by rw [Hws.out, Hnb.out]; simp)
    clear hnb
    go_wp2_with (at_builtin; rw [← Hws.out, ← Hnb.out, ← HszE.out]; refine wpList_append_own _ rfl (.tmp 50) (.tmp 55) 30 rfl (w.heap.size + 1) 106 ir _ 2 48 Tryz.underlying30 hir hy0 hy1 hy2 rfl (by decide) (.slice ax E.length cx) E.length (E.flatMap encRV) rfl (HS.out.1.1.alloc _) ⟨ws.heap.size, 0, none⟩ 1 1 [.slice al lab.length cl, .slice (some ⟨nb, 0, none⟩) 1 1] rfl rfl (news_two (heap_new ws _)) (by simp [Value.oneCell']) (by simp only [maxLen]; omega) (by omega) (by rw [World.size_alloc]; omega) ?_; intro v9 w9 hown9 hgrow9 hnil9; clear hnil9; obtain ⟨ao9, cp9, rfl, -, -, -⟩ := row_slice hown9; skip)
    have hgr := keeps_row hgrow9
    have kN : Keeps [] ws (ws.alloc (.cells #[.slice al lab.length cl, .slice (some ⟨nb, 0, none⟩) 1 1] 106)) := (Keeps.refl [] ws).alloc _
    have hs9 := hgr.at_ (heap_old HS.out.1.2.2.1 _) (fun hm => by have := (World.ownsRow.lt HS.out.1.1 w.heap.size (by simpa using hm)).1; omega)
    have hk9 := keeps_own (HS.out.1.2.2.2.alloc _) hgrow9 (fun g hg => by have := (World.ownsRow.lt HS.out.1.1 g hg).1; omega)
    have hel := ((ElemsAt.keep HS.out.1.2.1 kN).snoc (r := (lab, [(s1, s2)])) (go1 kN HS.out.2.1) (go1 kN HS.out.2.2.1)).grown (go1 kN HS.out.1.1) hgr (by decide) (by decide)
    have H9 := Lib.hid (And.intro (rv_snoc hown9) (And.intro hel hk9))
    clear hown9 hgrow9 hgr hs9 hk9 kN hel
    go_wp2_with fail
    go_ret
    refine ⟨_, rfl, ?_, H9.out.2.2⟩
    rw [← Hput.out]
    exact TabAt.base ⟨_, H9.out.1, H9.out.2.1⟩ (by omega)
theorem infoRowM : (Tryz.prog.info? 110).map (fun i => (i.zero, i.size, i.bytes)) = some (some (.agg #[.slice none 0 0, .slice none 0 0]), 2, 48) := by kernel_rfl
end Go.Proofs.YtgdkceeonnfejaaGreatDoor
