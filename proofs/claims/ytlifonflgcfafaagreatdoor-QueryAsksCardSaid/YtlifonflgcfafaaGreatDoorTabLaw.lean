/-
  Layer 14's tables in plain words: rows by rising labels, samples by rising times; a sample more; what is between two times.
  No program in sight.
-/
import Derived.Test.YtlifonflgcfafaaGreatDoorOrder
import Derived.Test.YtlifonflgcfafaaGreatDoorPairs
namespace Go.Proofs.YtlifonflgcfafaaGreatDoor
open Go Go.RowKit

def ltP (p q : PairB) : Prop := ltT p.1 q.1 ∨ (p.1 = q.1 ∧ ltT p.2 q.2)

theorem ltP_irr (p : PairB) : ¬ ltP p p := fun h => by
  rcases h with h | ⟨_, h⟩
  · exact ltT_irr _ h
  · exact ltT_irr _ h

theorem ltP_tr {p q r : PairB} (h1 : ltP p q) (h2 : ltP q r) : ltP p r := by
  rcases h1 with h1 | ⟨e1, h1⟩
  · rcases h2 with h2 | ⟨e2, _⟩
    · exact .inl (ltT_tr _ _ _ h1 h2)
    · exact .inl (e2 ▸ h1)
  · rcases h2 with h2 | ⟨e2, h2⟩
    · exact .inl (e1 ▸ h2)
    · exact .inr ⟨e1.trans e2, ltT_tr _ _ _ h1 h2⟩

theorem ltP_or {p q : PairB} (hne : p ≠ q) (h : ¬ ltP p q) : ltP q p := by
  by_cases e : p.1 = q.1
  · have h2 : p.2 ≠ q.2 := fun e2 => hne (Prod.ext e e2)
    exact .inr ⟨e.symm, ltT_or h2 fun hlt => h (.inr ⟨e, hlt⟩)⟩
  · exact .inl (ltT_or e fun hlt => h (.inl hlt))
open Classical in
/-- The document's Compare. -/
noncomputable def cmpL : List PairB → List PairB → Int
  | [], [] => 0
  | [], _ :: _ => -1
  | _ :: _, [] => 1
  | x :: a, y :: b => if ltP x y then -1 else if x = y then cmpL a b else 1

theorem cmpL_self : ∀ a : List PairB, cmpL a a = 0
  | [] => rfl
  | x :: a => by
    unfold cmpL
    rw [if_neg (ltP_irr x), if_pos rfl]
    exact cmpL_self a

theorem cmpL_cases : ∀ a b : List PairB, cmpL a b = -1 ∨ cmpL a b = 0 ∨ cmpL a b = 1
  | [], [] => .inr (.inl rfl)
  | [], _ :: _ => .inl rfl
  | _ :: _, [] => .inr (.inr rfl)
  | x :: a, y :: b => by
    unfold cmpL
    split
    · exact .inl rfl
    · split
      · exact cmpL_cases a b
      · exact .inr (.inr rfl)

theorem cmpL_zero : ∀ {a b : List PairB}, cmpL a b = 0 → a = b
  | [], [], _ => rfl
  | [], _ :: _, h => by simp [cmpL] at h
  | _ :: _, [], h => by simp [cmpL] at h
  | x :: a, y :: b, h => by
    unfold cmpL at h
    split at h
    · exact absurd h (by decide)
    · split at h
      · rename_i e
        rw [e, cmpL_zero h]
      · exact absurd h (by decide)

theorem cmpL_swap : ∀ a b : List PairB, cmpL b a = - cmpL a b
  | [], [] => rfl
  | [], _ :: _ => rfl
  | _ :: _, [] => rfl
  | x :: a, y :: b => by
    have ih := cmpL_swap a b
    unfold cmpL
    by_cases h1 : ltP x y
    · have h2 : ¬ ltP y x := fun h => ltP_irr _ (ltP_tr h1 h)
      have h3 : ¬ y = x := fun e => ltP_irr x (by rw [e] at h1; exact h1)
      rw [if_pos h1, if_neg h2, if_neg h3]
      rfl
    · by_cases h2 : x = y
      · subst h2
        rw [if_neg h1, if_pos rfl, if_neg h1, if_pos rfl, ih]
      · rw [if_neg h1, if_neg h2, if_pos (ltP_or h2 h1)]

def ltL (a b : List PairB) : Prop := cmpL a b = -1

theorem ltL_irr (a : List PairB) : ¬ ltL a a := by unfold ltL; rw [cmpL_self]; decide

theorem ltL_tr : ∀ {a b c : List PairB}, ltL a b → ltL b c → ltL a c
  | [], b, [], h1, h2 => by
    cases b with
    | nil => exact absurd h1 (ltL_irr _)
    | cons y b => exact absurd h2 (by unfold ltL cmpL; decide)
  | [], _, _ :: _, _, _ => rfl
  | x :: a, [], c, h1, _ => absurd h1 (by unfold ltL cmpL; decide)
  | x :: a, y :: b, [], _, h2 => absurd h2 (by unfold ltL cmpL; decide)
  | x :: a, y :: b, z :: c, h1, h2 => by
    unfold ltL cmpL at h1 h2 ⊢
    by_cases h3 : ltP x y
    · by_cases h4 : ltP y z
      · rw [if_pos (ltP_tr h3 h4)]
      · rw [if_neg h4] at h2
        by_cases h5 : y = z
        · rw [← h5, if_pos h3]
        · rw [if_neg h5] at h2
          exact absurd h2 (by decide)
    · rw [if_neg h3] at h1
      by_cases h6 : x = y
      · rw [if_pos h6] at h1
        subst h6
        by_cases h4 : ltP x z
        · rw [if_pos h4]
        · rw [if_neg h4] at h2 ⊢
          by_cases h5 : x = z
          · rw [if_pos h5] at h2 ⊢
            exact ltL_tr (a := a) (b := b) (c := c) h1 h2
          · rw [if_neg h5] at h2
            exact absurd h2 (by decide)
      · rw [if_neg h6] at h1
        exact absurd h1 (by decide)

theorem ltL_or {a b : List PairB} (hne : a ≠ b) (h : ¬ ltL a b) : ltL b a := by
  unfold ltL at *
  rcases cmpL_cases a b with e | e | e
  · exact absurd e h
  · exact absurd (cmpL_zero e) hne
  · rw [cmpL_swap, e]

/-- A sample: its time, its value. -/
abbrev SmpB := Int × Int

def encSm (s : SmpB) : List Value := [.int .i64 s.1, .int .u64 s.2]

abbrev RowT := List PairB × List SmpB

abbrev TabT := List RowT

def ltS (a b : SmpB) : Prop := a.1 < b.1

def putS (s : SmpB) : List SmpB → List SmpB
  | [] => [s]
  | x :: l => if x.1 = s.1 then x :: l else if s.1 < x.1 then s :: x :: l else x :: putS s l

theorem putS_mem {s y : SmpB} : ∀ {l : List SmpB}, y ∈ putS s l → y = s ∨ y ∈ l
  | [], h => by simpa [putS] using h
  | x :: l, h => by
    unfold putS at h
    split at h
    · exact .inr h
    · split at h
      · simpa using h
      · rcases List.mem_cons.1 h with rfl | h
        · exact .inr List.mem_cons_self
        · exact (putS_mem h).imp_right (List.mem_cons_of_mem _)

theorem putS_rises {s : SmpB} : ∀ {l : List SmpB}, l.Pairwise ltS → (putS s l).Pairwise ltS
  | [], _ => by simp [putS]
  | x :: l, h => by
    have h' := List.pairwise_cons.1 h
    unfold putS
    split
    · exact h
    · rename_i h1
      split
      · rename_i h2
        refine List.pairwise_cons.2 ⟨fun y hy => ?_, h⟩
        rcases List.mem_cons.1 hy with rfl | hy
        · exact h2
        · exact Int.lt_trans h2 (h'.1 y hy)
      · rename_i h2
        refine List.pairwise_cons.2 ⟨fun y hy => ?_, putS_rises h'.2⟩
        rcases putS_mem hy with rfl | hy
        · show x.1 < y.1
          omega
        · exact h'.1 y hy

theorem putS_end {s : SmpB} : ∀ {l : List SmpB}, (∀ y ∈ l, y.1 < s.1) → putS s l = l ++ [s]
  | [], _ => rfl
  | x :: l, h => by
    have hx := h x List.mem_cons_self
    unfold putS
    rw [if_neg (by omega), if_neg (by omega), putS_end fun y hy => h y (List.mem_cons_of_mem _ hy)]
    rfl

theorem putS_len {s : SmpB} : ∀ {l : List SmpB}, (putS s l).length ≤ l.length + 1
  | [] => by simp [putS]
  | x :: l => by
    have ih := putS_len (s := s) (l := l)
    unfold putS
    split
    · simp
    · split
      · simp
      · simp only [List.length_cons]; omega
open Classical in
noncomputable def addT (lab : List PairB) (s : SmpB) : TabT → TabT
  | [] => [(lab, [s])]
  | r :: l => if lab = r.1 then (r.1, putS s r.2) :: l else if ltL lab r.1 then (lab, [s]) :: r :: l else r :: addT lab s l

/-- A table. -/
structure GoodT (A : TabT) : Prop where
  rows : A.Pairwise fun a b => ltL a.1 b.1
  smps : ∀ r ∈ A, r.2.Pairwise ltS ∧ r.2 ≠ []

theorem addT_mem {lab : List PairB} {s : SmpB} {r : RowT} : ∀ {A : TabT}, r ∈ addT lab s A → r ∈ A ∨ (r.1 = lab ∧ (r.2 = [s] ∨ ∃ q ∈ A, q.1 = lab ∧ r.2 = putS s q.2))
  | [], h => by
    have h : r = (lab, [s]) := by simpa [addT] using h
    exact .inr ⟨by rw [h], .inl (by rw [h])⟩
  | q :: A, h => by
    unfold addT at h
    split at h
    · rename_i e
      rcases List.mem_cons.1 h with rfl | h
      · exact .inr ⟨e.symm, .inr ⟨q, List.mem_cons_self, e.symm, rfl⟩⟩
      · exact .inl (List.mem_cons_of_mem _ h)
    · split at h
      · rcases List.mem_cons.1 h with rfl | h
        · exact .inr ⟨rfl, .inl rfl⟩
        · exact .inl h
      · rcases List.mem_cons.1 h with rfl | h
        · exact .inl List.mem_cons_self
        · rcases addT_mem h with h | ⟨h1, h2 | ⟨q', h3, h4, h5⟩⟩
          · exact .inl (List.mem_cons_of_mem _ h)
          · exact .inr ⟨h1, .inl h2⟩
          · exact .inr ⟨h1, .inr ⟨q', List.mem_cons_of_mem _ h3, h4, h5⟩⟩

theorem addT_good {lab : List PairB} {s : SmpB} {A : TabT} (h : GoodT A) : GoodT (addT lab s A) := by
  have hne : ∀ (s : SmpB) (l : List SmpB), putS s l ≠ [] := fun s l => by
    cases l with
    | nil => simp [putS]
    | cons x l => unfold putS; split; · simp
                  · split <;> simp
  refine ⟨?_, fun r hr => ?_⟩
  · have key : ∀ A : TabT, (A.Pairwise fun a b => ltL a.1 b.1) → (addT lab s A).Pairwise fun a b => ltL a.1 b.1 := by
      intro A
      induction A with
      | nil => intro _; simp [addT]
      | cons q A ih =>
        intro h
        have h' := List.pairwise_cons.1 h
        unfold addT
        split
        · exact List.pairwise_cons.2 ⟨h'.1, h'.2⟩
        · rename_i e
          split
          · rename_i hlt
            refine List.pairwise_cons.2 ⟨fun y hy => ?_, h⟩
            rcases List.mem_cons.1 hy with rfl | hy
            · exact hlt
            · exact ltL_tr hlt (h'.1 y hy)
          · rename_i hlt
            refine List.pairwise_cons.2 ⟨fun y hy => ?_, ih h'.2⟩
            rcases addT_mem hy with hy | ⟨e2, _⟩
            · exact h'.1 y hy
            · rw [e2]
              exact ltL_or e hlt
    exact key A h.rows
  · rcases addT_mem hr with hr | ⟨_, e | ⟨q, hq, _, e⟩⟩
    · exact h.smps r hr
    · rw [e]; exact ⟨by simp, by simp⟩
    · rw [e]; exact ⟨putS_rises (h.smps q hq).1, hne _ _⟩

theorem addT_end {lab : List PairB} {s : SmpB} : ∀ {A : TabT}, (∀ r ∈ A, ltL r.1 lab) → addT lab s A = A ++ [(lab, [s])]
  | [], _ => rfl
  | r :: A, h => by
    have h1 := h r List.mem_cons_self
    have hne : ¬ lab = r.1 := fun e => ltL_irr _ (e ▸ h1)
    have hnl : ¬ ltL lab r.1 := fun h2 => ltL_irr _ (ltL_tr h1 h2)
    unfold addT
    rw [if_neg hne, if_neg hnl, addT_end fun x hx => h x (List.mem_cons_of_mem _ hx)]
    rfl

theorem addT_last {lab : List PairB} {s : SmpB} {l : List SmpB} : ∀ {A : TabT}, (∀ r ∈ A, ltL r.1 lab) → (∀ y ∈ l, y.1 < s.1) → addT lab s (A ++ [(lab, l)]) = A ++ [(lab, l ++ [s])]
  | [], _, h2 => by
    show addT lab s [(lab, l)] = _
    unfold addT
    rw [if_pos rfl, putS_end h2]
    rfl
  | r :: A, h, h2 => by
    have h1 := h r List.mem_cons_self
    have hne : ¬ lab = r.1 := fun e => ltL_irr _ (e ▸ h1)
    have hnl : ¬ ltL lab r.1 := fun h2 => ltL_irr _ (ltL_tr h1 h2)
    show addT lab s (r :: (A ++ [(lab, l)])) = _
    unfold addT
    rw [if_neg hne, if_neg hnl, addT_last (fun x hx => h x (List.mem_cons_of_mem _ hx)) h2]
    rfl

/-- The samples of a row that are between. -/
def betS (from_ to : Int) (l : List SmpB) : List SmpB := l.filter fun s => decide (from_ ≤ s.1 ∧ s.1 < to)

def betT (from_ to : Int) (A : TabT) : TabT := (A.map fun r => (r.1, betS from_ to r.2)).filter fun r => !r.2.isEmpty

/-- Samples of one row, by rising times, behind all that is there. -/
theorem addAll_row {lab : List PairB} : ∀ (l l0 : List SmpB) {A : TabT}, (∀ r ∈ A, ltL r.1 lab) → (l0 ++ l).Pairwise ltS → l0 ≠ [] → l.foldl (fun A s => addT lab s A) (A ++ [(lab, l0)]) = A ++ [(lab, l0 ++ l)]
  | [], l0, A, _, _, _ => by simp
  | s :: l, l0, A, hA, hp, hne => by
    have h2 : ∀ y ∈ l0, y.1 < s.1 := fun y hy => (List.pairwise_append.1 hp).2.2 y hy s List.mem_cons_self
    rw [List.foldl_cons, addT_last hA h2, addAll_row l (l0 ++ [s]) hA (by rw [List.append_assoc]; exact hp) (by simp), List.append_assoc]
    rfl

theorem addAll_new {lab : List PairB} (l : List SmpB) {A : TabT} (hA : ∀ r ∈ A, ltL r.1 lab) (hp : l.Pairwise ltS) : l.foldl (fun A s => addT lab s A) A = if l = [] then A else A ++ [(lab, l)] := by
  cases l with
  | nil => simp
  | cons s l =>
    rw [List.foldl_cons, addT_end hA, addAll_row l [s] hA hp (by simp), if_neg (by simp)]
    rfl

/-- One row's samples that are between, added. -/
noncomputable def addBet (from_ to : Int) (O : TabT) (r : RowT) : TabT := (betS from_ to r.2).foldl (fun A s => addT r.1 s A) O

theorem bet_rises {from_ to : Int} {l : List SmpB} (h : l.Pairwise ltS) : (betS from_ to l).Pairwise ltS := h.filter _

theorem addBet_one {from_ to : Int} {O : TabT} {r : RowT} (hO : ∀ q ∈ O, ltL q.1 r.1) (hr : r.2.Pairwise ltS) : addBet from_ to O r = O ++ betT from_ to [r] := by
  unfold addBet
  rw [addAll_new _ hO (bet_rises hr)]
  unfold betT
  by_cases h : betS from_ to r.2 = []
  · rw [if_pos h]
    simp [h]
  · rw [if_neg h]
    simp [h]

theorem betT_app (from_ to : Int) (A C : TabT) : betT from_ to (A ++ C) = betT from_ to A ++ betT from_ to C := by simp [betT]

theorem betT_mem {from_ to : Int} {A : TabT} {q : RowT} (h : q ∈ betT from_ to A) : ∃ r ∈ A, q = (r.1, betS from_ to r.2) ∧ betS from_ to r.2 ≠ [] := by
  unfold betT at h
  obtain ⟨h1, h2⟩ := List.mem_filter.1 h
  obtain ⟨r, hr, rfl⟩ := List.mem_map.1 h1
  exact ⟨r, hr, rfl, by simpa using h2⟩

/-- Row by row, between two times: what is there of a table. -/
theorem addBet_all {from_ to : Int} : ∀ (A C : TabT), (C ++ A).Pairwise (fun a b => ltL a.1 b.1) → (∀ r ∈ A, r.2.Pairwise ltS) → A.foldl (addBet from_ to) (betT from_ to C) = betT from_ to (C ++ A)
  | [], C, _, _ => by simp
  | r :: A, C, h, hr => by
    have hlt : ∀ q ∈ betT from_ to C, ltL q.1 r.1 := fun q hq => by
      obtain ⟨q', hq', rfl, _⟩ := betT_mem hq
      exact (List.pairwise_append.1 h).2.2 q' hq' r List.mem_cons_self
    have e : C ++ r :: A = (C ++ [r]) ++ A := by simp
    rw [List.foldl_cons, addBet_one hlt (hr r List.mem_cons_self), ← betT_app, e]
    exact addBet_all A (C ++ [r]) (by rw [← e]; exact h) fun q hq => hr q (List.mem_cons_of_mem _ hq)

theorem between_is {from_ to : Int} {A : TabT} (h : GoodT A) : A.foldl (addBet from_ to) [] = betT from_ to A := by
  have := addBet_all (from_ := from_) (to := to) A [] (by simpa using h.rows) fun r hr => (h.smps r hr).1
  simpa [betT] using this

theorem betT_good {from_ to : Int} {A : TabT} (h : GoodT A) : GoodT (betT from_ to A) := by
  refine ⟨?_, fun q hq => ?_⟩
  · unfold betT
    refine List.Pairwise.filter _ (List.pairwise_map.2 h.rows)
  · obtain ⟨r, hr, rfl, hne⟩ := betT_mem hq
    exact ⟨bet_rises (h.smps r hr).1, hne⟩

theorem filter_good {A : TabT} (h : GoodT A) (p : RowT → Bool) : GoodT (A.filter p) := ⟨h.rows.filter _, fun r hr => h.smps r (List.mem_filter.1 hr).1⟩

theorem betT_filter (from_ to : Int) (A : TabT) (p : List PairB → Bool) : (betT from_ to A).filter (fun r => p r.1) = betT from_ to (A.filter fun r => p r.1) := by
  unfold betT
  rw [List.filter_filter, List.filter_map, List.filter_map, List.filter_filter]
  congr 1
  refine List.filter_congr fun x _ => ?_
  simp [Bool.and_comm]
/-! ## The document's loops -/
open Classical in
theorem cmpL_cons (x y : PairB) (a b : List PairB) : cmpL (x :: a) (y :: b) = if ltP x y then -1 else if x = y then cmpL a b else 1 := by rw [cmpL]

theorem cmpL_drop {a b : List PairB} {k : Nat} (ha : k < a.length) (hb : k < b.length) : (ltP a[k] b[k] → cmpL (a.drop k) (b.drop k) = -1) ∧ (a[k] = b[k] → cmpL (a.drop k) (b.drop k) = cmpL (a.drop (k + 1)) (b.drop (k + 1))) ∧ (¬ ltP a[k] b[k] → ¬ a[k] = b[k] → cmpL (a.drop k) (b.drop k) = 1) := by
  rw [List.drop_eq_getElem_cons ha, List.drop_eq_getElem_cons hb, cmpL_cons]
  refine ⟨fun h => if_pos h, fun h => ?_, fun h h2 => ?_⟩
  · rw [h, if_neg (ltP_irr _), if_pos rfl]
  · rw [if_neg h, if_neg h2]

theorem cmpL_end {a b : List PairB} {k : Nat} (h : ¬ (k < a.length ∧ k < b.length)) (hk : k ≤ a.length ∧ k ≤ b.length) : (a.length < b.length → cmpL (a.drop k) (b.drop k) = -1) ∧ (b.length < a.length → cmpL (a.drop k) (b.drop k) = 1) ∧ (a.length = b.length → cmpL (a.drop k) (b.drop k) = 0) := by
  have ha : a.length ≤ k → a.drop k = [] := fun h => List.drop_eq_nil_of_le h
  have hb : b.length ≤ k → b.drop k = [] := fun h => List.drop_eq_nil_of_le h
  refine ⟨fun hlt => ?_, fun hlt => ?_, fun he => ?_⟩
  · rw [ha (by omega), List.drop_eq_getElem_cons (show k < b.length by omega)]
    rfl
  · rw [hb (by omega), List.drop_eq_getElem_cons (show k < a.length by omega)]
    rfl
  · rw [ha (by omega), hb (by omega)]
    rfl

/-- The ways of two pairs. -/
theorem pair_ways (x y : PairB) : (Op.bytesLess x.1.toList y.1.toList = true ∧ ltP x y) ∨ (Op.bytesLess x.1.toList y.1.toList = false ∧ (x.1.toList == y.1.toList) = true ∧ Op.bytesLess x.2.toList y.2.toList = true ∧ ltP x y) ∨
    (Op.bytesLess x.1.toList y.1.toList = false ∧ (x.1.toList == y.1.toList) = true ∧ Op.bytesLess x.2.toList y.2.toList = false ∧ (x.2.toList == y.2.toList) = true ∧ x = y) ∨
    (Op.bytesLess x.1.toList y.1.toList = false ∧ (x.1.toList == y.1.toList) = true ∧ Op.bytesLess x.2.toList y.2.toList = false ∧ (x.2.toList == y.2.toList) = false ∧ ¬ ltP x y ∧ ¬ x = y) ∨
    (Op.bytesLess x.1.toList y.1.toList = false ∧ (x.1.toList == y.1.toList) = false ∧ ¬ ltP x y ∧ ¬ x = y) := by
  obtain ⟨x1, x2⟩ := x
  obtain ⟨y1, y2⟩ := y
  rw [toList_beq, toList_beq]
  cases h1 : Op.bytesLess x1.toList y1.toList with
  | true => exact .inl ⟨rfl, .inl h1⟩
  | false =>
    have n1 : ¬ ltT x1 y1 := fun h => by rw [ltT, h1] at h; cases h
    by_cases e1 : x1 = y1
    · cases h2 : Op.bytesLess x2.toList y2.toList with
      | true => exact .inr (.inl ⟨rfl, by simp [e1], rfl, .inr ⟨e1, h2⟩⟩)
      | false =>
        have n2 : ¬ ltT x2 y2 := fun h => by rw [ltT, h2] at h; cases h
        by_cases e2 : x2 = y2
        · exact .inr (.inr (.inl ⟨rfl, by simp [e1], rfl, by simp [e2], by rw [e1, e2]⟩))
        · exact .inr (.inr (.inr (.inl ⟨rfl, by simp [e1], rfl, by simp [e2], fun h => by
            rcases h with h | ⟨_, h⟩
            · exact n1 h
            · exact n2 h, fun e => e2 (by injection e)⟩)))
    · exact .inr (.inr (.inr (.inr ⟨rfl, by simp [e1], fun h => by
        rcases h with h | ⟨h, _⟩
        · exact n1 h
        · exact e1 h, fun e => e1 (by injection e)⟩)))

def pStep (s : SmpB) (st : List SmpB × Bool) (x : SmpB) : List SmpB × Bool :=
  if x.1 = s.1 then (st.1 ++ [x], true) else if st.2 = false ∧ s.1 < x.1 then (st.1 ++ [s] ++ [x], true) else (st.1 ++ [x], st.2)

def pSo (s : SmpB) (l : List SmpB) (k : Nat) : List SmpB × Bool := (l.take k).foldl (pStep s) ([], false)

def pEnd (s : SmpB) (st : List SmpB × Bool) : List SmpB := if st.2 = true then st.1 else st.1 ++ [s]

theorem pSo_succ (s : SmpB) (l : List SmpB) {k : Nat} (hk : k < l.length) : pSo s l (k + 1) = pStep s (pSo s l k) l[k] := by
  unfold pSo
  rw [List.take_succ_eq_append_getElem hk, List.foldl_append]
  rfl

theorem p_done (s : SmpB) : ∀ (l acc : List SmpB), l.foldl (pStep s) (acc, true) = (acc ++ l, true)
  | [], acc => by simp
  | x :: l, acc => by
    have e : pStep s (acc, true) x = (acc ++ [x], true) := by unfold pStep; split <;> simp
    rw [List.foldl_cons, e, p_done s l]
    simp

theorem p_ins (s : SmpB) : ∀ (l acc : List SmpB), pEnd s (l.foldl (pStep s) (acc, false)) = acc ++ putS s l
  | [], acc => by simp [pEnd, putS]
  | x :: l, acc => by
    rw [List.foldl_cons]
    unfold putS
    by_cases h1 : x.1 = s.1
    · have e : pStep s (acc, false) x = (acc ++ [x], true) := by unfold pStep; rw [if_pos h1]
      rw [e, p_done, if_pos h1]
      simp [pEnd]
    · by_cases h2 : s.1 < x.1
      · have e : pStep s (acc, false) x = (acc ++ [s] ++ [x], true) := by unfold pStep; rw [if_neg h1, if_pos ⟨rfl, h2⟩]
        rw [e, p_done, if_neg h1, if_pos h2]
        simp [pEnd]
      · have e : pStep s (acc, false) x = (acc ++ [x], false) := by unfold pStep; rw [if_neg h1, if_neg (fun h => h2 h.2)]
        rw [e, p_ins s l, if_neg h1, if_neg h2]
        simp

theorem putS_so (s : SmpB) (l : List SmpB) : pEnd s (pSo s l l.length) = putS s l := by
  unfold pSo
  rw [List.take_length, p_ins]
  rfl

theorem pSo_len (s : SmpB) (l : List SmpB) : ∀ k, (pSo s l k).1.length ≤ k + 1 ∧ ((pSo s l k).2 = false → (pSo s l k).1.length ≤ k)
  | 0 => by simp [pSo]
  | k + 1 => by
    have ih := pSo_len s l k
    by_cases hk : k < l.length
    · rw [pSo_succ s l hk]
      unfold pStep
      split
      · refine ⟨?_, fun h => by simp at h⟩
        simp only [List.length_append, List.length_cons, List.length_nil]
        omega
      · split
        · rename_i h2
          have := ih.2 h2.1
          refine ⟨?_, fun h => by simp at h⟩
          simp only [List.length_append, List.length_cons, List.length_nil]
          omega
        · refine ⟨?_, fun h => ?_⟩
          · simp only [List.length_append, List.length_cons, List.length_nil]
            omega
          · have := ih.2 h
            simp only [List.length_append, List.length_cons, List.length_nil]
            omega
    · have e : pSo s l (k + 1) = pSo s l k := by unfold pSo; rw [List.take_of_length_le (by omega), List.take_of_length_le (by omega)]
      rw [e]
      exact ⟨by omega, fun h => by have := ih.2 h; omega⟩
open Classical in
noncomputable def aStep (lab : List PairB) (s : SmpB) (st : TabT × Bool) (r : RowT) : TabT × Bool :=
  if lab = r.1 then (st.1 ++ [(r.1, putS s r.2)], true) else if st.2 = false ∧ ltL lab r.1 then (st.1 ++ [(lab, [s])] ++ [r], true) else (st.1 ++ [r], st.2)

noncomputable def aSo (lab : List PairB) (s : SmpB) (A : TabT) (k : Nat) : TabT × Bool := (A.take k).foldl (aStep lab s) ([], false)

noncomputable def aEnd (lab : List PairB) (s : SmpB) (st : TabT × Bool) : TabT := if st.2 = true then st.1 else st.1 ++ [(lab, [s])]

theorem aSo_succ (lab : List PairB) (s : SmpB) (A : TabT) {k : Nat} (hk : k < A.length) : aSo lab s A (k + 1) = aStep lab s (aSo lab s A k) A[k] := by
  unfold aSo
  rw [List.take_succ_eq_append_getElem hk, List.foldl_append]
  rfl

theorem a_done (lab : List PairB) (s : SmpB) : ∀ (A acc : TabT), (∀ r ∈ A, ltL lab r.1) → A.foldl (aStep lab s) (acc, true) = (acc ++ A, true)
  | [], acc, _ => by simp
  | r :: A, acc, h => by
    have h1 := h r List.mem_cons_self
    have e : aStep lab s (acc, true) r = (acc ++ [r], true) := by
      unfold aStep
      rw [if_neg (fun e => ltL_irr _ (e ▸ h1)), if_neg (by simp)]
    rw [List.foldl_cons, e, a_done lab s A _ fun x hx => h x (List.mem_cons_of_mem _ hx)]
    simp

theorem a_ins (lab : List PairB) (s : SmpB) : ∀ (A acc : TabT), (A.Pairwise fun a b => ltL a.1 b.1) → aEnd lab s (A.foldl (aStep lab s) (acc, false)) = acc ++ addT lab s A
  | [], acc, _ => by simp [aEnd, addT]
  | r :: A, acc, h => by
    have h' := List.pairwise_cons.1 h
    rw [List.foldl_cons]
    unfold addT
    by_cases h1 : lab = r.1
    · have e : aStep lab s (acc, false) r = (acc ++ [(r.1, putS s r.2)], true) := by unfold aStep; rw [if_pos h1]
      rw [e, a_done lab s A _ (fun x hx => by rw [h1]; exact h'.1 x hx), if_pos h1]
      simp [aEnd]
    · by_cases h2 : ltL lab r.1
      · have e : aStep lab s (acc, false) r = (acc ++ [(lab, [s])] ++ [r], true) := by unfold aStep; rw [if_neg h1, if_pos ⟨rfl, h2⟩]
        rw [e, a_done lab s A _ (fun x hx => ltL_tr h2 (h'.1 x hx)), if_neg h1, if_pos h2]
        simp [aEnd]
      · have e : aStep lab s (acc, false) r = (acc ++ [r], false) := by unfold aStep; rw [if_neg h1, if_neg (fun h => h2 h.2)]
        rw [e, a_ins lab s A _ h'.2, if_neg h1, if_neg h2]
        simp

theorem addT_so {lab : List PairB} {s : SmpB} {A : TabT} (h : A.Pairwise fun a b => ltL a.1 b.1) : aEnd lab s (aSo lab s A A.length) = addT lab s A := by
  unfold aSo
  rw [List.take_length, a_ins lab s A [] h]
  rfl

theorem aSo_len (lab : List PairB) (s : SmpB) (A : TabT) : ∀ k, (aSo lab s A k).1.length ≤ k + 1 ∧ ((aSo lab s A k).2 = false → (aSo lab s A k).1.length ≤ k)
  | 0 => by simp [aSo]
  | k + 1 => by
    have ih := aSo_len lab s A k
    by_cases hk : k < A.length
    · rw [aSo_succ lab s A hk]
      unfold aStep
      split
      · refine ⟨?_, fun h => by simp at h⟩
        simp only [List.length_append, List.length_cons, List.length_nil]
        omega
      · split
        · rename_i h2
          have := ih.2 h2.1
          refine ⟨?_, fun h => by simp at h⟩
          simp only [List.length_append, List.length_cons, List.length_nil]
          omega
        · refine ⟨?_, fun h => ?_⟩
          · simp only [List.length_append, List.length_cons, List.length_nil]
            omega
          · have := ih.2 h
            simp only [List.length_append, List.length_cons, List.length_nil]
            omega
    · have e : aSo lab s A (k + 1) = aSo lab s A k := by unfold aSo; rw [List.take_of_length_le (by omega), List.take_of_length_le (by omega)]
      rw [e]
      exact ⟨by omega, fun h => by have := ih.2 h; omega⟩
end Go.Proofs.YtlifonflgcfafaaGreatDoor
