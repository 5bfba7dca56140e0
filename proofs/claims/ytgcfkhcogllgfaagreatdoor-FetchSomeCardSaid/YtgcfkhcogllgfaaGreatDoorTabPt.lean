/-
  Parts of a table merged, in plain words: what is between two times, and between the second and a third one, merged is what is between the first and the third one; a table and a part of its rows merged is the table.
  The table's rows rise, and each row's samples.
-/
import Derived.Test.YtgcfkhcogllgfaaGreatDoorTabFl
import Derived.Test.YtgcfkhcogllgfaaGreatDoorFetO
namespace Go.Proofs.YtgcfkhcogllgfaaGreatDoor
open Go Go.RowKit
theorem strict_eq : ∀ {S T : List SmpB}, S.Pairwise ltS → T.Pairwise ltS → (∀ s, s ∈ S ↔ s ∈ T) → S = T
 | [], [], _, _, _ => rfl
 | [], t :: T, _, _, h => absurd ((h t).2 List.mem_cons_self) (by simp)
 | s :: S, [], _, _, h => absurd ((h s).1 List.mem_cons_self) (by simp)
 | s :: S, t :: T, hS, hT, h => by
  obtain ⟨s1, s2⟩ := List.pairwise_cons.1 hS
  obtain ⟨t1, t2⟩ := List.pairwise_cons.1 hT
  have e : s = t := by
   rcases List.mem_cons.1 ((h s).1 List.mem_cons_self) with e | e
   ·exact e
   ·rcases List.mem_cons.1 ((h t).2 List.mem_cons_self) with e' | e'
    ·exact e'.symm
    ·have h1 := t1 s e
     have h2 := s1 t e'
     unfold ltS at h1 h2
     omega
  subst e
  refine congrArg (s :: ·) (strict_eq s2 t2 fun x => ?_)
  constructor
  ·intro hx
   rcases List.mem_cons.1 ((h x).1 (List.mem_cons_of_mem _ hx)) with e | e
   ·subst e
    have := s1 x hx
    unfold ltS at this
    omega
   ·exact e
  ·intro hx
   rcases List.mem_cons.1 ((h x).2 (List.mem_cons_of_mem _ hx)) with e | e
   ·subst e
    have := t1 x hx
    unfold ltS at this
    omega
   ·exact e
theorem smpsOf_eq {Ls : List (List SmpB)} {S T : List SmpB} (h : SmpsOf Ls S) (k : SmpsOf Ls T) : S = T :=
 strict_eq h.1 k.1 fun s => mem_atT (fun t => by rw [h.2 t, k.2 t]) s
theorem gRel_eq {G : List GrpT} {T C : TabT} (h : GRel G T) (k : GRel G C) : T = C := by
 have hl : T.length = C.length := by rw [← h.1, k.1]
 refine List.ext_getElem hl fun i h1 h2 => ?_
 have hg : i < G.length := by rw [h.1]; exact h1
 obtain ⟨a1, a2⟩ := h.2 i G[i] T[i] (List.getElem?_eq_getElem hg) (List.getElem?_eq_getElem h1)
 obtain ⟨b1, b2⟩ := k.2 i G[i] C[i] (List.getElem?_eq_getElem hg) (List.getElem?_eq_getElem h2)
 exact Prod.ext (a1.trans b1.symm) (smpsOf_eq a2 b2)
theorem atT_one (t : Int) : ∀ {l : List SmpB}, l.Pairwise ltS → (atT t l).length ≤ 1
 | [], _ => by simp [atT]
 | x :: l, h => by
  obtain ⟨h1, h2⟩ := List.pairwise_cons.1 h
  rw [atT_cons]
  split
  ·rename_i e
   rw [atT_none fun s hs => by have := h1 s hs; unfold ltS at this; omega]
   simp
  ·exact atT_one t h2
theorem smpsOf_flat {Ls : List (List SmpB)} (h : Ls.flatten.Pairwise ltS) : SmpsOf Ls Ls.flatten :=
 ⟨h, fun t => (List.take_of_length_le (atT_one t h)).symm⟩
theorem smpsOf_twice {s : List SmpB} (h : s.Pairwise ltS) : SmpsOf [s, s] s := ⟨h, fun t => by
 have h1 := atT_one t h
 rw [List.flatten_cons, List.flatten_cons, List.flatten_nil, List.append_nil, atT_app]
 rcases he : atT t s with _ | ⟨x, r⟩
 ·rfl
 ·rw [he] at h1
  have : r = [] := by
   simp only [List.length_cons] at h1
   exact List.eq_nil_of_length_eq_zero (by omega)
  subst this
  rfl⟩
theorem gRel_nil : GRel [] [] := ⟨rfl, fun i g r hg => by simp at hg⟩
theorem gRel_cons {G : List GrpT} {D : TabT} {P : List PairB} {Ls : List (List SmpB)} {T : List SmpB} (hT : SmpsOf Ls T) (h : GRel G D) : GRel ((P, Ls) :: G) ((P, T) :: D) := by
 refine ⟨by simp [h.1], fun i g r hg hr => ?_⟩
 cases i with
 | zero =>
  obtain rfl : (P, Ls) = g := by simpa using hg
  obtain rfl : (P, T) = r := by simpa using hr
  exact ⟨rfl, hT⟩
 | succ i =>
  rw [List.getElem?_cons_succ] at hg hr
  exact h.2 i g r hg hr
theorem mrg_fst {a : RowT} {A B : TabT} (h : ∀ b ∈ B, ltL a.1 b.1) : mrg (a :: A) B = (a.1, [a.2]) :: mrg A B := by
 cases B with
 | nil => rw [mrg_nil_right, mrg_nil_right]; rfl
 | cons b B =>
  have h1 := h b List.mem_cons_self
  exact mrg_gt (ltL_asym h1) (ltL_ne h1)
theorem mrg_snd {b : RowT} {A B : TabT} (h : ∀ a ∈ A, ltL b.1 a.1) : mrg A (b :: B) = (b.1, [b.2]) :: mrg A B := by
 cases A with
 | nil => rw [mrg_nil_left, mrg_nil_left]; rfl
 | cons a A => exact mrg_lt (h a List.mem_cons_self)
theorem betS_sum {fr m up : Int} (h1 : fr ≤ m) (h2 : m ≤ up) : ∀ {l : List SmpB}, l.Pairwise ltS → betS fr m l ++ betS m up l = betS fr up l
 | [], _ => rfl
 | x :: l, h => by
  obtain ⟨h3, h4⟩ := List.pairwise_cons.1 h
  have ih := betS_sum h1 h2 h4
  unfold betS at ih ⊢
  simp only [List.filter_cons]
  by_cases q1 : fr ≤ x.1 ∧ x.1 < m
  ·rw [if_pos (decide_eq_true q1), if_neg (by rw [decide_eq_true_eq]; omega), if_pos (decide_eq_true (by omega))]
   rw [List.cons_append, ih]
  ·by_cases q2 : m ≤ x.1 ∧ x.1 < up
   ·have e : l.filter (fun s => decide (fr ≤ s.1 ∧ s.1 < m)) = [] := by
     rw [List.filter_eq_nil_iff]
     intro s hs
     have := h3 s hs
     unfold ltS at this
     rw [decide_eq_true_eq]
     omega
    rw [if_neg (by rw [decide_eq_true_eq]; exact q1), if_pos (decide_eq_true q2), if_pos (decide_eq_true (by omega)), ← ih, e]
    rfl
   ·rw [if_neg (by rw [decide_eq_true_eq]; exact q1), if_neg (by rw [decide_eq_true_eq]; exact q2), if_neg (by rw [decide_eq_true_eq]; omega)]
    exact ih
theorem betT_cons (fr up : Int) (r : RowT) (A : TabT) : betT fr up (r :: A) = if betS fr up r.2 = [] then betT fr up A else (r.1, betS fr up r.2) :: betT fr up A := by
 have e := betT_app fr up [r] A
 rw [List.singleton_append] at e
 rw [e]
 by_cases h : betS fr up r.2 = []
 ·rw [if_pos h]
  have : betT fr up [r] = [] := by simp [betT, h]
  rw [this]
  rfl
 ·rw [if_neg h]
  have : betT fr up [r] = [(r.1, betS fr up r.2)] := by simp [betT, h]
  rw [this]
  rfl
theorem betT_above {fr up : Int} {A : TabT} {P : List PairB} (h : ∀ r ∈ A, ltL P r.1) : ∀ r ∈ betT fr up A, ltL P r.1 := fun r hr => by
 obtain ⟨q, hq, rfl, -⟩ := betT_mem hr
 exact h q hq
theorem parts_rel {fr m up : Int} (h1 : fr ≤ m) (h2 : m ≤ up) : ∀ {A : TabT}, RisesT A → (∀ r ∈ A, r.2.Pairwise ltS) → GRel (mrg (betT fr m A) (betT m up A)) (betT fr up A)
 | [], _, _ => by
  show GRel (mrg [] []) []
  rw [mrg_nil_left]
  exact gRel_nil
 | r :: A, hr, hs => by
  have ih := parts_rel h1 h2 (List.pairwise_cons.1 hr).2 (fun x hx => hs x (List.mem_cons_of_mem _ hx))
  have hab := rises_head hr
  have hsum := betS_sum h1 h2 (hs r List.mem_cons_self)
  have hp : (betS fr up r.2).Pairwise ltS := (hs r List.mem_cons_self).filter _
  rw [betT_cons, betT_cons, betT_cons, ← hsum]
  rw [← hsum] at hp
  by_cases e1 : betS fr m r.2 = []
  ·by_cases e2 : betS m up r.2 = []
   ·rw [if_pos e1, if_pos e2, e1, e2, if_pos (show ([] : List SmpB) ++ [] = [] from rfl)]
    exact ih
   ·rw [if_pos e1, if_neg e2, if_neg (by simp [e2]), mrg_snd (b := (r.1, betS m up r.2)) (betT_above hab)]
    rw [e1, List.nil_append] at hp ⊢
    refine gRel_cons ?_ ih
    have := smpsOf_flat (Ls := [betS m up r.2]) (by simpa using hp)
    simpa using this
  ·by_cases e2 : betS m up r.2 = []
   ·rw [if_neg e1, if_pos e2, if_neg (by simp [e1]), mrg_fst (a := (r.1, betS fr m r.2)) (betT_above hab)]
    rw [e2, List.append_nil] at hp ⊢
    refine gRel_cons ?_ ih
    have := smpsOf_flat (Ls := [betS fr m r.2]) (by simpa using hp)
    simpa using this
   ·rw [if_neg e1, if_neg e2, if_neg (by simp [e1]), mrg_eq (a := (r.1, betS fr m r.2)) (b := (r.1, betS m up r.2)) (ltL_irr _) rfl]
    refine gRel_cons ?_ ih
    have := smpsOf_flat (Ls := [betS fr m r.2, betS m up r.2]) (by simpa using hp)
    simpa using this
theorem some_rel {p q : RowT → Bool} : ∀ {A : TabT}, RisesT A → (∀ r ∈ A, r.2.Pairwise ltS) → (∀ r ∈ A, q r = true → p r = true) → GRel (mrg (A.filter p) (A.filter q)) (A.filter p)
 | [], _, _, _ => by
  show GRel (mrg [] []) []
  rw [mrg_nil_left]
  exact gRel_nil
 | r :: A, hr, hs, hq => by
  have ih := some_rel (List.pairwise_cons.1 hr).2 (fun x hx => hs x (List.mem_cons_of_mem _ hx)) (fun x hx => hq x (List.mem_cons_of_mem _ hx))
  have hab := rises_head hr
  rw [List.filter_cons, List.filter_cons]
  by_cases e2 : q r = true
  ·have e1 := hq r List.mem_cons_self e2
   rw [if_pos e1, if_pos e2, mrg_eq (ltL_irr _) rfl]
   exact gRel_cons (smpsOf_twice (hs r List.mem_cons_self)) ih
  ·rw [if_neg e2]
   by_cases e1 : p r = true
   ·rw [if_pos e1, mrg_fst fun b hb => hab b (List.mem_filter.1 hb).1]
    refine gRel_cons ?_ ih
    have := smpsOf_flat (Ls := [r.2]) (by simpa using hs r List.mem_cons_self)
    simpa using this
   ·rw [if_neg e1]
    exact ih
theorem bet_few {A : TabT} {fr0 up0 : Nat} (h : BlkOk A fr0 up0) (fr up : Int) (L : List MatB) :
  RisesT ((betT fr up A).filter (fitR L)) ∧ (∀ r ∈ (betT fr up A).filter (fitR L), RowFew r) ∧ ((betT fr up A).filter (fitR L)).length ≤ 40 := by
 refine ⟨List.Pairwise.filter _ (List.Pairwise.filter _ (List.pairwise_map.2 h.good.rows)), fun r hr => ?_, ?_⟩
 ·obtain ⟨q, hq, rfl, hne⟩ := betT_mem (List.mem_filter.1 hr).1
  have h1 := h.few.2 q hq
  have h2 : betS fr up q.2 ≠ [] := hne
  have h3 : (betS fr up q.2).length ≤ q.2.length := List.length_filter_le _ _
  exact ⟨List.length_pos_iff.2 (h.ne q hq), Nat.le_trans h1.1 (by decide), List.length_pos_iff.2 h2, Nat.le_trans h3 (Nat.le_trans h1.2 (by decide))⟩
 ·have h1 : (betT fr up A).length ≤ A.length := by
   unfold betT
   exact Nat.le_trans (List.length_filter_le _ _) (by rw [List.length_map]; exact Nat.le_refl _)
  have h2 := List.length_filter_le (fitR L) (betT fr up A)
  have := h.few.1
  omega
end Go.Proofs.YtgcfkhcogllgfaaGreatDoor
