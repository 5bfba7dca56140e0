/-
  A head's series as a table: what a sample more makes of it, and what is left behind a time.
  No program in sight.

  A head's series behind a time: what Drop leaves, series by series.
  No program in sight.
-/
import Derived.Test.YtgdkceeonnfejaaGreatDoorTabLaw
import Derived.Test.YtgdkceeonnfejaaGreatDoorHeadG
namespace Go.Proofs.YtgdkceeonnfejaaGreatDoor
open Go Go.RowKit
theorem mem_addT {lab : List PairB} {s : SmpB} {r : RowT} : ∀ {A : TabT}, (A.Pairwise fun a b => ltL a.1 b.1) → (r ∈ addT lab s A ↔ (r ∈ A ∧ r.1 ≠ lab) ∨ (r.1 = lab ∧ ((∃ q ∈ A, q.1 = lab ∧ r.2 = putS s q.2) ∨ ((∀ q ∈ A, q.1 ≠ lab) ∧ r.2 = [s]))))
 | [], _ => by
  obtain ⟨r1, r2⟩ := r
  simp [addT]
 | q :: A, h => by
  have h' := List.pairwise_cons.1 h
  have ih := mem_addT (lab := lab) (s := s) (r := r) h'.2
  have hall : ∀ x ∈ A, q.1 = lab → x.1 ≠ lab := fun x hx e e2 => by
   have := h'.1 x hx
   rw [e, e2] at this
   exact ltL_irr _ this
  unfold addT
  by_cases e : lab = q.1
  ·rw [if_pos e]
   constructor
   ·intro hm
    rcases List.mem_cons.1 hm with rfl | hm
    ·exact .inr ⟨e.symm, .inl ⟨q, List.mem_cons_self, e.symm, rfl⟩⟩
    ·exact .inl ⟨List.mem_cons_of_mem _ hm, hall r hm e.symm⟩
   ·rintro (⟨hm, hne⟩ | ⟨h1, ⟨x, hx, h2, h3⟩ | ⟨h2, _⟩⟩)
    ·rcases List.mem_cons.1 hm with rfl | hm
     ·exact absurd e.symm hne
     ·exact List.mem_cons_of_mem _ hm
    ·rcases List.mem_cons.1 hx with rfl | hx
     ·obtain ⟨r1, r2⟩ := r
      dsimp only at h1 h3
      rw [h1, h3, e]
      exact List.mem_cons_self
     ·exact absurd h2 (hall x hx e.symm)
    ·exact absurd e.symm (h2 q List.mem_cons_self)
  ·rw [if_neg e]
   have e' : q.1 ≠ lab := fun h => e h.symm
   by_cases hl : ltL lab q.1
   ·rw [if_pos hl]
    have hno : ∀ x ∈ q :: A, x.1 ≠ lab := fun x hx e2 => by
     rcases List.mem_cons.1 hx with rfl | hx
     ·exact e' e2
     ·have := ltL_tr hl (h'.1 x hx)
      rw [e2] at this
      exact ltL_irr _ this
    constructor
    ·intro hm
     rcases List.mem_cons.1 hm with rfl | hm
     ·exact .inr ⟨rfl, .inr ⟨hno, rfl⟩⟩
     ·exact .inl ⟨hm, hno r hm⟩
    ·rintro (⟨hm, _⟩ | ⟨h1, ⟨x, hx, h2, _⟩ | ⟨_, h3⟩⟩)
     ·exact List.mem_cons_of_mem _ hm
     ·exact absurd h2 (hno x hx)
     ·obtain ⟨r1, r2⟩ := r
      dsimp only at h1 h3
      rw [h1, h3]
      exact List.mem_cons_self
   ·rw [if_neg hl, List.mem_cons, ih]
    constructor
    ·rintro (rfl | ⟨hm, hne⟩ | ⟨h1, ⟨x, hx, h2, h3⟩ | ⟨h2, h3⟩⟩)
     ·exact .inl ⟨List.mem_cons_self, e'⟩
     ·exact .inl ⟨List.mem_cons_of_mem _ hm, hne⟩
     ·exact .inr ⟨h1, .inl ⟨x, List.mem_cons_of_mem _ hx, h2, h3⟩⟩
     ·exact .inr ⟨h1, .inr ⟨fun x hx => by
       rcases List.mem_cons.1 hx with rfl | hx
       ·exact e'
       ·exact h2 x hx, h3⟩⟩
    ·rintro (⟨hm, hne⟩ | ⟨h1, ⟨x, hx, h2, h3⟩ | ⟨h2, h3⟩⟩)
     ·rcases List.mem_cons.1 hm with rfl | hm
      ·exact .inl rfl
      ·exact .inr (.inl ⟨hm, hne⟩)
     ·rcases List.mem_cons.1 hx with rfl | hx
      ·exact absurd h2 e'
      ·exact .inr (.inr ⟨h1, .inl ⟨x, hx, h2, h3⟩⟩)
     ·exact .inr (.inr ⟨h1, .inr ⟨fun x hx => h2 x (List.mem_cons_of_mem _ hx), h3⟩⟩)
structure TabOf (S : List SerH) (A : TabT) : Prop where
 rows : A.Pairwise fun a b => ltL a.1 b.1
 mem : ∀ r, r ∈ A ↔ ∃ s ∈ S, r = (s.lab, s.l)
theorem TabOf.nil : TabOf [] [] := ⟨List.Pairwise.nil, by simp⟩
theorem TabOf.uniq {S : List SerH} {A C : TabT} (h : TabOf S A) (h' : TabOf S C) : A = C := uniqT (fun a b : RowT => ltL a.1 b.1) (fun x => ltL_irr _) (fun _ _ _ h1 h2 => ltL_tr h1 h2) h.rows h'.rows fun r => by rw [h.mem, h'.mem]
theorem addT_rows {lab : List PairB} {s : SmpB} {A : TabT} (h : A.Pairwise fun a b => ltL a.1 b.1) : (addT lab s A).Pairwise fun a b => ltL a.1 b.1 := by
 induction A with
 | nil => simp [addT]
 | cons q A ih =>
  have h' := List.pairwise_cons.1 h
  unfold addT
  split
  ·exact List.pairwise_cons.2 ⟨h'.1, h'.2⟩
  ·rename_i e
   split
   ·rename_i hlt
    refine List.pairwise_cons.2 ⟨fun y hy => ?_, h⟩
    rcases List.mem_cons.1 hy with rfl | hy
    ·exact hlt
    ·exact ltL_tr hlt (h'.1 y hy)
   ·rename_i hlt
    refine List.pairwise_cons.2 ⟨fun y hy => ?_, ih h'.2⟩
    rcases addT_mem hy with hy | ⟨e2, _⟩
    ·exact h'.1 y hy
    ·rw [e2]
     exact ltL_or e hlt
theorem TabOf.old {S1 S2 : List SerH} {s s' : SerH} {A : TabT} {p : SmpB} (h : TabOf (S1 ++ s :: S2) A) (hd : ((S1 ++ s :: S2).map (·.lab)).Nodup) (e1 : s'.lab = s.lab) (e2 : s'.l = s.l ++ [p]) (hlt : ∀ y ∈ s.l, y.1 < p.1) : TabOf (S1 ++ s' :: S2) (addT s.lab p A) := by
 refine ⟨addT_rows h.rows, fun r => ?_⟩
 have hno : ∀ t ∈ S1 ++ S2, t.lab ≠ s.lab := fun t ht e => by
  rw [List.map_append, List.map_cons, List.nodup_append, List.nodup_cons] at hd
  rcases List.mem_append.1 ht with ht | ht
  ·exact hd.2.2 t.lab (List.mem_map.2 ⟨t, ht, rfl⟩) s.lab List.mem_cons_self e
  ·exact hd.2.1.1 (List.mem_map.2 ⟨t, ht, e⟩)
 have hs : (s.lab, s.l) ∈ A := (h.mem _).2 ⟨s, by simp, rfl⟩
 rw [mem_addT h.rows]
 constructor
 ·rintro (⟨hm, hne⟩ | ⟨h1, ⟨q, hq, h2, h3⟩ | ⟨h2, _⟩⟩)
  ·obtain ⟨t, ht, rfl⟩ := (h.mem _).1 hm
   rcases List.mem_append.1 ht with ht | ht
   ·exact ⟨t, List.mem_append_left _ ht, rfl⟩
   ·rcases List.mem_cons.1 ht with rfl | ht
    ·exact absurd rfl hne
    ·exact ⟨t, List.mem_append_right _ (List.mem_cons_of_mem _ ht), rfl⟩
  ·obtain ⟨t, ht, rfl⟩ := (h.mem _).1 hq
   dsimp only at h2 h3
   have : t = s := by
    rcases List.mem_append.1 ht with ht | ht
    ·exact absurd h2 (hno t (List.mem_append_left _ ht))
    ·rcases List.mem_cons.1 ht with rfl | ht
     ·rfl
     ·exact absurd h2 (hno t (List.mem_append_right _ ht))
   subst this
   refine ⟨s', by simp, ?_⟩
   obtain ⟨r1, r2⟩ := r
   dsimp only at h1 h3
   rw [h1, h3, e1, e2, putS_end hlt]
  ·exact absurd rfl (h2 _ hs)
 ·rintro ⟨t, ht, rfl⟩
  rcases List.mem_append.1 ht with ht | ht
  ·exact .inl ⟨(h.mem _).2 ⟨t, List.mem_append_left _ ht, rfl⟩, hno t (List.mem_append_left _ ht)⟩
  ·rcases List.mem_cons.1 ht with rfl | ht
   ·exact .inr ⟨e1, .inl ⟨_, hs, rfl, by rw [e2, putS_end hlt]⟩⟩
   ·exact .inl ⟨(h.mem _).2 ⟨t, List.mem_append_right _ (List.mem_cons_of_mem _ ht), rfl⟩, hno t (List.mem_append_right _ ht)⟩
theorem TabOf.new {S : List SerH} {s : SerH} {A : TabT} {p : SmpB} (h : TabOf S A) (hn : ∀ t ∈ S, t.lab ≠ s.lab) (e : s.l = [p]) : TabOf (S ++ [s]) (addT s.lab p A) := by
 refine ⟨addT_rows h.rows, fun r => ?_⟩
 rw [mem_addT h.rows]
 constructor
 ·rintro (⟨hm, _⟩ | ⟨h1, ⟨q, hq, h2, _⟩ | ⟨_, h3⟩⟩)
  ·obtain ⟨t, ht, rfl⟩ := (h.mem _).1 hm
   exact ⟨t, List.mem_append_left _ ht, rfl⟩
  ·obtain ⟨t, ht, rfl⟩ := (h.mem _).1 hq
   exact absurd h2 (hn t ht)
  ·refine ⟨s, by simp, ?_⟩
   obtain ⟨r1, r2⟩ := r
   dsimp only at h1 h3
   rw [h1, h3, e]
 ·rintro ⟨t, ht, rfl⟩
  rcases List.mem_append.1 ht with ht | ht
  ·exact .inl ⟨(h.mem _).2 ⟨t, ht, rfl⟩, hn t ht⟩
  ·obtain rfl : t = s := by simpa using ht
   refine .inr ⟨rfl, .inr ⟨fun q hq e2 => ?_, e⟩⟩
   obtain ⟨u, hu, rfl⟩ := (h.mem _).1 hq
   exact hn u hu e2
def cutS (f : Int) (l : List SmpB) : List SmpB := l.dropWhile fun s => decide (s.1 < f)
theorem cutS_bet {f upt : Int} {l : List SmpB} (h : l.Pairwise ltS) (hu : ∀ y ∈ l, y.1 < upt) : cutS f l = betS f upt l := by
 unfold cutS betS
 induction l with
 | nil => rfl
 | cons x l ih =>
  have h' := List.pairwise_cons.1 h
  by_cases hx : x.1 < f
  ·rw [List.dropWhile_cons_of_pos (by simpa using hx), List.filter_cons_of_neg (by simp; omega)]
   exact ih h'.2 fun y hy => hu y (List.mem_cons_of_mem _ hy)
  ·rw [List.dropWhile_cons_of_neg (by simpa using hx)]
   symm
   rw [List.filter_eq_self]
   intro y hy
   have h1 := hu y hy
   have h2 : x.1 ≤ y.1 := by
    rcases List.mem_cons.1 hy with rfl | hy
    ·exact Int.le_refl _
    ·have := h'.1 y hy
     unfold ltS at this
     omega
   simp only [decide_eq_true_eq]
   omega
theorem TabOf.cut {S S' : List SerH} {A : TabT} {f upt : Int} (h : TabOf S A) (hs : ∀ s ∈ S, s.l.Pairwise ltS ∧ ∀ y ∈ s.l, y.1 < upt) (h' : ∀ r : RowT, (∃ s ∈ S', r = (s.lab, s.l)) ↔ ∃ s ∈ S, r = (s.lab, cutS f s.l) ∧ cutS f s.l ≠ []) : TabOf S' (betT f upt A) := by
 refine ⟨?_, fun r => ?_⟩
 ·unfold betT
  exact List.Pairwise.filter _ (List.pairwise_map.2 h.rows)
 ·rw [h']
  constructor
  ·intro hm
   obtain ⟨q, hq, rfl, hne⟩ := betT_mem hm
   obtain ⟨s, hsS, rfl⟩ := (h.mem _).1 hq
   have e := cutS_bet (f := f) (hs s hsS).1 (hs s hsS).2
   exact ⟨s, hsS, by rw [e], by rw [e]; exact hne⟩
  ·rintro ⟨s, hsS, rfl, hne⟩
   have e := cutS_bet (f := f) (hs s hsS).1 (hs s hsS).2
   unfold betT
   refine List.mem_filter.2 ⟨List.mem_map.2 ⟨(s.lab, s.l), (h.mem _).2 ⟨s, hsS, rfl⟩, by rw [e]⟩, by rw [e] at hne ⊢; simpa using hne⟩
theorem TabOf.good {S : List SerH} {A : TabT} (h : TabOf S A) (hs : ∀ s ∈ S, s.l.Pairwise ltS ∧ s.l ≠ []) : GoodT A := ⟨h.rows, fun r hr => by
 obtain ⟨s, hsS, rfl⟩ := (h.mem _).1 hr
 exact hs s hsS⟩
abbrev Core := Int × List PairB × List SmpB × Int
def coreS (s : SerH) : Core := (s.ref, s.lab, s.l, s.last)
def cutOne (f : Int) (c : Core) : Option Core := if cutS f c.2.2.1 = [] then none else some (c.1, c.2.1, cutS f c.2.2.1, c.2.2.2)
def cutC (f : Int) (done : List Int) (c : Core) : Option Core := if c.1 ∈ done then cutOne f c else some c
def CutTo (f : Int) (done : List Int) (S S' : List SerH) : Prop := S'.map coreS = (S.map coreS).filterMap (cutC f done)
def cntS (S : List SerH) : Nat := (S.map (·.l.length)).sum
theorem cntS_mid (A C : List SerH) (s : SerH) : cntS (A ++ s :: C) = cntS (A ++ C) + s.l.length := by
 simp [cntS]
 omega
theorem cutOne_ref {f : Int} {c d : Core} (h : cutOne f c = some d) : d.1 = c.1 := by
 unfold cutOne at h
 split at h
 ·cases h
 ·injection h with h
  rw [← h]
theorem cutC_nil (f : Int) (c : Core) : cutC f [] c = some c := by simp [cutC]
theorem cutC_ne {f r : Int} {c : Core} (h : c.1 ≠ r) : cutC f [r] c = some c := by simp [cutC, h]
theorem cutC_at {f r : Int} {c : Core} (h : c.1 = r) : cutC f [r] c = cutOne f c := by simp [cutC, h]
theorem CutTo.start (f : Int) (S : List SerH) : CutTo f [] S S := by
 unfold CutTo
 have : ∀ C : List Core, C.filterMap (cutC f []) = C := fun C => by
  induction C with
  | nil => rfl
  | cons c C ih => rw [List.filterMap_cons, cutC_nil, ih]
 exact (this _).symm
theorem CutTo.at_ {f r : Int} {done : List Int} {S S' : List SerH} (h : CutTo f done S S') (hn : (S'.map (·.ref)).Nodup) (hr : r ∈ S.map (·.ref)) (hd : r ∉ done) : ∃ A s C, S' = A ++ s :: C ∧ s.ref = r ∧ (∀ t ∈ A ++ C, t.ref ≠ r) ∧ ∃ s0 ∈ S, coreS s = coreS s0 := by
 obtain ⟨s0, hs0, rfl⟩ := List.mem_map.1 hr
 have h1 : coreS s0 ∈ S'.map coreS := by
  rw [h]
  refine List.mem_filterMap.2 ⟨coreS s0, List.mem_map.2 ⟨s0, hs0, rfl⟩, ?_⟩
  unfold cutC
  rw [if_neg (by exact hd)]
 obtain ⟨s, hs, e⟩ := List.mem_map.1 h1
 have er : s.ref = s0.ref := congrArg (·.1) e
 obtain ⟨A, C, rfl⟩ := List.append_of_mem hs
 refine ⟨A, s, C, rfl, er, fun t ht e2 => ?_, s0, hs0, e⟩
 rw [List.map_append, List.map_cons, List.nodup_append, List.nodup_cons] at hn
 rcases List.mem_append.1 ht with ht | ht
 ·exact hn.2.2 t.ref (List.mem_map.2 ⟨t, ht, rfl⟩) s.ref List.mem_cons_self (e2.trans er.symm)
 ·exact hn.2.1.1 (List.mem_map.2 ⟨t, ht, e2.trans er.symm⟩)
theorem cut_more (f r : Int) (done : List Int) (hd : r ∉ done) (C : List Core) : C.filterMap (cutC f (done ++ [r])) = (C.filterMap (cutC f done)).filterMap (cutC f [r]) := by
 rw [List.filterMap_filterMap]
 congr 1
 funext c
 by_cases h1 : c.1 ∈ done
 ·have h2 : c.1 ≠ r := fun e => hd (e ▸ h1)
  have e1 : cutC f (done ++ [r]) c = cutOne f c := by simp [cutC, h1]
  have e2 : cutC f done c = cutOne f c := by simp [cutC, h1]
  rw [e1, e2]
  cases h : cutOne f c with
  | none => rfl
  | some d =>
   show some d = cutC f [r] d
   rw [cutC_ne (by rw [cutOne_ref h]; exact h2)]
 ·have e2 : cutC f done c = some c := by simp [cutC, h1]
  rw [e2]
  show _ = cutC f [r] c
  by_cases h2 : c.1 = r
  ·simp [cutC, h2]
  ·simp [cutC, h1, h2]
theorem cut_keep {f r : Int} : ∀ {A : List SerH}, (∀ t ∈ A, t.ref ≠ r) → (A.map coreS).filterMap (cutC f [r]) = A.map coreS
 | [], _ => rfl
 | a :: A, h => by
  rw [List.map_cons, List.filterMap_cons, cutC_ne (by exact h a List.mem_cons_self), cut_keep fun t ht => h t (List.mem_cons_of_mem _ ht)]
theorem CutTo.step {f : Int} {done : List Int} {S A C : List SerH} {s : SerH} (h : CutTo f done S (A ++ s :: C)) (hne : ∀ t ∈ A ++ C, t.ref ≠ s.ref) (hd : s.ref ∉ done) : (S.map coreS).filterMap (cutC f (done ++ [s.ref])) = A.map coreS ++ ((cutOne f (coreS s)).toList ++ C.map coreS) := by
 unfold CutTo at h
 rw [cut_more f _ _ hd, ← h, List.map_append, List.map_cons, List.filterMap_append, List.filterMap_cons, cutC_at (c := coreS s) (r := s.ref) rfl, cut_keep (fun t ht => hne t (List.mem_append_left _ ht)), cut_keep (fun t ht => hne t (List.mem_append_right _ ht))]
 cases cutOne f (coreS s) <;> rfl
theorem CutTo.gone {f : Int} {done : List Int} {S A C : List SerH} {s : SerH} (h : CutTo f done S (A ++ s :: C)) (hne : ∀ t ∈ A ++ C, t.ref ≠ s.ref) (hd : s.ref ∉ done) (hc : cutS f s.l = []) : CutTo f (done ++ [s.ref]) S (A ++ C) := by
 unfold CutTo
 rw [h.step hne hd, List.map_append]
 have : cutOne f (coreS s) = none := by unfold cutOne; rw [if_pos (by exact hc)]
 rw [this]
 rfl
theorem CutTo.left {f : Int} {done : List Int} {S A C : List SerH} {s s' : SerH} (h : CutTo f done S (A ++ s :: C)) (hne : ∀ t ∈ A ++ C, t.ref ≠ s.ref) (hd : s.ref ∉ done) (hc : cutS f s.l ≠ []) (e : coreS s' = (s.ref, s.lab, cutS f s.l, s.last)) : CutTo f (done ++ [s.ref]) S (A ++ s' :: C) := by
 unfold CutTo
 rw [h.step hne hd, List.map_append, List.map_cons]
 have : cutOne f (coreS s) = some (coreS s') := by unfold cutOne; rw [if_neg (by exact hc), e]; rfl
 rw [this]
 rfl
theorem CutTo.all {f : Int} {done : List Int} {S S' : List SerH} (h : CutTo f done S S') (hd : ∀ s ∈ S, s.ref ∈ done) : S'.map coreS = (S.map coreS).filterMap (cutOne f) := by
 rw [h]
 clear h
 induction S with
 | nil => rfl
 | cons s S ih =>
  rw [List.map_cons, List.filterMap_cons, List.filterMap_cons, ih fun t ht => hd t (List.mem_cons_of_mem _ ht)]
  have e : cutC f done (coreS s) = cutOne f (coreS s) := by
   unfold cutC
   rw [if_pos (by exact hd s List.mem_cons_self)]
  rw [e]
theorem drop_cut {f : Int} : ∀ {l : List SmpB} {i : Nat}, i ≤ l.length → (∀ j, ∀ h : j < l.length, j < i → l[j].1 < f) → (∀ h : i < l.length, ¬ l[i].1 < f) → l.drop i = cutS f l
 | [], i, _, _, _ => by simp [cutS]
 | x :: l, 0, _, _, h3 => by
  have h := h3 (by simp)
  unfold cutS
  rw [List.dropWhile_cons_of_neg (by simpa using h)]
  rfl
 | x :: l, i + 1, h1, h2, h3 => by
  have hx : x.1 < f := h2 0 (by simp) (by omega)
  unfold cutS
  rw [List.dropWhile_cons_of_pos (by simpa using hx), List.drop_succ_cons]
  exact drop_cut (by simpa using h1) (fun j hj hji => by
   have := h2 (j + 1) (by simpa using hj) (by omega)
   simpa using this) (fun hi => by
   have := h3 (by simpa using hi)
   simpa using this)
theorem cut_len {f : Int} (l : List SmpB) : (cutS f l).length ≤ l.length := by
 unfold cutS
 exact (List.dropWhile_suffix _).length_le
end Go.Proofs.YtgdkceeonnfejaaGreatDoor
