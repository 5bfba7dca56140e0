/-
  Package posting: plain laws of an index without addresses: what Add and Drop say of each name and value.
  No condition beyond those that each theorem states.

  Package posting: plain laws of the series that an index should tell (Grow's told).
  No condition beyond those that each theorem states.

  Package posting: plain laws of Grow: what holds between its rounds.
  No condition beyond those that each theorem states.

  Lists of texts, rising, each once: the document's Texts, Names, Values, Get in plain words; two such lists of the same are one.
  No program in sight.
-/
import Derived.Test.YtgdkceeonnfejaaGreatDoorNamesE
import Derived.Test.YtgdkceeonnfejaaGreatDoorOrder
namespace Go.Proofs.YtgdkceeonnfejaaGreatDoor
open Go Go.RowKit
abbrev AbsG := List (ByteArray × List (ByteArray × List Int))
theorem look2_add (A : AbsG) (n : Int) (p : PairB) (nm val : ByteArray) : look2 (addA A n p) nm val = if nm = p.1 ∧ val = p.2 then insI (look2 A nm val) n else look2 A nm val := by
 unfold look2 addA
 rw [look_put]
 by_cases h1 : nm = p.1
 ·subst h1
  rw [if_pos rfl, Option.getD_some, look_put]
  by_cases h2 : val = p.2
  ·subst h2
   simp
  ·simp [h2]
 ·simp [h1]
open Classical in
theorem look2_addAll (n : Int) (nm val : ByteArray) : ∀ (P : List PairB) (A : AbsG), (P.map (·.1)).Nodup → look2 (P.foldl (fun A p => addA A n p) A) nm val = if (nm, val) ∈ P then insI (look2 A nm val) n else look2 A nm val
 | [], _, _ => by simp
 | p :: P, A, hd => by
  rw [List.map_cons, List.nodup_cons] at hd
  rw [List.foldl_cons, look2_addAll n nm val P _ hd.2, look2_add]
  by_cases h : nm = p.1 ∧ val = p.2
  ·obtain ⟨rfl, rfl⟩ := h
   have hn : (p.1, p.2) ∉ P := fun hm => hd.1 (List.mem_map.2 ⟨_, hm, rfl⟩)
   simp [hn]
  ·have hne : (nm, val) ≠ p := fun e => h (by rw [← e]; exact ⟨rfl, rfl⟩)
   simp [h, hne]
structure NodupG (A : AbsG) : Prop where
 names : (A.map (·.1)).Nodup
 vals : ∀ q ∈ A, (q.2.map (·.1)).Nodup
theorem IxG.nodupG {B : Nat} {w : World} {x mb : Nat} {va : Value} {E : OutG} {all : List Int} (h : IxG B w x mb va E all) : NodupG (absG E) := by
 refine ⟨?_, fun q hq => ?_⟩
 ·have := h.names
  simpa [absG, Function.comp_def] using this
 ·obtain ⟨p, hp, rfl⟩ := List.mem_map.1 hq
  have := h.vals hp
  simpa [Function.comp_def] using this
theorem look2_drop {A : AbsG} (hA : NodupG A) (n : Int) (p : PairB) (nm val : ByteArray) : look2 (dropA A n p) nm val = if nm = p.1 ∧ val = p.2 then remL (look2 A nm val) n else look2 A nm val := by
 have hI : (((look A p.1).getD []).map (·.1)).Nodup := by
  cases hq : look A p.1 with
  | none => simp
  | some I => exact hA.vals _ (look_memG hq)
 obtain ⟨I, hIe⟩ : ∃ I, I = (look A p.1).getD [] := ⟨_, rfl⟩
 rw [← hIe] at hI
 obtain ⟨l, hl⟩ : ∃ l, l = remL ((look I p.2).getD []) n := ⟨_, rfl⟩
 obtain ⟨J, hJ⟩ : ∃ J, J = if l = [] then del I p.2 else put I p.2 l := ⟨_, rfl⟩
 have hd : dropA A n p = if J = [] then del A p.1 else put A p.1 J := by
  unfold dropA
  dsimp only
  rw [← hIe, ← hl, ← hJ]
 have hJl : ∀ v, (look J v).getD [] = if v = p.2 then l else (look I v).getD [] := fun v => by
  rw [hJ]
  by_cases h0 : l = []
  ·rw [if_pos h0, look_del _ _ _ hI]
   by_cases hv : v = p.2
   ·rw [if_pos hv, if_pos hv, h0]; rfl
   ·rw [if_neg hv, if_neg hv]
  ·rw [if_neg h0, look_put]
   by_cases hv : v = p.2
   ·rw [if_pos hv, if_pos hv]; rfl
   ·rw [if_neg hv, if_neg hv]
 have hK : ∀ m, (look (dropA A n p) m).getD [] = if m = p.1 then J else (look A m).getD [] := fun m => by
  rw [hd]
  by_cases h0 : J = []
  ·rw [if_pos h0, look_del _ _ _ hA.names]
   by_cases hv : m = p.1
   ·rw [if_pos hv, if_pos hv, h0]; rfl
   ·rw [if_neg hv, if_neg hv]
  ·rw [if_neg h0, look_put]
   by_cases hv : m = p.1
   ·rw [if_pos hv, if_pos hv]; rfl
   ·rw [if_neg hv, if_neg hv]
 unfold look2
 rw [hK]
 by_cases h1 : nm = p.1
 ·rw [if_pos h1, hJl]
  by_cases h2 : val = p.2
  ·rw [if_pos h2, if_pos ⟨h1, h2⟩, hl, hIe, h1, h2]
  ·rw [if_neg h2, if_neg (fun h => h2 h.2), hIe, h1]
 ·rw [if_neg h1, if_neg (fun h => h1 h.1)]
theorem remL_insI {l : List Int} {n : Int} (h : Rises l) (hn : n ∉ l) : remL (insI l n) n = l := by
 have hle : l.countP (· < n) ≤ l.length := List.countP_le_length
 have e : insI l n = putAt l (l.countP (· < n)) n := if_neg hn
 have hr : Rises (insI l n) := by rw [insI_put h]; exact putL_rises h
 have hm : n ∈ insI l n := by rw [e]; simp [putAt]
 have hc : (insI l n).countP (· < n) = l.countP (· < n) := by
  rw [e]
  unfold putAt
  rw [List.countP_append, List.countP_append]
  have h1 : [n].countP (· < n) = 0 := by simp
  have h2 := List.countP_append (p := fun x => decide (x < n)) (l₁ := l.take (l.countP (· < n))) (l₂ := l.drop (l.countP (· < n)))
  rw [List.take_append_drop] at h2
  omega
 have _ := hr
 unfold remL
 rw [if_pos hm, hc, e]
 unfold putAt
 have e1 : (l.take (l.countP (· < n))).length = l.countP (· < n) := by rw [List.length_take]; omega
 rw [List.append_assoc, List.take_append_of_le_length (by omega), List.take_of_length_le (by omega), List.drop_append, e1, List.drop_eq_nil_of_le (by omega)]
 simp
theorem NodupG.drop {A : AbsG} (h : NodupG A) (n : Int) (p : PairB) : NodupG (dropA A n p) := by
 have hI : (((look A p.1).getD []).map (·.1)).Nodup := by
  cases hq : look A p.1 with
  | none => simp
  | some I => exact h.vals _ (look_memG hq)
 unfold dropA
 dsimp only
 generalize remL ((look ((look A p.1).getD []) p.2).getD []) n = l
 have hJ : ((if l = [] then del ((look A p.1).getD []) p.2 else put ((look A p.1).getD []) p.2 l).map (·.1)).Nodup := by
  by_cases h0 : l = []
  ·rw [if_pos h0]; exact del_nodup hI _
  ·rw [if_neg h0]; exact put_nodup hI _ _
 generalize (if l = [] then del ((look A p.1).getD []) p.2 else put ((look A p.1).getD []) p.2 l) = J at hJ
 by_cases h0 : J = []
 ·rw [if_pos h0]
  exact ⟨del_nodup h.names _, fun q hq => h.vals q (mem_delN h.names hq).1⟩
 ·rw [if_neg h0]
  refine ⟨put_nodup h.names _ _, fun q hq => ?_⟩
  rcases mem_putN h.names hq with rfl | ⟨hq, _⟩
  ·exact hJ
  ·exact h.vals q hq
open Classical in
theorem look2_dropAll (n : Int) (nm val : ByteArray) : ∀ (P : List PairB) (A : AbsG), NodupG A → (P.map (·.1)).Nodup → look2 (P.foldl (fun A p => dropA A n p) A) nm val = if (nm, val) ∈ P then remL (look2 A nm val) n else look2 A nm val
 | [], _, _, _ => by simp
 | p :: P, A, hA, hd => by
  rw [List.map_cons, List.nodup_cons] at hd
  rw [List.foldl_cons, look2_dropAll n nm val P _ (hA.drop n p) hd.2, look2_drop hA]
  by_cases h : nm = p.1 ∧ val = p.2
  ·obtain ⟨rfl, rfl⟩ := h
   have hn : (p.1, p.2) ∉ P := fun hm => hd.1 (List.mem_map.2 ⟨_, hm, rfl⟩)
   simp [hn]
  ·have hne : (nm, val) ≠ p := fun e => h (by rw [← e]; exact ⟨rfl, rfl⟩)
   simp [h, hne]
def FullG (A : AbsG) : Prop := ∀ q ∈ A, q.2 ≠ [] ∧ ∀ r ∈ q.2, r.2 ≠ []
theorem put_ne_nilG {α : Type} (k : ByteArray) (v : α) (m : List (ByteArray × α)) : put m k v ≠ [] := by
 cases m with
 | nil => simp [put]
 | cons a r => simp only [put]; split <;> simp
theorem FullG.inner {A : AbsG} (h : FullG A) (nm : ByteArray) : ∀ r ∈ (look A nm).getD [], r.2 ≠ [] := by
 intro r hr
 cases hq : look A nm with
 | none => rw [hq] at hr; simp at hr
 | some I =>
  rw [hq] at hr
  exact (h _ (look_memG hq)).2 r hr
theorem insI_ne (l : List Int) (n : Int) : insI l n ≠ [] := by
 unfold insI
 split
 ·rename_i h
  intro e
  rw [e] at h
  simp at h
 ·simp [putAt]
theorem FullG.add {A : AbsG} (h : FullG A) (hA : NodupG A) (n : Int) (p : PairB) : FullG (addA A n p) := by
 have hI : (((look A p.1).getD []).map (·.1)).Nodup := by
  cases hq : look A p.1 with
  | none => simp
  | some I => exact hA.vals _ (look_memG hq)
 intro q hq
 unfold addA at hq
 rcases mem_putN hA.names hq with rfl | ⟨hq, _⟩
 ·refine ⟨put_ne_nilG _ _ _, fun r hr => ?_⟩
  rcases mem_putN hI hr with rfl | ⟨hr, _⟩
  ·exact insI_ne _ _
  ·exact h.inner p.1 r hr
 ·exact h q hq
theorem FullG.drop {A : AbsG} (h : FullG A) (hA : NodupG A) (n : Int) (p : PairB) : FullG (dropA A n p) := by
 have hI : (((look A p.1).getD []).map (·.1)).Nodup := by
  cases hq : look A p.1 with
  | none => simp
  | some I => exact hA.vals _ (look_memG hq)
 unfold dropA
 dsimp only
 generalize remL ((look ((look A p.1).getD []) p.2).getD []) n = l
 have hJ : ∀ r ∈ (if l = [] then del ((look A p.1).getD []) p.2 else put ((look A p.1).getD []) p.2 l), r.2 ≠ [] := by
  intro r hr
  by_cases h0 : l = []
  ·rw [if_pos h0] at hr
   exact h.inner p.1 r (mem_delN hI hr).1
  ·rw [if_neg h0] at hr
   rcases mem_putN hI hr with rfl | ⟨hr, _⟩
   ·exact h0
   ·exact h.inner p.1 r hr
 generalize (if l = [] then del ((look A p.1).getD []) p.2 else put ((look A p.1).getD []) p.2 l) = J at hJ
 intro q hq
 by_cases h0 : J = []
 ·rw [if_pos h0] at hq
  exact h q (mem_delN hA.names hq).1
 ·rw [if_neg h0] at hq
  rcases mem_putN hA.names hq with rfl | ⟨hq, _⟩
  ·exact ⟨h0, hJ⟩
  ·exact h q hq
theorem look2_some {A : AbsG} {nm val : ByteArray} (h : look2 A nm val ≠ []) : ∃ I l, look A nm = some I ∧ look I val = some l := by
 unfold look2 at h
 cases h1 : look A nm with
 | none => rw [h1] at h; exact absurd rfl h
 | some I =>
  rw [h1, Option.getD_some] at h
  cases h2 : look I val with
  | none => rw [h2] at h; exact absurd rfl h
  | some l => exact ⟨I, l, rfl, h2⟩
abbrev SerT := Int × List PairB
open Classical in
noncomputable def getT (T : List SerT) (nm val : ByteArray) : List Int := T.foldl (fun l s => if (nm, val) ∈ s.2 then insI l s.1 else l) []
def allT (T : List SerT) : List Int := T.foldl (fun l s => insI l s.1) []
open Classical in
theorem getT_snoc (T : List SerT) (s : SerT) (nm val : ByteArray) : getT (T ++ [s]) nm val = if (nm, val) ∈ s.2 then insI (getT T nm val) s.1 else getT T nm val := by
 unfold getT
 rw [List.foldl_append]
 rfl
theorem allT_snoc (T : List SerT) (s : SerT) : allT (T ++ [s]) = insI (allT T) s.1 := by
 unfold allT
 rw [List.foldl_append]
 rfl
theorem mem_insI {l : List Int} {n m : Int} (h : m ∈ insI l n) : m = n ∨ m ∈ l := by
 unfold insI at h
 split at h
 ·exact .inr h
 ·unfold putAt at h
  rcases List.mem_append.1 h with h | h
  ·rcases List.mem_append.1 h with h | h
   ·exact .inr (List.mem_of_mem_take h)
   ·exact .inl (by simpa using h)
  ·exact .inr (List.mem_of_mem_drop h)
open Classical in
theorem mem_allT {m : Int} (T : List SerT) (h : m ∈ allT T) : ∃ s ∈ T, s.1 = m := by
 have key : ∀ (T : List SerT) (l : List Int), m ∈ T.foldl (fun l s => insI l s.1) l → m ∈ l ∨ ∃ s ∈ T, s.1 = m := by
  intro T
  induction T with
  | nil => intro l h; exact .inl h
  | cons s T ih =>
   intro l h
   rw [List.foldl_cons] at h
   rcases ih _ h with h | ⟨s', h1, h2⟩
   ·rcases mem_insI h with h | h
    ·exact .inr ⟨s, List.mem_cons_self, h.symm⟩
    ·exact .inl h
   ·exact .inr ⟨s', List.mem_cons_of_mem _ h1, h2⟩
 rcases key T [] h with h | h
 ·simp at h
 ·exact h
open Classical in
theorem getT_ok {R : List Int} (hR : R.length ≤ 12) {T : List SerT} (h : ∀ s ∈ T, s.1 ∈ R) (nm val : ByteArray) : RowOk R (getT T nm val) := by
 have key : ∀ (T : List SerT) (l : List Int), (∀ s ∈ T, s.1 ∈ R) → RowOk R l → RowOk R (T.foldl (fun l s => if (nm, val) ∈ s.2 then insI l s.1 else l) l) := by
  intro T
  induction T with
  | nil => intro l _ hl; exact hl
  | cons s T ih =>
   intro l hT hl
   rw [List.foldl_cons]
   refine ih _ (fun s' hs => hT s' (List.mem_cons_of_mem _ hs)) ?_
   split
   ·exact (hl.ins (hT s List.mem_cons_self)).1
   ·exact hl
 exact key T [] h (RowOk.nil hR)
theorem allT_ok {R : List Int} (hR : R.length ≤ 12) {T : List SerT} (h : ∀ s ∈ T, s.1 ∈ R) : RowOk R (allT T) := by
 have key : ∀ (T : List SerT) (l : List Int), (∀ s ∈ T, s.1 ∈ R) → RowOk R l → RowOk R (T.foldl (fun l s => insI l s.1) l) := by
  intro T
  induction T with
  | nil => intro l _ hl; exact hl
  | cons s T ih =>
   intro l hT hl
   rw [List.foldl_cons]
   exact ih _ (fun s' hs => hT s' (List.mem_cons_of_mem _ hs)) (hl.ins (hT s List.mem_cons_self)).1
 exact key T [] h (RowOk.nil hR)
theorem addAll_good (n : Int) : ∀ (P : List PairB) {A : AbsG}, NodupG A → FullG A → NodupG (P.foldl (fun A p => addA A n p) A) ∧ FullG (P.foldl (fun A p => addA A n p) A)
 | [], _, h1, h2 => ⟨h1, h2⟩
 | p :: P, A, h1, h2 => by
  rw [List.foldl_cons]
  refine addAll_good n P ?_ (h2.add h1 n p)
  have hI : (((look A p.1).getD []).map (·.1)).Nodup := by
   cases hq : look A p.1 with
   | none => simp
   | some I => exact h1.vals _ (look_memG hq)
  unfold addA
  refine ⟨put_nodup h1.names _ _, fun q hq => ?_⟩
  rcases mem_putN h1.names hq with rfl | ⟨hq, _⟩
  ·exact put_nodup hI _ _
  ·exact h1.vals q hq
theorem dropAll_good (n : Int) : ∀ (P : List PairB) {A : AbsG}, NodupG A → FullG A → NodupG (P.foldl (fun A p => dropA A n p) A) ∧ FullG (P.foldl (fun A p => dropA A n p) A)
 | [], _, h1, h2 => ⟨h1, h2⟩
 | p :: P, _, h1, h2 => by
  rw [List.foldl_cons]
  exact dropAll_good n P (h1.drop n p) (h2.drop h1 n p)
theorem look_ofG {α : Type} {n : ByteArray} {v : α} : ∀ {o : List (ByteArray × α)}, (o.map (·.1)).Nodup → (n, v) ∈ o → look o n = some v
 | (k, x) :: r, hnd, h => by
  simp only [List.map_cons, List.nodup_cons] at hnd
  rcases List.mem_cons.1 h with h | h
  ·injection h with h1 h2
   subst h1 h2
   simp [look]
  ·have hne : n ≠ k := fun e => hnd.1 (by rw [← e]; exact List.mem_map.2 ⟨_, h, rfl⟩)
   simp only [look, if_neg hne]
   exact look_ofG hnd.2 h
structure SerOk (s : SerT) : Prop where
 nod : (s.2.map (·.1)).Nodup
 len : s.2.length ≤ 10
 sz : ∀ p ∈ s.2, p.1.size ≤ 42 ∧ p.2.size ≤ 42
structure IdxI (R : List Int) (T : List SerT) (A : AbsG) (all : List Int) : Prop where
 range : ∀ s ∈ T, s.1 ∈ R
 rlen : R.length ≤ 12
 nod : (T.map (·.1)).Nodup
 ser : ∀ s ∈ T, SerOk s
 full : FullG A
 say : ∀ nm val, look2 A nm val = getT T nm val
 all_ : all = allT T
 len : T.length ≤ 12
theorem IdxI.start {R : List Int} (h : R.length ≤ 12) : IdxI R [] [] [] := ⟨by simp, h, by simp, by simp, fun q hq => by simp at hq, fun nm val => rfl, rfl, by simp⟩
theorem IdxI.allOk {R : List Int} {T : List SerT} {A : AbsG} {all : List Int} (h : IdxI R T A all) : RowOk R all := by
 rw [h.all_]
 exact allT_ok h.rlen h.range
theorem IdxI.other {R R' : List Int} {T : List SerT} {A : AbsG} {all : List Int} (h : IdxI R T A all) (hR : R'.length ≤ 12) (h' : ∀ s ∈ T, s.1 ∈ R') : IdxI R' T A all := ⟨h', hR, h.nod, h.ser, h.full, h.say, h.all_, h.len⟩
open Classical in
theorem getT_ne {nm val : ByteArray} (T : List SerT) (h : getT T nm val ≠ []) : ∃ s ∈ T, (nm, val) ∈ s.2 := by
 refine Classical.byContradiction fun hc => h ?_
 have key : ∀ (T : List SerT), (¬ ∃ s ∈ T, (nm, val) ∈ s.2) → T.foldl (fun l s => if (nm, val) ∈ s.2 then insI l s.1 else l) [] = [] := by
  intro T
  induction T with
  | nil => intro _; rfl
  | cons s T ih =>
   intro hT
   rw [List.foldl_cons, if_neg (fun hm => hT ⟨s, List.mem_cons_self, hm⟩)]
   exact ih fun ⟨s', h1, h2⟩ => hT ⟨s', List.mem_cons_of_mem _ h1, h2⟩
 exact key T hc
theorem IdxI.name {R : List Int} {T : List SerT} {A : AbsG} {all : List Int} (h : IdxI R T A all) (hA : NodupG A) {nm : ByteArray} {I : List (ByteArray × List Int)} (hm : (nm, I) ∈ A) : look A nm = some I ∧ (I.map (·.1)).Nodup ∧ I ≠ [] ∧ ∀ val l, (val, l) ∈ I → l ≠ [] ∧ look I val = some l ∧ l = getT T nm val ∧ ∃ s ∈ T, (nm, val) ∈ s.2 := by
 have hlk : look A nm = some I := look_ofG hA.names hm
 have hv : (I.map (·.1)).Nodup := hA.vals _ hm
 refine ⟨hlk, hv, (h.full _ hm).1, fun val l hl => ?_⟩
 have hne := (h.full _ hm).2 _ hl
 have h2 : look I val = some l := look_ofG hv hl
 have h3 := h.say nm val
 unfold look2 at h3
 rw [hlk, Option.getD_some, h2, Option.getD_some] at h3
 exact ⟨hne, h2, h3, getT_ne T (by rw [← h3]; exact hne)⟩
theorem flat_len {T : List SerT} (h : ∀ s ∈ T, s.2.length ≤ 10) : (T.flatMap (·.2)).length ≤ T.length * 10 := by
 induction T with
 | nil => simp
 | cons s T ih =>
  rw [List.flatMap_cons, List.length_append, List.length_cons]
  have h1 := h s List.mem_cons_self
  have h2 := ih fun x hx => h x (List.mem_cons_of_mem _ hx)
  omega
theorem IdxI.sizes {R : List Int} {T : List SerT} {A : AbsG} {all : List Int} (h : IdxI R T A all) (hA : NodupG A) : A.length ≤ 120 ∧ (∀ q ∈ A, q.1.size ≤ 42 ∧ q.2.length ≤ 120 ∧ ∀ r ∈ q.2, r.1.size ≤ 42) := by
 have hf : (T.flatMap (·.2)).length ≤ 120 := by
  have := flat_len fun s hs => (h.ser s hs).len
  have := h.len
  omega
 have hin : ∀ q ∈ A, ∀ r ∈ q.2, (q.1, r.1) ∈ T.flatMap (·.2) := fun q hq r hr => by
  obtain ⟨s, hs, hp⟩ := ((h.name hA (nm := q.1) (I := q.2) hq).2.2.2 r.1 r.2 hr).2.2.2
  exact List.mem_flatMap.2 ⟨s, hs, hp⟩
 have hs42 : ∀ p ∈ T.flatMap (·.2), p.1.size ≤ 42 ∧ p.2.size ≤ 42 := fun p hp => by
  obtain ⟨s, hs, hp⟩ := List.mem_flatMap.1 hp
  exact (h.ser s hs).sz p hp
 have hex : ∀ q ∈ A, ∃ r, r ∈ q.2 := fun q hq => by
  have := (h.full q hq).1
  cases hq2 : q.2 with
  | nil => exact absurd hq2 this
  | cons r I => exact ⟨r, List.mem_cons_self⟩
 refine ⟨?_, fun q hq => ?_⟩
 ·have := nodup_le (m := (T.flatMap (·.2)).map (·.1)) hA.names fun x hx => by
   obtain ⟨q, hq, rfl⟩ := List.mem_map.1 hx
   obtain ⟨r, hr⟩ := hex q hq
   exact List.mem_map.2 ⟨_, hin q hq r hr, rfl⟩
  rw [List.length_map, List.length_map] at this
  omega
 ·obtain ⟨r0, hr0⟩ := hex q hq
  refine ⟨(hs42 _ (hin q hq r0 hr0)).1, ?_, fun r hr => (hs42 _ (hin q hq r hr)).2⟩
  have := nodup_le (m := (T.flatMap (·.2)).map (·.2)) (hA.vals q hq) fun x hx => by
   obtain ⟨r, hr, rfl⟩ := List.mem_map.1 hx
   exact List.mem_map.2 ⟨_, hin q hq r hr, rfl⟩
  rw [List.length_map, List.length_map] at this
  omega
theorem sortB_ltT {l : List ByteArray} (h : l.Nodup) : (sortB l).Pairwise ltT := by
 unfold sortB
 rw [List.pairwise_map]
 have tr : ∀ a b c : List UInt8, leB a b = true → leB b c = true → leB a c = true := fun a b c h1 h2 => by simp only [leB, decide_eq_true_eq] at *; exact List.le_trans h1 h2
 have to' : ∀ a b : List UInt8, (leB a b || leB b a) = true := fun a b => by simp only [leB, Bool.or_eq_true, decide_eq_true_eq]; exact List.le_total a b
 have h1 := List.pairwise_mergeSort tr to' (l.map (·.data.toList))
 have h2 : ((l.map (·.data.toList)).mergeSort leB).Nodup := by
  rw [(List.mergeSort_perm _ leB).nodup_iff]
  exact List.pairwise_map.2 (h.imp fun hne e => hne (ba_ext e))
 refine (h1.and h2).imp fun {a b} ⟨hle, hne⟩ => ?_
 simp only [leB, decide_eq_true_eq] at hle
 rw [ltT_iff]
 show a < b
 rcases Classical.em (a < b) with hlt | hlt
 ·exact hlt
 ·exact absurd (List.le_antisymm hle (List.not_lt.1 hlt)) hne
open Classical in
open Classical in
noncomputable def insS (s : ByteArray) : List ByteArray → List ByteArray
 | [] => [s]
 | x :: l => if x = s then x :: l else if ltT s x then s :: x :: l else x :: insS s l
theorem mem_insS {s y : ByteArray} : ∀ {l : List ByteArray}, y ∈ insS s l ↔ y = s ∨ y ∈ l
 | [] => by simp [insS]
 | x :: l => by
  have ih := mem_insS (s := s) (y := y) (l := l)
  unfold insS
  by_cases h1 : x = s
  ·rw [if_pos h1, List.mem_cons]
   constructor
   ·exact .inr
   ·rintro (h | h)
    ·exact .inl (h.trans h1.symm)
    ·exact h
  ·rw [if_neg h1]
   by_cases h2 : ltT s x
   ·rw [if_pos h2, List.mem_cons]
   ·rw [if_neg h2, List.mem_cons, ih, List.mem_cons]
    constructor
    ·rintro (h | h | h)
     ·exact .inr (.inl h)
     ·exact .inl h
     ·exact .inr (.inr h)
    ·rintro (h | h | h)
     ·exact .inr (.inl h)
     ·exact .inl h
     ·exact .inr (.inr h)
theorem insS_rises {s : ByteArray} : ∀ {l : List ByteArray}, l.Pairwise ltT → (insS s l).Pairwise ltT
 | [], _ => by simp [insS]
 | x :: l, h => by
  have h' := List.pairwise_cons.1 h
  unfold insS
  by_cases h1 : x = s
  ·rw [if_pos h1]; exact h
  ·rw [if_neg h1]
   by_cases h2 : ltT s x
   ·rw [if_pos h2]
    refine List.pairwise_cons.2 ⟨fun y hy => ?_, h⟩
    rcases List.mem_cons.1 hy with rfl | hy
    ·exact h2
    ·exact ltT_tr _ _ _ h2 (h'.1 y hy)
   ·rw [if_neg h2]
    refine List.pairwise_cons.2 ⟨fun y hy => ?_, insS_rises h'.2⟩
    rcases mem_insS.1 hy with rfl | hy
    ·exact ltT_or (fun e => h1 e.symm) h2
    ·exact h'.1 y hy
noncomputable def insAll (X : List ByteArray) : List ByteArray := X.foldl (fun o x => insS x o) []
theorem insAll_good (X : List ByteArray) : (insAll X).Pairwise ltT ∧ (∀ y, y ∈ insAll X ↔ y ∈ X) ∧ (insAll X).length ≤ X.length := by
 have key : ∀ (X o : List ByteArray), o.Pairwise ltT → (X.foldl (fun o x => insS x o) o).Pairwise ltT ∧ (∀ y, y ∈ X.foldl (fun o x => insS x o) o ↔ y ∈ o ∨ y ∈ X) ∧ (X.foldl (fun o x => insS x o) o).length ≤ o.length + X.length := by
  intro X
  induction X with
  | nil => intro o h; exact ⟨h, by simp, by simp⟩
  | cons x X ih =>
   intro o h
   obtain ⟨h1, h2, h3⟩ := ih (insS x o) (insS_rises h)
   have hlen : ∀ o : List ByteArray, (insS x o).length ≤ o.length + 1 := by
    intro o
    induction o with
    | nil => simp [insS]
    | cons y o iho =>
     unfold insS
     split
     ·simp
     ·split
      ·simp
      ·simp only [List.length_cons]; omega
   rw [List.foldl_cons]
   refine ⟨h1, fun y => ?_, ?_⟩
   ·rw [h2 y, mem_insS, List.mem_cons]
    constructor
    ·rintro ((h | h) | h)
     ·exact .inr (.inl h)
     ·exact .inl h
     ·exact .inr (.inr h)
    ·rintro (h | h | h)
     ·exact .inl (.inr h)
     ·exact .inl (.inl h)
     ·exact .inr h
   ·have := hlen o
    rw [List.length_cons]
    omega
 obtain ⟨h1, h2, h3⟩ := key X [] List.Pairwise.nil
 exact ⟨h1, fun y => by rw [insAll, h2 y]; simp, by simpa [insAll] using h3⟩
theorem sortB_insAll {K X : List ByteArray} (hK : K.Nodup) (h : ∀ y, y ∈ K ↔ y ∈ X) : sortB K = insAll X :=
 uniqT ltT ltT_irr ltT_tr (sortB_ltT hK) (insAll_good X).1 fun y => by rw [(sortB_perm K).mem_iff, (insAll_good X).2.1, h]
def putAll (X : List Int) : List Int := X.foldl putL []
theorem putAll_good (X : List Int) : Rises (putAll X) ∧ ∀ y, y ∈ putAll X ↔ y ∈ X := by
 have key : ∀ (X o : List Int), Rises o → Rises (X.foldl putL o) ∧ ∀ y, y ∈ X.foldl putL o ↔ y ∈ o ∨ y ∈ X := by
  intro X
  induction X with
  | nil => intro o h; exact ⟨h, by simp⟩
  | cons x X ih =>
   intro o h
   obtain ⟨h1, h2⟩ := ih (putL o x) (putL_rises h)
   rw [List.foldl_cons]
   refine ⟨h1, fun y => ?_⟩
   rw [h2 y, mem_putL, List.mem_cons]
   constructor
   ·rintro ((h | h) | h)
    ·exact .inr (.inl h)
    ·exact .inl h
    ·exact .inr (.inr h)
   ·rintro (h | h | h)
    ·exact .inl (.inr h)
    ·exact .inl (.inl h)
    ·exact .inr h
 obtain ⟨h1, h2⟩ := key X [] List.Pairwise.nil
 exact ⟨h1, fun y => by rw [putAll, h2 y]; simp⟩
theorem rises_uniq {l l' : List Int} (h : Rises l) (h' : Rises l') (hm : ∀ y, y ∈ l ↔ y ∈ l') : l = l' := uniqT (· < ·) (fun x => Int.lt_irrefl x) (fun _ _ _ h1 h2 => Int.lt_trans h1 h2) h h' hm
theorem mem_insI_iff {l : List Int} {n m : Int} (h : Rises l) : m ∈ insI l n ↔ m = n ∨ m ∈ l := by rw [insI_put h]; exact mem_putL
theorem insI_rises {l : List Int} {n : Int} (h : Rises l) : Rises (insI l n) := by rw [insI_put h]; exact putL_rises h
open Classical in
theorem mem_getT_iff {T : List SerT} (nm val : ByteArray) (m : Int) : m ∈ getT T nm val ↔ ∃ s ∈ T, s.1 = m ∧ (nm, val) ∈ s.2 := by
 have key : ∀ (T : List SerT) (l : List Int), Rises l → (m ∈ T.foldl (fun l s => if (nm, val) ∈ s.2 then insI l s.1 else l) l ↔ m ∈ l ∨ ∃ s ∈ T, s.1 = m ∧ (nm, val) ∈ s.2) := by
  intro T
  induction T with
  | nil => intro l _; simp
  | cons s T ih =>
   intro l hl
   rw [List.foldl_cons]
   by_cases hp : (nm, val) ∈ s.2
   ·rw [if_pos hp, ih _ (insI_rises hl), mem_insI_iff hl]
    constructor
    ·rintro ((h | h) | ⟨s', h1, h2⟩)
     ·exact .inr ⟨s, List.mem_cons_self, h.symm, hp⟩
     ·exact .inl h
     ·exact .inr ⟨s', List.mem_cons_of_mem _ h1, h2⟩
    ·rintro (h | ⟨s', h1, h2⟩)
     ·exact .inl (.inr h)
     ·rcases List.mem_cons.1 h1 with rfl | h1
      ·exact .inl (.inl h2.1.symm)
      ·exact .inr ⟨s', h1, h2⟩
   ·rw [if_neg hp, ih _ hl]
    constructor
    ·rintro (h | ⟨s', h1, h2⟩)
     ·exact .inl h
     ·exact .inr ⟨s', List.mem_cons_of_mem _ h1, h2⟩
    ·rintro (h | ⟨s', h1, h2⟩)
     ·exact .inl h
     ·rcases List.mem_cons.1 h1 with rfl | h1
      ·exact absurd h2.2 hp
      ·exact .inr ⟨s', h1, h2⟩
 have := key T [] List.Pairwise.nil
 rw [show getT T nm val = T.foldl (fun l s => if (nm, val) ∈ s.2 then insI l s.1 else l) [] from rfl, this]
 simp
theorem mem_allT_iff {T : List SerT} (m : Int) : m ∈ allT T ↔ ∃ s ∈ T, s.1 = m := by
 refine ⟨mem_allT T, ?_⟩
 have key : ∀ (T : List SerT) (l : List Int), Rises l → (m ∈ l ∨ ∃ s ∈ T, s.1 = m) → m ∈ T.foldl (fun l s => insI l s.1) l := by
  intro T
  induction T with
  | nil => intro l _ h; simpa using h
  | cons s T ih =>
   intro l hl h
   rw [List.foldl_cons]
   refine ih _ (insI_rises hl) ?_
   rcases h with h | ⟨s', h1, h2⟩
   ·exact .inl ((mem_insI_iff hl).2 (.inr h))
   ·rcases List.mem_cons.1 h1 with rfl | h1
    ·exact .inl ((mem_insI_iff hl).2 (.inl h2.symm))
    ·exact .inr ⟨s', h1, h2⟩
 exact fun h => key T [] List.Pairwise.nil (.inr h)
/-! ## What the document says of the series -/
def allP (T : List SerT) : List PairB := T.flatMap (·.2)
open Classical in
noncomputable def valX (nm : ByteArray) (P : List PairB) : List ByteArray := (P.filter fun p => p.1 = nm).map (·.2)
open Classical in
noncomputable def getX (nm val : ByteArray) (s : SerT) (P : List PairB) : List Int := (P.filter fun p => p.1 = nm ∧ p.2 = val).map fun _ => s.1
noncomputable def getXs (nm val : ByteArray) (T : List SerT) : List Int := T.flatMap fun s => getX nm val s s.2
theorem mem_valX {nm : ByteArray} {P : List PairB} {y : ByteArray} : y ∈ valX nm P ↔ (nm, y) ∈ P := by
 unfold valX
 rw [List.mem_map]
 refine ⟨fun ⟨p, h, e⟩ => ?_, fun h => ⟨(nm, y), List.mem_filter.2 ⟨h, by simp⟩, rfl⟩⟩
 obtain ⟨h1, h2⟩ := List.mem_filter.1 h
 have h2 : p.1 = nm := by simpa using h2
 rw [← e, ← h2]
 exact h1
theorem mem_getXs {nm val : ByteArray} {T : List SerT} {m : Int} : m ∈ getXs nm val T ↔ ∃ s ∈ T, s.1 = m ∧ (nm, val) ∈ s.2 := by
 unfold getXs
 rw [List.mem_flatMap]
 constructor
 ·rintro ⟨s, hs, h⟩
  obtain ⟨p, hp, e⟩ := List.mem_map.1 h
  obtain ⟨h1, h2⟩ := List.mem_filter.1 hp
  have h2 : p.1 = nm ∧ p.2 = val := by simpa using h2
  exact ⟨s, hs, e, by rw [← h2.1, ← h2.2]; exact h1⟩
 ·rintro ⟨s, hs, e, h⟩
  exact ⟨s, hs, List.mem_map.2 ⟨(nm, val), List.mem_filter.2 ⟨h, by simp⟩, e⟩⟩
theorem mem_allP {T : List SerT} {p : PairB} : p ∈ allP T ↔ ∃ s ∈ T, p ∈ s.2 := List.mem_flatMap
section
variable {R : List Int} {T : List SerT} {A : AbsG} {all : List Int}
theorem IdxI.get_doc (h : IdxI R T A all) (nm val : ByteArray) : look2 A nm val = putAll (getXs nm val T) := by
 rw [h.say]
 exact rises_uniq (getT_ok h.rlen h.range nm val).1 (putAll_good _).1 fun y => by rw [mem_getT_iff, (putAll_good _).2, mem_getXs]
theorem IdxI.all_doc (h : IdxI R T A all) : all = putAll (T.map (·.1)) := by
 rw [h.all_]
 exact rises_uniq (allT_ok h.rlen h.range).1 (putAll_good _).1 fun y => by rw [mem_allT_iff, (putAll_good _).2, List.mem_map]
theorem IdxI.pair (h : IdxI R T A all) {nm val : ByteArray} (hp : (nm, val) ∈ allP T) : ∃ I l, look A nm = some I ∧ look I val = some l := by
 refine look2_some ?_
 rw [h.say]
 obtain ⟨s, hs, hm⟩ := mem_allP.1 hp
 intro e
 have := (mem_getT_iff nm val s.1).2 ⟨s, hs, rfl, hm⟩
 rw [e] at this
 cases this
theorem IdxI.values_doc (h : IdxI R T A all) (hA : NodupG A) {nm : ByteArray} {I : List (ByteArray × List Int)} (hI : look A nm = some I) : sortB (I.map (·.1)) = insAll (valX nm (allP T)) := by
 obtain ⟨-, hn, -, hv⟩ := h.name hA (look_memG hI)
 refine sortB_insAll hn fun y => ?_
 rw [mem_valX]
 constructor
 ·intro hy
  obtain ⟨r, hr, rfl⟩ := List.mem_map.1 hy
  obtain ⟨s, hs, hm⟩ := (hv r.1 r.2 hr).2.2.2
  exact mem_allP.2 ⟨s, hs, hm⟩
 ·intro hy
  obtain ⟨I', l, h1, h2⟩ := h.pair hy
  rw [hI] at h1
  injection h1 with h1
  subst h1
  exact List.mem_map.2 ⟨_, look_memG h2, rfl⟩
theorem IdxI.values_none (h : IdxI R T A all) {nm : ByteArray} (hI : look A nm = none) : insAll (valX nm (allP T)) = [] := by
 refine List.eq_nil_iff_forall_not_mem.2 fun y hy => ?_
 rw [(insAll_good _).2.1, mem_valX] at hy
 obtain ⟨I, l, h1, _⟩ := h.pair hy
 rw [hI] at h1
 cases h1
end
theorem allP_len {T : List SerT} (h : ∀ s ∈ T, s.2.length ≤ 10) (hl : T.length ≤ 12) : (allP T).length ≤ 120 := by
 have := flat_len h
 unfold allP
 omega
theorem mem_remL {l : List Int} {n m : Int} (h : Rises l) : m ∈ remL l n ↔ m ∈ l ∧ m ≠ n := by
 by_cases hn : n ∈ l
 ·have e : l = insI (l.filter (· ≠ n)) n := rises_uniq h (insI_rises (h.filter _)) fun y => by
   rw [mem_insI_iff (h.filter _), List.mem_filter]
   by_cases hy : y = n
   ·subst hy; simp [hn]
   ·simp [hy]
  have hr := remL_insI (h.filter (· ≠ n)) (n := n) (by simp)
  rw [e, hr, ← e, List.mem_filter]
  simp
 ·have e : remL l n = l := by unfold remL; rw [if_neg hn]
  rw [e]
  exact ⟨fun hm => ⟨hm, fun e => hn (by rw [← e]; exact hm)⟩, fun hm => hm.1⟩
theorem remL_rises {l : List Int} {n : Int} (h : Rises l) : Rises (remL l n) := by
 by_cases hn : n ∈ l
 ·have e : l = insI (l.filter (· ≠ n)) n := rises_uniq h (insI_rises (h.filter _)) fun y => by
   rw [mem_insI_iff (h.filter _), List.mem_filter]
   by_cases hy : y = n
   ·subst hy; simp [hn]
   ·simp [hy]
  have hr := remL_insI (h.filter (· ≠ n)) (n := n) (by simp)
  rw [e, hr]
  exact h.filter _
 ·unfold remL
  rw [if_neg hn]
  exact h
theorem IdxI.add {R R' : List Int} {T : List SerT} {A A' : AbsG} {all : List Int} (h : IdxI R T A all) (hR : R'.length ≤ 12) (hsub : ∀ z ∈ R, z ∈ R') (hA : NodupG A) {n : Int} {P : List PairB} (hn : n ∈ R') (hnew : ∀ s ∈ T, s.1 ≠ n) (hP : SerOk (n, P)) (hl : T.length < 12) (he : A' = P.foldl (fun A p => addA A n p) A) :
  IdxI R' (T ++ [(n, P)]) A' (insI all n) := by
 refine ⟨fun s hs => ?_, hR, ?_, fun s hs => ?_, ?_, fun nm val => ?_, ?_, ?_⟩
 ·rcases List.mem_append.1 hs with hs | hs
  ·exact hsub _ (h.range s hs)
  ·obtain rfl : s = (n, P) := by simpa using hs
   exact hn
 ·rw [List.map_append, List.nodup_append]
  refine ⟨h.nod, by simp, fun x hx y hy e => ?_⟩
  obtain ⟨s, hs, rfl⟩ := List.mem_map.1 hx
  have : y = n := by simpa using hy
  exact hnew s hs (e.trans this)
 ·rcases List.mem_append.1 hs with hs | hs
  ·exact h.ser s hs
  ·obtain rfl : s = (n, P) := by simpa using hs
   exact hP
 ·rw [he]
  exact (addAll_good _ P hA h.full).2
 ·rw [he, look2_addAll _ nm val P A hP.nod, getT_snoc, h.say]
 ·rw [allT_snoc, h.all_]
 ·rw [List.length_append]
  simp only [List.length_cons, List.length_nil]
  omega
theorem ser_one {T : List SerT} (h : (T.map (·.1)).Nodup) {s s' : SerT} (hs : s ∈ T) (hs' : s' ∈ T) (e : s.1 = s'.1) : s = s' := by
 induction T with
 | nil => cases hs
 | cons a T ih =>
  rw [List.map_cons, List.nodup_cons] at h
  rcases List.mem_cons.1 hs with h1 | h1
  ·rcases List.mem_cons.1 hs' with h2 | h2
   ·rw [h1, h2]
   ·exact (h.1 (List.mem_map.2 ⟨s', h2, by rw [← e, h1]⟩)).elim
  ·rcases List.mem_cons.1 hs' with h2 | h2
   ·exact (h.1 (List.mem_map.2 ⟨s, h1, by rw [e, h2]⟩)).elim
   ·exact ih h.2 h1 h2
open Classical in
theorem getT_rises (T : List SerT) (nm val : ByteArray) : Rises (getT T nm val) := by
 have key : ∀ (T : List SerT) (l : List Int), Rises l → Rises (T.foldl (fun l s => if (nm, val) ∈ s.2 then insI l s.1 else l) l) := by
  intro T
  induction T with
  | nil => intro l hl; exact hl
  | cons s T ih =>
   intro l hl
   rw [List.foldl_cons]
   refine ih _ ?_
   split
   ·exact insI_rises hl
   ·exact hl
 exact key T [] List.Pairwise.nil
theorem allT_rises (T : List SerT) : Rises (allT T) := by
 have key : ∀ (T : List SerT) (l : List Int), Rises l → Rises (T.foldl (fun l s => insI l s.1) l) := by
  intro T
  induction T with
  | nil => intro l hl; exact hl
  | cons s T ih =>
   intro l hl
   rw [List.foldl_cons]
   exact ih _ (insI_rises hl)
 exact key T [] List.Pairwise.nil
theorem IdxI.drop {R : List Int} {T : List SerT} {A A' : AbsG} {all : List Int} (h : IdxI R T A all) (hA : NodupG A) {n : Int} {P : List PairB} (hm : (n, P) ∈ T) (he : A' = P.foldl (fun A p => dropA A n p) A) :
  IdxI R (T.filter fun s => s.1 ≠ n) A' (remL all n) := by
 have hP := h.ser _ hm
 refine ⟨fun s hs => h.range s (List.mem_filter.1 hs).1, h.rlen, ?_, fun s hs => h.ser s (List.mem_filter.1 hs).1, ?_, fun nm val => ?_, ?_, ?_⟩
 ·exact h.nod.sublist ((List.filter_sublist).map _)
 ·rw [he]
  exact (dropAll_good _ P hA h.full).2
 ·rw [he, look2_dropAll _ nm val P A hA hP.nod, h.say]
  have hg := getT_rises T nm val
  by_cases hp : (nm, val) ∈ P
  ·rw [if_pos hp]
   refine rises_uniq (remL_rises hg) (getT_rises _ nm val) fun y => ?_
   rw [mem_remL hg, mem_getT_iff, mem_getT_iff]
   constructor
   ·rintro ⟨⟨s, hs, e, hq⟩, hy⟩
    exact ⟨s, List.mem_filter.2 ⟨hs, by simpa [e] using hy⟩, e, hq⟩
   ·rintro ⟨s, hs, e, hq⟩
    obtain ⟨h1, h2⟩ := List.mem_filter.1 hs
    exact ⟨⟨s, h1, e, hq⟩, by simpa [e] using h2⟩
  ·rw [if_neg hp]
   refine rises_uniq hg (getT_rises _ nm val) fun y => ?_
   rw [mem_getT_iff, mem_getT_iff]
   constructor
   ·rintro ⟨s, hs, e, hq⟩
    refine ⟨s, List.mem_filter.2 ⟨hs, ?_⟩, e, hq⟩
    have : s.1 ≠ n := fun e2 => hp (by
     have := ser_one h.nod hs hm e2
     rw [this] at hq
     exact hq)
    simpa using this
   ·rintro ⟨s, hs, e, hq⟩
    exact ⟨s, (List.mem_filter.1 hs).1, e, hq⟩
 ·rw [h.all_]
  have hg := allT_rises T
  refine rises_uniq (remL_rises hg) (allT_rises _) fun y => ?_
  rw [mem_remL hg, mem_allT_iff, mem_allT_iff]
  constructor
  ·rintro ⟨⟨s, hs, e⟩, hy⟩
   exact ⟨s, List.mem_filter.2 ⟨hs, by simpa [e] using hy⟩, e⟩
  ·rintro ⟨s, hs, e⟩
   obtain ⟨h1, h2⟩ := List.mem_filter.1 hs
   exact ⟨⟨s, h1, e⟩, by simpa [e] using h2⟩
 ·exact Nat.le_trans (List.length_filter_le _ _) h.len
theorem IdxI.rows {R R' : List Int} {T : List SerT} {E : OutG} {all : List Int} (h : IdxI R T (absG E) all) (hA : NodupG (absG E)) (hR : R'.length ≤ 12) (h' : ∀ s ∈ T, s.1 ∈ R') : RowsOk R' E := by
 intro p hp q hq
 have hm : (p.1, p.2.2.map fun q => (q.1, q.2.l)) ∈ absG E := List.mem_map.2 ⟨p, hp, rfl⟩
 have h1 := look_ofG hA.names hm
 have h2 : look (p.2.2.map fun q : ByteArray × RowG => (q.1, q.2.l)) q.1 = some q.2.l := look_ofG (hA.vals _ hm) (List.mem_map.2 ⟨q, hq, rfl⟩)
 have h3 := h.say p.1 q.1
 unfold look2 at h3
 rw [h1, Option.getD_some, h2, Option.getD_some] at h3
 rw [h3]
 exact getT_ok hR h' _ _
end Go.Proofs.YtgdkceeonnfejaaGreatDoor
