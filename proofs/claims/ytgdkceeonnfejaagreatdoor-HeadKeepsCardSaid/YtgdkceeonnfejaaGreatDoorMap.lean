/-
  Maps whose keys are strings, over any program: what a look-up, a store and a delete do to the map's block, told by a list of pairs.
  No condition beyond those that each theorem states.

  Plain laws on lists of pairs: look, put, del.
  No condition beyond those that each theorem states.
-/
import Derived.Test.YtgdkceeonnfejaaGreatDoorBase
import Derived.Maps.Own
namespace Go.Proofs.YtgdkceeonnfejaaGreatDoor
open Go Go.RowKit
theorem ba_beq (a b : ByteArray) : (a == b) = decide (a = b) := by
 obtain ⟨a⟩ := a; obtain ⟨b⟩ := b
 have h : ((⟨a⟩ : ByteArray) == ⟨b⟩) = (a == b) := rfl
 rw [h, Bool.eq_iff_iff]
 simp
abbrev Ent := ByteArray × Value × Nat
def entry (t : Ent) : MapEntry := { key := .string t.1, val := t.2.1, born := t.2.2 }
abbrev KV := List (ByteArray × Value)
def pairs (E : List Ent) : KV := E.map fun t => (t.1, t.2.1)
structure MapRaw (E : List Ent) (clock : Nat) : Prop where
 nodup : (E.map (·.1)).Nodup
 born : E.Pairwise fun a b => a.2.2 < b.2.2
 lt : ∀ t ∈ E, t.2.2 < clock
def MapAt (w : World) (b : Nat) (m : KV) : Prop :=
 ∃ E clock, w.heap[b]? = some (.map (E.map entry).toArray clock) ∧ MapRaw E clock ∧ pairs E = m
theorem MapAt.keep {w w' : World} {b : Nat} {m : KV} {S : List Nat} (h : MapAt w b m) (k : Keeps S w w') (hb : b ∉ S) : MapAt w' b m := by
 obtain ⟨E, c, h1, h2, h3⟩ := h
 exact ⟨E, c, k.at_ h1 hb, h2, h3⟩
theorem MapAt.drew {w : World} {b : Nat} {m : KV} (h : MapAt w b m) : MapAt w.drew b m := h
theorem MapAt.drewN {w : World} {b : Nat} {m : KV} (h : MapAt w b m) (n : Nat) : MapAt (w.drewN n) b m := h
theorem MapAt.lt {w : World} {b : Nat} {m : KV} (h : MapAt w b m) : b < w.heap.size := by
 obtain ⟨E, c, h1, _⟩ := h
 exact lt_of_at h1
theorem MapAt.nodup {w : World} {b : Nat} {m : KV} (h : MapAt w b m) : (m.map (·.1)).Nodup := by
 obtain ⟨E, c, _, h2, rfl⟩ := h
 simpa [pairs, Function.comp_def] using h2.nodup
theorem MapAt.ne {w : World} {b k : Nat} {m : KV} {c : Array Value} {t : TypeId} {f : Nat × Nat} (h : MapAt w b m) (hk : w.heap[k]? = some (.cells c t f)) : k ≠ b := by
 obtain ⟨E, c, h1, _⟩ := h
 exact ne_of_at hk h1 (by simp)
section
variable {α : Type}
def look : List (ByteArray × α) → ByteArray → Option α
 | [], _ => none
 | (k', v) :: r, k => if k = k' then some v else look r k
def put : List (ByteArray × α) → ByteArray → α → List (ByteArray × α)
 | [], k, v => [(k, v)]
 | (k', x) :: r, k, v => if k = k' then (k, v) :: r else (k', x) :: put r k v
def del : List (ByteArray × α) → ByteArray → List (ByteArray × α)
 | [], _ => []
 | (k', x) :: r, k => if k = k' then r else (k', x) :: del r k
def encMap (enc : α → Value) (m : List (ByteArray × α)) : KV := m.map fun p => (p.1, enc p.2)
theorem look_enc (enc : α → Value) (k : ByteArray) : ∀ m : List (ByteArray × α), look (encMap enc m) k = (look m k).map enc
 | [] => rfl
 | (k', x) :: r => by
  have ih := look_enc enc k r
  simp only [encMap] at ih
  by_cases h : k = k' <;> simp [encMap, look, h, ih]
theorem put_enc (enc : α → Value) (k : ByteArray) (v : α) : ∀ m : List (ByteArray × α), put (encMap enc m) k (enc v) = encMap enc (put m k v)
 | [] => rfl
 | (k', x) :: r => by
  have ih := put_enc enc k v r
  simp only [encMap] at ih
  by_cases h : k = k' <;> simp [encMap, put, h, ih]
theorem del_enc (enc : α → Value) (k : ByteArray) : ∀ m : List (ByteArray × α), del (encMap enc m) k = encMap enc (del m k)
 | [] => rfl
 | (k', x) :: r => by
  have ih := del_enc enc k r
  simp only [encMap] at ih
  by_cases h : k = k' <;> simp [encMap, del, h, ih]
end
def posOf (k : ByteArray) : List Ent → Nat → Option (Nat × Value)
 | [], _ => none
 | t :: r, i => if k = t.1 then some (i, t.2.1) else posOf k r (i + 1)
theorem findNow_str (k : ByteArray) : ∀ (E : List Ent) (i : Nat), Instr.findNow .string (.string k) (E.map entry) i = some (posOf k E i)
 | [], _ => rfl
 | t :: r, i => by
  by_cases h : k = t.1
  ·simp [Instr.findNow, posOf, entry, Instr.sameNow, ba_beq, h]
  ·simp [Instr.findNow, posOf, entry, Instr.sameNow, ba_beq, h]
   exact findNow_str k r (i + 1)
theorem posOf_look (k : ByteArray) : ∀ (E : List Ent) (i : Nat), (posOf k E i).map (·.2) = look (pairs E) k
 | [], _ => rfl
 | t :: r, i => by
  by_cases h : k = t.1
  ·simp [posOf, pairs, look, h]
  ·simp only [posOf, if_neg h]
   rw [posOf_look k r (i + 1)]
   simp [pairs, look, h]
theorem posOf_some {k : ByteArray} : ∀ {E : List Ent} {i j : Nat} {v : Value}, posOf k E i = some (j, v) → ∃ A t B, E = A ++ t :: B ∧ j = i + A.length ∧ t.1 = k ∧ t.2.1 = v
 | t :: r, i, j, v, h => by
  by_cases hk : k = t.1
  ·simp only [posOf, if_pos hk, Option.some.injEq, Prod.mk.injEq] at h
   exact ⟨[], t, r, rfl, by simp [h.1], hk.symm, h.2⟩
  ·simp only [posOf, if_neg hk] at h
   obtain ⟨A, t', B, rfl, hj, h1, h2⟩ := posOf_some h
   exact ⟨t :: A, t', B, rfl, by simp; omega, h1, h2⟩
theorem posOf_none {k : ByteArray} : ∀ {E : List Ent} {i : Nat}, posOf k E i = none → k ∉ E.map (·.1)
 | [], _, _ => by simp
 | t :: r, i, h => by
  by_cases hk : k = t.1
  ·simp [posOf, hk] at h
  ·simp only [posOf, if_neg hk] at h
   have := posOf_none h
   simp only [List.map_cons, List.mem_cons, not_or]
   exact ⟨hk, this⟩
theorem run_findKey_str {P : Program} {kt : TypeId} (hk : P.underlying kt = some .string) (k : ByteArray) (E : List Ent) (w : World) :
  (Instr.findKey kt (.string k) (E.map entry)).run P w = .ok (posOf k E 0) w := by
 simp [Instr.findKey, run_underlying hk, findNow_str]
theorem run_checkKey_strN {P : Program} {kt : TypeId} (hk : P.underlying kt = some .string) (e : Bool) (k : ByteArray) (w : World) (n : Nat) :
  (Instr.checkKey e (n + 1) kt (.string k)).run P w = .ok () w := by
 simp [Instr.checkKey, run_underlying hk]
theorem run_checkKey_str {P : Program} {kt : TypeId} (hk : P.underlying kt = some .string) (e : Bool) (k : ByteArray) (w : World) :
  (Instr.checkKey e 10000 kt (.string k)).run P w = .ok () w := run_checkKey_strN hk e k w 9999
theorem sameBits_str (k : ByteArray) : Instr.sameBits 10000 (.string k) (.string k) = true := by
 show (k == k) = true
 rw [ba_beq]; simp
theorem run_keyThatStays_str {P : Program} (k : ByteArray) (w : World) : (Instr.keyThatStays (.string k) (.string k)).run P w = .ok (.string k) w := by
 unfold Instr.keyThatStays
 rw [sameBits_str]
 rfl
theorem modify_mid {α : Type} (A : List α) (x : α) (B : List α) (f : α → α) : (A ++ x :: B).modify A.length f = A ++ f x :: B := by
 induction A with
 | nil => rfl
 | cons a A ih => simp [ih]
theorem erase_mid {α : Type} (A : List α) (x : α) (B : List α) : (A ++ x :: B).eraseIdx A.length = A ++ B := by
 induction A with
 | nil => rfl
 | cons a A ih => simp [ih]
section
variable {P : Program} {t kt et : TypeId} {w : World} {b : Nat} {m : KV}
def lookVal (m : KV) (k : ByteArray) (z : Value) (ok : Bool) : Value :=
 if ok then .tuple #[(look m k).getD z, .bool (look m k).isSome] else (look m k).getD z
theorem MapAt.run_lookup (h : MapAt w b m) (ht : P.underlying t = some (.map kt et)) (hk : P.underlying kt = some .string) {z : Value} (hz : (zeroValue et).run P w = .ok z w) (k : ByteArray) (ok : Bool) :
  (Instr.lookup t (.map (some b)) (.string k) ok).run P w = .ok (lookVal m k z ok) w := by
 obtain ⟨E, c, h1, h2, rfl⟩ := h
 have hp := posOf_look k E 0
 have hf := run_findKey_str (P := P) hk k E w
 cases hq : posOf k E 0 with
 | none =>
  rw [hq] at hp hf
  simp only [Option.map_none] at hp
  cases ok <;> simp [Instr.lookup, run_underlying ht, MapKept.run_getObj_map h1, run_checkKey_str hk, hf, hz, lookVal, ← hp]
 | some x =>
  obtain ⟨j, v⟩ := x
  rw [hq] at hp hf
  simp only [Option.map_some] at hp
  cases ok <;> simp [Instr.lookup, run_underlying ht, MapKept.run_getObj_map h1, run_checkKey_str hk, hf, lookVal, ← hp]
theorem pairs_append (A B : List Ent) : pairs (A ++ B) = pairs A ++ pairs B := by simp [pairs]
theorem put_append (A B : KV) (k : ByteArray) (v : Value) (h : k ∉ A.map (·.1)) : put (A ++ B) k v = A ++ put B k v := by
 induction A with
 | nil => rfl
 | cons a A ih =>
  simp only [List.map_cons, List.mem_cons, not_or] at h
  simp only [List.cons_append, put, if_neg h.1, ih h.2]
theorem del_append (A B : KV) (k : ByteArray) (h : k ∉ A.map (·.1)) : del (A ++ B) k = A ++ del B k := by
 induction A with
 | nil => rfl
 | cons a A ih =>
  simp only [List.map_cons, List.mem_cons, not_or] at h
  simp only [List.cons_append, del, if_neg h.1, ih h.2]
theorem keys_pairs (E : List Ent) : (pairs E).map (·.1) = E.map (·.1) := by simp [pairs]
theorem MapAt.run_update (h : MapAt w b m) (ht : P.underlying t = some (.map kt et)) (hk : P.underlying kt = some .string) (k : ByteArray) (v : Value) :
  ∃ o, (Instr.mapUpdate t (.map (some b)) (.string k) v).run P w = .ok () { w with heap := w.heap.setIfInBounds b o } ∧ MapAt { w with heap := w.heap.setIfInBounds b o } b (put m k v) := by
 obtain ⟨E, c, h1, h2, rfl⟩ := h
 have hf := run_findKey_str (P := P) hk k E w
 cases hq : posOf k E 0 with
 | none =>
  rw [hq] at hf
  refine ⟨.map ((E ++ [(k, v, c)]).map entry).toArray (c + 1), ?_, E ++ [(k, v, c)], c + 1, heap_set_same h1 _, ?_, ?_⟩
  ·simp [Instr.mapUpdate, run_underlying ht, MapKept.run_getObj_map h1, run_checkKey_str hk, hf, MapKept.run_setObj_map _ h1, entry]
  ·refine ⟨?_, ?_, ?_⟩
   ·rw [List.map_append, List.nodup_append]
    refine ⟨h2.nodup, by simp, ?_⟩
    intro x hx y hy
    simp at hy
    subst hy
    rintro rfl
    exact posOf_none hq hx
   ·rw [List.pairwise_append]
    exact ⟨h2.born, by simp, fun x hx y hy => by simp at hy; subst hy; exact h2.lt x hx⟩
   ·intro x hx
    rcases List.mem_append.1 hx with hx | hx
    ·exact Nat.lt_succ_of_lt (h2.lt x hx)
    ·simp at hx; subst hx; exact Nat.lt_succ_self _
  ·rw [pairs_append, ← List.append_nil (pairs E), put_append _ [] _ _ (by rw [keys_pairs]; exact posOf_none hq)]
   simp [pairs, put]
 | some x =>
  obtain ⟨j, v0⟩ := x
  obtain ⟨A, t0, B, rfl, hj, hk1, hv1⟩ := posOf_some hq
  obtain ⟨k0, v1, b0⟩ := t0
  simp only at hk1 hv1
  subst hk1
  rw [hq] at hf
  simp only [Nat.zero_add] at hj
  subst hj
  have hnd := h2.nodup
  rw [List.map_append, List.map_cons, List.nodup_append] at hnd
  have hkA : k0 ∉ A.map (·.1) := fun hm => (hnd.2.2 k0 hm k0 (by simp)) rfl
  refine ⟨.map ((A ++ (k0, v, b0) :: B).map entry).toArray c, ?_, A ++ (k0, v, b0) :: B, c, heap_set_same h1 _, ?_, ?_⟩
  ·have hmod : ((A ++ (k0, v1, b0) :: B).map entry).toArray.modify A.length (fun e => { e with key := .string k0, val := v }) = ((A ++ (k0, v, b0) :: B).map entry).toArray := by
    apply Array.ext'
    rw [Array.toList_modify]
    simp only [List.map_append, List.map_cons]
    have := modify_mid (A.map entry) (entry (k0, v1, b0)) (B.map entry) (fun e => { e with key := .string k0, val := v })
    rw [List.length_map] at this
    rw [this]
    rfl
   have hg : (((A ++ (k0, v1, b0) :: B).map entry).toArray)[A.length]? = some (entry (k0, v1, b0)) := by
    simp
   simp only [Instr.mapUpdate, Sem.run_bind, run_underlying ht, MapKept.run_getObj_map h1, Result.andThen, run_checkKey_str hk, hf, hg, Option.map_some, Option.getD_some, entry, run_keyThatStays_str, hmod]
   exact MapKept.run_setObj_map _ h1
  ·refine ⟨?_, ?_, ?_⟩
   ·simpa using h2.nodup
   ·have := h2.born
    rw [List.pairwise_append, List.pairwise_cons] at this ⊢
    refine ⟨this.1, ⟨this.2.1.1, this.2.1.2⟩, ?_⟩
    intro x hx y hy
    rcases List.mem_cons.1 hy with rfl | hy
    ·exact this.2.2 x hx (k0, v1, b0) (by simp)
    ·exact this.2.2 x hx y (by simp [hy])
   ·intro x hx
    rcases List.mem_append.1 hx with hx | hx
    ·exact h2.lt x (by simp [hx])
    ·rcases List.mem_cons.1 hx with rfl | hx
     ·exact h2.lt (k0, v1, b0) (by simp)
     ·exact h2.lt x (by simp [hx])
  ·rw [pairs_append, pairs_append, put_append _ _ _ _ (by rw [keys_pairs]; exact hkA)]
   simp [pairs, put]
theorem MapAt.run_delete (h : MapAt w b m) (ht : P.underlying t = some (.map kt et)) (hk : P.underlying kt = some .string) (k : ByteArray) (ty : TypeId) :
  ∃ o, (Builtin.delete_ #[t, kt] ty #[.map (some b), .string k]).run P w = .ok (.tuple #[]) { w with heap := w.heap.setIfInBounds b o } ∧ MapAt { w with heap := w.heap.setIfInBounds b o } b (del m k) := by
 obtain ⟨E, c, h1, h2, rfl⟩ := h
 have hf := run_findKey_str (P := P) hk k E w
 cases hq : posOf k E 0 with
 | none =>
  rw [hq] at hf
  refine ⟨.map (E.map entry).toArray c, ?_, E, c, heap_set_same h1 _, h2, ?_⟩
  ·simp [Builtin.delete_, run_underlying ht, MapKept.run_getObj_map h1, run_checkKey_str hk, hf, MapKept.run_setObj_map _ h1]
  ·have := del_append (pairs E) [] k (by rw [keys_pairs]; exact posOf_none hq)
   rw [List.append_nil] at this
   rw [this]
   simp [del]
 | some x =>
  obtain ⟨j, v0⟩ := x
  obtain ⟨A, t0, B, rfl, hj, hk1, hv1⟩ := posOf_some hq
  obtain ⟨k0, v1, b0⟩ := t0
  simp only at hk1 hv1
  subst hk1
  rw [hq] at hf
  simp only [Nat.zero_add] at hj
  subst hj
  have hnd := h2.nodup
  rw [List.map_append, List.map_cons, List.nodup_append] at hnd
  have hkA : k0 ∉ A.map (·.1) := fun hm => (hnd.2.2 k0 hm k0 (by simp)) rfl
  refine ⟨.map ((A ++ B).map entry).toArray c, ?_, A ++ B, c, heap_set_same h1 _, ?_, ?_⟩
  ·have hmod : ((A ++ (k0, v1, b0) :: B).map entry).toArray.eraseIdxIfInBounds A.length = ((A ++ B).map entry).toArray := by
    apply Array.ext'
    rw [Array.toList_eraseIdxIfInBounds]
    simp only [List.map_append, List.map_cons]
    have := erase_mid (A.map entry) (entry (k0, v1, b0)) (B.map entry)
    rw [List.length_map] at this
    rw [this]
   have hr : (Builtin.delete_ #[t, kt] ty #[.map (some b), .string k0]).run P w = ((setObj b (.map (((A ++ (k0, v1, b0) :: B).map entry).toArray.eraseIdxIfInBounds A.length) c)).run P w).andThen fun _ w => .ok (.tuple #[]) w := by
    simp only [Builtin.delete_, List.getElem?_toArray, List.getElem?_cons_zero, List.getElem?_cons_succ, Sem.run_bind, run_underlying ht, MapKept.run_getObj_map h1, Result.andThen, run_checkKey_str hk, hf]
    rfl
   rw [hr, hmod, MapKept.run_setObj_map _ h1]
   rfl
  ·have hsub : (A ++ B).Sublist (A ++ (k0, v1, b0) :: B) := by simp
   exact ⟨h2.nodup.sublist (hsub.map _), h2.born.sublist hsub, fun x hx => h2.lt x (hsub.subset hx)⟩
  ·rw [pairs_append, pairs_append, del_append _ _ _ (by rw [keys_pairs]; exact hkA)]
   simp [pairs, del]
theorem mapAt_new (w : World) : MapAt (w.alloc (.map #[] 0)) w.heap.size [] :=
 ⟨[], 0, heap_new w _, ⟨by simp, by simp, by simp⟩, rfl⟩
end
open Go
section
variable {α : Type}
theorem look_put (n m : ByteArray) (v : α) : ∀ o : List (ByteArray × α), look (put o n v) m = if m = n then some v else look o m
 | [] => by by_cases h : m = n <;> simp [put, look, h]
 | (k, x) :: r => by
  have ih := look_put n m v r
  by_cases h : n = k
  ·subst h
   by_cases h2 : m = n <;> simp [put, look, h2]
  ·simp only [put, if_neg h, look]
   by_cases h2 : m = k
   ·have h3 : m ≠ n := fun e => h (e.symm.trans h2)
    simp [h2, show k ≠ n from fun e => h e.symm]
   ·simp only [if_neg h2, ih]
theorem look_none_iff (n : ByteArray) : ∀ o : List (ByteArray × α), look o n = none ↔ n ∉ o.map (·.1)
 | [] => by simp [look]
 | (k, x) :: r => by
  have ih := look_none_iff n r
  by_cases h : n = k <;> simp [look, h, ih]
theorem look_del (n m : ByteArray) : ∀ o : List (ByteArray × α), (o.map (·.1)).Nodup → look (del o n) m = if m = n then none else look o m
 | [], _ => by by_cases h : m = n <;> simp [del, look]
 | (k, x) :: r, hnd => by
  simp only [List.map_cons, List.nodup_cons] at hnd
  have ih := look_del n m r hnd.2
  by_cases h : n = k
  ·subst h
   simp only [del, if_true]
   by_cases h2 : m = n
   ·subst h2
    rw [if_pos rfl]
    exact (look_none_iff m r).2 hnd.1
   ·simp [look, h2]
  ·simp only [del, if_neg h, look]
   by_cases h2 : m = k
   ·subst h2
    rw [if_pos rfl, if_pos rfl, if_neg fun e => h e.symm]
   ·rw [if_neg h2, if_neg h2, ih]
theorem mem_keys_put {n m : ByteArray} {v : α} : ∀ {o : List (ByteArray × α)}, m ∈ (put o n v).map (·.1) → m = n ∨ m ∈ o.map (·.1)
 | [], h => by simp [put] at h; exact .inl h
 | (k, x) :: r, h => by
  by_cases hk : n = k
  ·simp only [put, if_pos hk, List.map_cons, List.mem_cons] at h ⊢
   rcases h with h | h
   ·exact .inl h
   ·exact .inr (.inr h)
  ·simp only [put, if_neg hk, List.map_cons, List.mem_cons] at h ⊢
   rcases h with h | h
   ·exact .inr (.inl h)
   ·rcases mem_keys_put h with h | h
    ·exact .inl h
    ·exact .inr (.inr h)
end
theorem del_nodup {α : Type} {o : List (ByteArray × α)} (hn : (o.map (·.1)).Nodup) (n : ByteArray) : ((del o n).map (·.1)).Nodup := by
 have : ∀ o : List (ByteArray × α), (del o n).Sublist o := by
  intro o
  induction o with
  | nil => exact List.Sublist.refl _
  | cons p o ih =>
   obtain ⟨m, x⟩ := p
   unfold del
   split
   ·exact List.sublist_cons_self _ _
   ·exact ih.cons_cons _
 exact ((this o).map _).nodup hn
theorem put_nodup {α : Type} {o : List (ByteArray × α)} (hn : (o.map (·.1)).Nodup) (n : ByteArray) (v : α) : ((put o n v).map (·.1)).Nodup := by
 induction o with
 | nil => simp [put]
 | cons p o ih =>
  obtain ⟨m, x⟩ := p
  simp only [List.map_cons, List.nodup_cons] at hn
  unfold put
  split
  ·rename_i e
   subst e
   simpa using hn
  ·rename_i e
   simp only [List.map_cons, List.nodup_cons]
   refine ⟨fun hm => ?_, ih hn.2⟩
   rcases mem_keys_put hm with h | h
   ·exact e h.symm
   ·exact hn.1 h
end Go.Proofs.YtgdkceeonnfejaaGreatDoor
