/-
  Maps whose keys are ints, over any program: what a look-up, a store and a delete do to the map's block, told by a list of pairs (printed by mapigen.py out of the text on maps of strings).
  No condition beyond those that each theorem states.
-/
import Derived.Test.YtgdkceeonnfejaaGreatDoorMap
import Derived.Test.YtgdkceeonnfejaaGreatDoorOps
namespace Go.Proofs.YtgdkceeonnfejaaGreatDoor
open Go Go.RowKit
abbrev EntN := Int × Value × Nat
def entryN (t : EntN) : MapEntry := { key := .int .i64 t.1, val := t.2.1, born := t.2.2 }
abbrev KVN := List (Int × Value)
def pairsN (E : List EntN) : KVN := E.map fun t => (t.1, t.2.1)
structure MapRawN (E : List EntN) (clock : Nat) : Prop where
 nodup : (E.map (·.1)).Nodup
 born : E.Pairwise fun a b => a.2.2 < b.2.2
 lt : ∀ t ∈ E, t.2.2 < clock
def MapAtN (w : World) (b : Nat) (m : KVN) : Prop :=
 ∃ E clock, w.heap[b]? = some (.map (E.map entryN).toArray clock) ∧ MapRawN E clock ∧ pairsN E = m
theorem MapAtN.keep {w w' : World} {b : Nat} {m : KVN} {S : List Nat} (h : MapAtN w b m) (k : Keeps S w w') (hb : b ∉ S) : MapAtN w' b m := by
 obtain ⟨E, c, h1, h2, h3⟩ := h
 exact ⟨E, c, k.at_ h1 hb, h2, h3⟩
theorem MapAtN.drew {w : World} {b : Nat} {m : KVN} (h : MapAtN w b m) : MapAtN w.drew b m := h
theorem MapAtN.drewN {w : World} {b : Nat} {m : KVN} (h : MapAtN w b m) (n : Nat) : MapAtN (w.drewN n) b m := h
theorem MapAtN.lt {w : World} {b : Nat} {m : KVN} (h : MapAtN w b m) : b < w.heap.size := by
 obtain ⟨E, c, h1, _⟩ := h
 exact lt_of_at h1
theorem MapAtN.nodup {w : World} {b : Nat} {m : KVN} (h : MapAtN w b m) : (m.map (·.1)).Nodup := by
 obtain ⟨E, c, _, h2, rfl⟩ := h
 simpa [pairsN, Function.comp_def] using h2.nodup
theorem MapAtN.ne {w : World} {b k : Nat} {m : KVN} {c : Array Value} {t : TypeId} {f : Nat × Nat} (h : MapAtN w b m) (hk : w.heap[k]? = some (.cells c t f)) : k ≠ b := by
 obtain ⟨E, c, h1, _⟩ := h
 exact ne_of_at hk h1 (by simp)
section
variable {α : Type}
def lookN : List (Int × α) → Int → Option α
 | [], _ => none
 | (k', v) :: r, k => if k = k' then some v else lookN r k
def putN : List (Int × α) → Int → α → List (Int × α)
 | [], k, v => [(k, v)]
 | (k', x) :: r, k, v => if k = k' then (k, v) :: r else (k', x) :: putN r k v
def delN : List (Int × α) → Int → List (Int × α)
 | [], _ => []
 | (k', x) :: r, k => if k = k' then r else (k', x) :: delN r k
end
def posOfN (k : Int) : List EntN → Nat → Option (Nat × Value)
 | [], _ => none
 | t :: r, i => if k = t.1 then some (i, t.2.1) else posOfN k r (i + 1)
theorem findNow_intN (k : Int) : ∀ (E : List EntN) (i : Nat), Instr.findNow (.int .i64) (.int .i64 k) (E.map entryN) i = some (posOfN k E i)
 | [], _ => rfl
 | t :: r, i => by
  by_cases h : k = t.1
  ·simp [Instr.findNow, posOfN, entryN, Instr.sameNow, h]
  ·have hb : (k == t.1) = false := by simpa using h
   simp only [List.map_cons, Instr.findNow, posOfN, entryN, Instr.sameNow, hb, if_neg h]
   exact findNow_intN k r (i + 1)
theorem posOf_lookN (k : Int) : ∀ (E : List EntN) (i : Nat), (posOfN k E i).map (·.2) = lookN (pairsN E) k
 | [], _ => rfl
 | t :: r, i => by
  by_cases h : k = t.1
  ·simp [posOfN, pairsN, lookN, h]
  ·simp only [posOfN, if_neg h]
   rw [posOf_lookN k r (i + 1)]
   simp [pairsN, lookN, h]
theorem posOf_someN {k : Int} : ∀ {E : List EntN} {i j : Nat} {v : Value}, posOfN k E i = some (j, v) → ∃ A t B, E = A ++ t :: B ∧ j = i + A.length ∧ t.1 = k ∧ t.2.1 = v
 | t :: r, i, j, v, h => by
  by_cases hk : k = t.1
  ·simp only [posOfN, if_pos hk, Option.some.injEq, Prod.mk.injEq] at h
   exact ⟨[], t, r, rfl, by simp [h.1], hk.symm, h.2⟩
  ·simp only [posOfN, if_neg hk] at h
   obtain ⟨A, t', B, rfl, hj, h1, h2⟩ := posOf_someN h
   exact ⟨t :: A, t', B, rfl, by simp; omega, h1, h2⟩
theorem posOf_noneN {k : Int} : ∀ {E : List EntN} {i : Nat}, posOfN k E i = none → k ∉ E.map (·.1)
 | [], _, _ => by simp
 | t :: r, i, h => by
  by_cases hk : k = t.1
  ·simp [posOfN, hk] at h
  ·simp only [posOfN, if_neg hk] at h
   have := posOf_noneN h
   simp only [List.map_cons, List.mem_cons, not_or]
   exact ⟨hk, this⟩
theorem run_findKey_intN {P : Program} {kt : TypeId} (hk : P.underlying kt = some (.int .i64)) (k : Int) (E : List EntN) (w : World) :
  (Instr.findKey kt (.int .i64 k) (E.map entryN)).run P w = .ok (posOfN k E 0) w := by
 simp [Instr.findKey, run_underlying hk, findNow_intN]
theorem run_checkKey_int {P : Program} {kt : TypeId} (hk : P.underlying kt = some (.int .i64)) (e : Bool) (k : Int) (w : World) : (Instr.checkKey e 10000 kt (.int .i64 k)).run P w = .ok () w := by
 have h : ∀ n, (Instr.checkKey e (n + 1) kt (.int .i64 k)).run P w = .ok () w := fun n => by simp [Instr.checkKey, run_underlying hk]
 exact h 9999
theorem sameBits_int (k : Int) : Instr.sameBits 10000 (.int .i64 k) (.int .i64 k) = true := by
 show (Instr.sameBits (9999 + 1) (.int .i64 k) (.int .i64 k)) = true
 simp [Instr.sameBits]
theorem run_keyThatStays_int {P : Program} (k : Int) (w : World) : (Instr.keyThatStays (.int .i64 k) (.int .i64 k)).run P w = .ok (.int .i64 k) w := by
 unfold Instr.keyThatStays
 rw [sameBits_int]
 rfl
section
variable {P : Program} {t kt et : TypeId} {w : World} {b : Nat} {m : KVN}
def lookValN (m : KVN) (k : Int) (z : Value) (ok : Bool) : Value :=
 if ok then .tuple #[(lookN m k).getD z, .bool (lookN m k).isSome] else (lookN m k).getD z
theorem MapAtN.run_lookup (h : MapAtN w b m) (ht : P.underlying t = some (.map kt et)) (hk : P.underlying kt = some (.int .i64)) {z : Value} (hz : (zeroValue et).run P w = .ok z w) (k : Int) (ok : Bool) :
  (Instr.lookup t (.map (some b)) (.int .i64 k) ok).run P w = .ok (lookValN m k z ok) w := by
 obtain ⟨E, c, h1, h2, rfl⟩ := h
 have hp := posOf_lookN k E 0
 have hf := run_findKey_intN (P := P) hk k E w
 cases hq : posOfN k E 0 with
 | none =>
  rw [hq] at hp hf
  simp only [Option.map_none] at hp
  cases ok <;> simp [Instr.lookup, run_underlying ht, MapKept.run_getObj_map h1, run_checkKey_int hk, hf, hz, lookValN, ← hp]
 | some x =>
  obtain ⟨j, v⟩ := x
  rw [hq] at hp hf
  simp only [Option.map_some] at hp
  cases ok <;> simp [Instr.lookup, run_underlying ht, MapKept.run_getObj_map h1, run_checkKey_int hk, hf, lookValN, ← hp]
theorem pairs_appendN (A B : List EntN) : pairsN (A ++ B) = pairsN A ++ pairsN B := by simp [pairsN]
theorem put_appendN (A B : KVN) (k : Int) (v : Value) (h : k ∉ A.map (·.1)) : putN (A ++ B) k v = A ++ putN B k v := by
 induction A with
 | nil => rfl
 | cons a A ih =>
  simp only [List.map_cons, List.mem_cons, not_or] at h
  simp only [List.cons_append, putN, if_neg h.1, ih h.2]
theorem del_appendN (A B : KVN) (k : Int) (h : k ∉ A.map (·.1)) : delN (A ++ B) k = A ++ delN B k := by
 induction A with
 | nil => rfl
 | cons a A ih =>
  simp only [List.map_cons, List.mem_cons, not_or] at h
  simp only [List.cons_append, delN, if_neg h.1, ih h.2]
theorem keys_pairsN (E : List EntN) : (pairsN E).map (·.1) = E.map (·.1) := by simp [pairsN]
theorem MapAtN.run_update (h : MapAtN w b m) (ht : P.underlying t = some (.map kt et)) (hk : P.underlying kt = some (.int .i64)) (k : Int) (v : Value) :
  ∃ o, (Instr.mapUpdate t (.map (some b)) (.int .i64 k) v).run P w = .ok () { w with heap := w.heap.setIfInBounds b o } ∧ MapAtN { w with heap := w.heap.setIfInBounds b o } b (putN m k v) := by
 obtain ⟨E, c, h1, h2, rfl⟩ := h
 have hf := run_findKey_intN (P := P) hk k E w
 cases hq : posOfN k E 0 with
 | none =>
  rw [hq] at hf
  refine ⟨.map ((E ++ [(k, v, c)]).map entryN).toArray (c + 1), ?_, E ++ [(k, v, c)], c + 1, heap_set_same h1 _, ?_, ?_⟩
  ·simp [Instr.mapUpdate, run_underlying ht, MapKept.run_getObj_map h1, run_checkKey_int hk, hf, MapKept.run_setObj_map _ h1, entryN]
  ·refine ⟨?_, ?_, ?_⟩
   ·rw [List.map_append, List.nodup_append]
    refine ⟨h2.nodup, by simp, ?_⟩
    intro x hx y hy
    simp at hy
    subst hy
    rintro rfl
    exact posOf_noneN hq hx
   ·rw [List.pairwise_append]
    exact ⟨h2.born, by simp, fun x hx y hy => by simp at hy; subst hy; exact h2.lt x hx⟩
   ·intro x hx
    rcases List.mem_append.1 hx with hx | hx
    ·exact Nat.lt_succ_of_lt (h2.lt x hx)
    ·simp at hx; subst hx; exact Nat.lt_succ_self _
  ·rw [pairs_appendN, ← List.append_nil (pairsN E), put_appendN _ [] _ _ (by rw [keys_pairsN]; exact posOf_noneN hq)]
   simp [pairsN, putN]
 | some x =>
  obtain ⟨j, v0⟩ := x
  obtain ⟨A, t0, B, rfl, hj, hk1, hv1⟩ := posOf_someN hq
  obtain ⟨k0, v1, b0⟩ := t0
  simp only at hk1 hv1
  subst hk1
  rw [hq] at hf
  simp only [Nat.zero_add] at hj
  subst hj
  have hnd := h2.nodup
  rw [List.map_append, List.map_cons, List.nodup_append] at hnd
  have hkA : k0 ∉ A.map (·.1) := fun hm => (hnd.2.2 k0 hm k0 (by simp)) rfl
  refine ⟨.map ((A ++ (k0, v, b0) :: B).map entryN).toArray c, ?_, A ++ (k0, v, b0) :: B, c, heap_set_same h1 _, ?_, ?_⟩
  ·have hmod : ((A ++ (k0, v1, b0) :: B).map entryN).toArray.modify A.length (fun e => { e with key := .int .i64 k0, val := v }) = ((A ++ (k0, v, b0) :: B).map entryN).toArray := by
    apply Array.ext'
    rw [Array.toList_modify]
    simp only [List.map_append, List.map_cons]
    have := modify_mid (A.map entryN) (entryN (k0, v1, b0)) (B.map entryN) (fun e => { e with key := .int .i64 k0, val := v })
    rw [List.length_map] at this
    rw [this]
    rfl
   have hg : (((A ++ (k0, v1, b0) :: B).map entryN).toArray)[A.length]? = some (entryN (k0, v1, b0)) := by
    simp
   simp only [Instr.mapUpdate, Sem.run_bind, run_underlying ht, MapKept.run_getObj_map h1, Result.andThen, run_checkKey_int hk, hf, hg, Option.map_some, Option.getD_some, entryN, run_keyThatStays_int, hmod]
   exact MapKept.run_setObj_map _ h1
  ·refine ⟨?_, ?_, ?_⟩
   ·simpa using h2.nodup
   ·have := h2.born
    rw [List.pairwise_append, List.pairwise_cons] at this ⊢
    refine ⟨this.1, ⟨this.2.1.1, this.2.1.2⟩, ?_⟩
    intro x hx y hy
    rcases List.mem_cons.1 hy with rfl | hy
    ·exact this.2.2 x hx (k0, v1, b0) (by simp)
    ·exact this.2.2 x hx y (by simp [hy])
   ·intro x hx
    rcases List.mem_append.1 hx with hx | hx
    ·exact h2.lt x (by simp [hx])
    ·rcases List.mem_cons.1 hx with rfl | hx
     ·exact h2.lt (k0, v1, b0) (by simp)
     ·exact h2.lt x (by simp [hx])
  ·rw [pairs_appendN, pairs_appendN, put_appendN _ _ _ _ (by rw [keys_pairsN]; exact hkA)]
   simp [pairsN, putN]
theorem MapAtN.run_delete (h : MapAtN w b m) (ht : P.underlying t = some (.map kt et)) (hk : P.underlying kt = some (.int .i64)) (k : Int) (ty : TypeId) :
  ∃ o, (Builtin.delete_ #[t, kt] ty #[.map (some b), .int .i64 k]).run P w = .ok (.tuple #[]) { w with heap := w.heap.setIfInBounds b o } ∧ MapAtN { w with heap := w.heap.setIfInBounds b o } b (delN m k) := by
 obtain ⟨E, c, h1, h2, rfl⟩ := h
 have hf := run_findKey_intN (P := P) hk k E w
 cases hq : posOfN k E 0 with
 | none =>
  rw [hq] at hf
  refine ⟨.map (E.map entryN).toArray c, ?_, E, c, heap_set_same h1 _, h2, ?_⟩
  ·simp [Builtin.delete_, run_underlying ht, MapKept.run_getObj_map h1, run_checkKey_int hk, hf, MapKept.run_setObj_map _ h1]
  ·have := del_appendN (pairsN E) [] k (by rw [keys_pairsN]; exact posOf_noneN hq)
   rw [List.append_nil] at this
   rw [this]
   simp [delN]
 | some x =>
  obtain ⟨j, v0⟩ := x
  obtain ⟨A, t0, B, rfl, hj, hk1, hv1⟩ := posOf_someN hq
  obtain ⟨k0, v1, b0⟩ := t0
  simp only at hk1 hv1
  subst hk1
  rw [hq] at hf
  simp only [Nat.zero_add] at hj
  subst hj
  have hnd := h2.nodup
  rw [List.map_append, List.map_cons, List.nodup_append] at hnd
  have hkA : k0 ∉ A.map (·.1) := fun hm => (hnd.2.2 k0 hm k0 (by simp)) rfl
  refine ⟨.map ((A ++ B).map entryN).toArray c, ?_, A ++ B, c, heap_set_same h1 _, ?_, ?_⟩
  ·have hmod : ((A ++ (k0, v1, b0) :: B).map entryN).toArray.eraseIdxIfInBounds A.length = ((A ++ B).map entryN).toArray := by
    apply Array.ext'
    rw [Array.toList_eraseIdxIfInBounds]
    simp only [List.map_append, List.map_cons]
    have := erase_mid (A.map entryN) (entryN (k0, v1, b0)) (B.map entryN)
    rw [List.length_map] at this
    rw [this]
   have hr : (Builtin.delete_ #[t, kt] ty #[.map (some b), .int .i64 k0]).run P w = ((setObj b (.map (((A ++ (k0, v1, b0) :: B).map entryN).toArray.eraseIdxIfInBounds A.length) c)).run P w).andThen fun _ w => .ok (.tuple #[]) w := by
    simp only [Builtin.delete_, List.getElem?_toArray, List.getElem?_cons_zero, List.getElem?_cons_succ, Sem.run_bind, run_underlying ht, MapKept.run_getObj_map h1, Result.andThen, run_checkKey_int hk, hf]
    rfl
   rw [hr, hmod, MapKept.run_setObj_map _ h1]
   rfl
  ·have hsub : (A ++ B).Sublist (A ++ (k0, v1, b0) :: B) := by simp
   exact ⟨h2.nodup.sublist (hsub.map _), h2.born.sublist hsub, fun x hx => h2.lt x (hsub.subset hx)⟩
  ·rw [pairs_appendN, pairs_appendN, del_appendN _ _ _ (by rw [keys_pairsN]; exact hkA)]
   simp [pairsN, delN]
end
section
variable {α : Type}
end
section
variable {P : Program} (w : World) {ops : Array Oper} {rest : List Oper} {o : Oper} {a : Act} {Q : Exit → Act → World → Prop}
theorem wpList_delete_int (hg : o.guard = none) (m x : Operand) (t kt et : TypeId) (hop : o.op = Op.call { callee := Callee.builtin Builtin.delete, args := #[m, x], argTypes := #[t, kt] }) (ht : P.underlying t = some (.map kt et)) (hk : P.underlying kt = some (.int .i64))
  (b : Nat) (M : KVN) (key : Int) (hm : a.eval m = .map (some b)) (hx : a.eval x = .int .i64 key) (h : MapAtN w b M)
  (hK : ∀ w', MapAtN w' b (delN M key) → Keeps [b] w w' → wpList P ops Q rest (a.put o.dst (.tuple #[])) w') : wpList P ops Q (o :: rest) a w := by
 refine wpList_plain hg fun K' hK' => ?_
 obtain ⟨ob, hrun, r1⟩ := h.run_delete ht hk key o.type
 unfold Oper.wp
 simp [execOp, hop, resolve, invoke, builtin, hm, hx, hrun, Result.andThen]
 exact hK' _ _ (hK _ r1 (keeps_setIf ob))
end
end Go.Proofs.YtgdkceeonnfejaaGreatDoor
