/-
  General aids for the walks of this seat: a select of one case with a default as one step of a walk, and frames (which blocks a call may turn).
  No condition beyond those that each theorem states.
-/
import Derived.WalkKit
import Derived.WalkSpells
import Derived.WalkLawsBesides
import Derived.Conc.LoneSelect
import Derived.OrdersHeld
import Derived.Deep.RegionHeld3
namespace Go.Proofs.YtgdkceeonnfejaaGreatDoor
open Go Go.RowKit Go.Conc
/-! ## Frames: what a call may turn -/
structure Keeps (S : List Nat) (w w' : World) : Prop where
 os : w'.os = w.os
 tape : w'.tape = w.tape
 output : w'.output = w.output
 size : w.heap.size ≤ w'.heap.size
 block : ∀ k, k < w.heap.size → k ∉ S → w'.heap[k]? = w.heap[k]?
theorem lt_of_at {w : World} {b : Nat} {o : Obj} (h : w.heap[b]? = some o) : b < w.heap.size := lt_of_block h
namespace Keeps
variable {S S' : List Nat} {a b c w w' : World}
theorem refl (S : List Nat) (w : World) : Keeps S w w := ⟨rfl, rfl, rfl, Nat.le_refl _, fun _ _ _ => rfl⟩
theorem after (h : Keeps S a b) (k : Keeps S' b c) (hS : ∀ x ∈ S', x ∈ S ∨ a.heap.size ≤ x) : Keeps S a c :=
 ⟨k.os.trans h.os, k.tape.trans h.tape, k.output.trans h.output, Nat.le_trans h.size k.size, fun i hi hn =>
  (k.block i (Nat.lt_of_lt_of_le hi h.size) (fun hm => by
   rcases hS i hm with hm | hm
   ·exact hn hm
   ·omega)).trans (h.block i hi hn)⟩
theorem trans (h : Keeps S a b) (k : Keeps S b c) : Keeps S a c := h.after k fun _ hx => .inl hx
theorem mono (h : Keeps S a b) (hS : ∀ x ∈ S, x ∈ S') : Keeps S' a b :=
 ⟨h.os, h.tape, h.output, h.size, fun i hi hn => h.block i hi fun hm => hn (hS i hm)⟩
theorem at_ (h : Keeps S w w') {k : Nat} {o : Obj} (hb : w.heap[k]? = some o) (hn : k ∉ S) : w'.heap[k]? = some o :=
 (h.block k (lt_of_at hb) hn).trans hb
theorem lt (h : Keeps S w w') {k : Nat} (hk : k < w.heap.size) : k < w'.heap.size := Nat.lt_of_lt_of_le hk h.size
theorem alloc (h : Keeps S a w) (o : Obj) : Keeps S a (w.alloc o) :=
 ⟨h.os, h.tape, h.output, Nat.le_trans h.size (by simp), fun k hk hn => (Below.heap_alloc w o k (Nat.lt_of_lt_of_le hk h.size)).trans (h.block k hk hn)⟩
theorem drew (h : Keeps S a w) : Keeps S a w.drew := ⟨h.os, h.tape, h.output, h.size, h.block⟩
theorem drewN (h : Keeps S a w) (n : Nat) : Keeps S a (w.drewN n) := ⟨h.os, h.tape, h.output, h.size, h.block⟩
theorem setCell (h : Keeps S a w) {p : Addr} (hp : p.block ∈ S ∨ a.heap.size ≤ p.block) (u : Value) : Keeps S a (w.setCell p u) :=
 ⟨h.os, h.tape, h.output, by simpa [World.setCell] using h.size, fun i hi hn => (Below.heap_setCell w p u i (by
  rintro rfl
  rcases hp with hp | hp
  ·exact hn hp
  ·omega)).trans (h.block i hi hn)⟩
theorem setAt (h : Keeps S a w) {b : Nat} (hp : b ∈ S ∨ a.heap.size ≤ b) (o : Obj) : Keeps S a { w with heap := w.heap.setIfInBounds b o } :=
 ⟨h.os, h.tape, h.output, by simpa using h.size, fun i hi hn => by
  have : i ≠ b := by
   rintro rfl
   rcases hp with hp | hp
   ·exact hn hp
   ·omega
  show (w.heap.setIfInBounds b o)[i]? = _
  rw [Array.getElem?_setIfInBounds_ne (fun e => this e.symm)]
  exact h.block i hi hn⟩
theorem below (h : Keeps S a w) {B : Nat} (hB : B ≤ a.heap.size) (hS : ∀ x ∈ S, B ≤ x) : Below B a w :=
 ⟨h.os, h.tape, h.output, h.size, fun k hk => h.block k (by omega) fun hm => by have := hS k hm; omega⟩
theorem of_below (h : Below a.heap.size a w) : Keeps S a w := ⟨h.os, h.tape, h.output, h.size, fun k hk _ => h.block k hk⟩
theorem of_grown {row : Option Nat} (h : a.grownBy w row) (hr : ∀ k, row = some k → k ∈ S ∨ a.heap.size ≤ k) : Keeps S a w :=
 ⟨h.os, h.tape, h.output, h.size, fun k hk hn => h.block k hk fun e => by
  rcases hr k e.symm with h1 | h1
  ·exact hn h1
  ·omega⟩
end Keeps
theorem cells_at {w : World} {b : Nat} {c : Array Value} {t : TypeId} {f : Nat × Nat} (h : w.heap[b]? = some (.cells c t f)) : ∀ i, w.cell? ⟨b, i, none⟩ = c[i]? := fun i => by simp [World.cell?, h]
theorem free_at {w : World} {b : Nat} {c : Array Value} {t : TypeId} (h : w.heap[b]? = some (.cells c t (0, 0))) : ∀ i, w.frozen? ⟨b, i, none⟩ = false := fun i => by simp [World.frozen?, h]
theorem heap_new (w : World) (o : Obj) : (w.alloc o).heap[w.heap.size]? = some o := heap_alloc_new w o
theorem heap_old {w : World} {b : Nat} {x : Obj} (h : w.heap[b]? = some x) (o : Obj) : (w.alloc o).heap[b]? = some x := by
 rw [Below.heap_alloc w o b (lt_of_at h)]; exact h
theorem heap_set_same {w : World} {b : Nat} {x : Obj} (h : w.heap[b]? = some x) (o : Obj) : ({ w with heap := w.heap.setIfInBounds b o } : World).heap[b]? = some o := by
 have := lt_of_at h
 simp [this]
theorem heap_cell_same {w : World} {b i : Nat} {c : Array Value} {t : TypeId} {f : Nat × Nat} (h : w.heap[b]? = some (.cells c t f)) (v : Value) :
  (w.setCell ⟨b, i, none⟩ v).heap[b]? = some (.cells (c.setIfInBounds i v) t f) := by
 have hlt := lt_of_at h
 have h' : w.heap[b] = .cells c t f := by simpa [Array.getElem?_eq_getElem hlt] using h
 show (w.heap.modify b _)[b]? = _
 rw [Array.getElem?_eq_getElem (by simpa using hlt), Array.getElem_modify_self, h']
 rfl
theorem ne_of_at {w : World} {a b : Nat} {x y : Obj} (ha : w.heap[a]? = some x) (hb : w.heap[b]? = some y) (h : x ≠ y) : a ≠ b := by
 rintro rfl
 rw [ha] at hb
 exact h (by injection hb)
/-! ## Small facts for a walk -/
section
variable (w : World) (A B C D E F : Obj)
theorem new2 : ((w.alloc A).alloc B).heap[w.heap.size]? = some A ∧ ((w.alloc A).alloc B).heap[w.heap.size + 1]? = some B :=
 ⟨heap_old (heap_new w A) B, by simpa using heap_new (w.alloc A) B⟩
theorem new3 : (((w.alloc A).alloc B).alloc C).heap[w.heap.size]? = some A ∧ (((w.alloc A).alloc B).alloc C).heap[w.heap.size + 1]? = some B ∧ (((w.alloc A).alloc B).alloc C).heap[w.heap.size + 1 + 1]? = some C :=
 ⟨heap_old (new2 w A B).1 C, heap_old (new2 w A B).2 C, by simpa using heap_new ((w.alloc A).alloc B) C⟩
theorem new4 : ((((w.alloc A).alloc B).alloc C).alloc D).heap[w.heap.size]? = some A ∧ ((((w.alloc A).alloc B).alloc C).alloc D).heap[w.heap.size + 1]? = some B ∧ ((((w.alloc A).alloc B).alloc C).alloc D).heap[w.heap.size + 1 + 1]? = some C ∧
  ((((w.alloc A).alloc B).alloc C).alloc D).heap[w.heap.size + 1 + 1 + 1]? = some D :=
 ⟨heap_old (new3 w A B C).1 D, heap_old (new3 w A B C).2.1 D, heap_old (new3 w A B C).2.2 D, by simpa using heap_new (((w.alloc A).alloc B).alloc C) D⟩
theorem new5 : (((((w.alloc A).alloc B).alloc C).alloc D).alloc E).heap[w.heap.size]? = some A ∧ (((((w.alloc A).alloc B).alloc C).alloc D).alloc E).heap[w.heap.size + 1]? = some B ∧ (((((w.alloc A).alloc B).alloc C).alloc D).alloc E).heap[w.heap.size + 1 + 1]? = some C ∧
  (((((w.alloc A).alloc B).alloc C).alloc D).alloc E).heap[w.heap.size + 1 + 1 + 1]? = some D ∧ (((((w.alloc A).alloc B).alloc C).alloc D).alloc E).heap[w.heap.size + 1 + 1 + 1 + 1]? = some E :=
 ⟨heap_old (new4 w A B C D).1 E, heap_old (new4 w A B C D).2.1 E, heap_old (new4 w A B C D).2.2.1 E, heap_old (new4 w A B C D).2.2.2 E, by simpa using heap_new ((((w.alloc A).alloc B).alloc C).alloc D) E⟩
end
/-! ## Byte strings -/
theorem toList_beq (a b : ByteArray) : (a.toList == b.toList) = decide (a = b) := by
 rw [ByteArray.toList_eq, ByteArray.toList_eq, Bool.eq_iff_iff]
 obtain ⟨⟨a⟩⟩ := a; obtain ⟨⟨b⟩⟩ := b
 simp
theorem ba_ext {a b : ByteArray} (h : a.data.toList = b.data.toList) : a = b := by
 obtain ⟨⟨a⟩⟩ := a; obtain ⟨⟨b⟩⟩ := b
 simpa using h
theorem ba_mk (a : ByteArray) : (⟨a.data.toList.toArray⟩ : ByteArray) = a := by
 obtain ⟨⟨a⟩⟩ := a
 rfl
/-! ## Slices of the walk's own -/
theorem row_slice {w : World} {base : Nat} {e : TypeId} {size n : Nat} {v : Value} {xs : List Value} (h : w.ownsRow base e size v n xs) :
  ∃ ao cap, v = .slice ao n cap ∧ n ≤ cap ∧ cap ≤ maxLen ∧ ∀ j, j < n * size → ∃ g, ao = some ⟨g, 0, none⟩ ∧ base ≤ g ∧ g < w.heap.size ∧ w.cell? ⟨g, j, none⟩ = xs[j]? := by
 obtain ⟨hl, ⟨rfl, rfl⟩ | ⟨g, cap, cur, rfl, hg1, hg2, hg3, hg4, hg5, hg6⟩⟩ := h
 ·exact ⟨none, 0, rfl, Nat.le_refl _, by simp [maxLen], fun j hj => by simp at hj⟩
 ·refine ⟨_, _, rfl, hg3, hg4, fun j hj => ⟨g, rfl, hg1, lt_of_at hg2, ?_⟩⟩
  exact World.ownsRow.cellAt ⟨hl, .inr ⟨g, cap, cur, rfl, hg1, hg2, hg3, hg4, hg5, hg6⟩⟩ j hj
theorem Keeps.row {S : List Nat} {w w' : World} (k : Keeps S w w') {base : Nat} {e : TypeId} {size n : Nat} {v : Value} {xs : List Value} (h : w.ownsRow base e size v n xs) (hS : ∀ g, v.ownBlock = some g → g ∉ S) : w'.ownsRow base e size v n xs := by
 obtain ⟨hl, ⟨rfl, rfl⟩ | ⟨g, cap, cur, rfl, hg1, hg2, r⟩⟩ := h
 ·exact ⟨hl, .inl ⟨rfl, rfl⟩⟩
 ·exact ⟨hl, .inr ⟨g, cap, cur, rfl, hg1, k.at_ hg2 (hS g rfl), r⟩⟩
theorem row_base {w : World} {b b' : Nat} {e : TypeId} {size n : Nat} {v : Value} {xs : List Value} (h : w.ownsRow b e size v n xs) (hb : b' ≤ b) : w.ownsRow b' e size v n xs := by
 obtain ⟨hl, ⟨rfl, rfl⟩ | ⟨g, cap, cur, rfl, hg1, r⟩⟩ := h
 ·exact ⟨hl, .inl ⟨rfl, rfl⟩⟩
 ·exact ⟨hl, .inr ⟨g, cap, cur, rfl, Nat.le_trans hb hg1, r⟩⟩
theorem Keeps.cell {S : List Nat} {w w' : World} (k : Keeps S w w') {b i : Nat} (hb : b < w.heap.size) (hn : b ∉ S) : w'.cell? ⟨b, i, none⟩ = w.cell? ⟨b, i, none⟩ := World.cell?_of_block (k.block b hb hn)
theorem Keeps.frozen {S : List Nat} {w w' : World} (k : Keeps S w w') {b i : Nat} (hb : b < w.heap.size) (hn : b ∉ S) : w'.frozen? ⟨b, i, none⟩ = w.frozen? ⟨b, i, none⟩ := World.frozen?_of_block (k.block b hb hn)
theorem news_of {w : World} {b : Nat} {cs : List Value} {t : TypeId} {f : Nat × Nat} (h : w.heap[b]? = some (.cells cs.toArray t f)) : ∀ j u, cs[j]? = some u → w.cell? ((⟨b, 0, none⟩ : Addr).add j) = some u := by
 intro j u hu
 have hadd : (⟨b, 0, none⟩ : Addr).add j = ⟨b, j, none⟩ := by unfold Addr.add; split <;> simp_all
 rw [hadd, cells_at h]
 simpa using hu
/-! ## A call of a function value -/
def GoFn (P : Program) (fn : FuncId) : Prop := ∃ F, P.funcs[fn]? = some F ∧ (F.name == "runtime.NumGoroutine") = false ∧ F.body.isNone = false
theorem run_callFunc_go {P : Program} {fn : FuncId} (h : GoFn P fn) (args : Array Value) (w : World) : (callFunc fn args).run P w = .ok (.enter fn args) w := by
 obtain ⟨F, hf, hn, hb⟩ := h
 have hn' : F.name ≠ "runtime.NumGoroutine" := by simpa using hn
 have hb' : F.body ≠ none := by intro e; rw [e] at hb; simp at hb
 simp [callFunc, program, Sem.run, hf, hn', hb', bind, Sem.bind, pure]
theorem wpList_call_value {P : Program} {ops : Array Oper} {Q : Exit → Act → World → Prop} {a : Act} {w : World} {rest : List Oper} {o : Oper}
  (hg : o.guard = none) (x : Operand) (args : Array Operand) (ats : Array TypeId) (hop : o.op = .call { callee := .value x, args := args, argTypes := ats })
  (fn : FuncId) (first cap : Array Value) (hx : a.eval x = .func (.func fn) first cap) (hfn : GoFn P fn)
  (h : Calls P fn (first ++ args.map a.eval ++ cap) w fun
   | .returned v, w'' => wpList P ops Q rest (a.put o.dst v) w''
   | .panicked chain, w'' => Q (.panic chain) a w''
   | .outgrown, _ => LetsOut Q) : wpList P ops Q (o :: rest) a w := by
 have hw : Region.wanted o (yielded ops a.tmps) = true := by simp [Region.wanted, hg]
 unfold wpList
 rw [if_pos hw]
 refine .inl ?_
 have hr : (execOp a.eval o).run P w = .ok (.enter fn (first ++ args.map a.eval ++ cap)) w := by
  have : execOp a.eval o = callFunc fn (first ++ args.map a.eval ++ cap) := by
   simp [execOp, hop, resolve, Deferred.ofValue, hx, invoke, bind, Sem.bind, pure]
  rw [this]
  exact run_callFunc_go hfn _ w
 unfold Oper.wp
 rw [hr]
 exact h
theorem zz {α : Type} : type_of% (@List.getElem_toArray α) ∧ type_of% (@List.getElem_cons_succ α) ∧ type_of% (@List.getElem_cons_zero α) ∧ type_of% (@List.setIfInBounds_toArray α) ∧ type_of% (@List.set_cons_zero α) ∧ type_of% (@List.set_cons_succ α) :=
 ⟨List.getElem_toArray, List.getElem_cons_succ, List.getElem_cons_zero, List.setIfInBounds_toArray, List.set_cons_zero, List.set_cons_succ⟩
theorem tk {P : Program} {ops : Array Oper} {Q : Exit → Act → World → Prop} {md : Region.Mode} {S : World → Prop} {v : Value} {oi : Oper} {fuel : Nat} {listed : Array Bool} {a : Act} {w : World} (i : Nat) (hi : ops[i]? = some oi) (hy : ∀ w, S w → (execOp a.eval oi).run P w = .ok (.value v) w) (h : wpAnyH P md ops Q S fuel (listed.setIfInBounds i true) (a.put oi.dst v) w)
  (hs : Region.noSelect ops = true := by kernel_rfl) (hf : Region.free md ops listed i = true := by kernel_rfl) (hr : (Region.ready md ops listed).contains i = true := by kernel_rfl)
  (hQ : ∀ c a w, Q (.panic c) (a.put oi.dst v) w → Q (.panic c) a w := by exact fun _ _ _ h => h) (hw : Region.wanted oi (yielded ops a.tmps) = true := by rfl) (hS : S w := by assumption) : wpAnyH P md ops Q S (fuel + 1) listed a w :=
 wpAnyH_take hi hs hf hr hQ (.inl ⟨hw, hy⟩) hS h
theorem sk {P : Program} {ops : Array Oper} {Q : Exit → Act → World → Prop} {md : Region.Mode} {S : World → Prop} {oi : Oper} {fuel : Nat} {listed : Array Bool} {a : Act} {w : World} (i : Nat) (hi : ops[i]? = some oi) (h : wpAnyH P md ops Q S fuel (listed.setIfInBounds i true) (a.put oi.dst undef) w)
  (hs : Region.noSelect ops = true := by kernel_rfl) (hf : Region.free md ops listed i = true := by kernel_rfl) (hr : (Region.ready md ops listed).contains i = true := by kernel_rfl)
  (hQ : ∀ c a w, Q (.panic c) (a.put oi.dst undef) w → Q (.panic c) a w := by exact fun _ _ _ h => h) (hw : Region.wanted oi (yielded ops a.tmps) = false := by rfl) (hS : S w := by assumption) : wpAnyH P md ops Q S (fuel + 1) listed a w :=
 wpAnyH_take hi hs hf hr hQ (.inr ⟨hw, rfl⟩) hS h
theorem rd {P : Program} {ops : Array Oper} {Q : Exit → Act → World → Prop} {md : Region.Mode} {S : World → Prop} {oi : Oper} {fuel : Nat} {listed : Array Bool} {a : Act} {w : World} (i : Nat) (hi : ops[i]? = some oi)
  (h : ∀ K' : Act → World → Prop, Shut (∀ a w, S w → (S w → wpAnyH P md ops Q S fuel (listed.setIfInBounds i true) a w) → K' a w) → if Region.wanted oi (yielded ops a.tmps) = true then Oper.wp P oi a w K' Q else K' (a.put oi.dst undef) w)
  (hr : Region.ready md ops listed = [i] := by kernel_rfl) : wpAnyH P md ops Q S (fuel + 1) listed a w :=
 wpAnyH_ready hr (by simp) (AllReadyH.cons hi h AllReadyH.nil)
end Go.Proofs.YtgdkceeonnfejaaGreatDoor
