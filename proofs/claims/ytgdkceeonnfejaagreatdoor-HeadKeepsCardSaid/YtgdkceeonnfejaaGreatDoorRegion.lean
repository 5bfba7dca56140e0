/-
  A region that draws its order, whose last operation waits for all others: the others in whatever order, then the last one.
  No condition beyond those that the theorem states.
-/
import Derived.Test.YtgdkceeonnfejaaGreatDoorBase
import Derived.Deep.RegionHeld3
namespace Go.Proofs.YtgdkceeonnfejaaGreatDoor
open Go Go.RowKit
section
variable {P : Program} {Q : Exit → Act → World → Prop} {md : Region.Mode}
def lastQ (P : Program) (ops : Array Oper) (n : Nat) (Q : Exit → Act → World → Prop) : Exit → Act → World → Prop
 | .normal, a, w => wpOp P ops Q n (fun a' w' => Q .normal a' w') a w
 | .exit i, a, w => Q (.exit i) a w
 | .goto l, a, w => Q (.goto l) a w
 | .ret, a, w => Q .ret a w
 | .panic c, a, w => Q (.panic c) a w
 | .outgrown, a, w => Q .outgrown a w
theorem lastQ_step {ops : Array Oper} {n : Nat} {o : Oper} {a : Act} {w : World} (ho : ops[n]? = some o)
  (h : ∀ K' : Act → World → Prop, (∀ a w, Q .normal a w → K' a w) → if Region.wanted o (yielded ops a.tmps) = true then Oper.wp P o a w K' Q else K' (a.put o.dst undef) w) : lastQ P ops n Q .normal a w := wpOp_step ho h
def edgesOf (md : Region.Mode) (ops : Array Oper) (s : List Nat) : List Nat :=
 s.flatMap fun j => ((ops[j]?).map fun o => (o.after.toList.filter (Region.binds md)).map (·.on)).getD []
def lastB (md : Region.Mode) (ops : Array Oper) (n : Nat) : Bool :=
 let s := edgesOf md ops [n]
 let t := s ++ edgesOf md ops s
 (List.range n).all (fun j => t.contains j) && (List.range (n + 1)).all fun i => ((ops[i]?).map fun o => o.after.all (fun e => e.on < i) && (o.guard.map fun g => decide (g.1 < i)).getD true).getD false
theorem upon_last {ops : Array Oper} {n : Nat} {o : Oper} {a : Act} {K : Act → World → Prop} {r : Result Next} (h : o.upon P a K (lastQ P ops n Q) r) : o.upon P a K Q r := by
 cases r with
 | ok x w' =>
  cases x <;> simp only [Oper.upon] at h ⊢ <;>
   first
    | exact h
    | exact Calls.mono h (fun e w'' he => by cases e <;> first | exact he | (obtain ⟨a', w1, h1⟩ := he; exact ⟨a', w1, h1⟩))
 | halt x w' => cases x <;> simp only [Oper.upon] at h ⊢ <;> exact h
theorem letsOut_last {ops : Array Oper} {n : Nat} (h : LetsOut (lastQ P ops n Q)) : LetsOut Q := by
 obtain ⟨a, w, h⟩ := h
 exact ⟨a, w, h⟩
variable {init : List Oper} {o : Oper}
theorem get_init {i : Nat} (hi : i < init.length) : (init ++ [o]).toArray[i]? = init.toArray[i]? := by
 simp [List.getElem?_append_left hi]
theorem wanted_init {x : Oper} (hg : ∀ g, x.guard = some g → g.1 < init.length) (tmps : Array Value) :
  Region.wanted x (yielded (init ++ [o]).toArray tmps) = Region.wanted x (yielded init.toArray tmps) := by
 unfold Region.wanted
 cases h : x.guard with
 | none => rfl
 | some g =>
  obtain ⟨j, b⟩ := g
  have := hg _ h
  simp only [yielded, get_init this]
theorem wpOp_init {i : Nat} (hi : i < init.length) (hg : ∀ x, init[i]? = some x → ∀ g, x.guard = some g → g.1 < init.length) {K K' : Act → World → Prop} (hK : ∀ a w, K a w → K' a w) {a : Act} {w : World}
  (h : wpOp P init.toArray (lastQ P (init ++ [o]).toArray init.length Q) i K a w) : wpOp P (init ++ [o]).toArray Q i K' a w := by
 refine wpOp_mono hK ?_
 unfold wpOp at *
 rw [get_init hi]
 cases hx : init.toArray[i]? with
 | none => simpa [hx] using h
 | some x =>
  simp only [hx] at h ⊢
  rw [wanted_init (hg x (by simpa using hx))]
  split
  ·rename_i hw
   simp only [hw, if_true] at h
   rcases h with h | ⟨h1, h2⟩
   ·exact .inl (upon_last h)
   ·exact .inr ⟨h1, letsOut_last h2⟩
  ·rename_i hw
   simp only [hw] at h
   exact h
def Down (md : Region.Mode) (init : List Oper) (l : List Bool) : Prop :=
 ∀ i, i < init.length → l.getD i false = true → ∀ x, init[i]? = some x → ∀ e ∈ x.after, Region.binds md e = true → l.getD e.on false = true
theorem getD_app {l : List Bool} {i : Nat} (hi : i < l.length) (d : Bool) : (l ++ [false]).toArray.getD i d = l.toArray.getD i d := by
 simp [Array.getD_eq_getD_getElem?, List.getElem?_append_left hi]
theorem set_app {l : List Bool} {i : Nat} (hi : i < l.length) : (l ++ [false]).toArray.setIfInBounds i true = (l.set i true ++ [false]).toArray := by
 simp [hi]
theorem ready_last (hb : ∀ i, i < init.length → ∀ x, init[i]? = some x → ∀ e ∈ x.after, e.on < i) {l : List Bool} (hl : l.length = init.length) {i : Nat} (hi : i < init.length) :
  i ∈ Region.ready md (init ++ [o]).toArray (l ++ [false]).toArray ↔ i ∈ Region.ready md init.toArray l.toArray := by
 rw [mem_ready, mem_ready, get_init hi, getD_app (by omega)]
 constructor
 ·rintro ⟨h0, x, hx, h⟩
  refine ⟨h0, x, hx, fun e he hbi => ?_⟩
  have := hb i hi x (by simpa using hx) e he
  rw [← getD_app (by omega)]
  exact h e he hbi
 ·rintro ⟨h0, x, hx, h⟩
  refine ⟨h0, x, hx, fun e he hbi => ?_⟩
  have := hb i hi x (by simpa using hx) e he
  rw [getD_app (by omega)]
  exact h e he hbi
theorem all_of_none (hb : ∀ i, i < init.length → ∀ x, init[i]? = some x → ∀ e ∈ x.after, e.on < i) {l : List Bool} (hl : l.length = init.length) (h : Region.ready md init.toArray l.toArray = []) :
  ∀ j, j < init.length → l.getD j false = true := by
 intro j
 induction j using Nat.strongRecOn with
 | _ j ih =>
  intro hj
  cases hc : l.getD j false with
  | true => rfl
  | false =>
   exfalso
   have hm : j ∈ Region.ready md init.toArray l.toArray := by
    rw [mem_ready]
    refine ⟨?_, init[j], by simp [hj], fun e he _ => ?_⟩
    ·have hlt : j < l.length := by omega
     simpa [List.getD_eq_getElem?_getD, hlt] using hc
    ·have hlt := hb j hj init[j] (by simp [hj]) e he
     have := ih e.on hlt (by omega)
     have hl2 : e.on < l.length := by omega
     simpa [List.getD_eq_getElem?_getD, hl2] using this
   rw [h] at hm
   cases hm
theorem last_ready (ho : ∀ e ∈ o.after, e.on < init.length) {l : List Bool} (hl : l.length = init.length) (ha : ∀ j, j < init.length → l.getD j false = true) :
  init.length ∈ Region.ready md (init ++ [o]).toArray (l ++ [false]).toArray := by
 rw [mem_ready]
 refine ⟨by simp [← hl], o, by simp, fun e he _ => ?_⟩
 have h1 := ho e he
 have h2 := ha _ h1
 rw [getD_app (by omega)]
 have hl2 : e.on < l.length := by omega
 simpa [List.getD_eq_getElem?_getD, hl2] using h2
theorem none_ready {l : List Bool} (hl : l.length = init.length) (ha : ∀ j, j < init.length → l.getD j false = true) :
  Region.ready md (init ++ [o]).toArray ((l ++ [false]).toArray.setIfInBounds init.length true) = [] := by
 rw [List.eq_nil_iff_forall_not_mem]
 intro i hi
 rw [mem_ready] at hi
 obtain ⟨h0, x, hx, _⟩ := hi
 have hlt : i < init.length + 1 := by
  have := (Array.getElem?_eq_some_iff.1 hx).1
  simpa using this
 by_cases hn : i = init.length
 ·subst hn
  simp [← hl] at h0
 ·have h1 := ha i (by omega)
  rw [getD_set_ne _ (Ne.symm hn), getD_app (by omega)] at h0
  have hl2 : i < l.length := by omega
  simp [List.getD_eq_getElem?_getD, hl2] at h0 h1
  rw [h0] at h1
  cases h1
theorem down_set (hb : ∀ i, i < init.length → ∀ x, init[i]? = some x → ∀ e ∈ x.after, e.on < i) {l : List Bool} (hl : l.length = init.length) (hd : Down md init l) {i : Nat} (hi : i ∈ Region.ready md init.toArray l.toArray) : Down md init (l.set i true) := by
 obtain ⟨_, y, hy, hall⟩ := mem_ready.1 hi
 have hilt : i < init.length := by have := (Array.getElem?_eq_some_iff.1 hy).1; simpa using this
 have mono : ∀ k, k < init.length → l.getD k false = true → (l.set i true).getD k false = true := by
  intro k hk h
  rw [List.getD_eq_getElem?_getD] at h ⊢
  rw [List.getElem?_set]
  split
  ·rename_i hik
   subst hik
   have : i < l.length := by omega
   simp [this]
  ·exact h
 intro k hk hck x hx e he hbi
 have hlt := hb k hk x hx e he
 by_cases hki : k = i
 ·subst hki
  have hxy : x = y := by
   have h2 : init.toArray[k]? = some x := by simpa using hx
   rw [h2] at hy
   injection hy
  subst hxy
  have := hall e he hbi
  refine mono _ (by omega) ?_
  have hl2 : e.on < l.length := by omega
  simpa [List.getD_eq_getElem?_getD, hl2] using this
 ·refine mono _ (by omega) (hd k hk ?_ x hx e he hbi)
  rw [List.getD_eq_getElem?_getD, List.getElem?_set_ne (Ne.symm hki), ← List.getD_eq_getElem?_getD] at hck
  exact hck
theorem wpAny_last (hb : ∀ i, i < init.length → ∀ x, init[i]? = some x → ∀ e ∈ x.after, e.on < i) (ho : ∀ e ∈ o.after, e.on < init.length) (hg : ∀ (i : Nat) (x : Oper), init[i]? = some x → ∀ g, x.guard = some g → g.1 < init.length)
  (hc : ∀ l : List Bool, l.length = init.length → Down md init l → (∀ e ∈ o.after, Region.binds md e = true → l.getD e.on false = true) → ∀ j, j < init.length → l.getD j false = true) :
  ∀ (fuel : Nat) (l : List Bool) (a : Act) (w : World), l.length = init.length → Down md init l → wpAny P md init.toArray (lastQ P (init ++ [o]).toArray init.length Q) fuel l.toArray a w →
   wpAny P md (init ++ [o]).toArray Q (fuel + 1) (l ++ [false]).toArray a w := by
 intro fuel
 have fin : ∀ (fuel : Nat) (l : List Bool) (a : Act) (w : World), l.length = init.length → (∀ j, j < init.length → l.getD j false = true) → lastQ P (init ++ [o]).toArray init.length Q .normal a w →
   wpOp P (init ++ [o]).toArray Q init.length (wpAny P md (init ++ [o]).toArray Q fuel ((l ++ [false]).toArray.setIfInBounds init.length true)) a w := by
  intro fuel l a w hl ha h
  exact wpOp_mono (fun a' w' hq => wpAny_done (none_ready hl ha) hq fuel) h
 have cover : ∀ (l : List Bool), l.length = init.length → Down md init l → init.length ∈ Region.ready md (init ++ [o]).toArray (l ++ [false]).toArray → ∀ j, j < init.length → l.getD j false = true := by
  intro l hl hd h
  obtain ⟨_, x, hx, hall⟩ := mem_ready.1 h
  have hxo : x = o := by
   have : (init ++ [o]).toArray[init.length]? = some o := by simp
   rw [this] at hx
   injection hx with hx
   exact hx.symm
  subst hxo
  refine hc l hl hd fun e he hbi => ?_
  have h1 := ho e he
  have h2 := hall e he hbi
  rw [getD_app (by omega)] at h2
  have hl2 : e.on < l.length := by omega
  simpa [List.getD_eq_getElem?_getD, hl2] using h2
 have small : ∀ (l : List Bool) (i : Nat), i ∈ Region.ready md (init ++ [o]).toArray (l ++ [false]).toArray → i < init.length ∨ i = init.length := by
  intro l i h
  obtain ⟨_, x, hx, _⟩ := mem_ready.1 h
  have := (Array.getElem?_eq_some_iff.1 hx).1
  simp at this
  omega
 induction fuel with
 | zero =>
  intro l a w hl hd h
  have ha := all_of_none hb hl h.1
  refine ⟨fun h0 => ?_, fun i hi => ?_⟩
  ·have := last_ready (md := md) ho hl ha
   rw [h0] at this
   cases this
  ·rcases small l i hi with hlt | rfl
   ·have := (ready_last hb hl hlt).1 hi
    rw [h.1] at this
    cases this
   ·exact fin 0 l a w hl ha h.2
 | succ fuel ih =>
  intro l a w hl hd h
  refine ⟨fun h0 => ?_, fun i hi => ?_⟩
  ·by_cases hr : Region.ready md init.toArray l.toArray = []
   ·have := last_ready (md := md) ho hl (all_of_none hb hl hr)
    rw [h0] at this
    cases this
   ·obtain ⟨i, hi⟩ := List.exists_mem_of_ne_nil _ hr
    have hlt : i < init.length := by
     obtain ⟨_, x, hx, _⟩ := mem_ready.1 hi
     have := (Array.getElem?_eq_some_iff.1 hx).1
     simpa using this
    have := (ready_last (o := o) hb hl hlt).2 hi
    rw [h0] at this
    cases this
  ·rcases small l i hi with hlt | rfl
   ·have hi' := (ready_last hb hl hlt).1 hi
    have hw := h.2 i hi'
    refine wpOp_init hlt (hg i) (fun a' w' hh => ?_) hw
    rw [set_app (by omega)]
    refine ih _ a' w' (by simpa using hl) (down_set hb hl hd hi') ?_
    simpa using hh
   ·have ha := cover l hl hd hi
    have hr : Region.ready md init.toArray l.toArray = [] := by
     rw [List.eq_nil_iff_forall_not_mem]
     intro i hi
     obtain ⟨h0, x, hx, _⟩ := mem_ready.1 hi
     have hlt : i < init.length := by have := (Array.getElem?_eq_some_iff.1 hx).1; simpa using this
     have h1 := ha i hlt
     have hl2 : i < l.length := by omega
     simp [List.getD_eq_getElem?_getD, hl2] at h0 h1
     rw [h0] at h1
     cases h1
    exact fin _ l a w hl ha (h.1 hr)
theorem wp_region_last {id : Nat} {a : Act} {w : World} (S : World → Prop) (hm : P.follows .mixedOrders = true) (ops : Array Oper) (hops : ops = (init ++ [o]).toArray) (hlast : lastB .any ops init.length = true)
  (h : wpAnyH P .any init.toArray (lastQ P ops init.length Q) S init.length (Array.replicate init.length false) a w.drew) : (Code.region id ops true).wp P Q a w := by
 subst hops
 simp only [lastB, Bool.and_eq_true, List.all_eq_true, List.mem_range] at hlast
 obtain ⟨hcov, hback⟩ := hlast
 have hob : ∀ i, i < init.length → ∀ x, init[i]? = some x → (∀ e ∈ x.after, e.on < i) ∧ ∀ g, x.guard = some g → g.1 < i := by
  intro i hi x hx
  have := hback i (by omega)
  rw [get_init hi] at this
  simp only [List.getElem?_toArray, hx, Option.map_some, Option.getD_some, Bool.and_eq_true, Array.all_eq_true_iff_forall_mem, decide_eq_true_eq] at this
  refine ⟨this.1, fun g hg => ?_⟩
  have h2 := this.2
  rw [hg] at h2
  simpa using h2
 have hol := hback init.length (by omega)
 simp only [List.getElem?_toArray, List.getElem?_append_right (Nat.le_refl _), Nat.sub_self, List.getElem?_cons_zero, Option.map_some, Option.getD_some, Bool.and_eq_true, Array.all_eq_true_iff_forall_mem, decide_eq_true_eq] at hol
 have hsize : (init ++ [o]).toArray.size = init.length + 1 := by simp
 refine wp_region_any hm ?_
 rw [hsize, show Array.replicate (init.length + 1) false = (List.replicate init.length false ++ [false]).toArray from by
  rw [← List.replicate_succ']; simp]
 refine wpAny_last (fun i hi x hx => (hob i hi x hx).1) hol.1 (fun i x hx g hg => ?_) ?_ _ _ _ _ (by simp) ?_ ?_
 ·have hi := (List.getElem?_eq_some_iff.1 hx).1
  have := (hob i hi x hx).2 g hg
  omega
 ·intro l hl hd he j hj
  have hj' := hcov j hj
  have hin : ∀ k, k ∈ edgesOf .any (init ++ [o]).toArray [init.length] → l.getD k false = true := by
   intro k hk
   simp only [edgesOf, List.flatMap_cons, List.flatMap_nil, List.append_nil, List.getElem?_toArray, List.getElem?_append_right (Nat.le_refl _), Nat.sub_self, List.getElem?_cons_zero, Option.map_some, Option.getD_some, List.mem_map, List.mem_filter, Array.mem_toList_iff] at hk
   obtain ⟨e, ⟨h1, h2⟩, rfl⟩ := hk
   exact he e h1 h2
  rw [List.contains_iff_mem, List.mem_append] at hj'
  rcases hj' with hj' | hj'
  ·exact hin j hj'
  ·unfold edgesOf at hj'
   rw [List.mem_flatMap] at hj'
   obtain ⟨k, hk, hjk⟩ := hj'
   have hkl := hin k hk
   have hkn : k < init.length := by
    rcases Nat.lt_or_ge k init.length with h | h
    ·exact h
    ·rw [List.getD_eq_getElem?_getD, List.getElem?_eq_none (by omega)] at hkl
     cases hkl
   rw [get_init hkn] at hjk
   simp only [List.getElem?_toArray, List.getElem?_eq_getElem hkn, Option.map_some, Option.getD_some, List.mem_map, List.mem_filter, Array.mem_toList_iff] at hjk
   obtain ⟨e, ⟨h1, h2⟩, rfl⟩ := hjk
   exact hd k hkn hkl _ (List.getElem?_eq_getElem hkn) e h1 h2
 ·intro i hi hx
  rw [List.getD_eq_getElem?_getD, List.getElem?_replicate, if_pos hi] at hx
  cases hx
 ·have := wpAny_of_held _ _ _ _ h
  simpa using this
theorem wp_region_last_n {id : Nat} {ops : Array Oper} {a : Act} {w : World} (n : Nat) (S : World → Prop) (hm : P.follows .mixedOrders = true) (hs : (ops.size == n + 1) = true) (hlast : lastB .any ops n = true)
  (h : wpAnyH P .any (ops.toList.take n).toArray (lastQ P ops n Q) S n (Array.replicate n false) a w.drew) : (Code.region id ops true).wp P Q a w := by
 have hs' : ops.size = n + 1 := by simpa using hs
 have hl : ops.toList.length = n + 1 := by simpa using hs'
 have hlt : (ops.toList.take n).length = n := by rw [List.length_take]; omega
 refine wp_region_last (init := ops.toList.take n) (o := ops.toList[n]'(by omega)) S hm ops ?_ (by rw [hlt]; exact hlast) (by rw [hlt]; exact h)
 rw [← List.take_succ_eq_append_getElem (by omega), List.take_of_length_le (by omega)]
end
end Go.Proofs.YtgdkceeonnfejaaGreatDoor
