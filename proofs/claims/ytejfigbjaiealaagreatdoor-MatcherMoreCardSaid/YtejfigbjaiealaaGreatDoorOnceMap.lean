/-
  A map of numbers to numbers in which each key that was met, once, says 1.
  No condition beyond those that each theorem states.
-/
import Derived.Test.YtejfigbjaiealaaGreatDoorPostBase
import Derived.Maps.OwnSet
import Derived.Maps.OwnOps
import Derived.Maps.Views
import Derived.Maps.RangeWalk
namespace Go.Proofs.YtejfigbjaiealaaGreatDoor
open Go Go.RowKit Go.Maps

theorem keyI : Keyed Tryz.prog 3 := int_keyed Tryz.underlying3

theorem zeroI (w : World) : (zeroValue 3).run Tryz.prog w = .ok (.int .i64 0) w := by kernel_rfl

def oneD : DataW Unit := .lit (.int .i64 1)

def onceD (C : List Int) : DataW Unit := Maps.setOf oneD (C.map (Lit.int .i64))

def OnceAt (w : World) (b : Nat) (C : List Int) : Prop := ∃ n, n ≤ C.length ∧ w.ownsMap Tryz.prog 3 (plainElem Tryz.prog 3) b n (onceD C)

theorem isKeyI (C : List Int) : ∀ x ∈ C.map (Lit.int .i64), WideAt.IsKeyLit x := fun x hx => by
  obtain ⟨y, _, rfl⟩ := List.mem_map.1 hx
  trivial

theorem has_once (C : List Int) (x : Int) : Maps.has (onceD C) (.int .i64 x) = decide (x ∈ C) := by
  unfold onceD
  rw [Maps.has_setOf _ _ _ (isKeyI C), List.any_map, Bool.eq_iff_iff, List.any_eq_true, decide_eq_true_eq]
  constructor
  · rintro ⟨y, hy, h⟩
    have h : Lit.int .i64 y = Lit.int .i64 x := WideAt.sameKey_eq h
    injection h with _ h
    exact h ▸ hy
  · exact fun h => ⟨x, h, WideAt.sameKey_self (a := Lit.int .i64 x) trivial⟩

theorem onceD_snoc (C : List Int) (x : Int) : onceD (C ++ [x]) = (onceD C).put (.int .i64 x) oneD := by
  unfold onceD
  rw [List.map_append]
  exact Maps.setOf_snoc _ _ _

theorem tidy_once (C : List Int) : Maps.Tidy (onceD C) := Maps.tidy_setOf _ _ (isKeyI C)

theorem snoc_ind {p : List Int → Prop} (h0 : p []) (h1 : ∀ C x, p C → p (C ++ [x])) : ∀ C, p C := by
  intro C
  have key : ∀ (n : Nat) (C : List Int), C.length = n → p C := by
    intro n
    induction n with
    | zero => intro C hC; rw [List.eq_nil_of_length_eq_zero hC]; exact h0
    | succ n ih =>
      intro C hC
      have hne : C ≠ [] := fun e => by rw [e] at hC; simp at hC
      rw [← List.dropLast_concat_getLast hne]
      exact h1 _ _ (ih _ (by rw [List.length_dropLast]; omega))
  exact key C.length C rfl

theorem at_once {C : List Int} {x : Int} (h : x ∈ C) (z : DataW Unit) : (onceD C).atKey (.int .i64 x) z = oneD := by
  revert h
  refine snoc_ind (p := fun C => x ∈ C → (onceD C).atKey (.int .i64 x) z = oneD) (fun h => by simp at h) (fun C y ih h => ?_) C
  rw [onceD_snoc]
  by_cases e : x = y
  · subst e
    exact Maps.atKey_put_same (tidy_once C).isMap (show WideAt.IsKeyLit (Lit.int .i64 x) from trivial) _ _
  · rw [Maps.atKey_put_other (fun h => e (by injection h))]
    exact ih (by
      rcases List.mem_append.1 h with h | h
      · exact h
      · exact absurd (by simpa using h) e)

theorem at_none {C : List Int} {x : Int} (h : x ∉ C) (z : DataW Unit) : (onceD C).atKey (.int .i64 x) z = z := Maps.atKey_of_not_has (by rw [has_once]; simpa using h) z

theorem size_once : ∀ C : List Int, C.Nodup → Maps.size (onceD C) = C.length := by
  refine snoc_ind (fun _ => rfl) (fun C y ih h => ?_)
  rw [List.nodup_append] at h
  have hy : y ∉ C := fun hm => h.2.2 y hm y (by simp) rfl
  rw [onceD_snoc, Maps.size_put (tidy_once C), has_once, ih h.1, List.length_append]
  simp [hy]

theorem ownsI_keep {w w' : World} {b n : Nat} {D : DataW Unit} {S : List Nat} (h : w.ownsMap Tryz.prog 3 (plainElem Tryz.prog 3) b n D) (k : Keeps S w w') (hb : b ∉ S) : w'.ownsMap Tryz.prog 3 (plainElem Tryz.prog 3) b n D := by
  obtain ⟨es, clock, h1, F, hs, hD⟩ := h
  exact ⟨es, clock, k.at_ h1 hb, F, hs, hD⟩

theorem OnceAt.keep {w w' : World} {b : Nat} {C : List Int} {S : List Nat} (h : OnceAt w b C) (k : Keeps S w w') (hb : b ∉ S) : OnceAt w' b C := by
  obtain ⟨n, hn, h⟩ := h
  exact ⟨n, hn, ownsI_keep h k hb⟩

instance go1Once {w w' : World} (b : Nat) (C : List Int) : Go1 w w' (OnceAt w b C) (OnceAt w' b C) := ⟨fun k h => h.keep k (by simp)⟩

theorem OnceAt.lt {w : World} {b : Nat} {C : List Int} (h : OnceAt w b C) : b < w.heap.size := by
  obtain ⟨n, _, h⟩ := h
  exact h.lt

theorem once_new (w : World) : OnceAt (w.alloc (.map #[] 0)) w.heap.size [] := ⟨0, Nat.le_refl _, World.ownsMap_made _ _ _ _⟩

theorem OnceAt.run_lookup {w : World} {b : Nat} {C : List Int} (h : OnceAt w b C) {x : Int} (hw : (Lit.int .i64 x).wf = true) :
    (Instr.lookup 54 (.map (some b)) (.int .i64 x) false).run Tryz.prog w = .ok (.int .i64 (if x ∈ C then 1 else 0)) w := by
  obtain ⟨n, _, h⟩ := h
  obtain ⟨c, hrun, hat, _⟩ := h.lookup_int keyI Tryz.underlying54 Tryz.underlying3 (zeroI w) (keyOf_int_mk Tryz.underlying3 hw)
  have hc : c = if x ∈ C then 1 else 0 := by
    by_cases hx : x ∈ C
    · rw [at_once hx] at hat
      rw [if_pos hx]
      exact (Lit.int.inj (DataW.lit.inj hat)).2.symm
    · rw [at_none hx] at hat
      rw [if_neg hx]
      exact (Lit.int.inj (DataW.lit.inj hat)).2.symm
  rw [← hc]
  exact hrun

theorem OnceAt.run_len {w : World} {b : Nat} {C : List Int} (h : OnceAt w b C) (hC : C.Nodup) (ty : TypeId) : (Builtin.len_ #[54] ty #[.map (some b)]).run Tryz.prog w = .ok (.int .i64 C.length) w := by
  obtain ⟨n, _, h⟩ := h
  rw [h.len Tryz.underlying54 ty, size_once C hC]

theorem nodup_take {C l : List Int} (h : (C ++ l).Nodup) {k : Nat} (hk : k < l.length) : l[k] ∉ C ++ l.take k := by
  have e : l = l.take k ++ l[k] :: l.drop (k + 1) := by
    rw [← List.drop_eq_getElem_cons hk, List.take_append_drop]
  rw [e, ← List.append_assoc, List.nodup_append] at h
  exact fun hm => h.2.2 _ hm _ List.mem_cons_self rfl

theorem keeps_block {w w' : World} {b : Nat} (h : w.grownBy w' (some b)) : Keeps [b] w w' := Keeps.of_grown h (fun k hk => by
  injection hk with hk
  exact .inl (by simp [hk]))
section
variable {w : World} {ops : Array Oper} {rest : List Oper} {o : Oper} {a : Act} {Q : Exit → Act → World → Prop}
/-- m[y] = 1. -/
theorem wpList_once (hg : o.guard = none) (m x v : Operand) (hop : o.op = Op.mapUpdate 54 m x v) (b : Nat) (C : List Int) (y : Int) (hm : a.eval m = .map (some b)) (hx : a.eval x = .int .i64 y) (hv : a.eval v = .int .i64 1) (hw : (Lit.int .i64 y).wf = true) (hC : C.length ≤ 1000) (h : OnceAt w b C)
    (hK : ∀ w', OnceAt w' b (C ++ [y]) → Keeps [b] w w' → wpList Tryz.prog ops Q rest (a.put o.dst undef) w') : wpList Tryz.prog ops Q (o :: rest) a w := by
  obtain ⟨n, hn, h⟩ := h
  refine wpList_mapUpdate_own w hg m x v _ hop 3 3 keyI Tryz.underlying54 _ b n _ hm h (by unfold maxLen; omega) _ _ _ hx hv (keyOf_int_mk Tryz.underlying3 hw) oneD [] (plainElem_int Tryz.underlying3 (by decide)) (fun w' h1 h2 => hK w' ⟨n + 1, ?_, ?_⟩ (keeps_block h2))
  · rw [List.length_append]
    simp only [List.length_cons, List.length_nil]
    omega
  · rw [onceD_snoc]
    exact h1

/-- The range over it gives 1 each time. -/
def OnceRange (w : World) (b r : Nat) (C : List Int) (cnt : Nat) : Prop := ∃ (n : Nat) (left : Lit → Bool), n ≤ C.length ∧ w.ranges Tryz.prog 3 (plainElem Tryz.prog 3) b r n (onceD C) left cnt

theorem OnceRange.once {b r cnt : Nat} {C : List Int} (h : OnceRange w b r C cnt) : OnceAt w b C := by
  obtain ⟨n, left, hn, h⟩ := h
  exact ⟨n, hn, h.owns⟩

theorem OnceRange.lt {b r cnt : Nat} {C : List Int} (h : OnceRange w b r C cnt) : r < w.heap.size := by
  obtain ⟨n, left, _, h⟩ := h
  exact h.lt

theorem wpList_range_once (hg : o.guard = none) (m : Operand) (hop : o.op = Op.range 54 m) (b : Nat) (C : List Int) (hm : a.eval m = .map (some b)) (h : OnceAt w b C)
    (hK : ∀ w' cnt, OnceRange w' b w.heap.size C cnt → Keeps [] w w' → wpList Tryz.prog ops Q rest (a.put o.dst (.pointer (some ⟨w.heap.size, 0, none⟩))) w') : wpList Tryz.prog ops Q (o :: rest) a w := by
  obtain ⟨n, hn, h⟩ := h
  exact wpList_range_own w hg m _ hop 3 3 keyI Tryz.underlying54 _ b n _ hm h (fun w' h1 h2 _ => hK w' _ ⟨n, _, hn, h1⟩ (Keeps.of_grown h2 (fun k hk => by simp at hk)))

theorem wpList_next_once (hg : o.guard = none) (it : Operand) (hop : o.op = Op.next it false) (b r : Nat) (C : List Int) (cnt : Nat) (hit : a.eval it = .pointer (some ⟨r, 0, none⟩)) (h : OnceRange w b r C cnt)
    (hDone : wpList Tryz.prog ops Q rest (a.put o.dst (.tuple #[.bool false])) w)
    (hMore : ∀ (x : Int) (w' : World) (cnt' : Nat), OnceRange w' b r C cnt' → cnt' < cnt → Keeps [r] w w' → (Instr.entry (.pointer (some ⟨r, 0, none⟩))).run Tryz.prog w' = .ok (.tuple #[.int .i64 x, .int .i64 1]) w' → wpList Tryz.prog ops Q rest (a.put o.dst (.tuple #[.bool true, .int .i64 x, .int .i64 1])) w') : wpList Tryz.prog ops Q (o :: rest) a w := by
  obtain ⟨n, left, hn, h⟩ := h
  refine wpList_next_ranges_ii w hg it hop 3 3 .i64 .i64 keyI Tryz.underlying3 Tryz.underlying3 b r n _ left cnt hit h (fun _ _ => hDone) (fun x c w' cnt' _ _ _ hat hrg hlt hgr _ hen => ?_)
  have hc : c = 1 := by
    by_cases hx : x ∈ C
    · have h1 := hat oneD
      rw [at_once hx] at h1
      exact (Lit.int.inj (DataW.lit.inj h1)).2.symm
    · exfalso
      have h1 := hat (.lit (.int .i64 0))
      have h2 := hat (.lit (.int .i64 1))
      rw [at_none hx] at h1 h2
      rw [← h1] at h2
      exact absurd (Lit.int.inj (DataW.lit.inj h2)).2 (by decide)
  subst hc
  exact hMore x w' cnt' ⟨n, _, hn, hrg⟩ hlt (keeps_block hgr) hen
end
end Go.Proofs.YtejfigbjaiealaaGreatDoor
