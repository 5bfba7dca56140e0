/-
  A map of numbers to pointers that holds nothing, or number 1 alone: its look-up, update, range.
  No condition beyond those that each theorem states.
-/
import Derived.Test.YtpopeeiiblhbeaaDoorHeadKey
import Derived.Maps.RangeRun
import Derived.BigQuiet
namespace Go.Proofs.YtpopeeiiblhbeaaDoor
open Go Go.RowKit Go.Maps

def oneE (sb : Nat) : MapEntry := { key := .int .i64 1, val := .pointer (some ⟨sb, 0, none⟩), born := 0 }

def One (w : World) (ob sb : Nat) : Prop := w.heap[ob]? = some (.map #[oneE sb] 1)

instance go1One {w w' : World} (ob sb : Nat) : Go1 w w' (One w ob sb) (One w' ob sb) := ⟨fun k g => k.at_ g (by simp)⟩

theorem checkInt {P : Program} {kt : TypeId} {q : IntKind} (hk : P.underlying kt = some (.int q)) (e : Bool) (k : Int) (w : World) : (Instr.checkKey e 10000 kt (.int q k)).run P w = .ok () w := by
  have h : ∀ n, (Instr.checkKey e (n + 1) kt (.int q k)).run P w = .ok () w := fun n => by simp [Instr.checkKey, run_underlying hk]
  exact h 9999

theorem run_one {w : World} {ob sb : Nat} (h : One w ob sb) : (Instr.lookup 93 (.map (some ob)) (.int .i64 1) false).run Tryd.prog w = .ok (.pointer (some ⟨sb, 0, none⟩)) w := by
  simp [Instr.lookup, run_underlying Tryd.underlying93, MapKept.run_getObj_map h, checkInt Tryd.underlying3, Instr.findKey, run_underlying Tryd.underlying3, Instr.findNow, Instr.sameNow, oneE]

theorem run_put1 {w : World} {ob : Nat} (h : w.heap[ob]? = some (.map #[] 0)) (sb : Nat) : (Instr.mapUpdate 93 (.map (some ob)) (.int .i64 1) (.pointer (some ⟨sb, 0, none⟩))).run Tryd.prog w = .ok () { w with heap := w.heap.setIfInBounds ob (.map #[oneE sb] 1) } := by
  simp [Instr.mapUpdate, run_underlying Tryd.underlying93, MapKept.run_getObj_map h, checkInt Tryd.underlying3, Instr.findKey, run_underlying Tryd.underlying3, Instr.findNow, MapKept.run_setObj_map _ h, oneE]

theorem run_range1 {w : World} {ob sb : Nat} (h : One w ob sb) : (Instr.range 93 (.map (some ob))).run Tryd.prog w = .ok (.pointer (some ⟨w.heap.size, 0, none⟩)) (w.alloc (.mapIter (some ob) 1 #[] 1)) := by
  simp [Instr.range, run_underlying Tryd.underlying93, MapKept.run_getObj_map h]

theorem run_next1 {w : World} {ob sb r : Nat} (ty : TypeId) (h : One w ob sb) (hr : w.heap[r]? = some (.mapIter (some ob) 1 #[] 1)) :
    ∃ w', (Instr.next (.pointer (some ⟨r, 0, none⟩)) false ty).run Tryd.prog w = .ok (.tuple #[.bool true, .int .i64 1, .pointer (some ⟨sb, 0, none⟩)]) w' ∧ w'.heap[r]? = some (.mapIter (some ob) 1 #[0] 1) ∧ Keeps [r] w w' := by
  have hb : w.heap[ob]? = some (.map #[oneE sb] 1) := h
  rcases run_next_at (P := Tryd.prog) w ty r ob 1 1 #[] #[oneE sb] 1 hr hb (by simp [oneE]) (Nat.le_refl _) with ⟨h0, -⟩ | ⟨e, he, w1, hw1, hrun⟩
  · simp [leftOf] at h0
  · have he1 : e = oneE sb := by
      have := he
      simp [leftOf] at this
      exact this
    subst he1
    have hr1 : w1.heap[r]? = some (.mapIter (some ob) 1 #[] 1) := by rcases hw1 with rfl | rfl <;> exact hr
    have k1 : Keeps [r] w w1 := by
      rcases hw1 with rfl | rfl
      · exact Keeps.refl _ _
      · exact (Keeps.refl _ _).drew
    exact ⟨_, hrun, heap_set_same hr1 _, k1.trans (keeps_setIf _)⟩

theorem run_next2 {w : World} {ob sb r : Nat} (ty : TypeId) (h : One w ob sb) (hr : w.heap[r]? = some (.mapIter (some ob) 1 #[0] 1)) :
    (Instr.next (.pointer (some ⟨r, 0, none⟩)) false ty).run Tryd.prog w = .ok (.tuple #[.bool false]) w := by
  have hb : w.heap[ob]? = some (.map #[oneE sb] 1) := h
  rcases run_next_at (P := Tryd.prog) w ty r ob 1 1 #[0] #[oneE sb] 1 hr hb (by simp [oneE]) (Nat.le_refl _) with ⟨-, hrun⟩ | ⟨e, he, -⟩
  · exact hrun
  · simp [leftOf, oneE] at he

theorem run_entry1 {w : World} {ob sb r : Nat} (h : One w ob sb) (hr : w.heap[r]? = some (.mapIter (some ob) 1 #[0] 1)) :
    (Instr.entry (.pointer (some ⟨r, 0, none⟩))).run Tryd.prog w = .ok (.tuple #[.int .i64 1, .pointer (some ⟨sb, 0, none⟩)]) w :=
  run_entry_at w r ob 1 #[] #[oneE sb] 1 (oneE sb) hr h (by simp) (by simp)
section
variable {ops : Array Oper} {rest : List Oper} {o : Oper} {a : Act} {Q : Exit → Act → World → Prop}
theorem wpList_range1 {w : World} {ob sb : Nat} (hg : o.guard = none) (m : Operand) (hop : o.op = Op.range 93 m) (hm : a.eval m = .map (some ob)) (h : One w ob sb)
    (hK : wpList Tryd.prog ops Q rest (a.put o.dst (.pointer (some ⟨w.heap.size, 0, none⟩))) (w.alloc (.mapIter (some ob) 1 #[] 1))) : wpList Tryd.prog ops Q (o :: rest) a w := by
  refine wpList_plain hg fun K' hK' => ?_
  unfold Oper.wp
  simp [execOp, hop, hm, run_range1 h, Result.andThen]
  exact hK' _ _ hK

theorem wpList_next1 {w : World} {ob sb r : Nat} (hg : o.guard = none) (it : Operand) (hop : o.op = Op.next it false) (hit : a.eval it = .pointer (some ⟨r, 0, none⟩)) (h : One w ob sb) (hr : w.heap[r]? = some (.mapIter (some ob) 1 #[] 1))
    (hK : ∀ w', w'.heap[r]? = some (.mapIter (some ob) 1 #[0] 1) → Keeps [r] w w' → wpList Tryd.prog ops Q rest (a.put o.dst (.tuple #[.bool true, .int .i64 1, .pointer (some ⟨sb, 0, none⟩)])) w') : wpList Tryd.prog ops Q (o :: rest) a w := by
  refine wpList_plain hg fun K' hK' => ?_
  obtain ⟨w', hrun, h1, h2⟩ := run_next1 o.type h hr
  unfold Oper.wp
  simp [execOp, hop, hit, hrun, Result.andThen]
  exact hK' _ _ (hK w' h1 h2)

theorem wpList_next2 {w : World} {ob sb r : Nat} (hg : o.guard = none) (it : Operand) (hop : o.op = Op.next it false) (hit : a.eval it = .pointer (some ⟨r, 0, none⟩)) (h : One w ob sb) (hr : w.heap[r]? = some (.mapIter (some ob) 1 #[0] 1))
    (hK : wpList Tryd.prog ops Q rest (a.put o.dst (.tuple #[.bool false])) w) : wpList Tryd.prog ops Q (o :: rest) a w := by
  refine wpList_plain hg fun K' hK' => ?_
  unfold Oper.wp
  simp [execOp, hop, hit, run_next2 o.type h hr, Result.andThen]
  exact hK' _ _ hK
end
/-- The update of the map that holds nothing, as one step of a region that draws. -/
theorem step_put1 {ops : Array Oper} {o : Oper} {a : Act} {w : World} {K : Act → World → Prop} {Q : Exit → Act → World → Prop} {E : Prop}
    (hg : o.guard = none) (m x v : Operand) (hop : o.op = Op.mapUpdate 93 m x v) (ob sb : Nat) (hm : a.eval m = .map (some ob)) (hx : a.eval x = .int .i64 1) (hv : a.eval v = .pointer (some ⟨sb, 0, none⟩)) (h : w.heap[ob]? = some (.map #[] 0))
    (hK : ∀ w', One w' ob sb → Keeps [ob] w w' → K (a.put o.dst undef) w') : if Region.wanted o (yielded ops a.tmps) = true then Oper.wp Tryd.prog o a w K Q else E := by
  have hw : Region.wanted o (yielded ops a.tmps) = true := by simp [Region.wanted, hg]
  rw [if_pos hw]
  unfold Oper.wp
  simp [execOp, hop, hm, hx, hv, run_put1 h, Result.andThen]
  exact hK _ (heap_set_same h _) (keeps_setIf _)

theorem zero64 (w : World) : (zeroValue 2).run Tryd.prog w = .ok (.int .i64 0) w := by kernel_rfl

theorem zeroI (w : World) : (zeroValue 3).run Tryd.prog w = .ok (.int .i64 0) w := by kernel_rfl
end Go.Proofs.YtpopeeiiblhbeaaDoor
