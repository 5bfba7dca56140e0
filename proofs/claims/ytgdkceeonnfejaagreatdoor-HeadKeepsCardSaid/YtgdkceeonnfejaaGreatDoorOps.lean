/-
  Operations on maps of strings as steps of a walk: update, lookup, delete, len; the world behind them is a letter.
  No condition beyond those that each theorem states.

  Maps of strings to numbers, and the low bits of a number.
  No condition beyond those that each theorem states.
-/
import Derived.Test.YtgdkceeonnfejaaGreatDoorMap
import Derived.RegionTactic
import Derived.Test.YtgdkceeonnfejaaGreatDoorRows
import Derived.Laws.Bits128
namespace Go.Proofs.YtgdkceeonnfejaaGreatDoor
open Go Go.RowKit
theorem keeps_setIf {w : World} {b : Nat} (o : Obj) : Keeps [b] w { w with heap := w.heap.setIfInBounds b o } := (Keeps.refl [b] w).setAt (.inl (by simp)) o
section
variable {P : Program} (w : World) {ops : Array Oper} {rest : List Oper} {o : Oper} {a : Act} {Q : Exit → Act → World → Prop}
theorem wpList_update_str (hg : o.guard = none) (m x v : Operand) (t kt et : TypeId) (hop : o.op = Op.mapUpdate t m x v) (ht : P.underlying t = some (.map kt et)) (hk : P.underlying kt = some .string)
  (b : Nat) (M : KV) (key : ByteArray) (val : Value) (hm : a.eval m = .map (some b)) (hx : a.eval x = .string key) (hv : a.eval v = val) (h : MapAt w b M)
  (hK : ∀ w', MapAt w' b (put M key val) → Keeps [b] w w' → wpList P ops Q rest (a.put o.dst undef) w') : wpList P ops Q (o :: rest) a w := by
 refine wpList_plain hg fun K' hK' => ?_
 obtain ⟨ob, hrun, r1⟩ := h.run_update ht hk key val
 unfold Oper.wp
 simp [execOp, hop, hm, hx, hv, hrun, Result.andThen]
 exact hK' _ _ (hK _ r1 (keeps_setIf ob))
theorem wpList_delete_str (hg : o.guard = none) (m x : Operand) (t kt et : TypeId) (hop : o.op = Op.call { callee := Callee.builtin Builtin.delete, args := #[m, x], argTypes := #[t, kt] }) (ht : P.underlying t = some (.map kt et)) (hk : P.underlying kt = some .string)
  (b : Nat) (M : KV) (key : ByteArray) (hm : a.eval m = .map (some b)) (hx : a.eval x = .string key) (h : MapAt w b M)
  (hK : ∀ w', MapAt w' b (del M key) → Keeps [b] w w' → wpList P ops Q rest (a.put o.dst (.tuple #[])) w') : wpList P ops Q (o :: rest) a w := by
 refine wpList_plain hg fun K' hK' => ?_
 obtain ⟨ob, hrun, r1⟩ := h.run_delete ht hk key o.type
 unfold Oper.wp
 simp [execOp, hop, resolve, invoke, builtin, hm, hx, hrun, Result.andThen]
 exact hK' _ _ (hK _ r1 (keeps_setIf ob))
end
end Go.Proofs.YtgdkceeonnfejaaGreatDoor
