/-
  Operations on maps of strings as steps of a walk: update, lookup, delete, len; the world behind them is a letter.
  No condition beyond those that each theorem states.

  Maps of strings to numbers, and the low bits of a number.
  No condition beyond those that each theorem states.
-/
import Derived.Test.YtaebpbkiaihhdaaGreatDoorMap
import Derived.RegionTactic
import Derived.Test.YtaebpbkiaihhdaaGreatDoorRows
import Derived.Laws.Bits128
namespace Go.Proofs.YtaebpbkiaihhdaaGreatDoor
open Go Go.RowKit

theorem keeps_setIf {w : World} {b : Nat} (o : Obj) : Keeps [b] w { w with heap := w.heap.setIfInBounds b o } := (Keeps.refl [b] w).setAt (.inl (by simp)) o

section
variable {P : Program} (w : World) {ops : Array Oper} {rest : List Oper} {o : Oper} {a : Act} {Q : Exit → Act → World → Prop}

theorem wpList_update_str (hg : o.guard = none) (m x v : Operand) (t kt et : TypeId) (hop : o.op = Op.mapUpdate t m x v) (ht : P.underlying t = some (.map kt et)) (hk : P.underlying kt = some .string)
    (b : Nat) (M : KV) (key : ByteArray) (val : Value) (hm : a.eval m = .map (some b)) (hx : a.eval x = .string key) (hv : a.eval v = val) (h : MapAt w b M)
    (hK : ∀ w', MapAt w' b (put M key val) → Keeps [b] w w' → wpList P ops Q rest (a.put o.dst undef) w') : wpList P ops Q (o :: rest) a w := by
  refine wpList_plain hg fun K' hK' => ?_
  obtain ⟨ob, hrun, r1⟩ := h.run_update ht hk key val
  unfold Oper.wp
  simp [execOp, hop, hm, hx, hv, hrun, Result.andThen]
  exact hK' _ _ (hK _ r1 (keeps_setIf ob))


theorem wpList_lookup_str (hg : o.guard = none) (m x : Operand) (t kt et : TypeId) (ok : Bool) (hop : o.op = Op.lookup t m x ok) (ht : P.underlying t = some (.map kt et)) (hk : P.underlying kt = some .string)
    (z : Value) (hz : (zeroValue et).run P w = .ok z w) (b : Nat) (M : KV) (key : ByteArray) (hm : a.eval m = .map (some b)) (hx : a.eval x = .string key) (h : MapAt w b M)
    (hK : wpList P ops Q rest (a.put o.dst (lookVal M key z ok)) w) : wpList P ops Q (o :: rest) a w := by
  refine wpList_plain hg fun K' hK' => ?_
  have hrun := h.run_lookup ht hk hz key ok
  unfold Oper.wp
  simp [execOp, hop, hm, hx, hrun, Result.andThen]
  exact hK' _ _ hK


theorem wpList_delete_str (hg : o.guard = none) (m x : Operand) (t kt et : TypeId) (hop : o.op = Op.call { callee := Callee.builtin Builtin.delete, args := #[m, x], argTypes := #[t, kt] }) (ht : P.underlying t = some (.map kt et)) (hk : P.underlying kt = some .string)
    (b : Nat) (M : KV) (key : ByteArray) (hm : a.eval m = .map (some b)) (hx : a.eval x = .string key) (h : MapAt w b M)
    (hK : ∀ w', MapAt w' b (del M key) → Keeps [b] w w' → wpList P ops Q rest (a.put o.dst (.tuple #[])) w') : wpList P ops Q (o :: rest) a w := by
  refine wpList_plain hg fun K' hK' => ?_
  obtain ⟨ob, hrun, r1⟩ := h.run_delete ht hk key o.type
  unfold Oper.wp
  simp [execOp, hop, resolve, invoke, builtin, hm, hx, hrun, Result.andThen]
  exact hK' _ _ (hK _ r1 (keeps_setIf ob))
end
end Go.Proofs.YtaebpbkiaihhdaaGreatDoor

namespace Go.Proofs.YtaebpbkiaihhdaaGreatDoor
open Go Go.RowKit

def encI (n : Int) : Value := .int .i64 n

theorem zeroInt (w : World) : (zeroValue 3).run Tryz.prog w = .ok (.int .i64 0) w := by kernel_rfl


theorem lookVal_int (pm : List (ByteArray × Int)) (n : ByteArray) : lookVal (encMap encI pm) n (.int .i64 0) false = .int .i64 ((look pm n).getD 0) := by
  unfold lookVal
  rw [look_enc]
  cases look pm n <;> rfl


theorem i64_and3 (n : Int) : bits .and .i64 n 3 = n % 4 := by
  have h3 : (BitVec.ofInt 64 3).toNat = 2 ^ 2 - 1 := by decide
  have key : (BitVec.ofInt 64 n &&& BitVec.ofInt 64 3).toNat = (n % ((2 ^ 64 : Nat) : Int)).toNat % 2 ^ 2 := by
    rw [BitVec.toNat_and, BitVec.toNat_ofInt, h3, Nat.and_two_pow_sub_one_eq_mod]
  show IntKind.i64.wrap ((BitVec.ofInt 64 n &&& BitVec.ofInt 64 3).toNat : Nat) = n % 4
  rw [key, IntKind.wrap_i64]
  omega

end Go.Proofs.YtaebpbkiaihhdaaGreatDoor
