/-
  Maps of strings to numbers, and the low bits of a number.
  No condition beyond those that each theorem states.
-/
import Derived.Test.YtaccjmdljiignaaRows
import Derived.Test.YtaccjmdljiignaaOps
import Derived.Laws.Bits128
namespace Go.Proofs.Ytaccjmdljiignaa
open Go Go.RowKit

def encI (n : Int) : Value := .int .i64 n

theorem zeroInt (w : World) : (zeroValue 3).run Try.prog w = .ok (.int .i64 0) w := by kernel_rfl


theorem lookVal_int (pm : List (ByteArray × Int)) (n : ByteArray) : lookVal (encMap encI pm) n (.int .i64 0) false = .int .i64 ((look pm n).getD 0) := by
  unfold lookVal
  rw [look_enc]
  cases look pm n <;> rfl


theorem i64_and3 (n : Int) : bits .and .i64 n 3 = n % 4 := by
  have h3 : (BitVec.ofInt 64 3).toNat = 2 ^ 2 - 1 := by decide
  have key : (BitVec.ofInt 64 n &&& BitVec.ofInt 64 3).toNat = (n % ((2 ^ 64 : Nat) : Int)).toNat % 2 ^ 2 := by
    rw [BitVec.toNat_and, BitVec.toNat_ofInt, h3, Nat.and_two_pow_sub_one_eq_mod]
  show IntKind.i64.wrap ((BitVec.ofInt 64 n &&& BitVec.ofInt 64 3).toNat : Nat) = n % 4
  rw [key, IntKind.wrap_i64]
  omega

end Go.Proofs.Ytaccjmdljiignaa
