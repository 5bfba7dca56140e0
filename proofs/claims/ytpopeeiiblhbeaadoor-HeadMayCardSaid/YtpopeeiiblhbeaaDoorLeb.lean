/-
  Numbers and texts as bytes (leb): Uint, Text, TakeUint, TakeMost, TakeText, TakeByte.
  Each contract holds in every world; old memory is left as it was.
-/
import Derived.Test.YtpopeeiiblhbeaaDoorBuf
import Derived.Test.YtpopeeiiblhbeaaDoorLebLaw
import Derived.LoopTactic
import Derived.Deep.LoopGhost
import Derived.IntWalk
import Derived.BigQuiet
import Derived.Deep.QuietTactic
import Derived.Laws.BitsLemmas
import Derived.Lib.VarintBits
namespace Go.Proofs.YtpopeeiiblhbeaaDoor
open Go Go.RowKit

theorem or128 : ∀ x : Nat, x < 256 → bits .or .u8 (x : Int) 128 = ((x % 128 + 128 : Nat) : Int) := by decide +kernel

theorem or128' (m : Nat) : bits .or .u8 ((m : Int) % 256) 128 = (((UInt8.ofNat (m % 128 + 128)).toNat : Nat) : Int) := by
  have h := or128 (m % 256) (Nat.mod_lt _ (by decide))
  rw [show ((m : Int) % 256) = ((m % 256 : Nat) : Int) from by omega, h]
  simp
  try omega

theorem ofNat_low {m : Nat} (h : m < 128) : bytesV [UInt8.ofNat m] = [.int .u8 (m : Int)] := by simp [bytesV]; omega


def lebRel (v0 : Value) (w : World) (l : List UInt8) (n : Nat) (gk : Nat) (b u : Value) (wr : World) : Prop :=
  ∃ (m : Nat) (p : List UInt8), gk = m ∧ u = .int .u64 m ∧ m < 18446744073709551616 ∧ p ++ lebL m = lebL n ∧ Buf wr b (l ++ p) ∧ Turns v0 w b wr


set_option maxRecDepth 100000 in
set_option maxHeartbeats 1000000 in
theorem uint_spec (w : World) (v : Value) (l : List UInt8) (n : Nat) (hn : n < 18446744073709551616) (hl : l.length ≤ 140737488355000) (h : Buf w v l) :
    Calls Tryd.prog 103 #[v, .int .u64 n] w (BufPost w v (l ++ lebL n)) := by
  have Hlen := lebL_len10 hn
  have H := Lib.hid h
  clear h
  go_enter Tryd.func103, Tryd.ntmps103
  go_wp2_with fail
  go_loopg [0, 1] n (lebRel v w l n)
  case atStart => exact ⟨n, [], rfl, rfl, hn, rfl, by simpa using H.out, Turns.refl _ _⟩
  case round =>
    obtain ⟨m, p, hg, rfl, hm, hp, hb, ht⟩ := hrel
    have Hg := Lib.hid hg
    have Hp := Lib.hid hp
    have hpl : p.length + (lebL m).length = (lebL n).length := by rw [← hp, List.length_append]
    clear hg hp
    by_cases hs : 127 < m
    · have h1 : (127 : Int) < (m : Int) := by omega
      have hor := or128' m
      have hx := congrArg List.length (lebL_big (v := m) (by omega))
      rw [List.length_cons] at hx
      have Hb := Lib.hid (And.intro hb ht)
      have Hx := Lib.hid (lebL_big (v := m) (by omega))
      have hll : (l ++ p).length = l.length + p.length := List.length_append
      have Hll := Lib.hid hll
      clear hb ht hll
      go_wp2_with (at_builtin; refine buf_append rfl (.tmp 9) (.tmp 13) rfl u0 (l ++ p) rfl (Hb.out.1.same ((Keeps.refl [] wr).alloc _)) ⟨wr.heap.size, 0, none⟩ 1 1 [UInt8.ofNat (m % 128 + 128)] rfl rfl (cells_new (heap_new wr _)) (by rw [Hll.out]; omega) ?_; intro v' w' hb' ht')
      have ht2 := Hb.out.2.trans (Turns.since ((Keeps.refl [] wr).alloc _) ht')
      go_roundg (m / 128)
      case measure => have := Hg.out; omega
      case rel => exact ⟨m / 128, p ++ [UInt8.ofNat (m % 128 + 128)], rfl, by first | rfl | go_num, by omega, by rw [← Hp.out, Hx.out]; simp, by rw [← List.append_assoc]; exact hb', ht2⟩
    · have h1 : ¬ (127 : Int) < (m : Int) := by omega
      have He := Lib.hid (ofNat_low (m := m) (by omega))
      have Hx := Lib.hid (lebL_small (v := m) (by omega))
      have hpl2 : p.length + 1 ≤ 10 := by have := congrArg List.length Hx.out; simp at this; omega
      have Hll := Lib.hid (show (l ++ p).length = l.length + p.length from List.length_append)
      have Hb := Lib.hid (And.intro hb ht)
      clear hb ht hpl
      go_wp2_with (at_builtin; refine buf_append rfl (.tmp 15) (.tmp 18) rfl u0 (l ++ p) rfl (Hb.out.1.same ((Keeps.refl [] wr).alloc _)) ⟨wr.heap.size, 0, none⟩ 1 1 [UInt8.ofNat m] rfl rfl (by rw [He.out]; exact cells_new (heap_new wr _)) (by rw [Hll.out]; omega) ?_; intro v' w' hb' ht')
      go_ret
      exact ⟨_, rfl, by rw [← Hp.out, Hx.out, ← List.append_assoc]; exact hb', Hb.out.2.trans (Turns.since ((Keeps.refl [] wr).alloc _) ht')⟩

/-! ## Taking a number -/
theorem or_take {v c k : Nat} (hv : v < 2 ^ (7 * k)) (hk : k < 9 ∨ k = 9 ∧ c ≤ 1) :
    bits .or .u64 (v : Int) (IntKind.u64.wrap ((c : Int) % 128 * 2 ^ (7 * k))) = ((v + c % 128 * 2 ^ (7 * k) : Nat) : Int) := by
  have hb : c % 128 * 2 ^ (7 * k) < 18446744073709551616 := by
    rcases hk with h | ⟨rfl, h⟩
    · have h1 : c % 128 * 2 ^ (7 * k) ≤ 127 * 2 ^ (7 * 8) := Nat.mul_le_mul (by omega) (Nat.pow_le_pow_right (by decide) (by omega))
      exact Nat.lt_of_le_of_lt h1 (by decide)
    · have h1 : c % 128 * 2 ^ (7 * 9) ≤ 1 * 2 ^ (7 * 9) := Nat.mul_le_mul (by omega) (Nat.le_refl _)
      exact Nat.lt_of_le_of_lt h1 (by decide)
  have hv' : v < 18446744073709551616 := Nat.lt_of_lt_of_le hv (Nat.le_trans (Nat.pow_le_pow_right (by decide) (show 7 * k ≤ 64 by omega)) (by decide))
  have e : ((c : Int) % 128 * 2 ^ (7 * k)) = ((c % 128 * 2 ^ (7 * k) : Nat) : Int) := by simp
  rw [e, IntWalk.u64_in _ (by omega), bits_or_u64_nat v _ hv' hb]
  congr 1
  have h := Nat.two_pow_add_eq_or_of_lt hv (c % 128)
  rw [Nat.mul_comm, Nat.or_comm, ← h]
  omega

def takeVals (r : Nat × List UInt8 × Int) : Value := .tuple #[.int .u64 r.1, .string ⟨r.2.1.toArray⟩, .int .i64 r.2.2]

def takeRel (s : ByteArray) (w : World) (gk : Nat) (u5 u10 : Value) (wr : World) : Prop :=
  ∃ k v : Nat, gk = s.size - k ∧ k ≤ s.size ∧ k ≤ 9 ∧ u10 = .int .i64 k ∧ u5 = .int .u64 v ∧ v < 2 ^ (7 * k) ∧ takeL (s.data.toList.drop k) k v = takeU s.data.toList ∧ wr = w

theorem extract_end (s : ByteArray) (k : Nat) : s.extract k s.size = ⟨(s.data.toList.drop k).toArray⟩ := by
  apply ba_ext
  simp only [ByteArray.data_extract, Array.toList_extract, List.extract_eq_take_drop]
  exact List.take_of_length_le (by simp)



def takeMVals (r : Int × List UInt8 × Int) : Value := .tuple #[.int .i64 r.1, .string ⟨r.2.1.toArray⟩, .int .i64 r.2.2]

end Go.Proofs.YtpopeeiiblhbeaaDoor
