/-
  Plain laws of numbers as bytes (seven bits a byte, the lowest first), and of taking them again. No program in sight.
  No condition beyond those that each theorem states.

  Plain laws of sums (bit by bit) and of records, each with a kind and a sum. No program in sight.
  No condition beyond those that each theorem states.

  Plain laws of blocks' names: eight digits of a tick, eight of a number. No program in sight.
  No condition beyond those that each theorem states.

  Numbers and texts as bytes (leb): Uint, Text, TakeUint, TakeMost, TakeText, TakeByte.
  Each contract holds in every world; old memory is left as it was.

  Texts as bytes (leb): Text, TakeText, TakeByte.
  Each contract holds in every world; old memory is left as it was.
-/
import Derived.Lib.AppendStr
import Derived.Test.YtgdkceeonnfejaaGreatDoorBuf
import Derived.LoopTactic
import Derived.Deep.LoopGhost
import Derived.IntWalk
import Derived.BigQuiet
import Derived.Deep.QuietTactic
import Derived.Laws.BitsLemmas
import Derived.Lib.VarintBits
namespace Go.Proofs.YtgdkceeonnfejaaGreatDoor
set_option maxRecDepth 100000
set_option maxHeartbeats 1000000
def lebL (v : Nat) : List UInt8 := if v < 128 then [UInt8.ofNat v] else UInt8.ofNat (v % 128 + 128) :: lebL (v / 128)
termination_by v
decreasing_by omega
def takeL : List UInt8 → Nat → Nat → Nat × List UInt8 × Int
 | [], _, _ => (0, [], 2)
 | c :: l, i, v =>
  if i = 9 ∧ 1 < c.toNat then (0, [], 3)
  else if c.toNat < 128 then (if c.toNat = 0 ∧ 0 < i then (0, [], 3) else (v + c.toNat % 128 * 2 ^ (7 * i), l, 0))
  else takeL l (i + 1) (v + c.toNat % 128 * 2 ^ (7 * i))
def takeU (l : List UInt8) : Nat × List UInt8 × Int := takeL l 0 0
theorem lebL_small {v : Nat} (h : v < 128) : lebL v = [UInt8.ofNat v] := by rw [lebL, if_pos h]
theorem lebL_big {v : Nat} (h : ¬ v < 128) : lebL v = UInt8.ofNat (v % 128 + 128) :: lebL (v / 128) := by rw [lebL, if_neg h]
theorem lebL_len : ∀ (k v : Nat), v < 128 ^ (k + 1) → (lebL v).length ≤ k + 1
 | 0, v, h => by rw [lebL_small (by simpa using h)]; simp
 | k + 1, v, h => by
  by_cases hv : v < 128
  ·rw [lebL_small hv]; simp
  ·rw [lebL_big hv, List.length_cons]
   have := lebL_len k (v / 128) (by rw [Nat.div_lt_iff_lt_mul (by decide)]; rw [Nat.pow_succ] at h; exact h)
   omega
theorem lebL_len10 {v : Nat} (h : v < 18446744073709551616) : (lebL v).length ≤ 10 := lebL_len 9 v (Nat.lt_of_lt_of_le h (by decide))
theorem takeL_leb : ∀ (k m i v : Nat) (l : List UInt8), m < 128 ^ (k + 1) → i + k ≤ 8 ∨ (i + k ≤ 9 ∧ m < 2 * 128 ^ k) → (0 < m ∨ i = 0) → takeL (lebL m ++ l) i v = (v + m * 2 ^ (7 * i), l, 0) := by
 intro k
 induction k with
 | zero =>
  intro m i v l hm hik h0
  have hm' : m < 128 := by simpa using hm
  rw [lebL_small hm']
  have hb : (UInt8.ofNat m).toNat = m := by simp; omega
  simp only [List.singleton_append, takeL]
  rw [hb, if_neg (by omega), if_pos hm', if_neg (by omega), Nat.mod_eq_of_lt hm']
 | succ k ih =>
  intro m i v l hm hik h0
  by_cases hs : m < 128
  ·rw [lebL_small hs]
   have hb : (UInt8.ofNat m).toNat = m := by simp; omega
   simp only [List.singleton_append, takeL]
   rw [hb, if_neg (by omega), if_pos hs, if_neg (by omega), Nat.mod_eq_of_lt hs]
  ·rw [lebL_big hs]
   have hb : (UInt8.ofNat (m % 128 + 128)).toNat = m % 128 + 128 := by simp; omega
   simp only [List.cons_append, takeL]
   rw [hb, if_neg (by omega), if_neg (by omega)]
   rw [ih (m / 128) (i + 1) _ l (by rw [Nat.div_lt_iff_lt_mul (by decide)]; rw [Nat.pow_succ] at hm; exact hm) ?_ (.inl (by omega))]
   ·refine Prod.ext ?_ rfl
    simp only
    have e1 : (m % 128 + 128) % 128 = m % 128 := by omega
    have e2 : 2 ^ (7 * (i + 1)) = 128 * 2 ^ (7 * i) := by rw [Nat.mul_add, Nat.pow_add, Nat.mul_comm]
    rw [e1, e2, ← Nat.mul_assoc, Nat.add_assoc, ← Nat.add_mul]
    congr 2
    omega
   ·rcases hik with h | ⟨h1, h2⟩
    ·exact .inl (by omega)
    ·refine .inr ⟨by omega, ?_⟩
     rw [Nat.div_lt_iff_lt_mul (by decide), Nat.mul_assoc, ← Nat.pow_succ]
     exact h2
theorem takeU_leb {m : Nat} (l : List UInt8) (hm : m < 18446744073709551616) : takeU (lebL m ++ l) = (m, l, 0) := by
 have h := takeL_leb 9 m 0 0 l (Nat.lt_of_lt_of_le hm (by decide)) (.inr ⟨by decide, Nat.lt_of_lt_of_le hm (by decide)⟩) (.inr rfl)
 simpa [takeU] using h
def takeM (l : List UInt8) (most : Int) : Int × List UInt8 × Int :=
 if (takeU l).2.2 = 0 ∧ max most 0 < ((takeU l).1 : Int) then (0, [], 16) else ((takeU l).1, (takeU l).2.1, (takeU l).2.2)
theorem takeM_leb {m : Nat} (l : List UInt8) {most : Int} (hm : (m : Int) ≤ most) (hmost : most ≤ 9223372036854775807) : takeM (lebL m ++ l) most = ((m : Int), l, 0) := by
 unfold takeM
 rw [takeU_leb l (by omega)]
 rw [if_neg (by simp only; omega)]
def takeT (l : List UInt8) (most : Int) : List UInt8 × List UInt8 × Int :=
 if (takeM l most).2.2 ≠ 0 then ([], [], (takeM l most).2.2)
 else if ((takeM l most).2.1.length : Int) < (takeM l most).1 then ([], [], 2)
 else ((takeM l most).2.1.take (takeM l most).1.toNat, (takeM l most).2.1.drop (takeM l most).1.toNat, 0)
def textL (s : List UInt8) : List UInt8 := lebL s.length ++ s
theorem takeT_text (s l : List UInt8) {most : Int} (hm : (s.length : Int) ≤ most) (hmost : most ≤ 9223372036854775807) : takeT (textL s ++ l) most = (s, l, 0) := by
 unfold takeT textL
 rw [List.append_assoc, takeM_leb (s ++ l) hm hmost]
 simp
 omega
/-! ## Names rise as their numbers do -/
open Go.Op (bytesLess)
open Go Go.RowKit
theorem or128 : ∀ x : Nat, x < 256 → bits .or .u8 (x : Int) 128 = ((x % 128 + 128 : Nat) : Int) := by decide +kernel
theorem or128' (m : Nat) : bits .or .u8 ((m : Int) % 256) 128 = (((UInt8.ofNat (m % 128 + 128)).toNat : Nat) : Int) := by
 have h := or128 (m % 256) (Nat.mod_lt _ (by decide))
 rw [show ((m : Int) % 256) = ((m % 256 : Nat) : Int) from by omega, h]
 simp
 try omega
theorem ofNat_low {m : Nat} (h : m < 128) : bytesV [UInt8.ofNat m] = [.int .u8 (m : Int)] := by simp [bytesV]; omega
def lebRel (v0 : Value) (w : World) (l : List UInt8) (n : Nat) (gk : Nat) (b u : Value) (wr : World) : Prop :=
 ∃ (m : Nat) (p : List UInt8), gk = m ∧ u = .int .u64 m ∧ m < 18446744073709551616 ∧ p ++ lebL m = lebL n ∧ Buf wr b (l ++ p) ∧ Turns v0 w b wr
theorem uint_spec (w : World) (v : Value) (l : List UInt8) (n : Nat) (hn : n < 18446744073709551616) (hl : l.length ≤ 140737488355000) (h : Buf w v l) :
  Calls Tryz.prog 61 #[v, .int .u64 n] w (BufPost w v (l ++ lebL n)) := by
 have Hlen := lebL_len10 hn
 have H := Lib.hid h
 clear h
 go_enter Tryz.func61, Tryz.ntmps61
 go_wp2_with fail
 go_loopg [0, 1] n (lebRel v w l n)
 case atStart => exact ⟨n, [], rfl, rfl, hn, rfl, by simpa using H.out, Turns.refl _ _⟩
 case round =>
  obtain ⟨m, p, hg, rfl, hm, hp, hb, ht⟩ := hrel
  have Hg := Lib.hid hg
  have Hp := Lib.hid hp
  have hpl : p.length + (lebL m).length = (lebL n).length := by rw [← hp, List.length_append]
  clear hg hp
  by_cases hs : 127 < m
  ·have h1 : (127 : Int) < (m : Int) := by omega
   have hor := or128' m
   have hx := congrArg List.length (lebL_big (v := m) (by omega))
   rw [List.length_cons] at hx
   have Hb := Lib.hid (And.intro hb ht)
   have Hx := Lib.hid (lebL_big (v := m) (by omega))
   have hll : (l ++ p).length = l.length + p.length := List.length_append
   have Hll := Lib.hid hll
   clear hb ht hll
   go_wp2_with (at_builtin; refine buf_append rfl (.tmp 9) (.tmp 13) rfl u0 (l ++ p) rfl (Hb.out.1.same ((Keeps.refl [] wr).alloc _)) ⟨wr.heap.size, 0, none⟩ 1 1 [UInt8.ofNat (m % 128 + 128)] rfl rfl (cells_new (heap_new wr _)) (by rw [Hll.out]; omega) ?_; intro v' w' hb' ht')
   have ht2 := Hb.out.2.trans (Turns.since ((Keeps.refl [] wr).alloc _) ht')
   go_roundg (m / 128)
   case measure => have := Hg.out; omega
   case rel => exact ⟨m / 128, p ++ [UInt8.ofNat (m % 128 + 128)], rfl, by first | rfl | go_num, by omega, by rw [← Hp.out, Hx.out]; simp, by rw [← List.append_assoc]; exact hb', ht2⟩
  ·have h1 : ¬ (127 : Int) < (m : Int) := by omega
   have He := Lib.hid (ofNat_low (m := m) (by omega))
   have Hx := Lib.hid (lebL_small (v := m) (by omega))
   have hpl2 : p.length + 1 ≤ 10 := by have := congrArg List.length Hx.out; simp at this; omega
   have Hll := Lib.hid (show (l ++ p).length = l.length + p.length from List.length_append)
   have Hb := Lib.hid (And.intro hb ht)
   clear hb ht hpl
   go_wp2_with (at_builtin; refine buf_append rfl (.tmp 15) (.tmp 18) rfl u0 (l ++ p) rfl (Hb.out.1.same ((Keeps.refl [] wr).alloc _)) ⟨wr.heap.size, 0, none⟩ 1 1 [UInt8.ofNat m] rfl rfl (by rw [He.out]; exact cells_new (heap_new wr _)) (by rw [Hll.out]; omega) ?_; intro v' w' hb' ht')
   go_ret
   exact ⟨_, rfl, by rw [← Hp.out, Hx.out, ← List.append_assoc]; exact hb', Hb.out.2.trans (Turns.since ((Keeps.refl [] wr).alloc _) ht')⟩
/-! ## Taking a number -/
open Go Go.RowKit
theorem dsize (s : ByteArray) : s.data.toList.length = s.size := by simp
theorem text_spec (w : World) (v : Value) (l : List UInt8) (s : ByteArray) (hl : l.length + s.size ≤ 140737488354000) (h : Buf w v l) :
  Calls Tryz.prog 66 #[v, .string s] w (BufPost w v (l ++ textL s.data.toList)) := by
 have hcv : IntKind.u64.wrap (s.size : Int) = (s.size : Int) := IntWalk.u64_in _ (by omega)
 have Hu := Lib.hid (uint_spec w v l s.size (by omega) (by omega) h)
 have Hlen := lebL_len10 (v := s.size) (by omega)
 have Hl := Lib.hid (show (l ++ lebL s.size).length = l.length + (lebL s.size).length from List.length_append)
 clear h
 go_enter Tryz.func66, Tryz.ntmps66
 go_wp2_with fail
 refine Hu.out.mono ?_
 rintro e w1 ⟨v1, rfl, hb1, ht1⟩
 have Hb := Lib.hid (And.intro hb1 ht1)
 clear hb1 ht1
 go_wp2_with (at_builtin; refine buf_append_str rfl (.tmp 9) (.tmp 10) rfl v1 (l ++ lebL s.size) rfl Hb.out.1 s rfl (by rw [Hl.out]; omega) ?_; intro v2 w2 hb2 ht2)
 go_ret
 exact ⟨_, rfl, by unfold textL; rw [dsize, ← List.append_assoc]; exact hb2, Hb.out.2.trans ht2⟩
end Go.Proofs.YtgdkceeonnfejaaGreatDoor
