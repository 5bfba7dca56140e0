/-
  Rows of bits in plain words: how wide a number is, a number's bits, bits packed into bytes, bits as a number; a chunk's bits (package xor) there and back.
  No condition beyond those that each theorem states.
-/
import Derived.Test.YtgcfkhcogllgfaaGreatDoorLebLaw
import Derived.Laws.Bits64
namespace Go.Proofs.YtgcfkhcogllgfaaGreatDoor
open Go
def widthN (v : Nat) : Nat := if h : v = 0 then 0 else widthN (v / 2) + 1
termination_by v
decreasing_by omega
theorem widthN_zero : widthN 0 = 0 := by rw [widthN]; rfl
theorem widthN_half {v : Nat} (h : v ≠ 0) : widthN v = widthN (v / 2) + 1 := by
 rw [widthN, dif_neg h]
theorem widthN_le : ∀ {k v : Nat}, v < 2 ^ k → widthN v ≤ k
 | 0, v, h => by
  obtain rfl : v = 0 := by simp at h; exact h
  rw [widthN_zero]
  exact Nat.le_refl _
 | k + 1, v, h => by
  by_cases h0 : v = 0
  ·subst h0
   rw [widthN_zero]
   exact Nat.zero_le _
  ·rw [widthN_half h0]
   have := widthN_le (k := k) (v := v / 2) (by rw [Nat.pow_succ] at h; omega)
   omega
theorem widthN_lt (v : Nat) : v < 2 ^ widthN v := by
 induction v using Nat.strongRecOn with
 | _ v ih =>
  by_cases h0 : v = 0
  ·subst h0
   rw [widthN_zero]
   decide
  ·rw [widthN_half h0, Nat.pow_succ]
   have := ih (v / 2) (by omega)
   omega
theorem widthN_pos {v : Nat} (h : v ≠ 0) : 0 < widthN v := by
 rw [widthN_half h]
 omega
theorem widthN_turn {v k : Nat} (h : v / 2 ^ k ≠ 0) : widthN (v / 2 ^ k) = widthN (v / 2 ^ (k + 1)) + 1 := by
 rw [widthN_half h, Nat.div_div_eq_div_mul, ← Nat.pow_succ]
theorem widthN_at (v : Nat) : ∀ k, k ≤ widthN v → widthN (v / 2 ^ k) + k = widthN v
 | 0, _ => by simp
 | k + 1, h => by
  have ih := widthN_at v k (by omega)
  have h0 : v / 2 ^ k ≠ 0 := fun e => by
   rw [e, widthN_zero] at ih
   omega
  rw [widthN_turn h0] at ih
  omega
def tailN (v : Nat) : Nat := if h : v = 0 then 0 else if v % 2 = 1 then 0 else tailN (v / 2) + 1
termination_by v
decreasing_by omega
theorem tailN_odd {v : Nat} (h : v % 2 = 1) : tailN v = 0 := by
 rw [tailN, dif_neg (by omega), if_pos h]
theorem tailN_even {v : Nat} (h0 : v ≠ 0) (h : v % 2 = 0) : tailN v = tailN (v / 2) + 1 := by
 rw [tailN, dif_neg h0, if_neg (by omega)]
theorem tailN_lt {v : Nat} (h : v ≠ 0) : tailN v < widthN v := by
 induction v using Nat.strongRecOn with
 | _ v ih =>
  rw [widthN_half h]
  by_cases h2 : v % 2 = 1
  ·rw [tailN_odd h2]
   omega
  ·rw [tailN_even h (by omega)]
   have := ih (v / 2) (by omega) (by omega)
   omega
theorem tailN_bit {v : Nat} (h : v ≠ 0) : ∀ j, j ≤ tailN v → (v / 2 ^ j % 2 = if j < tailN v then 0 else 1) := by
 induction v using Nat.strongRecOn with
 | _ v ih =>
  intro j hj
  by_cases h2 : v % 2 = 1
  ·rw [tailN_odd h2] at hj ⊢
   obtain rfl : j = 0 := by omega
   simpa using h2
  ·have he := tailN_even h (by omega)
   rw [he] at hj ⊢
   match j, hj with
   | 0, _ =>
    rw [if_pos (by omega)]
    simp
    omega
   | j + 1, hj =>
    have := ih (v / 2) (by omega) (by omega) j (by omega)
    rw [Nat.pow_succ, Nat.mul_comm, ← Nat.div_div_eq_div_mul, this]
    by_cases hlt : j < tailN (v / 2)
    ·rw [if_pos hlt, if_pos (by omega)]
    ·rw [if_neg hlt, if_neg (by omega)]
def bytesN (n : Nat) : Nat := (n + 7) / 8
theorem bytesN_full {n : Nat} (h : n % 8 = 0) : bytesN (n + 1) = bytesN n + 1 ∧ bytesN n = n / 8 := by
 unfold bytesN
 omega
theorem bytesN_part {n : Nat} (h : n % 8 ≠ 0) : bytesN (n + 1) = bytesN n ∧ n / 8 < bytesN n := by
 unfold bytesN
 omega
def byteF (f : Nat → Bool) : Nat := (f 0).toNat * 128 + (f 1).toNat * 64 + (f 2).toNat * 32 + (f 3).toNat * 16 + (f 4).toNat * 8 + (f 5).toNat * 4 + (f 6).toNat * 2 + (f 7).toNat
theorem byteF_lt (f : Nat → Bool) : byteF f < 256 := by
 have h := fun i => Bool.toNat_le (f i)
 have h0 := h 0
 have h1 := h 1
 have h2 := h 2
 have h3 := h 3
 have h4 := h 4
 have h5 := h 5
 have h6 := h 6
 have h7 := h 7
 unfold byteF
 omega
theorem byteF_congr {f g : Nat → Bool} (h : ∀ j, j < 8 → f j = g j) : byteF f = byteF g := by
 unfold byteF
 rw [h 0 (by decide), h 1 (by decide), h 2 (by decide), h 3 (by decide), h 4 (by decide), h 5 (by decide), h 6 (by decide), h 7 (by decide)]
def eightF (b0 b1 b2 b3 b4 b5 b6 b7 : Bool) (j : Nat) : Bool := if j = 0 then b0 else if j = 1 then b1 else if j = 2 then b2 else if j = 3 then b3 else if j = 4 then b4 else if j = 5 then b5 else if j = 6 then b6 else b7
theorem eightF_is (f : Nat → Bool) : ∀ j, j < 8 → f j = eightF (f 0) (f 1) (f 2) (f 3) (f 4) (f 5) (f 6) (f 7) j := by
 intro j hj
 rcases (by omega : j = 0 ∨ j = 1 ∨ j = 2 ∨ j = 3 ∨ j = 4 ∨ j = 5 ∨ j = 6 ∨ j = 7) with rfl | rfl | rfl | rfl | rfl | rfl | rfl | rfl <;> rfl
theorem orBit0 : ∀ b0 b1 b2 b3 b4 b5 b6 b7 : Bool, ∀ k : Fin 8, (∀ j : Fin 8, k.val ≤ j.val → eightF b0 b1 b2 b3 b4 b5 b6 b7 j.val = false) → byteF (eightF b0 b1 b2 b3 b4 b5 b6 b7) ||| 128 / 2 ^ k.val = byteF (fun j => if j = k.val then true else eightF b0 b1 b2 b3 b4 b5 b6 b7 j) := by decide +kernel
theorem orBit {k : Nat} (hk : k < 8) {f g : Nat → Bool} (hf : ∀ j, k ≤ j → j < 8 → f j = false) (hg : ∀ j, j < 8 → g j = if j = k then true else f j) : byteF f ||| 128 / 2 ^ k = byteF g := by
 have h := orBit0 (f 0) (f 1) (f 2) (f 3) (f 4) (f 5) (f 6) (f 7) ⟨k, hk⟩ (fun j hj => by rw [← eightF_is f j.val j.isLt]; exact hf j.val hj j.isLt)
 rw [byteF_congr (eightF_is f), h]
 refine byteF_congr fun j hj => ?_
 rw [hg j hj]
 dsimp only
 split
 ·rfl
 ·exact (eightF_is f j hj).symm
theorem seeBit0 : ∀ b0 b1 b2 b3 b4 b5 b6 b7 : Bool, ∀ k : Fin 8, (byteF (eightF b0 b1 b2 b3 b4 b5 b6 b7) * 2 ^ k.val % 256) &&& 128 = if eightF b0 b1 b2 b3 b4 b5 b6 b7 k.val then 128 else 0 := by decide +kernel
theorem seeBit {k : Nat} (hk : k < 8) (f : Nat → Bool) : (byteF f * 2 ^ k % 256) &&& 128 = if f k then 128 else 0 := by
 have h := seeBit0 (f 0) (f 1) (f 2) (f 3) (f 4) (f 5) (f 6) (f 7) ⟨k, hk⟩
 rw [byteF_congr (eightF_is f), h, ← eightF_is f k hk]
def packN (B : List Bool) (i : Nat) : Nat := byteF fun j => B.getD (8 * i + j) false
def packB (B : List Bool) : List UInt8 := (List.range (bytesN B.length)).map fun i => UInt8.ofNat (packN B i)
theorem packN_lt (B : List Bool) (i : Nat) : packN B i < 256 := byteF_lt _
theorem packB_length (B : List Bool) : (packB B).length = bytesN B.length := by simp [packB]
theorem packB_get {B : List Bool} {i : Nat} (h : i < (packB B).length) : ((packB B)[i]'h).toNat = packN B i := by
 simp only [packB, List.getElem_map, List.getElem_range]
 have := packN_lt B i
 simp
 omega
theorem getD_push (B : List Bool) (b : Bool) (k : Nat) : (B ++ [b]).getD k false = if k = B.length then b else B.getD k false := by
 simp only [List.getD_eq_getElem?_getD, List.getElem?_append]
 by_cases h : k < B.length
 ·rw [if_pos h, if_neg (by omega)]
 ·rw [if_neg h]
  by_cases e : k = B.length
  ·subst e
   simp
  ·rw [if_neg e, List.getElem?_eq_none (by omega : B.length ≤ k), List.getElem?_eq_none (by simp; omega)]
theorem getD_push0 (B : List Bool) (k : Nat) : (B ++ [false]).getD k false = B.getD k false := by
 rw [getD_push]
 split
 ·rename_i h
  rw [List.getD_eq_getElem?_getD, List.getElem?_eq_none (by omega)]
  rfl
 ·rfl
theorem packN_push0 (B : List Bool) (i : Nat) : packN (B ++ [false]) i = packN B i := by
 unfold packN
 congr 1
 funext j
 exact getD_push0 B _
theorem packB_push_full {B : List Bool} (h : B.length % 8 = 0) : packB (B ++ [false]) = packB B ++ [0] := by
 obtain ⟨h1, h2⟩ := bytesN_full h
 unfold packB
 rw [List.length_append, show ([false] : List Bool).length = 1 from rfl, h1, List.range_succ, List.map_append]
 congr 1
 ·exact List.map_congr_left fun i _ => by rw [packN_push0]
 ·have e : packN (B ++ [false]) (bytesN B.length) = 0 := by
   rw [packN_push0]
   unfold packN
   rw [byteF_congr (g := fun _ => false) (fun j _ => by
    rw [List.getD_eq_getElem?_getD, List.getElem?_eq_none (by omega)]
    rfl)]
   rfl
  simp [e]
theorem packB_push_part {B : List Bool} (h : B.length % 8 ≠ 0) : packB (B ++ [false]) = packB B := by
 obtain ⟨h1, -⟩ := bytesN_part h
 unfold packB
 rw [List.length_append, show ([false] : List Bool).length = 1 from rfl, h1]
 exact List.map_congr_left fun i _ => by rw [packN_push0]
theorem packB_push1 (B : List Bool) : packB (B ++ [true]) = (packB (B ++ [false])).set (B.length / 8) (UInt8.ofNat (packN (B ++ [false]) (B.length / 8) ||| 128 / 2 ^ (B.length % 8))) := by
 refine List.ext_getElem (by simp [packB]) fun i h1 h2 => ?_
 rw [List.getElem_set]
 have e1 : (packB (B ++ [true]))[i] = UInt8.ofNat (packN (B ++ [true]) i) := by simp [packB]
 rw [e1]
 by_cases hi : B.length / 8 = i
 ·rw [if_pos hi, hi]
  congr 1
  subst hi
  refine (orBit (by omega) (fun j hj hj8 => ?_) (fun j hj => ?_)).symm
  ·rw [getD_push0, List.getD_eq_getElem?_getD, List.getElem?_eq_none (by omega)]
   rfl
  ·rw [getD_push, getD_push0]
   by_cases e : j = B.length % 8
   ·rw [if_pos (by omega), if_pos e]
   ·rw [if_neg (by omega), if_neg e]
 ·rw [if_neg hi]
  have e2 : ∀ h, (packB (B ++ [false]))[i]'h = UInt8.ofNat (packN (B ++ [false]) i) := fun h => by simp [packB]
  rw [e2]
  congr 1
  refine byteF_congr fun j hj => ?_
  rw [getD_push, getD_push0, if_neg (by omega)]
theorem packB_see {B : List Bool} {i : Nat} (h : i < B.length) : ∃ h2 : i / 8 < (packB B).length, ((packB B)[i / 8].toNat * 2 ^ (i % 8) % 256) &&& 128 = if B[i] then 128 else 0 := by
 have h2 : i / 8 < (packB B).length := by rw [packB_length]; unfold bytesN; omega
 refine ⟨h2, ?_⟩
 rw [packB_get h2]
 unfold packN
 rw [seeBit (by omega)]
 rw [show 8 * (i / 8) + i % 8 = i by omega, List.getD_eq_getElem?_getD, List.getElem?_eq_getElem h]
 rfl
def numB (B : List Bool) : Nat := B.foldl (fun a b => 2 * a + b.toNat) 0
theorem numB_push (B : List Bool) (b : Bool) : numB (B ++ [b]) = 2 * numB B + b.toNat := by simp [numB]
theorem numB_lt (B : List Bool) : numB B < 2 ^ B.length := by
 suffices hs : ∀ (B : List Bool) (a : Nat), B.foldl (fun a b => 2 * a + b.toNat) a < (a + 1) * 2 ^ B.length by
  have := hs B 0
  rw [Nat.zero_add, Nat.one_mul] at this
  exact this
 intro B
 induction B with
 | nil => intro a; simp
 | cons b B ih =>
  intro a
  refine Nat.lt_of_lt_of_le (ih (2 * a + b.toNat)) ?_
  rw [List.length_cons, Nat.pow_succ, Nat.mul_comm (2 ^ B.length) 2, ← Nat.mul_assoc]
  refine Nat.mul_le_mul_right _ ?_
  have := Bool.toNat_le b
  omega
def bitsN (v k : Nat) : List Bool := (List.range k).map fun j => decide (v / 2 ^ (k - 1 - j) % 2 = 1)
theorem bitsN_length (v k : Nat) : (bitsN v k).length = k := by simp [bitsN]
theorem bitsN_take {v k j : Nat} (h : j < k) : (bitsN v k).take (j + 1) = (bitsN v k).take j ++ [decide (v / 2 ^ (k - 1 - j) % 2 = 1)] := by
 rw [List.take_add_one]
 congr 1
 rw [List.getElem?_eq_getElem (by rw [bitsN_length]; exact h)]
 simp [bitsN]
theorem bitsN_take0 (v k : Nat) : (bitsN v k).take 0 = [] := rfl
theorem bitsN_takeAll (v k : Nat) : (bitsN v k).take k = bitsN v k := List.take_of_length_le (Nat.le_of_eq (bitsN_length v k))
theorem numB_take (v k : Nat) : ∀ j, j ≤ k → numB ((bitsN v k).take j) = v / 2 ^ (k - j) % 2 ^ j
 | 0, _ => by simp [numB, Nat.mod_one]
 | j + 1, h => by
  rw [bitsN_take (by omega), numB_push, numB_take v k j (by omega)]
  obtain ⟨m, hm⟩ : ∃ m, m = v / 2 ^ (k - 1 - j) := ⟨_, rfl⟩
  have e1 : v / 2 ^ (k - j) = m / 2 := by
   rw [hm, Nat.div_div_eq_div_mul, ← Nat.pow_succ]
   congr 2
   omega
  have e2 : v / 2 ^ (k - (j + 1)) = m := by
   rw [hm]
   congr 2
   omega
  rw [e1, e2, ← hm, Nat.pow_succ, Nat.mul_comm (2 ^ j) 2, Nat.mod_mul]
  have e3 : (decide (m % 2 = 1)).toNat = m % 2 := by
   rcases Nat.mod_two_eq_zero_or_one m with h | h <;> rw [h] <;> rfl
  rw [e3]
  omega
theorem numB_bits {v k : Nat} (h : v < 2 ^ k) : numB (bitsN v k) = v := by
 have := numB_take v k k (Nat.le_refl _)
 rw [bitsN_takeAll, Nat.sub_self, Nat.pow_zero, Nat.div_one] at this
 rw [this, Nat.mod_eq_of_lt h]
def zigN (d : Int) : Nat := if 0 ≤ d then (2 * d).toNat else (-2 * d - 1).toNat
def zagI (u : Nat) : Int := if u % 2 = 0 then ((u / 2 : Nat) : Int) else -((u / 2 : Nat) : Int) - 1
theorem zag_zig (d : Int) : zagI (zigN d) = d := by
 unfold zagI zigN
 split <;> split <;> omega
theorem zigN_lt {d : Int} (h : -1099511627776 ≤ d ∧ d ≤ 1099511627776) : zigN d < 2199023255554 := by
 unfold zigN
 split <;> omega
def wd : Nat → Nat
 | 0 => 0
 | 1 => 7
 | 2 => 12
 | 3 => 20
 | _ => 64
def kOf (u : Nat) : Nat := if widthN u ≤ 0 then 0 else if widthN u ≤ 7 then 1 else if widthN u ≤ 12 then 2 else if widthN u ≤ 20 then 3 else 4
theorem kOf_le (u : Nat) : kOf u ≤ 4 := by
 unfold kOf
 repeat' split
 all_goals decide
theorem kOf_fits {u : Nat} (h : u < 18446744073709551616) : u < 2 ^ wd (kOf u) := by
 have h64 := widthN_le (k := 64) (v := u) (by simpa using h)
 have hlt := widthN_lt u
 refine Nat.lt_of_lt_of_le hlt (Nat.pow_le_pow_right (by decide) ?_)
 unfold kOf
 repeat' split
 all_goals simp only [wd]
 all_goals omega
theorem kOf_more {u k : Nat} (hk : k < kOf u) : wd k < widthN u := by
 unfold kOf at hk
 split at hk
 ·omega
 ·split at hk
  ·obtain rfl : k = 0 := by omega
   simp only [wd]
   omega
  ·split at hk
   ·rcases (by omega : k = 0 ∨ k = 1) with rfl | rfl <;> simp only [wd] <;> omega
   ·split at hk
    ·rcases (by omega : k = 0 ∨ k = 1 ∨ k = 2) with rfl | rfl | rfl <;> simp only [wd] <;> omega
    ·rcases (by omega : k = 0 ∨ k = 1 ∨ k = 2 ∨ k = 3) with rfl | rfl | rfl | rfl <;> simp only [wd] <;> omega
theorem kOf_here {u k : Nat} (h : widthN u ≤ wd k) (hk : k ≤ kOf u) : k = kOf u := by
 rcases Nat.lt_or_ge k (kOf u) with h1 | h1
 ·have := kOf_more h1
  omega
 ·omega
theorem wd_le (k : Nat) : wd k ≤ 64 := by
 unfold wd
 split <;> decide
def unaryB (k : Nat) : List Bool := List.replicate k true ++ if k < 4 then [false] else []
def timeB (u : Nat) : List Bool := unaryB (kOf u) ++ bitsN u (wd (kOf u))
def fitsV (x l0 w0 : Nat) : Bool := decide (0 < w0) && (decide (l0 ≤ 64 - widthN x) && decide (64 - l0 - w0 ≤ tailN x))
def valBits (x l0 w0 : Nat) : List Bool :=
 if x = 0 then [false] else if fitsV x l0 w0 then [true, false] ++ bitsN (x / 2 ^ (64 - l0 - w0)) w0
 else [true, true] ++ bitsN (64 - widthN x) 6 ++ bitsN (widthN x - tailN x - 1) 6 ++ bitsN (x / 2 ^ tailN x) (widthN x - tailN x)
def valL (x l0 w0 : Nat) : Nat := if x = 0 then l0 else if fitsV x l0 w0 then l0 else 64 - widthN x
def valW (x l0 w0 : Nat) : Nat := if x = 0 then w0 else if fitsV x l0 w0 then w0 else widthN x - tailN x
theorem valLW {x l0 w0 : Nat} (hx : x < 18446744073709551616) (h : l0 + w0 ≤ 64) : valL x l0 w0 + valW x l0 w0 ≤ 64 := by
 unfold valL valW
 have h64 := widthN_le (k := 64) (v := x) (by simpa using hx)
 repeat' split
 all_goals omega
theorem tailN_div {x t : Nat} (hx : x ≠ 0) (h : t ≤ tailN x) : x / 2 ^ t * 2 ^ t = x := by
 induction t with
 | zero => simp
 | succ t ih =>
  have ih := ih (by omega)
  have hb := tailN_bit hx t (by omega)
  rw [if_pos (by omega)] at hb
  have e : x / 2 ^ (t + 1) = x / 2 ^ t / 2 := by rw [Nat.div_div_eq_div_mul, ← Nat.pow_succ]
  rw [e, Nat.pow_succ, Nat.mul_comm (2 ^ t) 2, ← Nat.mul_assoc]
  have e2 : x / 2 ^ t / 2 * 2 = x / 2 ^ t := by omega
  rw [e2, ih]
theorem div_lt_pow {x t w : Nat} (h : x < 2 ^ (w + t)) : x / 2 ^ t < 2 ^ w := by
 rw [Nat.div_lt_iff_lt_mul (Nat.two_pow_pos t), ← Nat.pow_add]
 exact h
structure XS where
 B : List Bool
 n : Nat
 T : Int
 V : Nat
 st : Int
 l : Nat
 w : Nat
def smpBits (s : XS) (t : Int) (y : Nat) : List Bool := if s.n = 0 then bitsN t.toNat 41 ++ bitsN y 64 else timeB (zigN (t - s.T - s.st)) ++ valBits (y ^^^ s.V) s.l s.w
def smpNext (s : XS) (t : Int) (y : Nat) : XS :=
 if s.n = 0 then ⟨s.B ++ smpBits s t y, 1, t, y, s.st, s.l, s.w⟩ else ⟨s.B ++ smpBits s t y, s.n + 1, t, y, t - s.T, valL (y ^^^ s.V) s.l s.w, valW (y ^^^ s.V) s.l s.w⟩
def xs0 : XS := ⟨[], 0, 0, 0, 0, 0, 0⟩
def chunkX (L : List (Int × Int)) : XS := L.foldl (fun s x => smpNext s x.1 x.2.toNat) xs0
theorem chunkX_push (L : List (Int × Int)) (x : Int × Int) : chunkX (L ++ [x]) = smpNext (chunkX L) x.1 x.2.toNat := by simp [chunkX]
theorem smpNext_n (s : XS) (t : Int) (y : Nat) : (smpNext s t y).n = s.n + 1 ∧ (smpNext s t y).T = t ∧ (smpNext s t y).V = y ∧ (smpNext s t y).B = s.B ++ smpBits s t y := by
 unfold smpNext
 split
 ·rename_i h
  exact ⟨by rw [h], rfl, rfl, rfl⟩
 ·exact ⟨rfl, rfl, rfl, rfl⟩
theorem take_push {α : Type} {L : List α} {k : Nat} (h : k < L.length) : L.take (k + 1) = L.take k ++ [L[k]] := by
 rw [List.take_add_one, List.getElem?_eq_getElem h]
 rfl
theorem chunkX_n (L : List (Int × Int)) : ∀ k, k ≤ L.length → (chunkX (L.take k)).n = k
 | 0, _ => rfl
 | k + 1, h => by
  rw [take_push (by omega), chunkX_push, (smpNext_n _ _ _).1, chunkX_n L k (by omega)]
theorem chunkX_pre (L : List (Int × Int)) {k : Nat} (hk : k ≤ L.length) : ∀ j, k + j ≤ L.length → ∃ R, (chunkX (L.take (k + j))).B = (chunkX (L.take k)).B ++ R
 | 0, _ => ⟨[], by simp⟩
 | j + 1, h => by
  obtain ⟨R, hR⟩ := chunkX_pre L hk j (by omega)
  rw [← Nat.add_assoc, take_push (by omega), chunkX_push, (smpNext_n _ _ _).2.2.2, hR, List.append_assoc]
  exact ⟨_, rfl⟩
theorem chunkX_cut (L : List (Int × Int)) {k : Nat} (h : k < L.length) : ∃ R, (chunkX L).B = (chunkX (L.take k)).B ++ (smpBits (chunkX (L.take k)) L[k].1 L[k].2.toNat ++ R) := by
 obtain ⟨R, hR⟩ := chunkX_pre L (k := k + 1) (by omega) (L.length - (k + 1)) (by omega)
 rw [show k + 1 + (L.length - (k + 1)) = L.length by omega, List.take_length, take_push h, chunkX_push, (smpNext_n _ _ _).2.2.2, List.append_assoc] at hR
 exact ⟨R, hR⟩
theorem unaryB_len {k : Nat} (hk : k ≤ 4) : (unaryB k).length ≤ 4 := by
 unfold unaryB
 rw [List.length_append, List.length_replicate]
 split
 ·show k + 1 ≤ 4
  omega
 ·show k + 0 ≤ 4
  omega
theorem timeB_len (u : Nat) : (timeB u).length ≤ 68 := by
 unfold timeB
 rw [List.length_append, bitsN_length]
 have := unaryB_len (kOf_le u)
 have := wd_le (kOf u)
 omega
theorem valBits_len {x l0 w0 : Nat} (hx : x < 18446744073709551616) (h : l0 + w0 ≤ 64) : (valBits x l0 w0).length ≤ 78 := by
 unfold valBits
 have h64 := widthN_le (k := 64) (v := x) (by simpa using hx)
 repeat' split
 all_goals simp only [List.length_append, bitsN_length, List.length_cons, List.length_nil]
 all_goals omega
theorem smpBits_len {s : XS} {t : Int} {y : Nat} (hy : y < 18446744073709551616) (hV : s.V < 18446744073709551616) (h : s.l + s.w ≤ 64) : (smpBits s t y).length ≤ 146 := by
 unfold smpBits
 split
 ·rw [List.length_append, bitsN_length, bitsN_length]
  omega
 ·rw [List.length_append]
  have := timeB_len (zigN (t - s.T - s.st))
  have := valBits_len (x := y ^^^ s.V) (Nat.xor_lt_two_pow (n := 64) hy hV) h
  omega
theorem chunkX_ok {L : List (Int × Int)} (hL : ∀ x ∈ L, 0 ≤ x.2 ∧ x.2 < 18446744073709551616) : ∀ k, k ≤ L.length → (chunkX (L.take k)).V < 18446744073709551616 ∧ (chunkX (L.take k)).l + (chunkX (L.take k)).w ≤ 64 ∧ (chunkX (L.take k)).B.length ≤ 146 * k
 | 0, _ => ⟨by show 0 < _; decide, by show 0 + 0 ≤ 64; decide, Nat.le_refl 0⟩
 | k + 1, h => by
  obtain ⟨h1, h2, h3⟩ := chunkX_ok hL k (by omega)
  have hx := hL L[k] (List.getElem_mem (by omega))
  have hy : L[k].2.toNat < 18446744073709551616 := by omega
  have hb := smpBits_len (t := L[k].1) hy h1 h2
  obtain ⟨e1, e2, e3, e4⟩ := smpNext_n (chunkX (L.take k)) L[k].1 L[k].2.toNat
  rw [take_push (by omega), chunkX_push, e3, e4, List.length_append]
  refine ⟨hy, ?_, by omega⟩
  unfold smpNext
  split
  ·exact h2
  ·exact valLW (Nat.xor_lt_two_pow (n := 64) hy h1) h2
theorem chunkX_st {L : List (Int × Int)} (hr : L.Pairwise fun a b => a.1 < b.1) (hb : ∀ x ∈ L, 0 ≤ x.1 ∧ x.1 ≤ 1099511627776) : ∀ k, k ≤ L.length → 0 ≤ (chunkX (L.take k)).st ∧ (chunkX (L.take k)).st ≤ 1099511627776 ∧ 0 ≤ (chunkX (L.take k)).T ∧ (chunkX (L.take k)).T ≤ 1099511627776 ∧ (∀ h : k < L.length, 0 < k → (chunkX (L.take k)).T < L[k].1)
 | 0, _ => ⟨by show (0 : Int) ≤ 0; decide, by show (0 : Int) ≤ _; decide, by show (0 : Int) ≤ 0; decide, by show (0 : Int) ≤ _; decide, fun _ h => by omega⟩
 | k + 1, h => by
  obtain ⟨h1, h2, h3, h4, h5⟩ := chunkX_st hr hb k (by omega)
  have hx := hb L[k] (List.getElem_mem (by omega))
  obtain ⟨e1, e2, e3, e4⟩ := smpNext_n (chunkX (L.take k)) L[k].1 L[k].2.toNat
  have hn := chunkX_n L k (by omega)
  rw [take_push (by omega), chunkX_push, e2]
  refine ⟨?_, ?_, hx.1, hx.2, fun hk _ => List.pairwise_iff_getElem.1 hr k (k + 1) (by omega) hk (by omega)⟩
  ·unfold smpNext
   split
   ·exact h1
   ·rename_i h0
    have := h5 (by omega) (by omega)
    show 0 ≤ L[k].1 - _
    omega
  ·unfold smpNext
   split
   ·exact h2
   ·show L[k].1 - _ ≤ _
    omega
def xorL (L : List (Int × Int)) : List UInt8 := lebL L.length ++ lebL (chunkX L).B.length ++ packB (chunkX L).B
def Rd (B : List Bool) (a : Nat) (X : List Bool) : Prop := ∃ P R, B = P ++ (X ++ R) ∧ P.length = a
theorem Rd.app {B X Y : List Bool} {a : Nat} (h : Rd B a (X ++ Y)) : Rd B a X ∧ Rd B (a + X.length) Y := by
 obtain ⟨P, R, h1, h2⟩ := h
 exact ⟨⟨P, Y ++ R, by rw [h1, List.append_assoc], h2⟩, ⟨P ++ X, R, by rw [h1, List.append_assoc, List.append_assoc], by rw [List.length_append, h2]⟩⟩
theorem Rd.cons {B X : List Bool} {a : Nat} {b : Bool} (h : Rd B a (b :: X)) : Rd B a [b] ∧ Rd B (a + 1) X := Rd.app (X := [b]) h
theorem Rd.le {B X : List Bool} {a : Nat} (h : Rd B a X) : a + X.length ≤ B.length := by
 obtain ⟨P, R, h1, h2⟩ := h
 rw [h1, List.length_append, List.length_append]
 omega
theorem Rd.at_ {B X : List Bool} {a j : Nat} (h : Rd B a X) (hj : j < X.length) : B[a + j]? = some X[j] := by
 obtain ⟨P, R, h1, h2⟩ := h
 rw [h1, List.getElem?_append_right (by omega), h2, Nat.add_sub_cancel_left, List.getElem?_append_left hj, List.getElem?_eq_getElem hj]
theorem Rd.bit {B : List Bool} {a : Nat} {b : Bool} (h : Rd B a [b]) : ∃ hl : a < B.length, B[a] = b := by
 have h1 := h.le
 have h2 := h.at_ (j := 0) (Nat.zero_lt_one)
 have hl : a < B.length := by simp at h1; omega
 refine ⟨hl, ?_⟩
 rw [Nat.add_zero, List.getElem?_eq_getElem hl] at h2
 exact Option.some.inj h2
theorem rd_val {x t w : Nat} (hx0 : x ≠ 0) (ht : t ≤ tailN x) (hw : widthN x ≤ w + t) : numB (bitsN (x / 2 ^ t) w) * 2 ^ t = x := by
 rw [numB_bits (div_lt_pow (Nat.lt_of_lt_of_le (widthN_lt x) (Nat.pow_le_pow_right (by decide) hw))), tailN_div hx0 ht]
theorem fits_parts {x l0 w0 : Nat} (h : fitsV x l0 w0 = true) : 0 < w0 ∧ l0 ≤ 64 - widthN x ∧ 64 - l0 - w0 ≤ tailN x := by
 unfold fitsV at h
 simp only [Bool.and_eq_true, decide_eq_true_eq] at h
 exact h
theorem rd_fits {x l0 w0 : Nat} (hx : x < 18446744073709551616) (hx0 : x ≠ 0) (hlw : l0 + w0 ≤ 64) (h : fitsV x l0 w0 = true) : numB (bitsN (x / 2 ^ (64 - l0 - w0)) w0) * 2 ^ (64 - l0 - w0) = x := by
 obtain ⟨h1, h2, h3⟩ := fits_parts h
 have h64 := widthN_le (k := 64) (v := x) (by simpa using hx)
 exact rd_val hx0 h3 (by omega)
theorem rd_new {x : Nat} (hx : x < 18446744073709551616) (hx0 : x ≠ 0) : numB (bitsN (x / 2 ^ tailN x) (widthN x - tailN x)) * 2 ^ tailN x = x ∧ numB (bitsN (64 - widthN x) 6) = 64 - widthN x ∧ numB (bitsN (widthN x - tailN x - 1) 6) = widthN x - tailN x - 1 ∧ 0 < widthN x - tailN x ∧ widthN x ≤ 64 := by
 have h64 := widthN_le (k := 64) (v := x) (by simpa using hx)
 have hp := widthN_pos hx0
 have ht := tailN_lt hx0
 exact ⟨rd_val hx0 (Nat.le_refl _) (by omega), numB_bits (by show _ < 64; omega), numB_bits (by show _ < 64; omega), by omega, h64⟩
theorem xor_back (y V : Nat) : V ^^^ (y ^^^ V) = y := by
 rw [Nat.xor_comm y V, ← Nat.xor_assoc, Nat.xor_self, Nat.zero_xor]
end Go.Proofs.YtgcfkhcogllgfaaGreatDoor
