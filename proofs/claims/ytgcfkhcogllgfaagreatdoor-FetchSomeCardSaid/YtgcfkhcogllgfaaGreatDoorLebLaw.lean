/-
  Plain laws of numbers as bytes (seven bits a byte, the lowest first), and of taking them again. No program in sight.
  No condition beyond those that each theorem states.

  Plain laws of sums (bit by bit) and of records, each with a kind and a sum. No program in sight.
  No condition beyond those that each theorem states.

  Plain laws of blocks' names: eight digits of a tick, eight of a number. No program in sight.
  No condition beyond those that each theorem states.

  Numbers and texts as bytes (leb): Uint, Text, TakeUint, TakeMost, TakeText, TakeByte.
  Each contract holds in every world; old memory is left as it was.

  Texts as bytes (leb): Text, TakeText, TakeByte.
  Each contract holds in every world; old memory is left as it was.
-/
import Derived.Lib.AppendStr
import Derived.Test.YtgcfkhcogllgfaaGreatDoorBuf
import Derived.LoopTactic
import Derived.Deep.LoopGhost
import Derived.IntWalk
import Derived.BigQuiet
import Derived.Deep.QuietTactic
import Derived.Laws.BitsLemmas
import Derived.Lib.VarintBits
namespace Go.Proofs.YtgcfkhcogllgfaaGreatDoor
set_option maxRecDepth 100000
set_option maxHeartbeats 1000000
def lebL (v : Nat) : List UInt8 := if v < 128 then [UInt8.ofNat v] else UInt8.ofNat (v % 128 + 128) :: lebL (v / 128)
termination_by v
decreasing_by omega
def takeL : List UInt8 → Nat → Nat → Nat × List UInt8 × Int
 | [], _, _ => (0, [], 2)
 | c :: l, i, v =>
  if i = 9 ∧ 1 < c.toNat then (0, [], 3)
  else if c.toNat < 128 then (if c.toNat = 0 ∧ 0 < i then (0, [], 3) else (v + c.toNat % 128 * 2 ^ (7 * i), l, 0))
  else takeL l (i + 1) (v + c.toNat % 128 * 2 ^ (7 * i))
def takeU (l : List UInt8) : Nat × List UInt8 × Int := takeL l 0 0
theorem lebL_small {v : Nat} (h : v < 128) : lebL v = [UInt8.ofNat v] := by rw [lebL, if_pos h]
theorem lebL_big {v : Nat} (h : ¬ v < 128) : lebL v = UInt8.ofNat (v % 128 + 128) :: lebL (v / 128) := by rw [lebL, if_neg h]
theorem lebL_len : ∀ (k v : Nat), v < 128 ^ (k + 1) → (lebL v).length ≤ k + 1
 | 0, v, h => by rw [lebL_small (by simpa using h)]; simp
 | k + 1, v, h => by
  by_cases hv : v < 128
  ·rw [lebL_small hv]; simp
  ·rw [lebL_big hv, List.length_cons]
   have := lebL_len k (v / 128) (by rw [Nat.div_lt_iff_lt_mul (by decide)]; rw [Nat.pow_succ] at h; exact h)
   omega
theorem lebL_len10 {v : Nat} (h : v < 18446744073709551616) : (lebL v).length ≤ 10 := lebL_len 9 v (Nat.lt_of_lt_of_le h (by decide))
theorem takeL_lt {l : List UInt8} {i v : Nat} (hi : i ≤ 9) (hv : v < 2 ^ (7 * i)) : (takeL l i v).1 < 18446744073709551616 := by
 induction l generalizing i v with
 | nil => simp [takeL]
 | cons c l ih =>
  unfold takeL
  have hp : 0 < 2 ^ (7 * i) := Nat.pow_pos (by decide)
  split
  ·simp
  ·rename_i h9
   split
   ·split
    ·simp
    ·simp only
     rename_i hc _
     rw [Nat.mod_eq_of_lt hc]
     by_cases hi9 : i = 9
     ·subst hi9
      have : c.toNat ≤ 1 := by omega
      have h2 : c.toNat * 2 ^ (7 * 9) ≤ 1 * 2 ^ (7 * 9) := Nat.mul_le_mul_right _ this
      have e : (2 : Nat) ^ (7 * 9) = 9223372036854775808 := by decide
      rw [e] at *
      omega
     ·have h2 : c.toNat * 2 ^ (7 * i) + 2 ^ (7 * i) ≤ 128 * 2 ^ (7 * i) := by
       rw [← Nat.succ_mul]; exact Nat.mul_le_mul_right _ (by omega)
      have h3 : 128 * 2 ^ (7 * i) ≤ 2 ^ 63 := by
       rw [show (128 : Nat) = 2 ^ 7 from rfl, ← Nat.pow_add]
       exact Nat.pow_le_pow_right (by decide) (by omega)
      have e : (2 : Nat) ^ 63 = 9223372036854775808 := by decide
      omega
   ·rename_i hc
    have hi9 : i ≠ 9 := by omega
    refine ih (by omega) ?_
    have h2 : c.toNat % 128 * 2 ^ (7 * i) + 2 ^ (7 * i) ≤ 128 * 2 ^ (7 * i) := by
     rw [← Nat.succ_mul]; exact Nat.mul_le_mul_right _ (by omega)
    have h3 : 128 * 2 ^ (7 * i) = 2 ^ (7 * (i + 1)) := by
     rw [show (128 : Nat) = 2 ^ 7 from rfl, ← Nat.pow_add]; congr 1; omega
    omega
theorem takeU_lt (l : List UInt8) : (takeU l).1 < 18446744073709551616 := takeL_lt (by decide) (by decide)
theorem takeL_err {l : List UInt8} : ∀ {i v : Nat}, (takeL l i v).2.2 ≠ 0 → (takeL l i v).1 = 0 ∧ (takeL l i v).2.1 = [] := by
 induction l with
 | nil => intro i v _; simp [takeL]
 | cons c l ih =>
  intro i v
  unfold takeL
  split
  ·intro _; simp
  ·split
   ·split
    ·intro _; simp
    ·intro h; simp at h
   ·exact ih
theorem takeL_left {l : List UInt8} : ∀ {i v : Nat}, (takeL l i v).2.1.length ≤ l.length := by
 induction l with
 | nil => intro i v; simp [takeL]
 | cons c l ih =>
  intro i v
  unfold takeL
  split
  ·simp
  ·split
   ·split <;> simp
   ·have := @ih (i + 1) (v + c.toNat % 128 * 2 ^ (7 * i))
    simp only [List.length_cons]; omega
theorem takeL_leb : ∀ (k m i v : Nat) (l : List UInt8), m < 128 ^ (k + 1) → i + k ≤ 8 ∨ (i + k ≤ 9 ∧ m < 2 * 128 ^ k) → (0 < m ∨ i = 0) → takeL (lebL m ++ l) i v = (v + m * 2 ^ (7 * i), l, 0) := by
 intro k
 induction k with
 | zero =>
  intro m i v l hm hik h0
  have hm' : m < 128 := by simpa using hm
  rw [lebL_small hm']
  have hb : (UInt8.ofNat m).toNat = m := by simp; omega
  simp only [List.singleton_append, takeL]
  rw [hb, if_neg (by omega), if_pos hm', if_neg (by omega), Nat.mod_eq_of_lt hm']
 | succ k ih =>
  intro m i v l hm hik h0
  by_cases hs : m < 128
  ·rw [lebL_small hs]
   have hb : (UInt8.ofNat m).toNat = m := by simp; omega
   simp only [List.singleton_append, takeL]
   rw [hb, if_neg (by omega), if_pos hs, if_neg (by omega), Nat.mod_eq_of_lt hs]
  ·rw [lebL_big hs]
   have hb : (UInt8.ofNat (m % 128 + 128)).toNat = m % 128 + 128 := by simp; omega
   simp only [List.cons_append, takeL]
   rw [hb, if_neg (by omega), if_neg (by omega)]
   rw [ih (m / 128) (i + 1) _ l (by rw [Nat.div_lt_iff_lt_mul (by decide)]; rw [Nat.pow_succ] at hm; exact hm) ?_ (.inl (by omega))]
   ·refine Prod.ext ?_ rfl
    simp only
    have e1 : (m % 128 + 128) % 128 = m % 128 := by omega
    have e2 : 2 ^ (7 * (i + 1)) = 128 * 2 ^ (7 * i) := by rw [Nat.mul_add, Nat.pow_add, Nat.mul_comm]
    rw [e1, e2, ← Nat.mul_assoc, Nat.add_assoc, ← Nat.add_mul]
    congr 2
    omega
   ·rcases hik with h | ⟨h1, h2⟩
    ·exact .inl (by omega)
    ·refine .inr ⟨by omega, ?_⟩
     rw [Nat.div_lt_iff_lt_mul (by decide), Nat.mul_assoc, ← Nat.pow_succ]
     exact h2
theorem takeU_leb {m : Nat} (l : List UInt8) (hm : m < 18446744073709551616) : takeU (lebL m ++ l) = (m, l, 0) := by
 have h := takeL_leb 9 m 0 0 l (Nat.lt_of_lt_of_le hm (by decide)) (.inr ⟨by decide, Nat.lt_of_lt_of_le hm (by decide)⟩) (.inr rfl)
 simpa [takeU] using h
def takeM (l : List UInt8) (most : Int) : Int × List UInt8 × Int :=
 if (takeU l).2.2 = 0 ∧ max most 0 < ((takeU l).1 : Int) then (0, [], 16) else ((takeU l).1, (takeU l).2.1, (takeU l).2.2)
theorem takeM_leb {m : Nat} (l : List UInt8) {most : Int} (hm : (m : Int) ≤ most) (hmost : most ≤ 9223372036854775807) : takeM (lebL m ++ l) most = ((m : Int), l, 0) := by
 unfold takeM
 rw [takeU_leb l (by omega)]
 rw [if_neg (by simp only; omega)]
theorem takeM_bounds (l : List UInt8) {most : Int} (hmost : most ≤ 9223372036854775807) : 0 ≤ (takeM l most).1 ∧ (takeM l most).1 ≤ max most 0 ∧ (takeM l most).2.1.length ≤ l.length := by
 have h0 := @takeL_left l 0 0
 unfold takeM
 split
 ·simp; omega
 ·rename_i h
  by_cases he : (takeU l).2.2 = 0
  ·refine ⟨by simp only; omega, by simp only; omega, h0⟩
  ·have := takeL_err he
   refine ⟨by simp only; omega, ?_, h0⟩
   show ((takeL l 0 0).1 : Int) ≤ _
   rw [this.1]; omega
theorem takeM_err {l : List UInt8} {most : Int} (h : (takeM l most).2.2 ≠ 0) : (takeM l most).1 = 0 ∧ (takeM l most).2.1 = [] := by
 unfold takeM at h ⊢
 split
 ·exact ⟨rfl, rfl⟩
 ·rename_i h1
  rw [if_neg h1] at h
  have := takeL_err h
  exact ⟨by simp only; exact congrArg Int.ofNat this.1, this.2⟩
def takeT (l : List UInt8) (most : Int) : List UInt8 × List UInt8 × Int :=
 if (takeM l most).2.2 ≠ 0 then ([], [], (takeM l most).2.2)
 else if ((takeM l most).2.1.length : Int) < (takeM l most).1 then ([], [], 2)
 else ((takeM l most).2.1.take (takeM l most).1.toNat, (takeM l most).2.1.drop (takeM l most).1.toNat, 0)
def textL (s : List UInt8) : List UInt8 := lebL s.length ++ s
theorem takeT_text (s l : List UInt8) {most : Int} (hm : (s.length : Int) ≤ most) (hmost : most ≤ 9223372036854775807) : takeT (textL s ++ l) most = (s, l, 0) := by
 unfold takeT textL
 rw [List.append_assoc, takeM_leb (s ++ l) hm hmost]
 simp
 omega
def crcBit (c b : Nat) : Nat := if (c + b) % 2 = 1 then (c / 2) ^^^ 2197175160 else c / 2
def crcK (c b : Nat) : Nat → Nat
 | 0 => c
 | k + 1 => crcBit (crcK c b k) (b / 2 ^ k)
def crcL (c : Nat) (l : List UInt8) : Nat := l.foldl (fun c x => crcK c x.toNat 8) c
def moreN (sum : Nat) (l : List UInt8) : Nat := 4294967295 - crcL (4294967295 - sum) l
theorem crcBit_lt {c : Nat} (b : Nat) (h : c < 4294967296) : crcBit c b < 4294967296 := by
 unfold crcBit
 split
 ·exact Nat.xor_lt_two_pow (n := 32) (by omega) (by decide)
 ·omega
theorem crcK_lt {c : Nat} (b : Nat) (h : c < 4294967296) : ∀ k, crcK c b k < 4294967296
 | 0 => h
 | k + 1 => crcBit_lt _ (crcK_lt b h k)
theorem crcL_lt : ∀ (l : List UInt8) {c : Nat}, c < 4294967296 → crcL c l < 4294967296
 | [], _, h => h
 | x :: l, _, h => crcL_lt l (crcK_lt x.toNat h 8)
theorem crcL_append (c : Nat) (a b : List UInt8) : crcL c (a ++ b) = crcL (crcL c a) b := by simp [crcL, List.foldl_append]
theorem moreN_lt (s : Nat) (l : List UInt8) : moreN s l < 4294967296 := by unfold moreN; omega
theorem moreN_more (s : Nat) (a b : List UInt8) : moreN (moreN s a) b = moreN s (a ++ b) := by
 have := crcL_lt a (c := 4294967295 - s) (by omega)
 unfold moreN
 rw [crcL_append]
 congr 2
 omega
def le4 (n : Nat) : List UInt8 := [UInt8.ofNat (n % 256), UInt8.ofNat (n / 256 % 256), UInt8.ofNat (n / 65536 % 256), UInt8.ofNat (n / 16777216 % 256)]
def un4 (l : List UInt8) : Nat := (l.getD 0 0).toNat + 256 * (l.getD 1 0).toNat + 65536 * (l.getD 2 0).toNat + 16777216 * (l.getD 3 0).toNat
theorem un4_le4 {n : Nat} (l : List UInt8) (h : n < 4294967296) : un4 (le4 n ++ l) = n := by
 simp [un4, le4]
 omega
def frameL (k : UInt8) (d : List UInt8) : List UInt8 := k :: (lebL d.length ++ (le4 (moreN 0 (k :: d)) ++ d))
def nextF (l : List UInt8) : UInt8 × List UInt8 × List UInt8 × Int :=
 match l with
 | [] => (0, [], [], 2)
 | k :: r =>
  if (takeM r 1048576).2.2 ≠ 0 then (0, [], [], (takeM r 1048576).2.2)
  else if ((takeM r 1048576).2.1.length : Int) < 4 + (takeM r 1048576).1 then (0, [], [], 2)
  else if moreN 0 (k :: ((takeM r 1048576).2.1.drop 4).take (takeM r 1048576).1.toNat) ≠ un4 (takeM r 1048576).2.1 then (0, [], [], 4)
  else (k, ((takeM r 1048576).2.1.drop 4).take (takeM r 1048576).1.toNat, (takeM r 1048576).2.1.drop (4 + (takeM r 1048576).1.toNat), 0)
theorem nextF_frame (k : UInt8) (d l : List UInt8) (h : d.length ≤ 1048576) : nextF (frameL k d ++ l) = (k, d, l, 0) := by
 unfold frameL nextF
 simp only [List.cons_append, List.append_assoc]
 rw [takeM_leb (most := 1048576) (le4 (moreN 0 (k :: d)) ++ (d ++ l)) (by omega) (by decide)]
 have h4 : (le4 (moreN 0 (k :: d))).length = 4 := rfl
 have hd : (le4 (moreN 0 (k :: d)) ++ (d ++ l)).drop 4 = d ++ l := List.drop_left' h4
 simp only [ne_eq, not_true_eq_false, if_false, Int.toNat_natCast]
 rw [if_neg (by simp only [List.length_append, h4]; omega), hd, List.take_left, un4_le4 _ (moreN_lt _ _), if_neg (fun h => h rfl), ← List.drop_drop, hd, List.drop_left]
theorem frameL_len (k : UInt8) (d : List UInt8) : (frameL k d).length = 5 + (lebL d.length).length + d.length := by
 simp [frameL, le4]; omega
def signL : List UInt8 := [48, 49, 50, 51, 52, 53, 54, 55, 56, 57, 97, 98, 99, 100, 101, 102, 103, 104, 106, 107, 109, 110, 112, 113, 114, 115, 116, 118, 119, 120, 121, 122]
def signAt (k : Nat) : UInt8 := signL.getD k 0
def digL : Nat → Nat → List UInt8
 | 0, _ => []
 | k + 1, n => digL k (n / 32) ++ [signAt (n % 32)]
def identL (tick seq : Nat) : List UInt8 := digL 8 tick ++ digL 8 seq
theorem digL_len : ∀ k n, (digL k n).length = k
 | 0, _ => rfl
 | k + 1, n => by simp [digL, digL_len k]
theorem identL_len (t s : Nat) : (identL t s).length = 16 := by simp [identL, digL_len]
def numIx (c : UInt8) : Option Nat := signL.findIdx? (· == c)
def numL : List UInt8 → Nat → Option Nat
 | [], n => some n
 | c :: l, n => match numIx c with
  | none => none
  | some k => numL l (n * 32 + k)
theorem numL_append (a b : List UInt8) : ∀ n, numL (a ++ b) n = (numL a n).bind (numL b) := by
 induction a with
 | nil => intro n; rfl
 | cons c a ih =>
  intro n
  simp only [List.cons_append, numL]
  cases numIx c with
  | none => rfl
  | some k => exact ih _
theorem numIx_sign : ∀ k, k < 32 → numIx (signAt k) = some k := by decide
theorem numIx_lt {c : UInt8} {k : Nat} (h : numIx c = some k) : k < 32 := by
 have := (List.findIdx?_eq_some_iff_getElem.1 h).1
 simpa [signL] using this
theorem numL_dig : ∀ k n m, numL (digL k n) m = some (m * 32 ^ k + n % 32 ^ k)
 | 0, n, m => by simp [digL, numL, Nat.mod_one]
 | k + 1, n, m => by
  rw [digL, numL_append, numL_dig k]
  simp only [Option.bind_some, numL]
  rw [numIx_sign _ (Nat.mod_lt _ (by decide))]
  simp only [Option.some.injEq]
  rw [Nat.pow_succ, Nat.mul_comm (32 ^ k) 32, Nat.mod_mul, Nat.add_mul, Nat.mul_comm (n / 32 % 32 ^ k) 32, Nat.mul_assoc, Nat.mul_comm 32 (32 ^ k)]
  omega
def parseL (l : List UInt8) : Option (Nat × Nat) :=
 if l.length ≠ 16 then none else
 match numL (l.take 8) 0, numL (l.drop 8) 0 with
 | some a, some b => some (a, b)
 | _, _ => none
theorem parseL_ident {t s : Nat} (ht : t < 1099511627776) (hs : s < 1099511627776) : parseL (identL t s) = some (t, s) := by
 unfold parseL
 rw [identL_len, if_neg (fun h => h rfl)]
 have h1 : (identL t s).take 8 = digL 8 t := List.take_left' (digL_len 8 t)
 have h2 : (identL t s).drop 8 = digL 8 s := List.drop_left' (digL_len 8 t)
 have e : (32 : Nat) ^ 8 = 1099511627776 := by decide
 rw [h1, h2, numL_dig, numL_dig, Nat.zero_mul, Nat.zero_add, Nat.zero_add, e, Nat.mod_eq_of_lt ht, Nat.mod_eq_of_lt hs]
/-! ## Names rise as their numbers do -/
open Go.Op (bytesLess)
theorem less_irrefl : ∀ l, bytesLess l l = false
 | [] => rfl
 | a :: l => by simp [bytesLess, less_irrefl l]
theorem less_asymm : ∀ {a b : List UInt8}, bytesLess a b = true → bytesLess b a = false
 | [], [], h => by simp [bytesLess] at h
 | [], _ :: _, _ => rfl
 | _ :: _, [], h => by simp [bytesLess] at h
 | a :: l, b :: m, h => by
  simp only [bytesLess, Bool.or_eq_true, decide_eq_true_eq, Bool.and_eq_true, beq_iff_eq, Bool.or_eq_false_iff, decide_eq_false_iff_not, Bool.and_eq_false_imp] at h ⊢
  rcases h with h | ⟨rfl, h2⟩
  ·exact ⟨UInt8.lt_asymm h, fun e => absurd h (by rw [e]; exact UInt8.lt_irrefl _)⟩
  ·exact ⟨UInt8.lt_irrefl _, fun _ => less_asymm h2⟩
theorem less_ne {a b : List UInt8} (h : bytesLess a b = true) : a ≠ b := by
 rintro rfl
 rw [less_irrefl] at h
 cases h
theorem leq_false {a b : List UInt8} (h : bytesLess a b = true) : (bytesLess b a || b == a) = false := by
 rw [less_asymm h]
 simpa using fun e => less_ne h e.symm
open Go Go.RowKit
theorem or128 : ∀ x : Nat, x < 256 → bits .or .u8 (x : Int) 128 = ((x % 128 + 128 : Nat) : Int) := by decide +kernel
theorem or128' (m : Nat) : bits .or .u8 ((m : Int) % 256) 128 = (((UInt8.ofNat (m % 128 + 128)).toNat : Nat) : Int) := by
 have h := or128 (m % 256) (Nat.mod_lt _ (by decide))
 rw [show ((m : Int) % 256) = ((m % 256 : Nat) : Int) from by omega, h]
 simp
 try omega
theorem ofNat_low {m : Nat} (h : m < 128) : bytesV [UInt8.ofNat m] = [.int .u8 (m : Int)] := by simp [bytesV]; omega
def lebRel (v0 : Value) (w : World) (l : List UInt8) (n : Nat) (gk : Nat) (b u : Value) (wr : World) : Prop :=
 ∃ (m : Nat) (p : List UInt8), gk = m ∧ u = .int .u64 m ∧ m < 18446744073709551616 ∧ p ++ lebL m = lebL n ∧ Buf wr b (l ++ p) ∧ Turns v0 w b wr
theorem uint_spec (w : World) (v : Value) (l : List UInt8) (n : Nat) (hn : n < 18446744073709551616) (hl : l.length ≤ 140737488355000) (h : Buf w v l) :
  Calls Tryz.prog 97 #[v, .int .u64 n] w (BufPost w v (l ++ lebL n)) := by
 have Hlen := lebL_len10 hn
 have H := Lib.hid h
 clear h
 go_enter Tryz.func97, Tryz.ntmps97
 go_wp2_with fail
 go_loopg [0, 1] n (lebRel v w l n)
 case atStart => exact ⟨n, [], rfl, rfl, hn, rfl, by simpa using H.out, Turns.refl _ _⟩
 case round =>
  obtain ⟨m, p, hg, rfl, hm, hp, hb, ht⟩ := hrel
  have Hg := Lib.hid hg
  have Hp := Lib.hid hp
  have hpl : p.length + (lebL m).length = (lebL n).length := by rw [← hp, List.length_append]
  clear hg hp
  by_cases hs : 127 < m
  ·have h1 : (127 : Int) < (m : Int) := by omega
   have hor := or128' m
   have hx := congrArg List.length (lebL_big (v := m) (by omega))
   rw [List.length_cons] at hx
   have Hb := Lib.hid (And.intro hb ht)
   have Hx := Lib.hid (lebL_big (v := m) (by omega))
   have hll : (l ++ p).length = l.length + p.length := List.length_append
   have Hll := Lib.hid hll
   clear hb ht hll
   go_wp2_with (at_builtin; refine buf_append rfl (.tmp 9) (.tmp 13) rfl u0 (l ++ p) rfl (Hb.out.1.same ((Keeps.refl [] wr).alloc _)) ⟨wr.heap.size, 0, none⟩ 1 1 [UInt8.ofNat (m % 128 + 128)] rfl rfl (cells_new (heap_new wr _)) (by rw [Hll.out]; omega) ?_; intro v' w' hb' ht')
   have ht2 := Hb.out.2.trans (Turns.since ((Keeps.refl [] wr).alloc _) ht')
   go_roundg (m / 128)
   case measure => have := Hg.out; omega
   case rel => exact ⟨m / 128, p ++ [UInt8.ofNat (m % 128 + 128)], rfl, by first | rfl | go_num, by omega, by rw [← Hp.out, Hx.out]; simp, by rw [← List.append_assoc]; exact hb', ht2⟩
  ·have h1 : ¬ (127 : Int) < (m : Int) := by omega
   have He := Lib.hid (ofNat_low (m := m) (by omega))
   have Hx := Lib.hid (lebL_small (v := m) (by omega))
   have hpl2 : p.length + 1 ≤ 10 := by have := congrArg List.length Hx.out; simp at this; omega
   have Hll := Lib.hid (show (l ++ p).length = l.length + p.length from List.length_append)
   have Hb := Lib.hid (And.intro hb ht)
   clear hb ht hpl
   go_wp2_with (at_builtin; refine buf_append rfl (.tmp 15) (.tmp 18) rfl u0 (l ++ p) rfl (Hb.out.1.same ((Keeps.refl [] wr).alloc _)) ⟨wr.heap.size, 0, none⟩ 1 1 [UInt8.ofNat m] rfl rfl (by rw [He.out]; exact cells_new (heap_new wr _)) (by rw [Hll.out]; omega) ?_; intro v' w' hb' ht')
   go_ret
   exact ⟨_, rfl, by rw [← Hp.out, Hx.out, ← List.append_assoc]; exact hb', Hb.out.2.trans (Turns.since ((Keeps.refl [] wr).alloc _) ht')⟩
/-! ## Taking a number -/
theorem or_take {v c k : Nat} (hv : v < 2 ^ (7 * k)) (hk : k < 9 ∨ k = 9 ∧ c ≤ 1) :
  bits .or .u64 (v : Int) (IntKind.u64.wrap ((c : Int) % 128 * 2 ^ (7 * k))) = ((v + c % 128 * 2 ^ (7 * k) : Nat) : Int) := by
 have hb : c % 128 * 2 ^ (7 * k) < 18446744073709551616 := by
  rcases hk with h | ⟨rfl, h⟩
  ·have h1 : c % 128 * 2 ^ (7 * k) ≤ 127 * 2 ^ (7 * 8) := Nat.mul_le_mul (by omega) (Nat.pow_le_pow_right (by decide) (by omega))
   exact Nat.lt_of_le_of_lt h1 (by decide)
  ·have h1 : c % 128 * 2 ^ (7 * 9) ≤ 1 * 2 ^ (7 * 9) := Nat.mul_le_mul (by omega) (Nat.le_refl _)
   exact Nat.lt_of_le_of_lt h1 (by decide)
 have hv' : v < 18446744073709551616 := Nat.lt_of_lt_of_le hv (Nat.le_trans (Nat.pow_le_pow_right (by decide) (show 7 * k ≤ 64 by omega)) (by decide))
 have e : ((c : Int) % 128 * 2 ^ (7 * k)) = ((c % 128 * 2 ^ (7 * k) : Nat) : Int) := by simp
 rw [e, IntWalk.u64_in _ (by omega), bits_or_u64_nat v _ hv' hb]
 congr 1
 have h := Nat.two_pow_add_eq_or_of_lt hv (c % 128)
 rw [Nat.mul_comm, Nat.or_comm, ← h]
 omega
def takeVals (r : Nat × List UInt8 × Int) : Value := .tuple #[.int .u64 r.1, .string ⟨r.2.1.toArray⟩, .int .i64 r.2.2]
def takeRel (s : ByteArray) (w : World) (gk : Nat) (u5 u10 : Value) (wr : World) : Prop :=
 ∃ k v : Nat, gk = s.size - k ∧ k ≤ s.size ∧ k ≤ 9 ∧ u10 = .int .i64 k ∧ u5 = .int .u64 v ∧ v < 2 ^ (7 * k) ∧ takeL (s.data.toList.drop k) k v = takeU s.data.toList ∧ wr = w
theorem extract_end (s : ByteArray) (k : Nat) : s.extract k s.size = ⟨(s.data.toList.drop k).toArray⟩ := by
 apply ba_ext
 simp only [ByteArray.data_extract, Array.toList_extract, List.extract_eq_take_drop]
 exact List.take_of_length_le (by simp)
theorem takeUint_spec (w : World) (s : ByteArray) (hs : s.size ≤ maxLen) :
  Calls Tryz.prog 139 #[.string s] w fun e w' => e = .returned (takeVals (takeU s.data.toList)) ∧ ∃ n, w' = w.drewN n := by
 unfold maxLen at hs
 have hsl : s.data.toList.length = s.size := by simp
 go_enter Tryz.func139, Tryz.ntmps139
 go_wp2_with fail
 go_loopg [5, 10] s.size (takeRel s w)
 case atStart => exact ⟨0, 0, rfl, Nat.zero_le _, by decide, rfl, rfl, by decide, rfl, rfl⟩
 case round =>
  obtain ⟨k, v, hg, hk, hk9, rfl, rfl, hv, hT, rfl⟩ := hrel
  have Hg := Lib.hid hg
  by_cases hlt : k < s.size
  ·have hlt' : (k : Int) < (s.size : Int) := by omega
   have hcl : s[k].toNat < 256 := UInt8.toNat_lt _
   have hand : bits .and .u8 (s[k].toNat : Int) 127 = (s[k].toNat : Int) % 128 := u8_and127 _ (by omega) (by omega)
   rw [List.drop_eq_getElem_cons (by omega)] at hT
   have hsk : s.data.toList[k] = s[k] := rfl
   rw [hsk] at hT
   unfold takeL at hT
   have Hsl := Lib.hid hsl
   clear hg hsl hsk
   by_cases hA : k = 9 ∧ 1 < s[k].toNat
   ·rw [if_pos hA] at hT
    have HT := Lib.hid hT
    have e9 : ((k : Int) == 9) = true := by rw [beq_iff_eq]; omega
    have e1 : (1 : Int) < (s[k].toNat : Int) := by omega
    clear hT hA hand hv
    go_wp2_with fail
    go_ret3
    exact ⟨by rw [← HT.out]; rfl, 0, rfl⟩
   ·rw [if_neg hA] at hT
    have hor := or_take (v := v) (c := s[k].toNat) (k := k) hv (by omega)
    by_cases hc : s[k].toNat < 128
    ·rw [if_pos hc] at hT
     have e3 : (s[k].toNat : Int) < 128 := by omega
     by_cases h0 : s[k].toNat = 0 ∧ 0 < k
     ·rw [if_pos h0] at hT
      have HT := Lib.hid hT
      have e4 : ((s[k].toNat : Int) == 0) = true := by rw [beq_iff_eq]; omega
      have e5 : (0 : Int) < (k : Int) := by omega
      have e6 : 0 < k := h0.2
      have e7 : decide ((1 : Int) < (s[k].toNat : Int)) = false := by rw [decide_eq_false_iff_not]; omega
      clear hT hv h0 hA
      go_wp2_with fail
      all_goals
       go_ret3
       exact ⟨by rw [← HT.out]; rfl, 0, rfl⟩
     ·rw [if_neg h0] at hT
      have Hex := Lib.hid (extract_end s (k + 1))
      have hadd : IntKind.i64.wrap ((k : Int) + 1) = (k : Int) + 1 := IntWalk.i64_in _ (by omega)
      have hadd2 : ((k : Int) + 1).toNat = k + 1 := by omega
      have hadd3 : (k : Int) + 1 ≤ (s.size : Int) := by omega
      have hadd4 : (0 : Int) ≤ (k : Int) + 1 := by omega
      clear hv
      by_cases hk0 : k = 0
      ·have e5 : decide ((0 : Int) < (k : Int)) = false := by rw [decide_eq_false_iff_not]; omega
       have e6 : ¬ 0 < k := by omega
       have e9 : ((k : Int) == 9) = false := by rw [beq_eq_false_iff_ne]; omega
       clear hk0 h0 hA
       by_cases hc0 : s[k].toNat = 0
       ·have e8 : ((s[k].toNat : Int) == 0) = true := by rw [beq_iff_eq]; omega
        rw [show v + s[k].toNat % 128 * 2 ^ (7 * k) = v from by rw [hc0]; simp] at hT hor
        have HT := Lib.hid hT
        clear hT hc0
        go_wp2_with fail
        go_quiet (fail)
        go_wp2_with fail
        go_ret3
        exact ⟨by rw [← HT.out, Hex.out]; rfl, _, rfl⟩
       ·have e8 : ((s[k].toNat : Int) == 0) = false := by rw [beq_eq_false_iff_ne]; omega
        have e8' : ¬ (s[k].toNat : Int) = 0 := by omega
        have HT := Lib.hid hT
        clear hT hc0
        go_wp2_with fail
        go_quiet (fail)
        go_wp2_with fail
        go_ret3
        exact ⟨by rw [← HT.out, Hex.out]; rfl, _, rfl⟩
      ·have e8 : ((s[k].toNat : Int) == 0) = false := by rw [beq_eq_false_iff_ne]; omega
       have e8' : ¬ (s[k].toNat : Int) = 0 := by omega
       by_cases h9 : k = 9
       ·subst h9
        have e7 : decide ((1 : Int) < (s[9].toNat : Int)) = false := by rw [decide_eq_false_iff_not]; omega
        rw [show (2 : Int) ^ (7 * 9) = 9223372036854775808 from by decide] at hor
        have HT := Lib.hid hT
        clear hT hk0 h0 hA
        go_wp2_with fail
        go_quiet (fail)
        go_wp2_with fail
        go_ret3
        exact ⟨by rw [← HT.out, Hex.out]; rfl, _, rfl⟩
       ·have e9 : ((k : Int) == 9) = false := by rw [beq_eq_false_iff_ne]; omega
        have HT := Lib.hid hT
        clear hT hk0 h0 hA
        go_wp2_with fail
        go_quiet (fail)
        go_wp2_with fail
        go_ret3
        exact ⟨by rw [← HT.out, Hex.out]; rfl, _, rfl⟩
    ·rw [if_neg hc] at hT
     have HT := Lib.hid hT
     have e3 : ¬ (s[k].toNat : Int) < 128 := by omega
     have h9 : k < 9 := by omega
     have e9 : ((k : Int) == 9) = false := by rw [beq_eq_false_iff_ne]; omega
     have hv2 : v + s[k].toNat % 128 * 2 ^ (7 * k) < 2 ^ (7 * (k + 1)) := by
      have h2 : s[k].toNat % 128 * 2 ^ (7 * k) + 2 ^ (7 * k) ≤ 128 * 2 ^ (7 * k) := by
       rw [← Nat.succ_mul]; exact Nat.mul_le_mul_right _ (by omega)
      have h3 : 128 * 2 ^ (7 * k) = 2 ^ (7 * (k + 1)) := by
       rw [show (128 : Nat) = 2 ^ 7 from rfl, ← Nat.pow_add]; congr 1; omega
      omega
     have Hv := Lib.hid hv2
     clear hT hv hA hv2
     go_wp2_with fail
     go_roundg (s.size - (k + 1))
     case measure => have := Hg.out; omega
     case rel => exact ⟨k + 1, _, rfl, by omega, by omega, by go_num, rfl, Hv.out, HT.out, rfl⟩
  ·rw [List.drop_eq_nil_of_le (by omega)] at hT
   have HT := Lib.hid hT
   clear hg hT
   go_wp2_with fail
   go_ret3
   exact ⟨by rw [← HT.out]; rfl, 0, rfl⟩
def takeMVals (r : Int × List UInt8 × Int) : Value := .tuple #[.int .i64 r.1, .string ⟨r.2.1.toArray⟩, .int .i64 r.2.2]
theorem takeMost_spec (w : World) (s : ByteArray) (hs : s.size ≤ maxLen) (most : Int) (hm : most ≤ 9223372036854775807) :
  Calls Tryz.prog 115 #[.string s, .int .i64 most] w fun e w' => e = .returned (takeMVals (takeM s.data.toList most)) ∧ ∃ n, w' = w.drewN n := by
 have hlt := takeU_lt s.data.toList
 have herr : (takeU s.data.toList).2.2 ≠ 0 → (takeU s.data.toList).1 = 0 ∧ (takeU s.data.toList).2.1 = [] := takeL_err
 have Hcall := Lib.hid (takeUint_spec w s hs)
 have HM : Hid (takeM s.data.toList most = takeM s.data.toList most) := Lib.hid rfl
 have hM : ∀ x, takeM s.data.toList most = x ↔ (if (takeU s.data.toList).2.2 = 0 ∧ max most 0 < ((takeU s.data.toList).1 : Int) then (0, [], 16) else (((takeU s.data.toList).1 : Int), (takeU s.data.toList).2.1, (takeU s.data.toList).2.2)) = x := fun x => Iff.rfl
 generalize takeM s.data.toList most = R at hM
 clear HM
 generalize takeU s.data.toList = r at hlt herr Hcall hM
 obtain ⟨u, rest, er⟩ := r
 simp only at hlt herr hM
 have hmx : IntKind.u64.wrap (max most 0) = max most 0 := IntWalk.u64_in _ (by omega)
 have hmx0 : 0 ≤ max most 0 := by omega
 by_cases he : er = 0
 ·have he' : (er == 0) = true := by simp [he]
  by_cases hbig : max most 0 < (u : Int)
  ·have hR := (hM R).1 rfl
   rw [if_pos ⟨he, hbig⟩] at hR
   have HR := Lib.hid hR
   clear hM hR herr
   go_enter Tryz.func115, Tryz.ntmps115
   go_wp2_with fail
   refine Hcall.out.mono ?_
   rintro e w' ⟨rfl, nq, rfl⟩
   simp only [takeVals]
   subst he
   go_wp2_with fail
   go_ret3
   exact ⟨by rw [← HR.out]; rfl, _, rfl⟩
  ·have hR := (hM R).1 rfl
   rw [if_neg (fun h => hbig h.2)] at hR
   have HR := Lib.hid hR
   have hu : IntKind.i64.wrap (u : Int) = (u : Int) := IntWalk.i64_in _ (by omega)
   clear hM hR herr
   go_enter Tryz.func115, Tryz.ntmps115
   go_wp2_with fail
   refine Hcall.out.mono ?_
   rintro e w' ⟨rfl, nq, rfl⟩
   simp only [takeVals]
   subst he
   go_wp2_with fail
   go_ret3
   exact ⟨by rw [← HR.out]; rfl, _, rfl⟩
 ·have he' : (er == 0) = false := by simp [he]
  have hR := (hM R).1 rfl
  rw [if_neg (fun h => he h.1)] at hR
  have HR := Lib.hid hR
  obtain ⟨rfl, rfl⟩ := herr he
  clear hM hR herr
  go_enter Tryz.func115, Tryz.ntmps115
  go_wp2_with fail
  refine Hcall.out.mono ?_
  rintro e w' ⟨rfl, nq, rfl⟩
  simp only [takeVals]
  go_wp2_with fail
  go_ret3
  exact ⟨by rw [← HR.out]; rfl, _, rfl⟩
open Go Go.RowKit
theorem dsize (s : ByteArray) : s.data.toList.length = s.size := by simp
theorem text_spec (w : World) (v : Value) (l : List UInt8) (s : ByteArray) (hl : l.length + s.size ≤ 140737488354000) (h : Buf w v l) :
  Calls Tryz.prog 103 #[v, .string s] w (BufPost w v (l ++ textL s.data.toList)) := by
 have hcv : IntKind.u64.wrap (s.size : Int) = (s.size : Int) := IntWalk.u64_in _ (by omega)
 have Hu := Lib.hid (uint_spec w v l s.size (by omega) (by omega) h)
 have Hlen := lebL_len10 (v := s.size) (by omega)
 have Hl := Lib.hid (show (l ++ lebL s.size).length = l.length + (lebL s.size).length from List.length_append)
 clear h
 go_enter Tryz.func103, Tryz.ntmps103
 go_wp2_with fail
 refine Hu.out.mono ?_
 rintro e w1 ⟨v1, rfl, hb1, ht1⟩
 have Hb := Lib.hid (And.intro hb1 ht1)
 clear hb1 ht1
 go_wp2_with (at_builtin; refine buf_append_str rfl (.tmp 9) (.tmp 10) rfl v1 (l ++ lebL s.size) rfl Hb.out.1 s rfl (by rw [Hl.out]; omega) ?_; intro v2 w2 hb2 ht2)
 go_ret
 exact ⟨_, rfl, by unfold textL; rw [dsize, ← List.append_assoc]; exact hb2, Hb.out.2.trans ht2⟩
def byteVals (l : List UInt8) : Value := match l with
 | [] => .tuple #[.int .u8 0, .string ⟨#[]⟩, .int .i64 2]
 | c :: r => .tuple #[.int .u8 c.toNat, .string ⟨r.toArray⟩, .int .i64 0]
theorem takeByte_spec (w : World) (s : ByteArray) (hs : s.size ≤ maxLen) :
  Calls Tryz.prog 138 #[.string s] w fun e w' => e = .returned (byteVals s.data.toList) ∧ ∃ n, w' = w.drewN n := by
 unfold maxLen at hs
 have hd := dsize s
 by_cases h0 : s.size = 0
 ·obtain ⟨e1, e2⟩ := is_empty h0
  have Hn := Lib.hid (show s.data.toList = [] from List.eq_nil_of_length_eq_zero (by omega))
  clear h0 hd
  go_enter Tryz.func138, Tryz.ntmps138
  go_wp2_with fail
  go_ret3
  exact ⟨by rw [Hn.out]; rfl, 0, rfl⟩
 ·obtain ⟨e1, e2⟩ := ne_empty h0
  have hlt : (0 : Int) < (s.size : Int) := by omega
  have hlt2 : (1 : Int) ≤ (s.size : Int) := by omega
  have hlt3 : 0 < s.size := by omega
  have Hex := Lib.hid (extract_end s 1)
  have Hc := Lib.hid (show s.data.toList = s[0] :: s.data.toList.drop 1 from by
   have := List.drop_eq_getElem_cons (l := s.data.toList) (i := 0) (by omega)
   rw [List.drop_zero] at this
   exact this)
  clear h0 hd
  go_enter Tryz.func138, Tryz.ntmps138
  go_wp2_with fail
  go_quiet (fail)
  go_wp2_with fail
  go_ret3
  exact ⟨by rw [Hc.out]; simp only [byteVals]; rw [← Hex.out]; rfl, _, rfl⟩
def takeTVals (r : List UInt8 × List UInt8 × Int) : Value := .tuple #[.string ⟨r.1.toArray⟩, .string ⟨r.2.1.toArray⟩, .int .i64 r.2.2]
theorem takeM_left (l : List UInt8) (most : Int) : (takeM l most).2.1.length ≤ l.length := by
 have h0 := @takeL_left l 0 0
 unfold takeM
 split
 ·simp
 ·exact h0
theorem takeText_spec (w : World) (s : ByteArray) (hs : s.size ≤ maxLen) (most : Int) (hm : most ≤ 9223372036854775807) :
  Calls Tryz.prog 169 #[.string s, .int .i64 most] w fun e w' => e = .returned (takeTVals (takeT s.data.toList most)) ∧ ∃ n, w' = w.drewN n := by
 have hleft := takeM_left s.data.toList most
 have Hcall := Lib.hid (takeMost_spec w s hs most hm)
 have hb := takeM_bounds s.data.toList hm
 rw [dsize] at hleft
 unfold maxLen at hs
 have hT : takeT s.data.toList most = (if (takeM s.data.toList most).2.2 ≠ 0 then ([], [], (takeM s.data.toList most).2.2)
  else if ((takeM s.data.toList most).2.1.length : Int) < (takeM s.data.toList most).1 then ([], [], 2)
  else ((takeM s.data.toList most).2.1.take (takeM s.data.toList most).1.toNat, (takeM s.data.toList most).2.1.drop (takeM s.data.toList most).1.toNat, 0)) := rfl
 generalize takeT s.data.toList most = R at hT
 generalize takeM s.data.toList most = r at hleft Hcall hT hb
 obtain ⟨u, rest, er⟩ := r
 simp only at hleft hT hb
 by_cases he : er = 0
 ·rw [if_neg (fun h => h he)] at hT
  have he' : (er == 0) = true := by simp [he]
  by_cases hbig : (rest.length : Int) < u
  ·rw [if_pos hbig] at hT
   have HT := Lib.hid hT
   have hsz : ((⟨rest.toArray⟩ : ByteArray).size : Int) < u := hbig
   clear hT
   subst he
   go_enter Tryz.func169, Tryz.ntmps169
   go_wp2_with fail
   refine Hcall.out.mono ?_
   rintro e w' ⟨rfl, nq, rfl⟩
   simp only [takeMVals]
   generalize (⟨rest.toArray⟩ : ByteArray) = rs at hsz ⊢
   go_wp2_with fail
   go_ret3
   exact ⟨by rw [HT.out]; rfl, _, rfl⟩
  ·rw [if_neg hbig] at hT
   have HT := Lib.hid hT
   obtain ⟨rs, hrs⟩ : ∃ rs : ByteArray, rs = ⟨rest.toArray⟩ := ⟨_, rfl⟩
   have hrl : rs.size = rest.length := by rw [hrs]; rfl
   have hdt : rs.data.toList = rest := by rw [hrs]
   have Hrs := Lib.hid hrs
   clear hrs
   subst he
   clear hT
   go_enter Tryz.func169, Tryz.ntmps169
   go_wp2_with fail
   refine Hcall.out.mono ?_
   rintro e w' ⟨rfl, nq, rfl⟩
   simp only [takeMVals]
   rw [← Hrs.out]
   obtain ⟨k, rfl⟩ : ∃ k : Nat, u = k := ⟨u.toNat, by omega⟩
   have h1 : (k : Int) ≤ (rs.size : Int) := by omega
   have h2 : ¬ ((rs.size : Int) < (k : Int)) := by omega
   have h3 : k ≤ rs.size := by omega
   have Hx := Lib.hid (And.intro (show rs.extract 0 k = ⟨(rest.take k).toArray⟩ from by apply ba_ext; simp [ByteArray.data_extract, List.extract_eq_take_drop, hdt]) (show rs.extract k rs.size = ⟨(rest.drop k).toArray⟩ from by rw [extract_end, hdt]))
   clear hrl hdt hb hbig
   go_wp2_with fail
   go_quiet (fail)
   go_wp2_with fail
   go_ret3
   exact ⟨by rw [HT.out, Hx.out.1, Hx.out.2]; rfl, _, World.drewN_drewN _ _ _⟩
 ·rw [if_pos he] at hT
  have he' : (er == 0) = false := by simp [he]
  have HT := Lib.hid hT
  clear hT
  go_enter Tryz.func169, Tryz.ntmps169
  go_wp2_with fail
  refine Hcall.out.mono ?_
  rintro e w' ⟨rfl, nq, rfl⟩
  simp only [takeMVals]
  generalize (⟨rest.toArray⟩ : ByteArray) = rs
  go_wp2_with fail
  go_ret3
  exact ⟨by rw [HT.out]; rfl, _, rfl⟩
end Go.Proofs.YtgcfkhcogllgfaaGreatDoor
