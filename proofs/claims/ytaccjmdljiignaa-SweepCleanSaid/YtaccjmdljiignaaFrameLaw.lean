/-
  Plain laws of sums (bit by bit) and of records, each with a kind and a sum. No program in sight.
  No condition beyond those that each theorem states.
-/
import Derived.Test.YtaccjmdljiignaaLebLaw
namespace Go.Proofs.Ytaccjmdljiignaa

def crcBit (c b : Nat) : Nat := if (c + b) % 2 = 1 then (c / 2) ^^^ 2197175160 else c / 2

def crcK (c b : Nat) : Nat → Nat
  | 0 => c
  | k + 1 => crcBit (crcK c b k) (b / 2 ^ k)

def crcL (c : Nat) (l : List UInt8) : Nat := l.foldl (fun c x => crcK c x.toNat 8) c

def moreN (sum : Nat) (l : List UInt8) : Nat := 4294967295 - crcL (4294967295 - sum) l

theorem crcBit_lt {c : Nat} (b : Nat) (h : c < 4294967296) : crcBit c b < 4294967296 := by
  unfold crcBit
  split
  · exact Nat.xor_lt_two_pow (n := 32) (by omega) (by decide)
  · omega

theorem crcK_lt {c : Nat} (b : Nat) (h : c < 4294967296) : ∀ k, crcK c b k < 4294967296
  | 0 => h
  | k + 1 => crcBit_lt _ (crcK_lt b h k)

theorem crcL_lt : ∀ (l : List UInt8) {c : Nat}, c < 4294967296 → crcL c l < 4294967296
  | [], _, h => h
  | x :: l, _, h => crcL_lt l (crcK_lt x.toNat h 8)

theorem crcL_append (c : Nat) (a b : List UInt8) : crcL c (a ++ b) = crcL (crcL c a) b := by simp [crcL, List.foldl_append]

theorem moreN_lt (s : Nat) (l : List UInt8) : moreN s l < 4294967296 := by unfold moreN; omega

theorem moreN_more (s : Nat) (a b : List UInt8) : moreN (moreN s a) b = moreN s (a ++ b) := by
  have := crcL_lt a (c := 4294967295 - s) (by omega)
  unfold moreN
  rw [crcL_append]
  congr 2
  omega


/-- A sum's four bytes, the lowest first. -/
def le4 (n : Nat) : List UInt8 := [UInt8.ofNat (n % 256), UInt8.ofNat (n / 256 % 256), UInt8.ofNat (n / 65536 % 256), UInt8.ofNat (n / 16777216 % 256)]

def un4 (l : List UInt8) : Nat := (l.getD 0 0).toNat + 256 * (l.getD 1 0).toNat + 65536 * (l.getD 2 0).toNat + 16777216 * (l.getD 3 0).toNat

theorem un4_le4 {n : Nat} (l : List UInt8) (h : n < 4294967296) : un4 (le4 n ++ l) = n := by
  simp [un4, le4]
  omega

def frameL (k : UInt8) (d : List UInt8) : List UInt8 := k :: (lebL d.length ++ (le4 (moreN 0 (k :: d)) ++ d))

/-- The record at the beginning of bytes: its kind, its data, what is left, the error. -/
def nextF (l : List UInt8) : UInt8 × List UInt8 × List UInt8 × Int :=
  match l with
  | [] => (0, [], [], 2)
  | k :: r =>
    if (takeM r 1048576).2.2 ≠ 0 then (0, [], [], (takeM r 1048576).2.2)
    else if ((takeM r 1048576).2.1.length : Int) < 4 + (takeM r 1048576).1 then (0, [], [], 2)
    else if moreN 0 (k :: ((takeM r 1048576).2.1.drop 4).take (takeM r 1048576).1.toNat) ≠ un4 (takeM r 1048576).2.1 then (0, [], [], 4)
    else (k, ((takeM r 1048576).2.1.drop 4).take (takeM r 1048576).1.toNat, (takeM r 1048576).2.1.drop (4 + (takeM r 1048576).1.toNat), 0)

theorem nextF_frame (k : UInt8) (d l : List UInt8) (h : d.length ≤ 1048576) : nextF (frameL k d ++ l) = (k, d, l, 0) := by
  unfold frameL nextF
  simp only [List.cons_append, List.append_assoc]
  rw [takeM_leb (most := 1048576) (le4 (moreN 0 (k :: d)) ++ (d ++ l)) (by omega) (by decide)]
  have h4 : (le4 (moreN 0 (k :: d))).length = 4 := rfl
  have hd : (le4 (moreN 0 (k :: d)) ++ (d ++ l)).drop 4 = d ++ l := List.drop_left' h4
  simp only [ne_eq, not_true_eq_false, if_false, Int.toNat_natCast]
  rw [if_neg (by simp only [List.length_append, h4]; omega), hd, List.take_left, un4_le4 _ (moreN_lt _ _), if_neg (fun h => h rfl), ← List.drop_drop, hd, List.drop_left]

theorem frameL_len (k : UInt8) (d : List UInt8) : (frameL k d).length = 5 + (lebL d.length).length + d.length := by
  simp [frameL, le4]; omega

theorem frameL_len1 (k : UInt8) {d : List UInt8} (h : d.length < 128) : (frameL k d).length = 6 + d.length := by
  rw [frameL_len, lebL_small h]; simp

end Go.Proofs.Ytaccjmdljiignaa
