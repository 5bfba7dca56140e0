/-
  Plain laws of blocks' names: eight digits of a tick, eight of a number. No program in sight.
  No condition beyond those that each theorem states.
-/
import Derived.Lib.AppendStr
namespace Go.Proofs.Ytaccjmdljiignaa

/-- The digits, by rising bytes. -/
def signL : List UInt8 := [48, 49, 50, 51, 52, 53, 54, 55, 56, 57, 97, 98, 99, 100, 101, 102, 103, 104, 106, 107, 109, 110, 112, 113, 114, 115, 116, 118, 119, 120, 121, 122]

def signAt (k : Nat) : UInt8 := signL.getD k 0

def digL : Nat → Nat → List UInt8
  | 0, _ => []
  | k + 1, n => digL k (n / 32) ++ [signAt (n % 32)]

def identL (tick seq : Nat) : List UInt8 := digL 8 tick ++ digL 8 seq

theorem digL_len : ∀ k n, (digL k n).length = k
  | 0, _ => rfl
  | k + 1, n => by simp [digL, digL_len k]

theorem identL_len (t s : Nat) : (identL t s).length = 16 := by simp [identL, digL_len]

def numIx (c : UInt8) : Option Nat := signL.findIdx? (· == c)

/-- The number of digits. -/
def numL : List UInt8 → Nat → Option Nat
  | [], n => some n
  | c :: l, n => match numIx c with
    | none => none
    | some k => numL l (n * 32 + k)

theorem numL_append (a b : List UInt8) : ∀ n, numL (a ++ b) n = (numL a n).bind (numL b) := by
  induction a with
  | nil => intro n; rfl
  | cons c a ih =>
    intro n
    simp only [List.cons_append, numL]
    cases numIx c with
    | none => rfl
    | some k => exact ih _

theorem numIx_sign : ∀ k, k < 32 → numIx (signAt k) = some k := by decide

theorem numIx_lt {c : UInt8} {k : Nat} (h : numIx c = some k) : k < 32 := by
  have := (List.findIdx?_eq_some_iff_getElem.1 h).1
  simpa [signL] using this

theorem numL_dig : ∀ k n m, numL (digL k n) m = some (m * 32 ^ k + n % 32 ^ k)
  | 0, n, m => by simp [digL, numL, Nat.mod_one]
  | k + 1, n, m => by
    rw [digL, numL_append, numL_dig k]
    simp only [Option.bind_some, numL]
    rw [numIx_sign _ (Nat.mod_lt _ (by decide))]
    simp only [Option.some.injEq]
    rw [Nat.pow_succ, Nat.mul_comm (32 ^ k) 32, Nat.mod_mul, Nat.add_mul, Nat.mul_comm (n / 32 % 32 ^ k) 32, Nat.mul_assoc, Nat.mul_comm 32 (32 ^ k)]
    omega

theorem numL_lt : ∀ (l : List UInt8) {n m : Nat} (j : Nat), numL l n = some m → n < 2 ^ j → m < 2 ^ (j + 5 * l.length)
  | [], n, m, j, h, hn => by simp only [numL, Option.some.injEq] at h; subst h; simpa using hn
  | c :: l, n, m, j, h, hn => by
    simp only [numL] at h
    cases hk : numIx c with
    | none => rw [hk] at h; cases h
    | some k =>
      rw [hk] at h
      have h2 := numL_lt l (j + 5) h (by
        have := numIx_lt hk
        rw [Nat.pow_add]
        have : n * 32 + 32 ≤ 2 ^ j * 32 := by rw [← Nat.succ_mul]; exact Nat.mul_le_mul_right _ hn
        omega)
      rw [List.length_cons, Nat.mul_add]
      have e : j + 5 + 5 * l.length = j + (5 * l.length + 5 * 1) := by omega
      rw [← e]; exact h2

/-- Tick and number of a name. -/
def parseL (l : List UInt8) : Option (Nat × Nat) :=
  if l.length ≠ 16 then none else
  match numL (l.take 8) 0, numL (l.drop 8) 0 with
  | some a, some b => some (a, b)
  | _, _ => none

theorem parseL_ident {t s : Nat} (ht : t < 1099511627776) (hs : s < 1099511627776) : parseL (identL t s) = some (t, s) := by
  unfold parseL
  rw [identL_len, if_neg (fun h => h rfl)]
  have h1 : (identL t s).take 8 = digL 8 t := List.take_left' (digL_len 8 t)
  have h2 : (identL t s).drop 8 = digL 8 s := List.drop_left' (digL_len 8 t)
  have e : (32 : Nat) ^ 8 = 1099511627776 := by decide
  rw [h1, h2, numL_dig, numL_dig, Nat.zero_mul, Nat.zero_add, Nat.zero_add, e, Nat.mod_eq_of_lt ht, Nat.mod_eq_of_lt hs]

/-! ## Names rise as their numbers do -/
open Go.Op (bytesLess)
theorem less_irrefl : ∀ l, bytesLess l l = false
  | [] => rfl
  | a :: l => by simp [bytesLess, less_irrefl l]

theorem less_append_same (p : List UInt8) (a b : List UInt8) : bytesLess (p ++ a) (p ++ b) = bytesLess a b := by
  induction p with
  | nil => rfl
  | cons x p ih => simp [bytesLess, ih]

theorem less_append : ∀ {a b : List UInt8} (_ : a.length = b.length) (_ : bytesLess a b = true) (x y : List UInt8), bytesLess (a ++ x) (b ++ y) = true
  | [], [], _, h, _, _ => by simp [bytesLess] at h
  | [], _ :: _, h, _, _, _ => by simp at h
  | _ :: _, [], h, _, _, _ => by simp at h
  | a :: l, b :: m, hl, h, x, y => by
    simp only [bytesLess, Bool.or_eq_true, decide_eq_true_eq, Bool.and_eq_true, beq_iff_eq, List.cons_append] at h ⊢
    rcases h with h | ⟨h1, h2⟩
    · exact .inl h
    · exact .inr ⟨h1, less_append (by simpa using hl) h2 x y⟩

theorem sign_less : ∀ i, i < 32 → ∀ j, j < 32 → i < j → signAt i < signAt j := by decide

theorem digL_less : ∀ k {n m : Nat}, n < m → m < 32 ^ k → bytesLess (digL k n) (digL k m) = true
  | 0, n, m, h, hm => by simp at hm; omega
  | k + 1, n, m, h, hm => by
    rw [digL, digL]
    by_cases he : n / 32 = m / 32
    · rw [he, less_append_same]
      have := sign_less (n % 32) (Nat.mod_lt _ (by decide)) (m % 32) (Nat.mod_lt _ (by decide)) (by omega)
      simp [bytesLess, this]
    · exact less_append (by rw [digL_len, digL_len]) (digL_less k (by omega) (by rw [Nat.div_lt_iff_lt_mul (by decide)]; rw [Nat.pow_succ] at hm; exact hm)) _ _

theorem identL_less {t s t' s' : Nat} (h : t < t' ∨ t = t' ∧ s < s') (ht : t' < 1099511627776) (hs : s' < 1099511627776) : bytesLess (identL t s) (identL t' s') = true := by
  have e : (32 : Nat) ^ 8 = 1099511627776 := by decide
  unfold identL
  rcases h with h | ⟨rfl, h⟩
  · exact less_append (by rw [digL_len, digL_len]) (digL_less 8 h (by omega)) _ _
  · rw [less_append_same]; exact digL_less 8 h (by omega)

theorem less_asymm : ∀ {a b : List UInt8}, bytesLess a b = true → bytesLess b a = false
  | [], [], h => by simp [bytesLess] at h
  | [], _ :: _, _ => rfl
  | _ :: _, [], h => by simp [bytesLess] at h
  | a :: l, b :: m, h => by
    simp only [bytesLess, Bool.or_eq_true, decide_eq_true_eq, Bool.and_eq_true, beq_iff_eq, Bool.or_eq_false_iff, decide_eq_false_iff_not, Bool.and_eq_false_imp] at h ⊢
    rcases h with h | ⟨rfl, h2⟩
    · exact ⟨UInt8.lt_asymm h, fun e => absurd h (by rw [e]; exact UInt8.lt_irrefl _)⟩
    · exact ⟨UInt8.lt_irrefl _, fun _ => less_asymm h2⟩

theorem less_ne {a b : List UInt8} (h : bytesLess a b = true) : a ≠ b := by
  rintro rfl
  rw [less_irrefl] at h
  cases h

/-- For a test 'b <= a' of two texts. -/
theorem leq_false {a b : List UInt8} (h : bytesLess a b = true) : (bytesLess b a || b == a) = false := by
  rw [less_asymm h]
  simpa using fun e => less_ne h e.symm

end Go.Proofs.Ytaccjmdljiignaa
