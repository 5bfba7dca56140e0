/-
  Plain laws of numbers as bytes (seven bits a byte, the lowest first), and of taking them again. No program in sight.
  No condition beyond those that each theorem states.
-/
import Derived.Lib.AppendStr
namespace Go.Proofs.Ytaccjmdljiignaa

/-- A number's bytes. -/
def lebL (v : Nat) : List UInt8 := if v < 128 then [UInt8.ofNat v] else UInt8.ofNat (v % 128 + 128) :: lebL (v / 128)
termination_by v
decreasing_by omega

/-- What is taken of bytes: the number, what is left, the error. -/
def takeL : List UInt8 → Nat → Nat → Nat × List UInt8 × Int
  | [], _, _ => (0, [], 2)
  | c :: l, i, v =>
    if i = 9 ∧ 1 < c.toNat then (0, [], 3)
    else if c.toNat < 128 then (if c.toNat = 0 ∧ 0 < i then (0, [], 3) else (v + c.toNat % 128 * 2 ^ (7 * i), l, 0))
    else takeL l (i + 1) (v + c.toNat % 128 * 2 ^ (7 * i))

def takeU (l : List UInt8) : Nat × List UInt8 × Int := takeL l 0 0


theorem lebL_small {v : Nat} (h : v < 128) : lebL v = [UInt8.ofNat v] := by rw [lebL, if_pos h]

theorem lebL_big {v : Nat} (h : ¬ v < 128) : lebL v = UInt8.ofNat (v % 128 + 128) :: lebL (v / 128) := by rw [lebL, if_neg h]

theorem lebL_ne (v : Nat) : lebL v ≠ [] := by
  rw [lebL]; split <;> simp

theorem lebL_len : ∀ (k v : Nat), v < 128 ^ (k + 1) → (lebL v).length ≤ k + 1
  | 0, v, h => by rw [lebL_small (by simpa using h)]; simp
  | k + 1, v, h => by
    by_cases hv : v < 128
    · rw [lebL_small hv]; simp
    · rw [lebL_big hv, List.length_cons]
      have := lebL_len k (v / 128) (by rw [Nat.div_lt_iff_lt_mul (by decide)]; rw [Nat.pow_succ] at h; exact h)
      omega

theorem lebL_len10 {v : Nat} (h : v < 18446744073709551616) : (lebL v).length ≤ 10 := lebL_len 9 v (Nat.lt_of_lt_of_le h (by decide))


theorem takeL_lt {l : List UInt8} {i v : Nat} (hi : i ≤ 9) (hv : v < 2 ^ (7 * i)) : (takeL l i v).1 < 18446744073709551616 := by
  induction l generalizing i v with
  | nil => simp [takeL]
  | cons c l ih =>
    unfold takeL
    have hp : 0 < 2 ^ (7 * i) := Nat.pow_pos (by decide)
    split
    · simp
    · rename_i h9
      split
      · split
        · simp
        · simp only
          rename_i hc _
          rw [Nat.mod_eq_of_lt hc]
          by_cases hi9 : i = 9
          · subst hi9
            have : c.toNat ≤ 1 := by omega
            have h2 : c.toNat * 2 ^ (7 * 9) ≤ 1 * 2 ^ (7 * 9) := Nat.mul_le_mul_right _ this
            have e : (2 : Nat) ^ (7 * 9) = 9223372036854775808 := by decide
            rw [e] at *
            omega
          · have h2 : c.toNat * 2 ^ (7 * i) + 2 ^ (7 * i) ≤ 128 * 2 ^ (7 * i) := by
              rw [← Nat.succ_mul]; exact Nat.mul_le_mul_right _ (by omega)
            have h3 : 128 * 2 ^ (7 * i) ≤ 2 ^ 63 := by
              rw [show (128 : Nat) = 2 ^ 7 from rfl, ← Nat.pow_add]
              exact Nat.pow_le_pow_right (by decide) (by omega)
            have e : (2 : Nat) ^ 63 = 9223372036854775808 := by decide
            omega
      · rename_i hc
        have hi9 : i ≠ 9 := by omega
        refine ih (by omega) ?_
        have h2 : c.toNat % 128 * 2 ^ (7 * i) + 2 ^ (7 * i) ≤ 128 * 2 ^ (7 * i) := by
          rw [← Nat.succ_mul]; exact Nat.mul_le_mul_right _ (by omega)
        have h3 : 128 * 2 ^ (7 * i) = 2 ^ (7 * (i + 1)) := by
          rw [show (128 : Nat) = 2 ^ 7 from rfl, ← Nat.pow_add]; congr 1; omega
        omega

theorem takeU_lt (l : List UInt8) : (takeU l).1 < 18446744073709551616 := takeL_lt (by decide) (by decide)

theorem takeL_err {l : List UInt8} : ∀ {i v : Nat}, (takeL l i v).2.2 ≠ 0 → (takeL l i v).1 = 0 ∧ (takeL l i v).2.1 = [] := by
  induction l with
  | nil => intro i v _; simp [takeL]
  | cons c l ih =>
    intro i v
    unfold takeL
    split
    · intro _; simp
    · split
      · split
        · intro _; simp
        · intro h; simp at h
      · exact ih

theorem takeL_errs {l : List UInt8} : ∀ {i v : Nat}, (takeL l i v).2.2 = 0 ∨ (takeL l i v).2.2 = 2 ∨ (takeL l i v).2.2 = 3 := by
  induction l with
  | nil => intro i v; simp [takeL]
  | cons c l ih =>
    intro i v
    unfold takeL
    split
    · simp
    · split
      · split <;> simp
      · exact ih

theorem takeL_left {l : List UInt8} : ∀ {i v : Nat}, (takeL l i v).2.1.length ≤ l.length := by
  induction l with
  | nil => intro i v; simp [takeL]
  | cons c l ih =>
    intro i v
    unfold takeL
    split
    · simp
    · split
      · split <;> simp
      · have := @ih (i + 1) (v + c.toNat % 128 * 2 ^ (7 * i))
        simp only [List.length_cons]; omega

/-- What is written is taken again. -/
theorem takeL_leb : ∀ (k m i v : Nat) (l : List UInt8), m < 128 ^ (k + 1) → i + k ≤ 8 ∨ (i + k ≤ 9 ∧ m < 2 * 128 ^ k) → (0 < m ∨ i = 0) → takeL (lebL m ++ l) i v = (v + m * 2 ^ (7 * i), l, 0) := by
  intro k
  induction k with
  | zero =>
    intro m i v l hm hik h0
    have hm' : m < 128 := by simpa using hm
    rw [lebL_small hm']
    have hb : (UInt8.ofNat m).toNat = m := by simp; omega
    simp only [List.singleton_append, takeL]
    rw [hb, if_neg (by omega), if_pos hm', if_neg (by omega), Nat.mod_eq_of_lt hm']
  | succ k ih =>
    intro m i v l hm hik h0
    by_cases hs : m < 128
    · rw [lebL_small hs]
      have hb : (UInt8.ofNat m).toNat = m := by simp; omega
      simp only [List.singleton_append, takeL]
      rw [hb, if_neg (by omega), if_pos hs, if_neg (by omega), Nat.mod_eq_of_lt hs]
    · rw [lebL_big hs]
      have hb : (UInt8.ofNat (m % 128 + 128)).toNat = m % 128 + 128 := by simp; omega
      simp only [List.cons_append, takeL]
      rw [hb, if_neg (by omega), if_neg (by omega)]
      rw [ih (m / 128) (i + 1) _ l (by rw [Nat.div_lt_iff_lt_mul (by decide)]; rw [Nat.pow_succ] at hm; exact hm) ?_ (.inl (by omega))]
      · refine Prod.ext ?_ rfl
        simp only
        have e1 : (m % 128 + 128) % 128 = m % 128 := by omega
        have e2 : 2 ^ (7 * (i + 1)) = 128 * 2 ^ (7 * i) := by rw [Nat.mul_add, Nat.pow_add, Nat.mul_comm]
        rw [e1, e2, ← Nat.mul_assoc, Nat.add_assoc, ← Nat.add_mul]
        congr 2
        omega
      · rcases hik with h | ⟨h1, h2⟩
        · exact .inl (by omega)
        · refine .inr ⟨by omega, ?_⟩
          rw [Nat.div_lt_iff_lt_mul (by decide), Nat.mul_assoc, ← Nat.pow_succ]
          exact h2

theorem takeU_leb {m : Nat} (l : List UInt8) (hm : m < 18446744073709551616) : takeU (lebL m ++ l) = (m, l, 0) := by
  have h := takeL_leb 9 m 0 0 l (Nat.lt_of_lt_of_le hm (by decide)) (.inr ⟨by decide, Nat.lt_of_lt_of_le hm (by decide)⟩) (.inr rfl)
  simpa [takeU] using h


/-- Of at most so much: the number, what is left, the error. -/
def takeM (l : List UInt8) (most : Int) : Int × List UInt8 × Int :=
  if (takeU l).2.2 = 0 ∧ max most 0 < ((takeU l).1 : Int) then (0, [], 16) else ((takeU l).1, (takeU l).2.1, (takeU l).2.2)

theorem takeM_leb {m : Nat} (l : List UInt8) {most : Int} (hm : (m : Int) ≤ most) (hmost : most ≤ 9223372036854775807) : takeM (lebL m ++ l) most = ((m : Int), l, 0) := by
  unfold takeM
  rw [takeU_leb l (by omega)]
  rw [if_neg (by simp only; omega)]

theorem takeM_bounds (l : List UInt8) {most : Int} (hmost : most ≤ 9223372036854775807) : 0 ≤ (takeM l most).1 ∧ (takeM l most).1 ≤ max most 0 ∧ (takeM l most).2.1.length ≤ l.length := by
  have h0 := @takeL_left l 0 0
  unfold takeM
  split
  · simp; omega
  · rename_i h
    by_cases he : (takeU l).2.2 = 0
    · refine ⟨by simp only; omega, by simp only; omega, h0⟩
    · have := takeL_err he
      refine ⟨by simp only; omega, ?_, h0⟩
      show ((takeL l 0 0).1 : Int) ≤ _
      rw [this.1]; omega

theorem takeM_err {l : List UInt8} {most : Int} (h : (takeM l most).2.2 ≠ 0) : (takeM l most).1 = 0 ∧ (takeM l most).2.1 = [] := by
  unfold takeM at h ⊢
  split
  · exact ⟨rfl, rfl⟩
  · rename_i h1
    rw [if_neg h1] at h
    have := takeL_err h
    exact ⟨by simp only; exact congrArg Int.ofNat this.1, this.2⟩


/-- A text, of at most so many bytes: itself, what is left, the error. -/
def takeT (l : List UInt8) (most : Int) : List UInt8 × List UInt8 × Int :=
  if (takeM l most).2.2 ≠ 0 then ([], [], (takeM l most).2.2)
  else if ((takeM l most).2.1.length : Int) < (takeM l most).1 then ([], [], 2)
  else ((takeM l most).2.1.take (takeM l most).1.toNat, (takeM l most).2.1.drop (takeM l most).1.toNat, 0)

def textL (s : List UInt8) : List UInt8 := lebL s.length ++ s

theorem takeT_text (s l : List UInt8) {most : Int} (hm : (s.length : Int) ≤ most) (hmost : most ≤ 9223372036854775807) : takeT (textL s ++ l) most = (s, l, 0) := by
  unfold takeT textL
  rw [List.append_assoc, takeM_leb (s ++ l) hm hmost]
  simp
  omega

end Go.Proofs.Ytaccjmdljiignaa
