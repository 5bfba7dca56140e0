/-
  How a text's code points are read, as far as signs of ASCII are looked for: plain.
  No condition beyond those that each theorem states.
-/
import Derived.Test.YtjgaidojohgenaaDoorMChk
namespace Go.Proofs.YtjgaidojohgenaaDoor
open Go Go.RowKit

theorem get_at (s : ByteArray) (k : Nat) (h : k < s.size) : s.get! k = s[k]'h := by
  show s.get! k = _
  simp [ByteArray.get!, getElem!_pos, h]
  rfl

/-- The bytes from pos on, n of them, are none of ASCII. -/
def HighTo (s : ByteArray) (pos n : Nat) : Prop := pos + n ≤ s.size ∧ ∀ (j : Nat) b, pos ≤ j → j < pos + n → s.data.toList[j]? = some b → 128 ≤ b.toNat

theorem highTo_of {s : ByteArray} {pos n : Nat} (hn : pos + n ≤ s.size) (h : ∀ i, i < n → 128 ≤ (s.get! (pos + i)).toNat) : HighTo s pos n := by
  refine ⟨hn, fun j b hj1 hj2 hb => ?_⟩
  have h1 := h (j - pos) (by omega)
  rw [show pos + (j - pos) = j from by omega, get_at s j (by omega)] at h1
  have h2 : s.data.toList[j]? = some (s[j]'(by omega)) := Lib.data_getElem? s j (by omega)
  rw [h2] at hb
  cases hb
  exact h1

theorem decode_high (s : ByteArray) (pos : Nat) (h : pos < s.size) (hb : ¬ (s.get! (pos + 0)).toNat < 128) :
    128 ≤ (Utf8.decode s pos).1 ∧ (Utf8.decode s pos).1 ≤ 1114111 ∧ 1 ≤ (Utf8.decode s pos).2 ∧ HighTo s pos (Utf8.decode s pos).2 := by
  have h1 : HighTo s pos 1 := highTo_of (by omega) (fun i hi => by obtain rfl : i = 0 := (by omega); omega)
  have e1 : 128 ≤ (Utf8.runeError, 1).1 ∧ (Utf8.runeError, 1).1 ≤ 1114111 ∧ 1 ≤ (Utf8.runeError, 1).2 ∧ HighTo s pos (Utf8.runeError, 1).2 := ⟨by decide, by decide, by decide, h1⟩
  unfold Utf8.decode
  simp only [hb, if_false]
  split
  · rename_i h2
    rw [Bool.and_eq_true, Bool.and_eq_true, decide_eq_true_eq, beq_iff_eq, beq_iff_eq] at h2
    split
    · refine ⟨by assumption, by simp only; omega, by simp, highTo_of (by simp only; omega) (fun i hi => ?_)⟩
      simp only at hi
      match i, hi with
      | 0, _ => omega
      | 1, _ => omega
    · exact e1
  split
  · rename_i h2
    simp only [Bool.and_eq_true, decide_eq_true_eq, beq_iff_eq] at h2
    split
    · rename_i h3
      simp only [ge_iff_le, Bool.and_eq_true, decide_eq_true_eq] at h3
      refine ⟨by simp only; omega, by simp only; omega, by simp, highTo_of (by simp only; omega) (fun i hi => ?_)⟩
      simp only at hi
      match i, hi with
      | 0, _ => omega
      | 1, _ => omega
      | 2, _ => omega
    · exact e1
  split
  · rename_i h2
    simp only [Bool.and_eq_true, decide_eq_true_eq, beq_iff_eq] at h2
    split
    · rename_i h3
      simp only [ge_iff_le, Bool.and_eq_true, decide_eq_true_eq, Utf8.valid, Bool.or_eq_true] at h3
      refine ⟨by simp only; omega, by simp only; omega, by simp, highTo_of (by simp only; omega) (fun i hi => ?_)⟩
      simp only at hi
      match i, hi with
      | 0, _ => omega
      | 1, _ => omega
      | 2, _ => omega
      | 3, _ => omega
    · exact e1
  exact e1

/-- None of ASCII's signs is met on the way over a code point beyond ASCII. -/
theorem noAny_high {s : ByteArray} {chars : List UInt8} {pos n : Nat} (hc : ∀ b ∈ chars, b.toNat < 128) (h : Lib.NoAny s.data.toList chars pos) (hh : HighTo s pos n) : Lib.NoAny s.data.toList chars (pos + n) := by
  intro j b hj hb
  by_cases hlt : j < pos
  · exact h j b hlt hb
  · have h1 := hh.2 j b (by omega) hj hb
    cases hcb : chars.contains b with
    | false => rfl
    | true =>
      have := hc b (List.contains_iff_mem.1 hcb)
      omega

/-- What a code point beyond ASCII is as bytes: two to four, the last of them beyond ASCII. -/
theorem encode_high (r : Int) (h : 128 ≤ r) : ∃ n x, (Utf8.encode r).size = n + 2 ∧ n ≤ 2 ∧ (Utf8.encode r).data.toList[n + 1]? = some x ∧ 128 ≤ x.toNat := by
  have hl : ∀ c : Nat, (UInt8.ofNat (0x80 + c % 64)).toNat = 128 + c % 64 := fun c => by
    rw [UInt8.toNat_ofNat']
    omega
  obtain ⟨c, hc⟩ : ∃ c, c = (if Utf8.valid r then r.toNat else Utf8.runeError) := ⟨_, rfl⟩
  have hc1 : ¬ c < 128 := by
    rw [hc]
    split
    · omega
    · decide
  unfold Utf8.encode
  simp only [← hc, hc1, if_false]
  split
  · exact ⟨0, _, rfl, by decide, rfl, by rw [hl]; omega⟩
  split
  · exact ⟨1, _, rfl, by decide, rfl, by rw [hl]; omega⟩
  · exact ⟨2, _, rfl, by decide, rfl, by rw [hl]; omega⟩

/-- One step of a range over a text, at a code point beyond ASCII. -/
theorem run_next_high (w : World) (s : ByteArray) (pos : Nat) (ty : TypeId) (h : pos < s.size) :
    (Instr.next (.pointer (some ⟨w.heap.size, 0, none⟩)) true ty).run Tryd.prog (w.iter s pos) = .ok (.tuple #[.bool true, .int .i64 pos, .int .i32 (Utf8.decode s pos).1]) (w.iter s (pos + (Utf8.decode s pos).2)) := by
  simp only [Instr.next, getObj, setObj, Sem.run_bind, Sem.run, World.iter_heap, Result.andThen, h, if_true, World.iter_set]
  simp [goInt]
end Go.Proofs.YtjgaidojohgenaaDoor
