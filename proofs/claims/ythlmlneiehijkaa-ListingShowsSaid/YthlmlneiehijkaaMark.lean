/-
  Marks of blocks as bytes, and back (meta.EncodeMark, meta.DecodeMark).
  Each contract holds in every world; old memory is left as it was.
-/
import Derived.Test.YthlmlneiehijkaaTaker
import Derived.Deep.QuietTactic
namespace Go.Proofs.Ythlmlneiehijkaa
open Go Go.RowKit

def markL (id : List UInt8) (n : Nat) : List UInt8 := frameL 2 (textL id ++ lebL n)


/-- The block, and when its mark was made: what DecodeMark answers. -/
def markTk (l : List UInt8) : (List UInt8 × Int) × Tk :=
  let a := tkT ((onlyL l 2).1, (onlyL l 2).2) 16
  let b := tkN a.2 1099511627776
  ((a.1, b.1), b.2)

def unmarkL (l : List UInt8) : List UInt8 × Int × Int :=
  let m := markTk l
  if m.2.2 ≠ 0 then ([], 0, m.2.2) else if m.2.1 ≠ [] ∨ isIDB m.1.1 = false then ([], 0, 3) else (m.1.1, m.1.2, 0)

def unmarkVals (r : List UInt8 × Int × Int) : Value := .tuple #[.string ⟨r.1.toArray⟩, .int .i64 r.2.1, .int .i64 r.2.2]

def UnmarkPost (w : World) (r : List UInt8 × Int × Int) (e : Ending) (w' : World) : Prop := e = .returned (unmarkVals r) ∧ Keeps [] w w'


theorem unmark_err {l : List UInt8} (h : (markTk l).2.2 ≠ 0) : unmarkL l = ([], 0, (markTk l).2.2) := by unfold unmarkL; rw [if_pos h]

theorem unmark_form {l : List UInt8} (h : (markTk l).2.2 = 0) (h2 : (markTk l).2.1 ≠ [] ∨ isIDB (markTk l).1.1 = false) : unmarkL l = ([], 0, 3) := by
  unfold unmarkL; rw [if_neg (by simp [h]), if_pos h2]

theorem unmark_ok {l : List UInt8} (h : (markTk l).2.2 = 0) (h2 : (markTk l).2.1 = []) (h3 : isIDB (markTk l).1.1 = true) : unmarkL l = ((markTk l).1.1, (markTk l).1.2, 0) := by
  unfold unmarkL; rw [if_neg (by simp [h]), if_neg (by simp [h2, h3])]

theorem unmark_mark {id : List UInt8} {n : Nat} (hid : isIDB id = true) (hn : n ≤ 1099511627776) : unmarkL (markL id n) = (id, (n : Int), 0) := by
  have h16 : id.length = 16 := by
    unfold isIDB parseL at hid
    by_cases h : id.length = 16
    · exact h
    · rw [if_pos h] at hid; cases hid
  have hl1 : (textL id ++ lebL n).length ≤ 1048576 := by
    unfold textL
    have h1 := lebL_len10 (v := id.length) (by omega)
    have h2 := lebL_len10 (v := n) (by omega)
    simp only [List.length_append]
    omega
  have e1 : nextF (markL id n) = (2, textL id ++ lebL n, [], 0) := by
    have := nextF_frame 2 (textL id ++ lebL n) [] hl1
    rwa [List.append_nil] at this
  have e2 : onlyL (markL id n) 2 = (textL id ++ lebL n, 0) := by
    unfold onlyL onlyE
    rw [e1]
    simp
  have e3 : markTk (markL id n) = ((id, (n : Int)), ([], 0)) := by
    unfold markTk
    rw [e2]
    have t1 := takeT_text id (lebL n) (most := 16) (by omega) (by decide)
    have t2 := takeM_leb (m := n) [] (most := 1099511627776) (by omega) (by decide)
    rw [List.append_nil] at t2
    simp [tkT, tkN, t1, t2]
  rw [unmark_ok (by rw [e3]) (by rw [e3]) (by rw [e3]; exact hid), e3]


theorem nextF_len (l : List UInt8) : (nextF l).2.1.length ≤ l.length := by
  unfold nextF
  cases l with
  | nil => simp
  | cons k r =>
    have h := takeM_left r 1048576
    simp only
    split
    · simp
    · split
      · simp
      · split
        · simp
        · simp only [List.length_take, List.length_drop, List.length_cons]
          omega


end Go.Proofs.Ythlmlneiehijkaa
