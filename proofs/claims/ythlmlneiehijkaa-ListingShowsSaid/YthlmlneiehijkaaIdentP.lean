/-
  Blocks' names (ident): Parse; whether a block is late (ship.Late).
  Each contract holds in every world; old memory is left as it was.
-/
import Derived.Test.YthlmlneiehijkaaIdent
namespace Go.Proofs.Ythlmlneiehijkaa
open Go Go.RowKit

def parseVals (r : Option (Nat × Nat)) : Value := match r with | some (a, b) => .tuple #[.int .i64 a, .int .i64 b, .int .i64 0] | none => .tuple #[.int .i64 0, .int .i64 0, .int .i64 3]

theorem take_data (s : ByteArray) (k : Nat) : (s.extract 0 k).data.toList = s.data.toList.take k := by
  simp [ByteArray.data_extract, List.extract_eq_take_drop]

theorem drop_data (s : ByteArray) (k : Nat) : (s.extract k s.size).data.toList = s.data.toList.drop k := by
  rw [extract_end]


set_option maxRecDepth 100000 in
set_option maxHeartbeats 1000000 in
theorem parse_spec (w : World) (s : ByteArray) :
    Calls Try.prog 77 #[.string s] w fun e w' => e = .returned (parseVals (parseL s.data.toList)) ∧ w = w' := by
  have hP : parseL s.data.toList = (if s.data.toList.length ≠ 16 then none else
    match numL (s.data.toList.take 8) 0, numL (s.data.toList.drop 8) 0 with
    | some a, some b => some (a, b)
    | _, _ => none) := rfl
  rw [dsize] at hP
  by_cases h16 : s.size = 16
  · rw [if_neg (fun h => h h16)] at hP
    have e16 : ((s.size : Int) == 16) = true := by rw [beq_iff_eq]; omega
    have e16' : (s.size : Int) = 16 := by omega
    have z1 : (s.extract 0 8).size ≤ 8 := by rw [ByteArray.size_extract]; omega
    have z2 : (s.extract 8 s.size).size ≤ 8 := by rw [ByteArray.size_extract]; omega
    have H1 := Lib.hid (number_spec w (s.extract 0 8) z1)
    have H2 := Lib.hid (number_spec w (s.extract 8 s.size) z2)
    rw [take_data] at H1
    rw [drop_data] at H2
    generalize parseL s.data.toList = R at hP
    generalize numL (s.data.toList.take 8) 0 = a at hP H1
    generalize numL (s.data.toList.drop 8) 0 = b at hP H2
    have HP := Lib.hid hP
    have hlt8 : 8 ≤ s.size := by omega
    have hlt8' : (8 : Int) ≤ (s.size : Int) := by omega
    have Hsz := Lib.hid h16
    clear hP h16 e16' z1 z2
    go_enter Try.func77, Try.ntmps77
    go_wp2_with fail
    refine H1.out.mono ?_
    rintro e w1 ⟨rfl, rfl⟩
    cases a with
    | none =>
      simp only [numVals]
      go_wp2_with fail
      refine H2.out.mono ?_
      rintro e w2 ⟨rfl, rfl⟩
      cases b with
      | none =>
        simp only [numVals]
        go_wp2_with fail
        go_ret3
        exact ⟨by rw [HP.out]; rfl, rfl⟩
      | some b =>
        simp only [numVals]
        go_wp2_with fail
        go_ret3
        exact ⟨by rw [HP.out]; rfl, rfl⟩
    | some a =>
      simp only [numVals]
      go_wp2_with fail
      refine H2.out.mono ?_
      rintro e w2 ⟨rfl, rfl⟩
      cases b with
      | none =>
        simp only [numVals]
        go_wp2_with fail
        go_ret3
        exact ⟨by rw [HP.out]; rfl, rfl⟩
      | some b =>
        simp only [numVals]
        go_wp2_with fail
        go_ret3
        exact ⟨by rw [HP.out]; rfl, rfl⟩
  · rw [if_pos h16] at hP
    have e16 : ((s.size : Int) == 16) = false := by rw [beq_eq_false_iff_ne]; omega
    have e16' : ¬ (s.size : Int) = 16 := by omega
    have HP := Lib.hid hP
    clear hP h16
    go_enter Try.func77, Try.ntmps77
    go_wp2_with fail
    go_ret3
    exact ⟨by rw [HP.out]; rfl, rfl⟩


def lateB (r : Option (Nat × Nat)) (now grace : Int) : Bool := match r with | some (t, _) => decide (grace ≤ now - t) | none => true

end Go.Proofs.Ythlmlneiehijkaa
