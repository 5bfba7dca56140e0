/-
  Cut of package barographlaw01: a text cut to a length.
  It holds for every text and every length from 0 to 1000.
-/
import Derived.Test.YtjffdcflkkgpfaaGreatRows
import Derived.Test.YtjffdcflkkgpfaaGreatBase
namespace Go.Proofs.YtjffdcflkkgpfaaGreat
open Go Go.RowKit

/-- A text cut to a length. -/
def cut (s : ByteArray) (n : Nat) : ByteArray := if n < s.size then s.extract 0 n else s


theorem cut_size (s : ByteArray) (n : Nat) : (cut s n).size ≤ n := by
  unfold cut
  split
  · simp [ByteArray.size_extract]
    omega
  · omega

theorem cut_size_le (s : ByteArray) (n : Nat) : (cut s n).size ≤ s.size := by
  unfold cut
  split
  · simp [ByteArray.size_extract]
    omega
  · omega


set_option maxHeartbeats 400000 in
theorem cut_any (s : ByteArray) (n : Nat) (w : World) (h1 : n ≤ 1000) :
    Calls Tryz.prog 36 #[.string s, .int .i64 n] w fun e w' => e = .returned (.string (cut s n)) ∧ w = w' := by
  by_cases h : n < s.size
  · go_enter Tryz.func36, Tryz.ntmps36
    go_wp2
    go_ret
    exact ⟨by rw [cut, if_pos h]; rfl, rfl⟩
  · go_enter Tryz.func36, Tryz.ntmps36
    go_wp2
    go_ret
    exact ⟨by rw [cut, if_neg h]; rfl, rfl⟩

end Go.Proofs.YtjffdcflkkgpfaaGreat
