/-
  The bucket's answers that the document fixes: awake of package barographlaw05 answers true.
  It holds in every world.
-/
import Derived.Test.YthcdodjdlgeeoaaList
namespace Go.Proofs.Ythcdodjdlgeeoaa
open Go Go.RowKit Go.Conc

def nameA : ByteArray := ⟨#[97]⟩
def xyz : ByteArray := ⟨#[120, 121, 122]⟩
def obsA : List (ByteArray × Ob) := [(nameA, (xyz, 7))]
theorem putA : put ([] : List (ByteArray × Ob)) nameA (xyz, 7) = obsA := rfl
theorem rangeA : rangeVal [] obsA nameA 1 9 = (⟨#[121, 122]⟩, 0) := by decide +kernel
theorem delA : chg [(0, true)] obsA (del obsA nameA) = [] := by decide +kernel

set_option maxRecDepth 100000 in
set_option maxHeartbeats 1000000 in
theorem awakeB_spec (w : World) :
    Calls Try.prog 16 #[] w fun e w' => e = .returned (.bool true) ∧ Keeps [] w w' := by
  go_enter Try.func16, Try.ntmps16
  go_wp2_with fail
  refine (newBucket_spec w).mono ?_
  rintro e w1 ⟨b, f, c, mb, rfl, hb1, hk1, l1, l2, l3, l4⟩
  have cb1 := cells_at hb1.cells
  go_wp2_with fail
  refine (put_spec w1 b f c mb _ _ _ hb1 nameA xyz 7 (by decide) (by decide)).mono ?_
  rintro e w2 ⟨rfl, hb2', hk2⟩
  have hb2 : BucketAt w2 b f c mb false [] obsA := hb2'
  rw [show ioErr [] = 0 from rfl]
  clear cb1 hb2'
  have cb2 := cells_at hb2.cells
  go_wp2_with fail
  refine (range_spec w2 b f c mb _ _ _ hb2 nameA 1 9 (by decide) (by decide) ?_).mono ?_
  · intro x hx
    rw [show look obsA nameA = some (xyz, 7) from rfl] at hx
    injection hx with hx
    rw [← hx]
    decide
  rintro e w3 ⟨rfl, hb3', hk3⟩
  have hb3 : BucketAt w3 b f c mb false [] obsA := hb3'
  rw [rangeA]
  clear cb2 hb3'
  have cb3 := cells_at hb3.cells
  go_wp2_with fail
  refine (arm_ok w3 f c _ _ 0 true (by decide) hb3.fuse (by decide)).mono ?_
  rintro e w4 ⟨rfl, hq4, hk4⟩
  have hb4 : BucketAt w4 b f c mb false [(0, true)] obsA := hb3.tried hk4 hq4
  clear cb3 hq4
  have cb4 := cells_at hb4.cells
  go_wp2_with fail
  refine (delete_spec w4 b f c mb _ _ _ hb4 nameA).mono ?_
  rintro e w5 ⟨rfl, hb5', hk5⟩
  rw [delA] at hb5'
  have hb5 : BucketAt w5 b f c mb false [] [] := hb5'
  rw [show ioErr [(0, true)] = 8 from rfl]
  clear cb4 hb5'
  have cb5 := cells_at hb5.cells
  go_wp2_with fail
  refine (get_spec w5 b f c mb _ _ _ hb5 nameA).mono ?_
  rintro e w6 ⟨rfl, hb6', hk6⟩
  have hb6 : BucketAt w6 b f c mb false [] [] := hb6'
  rw [show getVal [] ([] : List (ByteArray × Ob)) nameA = (⟨#[]⟩, 5) from rfl]
  clear cb5 hb6'
  have cb6 := cells_at hb6.cells
  go_wp2_with fail
  refine (look_spec w6 b f c mb _ _ _ hb6 ⟨#[]⟩ (by simp) (by intro n; show ByteArray.size ⟨#[]⟩ ≤ _; decide) (by decide)).mono ?_
  rintro e w7 ⟨v, rfl, hrow, hk7⟩
  obtain ⟨ao, cap, rfl, hcap, hcap2, hcell⟩ := row_slice hrow
  rw [show listing [] ⟨#[]⟩ = [] from by simp [listing, sortedKeys, sortB]]
  clear hrow hcell cb6
  go_wp2_with fail
  go_ret
  refine ⟨rfl, ?_⟩
  have k1 := hk1.after hk2 (by simp; omega)
  have k2 := (k1.after hk3 (by simp; omega)).after hk4 (by simp; omega)
  have k3 := (k2.after hk5 (by simp; omega)).after hk6 (by simp; omega)
  exact k3.after hk7 (by simp)

end Go.Proofs.Ythcdodjdlgeeoaa
