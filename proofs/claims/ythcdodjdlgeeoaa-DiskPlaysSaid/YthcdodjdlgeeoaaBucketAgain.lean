/-
  BucketAgain answers true for every text, bool and number, and leaves all memory that was there as it was.
  No condition: every input that can be read.
-/
import Derived.Test.YthcdodjdlgeeoaaBucketParts
namespace Go.Proofs.Ythcdodjdlgeeoaa
open Go Go.RowKit Go.Conc

def objN (s : ByteArray) (now : Int) : List (ByteArray × Ob) := [(nameO, (s, now))]
def objIf (d : Bool) (s : ByteArray) (now : Int) : List (ByteArray × Ob) := if d then objN s now else []
def objNot (d : Bool) (s : ByteArray) (now : Int) : List (ByteArray × Ob) := if d then [] else objN s now
theorem again1 (d : Bool) (s : ByteArray) (now : Int) : chg [(0, d)] [] (put [] nameO (s, now)) = objIf d s now := by cases d <;> rfl
theorem again2 (d : Bool) (s : ByteArray) (now : Int) : chg [] (objIf d s now) (put (objIf d s now) nameO (s, now)) = objN s now := by cases d <;> rfl
theorem again3 (d : Bool) (s : ByteArray) (now : Int) : chg [(0, d)] (objN s now) (del (objN s now) nameO) = objNot d s now := by cases d <;> rfl
theorem again4 (d : Bool) (s : ByteArray) (now : Int) : chg [] (objNot d s now) (del (objNot d s now) nameO) = [] := by cases d <;> rfl
theorem againP (d : Bool) (s : ByteArray) (now : Int) : (look (objIf d s now) nameO).isSome = d := by cases d <;> rfl
theorem againN (d : Bool) (s : ByteArray) (now : Int) : (look (objNot d s now) nameO).isSome = !d := by cases d <;> rfl
theorem io1 (d : Bool) : ioErr [(0, d)] = 8 := rfl

set_option maxRecDepth 100000 in
set_option maxHeartbeats 2000000 in
theorem bucketAgain_walk (s : ByteArray) (d : Bool) (now : Int) (w : World) :
    Calls Try.prog 5 #[.string s, .bool d, .int .i64 now] w fun e w' => e = .returned (.bool true) ∧ Keeps [] w w' := by
  go_enter Try.func5, Try.ntmps5
  go_wp2_with fail
  refine (cut_any s 60 _ (by decide)).mono ?_
  rintro e w' ⟨rfl, rfl⟩
  generalize cut s 60 = s'
  go_wp2_with fail
  refine (newBucket_spec w).mono ?_
  rintro e w1 ⟨b, f, c, mb, rfl, hb1, hk1, l1, l2, l3, l4⟩
  go_wp2_with fail
  refine (awakeB_spec w1).mono ?_
  rintro e w2 ⟨rfl, hk2⟩
  have hb2 := hk2.keep_bucket hb1
  have cb2 := cells_at hb2.cells
  go_wp2_with fail
  refine (arm_ok w2 f c _ _ 0 d (by decide) hb2.fuse (by decide)).mono ?_
  rintro e w3 ⟨rfl, hq3, hk3⟩
  have hb3 : BucketAt w3 b f c mb false [(0, d)] [] := hb2.tried hk3 hq3
  have k3 : Keeps [] w w3 := (hk1.trans hk2).after hk3 (by simp; omega)
  clear cb2 hb2 hb1 hk1 hk2 hk3 hq3
  go_wp2_with fail
  refine (put_spec w3 b f c mb _ _ _ hb3 nameO s' now (by decide) (by decide)).mono ?_
  rintro e w4 ⟨rfl, hb4', hk4⟩
  rw [again1] at hb4'
  have hb4 : BucketAt w4 b f c mb false [] (objIf d s' now) := hb4'
  have k4 : Keeps [] w w4 := k3.after hk4 (by simp; omega)
  rw [io1]
  clear hb4' hb3 hk4 k3
  go_wp2_with fail
  refine (peek_spec w4 b f c mb _ _ _ hb4 nameO).mono ?_
  rintro e w5 ⟨rfl, hk5⟩
  rw [againP]
  have hb5 := hk5.keep_bucket hb4
  generalize (obOr (look (objIf d s' now) nameO)).1 = t5
  go_wp2_with fail
  refine (put_spec w5 b f c mb _ _ _ hb5 nameO s' now (by decide) (by decide)).mono ?_
  rintro e w6 ⟨rfl, hb6', hk6⟩
  rw [again2] at hb6'
  have hb6 : BucketAt w6 b f c mb false [] (objN s' now) := hb6'
  have k6 : Keeps [] w w6 := (k4.trans hk5).after hk6 (by simp; omega)
  rw [show ioErr [] = 0 from rfl]
  clear hb6' hb5 hb4 hk6 k4 hk5
  go_wp2_with fail
  refine (peek_spec w6 b f c mb _ _ _ hb6 nameO).mono ?_
  rintro e w7 ⟨rfl, hk7⟩
  rw [show (obOr (look (objN s' now) nameO)).1 = s' from rfl, show (look (objN s' now) nameO).isSome = true from rfl]
  have hb7 := hk7.keep_bucket hb6
  have cb7 := cells_at hb7.cells
  go_wp2_with fail
  refine (arm_ok w7 f c _ _ 0 d (by decide) hb7.fuse (by decide)).mono ?_
  rintro e w8 ⟨rfl, hq8, hk8⟩
  have hb8 : BucketAt w8 b f c mb false [(0, d)] (objN s' now) := hb7.tried hk8 hq8
  have k8 : Keeps [] w w8 := (k6.trans hk7).after hk8 (by simp; omega)
  clear cb7 hb7 hb6 hk7 hk8 k6 hq8
  go_wp2_with fail
  refine (delete_spec w8 b f c mb _ _ _ hb8 nameO).mono ?_
  rintro e w9 ⟨rfl, hb9', hk9⟩
  rw [again3] at hb9'
  have hb9 : BucketAt w9 b f c mb false [] (objNot d s' now) := hb9'
  have k9 : Keeps [] w w9 := k8.after hk9 (by simp; omega)
  rw [io1]
  clear hb9' hb8 hk9 k8
  go_wp2_with fail
  refine (peek_spec w9 b f c mb _ _ _ hb9 nameO).mono ?_
  rintro e w10 ⟨rfl, hk10⟩
  rw [againN]
  have hb10 := hk10.keep_bucket hb9
  generalize (obOr (look (objNot d s' now) nameO)).1 = t10
  go_wp2_with fail
  refine (delete_spec w10 b f c mb _ _ _ hb10 nameO).mono ?_
  rintro e w11 ⟨rfl, hb11', hk11⟩
  rw [again4] at hb11'
  have hb11 : BucketAt w11 b f c mb false [] [] := hb11'
  have k11 : Keeps [] w w11 := (k9.trans hk10).after hk11 (by simp; omega)
  rw [show ioErr [] = 0 from rfl]
  clear hb11' hb10 hb9 hk11 k9 hk10
  go_wp2_with fail
  refine (peek_spec w11 b f c mb _ _ _ hb11 nameO).mono ?_
  rintro e w12 ⟨rfl, hk12⟩
  rw [show (look ([] : List (ByteArray × Ob)) nameO).isSome = false from rfl]
  generalize (obOr (look ([] : List (ByteArray × Ob)) nameO)).1 = t12
  cases d
  all_goals
    go_wp2_with fail
    go_ret
    exact ⟨rfl, k11.trans hk12⟩

theorem bucketAgain_law (w : World) (s : ByteArray) (_ : s.size ≤ maxLen) (d : Bool) (now : Int) (_ : (Lit.int .i64 now).wf = true) :
    Calls Try.prog 5 #[.string s, .bool d, .int .i64 now] w fun e w' => e = .returned (.bool true) ∧ Keeps [] w w' := bucketAgain_walk s d now w

end Go.Proofs.Ythcdodjdlgeeoaa
