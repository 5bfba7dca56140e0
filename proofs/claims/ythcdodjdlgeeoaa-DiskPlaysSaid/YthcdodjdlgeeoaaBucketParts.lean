/-
  BucketParts answers true for every text and every step, and leaves all memory that was there as it was.
  No condition: every input that can be read.
-/
import Derived.Test.YthcdodjdlgeeoaaAwakeB
import Derived.Test.YthcdodjdlgeeoaaCut
namespace Go.Proofs.Ythcdodjdlgeeoaa
open Go Go.RowKit Go.Conc

def nameO : ByteArray := ⟨#[111]⟩

/-- The first a bytes. -/
def upto (s : ByteArray) (a : Nat) : ByteArray := s.extract 0 (min a s.size)

theorem upto_step (s : ByteArray) (a n : Nat) (ha : a < s.size) : upto s a ++ s.extract a (a + min n (s.size - a)) = upto s (a + n) := by
  unfold upto
  rw [show min a s.size = a from by omega, show a + min n (s.size - a) = min (a + n) s.size from by omega, ByteArray.extract_append_extract]
  rw [show min 0 a = 0 from by omega, show max a (min (a + n) s.size) = min (a + n) s.size from by omega]
theorem upto_zero (s : ByteArray) : upto s 0 = ⟨#[]⟩ := by
  unfold upto
  rw [show min 0 s.size = 0 from by omega]
  exact ByteArray.extract_same
theorem upto_all (s : ByteArray) (a : Nat) (h : s.size ≤ a) : upto s a = s := by
  unfold upto
  rw [show min a s.size = s.size from by omega]
  exact ByteArray.extract_zero_size

def objO (s : ByteArray) : List (ByteArray × Ob) := [(nameO, (s, 0))]
theorem range_in (s : ByteArray) (a n : Nat) (ha : a ≤ s.size) : rangeVal [] (objO s) nameO a n = (s.extract a (a + min n (s.size - a)), 0) := by
  have h1 : rangeVal [] (objO s) nameO a n = cutVal (s, 0) a n := rfl
  rw [h1, cutVal, if_neg (by simp only; omega)]
  have e1 : ((a : Int)).toNat = a := by omega
  have e2 : ((a : Int) + min (n : Int) ((s.size : Int) - a)).toNat = a + min n (s.size - a) := by omega
  simp only [e1, e2]
theorem range_end (s : ByteArray) : rangeVal [] (objO s) nameO s.size 5 = (⟨#[]⟩, 0) := by
  have h := range_in s s.size 5 (Nat.le_refl _)
  rw [show s.size + min 5 (s.size - s.size) = s.size from by omega, ByteArray.extract_same] at h
  exact h
theorem upto_size (s : ByteArray) (a : Nat) : (upto s a).size ≤ s.size := by
  unfold upto
  simp
  omega
theorem range_out (s : ByteArray) (a n : Int) (ha : (s.size : Int) < a) : rangeVal [] (objO s) nameO a n = (⟨#[]⟩, 1) := by
  have h1 : rangeVal [] (objO s) nameO a n = cutVal (s, 0) a n := rfl
  rw [h1, cutVal, if_pos (by simp only; omega)]
theorem look_objO {s : ByteArray} (hs : s.size ≤ 200) : ∀ x, look (objO s) nameO = some x → x.1.size ≤ maxLen := by
  intro x hx
  rw [show look (objO s) nameO = some (s, 0) from rfl] at hx
  injection hx with hx
  rw [← hx]
  simp only [maxLen]
  omega

/-- The loop's relation. -/
def PartsRel (w b0 : World) (b f c mb : Nat) (s : ByteArray) (gk : Nat) (all at_ : Value) (wr : World) : Prop :=
  ∃ a : Nat, a ≤ 500 ∧ gk = 600 - a ∧ at_ = .int .i64 a ∧ all = .string (upto s a) ∧ BucketAt wr b f c mb false [] (objO s) ∧ Keeps [] w wr ∧ b0 = w

set_option maxRecDepth 100000 in
set_option maxHeartbeats 2000000 in
theorem bucketParts_walk (s : ByteArray) (step : Int) (w : World) (hs1 : -9223372036854775808 ≤ step) (hs2 : step ≤ 9223372036854775807) :
    Calls Try.prog 3 #[.string s, .int .i64 step] w fun e w' => e = .returned (.bool true) ∧ Keeps [] w w' := by
  have hcs := cut_size s 200
  by_cases hstep : 1 ≤ step ∧ step ≤ 300
  · obtain ⟨h1, h300⟩ := hstep
    go_enter Try.func3, Try.ntmps3
    go_wp2_with fail
    refine (cut_any s 200 _ (by decide)).mono ?_
    rintro e w' ⟨rfl, rfl⟩
    generalize cut s 200 = s' at hcs ⊢
    go_wp2_with fail
    refine (newBucket_spec w).mono ?_
    rintro e w1 ⟨b, f, c, mb, rfl, hb1, hk1, l1, l2, l3, l4⟩
    go_wp2_with fail
    refine (awakeB_spec w1).mono ?_
    rintro e w2 ⟨rfl, hk2⟩
    have hb2 := hk2.keep_bucket hb1
    go_wp2_with fail
    refine (put_spec w2 b f c mb _ _ _ hb2 nameO s' 0 (by decide) (by decide)).mono ?_
    rintro e w3 ⟨rfl, hb3', hk3⟩
    have hb3 : BucketAt w3 b f c mb false [] [(nameO, (s', 0))] := hb3'
    rw [show ioErr [] = 0 from rfl]
    have hk13 : Keeps [] w w3 := (hk1.trans hk2).after hk3 (by simp; omega)
    clear hb3' hb1 hk1 hb2 hk2 hk3
    obtain ⟨n, rfl⟩ := Int.eq_ofNat_of_zero_le (show 0 ≤ step by omega)
    go_wp2_with fail
    go_loopg [6, 7] 600 (PartsRel w w b f c mb s')
    case atStart => exact ⟨0, by omega, rfl, rfl, by rw [upto_zero], hb3, hk13, rfl⟩
    case round =>
      obtain ⟨a, ha, hgk, rfl, rfl, hb, hk, _⟩ := hrel
      have Hg := Lib.hid hgk
      clear hgk hb3 hk13
      by_cases hlt : a < s'.size
      · have hup := upto_step s' a n hlt
        have hri := range_in s' a n (by omega)
        have hus := upto_size s' a
        have hpl : (s'.extract a (a + min n (s'.size - a))).size ≤ n := by simp; omega
        generalize s'.extract a (a + min n (s'.size - a)) = part at hup hri hpl
        have hcat : (upto s' a).size + part.size ≤ 9223372036854775807 := by omega
        have Hup := Lib.hid hup
        have Hri := Lib.hid hri
        clear hup hri
        go_wp2_with fail
        refine (range_spec wr b f c mb _ _ _ hb nameO a n (by omega) (by omega) (look_objO hcs)).mono ?_
        rintro e w4 ⟨rfl, hb4', hk4⟩
        have hb4 : BucketAt w4 b f c mb false [] (objO s') := hb4'
        rw [Hri.out]
        have hk5 := hk.after hk4 (by simp; omega)
        clear hb4' hb hk hk4
        go_wp2_with fail
        rw [Hup.out]
        go_roundg (600 - (a + n))
        case measure => have := Hg.out; omega
        case rel => exact ⟨a + n, by omega, rfl, by go_num, rfl, hb4, hk5, rfl⟩
      · rw [upto_all s' a (by omega)]
        go_wp2_with fail
        refine (get_spec wr b f c mb _ _ _ hb nameO).mono ?_
        rintro e w4 ⟨rfl, hb4', hk4⟩
        have hb4 : BucketAt w4 b f c mb false [] (objO s') := hb4'
        rw [show getVal [] (objO s') nameO = (s', 0) from rfl]
        go_wp2_with fail
        refine (range_spec w4 b f c mb _ _ _ hb4 nameO s'.size 5 (by omega) (by omega) (look_objO hcs)).mono ?_
        rintro e w5 ⟨rfl, hb5', hk5⟩
        have hb5 : BucketAt w5 b f c mb false [] (objO s') := hb5'
        rw [range_end]
        go_wp2_with fail
        refine (range_spec w5 b f c mb _ _ _ hb5 nameO (s'.size + 1) 5 (by omega) (by omega) (look_objO hcs)).mono ?_
        rintro e w6 ⟨rfl, hb6, hk6⟩
        rw [range_out s' _ _ (by omega)]
        go_wp2_with fail
        go_ret
        exact ⟨rfl, ((hk.after hk4 (by simp; omega)).after hk5 (by simp; omega)).after hk6 (by simp; omega)⟩
  · go_enter Try.func3, Try.ntmps3
    go_wp2_with fail
    refine (cut_any s 200 _ (by decide)).mono ?_
    rintro e w' ⟨rfl, rfl⟩
    generalize cut s 200 = s' at hcs ⊢
    go_wp2_with fail
    refine (newBucket_spec w).mono ?_
    rintro e w1 ⟨b, f, c, mb, rfl, hb1, hk1, l1, l2, l3, l4⟩
    go_wp2_with fail
    refine (awakeB_spec w1).mono ?_
    rintro e w2 ⟨rfl, hk2⟩
    have hb2 := hk2.keep_bucket hb1
    go_wp2_with fail
    refine (put_spec w2 b f c mb _ _ _ hb2 nameO s' 0 (by decide) (by decide)).mono ?_
    rintro e w3 ⟨rfl, hb3, hk3⟩
    rw [show ioErr [] = 0 from rfl]
    have hk13 : Keeps [] w w3 := (hk1.trans hk2).after hk3 (by simp; omega)
    clear hb3 hb1 hk1 hb2 hk2 hk3
    go_wp2_with fail
    all_goals
      refine (awakeB_spec w3).mono ?_
      rintro e w4 ⟨rfl, hk4⟩
      go_wp2_with fail
      go_ret
      exact ⟨rfl, hk13.trans hk4⟩

theorem bucketParts_law (w : World) (s : ByteArray) (_ : s.size ≤ maxLen) (step : Int) (hw : (Lit.int .i64 step).wf = true) :
    Calls Try.prog 3 #[.string s, .int .i64 step] w fun e w' => e = .returned (.bool true) ∧ Keeps [] w w' := by
  obtain ⟨h1, h2⟩ := int_wf hw
  exact bucketParts_walk s step w h1 h2
end Go.Proofs.Ythcdodjdlgeeoaa
