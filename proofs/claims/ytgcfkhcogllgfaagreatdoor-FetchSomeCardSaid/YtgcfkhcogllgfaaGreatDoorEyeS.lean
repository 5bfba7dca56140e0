/-
  Bits that are taken from packed bits (package bitrow): Over, Err, Left, Bit, Bits, Unary.
  No condition beyond those that each theorem states.
-/
import Derived.Test.YtgcfkhcogllgfaaGreatDoorBitsV
namespace Go.Proofs.YtgcfkhcogllgfaaGreatDoor
set_option maxRecDepth 100000
set_option maxHeartbeats 1000000
set_option linter.unusedSimpArgs false
open Go Go.RowKit Go.Conc
def EyeAt (w : World) (p : Nat) (s : ByteArray) (n at_ : Nat) : Prop := w.heap[p]? = some (.cells #[.string s, .int .i64 (n : Nat), .int .i64 (at_ : Nat), .int .i64 0] 254 (0, 0))
theorem str_index (s : ByteArray) (i : Nat) (hi : i < s.data.toList.length) (W : World) : (Instr.index 9 (.string s) (.int .i64 (i : Nat))).run Tryz.prog W = .ok (.int .u8 ((s.data.toList[i].toNat : Nat) : Int)) W := by
 have hsz : i < s.size := by rw [← dsize]; exact hi
 rw [run_index_string (h := by simp [go_sem]), dif_pos ⟨by omega, by omega⟩]
 have e : ((i : Nat) : Int).toNat = i := by omega
 simp only [e]
 rfl
theorem u8_and128 {x : Nat} (hx : x < 256) : bits .and .u8 (x : Int) 128 = ((x &&& 128 : Nat) : Int) :=
 (bits_nat .u8 8 (by decide) (fun n h0 h1 => by rw [IntKind.wrap_u8]; omega) x 128 hx (by decide)).1
theorem eyeBit_spec (w : World) (p n a : Nat) (s : ByteArray) (B : List Bool) (b : Bool) (hs : s.data.toList = packB B) (hn : n = B.length) (hB : B.length < 900000000) (hb : Rd B a [b]) (h : EyeAt w p s n a) :
  Calls Tryz.prog 173 #[.pointer (some ⟨p, 0, none⟩)] w fun e w' => e = .returned (.bool b) ∧ EyeAt w' p s n (a + 1) ∧ Keeps [p] w w' := by
 obtain ⟨hl, hbv⟩ := hb.bit
 obtain ⟨h2, hsee⟩ := packB_see hl
 have hi8 : a / 8 < s.data.toList.length := by rw [hs]; exact h2
 have H0 := Lib.hid h
 have hz : decide (n ≤ a) = false := by rw [decide_eq_false_iff_not]; omega
 have cp := cells_at h
 have lp := lt_of_at h
 have hand := i64_and7R (a : Int)
 have hix := str_index s (a / 8) hi8
 rw [show ((a / 8 : Nat) : Int) = (a : Int) / 8 by simp] at hix
 obtain ⟨x, hx⟩ : ∃ x, x = s.data.toList[a / 8].toNat := ⟨_, rfl⟩
 have hxs : (x * 2 ^ (a % 8) % 256) &&& 128 = if b then 128 else 0 := by
  rw [hx]
  have : s.data.toList[a / 8].toNat = ((packB B)[a / 8]'h2).toNat := by congr 1; exact List.getElem_of_eq hs _
  rw [this, hsee, hbv]
 rw [← hx] at hix
 have hbit : (bits .and .u8 ((x : Int) * 2 ^ (a % 8) % 256) 128 != 0) = b := by
  rw [show (x : Int) * 2 ^ (a % 8) % 256 = ((x * 2 ^ (a % 8) % 256 : Nat) : Int) by simp, u8_and128 (Nat.mod_lt _ (by decide)), hxs]
  cases b <;> rfl
 clear hx hxs hsee hbv hs hi8 h2 h
 go_enter Tryz.func173, Tryz.ntmps173
 go_upto_region 1 with fail
 go_quiet (fail)
 obtain ⟨W1, hW1⟩ : ∃ W1, W1 = w.drewN nq := ⟨_, rfl⟩
 rw [← hW1]
 have k1 : Keeps [] w W1 := by rw [hW1]; exact (Keeps.refl [] _).drewN _
 have H1 := Lib.hid (And.intro (k1.at_ H0.out (by simp)) k1)
 clear hW1 k1 cp lp
 have cp := cells_at H1.out.1
 have lp := lt_of_at H1.out.1
 go_upto_region 5 with fail
 go_quiet (fail)
 obtain ⟨W2, hW2⟩ : ∃ W2, W2 = W1.drewN nq := ⟨_, rfl⟩
 rw [← hW2]
 have k2 : Keeps [] W1 W2 := by rw [hW2]; exact (Keeps.refl [] _).drewN _
 have H2 := Lib.hid (And.intro (k2.at_ H1.out.1 (by simp)) (H1.out.2.trans k2))
 clear hW2 k2 cp lp
 have cp := cells_at H2.out.1
 have fp := free_at H2.out.1
 have lp := lt_of_at H2.out.1
 go_wp2_with fail
 go_ret
 refine ⟨rfl, ?_, (H2.out.2.mono (by simp)).trans ((Keeps.refl _ _).setCell (.inl (by simp)) _)⟩
 have := heap_cell_same (i := 2) H2.out.1 (.int .i64 ((a + 1 : Nat) : Int))
 simpa [EyeAt] using this
theorem left_spec (w : World) (p n a : Nat) (s : ByteArray) (hn : n < 900000000) (ha : a < 900000000) (h : EyeAt w p s n a) :
  Calls Tryz.prog 172 #[.pointer (some ⟨p, 0, none⟩)] w fun e w' => e = .returned (.int .i64 ((n : Int) - (a : Int))) ∧ ∃ m, w' = w.drewN m := by
 have cp := cells_at h
 have lp := lt_of_at h
 have hw := IntWalk.i64_in ((n : Int) - (a : Int)) (by omega)
 clear h
 go_enter Tryz.func172, Tryz.ntmps172
 go_upto_region 1 with fail
 go_quiet (fail)
 go_wp2_with fail
 go_ret
 exact ⟨rfl, _, rfl⟩
theorem err_spec (w : World) (p n a : Nat) (s : ByteArray) (h : EyeAt w p s n a) :
  Calls Tryz.prog 144 #[.pointer (some ⟨p, 0, none⟩)] w fun e w' => e = .returned (.int .i64 0) ∧ w' = w := by
 have cp := cells_at h
 have lp := lt_of_at h
 clear h
 go_enter Tryz.func144, Tryz.ntmps144
 go_wp2_with fail
 go_ret
 exact ⟨rfl, rfl⟩
theorem u64_or1 {x : Nat} (hx : 2 * x < 18446744073709551616) : bits .or .u64 ((2 * x : Nat) : Int) 1 = ((2 * x + 1 : Nat) : Int) := by
 have h := (bits_nat .u64 64 (by decide) (fun n h0 h1 => by rw [IntKind.wrap_u64]; omega) (2 * x) 1 (by simpa using hx) (by decide)).2
 rw [show 2 * x ||| 1 = 2 * x + 1 from by
  have := Nat.two_pow_add_eq_or_of_lt (i := 1) (b := 1) (by decide) x
  rw [Nat.pow_one] at this
  exact this.symm] at h
 exact h
theorem Rd.step {B X : List Bool} {a j : Nat} (h : Rd B a X) (hj : j < X.length) : Rd B (a + j) [X[j]] := by
 have h1 : X = X.take j ++ ([X[j]] ++ X.drop (j + 1)) := by
  rw [← List.append_assoc, ← List.take_succ_eq_append_getElem hj, List.take_append_drop]
 rw [h1] at h
 have h2 := h.app.2.app.1
 rw [List.length_take, show min j X.length = j by omega] at h2
 exact h2
def EyBRel (w : World) (p n a : Nat) (s : ByteArray) (X : List Bool) (gk : Nat) (u5 u24 : Value) (wr : World) : Prop :=
 ∃ j, j ≤ X.length ∧ gk = X.length - j ∧ u5 = .int .u64 (numB (X.take j) : Nat) ∧ u24 = .int .i64 (j : Nat) ∧ EyeAt wr p s n (a + j) ∧ Keeps [p] w wr
theorem eyeBits_spec (w : World) (p n a k : Nat) (s : ByteArray) (B X : List Bool) (hs : s.data.toList = packB B) (hn : n = B.length) (hB : B.length < 900000000) (hX : Rd B a X) (hk : X.length = k) (hk64 : k ≤ 64) (h : EyeAt w p s n a) :
  Calls Tryz.prog 143 #[.pointer (some ⟨p, 0, none⟩), .int .i64 (k : Nat)] w fun e w' => e = .returned (.int .u64 (numB X : Nat)) ∧ EyeAt w' p s n (a + k) ∧ Keeps [p] w w' := by
 have h64 : (k : Int) ≤ 64 := by omega
 have hmin : min (k : Int) 64 = (k : Int) := by omega
 have hle := hX.le
 have Hl := Lib.hid (fun m => left_spec (w.drewN m) p n a s (by omega) (by omega) (show EyeAt (w.drewN m) p s n a from h))
 have H0 := Lib.hid (And.intro h (And.intro hX (And.intro hs hn)))
 have hnl : n < 900000000 := by omega
 have hal : a < 900000000 := by omega
 have cp := cells_at h
 have lp := lt_of_at h
 have hgt : ¬ (k : Int) > (n : Int) - (a : Int) := by omega
 have hgt3 : ¬ (n : Int) - (a : Int) < (k : Int) := by omega
 clear h hX hs hn
 go_enter Tryz.func143, Tryz.ntmps143
 go_wp2_with fail
 refine (left_spec w p n a s hnl hal H0.out.1).mono ?_
 rintro e w1 ⟨rfl, m1, hm1⟩
 have k1 : Keeps [] w w1 := by rw [hm1]; exact (Keeps.refl [] _).drewN _
 have H1 := Lib.hid (And.intro (k1.at_ H0.out.1 (by simp) : EyeAt w1 p s n a) (k1.mono (by simp) : Keeps [p] w w1))
 clear hm1 k1 cp lp
 go_wp2_with fail
 go_loopg [5, 24] k (EyBRel w p n a s X)
 case atStart => exact ⟨0, Nat.zero_le _, by omega, by simp [numB], rfl, H1.out.1, H1.out.2⟩
 case round =>
  obtain ⟨j, hj, hgk, rfl, rfl, he, hkw⟩ := hrel
  have Hg := Lib.hid (And.intro hgk (And.intro he hkw))
  clear hgk he hkw
  by_cases hlt : j < X.length
  ·have hlt1 : (j : Int) < (k : Int) := by omega
   have hst := H0.out.2.1.step hlt
   have htk := take_push hlt
   have hvl := numB_lt (X.take j)
   rw [List.length_take, show min j X.length = j by omega] at hvl
   obtain ⟨v, hv⟩ : ∃ v, v = numB (X.take j) := ⟨_, rfl⟩
   rw [← hv] at hvl ⊢
   have hv2 : 2 * v < 18446744073709551616 := by
    have : 2 ^ (j + 1) ≤ 2 ^ 64 := Nat.pow_le_pow_right (by decide) (by omega)
    rw [Nat.pow_succ] at this
    omega
   have hsh : (v : Int) * 2 = ((2 * v : Nat) : Int) := by omega
   have hor := u64_or1 hv2
   have Hs := Lib.hid (And.intro hst (And.intro htk hv))
   generalize X[j] = b at Hs
   clear hst htk hv hvl
   obtain ⟨vv, hvv⟩ : ∃ vv : Nat, vv = 2 * v := ⟨_, rfl⟩
   rw [← hvv] at hsh hor
   have Hvv := Lib.hid hvv
   clear hvv
   go_wp2_with fail
   refine (eyeBit_spec wr p n (a + j) s B b H0.out.2.2.1 H0.out.2.2.2 hB Hs.out.1 Hg.out.2.1).mono ?_
   rintro e w2 ⟨rfl, he2, hk2⟩
   have H2 := Lib.hid (And.intro he2 (Hg.out.2.2.trans hk2))
   clear he2 hk2
   cases b
   ·go_wp2_with fail
    go_roundg (k - (j + 1))
    case measure => have := Hg.out.1; omega
    case rel => exact ⟨j + 1, hlt, by omega, by rw [Hs.out.2.1, numB_push, ← Hs.out.2.2, ← Hvv.out]; rfl, by go_num, H2.out.1, H2.out.2⟩
   ·go_wp2_with fail
    go_roundg (k - (j + 1))
    case measure => have := Hg.out.1; omega
    case rel => exact ⟨j + 1, hlt, by omega, by rw [Hs.out.2.1, numB_push, ← Hs.out.2.2, ← Hvv.out]; rfl, by go_num, H2.out.1, H2.out.2⟩
  ·obtain rfl : j = k := by omega
   have hge : ¬ (j : Int) < (j : Int) := by omega
   have hfin : X.take j = X := List.take_of_length_le (by omega)
   rw [hfin]
   go_wp2_with fail
   go_ret
   exact ⟨rfl, Hg.out.2.1, Hg.out.2.2⟩
theorem unaryB_true {k j : Nat} (h : j < k) (h' : j < (unaryB k).length) : (unaryB k)[j] = true := by
 simp [unaryB, h]
def EyURel (w : World) (p n a k : Nat) (s : ByteArray) (gk : Nat) (u5 : Value) (wr : World) : Prop :=
 ∃ j, j ≤ k ∧ gk = k - j ∧ u5 = .int .i64 (j : Nat) ∧ EyeAt wr p s n (a + j) ∧ Keeps [p] w wr
theorem eyeUnary_spec (w : World) (p n a k : Nat) (s : ByteArray) (B : List Bool) (hs : s.data.toList = packB B) (hn : n = B.length) (hB : B.length < 900000000) (hk : k ≤ 4) (hX : Rd B a (unaryB k)) (h : EyeAt w p s n a) :
  Calls Tryz.prog 174 #[.pointer (some ⟨p, 0, none⟩), .int .i64 4] w fun e w' => e = .returned (.int .i64 (k : Nat)) ∧ EyeAt w' p s n (a + (unaryB k).length) ∧ Keeps [p] w w' := by
 have H0 := Lib.hid (And.intro h (And.intro hX hs))
 have Hn := Lib.hid hn
 clear h hX hs hn
 go_enter Tryz.func174, Tryz.ntmps174
 go_wp2_with fail
 go_loopg [5] k (EyURel w p n a k s)
 case atStart => exact ⟨0, Nat.zero_le _, rfl, rfl, H0.out.1, Keeps.refl _ _⟩
 case round =>
  obtain ⟨j, hj, hgk, rfl, he, hkw⟩ := hrel
  have Hg := Lib.hid (And.intro hgk (And.intro he hkw))
  clear hgk he hkw
  by_cases hlt : j < k
  ·have hj4 : (j : Int) < 4 := by omega
   have hbit : Rd B (a + j) [true] := by
    have h1 : j < (unaryB k).length := by unfold unaryB; rw [List.length_append, List.length_replicate]; omega
    have h2 := H0.out.2.1.step h1
    rw [unaryB_true hlt h1] at h2
    exact h2
   have Hb := Lib.hid hbit
   clear hbit
   go_wp2_with fail
   refine (eyeBit_spec wr p n (a + j) s B true H0.out.2.2 Hn.out hB Hb.out Hg.out.2.1).mono ?_
   rintro e w2 ⟨rfl, he2, hk2⟩
   have H2 := Lib.hid (And.intro he2 (Hg.out.2.2.trans hk2))
   clear he2 hk2
   go_wp2_with fail
   go_roundg (k - (j + 1))
   case measure => have := Hg.out.1; omega
   case rel => exact ⟨j + 1, hlt, rfl, by go_num, H2.out.1, H2.out.2⟩
  ·obtain rfl : j = k := by omega
   by_cases h4 : j < 4
   ·have hj4 : (j : Int) < 4 := by omega
    have hul : (unaryB j).length = j + 1 := by unfold unaryB; rw [if_pos h4, List.length_append, List.length_replicate]; rfl
    have hbit : Rd B (a + j) [false] := by
     have h2 := H0.out.2.1.step (j := j) (by omega)
     rw [show (unaryB j)[j]'(by omega) = false from by
      have : unaryB j = List.replicate j true ++ [false] := by unfold unaryB; rw [if_pos h4]
      simp [this]] at h2
     exact h2
    have Hb := Lib.hid (And.intro hbit hul)
    clear hbit hul h4
    go_wp2_with fail
    refine (eyeBit_spec wr p n (a + j) s B false H0.out.2.2 Hn.out hB Hb.out.1 Hg.out.2.1).mono ?_
    rintro e w2 ⟨rfl, he2, hk2⟩
    have H2 := Lib.hid (And.intro he2 (Hg.out.2.2.trans hk2))
    have cp := cells_at he2
    have lp := lt_of_at he2
    clear he2 hk2
    go_wp2_with fail
    go_ret
    exact ⟨rfl, by rw [Hb.out.2, ← Nat.add_assoc]; exact H2.out.1, H2.out.2⟩
   ·obtain rfl : j = 4 := by omega
    have hul : (unaryB 4).length = 4 := rfl
    have cp := cells_at Hg.out.2.1
    have lp := lt_of_at Hg.out.2.1
    rw [show ((4 : Nat) : Int) = 4 from rfl]
    go_wp2_with fail
    go_ret
    exact ⟨rfl, by rw [hul]; exact Hg.out.2.1, Hg.out.2.2⟩
theorem over_spec (w : World) (s : ByteArray) (n : Nat) (hs : s.size ≤ 100000000) (hn : n ≤ 8 * s.size) :
  Calls Tryz.prog 118 #[.string s, .int .i64 (n : Nat)] w fun e w' => ∃ p, e = .returned (.pointer (some ⟨p, 0, none⟩)) ∧ w.heap.size ≤ p ∧ EyeAt w' p s n 0 ∧ Keeps [] w w' := by
 have hmin : min (n : Int) (8 * (s.size : Int)) = (n : Int) := by omega
 have hw := IntWalk.i64_in (8 * (s.size : Int)) (by omega)
 go_enter Tryz.func118, Tryz.ntmps118
 go_wp2_with fail
 go_ret
 exact ⟨_, rfl, Nat.le_refl _, heap_new w _, (Keeps.refl [] w).alloc _⟩
end Go.Proofs.YtgcfkhcogllgfaaGreatDoor
