/-
  Samples that are taken from a chunk's bits (package xor): zag, eye.time, eye.value, eye.next.
  The package's variable widths holds what its text says (XorVar).
-/
import Derived.Test.YtgcfkhcogllgfaaGreatDoorEyeS
import Derived.Test.YtgcfkhcogllgfaaGreatDoorRegion
import Derived.BigRegion
namespace Go.Proofs.YtgcfkhcogllgfaaGreatDoor
set_option maxRecDepth 100000
set_option maxHeartbeats 2000000
set_option linter.unusedSimpArgs false
open Go Go.RowKit Go.Conc
theorem i64_xor0 {x : Nat} (hx : x < 9223372036854775808) : bits .xor .i64 (x : Int) 0 = (x : Int) := by
 show IntKind.i64.wrap ((BitVec.ofInt 64 _ ^^^ BitVec.ofInt 64 _).toNat : Nat) = _
 rw [xor_zero, BitVec.toNat_ofInt, IntKind.wrap_i64]
 omega
theorem i64_xor1 {x : Nat} (hx : x < 9223372036854775808) : bits .xor .i64 (x : Int) (-1) = -(x : Int) - 1 := by
 show IntKind.i64.wrap ((BitVec.ofInt 64 _ ^^^ BitVec.ofInt 64 _).toNat : Nat) = _
 rw [show BitVec.ofInt 64 (-1) = BitVec.ofInt 64 18446744073709551615 from by decide, xor_ones (by omega), IntKind.wrap_i64]
 omega
theorem zag_spec (w : World) (u : Nat) (hu : u < 9223372036854775808) : Calls Tryz.prog 175 #[.int .u64 (u : Nat)] w fun e w' => e = .returned (.int .i64 (zagI u)) ∧ w' = w := by
 have hand := u64_and1 (x := u) (by omega)
 have hc1 : IntKind.i64.wrap ((u : Int) / 2) = ((u / 2 : Nat) : Int) := by rw [IntWalk.i64_in _ (by omega)]; omega
 rcases Nat.mod_two_eq_zero_or_one u with h2 | h2
 ·rw [h2] at hand
  have hx : bits .xor .i64 ((u : Int) / 2) 0 = zagI u := by
   rw [show (u : Int) / 2 = ((u / 2 : Nat) : Int) by omega, i64_xor0 (by omega)]
   unfold zagI
   rw [if_pos h2]
  have HZ := Lib.hid hx
  clear h2 hx
  go_enter Tryz.func175, Tryz.ntmps175
  go_wp2_with fail
  go_ret
  exact ⟨by rw [← HZ.out]; rfl, rfl⟩
 ·rw [h2] at hand
  have hx : bits .xor .i64 ((u : Int) / 2) (-1) = zagI u := by
   rw [show (u : Int) / 2 = ((u / 2 : Nat) : Int) by omega, i64_xor1 (by omega)]
   unfold zagI
   rw [if_neg (by omega)]
  have HZ := Lib.hid hx
  clear h2 hx
  go_enter Tryz.func175, Tryz.ntmps175
  go_wp2_with fail
  go_ret
  exact ⟨by rw [← HZ.out]; rfl, rfl⟩
def XEyeAt (w : World) (q p : Nat) (T : Int) (V : Nat) (st : Int) (l wd_ : Nat) : Prop := w.heap[q]? = some (.cells #[.pointer (some ⟨p, 0, none⟩), .int .i64 T, .int .u64 (V : Nat), .int .i64 st, .int .i64 (l : Nat), .int .i64 (wd_ : Nat)] 226 (0, 0))
theorem eyeTime_spec (w : World) (hX : XorVar w) (q p n a V l0 w0 : Nat) (T st t : Int) (s : ByteArray) (B : List Bool) (hqp : q ≠ p) (hxp : 4 ≠ p) (hs : s.data.toList = packB B) (hn : n = B.length) (hB : B.length < 900000000)
  (hT : 0 ≤ T ∧ T ≤ 1099511627776) (hst : 0 ≤ st ∧ st ≤ 1099511627776) (ht : 0 ≤ t ∧ t ≤ 1099511627776) (hTt : T < t) (hR : Rd B a (timeB (zigN (t - T - st)))) (h : EyeAt w p s n a) (hq : XEyeAt w q p T V st l0 w0) :
  Calls Tryz.prog 145 #[.pointer (some ⟨q, 0, none⟩)] w fun e w' => e = .returned (.int .i64 t) ∧ EyeAt w' p s n (a + (timeB (zigN (t - T - st))).length) ∧ XEyeAt w' q p T V (t - T) l0 w0 ∧ Keeps [p, q] w w' := by
 obtain ⟨u, hu⟩ : ∃ u, u = zigN (t - T - st) := ⟨_, rfl⟩
 have hul : u < 2199023255554 := by rw [hu]; exact zigN_lt (by omega)
 have hzag : zagI u = t - T - st := by rw [hu, zag_zig]
 rw [← hu] at hR ⊢
 obtain ⟨hR1, hR2⟩ := Rd.app (X := unaryB (kOf u)) (Y := bitsN u (wd (kOf u))) hR
 have hfit := kOf_fits (u := u) (by omega)
 have hk4 := kOf_le u
 have hw64 := wd_le (kOf u)
 have hnum := numB_bits hfit
 have hlen : (timeB u).length = (unaryB (kOf u)).length + wd (kOf u) := by unfold timeB; rw [List.length_append, bitsN_length]
 obtain ⟨k, hk⟩ : ∃ k, k = kOf u := ⟨_, rfl⟩
 rw [← hk] at hR1 hR2 hfit hk4 hw64 hnum hlen
 obtain ⟨d, hd⟩ : ∃ d, d = wd k := ⟨_, rfl⟩
 have hbl := bitsN_length u d
 rw [← hd] at hR2 hfit hw64 hnum hlen
 have H0 := Lib.hid (And.intro h (And.intro hq (And.intro hX (And.intro hs (And.intro hn (And.intro hR1 hR2))))))
 have HU := Lib.hid (And.intro hzag (And.intro hnum (And.intro hlen (And.intro hd hbl))))
 have cq := cells_at hq
 have lq := lt_of_at hq
 have HB := Lib.hid (And.intro hT (And.intro hst (And.intro ht hTt)))
 clear h hq hX hs hn hR hR1 hR2 hu hzag hnum hlen hk hd hbl hT hst ht hTt hfit
 go_enter Tryz.func145, Tryz.ntmps145
 go_wp2_with fail
 refine (eyeUnary_spec w p n a k s B H0.out.2.2.2.1 H0.out.2.2.2.2.1 hB hk4 H0.out.2.2.2.2.2.1 H0.out.1).mono ?_
 rintro e w1 ⟨rfl, he1, hk1⟩
 have hq1 := hk1.at_ H0.out.2.1 (by simp; exact hqp)
 have hX1 := H0.out.2.2.1.keep hk1 (by simp; exact hxp)
 have H1 := Lib.hid (And.intro he1 (And.intro hq1 (And.intro hX1 (hk1.mono (by simp) : Keeps [p, q] w w1))))
 clear cq lq he1 hk1
 go_upto_region 2 with fail
 obtain ⟨X0, hX0⟩ : ∃ X0, X0 = w1.drew := ⟨_, rfl⟩
 have kX : Keeps [] w1 X0 := by rw [hX0]; exact (Keeps.refl [] _).drew
 have nq0 := kX.at_ hq1 (by simp)
 have hX2 := hX1.same kX
 have hk5 : (k : Int) < 5 := by omega
 have HX0 := Lib.hid (And.intro hX0 (And.intro kX (And.intro nq0 hX2)))
 have s1 : X0.cell? ⟨q, 0, none⟩ = some (.pointer (some ⟨p, 0, none⟩)) := by rw [cells_at nq0]; rfl
 have s2 : X0.cell? ⟨q, 3, none⟩ = some (.int .i64 st) := by rw [cells_at nq0]; rfl
 have s3 : X0.cell? ⟨4, k, none⟩ = some (.int .i64 (d : Nat)) := by rw [HU.out.2.2.2.1]; exact hX2 k (by omega)
 have hgl := hX2.lt
 clear hX0 kX nq0 hX2 hq1 hX1
 refine wp_region_last_n 16 (fun w' => w'.cell? ⟨q, 0, none⟩ = some (.pointer (some ⟨p, 0, none⟩)) ∧ w'.cell? ⟨q, 3, none⟩ = some (.int .i64 st) ∧ w'.cell? ⟨4, k, none⟩ = some (.int .i64 (d : Nat))) (by kernel_rfl) (by kernel_rfl) (by kernel_rfl) ?_
 have hS : (fun w' : World => w'.cell? ⟨q, 0, none⟩ = some (.pointer (some ⟨p, 0, none⟩)) ∧ w'.cell? ⟨q, 3, none⟩ = some (.int .i64 st) ∧ w'.cell? ⟨4, k, none⟩ = some (.int .i64 (d : Nat))) X0 := ⟨s1, s2, s3⟩
 rw [← HX0.out.1]
 simp only [List.take_succ_cons, List.take_zero]
 refine tk (v := ?_) 0 rfl ?_ ?_; rotate_left
 ·rintro _ ⟨s1, s2, s3⟩; go_simp; (try with_reducible rfl)
 simp only [Act.put, zz]
 refine tk (v := ?_) 1 rfl ?_ ?_; rotate_left
 ·rintro _ ⟨s1, s2, s3⟩; go_simp; (try with_reducible rfl)
 simp only [Act.put, zz]
 refine tk (v := ?_) 2 rfl ?_ ?_; rotate_left
 ·rintro _ ⟨s1, s2, s3⟩; go_simp; (try with_reducible rfl)
 simp only [Act.put, zz]
 refine tk (v := ?_) 3 rfl ?_ ?_; rotate_left
 ·rintro _ ⟨s1, s2, s3⟩; go_simp; (try with_reducible rfl)
 simp only [Act.put, zz]
 refine tk (v := ?_) 4 rfl ?_ ?_; rotate_left
 ·rintro _ ⟨s1, s2, s3⟩; go_simp; (try with_reducible rfl)
 simp only [Act.put, zz]
 refine tk (v := ?_) 5 rfl ?_ ?_; rotate_left
 ·rintro _ ⟨s1, s2, s3⟩; go_simp; (try with_reducible rfl)
 simp only [Act.put, zz]
 refine tk (v := ?_) 6 rfl ?_ ?_; rotate_left
 ·rintro _ ⟨s1, s2, s3⟩; go_simp; (try with_reducible rfl)
 simp only [Act.put, zz]
 refine tk (v := ?_) 7 rfl ?_ ?_; rotate_left
 ·rintro _ ⟨s1, s2, s3⟩; go_simp; (try with_reducible rfl)
 simp only [Act.put, zz]
 refine tk (v := ?_) 8 rfl ?_ ?_; rotate_left
 ·rintro _ ⟨s1, s2, s3⟩; go_simp; (try with_reducible rfl)
 simp only [Act.put, zz]
 refine tk (v := ?_) 9 rfl ?_ ?_; rotate_left
 ·rintro _ ⟨s1, s2, s3⟩; go_simp; (try with_reducible rfl)
 simp only [Act.put, zz]
 refine tk (v := ?_) 10 rfl ?_ ?_; rotate_left
 ·rintro _ ⟨s1, s2, s3⟩; go_simp; (try with_reducible rfl)
 simp only [Act.put, zz]
 refine rd 11 rfl fun K hK => ?_
 go_simp
 go_at_call 143
 refine (eyeBits_spec X0 p n (a + (unaryB k).length) d s B (bitsN u d) H0.out.2.2.2.1 H0.out.2.2.2.2.1 hB H0.out.2.2.2.2.2.2 HU.out.2.2.2.2 hw64 (HX0.out.2.1.at_ H1.out.1 (by simp))).mono ?_
 rintro e w2 ⟨rfl, he2, hk2⟩
 rw [HU.out.2.1]
 have nq2 := hk2.at_ HX0.out.2.2.1 (by simp; exact hqp)
 have hX2 := HX0.out.2.2.2.keep hk2 (by simp; exact hxp)
 have H2 := Lib.hid (And.intro he2 (And.intro nq2 (And.intro hX2 (H1.out.2.2.2.trans ((HX0.out.2.1.mono (by simp)).trans (hk2.mono (by simp) : Keeps [p, q] X0 w2))))))
 have t1 : w2.cell? ⟨q, 0, none⟩ = some (.pointer (some ⟨p, 0, none⟩)) := by rw [cells_at nq2]; rfl
 have t2 : w2.cell? ⟨q, 3, none⟩ = some (.int .i64 st) := by rw [cells_at nq2]; rfl
 have t3 : w2.cell? ⟨4, k, none⟩ = some (.int .i64 (d : Nat)) := by rw [HU.out.2.2.2.1]; exact hX2 k (by omega)
 have cq := cells_at nq2
 have fq := free_at nq2
 have lq := lt_of_at nq2
 clear he2 hk2 nq2 hX2 s1 s2 s3
 go_simp
 refine hK.out _ _ ⟨t1, t2, t3⟩ (fun hS => ?_)
 clear hK K
 try simp only [Act.put, zz]
 refine rd 12 rfl fun K hK => ?_
 go_simp
 go_at_call 175
 refine (zag_spec w2 u (by omega)).mono ?_
 rintro e w3 ⟨rfl, rfl⟩
 rw [HU.out.1]
 go_simp
 refine hK.out _ _ ⟨t1, t2, t3⟩ (fun hS => ?_)
 clear hK K
 try simp only [Act.put, zz]
 refine tk (v := ?_) 13 rfl ?_ ?_; rotate_left
 ·rintro _ ⟨s1, s2, s3⟩; go_simp; (try with_reducible rfl)
 simp only [Act.put, zz]
 refine tk (v := ?_) 14 rfl ?_ ?_; rotate_left
 ·rintro _ ⟨s1, s2, s3⟩; go_simp; (try with_reducible rfl)
 simp only [Act.put, zz]
 refine tk (v := ?_) 15 rfl ?_ ?_; rotate_left
 ·rintro _ ⟨s1, s2, s3⟩; go_simp; (try with_reducible rfl)
 simp only [Act.put, zz]
 refine wpAnyH_done (by kernel_rfl) ?_ _
 refine lastQ_step rfl (fun K hK => ?_)
 go_simp
 refine hK _ _ ?_
 clear hK K
 have hadd : IntKind.i64.wrap (st + (t - T - st)) = t - T := by
  rw [IntWalk.i64_in _ (by have := HB.out; omega)]
  omega
 have hret : IntKind.i64.wrap (T + (t - T)) = t := by
  rw [IntWalk.i64_in _ (by have := HB.out; omega)]
  omega
 rw [hadd]
 have kS : Keeps [q] w3 (w3.setCell ⟨q, 3, none⟩ (.int .i64 (t - T))) := (Keeps.refl _ w3).setCell (.inl (by simp)) _
 have nS : (w3.setCell ⟨q, 3, none⟩ (.int .i64 (t - T))).heap[q]? = some (.cells #[.pointer (some ⟨p, 0, none⟩), .int .i64 T, .int .u64 (V : Nat), .int .i64 (t - T), .int .i64 (l0 : Nat), .int .i64 (w0 : Nat)] 226 (0, 0)) := by
  have := heap_cell_same (i := 3) H2.out.2.1 (.int .i64 (t - T))
  simpa using this
 generalize w3.setCell ⟨q, 3, none⟩ (.int .i64 (t - T)) = w4 at kS nS ⊢
 have H4 := Lib.hid (And.intro (kS.at_ H2.out.1 (by simp; exact Ne.symm hqp) : EyeAt w4 p s n (a + (unaryB k).length + d)) (And.intro nS (H2.out.2.2.2.trans (kS.mono (by simp) : Keeps [p, q] w3 w4))))
 clear hS hadd cq fq lq t1 t2 t3 kS
 have cq := cells_at nS
 have lq := lt_of_at nS
 clear nS
 go_upto_region 3 with fail
 go_quiet (fail)
 obtain ⟨w5, hw5⟩ : ∃ w5, w5 = w4.drewN nq := ⟨_, rfl⟩
 rw [← hw5]
 have k5 : Keeps [] w4 w5 := by rw [hw5]; exact (Keeps.refl [] _).drewN _
 clear hw5 cq lq
 go_wp2_with fail
 go_ret
 refine ⟨rfl, ?_, k5.at_ H4.out.2.1 (by simp), H4.out.2.2.trans (k5.mono (by simp))⟩
 have := k5.at_ H4.out.1 (by simp)
 rw [HU.out.2.2.1, ← Nat.add_assoc]
 exact this
def ValRd (w : World) (q p n a : Nat) (s : ByteArray) (T : Int) (V : Nat) (st : Int) (x l0 w0 : Nat) (wr : World) : Prop := EyeAt wr p s n (a + (valHead x l0 w0).length) ∧ XEyeAt wr q p T V st (valL x l0 w0) (valW x l0 w0) ∧ Keeps [p, q] w wr
theorem eyeValue_spec (w : World) (q p n a V l0 w0 x : Nat) (T st : Int) (s : ByteArray) (B : List Bool) (hqp : q ≠ p) (hs : s.data.toList = packB B) (hn : n = B.length) (hB : B.length < 900000000)
  (hV : V < 18446744073709551616) (hx : x < 18446744073709551616) (hlw : l0 + w0 ≤ 64) (hR : Rd B a (valBits x l0 w0)) (h : EyeAt w p s n a) (hq : XEyeAt w q p T V st l0 w0) :
  Calls Tryz.prog 146 #[.pointer (some ⟨q, 0, none⟩)] w fun e w' => e = .returned (.tuple #[.int .u64 ((V ^^^ x : Nat) : Int), .int .i64 0]) ∧ EyeAt w' p s n (a + (valBits x l0 w0).length) ∧ XEyeAt w' q p T V st (valL x l0 w0) (valW x l0 w0) ∧ Keeps [p, q] w w' := by
 have cq := cells_at hq
 have lq := lt_of_at hq
 by_cases hx0 : x = 0
 ·subst hx0
  have hb : valBits 0 l0 w0 = [false] := rfl
  have hl : valL 0 l0 w0 = l0 := rfl
  have hw : valW 0 l0 w0 = w0 := rfl
  rw [hb] at hR ⊢
  rw [hl, hw, Nat.xor_zero]
  have H0 := Lib.hid (And.intro h (And.intro hq (And.intro hs (And.intro hn hR))))
  clear h hq hs hn hR hb hl hw hx
  go_enter Tryz.func146, Tryz.ntmps146
  go_wp2_with fail
  refine (eyeBit_spec w p n a s B false H0.out.2.2.1 H0.out.2.2.2.1 hB H0.out.2.2.2.2 H0.out.1).mono ?_
  rintro e w2 ⟨rfl, he2, hk2⟩
  have hq2 := hk2.at_ H0.out.2.1 (by simp; exact hqp)
  have H2 := Lib.hid (And.intro he2 (And.intro hq2 (hk2.mono (by simp) : Keeps [p, q] w w2)))
  clear cq lq he2 hk2
  have cq := cells_at hq2
  have lq := lt_of_at hq2
  clear hq2
  go_wp2_with fail
  go_ret2
  exact ⟨rfl, H2.out.1, H2.out.2.1, H2.out.2.2⟩
 ·have hvb := valBits_is (l0 := l0) (w0 := w0) hx0 hx
  rw [hvb] at hR ⊢
  obtain ⟨hR1, hR2⟩ := hR.app
  have hlw1 := valLW hx hlw
  have hnew := rd_new hx hx0
  have hval : numB (bitsN (x / 2 ^ (64 - valL x l0 w0 - valW x l0 w0)) (valW x l0 w0)) * 2 ^ (64 - valL x l0 w0 - valW x l0 w0) = x ∧ 0 < valW x l0 w0 := by
   unfold valL valW
   rw [if_neg hx0, if_neg hx0]
   by_cases hf : fitsV x l0 w0 = true
   ·rw [if_pos hf, if_pos hf]
    exact ⟨rd_fits hx hx0 hlw hf, (fits_parts hf).1⟩
   ·rw [if_neg hf, if_neg hf, show 64 - (64 - widthN x) - (widthN x - tailN x) = tailN x by have := tailN_lt hx0; omega]
    exact ⟨hnew.1, hnew.2.2.2.1⟩
  have H0 := Lib.hid (And.intro h (And.intro hq (And.intro hs (And.intro hn (And.intro hR1 hR2)))))
  have HV := Lib.hid (And.intro hval hnew)
  obtain ⟨b, hb⟩ : ∃ b, b = fitsV x l0 w0 := ⟨_, rfl⟩
  have Hb := Lib.hid hb
  have hhd : ∃ Y, valHead x l0 w0 = true :: (!b) :: Y ∧ (b = true → Y = []) ∧ (b = false → Y = bitsN (64 - widthN x) 6 ++ bitsN (widthN x - tailN x - 1) 6) := by
   unfold valHead
   rw [← hb]
   cases b
   ·exact ⟨_, rfl, (fun h => by cases h), fun _ => rfl⟩
   ·exact ⟨[], rfl, (fun _ => rfl), fun h => by cases h⟩
  obtain ⟨Y, hY, hY1, hY2⟩ := hhd
  have hR1' := hR1
  rw [hY] at hR1'
  obtain ⟨hA1, hA⟩ := hR1'.cons
  obtain ⟨hA2, hA3⟩ := hA.cons
  have HA := Lib.hid (And.intro hA1 (And.intro hA2 (And.intro hA3 (And.intro hY (And.intro hY1 hY2)))))
  clear h hq hs hn hR hR1 hR2 hval hnew hb hY hY1 hY2 hR1' hA1 hA hA2 hA3 hvb
  go_enter Tryz.func146, Tryz.ntmps146
  go_wp2_with fail
  refine (eyeBit_spec w p n a s B true H0.out.2.2.1 H0.out.2.2.2.1 hB HA.out.1 H0.out.1).mono ?_
  rintro e w2 ⟨rfl, he2, hk2⟩
  have hq2 := hk2.at_ H0.out.2.1 (by simp; exact hqp)
  have H2 := Lib.hid (And.intro he2 (And.intro hq2 (hk2.mono (by simp) : Keeps [p, q] w w2)))
  clear cq lq he2 hk2
  have cq := cells_at hq2
  have lq := lt_of_at hq2
  clear hq2
  go_wp2_with fail
  refine (eyeBit_spec w2 p n (a + 1) s B (!b) H0.out.2.2.1 H0.out.2.2.2.1 hB HA.out.2.1 H2.out.1).mono ?_
  rintro e w3 ⟨rfl, he3, hk3⟩
  have hq3 := hk3.at_ H2.out.2.1 (by simp; exact hqp)
  have H3 := Lib.hid (And.intro he3 (And.intro hq3 (H2.out.2.2.trans (hk3.mono (by simp) : Keeps [p, q] w2 w3))))
  clear cq lq he3 hk3
  have cq := cells_at hq3
  have fq := free_at hq3
  have lq := lt_of_at hq3
  clear hq3
  go_upto_if 19 with fail
  go_cut [] from 20 to 38 (ValRd w q p n a s T V st x l0 w0)
  case first =>
   cases b
   ·have hYe := HA.out.2.2.2.2.2 (by first | exact rfl | trivial)
    have hA3 := HA.out.2.2.1
    rw [hYe] at hA3
    obtain ⟨hB1, hB2⟩ := hA3.app
    rw [bitsN_length] at hB2
    obtain ⟨l1, hl1⟩ : ∃ l1, l1 = 64 - widthN x := ⟨_, rfl⟩
    obtain ⟨d1, hd1⟩ : ∃ d1, d1 = widthN x - tailN x - 1 := ⟨_, rfl⟩
    have hn1 := HV.out.2.2.1
    have hn2 := HV.out.2.2.2.1
    have hpos := HV.out.2.2.2.2.1
    have hw64 := HV.out.2.2.2.2.2
    rw [← hl1] at hB1 hn1
    rw [← hd1] at hB2 hn2
    have hl64 : l1 ≤ 64 := by omega
    have hd64 : d1 ≤ 64 := by omega
    have hbl1 := bitsN_length l1 6
    have hbl2 := bitsN_length d1 6
    have HBR := Lib.hid (And.intro hB1 (And.intro hB2 (And.intro hn1 (And.intro hn2 (And.intro hl1 (And.intro hd1 (And.intro hpos (And.intro hbl1 (And.intro hbl2 hYe)))))))))
    have hcv1 : IntKind.i64.wrap (l1 : Int) = (l1 : Int) := IntWalk.i64_in _ (by omega)
    have hcv2 : IntKind.i64.wrap (d1 : Int) = (d1 : Int) := IntWalk.i64_in _ (by omega)
    clear hA3 hB1 hB2 hn1 hn2 hl1 hd1 hpos hw64 hbl1 hbl2 hYe
    go_wp2_with fail
    refine (eyeBits_spec w3 p n (a + 1 + 1) 6 s B (bitsN l1 6) H0.out.2.2.1 H0.out.2.2.2.1 hB HBR.out.1 HBR.out.2.2.2.2.2.2.2.1 (by decide) H3.out.1).mono ?_
    rintro e w4 ⟨rfl, he4, hk4⟩
    rw [HBR.out.2.2.1]
    have hq4 := hk4.at_ H3.out.2.1 (by simp; exact hqp)
    have H4 := Lib.hid (And.intro he4 (And.intro hq4 (H3.out.2.2.trans (hk4.mono (by simp) : Keeps [p, q] w3 w4))))
    clear cq fq lq he4 hk4
    have cq := cells_at hq4
    have fq := free_at hq4
    have lq := lt_of_at hq4
    clear hq4
    go_upto_region 5 with fail
    have kS : Keeps [q] w4 (w4.setCell ⟨q, 4, none⟩ (.int .i64 (l1 : Nat))) := (Keeps.refl _ w4).setCell (.inl (by simp)) _
    have nS : (w4.setCell ⟨q, 4, none⟩ (.int .i64 (l1 : Nat))).heap[q]? = some (.cells #[.pointer (some ⟨p, 0, none⟩), .int .i64 T, .int .u64 (V : Nat), .int .i64 st, .int .i64 (l1 : Nat), .int .i64 (w0 : Nat)] 226 (0, 0)) := by
     have := heap_cell_same (i := 4) H4.out.2.1 (.int .i64 (l1 : Nat))
     simpa using this
    generalize w4.setCell ⟨q, 4, none⟩ (.int .i64 (l1 : Nat)) = w5 at kS nS ⊢
    have H5 := Lib.hid (And.intro (kS.at_ H4.out.1 (by simp; exact Ne.symm hqp) : EyeAt w5 p s n (a + 1 + 1 + 6)) (And.intro nS (H4.out.2.2.trans (kS.mono (by simp) : Keeps [p, q] w4 w5))))
    clear cq fq lq kS
    have cq := cells_at nS
    have lq := lt_of_at nS
    clear nS
    go_wp2_with fail
    refine (eyeBits_spec w5 p n (a + 1 + 1 + 6) 6 s B (bitsN d1 6) H0.out.2.2.1 H0.out.2.2.2.1 hB HBR.out.2.1 HBR.out.2.2.2.2.2.2.2.2.1 (by decide) H5.out.1).mono ?_
    rintro e w6 ⟨rfl, he6, hk6⟩
    rw [HBR.out.2.2.2.1]
    have hq6 := hk6.at_ H5.out.2.1 (by simp; exact hqp)
    have H6 := Lib.hid (And.intro he6 (And.intro hq6 (H5.out.2.2.trans (hk6.mono (by simp) : Keeps [p, q] w5 w6))))
    have hw1 : IntKind.i64.wrap ((d1 : Int) + 1) = (d1 : Int) + 1 := IntWalk.i64_in _ (by omega)
    clear cq lq he6 hk6
    have cq := cells_at hq6
    have fq := free_at hq6
    have lq := lt_of_at hq6
    clear hq6
    go_wp2_with fail
    go_meet
    case rel =>
     have hf := Hb.out
     have hY := HA.out.2.2.2.1
     have hpos := HBR.out.2.2.2.2.2.2.1
     have e1 := HBR.out.2.2.2.2.1
     have e2 := HBR.out.2.2.2.2.2.1
     rw [HBR.out.2.2.2.2.2.2.2.2.2] at hY
     refine ⟨?_, ?_, H6.out.2.2.trans ((Keeps.refl _ w6).setCell (.inl (by simp)) _)⟩
     ·have h6 := ((Keeps.refl [q] w6).setCell (p := ⟨q, 5, none⟩) (.inl (by simp)) (.int .i64 ((d1 : Int) + 1))).at_ H6.out.1 (by simp; exact Ne.symm hqp)
      rw [hY]
      simp only [List.length_cons, List.length_append, bitsN_length]
      rw [show a + (6 + 6 + 1 + 1) = a + 1 + 1 + 6 + 6 by omega]
      exact h6
     ·unfold valL valW
      rw [if_neg hx0, if_neg hx0, ← hf, if_neg (by decide), if_neg (by decide), ← e1, show widthN x - tailN x = d1 + 1 by omega]
      have := heap_cell_same (i := 5) H6.out.2.1 (.int .i64 ((d1 : Int) + 1))
      simpa [XEyeAt] using this
   ·go_wp2_with fail
    go_meet
    case rel =>
     have hf := Hb.out
     have hY := HA.out.2.2.2.1
     rw [HA.out.2.2.2.2.1 (by first | exact rfl | trivial)] at hY
     refine ⟨?_, ?_, H3.out.2.2⟩
     ·rw [hY]
      exact H3.out.1
     ·unfold valL valW
      rw [if_neg hx0, if_neg hx0, ← hf, if_pos rfl, if_pos rfl]
      exact H3.out.2.1
  case rest =>
   obtain ⟨he7, hq7, hk7⟩ := hcut
   have H7 := Lib.hid (And.intro he7 (And.intro hq7 hk7))
   obtain ⟨l1, hl1⟩ : ∃ l1, l1 = valL x l0 w0 := ⟨_, rfl⟩
   obtain ⟨w1, hw1⟩ : ∃ w1, w1 = valW x l0 w0 := ⟨_, rfl⟩
   have hR2 := H0.out.2.2.2.2.2
   have hval := HV.out.1
   rw [← hl1, ← hw1] at hlw1 hval hR2
   have hbl := bitsN_length (x / 2 ^ (64 - l1 - w1)) w1
   obtain ⟨tt, htt⟩ : ∃ tt, tt = 64 - l1 - w1 := ⟨_, rfl⟩
   rw [← htt] at hval hR2 hbl
   obtain ⟨nb, hnb⟩ : ∃ nb, nb = numB (bitsN (x / 2 ^ tt) w1) := ⟨_, rfl⟩
   rw [← hnb] at hval
   have hvi : (nb : Int) * 2 ^ tt = (x : Int) := by rw [← hval.1]; simp
   have hsub : (64 : Int) - (l1 : Int) - (w1 : Int) = (tt : Int) := by omega
   have hs1 := IntWalk.i64_in (64 - (l1 : Int)) (by omega)
   have hs2 := IntWalk.i64_in (64 - (l1 : Int) - (w1 : Int)) (by omega)
   have hle : decide (64 < l1 + w1) = false := by rw [decide_eq_false_iff_not]; omega
   have hw0 : ¬ (w1 : Int) = 0 := by omega
   have hw0b : ((w1 : Int) == 0) = false := by rw [beq_eq_false_iff_ne]; exact hw0
   have hxo := bits_xor_u64_nat V x hV hx
   rw [← hl1, ← hw1] at hq7
   have cq := cells_at hq7
   have lq := lt_of_at hq7
   have HL := Lib.hid (And.intro hl1 (And.intro hw1 (And.intro htt (And.intro hnb (And.intro hbl hR2)))))
   clear he7 hq7 hk7 hl1 hw1 htt hnb hbl hR2 hval H3
   go_upto_region 6 with fail
   go_quiet (fail)
   obtain ⟨w8, hw8⟩ : ∃ w8, w8 = wc.drewN nq := ⟨_, rfl⟩
   rw [← hw8]
   have k8 : Keeps [] wc w8 := by rw [hw8]; exact (Keeps.refl [] _).drewN _
   have nq8 := k8.at_ H7.out.2.1 (by simp)
   have H8 := Lib.hid (And.intro (k8.at_ H7.out.1 (by simp) : EyeAt w8 p s n (a + (valHead x l0 w0).length)) (And.intro nq8 (H7.out.2.2.trans (k8.mono (by simp) : Keeps [p, q] wc w8))))
   clear hw8 k8 cq lq
   rw [← HL.out.1, ← HL.out.2.1] at nq8
   have cq := cells_at nq8
   have lq := lt_of_at nq8
   go_upto_region 8 with fail
   obtain ⟨X0, hX0⟩ : ∃ X0, X0 = w8.drew := ⟨_, rfl⟩
   have kX : Keeps [] w8 X0 := by rw [hX0]; exact (Keeps.refl [] _).drew
   have nX := kX.at_ nq8 (by simp)
   have HX0 := Lib.hid (And.intro hX0 (And.intro kX nX))
   have hcs : ∀ w' : World, w'.heap[q]? = some (.cells #[.pointer (some ⟨p, 0, none⟩), .int .i64 T, .int .u64 (V : Nat), .int .i64 st, .int .i64 (l1 : Nat), .int .i64 (w1 : Nat)] 226 (0, 0)) → w'.cell? ⟨q, 0, none⟩ = some (.pointer (some ⟨p, 0, none⟩)) ∧ w'.cell? ⟨q, 2, none⟩ = some (.int .u64 (V : Nat)) ∧ w'.cell? ⟨q, 4, none⟩ = some (.int .i64 (l1 : Nat)) ∧ w'.cell? ⟨q, 5, none⟩ = some (.int .i64 (w1 : Nat)) := fun w' hn' => ⟨by rw [cells_at hn']; rfl, by rw [cells_at hn']; rfl, by rw [cells_at hn']; rfl, by rw [cells_at hn']; rfl⟩
   have Hcs := Lib.hid hcs
   obtain ⟨s1, s2, s3, s4⟩ := hcs X0 nX
   clear hX0 kX nX hcs cq lq nq8
   refine wp_region_held_drew (S := fun w' => w'.cell? ⟨q, 0, none⟩ = some (.pointer (some ⟨p, 0, none⟩)) ∧ w'.cell? ⟨q, 2, none⟩ = some (.int .u64 (V : Nat)) ∧ w'.cell? ⟨q, 4, none⟩ = some (.int .i64 (l1 : Nat)) ∧ w'.cell? ⟨q, 5, none⟩ = some (.int .i64 (w1 : Nat))) (by kernel_rfl) (by rw [← HX0.out.1]; exact ⟨s1, s2, s3, s4⟩) (fun hS => ?_)
   rw [← HX0.out.1] at hS ⊢
   refine tk (v := ?_) 0 rfl ?_ ?_; rotate_left
   ·rintro _ ⟨s1, s2, s3, s4⟩; go_simp; (try with_reducible rfl)
   simp only [Act.put, zz]
   refine tk (v := ?_) 1 rfl ?_ ?_; rotate_left
   ·rintro _ ⟨s1, s2, s3, s4⟩; go_simp; (try with_reducible rfl)
   simp only [Act.put, zz]
   refine tk (v := ?_) 2 rfl ?_ ?_; rotate_left
   ·rintro _ ⟨s1, s2, s3, s4⟩; go_simp; (try with_reducible rfl)
   simp only [Act.put, zz]
   refine tk (v := ?_) 3 rfl ?_ ?_; rotate_left
   ·rintro _ ⟨s1, s2, s3, s4⟩; go_simp; (try with_reducible rfl)
   simp only [Act.put, zz]
   refine tk (v := ?_) 4 rfl ?_ ?_; rotate_left
   ·rintro _ ⟨s1, s2, s3, s4⟩; go_simp; (try with_reducible rfl)
   simp only [Act.put, zz]
   refine tk (v := ?_) 5 rfl ?_ ?_; rotate_left
   ·rintro _ ⟨s1, s2, s3, s4⟩; go_simp; (try with_reducible rfl)
   simp only [Act.put, zz]
   refine tk (v := ?_) 6 rfl ?_ ?_; rotate_left
   ·rintro _ ⟨s1, s2, s3, s4⟩; go_simp; (try with_reducible rfl)
   simp only [Act.put, zz]
   refine tk (v := ?_) 7 rfl ?_ ?_; rotate_left
   ·rintro _ ⟨s1, s2, s3, s4⟩; go_simp; (try with_reducible rfl)
   simp only [Act.put, zz]
   refine tk (v := ?_) 8 rfl ?_ ?_; rotate_left
   ·rintro _ ⟨s1, s2, s3, s4⟩; go_simp; (try with_reducible rfl)
   simp only [Act.put, zz]
   refine tk (v := ?_) 9 rfl ?_ ?_; rotate_left
   ·rintro _ ⟨s1, s2, s3, s4⟩; go_simp; (try with_reducible rfl)
   simp only [Act.put, zz]
   refine tk (v := ?_) 10 rfl ?_ ?_; rotate_left
   ·rintro _ ⟨s1, s2, s3, s4⟩; go_simp; (try with_reducible rfl)
   simp only [Act.put, zz]
   refine tk (v := ?_) 11 rfl ?_ ?_; rotate_left
   ·rintro _ ⟨s1, s2, s3, s4⟩; go_simp; (try with_reducible rfl)
   simp only [Act.put, zz]
   refine tk (v := ?_) 12 rfl ?_ ?_; rotate_left
   ·rintro _ ⟨s1, s2, s3, s4⟩; go_simp; (try with_reducible rfl)
   simp only [Act.put, zz]
   refine tk (v := ?_) 14 rfl ?_ ?_; rotate_left
   ·rintro _ ⟨s1, s2, s3, s4⟩; go_simp; (try with_reducible rfl)
   simp only [Act.put, zz]
   refine tk (v := ?_) 15 rfl ?_ ?_; rotate_left
   ·rintro _ ⟨s1, s2, s3, s4⟩; go_simp; (try with_reducible rfl)
   simp only [Act.put, zz]
   refine tk (v := ?_) 16 rfl ?_ ?_; rotate_left
   ·rintro _ ⟨s1, s2, s3, s4⟩; go_simp; (try with_reducible rfl)
   simp only [Act.put, zz]
   refine tk (v := ?_) 17 rfl ?_ ?_; rotate_left
   ·rintro _ ⟨s1, s2, s3, s4⟩; go_simp; (try with_reducible rfl)
   simp only [Act.put, zz]
   refine tk (v := ?_) 18 rfl ?_ ?_; rotate_left
   ·rintro _ ⟨s1, s2, s3, s4⟩; go_simp; (try with_reducible rfl)
   simp only [Act.put, zz]
   refine tk (v := ?_) 19 rfl ?_ ?_; rotate_left
   ·rintro _ ⟨s1, s2, s3, s4⟩; go_simp; (try with_reducible rfl)
   simp only [Act.put, zz]
   refine tk (v := ?_) 20 rfl ?_ ?_; rotate_left
   ·rintro _ ⟨s1, s2, s3, s4⟩; go_simp; (try with_reducible rfl)
   simp only [Act.put, zz]
   refine tk (v := ?_) 21 rfl ?_ ?_; rotate_left
   ·rintro _ ⟨s1, s2, s3, s4⟩; go_simp; (try with_reducible rfl)
   simp only [Act.put, zz]
   refine tk (v := ?_) 22 rfl ?_ ?_; rotate_left
   ·rintro _ ⟨s1, s2, s3, s4⟩; go_simp; (try with_reducible rfl)
   simp only [Act.put, zz]
   refine tk (v := ?_) 23 rfl ?_ ?_; rotate_left
   ·rintro _ ⟨s1, s2, s3, s4⟩; go_simp; (try with_reducible rfl)
   simp only [Act.put, zz]
   refine rd 13 rfl fun K hK => ?_
   go_simp
   go_at_call 143
   refine (eyeBits_spec X0 p n (a + (valHead x l0 w0).length) w1 s B (bitsN (x / 2 ^ tt) w1) H0.out.2.2.1 H0.out.2.2.2.1 hB HL.out.2.2.2.2.2 HL.out.2.2.2.2.1 (by omega) (HX0.out.2.1.at_ H8.out.1 (by simp))).mono ?_
   rintro e w9 ⟨rfl, he9, hk9⟩
   rw [← HL.out.2.2.2.1]
   have nq9 := hk9.at_ HX0.out.2.2 (by simp; exact hqp)
   have H9 := Lib.hid (And.intro he9 (And.intro nq9 (H8.out.2.2.trans ((HX0.out.2.1.mono (by simp)).trans (hk9.mono (by simp) : Keeps [p, q] X0 w9)))))
   obtain ⟨t1, t2, t3, t4⟩ := Hcs.out w9 nq9
   clear he9 hk9 nq9
   go_simp
   refine hK.out _ _ ⟨t1, t2, t3, t4⟩ (fun hS => ?_)
   clear hK K
   try simp only [Act.put, zz]
   have hwx : IntKind.u64.wrap (x : Int) = (x : Int) := IntWalk.u64_in _ (by omega)
   have hwt : IntKind.i64.wrap (tt : Int) = (tt : Int) := IntWalk.i64_in _ (by omega)
   have ht64 : tt < 64 := by omega
   refine tk (v := ?_) 24 rfl ?_ ?_; rotate_left
   ·rintro _ ⟨s1, s2, s3, s4⟩; go_simp; (try with_reducible rfl)
   simp only [Act.put, zz]
   refine tk (v := ?_) 25 rfl ?_ ?_; rotate_left
   ·rintro _ ⟨s1, s2, s3, s4⟩; go_simp; (try with_reducible rfl)
   simp only [Act.put, zz]
   refine rd 26 rfl fun K hK => ?_
   go_simp
   go_simp
   refine hK.out _ _ ⟨t1, t2, t3, t4⟩ (fun hS => ?_)
   clear hK K
   try simp only [Act.put, zz]
   refine rd 27 rfl fun K hK => ?_
   go_simp
   go_simp
   refine hK.out _ _ ⟨t1, t2, t3, t4⟩ (fun hS => ?_)
   clear hK K
   try simp only [Act.put, zz]
   refine wpAnyH_done (by kernel_rfl) ?_ _
   clear hS s1 s2 s3 s4 t1 t2 t3 t4
   go_wp2_with fail
   go_ret2
   refine ⟨rfl, ?_, ?_, H9.out.2.2⟩
   ·have h9 := H9.out.1
    rw [List.length_append, bitsN_length, ← HL.out.2.1, ← Nat.add_assoc]
    exact h9
   ·rw [← HL.out.1, ← HL.out.2.1]
    exact H9.out.2.1
theorem sample2 {w : World} {r : Nat} {x y u v : Value} (h : w.heap[r]? = some (.cells #[x, y] 50 (0, 0))) : ((w.setCell ⟨r, 0, none⟩ u).setCell ⟨r, 1, none⟩ v).heap[r]? = some (.cells #[u, v] 50 (0, 0)) := by
 have h0 := heap_cell_same (i := 0) h u
 have h1 := heap_cell_same (i := 1) h0 v
 simpa using h1
theorem eyeNext0_spec (w : World) (q p n a V l0 w0 tn y : Nat) (T st : Int) (s : ByteArray) (B : List Bool) (hqp : q ≠ p) (hs : s.data.toList = packB B) (hn : n = B.length) (hB : B.length < 900000000)
  (htn : tn ≤ 1099511627776) (hy : y < 18446744073709551616) (hR : Rd B a (bitsN tn 41 ++ bitsN y 64)) (h : EyeAt w p s n a) (hq : XEyeAt w q p T V st l0 w0) :
  Calls Tryz.prog 119 #[.pointer (some ⟨q, 0, none⟩), .bool true] w fun e w' => e = .returned (.tuple #[.agg #[.int .i64 (tn : Nat), .int .u64 (y : Nat)], .int .i64 0]) ∧ EyeAt w' p s n (a + 41 + 64) ∧ XEyeAt w' q p T V st l0 w0 ∧ Keeps [p, q] w w' := by
 obtain ⟨hR1, hR2⟩ := hR.app
 rw [bitsN_length] at hR2
 have hn1 := numB_bits (v := tn) (k := 41) (by show _ < 2199023255552; omega)
 have hn2 := numB_bits (v := y) (k := 64) (by simpa using hy)
 have H0 := Lib.hid (And.intro h (And.intro hq (And.intro hs (And.intro hn (And.intro hR1 hR2)))))
 have HN := Lib.hid (And.intro hn1 hn2)
 obtain ⟨r, hr⟩ : ∃ r, r = w.heap.size := ⟨_, rfl⟩
 have lq := lt_of_at hq
 have lp := lt_of_at h
 have k0 : Keeps [] w (w.alloc (.cells #[.int .i64 0, .int .u64 0] 50)) := (Keeps.refl [] w).alloc _
 have nr := heap_new w (.cells #[.int .i64 0, .int .u64 0] 50)
 have hq0 := k0.at_ hq (by simp)
 have he0 := k0.at_ h (by simp)
 have hrq : r ≠ q ∧ r ≠ p ∧ w.heap.size ≤ r := by omega
 have hcv : IntKind.i64.wrap (tn : Int) = (tn : Int) := IntWalk.i64_in _ (by omega)
 rw [← hr] at nr
 clear h hq hs hn hR hR1 hR2 hn1 hn2 lq lp
 go_enter Tryz.func119, Tryz.ntmps119
 go_upto_region 1 with fail
 rw [← hr]
 have Hr := Lib.hid (And.intro hr hrq)
 clear hr hrq
 generalize w.alloc (.cells #[.int .i64 0, .int .u64 0] 50) = W0 at k0 nr hq0 he0 ⊢
 have H1 := Lib.hid (And.intro (he0 : EyeAt W0 p s n a) (And.intro hq0 (And.intro nr k0)))
 have cq := cells_at hq0
 have lq := lt_of_at hq0
 clear he0 hq0 nr k0
 go_wp2_with fail
 refine (eyeBits_spec W0 p n a 41 s B (bitsN tn 41) H0.out.2.2.1 H0.out.2.2.2.1 hB H0.out.2.2.2.2.1 (bitsN_length _ _) (by decide) H1.out.1).mono ?_
 rintro e w2 ⟨rfl, he2, hk2⟩
 rw [HN.out.1]
 have hq2 := hk2.at_ H1.out.2.1 (by simp; exact hqp)
 have H2 := Lib.hid (And.intro he2 (And.intro hq2 (And.intro (hk2.at_ H1.out.2.2.1 (by simp; exact Hr.out.2.2.1)) ((H1.out.2.2.2.mono (by simp)).trans (hk2.mono (by simp) : Keeps [p, q] W0 w2)))))
 clear cq lq he2 hk2
 go_upto_region 3 with fail
 obtain ⟨X0, hX0⟩ : ∃ X0, X0 = w2.drew := ⟨_, rfl⟩
 have kX : Keeps [] w2 X0 := by rw [hX0]; exact (Keeps.refl [] _).drew
 have nX := kX.at_ hq2 (by simp)
 have HX0 := Lib.hid (And.intro hX0 (And.intro kX nX))
 have s1 : X0.cell? ⟨q, 0, none⟩ = some (.pointer (some ⟨p, 0, none⟩)) := by rw [cells_at nX]; rfl
 clear hX0 kX nX hq2
 refine wp_region_held_drew (S := fun w' => w'.cell? ⟨q, 0, none⟩ = some (.pointer (some ⟨p, 0, none⟩))) (by kernel_rfl) (by rw [← HX0.out.1]; exact s1) (fun hS => ?_)
 rw [← HX0.out.1] at hS ⊢
 refine tk (v := ?_) 0 rfl ?_ ?_; rotate_left
 ·intro w' s1; go_simp; (try with_reducible rfl)
 simp only [Act.put, zz]
 refine tk (v := ?_) 1 rfl ?_ ?_; rotate_left
 ·intro w' s1; go_simp; (try with_reducible rfl)
 simp only [Act.put, zz]
 refine tk (v := ?_) 2 rfl ?_ ?_; rotate_left
 ·intro w' s1; go_simp; (try with_reducible rfl)
 simp only [Act.put, zz]
 refine tk (v := ?_) 3 rfl ?_ ?_; rotate_left
 ·intro w' s1; go_simp; (try with_reducible rfl)
 simp only [Act.put, zz]
 refine tk (v := ?_) 4 rfl ?_ ?_; rotate_left
 ·intro w' s1; go_simp; (try with_reducible rfl)
 simp only [Act.put, zz]
 refine tk (v := ?_) 7 rfl ?_ ?_; rotate_left
 ·intro w' s1; go_simp; (try with_reducible rfl)
 simp only [Act.put, zz]
 refine tk (v := ?_) 8 rfl ?_ ?_; rotate_left
 ·intro w' s1; go_simp; (try with_reducible rfl)
 simp only [Act.put, zz]
 refine tk (v := ?_) 9 rfl ?_ ?_; rotate_left
 ·intro w' s1; go_simp; (try with_reducible rfl)
 simp only [Act.put, zz]
 refine tk (v := ?_) 10 rfl ?_ ?_; rotate_left
 ·intro w' s1; go_simp; (try with_reducible rfl)
 simp only [Act.put, zz]
 refine rd 5 rfl fun K hK => ?_
 go_simp
 go_at_call 143
 refine (eyeBits_spec X0 p n (a + 41) 64 s B (bitsN y 64) H0.out.2.2.1 H0.out.2.2.2.1 hB H0.out.2.2.2.2.2 (bitsN_length _ _) (by decide) (HX0.out.2.1.at_ H2.out.1 (by simp))).mono ?_
 rintro e w3 ⟨rfl, he3, hk3⟩
 rw [HN.out.2]
 have nq3 := hk3.at_ HX0.out.2.2 (by simp; exact hqp)
 have nr3 := hk3.at_ (HX0.out.2.1.at_ H2.out.2.2.1 (by simp)) (by simp; exact Hr.out.2.2.1)
 have H3 := Lib.hid (And.intro he3 (And.intro nq3 (And.intro nr3 (H2.out.2.2.2.trans ((HX0.out.2.1.mono (by simp)).trans (hk3.mono (by simp) : Keeps [p, q] X0 w3))))))
 have t1 : w3.cell? ⟨q, 0, none⟩ = some (.pointer (some ⟨p, 0, none⟩)) := by rw [cells_at nq3]; rfl
 clear he3 hk3 nq3
 go_simp
 refine hK.out _ _ t1 (fun hS => ?_)
 clear hK K
 try simp only [Act.put, zz]
 refine tk (v := ?_) 6 rfl ?_ ?_; rotate_left
 ·intro w' s1; go_simp; (try with_reducible rfl)
 simp only [Act.put, zz]
 refine rd 11 rfl fun K hK => ?_
 go_simp
 go_at_call 144
 refine (err_spec w3 p n (a + 41 + 64) s H3.out.1).mono ?_
 rintro e w4 ⟨rfl, rfl⟩
 have cr := cells_at nr3
 have fr := free_at nr3
 have lr := lt_of_at nr3
 clear nr3
 go_simp
 refine hK.out _ _ t1 (fun hS => ?_)
 clear hK K
 try simp only [Act.put, zz]
 refine rd 12 rfl fun K hK => ?_
 go_simp
 have n5 := sample2 (u := .int .i64 (tn : Nat)) (v := .int .u64 (y : Nat)) H3.out.2.2.1
 have k5 : Keeps [r] w4 ((w4.setCell ⟨r, 0, none⟩ (.int .i64 (tn : Nat))).setCell ⟨r, 1, none⟩ (.int .u64 (y : Nat))) := ((Keeps.refl _ w4).setCell (.inl (by simp)) _).setCell (.inl (by simp)) _
 generalize (w4.setCell ⟨r, 0, none⟩ (.int .i64 (tn : Nat))).setCell ⟨r, 1, none⟩ (.int .u64 (y : Nat)) = w5 at n5 k5 ⊢
 have nq5 := k5.at_ H3.out.2.1 (by simp; exact Ne.symm Hr.out.2.1)
 have H5 := Lib.hid (And.intro (k5.at_ H3.out.1 (by simp; exact Ne.symm Hr.out.2.2.1) : EyeAt w5 p s n (a + 41 + 64)) (And.intro nq5 (And.intro n5 (H3.out.2.2.2.after k5 (fun x hx => .inr (by simp at hx; rw [hx]; exact Hr.out.2.2.2))))))
 have y1 : w5.cell? ⟨q, 0, none⟩ = some (.pointer (some ⟨p, 0, none⟩)) := by rw [cells_at nq5]; rfl
 clear k5 nq5 cr fr lr
 refine hK.out _ _ y1 (fun hS => ?_)
 clear hK K
 try simp only [Act.put, zz]
 refine rd 13 rfl fun K hK => ?_
 go_simp
 go_simp
 refine hK.out _ _ y1 (fun hS => ?_)
 clear hK K
 try simp only [Act.put, zz]
 refine wpAnyH_done (by kernel_rfl) ?_ _
 clear hS s1 t1 y1
 have cr := cells_at n5
 have lr := lt_of_at n5
 clear n5
 go_wp2_with fail
 refine bodyPost_ret (v := .tuple #[.agg #[.int .i64 (tn : Nat), .int .u64 (y : Nat)], .int .i64 0]) (by simp [results, Tryz.results119, go_sem, cr, lr]) rfl ?_
 exact ⟨rfl, H5.out.1, H5.out.2.1, H5.out.2.2.2⟩
theorem eyeNext1_spec (w : World) (hX : XorVar w) (q p n a V l0 w0 y : Nat) (T st t : Int) (s : ByteArray) (B : List Bool) (hqp : q ≠ p) (hxp : 4 ≠ p) (hs : s.data.toList = packB B) (hn : n = B.length) (hB : B.length < 900000000)
  (hT : 0 ≤ T ∧ T ≤ 1099511627776) (hst : 0 ≤ st ∧ st ≤ 1099511627776) (ht : 0 ≤ t ∧ t ≤ 1099511627776) (hTt : T < t) (hV : V < 18446744073709551616) (hy : y < 18446744073709551616) (hlw : l0 + w0 ≤ 64)
  (hR : Rd B a (timeB (zigN (t - T - st)) ++ valBits (y ^^^ V) l0 w0)) (h : EyeAt w p s n a) (hq : XEyeAt w q p T V st l0 w0) :
  Calls Tryz.prog 119 #[.pointer (some ⟨q, 0, none⟩), .bool false] w fun e w' => e = .returned (.tuple #[.agg #[.int .i64 t, .int .u64 (y : Nat)], .int .i64 0]) ∧ EyeAt w' p s n (a + (timeB (zigN (t - T - st))).length + (valBits (y ^^^ V) l0 w0).length) ∧ XEyeAt w' q p T V (t - T) (valL (y ^^^ V) l0 w0) (valW (y ^^^ V) l0 w0) ∧ Keeps [p, q] w w' := by
 obtain ⟨hR1, hR2⟩ := hR.app
 have hxl : y ^^^ V < 18446744073709551616 := Nat.xor_lt_two_pow (n := 64) hy hV
 have hxb := xor_back y V
 have hgt : ¬ t ≤ T := by omega
 have H0 := Lib.hid (And.intro h (And.intro hq (And.intro hs (And.intro hn (And.intro hR1 (And.intro hR2 (And.intro hT (And.intro hst (And.intro ht (And.intro hTt hxb))))))))))
 obtain ⟨r, hr⟩ : ∃ r, r = w.heap.size := ⟨_, rfl⟩
 have lq := lt_of_at hq
 have lp := lt_of_at h
 have k0 : Keeps [] w (w.alloc (.cells #[.int .i64 0, .int .u64 0] 50)) := (Keeps.refl [] w).alloc _
 have nr := heap_new w (.cells #[.int .i64 0, .int .u64 0] 50)
 have hq0 := k0.at_ hq (by simp)
 have he0 := k0.at_ h (by simp)
 have hrq : r ≠ q ∧ r ≠ p ∧ w.heap.size ≤ r := by omega
 rw [← hr] at nr
 have hX0 := hX.same k0
 clear h hq hs hn hR hR1 hR2 lq lp hT hst ht hTt hX hxb
 go_enter Tryz.func119, Tryz.ntmps119
 go_upto_region 1 with fail
 rw [← hr]
 have Hr := Lib.hid (And.intro hr hrq)
 clear hr hrq
 generalize w.alloc (.cells #[.int .i64 0, .int .u64 0] 50) = W0 at k0 nr hq0 he0 hX0 ⊢
 have H1 := Lib.hid (And.intro (he0 : EyeAt W0 p s n a) (And.intro hq0 (And.intro nr (And.intro k0 hX0))))
 clear he0 hq0 nr k0 hX0
 go_wp2_with fail
 refine (eyeTime_spec W0 H1.out.2.2.2.2 q p n a V l0 w0 T st t s B hqp hxp H0.out.2.2.1 H0.out.2.2.2.1 hB H0.out.2.2.2.2.2.2.1 H0.out.2.2.2.2.2.2.2.1 H0.out.2.2.2.2.2.2.2.2.1 H0.out.2.2.2.2.2.2.2.2.2.1 H0.out.2.2.2.2.1 H1.out.1 H1.out.2.1).mono ?_
 rintro e w2 ⟨rfl, he2, hq2, hk2⟩
 have H2 := Lib.hid (And.intro he2 (And.intro hq2 (And.intro (hk2.at_ H1.out.2.2.1 (by simp; exact ⟨Hr.out.2.2.1, Hr.out.2.1⟩)) ((H1.out.2.2.2.1.mono (by simp)).trans hk2))))
 clear he2 hq2 hk2
 go_wp2_with fail
 refine (eyeValue_spec w2 q p n _ V l0 w0 (y ^^^ V) T (t - T) s B hqp H0.out.2.2.1 H0.out.2.2.2.1 hB hV hxl hlw H0.out.2.2.2.2.2.1 H2.out.1 H2.out.2.1).mono ?_
 rintro e w3 ⟨rfl, he3, hq3, hk3⟩
 rw [H0.out.2.2.2.2.2.2.2.2.2.2]
 have H3 := Lib.hid (And.intro he3 (And.intro hq3 (And.intro (hk3.at_ H2.out.2.2.1 (by simp; exact ⟨Hr.out.2.2.1, Hr.out.2.1⟩)) (H2.out.2.2.2.trans hk3))))
 have cq := cells_at hq3
 have lq := lt_of_at hq3
 clear he3 hq3 hk3
 go_wp2_with fail
 refine (err_spec w3 p n _ s H3.out.1).mono ?_
 rintro e w4 ⟨rfl, rfl⟩
 have cr := cells_at H3.out.2.2.1
 have fr := free_at H3.out.2.2.1
 have lr := lt_of_at H3.out.2.2.1
 go_wp2_with fail
 have n5 := sample2 (u := .int .i64 t) (v := .int .u64 (y : Nat)) H3.out.2.2.1
 have k5 : Keeps [r] w4 ((w4.setCell ⟨r, 0, none⟩ (.int .i64 t)).setCell ⟨r, 1, none⟩ (.int .u64 (y : Nat))) := ((Keeps.refl _ w4).setCell (.inl (by simp)) _).setCell (.inl (by simp)) _
 generalize (w4.setCell ⟨r, 0, none⟩ (.int .i64 t)).setCell ⟨r, 1, none⟩ (.int .u64 (y : Nat)) = w5 at n5 k5 ⊢
 clear cr fr lr cq lq
 have cr := cells_at n5
 have lr := lt_of_at n5
 refine bodyPost_ret (v := .tuple #[.agg #[.int .i64 t, .int .u64 (y : Nat)], .int .i64 0]) (by simp [results, Tryz.results119, go_sem, cr, lr]) rfl ?_
 exact ⟨rfl, k5.at_ H3.out.1 (by simp; exact Ne.symm Hr.out.2.2.1), k5.at_ H3.out.2.1 (by simp; exact Ne.symm Hr.out.2.1), H3.out.2.2.2.after k5 (fun x hx => .inr (by simp at hx; rw [hx]; exact Hr.out.2.2.2))⟩
end Go.Proofs.YtgcfkhcogllgfaaGreatDoor
