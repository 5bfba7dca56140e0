/-
  What the document takes of bytes: a number, a number of at most so much, a text; step by step with the first error kept (a cursor).
  No condition beyond those that each theorem states.

  A number is read as it is written: no other bytes say it; so a record that is read is the bytes that its kind and data make.
  No condition beyond those that each theorem states.

  The document's Next: the record at the beginning of a text, whatever its bytes are: the program's (nextF).
  The text has at most 1,000,000 bytes.

  What is in the one record of a kind that bytes are: the document's only; what it takes of them as a mark (DecodeMark).
  The text has at most 1,000,000 bytes.
-/
import Derived.Test.YtjffdcflkkgpfaaGreatLeb
import Derived.Test.YtjffdcflkkgpfaaGreatTaker
import Derived.Test.YtjffdcflkkgpfaaGreatLebLaw
import Derived.Test.YtjffdcflkkgpfaaGreatFrame
import Derived.Test.YtjffdcflkkgpfaaGreatRefEnc
import Derived.Test.YtjffdcflkkgpfaaGreatMark
namespace Go.Proofs.YtjffdcflkkgpfaaGreat
open Go Go.RowKit

def rtakeRel (s : ByteArray) (w : World) (gk : Nat) (u5 u6 u7 : Value) (wr : World) : Prop :=
  ∃ k v : Nat, gk = s.size - k ∧ k ≤ s.size ∧ k ≤ 9 ∧ u7 = .int .i64 k ∧ u6 = .int .u64 ((2 ^ (7 * k) : Nat) : Int) ∧ u5 = .int .u64 v ∧ v < 2 ^ (7 * k) ∧ takeL (s.data.toList.drop k) k v = takeU s.data.toList ∧ wr = w

/-- What ends the reading: too great a tenth byte, or a last byte that says nothing. -/
def rbad (k c : Nat) : Bool := (decide (k = 9) && decide (1 < c)) || (decide (c = 0) && decide (0 < k))

set_option linter.unusedSimpArgs false in
set_option maxRecDepth 100000 in
set_option maxHeartbeats 4000000 in
theorem rTakeUint_spec (w : World) (s : ByteArray) (_hs : s.size ≤ maxLen) :
    Calls Tryz.prog 141 #[.string s] w fun e w' => e = .returned (takeVals (takeU s.data.toList)) ∧ ∃ n, w' = w.drewN n := by
  have hsl : s.data.toList.length = s.size := by simp
  go_enter Tryz.func141, Tryz.ntmps141
  go_wp2_with fail
  go_loopg [5, 6, 7] s.size (rtakeRel s w)
  case atStart => exact ⟨0, 0, rfl, Nat.zero_le _, by decide, rfl, rfl, rfl, by decide, rfl, rfl⟩
  case round =>
    obtain ⟨k, v, hg, hk, hk9, rfl, rfl, rfl, hv, hT, rfl⟩ := hrel
    have Hg := Lib.hid hg
    by_cases hlt : k < s.size
    · have hlt' : (k : Int) < (s.size : Int) := by omega
      have hk10 : (k : Int) < 10 := by omega
      have hcl : s[k].toNat < 256 := UInt8.toNat_lt _
      rw [List.drop_eq_getElem_cons (by omega)] at hT
      have hsk : s.data.toList[k] = s[k] := rfl
      rw [hsk] at hT
      unfold takeL at hT
      have Hsl := Lib.hid hsl
      obtain ⟨U, hU⟩ : ∃ U, U = 2 ^ (7 * k) := ⟨_, rfl⟩
      rw [← hU] at hT hv ⊢
      have HU := Lib.hid hU
      clear hg hsl hsk hU
      go_upto_region 7 with fail
      generalize s[k].toNat = c at hT hcl ⊢
      go_cut [36] from 23 to 36 (fun c' wc => c' = .bool (rbad k c) ∧ wc = wr)
      case first =>
        obtain ⟨b9, hb9⟩ : ∃ b, b = decide (k = 9) := ⟨_, rfl⟩
        obtain ⟨b1, hb1⟩ : ∃ b, b = decide (1 < c) := ⟨_, rfl⟩
        obtain ⟨b0, hb0⟩ : ∃ b, b = decide (c = 0) := ⟨_, rfl⟩
        obtain ⟨bk, hbk⟩ : ∃ b, b = decide (0 < k) := ⟨_, rfl⟩
        have e9 : ((k : Int) == 9) = b9 := by rw [hb9, Bool.eq_iff_iff]; first | (simp; done) | (simp; omega)
        have e1 : decide ((1 : Int) < (c : Int)) = b1 := by rw [hb1, Bool.eq_iff_iff]; first | (simp; done) | (simp; omega)
        have e0 : ((c : Int) == 0) = b0 := by rw [hb0, Bool.eq_iff_iff]; first | (simp; done) | (simp; omega)
        have ek : decide ((0 : Int) < (k : Int)) = bk := by rw [hbk, Bool.eq_iff_iff]; simp
        have ek2 : decide (0 < k) = bk := hbk.symm
        have Hr := Lib.hid (show rbad k c = ((b9 && b1) || (b0 && bk)) from by unfold rbad; rw [hb9, hb1, hb0, hbk])
        clear hb9 hb1 hb0 hbk hT hv
        cases b9 <;> cases b1 <;> cases b0 <;> cases bk
        all_goals
          go_wp2_with fail
          go_meet
          exact ⟨by rw [Hr.out]; rfl, rfl⟩
      case rest =>
        obtain ⟨rfl, rfl⟩ := hcut
        cases hbad : rbad k c with
        | true =>
          have hR : takeU s.data.toList = (0, [], 3) := by
            rw [← hT]
            unfold rbad at hbad
            simp only [Bool.or_eq_true, Bool.and_eq_true, decide_eq_true_eq] at hbad
            by_cases hA : k = 9 ∧ 1 < c
            · rw [if_pos hA]
            · have h0 := hbad.resolve_left hA
              rw [if_neg hA, if_pos (by omega), if_pos h0]
          have HT := Lib.hid hR
          clear hT hR hv hbad
          go_wp2_with fail
          go_ret3
          exact ⟨by rw [HT.out]; rfl, 0, rfl⟩
        | false =>
          have hnb : ¬ (k = 9 ∧ 1 < c) ∧ ¬ (c = 0 ∧ 0 < k) := by
            unfold rbad at hbad
            simp only [Bool.or_eq_false_iff, Bool.and_eq_false_iff, decide_eq_false_iff_not] at hbad
            omega
          rw [if_neg hnb.1] at hT
          have hU9 : U ≤ 2 ^ 63 := by rw [HU.out]; exact Nat.pow_le_pow_right (by decide) (by omega)
          have hU8 : k ≤ 8 → U ≤ 2 ^ 56 := fun h => by rw [HU.out]; exact Nat.pow_le_pow_right (by decide) (by omega)
          obtain ⟨p, hp⟩ : ∃ p, p = c % 128 * U := ⟨_, rfl⟩
          rw [← hp] at hT
          have hpu : p + U ≤ 2 ^ 64 := by
            by_cases h9 : k = 9
            · have hc1 : c % 128 ≤ 1 := by omega
              have := Nat.mul_le_mul_right U hc1
              omega
            · have := Nat.mul_le_mul_right U (show c % 128 ≤ 127 by omega)
              have := hU8 (by omega)
              omega
          have hmul : IntKind.u64.wrap ((U : Int) * ((c : Int) % 128)) = (p : Int) := by
            rw [show ((U : Int) * ((c : Int) % 128)) = ((p : Nat) : Int) from by rw [hp]; push_cast; rw [Int.mul_comm]]
            exact IntWalk.u64_in _ (by omega)
          have hadd : IntKind.u64.wrap ((v : Int) + (p : Int)) = ((v + p : Nat) : Int) := by
            rw [show (v : Int) + (p : Int) = ((v + p : Nat) : Int) from by push_cast; rfl]
            exact IntWalk.u64_in _ (by omega)
          have Hp := Lib.hid (And.intro hp (And.intro hpu hnb))
          clear hbad hnb hp
          by_cases h128 : c < 128
          · rw [if_pos h128, if_neg Hp.out.2.2.2] at hT
            have hc3 : (c : Int) < 128 := by omega
            have HT := Lib.hid hT
            have Hex := Lib.hid (extract_end s (k + 1))
            have hai : IntKind.i64.wrap ((k : Int) + 1) = (k : Int) + 1 := IntWalk.i64_in _ (by omega)
            have hadd2 : ((k : Int) + 1).toNat = k + 1 := by omega
            have hadd3 : (k : Int) + 1 ≤ (s.size : Int) := by omega
            have hadd4 : (0 : Int) ≤ (k : Int) + 1 := by omega
            clear hT hv hU9 hU8 hpu
            go_wp2_with fail
            go_quiet (fail)
            go_wp2_with fail
            go_ret3
            exact ⟨by rw [← HT.out, Hex.out]; simp [takeVals], _, rfl⟩
          · rw [if_neg h128] at hT
            have hc3 : ¬ (c : Int) < 128 := by omega
            have HT := Lib.hid hT
            have hk8 : k < 9 := by have := Hp.out.2.2.1; omega
            have hu2 : IntKind.u64.wrap ((U : Int) * 128) = ((2 ^ (7 * (k + 1)) : Nat) : Int) := by
              have h1 : 2 ^ (7 * (k + 1)) = U * 128 := by rw [HU.out, show 7 * (k + 1) = 7 * k + 7 from by omega, Nat.pow_add]
              rw [h1]
              have := hU8 (by omega)
              push_cast
              exact IntWalk.u64_in _ (by omega)
            have Hv := Lib.hid (show v + p < 2 ^ (7 * (k + 1)) from by
              have h1 : 2 ^ (7 * (k + 1)) = 128 * U := by rw [HU.out, show 7 * (k + 1) = 7 * k + 7 from by omega, Nat.pow_add, Nat.mul_comm]
              have h2 := Nat.mul_le_mul_right U (show c % 128 ≤ 127 by omega)
              have h3 := Hp.out.1
              omega)
            clear hT hv hU9 hU8 hpu
            go_wp2_with fail
            go_roundg (s.size - (k + 1))
            case measure => have := Hg.out; omega
            case rel => exact ⟨k + 1, v + p, rfl, by omega, by omega, by go_num, by simp, by simp, Hv.out, HT.out, rfl⟩
    · rw [List.drop_eq_nil_of_le (by omega)] at hT
      have HT := Lib.hid hT
      clear hg hT
      go_wp2_with fail
      go_ret3
      exact ⟨by rw [← HT.out]; rfl, 0, rfl⟩


set_option maxRecDepth 100000 in
set_option maxHeartbeats 1000000 in
theorem rTakeMost_spec (w : World) (s : ByteArray) (hs : s.size ≤ maxLen) (most : Int) (hm : most ≤ 9223372036854775807) :
    Calls Tryz.prog 119 #[.string s, .int .i64 most] w fun e w' => e = .returned (takeMVals (takeM s.data.toList most)) ∧ ∃ n, w' = w.drewN n := by
  have hlt := takeU_lt s.data.toList
  have herr : (takeU s.data.toList).2.2 ≠ 0 → (takeU s.data.toList).1 = 0 ∧ (takeU s.data.toList).2.1 = [] := takeL_err
  have Hcall := Lib.hid (rTakeUint_spec w s hs)
  have HM : Hid (takeM s.data.toList most = takeM s.data.toList most) := Lib.hid rfl
  have hM : ∀ x, takeM s.data.toList most = x ↔ (if (takeU s.data.toList).2.2 = 0 ∧ max most 0 < ((takeU s.data.toList).1 : Int) then (0, [], 16) else (((takeU s.data.toList).1 : Int), (takeU s.data.toList).2.1, (takeU s.data.toList).2.2)) = x := fun x => Iff.rfl
  generalize takeM s.data.toList most = R at hM
  clear HM
  generalize takeU s.data.toList = r at hlt herr Hcall hM
  obtain ⟨u, rest, er⟩ := r
  simp only at hlt herr hM
  have hmx : IntKind.u64.wrap (max most 0) = max most 0 := IntWalk.u64_in _ (by omega)
  have hmx0 : 0 ≤ max most 0 := by omega
  by_cases he : er = 0
  · have he' : (er == 0) = true := by simp [he]
    by_cases hbig : max most 0 < (u : Int)
    · have hR := (hM R).1 rfl
      rw [if_pos ⟨he, hbig⟩] at hR
      have HR := Lib.hid hR
      clear hM hR herr
      go_enter Tryz.func119, Tryz.ntmps119
      go_wp2_with fail
      refine Hcall.out.mono ?_
      rintro e w' ⟨rfl, nq, rfl⟩
      simp only [takeVals]
      subst he
      go_wp2_with fail
      go_ret3
      exact ⟨by rw [← HR.out]; rfl, _, rfl⟩
    · have hR := (hM R).1 rfl
      rw [if_neg (fun h => hbig h.2)] at hR
      have HR := Lib.hid hR
      have hu : IntKind.i64.wrap (u : Int) = (u : Int) := IntWalk.i64_in _ (by omega)
      clear hM hR herr
      go_enter Tryz.func119, Tryz.ntmps119
      go_wp2_with fail
      refine Hcall.out.mono ?_
      rintro e w' ⟨rfl, nq, rfl⟩
      simp only [takeVals]
      subst he
      go_wp2_with fail
      go_ret3
      exact ⟨by rw [← HR.out]; rfl, _, rfl⟩
  · have he' : (er == 0) = false := by simp [he]
    have hR := (hM R).1 rfl
    rw [if_neg (fun h => he h.1)] at hR
    have HR := Lib.hid hR
    obtain ⟨rfl, rfl⟩ := herr he
    clear hM hR herr
    go_enter Tryz.func119, Tryz.ntmps119
    go_wp2_with fail
    refine Hcall.out.mono ?_
    rintro e w' ⟨rfl, nq, rfl⟩
    simp only [takeVals]
    go_wp2_with fail
    go_ret3
    exact ⟨by rw [← HR.out]; rfl, _, rfl⟩


set_option maxRecDepth 100000 in
set_option maxHeartbeats 1000000 in
theorem rTakeText_spec (w : World) (s : ByteArray) (hs : s.size ≤ maxLen) (most : Int) (hm : most ≤ 9223372036854775807) :
    Calls Tryz.prog 118 #[.string s, .int .i64 most] w fun e w' => e = .returned (takeTVals (takeT s.data.toList most)) ∧ ∃ n, w' = w.drewN n := by
  have hleft := takeM_left s.data.toList most
  have Hcall := Lib.hid (rTakeMost_spec w s hs most hm)
  have hb := takeM_bounds s.data.toList hm
  rw [dsize] at hleft
  unfold maxLen at hs
  have hT : takeT s.data.toList most = (if (takeM s.data.toList most).2.2 ≠ 0 then ([], [], (takeM s.data.toList most).2.2)
    else if ((takeM s.data.toList most).2.1.length : Int) < (takeM s.data.toList most).1 then ([], [], 2)
    else ((takeM s.data.toList most).2.1.take (takeM s.data.toList most).1.toNat, (takeM s.data.toList most).2.1.drop (takeM s.data.toList most).1.toNat, 0)) := rfl
  generalize takeT s.data.toList most = R at hT
  generalize takeM s.data.toList most = r at hleft Hcall hT hb
  obtain ⟨u, rest, er⟩ := r
  simp only at hleft hT hb
  by_cases he : er = 0
  · rw [if_neg (fun h => h he)] at hT
    have he' : (er == 0) = true := by simp [he]
    by_cases hbig : (rest.length : Int) < u
    · rw [if_pos hbig] at hT
      have HT := Lib.hid hT
      have hsz : ((⟨rest.toArray⟩ : ByteArray).size : Int) < u := hbig
      clear hT
      subst he
      go_enter Tryz.func118, Tryz.ntmps118
      go_wp2_with fail
      refine Hcall.out.mono ?_
      rintro e w' ⟨rfl, nq, rfl⟩
      simp only [takeMVals]
      generalize (⟨rest.toArray⟩ : ByteArray) = rs at hsz ⊢
      go_wp2_with fail
      go_ret3
      exact ⟨by rw [HT.out]; rfl, _, rfl⟩
    · rw [if_neg hbig] at hT
      have HT := Lib.hid hT
      obtain ⟨rs, hrs⟩ : ∃ rs : ByteArray, rs = ⟨rest.toArray⟩ := ⟨_, rfl⟩
      have hrl : rs.size = rest.length := by rw [hrs]; rfl
      have hdt : rs.data.toList = rest := by rw [hrs]
      have Hrs := Lib.hid hrs
      clear hrs
      subst he
      clear hT
      go_enter Tryz.func118, Tryz.ntmps118
      go_wp2_with fail
      refine Hcall.out.mono ?_
      rintro e w' ⟨rfl, nq, rfl⟩
      simp only [takeMVals]
      rw [← Hrs.out]
      obtain ⟨k, rfl⟩ : ∃ k : Nat, u = k := ⟨u.toNat, by omega⟩
      have h1 : (k : Int) ≤ (rs.size : Int) := by omega
      have h2 : ¬ ((rs.size : Int) < (k : Int)) := by omega
      have h3 : k ≤ rs.size := by omega
      have Hx := Lib.hid (And.intro (show rs.extract 0 k = ⟨(rest.take k).toArray⟩ from by apply ba_ext; simp [ByteArray.data_extract, List.extract_eq_take_drop, hdt]) (show rs.extract k rs.size = ⟨(rest.drop k).toArray⟩ from by rw [extract_end, hdt]))
      clear hrl hdt hb hbig
      go_wp2_with fail
      go_quiet (fail)
      go_wp2_with fail
      go_ret3
      exact ⟨by rw [HT.out, Hx.out.1, Hx.out.2]; rfl, _, World.drewN_drewN _ _ _⟩
  · rw [if_pos he] at hT
    have he' : (er == 0) = false := by simp [he]
    have HT := Lib.hid hT
    clear hT
    go_enter Tryz.func118, Tryz.ntmps118
    go_wp2_with fail
    refine Hcall.out.mono ?_
    rintro e w' ⟨rfl, nq, rfl⟩
    simp only [takeMVals]
    generalize (⟨rest.toArray⟩ : ByteArray) = rs
    go_wp2_with fail
    go_ret3
    exact ⟨by rw [HT.out]; rfl, _, rfl⟩


/-- A cursor: what is left, the error. -/
def curV (st : Tk) : Value := .agg #[.string ⟨st.1.toArray⟩, .int .i64 st.2]

set_option linter.unusedSimpArgs false in
set_option maxRecDepth 100000 in
set_option maxHeartbeats 1000000 in
theorem rText_spec (w : World) (st : Tk) (hs : st.1.length ≤ maxLen) (most : Int) (hm : most ≤ 9223372036854775807) :
    Calls Tryz.prog 90 #[curV st, .int .i64 most] w fun e w' => e = .returned (.tuple #[curV (tkT st most).2, .string ⟨(tkT st most).1.toArray⟩]) ∧ Keeps [] w w' := by
  obtain ⟨l, er⟩ := st
  obtain ⟨s, hse⟩ : ∃ s : ByteArray, s = ⟨l.toArray⟩ := ⟨_, rfl⟩
  have hsd : s.data.toList = l := by rw [hse]
  have hk : ∀ most, tkT (l, er) most = if er ≠ 0 then ([], (l, er)) else ((takeT l most).1, (takeT l most).2.1, (takeT l most).2.2) := fun _ => rfl
  have hkm := hk most
  rw [show curV (l, er) = .agg #[.string s, .int .i64 er] from by rw [hse]; rfl]
  have n2 := new2 w (.cells #[.string s, .int .i64 er] 178) (.cells #[.string ⟨#[]⟩, .int .i64 0] 178)
  have k2 : Keeps [] w ((w.alloc (.cells #[.string s, .int .i64 er] 178)).alloc (.cells #[.string ⟨#[]⟩, .int .i64 0] 178)) := ((Keeps.refl [] w).alloc _).alloc _
  have HN := Lib.hid (And.intro n2 k2)
  clear n2 k2
  by_cases he : er = 0
  · subst he
    rw [if_neg (fun h => h rfl)] at hkm
    have Ht := Lib.hid (fun w => rTakeText_spec w s (by rw [hse]; exact hs) most hm)
    rw [hsd] at Ht
    generalize takeT l most = r at Ht hkm
    obtain ⟨r1, r2, r3⟩ := r
    have Hk := Lib.hid hkm
    clear hk hkm hse hsd
    go_enter Tryz.func90, Tryz.ntmps90
    go_wp2_with fail
    refine (Ht.out _).mono ?_
    rintro e w2 ⟨rfl, nq, rfl⟩
    simp only [takeTVals]
    go_wp2_with fail
    have t := heap_cell_same (i := 1) (heap_cell_same (w := (((w.alloc (.cells #[.string s, .int .i64 0] 178)).alloc (.cells #[.string ⟨#[]⟩, .int .i64 0] 178)).drewN nq)) (i := 0) HN.out.1.2 (.string ⟨r2.toArray⟩)) (.int .i64 r3)
    have kq : Keeps [] w (((((w.alloc (.cells #[.string s, .int .i64 0] 178)).alloc (.cells #[.string ⟨#[]⟩, .int .i64 0] 178)).drewN nq).setCell ⟨w.heap.size + 1, 0, none⟩ (.string ⟨r2.toArray⟩)).setCell ⟨w.heap.size + 1, 1, none⟩ (.int .i64 r3)) := (((((Keeps.refl [] w).alloc _).alloc _).drewN nq).setCell (.inr (by show w.heap.size ≤ w.heap.size + 1; omega)) _).setCell (.inr (by show w.heap.size ≤ w.heap.size + 1; omega)) _
    generalize ((((w.alloc (.cells #[.string s, .int .i64 0] 178)).alloc (.cells #[.string ⟨#[]⟩, .int .i64 0] 178)).drewN nq).setCell ⟨w.heap.size + 1, 0, none⟩ (.string ⟨r2.toArray⟩)).setCell ⟨w.heap.size + 1, 1, none⟩ (.int .i64 r3) = wz at t kq ⊢
    have t' : wz.heap[w.heap.size + 1]? = some (.cells #[.string ⟨r2.toArray⟩, .int .i64 r3] 178 (0, 0)) := t.trans (by simp)
    have hc := cells_at t'
    have lr := lt_of_at t'
    refine bodyPost_ret (v := .tuple #[.agg #[.string ⟨r2.toArray⟩, .int .i64 r3], .string ⟨r1.toArray⟩]) ?_ rfl ⟨by rw [Hk.out]; rfl, kq⟩
    simp [results, Tryz.results90, go_sem, hc, lr]
  · rw [if_pos he] at hkm
    have he1 : (er != 0) = true := by simp [he]
    have he2 : (er == 0) = false := by simp [he]
    have Hk := Lib.hid hkm
    have Hse := Lib.hid hse
    clear hk hkm hse hsd
    go_enter Tryz.func90, Tryz.ntmps90
    go_wp2_with fail
    have n2 := new2 w (.cells #[.string s, .int .i64 er] 178) (.cells #[.string s, .int .i64 er] 178)
    have kq : Keeps [] w ((w.alloc (.cells #[.string s, .int .i64 er] 178)).alloc (.cells #[.string s, .int .i64 er] 178)) := ((Keeps.refl [] w).alloc _).alloc _
    generalize (w.alloc (.cells #[.string s, .int .i64 er] 178)).alloc (.cells #[.string s, .int .i64 er] 178) = wz at n2 kq ⊢
    have hc := cells_at n2.2
    have lr := lt_of_at n2.2
    refine bodyPost_ret (v := .tuple #[.agg #[.string s, .int .i64 er], .string ⟨#[]⟩]) ?_ rfl ⟨by rw [Hk.out, Hse.out]; rfl, kq⟩
    simp [results, Tryz.results90, go_sem, hc, lr]

set_option linter.unusedSimpArgs false in
set_option maxRecDepth 100000 in
set_option maxHeartbeats 1000000 in
theorem rNum_spec (w : World) (st : Tk) (hs : st.1.length ≤ maxLen) (most : Int) (hm : most ≤ 9223372036854775807) :
    Calls Tryz.prog 91 #[curV st, .int .i64 most] w fun e w' => e = .returned (.tuple #[curV (tkN st most).2, .int .i64 (tkN st most).1]) ∧ Keeps [] w w' := by
  obtain ⟨l, er⟩ := st
  obtain ⟨s, hse⟩ : ∃ s : ByteArray, s = ⟨l.toArray⟩ := ⟨_, rfl⟩
  have hsd : s.data.toList = l := by rw [hse]
  have hk : ∀ most, tkN (l, er) most = if er ≠ 0 then (0, (l, er)) else ((takeM l most).1, (takeM l most).2.1, (takeM l most).2.2) := fun _ => rfl
  have hkm := hk most
  rw [show curV (l, er) = .agg #[.string s, .int .i64 er] from by rw [hse]; rfl]
  have n2 := new2 w (.cells #[.string s, .int .i64 er] 178) (.cells #[.string ⟨#[]⟩, .int .i64 0] 178)
  have k2 : Keeps [] w ((w.alloc (.cells #[.string s, .int .i64 er] 178)).alloc (.cells #[.string ⟨#[]⟩, .int .i64 0] 178)) := ((Keeps.refl [] w).alloc _).alloc _
  have HN := Lib.hid (And.intro n2 k2)
  clear n2 k2
  by_cases he : er = 0
  · subst he
    rw [if_neg (fun h => h rfl)] at hkm
    have Ht := Lib.hid (fun w => rTakeMost_spec w s (by rw [hse]; exact hs) most hm)
    rw [hsd] at Ht
    generalize takeM l most = r at Ht hkm
    obtain ⟨r1, r2, r3⟩ := r
    have Hk := Lib.hid hkm
    clear hk hkm hse hsd
    go_enter Tryz.func91, Tryz.ntmps91
    go_wp2_with fail
    refine (Ht.out _).mono ?_
    rintro e w2 ⟨rfl, nq, rfl⟩
    simp only [takeMVals]
    go_wp2_with fail
    have t := heap_cell_same (i := 1) (heap_cell_same (w := (((w.alloc (.cells #[.string s, .int .i64 0] 178)).alloc (.cells #[.string ⟨#[]⟩, .int .i64 0] 178)).drewN nq)) (i := 0) HN.out.1.2 (.string ⟨r2.toArray⟩)) (.int .i64 r3)
    have kq : Keeps [] w (((((w.alloc (.cells #[.string s, .int .i64 0] 178)).alloc (.cells #[.string ⟨#[]⟩, .int .i64 0] 178)).drewN nq).setCell ⟨w.heap.size + 1, 0, none⟩ (.string ⟨r2.toArray⟩)).setCell ⟨w.heap.size + 1, 1, none⟩ (.int .i64 r3)) := (((((Keeps.refl [] w).alloc _).alloc _).drewN nq).setCell (.inr (by show w.heap.size ≤ w.heap.size + 1; omega)) _).setCell (.inr (by show w.heap.size ≤ w.heap.size + 1; omega)) _
    generalize ((((w.alloc (.cells #[.string s, .int .i64 0] 178)).alloc (.cells #[.string ⟨#[]⟩, .int .i64 0] 178)).drewN nq).setCell ⟨w.heap.size + 1, 0, none⟩ (.string ⟨r2.toArray⟩)).setCell ⟨w.heap.size + 1, 1, none⟩ (.int .i64 r3) = wz at t kq ⊢
    have t' : wz.heap[w.heap.size + 1]? = some (.cells #[.string ⟨r2.toArray⟩, .int .i64 r3] 178 (0, 0)) := t.trans (by simp)
    have hc := cells_at t'
    have lr := lt_of_at t'
    refine bodyPost_ret (v := .tuple #[.agg #[.string ⟨r2.toArray⟩, .int .i64 r3], .int .i64 r1]) ?_ rfl ⟨by rw [Hk.out]; rfl, kq⟩
    simp [results, Tryz.results91, go_sem, hc, lr]
  · rw [if_pos he] at hkm
    have he1 : (er != 0) = true := by simp [he]
    have he2 : (er == 0) = false := by simp [he]
    have Hk := Lib.hid hkm
    have Hse := Lib.hid hse
    clear hk hkm hse hsd
    go_enter Tryz.func91, Tryz.ntmps91
    go_wp2_with fail
    have n2 := new2 w (.cells #[.string s, .int .i64 er] 178) (.cells #[.string s, .int .i64 er] 178)
    have kq : Keeps [] w ((w.alloc (.cells #[.string s, .int .i64 er] 178)).alloc (.cells #[.string s, .int .i64 er] 178)) := ((Keeps.refl [] w).alloc _).alloc _
    generalize (w.alloc (.cells #[.string s, .int .i64 er] 178)).alloc (.cells #[.string s, .int .i64 er] 178) = wz at n2 kq ⊢
    have hc := cells_at n2.2
    have lr := lt_of_at n2.2
    refine bodyPost_ret (v := .tuple #[.agg #[.string s, .int .i64 er], .int .i64 0]) ?_ rfl ⟨by rw [Hk.out, Hse.out]; rfl, kq⟩
    simp [results, Tryz.results91, go_sem, hc, lr]
end Go.Proofs.YtjffdcflkkgpfaaGreat

namespace Go.Proofs.YtjffdcflkkgpfaaGreat

theorem takeL_canon : ∀ {l : List UInt8} {i v m : Nat} {rest : List UInt8}, takeL l i v = (m, rest, 0) → ∃ u, m = v + u * 2 ^ (7 * i) ∧ l = lebL u ++ rest ∧ (0 < i → 0 < u)
  | [], i, v, m, rest, h => by simp [takeL] at h
  | c :: l, i, v, m, rest, h => by
    unfold takeL at h
    split at h
    · simp at h
    · split at h
      · rename_i hc
        split at h
        · simp at h
        · rename_i h0
          simp only [Prod.mk.injEq] at h
          refine ⟨c.toNat, ?_, ?_, ?_⟩
          · rw [← h.1, Nat.mod_eq_of_lt hc]
          · rw [lebL_small hc, ← h.2.1]
            simp
          · intro hi
            omega
      · rename_i hc
        obtain ⟨u, h1, h2, h3⟩ := takeL_canon h
        have hu := h3 (by omega)
        have hcl := UInt8.toNat_lt c
        refine ⟨c.toNat % 128 + 128 * u, ?_, ?_, fun _ => by omega⟩
        · have e : 2 ^ (7 * (i + 1)) = 128 * 2 ^ (7 * i) := by rw [show 7 * (i + 1) = 7 * i + 7 from by omega, Nat.pow_add, Nat.mul_comm]
          rw [h1, e, Nat.add_mul, Nat.mul_assoc 128 u, Nat.mul_left_comm u 128, Nat.add_assoc]
        · rw [lebL_big (by omega), h2]
          have e1 : (c.toNat % 128 + 128 * u) / 128 = u := by omega
          have e2 : (c.toNat % 128 + 128 * u) % 128 + 128 = c.toNat := by omega
          rw [e1, e2]
          simp

theorem takeM_canon {l rest : List UInt8} {most n : Int} (h : takeM l most = (n, rest, 0)) : ∃ u : Nat, n = (u : Int) ∧ l = lebL u ++ rest := by
  unfold takeM at h
  split at h
  · simp at h
  · simp only [Prod.mk.injEq] at h
    obtain ⟨h1, h2, h3⟩ := h
    have hl : takeU l = ((takeU l).1, rest, 0) := by rw [← h2, ← h3]
    obtain ⟨u, e1, e2, -⟩ := takeL_canon (l := l) (i := 0) (v := 0) hl
    have e3 : (takeU l).1 = u := by simpa using e1
    exact ⟨u, by rw [← h1, e3], e2⟩

theorem le4_un4 : ∀ {l : List UInt8}, 4 ≤ l.length → le4 (un4 l) = l.take 4
  | a :: b :: c :: d :: r, _ => by
    have ha := UInt8.toNat_lt a
    have hb := UInt8.toNat_lt b
    have hc := UInt8.toNat_lt c
    have hd := UInt8.toNat_lt d
    simp only [le4, un4, List.getD_cons_zero, List.getD_cons_succ, List.take_succ_cons, List.take_zero]
    have e0 : (a.toNat + 256 * b.toNat + 65536 * c.toNat + 16777216 * d.toNat) % 256 = a.toNat := by omega
    have e1 : (a.toNat + 256 * b.toNat + 65536 * c.toNat + 16777216 * d.toNat) / 256 % 256 = b.toNat := by omega
    have e2 : (a.toNat + 256 * b.toNat + 65536 * c.toNat + 16777216 * d.toNat) / 65536 % 256 = c.toNat := by omega
    have e3 : (a.toNat + 256 * b.toNat + 65536 * c.toNat + 16777216 * d.toNat) / 16777216 % 256 = d.toNat := by omega
    rw [e0, e1, e2, e3]
    simp
  | [], h => by simp at h
  | [_], h => by simp at h
  | [_, _], h => by simp at h
  | [_, _, _], h => by simp at h

/-- Is the record what is read? The bytes that its kind and data make are at the beginning of the text just when its sum is right. -/
theorem frame_is {k : UInt8} {r rest : List UInt8} {u : Nat} (hr : r = lebL u ++ rest) (hlen : 4 + u ≤ rest.length) :
    frameL k ((rest.drop 4).take u) = (k :: r).take (frameL k ((rest.drop 4).take u)).length ↔ moreN 0 (k :: (rest.drop 4).take u) = un4 rest := by
  obtain ⟨d, hd⟩ : ∃ d, d = (rest.drop 4).take u := ⟨_, rfl⟩
  have hdl : d.length = u := by rw [hd, List.length_take, List.length_drop]; omega
  have hsplit : rest = rest.take 4 ++ (d ++ (rest.drop 4).drop u) := by
    rw [hd, List.take_append_drop, List.take_append_drop]
  rw [← hd]
  have hfl : (frameL k d).length = 5 + (lebL u).length + u := by rw [frameL_len, hdl]
  have h4 : (rest.take 4).length = 4 := by rw [List.length_take]; omega
  have htake : (k :: r).take (frameL k d).length = k :: (lebL u ++ (rest.take 4 ++ d)) := by
    rw [hfl, hr, hsplit]
    have e : k :: (lebL u ++ (rest.take 4 ++ (d ++ (rest.drop 4).drop u))) = (k :: (lebL u ++ (rest.take 4 ++ d))) ++ (rest.drop 4).drop u := by simp
    rw [← hsplit]
    conv => lhs; arg 2; rw [hsplit]
    rw [e]
    refine List.take_left' ?_
    simp only [List.length_cons, List.length_append, h4, hdl]
    omega
  rw [htake]
  unfold frameL
  rw [hdl]
  constructor
  · intro h
    injection h with _ h
    have h2 := List.append_cancel_left h
    have h3 : le4 (moreN 0 (k :: d)) = rest.take 4 := (List.append_inj h2 (by rw [h4]; rfl)).1
    have h5 := un4_le4 (rest.drop 4) (moreN_lt 0 (k :: d))
    rw [h3, List.take_append_drop] at h5
    exact h5.symm
  · intro h
    rw [h, le4_un4 (by omega)]
end Go.Proofs.YtjffdcflkkgpfaaGreat

namespace Go.Proofs.YtjffdcflkkgpfaaGreat
open Go Go.RowKit

theorem text_more {x : ByteArray} (h : ¬ x = ⟨#[]⟩) : (x.toList == []) = false ∧ (x.toList != []) = true ∧ ¬ x.toList = [] := by
  have hne : ¬ x.data.toList = [] := fun e => h (ba_ext e)
  have hn1 : (x.toList == []) = false := by rw [ByteArray.toList_eq]; simpa using hne
  exact ⟨hn1, by rw [bne, hn1]; rfl, by rw [ByteArray.toList_eq]; exact hne⟩

set_option linter.unusedSimpArgs false in
set_option maxRecDepth 100000 in
set_option maxHeartbeats 4000000 in
theorem rNext_spec (w : World) (s : ByteArray) (hs : s.size ≤ 1000000) :
    Calls Tryz.prog 116 #[.string s] w (NextPost w (nextF s.data.toList)) := by
  have hd := dsize s
  have q1 := heap_new w (.cells #[.int .u8 0, .string ⟨#[]⟩] 209)
  have k1 := (Keeps.refl [] w).alloc (.cells #[.int .u8 0, .string ⟨#[]⟩] 209)
  cases hl : s.data.toList with
  | nil =>
    have hse : s = ⟨#[]⟩ := ba_ext (by simpa using hl)
    subst hse
    clear hl hd
    go_enter Tryz.func116, Tryz.ntmps116
    go_wp2_with fail
    generalize w.alloc (.cells #[.int .u8 0, .string ⟨#[]⟩] 209) = w1 at q1 k1 ⊢
    have hc := cells_at q1
    have lr := lt_of_at q1
    refine bodyPost_ret (v := .tuple #[.agg #[.int .u8 0, .string ⟨#[]⟩], .string ⟨#[]⟩, .int .i64 2]) ?_ rfl ⟨rfl, k1⟩
    simp [results, Tryz.results116, go_sem, hc, lr]
  | cons k r =>
    rw [hl] at hd
    simp only [List.length_cons] at hd
    obtain ⟨rs, hrs⟩ : ∃ rs : ByteArray, rs = ⟨r.toArray⟩ := ⟨_, rfl⟩
    have hrd : rs.data.toList = r := by rw [hrs]
    have hrl : rs.size = r.length := by rw [hrs]; rfl
    obtain ⟨hn1, hn2, hn3⟩ := text_more (x := s) (fun e => by rw [e] at hl; simp at hl)
    have hx1 : s.extract 1 s.size = rs := by rw [extract_end, hl, hrs]; rfl
    have h1s : (1 : Int) ≤ (s.size : Int) := by omega
    have Hm := Lib.hid (fun w => rTakeMost_spec w rs (by unfold maxLen; omega) 1048576 (by decide))
    rw [hrd] at Hm
    have hbd := takeM_bounds r (most := 1048576) (by decide)
    have herr := @takeM_err r 1048576
    have hN : nextF (k :: r) = (if (takeM r 1048576).2.2 ≠ 0 then (0, [], [], (takeM r 1048576).2.2)
      else if ((takeM r 1048576).2.1.length : Int) < 4 + (takeM r 1048576).1 then (0, [], [], 2)
      else if moreN 0 (k :: ((takeM r 1048576).2.1.drop 4).take (takeM r 1048576).1.toNat) ≠ un4 (takeM r 1048576).2.1 then (0, [], [], 4)
      else (k, ((takeM r 1048576).2.1.drop 4).take (takeM r 1048576).1.toNat, (takeM r 1048576).2.1.drop (4 + (takeM r 1048576).1.toNat), 0)) := rfl
    have hcan := fun n rest (h : takeM r 1048576 = (n, rest, 0)) => takeM_canon h
    generalize nextF (k :: r) = R at hN
    generalize takeM r 1048576 = m at Hm hbd herr hN hcan
    obtain ⟨n, rest, er⟩ := m
    simp only at hbd hN herr
    have Hrs := Lib.hid hrs
    have Hsl := Lib.hid (And.intro hl hd)
    clear hl hd hrs hrd
    by_cases he : er = 0
    · subst he
      obtain ⟨u, rfl, hru⟩ := hcan n rest rfl
      rw [if_neg (fun h => h rfl)] at hN
      obtain ⟨ts, hts⟩ : ∃ ts : ByteArray, ts = ⟨rest.toArray⟩ := ⟨_, rfl⟩
      have htl : ts.size = rest.length := by rw [hts]; rfl
      have htd : ts.data.toList = rest := by rw [hts]
      clear herr hcan
      by_cases hsh : (rest.length : Int) < 4 + (u : Int)
      · rw [if_pos hsh] at hN
        have Hr := Lib.hid hN
        have Hts := Lib.hid hts
        have hsh' : (ts.size : Int) < 4 + (u : Int) := by omega
        clear hN hsh htl hts htd hru
        go_enter Tryz.func116, Tryz.ntmps116
        go_wp2_with fail
        generalize w.alloc (.cells #[.int .u8 0, .string ⟨#[]⟩] 209) = w1 at q1 k1 ⊢
        refine (Hm.out _).mono ?_
        rintro e w2 ⟨rfl, nq, rfl⟩
        simp only [takeMVals]
        rw [← Hts.out]
        have q2 : (w1.drewN nq).heap[w.heap.size]? = _ := q1
        have k2 := k1.drewN nq
        clear q1 k1
        generalize w1.drewN nq = w2 at q2 k2 ⊢
        have t := heap_cell_same (i := 1) (heap_cell_same (i := 0) q2 (.int .u8 0)) (.string ⟨#[]⟩)
        have kq : Keeps [] w ((w2.setCell ⟨w.heap.size, 0, none⟩ (.int .u8 0)).setCell ⟨w.heap.size, 1, none⟩ (.string ⟨#[]⟩)) := (k2.setCell (.inr (Nat.le_refl _)) _).setCell (.inr (Nat.le_refl _)) _
        have Hfin := Lib.hid (And.intro t kq)
        have c2 := cells_at q2
        have f2 := free_at q2
        have l2 := lt_of_at q2
        clear t kq k2 q2
        go_wp2_with fail
        have hc := cells_at Hfin.out.1
        refine bodyPost_ret (v := .tuple #[.agg #[.int .u8 0, .string ⟨#[]⟩], .string ⟨#[]⟩, .int .i64 2]) ?_ rfl ⟨by rw [Hr.out]; rfl, Hfin.out.2⟩
        simp [results, Tryz.results116, go_sem, hc, l2]
      · rw [if_neg hsh] at hN
        have hun : ((u : Int)).toNat = u := by omega
        rw [hun] at hN
        have hlen : 4 + u ≤ rest.length := by omega
        have hfi := frame_is (k := k) hru hlen
        obtain ⟨d, hd2⟩ : ∃ d, d = (rest.drop 4).take u := ⟨_, rfl⟩
        have hdl : d.length = u := by rw [hd2, List.length_take, List.length_drop]; omega
        rw [← hd2] at hN hfi
        obtain ⟨ds, hds⟩ : ∃ ds : ByteArray, ds = ⟨d.toArray⟩ := ⟨_, rfl⟩
        have hdsd : ds.data.toList = d := by rw [hds]
        have hx2 : ts.extract 4 (4 + u) = ds := by
          apply ba_ext
          rw [hdsd, hd2]
          simp only [ByteArray.data_extract, Array.toList_extract, List.extract_eq_take_drop]
          rw [show ts.data.toList = rest from htd]
          congr 1
          omega
        obtain ⟨al, hal⟩ : ∃ al, al = frameL k d := ⟨_, rfl⟩
        have hall : al.length = 5 + (lebL u).length + u := by rw [hal, frameL_len, hdl]
        have hrl2 : r.length = (lebL u).length + rest.length := by rw [hru, List.length_append]
        rw [← hal] at hfi
        obtain ⟨as_, has⟩ : ∃ x : ByteArray, x = ⟨al.toArray⟩ := ⟨_, rfl⟩
        have hasz : as_.size = al.length := by rw [has]; rfl
        have hle : as_.size ≤ s.size := by have := Hsl.out.2; omega
        obtain ⟨ps, hps⟩ : ∃ x : ByteArray, x = s.extract 0 as_.size := ⟨_, rfl⟩
        have hpsd : ps.data.toList = (k :: r).take al.length := by
          rw [hps]
          simp only [ByteArray.data_extract, Array.toList_extract, List.extract_eq_take_drop]
          rw [show s.data.toList = k :: r from Hsl.out.1, hasz]
          simp
        have hs0 : ∀ (h : 0 < s.size), s[0] = k := fun h => by
          have h1 : s.data.toList[0]'(by rw [dsize]; exact h) = k := by simp only [Hsl.out.1, List.getElem_cons_zero]
          exact h1
        have hpos : 0 < s.size := by have := Hsl.out.2; omega
        have hpos' : (0 : Int) < (s.size : Int) := by omega
        have b1 : (4 : Int) + (u : Int) ≤ (ts.size : Int) := by omega
        have hsh' : ¬ (ts.size : Int) < 4 + (u : Int) := by omega
        have hle' : (as_.size : Int) ≤ (s.size : Int) := by omega
        have HN := Lib.hid (And.intro hN (And.intro hfi (And.intro hdsd (And.intro has (And.intro hasz (And.intro hpsd hps))))))
        have Hts := Lib.hid (And.intro hts (And.intro hds hal))
        have Hx := Lib.hid (And.intro hd2 (And.intro hrl2 (And.intro hall (And.intro hru (And.intro htd htl)))))
        clear htl hrl hN hsh hts htd hru hfi hdsd has hpsd hps hds hal hd2 hrl2 hall hlen hdl hun
        go_enter Tryz.func116, Tryz.ntmps116
        go_wp2_with fail
        generalize w.alloc (.cells #[.int .u8 0, .string ⟨#[]⟩] 209) = w1 at q1 k1 ⊢
        refine (Hm.out _).mono ?_
        rintro e w2 ⟨rfl, nq, rfl⟩
        simp only [takeMVals]
        rw [← Hts.out.1]
        have q2 : (w1.drewN nq).heap[w.heap.size]? = _ := q1
        have k2 := k1.drewN nq
        clear q1 k1
        generalize w1.drewN nq = w2 at q2 k2 ⊢
        go_wp2_with fail
        have ha4 : IntKind.i64.wrap ((4 : Int) + (u : Int)) = 4 + (u : Int) := IntWalk.i64_in _ (by omega)
        have ht4 : ((4 : Int) + (u : Int)).toNat = 4 + u := by omega
        have hs0' := hs0 hpos
        go_region
        have kA : Keeps [] w2 ((w2.alloc (.cells #[.int .u8 (k.toNat : Int), .string ds] 209)).drew) := ((Keeps.refl [] w2).alloc _).drew
        have hpne : w.heap.size ≠ w2.heap.size := by have := lt_of_at q2; omega
        have H3 := Lib.hid (And.intro (kA.at_ q2 (by simp)) (And.intro (show ((w2.alloc (.cells #[.int .u8 (k.toNat : Int), .string ds] 209)).drew).heap[w2.heap.size]? = some (.cells #[.int .u8 (k.toNat : Int), .string ds] 209 (0, 0)) from heap_new w2 _) (k2.trans kA)))
        clear kA q2 k2 hs0' ht4 ha4 hs0 hx1 hx2
        generalize (w2.alloc (.cells #[.int .u8 (k.toNat : Int), .string ds] 209)).drew = w3 at H3 ⊢
        generalize w2.heap.size = pb at H3 hpne ⊢
        have cb := cells_at H3.out.2.1
        have lb := lt_of_at H3.out.2.1
        go_wp2_with fail
        refine (bytes2_spec w3 k ds (by have h1 := congrArg List.length HN.out.2.2.1; rw [dsize] at h1; have := Hx.out.2.2.1; have := Hx.out.2.1; have := Hsl.out.2; have h5 := congrArg List.length Hx.out.1; rw [List.length_take, List.length_drop] at h5; omega)).mono ?_
        rintro e w4 ⟨rfl, k4⟩
        rw [HN.out.2.2.1, ← Hts.out.2.2, ← HN.out.2.2.2.1]
        have H4 := Lib.hid (And.intro (k4.at_ H3.out.1 (by simp)) (And.intro (k4.at_ H3.out.2.1 (by simp)) (H3.out.2.2.trans k4)))
        clear k4 cb lb H3
        have hps2 : s.extract 0 as_.size = ps := HN.out.2.2.2.2.2.2.symm
        by_cases hcrc : moreN 0 (k :: d) = un4 rest
        · have hEq : as_ = ps := by
            apply ba_ext
            rw [HN.out.2.2.2.2.2.1, HN.out.2.2.2.1]
            exact HN.out.2.1.2 hcrc
          have HR := Lib.hid (show R = (k, d, List.drop (4 + u) rest, 0) from by rw [HN.out.1, if_neg (fun h => h hcrc)])
          have hbe : (as_.toList != ps.toList) = false := by rw [hEq]; simp
          have hbe2 : (as_.toList == ps.toList) = true := by rw [hEq]; simp
          obtain ⟨bs, hbs⟩ : ∃ bs : ByteArray, bs = s.extract as_.size s.size := ⟨_, rfl⟩
          have hx3 : s.extract as_.size s.size = bs := hbs.symm
          have Hbs := Lib.hid (show bs = ⟨(List.drop (4 + u) rest).toArray⟩ from by
            rw [hbs, extract_end, Hsl.out.1, HN.out.2.2.2.2.1, Hx.out.2.2.1, Hx.out.2.2.2.1]
            have e : 5 + (lebL u).length + u = ((lebL u).length + (4 + u)) + 1 := by omega
            rw [e, List.drop_succ_cons, List.drop_length_add_append])
          have c2 := cells_at H4.out.1
          have f2 := free_at H4.out.1
          have l2 := lt_of_at H4.out.1
          have cb := cells_at H4.out.2.1
          have lb := lt_of_at H4.out.2.1
          clear hbs hcrc hEq hasz
          go_wp2_with fail
          go_region
          have t := heap_cell_same (i := 1) (heap_cell_same (i := 0) H4.out.1 (.int .u8 (k.toNat : Int))) (.string ds)
          have kq : Keeps [] w (((w4.setCell ⟨w.heap.size, 0, none⟩ (.int .u8 (k.toNat : Int))).setCell ⟨w.heap.size, 1, none⟩ (.string ds)).drew) := ((H4.out.2.2.setCell (.inr (Nat.le_refl _)) _).setCell (.inr (Nat.le_refl _)) _).drew
          have t' : (((w4.setCell ⟨w.heap.size, 0, none⟩ (.int .u8 (k.toNat : Int))).setCell ⟨w.heap.size, 1, none⟩ (.string ds)).drew).heap[w.heap.size]? = some (.cells #[.int .u8 (k.toNat : Int), .string ds] 209 (0, 0)) := t.trans (by simp)
          have Hfin := Lib.hid (And.intro t' kq)
          clear t t' kq c2 f2 l2 cb lb H4
          generalize ((w4.setCell ⟨w.heap.size, 0, none⟩ (.int .u8 (k.toNat : Int))).setCell ⟨w.heap.size, 1, none⟩ (.string ds)).drew = wz at Hfin ⊢
          go_wp2_with fail
          have hc := cells_at Hfin.out.1
          have lr := lt_of_at Hfin.out.1
          refine bodyPost_ret (v := .tuple #[.agg #[.int .u8 (k.toNat : Int), .string ds], .string bs, .int .i64 0]) ?_ rfl ⟨by rw [HR.out, Hts.out.2.1, Hbs.out]; rfl, Hfin.out.2⟩
          simp [results, Tryz.results116, go_sem, hc, lr]
        · have hEq : ¬ as_ = ps := fun h => hcrc (HN.out.2.1.1 (by
            have h1 : as_.data.toList = ps.data.toList := by rw [h]
            rw [HN.out.2.2.2.2.2.1, HN.out.2.2.2.1] at h1
            exact h1))
          have hnl : ¬ as_.toList = ps.toList := fun h => hEq (ba_ext (by rw [ByteArray.toList_eq, ByteArray.toList_eq] at h; exact h))
          have HR := Lib.hid (show R = (0, [], [], 4) from by rw [HN.out.1, if_pos hcrc])
          have hbe : (as_.toList != ps.toList) = true := by simpa using hnl
          have hbe2 : (as_.toList == ps.toList) = false := by simpa using hnl
          have t := heap_cell_same (i := 1) (heap_cell_same (i := 0) H4.out.1 (.int .u8 0)) (.string ⟨#[]⟩)
          have kq : Keeps [] w ((w4.setCell ⟨w.heap.size, 0, none⟩ (.int .u8 0)).setCell ⟨w.heap.size, 1, none⟩ (.string ⟨#[]⟩)) := (H4.out.2.2.setCell (.inr (Nat.le_refl _)) _).setCell (.inr (Nat.le_refl _)) _
          have Hfin := Lib.hid (And.intro t kq)
          have c2 := cells_at H4.out.1
          have f2 := free_at H4.out.1
          have l2 := lt_of_at H4.out.1
          clear t kq hcrc hEq hasz
          go_wp2_with fail
          have hc := cells_at Hfin.out.1
          refine bodyPost_ret (v := .tuple #[.agg #[.int .u8 0, .string ⟨#[]⟩], .string ⟨#[]⟩, .int .i64 4]) ?_ rfl ⟨by rw [HR.out]; rfl, Hfin.out.2⟩
          simp [results, Tryz.results116, go_sem, hc, l2]
    · rw [if_pos he] at hN
      have Hr := Lib.hid hN
      have he1 : (er != 0) = true := by simp [he]
      have he2 : (er == 0) = false := by simp [he]
      clear hN hcan
      go_enter Tryz.func116, Tryz.ntmps116
      go_wp2_with fail
      generalize w.alloc (.cells #[.int .u8 0, .string ⟨#[]⟩] 209) = w1 at q1 k1 ⊢
      refine (Hm.out _).mono ?_
      rintro e w2 ⟨rfl, nq, rfl⟩
      simp only [takeMVals]
      have q2 : (w1.drewN nq).heap[w.heap.size]? = _ := q1
      have k2 := k1.drewN nq
      clear q1 k1
      generalize w1.drewN nq = w2 at q2 k2 ⊢
      have t := heap_cell_same (i := 1) (heap_cell_same (i := 0) q2 (.int .u8 0)) (.string ⟨#[]⟩)
      have kq : Keeps [] w ((w2.setCell ⟨w.heap.size, 0, none⟩ (.int .u8 0)).setCell ⟨w.heap.size, 1, none⟩ (.string ⟨#[]⟩)) := (k2.setCell (.inr (Nat.le_refl _)) _).setCell (.inr (Nat.le_refl _)) _
      have Hfin := Lib.hid (And.intro t kq)
      have c2 := cells_at q2
      have f2 := free_at q2
      have l2 := lt_of_at q2
      clear t kq k2 q2
      go_wp2_with fail
      have hc := cells_at Hfin.out.1
      refine bodyPost_ret (v := .tuple #[.agg #[.int .u8 0, .string ⟨#[]⟩], .string ⟨#[]⟩, .int .i64 er]) ?_ rfl ⟨by rw [Hr.out]; rfl, Hfin.out.2⟩
      simp [results, Tryz.results116, go_sem, hc, l2]
end Go.Proofs.YtjffdcflkkgpfaaGreat

namespace Go.Proofs.YtjffdcflkkgpfaaGreat
open Go Go.RowKit

def ROnlyPost (w : World) (r : UInt8 × List UInt8 × List UInt8 × Int) (kind : UInt8) (e : Ending) (w' : World) : Prop := ∃ x : ByteArray, e = .returned (.tuple #[.string x, .int .i64 (onlyE r kind)]) ∧ (onlyE r kind = 0 → x = ⟨r.2.1.toArray⟩) ∧ Keeps [] w w'

set_option linter.unusedSimpArgs false in
set_option maxRecDepth 100000 in
set_option maxHeartbeats 1000000 in
theorem rOnly_spec0 (w : World) (s : ByteArray) (hs : s.size ≤ 1000000) (kind : UInt8) :
    Calls Tryz.prog 88 #[.string s, .int .u8 kind.toNat] w (ROnlyPost w (nextF s.data.toList) kind) := by
  have H := Lib.hid (rNext_spec w s hs)
  generalize nextF s.data.toList = r at H
  obtain ⟨k, dd, rest, er⟩ := r
  obtain ⟨ds, hds⟩ : ∃ s : ByteArray, s = ⟨dd.toArray⟩ := ⟨_, rfl⟩
  obtain ⟨rs, hrs⟩ : ∃ s : ByteArray, s = ⟨rest.toArray⟩ := ⟨_, rfl⟩
  have hrl : rs.size = rest.length := by rw [hrs]; rfl
  have Hd := Lib.hid (And.intro hds hrs)
  clear hds hrs
  by_cases he : er = 0
  · by_cases hr : rest = []
    · obtain ⟨z1, z2⟩ := is_empty (s := rs) (by rw [hrl, hr]; rfl)
      by_cases hk : k = kind
      · have Hc := Lib.hid (show onlyE (k, dd, rest, er) kind = 0 from by unfold onlyE; rw [if_neg (by simp [hr, hk])]; exact he)
        have hkk : ((k.toNat : Int) != (kind.toNat : Int)) = false := by simp [hk]
        have hkk2 : ((k.toNat : Int) == (kind.toNat : Int)) = true := by simp [hk]
        subst he
        subst hk
        clear hr hrl
        go_enter Tryz.func88, Tryz.ntmps88
        go_wp2_with fail
        refine H.out.mono ?_
        rintro e w1 ⟨rfl, hk1⟩
        simp only [nextVals]
        rw [← Hd.out.1, ← Hd.out.2]
        have q2 := heap_new w1 (.cells #[.int .u8 k.toNat, .string ds] 209)
        have hk2 := Lib.hid (hk1.alloc (.cells #[.int .u8 k.toNat, .string ds] 209))
        have c2 := cells_at q2
        have l2 := lt_of_at q2
        clear hk1 q2
        go_wp2_with fail
        go_ret2
        exact ⟨ds, by rw [Hc.out]; rfl, fun _ => Hd.out.1, hk2.out⟩
      · have Hc := Lib.hid (show onlyE (k, dd, rest, er) kind = 3 from by unfold onlyE; rw [if_pos ⟨he, .inr hk⟩])
        have hne : ¬ (k.toNat : Int) = (kind.toNat : Int) := fun e => hk (UInt8.toNat_inj.1 (by omega))
        have hkk : ((k.toNat : Int) != (kind.toNat : Int)) = true := by simpa using hne
        have hkk2 : ((k.toNat : Int) == (kind.toNat : Int)) = false := by simpa using hne
        subst he
        clear hr hrl hk hne
        go_enter Tryz.func88, Tryz.ntmps88
        go_wp2_with fail
        refine H.out.mono ?_
        rintro e w1 ⟨rfl, hk1⟩
        simp only [nextVals]
        rw [← Hd.out.1, ← Hd.out.2]
        have q2 := heap_new w1 (.cells #[.int .u8 k.toNat, .string ds] 209)
        have hk2 := Lib.hid (hk1.alloc (.cells #[.int .u8 k.toNat, .string ds] 209))
        have c2 := cells_at q2
        have l2 := lt_of_at q2
        clear hk1 q2
        go_wp2_with fail
        go_ret2
        exact ⟨⟨#[]⟩, by rw [Hc.out]; rfl, fun h => absurd (Hc.out.symm.trans h) (by decide), hk2.out⟩
    · obtain ⟨z1, z2⟩ := ne_empty (s := rs) (by rw [hrl]; intro e; exact hr (List.eq_nil_of_length_eq_zero e))
      have Hc := Lib.hid (show onlyE (k, dd, rest, er) kind = 3 from by unfold onlyE; rw [if_pos ⟨he, .inl hr⟩])
      subst he
      clear hr hrl
      go_enter Tryz.func88, Tryz.ntmps88
      go_wp2_with fail
      refine H.out.mono ?_
      rintro e w1 ⟨rfl, hk1⟩
      simp only [nextVals]
      rw [← Hd.out.1, ← Hd.out.2]
      have q2 := heap_new w1 (.cells #[.int .u8 k.toNat, .string ds] 209)
      have hk2 := Lib.hid (hk1.alloc (.cells #[.int .u8 k.toNat, .string ds] 209))
      have c2 := cells_at q2
      have l2 := lt_of_at q2
      clear hk1 q2
      go_wp2_with fail
      go_ret2
      exact ⟨⟨#[]⟩, by rw [Hc.out]; rfl, fun h => absurd (Hc.out.symm.trans h) (by decide), hk2.out⟩
  · have Hc := Lib.hid (show onlyE (k, dd, rest, er) kind = er from by unfold onlyE; rw [if_neg (fun h => he h.1)])
    have he2 : (er == 0) = false := by simp [he]
    have he3 : (er != 0) = true := by simp [he]
    clear hrl he
    go_enter Tryz.func88, Tryz.ntmps88
    go_wp2_with fail
    refine H.out.mono ?_
    rintro e w1 ⟨rfl, hk1⟩
    simp only [nextVals]
    rw [← Hd.out.1, ← Hd.out.2]
    have q2 := heap_new w1 (.cells #[.int .u8 k.toNat, .string ds] 209)
    have hk2 := Lib.hid (hk1.alloc (.cells #[.int .u8 k.toNat, .string ds] 209))
    have c2 := cells_at q2
    have l2 := lt_of_at q2
    clear hk1 q2
    go_wp2_with fail
    go_ret2
    exact ⟨ds, by rw [Hc.out]; rfl, fun _ => Hd.out.1, hk2.out⟩


theorem rOnly_spec (w : World) (s : ByteArray) (hs : s.size ≤ 1000000) (kind : UInt8) :
    Calls Tryz.prog 88 #[.string s, .int .u8 kind.toNat] w fun e w' => ∃ x : ByteArray, e = .returned (.tuple #[.string x, .int .i64 (onlyL s.data.toList kind).2]) ∧ ((onlyL s.data.toList kind).2 = 0 → x = ⟨(onlyL s.data.toList kind).1.toArray⟩) ∧ Keeps [] w w' :=
  rOnly_spec0 w s hs kind
end Go.Proofs.YtjffdcflkkgpfaaGreat
