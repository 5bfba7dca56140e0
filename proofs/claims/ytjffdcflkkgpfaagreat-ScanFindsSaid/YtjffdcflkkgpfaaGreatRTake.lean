/-
  What the document takes of bytes: a number, a number of at most so much, a text; step by step with the first error kept (a cursor).
  No condition beyond those that each theorem states.

  A number is read as it is written: no other bytes say it; so a record that is read is the bytes that its kind and data make.
  No condition beyond those that each theorem states.

  The document's Next: the record at the beginning of a text, whatever its bytes are: the program's (nextF).
  The text has at most 1,000,000 bytes.

  What is in the one record of a kind that bytes are: the document's only; what it takes of them as a mark (DecodeMark).
  The text has at most 1,000,000 bytes.

  May a meta that was read be said: the document's Check (package barographref09) is okT.
  No condition beyond those that each theorem states.

  What the document takes of any bytes as a meta (package barographref09, Take): fieldsT, where okT says that it may be.
  The bytes are not too many.

  What the document takes of any bytes as a meta's object (package barographref09, Decode): decS.
  The text has at most 1,000,000 bytes.
-/
import Derived.Test.YtjffdcflkkgpfaaGreatLeb
import Derived.Test.YtjffdcflkkgpfaaGreatTaker
import Derived.Test.YtjffdcflkkgpfaaGreatLebLaw
import Derived.Test.YtjffdcflkkgpfaaGreatFrame
import Derived.Test.YtjffdcflkkgpfaaGreatRefEnc
import Derived.Test.YtjffdcflkkgpfaaGreatMark
import Derived.Test.YtjffdcflkkgpfaaGreatTakeMG
import Derived.Test.YtjffdcflkkgpfaaGreatRefIdent
import Derived.Test.YtjffdcflkkgpfaaGreatTold9
import Derived.Test.YtjffdcflkkgpfaaGreatSortMetas
namespace Go.Proofs.YtjffdcflkkgpfaaGreat
open Go Go.RowKit

def rtakeRel (s : ByteArray) (w : World) (gk : Nat) (u5 u6 u7 : Value) (wr : World) : Prop :=
  ∃ k v : Nat, gk = s.size - k ∧ k ≤ s.size ∧ k ≤ 9 ∧ u7 = .int .i64 k ∧ u6 = .int .u64 ((2 ^ (7 * k) : Nat) : Int) ∧ u5 = .int .u64 v ∧ v < 2 ^ (7 * k) ∧ takeL (s.data.toList.drop k) k v = takeU s.data.toList ∧ wr = w

/-- What ends the reading: too great a tenth byte, or a last byte that says nothing. -/
def rbad (k c : Nat) : Bool := (decide (k = 9) && decide (1 < c)) || (decide (c = 0) && decide (0 < k))

set_option linter.unusedSimpArgs false in
set_option maxRecDepth 100000 in
set_option maxHeartbeats 4000000 in
theorem rTakeUint_spec (w : World) (s : ByteArray) (_hs : s.size ≤ maxLen) :
    Calls Tryz.prog 141 #[.string s] w fun e w' => e = .returned (takeVals (takeU s.data.toList)) ∧ ∃ n, w' = w.drewN n := by
  have hsl : s.data.toList.length = s.size := by simp
  go_enter Tryz.func141, Tryz.ntmps141
  go_wp2_with fail
  go_loopg [5, 6, 7] s.size (rtakeRel s w)
  case atStart => exact ⟨0, 0, rfl, Nat.zero_le _, by decide, rfl, rfl, rfl, by decide, rfl, rfl⟩
  case round =>
    obtain ⟨k, v, hg, hk, hk9, rfl, rfl, rfl, hv, hT, rfl⟩ := hrel
    have Hg := Lib.hid hg
    by_cases hlt : k < s.size
    · have hlt' : (k : Int) < (s.size : Int) := by omega
      have hk10 : (k : Int) < 10 := by omega
      have hcl : s[k].toNat < 256 := UInt8.toNat_lt _
      rw [List.drop_eq_getElem_cons (by omega)] at hT
      have hsk : s.data.toList[k] = s[k] := rfl
      rw [hsk] at hT
      unfold takeL at hT
      have Hsl := Lib.hid hsl
      obtain ⟨U, hU⟩ : ∃ U, U = 2 ^ (7 * k) := ⟨_, rfl⟩
      rw [← hU] at hT hv ⊢
      have HU := Lib.hid hU
      clear hg hsl hsk hU
      go_upto_region 7 with fail
      generalize s[k].toNat = c at hT hcl ⊢
      go_cut [36] from 23 to 36 (fun c' wc => c' = .bool (rbad k c) ∧ wc = wr)
      case first =>
        obtain ⟨b9, hb9⟩ : ∃ b, b = decide (k = 9) := ⟨_, rfl⟩
        obtain ⟨b1, hb1⟩ : ∃ b, b = decide (1 < c) := ⟨_, rfl⟩
        obtain ⟨b0, hb0⟩ : ∃ b, b = decide (c = 0) := ⟨_, rfl⟩
        obtain ⟨bk, hbk⟩ : ∃ b, b = decide (0 < k) := ⟨_, rfl⟩
        have e9 : ((k : Int) == 9) = b9 := by rw [hb9, Bool.eq_iff_iff]; first | (simp; done) | (simp; omega)
        have e1 : decide ((1 : Int) < (c : Int)) = b1 := by rw [hb1, Bool.eq_iff_iff]; first | (simp; done) | (simp; omega)
        have e0 : ((c : Int) == 0) = b0 := by rw [hb0, Bool.eq_iff_iff]; first | (simp; done) | (simp; omega)
        have ek : decide ((0 : Int) < (k : Int)) = bk := by rw [hbk, Bool.eq_iff_iff]; simp
        have ek2 : decide (0 < k) = bk := hbk.symm
        have Hr := Lib.hid (show rbad k c = ((b9 && b1) || (b0 && bk)) from by unfold rbad; rw [hb9, hb1, hb0, hbk])
        clear hb9 hb1 hb0 hbk hT hv
        cases b9 <;> cases b1 <;> cases b0 <;> cases bk
        all_goals
          go_wp2_with fail
          go_meet
          exact ⟨by rw [Hr.out]; rfl, rfl⟩
      case rest =>
        obtain ⟨rfl, rfl⟩ := hcut
        cases hbad : rbad k c with
        | true =>
          have hR : takeU s.data.toList = (0, [], 3) := by
            rw [← hT]
            unfold rbad at hbad
            simp only [Bool.or_eq_true, Bool.and_eq_true, decide_eq_true_eq] at hbad
            by_cases hA : k = 9 ∧ 1 < c
            · rw [if_pos hA]
            · have h0 := hbad.resolve_left hA
              rw [if_neg hA, if_pos (by omega), if_pos h0]
          have HT := Lib.hid hR
          clear hT hR hv hbad
          go_wp2_with fail
          go_ret3
          exact ⟨by rw [HT.out]; rfl, 0, rfl⟩
        | false =>
          have hnb : ¬ (k = 9 ∧ 1 < c) ∧ ¬ (c = 0 ∧ 0 < k) := by
            unfold rbad at hbad
            simp only [Bool.or_eq_false_iff, Bool.and_eq_false_iff, decide_eq_false_iff_not] at hbad
            omega
          rw [if_neg hnb.1] at hT
          have hU9 : U ≤ 2 ^ 63 := by rw [HU.out]; exact Nat.pow_le_pow_right (by decide) (by omega)
          have hU8 : k ≤ 8 → U ≤ 2 ^ 56 := fun h => by rw [HU.out]; exact Nat.pow_le_pow_right (by decide) (by omega)
          obtain ⟨p, hp⟩ : ∃ p, p = c % 128 * U := ⟨_, rfl⟩
          rw [← hp] at hT
          have hpu : p + U ≤ 2 ^ 64 := by
            by_cases h9 : k = 9
            · have hc1 : c % 128 ≤ 1 := by omega
              have := Nat.mul_le_mul_right U hc1
              omega
            · have := Nat.mul_le_mul_right U (show c % 128 ≤ 127 by omega)
              have := hU8 (by omega)
              omega
          have hmul : IntKind.u64.wrap ((U : Int) * ((c : Int) % 128)) = (p : Int) := by
            rw [show ((U : Int) * ((c : Int) % 128)) = ((p : Nat) : Int) from by rw [hp]; push_cast; rw [Int.mul_comm]]
            exact IntWalk.u64_in _ (by omega)
          have hadd : IntKind.u64.wrap ((v : Int) + (p : Int)) = ((v + p : Nat) : Int) := by
            rw [show (v : Int) + (p : Int) = ((v + p : Nat) : Int) from by push_cast; rfl]
            exact IntWalk.u64_in _ (by omega)
          have Hp := Lib.hid (And.intro hp (And.intro hpu hnb))
          clear hbad hnb hp
          by_cases h128 : c < 128
          · rw [if_pos h128, if_neg Hp.out.2.2.2] at hT
            have hc3 : (c : Int) < 128 := by omega
            have HT := Lib.hid hT
            have Hex := Lib.hid (extract_end s (k + 1))
            have hai : IntKind.i64.wrap ((k : Int) + 1) = (k : Int) + 1 := IntWalk.i64_in _ (by omega)
            have hadd2 : ((k : Int) + 1).toNat = k + 1 := by omega
            have hadd3 : (k : Int) + 1 ≤ (s.size : Int) := by omega
            have hadd4 : (0 : Int) ≤ (k : Int) + 1 := by omega
            clear hT hv hU9 hU8 hpu
            go_wp2_with fail
            go_quiet (fail)
            go_wp2_with fail
            go_ret3
            exact ⟨by rw [← HT.out, Hex.out]; simp [takeVals], _, rfl⟩
          · rw [if_neg h128] at hT
            have hc3 : ¬ (c : Int) < 128 := by omega
            have HT := Lib.hid hT
            have hk8 : k < 9 := by have := Hp.out.2.2.1; omega
            have hu2 : IntKind.u64.wrap ((U : Int) * 128) = ((2 ^ (7 * (k + 1)) : Nat) : Int) := by
              have h1 : 2 ^ (7 * (k + 1)) = U * 128 := by rw [HU.out, show 7 * (k + 1) = 7 * k + 7 from by omega, Nat.pow_add]
              rw [h1]
              have := hU8 (by omega)
              push_cast
              exact IntWalk.u64_in _ (by omega)
            have Hv := Lib.hid (show v + p < 2 ^ (7 * (k + 1)) from by
              have h1 : 2 ^ (7 * (k + 1)) = 128 * U := by rw [HU.out, show 7 * (k + 1) = 7 * k + 7 from by omega, Nat.pow_add, Nat.mul_comm]
              have h2 := Nat.mul_le_mul_right U (show c % 128 ≤ 127 by omega)
              have h3 := Hp.out.1
              omega)
            clear hT hv hU9 hU8 hpu
            go_wp2_with fail
            go_roundg (s.size - (k + 1))
            case measure => have := Hg.out; omega
            case rel => exact ⟨k + 1, v + p, rfl, by omega, by omega, by go_num, by simp, by simp, Hv.out, HT.out, rfl⟩
    · rw [List.drop_eq_nil_of_le (by omega)] at hT
      have HT := Lib.hid hT
      clear hg hT
      go_wp2_with fail
      go_ret3
      exact ⟨by rw [← HT.out]; rfl, 0, rfl⟩


set_option maxRecDepth 100000 in
set_option maxHeartbeats 1000000 in
theorem rTakeMost_spec (w : World) (s : ByteArray) (hs : s.size ≤ maxLen) (most : Int) (hm : most ≤ 9223372036854775807) :
    Calls Tryz.prog 119 #[.string s, .int .i64 most] w fun e w' => e = .returned (takeMVals (takeM s.data.toList most)) ∧ ∃ n, w' = w.drewN n := by
  have hlt := takeU_lt s.data.toList
  have herr : (takeU s.data.toList).2.2 ≠ 0 → (takeU s.data.toList).1 = 0 ∧ (takeU s.data.toList).2.1 = [] := takeL_err
  have Hcall := Lib.hid (rTakeUint_spec w s hs)
  have HM : Hid (takeM s.data.toList most = takeM s.data.toList most) := Lib.hid rfl
  have hM : ∀ x, takeM s.data.toList most = x ↔ (if (takeU s.data.toList).2.2 = 0 ∧ max most 0 < ((takeU s.data.toList).1 : Int) then (0, [], 16) else (((takeU s.data.toList).1 : Int), (takeU s.data.toList).2.1, (takeU s.data.toList).2.2)) = x := fun x => Iff.rfl
  generalize takeM s.data.toList most = R at hM
  clear HM
  generalize takeU s.data.toList = r at hlt herr Hcall hM
  obtain ⟨u, rest, er⟩ := r
  simp only at hlt herr hM
  have hmx : IntKind.u64.wrap (max most 0) = max most 0 := IntWalk.u64_in _ (by omega)
  have hmx0 : 0 ≤ max most 0 := by omega
  by_cases he : er = 0
  · have he' : (er == 0) = true := by simp [he]
    by_cases hbig : max most 0 < (u : Int)
    · have hR := (hM R).1 rfl
      rw [if_pos ⟨he, hbig⟩] at hR
      have HR := Lib.hid hR
      clear hM hR herr
      go_enter Tryz.func119, Tryz.ntmps119
      go_wp2_with fail
      refine Hcall.out.mono ?_
      rintro e w' ⟨rfl, nq, rfl⟩
      simp only [takeVals]
      subst he
      go_wp2_with fail
      go_ret3
      exact ⟨by rw [← HR.out]; rfl, _, rfl⟩
    · have hR := (hM R).1 rfl
      rw [if_neg (fun h => hbig h.2)] at hR
      have HR := Lib.hid hR
      have hu : IntKind.i64.wrap (u : Int) = (u : Int) := IntWalk.i64_in _ (by omega)
      clear hM hR herr
      go_enter Tryz.func119, Tryz.ntmps119
      go_wp2_with fail
      refine Hcall.out.mono ?_
      rintro e w' ⟨rfl, nq, rfl⟩
      simp only [takeVals]
      subst he
      go_wp2_with fail
      go_ret3
      exact ⟨by rw [← HR.out]; rfl, _, rfl⟩
  · have he' : (er == 0) = false := by simp [he]
    have hR := (hM R).1 rfl
    rw [if_neg (fun h => he h.1)] at hR
    have HR := Lib.hid hR
    obtain ⟨rfl, rfl⟩ := herr he
    clear hM hR herr
    go_enter Tryz.func119, Tryz.ntmps119
    go_wp2_with fail
    refine Hcall.out.mono ?_
    rintro e w' ⟨rfl, nq, rfl⟩
    simp only [takeVals]
    go_wp2_with fail
    go_ret3
    exact ⟨by rw [← HR.out]; rfl, _, rfl⟩


set_option maxRecDepth 100000 in
set_option maxHeartbeats 1000000 in
theorem rTakeText_spec (w : World) (s : ByteArray) (hs : s.size ≤ maxLen) (most : Int) (hm : most ≤ 9223372036854775807) :
    Calls Tryz.prog 118 #[.string s, .int .i64 most] w fun e w' => e = .returned (takeTVals (takeT s.data.toList most)) ∧ ∃ n, w' = w.drewN n := by
  have hleft := takeM_left s.data.toList most
  have Hcall := Lib.hid (rTakeMost_spec w s hs most hm)
  have hb := takeM_bounds s.data.toList hm
  rw [dsize] at hleft
  unfold maxLen at hs
  have hT : takeT s.data.toList most = (if (takeM s.data.toList most).2.2 ≠ 0 then ([], [], (takeM s.data.toList most).2.2)
    else if ((takeM s.data.toList most).2.1.length : Int) < (takeM s.data.toList most).1 then ([], [], 2)
    else ((takeM s.data.toList most).2.1.take (takeM s.data.toList most).1.toNat, (takeM s.data.toList most).2.1.drop (takeM s.data.toList most).1.toNat, 0)) := rfl
  generalize takeT s.data.toList most = R at hT
  generalize takeM s.data.toList most = r at hleft Hcall hT hb
  obtain ⟨u, rest, er⟩ := r
  simp only at hleft hT hb
  by_cases he : er = 0
  · rw [if_neg (fun h => h he)] at hT
    have he' : (er == 0) = true := by simp [he]
    by_cases hbig : (rest.length : Int) < u
    · rw [if_pos hbig] at hT
      have HT := Lib.hid hT
      have hsz : ((⟨rest.toArray⟩ : ByteArray).size : Int) < u := hbig
      clear hT
      subst he
      go_enter Tryz.func118, Tryz.ntmps118
      go_wp2_with fail
      refine Hcall.out.mono ?_
      rintro e w' ⟨rfl, nq, rfl⟩
      simp only [takeMVals]
      generalize (⟨rest.toArray⟩ : ByteArray) = rs at hsz ⊢
      go_wp2_with fail
      go_ret3
      exact ⟨by rw [HT.out]; rfl, _, rfl⟩
    · rw [if_neg hbig] at hT
      have HT := Lib.hid hT
      obtain ⟨rs, hrs⟩ : ∃ rs : ByteArray, rs = ⟨rest.toArray⟩ := ⟨_, rfl⟩
      have hrl : rs.size = rest.length := by rw [hrs]; rfl
      have hdt : rs.data.toList = rest := by rw [hrs]
      have Hrs := Lib.hid hrs
      clear hrs
      subst he
      clear hT
      go_enter Tryz.func118, Tryz.ntmps118
      go_wp2_with fail
      refine Hcall.out.mono ?_
      rintro e w' ⟨rfl, nq, rfl⟩
      simp only [takeMVals]
      rw [← Hrs.out]
      obtain ⟨k, rfl⟩ : ∃ k : Nat, u = k := ⟨u.toNat, by omega⟩
      have h1 : (k : Int) ≤ (rs.size : Int) := by omega
      have h2 : ¬ ((rs.size : Int) < (k : Int)) := by omega
      have h3 : k ≤ rs.size := by omega
      have Hx := Lib.hid (And.intro (show rs.extract 0 k = ⟨(rest.take k).toArray⟩ from by apply ba_ext; simp [ByteArray.data_extract, List.extract_eq_take_drop, hdt]) (show rs.extract k rs.size = ⟨(rest.drop k).toArray⟩ from by rw [extract_end, hdt]))
      clear hrl hdt hb hbig
      go_wp2_with fail
      go_quiet (fail)
      go_wp2_with fail
      go_ret3
      exact ⟨by rw [HT.out, Hx.out.1, Hx.out.2]; rfl, _, World.drewN_drewN _ _ _⟩
  · rw [if_pos he] at hT
    have he' : (er == 0) = false := by simp [he]
    have HT := Lib.hid hT
    clear hT
    go_enter Tryz.func118, Tryz.ntmps118
    go_wp2_with fail
    refine Hcall.out.mono ?_
    rintro e w' ⟨rfl, nq, rfl⟩
    simp only [takeMVals]
    generalize (⟨rest.toArray⟩ : ByteArray) = rs
    go_wp2_with fail
    go_ret3
    exact ⟨by rw [HT.out]; rfl, _, rfl⟩


/-- A cursor: what is left, the error. -/
def curV (st : Tk) : Value := .agg #[.string ⟨st.1.toArray⟩, .int .i64 st.2]

set_option linter.unusedSimpArgs false in
set_option maxRecDepth 100000 in
set_option maxHeartbeats 1000000 in
theorem rText_spec (w : World) (st : Tk) (hs : st.1.length ≤ maxLen) (most : Int) (hm : most ≤ 9223372036854775807) :
    Calls Tryz.prog 90 #[curV st, .int .i64 most] w fun e w' => e = .returned (.tuple #[curV (tkT st most).2, .string ⟨(tkT st most).1.toArray⟩]) ∧ Keeps [] w w' := by
  obtain ⟨l, er⟩ := st
  obtain ⟨s, hse⟩ : ∃ s : ByteArray, s = ⟨l.toArray⟩ := ⟨_, rfl⟩
  have hsd : s.data.toList = l := by rw [hse]
  have hk : ∀ most, tkT (l, er) most = if er ≠ 0 then ([], (l, er)) else ((takeT l most).1, (takeT l most).2.1, (takeT l most).2.2) := fun _ => rfl
  have hkm := hk most
  rw [show curV (l, er) = .agg #[.string s, .int .i64 er] from by rw [hse]; rfl]
  have n2 := new2 w (.cells #[.string s, .int .i64 er] 178) (.cells #[.string ⟨#[]⟩, .int .i64 0] 178)
  have k2 : Keeps [] w ((w.alloc (.cells #[.string s, .int .i64 er] 178)).alloc (.cells #[.string ⟨#[]⟩, .int .i64 0] 178)) := ((Keeps.refl [] w).alloc _).alloc _
  have HN := Lib.hid (And.intro n2 k2)
  clear n2 k2
  by_cases he : er = 0
  · subst he
    rw [if_neg (fun h => h rfl)] at hkm
    have Ht := Lib.hid (fun w => rTakeText_spec w s (by rw [hse]; exact hs) most hm)
    rw [hsd] at Ht
    generalize takeT l most = r at Ht hkm
    obtain ⟨r1, r2, r3⟩ := r
    have Hk := Lib.hid hkm
    clear hk hkm hse hsd
    go_enter Tryz.func90, Tryz.ntmps90
    go_wp2_with fail
    refine (Ht.out _).mono ?_
    rintro e w2 ⟨rfl, nq, rfl⟩
    simp only [takeTVals]
    go_wp2_with fail
    have t := heap_cell_same (i := 1) (heap_cell_same (w := (((w.alloc (.cells #[.string s, .int .i64 0] 178)).alloc (.cells #[.string ⟨#[]⟩, .int .i64 0] 178)).drewN nq)) (i := 0) HN.out.1.2 (.string ⟨r2.toArray⟩)) (.int .i64 r3)
    have kq : Keeps [] w (((((w.alloc (.cells #[.string s, .int .i64 0] 178)).alloc (.cells #[.string ⟨#[]⟩, .int .i64 0] 178)).drewN nq).setCell ⟨w.heap.size + 1, 0, none⟩ (.string ⟨r2.toArray⟩)).setCell ⟨w.heap.size + 1, 1, none⟩ (.int .i64 r3)) := (((((Keeps.refl [] w).alloc _).alloc _).drewN nq).setCell (.inr (by show w.heap.size ≤ w.heap.size + 1; omega)) _).setCell (.inr (by show w.heap.size ≤ w.heap.size + 1; omega)) _
    generalize ((((w.alloc (.cells #[.string s, .int .i64 0] 178)).alloc (.cells #[.string ⟨#[]⟩, .int .i64 0] 178)).drewN nq).setCell ⟨w.heap.size + 1, 0, none⟩ (.string ⟨r2.toArray⟩)).setCell ⟨w.heap.size + 1, 1, none⟩ (.int .i64 r3) = wz at t kq ⊢
    have t' : wz.heap[w.heap.size + 1]? = some (.cells #[.string ⟨r2.toArray⟩, .int .i64 r3] 178 (0, 0)) := t.trans (by simp)
    have hc := cells_at t'
    have lr := lt_of_at t'
    refine bodyPost_ret (v := .tuple #[.agg #[.string ⟨r2.toArray⟩, .int .i64 r3], .string ⟨r1.toArray⟩]) ?_ rfl ⟨by rw [Hk.out]; rfl, kq⟩
    simp [results, Tryz.results90, go_sem, hc, lr]
  · rw [if_pos he] at hkm
    have he1 : (er != 0) = true := by simp [he]
    have he2 : (er == 0) = false := by simp [he]
    have Hk := Lib.hid hkm
    have Hse := Lib.hid hse
    clear hk hkm hse hsd
    go_enter Tryz.func90, Tryz.ntmps90
    go_wp2_with fail
    have n2 := new2 w (.cells #[.string s, .int .i64 er] 178) (.cells #[.string s, .int .i64 er] 178)
    have kq : Keeps [] w ((w.alloc (.cells #[.string s, .int .i64 er] 178)).alloc (.cells #[.string s, .int .i64 er] 178)) := ((Keeps.refl [] w).alloc _).alloc _
    generalize (w.alloc (.cells #[.string s, .int .i64 er] 178)).alloc (.cells #[.string s, .int .i64 er] 178) = wz at n2 kq ⊢
    have hc := cells_at n2.2
    have lr := lt_of_at n2.2
    refine bodyPost_ret (v := .tuple #[.agg #[.string s, .int .i64 er], .string ⟨#[]⟩]) ?_ rfl ⟨by rw [Hk.out, Hse.out]; rfl, kq⟩
    simp [results, Tryz.results90, go_sem, hc, lr]

set_option linter.unusedSimpArgs false in
set_option maxRecDepth 100000 in
set_option maxHeartbeats 1000000 in
theorem rNum_spec (w : World) (st : Tk) (hs : st.1.length ≤ maxLen) (most : Int) (hm : most ≤ 9223372036854775807) :
    Calls Tryz.prog 91 #[curV st, .int .i64 most] w fun e w' => e = .returned (.tuple #[curV (tkN st most).2, .int .i64 (tkN st most).1]) ∧ Keeps [] w w' := by
  obtain ⟨l, er⟩ := st
  obtain ⟨s, hse⟩ : ∃ s : ByteArray, s = ⟨l.toArray⟩ := ⟨_, rfl⟩
  have hsd : s.data.toList = l := by rw [hse]
  have hk : ∀ most, tkN (l, er) most = if er ≠ 0 then (0, (l, er)) else ((takeM l most).1, (takeM l most).2.1, (takeM l most).2.2) := fun _ => rfl
  have hkm := hk most
  rw [show curV (l, er) = .agg #[.string s, .int .i64 er] from by rw [hse]; rfl]
  have n2 := new2 w (.cells #[.string s, .int .i64 er] 178) (.cells #[.string ⟨#[]⟩, .int .i64 0] 178)
  have k2 : Keeps [] w ((w.alloc (.cells #[.string s, .int .i64 er] 178)).alloc (.cells #[.string ⟨#[]⟩, .int .i64 0] 178)) := ((Keeps.refl [] w).alloc _).alloc _
  have HN := Lib.hid (And.intro n2 k2)
  clear n2 k2
  by_cases he : er = 0
  · subst he
    rw [if_neg (fun h => h rfl)] at hkm
    have Ht := Lib.hid (fun w => rTakeMost_spec w s (by rw [hse]; exact hs) most hm)
    rw [hsd] at Ht
    generalize takeM l most = r at Ht hkm
    obtain ⟨r1, r2, r3⟩ := r
    have Hk := Lib.hid hkm
    clear hk hkm hse hsd
    go_enter Tryz.func91, Tryz.ntmps91
    go_wp2_with fail
    refine (Ht.out _).mono ?_
    rintro e w2 ⟨rfl, nq, rfl⟩
    simp only [takeMVals]
    go_wp2_with fail
    have t := heap_cell_same (i := 1) (heap_cell_same (w := (((w.alloc (.cells #[.string s, .int .i64 0] 178)).alloc (.cells #[.string ⟨#[]⟩, .int .i64 0] 178)).drewN nq)) (i := 0) HN.out.1.2 (.string ⟨r2.toArray⟩)) (.int .i64 r3)
    have kq : Keeps [] w (((((w.alloc (.cells #[.string s, .int .i64 0] 178)).alloc (.cells #[.string ⟨#[]⟩, .int .i64 0] 178)).drewN nq).setCell ⟨w.heap.size + 1, 0, none⟩ (.string ⟨r2.toArray⟩)).setCell ⟨w.heap.size + 1, 1, none⟩ (.int .i64 r3)) := (((((Keeps.refl [] w).alloc _).alloc _).drewN nq).setCell (.inr (by show w.heap.size ≤ w.heap.size + 1; omega)) _).setCell (.inr (by show w.heap.size ≤ w.heap.size + 1; omega)) _
    generalize ((((w.alloc (.cells #[.string s, .int .i64 0] 178)).alloc (.cells #[.string ⟨#[]⟩, .int .i64 0] 178)).drewN nq).setCell ⟨w.heap.size + 1, 0, none⟩ (.string ⟨r2.toArray⟩)).setCell ⟨w.heap.size + 1, 1, none⟩ (.int .i64 r3) = wz at t kq ⊢
    have t' : wz.heap[w.heap.size + 1]? = some (.cells #[.string ⟨r2.toArray⟩, .int .i64 r3] 178 (0, 0)) := t.trans (by simp)
    have hc := cells_at t'
    have lr := lt_of_at t'
    refine bodyPost_ret (v := .tuple #[.agg #[.string ⟨r2.toArray⟩, .int .i64 r3], .int .i64 r1]) ?_ rfl ⟨by rw [Hk.out]; rfl, kq⟩
    simp [results, Tryz.results91, go_sem, hc, lr]
  · rw [if_pos he] at hkm
    have he1 : (er != 0) = true := by simp [he]
    have he2 : (er == 0) = false := by simp [he]
    have Hk := Lib.hid hkm
    have Hse := Lib.hid hse
    clear hk hkm hse hsd
    go_enter Tryz.func91, Tryz.ntmps91
    go_wp2_with fail
    have n2 := new2 w (.cells #[.string s, .int .i64 er] 178) (.cells #[.string s, .int .i64 er] 178)
    have kq : Keeps [] w ((w.alloc (.cells #[.string s, .int .i64 er] 178)).alloc (.cells #[.string s, .int .i64 er] 178)) := ((Keeps.refl [] w).alloc _).alloc _
    generalize (w.alloc (.cells #[.string s, .int .i64 er] 178)).alloc (.cells #[.string s, .int .i64 er] 178) = wz at n2 kq ⊢
    have hc := cells_at n2.2
    have lr := lt_of_at n2.2
    refine bodyPost_ret (v := .tuple #[.agg #[.string s, .int .i64 er], .int .i64 0]) ?_ rfl ⟨by rw [Hk.out, Hse.out]; rfl, kq⟩
    simp [results, Tryz.results91, go_sem, hc, lr]
end Go.Proofs.YtjffdcflkkgpfaaGreat

namespace Go.Proofs.YtjffdcflkkgpfaaGreat

theorem takeL_canon : ∀ {l : List UInt8} {i v m : Nat} {rest : List UInt8}, takeL l i v = (m, rest, 0) → ∃ u, m = v + u * 2 ^ (7 * i) ∧ l = lebL u ++ rest ∧ (0 < i → 0 < u)
  | [], i, v, m, rest, h => by simp [takeL] at h
  | c :: l, i, v, m, rest, h => by
    unfold takeL at h
    split at h
    · simp at h
    · split at h
      · rename_i hc
        split at h
        · simp at h
        · rename_i h0
          simp only [Prod.mk.injEq] at h
          refine ⟨c.toNat, ?_, ?_, ?_⟩
          · rw [← h.1, Nat.mod_eq_of_lt hc]
          · rw [lebL_small hc, ← h.2.1]
            simp
          · intro hi
            omega
      · rename_i hc
        obtain ⟨u, h1, h2, h3⟩ := takeL_canon h
        have hu := h3 (by omega)
        have hcl := UInt8.toNat_lt c
        refine ⟨c.toNat % 128 + 128 * u, ?_, ?_, fun _ => by omega⟩
        · have e : 2 ^ (7 * (i + 1)) = 128 * 2 ^ (7 * i) := by rw [show 7 * (i + 1) = 7 * i + 7 from by omega, Nat.pow_add, Nat.mul_comm]
          rw [h1, e, Nat.add_mul, Nat.mul_assoc 128 u, Nat.mul_left_comm u 128, Nat.add_assoc]
        · rw [lebL_big (by omega), h2]
          have e1 : (c.toNat % 128 + 128 * u) / 128 = u := by omega
          have e2 : (c.toNat % 128 + 128 * u) % 128 + 128 = c.toNat := by omega
          rw [e1, e2]
          simp

theorem takeM_canon {l rest : List UInt8} {most n : Int} (h : takeM l most = (n, rest, 0)) : ∃ u : Nat, n = (u : Int) ∧ l = lebL u ++ rest := by
  unfold takeM at h
  split at h
  · simp at h
  · simp only [Prod.mk.injEq] at h
    obtain ⟨h1, h2, h3⟩ := h
    have hl : takeU l = ((takeU l).1, rest, 0) := by rw [← h2, ← h3]
    obtain ⟨u, e1, e2, -⟩ := takeL_canon (l := l) (i := 0) (v := 0) hl
    have e3 : (takeU l).1 = u := by simpa using e1
    exact ⟨u, by rw [← h1, e3], e2⟩

theorem le4_un4 : ∀ {l : List UInt8}, 4 ≤ l.length → le4 (un4 l) = l.take 4
  | a :: b :: c :: d :: r, _ => by
    have ha := UInt8.toNat_lt a
    have hb := UInt8.toNat_lt b
    have hc := UInt8.toNat_lt c
    have hd := UInt8.toNat_lt d
    simp only [le4, un4, List.getD_cons_zero, List.getD_cons_succ, List.take_succ_cons, List.take_zero]
    have e0 : (a.toNat + 256 * b.toNat + 65536 * c.toNat + 16777216 * d.toNat) % 256 = a.toNat := by omega
    have e1 : (a.toNat + 256 * b.toNat + 65536 * c.toNat + 16777216 * d.toNat) / 256 % 256 = b.toNat := by omega
    have e2 : (a.toNat + 256 * b.toNat + 65536 * c.toNat + 16777216 * d.toNat) / 65536 % 256 = c.toNat := by omega
    have e3 : (a.toNat + 256 * b.toNat + 65536 * c.toNat + 16777216 * d.toNat) / 16777216 % 256 = d.toNat := by omega
    rw [e0, e1, e2, e3]
    simp
  | [], h => by simp at h
  | [_], h => by simp at h
  | [_, _], h => by simp at h
  | [_, _, _], h => by simp at h

/-- Is the record what is read? The bytes that its kind and data make are at the beginning of the text just when its sum is right. -/
theorem frame_is {k : UInt8} {r rest : List UInt8} {u : Nat} (hr : r = lebL u ++ rest) (hlen : 4 + u ≤ rest.length) :
    frameL k ((rest.drop 4).take u) = (k :: r).take (frameL k ((rest.drop 4).take u)).length ↔ moreN 0 (k :: (rest.drop 4).take u) = un4 rest := by
  obtain ⟨d, hd⟩ : ∃ d, d = (rest.drop 4).take u := ⟨_, rfl⟩
  have hdl : d.length = u := by rw [hd, List.length_take, List.length_drop]; omega
  have hsplit : rest = rest.take 4 ++ (d ++ (rest.drop 4).drop u) := by
    rw [hd, List.take_append_drop, List.take_append_drop]
  rw [← hd]
  have hfl : (frameL k d).length = 5 + (lebL u).length + u := by rw [frameL_len, hdl]
  have h4 : (rest.take 4).length = 4 := by rw [List.length_take]; omega
  have htake : (k :: r).take (frameL k d).length = k :: (lebL u ++ (rest.take 4 ++ d)) := by
    rw [hfl, hr, hsplit]
    have e : k :: (lebL u ++ (rest.take 4 ++ (d ++ (rest.drop 4).drop u))) = (k :: (lebL u ++ (rest.take 4 ++ d))) ++ (rest.drop 4).drop u := by simp
    rw [← hsplit]
    conv => lhs; arg 2; rw [hsplit]
    rw [e]
    refine List.take_left' ?_
    simp only [List.length_cons, List.length_append, h4, hdl]
    omega
  rw [htake]
  unfold frameL
  rw [hdl]
  constructor
  · intro h
    injection h with _ h
    have h2 := List.append_cancel_left h
    have h3 : le4 (moreN 0 (k :: d)) = rest.take 4 := (List.append_inj h2 (by rw [h4]; rfl)).1
    have h5 := un4_le4 (rest.drop 4) (moreN_lt 0 (k :: d))
    rw [h3, List.take_append_drop] at h5
    exact h5.symm
  · intro h
    rw [h, le4_un4 (by omega)]
end Go.Proofs.YtjffdcflkkgpfaaGreat

namespace Go.Proofs.YtjffdcflkkgpfaaGreat
open Go Go.RowKit

theorem text_more {x : ByteArray} (h : ¬ x = ⟨#[]⟩) : (x.toList == []) = false ∧ (x.toList != []) = true ∧ ¬ x.toList = [] := by
  have hne : ¬ x.data.toList = [] := fun e => h (ba_ext e)
  have hn1 : (x.toList == []) = false := by rw [ByteArray.toList_eq]; simpa using hne
  exact ⟨hn1, by rw [bne, hn1]; rfl, by rw [ByteArray.toList_eq]; exact hne⟩

set_option linter.unusedSimpArgs false in
set_option maxRecDepth 100000 in
set_option maxHeartbeats 4000000 in
theorem rNext_spec (w : World) (s : ByteArray) (hs : s.size ≤ 1000000) :
    Calls Tryz.prog 116 #[.string s] w (NextPost w (nextF s.data.toList)) := by
  have hd := dsize s
  have q1 := heap_new w (.cells #[.int .u8 0, .string ⟨#[]⟩] 209)
  have k1 := (Keeps.refl [] w).alloc (.cells #[.int .u8 0, .string ⟨#[]⟩] 209)
  cases hl : s.data.toList with
  | nil =>
    have hse : s = ⟨#[]⟩ := ba_ext (by simpa using hl)
    subst hse
    clear hl hd
    go_enter Tryz.func116, Tryz.ntmps116
    go_wp2_with fail
    generalize w.alloc (.cells #[.int .u8 0, .string ⟨#[]⟩] 209) = w1 at q1 k1 ⊢
    have hc := cells_at q1
    have lr := lt_of_at q1
    refine bodyPost_ret (v := .tuple #[.agg #[.int .u8 0, .string ⟨#[]⟩], .string ⟨#[]⟩, .int .i64 2]) ?_ rfl ⟨rfl, k1⟩
    simp [results, Tryz.results116, go_sem, hc, lr]
  | cons k r =>
    rw [hl] at hd
    simp only [List.length_cons] at hd
    obtain ⟨rs, hrs⟩ : ∃ rs : ByteArray, rs = ⟨r.toArray⟩ := ⟨_, rfl⟩
    have hrd : rs.data.toList = r := by rw [hrs]
    have hrl : rs.size = r.length := by rw [hrs]; rfl
    obtain ⟨hn1, hn2, hn3⟩ := text_more (x := s) (fun e => by rw [e] at hl; simp at hl)
    have hx1 : s.extract 1 s.size = rs := by rw [extract_end, hl, hrs]; rfl
    have h1s : (1 : Int) ≤ (s.size : Int) := by omega
    have Hm := Lib.hid (fun w => rTakeMost_spec w rs (by unfold maxLen; omega) 1048576 (by decide))
    rw [hrd] at Hm
    have hbd := takeM_bounds r (most := 1048576) (by decide)
    have herr := @takeM_err r 1048576
    have hN : nextF (k :: r) = (if (takeM r 1048576).2.2 ≠ 0 then (0, [], [], (takeM r 1048576).2.2)
      else if ((takeM r 1048576).2.1.length : Int) < 4 + (takeM r 1048576).1 then (0, [], [], 2)
      else if moreN 0 (k :: ((takeM r 1048576).2.1.drop 4).take (takeM r 1048576).1.toNat) ≠ un4 (takeM r 1048576).2.1 then (0, [], [], 4)
      else (k, ((takeM r 1048576).2.1.drop 4).take (takeM r 1048576).1.toNat, (takeM r 1048576).2.1.drop (4 + (takeM r 1048576).1.toNat), 0)) := rfl
    have hcan := fun n rest (h : takeM r 1048576 = (n, rest, 0)) => takeM_canon h
    generalize nextF (k :: r) = R at hN
    generalize takeM r 1048576 = m at Hm hbd herr hN hcan
    obtain ⟨n, rest, er⟩ := m
    simp only at hbd hN herr
    have Hrs := Lib.hid hrs
    have Hsl := Lib.hid (And.intro hl hd)
    clear hl hd hrs hrd
    by_cases he : er = 0
    · subst he
      obtain ⟨u, rfl, hru⟩ := hcan n rest rfl
      rw [if_neg (fun h => h rfl)] at hN
      obtain ⟨ts, hts⟩ : ∃ ts : ByteArray, ts = ⟨rest.toArray⟩ := ⟨_, rfl⟩
      have htl : ts.size = rest.length := by rw [hts]; rfl
      have htd : ts.data.toList = rest := by rw [hts]
      clear herr hcan
      by_cases hsh : (rest.length : Int) < 4 + (u : Int)
      · rw [if_pos hsh] at hN
        have Hr := Lib.hid hN
        have Hts := Lib.hid hts
        have hsh' : (ts.size : Int) < 4 + (u : Int) := by omega
        clear hN hsh htl hts htd hru
        go_enter Tryz.func116, Tryz.ntmps116
        go_wp2_with fail
        generalize w.alloc (.cells #[.int .u8 0, .string ⟨#[]⟩] 209) = w1 at q1 k1 ⊢
        refine (Hm.out _).mono ?_
        rintro e w2 ⟨rfl, nq, rfl⟩
        simp only [takeMVals]
        rw [← Hts.out]
        have q2 : (w1.drewN nq).heap[w.heap.size]? = _ := q1
        have k2 := k1.drewN nq
        clear q1 k1
        generalize w1.drewN nq = w2 at q2 k2 ⊢
        have t := heap_cell_same (i := 1) (heap_cell_same (i := 0) q2 (.int .u8 0)) (.string ⟨#[]⟩)
        have kq : Keeps [] w ((w2.setCell ⟨w.heap.size, 0, none⟩ (.int .u8 0)).setCell ⟨w.heap.size, 1, none⟩ (.string ⟨#[]⟩)) := (k2.setCell (.inr (Nat.le_refl _)) _).setCell (.inr (Nat.le_refl _)) _
        have Hfin := Lib.hid (And.intro t kq)
        have c2 := cells_at q2
        have f2 := free_at q2
        have l2 := lt_of_at q2
        clear t kq k2 q2
        go_wp2_with fail
        have hc := cells_at Hfin.out.1
        refine bodyPost_ret (v := .tuple #[.agg #[.int .u8 0, .string ⟨#[]⟩], .string ⟨#[]⟩, .int .i64 2]) ?_ rfl ⟨by rw [Hr.out]; rfl, Hfin.out.2⟩
        simp [results, Tryz.results116, go_sem, hc, l2]
      · rw [if_neg hsh] at hN
        have hun : ((u : Int)).toNat = u := by omega
        rw [hun] at hN
        have hlen : 4 + u ≤ rest.length := by omega
        have hfi := frame_is (k := k) hru hlen
        obtain ⟨d, hd2⟩ : ∃ d, d = (rest.drop 4).take u := ⟨_, rfl⟩
        have hdl : d.length = u := by rw [hd2, List.length_take, List.length_drop]; omega
        rw [← hd2] at hN hfi
        obtain ⟨ds, hds⟩ : ∃ ds : ByteArray, ds = ⟨d.toArray⟩ := ⟨_, rfl⟩
        have hdsd : ds.data.toList = d := by rw [hds]
        have hx2 : ts.extract 4 (4 + u) = ds := by
          apply ba_ext
          rw [hdsd, hd2]
          simp only [ByteArray.data_extract, Array.toList_extract, List.extract_eq_take_drop]
          rw [show ts.data.toList = rest from htd]
          congr 1
          omega
        obtain ⟨al, hal⟩ : ∃ al, al = frameL k d := ⟨_, rfl⟩
        have hall : al.length = 5 + (lebL u).length + u := by rw [hal, frameL_len, hdl]
        have hrl2 : r.length = (lebL u).length + rest.length := by rw [hru, List.length_append]
        rw [← hal] at hfi
        obtain ⟨as_, has⟩ : ∃ x : ByteArray, x = ⟨al.toArray⟩ := ⟨_, rfl⟩
        have hasz : as_.size = al.length := by rw [has]; rfl
        have hle : as_.size ≤ s.size := by have := Hsl.out.2; omega
        obtain ⟨ps, hps⟩ : ∃ x : ByteArray, x = s.extract 0 as_.size := ⟨_, rfl⟩
        have hpsd : ps.data.toList = (k :: r).take al.length := by
          rw [hps]
          simp only [ByteArray.data_extract, Array.toList_extract, List.extract_eq_take_drop]
          rw [show s.data.toList = k :: r from Hsl.out.1, hasz]
          simp
        have hs0 : ∀ (h : 0 < s.size), s[0] = k := fun h => by
          have h1 : s.data.toList[0]'(by rw [dsize]; exact h) = k := by simp only [Hsl.out.1, List.getElem_cons_zero]
          exact h1
        have hpos : 0 < s.size := by have := Hsl.out.2; omega
        have hpos' : (0 : Int) < (s.size : Int) := by omega
        have b1 : (4 : Int) + (u : Int) ≤ (ts.size : Int) := by omega
        have hsh' : ¬ (ts.size : Int) < 4 + (u : Int) := by omega
        have hle' : (as_.size : Int) ≤ (s.size : Int) := by omega
        have HN := Lib.hid (And.intro hN (And.intro hfi (And.intro hdsd (And.intro has (And.intro hasz (And.intro hpsd hps))))))
        have Hts := Lib.hid (And.intro hts (And.intro hds hal))
        have Hx := Lib.hid (And.intro hd2 (And.intro hrl2 (And.intro hall (And.intro hru (And.intro htd htl)))))
        clear htl hrl hN hsh hts htd hru hfi hdsd has hpsd hps hds hal hd2 hrl2 hall hlen hdl hun
        go_enter Tryz.func116, Tryz.ntmps116
        go_wp2_with fail
        generalize w.alloc (.cells #[.int .u8 0, .string ⟨#[]⟩] 209) = w1 at q1 k1 ⊢
        refine (Hm.out _).mono ?_
        rintro e w2 ⟨rfl, nq, rfl⟩
        simp only [takeMVals]
        rw [← Hts.out.1]
        have q2 : (w1.drewN nq).heap[w.heap.size]? = _ := q1
        have k2 := k1.drewN nq
        clear q1 k1
        generalize w1.drewN nq = w2 at q2 k2 ⊢
        go_wp2_with fail
        have ha4 : IntKind.i64.wrap ((4 : Int) + (u : Int)) = 4 + (u : Int) := IntWalk.i64_in _ (by omega)
        have ht4 : ((4 : Int) + (u : Int)).toNat = 4 + u := by omega
        have hs0' := hs0 hpos
        go_region
        have kA : Keeps [] w2 ((w2.alloc (.cells #[.int .u8 (k.toNat : Int), .string ds] 209)).drew) := ((Keeps.refl [] w2).alloc _).drew
        have hpne : w.heap.size ≠ w2.heap.size := by have := lt_of_at q2; omega
        have H3 := Lib.hid (And.intro (kA.at_ q2 (by simp)) (And.intro (show ((w2.alloc (.cells #[.int .u8 (k.toNat : Int), .string ds] 209)).drew).heap[w2.heap.size]? = some (.cells #[.int .u8 (k.toNat : Int), .string ds] 209 (0, 0)) from heap_new w2 _) (k2.trans kA)))
        clear kA q2 k2 hs0' ht4 ha4 hs0 hx1 hx2
        generalize (w2.alloc (.cells #[.int .u8 (k.toNat : Int), .string ds] 209)).drew = w3 at H3 ⊢
        generalize w2.heap.size = pb at H3 hpne ⊢
        have cb := cells_at H3.out.2.1
        have lb := lt_of_at H3.out.2.1
        go_wp2_with fail
        refine (bytes2_spec w3 k ds (by have h1 := congrArg List.length HN.out.2.2.1; rw [dsize] at h1; have := Hx.out.2.2.1; have := Hx.out.2.1; have := Hsl.out.2; have h5 := congrArg List.length Hx.out.1; rw [List.length_take, List.length_drop] at h5; omega)).mono ?_
        rintro e w4 ⟨rfl, k4⟩
        rw [HN.out.2.2.1, ← Hts.out.2.2, ← HN.out.2.2.2.1]
        have H4 := Lib.hid (And.intro (k4.at_ H3.out.1 (by simp)) (And.intro (k4.at_ H3.out.2.1 (by simp)) (H3.out.2.2.trans k4)))
        clear k4 cb lb H3
        have hps2 : s.extract 0 as_.size = ps := HN.out.2.2.2.2.2.2.symm
        by_cases hcrc : moreN 0 (k :: d) = un4 rest
        · have hEq : as_ = ps := by
            apply ba_ext
            rw [HN.out.2.2.2.2.2.1, HN.out.2.2.2.1]
            exact HN.out.2.1.2 hcrc
          have HR := Lib.hid (show R = (k, d, List.drop (4 + u) rest, 0) from by rw [HN.out.1, if_neg (fun h => h hcrc)])
          have hbe : (as_.toList != ps.toList) = false := by rw [hEq]; simp
          have hbe2 : (as_.toList == ps.toList) = true := by rw [hEq]; simp
          obtain ⟨bs, hbs⟩ : ∃ bs : ByteArray, bs = s.extract as_.size s.size := ⟨_, rfl⟩
          have hx3 : s.extract as_.size s.size = bs := hbs.symm
          have Hbs := Lib.hid (show bs = ⟨(List.drop (4 + u) rest).toArray⟩ from by
            rw [hbs, extract_end, Hsl.out.1, HN.out.2.2.2.2.1, Hx.out.2.2.1, Hx.out.2.2.2.1]
            have e : 5 + (lebL u).length + u = ((lebL u).length + (4 + u)) + 1 := by omega
            rw [e, List.drop_succ_cons, List.drop_length_add_append])
          have c2 := cells_at H4.out.1
          have f2 := free_at H4.out.1
          have l2 := lt_of_at H4.out.1
          have cb := cells_at H4.out.2.1
          have lb := lt_of_at H4.out.2.1
          clear hbs hcrc hEq hasz
          go_wp2_with fail
          go_region
          have t := heap_cell_same (i := 1) (heap_cell_same (i := 0) H4.out.1 (.int .u8 (k.toNat : Int))) (.string ds)
          have kq : Keeps [] w (((w4.setCell ⟨w.heap.size, 0, none⟩ (.int .u8 (k.toNat : Int))).setCell ⟨w.heap.size, 1, none⟩ (.string ds)).drew) := ((H4.out.2.2.setCell (.inr (Nat.le_refl _)) _).setCell (.inr (Nat.le_refl _)) _).drew
          have t' : (((w4.setCell ⟨w.heap.size, 0, none⟩ (.int .u8 (k.toNat : Int))).setCell ⟨w.heap.size, 1, none⟩ (.string ds)).drew).heap[w.heap.size]? = some (.cells #[.int .u8 (k.toNat : Int), .string ds] 209 (0, 0)) := t.trans (by simp)
          have Hfin := Lib.hid (And.intro t' kq)
          clear t t' kq c2 f2 l2 cb lb H4
          generalize ((w4.setCell ⟨w.heap.size, 0, none⟩ (.int .u8 (k.toNat : Int))).setCell ⟨w.heap.size, 1, none⟩ (.string ds)).drew = wz at Hfin ⊢
          go_wp2_with fail
          have hc := cells_at Hfin.out.1
          have lr := lt_of_at Hfin.out.1
          refine bodyPost_ret (v := .tuple #[.agg #[.int .u8 (k.toNat : Int), .string ds], .string bs, .int .i64 0]) ?_ rfl ⟨by rw [HR.out, Hts.out.2.1, Hbs.out]; rfl, Hfin.out.2⟩
          simp [results, Tryz.results116, go_sem, hc, lr]
        · have hEq : ¬ as_ = ps := fun h => hcrc (HN.out.2.1.1 (by
            have h1 : as_.data.toList = ps.data.toList := by rw [h]
            rw [HN.out.2.2.2.2.2.1, HN.out.2.2.2.1] at h1
            exact h1))
          have hnl : ¬ as_.toList = ps.toList := fun h => hEq (ba_ext (by rw [ByteArray.toList_eq, ByteArray.toList_eq] at h; exact h))
          have HR := Lib.hid (show R = (0, [], [], 4) from by rw [HN.out.1, if_pos hcrc])
          have hbe : (as_.toList != ps.toList) = true := by simpa using hnl
          have hbe2 : (as_.toList == ps.toList) = false := by simpa using hnl
          have t := heap_cell_same (i := 1) (heap_cell_same (i := 0) H4.out.1 (.int .u8 0)) (.string ⟨#[]⟩)
          have kq : Keeps [] w ((w4.setCell ⟨w.heap.size, 0, none⟩ (.int .u8 0)).setCell ⟨w.heap.size, 1, none⟩ (.string ⟨#[]⟩)) := (H4.out.2.2.setCell (.inr (Nat.le_refl _)) _).setCell (.inr (Nat.le_refl _)) _
          have Hfin := Lib.hid (And.intro t kq)
          have c2 := cells_at H4.out.1
          have f2 := free_at H4.out.1
          have l2 := lt_of_at H4.out.1
          clear t kq hcrc hEq hasz
          go_wp2_with fail
          have hc := cells_at Hfin.out.1
          refine bodyPost_ret (v := .tuple #[.agg #[.int .u8 0, .string ⟨#[]⟩], .string ⟨#[]⟩, .int .i64 4]) ?_ rfl ⟨by rw [HR.out]; rfl, Hfin.out.2⟩
          simp [results, Tryz.results116, go_sem, hc, l2]
    · rw [if_pos he] at hN
      have Hr := Lib.hid hN
      have he1 : (er != 0) = true := by simp [he]
      have he2 : (er == 0) = false := by simp [he]
      clear hN hcan
      go_enter Tryz.func116, Tryz.ntmps116
      go_wp2_with fail
      generalize w.alloc (.cells #[.int .u8 0, .string ⟨#[]⟩] 209) = w1 at q1 k1 ⊢
      refine (Hm.out _).mono ?_
      rintro e w2 ⟨rfl, nq, rfl⟩
      simp only [takeMVals]
      have q2 : (w1.drewN nq).heap[w.heap.size]? = _ := q1
      have k2 := k1.drewN nq
      clear q1 k1
      generalize w1.drewN nq = w2 at q2 k2 ⊢
      have t := heap_cell_same (i := 1) (heap_cell_same (i := 0) q2 (.int .u8 0)) (.string ⟨#[]⟩)
      have kq : Keeps [] w ((w2.setCell ⟨w.heap.size, 0, none⟩ (.int .u8 0)).setCell ⟨w.heap.size, 1, none⟩ (.string ⟨#[]⟩)) := (k2.setCell (.inr (Nat.le_refl _)) _).setCell (.inr (Nat.le_refl _)) _
      have Hfin := Lib.hid (And.intro t kq)
      have c2 := cells_at q2
      have f2 := free_at q2
      have l2 := lt_of_at q2
      clear t kq k2 q2
      go_wp2_with fail
      have hc := cells_at Hfin.out.1
      refine bodyPost_ret (v := .tuple #[.agg #[.int .u8 0, .string ⟨#[]⟩], .string ⟨#[]⟩, .int .i64 er]) ?_ rfl ⟨by rw [Hr.out]; rfl, Hfin.out.2⟩
      simp [results, Tryz.results116, go_sem, hc, l2]
end Go.Proofs.YtjffdcflkkgpfaaGreat

namespace Go.Proofs.YtjffdcflkkgpfaaGreat
open Go Go.RowKit

def ROnlyPost (w : World) (r : UInt8 × List UInt8 × List UInt8 × Int) (kind : UInt8) (e : Ending) (w' : World) : Prop := ∃ x : ByteArray, e = .returned (.tuple #[.string x, .int .i64 (onlyE r kind)]) ∧ (onlyE r kind = 0 → x = ⟨r.2.1.toArray⟩) ∧ Keeps [] w w'

set_option linter.unusedSimpArgs false in
set_option maxRecDepth 100000 in
set_option maxHeartbeats 1000000 in
theorem rOnly_spec0 (w : World) (s : ByteArray) (hs : s.size ≤ 1000000) (kind : UInt8) :
    Calls Tryz.prog 88 #[.string s, .int .u8 kind.toNat] w (ROnlyPost w (nextF s.data.toList) kind) := by
  have H := Lib.hid (rNext_spec w s hs)
  generalize nextF s.data.toList = r at H
  obtain ⟨k, dd, rest, er⟩ := r
  obtain ⟨ds, hds⟩ : ∃ s : ByteArray, s = ⟨dd.toArray⟩ := ⟨_, rfl⟩
  obtain ⟨rs, hrs⟩ : ∃ s : ByteArray, s = ⟨rest.toArray⟩ := ⟨_, rfl⟩
  have hrl : rs.size = rest.length := by rw [hrs]; rfl
  have Hd := Lib.hid (And.intro hds hrs)
  clear hds hrs
  by_cases he : er = 0
  · by_cases hr : rest = []
    · obtain ⟨z1, z2⟩ := is_empty (s := rs) (by rw [hrl, hr]; rfl)
      by_cases hk : k = kind
      · have Hc := Lib.hid (show onlyE (k, dd, rest, er) kind = 0 from by unfold onlyE; rw [if_neg (by simp [hr, hk])]; exact he)
        have hkk : ((k.toNat : Int) != (kind.toNat : Int)) = false := by simp [hk]
        have hkk2 : ((k.toNat : Int) == (kind.toNat : Int)) = true := by simp [hk]
        subst he
        subst hk
        clear hr hrl
        go_enter Tryz.func88, Tryz.ntmps88
        go_wp2_with fail
        refine H.out.mono ?_
        rintro e w1 ⟨rfl, hk1⟩
        simp only [nextVals]
        rw [← Hd.out.1, ← Hd.out.2]
        have q2 := heap_new w1 (.cells #[.int .u8 k.toNat, .string ds] 209)
        have hk2 := Lib.hid (hk1.alloc (.cells #[.int .u8 k.toNat, .string ds] 209))
        have c2 := cells_at q2
        have l2 := lt_of_at q2
        clear hk1 q2
        go_wp2_with fail
        go_ret2
        exact ⟨ds, by rw [Hc.out]; rfl, fun _ => Hd.out.1, hk2.out⟩
      · have Hc := Lib.hid (show onlyE (k, dd, rest, er) kind = 3 from by unfold onlyE; rw [if_pos ⟨he, .inr hk⟩])
        have hne : ¬ (k.toNat : Int) = (kind.toNat : Int) := fun e => hk (UInt8.toNat_inj.1 (by omega))
        have hkk : ((k.toNat : Int) != (kind.toNat : Int)) = true := by simpa using hne
        have hkk2 : ((k.toNat : Int) == (kind.toNat : Int)) = false := by simpa using hne
        subst he
        clear hr hrl hk hne
        go_enter Tryz.func88, Tryz.ntmps88
        go_wp2_with fail
        refine H.out.mono ?_
        rintro e w1 ⟨rfl, hk1⟩
        simp only [nextVals]
        rw [← Hd.out.1, ← Hd.out.2]
        have q2 := heap_new w1 (.cells #[.int .u8 k.toNat, .string ds] 209)
        have hk2 := Lib.hid (hk1.alloc (.cells #[.int .u8 k.toNat, .string ds] 209))
        have c2 := cells_at q2
        have l2 := lt_of_at q2
        clear hk1 q2
        go_wp2_with fail
        go_ret2
        exact ⟨⟨#[]⟩, by rw [Hc.out]; rfl, fun h => absurd (Hc.out.symm.trans h) (by decide), hk2.out⟩
    · obtain ⟨z1, z2⟩ := ne_empty (s := rs) (by rw [hrl]; intro e; exact hr (List.eq_nil_of_length_eq_zero e))
      have Hc := Lib.hid (show onlyE (k, dd, rest, er) kind = 3 from by unfold onlyE; rw [if_pos ⟨he, .inl hr⟩])
      subst he
      clear hr hrl
      go_enter Tryz.func88, Tryz.ntmps88
      go_wp2_with fail
      refine H.out.mono ?_
      rintro e w1 ⟨rfl, hk1⟩
      simp only [nextVals]
      rw [← Hd.out.1, ← Hd.out.2]
      have q2 := heap_new w1 (.cells #[.int .u8 k.toNat, .string ds] 209)
      have hk2 := Lib.hid (hk1.alloc (.cells #[.int .u8 k.toNat, .string ds] 209))
      have c2 := cells_at q2
      have l2 := lt_of_at q2
      clear hk1 q2
      go_wp2_with fail
      go_ret2
      exact ⟨⟨#[]⟩, by rw [Hc.out]; rfl, fun h => absurd (Hc.out.symm.trans h) (by decide), hk2.out⟩
  · have Hc := Lib.hid (show onlyE (k, dd, rest, er) kind = er from by unfold onlyE; rw [if_neg (fun h => he h.1)])
    have he2 : (er == 0) = false := by simp [he]
    have he3 : (er != 0) = true := by simp [he]
    clear hrl he
    go_enter Tryz.func88, Tryz.ntmps88
    go_wp2_with fail
    refine H.out.mono ?_
    rintro e w1 ⟨rfl, hk1⟩
    simp only [nextVals]
    rw [← Hd.out.1, ← Hd.out.2]
    have q2 := heap_new w1 (.cells #[.int .u8 k.toNat, .string ds] 209)
    have hk2 := Lib.hid (hk1.alloc (.cells #[.int .u8 k.toNat, .string ds] 209))
    have c2 := cells_at q2
    have l2 := lt_of_at q2
    clear hk1 q2
    go_wp2_with fail
    go_ret2
    exact ⟨ds, by rw [Hc.out]; rfl, fun _ => Hd.out.1, hk2.out⟩


theorem rOnly_spec (w : World) (s : ByteArray) (hs : s.size ≤ 1000000) (kind : UInt8) :
    Calls Tryz.prog 88 #[.string s, .int .u8 kind.toNat] w fun e w' => ∃ x : ByteArray, e = .returned (.tuple #[.string x, .int .i64 (onlyL s.data.toList kind).2]) ∧ ((onlyL s.data.toList kind).2 = 0 → x = ⟨(onlyL s.data.toList kind).1.toArray⟩) ∧ Keeps [] w w' :=
  rOnly_spec0 w s hs kind
end Go.Proofs.YtjffdcflkkgpfaaGreat

namespace Go.Proofs.YtjffdcflkkgpfaaGreat
open Go Go.RowKit
open Go.Op (bytesLess)

/-- A meta's values as they are read, its lists in blocks from B on. -/
def MetaVT (B : Nat) (w : World) (vs : List Value) (m : MetaT) : Prop :=
  ∃ vf vo, vs = [.string ⟨m.id.toArray⟩, .int .i64 m.mn, .int .i64 m.mx, .int .i64 m.level, .int .i64 m.series, .int .i64 m.samples, vf, vo] ∧ SliceFrom B 3 encFileT w vf m.files ∧ SliceFrom B 1 encS1T w vo m.sources

theorem MetaVT.keep {B : Nat} {w w' : World} {vs : List Value} {m : MetaT} {S : List Nat} (h : MetaVT B w vs m) (k : Keeps S w w') (hS : ∀ x ∈ S, x < B) : MetaVT B w' vs m := by
  obtain ⟨vf, vo, e, h1, h2⟩ := h
  exact ⟨vf, vo, e, h1.keep k hS, h2.keep k hS⟩

theorem MetaVT.low {B B' : Nat} {w : World} {vs : List Value} {m : MetaT} (h : MetaVT B w vs m) (hB : B' ≤ B) : MetaVT B' w vs m := by
  obtain ⟨vf, vo, e, h1, h2⟩ := h
  exact ⟨vf, vo, e, h1.low hB, h2.low hB⟩

theorem okT_parts (m : MetaT) : okT m = (saneT m && (match m.files with
    | [(n1, s1, _), (n2, s2, _)] => decide (n1 = chunksB.data.toList) && decide (n2 = indexB.data.toList) && decide (0 ≤ s1) && decide (s1 ≤ 1048576) && decide (0 ≤ s2) && decide (s2 ≤ 1048576)
    | _ => false) && decide (m.sources.length ≤ 50) && m.sources.all (fun s => isIDB s && decide (s ≠ m.id)) && risesT m.sources) := rfl

def sizeOk (z : Int) : Prop := 0 ≤ z ∧ z ≤ 1048576

def RkRel1 (w : World) (s1 s2 : Int) (gk : Nat) (u : Value) (wr : World) : Prop := ∃ k, k ≤ 2 ∧ gk = 2 - k ∧ u = .int .i64 k ∧ (1 ≤ k → sizeOk s1) ∧ (2 ≤ k → sizeOk s2) ∧ Keeps [] w wr

def lastS (S : List (List UInt8)) : Nat → List UInt8
  | 0 => []
  | j + 1 => S[j]?.getD []

def RkRel2 (w : World) (S : List (List UInt8)) (id : List UInt8) (gk : Nat) (u5 u : Value) (wr : World) : Prop := ∃ j, j ≤ S.length ∧ gk = S.length - j ∧ u = .int .i64 j ∧ u5 = .string ⟨(lastS S j).toArray⟩ ∧ (∀ x ∈ S.take j, isIDB x = true ∧ x ≠ id) ∧ (∀ i (_ : i + 1 < S.length), i + 1 < j → bytesLess S[i] S[i + 1] = true) ∧ Keeps [] w wr

set_option linter.unusedSimpArgs false in
set_option maxRecDepth 100000 in
set_option maxHeartbeats 4000000 in
theorem rMetaCheck_spec (B : Nat) (w : World) (vs : List Value) (m : MetaT) (h : MetaVT B w vs m) :
    Calls Tryz.prog 117 #[.agg vs.toArray] w fun e w' => e = .returned (.bool (okT m)) ∧ Keeps [] w w' := by
  obtain ⟨vf, vo, rfl, hf, ho⟩ := h
  have Hf := Lib.hid (And.intro hf ho)
  obtain ⟨af, cf, rfl, -, -, -, -⟩ := hf
  obtain ⟨ao, co, rfl, -, hno, -, -⟩ := ho
  have Hid := Lib.hid (fun W s => rId_spec W s)
  obtain ⟨mb, hmb⟩ : ∃ n, n = w.heap.size := ⟨_, rfl⟩
  have n0 := heap_new w (.cells #[.string ⟨m.id.toArray⟩, .int .i64 m.mn, .int .i64 m.mx, .int .i64 m.level, .int .i64 m.series, .int .i64 m.samples, .slice af m.files.length cf, .slice ao m.sources.length co] 66)
  have k0 : Keeps [] w (w.alloc (.cells #[.string ⟨m.id.toArray⟩, .int .i64 m.mn, .int .i64 m.mx, .int .i64 m.level, .int .i64 m.series, .int .i64 m.samples, .slice af m.files.length cf, .slice ao m.sources.length co] 66)) := (Keeps.refl [] w).alloc _
  rw [← hmb] at n0
  have H0 := Lib.hid (And.intro n0 (And.intro (Hf.out.1.keep k0 (by simp)) (And.intro (Hf.out.2.keep k0 (by simp)) k0)))
  have Hmb := Lib.hid hmb
  clear n0 k0 hmb
  have cb0 := cells_at H0.out.1
  have lb0 := lt_of_at H0.out.1
  go_enter Tryz.func117, Tryz.ntmps117
  go_upto_region 1 with fail
  rw [← Hmb.out]
  generalize w.alloc (.cells #[.string ⟨m.id.toArray⟩, .int .i64 m.mn, .int .i64 m.mx, .int .i64 m.level, .int .i64 m.series, .int .i64 m.samples, .slice af m.files.length cf, .slice ao m.sources.length co] 66) = W0 at H0 cb0 lb0 ⊢
  go_wp2_with fail
  refine (Hid.out _ _).mono ?_
  rintro e w1 ⟨rfl, hk1⟩
  rw [show (⟨m.id.toArray⟩ : ByteArray).data.toList = m.id from rfl]
  clear cb0 lb0
  have H1 := Lib.hid (And.intro (hk1.at_ H0.out.1 (by simp)) (And.intro (H0.out.2.1.keep hk1 (by simp)) (And.intro (H0.out.2.2.1.keep hk1 (by simp)) (H0.out.2.2.2.trans hk1))))
  clear H0 hk1 Hf
  have cb := cells_at H1.out.1
  have lb := lt_of_at H1.out.1
  cases g0 : isIDB m.id with
  | false =>
    have HS := Lib.hid (okT_not (m := m) (by unfold saneT; simp [g0]))
    clear g0
    go_wp2_with fail
    go_ret
    exact ⟨by rw [HS.out]; rfl, H1.out.2.2.2⟩
  | true =>
    by_cases g1 : m.mn < 0
    · have HS := Lib.hid (okT_not (m := m) (by have hh : decide (0 ≤ m.mn) = false := by { rw [decide_eq_false_iff_not]; omega }; unfold saneT; simp [hh]))
      go_wp2_with fail
      go_ret
      exact ⟨by rw [HS.out]; rfl, H1.out.2.2.2⟩
    by_cases g2 : m.mx > 1099511627776
    · have HS := Lib.hid (okT_not (m := m) (by have hh : decide (m.mx ≤ 1099511627776) = false := by { rw [decide_eq_false_iff_not]; omega }; unfold saneT; simp [hh]))
      go_wp2_with fail
      go_ret
      exact ⟨by rw [HS.out]; rfl, H1.out.2.2.2⟩
    by_cases g3 : m.mn ≥ m.mx
    · have HS := Lib.hid (okT_not (m := m) (by have hh : decide (m.mn < m.mx) = false := by { rw [decide_eq_false_iff_not]; omega }; unfold saneT; simp [hh]))
      go_wp2_with fail
      go_ret
      exact ⟨by rw [HS.out]; rfl, H1.out.2.2.2⟩
    by_cases g4 : m.level < 1
    · have HS := Lib.hid (okT_not (m := m) (by have hh : decide (1 ≤ m.level) = false := by { rw [decide_eq_false_iff_not]; omega }; unfold saneT; simp [hh]))
      go_wp2_with fail
      go_ret
      exact ⟨by rw [HS.out]; rfl, H1.out.2.2.2⟩
    by_cases g5 : m.level > 9
    · have HS := Lib.hid (okT_not (m := m) (by have hh : decide (m.level ≤ 9) = false := by { rw [decide_eq_false_iff_not]; omega }; unfold saneT; simp [hh]))
      go_wp2_with fail
      go_ret
      exact ⟨by rw [HS.out]; rfl, H1.out.2.2.2⟩
    by_cases g6 : m.series < 0
    · have HS := Lib.hid (okT_not (m := m) (by have hh : decide (0 ≤ m.series) = false := by { rw [decide_eq_false_iff_not]; omega }; unfold saneT; simp [hh]))
      go_wp2_with fail
      go_ret
      exact ⟨by rw [HS.out]; rfl, H1.out.2.2.2⟩
    by_cases g7 : m.samples < m.series
    · have HS := Lib.hid (okT_not (m := m) (by have hh : decide (m.series ≤ m.samples) = false := by { rw [decide_eq_false_iff_not]; omega }; unfold saneT; simp [hh]))
      go_wp2_with fail
      go_ret
      exact ⟨by rw [HS.out]; rfl, H1.out.2.2.2⟩
    by_cases g8 : m.samples > 1073741824
    · have HS := Lib.hid (okT_not (m := m) (by have hh : decide (m.samples ≤ 1073741824) = false := by { rw [decide_eq_false_iff_not]; omega }; unfold saneT; simp [hh]))
      go_wp2_with fail
      go_ret
      exact ⟨by rw [HS.out]; rfl, H1.out.2.2.2⟩
    have hsane : saneT m = true := by
      unfold saneT
      simp only [g0, Bool.true_and, Bool.and_eq_true, decide_eq_true_eq]
      omega
    by_cases hl2 : m.files.length = 2
    rotate_left
    · have HS := Lib.hid (okT_files (m := m) hl2)
      have hl2' : ¬ (m.files.length : Int) = 2 := by omega
      have hl3 : ((m.files.length : Int) == 2) = false := by rw [beq_eq_false_iff_ne]; omega
      have hl4 : ((m.files.length : Int) != 2) = true := by rw [bne, hl3]; rfl
      go_wp2_with fail
      go_ret
      exact ⟨by rw [HS.out]; rfl, H1.out.2.2.2⟩
    obtain ⟨⟨n1, s1, c1⟩, ⟨n2, s2, c2⟩, hfs⟩ : ∃ f1 f2, m.files = [f1, f2] := by
      match hf : m.files with
      | [f1, f2] => exact ⟨f1, f2, rfl⟩
      | [] => rw [hf] at hl2; simp at hl2
      | [_] => rw [hf] at hl2; simp at hl2
      | _ :: _ :: _ :: _ => rw [hf] at hl2; simp at hl2
    have hrow := H1.out.2.1
    rw [hfs] at hrow
    have Hrow := Lib.hid (show SliceFrom B 3 encFileT w1 (.slice af 2 cf) [(n1, s1, c1), (n2, s2, c2)] from hrow)
    have Hok := Lib.hid (And.intro hsane hfs)
    clear hrow hfs hsane
    obtain ⟨b6, of6, ea, -, hb6, hc6⟩ := Hrow.out.atI 0 (by simp)
    obtain ⟨b6', of6', ea', -, -, hc7⟩ := Hrow.out.atI 1 (by simp)
    subst ea
    injection ea' with ea'
    injection ea' with eb eo _
    subst eb eo
    obtain ⟨nb, hnb⟩ : ∃ b : ByteArray, b = ⟨n1.toArray⟩ := ⟨_, rfl⟩
    obtain ⟨nc, hnc⟩ : ∃ b : ByteArray, b = ⟨n2.toArray⟩ := ⟨_, rfl⟩
    have d0 : w1.cell? ⟨b6, of6, none⟩ = some (.string nb) := by rw [hnb]; exact hc6 0 (by decide)
    have d3 : w1.cell? ⟨b6, of6 + 3, none⟩ = some (.string nc) := by rw [hnc]; exact hc7 0 (by decide)
    have hnd : nb.data.toList = n1 := by rw [hnb]
    have hne : nc.data.toList = n2 := by rw [hnc]
    have Hnd := Lib.hid (And.intro hnd hne)
    have hl3 : ((m.files.length : Int) == 2) = true := by rw [beq_iff_eq]; omega
    have hl4 : ((m.files.length : Int) != 2) = false := by rw [bne, hl3]; rfl
    rw [hl2] at cb ⊢
    clear hl2 hl3 hl4 hc6 hc7 hnb hnc hnd hne
    by_cases hn : n1 = chunksB.data.toList
    rotate_left
    · have HS := Lib.hid (okT_bad Hok.out.2 (fun h => hn h.1.1))
      have hse : (nb.toList == [99, 104, 117, 110, 107, 115]) = false := by rw [ByteArray.toList_eq, Hnd.out.1, beq_eq_false_iff_ne]; exact fun e => hn (e.trans (by decide))
      have hse2 : (nb.toList != [99, 104, 117, 110, 107, 115]) = true := by rw [bne, hse]; rfl
      clear hn
      go_wp2_with fail
      go_ret
      exact ⟨by rw [HS.out]; rfl, H1.out.2.2.2⟩
    have hse : (nb.toList == [99, 104, 117, 110, 107, 115]) = true := by rw [ByteArray.toList_eq, Hnd.out.1, hn]; decide
    have hse2 : (nb.toList != [99, 104, 117, 110, 107, 115]) = false := by rw [bne, hse]; rfl
    by_cases hn2 : n2 = indexB.data.toList
    rotate_left
    · have HS := Lib.hid (okT_bad Hok.out.2 (fun h => hn2 h.2.1))
      have hsf : (nc.toList == [105, 110, 100, 101, 120]) = false := by rw [ByteArray.toList_eq, Hnd.out.2, beq_eq_false_iff_ne]; exact fun e => hn2 (e.trans (by decide))
      have hsf2 : (nc.toList != [105, 110, 100, 101, 120]) = true := by rw [bne, hsf]; rfl
      clear hn hn2
      go_wp2_with fail
      go_ret
      exact ⟨by rw [HS.out]; rfl, H1.out.2.2.2⟩
    have hsf : (nc.toList == [105, 110, 100, 101, 120]) = true := by rw [ByteArray.toList_eq, Hnd.out.2, hn2]; decide
    have hsf2 : (nc.toList != [105, 110, 100, 101, 120]) = false := by rw [bne, hsf]; rfl
    by_cases hs50 : m.sources.length ≤ 50
    rotate_left
    · have HS := Lib.hid (okT_many (m := m) hs50)
      have hs5 : (m.sources.length : Int) > 50 := by omega
      clear hn hn2
      go_wp2_with fail
      go_ret
      exact ⟨by rw [HS.out]; rfl, H1.out.2.2.2⟩
    have hs51 : ¬ (m.sources.length : Int) > 50 := by omega
    have hs52 : ¬ 50 < m.sources.length := by omega
    have hs53 : decide (50 < m.sources.length) = false := by rw [decide_eq_false_iff_not]; omega
    have Hn := Lib.hid (And.intro hn (And.intro hn2 hs50))
    clear hn hn2
    go_wp2_with fail
    clear g0 g1 g2 g3 g4 g5 g6 g7 g8 d0 d3 hse hse2 hsf hsf2
    go_loopg [85] 2 (RkRel1 w1 s1 s2)
    case atStart => exact ⟨0, by decide, rfl, rfl, fun h => absurd h (by decide), fun h => absurd h (by decide), Keeps.refl _ _⟩
    case round =>
      obtain ⟨k, hk, hgk, rfl, hf1, hf2, hkr⟩ := hrel
      have Hg := Lib.hid (And.intro hgk (And.intro hf1 hf2))
      clear hgk hf1 hf2 cb lb
      rcases (by omega : k = 0 ∨ k = 1 ∨ k = 2) with rfl | rfl | rfl
      · obtain ⟨bx, ox, ea, -, hbx, hcx⟩ := (Hrow.out.keep hkr (by simp)).atI 0 (by simp)
        injection ea with ea
        injection ea with eb eo _
        subst eb eo
        obtain ⟨nb, hnb⟩ : ∃ b : ByteArray, b = ⟨n1.toArray⟩ := ⟨_, rfl⟩
        have d0 : wr.cell? ⟨b6, of6, none⟩ = some (.string nb) := by rw [hnb]; exact hcx 0 (by decide)
        have d1 : wr.cell? ⟨b6, of6 + 1, none⟩ = some (.int .i64 s1) := hcx 1 (by decide)
        have d2 : wr.cell? ⟨b6, of6 + 2, none⟩ = some (.int .u32 c1) := hcx 2 (by decide)
        clear hcx hnb
        have kr2 : Keeps [] wr (wr.alloc (.cells #[.string nb, .int .i64 s1, .int .u32 c1] 170)) := (Keeps.refl [] wr).alloc _
        have nr2 := heap_new wr (.cells #[.string nb, .int .i64 s1, .int .u32 c1] 170)
        have Hk := Lib.hid (hkr.trans kr2)
        clear kr2 hkr
        go_upto_region 8 with fail
        clear d0 d1 d2
        generalize wr.alloc (.cells #[.string nb, .int .i64 s1, .int .u32 c1] 170) = W2 at nr2 Hk ⊢
        generalize wr.heap.size = bx at nr2 ⊢
        have cx := cells_at nr2
        have lx := lt_of_at nr2
        by_cases hz0 : s1 < 0
        · have HS := Lib.hid (okT_bad Hok.out.2 (fun h => by have := h.1.2.1; omega))
          go_wp2_with fail
          go_ret
          exact ⟨by rw [HS.out]; rfl, H1.out.2.2.2.trans Hk.out⟩
        by_cases hz1 : s1 > 1048576
        · have HS := Lib.hid (okT_bad Hok.out.2 (fun h => by have := h.1.2.2; omega))
          go_wp2_with fail
          go_ret
          exact ⟨by rw [HS.out]; rfl, H1.out.2.2.2.trans Hk.out⟩
        have Hok1 := Lib.hid (show sizeOk s1 from ⟨by omega, by omega⟩)
        go_wp2_with fail
        go_roundg (2 - 1)
        case measure => have := Hg.out.1; omega
        case rel => exact ⟨1, by decide, rfl, rfl, fun _ => Hok1.out, fun h => absurd h (by decide), Hk.out⟩
      · obtain ⟨bx, ox, ea, -, hbx, hcx⟩ := (Hrow.out.keep hkr (by simp)).atI 1 (by simp)
        injection ea with ea
        injection ea with eb eo _
        subst eb eo
        obtain ⟨nb, hnb⟩ : ∃ b : ByteArray, b = ⟨n2.toArray⟩ := ⟨_, rfl⟩
        have d0 : wr.cell? ⟨b6, of6 + 3, none⟩ = some (.string nb) := by rw [hnb]; exact hcx 0 (by decide)
        have d1 : wr.cell? ⟨b6, of6 + 3 + 1, none⟩ = some (.int .i64 s2) := hcx 1 (by decide)
        have d2 : wr.cell? ⟨b6, of6 + 3 + 2, none⟩ = some (.int .u32 c2) := hcx 2 (by decide)
        clear hcx hnb
        have kr2 : Keeps [] wr (wr.alloc (.cells #[.string nb, .int .i64 s2, .int .u32 c2] 170)) := (Keeps.refl [] wr).alloc _
        have nr2 := heap_new wr (.cells #[.string nb, .int .i64 s2, .int .u32 c2] 170)
        have Hk := Lib.hid (hkr.trans kr2)
        clear kr2 hkr
        go_upto_region 8 with fail
        clear d0 d1 d2
        generalize wr.alloc (.cells #[.string nb, .int .i64 s2, .int .u32 c2] 170) = W2 at nr2 Hk ⊢
        generalize wr.heap.size = bx at nr2 ⊢
        have cx := cells_at nr2
        have lx := lt_of_at nr2
        by_cases hz0 : s2 < 0
        · have HS := Lib.hid (okT_bad Hok.out.2 (fun h => by have := h.2.2.1; omega))
          go_wp2_with fail
          go_ret
          exact ⟨by rw [HS.out]; rfl, H1.out.2.2.2.trans Hk.out⟩
        by_cases hz1 : s2 > 1048576
        · have HS := Lib.hid (okT_bad Hok.out.2 (fun h => by have := h.2.2.2; omega))
          go_wp2_with fail
          go_ret
          exact ⟨by rw [HS.out]; rfl, H1.out.2.2.2.trans Hk.out⟩
        have Hok1 := Lib.hid (show sizeOk s2 from ⟨by omega, by omega⟩)
        go_wp2_with fail
        go_roundg (2 - 2)
        case measure => have := Hg.out.1; omega
        case rel => exact ⟨2, by decide, rfl, rfl, fun _ => Hg.out.2.1 (by decide), fun _ => Hok1.out, Hk.out⟩
      · have HF := Lib.hid (And.intro (Hg.out.2.1 (by decide)) (Hg.out.2.2 (by decide)))
        have He := Lib.hid hkr
        have nb := hkr.at_ H1.out.1 (by simp)
        have cb := cells_at nb
        have lb := lt_of_at nb
        clear hkr nb Hg
        go_wp2_with fail
        clear cb lb
        go_loopg [5, 101] m.sources.length (RkRel2 w1 m.sources m.id)
        case atStart => exact ⟨0, Nat.zero_le _, rfl, rfl, rfl, by simp, fun i _ h => absurd h (by omega), He.out⟩
        case round =>
          obtain ⟨j, hj, hgj, rfl, rfl, hall, hris, hkj⟩ := hrel
          have Hgj := Lib.hid (And.intro hgj (And.intro hall hris))
          clear hgj He hall hris
          by_cases hlt : j < m.sources.length
          · obtain ⟨b7, of7, ea, -, hb7, hc7⟩ := (H1.out.2.2.1.keep hkj (by simp)).atI j hlt
            subst ea
            have hj1 := List.take_succ_eq_append_getElem hlt
            have hmem : m.sources[j] ∈ m.sources := List.getElem_mem hlt
            have d7 : wr.cell? ⟨b7, of7 + j, none⟩ = some (.string ⟨m.sources[j].toArray⟩) := by simpa [encS1T] using hc7 0 (by decide)
            have hlt' : (j : Int) < (m.sources.length : Int) := by omega
            obtain ⟨sb, hsb⟩ : ∃ b : ByteArray, b = ⟨m.sources[j].toArray⟩ := ⟨_, rfl⟩
            have hsd : sb.data.toList = m.sources[j] := by rw [hsb]
            rw [← hsb] at d7
            have hls : (⟨(lastS m.sources (j + 1)).toArray⟩ : ByteArray) = sb := by
              rw [hsb]
              show (⟨(m.sources[j]?.getD []).toArray⟩ : ByteArray) = _
              rw [List.getElem?_eq_getElem hlt]
              rfl
            obtain ⟨lb0, hlb0⟩ : ∃ b : ByteArray, b = ⟨(lastS m.sources j).toArray⟩ := ⟨_, rfl⟩
            have hlbd : lb0.data.toList = lastS m.sources j := by rw [hlb0]
            rw [← hlb0]
            have Hsd := Lib.hid (And.intro hsd (And.intro hls hlbd))
            have Hkj := Lib.hid (And.intro hkj hj1)
            clear hc7 hsb hsd hj1 hls hlb0 hlbd hkj
            go_wp2_with fail
            refine (Hid.out _ _).mono ?_
            rintro e w3 ⟨rfl, hk3⟩
            rw [Hsd.out.1]
            have hk13 := Hkj.out.1.trans hk3
            have nb := hk13.at_ H1.out.1 (by simp)
            have cb := cells_at nb
            have lb := lt_of_at nb
            have Hk3 := Lib.hid hk13
            clear nb hk3 hk13 d7
            cases hid : isIDB m.sources[j] with
            | false =>
              have HS := Lib.hid (okT_one hmem (fun h => by rw [hid] at h; exact absurd h.1 (by simp)))
              clear hid hmem
              go_wp2_with fail
              go_ret
              exact ⟨by rw [HS.out]; rfl, H1.out.2.2.2.trans Hk3.out⟩
            | true =>
              obtain ⟨ib, hib⟩ : ∃ b : ByteArray, b = ⟨m.id.toArray⟩ := ⟨_, rfl⟩
              have hibd : ib.data.toList = m.id := by rw [hib]
              rw [← hib] at cb
              clear hib
              by_cases hne : m.sources[j] = m.id
              · have HS := Lib.hid (okT_one hmem (fun h => h.2 hne))
                have hbe : (sb.toList == ib.toList) = true := by rw [ByteArray.toList_eq, ByteArray.toList_eq, Hsd.out.1, hne, hibd]; simp
                clear hid hmem hne hibd
                go_wp2_with fail
                go_ret
                exact ⟨by rw [HS.out]; rfl, H1.out.2.2.2.trans Hk3.out⟩
              have hbe : (sb.toList == ib.toList) = false := by rw [ByteArray.toList_eq, ByteArray.toList_eq, Hsd.out.1, hibd]; simpa using hne
              have Hone := Lib.hid (show ∀ x ∈ m.sources.take (j + 1), isIDB x = true ∧ x ≠ m.id from fun x hx => by
                rw [Hkj.out.2] at hx
                rcases List.mem_append.1 hx with hx | hx
                · exact Hgj.out.2.1 x hx
                · obtain rfl := List.mem_singleton.1 hx
                  exact ⟨hid, hne⟩)
              obtain ⟨gb, hgb⟩ : ∃ g, g = (bytesLess sb.toList lb0.toList || sb.toList == lb0.toList) := ⟨_, rfl⟩
              have hgq : (bytesLess sb.toList lb0.toList || sb.toList == lb0.toList) = gb := hgb.symm
              have hls2 : bytesLess lb0.toList sb.toList = !gb := by rw [less_triG, hgb]
              have hless : bytesLess (lastS m.sources j) m.sources[j] = !gb := by rw [← hls2, ByteArray.toList_eq, ByteArray.toList_eq, Hsd.out.1, Hsd.out.2.2]
              have h16 := (isID_signs hid).1
              have Hless := Lib.hid (And.intro hless h16)
              clear hid hne hibd hmem hgb hless h16
              cases gb with
              | true =>
                simp only [Bool.not_true] at hls2
                have HS := Lib.hid (show okT m = false from by
                  have h := Hless.out.1
                  have h16 := Hless.out.2
                  rcases j with _ | i
                  · unfold lastS at h
                    cases hx : m.sources[0] with
                    | nil => rw [hx] at h16; simp at h16
                    | cons a l => rw [hx] at h; simp [bytesLess] at h
                  · refine okT_fall (i := i) hlt ?_
                    change bytesLess (m.sources[i]?.getD []) _ = _ at h
                    rw [List.getElem?_eq_getElem (by omega)] at h
                    simpa using h)
                go_wp2_with fail
                go_ret
                exact ⟨by rw [HS.out]; rfl, H1.out.2.2.2.trans Hk3.out⟩
              | false =>
                simp only [Bool.not_false] at hls2
                go_wp2_with fail
                go_roundg (m.sources.length - (j + 1))
                case measure => have := Hgj.out.1; omega
                case rel => exact ⟨j + 1, by omega, rfl, by go_num, by rw [Hsd.out.2.1], Hone.out, fun q hq h => by
                  by_cases e : q + 1 = j
                  · subst e
                    have h := Hless.out.1
                    change bytesLess (m.sources[q]?.getD []) _ = _ at h
                    rw [List.getElem?_eq_getElem (by omega)] at h
                    simpa using h
                  · exact Hgj.out.2.2 q hq (by omega), Hk3.out⟩
          · have hjn : j = m.sources.length := by omega
            have HS := Lib.hid (okT_yes Hok.out.1 Hok.out.2 ⟨Hn.out.1, HF.out.1⟩ ⟨Hn.out.2.1, HF.out.2⟩ Hn.out.2.2 (fun x hx => Hgj.out.2.1 x (by rw [hjn, List.take_length]; exact hx)) (risesT_of fun i hi => Hgj.out.2.2 i hi (by omega)))
            have He := Lib.hid hkj
            have hge : ¬ (j : Int) < (m.sources.length : Int) := by omega
            clear hkj hjn
            go_wp2_with fail
            go_ret
            exact ⟨by rw [HS.out]; rfl, H1.out.2.2.2.trans He.out⟩
end Go.Proofs.YtjffdcflkkgpfaaGreat

namespace Go.Proofs.YtjffdcflkkgpfaaGreat
open Go Go.RowKit

def rTakeR (F : MetaT × Tk) : Option (MetaT × List UInt8) := if F.2.2 ≠ 0 ∨ okT F.1 = false then none else some (F.1, F.2.1)

def zeroT : Value := .agg #[.string ⟨#[]⟩, .int .i64 0, .int .i64 0, .int .i64 0, .int .i64 0, .int .i64 0, .slice none 0 0, .slice none 0 0]

def MetaQT (base : Nat) (w : World) (vs : List Value) (m : MetaT) : Prop :=
  ∃ vf vo, vs = [.string ⟨m.id.toArray⟩, .int .i64 m.mn, .int .i64 m.mx, .int .i64 m.level, .int .i64 m.series, .int .i64 m.samples, vf, vo] ∧ w.ownsRow base 170 3 vf m.files.length (m.files.flatMap encFileT) ∧ w.ownsRow base 9 1 vo m.sources.length (m.sources.flatMap encS1T)

theorem MetaQT.same {base : Nat} {w w' : World} {vs : List Value} {m : MetaT} (h : MetaQT base w vs m) (k : Keeps [] w w') : MetaQT base w' vs m := by
  obtain ⟨vf, vo, e, h1, h2⟩ := h
  exact ⟨vf, vo, e, k.row h1 (by simp), k.row h2 (by simp)⟩

theorem MetaQT.low {B B' : Nat} {w : World} {vs : List Value} {m : MetaT} (h : MetaQT B w vs m) (hB : B' ≤ B) : MetaQT B' w vs m := by
  obtain ⟨vf, vo, e, h1, h2⟩ := h
  exact ⟨vf, vo, e, row_base h1 hB, row_base h2 hB⟩

theorem MetaQT.out {base b : Nat} {w w' : World} {vs : List Value} {m : MetaT} {cs : Array Value} {z : Nat × Nat} (h : MetaQT base w vs m) (k : Keeps [b] w w') (hb : w.heap[b]? = some (.cells cs 66 z)) : MetaQT base w' vs m := by
  obtain ⟨vf, vo, e, h1, h2⟩ := h
  exact ⟨vf, vo, e, k.row h1 (fun g hg => by have := row_ne_type h1 hb (by decide) g hg; simpa using this), k.row h2 (fun g hg => by have := row_ne_type h2 hb (by decide) g hg; simpa using this)⟩

def RTakeNo (w : World) (e : Ending) (w' : World) : Prop := ∃ c : Int, c ≠ 0 ∧ e = .returned (.tuple #[zeroT, .string ⟨#[]⟩, .int .i64 c]) ∧ Keeps [] w w'

def RTakeYes (w : World) (m : MetaT) (l : List UInt8) (e : Ending) (w' : World) : Prop := ∃ vs, e = .returned (.tuple #[.agg vs.toArray, .string ⟨l.toArray⟩, .int .i64 0]) ∧ MetaQT w.heap.size w' vs m ∧ Keeps [] w w'

def RTakePost (w : World) (r : Option (MetaT × List UInt8)) (e : Ending) (w' : World) : Prop := match r with
  | none => RTakeNo w e w'
  | some p => RTakeYes w p.1 p.2 e w'

theorem set2c {w : World} {p : Nat} {t : TypeId} {a0 a1 v0 v1 : Value} {z : Nat × Nat} (h : w.heap[p]? = some (.cells #[a0, a1] t z)) :
    ((w.setCell ⟨p, 0, none⟩ v0).setCell ⟨p, 1, none⟩ v1).heap[p]? = some (.cells #[v0, v1] t z) ∧ Keeps [p] w ((w.setCell ⟨p, 0, none⟩ v0).setCell ⟨p, 1, none⟩ v1) := by
  have h0 := heap_cell_same (i := 0) h v0
  have h1 := heap_cell_same (i := 1) h0 v1
  exact ⟨h1.trans (by simp), ((Keeps.refl [p] w).setCell (.inl (by simp)) v0).setCell (.inl (by simp)) v1⟩

def RkT1 (w : World) (rb mb cb : Nat) (x0 : List UInt8) (x1 x2 x3 x4 x5 : Int) (s6 : Tk) (gk : Nat) (u : Value) (wr : World) : Prop :=
  ∃ k vf, k ≤ 2 ∧ gk = 2 - k ∧ u = .int .i64 k ∧ wr.heap[cb]? = some (.cells #[.string ⟨(fileSt s6 k).2.1.toArray⟩, .int .i64 (fileSt s6 k).2.2] 178 (0, 0)) ∧ wr.heap[rb]? = some (.cells #[.string ⟨#[]⟩, .int .i64 0, .int .i64 0, .int .i64 0, .int .i64 0, .int .i64 0, .slice none 0 0, .slice none 0 0] 66 (0, 0)) ∧ wr.heap[mb]? = some (.cells #[.string ⟨x0.toArray⟩, .int .i64 x1, .int .i64 x2, .int .i64 x3, .int .i64 x4, .int .i64 x5, vf, .slice none 0 0] 66 (0, 0)) ∧ wr.ownsRow (w.heap.size + 2) 170 3 vf k ((fileSt s6 k).1.flatMap encFileT) ∧ Keeps [] w wr

def RkT2 (w : World) (rb mb cb : Nat) (x0 : List UInt8) (x1 x2 x3 x4 x5 : Int) (vf : Value) (FL : List (List UInt8 × Int × Int)) (s8 : Tk) (n : Nat) (gk : Nat) (u : Value) (wr : World) : Prop :=
  ∃ k vo, k ≤ n ∧ gk = n - k ∧ u = .int .i64 k ∧ wr.heap[cb]? = some (.cells #[.string ⟨(srcSt s8 k).2.1.toArray⟩, .int .i64 (srcSt s8 k).2.2] 178 (0, 0)) ∧ wr.heap[rb]? = some (.cells #[.string ⟨#[]⟩, .int .i64 0, .int .i64 0, .int .i64 0, .int .i64 0, .int .i64 0, .slice none 0 0, .slice none 0 0] 66 (0, 0)) ∧ wr.heap[mb]? = some (.cells #[.string ⟨x0.toArray⟩, .int .i64 x1, .int .i64 x2, .int .i64 x3, .int .i64 x4, .int .i64 x5, vf, vo] 66 (0, 0)) ∧ wr.ownsRow (w.heap.size + 2) 170 3 vf 2 (FL.flatMap encFileT) ∧
    wr.ownsRow (w.heap.size + 2) 9 1 vo (srcSt s8 k).1.length ((srcSt s8 k).1.flatMap encS1T) ∧ Keeps [] w wr


set_option linter.unusedSimpArgs false in
set_option maxRecDepth 100000 in
set_option maxHeartbeats 4000000 in
theorem rTake_spec (w : World) (s : ByteArray) (hz : s.size ≤ 1000000000) :
    Calls Tryz.prog 89 #[.string s] w (RTakePost w (rTakeR (fieldsT (s.data.toList, 0)))) := by
  obtain ⟨ifl, hif, hzf0, hzf1, hzf2⟩ := info_parts infoFile9
  obtain ⟨ist, his, hzs0, hzs1, hzs2⟩ := info_parts infoStrM
  obtain ⟨R, hR⟩ : ∃ R, R = rTakeR (fieldsT (s.data.toList, 0)) := ⟨_, rfl⟩
  have HR := Lib.hid hR
  rw [← hR]
  clear hR
  have hl0 : s.data.toList.length ≤ 1000000000 := by rw [dsize]; exact hz
  have hse : s = ⟨s.data.toList.toArray⟩ := ba_ext rfl
  obtain ⟨l0, hl⟩ : ∃ l, l = s.data.toList := ⟨_, rfl⟩
  rw [← hl] at hse hl0
  have Ht := Lib.hid (fun W => by
    have h := rText_spec W (l0, 0) (by unfold maxLen; simp only; omega) 16 (by decide)
    rw [show curV (l0, 0) = .agg #[.string s, .int .i64 0] from by rw [hse]; rfl] at h
    exact h)
  have HL := Lib.hid hl
  obtain ⟨rb, hrb⟩ : ∃ n, n = w.heap.size := ⟨_, rfl⟩
  obtain ⟨mb, hmb⟩ : ∃ n, n = w.heap.size + 1 := ⟨_, rfl⟩
  have n0 := new2 w (.cells #[.string ⟨#[]⟩, .int .i64 0, .int .i64 0, .int .i64 0, .int .i64 0, .int .i64 0, .slice none 0 0, .slice none 0 0] 66) (.cells #[.string ⟨#[]⟩, .int .i64 0, .int .i64 0, .int .i64 0, .int .i64 0, .int .i64 0, .slice none 0 0, .slice none 0 0] 66)
  have k0 : Keeps [] w ((w.alloc (.cells #[.string ⟨#[]⟩, .int .i64 0, .int .i64 0, .int .i64 0, .int .i64 0, .int .i64 0, .slice none 0 0, .slice none 0 0] 66)).alloc (.cells #[.string ⟨#[]⟩, .int .i64 0, .int .i64 0, .int .i64 0, .int .i64 0, .int .i64 0, .slice none 0 0, .slice none 0 0] 66)) := ((Keeps.refl [] w).alloc _).alloc _
  have hz0 : ((w.alloc (.cells #[.string ⟨#[]⟩, .int .i64 0, .int .i64 0, .int .i64 0, .int .i64 0, .int .i64 0, .slice none 0 0, .slice none 0 0] 66)).alloc (.cells #[.string ⟨#[]⟩, .int .i64 0, .int .i64 0, .int .i64 0, .int .i64 0, .int .i64 0, .slice none 0 0, .slice none 0 0] 66)).heap.size = w.heap.size + 2 := by simp
  have hw0 : w.heap.size ≤ rb ∧ w.heap.size ≤ mb ∧ w.heap.size + 1 ≤ mb ∧ rb ≠ mb ∧ rb < w.heap.size + 2 ∧ mb < w.heap.size + 2 := by omega
  have HB := Lib.hid (And.intro hrb hmb)
  have H0 := Lib.hid (And.intro n0.1 (And.intro n0.2 (And.intro k0 hz0)))
  clear hrb hmb n0 k0 hse hl hz hz0
  go_enter Tryz.func89, Tryz.ntmps89
  go_wp2_with fail
  rw [← HB.out.2] at H0 ⊢
  rw [← HB.out.1] at H0 ⊢
  generalize (w.alloc (.cells #[.string ⟨#[]⟩, .int .i64 0, .int .i64 0, .int .i64 0, .int .i64 0, .int .i64 0, .slice none 0 0, .slice none 0 0] 66)).alloc (.cells #[.string ⟨#[]⟩, .int .i64 0, .int .i64 0, .int .i64 0, .int .i64 0, .int .i64 0, .slice none 0 0, .slice none 0 0] 66) = W at H0 ⊢
  refine (Ht.out _).mono ?_
  rintro e wa0 ⟨rfl, hk⟩
  have hleft := tkT_left (l0, 0) 16
  obtain ⟨A0, hA⟩ : ∃ A, A = tkT (l0, 0) 16 := ⟨_, rfl⟩
  rw [← hA] at hleft ⊢
  have HA0 := Lib.hid hA
  clear hA
  obtain ⟨x0, l1, e1⟩ := A0
  dsimp only at hleft ⊢
  have hl1 : l1.length ≤ 1000000000 := by omega
  simp only [curV]
  have ka : Keeps [] wa0 (wa0.alloc (.cells #[.string ⟨l1.toArray⟩, .int .i64 e1] 178)) := (Keeps.refl [] wa0).alloc _
  have na := heap_new wa0 (.cells #[.string ⟨l1.toArray⟩, .int .i64 e1] 178)
  obtain ⟨cb, hcb⟩ : ∃ n, n = wa0.heap.size := ⟨_, rfl⟩
  have hcn : cb ≠ rb ∧ cb ≠ mb ∧ w.heap.size ≤ cb := by have := hk.size; have := H0.out.2.2.2; omega
  rw [← hcb] at na
  have HC := Lib.hid hcb
  have H1 := Lib.hid (And.intro na (And.intro (ka.at_ (hk.at_ H0.out.1 (by simp)) (by simp)) (And.intro (ka.at_ (hk.at_ H0.out.2.1 (by simp)) (by simp)) ((H0.out.2.2.1.trans hk).trans ka))))
  clear hk ka na hcb hleft H0 Ht
  go_upto_region 3 with fail
  rw [← HC.out]
  clear HC
  generalize wa0.alloc (.cells #[.string ⟨l1.toArray⟩, .int .i64 e1] 178) = wb0 at H1 ⊢
  have cm := cells_at H1.out.2.2.1
  have fm := free_at H1.out.2.2.1
  have lm := lt_of_at H1.out.2.2.1
  have nm2 : (wb0.setCell ⟨mb, 0, none⟩ (.string ⟨x0.toArray⟩)).heap[mb]? = some (.cells #[.string ⟨x0.toArray⟩, .int .i64 0, .int .i64 0, .int .i64 0, .int .i64 0, .int .i64 0, .slice none 0 0, .slice none 0 0] 66 (0, 0)) := (heap_cell_same (i := 0) (H1.out.2.2.1) (.string ⟨x0.toArray⟩)).trans (by simp)
  have k2 : Keeps [mb] wb0 (wb0.setCell ⟨mb, 0, none⟩ (.string ⟨x0.toArray⟩)) := (((Keeps.refl [mb] wb0)).setCell (.inl (by simp)) (.string ⟨x0.toArray⟩))
  have H2 := Lib.hid (And.intro (k2.at_ H1.out.1 (by simp; omega)) (And.intro (k2.at_ H1.out.2.1 (by simp; omega)) (And.intro nm2 (H1.out.2.2.2.after k2 (fun x hx => .inr (by simp only [List.mem_singleton] at hx; omega))))))
  clear nm2 k2
  go_upto_region 4 with fail
  clear cm fm lm H1
  generalize wb0.setCell ⟨mb, 0, none⟩ (.string ⟨x0.toArray⟩) = W2 at H2 ⊢
  have cc := cells_at H2.out.1
  have lc := lt_of_at H2.out.1
  go_wp2_with fail
  clear cc lc
  refine (rNum_spec W2 (l1, e1) (by unfold maxLen; simp only; omega) 1099511627776 (by decide)).mono ?_
  rintro e wa1 ⟨rfl, hk⟩
  have hleft := tkN_left (l1, e1) 1099511627776
  obtain ⟨A1, hA⟩ : ∃ A, A = tkN (l1, e1) 1099511627776 := ⟨_, rfl⟩
  rw [← hA] at hleft ⊢
  have HA1 := Lib.hid hA
  clear hA
  obtain ⟨x1, l2, e2⟩ := A1
  dsimp only at hleft ⊢
  have hl2 : l2.length ≤ 1000000000 := by omega
  simp only [curV]
  have nc := hk.at_ H2.out.1 (by simp)
  have cc := cells_at nc
  have fc := free_at nc
  have lc := lt_of_at nc
  have se := set2c (v0 := .string ⟨l2.toArray⟩) (v1 := .int .i64 e2) nc
  have H3 := Lib.hid (And.intro se.1 (And.intro (se.2.at_ (hk.at_ H2.out.2.1 (by simp)) (by simp; omega)) (And.intro (se.2.at_ (hk.at_ H2.out.2.2.1 (by simp)) (by simp; omega)) ((H2.out.2.2.2.trans hk).after se.2 (fun x hx => .inr (by simp only [List.mem_singleton] at hx; omega))))))
  clear hk nc se hleft
  go_upto_region 5 with fail
  clear cc fc lc H2
  generalize (wa1.setCell ⟨cb, 0, none⟩ (.string ⟨l2.toArray⟩)).setCell ⟨cb, 1, none⟩ (.int .i64 e2) = W3 at H3 ⊢
  have cc := cells_at H3.out.1
  have lc := lt_of_at H3.out.1
  go_wp2_with fail
  clear cc lc
  refine (rNum_spec W3 (l2, e2) (by unfold maxLen; simp only; omega) 1099511627776 (by decide)).mono ?_
  rintro e wa2 ⟨rfl, hk⟩
  have hleft := tkN_left (l2, e2) 1099511627776
  obtain ⟨A2, hA⟩ : ∃ A, A = tkN (l2, e2) 1099511627776 := ⟨_, rfl⟩
  rw [← hA] at hleft ⊢
  have HA2 := Lib.hid hA
  clear hA
  obtain ⟨x2, l3, e3⟩ := A2
  dsimp only at hleft ⊢
  have hl3 : l3.length ≤ 1000000000 := by omega
  simp only [curV]
  have nc := hk.at_ H3.out.1 (by simp)
  have cc := cells_at nc
  have fc := free_at nc
  have lc := lt_of_at nc
  have se := set2c (v0 := .string ⟨l3.toArray⟩) (v1 := .int .i64 e3) nc
  have H4 := Lib.hid (And.intro se.1 (And.intro (se.2.at_ (hk.at_ H3.out.2.1 (by simp)) (by simp; omega)) (And.intro (se.2.at_ (hk.at_ H3.out.2.2.1 (by simp)) (by simp; omega)) ((H3.out.2.2.2.trans hk).after se.2 (fun x hx => .inr (by simp only [List.mem_singleton] at hx; omega))))))
  clear hk nc se hleft
  go_upto_region 6 with fail
  clear cc fc lc H3
  generalize (wa2.setCell ⟨cb, 0, none⟩ (.string ⟨l3.toArray⟩)).setCell ⟨cb, 1, none⟩ (.int .i64 e3) = W4 at H4 ⊢
  have cm := cells_at H4.out.2.2.1
  have fm := free_at H4.out.2.2.1
  have lm := lt_of_at H4.out.2.2.1
  have nm2 : ((W4.setCell ⟨mb, 1, none⟩ (.int .i64 x1)).setCell ⟨mb, 2, none⟩ (.int .i64 x2)).heap[mb]? = some (.cells #[.string ⟨x0.toArray⟩, .int .i64 x1, .int .i64 x2, .int .i64 0, .int .i64 0, .int .i64 0, .slice none 0 0, .slice none 0 0] 66 (0, 0)) := (heap_cell_same (i := 2) (heap_cell_same (i := 1) (H4.out.2.2.1) (.int .i64 x1)) (.int .i64 x2)).trans (by simp)
  have k2 : Keeps [mb] W4 ((W4.setCell ⟨mb, 1, none⟩ (.int .i64 x1)).setCell ⟨mb, 2, none⟩ (.int .i64 x2)) := (((((Keeps.refl [mb] W4)).setCell (.inl (by simp)) (.int .i64 x1))).setCell (.inl (by simp)) (.int .i64 x2))
  have H5 := Lib.hid (And.intro (k2.at_ H4.out.1 (by simp; omega)) (And.intro (k2.at_ H4.out.2.1 (by simp; omega)) (And.intro nm2 (H4.out.2.2.2.after k2 (fun x hx => .inr (by simp only [List.mem_singleton] at hx; omega))))))
  clear nm2 k2
  go_upto_region 8 with fail
  clear cm fm lm H4
  generalize (W4.setCell ⟨mb, 1, none⟩ (.int .i64 x1)).setCell ⟨mb, 2, none⟩ (.int .i64 x2) = W5 at H5 ⊢
  have cc := cells_at H5.out.1
  have lc := lt_of_at H5.out.1
  go_wp2_with fail
  clear cc lc
  refine (rNum_spec W5 (l3, e3) (by unfold maxLen; simp only; omega) 9 (by decide)).mono ?_
  rintro e wa3 ⟨rfl, hk⟩
  have hleft := tkN_left (l3, e3) 9
  obtain ⟨A3, hA⟩ : ∃ A, A = tkN (l3, e3) 9 := ⟨_, rfl⟩
  rw [← hA] at hleft ⊢
  have HA3 := Lib.hid hA
  clear hA
  obtain ⟨x3, l4, e4⟩ := A3
  dsimp only at hleft ⊢
  have hl4 : l4.length ≤ 1000000000 := by omega
  simp only [curV]
  have nc := hk.at_ H5.out.1 (by simp)
  have cc := cells_at nc
  have fc := free_at nc
  have lc := lt_of_at nc
  have se := set2c (v0 := .string ⟨l4.toArray⟩) (v1 := .int .i64 e4) nc
  have H6 := Lib.hid (And.intro se.1 (And.intro (se.2.at_ (hk.at_ H5.out.2.1 (by simp)) (by simp; omega)) (And.intro (se.2.at_ (hk.at_ H5.out.2.2.1 (by simp)) (by simp; omega)) ((H5.out.2.2.2.trans hk).after se.2 (fun x hx => .inr (by simp only [List.mem_singleton] at hx; omega))))))
  clear hk nc se hleft
  go_upto_region 9 with fail
  clear cc fc lc H5
  generalize (wa3.setCell ⟨cb, 0, none⟩ (.string ⟨l4.toArray⟩)).setCell ⟨cb, 1, none⟩ (.int .i64 e4) = W6 at H6 ⊢
  have cc := cells_at H6.out.1
  have lc := lt_of_at H6.out.1
  go_wp2_with fail
  clear cc lc
  refine (rNum_spec W6 (l4, e4) (by unfold maxLen; simp only; omega) 1073741824 (by decide)).mono ?_
  rintro e wa4 ⟨rfl, hk⟩
  have hleft := tkN_left (l4, e4) 1073741824
  obtain ⟨A4, hA⟩ : ∃ A, A = tkN (l4, e4) 1073741824 := ⟨_, rfl⟩
  rw [← hA] at hleft ⊢
  have HA4 := Lib.hid hA
  clear hA
  obtain ⟨x4, l5, e5⟩ := A4
  dsimp only at hleft ⊢
  have hl5 : l5.length ≤ 1000000000 := by omega
  simp only [curV]
  have nc := hk.at_ H6.out.1 (by simp)
  have cc := cells_at nc
  have fc := free_at nc
  have lc := lt_of_at nc
  have se := set2c (v0 := .string ⟨l5.toArray⟩) (v1 := .int .i64 e5) nc
  have H7 := Lib.hid (And.intro se.1 (And.intro (se.2.at_ (hk.at_ H6.out.2.1 (by simp)) (by simp; omega)) (And.intro (se.2.at_ (hk.at_ H6.out.2.2.1 (by simp)) (by simp; omega)) ((H6.out.2.2.2.trans hk).after se.2 (fun x hx => .inr (by simp only [List.mem_singleton] at hx; omega))))))
  clear hk nc se hleft
  go_upto_region 10 with fail
  clear cc fc lc H6
  generalize (wa4.setCell ⟨cb, 0, none⟩ (.string ⟨l5.toArray⟩)).setCell ⟨cb, 1, none⟩ (.int .i64 e5) = W7 at H7 ⊢
  have cc := cells_at H7.out.1
  have lc := lt_of_at H7.out.1
  go_wp2_with fail
  clear cc lc
  refine (rNum_spec W7 (l5, e5) (by unfold maxLen; simp only; omega) 1073741824 (by decide)).mono ?_
  rintro e wa5 ⟨rfl, hk⟩
  have hleft := tkN_left (l5, e5) 1073741824
  obtain ⟨A5, hA⟩ : ∃ A, A = tkN (l5, e5) 1073741824 := ⟨_, rfl⟩
  rw [← hA] at hleft ⊢
  have HA5 := Lib.hid hA
  clear hA
  obtain ⟨x5, l6, e6⟩ := A5
  dsimp only at hleft ⊢
  have hl6 : l6.length ≤ 1000000000 := by omega
  simp only [curV]
  have nc := hk.at_ H7.out.1 (by simp)
  have cc := cells_at nc
  have fc := free_at nc
  have lc := lt_of_at nc
  have se := set2c (v0 := .string ⟨l6.toArray⟩) (v1 := .int .i64 e6) nc
  have H8 := Lib.hid (And.intro se.1 (And.intro (se.2.at_ (hk.at_ H7.out.2.1 (by simp)) (by simp; omega)) (And.intro (se.2.at_ (hk.at_ H7.out.2.2.1 (by simp)) (by simp; omega)) ((H7.out.2.2.2.trans hk).after se.2 (fun x hx => .inr (by simp only [List.mem_singleton] at hx; omega))))))
  clear hk nc se hleft
  go_upto_region 11 with fail
  clear cc fc lc H7
  generalize (wa5.setCell ⟨cb, 0, none⟩ (.string ⟨l6.toArray⟩)).setCell ⟨cb, 1, none⟩ (.int .i64 e6) = W8 at H8 ⊢
  have cm := cells_at H8.out.2.2.1
  have fm := free_at H8.out.2.2.1
  have lm := lt_of_at H8.out.2.2.1
  have nm2 : (((W8.setCell ⟨mb, 3, none⟩ (.int .i64 x3)).setCell ⟨mb, 4, none⟩ (.int .i64 x4)).setCell ⟨mb, 5, none⟩ (.int .i64 x5)).heap[mb]? = some (.cells #[.string ⟨x0.toArray⟩, .int .i64 x1, .int .i64 x2, .int .i64 x3, .int .i64 x4, .int .i64 x5, .slice none 0 0, .slice none 0 0] 66 (0, 0)) := (heap_cell_same (i := 5) (heap_cell_same (i := 4) (heap_cell_same (i := 3) (H8.out.2.2.1) (.int .i64 x3)) (.int .i64 x4)) (.int .i64 x5)).trans (by simp)
  have k2 : Keeps [mb] W8 (((W8.setCell ⟨mb, 3, none⟩ (.int .i64 x3)).setCell ⟨mb, 4, none⟩ (.int .i64 x4)).setCell ⟨mb, 5, none⟩ (.int .i64 x5)) := (((((((Keeps.refl [mb] W8)).setCell (.inl (by simp)) (.int .i64 x3))).setCell (.inl (by simp)) (.int .i64 x4))).setCell (.inl (by simp)) (.int .i64 x5))
  have H9 := Lib.hid (And.intro (k2.at_ H8.out.1 (by simp; omega)) (And.intro (k2.at_ H8.out.2.1 (by simp; omega)) (And.intro nm2 (H8.out.2.2.2.after k2 (fun x hx => .inr (by simp only [List.mem_singleton] at hx; omega))))))
  clear nm2 k2
  go_upto_region 14 with fail
  clear cm fm lm H8
  generalize ((W8.setCell ⟨mb, 3, none⟩ (.int .i64 x3)).setCell ⟨mb, 4, none⟩ (.int .i64 x4)).setCell ⟨mb, 5, none⟩ (.int .i64 x5) = W9 at H9 ⊢
  go_wp2_with fail
  go_loopg [13] 2 (RkT1 w rb mb cb x0 x1 x2 x3 x4 x5 (l6, e6))
  case atStart => exact ⟨0, .slice none 0 0, by decide, rfl, rfl, H9.out.1, H9.out.2.1, H9.out.2.2.1, by simpa [fileSt] using World.ownsRow_nil W9 (w.heap.size + 2) _ 3, H9.out.2.2.2⟩
  case round =>
    obtain ⟨k, vf, hk, hgk, rfl, hcb, hrb, hmb, hrow, hkr⟩ := hrel
    clear H9
    have Hg := Lib.hid hgk
    clear hgk
    have hwr := hkr.size
    have hfl := fileSt_len (l6, e6) k
    have hfleft := fileSt_left (l6, e6) k
    by_cases hlt : k < 2
    · have hlt' : (k : Int) < 2 := by omega
      have hnx := fileSt_next (l6, e6) k
      obtain ⟨S, hS⟩ : ∃ S, S = fileSt (l6, e6) k := ⟨_, rfl⟩
      rw [← hS] at hrow hcb hfl hfleft hnx
      clear hS
      obtain ⟨F, u0, g0⟩ := S
      dsimp only at hrow hcb hfl hfleft hnx
      have hu0 : u0.length ≤ 1000000000 := by omega
      have Hn0 := Lib.hid hnx
      clear hnx hfleft
      have HF := Lib.hid (And.intro hcb (And.intro hrb (And.intro hmb (And.intro hrow hkr))))
      have cc := cells_at hcb
      have lc := lt_of_at hcb
      clear hcb hrb hmb hrow hkr
      go_wp2_with fail
      clear cc lc
      refine (rText_spec wr (u0, g0) (by unfold maxLen; simp only; omega) 40 (by decide)).mono ?_
      rintro e wc0 ⟨rfl, hk1⟩
      have hleft := tkT_left (u0, g0) 40
      have hbnd := tkT_len (u0, g0) (most := 40) (by decide) (by decide)
      have hn := Hn0.out
      obtain ⟨B0, hB⟩ : ∃ B, B = tkT (u0, g0) 40 := ⟨_, rfl⟩
      rw [← hB] at hleft hn hbnd ⊢
      clear hB
      obtain ⟨y0, u1, g1⟩ := B0
      dsimp only at hleft hn hbnd ⊢
      have hu1 : u1.length ≤ 1000000000 := by omega
      have Hn1 := Lib.hid hn
      clear hn hleft
      simp only [curV]
      have ka : Keeps [] wc0 (wc0.alloc (.cells #[.string ⟨u1.toArray⟩, .int .i64 g1] 178)) := (Keeps.refl [] wc0).alloc _
      have na := heap_new wc0 (.cells #[.string ⟨u1.toArray⟩, .int .i64 g1] 178)
      have hw1 := hk1.size
      obtain ⟨db, hdb⟩ : ∃ n, n = wc0.heap.size := ⟨_, rfl⟩
      have hclt := lt_of_at HF.out.1
      have hrlt := lt_of_at HF.out.2.1
      have hmlt := lt_of_at HF.out.2.2.1
      have hdn : db ≠ rb ∧ db ≠ mb ∧ db ≠ cb ∧ w.heap.size ≤ db := by omega
      rw [← hdb] at na
      have HD := Lib.hid hdb
      have kt := hk1.trans ka
      have HE0 := Lib.hid (And.intro na (And.intro (kt.at_ HF.out.1 (by simp)) (And.intro (kt.at_ HF.out.2.1 (by simp)) (And.intro (kt.at_ HF.out.2.2.1 (by simp)) (And.intro (kt.row HF.out.2.2.2.1 (by simp)) (HF.out.2.2.2.2.trans kt))))))
      clear hk1 ka na hdb kt hw1 hclt hrlt hmlt HF
      go_upto_region 18 with fail
      rw [← HD.out]
      clear HD
      generalize wc0.alloc (.cells #[.string ⟨u1.toArray⟩, .int .i64 g1] 178) = wd0 at HE0 ⊢
      have cc := cells_at HE0.out.1
      have lc := lt_of_at HE0.out.1
      go_wp2_with fail
      clear cc lc
      refine (rNum_spec wd0 (u1, g1) (by unfold maxLen; simp only; omega) 1048576 (by decide)).mono ?_
      rintro e wc1 ⟨rfl, hk1⟩
      have hleft := tkN_left (u1, g1) 1048576
      have hbnd := tkN_bounds (u1, g1) (most := 1048576) (by decide) (by decide)
      have hn := Hn1.out
      obtain ⟨B1, hB⟩ : ∃ B, B = tkN (u1, g1) 1048576 := ⟨_, rfl⟩
      rw [← hB] at hleft hn hbnd ⊢
      clear hB
      obtain ⟨y1, u2, g2⟩ := B1
      dsimp only at hleft hn hbnd ⊢
      have hu2 : u2.length ≤ 1000000000 := by omega
      have Hn2 := Lib.hid hn
      clear hn hleft
      clear hbnd
      simp only [curV]
      have nc := hk1.at_ HE0.out.1 (by simp)
      have cc := cells_at nc
      have fc := free_at nc
      have lc := lt_of_at nc
      have se := set2c (v0 := .string ⟨u2.toArray⟩) (v1 := .int .i64 g2) nc
      have hdr : ∀ g, vf.ownBlock = some g → g ∉ [db] := fun g hg => by have := row_ne_type (hk1.row HE0.out.2.2.2.2.1 (by simp)) nc (by decide) g hg; simpa using this
      have HE1 := Lib.hid (And.intro se.1 (And.intro (se.2.at_ (hk1.at_ HE0.out.2.1 (by simp)) (by simp; omega)) (And.intro (se.2.at_ (hk1.at_ HE0.out.2.2.1 (by simp)) (by simp; omega)) (And.intro (se.2.at_ (hk1.at_ HE0.out.2.2.2.1 (by simp)) (by simp; omega)) (And.intro (se.2.row (hk1.row HE0.out.2.2.2.2.1 (by simp)) hdr) ((HE0.out.2.2.2.2.2.trans hk1).after se.2 (fun x hx => .inr (by simp only [List.mem_singleton] at hx; omega))))))))
      clear hk1 nc se hdr
      go_upto_region 19 with fail
      clear cc fc lc HE0
      generalize (wc1.setCell ⟨db, 0, none⟩ (.string ⟨u2.toArray⟩)).setCell ⟨db, 1, none⟩ (.int .i64 g2) = wd1 at HE1 ⊢
      have cc := cells_at HE1.out.1
      have lc := lt_of_at HE1.out.1
      go_wp2_with fail
      clear cc lc
      refine (rNum_spec wd1 (u2, g2) (by unfold maxLen; simp only; omega) 4294967295 (by decide)).mono ?_
      rintro e wc2 ⟨rfl, hk1⟩
      have hleft := tkN_left (u2, g2) 4294967295
      have hbnd := tkN_bounds (u2, g2) (most := 4294967295) (by decide) (by decide)
      have hn := Hn2.out
      obtain ⟨B2, hB⟩ : ∃ B, B = tkN (u2, g2) 4294967295 := ⟨_, rfl⟩
      rw [← hB] at hleft hn hbnd ⊢
      clear hB
      obtain ⟨y2, u3, g3⟩ := B2
      dsimp only at hleft hn hbnd ⊢
      have hu3 : u3.length ≤ 1000000000 := by omega
      have Hn3 := Lib.hid hn
      clear hn hleft
      have z2 : IntKind.u32.wrap y2 = y2 := IntWalk.u32_in _ (by omega)
      simp only [curV]
      have nc := hk1.at_ HE1.out.1 (by simp)
      have cc := cells_at nc
      have fc := free_at nc
      have lc := lt_of_at nc
      have se := set2c (v0 := .string ⟨u3.toArray⟩) (v1 := .int .i64 g3) nc
      have hdr : ∀ g, vf.ownBlock = some g → g ∉ [db] := fun g hg => by have := row_ne_type (hk1.row HE1.out.2.2.2.2.1 (by simp)) nc (by decide) g hg; simpa using this
      have HE2 := Lib.hid (And.intro se.1 (And.intro (se.2.at_ (hk1.at_ HE1.out.2.1 (by simp)) (by simp; omega)) (And.intro (se.2.at_ (hk1.at_ HE1.out.2.2.1 (by simp)) (by simp; omega)) (And.intro (se.2.at_ (hk1.at_ HE1.out.2.2.2.1 (by simp)) (by simp; omega)) (And.intro (se.2.row (hk1.row HE1.out.2.2.2.2.1 (by simp)) hdr) ((HE1.out.2.2.2.2.2.trans hk1).after se.2 (fun x hx => .inr (by simp only [List.mem_singleton] at hx; omega))))))))
      clear hk1 nc se hdr
      go_upto_region 20 with fail
      clear cc fc lc HE1
      generalize (wc2.setCell ⟨db, 0, none⟩ (.string ⟨u3.toArray⟩)).setCell ⟨db, 1, none⟩ (.int .i64 g3) = wd2 at HE2 ⊢
      have cc := cells_at HE2.out.1
      have lc := lt_of_at HE2.out.1
      have cq := cells_at HE2.out.2.1
      have fq := free_at HE2.out.2.1
      have lq := lt_of_at HE2.out.2.1
      have se := set2c (v0 := .string ⟨u3.toArray⟩) (v1 := .int .i64 g3) HE2.out.2.1
      have hdr : ∀ g, vf.ownBlock = some g → g ∉ [cb] := fun g hg => by have := row_ne_type HE2.out.2.2.2.2.1 HE2.out.2.1 (by decide) g hg; simpa using this
      have HE3 := Lib.hid (And.intro se.1 (And.intro (se.2.at_ HE2.out.2.2.1 (by simp; omega)) (And.intro (se.2.at_ HE2.out.2.2.2.1 (by simp; omega)) (And.intro (se.2.row HE2.out.2.2.2.2.1 hdr) (HE2.out.2.2.2.2.2.after se.2 (fun x hx => .inr (by simp only [List.mem_singleton] at hx; omega)))))))
      clear se hdr
      go_upto_region 21 with fail
      clear cc lc cq fq lq HE2
      generalize (wd2.setCell ⟨cb, 0, none⟩ (.string ⟨u3.toArray⟩)).setCell ⟨cb, 1, none⟩ (.int .i64 g3) = wd3 at HE3 ⊢
      have cm4 := cells_at HE3.out.2.2.1
      have lm4 := lt_of_at HE3.out.2.2.1
      have hwz := HE3.out.2.2.2.2.size
      go_wp2_with (at_builtin; refine wpList_append_own _ rfl (.tmp 87) (.tmp 93) 64 rfl (w.heap.size + 2) 170 ifl _ 3 32 Tryz.underlying64 hif hzf0 hzf1 hzf2 rfl (by decide) vf k (F.flatMap encFileT) rfl (HE3.out.2.2.2.1.alloc _) ⟨wd3.heap.size, 0, none⟩ 1 1 [.string ⟨y0.toArray⟩, .int .i64 y1, .int .u32 y2] rfl rfl (news_of (heap_new wd3 _)) (by simp [Value.oneCell']) (by simp only [maxLen]; omega) (by omega) (by simp; omega) ?_; intro v8 w8 hown8 hgrow8 hnil; clear hnil; obtain ⟨ao8, cp8, hv8, -, -, -⟩ := row_slice hown8; subst hv8; have nm8 := (hgrow8.block mb (by simp; omega) (fun e => row_ne_type HE3.out.2.2.2.1 HE3.out.2.2.1 (by decide) _ e.symm rfl)).trans (heap_old HE3.out.2.2.1 _); have cm8 := cells_at nm8; have fm8 := free_at nm8; have lm8 := lt_of_at nm8)
      have hown9 : w8.ownsRow (w.heap.size + 2) 170 3 (.slice ao8 (k + 1) cp8) (k + 1) ((fileSt (l6, e6) (k + 1)).1.flatMap encFileT) := by
        rw [Hn3.out, List.flatMap_append]
        simpa [encFileT] using hown8
      have k89 : Keeps [mb] w8 (w8.setCell ⟨mb, 6, none⟩ (.slice ao8 (k + 1) cp8)) := (Keeps.refl [mb] w8).setCell (.inl (by simp)) _
      have nm9 : (w8.setCell ⟨mb, 6, none⟩ (.slice ao8 (k + 1) cp8)).heap[mb]? = some (.cells #[.string ⟨x0.toArray⟩, .int .i64 x1, .int .i64 x2, .int .i64 x3, .int .i64 x4, .int .i64 x5, .slice ao8 (k + 1) cp8, .slice none 0 0] 66 (0, 0)) := (heap_cell_same (i := 6) nm8 _).trans (by simp)
      have hvl : ∀ g, vf.ownBlock = some g → w.heap.size ≤ g := fun g hg => by have := (World.ownsRow.lt HE3.out.2.2.2.1 g hg).1; omega
      have hk8 : Keeps [] w w8 := keeps_grownM (HE3.out.2.2.2.2.alloc _) hgrow8 hvl
      have nr8 : w8.heap[rb]? = some (.cells #[.string ⟨#[]⟩, .int .i64 0, .int .i64 0, .int .i64 0, .int .i64 0, .int .i64 0, .slice none 0 0, .slice none 0 0] 66 (0, 0)) := (hgrow8.block rb (by have := lt_of_at HE3.out.2.1; simp; omega) (fun e => row_ne_type HE3.out.2.2.2.1 HE3.out.2.1 (by decide) _ e.symm rfl)).trans (heap_old HE3.out.2.1 _)
      have nc8 : w8.heap[cb]? = some (.cells #[.string ⟨u3.toArray⟩, .int .i64 g3] 178 (0, 0)) := (hgrow8.block cb (by have := lt_of_at HE3.out.1; simp; omega) (fun e => row_ne_type HE3.out.2.2.2.1 HE3.out.1 (by decide) _ e.symm rfl)).trans (heap_old HE3.out.1 _)
      have HX := Lib.hid (And.intro nm9 (And.intro (k89.at_ nr8 (by simp; omega)) (And.intro (k89.row hown9 (fun g hg => by have := row_ne_type hown9 nm8 (by decide) g hg; simpa using this)) (And.intro (k89.at_ nc8 (by simp; omega)) (hk8.after k89 (fun x hx => .inr (by simp only [List.mem_singleton] at hx; omega)))))))
      clear hown8 hown9 hgrow8 k89 nm9 hvl hk8 nr8 nc8
      go_roundg (2 - (k + 1))
      case measure => have := Hg.out; omega
      case rel => exact ⟨k + 1, .slice ao8 (k + 1) cp8, by omega, rfl, by go_num, by rw [Hn3.out]; exact HX.out.2.2.2.1, HX.out.2.1, HX.out.1, HX.out.2.2.1, HX.out.2.2.2.2⟩
    · obtain rfl : k = 2 := by omega
      clear hlt
      obtain ⟨S, hS⟩ : ∃ S, S = fileSt (l6, e6) 2 := ⟨_, rfl⟩
      rw [← hS] at hrow hcb hfl hfleft
      have HS := Lib.hid hS
      clear hS
      obtain ⟨FL, l7, e7⟩ := S
      dsimp only at hrow hcb hfl hfleft
      have hl7 : l7.length ≤ 1000000000 := by omega
      have HE := Lib.hid (And.intro hcb (And.intro hrb (And.intro hmb (And.intro hrow hkr))))
      have cc := cells_at hcb
      have lc := lt_of_at hcb
      clear hcb hrb hmb hrow hkr hfleft
      go_wp2_with fail
      clear cc lc
      refine (rNum_spec wr (l7, e7) (by unfold maxLen; simp only; omega) 50 (by decide)).mono ?_
      rintro e w6 ⟨rfl, hk6⟩
      have hleft := tkN_left (l7, e7) 50
      have hbnd := tkN_bounds (l7, e7) (most := 50) (by decide) (by decide)
      obtain ⟨B, hB⟩ : ∃ B, B = tkN (l7, e7) 50 := ⟨_, rfl⟩
      rw [← hB] at hleft hbnd ⊢
      have HN := Lib.hid hB
      clear hB
      obtain ⟨n0, l8, e8⟩ := B
      dsimp only at hleft hbnd HN ⊢
      obtain ⟨n, rfl⟩ : ∃ n : Nat, n0 = n := ⟨n0.toNat, by omega⟩
      have hl8 : l8.length ≤ 1000000000 := by omega
      have hn50 : n ≤ 50 := by omega
      simp only [curV]
      have nc := hk6.at_ HE.out.1 (by simp)
      have cc := cells_at nc
      have fc := free_at nc
      have lc := lt_of_at nc
      have se := set2c (v0 := .string ⟨l8.toArray⟩) (v1 := .int .i64 e8) nc
      have hrow6 := hk6.row HE.out.2.2.2.1 (by simp)
      have HF := Lib.hid (And.intro se.1 (And.intro (se.2.at_ (hk6.at_ HE.out.2.1 (by simp)) (by simp; omega)) (And.intro (se.2.at_ (hk6.at_ HE.out.2.2.1 (by simp)) (by simp; omega)) (And.intro (se.2.row hrow6 (fun g hg => by have := row_ne_type hrow6 nc (by decide) g hg; simpa using this)) ((HE.out.2.2.2.2.trans hk6).after se.2 (fun x hx => .inr (by simp only [List.mem_singleton] at hx; omega)))))))
      clear hk6 nc se hrow6 hleft hbnd HE
      go_upto_region 23 with fail
      clear cc fc lc
      generalize (w6.setCell ⟨cb, 0, none⟩ (.string ⟨l8.toArray⟩)).setCell ⟨cb, 1, none⟩ (.int .i64 e8) = w7 at HF ⊢
      go_wp2_with fail
      go_loopg [19] n (RkT2 w rb mb cb x0 x1 x2 x3 x4 x5 vf FL (l8, e8) n)
      case atStart => exact ⟨0, .slice none 0 0, Nat.zero_le _, rfl, rfl, HF.out.1, HF.out.2.1, HF.out.2.2.1, HF.out.2.2.2.1, by simpa [srcSt] using World.ownsRow_nil w7 (w.heap.size + 2) _ 1, HF.out.2.2.2.2⟩
      case round =>
        obtain ⟨j, vo, hj, hgj, rfl, hcb, hrb, hmb, hrf, hro, hkr⟩ := hrel
        clear HF
        have Hgj := Lib.hid hgj
        clear hgj
        have hwr := hkr.size
        have hsl := srcSt_len (l8, e8) j
        have hsleft := srcSt_left (l8, e8) j
        have hgo := srcSt_go (l8, e8) j
        have hend : (j = n ∨ (srcSt (l8, e8) j).2.2 ≠ 0) → srcSt (l8, e8) n = srcSt (l8, e8) j := by
          rintro (rfl | h)
          · rfl
          · have := srcSt_stop (l8, e8) j h (n - j)
            rwa [show j + (n - j) = n from by omega] at this
        obtain ⟨S, hS⟩ : ∃ S, S = srcSt (l8, e8) j := ⟨_, rfl⟩
        rw [← hS] at hro hcb hsl hsleft hgo hend
        clear hS
        obtain ⟨SL, u0, g0⟩ := S
        dsimp only at hro hcb hsl hsleft hgo hend
        have hu0 : u0.length ≤ 1000000000 := by omega
        by_cases hcont : j < n ∧ g0 = 0
        · obtain ⟨hlt, rfl⟩ := hcont
          have hgo2 := hgo rfl
          clear hgo hend
          have hlt' : (j : Int) < (n : Int) := by omega
          have HJ := Lib.hid (And.intro hcb (And.intro hrb (And.intro hmb (And.intro hrf (And.intro hro hkr)))))
          have Hgo := Lib.hid hgo2
          have cc := cells_at hcb
          have lc := lt_of_at hcb
          have hclt := lt_of_at hcb
          have hrlt := lt_of_at hrb
          have hmlt := lt_of_at hmb
          clear hcb hrb hmb hrf hro hkr hgo2
          go_wp2_with fail
          clear cc lc
          refine (rText_spec wr (u0, 0) (by unfold maxLen; simp only; omega) 16 (by decide)).mono ?_
          rintro e wc0 ⟨rfl, hk1⟩
          have hleft := tkT_left (u0, 0) 16
          have hn := Hgo.out
          obtain ⟨B0, hB⟩ : ∃ B, B = tkT (u0, 0) 16 := ⟨_, rfl⟩
          rw [← hB] at hleft hn ⊢
          clear hB
          obtain ⟨y0, u1, g1⟩ := B0
          dsimp only at hleft hn ⊢
          have hu1 : u1.length ≤ 1000000000 := by omega
          have Hn1 := Lib.hid hn
          clear hn hleft Hgo
          simp only [curV]
          have ka : Keeps [] wc0 (wc0.alloc (.cells #[.string ⟨u1.toArray⟩, .int .i64 g1] 178)) := (Keeps.refl [] wc0).alloc _
          have na := heap_new wc0 (.cells #[.string ⟨u1.toArray⟩, .int .i64 g1] 178)
          have hw1 := hk1.size
          obtain ⟨db, hdb⟩ : ∃ n, n = wc0.heap.size := ⟨_, rfl⟩
          have hdn : db ≠ rb ∧ db ≠ mb ∧ db ≠ cb ∧ w.heap.size ≤ db := by omega
          rw [← hdb] at na
          have HD := Lib.hid hdb
          have kt := hk1.trans ka
          have HE0 := Lib.hid (And.intro na (And.intro (kt.at_ HJ.out.1 (by simp)) (And.intro (kt.at_ HJ.out.2.1 (by simp)) (And.intro (kt.at_ HJ.out.2.2.1 (by simp)) (And.intro (kt.row HJ.out.2.2.2.1 (by simp)) (And.intro (kt.row HJ.out.2.2.2.2.1 (by simp)) (HJ.out.2.2.2.2.2.trans kt)))))))
          clear hk1 ka na hdb kt hw1 hclt hrlt hmlt HJ
          go_upto_region 27 with fail
          rw [← HD.out]
          clear HD
          generalize wc0.alloc (.cells #[.string ⟨u1.toArray⟩, .int .i64 g1] 178) = wd0 at HE0 ⊢
          have cc := cells_at HE0.out.1
          have lc := lt_of_at HE0.out.1
          have cq := cells_at HE0.out.2.1
          have fq := free_at HE0.out.2.1
          have lq := lt_of_at HE0.out.2.1
          have se := set2c (v0 := .string ⟨u1.toArray⟩) (v1 := .int .i64 g1) HE0.out.2.1
          have hdr : ∀ g, vf.ownBlock = some g → g ∉ [cb] := fun g hg => by have := row_ne_type HE0.out.2.2.2.2.1 HE0.out.2.1 (by decide) g hg; simpa using this
          have hds : ∀ g, vo.ownBlock = some g → g ∉ [cb] := fun g hg => by have := row_ne_type HE0.out.2.2.2.2.2.1 HE0.out.2.1 (by decide) g hg; simpa using this
          have HE3 := Lib.hid (And.intro se.1 (And.intro (se.2.at_ HE0.out.2.2.1 (by simp; omega)) (And.intro (se.2.at_ HE0.out.2.2.2.1 (by simp; omega)) (And.intro (se.2.row HE0.out.2.2.2.2.1 hdr) (And.intro (se.2.row HE0.out.2.2.2.2.2.1 hds) (HE0.out.2.2.2.2.2.2.after se.2 (fun x hx => .inr (by simp only [List.mem_singleton] at hx; omega))))))))
          clear se hdr hds
          go_upto_region 28 with fail
          clear cc lc cq fq lq HE0
          generalize (wd0.setCell ⟨cb, 0, none⟩ (.string ⟨u1.toArray⟩)).setCell ⟨cb, 1, none⟩ (.int .i64 g1) = wd3 at HE3 ⊢
          have cm4 := cells_at HE3.out.2.2.1
          have lm4 := lt_of_at HE3.out.2.2.1
          have hwz := HE3.out.2.2.2.2.2.size
          go_wp2_with (at_builtin; refine wpList_append_own _ rfl (.tmp 118) (.tmp 120) 25 rfl (w.heap.size + 2) 9 ist _ 1 16 Tryz.underlying25 his hzs0 hzs1 hzs2 rfl (by decide) vo SL.length (SL.flatMap encS1T) rfl (HE3.out.2.2.2.2.1.alloc _) ⟨wd3.heap.size, 0, none⟩ 1 1 [.string ⟨y0.toArray⟩] rfl rfl (news_of (heap_new wd3 _)) (by simp [Value.oneCell']) (by simp only [maxLen]; omega) (by omega) (by simp; omega) ?_; intro v8 w8 hown8 hgrow8 hnil; clear hnil; obtain ⟨ao8, cp8, hv8, -, -, -⟩ := row_slice hown8; subst hv8; have nm8 := (hgrow8.block mb (by simp; omega) (fun e => row_ne_type HE3.out.2.2.2.2.1 HE3.out.2.2.1 (by decide) _ e.symm rfl)).trans (heap_old HE3.out.2.2.1 _); have cm8 := cells_at nm8; have fm8 := free_at nm8; have lm8 := lt_of_at nm8)
          have hown9 : w8.ownsRow (w.heap.size + 2) 9 1 (.slice ao8 (SL.length + 1) cp8) (srcSt (l8, e8) (j + 1)).1.length ((srcSt (l8, e8) (j + 1)).1.flatMap encS1T) := by
            rw [Hn1.out, List.flatMap_append, List.length_append]
            simpa [encS1T] using hown8
          have k89 : Keeps [mb] w8 (w8.setCell ⟨mb, 7, none⟩ (.slice ao8 (SL.length + 1) cp8)) := (Keeps.refl [mb] w8).setCell (.inl (by simp)) _
          have nm9 : (w8.setCell ⟨mb, 7, none⟩ (.slice ao8 (SL.length + 1) cp8)).heap[mb]? = some (.cells #[.string ⟨x0.toArray⟩, .int .i64 x1, .int .i64 x2, .int .i64 x3, .int .i64 x4, .int .i64 x5, vf, .slice ao8 (SL.length + 1) cp8] 66 (0, 0)) := (heap_cell_same (i := 7) nm8 _).trans (by simp)
          have hvl : ∀ g, vo.ownBlock = some g → w.heap.size ≤ g := fun g hg => by have := (World.ownsRow.lt HE3.out.2.2.2.2.1 g hg).1; omega
          have hk8 : Keeps [] w w8 := keeps_grownM (HE3.out.2.2.2.2.2.alloc _) hgrow8 hvl
          have nr8 : w8.heap[rb]? = some (.cells #[.string ⟨#[]⟩, .int .i64 0, .int .i64 0, .int .i64 0, .int .i64 0, .int .i64 0, .slice none 0 0, .slice none 0 0] 66 (0, 0)) := (hgrow8.block rb (by have := lt_of_at HE3.out.2.1; simp; omega) (fun e => row_ne_type HE3.out.2.2.2.2.1 HE3.out.2.1 (by decide) _ e.symm rfl)).trans (heap_old HE3.out.2.1 _)
          have nc8 : w8.heap[cb]? = some (.cells #[.string ⟨u1.toArray⟩, .int .i64 g1] 178 (0, 0)) := (hgrow8.block cb (by have := lt_of_at HE3.out.1; simp; omega) (fun e => row_ne_type HE3.out.2.2.2.2.1 HE3.out.1 (by decide) _ e.symm rfl)).trans (heap_old HE3.out.1 _)
          have kg8 := keeps_rowM hgrow8
          have hrf8 := kg8.row (HE3.out.2.2.2.1.alloc (.cells #[.string ⟨y0.toArray⟩] 9)) (rows_neM (HE3.out.2.2.2.2.1.alloc (.cells #[.string ⟨y0.toArray⟩] 9)) (HE3.out.2.2.2.1.alloc (.cells #[.string ⟨y0.toArray⟩] 9)) (by decide))
          have HX := Lib.hid (And.intro (k89.at_ nc8 (by simp; omega)) (And.intro (k89.at_ nr8 (by simp; omega)) (And.intro nm9 (And.intro (k89.row hrf8 (fun g hg => by have := row_ne_type hrf8 nm8 (by decide) g hg; simpa using this)) (And.intro (k89.row hown9 (fun g hg => by have := row_ne_type hown9 nm8 (by decide) g hg; simpa using this)) (hk8.after k89 (fun x hx => .inr (by simp only [List.mem_singleton] at hx; omega))))))))
          clear hown8 hown9 hgrow8 k89 nm9 hvl hk8 nr8 nc8 kg8 hrf8
          go_roundg (n - (j + 1))
          case measure => have := Hgj.out; omega
          case rel => exact ⟨j + 1, .slice ao8 (SL.length + 1) cp8, by omega, rfl, by go_num, by rw [Hn1.out]; exact HX.out.1, HX.out.2.1, HX.out.2.2.1, HX.out.2.2.2.1, HX.out.2.2.2.2.1, HX.out.2.2.2.2.2⟩
        · have hfin : fieldsT (s.data.toList, 0) = (⟨x0, x1, x2, x3, x4, x5, FL, SL⟩, (u0, g0)) := by
            have h1 := hend (by omega)
            unfold fieldsT
            simp only [← HL.out, ← HA0.out, ← HA1.out, ← HA2.out, ← HA3.out, ← HA4.out, ← HA5.out, ← HS.out, ← HN.out, Int.toNat_natCast, h1]
          obtain ⟨m, hm⟩ : ∃ m : MetaT, m = ⟨x0, x1, x2, x3, x4, x5, FL, SL⟩ := ⟨_, rfl⟩
          have HRF := HR.out
          rw [hfin, ← hm] at HRF
          have Hm := Lib.hid hm
          clear hfin hend hgo HR
          obtain ⟨ao6, cp6, hvf, -, -, -⟩ := row_slice hrf
          obtain ⟨ao7, cp7, hvo, -, -, -⟩ := row_slice hro
          subst hvf hvo
          have hmv : MetaVT (w.heap.size + 2) wr [.string ⟨x0.toArray⟩, .int .i64 x1, .int .i64 x2, .int .i64 x3, .int .i64 x4, .int .i64 x5, .slice ao6 2 cp6, .slice ao7 SL.length cp7] m := by
            rw [hm]
            refine ⟨_, _, rfl, ?_, ?_⟩
            · have h2 : FL.length = 2 := hfl
              rw [← h2] at hrf
              have h3 := sliceFrom_row (enc := encFileT) (fun _ => rfl) hrf
              rw [h2] at h3
              exact h3
            · exact sliceFrom_row (enc := encS1T) (fun _ => rfl) hro
          have hmq : MetaQT (w.heap.size + 2) wr [.string ⟨x0.toArray⟩, .int .i64 x1, .int .i64 x2, .int .i64 x3, .int .i64 x4, .int .i64 x5, .slice ao6 2 cp6, .slice ao7 SL.length cp7] m := by
            rw [hm]
            refine ⟨_, _, rfl, ?_, hro⟩
            have h2 : FL.length = 2 := hfl
            show wr.ownsRow (w.heap.size + 2) 170 3 _ FL.length _
            rw [h2]
            exact hrf
          have HE := Lib.hid (And.intro hcb (And.intro hrb (And.intro hmb (And.intro (And.intro hmv hmq) hkr))))
          have hways : (j = n) ∨ (j < n ∧ (g0 == 0) = false) := by
            by_cases hj0 : j = n
            · exact .inl hj0
            · exact .inr ⟨by omega, by rw [beq_eq_false_iff_ne]; omega⟩
          have cc := cells_at hcb
          have lc := lt_of_at hcb
          have fc := free_at hcb
          have cm := cells_at hmb
          have lm := lt_of_at hmb
          obtain ⟨us, hus⟩ : ∃ b : ByteArray, b = ⟨u0.toArray⟩ := ⟨_, rfl⟩
          have Hus := Lib.hid hus
          rw [← hus] at cc
          clear hcb hrb hmb hrf hro hkr hcont hm hmv hmq hus
          have HRx := Lib.hid HRF
          clear HRF
          by_cases hg : g0 = 0
          · subst hg
            have hjn : j = n := by
              rcases hways with h | h
              · exact h
              · exact absurd h.2 (by simp)
            subst hjn
            clear hways
            go_wp2_with fail
            refine (rMetaCheck_spec (w.heap.size + 2) wr _ m HE.out.2.2.2.1.1).mono ?_
            rintro e w9 ⟨rfl, hk9⟩
            clear cc lc fc cm lm
            have H9 := Lib.hid (And.intro (hk9.at_ HE.out.1 (by simp)) (And.intro (hk9.at_ HE.out.2.1 (by simp)) (And.intro (hk9.at_ HE.out.2.2.1 (by simp)) (And.intro (HE.out.2.2.2.1.2.same hk9) (HE.out.2.2.2.2.trans hk9)))))
            clear hk9 HE
            have cc := cells_at H9.out.1
            have lc := lt_of_at H9.out.1
            have fc := free_at H9.out.1
            rw [← Hus.out] at cc
            cases hok : okT m with
            | false =>
              have hRn : R = none := by rw [HRx.out]; unfold rTakeR; exact if_pos (.inr hok)
              subst hRn
              have nq4 : (w9.setCell ⟨cb, 1, none⟩ (.int .i64 3)).heap[cb]? = some (.cells #[.string ⟨u0.toArray⟩, .int .i64 3] 178 (0, 0)) := (heap_cell_same (i := 1) H9.out.1 _).trans (by simp)
              have k34 : Keeps [cb] w9 (w9.setCell ⟨cb, 1, none⟩ (.int .i64 3)) := (Keeps.refl [cb] w9).setCell (.inl (by simp)) _
              have H3 := Lib.hid (And.intro nq4 (And.intro (k34.at_ H9.out.2.1 (by simp; omega)) (H9.out.2.2.2.2.after k34 (fun x hx => .inr (by simp only [List.mem_singleton] at hx; omega)))))
              clear nq4 k34 H9
              go_upto_region 32 with fail
              clear cc lc fc
              generalize w9.setCell ⟨cb, 1, none⟩ (.int .i64 3) = W5 at H3 ⊢
              have g5 := cells_at H3.out.1
              have l5 := lt_of_at H3.out.1
              have cr5 := cells_at H3.out.2.1
              have fr5 := free_at H3.out.2.1
              have lr5 := lt_of_at H3.out.2.1
              have d0 : W5.cell? ⟨cb, 1, none⟩ = some (.int .i64 3) := by rw [g5]; rfl
              refine wp_region_held_drew (S := fun w' => w'.cell? ⟨cb, 1, none⟩ = some (.int .i64 3) ∧ w'.cell? ⟨cb, 1, none⟩ = some (.int .i64 3)) (by kernel_rfl) ⟨d0, d0⟩ (fun hS => ?_)
              refine wpAnyH_take (i := 0) (v := ?_) rfl (by kernel_rfl) (by kernel_rfl) (by kernel_rfl) (fun _ _ _ h => h) (Or.inl ⟨by rfl, ?_⟩) (by assumption) ?_
              rotate_left
              · intro w' hSw; obtain ⟨s1, s2⟩ := hSw; go_simp; (try with_reducible rfl)
              simp only [Act.put, List.getElem_toArray, List.getElem_cons_succ, List.getElem_cons_zero, List.setIfInBounds_toArray, List.set_cons_zero, List.set_cons_succ]
              refine wpAnyH_take (i := 1) (v := ?_) rfl (by kernel_rfl) (by kernel_rfl) (by kernel_rfl) (fun _ _ _ h => h) (Or.inl ⟨by rfl, ?_⟩) (by assumption) ?_
              rotate_left
              · intro w' hSw; obtain ⟨s1, s2⟩ := hSw; go_simp; (try with_reducible rfl)
              simp only [Act.put, List.getElem_toArray, List.getElem_cons_succ, List.getElem_cons_zero, List.setIfInBounds_toArray, List.set_cons_zero, List.set_cons_succ]
              refine wpAnyH_take (i := 2) (v := ?_) rfl (by kernel_rfl) (by kernel_rfl) (by kernel_rfl) (fun _ _ _ h => h) (Or.inl ⟨by rfl, ?_⟩) (by assumption) ?_
              rotate_left
              · intro w' hSw; obtain ⟨s1, s2⟩ := hSw; go_simp; (try with_reducible rfl)
              simp only [Act.put, List.getElem_toArray, List.getElem_cons_succ, List.getElem_cons_zero, List.setIfInBounds_toArray, List.set_cons_zero, List.set_cons_succ]
              have se := set8 (v0 := .string ⟨#[]⟩) (v1 := .int .i64 0) (v2 := .int .i64 0) (v3 := .int .i64 0) (v4 := .int .i64 0) (v5 := .int .i64 0) (v6 := .slice none 0 0) (v7 := .slice none 0 0) H3.out.2.1
              have hch : ((((((((W5.setCell ⟨rb, 0, none⟩ (.string ⟨#[]⟩)).setCell ⟨rb, 1, none⟩ (.int .i64 0)).setCell ⟨rb, 2, none⟩ (.int .i64 0)).setCell ⟨rb, 3, none⟩ (.int .i64 0)).setCell ⟨rb, 4, none⟩ (.int .i64 0)).setCell ⟨rb, 5, none⟩ (.int .i64 0)).setCell ⟨rb, 6, none⟩ (.slice none 0 0)).setCell ⟨rb, 7, none⟩ (.slice none 0 0)).drew.heap[rb]? = some (.cells #[.string ⟨#[]⟩, .int .i64 0, .int .i64 0, .int .i64 0, .int .i64 0, .int .i64 0, .slice none 0 0, .slice none 0 0] 66 (0, 0)) := (drew_heapM _ _).trans se.1
              have HE := Lib.hid (And.intro (And.intro hch se.2.drew) H3.out.2.2)
              clear se hch
              refine wpAnyH_ready (rs := [3]) (by kernel_rfl) (by simp) ?_
              refine AllReadyH.cons rfl (fun K hK => ?_) AllReadyH.nil
              go_simp
              generalize ((((((((W5.setCell ⟨rb, 0, none⟩ (.string ⟨#[]⟩)).setCell ⟨rb, 1, none⟩ (.int .i64 0)).setCell ⟨rb, 2, none⟩ (.int .i64 0)).setCell ⟨rb, 3, none⟩ (.int .i64 0)).setCell ⟨rb, 4, none⟩ (.int .i64 0)).setCell ⟨rb, 5, none⟩ (.int .i64 0)).setCell ⟨rb, 6, none⟩ (.slice none 0 0)).setCell ⟨rb, 7, none⟩ (.slice none 0 0)).drew = W6 at HE ⊢
              have x0 : W6.cell? ⟨cb, 1, none⟩ = some (.int .i64 3) := (HE.out.1.2.cell l5 (by simp; omega)).trans d0
              refine hK.out _ _ ⟨x0, x0⟩ (fun hS => ?_)
              clear hK K
              try simp only [Act.put, List.getElem_toArray, List.getElem_cons_succ, List.getElem_cons_zero, List.setIfInBounds_toArray, List.set_cons_zero, List.set_cons_succ]
              refine wpAnyH_ready (rs := [4]) (by kernel_rfl) (by simp) ?_
              refine AllReadyH.cons rfl (fun K hK => ?_) AllReadyH.nil
              go_simp
              refine hK.out _ _ ⟨x0, x0⟩ (fun hS => ?_)
              clear hK K
              try simp only [Act.put, List.getElem_toArray, List.getElem_cons_succ, List.getElem_cons_zero, List.setIfInBounds_toArray, List.set_cons_zero, List.set_cons_succ]
              refine wpAnyH_ready (rs := [5]) (by kernel_rfl) (by simp) ?_
              refine AllReadyH.cons rfl (fun K hK => ?_) AllReadyH.nil
              go_simp
              refine hK.out _ _ ⟨x0, x0⟩ (fun hS => ?_)
              clear hK K
              refine wpAnyH_done (by kernel_rfl) ?_ _
              clear hS x0 d0 g5 cr5 fr5 lr5
              have hc := cells_at HE.out.1.1
              have hlr6 := lt_of_at HE.out.1.1
              go_wp2_with fail
              refine bodyPost_ret (v := .tuple #[.agg #[.string ⟨#[]⟩, .int .i64 0, .int .i64 0, .int .i64 0, .int .i64 0, .int .i64 0, .slice none 0 0, .slice none 0 0], .string ⟨#[]⟩, .int .i64 3]) ?_ rfl (show RTakeNo w _ _ from ⟨3, by decide, rfl, ?_⟩)
              · simp [results, Tryz.results89, go_sem, hc, hlr6]
              · exact HE.out.2.after HE.out.1.2 (fun x hx => .inr (by simp only [List.mem_singleton] at hx; omega))
            | true =>
              have hRn : R = some (m, u0) := by rw [HRx.out]; unfold rTakeR; exact if_neg (by simp [hok])
              subst hRn
              go_upto_region 33 with fail
              clear cc lc fc
              have c5 := cells_at H9.out.2.2.1
              have g5 := cells_at H9.out.1
              have l5 := lt_of_at H9.out.2.2.1
              have l5q := lt_of_at H9.out.1
              rw [← Hus.out] at g5
              have d0 : w9.cell? ⟨mb, 0, none⟩ = some (.string ⟨x0.toArray⟩) := by rw [c5]; rfl
              have d1 : w9.cell? ⟨mb, 1, none⟩ = some (.int .i64 x1) := by rw [c5]; rfl
              have d2 : w9.cell? ⟨mb, 2, none⟩ = some (.int .i64 x2) := by rw [c5]; rfl
              have d3 : w9.cell? ⟨mb, 3, none⟩ = some (.int .i64 x3) := by rw [c5]; rfl
              have d4 : w9.cell? ⟨mb, 4, none⟩ = some (.int .i64 x4) := by rw [c5]; rfl
              have d5 : w9.cell? ⟨mb, 5, none⟩ = some (.int .i64 x5) := by rw [c5]; rfl
              have d6 : w9.cell? ⟨mb, 6, none⟩ = some (.slice ao6 2 cp6) := by rw [c5]; rfl
              have d7 : w9.cell? ⟨mb, 7, none⟩ = some (.slice ao7 SL.length cp7) := by rw [c5]; rfl
              have d8 : w9.cell? ⟨cb, 0, none⟩ = some (.string us) := by rw [g5]; rfl
              refine wp_region_held_drew (S := fun w' => w'.cell? ⟨mb, 0, none⟩ = some (.string ⟨x0.toArray⟩) ∧ w'.cell? ⟨mb, 1, none⟩ = some (.int .i64 x1) ∧ w'.cell? ⟨mb, 2, none⟩ = some (.int .i64 x2) ∧ w'.cell? ⟨mb, 3, none⟩ = some (.int .i64 x3) ∧ w'.cell? ⟨mb, 4, none⟩ = some (.int .i64 x4) ∧ w'.cell? ⟨mb, 5, none⟩ = some (.int .i64 x5) ∧ w'.cell? ⟨mb, 6, none⟩ = some (.slice ao6 2 cp6) ∧ w'.cell? ⟨mb, 7, none⟩ = some (.slice ao7 SL.length cp7) ∧ w'.cell? ⟨cb, 0, none⟩ = some (.string us)) (by kernel_rfl) ⟨d0, d1, d2, d3, d4, d5, d6, d7, d8⟩ (fun hS => ?_)
              refine wpAnyH_take (i := 0) (v := ?_) rfl (by kernel_rfl) (by kernel_rfl) (by kernel_rfl) (fun _ _ _ h => h) (Or.inl ⟨by rfl, ?_⟩) (by assumption) ?_
              rotate_left
              · intro w' hSw; obtain ⟨s1, s2, s3, s4, s5, s6, s7, s8, s9⟩ := hSw; go_simp; (try with_reducible rfl)
              simp only [Act.put, List.getElem_toArray, List.getElem_cons_succ, List.getElem_cons_zero, List.setIfInBounds_toArray, List.set_cons_zero, List.set_cons_succ]
              refine wpAnyH_take (i := 1) (v := ?_) rfl (by kernel_rfl) (by kernel_rfl) (by kernel_rfl) (fun _ _ _ h => h) (Or.inl ⟨by rfl, ?_⟩) (by assumption) ?_
              rotate_left
              · intro w' hSw; obtain ⟨s1, s2, s3, s4, s5, s6, s7, s8, s9⟩ := hSw; go_simp; (try with_reducible rfl)
              simp only [Act.put, List.getElem_toArray, List.getElem_cons_succ, List.getElem_cons_zero, List.setIfInBounds_toArray, List.set_cons_zero, List.set_cons_succ]
              refine wpAnyH_take (i := 2) (v := ?_) rfl (by kernel_rfl) (by kernel_rfl) (by kernel_rfl) (fun _ _ _ h => h) (Or.inl ⟨by rfl, ?_⟩) (by assumption) ?_
              rotate_left
              · intro w' hSw; obtain ⟨s1, s2, s3, s4, s5, s6, s7, s8, s9⟩ := hSw; go_simp; (try with_reducible rfl)
              simp only [Act.put, List.getElem_toArray, List.getElem_cons_succ, List.getElem_cons_zero, List.setIfInBounds_toArray, List.set_cons_zero, List.set_cons_succ]
              have se := set8 (v0 := .string ⟨x0.toArray⟩) (v1 := .int .i64 x1) (v2 := .int .i64 x2) (v3 := .int .i64 x3) (v4 := .int .i64 x4) (v5 := .int .i64 x5) (v6 := .slice ao6 2 cp6) (v7 := .slice ao7 SL.length cp7) H9.out.2.1
              have hch : ((((((((w9.setCell ⟨rb, 0, none⟩ (.string ⟨x0.toArray⟩)).setCell ⟨rb, 1, none⟩ (.int .i64 x1)).setCell ⟨rb, 2, none⟩ (.int .i64 x2)).setCell ⟨rb, 3, none⟩ (.int .i64 x3)).setCell ⟨rb, 4, none⟩ (.int .i64 x4)).setCell ⟨rb, 5, none⟩ (.int .i64 x5)).setCell ⟨rb, 6, none⟩ (.slice ao6 2 cp6)).setCell ⟨rb, 7, none⟩ (.slice ao7 SL.length cp7)).drew.heap[rb]? = some (.cells #[.string ⟨x0.toArray⟩, .int .i64 x1, .int .i64 x2, .int .i64 x3, .int .i64 x4, .int .i64 x5, .slice ao6 2 cp6, .slice ao7 SL.length cp7] 66 (0, 0)) := (drew_heapM _ _).trans se.1
              have HE := Lib.hid (And.intro (And.intro hch se.2.drew) (And.intro H9.out.2.2.2.1 H9.out.2.2.2.2))
              have cr5 := cells_at H9.out.2.1
              have fr5 := free_at H9.out.2.1
              have lr5 := lt_of_at H9.out.2.1
              clear se hch
              refine wpAnyH_ready (rs := [3]) (by kernel_rfl) (by simp) ?_
              refine AllReadyH.cons rfl (fun K hK => ?_) AllReadyH.nil
              go_simp
              generalize ((((((((w9.setCell ⟨rb, 0, none⟩ (.string ⟨x0.toArray⟩)).setCell ⟨rb, 1, none⟩ (.int .i64 x1)).setCell ⟨rb, 2, none⟩ (.int .i64 x2)).setCell ⟨rb, 3, none⟩ (.int .i64 x3)).setCell ⟨rb, 4, none⟩ (.int .i64 x4)).setCell ⟨rb, 5, none⟩ (.int .i64 x5)).setCell ⟨rb, 6, none⟩ (.slice ao6 2 cp6)).setCell ⟨rb, 7, none⟩ (.slice ao7 SL.length cp7)).drew = W6 at HE ⊢
              have tcell : ∀ i, W6.cell? ⟨mb, i, none⟩ = w9.cell? ⟨mb, i, none⟩ := fun i => HE.out.1.2.cell l5 (by simp; omega)
              have qcell : W6.cell? ⟨cb, 0, none⟩ = w9.cell? ⟨cb, 0, none⟩ := HE.out.1.2.cell l5q (by simp; omega)
              have x8 := qcell.trans d8
              refine hK.out _ _ ⟨(tcell 0).trans d0, (tcell 1).trans d1, (tcell 2).trans d2, (tcell 3).trans d3, (tcell 4).trans d4, (tcell 5).trans d5, (tcell 6).trans d6, (tcell 7).trans d7, x8⟩ (fun hS => ?_)
              clear hK K
              try simp only [Act.put, List.getElem_toArray, List.getElem_cons_succ, List.getElem_cons_zero, List.setIfInBounds_toArray, List.set_cons_zero, List.set_cons_succ]
              refine wpAnyH_ready (rs := [4]) (by kernel_rfl) (by simp) ?_
              refine AllReadyH.cons rfl (fun K hK => ?_) AllReadyH.nil
              go_simp
              refine hK.out _ _ ⟨(tcell 0).trans d0, (tcell 1).trans d1, (tcell 2).trans d2, (tcell 3).trans d3, (tcell 4).trans d4, (tcell 5).trans d5, (tcell 6).trans d6, (tcell 7).trans d7, x8⟩ (fun hS => ?_)
              clear hK K
              try simp only [Act.put, List.getElem_toArray, List.getElem_cons_succ, List.getElem_cons_zero, List.setIfInBounds_toArray, List.set_cons_zero, List.set_cons_succ]
              refine wpAnyH_ready (rs := [5]) (by kernel_rfl) (by simp) ?_
              refine AllReadyH.cons rfl (fun K hK => ?_) AllReadyH.nil
              go_simp
              refine hK.out _ _ ⟨(tcell 0).trans d0, (tcell 1).trans d1, (tcell 2).trans d2, (tcell 3).trans d3, (tcell 4).trans d4, (tcell 5).trans d5, (tcell 6).trans d6, (tcell 7).trans d7, x8⟩ (fun hS => ?_)
              clear hK K
              refine wpAnyH_done (by kernel_rfl) ?_ _
              clear hS x8 d0 d1 d2 d3 d4 d5 d6 d7 d8 c5 g5 cr5 fr5 lr5 tcell qcell
              have hc := cells_at HE.out.1.1
              have hlr6 := lt_of_at HE.out.1.1
              have hwq := H9.out.2.2.2.2.size
              go_wp2_with fail
              refine bodyPost_ret (v := .tuple #[.agg #[.string ⟨x0.toArray⟩, .int .i64 x1, .int .i64 x2, .int .i64 x3, .int .i64 x4, .int .i64 x5, .slice ao6 2 cp6, .slice ao7 SL.length cp7], .string us, .int .i64 0]) ?_ rfl (show RTakeYes w m u0 _ _ from ⟨[.string ⟨x0.toArray⟩, .int .i64 x1, .int .i64 x2, .int .i64 x3, .int .i64 x4, .int .i64 x5, .slice ao6 2 cp6, .slice ao7 SL.length cp7], by rw [Hus.out], ?_, ?_⟩)
              · simp [results, Tryz.results89, go_sem, hc, hlr6]
              · exact (HE.out.2.1.out HE.out.1.2 H9.out.2.1).low (by omega)
              · exact HE.out.2.2.after HE.out.1.2 (fun x hx => .inr (by simp only [List.mem_singleton] at hx; omega))
          · have hRn : R = none := by rw [HRx.out]; unfold rTakeR; exact if_pos (.inl hg)
            subst hRn
            have he3 : (g0 == 0) = false := by simp [hg]
            have he4 : (g0 != 0) = true := by simp [hg]
            have Hgz := Lib.hid hg
            have H3 := Lib.hid (And.intro HE.out.1 (And.intro HE.out.2.1 HE.out.2.2.2.2))
            clear hg
            rcases hways with rfl | ⟨hlt, _⟩
            · go_upto_region 32 with fail
              clear cc lc fc cm lm he3 he4 HE
              obtain ⟨W5, hW5⟩ : ∃ W, W = wr := ⟨_, rfl⟩
              rw [← hW5] at H3 ⊢
              clear hW5
              have g5 := cells_at H3.out.1
              have l5 := lt_of_at H3.out.1
              have cr5 := cells_at H3.out.2.1
              have fr5 := free_at H3.out.2.1
              have lr5 := lt_of_at H3.out.2.1
              have d0 : W5.cell? ⟨cb, 1, none⟩ = some (.int .i64 g0) := by rw [g5]; rfl
              refine wp_region_held_drew (S := fun w' => w'.cell? ⟨cb, 1, none⟩ = some (.int .i64 g0) ∧ w'.cell? ⟨cb, 1, none⟩ = some (.int .i64 g0)) (by kernel_rfl) ⟨d0, d0⟩ (fun hS => ?_)
              refine wpAnyH_take (i := 0) (v := ?_) rfl (by kernel_rfl) (by kernel_rfl) (by kernel_rfl) (fun _ _ _ h => h) (Or.inl ⟨by rfl, ?_⟩) (by assumption) ?_
              rotate_left
              · intro w' hSw; obtain ⟨s1, s2⟩ := hSw; go_simp; (try with_reducible rfl)
              simp only [Act.put, List.getElem_toArray, List.getElem_cons_succ, List.getElem_cons_zero, List.setIfInBounds_toArray, List.set_cons_zero, List.set_cons_succ]
              refine wpAnyH_take (i := 1) (v := ?_) rfl (by kernel_rfl) (by kernel_rfl) (by kernel_rfl) (fun _ _ _ h => h) (Or.inl ⟨by rfl, ?_⟩) (by assumption) ?_
              rotate_left
              · intro w' hSw; obtain ⟨s1, s2⟩ := hSw; go_simp; (try with_reducible rfl)
              simp only [Act.put, List.getElem_toArray, List.getElem_cons_succ, List.getElem_cons_zero, List.setIfInBounds_toArray, List.set_cons_zero, List.set_cons_succ]
              refine wpAnyH_take (i := 2) (v := ?_) rfl (by kernel_rfl) (by kernel_rfl) (by kernel_rfl) (fun _ _ _ h => h) (Or.inl ⟨by rfl, ?_⟩) (by assumption) ?_
              rotate_left
              · intro w' hSw; obtain ⟨s1, s2⟩ := hSw; go_simp; (try with_reducible rfl)
              simp only [Act.put, List.getElem_toArray, List.getElem_cons_succ, List.getElem_cons_zero, List.setIfInBounds_toArray, List.set_cons_zero, List.set_cons_succ]
              have se := set8 (v0 := .string ⟨#[]⟩) (v1 := .int .i64 0) (v2 := .int .i64 0) (v3 := .int .i64 0) (v4 := .int .i64 0) (v5 := .int .i64 0) (v6 := .slice none 0 0) (v7 := .slice none 0 0) H3.out.2.1
              have hch : ((((((((W5.setCell ⟨rb, 0, none⟩ (.string ⟨#[]⟩)).setCell ⟨rb, 1, none⟩ (.int .i64 0)).setCell ⟨rb, 2, none⟩ (.int .i64 0)).setCell ⟨rb, 3, none⟩ (.int .i64 0)).setCell ⟨rb, 4, none⟩ (.int .i64 0)).setCell ⟨rb, 5, none⟩ (.int .i64 0)).setCell ⟨rb, 6, none⟩ (.slice none 0 0)).setCell ⟨rb, 7, none⟩ (.slice none 0 0)).drew.heap[rb]? = some (.cells #[.string ⟨#[]⟩, .int .i64 0, .int .i64 0, .int .i64 0, .int .i64 0, .int .i64 0, .slice none 0 0, .slice none 0 0] 66 (0, 0)) := (drew_heapM _ _).trans se.1
              have HE := Lib.hid (And.intro (And.intro hch se.2.drew) H3.out.2.2)
              clear se hch
              refine wpAnyH_ready (rs := [3]) (by kernel_rfl) (by simp) ?_
              refine AllReadyH.cons rfl (fun K hK => ?_) AllReadyH.nil
              go_simp
              generalize ((((((((W5.setCell ⟨rb, 0, none⟩ (.string ⟨#[]⟩)).setCell ⟨rb, 1, none⟩ (.int .i64 0)).setCell ⟨rb, 2, none⟩ (.int .i64 0)).setCell ⟨rb, 3, none⟩ (.int .i64 0)).setCell ⟨rb, 4, none⟩ (.int .i64 0)).setCell ⟨rb, 5, none⟩ (.int .i64 0)).setCell ⟨rb, 6, none⟩ (.slice none 0 0)).setCell ⟨rb, 7, none⟩ (.slice none 0 0)).drew = W6 at HE ⊢
              have x0 : W6.cell? ⟨cb, 1, none⟩ = some (.int .i64 g0) := (HE.out.1.2.cell l5 (by simp; omega)).trans d0
              refine hK.out _ _ ⟨x0, x0⟩ (fun hS => ?_)
              clear hK K
              try simp only [Act.put, List.getElem_toArray, List.getElem_cons_succ, List.getElem_cons_zero, List.setIfInBounds_toArray, List.set_cons_zero, List.set_cons_succ]
              refine wpAnyH_ready (rs := [4]) (by kernel_rfl) (by simp) ?_
              refine AllReadyH.cons rfl (fun K hK => ?_) AllReadyH.nil
              go_simp
              refine hK.out _ _ ⟨x0, x0⟩ (fun hS => ?_)
              clear hK K
              try simp only [Act.put, List.getElem_toArray, List.getElem_cons_succ, List.getElem_cons_zero, List.setIfInBounds_toArray, List.set_cons_zero, List.set_cons_succ]
              refine wpAnyH_ready (rs := [5]) (by kernel_rfl) (by simp) ?_
              refine AllReadyH.cons rfl (fun K hK => ?_) AllReadyH.nil
              go_simp
              refine hK.out _ _ ⟨x0, x0⟩ (fun hS => ?_)
              clear hK K
              refine wpAnyH_done (by kernel_rfl) ?_ _
              clear hS x0 d0 g5 cr5 fr5 lr5
              have hc := cells_at HE.out.1.1
              have hlr6 := lt_of_at HE.out.1.1
              go_wp2_with fail
              refine bodyPost_ret (v := .tuple #[.agg #[.string ⟨#[]⟩, .int .i64 0, .int .i64 0, .int .i64 0, .int .i64 0, .int .i64 0, .slice none 0 0, .slice none 0 0], .string ⟨#[]⟩, .int .i64 g0]) ?_ rfl (show RTakeNo w _ _ from ⟨g0, Hgz.out, rfl, ?_⟩)
              · simp [results, Tryz.results89, go_sem, hc, hlr6]
              · exact HE.out.2.after HE.out.1.2 (fun x hx => .inr (by simp only [List.mem_singleton] at hx; omega))
            · have hlt' : (j : Int) < (n : Int) := by omega
              go_upto_region 32 with fail
              clear cc lc fc cm lm he3 he4 HE
              obtain ⟨W5, hW5⟩ : ∃ W, W = wr := ⟨_, rfl⟩
              rw [← hW5] at H3 ⊢
              clear hW5
              have g5 := cells_at H3.out.1
              have l5 := lt_of_at H3.out.1
              have cr5 := cells_at H3.out.2.1
              have fr5 := free_at H3.out.2.1
              have lr5 := lt_of_at H3.out.2.1
              have d0 : W5.cell? ⟨cb, 1, none⟩ = some (.int .i64 g0) := by rw [g5]; rfl
              refine wp_region_held_drew (S := fun w' => w'.cell? ⟨cb, 1, none⟩ = some (.int .i64 g0) ∧ w'.cell? ⟨cb, 1, none⟩ = some (.int .i64 g0)) (by kernel_rfl) ⟨d0, d0⟩ (fun hS => ?_)
              refine wpAnyH_take (i := 0) (v := ?_) rfl (by kernel_rfl) (by kernel_rfl) (by kernel_rfl) (fun _ _ _ h => h) (Or.inl ⟨by rfl, ?_⟩) (by assumption) ?_
              rotate_left
              · intro w' hSw; obtain ⟨s1, s2⟩ := hSw; go_simp; (try with_reducible rfl)
              simp only [Act.put, List.getElem_toArray, List.getElem_cons_succ, List.getElem_cons_zero, List.setIfInBounds_toArray, List.set_cons_zero, List.set_cons_succ]
              refine wpAnyH_take (i := 1) (v := ?_) rfl (by kernel_rfl) (by kernel_rfl) (by kernel_rfl) (fun _ _ _ h => h) (Or.inl ⟨by rfl, ?_⟩) (by assumption) ?_
              rotate_left
              · intro w' hSw; obtain ⟨s1, s2⟩ := hSw; go_simp; (try with_reducible rfl)
              simp only [Act.put, List.getElem_toArray, List.getElem_cons_succ, List.getElem_cons_zero, List.setIfInBounds_toArray, List.set_cons_zero, List.set_cons_succ]
              refine wpAnyH_take (i := 2) (v := ?_) rfl (by kernel_rfl) (by kernel_rfl) (by kernel_rfl) (fun _ _ _ h => h) (Or.inl ⟨by rfl, ?_⟩) (by assumption) ?_
              rotate_left
              · intro w' hSw; obtain ⟨s1, s2⟩ := hSw; go_simp; (try with_reducible rfl)
              simp only [Act.put, List.getElem_toArray, List.getElem_cons_succ, List.getElem_cons_zero, List.setIfInBounds_toArray, List.set_cons_zero, List.set_cons_succ]
              have se := set8 (v0 := .string ⟨#[]⟩) (v1 := .int .i64 0) (v2 := .int .i64 0) (v3 := .int .i64 0) (v4 := .int .i64 0) (v5 := .int .i64 0) (v6 := .slice none 0 0) (v7 := .slice none 0 0) H3.out.2.1
              have hch : ((((((((W5.setCell ⟨rb, 0, none⟩ (.string ⟨#[]⟩)).setCell ⟨rb, 1, none⟩ (.int .i64 0)).setCell ⟨rb, 2, none⟩ (.int .i64 0)).setCell ⟨rb, 3, none⟩ (.int .i64 0)).setCell ⟨rb, 4, none⟩ (.int .i64 0)).setCell ⟨rb, 5, none⟩ (.int .i64 0)).setCell ⟨rb, 6, none⟩ (.slice none 0 0)).setCell ⟨rb, 7, none⟩ (.slice none 0 0)).drew.heap[rb]? = some (.cells #[.string ⟨#[]⟩, .int .i64 0, .int .i64 0, .int .i64 0, .int .i64 0, .int .i64 0, .slice none 0 0, .slice none 0 0] 66 (0, 0)) := (drew_heapM _ _).trans se.1
              have HE := Lib.hid (And.intro (And.intro hch se.2.drew) H3.out.2.2)
              clear se hch
              refine wpAnyH_ready (rs := [3]) (by kernel_rfl) (by simp) ?_
              refine AllReadyH.cons rfl (fun K hK => ?_) AllReadyH.nil
              go_simp
              generalize ((((((((W5.setCell ⟨rb, 0, none⟩ (.string ⟨#[]⟩)).setCell ⟨rb, 1, none⟩ (.int .i64 0)).setCell ⟨rb, 2, none⟩ (.int .i64 0)).setCell ⟨rb, 3, none⟩ (.int .i64 0)).setCell ⟨rb, 4, none⟩ (.int .i64 0)).setCell ⟨rb, 5, none⟩ (.int .i64 0)).setCell ⟨rb, 6, none⟩ (.slice none 0 0)).setCell ⟨rb, 7, none⟩ (.slice none 0 0)).drew = W6 at HE ⊢
              have x0 : W6.cell? ⟨cb, 1, none⟩ = some (.int .i64 g0) := (HE.out.1.2.cell l5 (by simp; omega)).trans d0
              refine hK.out _ _ ⟨x0, x0⟩ (fun hS => ?_)
              clear hK K
              try simp only [Act.put, List.getElem_toArray, List.getElem_cons_succ, List.getElem_cons_zero, List.setIfInBounds_toArray, List.set_cons_zero, List.set_cons_succ]
              refine wpAnyH_ready (rs := [4]) (by kernel_rfl) (by simp) ?_
              refine AllReadyH.cons rfl (fun K hK => ?_) AllReadyH.nil
              go_simp
              refine hK.out _ _ ⟨x0, x0⟩ (fun hS => ?_)
              clear hK K
              try simp only [Act.put, List.getElem_toArray, List.getElem_cons_succ, List.getElem_cons_zero, List.setIfInBounds_toArray, List.set_cons_zero, List.set_cons_succ]
              refine wpAnyH_ready (rs := [5]) (by kernel_rfl) (by simp) ?_
              refine AllReadyH.cons rfl (fun K hK => ?_) AllReadyH.nil
              go_simp
              refine hK.out _ _ ⟨x0, x0⟩ (fun hS => ?_)
              clear hK K
              refine wpAnyH_done (by kernel_rfl) ?_ _
              clear hS x0 d0 g5 cr5 fr5 lr5
              have hc := cells_at HE.out.1.1
              have hlr6 := lt_of_at HE.out.1.1
              go_wp2_with fail
              refine bodyPost_ret (v := .tuple #[.agg #[.string ⟨#[]⟩, .int .i64 0, .int .i64 0, .int .i64 0, .int .i64 0, .int .i64 0, .slice none 0 0, .slice none 0 0], .string ⟨#[]⟩, .int .i64 g0]) ?_ rfl (show RTakeNo w _ _ from ⟨g0, Hgz.out, rfl, ?_⟩)
              · simp [results, Tryz.results89, go_sem, hc, hlr6]
              · exact HE.out.2.after HE.out.1.2 (fun x hx => .inr (by simp only [List.mem_singleton] at hx; omega))
end Go.Proofs.YtjffdcflkkgpfaaGreat

namespace Go.Proofs.YtjffdcflkkgpfaaGreat
open Go Go.RowKit

/-- The document's meta: its values, its rows in memory of the walk's own. -/
def MetaQ (base : Nat) (w : World) (vs : List Value) (m : MetaS) : Prop :=
  ∃ vf vo, vs = [.string m.id, .int .i64 m.mn, .int .i64 m.mx, .int .i64 m.level, .int .i64 m.series, .int .i64 m.samples, vf, vo] ∧ w.ownsRow base 170 3 vf m.files.length (m.files.flatMap encFile) ∧ w.ownsRow base 9 1 vo m.sources.length (m.sources.flatMap encS1m)

theorem MetaQ.same {base : Nat} {w w' : World} {vs : List Value} {m : MetaS} (h : MetaQ base w vs m) (k : Keeps [] w w') : MetaQ base w' vs m := by
  obtain ⟨vf, vo, e, h1, h2⟩ := h
  exact ⟨vf, vo, e, k.row h1 (by simp), k.row h2 (by simp)⟩

theorem MetaQ.low {B B' : Nat} {w : World} {vs : List Value} {m : MetaS} (h : MetaQ B w vs m) (hB : B' ≤ B) : MetaQ B' w vs m := by
  obtain ⟨vf, vo, e, h1, h2⟩ := h
  exact ⟨vf, vo, e, row_base h1 hB, row_base h2 hB⟩

theorem MetaQ.out {base b : Nat} {w w' : World} {vs : List Value} {m : MetaS} {cs : Array Value} {t : TypeId} {z : Nat × Nat} (h : MetaQ base w vs m) (k : Keeps [b] w w') (hb : w.heap[b]? = some (.cells cs t z)) (h1 : t ≠ 170) (h2 : t ≠ 9) : MetaQ base w' vs m := by
  obtain ⟨vf, vo, e, r1, r2⟩ := h
  exact ⟨vf, vo, e, k.row r1 (fun g hg => by have := row_ne_type r1 hb h1 g hg; simpa using this), k.row r2 (fun g hg => by have := row_ne_type r2 hb h2 g hg; simpa using this)⟩

theorem MetaQ.keepRow {b base s n : Nat} {e : TypeId} {w w' : World} {vs xs : List Value} {v : Value} {m : MetaS} (h : MetaQ base w vs m) (hr : w.ownsRow b e s v n xs) (k : Keeps v.ownBlock.toList w w') (h1 : e ≠ 170) (h2 : e ≠ 9) : MetaQ base w' vs m := by
  obtain ⟨vf, vo, e, r1, r2⟩ := h
  exact ⟨vf, vo, e, k.row r1 (rows_neM hr r1 h1), k.row r2 (rows_neM hr r2 h2)⟩

theorem MetaQ.metaV {B : Nat} {w : World} {vs : List Value} {m : MetaS} (h : MetaQ B w vs m) : MetaV B w vs m := by
  obtain ⟨vf, vo, e, r1, r2⟩ := h
  exact ⟨vf, vo, e, sliceFrom_row (fun _ => rfl) r1, sliceFrom_row (fun _ => rfl) r2⟩

theorem MetaQT.metaQ {B : Nat} {w : World} {vs : List Value} {m : MetaT} (h : MetaQT B w vs m) (hp : PosT m) : MetaQ B w vs (fromT m) := by
  obtain ⟨vf, vo, e, h1, h2⟩ := h
  obtain ⟨p1, p2, p3, p4, p5, p6⟩ := hp
  refine ⟨vf, vo, ?_, ?_, ?_⟩
  · rw [e]
    unfold fromT
    simp only [Int.toNat_of_nonneg p1, Int.toNat_of_nonneg p2, Int.toNat_of_nonneg p3, Int.toNat_of_nonneg p4, Int.toNat_of_nonneg p5]
  · show World.ownsRow w B _ 3 vf (m.files.map _).length ((m.files.map _).flatMap encFile)
    rw [List.length_map, flatFile_from m.files (fun f hf => ⟨(p6 f hf).1, (p6 f hf).2.1⟩)]
    exact h1
  · show World.ownsRow w B _ 1 vo (m.sources.map _).length ((m.sources.map _).flatMap encS1m)
    rw [List.length_map, flatSrc_from]
    exact h2

theorem rTakeR_some {F : MetaT × Tk} {m : MetaT} {l : List UInt8} (h : rTakeR F = some (m, l)) : F = (m, (l, 0)) ∧ okT m = true := by
  unfold rTakeR at h
  split at h
  · cases h
  · rename_i hn
    simp only [Option.some.injEq, Prod.mk.injEq] at h
    obtain ⟨rfl, rfl⟩ := h
    refine ⟨?_, ?_⟩
    · obtain ⟨m, l, e⟩ := F
      have : e = 0 := Classical.byContradiction fun h => hn (.inl h)
      rw [this]
    · cases h : okT F.1 with
      | true => rfl
      | false => exact absurd (.inr h) hn

theorem rTakeR_none {F : MetaT × Tk} (h : rTakeR F = none) : F.2.2 ≠ 0 ∨ okT F.1 = false := by
  unfold rTakeR at h
  split at h
  · assumption
  · cases h

def RDecNo (w : World) (e : Ending) (w' : World) : Prop := ∃ c : Int, c ≠ 0 ∧ e = .returned (.tuple #[zeroT, .int .i64 c]) ∧ Keeps [] w w'

def RDecYes (w : World) (M : MetaS) (e : Ending) (w' : World) : Prop := ∃ vs, e = .returned (.tuple #[.agg vs.toArray, .int .i64 0]) ∧ MetaQ w.heap.size w' vs M ∧ Keeps [] w w'

def RDecPost (w : World) (r : Option MetaS) (e : Ending) (w' : World) : Prop := match r with
  | some M => RDecYes w M e w'
  | none => RDecNo w e w'


set_option linter.unusedSimpArgs false in
set_option maxRecDepth 100000 in
set_option maxHeartbeats 4000000 in
theorem rDecode_spec (w : World) (s : ByteArray) (hs : s.size ≤ 1000000) :
    Calls Tryz.prog 49 #[.string s] w (RDecPost w (decS s.data.toList)) := by
  obtain ⟨R, hR⟩ : ∃ R, R = decS s.data.toList := ⟨_, rfl⟩
  obtain ⟨D, hD⟩ : ∃ D : List UInt8 × Int, D = onlyL s.data.toList 1 := ⟨_, rfl⟩
  have hsl : s.data.toList.length ≤ 1000000 := by rw [dsize]; exact hs
  have hDl : D.1.length ≤ 1000000 := by rw [hD]; exact Nat.le_trans (onlyL_len _ _) hsl
  have Ho := Lib.hid (fun W => rOnly_spec W s hs 1)
  rw [← hD] at Ho
  have HR := Lib.hid hR
  have HD := Lib.hid hD
  rw [← hR]
  obtain ⟨d, er⟩ := D
  dsimp only at Ho hDl
  obtain ⟨rb, hrb⟩ : ∃ n, n = w.heap.size := ⟨_, rfl⟩
  have HB := Lib.hid hrb
  have hwr : w.heap.size ≤ rb := by omega
  have n0 := heap_new w (.cells #[.string ⟨#[]⟩, .int .i64 0, .int .i64 0, .int .i64 0, .int .i64 0, .int .i64 0, .slice none 0 0, .slice none 0 0] 66)
  have k0 : Keeps [] w (w.alloc (.cells #[.string ⟨#[]⟩, .int .i64 0, .int .i64 0, .int .i64 0, .int .i64 0, .int .i64 0, .slice none 0 0, .slice none 0 0] 66)) := (Keeps.refl [] w).alloc _
  rw [← hrb] at n0
  have H0 := Lib.hid (And.intro n0 k0)
  clear hR hD hsl hs hrb n0 k0
  go_enter Tryz.func49, Tryz.ntmps49
  go_wp2_with fail
  rw [← HB.out]
  generalize w.alloc (.cells #[.string ⟨#[]⟩, .int .i64 0, .int .i64 0, .int .i64 0, .int .i64 0, .int .i64 0, .slice none 0 0, .slice none 0 0] 66) = W at H0 ⊢
  refine (Ho.out W).mono ?_
  rintro e w1 ⟨x, rfl, hx, hk1⟩
  have nr1 := hk1.at_ H0.out.1 (by simp)
  have cr1 := cells_at nr1
  have fr1 := free_at nr1
  have lr1 := lt_of_at nr1
  have H1 := Lib.hid (And.intro nr1 (H0.out.2.trans hk1))
  clear nr1 hk1 H0 Ho
  dsimp only at hx ⊢
  by_cases he : er = 0
  · subst he
    have hxd : x.data.toList = d := by rw [hx rfl]
    have hxz : x.size ≤ 1000000 := by rw [← dsize, hxd]; exact hDl
    have Ht := Lib.hid (fun W => by
      have h := rTake_spec W x (by omega)
      rw [hxd] at h
      exact h)
    obtain ⟨F, hF⟩ : ∃ F, F = fieldsT (d, 0) := ⟨_, rfl⟩
    rw [← hF] at Ht
    have HF0 := Lib.hid hF
    have hpos : PosT F.1 := by rw [hF]; exact fieldsT_pos (d, 0)
    have Hpos := Lib.hid hpos
    clear hx hxd hxz hDl hF hpos cr1 fr1 lr1
    cases hr : rTakeR F with
    | none =>
      rw [hr] at Ht
      have hno := rTakeR_none hr
      have hRn : R = none := by
        rw [HR.out]
        exact decS_no (m := F.1) (l' := F.2.1) (er := F.2.2) (by rw [← HD.out]; exact HF0.out.symm) hno
      subst hRn
      clear hr hno
      go_wp2_with fail
      refine (Ht.out _).mono ?_
      rintro e w3 ⟨c, hc, rfl, hk3⟩
      have nr3 := hk3.at_ H1.out.1 (by simp)
      have ka : Keeps [] w3 (w3.alloc (.cells #[.string ⟨#[]⟩, .int .i64 0, .int .i64 0, .int .i64 0, .int .i64 0, .int .i64 0, .slice none 0 0, .slice none 0 0] 66)) := (Keeps.refl [] w3).alloc _
      have na := heap_new w3 (.cells #[.string ⟨#[]⟩, .int .i64 0, .int .i64 0, .int .i64 0, .int .i64 0, .int .i64 0, .slice none 0 0, .slice none 0 0] 66)
      have HF := Lib.hid (And.intro (ka.at_ nr3 (by simp)) (And.intro hc ((H1.out.2.trans hk3).trans ka)))
      have hc1 : (c == 0) = false := by simp [hc]
      have hc2 : (c != 0) = true := by simp [hc]
      have ca := cells_at na
      have la := lt_of_at na
      have cr := cells_at HF.out.1
      have fr := free_at HF.out.1
      have lr := lt_of_at HF.out.1
      clear nr3 ka na hk3 hc H1
      unfold zeroT
      go_wp2_with fail
      clear cr fr lr ca la
      have se := set8 (v0 := .string ⟨#[]⟩) (v1 := .int .i64 0) (v2 := .int .i64 0) (v3 := .int .i64 0) (v4 := .int .i64 0) (v5 := .int .i64 0) (v6 := .slice none 0 0) (v7 := .slice none 0 0) HF.out.1
      have hc := cells_at se.1
      have hlr := lt_of_at se.1
      refine bodyPost_ret (v := .tuple #[.agg #[.string ⟨#[]⟩, .int .i64 0, .int .i64 0, .int .i64 0, .int .i64 0, .int .i64 0, .slice none 0 0, .slice none 0 0], .int .i64 c]) ?_ rfl (show RDecNo w _ _ from ⟨c, HF.out.2.1, rfl, HF.out.2.2.after se.2 (fun x hx => .inr (by simp only [List.mem_singleton] at hx; omega))⟩)
      simp [results, Tryz.results49, go_sem, hc, hlr]
    | some p =>
      obtain ⟨m, l⟩ := p
      rw [hr] at Ht
      obtain ⟨hFe, hok⟩ := rTakeR_some hr
      have hfd : fieldsT ((onlyL s.data.toList 1).1, 0) = (m, (l, 0)) := by rw [← HD.out, ← hFe]; exact HF0.out.symm
      have hpm : PosT m := by have := Hpos.out; rw [hFe] at this; exact this
      have Hm := Lib.hid (And.intro hok hpm)
      obtain ⟨ls, hls⟩ : ∃ b : ByteArray, b = ⟨l.toArray⟩ := ⟨_, rfl⟩
      have Hls := Lib.hid hls
      clear hr hFe hok hpm Hpos HF0
      by_cases hl : l = []
      · have hRn : R = some (fromT m) := by
          rw [HR.out]
          exact decS_yes (by rw [← HD.out]) (by rw [hfd, hl]) Hm.out.1
        subst hRn
        obtain ⟨z1, z2⟩ := is_empty (s := ls) (by rw [hls, hl]; rfl)
        clear hfd hls hl
        go_wp2_with fail
        refine (Ht.out _).mono ?_
        rintro e w3 ⟨vs, rfl, hm3, hk3⟩
        rw [← Hls.out]
        have hvs := hm3
        obtain ⟨vf, vo, rfl, hsf, hso⟩ := hvs
        obtain ⟨af, cf, rfl, -, -, -⟩ := row_slice hsf
        obtain ⟨ao, co, rfl, -, -, -⟩ := row_slice hso
        have nr3 := hk3.at_ H1.out.1 (by simp)
        have ka : Keeps [] w3 (w3.alloc (.cells #[.string ⟨m.id.toArray⟩, .int .i64 m.mn, .int .i64 m.mx, .int .i64 m.level, .int .i64 m.series, .int .i64 m.samples, .slice af m.files.length cf, .slice ao m.sources.length co] 66)) := (Keeps.refl [] w3).alloc _
        have na := heap_new w3 (.cells #[.string ⟨m.id.toArray⟩, .int .i64 m.mn, .int .i64 m.mx, .int .i64 m.level, .int .i64 m.series, .int .i64 m.samples, .slice af m.files.length cf, .slice ao m.sources.length co] 66)
        have hw1 := H1.out.2.size
        have hrl := lt_of_at H1.out.1
        have HF := Lib.hid (And.intro (ka.at_ nr3 (by simp)) (And.intro ((hm3.same ka).metaQ Hm.out.2) ((H1.out.2.trans hk3).trans ka)))
        have ca := cells_at na
        have la := lt_of_at na
        have cr := cells_at HF.out.1
        have fr := free_at HF.out.1
        have lr := lt_of_at HF.out.1
        clear nr3 ka na hk3 hm3 H1
        go_wp2_with fail
        clear cr fr lr ca la
        have se := set8 (v0 := .string ⟨m.id.toArray⟩) (v1 := .int .i64 m.mn) (v2 := .int .i64 m.mx) (v3 := .int .i64 m.level) (v4 := .int .i64 m.series) (v5 := .int .i64 m.samples) (v6 := .slice af m.files.length cf) (v7 := .slice ao m.sources.length co) HF.out.1
        have hc := cells_at se.1
        have hlr := lt_of_at se.1
        refine bodyPost_ret (v := .tuple #[.agg #[.string ⟨m.id.toArray⟩, .int .i64 m.mn, .int .i64 m.mx, .int .i64 m.level, .int .i64 m.series, .int .i64 m.samples, .slice af m.files.length cf, .slice ao m.sources.length co], .int .i64 0]) ?_ rfl (show RDecYes w _ _ _ from ⟨[.string ⟨m.id.toArray⟩, .int .i64 m.mn, .int .i64 m.mx, .int .i64 m.level, .int .i64 m.series, .int .i64 m.samples, .slice af m.files.length cf, .slice ao m.sources.length co], rfl, (HF.out.2.1.out se.2 HF.out.1 (by decide) (by decide)).low hw1, HF.out.2.2.after se.2 (fun x hx => .inr (by simp only [List.mem_singleton] at hx; omega))⟩)
        simp [results, Tryz.results49, go_sem, hc, hlr]
      · have hRn : R = none := by rw [HR.out]; exact decS_rest hfd hl
        subst hRn
        obtain ⟨z1, z2⟩ := ne_empty (s := ls) (by rw [hls]; intro e; exact hl (List.eq_nil_of_length_eq_zero e))
        clear hfd hls hl
        go_wp2_with fail
        refine (Ht.out _).mono ?_
        rintro e w3 ⟨vs, rfl, hm3, hk3⟩
        rw [← Hls.out]
        obtain ⟨vf, vo, rfl, hsf, hso⟩ := hm3
        obtain ⟨af, cf, rfl, -, -, -⟩ := row_slice hsf
        obtain ⟨ao, co, rfl, -, -, -⟩ := row_slice hso
        have nr3 := hk3.at_ H1.out.1 (by simp)
        have ka : Keeps [] w3 (w3.alloc (.cells #[.string ⟨m.id.toArray⟩, .int .i64 m.mn, .int .i64 m.mx, .int .i64 m.level, .int .i64 m.series, .int .i64 m.samples, .slice af m.files.length cf, .slice ao m.sources.length co] 66)) := (Keeps.refl [] w3).alloc _
        have HF := Lib.hid (And.intro (ka.at_ nr3 (by simp)) ((H1.out.2.trans hk3).trans ka))
        have cr := cells_at HF.out.1
        have fr := free_at HF.out.1
        have lr := lt_of_at HF.out.1
        clear nr3 ka hk3 H1
        go_wp2_with fail
        clear cr fr lr
        have se := set8 (v0 := .string ⟨#[]⟩) (v1 := .int .i64 0) (v2 := .int .i64 0) (v3 := .int .i64 0) (v4 := .int .i64 0) (v5 := .int .i64 0) (v6 := .slice none 0 0) (v7 := .slice none 0 0) HF.out.1
        have hc := cells_at se.1
        have hlr := lt_of_at se.1
        refine bodyPost_ret (v := .tuple #[.agg #[.string ⟨#[]⟩, .int .i64 0, .int .i64 0, .int .i64 0, .int .i64 0, .int .i64 0, .slice none 0 0, .slice none 0 0], .int .i64 3]) ?_ rfl (show RDecNo w _ _ from ⟨3, by decide, rfl, HF.out.2.after se.2 (fun x hx => .inr (by simp only [List.mem_singleton] at hx; omega))⟩)
        simp [results, Tryz.results49, go_sem, hc, hlr]
  · have hRn : R = none := by rw [HR.out]; exact decS_only (by rw [← HD.out]; exact he)
    subst hRn
    have hc1 : (er == 0) = false := by simp [he]
    have hc2 : (er != 0) = true := by simp [he]
    have He := Lib.hid he
    have HF := H1
    clear he hx H1
    go_wp2_with fail
    clear cr1 fr1 lr1
    have se := set8 (v0 := .string ⟨#[]⟩) (v1 := .int .i64 0) (v2 := .int .i64 0) (v3 := .int .i64 0) (v4 := .int .i64 0) (v5 := .int .i64 0) (v6 := .slice none 0 0) (v7 := .slice none 0 0) HF.out.1
    have hc := cells_at se.1
    have hlr := lt_of_at se.1
    refine bodyPost_ret (v := .tuple #[.agg #[.string ⟨#[]⟩, .int .i64 0, .int .i64 0, .int .i64 0, .int .i64 0, .int .i64 0, .slice none 0 0, .slice none 0 0], .int .i64 er]) ?_ rfl (show RDecNo w _ _ from ⟨er, He.out, rfl, HF.out.2.after se.2 (fun x hx => .inr (by simp only [List.mem_singleton] at hx; omega))⟩)
    simp [results, Tryz.results49, go_sem, hc, hlr]
end Go.Proofs.YtjffdcflkkgpfaaGreat
