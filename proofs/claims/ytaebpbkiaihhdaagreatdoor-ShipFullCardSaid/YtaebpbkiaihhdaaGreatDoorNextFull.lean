/-
  ship.Next on a disk of any room, where no number was told yet.
  No condition beyond those that each theorem states.
-/
import Derived.Test.YtaebpbkiaihhdaaGreatDoorSaveLaw
import Derived.Test.YtaebpbkiaihhdaaGreatDoorNoted
namespace Go.Proofs.YtaebpbkiaihhdaaGreatDoor
open Go Go.RowKit

def nextS (room : Nat) (Q : List (Int × Bool)) (o : List (ByteArray × Ob)) : OpS := if (7 : Int) > (room : Int) - used o then (7, Q, o) else freshS room Q o seqB (F 1)

set_option linter.unusedSimpArgs false in
set_option maxRecDepth 100000 in
set_option maxHeartbeats 1000000 in
theorem nextFull_spec (w : World) (d f c mb : Nat) (armed : Bool) (Q : List (Int × Bool)) (room : Nat) (o : List (ByteArray × Ob)) (h : DiskAt w d f c mb armed Q room o) (t : Nat) (ht : t < 1099511627776) (hl : look o seqB = none) :
    Calls Tryz.prog 30 #[.pointer (some ⟨d, 0, none⟩), .int .i64 t] w (NextIs w d f c mb room t 1 (nextS room Q o)) := by
  have Hr := Lib.hid (read_spec w d f c mb armed Q room o h seqB)
  have H0 := Lib.hid h
  clear h
  · rw [hl] at Hr
    simp only [Option.isSome_none] at Hr
    clear hl
    unfold seqB at Hr
    go_enter Tryz.func30, Tryz.ntmps30
    go_wp2_with fail
    refine Hr.out.mono ?_
    rintro e W ⟨rfl, hk0⟩
    have H := Lib.hid (And.intro (H0.out.same hk0) hk0)
    clear hk0
    simp only [Bool.false_eq_true, if_false]
    have hadd : True := trivial
    have Hmk := Lib.hid (make_spec W t 1 ht (by decide))
    have hml : 1 ≤ 1000000 := by decide
    go_wp2_with fail
    refine Hmk.out.mono ?_
    rintro e w4 ⟨rfl, hk4⟩
    have H4 := Lib.hid (H.out.2.trans hk4)
    have Hd4 := Lib.hid (H.out.1.same hk4)
    clear hk4
    go_wp2_with fail
    refine (uint_spec w4 (.slice none 0 0) [] 1 (by omega) (by simp) (buf_nil w4)).mono ?_
    rintro e w5 ⟨v5, rfl, hb5, ht5⟩
    rw [List.nil_append] at hb5
    have hconv := hb5.run_string
    obtain ⟨ls, hls⟩ : ∃ s : ByteArray, s = ⟨(lebL 1).toArray⟩ := ⟨_, rfl⟩
    have Hls := Lib.hid (And.intro hls (And.intro (show ls.data.toList = lebL 1 from by rw [hls]) (show ls.size ≤ 10 from by rw [hls]; exact lebL_len10 (v := 1) (by omega))))
    rw [← hls] at hconv
    have k5 := (ht5.fresh (Keeps.refl [] w4) (by simp [Value.ownBlock])).1
    have H5 := Lib.hid (H4.out.trans k5)
    have Hd5 := Lib.hid (Hd4.out.same k5)
    clear hb5 ht5 k5 hls
    go_wp2_with fail
    refine (frameAppend_spec w5 (.slice none 0 0) [] 6 ls (by have := Hls.out.2.2; simp; omega) (buf_nil w5)).mono ?_
    rintro e w6 ⟨v6, rfl, hb6, ht6⟩
    rw [List.nil_append, Hls.out.2.1] at hb6
    have k6 := (ht6.fresh (Keeps.refl [] w5) (by simp [Value.ownBlock])).1
    have H6 := Lib.hid (H5.out.trans k6)
    have hd6 := Hd5.out.same k6
    have hlen : (frameL 6 (lebL 1)).length ≤ 100 := by
      rw [frameL_len]
      have h1 := lebL_len10 (v := 1) (by omega)
      have h2 := lebL_len10 (v := (lebL 1).length) (by omega)
      omega
    have hl7 : (frameL 6 (lebL 1)).length = 7 := F_len 1 (by decide)
    obtain ⟨ao6, cp6, rfl, hcp6, _⟩ := row_slice hb6
    have Hb6 := Lib.hid hb6
    have Hd6 := Lib.hid hd6
    have HF := Lib.hid (show F 1 = ⟨(frameL 6 (lebL 1)).toArray⟩ from rfl)
    clear hb6 ht6 k6 hd6 hconv hcp6
    generalize (frameL 6 (lebL 1)).length = L6 at hlen hl7 Hb6
    go_wp2_with fail
    refine (free_spec w6 d f c mb armed Q room o Hd6.out).mono ?_
    rintro e w7 ⟨rfl, nq, rfl⟩
    have hk7 := (Keeps.refl [] w6).drewN nq
    have Hd7 := Lib.hid (Hd6.out.same hk7)
    have hb7 : Buf (w6.drewN nq) (.slice ao6 L6 cp6) (frameL 6 (lebL 1)) := Hb6.out.same hk7
    have hconv := hb7.run_string
    rw [← HF.out] at hconv
    have H7 := Lib.hid (H6.out.trans hk7)
    have Hfr := Lib.hid (fresh_spec (w6.drewN nq) d f c mb armed Q room o Hd7.out seqB (F 1) (by decide))
    clear hk7 hb7
    generalize w6.drewN nq = w7 at hconv H7 Hd7 Hfr ⊢
    subst hl7
    by_cases hrm : (7 : Int) > (room : Int) - (used o : Int)
    · have HNS := Lib.hid (show nextS room Q o = (7, Q, o) from if_pos hrm)
      clear Hfr
      go_wp2_with fail
      go_ret2
      exact next_no (S := (7, Q, o)) HNS.out.symm (by show (7 : Int) ≠ 0; decide) Hd7.out (H7.out.mono (by simp))
    · have HNS := Lib.hid (show nextS room Q o = freshS room Q o seqB (F 1) from if_neg hrm)
      have hroom2 : ((7 : Nat) : Int) ≤ (room : Int) - (used o : Int) := by omega
      obtain ⟨S, hS⟩ : ∃ S, S = freshS room Q o seqB (F 1) := ⟨_, rfl⟩
      rw [← hS] at Hfr
      have HS := Lib.hid hS
      clear hS
      generalize F 1 = fm at hconv Hfr
      unfold seqB at Hfr
      go_wp2_with fail
      refine Hfr.out.mono ?_
      rintro e w8 ⟨rfl, a8, hd8, hk8⟩
      by_cases hz : S.1 = 0
      · have Hz := Lib.hid hz
        have hz1 : (S.1 != 0) = false := by simp [hz]
        have H8 := Lib.hid (And.intro hd8 ((H7.out.mono (S' := [f, c, mb, d]) (by simp)).trans hk8))
        clear hz hd8 hk8
        go_wp2_with fail
        go_ret2
        exact next_ok rfl (HS.out.trans HNS.out.symm) Hz.out H8.out.1 H8.out.2
      · have Hz := Lib.hid hz
        have hz1 : (S.1 != 0) = true := by simp [hz]
        have H8 := Lib.hid (And.intro hd8 ((H7.out.mono (S' := [f, c, mb, d]) (by simp)).trans hk8))
        clear hz hd8 hk8
        go_wp2_with fail
        go_ret2
        exact next_no (HS.out.trans HNS.out.symm) Hz.out H8.out.1 H8.out.2
end Go.Proofs.YtaebpbkiaihhdaaGreatDoor
