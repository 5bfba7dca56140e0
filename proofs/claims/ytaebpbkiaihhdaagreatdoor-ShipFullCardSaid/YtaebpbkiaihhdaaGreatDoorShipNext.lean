/-
  The name of a block that is made now (ship.Next).
  The contract holds for every world in which the disk's blocks are laid as DiskAt says, and the file of the last number is one that Next wrote, or none.

  The answers that the document fixes for layer 18 (barographlaw18.awake): true.
  No condition.
-/
import Derived.Test.YtaebpbkiaihhdaaGreatDoorFreshLaw
import Derived.Test.YtaebpbkiaihhdaaGreatDoorFrame
import Derived.Test.YtaebpbkiaihhdaaGreatDoorIdent
import Derived.Test.YtaebpbkiaihhdaaGreatDoorDiskCrash
namespace Go.Proofs.YtaebpbkiaihhdaaGreatDoor
open Go Go.RowKit Go.Conc

/-- 'seq' -/
def seqB : ByteArray := ⟨#[115, 101, 113]⟩

/-- The bytes of the file of the last number. -/
def F (n : Nat) : ByteArray := ⟨(frameL 6 (lebL n)).toArray⟩

/-- The last number that a disk tells. -/
def SeqAt (o : List (ByteArray × Ob)) (n : Nat) : Prop := n = 0 ∧ look o seqB = none ∨ ∃ k, look o seqB = some (F n, k)

def NextIs (w : World) (d f c mb room t n : Nat) (S : OpS) (e : Ending) (w' : World) : Prop :=
  e = .returned (if S.1 = 0 then .tuple #[.string ⟨(identL t n).toArray⟩, .int .i64 0] else .tuple #[.string ⟨#[]⟩, .int .i64 S.1]) ∧ ∃ a, DiskAt w' d f c mb a S.2.1 room S.2.2 ∧ Keeps [f, c, mb, d] w w'

theorem next_ok {w w' : World} {d f c mb room t n m : Nat} {a : Bool} {S T : OpS} (hm : m = n) (h : S = T) (hz : S.1 = 0) (hd : DiskAt w' d f c mb a S.2.1 room S.2.2) (k : Keeps [f, c, mb, d] w w') : NextIs w d f c mb room t n T (.returned (.tuple #[.string ⟨(identL t m).toArray⟩, .int .i64 0])) w' := by
  subst h hm
  exact ⟨by rw [if_pos hz], a, hd, k⟩

theorem next_no {w w' : World} {d f c mb room t n : Nat} {a : Bool} {S T : OpS} (h : S = T) (hz : S.1 ≠ 0) (hd : DiskAt w' d f c mb a S.2.1 room S.2.2) (k : Keeps [f, c, mb, d] w w') : NextIs w d f c mb room t n T (.returned (.tuple #[.string ⟨#[]⟩, .int .i64 S.1])) w' := by
  subst h
  exact ⟨by rw [if_neg hz], a, hd, k⟩

theorem F_len (n : Nat) (h : n < 128) : (F n).size = 7 := by
  show (frameL 6 (lebL n)).length = 7
  rw [frameL_len1 _ (by rw [lebL_small h]; simp), lebL_small h]
  rfl


set_option linter.unusedSimpArgs false in
set_option maxRecDepth 100000 in
set_option maxHeartbeats 1000000 in
theorem shipNext_spec (w : World) (d f c mb : Nat) (armed : Bool) (Q : List (Int × Bool)) (room : Nat) (o : List (ByteArray × Ob)) (h : DiskAt w d f c mb armed Q room o) (t n : Nat) (ht : t < 1099511627776) (hn : n < 1000000) (hs : SeqAt o n) (hroom : used o + 100 ≤ room) :
    Calls Tryz.prog 30 #[.pointer (some ⟨d, 0, none⟩), .int .i64 t] w (NextIs w d f c mb room t (n + 1) (freshS room Q o seqB (F (n + 1)))) := by
  have Hr := Lib.hid (read_spec w d f c mb armed Q room o h seqB)
  have H0 := Lib.hid h
  clear h
  rcases hs with ⟨rfl, hl⟩ | ⟨k, hl⟩
  · rw [hl] at Hr
    simp only [Option.isSome_none] at Hr
    clear hl
    unfold seqB at Hr
    go_enter Tryz.func30, Tryz.ntmps30
    go_wp2_with fail
    refine Hr.out.mono ?_
    rintro e W ⟨rfl, hk0⟩
    have H := Lib.hid (And.intro (H0.out.same hk0) hk0)
    clear hk0
    simp only [Bool.false_eq_true, if_false]
    have hadd : True := trivial
    have Hmk := Lib.hid (make_spec W t 1 ht (by decide))
    have hml : 1 ≤ 1000000 := by decide
    go_wp2_with fail
    refine Hmk.out.mono ?_
    rintro e w4 ⟨rfl, hk4⟩
    have H4 := Lib.hid (H.out.2.trans hk4)
    have Hd4 := Lib.hid (H.out.1.same hk4)
    clear hk4
    go_wp2_with fail
    refine (uint_spec w4 (.slice none 0 0) [] 1 (by omega) (by simp) (buf_nil w4)).mono ?_
    rintro e w5 ⟨v5, rfl, hb5, ht5⟩
    rw [List.nil_append] at hb5
    have hconv := hb5.run_string
    obtain ⟨ls, hls⟩ : ∃ s : ByteArray, s = ⟨(lebL 1).toArray⟩ := ⟨_, rfl⟩
    have Hls := Lib.hid (And.intro hls (And.intro (show ls.data.toList = lebL 1 from by rw [hls]) (show ls.size ≤ 10 from by rw [hls]; exact lebL_len10 (v := 1) (by omega))))
    rw [← hls] at hconv
    have k5 := (ht5.fresh (Keeps.refl [] w4) (by simp [Value.ownBlock])).1
    have H5 := Lib.hid (H4.out.trans k5)
    have Hd5 := Lib.hid (Hd4.out.same k5)
    clear hb5 ht5 k5 hls
    go_wp2_with fail
    refine (frameAppend_spec w5 (.slice none 0 0) [] 6 ls (by have := Hls.out.2.2; simp; omega) (buf_nil w5)).mono ?_
    rintro e w6 ⟨v6, rfl, hb6, ht6⟩
    rw [List.nil_append, Hls.out.2.1] at hb6
    have k6 := (ht6.fresh (Keeps.refl [] w5) (by simp [Value.ownBlock])).1
    have H6 := Lib.hid (H5.out.trans k6)
    have hd6 := Hd5.out.same k6
    have hlen : (frameL 6 (lebL 1)).length ≤ 100 := by
      rw [frameL_len]
      have h1 := lebL_len10 (v := 1) (by omega)
      have h2 := lebL_len10 (v := (lebL 1).length) (by omega)
      omega
    have hroom2 : ((frameL 6 (lebL 1)).length : Int) ≤ (room : Int) - (used o : Int) := by omega
    obtain ⟨ao6, cp6, rfl, hcp6, _⟩ := row_slice hb6
    have Hb6 := Lib.hid hb6
    have Hd6 := Lib.hid hd6
    have HF := Lib.hid (show F 1 = ⟨(frameL 6 (lebL 1)).toArray⟩ from rfl)
    clear hb6 ht6 k6 hd6 hconv hcp6
    generalize (frameL 6 (lebL 1)).length = L6 at hlen hroom2 Hb6
    go_wp2_with fail
    refine (free_spec w6 d f c mb armed Q room o Hd6.out).mono ?_
    rintro e w7 ⟨rfl, nq, rfl⟩
    have hk7 := (Keeps.refl [] w6).drewN nq
    have Hd7 := Lib.hid (Hd6.out.same hk7)
    have hb7 : Buf (w6.drewN nq) (.slice ao6 L6 cp6) (frameL 6 (lebL 1)) := Hb6.out.same hk7
    have hconv := hb7.run_string
    rw [← HF.out] at hconv
    have H7 := Lib.hid (H6.out.trans hk7)
    have Hfr := Lib.hid (fresh_spec (w6.drewN nq) d f c mb armed Q room o Hd7.out seqB (F 1) (by decide))
    clear hk7 hb7
    generalize w6.drewN nq = w7 at hconv H7 Hd7 Hfr ⊢
    obtain ⟨S, hS⟩ : ∃ S, S = freshS room Q o seqB (F 1) := ⟨_, rfl⟩
    rw [← hS] at Hfr
    have HS := Lib.hid hS
    clear hS
    generalize F 1 = fm at hconv Hfr
    unfold seqB at Hfr
    go_wp2_with fail
    refine Hfr.out.mono ?_
    rintro e w8 ⟨rfl, a8, hd8, hk8⟩
    by_cases hz : S.1 = 0
    · have Hz := Lib.hid hz
      have hz1 : (S.1 != 0) = false := by simp [hz]
      have H8 := Lib.hid (And.intro hd8 ((H7.out.mono (S' := [f, c, mb, d]) (by simp)).trans hk8))
      clear hz hd8 hk8
      go_wp2_with fail
      go_ret2
      exact next_ok rfl HS.out Hz.out H8.out.1 H8.out.2
    · have Hz := Lib.hid hz
      have hz1 : (S.1 != 0) = true := by simp [hz]
      have H8 := Lib.hid (And.intro hd8 ((H7.out.mono (S' := [f, c, mb, d]) (by simp)).trans hk8))
      clear hz hd8 hk8
      go_wp2_with fail
      go_ret2
      exact next_no HS.out Hz.out H8.out.1 H8.out.2
  · rw [hl] at Hr
    simp only [Option.isSome_some, if_true, obOr, Option.getD_some] at Hr
    clear hl
    have hdl : (F n).data.toList = frameL 6 (lebL n) := rfl
    have hnl : (lebL n).length ≤ 10 := lebL_len10 (by omega)
    have hn2 : (lebL (lebL n).length).length ≤ 10 := lebL_len10 (by omega)
    have hfl : (F n).size ≤ 100 := by
      show (frameL 6 (lebL n)).length ≤ 100
      rw [frameL_len]
      omega
    have Hnx := Lib.hid (fun w => next_spec w (F n) (by omega))
    have e1 := nextF_frame 6 (lebL n) [] (by omega)
    rw [List.append_nil] at e1
    rw [hdl, e1] at Hnx
    obtain ⟨ln, hln⟩ : ∃ s : ByteArray, s = ⟨(lebL n).toArray⟩ := ⟨_, rfl⟩
    have hlnd : ln.data.toList = lebL n := by rw [hln]
    have Htm := Lib.hid (fun w => takeMost_spec w ln (by rw [hln]; show (lebL n).length ≤ maxLen; unfold maxLen; omega) 1099511627774 (by decide))
    have e2 := takeM_leb (m := n) [] (most := 1099511627774) (by omega) (by decide)
    rw [List.append_nil] at e2
    rw [hlnd, e2] at Htm
    have Hln := Lib.hid hln
    clear hdl hnl hn2 hfl e1 e2 hln hlnd
    generalize F n = fn at Hr Hnx
    unfold seqB at Hr
    go_enter Tryz.func30, Tryz.ntmps30
    go_wp2_with fail
    refine Hr.out.mono ?_
    rintro e W0 ⟨rfl, hk0⟩
    go_wp2_with fail
    refine (Hnx.out W0).mono ?_
    rintro e W1 ⟨rfl, hk1⟩
    simp only [nextVals]
    rw [← Hln.out]
    have q2 := heap_new W1 (.cells #[.int .u8 6, .string ln] 116)
    have hk2 := (hk0.trans hk1).alloc (.cells #[.int .u8 6, .string ln] 116)
    have c2 := cells_at q2
    have l2 := lt_of_at q2
    go_wp2_with fail
    refine (Htm.out _).mono ?_
    rintro e W2 ⟨rfl, nq0, rfl⟩
    simp only [takeMVals]
    have hk3 := hk2.drewN nq0
    have H := Lib.hid (And.intro (H0.out.same hk3) hk3)
    clear hk0 hk1 hk2 hk3 q2 c2 l2
    generalize (W1.alloc (.cells #[.int .u8 6, .string ln] 116)).drewN nq0 = W at H ⊢
    have hadd : IntKind.i64.wrap ((n : Int) + 1) = ((n + 1 : Nat) : Int) := by rw [IntWalk.i64_in _ (by omega)]; omega
    have hcv : IntKind.u64.wrap (((n + 1 : Nat) : Int)) = ((n + 1 : Nat) : Int) := IntWalk.u64_in _ (by omega)
    have Hmk := Lib.hid (make_spec W t (n + 1) ht (by omega))
    obtain ⟨m, hm⟩ : ∃ m, m = n + 1 := ⟨_, rfl⟩
    rw [← hm] at hadd hcv Hmk
    have Hm := Lib.hid hm
    have hml : m ≤ 1000000 := by omega
    clear hm
    go_wp2_with fail
    refine Hmk.out.mono ?_
    rintro e w4 ⟨rfl, hk4⟩
    have H4 := Lib.hid (H.out.2.trans hk4)
    have Hd4 := Lib.hid (H.out.1.same hk4)
    clear hk4
    go_wp2_with fail
    refine (uint_spec w4 (.slice none 0 0) [] m (by omega) (by simp) (buf_nil w4)).mono ?_
    rintro e w5 ⟨v5, rfl, hb5, ht5⟩
    rw [List.nil_append] at hb5
    have hconv := hb5.run_string
    obtain ⟨ls, hls⟩ : ∃ s : ByteArray, s = ⟨(lebL m).toArray⟩ := ⟨_, rfl⟩
    have Hls := Lib.hid (And.intro hls (And.intro (show ls.data.toList = lebL m from by rw [hls]) (show ls.size ≤ 10 from by rw [hls]; exact lebL_len10 (v := m) (by omega))))
    rw [← hls] at hconv
    have k5 := (ht5.fresh (Keeps.refl [] w4) (by simp [Value.ownBlock])).1
    have H5 := Lib.hid (H4.out.trans k5)
    have Hd5 := Lib.hid (Hd4.out.same k5)
    clear hb5 ht5 k5 hls
    go_wp2_with fail
    refine (frameAppend_spec w5 (.slice none 0 0) [] 6 ls (by have := Hls.out.2.2; simp; omega) (buf_nil w5)).mono ?_
    rintro e w6 ⟨v6, rfl, hb6, ht6⟩
    rw [List.nil_append, Hls.out.2.1] at hb6
    have k6 := (ht6.fresh (Keeps.refl [] w5) (by simp [Value.ownBlock])).1
    have H6 := Lib.hid (H5.out.trans k6)
    have hd6 := Hd5.out.same k6
    have hlen : (frameL 6 (lebL m)).length ≤ 100 := by
      rw [frameL_len]
      have h1 := lebL_len10 (v := m) (by omega)
      have h2 := lebL_len10 (v := (lebL m).length) (by omega)
      omega
    have hroom2 : ((frameL 6 (lebL m)).length : Int) ≤ (room : Int) - (used o : Int) := by omega
    obtain ⟨ao6, cp6, rfl, hcp6, _⟩ := row_slice hb6
    have Hb6 := Lib.hid hb6
    have Hd6 := Lib.hid hd6
    have HF := Lib.hid (show F m = ⟨(frameL 6 (lebL m)).toArray⟩ from rfl)
    clear hb6 ht6 k6 hd6 hconv hcp6
    generalize (frameL 6 (lebL m)).length = L6 at hlen hroom2 Hb6
    go_wp2_with fail
    refine (free_spec w6 d f c mb armed Q room o Hd6.out).mono ?_
    rintro e w7 ⟨rfl, nq, rfl⟩
    have hk7 := (Keeps.refl [] w6).drewN nq
    have Hd7 := Lib.hid (Hd6.out.same hk7)
    have hb7 : Buf (w6.drewN nq) (.slice ao6 L6 cp6) (frameL 6 (lebL m)) := Hb6.out.same hk7
    have hconv := hb7.run_string
    rw [← HF.out] at hconv
    have H7 := Lib.hid (H6.out.trans hk7)
    have Hfr := Lib.hid (fresh_spec (w6.drewN nq) d f c mb armed Q room o Hd7.out seqB (F m) (by decide))
    clear hk7 hb7
    generalize w6.drewN nq = w7 at hconv H7 Hd7 Hfr ⊢
    obtain ⟨S, hS⟩ : ∃ S, S = freshS room Q o seqB (F m) := ⟨_, rfl⟩
    rw [← hS] at Hfr
    have HS := Lib.hid hS
    clear hS
    generalize F m = fm at hconv Hfr
    unfold seqB at Hfr
    go_wp2_with fail
    refine Hfr.out.mono ?_
    rintro e w8 ⟨rfl, a8, hd8, hk8⟩
    by_cases hz : S.1 = 0
    · have Hz := Lib.hid hz
      have hz1 : (S.1 != 0) = false := by simp [hz]
      have H8 := Lib.hid (And.intro hd8 ((H7.out.mono (S' := [f, c, mb, d]) (by simp)).trans hk8))
      clear hz hd8 hk8
      go_wp2_with fail
      go_ret2
      exact next_ok Hm.out (by rw [HS.out, Hm.out]) Hz.out H8.out.1 H8.out.2
    · have Hz := Lib.hid hz
      have hz1 : (S.1 != 0) = true := by simp [hz]
      have H8 := Lib.hid (And.intro hd8 ((H7.out.mono (S' := [f, c, mb, d]) (by simp)).trans hk8))
      clear hz hd8 hk8
      go_wp2_with fail
      go_ret2
      exact next_no (by rw [HS.out, Hm.out]) Hz.out H8.out.1 H8.out.2

end Go.Proofs.YtaebpbkiaihhdaaGreatDoor

namespace Go.Proofs.YtaebpbkiaihhdaaGreatDoor
open Go Go.RowKit Go.Conc

theorem step_quiet {S : OpS} {r : List (ByteArray × Ob) → Option Int} {g : List (ByteArray × Ob) → List (ByteArray × Ob)} (h : S.2.1 = [] ∧ S.1 ≠ 8) (hr : ∀ o, r o ≠ some 8) : (stepS S r g).2.1 = [] ∧ (stepS S r g).1 ≠ 8 := by
  unfold stepS
  split
  · have hr' := hr S.2.2
    simp only [h.1]
    cases hx : r S.2.2 with
    | none => exact ⟨rfl, by decide⟩
    | some n =>
      rw [hx] at hr'
      exact ⟨rfl, fun e => hr' (by simpa [opErr] using e)⟩
  · exact h

theorem noneR_ne (n : ByteArray) : ∀ o, noneR o n ≠ some 8 := fun o => by unfold noneR; split <;> simp

/-- Where no fault waits nothing fails. -/
theorem fresh_quiet {room : Nat} {o : List (ByteArray × Ob)} {name s : ByteArray} : (freshS room [] o name s).2.1 = [] ∧ (freshS room [] o name s).1 ≠ 8 := by
  unfold freshS
  refine step_quiet (step_quiet (step_quiet ?_ fun o => ?_) (noneR_ne _)) fun o => ?_
  · split
    · exact step_quiet ⟨rfl, by simp⟩ (noneR_ne _)
    · exact ⟨rfl, by simp⟩
  · unfold appR; split
    · simp
    · split <;> simp
  · unfold renR; split
    · split <;> simp
    · simp


theorem seq_ne : seqB ≠ tmpB := by decide

theorem seq_law {room : Nat} (Q : List (Int × Bool)) {o : List (ByteArray × Ob)} {n : Nat} (hn : n < 128) (hnd : (o.map (·.1)).Nodup) (hroom : used o + 7 ≤ room) :
    FreshInv o seqB (F n) (freshS room Q o seqB (F n)).2.2 ∧ ((freshS room Q o seqB (F n)).1 = 0 ∧ look (freshS room Q o seqB (F n)).2.2 seqB = some (F n, ((F n).size : Int)) ∨
      (freshS room Q o seqB (F n)).1 = 8 ∧ (look (freshS room Q o seqB (F n)).2.2 seqB = look o seqB ∨ look (freshS room Q o seqB (F n)).2.2 seqB = some (F n, ((F n).size : Int)))) := by
  obtain ⟨h1, h2⟩ := fresh_law (room := room) Q (o := o) (name := seqB) (s := F n) seq_ne (by decide) (by decide) hnd (by rw [F_len n hn]; exact hroom)
  exact ⟨h1, h2.imp (fun h => ⟨h.1, h.2.1⟩) id⟩


def idB (t n : Nat) : ByteArray := ⟨(identL t n).toArray⟩

theorem idB51 : (⟨(identL 5 1).toArray⟩ : ByteArray) = ⟨#[48, 48, 48, 48, 48, 48, 48, 53, 48, 48, 48, 48, 48, 48, 48, 49]⟩ := by decide

theorem idB52 : (⟨(identL 5 2).toArray⟩ : ByteArray) = ⟨#[48, 48, 48, 48, 48, 48, 48, 53, 48, 48, 48, 48, 48, 48, 48, 50]⟩ := by decide


set_option maxRecDepth 100000 in
set_option maxHeartbeats 1000000 in
theorem awake18_spec (w : World) :
    Calls Tryz.prog 10 #[] w fun e w' => e = .returned (.bool true) ∧ Keeps [] w w' := by
  have hl1 : lateB (parseL (identL 5 1)) 9 4 = true := by rw [parseL_ident (by decide) (by decide)]; rfl
  have hl2 : lateB (parseL (identL 5 1)) 8 4 = false := by rw [parseL_ident (by decide) (by decide)]; rfl
  have HL1 := Lib.hid (fun w => late_spec w ⟨(identL 5 1).toArray⟩ 9 4 (by decide))
  have HL2 := Lib.hid (fun w => late_spec w ⟨(identL 5 1).toArray⟩ 8 4 (by decide))
  simp only [hl1] at HL1
  simp only [hl2] at HL2
  rw [idB51] at HL1 HL2
  clear hl1 hl2
  go_enter Tryz.func10, Tryz.ntmps10
  go_wp2_with fail
  refine (newDisk_spec w 10000 (by decide)).mono ?_
  rintro e w1 ⟨d, f, c, mb, rfl, hd1', hk1, l1, l2, l3, l4⟩
  have hd1 : DiskAt w1 d f c mb false [] 10000 [] := hd1'
  clear hd1'
  obtain ⟨i1, s1⟩ := seq_law (room := 10000) [] (o := []) (n := 1) (by decide) (by simp) (by simp [used])
  obtain ⟨q1, q2⟩ := fresh_quiet (room := 10000) (o := []) (name := seqB) (s := F 1)
  have Hn1 := Lib.hid (shipNext_spec w1 d f c mb false [] 10000 [] hd1 5 0 (by decide) (by decide) (.inl ⟨rfl, rfl⟩) (by simp [used]))
  rw [show (0 + 1 : Nat) = 1 from rfl] at Hn1
  generalize freshS 10000 [] [] seqB (F 1) = S1 at i1 s1 q1 q2 Hn1
  have z1 : S1.1 = 0 := by rcases s1 with h | h; exact h.1; exact absurd h.1 q2
  have s1' : look S1.2.2 seqB = some (F 1, ((F 1).size : Int)) := by rcases s1 with h | h; exact h.2; exact absurd h.1 q2
  have u1 : used S1.2.2 ≤ 7 := by have := i1.used; rw [F_len 1 (by decide)] at this; simpa [used] using this
  have Hs1 := Lib.hid (And.intro i1.nodup (And.intro z1 (And.intro s1' (And.intro u1 q1))))
  have hk1' := Lib.hid (And.intro hk1 (And.intro l1 (And.intro l2 (And.intro l3 l4))))
  clear i1 s1 q1 q2 z1 s1' u1 hk1 hd1
  go_wp2_with fail
  refine Hn1.out.mono ?_
  rintro e w2 ⟨rfl, a2, hd2, hk2⟩
  rw [if_pos Hs1.out.2.1, idB51]
  rw [Hs1.out.2.2.2.2] at hd2
  obtain ⟨i2, s2⟩ := seq_law (room := 10000) [] (o := S1.2.2) (n := 2) (by decide) Hs1.out.1 (by have := Hs1.out.2.2.2.1; omega)
  obtain ⟨q1, q2⟩ := fresh_quiet (room := 10000) (o := S1.2.2) (name := seqB) (s := F 2)
  have Hn2 := Lib.hid (shipNext_spec w2 d f c mb a2 [] 10000 S1.2.2 hd2 5 1 (by decide) (by decide) (.inr ⟨_, Hs1.out.2.2.1⟩) (by have := Hs1.out.2.2.2.1; omega))
  rw [show (1 + 1 : Nat) = 2 from rfl] at Hn2
  generalize freshS 10000 [] S1.2.2 seqB (F 2) = S2 at i2 s2 q1 q2 Hn2
  have z2 : S2.1 = 0 := by rcases s2 with h | h; exact h.1; exact absurd h.1 q2
  have Hz2 := Lib.hid z2
  have hk02 := Lib.hid (show Keeps [] w w2 from hk1'.out.1.after hk2 (by have := hk1'.out; simp; omega))
  clear i2 s2 q1 q2 z2 hk2 hd2 l1 l2 l3 l4
  go_wp2_with fail
  refine Hn2.out.mono ?_
  rintro e w3 ⟨rfl, a3, hd3, hk3⟩
  rw [if_pos Hz2.out, idB52]
  have hk03 := Lib.hid (show Keeps [] w w3 from hk02.out.after hk3 (by have := hk1'.out; simp; omega))
  clear hk3 hd3
  go_wp2_with fail
  refine (HL1.out w3).mono ?_
  rintro e w4 ⟨rfl, rfl⟩
  go_wp2_with fail
  refine (HL2.out w3).mono ?_
  rintro e w4 ⟨rfl, rfl⟩
  go_wp2_with fail
  go_ret
  exact ⟨rfl, hk03.out⟩

end Go.Proofs.YtaebpbkiaihhdaaGreatDoor
