/-
  A file that is written all at once (wal.Fresh).
  The contract holds for every world in which the disk's blocks are laid as DiskAt says.
-/
import Derived.Test.YtfbmopganmljlaaFreshLaw
namespace Go.Proofs.Ytfbmopganmljlaa
open Go Go.RowKit Go.Conc

theorem stepS_stop {S : OpS} (h : S.1 ≠ 0) {r : List (ByteArray × Ob) → Option Int} {g : List (ByteArray × Ob) → List (ByteArray × Ob)} : stepS S r g = S := if_neg h

def FreshPost (w : World) (d f c mb room : Nat) (S : OpS) (e : Ending) (w' : World) : Prop :=
  e = .returned (.int .i64 S.1) ∧ ∃ a, DiskAt w' d f c mb a S.2.1 room S.2.2 ∧ Keeps [f, c, mb, d] w w'

theorem fresh_end {w w' : World} {d f c mb room : Nat} {a : Bool} {S T : OpS} (h : S = T) (hd : DiskAt w' d f c mb a T.2.1 room T.2.2) (k : Keeps [f, c, mb, d] w w') : FreshPost w d f c mb room S (.returned (.int .i64 T.1)) w' := by
  subst h
  exact ⟨rfl, _, hd, k⟩


set_option maxRecDepth 100000 in
set_option maxHeartbeats 1000000 in
theorem fresh_spec (w : World) (d f c mb : Nat) (armed : Bool) (Q : List (Int × Bool)) (room : Nat) (o : List (ByteArray × Ob)) (h : DiskAt w d f c mb armed Q room o) (name s : ByteArray) (hname : name.size ≤ 9223372036854775807) :
    Calls Try.prog 57 #[.pointer (some ⟨d, 0, none⟩), .string name, .string s] w (FreshPost w d f c mb room (freshS room Q o name s)) := by
  have Hr := Lib.hid (read_spec w d f c mb armed Q room o h tmpB)
  have H0 := Lib.hid h
  clear h
  go_enter Try.func57, Try.ntmps57
  go_wp2_with fail
  refine Hr.out.mono ?_
  rintro e w0 ⟨rfl, hk0⟩
  by_cases hs : (look o tmpB).isSome = true
  · rw [if_pos hs]
    have HS0 := Lib.hid (And.intro (H0.out.same hk0) (hk0.mono (S' := [f, c, mb, d]) (by simp)))
    clear hk0
    go_wp2_with fail
    refine (remove_spec _ d f c mb _ _ room _ HS0.out.1 tmpB).mono ?_
    rintro e wS1 ⟨rfl, hd1, hk1⟩
    obtain ⟨S1, hS1⟩ : ∃ T : OpS, T = (if (look o tmpB).isSome then stepS (0, Q, o) (fun o => noneR o tmpB) (fun o => del o tmpB) else (0, Q, o)) := ⟨_, rfl⟩
    have e1 : S1 = (opErr (noneR o tmpB) Q, opQ (noneR o tmpB) Q, opO (noneR o tmpB) Q o (del o tmpB)) := by rw [hS1, if_pos hs]; unfold stepS; rw [if_pos rfl]
    obtain ⟨aS1, hd1'⟩ : ∃ a, DiskAt wS1 d f c mb a S1.2.1 room S1.2.2 := ⟨_, by rw [e1]; exact hd1⟩
    have HS1 := Lib.hid (And.intro hd1' (HS0.out.2.trans hk1))
    have HE := Lib.hid hS1
    rw [show opErr (noneR o tmpB) Q = S1.1 from by rw [e1]]
    clear e1 hS1 hd1 hd1' hk1 hs
    by_cases hz : S1.1 = 0
    · have HzS1 := Lib.hid hz
      have hz1 : (S1.1 != 0) = false := by simp [hz]
      have hz2 : (S1.1 == 0) = true := by simp [hz]
      clear hz
      go_wp2_with fail
      refine (append_spec _ d f c mb _ _ room _ HS1.out.1 tmpB s (by decide)).mono ?_
      rintro e wT1 ⟨rfl, hdT1, hkT1⟩
      obtain ⟨T1, hT1⟩ : ∃ T : OpS, T = stepS S1 (fun o => appR room o tmpB s) (fun o => appO o tmpB s) := ⟨_, rfl⟩
      have eT1 : T1 = (opErr (appR room S1.2.2 tmpB s) S1.2.1, opQ (appR room S1.2.2 tmpB s) S1.2.1, opO (appR room S1.2.2 tmpB s) S1.2.1 S1.2.2 (appO S1.2.2 tmpB s)) := by rw [hT1]; unfold stepS; rw [if_pos HzS1.out]
      obtain ⟨aT1, hdT1'⟩ : ∃ a, DiskAt wT1 d f c mb a T1.2.1 room T1.2.2 := ⟨_, by rw [eT1]; exact hdT1⟩
      have HT1 := Lib.hid (And.intro hdT1' (And.intro (HS1.out.2.trans hkT1) hT1))
      rw [show opErr (appR room S1.2.2 tmpB s) S1.2.1 = T1.1 from by rw [eT1]]
      clear eT1 hT1 hdT1 hdT1' hkT1
      by_cases hz : T1.1 = 0
      · have HzT1 := Lib.hid hz
        have hz1 : (T1.1 != 0) = false := by simp [hz]
        have hz2 : (T1.1 == 0) = true := by simp [hz]
        clear hz
        go_wp2_with fail
        refine (sync_spec _ d f c mb _ _ room _ HT1.out.1 tmpB).mono ?_
        rintro e wT2 ⟨rfl, hdT2, hkT2⟩
        obtain ⟨T2, hT2⟩ : ∃ T : OpS, T = stepS T1 (fun o => noneR o tmpB) (fun o => syncO o tmpB) := ⟨_, rfl⟩
        have eT2 : T2 = (opErr (noneR T1.2.2 tmpB) T1.2.1, opQ (noneR T1.2.2 tmpB) T1.2.1, opO (noneR T1.2.2 tmpB) T1.2.1 T1.2.2 (syncO T1.2.2 tmpB)) := by rw [hT2]; unfold stepS; rw [if_pos HzT1.out]
        obtain ⟨aT2, hdT2'⟩ : ∃ a, DiskAt wT2 d f c mb a T2.2.1 room T2.2.2 := ⟨_, by rw [eT2]; exact hdT2⟩
        have HT2 := Lib.hid (And.intro hdT2' (And.intro (HT1.out.2.1.trans hkT2) hT2))
        rw [show opErr (noneR T1.2.2 tmpB) T1.2.1 = T2.1 from by rw [eT2]]
        clear eT2 hT2 hdT2 hdT2' hkT2
        by_cases hz : T2.1 = 0
        · have HzT2 := Lib.hid hz
          have hz1 : (T2.1 != 0) = false := by simp [hz]
          have hz2 : (T2.1 == 0) = true := by simp [hz]
          clear hz
          go_wp2_with fail
          refine (ren_spec _ d f c mb _ _ room _ HT2.out.1 tmpB name hname).mono ?_
          rintro e wT3 ⟨rfl, hdT3, hkT3⟩
          obtain ⟨T3, hT3⟩ : ∃ T : OpS, T = stepS T2 (fun o => renR o tmpB name) (fun o => renO o tmpB name) := ⟨_, rfl⟩
          have eT3 : T3 = (opErr (renR T2.2.2 tmpB name) T2.2.1, opQ (renR T2.2.2 tmpB name) T2.2.1, opO (renR T2.2.2 tmpB name) T2.2.1 T2.2.2 (renO T2.2.2 tmpB name)) := by rw [hT3]; unfold stepS; rw [if_pos HzT2.out]
          obtain ⟨aT3, hdT3'⟩ : ∃ a, DiskAt wT3 d f c mb a T3.2.1 room T3.2.2 := ⟨_, by rw [eT3]; exact hdT3⟩
          have HT3 := Lib.hid (And.intro hdT3' (And.intro (HT2.out.2.1.trans hkT3) hT3))
          rw [show opErr (renR T2.2.2 tmpB name) T2.2.1 = T3.1 from by rw [eT3]]
          clear eT3 hT3 hdT3 hdT3' hkT3
          go_wp2_with fail
          go_ret
          exact fresh_end (by unfold freshS; rw [← HE.out, ← HT1.out.2.2, ← HT2.out.2.2]; exact HT3.out.2.2.symm) HT3.out.1 HT3.out.2.1
        · have HzT2 := Lib.hid hz
          have hz1 : (T2.1 != 0) = true := by simp [hz]
          have hz2 : (T2.1 == 0) = false := by simp [hz]
          clear hz
          go_wp2_with fail
          go_ret
          exact fresh_end (by unfold freshS; rw [← HE.out, ← HT1.out.2.2, ← HT2.out.2.2, stepS_stop HzT2.out]) HT2.out.1 HT2.out.2.1
      · have HzT1 := Lib.hid hz
        have hz1 : (T1.1 != 0) = true := by simp [hz]
        have hz2 : (T1.1 == 0) = false := by simp [hz]
        clear hz
        go_wp2_with fail
        go_ret
        exact fresh_end (by unfold freshS; rw [← HE.out, ← HT1.out.2.2, stepS_stop HzT1.out, stepS_stop HzT1.out]) HT1.out.1 HT1.out.2.1
    · have HzS1 := Lib.hid hz
      have hz1 : (S1.1 != 0) = true := by simp [hz]
      have hz2 : (S1.1 == 0) = false := by simp [hz]
      clear hz
      go_wp2_with fail
      go_ret
      exact fresh_end (by unfold freshS; rw [← HE.out, stepS_stop HzS1.out, stepS_stop HzS1.out, stepS_stop HzS1.out]) HS1.out.1 HS1.out.2
  · rw [if_neg hs]
    obtain ⟨S1, hS1⟩ : ∃ T : OpS, T = (if (look o tmpB).isSome then stepS (0, Q, o) (fun o => noneR o tmpB) (fun o => del o tmpB) else (0, Q, o)) := ⟨_, rfl⟩
    have e1 : S1 = (0, Q, o) := by rw [hS1, if_neg hs]
    have hd1' : DiskAt w0 d f c mb armed S1.2.1 room S1.2.2 := by rw [e1]; exact H0.out.same hk0
    have HS1 := Lib.hid (And.intro hd1' (hk0.mono (S' := [f, c, mb, d]) (by simp)))
    have HE := Lib.hid hS1
    have HzS1 := Lib.hid (show S1.1 = 0 from by rw [e1])
    clear e1 hS1 hd1' hk0 hs
    go_wp2_with fail
    refine (append_spec _ d f c mb _ _ room _ HS1.out.1 tmpB s (by decide)).mono ?_
    rintro e wT1 ⟨rfl, hdT1, hkT1⟩
    obtain ⟨T1, hT1⟩ : ∃ T : OpS, T = stepS S1 (fun o => appR room o tmpB s) (fun o => appO o tmpB s) := ⟨_, rfl⟩
    have eT1 : T1 = (opErr (appR room S1.2.2 tmpB s) S1.2.1, opQ (appR room S1.2.2 tmpB s) S1.2.1, opO (appR room S1.2.2 tmpB s) S1.2.1 S1.2.2 (appO S1.2.2 tmpB s)) := by rw [hT1]; unfold stepS; rw [if_pos HzS1.out]
    obtain ⟨aT1, hdT1'⟩ : ∃ a, DiskAt wT1 d f c mb a T1.2.1 room T1.2.2 := ⟨_, by rw [eT1]; exact hdT1⟩
    have HT1 := Lib.hid (And.intro hdT1' (And.intro (HS1.out.2.trans hkT1) hT1))
    rw [show opErr (appR room S1.2.2 tmpB s) S1.2.1 = T1.1 from by rw [eT1]]
    clear eT1 hT1 hdT1 hdT1' hkT1
    by_cases hz : T1.1 = 0
    · have HzT1 := Lib.hid hz
      have hz1 : (T1.1 != 0) = false := by simp [hz]
      have hz2 : (T1.1 == 0) = true := by simp [hz]
      clear hz
      go_wp2_with fail
      refine (sync_spec _ d f c mb _ _ room _ HT1.out.1 tmpB).mono ?_
      rintro e wT2 ⟨rfl, hdT2, hkT2⟩
      obtain ⟨T2, hT2⟩ : ∃ T : OpS, T = stepS T1 (fun o => noneR o tmpB) (fun o => syncO o tmpB) := ⟨_, rfl⟩
      have eT2 : T2 = (opErr (noneR T1.2.2 tmpB) T1.2.1, opQ (noneR T1.2.2 tmpB) T1.2.1, opO (noneR T1.2.2 tmpB) T1.2.1 T1.2.2 (syncO T1.2.2 tmpB)) := by rw [hT2]; unfold stepS; rw [if_pos HzT1.out]
      obtain ⟨aT2, hdT2'⟩ : ∃ a, DiskAt wT2 d f c mb a T2.2.1 room T2.2.2 := ⟨_, by rw [eT2]; exact hdT2⟩
      have HT2 := Lib.hid (And.intro hdT2' (And.intro (HT1.out.2.1.trans hkT2) hT2))
      rw [show opErr (noneR T1.2.2 tmpB) T1.2.1 = T2.1 from by rw [eT2]]
      clear eT2 hT2 hdT2 hdT2' hkT2
      by_cases hz : T2.1 = 0
      · have HzT2 := Lib.hid hz
        have hz1 : (T2.1 != 0) = false := by simp [hz]
        have hz2 : (T2.1 == 0) = true := by simp [hz]
        clear hz
        go_wp2_with fail
        refine (ren_spec _ d f c mb _ _ room _ HT2.out.1 tmpB name hname).mono ?_
        rintro e wT3 ⟨rfl, hdT3, hkT3⟩
        obtain ⟨T3, hT3⟩ : ∃ T : OpS, T = stepS T2 (fun o => renR o tmpB name) (fun o => renO o tmpB name) := ⟨_, rfl⟩
        have eT3 : T3 = (opErr (renR T2.2.2 tmpB name) T2.2.1, opQ (renR T2.2.2 tmpB name) T2.2.1, opO (renR T2.2.2 tmpB name) T2.2.1 T2.2.2 (renO T2.2.2 tmpB name)) := by rw [hT3]; unfold stepS; rw [if_pos HzT2.out]
        obtain ⟨aT3, hdT3'⟩ : ∃ a, DiskAt wT3 d f c mb a T3.2.1 room T3.2.2 := ⟨_, by rw [eT3]; exact hdT3⟩
        have HT3 := Lib.hid (And.intro hdT3' (And.intro (HT2.out.2.1.trans hkT3) hT3))
        rw [show opErr (renR T2.2.2 tmpB name) T2.2.1 = T3.1 from by rw [eT3]]
        clear eT3 hT3 hdT3 hdT3' hkT3
        go_wp2_with fail
        go_ret
        exact fresh_end (by unfold freshS; rw [← HE.out, ← HT1.out.2.2, ← HT2.out.2.2]; exact HT3.out.2.2.symm) HT3.out.1 HT3.out.2.1
      · have HzT2 := Lib.hid hz
        have hz1 : (T2.1 != 0) = true := by simp [hz]
        have hz2 : (T2.1 == 0) = false := by simp [hz]
        clear hz
        go_wp2_with fail
        go_ret
        exact fresh_end (by unfold freshS; rw [← HE.out, ← HT1.out.2.2, ← HT2.out.2.2, stepS_stop HzT2.out]) HT2.out.1 HT2.out.2.1
    · have HzT1 := Lib.hid hz
      have hz1 : (T1.1 != 0) = true := by simp [hz]
      have hz2 : (T1.1 == 0) = false := by simp [hz]
      clear hz
      go_wp2_with fail
      go_ret
      exact fresh_end (by unfold freshS; rw [← HE.out, ← HT1.out.2.2, stepS_stop HzT1.out, stepS_stop HzT1.out]) HT1.out.1 HT1.out.2.1

end Go.Proofs.Ytfbmopganmljlaa
