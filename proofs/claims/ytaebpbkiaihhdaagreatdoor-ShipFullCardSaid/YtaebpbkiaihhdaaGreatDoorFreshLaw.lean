/-
  Plain laws of a file that is written all at once (wal.Fresh): under a name of its own first, then renamed. No program in sight.
  No condition beyond those that each theorem states.

  A file that is written all at once (wal.Fresh).
  The contract holds for every world in which the disk's blocks are laid as DiskAt says.
-/
import Derived.Test.YtaebpbkiaihhdaaGreatDoorDiskCall
namespace Go.Proofs.YtaebpbkiaihhdaaGreatDoor
open Go

/-- A run of calls: the error so far, the faults that wait, the files. -/
abbrev OpS := Int × List (Int × Bool) × List (ByteArray × Ob)

/-- One more call, if none has failed. -/
def stepS (S : OpS) (r : List (ByteArray × Ob) → Option Int) (g : List (ByteArray × Ob) → List (ByteArray × Ob)) : OpS :=
  if S.1 = 0 then (opErr (r S.2.2) S.2.1, opQ (r S.2.2) S.2.1, opO (r S.2.2) S.2.1 S.2.2 (g S.2.2)) else S

/-- 'tmp-wal' -/
def tmpB : ByteArray := ⟨#[116, 109, 112, 45, 119, 97, 108]⟩

def freshS (room : Nat) (Q : List (Int × Bool)) (o : List (ByteArray × Ob)) (name s : ByteArray) : OpS :=
  stepS (stepS (stepS (if (look o tmpB).isSome then stepS (0, Q, o) (fun o => noneR o tmpB) (fun o => del o tmpB) else (0, Q, o)) (fun o => appR room o tmpB s) (fun o => appO o tmpB s)) (fun o => noneR o tmpB) (fun o => syncO o tmpB)) (fun o => renR o tmpB name) (fun o => renO o tmpB name)


theorem opO_try (Q : List (Int × Bool)) (o o' : List (ByteArray × Ob)) : (opErr none Q = 0 ∧ opO none Q o o' = o') ∨ (opErr none Q = 8 ∧ (opO none Q o o' = o' ∨ opO none Q o o' = o)) := by
  unfold opErr opO chg ioErr
  cases hw : tryWorks Q with
  | true => simp [tryDone_of Q hw]
  | false => cases tryDone Q <;> simp


/-- What holds of the files while a file is written: where the call began from, what is written. -/
structure FreshInv (o0 : List (ByteArray × Ob)) (name s : ByteArray) (o : List (ByteArray × Ob)) : Prop where
  nodup : (o.map (·.1)).Nodup
  others : ∀ m, m ≠ name → m ≠ tmpB → look o m = look o0 m
  used : used o ≤ used o0 + s.size
  tmp : ∀ x, look o tmpB = some x → look o0 tmpB = some x ∨ x.1 = s
  keys : ∀ m ∈ o.map (·.1), m ∈ o0.map (·.1) ∨ m = tmpB ∨ m = name


theorem opO_nodup {o o' : List (ByteArray × Ob)} (r : Option Int) (Q : List (Int × Bool)) (h : (o.map (·.1)).Nodup) (h' : (o'.map (·.1)).Nodup) : ((opO r Q o o').map (·.1)).Nodup := by
  unfold opO chg
  split
  · exact h
  · split
    · exact h'
    · exact h

theorem FreshInv.put {o S : List (ByteArray × Ob)} {name s : ByteArray} (i : FreshInv o name s S) {n : ByteArray} {x : Ob} (hn : n = tmpB ∧ x.1 = s ∨ n = name ∧ name ≠ tmpB) (hu : Go.Proofs.YtaebpbkiaihhdaaGreatDoor.used (put S n x) ≤ Go.Proofs.YtaebpbkiaihhdaaGreatDoor.used o + s.size) : FreshInv o name s (put S n x) := by
  refine ⟨put_nodup i.nodup _ _, fun m h1 h2 => ?_, hu, fun y h => ?_, fun m h => ?_⟩
  · rw [look_put, if_neg (by rcases hn with ⟨rfl, _⟩ | ⟨rfl, _⟩ <;> assumption)]
    exact i.others m h1 h2
  · rw [look_put] at h
    split at h
    · rename_i e
      injection h with h
      subst h
      rcases hn with ⟨_, h⟩ | ⟨h1, h2⟩
      · exact .inr h
      · exact absurd (e.trans h1).symm h2
    · exact i.tmp y h
  · rcases mem_keys_put h with h | h
    · rcases hn with ⟨rfl, _⟩ | ⟨rfl, _⟩
      · exact .inr (.inl h)
      · exact .inr (.inr h)
    · exact i.keys m h

theorem FreshInv.del {o S : List (ByteArray × Ob)} {name s : ByteArray} (i : FreshInv o name s S) : FreshInv o name s (del S tmpB) := by
  refine ⟨del_nodup i.nodup _, fun m h1 h2 => ?_, ?_, fun y h => ?_, fun m h => ?_⟩
  · rw [look_del tmpB m S i.nodup, if_neg h2]
    exact i.others m h1 h2
  · have := used_del tmpB S
    have := i.used
    omega
  · rw [look_del tmpB tmpB S i.nodup, if_pos rfl] at h
    cases h
  · exact i.keys m (mem_keys_del h)


/-- Ahead of the last call: the file under its first name. -/
theorem fresh3 {room : Nat} {Q : List (Int × Bool)} {o : List (ByteArray × Ob)} {name s : ByteArray} (hn : name ≠ tmpB) (hnd : (o.map (·.1)).Nodup) (hroom : used o + s.size ≤ room) :
    let S := stepS (stepS (if (look o tmpB).isSome then stepS (0, Q, o) (fun o => noneR o tmpB) (fun o => del o tmpB) else (0, Q, o)) (fun o => appR room o tmpB s) (fun o => appO o tmpB s)) (fun o => noneR o tmpB) (fun o => syncO o tmpB)
    FreshInv o name s S.2.2 ∧ look S.2.2 name = look o name ∧ (S.1 = 0 ∨ S.1 = 8) ∧ (S.1 = 0 → look S.2.2 tmpB = some (s, (s.size : Int))) := by
  intro S
  have hS : S = stepS (stepS (if (look o tmpB).isSome then stepS (0, Q, o) (fun o => noneR o tmpB) (fun o => del o tmpB) else (0, Q, o)) (fun o => appR room o tmpB s) (fun o => appO o tmpB s)) (fun o => noneR o tmpB) (fun o => syncO o tmpB) := rfl
  clear_value S
  -- the first call
  obtain ⟨S1, hS1, h1⟩ : ∃ S1 : OpS, S1 = (if (look o tmpB).isSome then stepS (0, Q, o) (fun o => noneR o tmpB) (fun o => del o tmpB) else (0, Q, o)) ∧
      FreshInv o name s S1.2.2 ∧ look S1.2.2 name = look o name ∧ used S1.2.2 ≤ used o ∧ (S1.1 = 0 ∨ S1.1 = 8) ∧ (S1.1 = 0 → look S1.2.2 tmpB = none) := by
    refine ⟨_, rfl, ?_⟩
    have base : FreshInv o name s o := ⟨hnd, fun _ _ _ => rfl, by omega, fun x h => .inl h, fun m h => .inl h⟩
    split
    · rename_i hs
      have hr : noneR o tmpB = none := by simp [noneR, hs]
      have hdel : FreshInv o name s (del o tmpB) := base.del
      have hln : look (del o tmpB) name = look o name := by rw [look_del tmpB name o hnd, if_neg hn]
      have hlt : look (del o tmpB) tmpB = none := by rw [look_del tmpB tmpB o hnd, if_pos rfl]
      have hu : used (del o tmpB) ≤ used o := by have := used_del tmpB o; omega
      simp only [stepS, if_true, hr]
      rcases opO_try Q o (del o tmpB) with ⟨e1, e2⟩ | ⟨e1, e2⟩
      · rw [e1, e2]; exact ⟨hdel, hln, hu, .inl rfl, fun _ => hlt⟩
      · rcases e2 with e2 | e2 <;> rw [e1, e2]
        · exact ⟨hdel, hln, hu, .inr rfl, fun h => by cases h⟩
        · exact ⟨base, rfl, Nat.le_refl _, .inr rfl, fun h => by cases h⟩
    · rename_i hs
      exact ⟨base, rfl, Nat.le_refl _, .inl rfl, fun _ => by simpa using hs⟩
  rw [← hS1] at hS
  clear hS1
  obtain ⟨i1, n1, u1, e1, t1⟩ := h1
  -- the second call
  obtain ⟨S2, hS2, h2⟩ : ∃ S2 : OpS, S2 = stepS S1 (fun o => appR room o tmpB s) (fun o => appO o tmpB s) ∧
      FreshInv o name s S2.2.2 ∧ look S2.2.2 name = look o name ∧ (S2.1 = 0 ∨ S2.1 = 8) ∧ (S2.1 = 0 → ∃ k, look S2.2.2 tmpB = some (s, k)) := by
    refine ⟨_, rfl, ?_⟩
    rcases e1 with e1 | e1
    · have t1' := t1 e1
      have happ : appO S1.2.2 tmpB s = put S1.2.2 tmpB (s, 0) := by
        unfold appO; rw [t1']; simp [obOr]; rfl
      have hr : appR room S1.2.2 tmpB s = none := by
        unfold appR
        rw [if_neg (by decide), if_neg (by omega)]
      have hput : FreshInv o name s (put S1.2.2 tmpB (s, 0)) := i1.put (.inl ⟨rfl, rfl⟩) (by
        have := used_put tmpB (s, 0) S1.2.2
        rw [t1'] at this
        simp only [obOr, Option.getD_none, empty_size] at this
        omega)
      have hln : look (put S1.2.2 tmpB (s, 0)) name = look o name := by rw [look_put, if_neg hn, n1]
      have hlt : look (put S1.2.2 tmpB (s, 0)) tmpB = some (s, 0) := by rw [look_put, if_pos rfl]
      simp only [stepS, if_pos e1, hr, happ]
      rcases opO_try S1.2.1 S1.2.2 (put S1.2.2 tmpB (s, 0)) with ⟨e1, e2⟩ | ⟨e1, e2⟩
      · rw [e1, e2]; exact ⟨hput, hln, .inl rfl, fun _ => ⟨_, hlt⟩⟩
      · rcases e2 with e2 | e2 <;> rw [e1, e2]
        · exact ⟨hput, hln, .inr rfl, fun h => by cases h⟩
        · exact ⟨i1, n1, .inr rfl, fun h => by cases h⟩
    · have hne : ¬ S1.1 = 0 := by omega
      simp only [stepS, if_neg hne]
      exact ⟨i1, n1, .inr e1, fun h => absurd h hne⟩
  rw [← hS2] at hS
  clear hS2 i1 n1 u1 e1 t1
  obtain ⟨i2, n2, e2, t2⟩ := h2
  -- the third call
  subst hS
  rcases e2 with e2 | e2
  · obtain ⟨k, hk⟩ := t2 e2
    have hsy : syncO S2.2.2 tmpB = put S2.2.2 tmpB (s, (s.size : Int)) := by
      unfold syncO; rw [hk]; rfl
    have hr : noneR S2.2.2 tmpB = none := by simp [noneR, hk]
    have hput : FreshInv o name s (put S2.2.2 tmpB (s, (s.size : Int))) := i2.put (.inl ⟨rfl, rfl⟩) (by
      have := used_put tmpB (s, (s.size : Int)) S2.2.2
      rw [hk] at this
      simp only [obOr, Option.getD_some] at this
      have := i2.used
      omega)
    have hln : look (put S2.2.2 tmpB (s, (s.size : Int))) name = look o name := by rw [look_put, if_neg hn, n2]
    have hlt : look (put S2.2.2 tmpB (s, (s.size : Int))) tmpB = some (s, (s.size : Int)) := by rw [look_put, if_pos rfl]
    simp only [stepS, if_pos e2, hr, hsy]
    rcases opO_try S2.2.1 S2.2.2 (put S2.2.2 tmpB (s, (s.size : Int))) with ⟨e1, e2⟩ | ⟨e1, e2⟩
    · rw [e1, e2]; exact ⟨hput, hln, .inl rfl, fun _ => hlt⟩
    · rcases e2 with e2 | e2 <;> rw [e1, e2]
      · exact ⟨hput, hln, .inr rfl, fun h => by cases h⟩
      · exact ⟨i2, n2, .inr rfl, fun h => by cases h⟩
  · have hne : ¬ S2.1 = 0 := by omega
    simp only [stepS, if_neg hne]
    exact ⟨i2, n2, .inr e2, fun h => absurd h hne⟩


/-- A file that is written all at once: it is there for sure, or as it was. -/
theorem fresh_law {room : Nat} (Q : List (Int × Bool)) {o : List (ByteArray × Ob)} {name s : ByteArray} (hn : name ≠ tmpB) (hn0 : name.size ≠ 0) (hn40 : name.size ≤ 40) (hnd : (o.map (·.1)).Nodup) (hroom : used o + s.size ≤ room) :
    FreshInv o name s (freshS room Q o name s).2.2 ∧ ((freshS room Q o name s).1 = 0 ∧ look (freshS room Q o name s).2.2 name = some (s, (s.size : Int)) ∧ look (freshS room Q o name s).2.2 tmpB = none ∨
      (freshS room Q o name s).1 = 8 ∧ (look (freshS room Q o name s).2.2 name = look o name ∨ look (freshS room Q o name s).2.2 name = some (s, (s.size : Int)))) := by
  have h3 := fresh3 (Q := Q) hn hnd hroom
  unfold freshS
  generalize stepS (stepS (if (look o tmpB).isSome then stepS (0, Q, o) (fun o => noneR o tmpB) (fun o => del o tmpB) else (0, Q, o)) (fun o => appR room o tmpB s) (fun o => appO o tmpB s)) (fun o => noneR o tmpB) (fun o => syncO o tmpB) = S at h3
  obtain ⟨i3, n3, e3, t3⟩ := h3
  rcases e3 with e3 | e3
  · have hk := t3 e3
    have hrn : renO S.2.2 tmpB name = put (del S.2.2 tmpB) name (s, (s.size : Int)) := by
      unfold renO; rw [if_neg (Ne.symm hn), hk]; rfl
    have hr : renR S.2.2 tmpB name = none := by
      unfold renR
      rw [hk, Option.isSome_some, if_pos rfl, if_neg (by omega)]
    have hln : look (put (del S.2.2 tmpB) name (s, (s.size : Int))) name = some (s, (s.size : Int)) := by rw [look_put, if_pos rfl]
    have hlt : look (put (del S.2.2 tmpB) name (s, (s.size : Int))) tmpB = none := by rw [look_put, if_neg (Ne.symm hn), look_del tmpB tmpB _ i3.nodup, if_pos rfl]
    have hput : FreshInv o name s (put (del S.2.2 tmpB) name (s, (s.size : Int))) := i3.del.put (.inr ⟨rfl, hn⟩) (by
      have := used_ren i3.nodup (a := tmpB) (b := name) (Ne.symm hn)
      rw [hk] at this
      simp only [obOr, Option.getD_some] at this
      have := i3.used
      omega)
    simp only [stepS, if_pos e3, hr, hrn]
    rcases opO_try S.2.1 S.2.2 (put (del S.2.2 tmpB) name (s, (s.size : Int))) with ⟨e1, e2⟩ | ⟨e1, e2⟩
    · rw [e1, e2]; exact ⟨hput, .inl ⟨rfl, hln, hlt⟩⟩
    · rcases e2 with e2 | e2 <;> rw [e1, e2]
      · exact ⟨hput, .inr ⟨rfl, .inr hln⟩⟩
      · exact ⟨i3, .inr ⟨rfl, .inl n3⟩⟩
  · have hne : ¬ S.1 = 0 := by omega
    simp only [stepS, if_neg hne]
    exact ⟨i3, .inr ⟨e3, .inl n3⟩⟩

end Go.Proofs.YtaebpbkiaihhdaaGreatDoor

namespace Go.Proofs.YtaebpbkiaihhdaaGreatDoor
open Go Go.RowKit Go.Conc

theorem stepS_stop {S : OpS} (h : S.1 ≠ 0) {r : List (ByteArray × Ob) → Option Int} {g : List (ByteArray × Ob) → List (ByteArray × Ob)} : stepS S r g = S := if_neg h

def FreshPost (w : World) (d f c mb room : Nat) (S : OpS) (e : Ending) (w' : World) : Prop :=
  e = .returned (.int .i64 S.1) ∧ ∃ a, DiskAt w' d f c mb a S.2.1 room S.2.2 ∧ Keeps [f, c, mb, d] w w'

theorem fresh_end {w w' : World} {d f c mb room : Nat} {a : Bool} {S T : OpS} (h : S = T) (hd : DiskAt w' d f c mb a T.2.1 room T.2.2) (k : Keeps [f, c, mb, d] w w') : FreshPost w d f c mb room S (.returned (.int .i64 T.1)) w' := by
  subst h
  exact ⟨rfl, _, hd, k⟩


set_option maxRecDepth 100000 in
set_option maxHeartbeats 1000000 in
theorem fresh_spec (w : World) (d f c mb : Nat) (armed : Bool) (Q : List (Int × Bool)) (room : Nat) (o : List (ByteArray × Ob)) (h : DiskAt w d f c mb armed Q room o) (name s : ByteArray) (hname : name.size ≤ 9223372036854775807) :
    Calls Tryz.prog 45 #[.pointer (some ⟨d, 0, none⟩), .string name, .string s] w (FreshPost w d f c mb room (freshS room Q o name s)) := by
  have Hr := Lib.hid (read_spec w d f c mb armed Q room o h tmpB)
  have H0 := Lib.hid h
  clear h
  go_enter Tryz.func45, Tryz.ntmps45
  go_wp2_with fail
  refine Hr.out.mono ?_
  rintro e w0 ⟨rfl, hk0⟩
  by_cases hs : (look o tmpB).isSome = true
  · rw [if_pos hs]
    have HS0 := Lib.hid (And.intro (H0.out.same hk0) (hk0.mono (S' := [f, c, mb, d]) (by simp)))
    clear hk0
    go_wp2_with fail
    refine (remove_spec _ d f c mb _ _ room _ HS0.out.1 tmpB).mono ?_
    rintro e wS1 ⟨rfl, hd1, hk1⟩
    obtain ⟨S1, hS1⟩ : ∃ T : OpS, T = (if (look o tmpB).isSome then stepS (0, Q, o) (fun o => noneR o tmpB) (fun o => del o tmpB) else (0, Q, o)) := ⟨_, rfl⟩
    have e1 : S1 = (opErr (noneR o tmpB) Q, opQ (noneR o tmpB) Q, opO (noneR o tmpB) Q o (del o tmpB)) := by rw [hS1, if_pos hs]; unfold stepS; rw [if_pos rfl]
    obtain ⟨aS1, hd1'⟩ : ∃ a, DiskAt wS1 d f c mb a S1.2.1 room S1.2.2 := ⟨_, by rw [e1]; exact hd1⟩
    have HS1 := Lib.hid (And.intro hd1' (HS0.out.2.trans hk1))
    have HE := Lib.hid hS1
    rw [show opErr (noneR o tmpB) Q = S1.1 from by rw [e1]]
    clear e1 hS1 hd1 hd1' hk1 hs
    by_cases hz : S1.1 = 0
    · have HzS1 := Lib.hid hz
      have hz1 : (S1.1 != 0) = false := by simp [hz]
      have hz2 : (S1.1 == 0) = true := by simp [hz]
      clear hz
      go_wp2_with fail
      refine (append_spec _ d f c mb _ _ room _ HS1.out.1 tmpB s (by decide)).mono ?_
      rintro e wT1 ⟨rfl, hdT1, hkT1⟩
      obtain ⟨T1, hT1⟩ : ∃ T : OpS, T = stepS S1 (fun o => appR room o tmpB s) (fun o => appO o tmpB s) := ⟨_, rfl⟩
      have eT1 : T1 = (opErr (appR room S1.2.2 tmpB s) S1.2.1, opQ (appR room S1.2.2 tmpB s) S1.2.1, opO (appR room S1.2.2 tmpB s) S1.2.1 S1.2.2 (appO S1.2.2 tmpB s)) := by rw [hT1]; unfold stepS; rw [if_pos HzS1.out]
      obtain ⟨aT1, hdT1'⟩ : ∃ a, DiskAt wT1 d f c mb a T1.2.1 room T1.2.2 := ⟨_, by rw [eT1]; exact hdT1⟩
      have HT1 := Lib.hid (And.intro hdT1' (And.intro (HS1.out.2.trans hkT1) hT1))
      rw [show opErr (appR room S1.2.2 tmpB s) S1.2.1 = T1.1 from by rw [eT1]]
      clear eT1 hT1 hdT1 hdT1' hkT1
      by_cases hz : T1.1 = 0
      · have HzT1 := Lib.hid hz
        have hz1 : (T1.1 != 0) = false := by simp [hz]
        have hz2 : (T1.1 == 0) = true := by simp [hz]
        clear hz
        go_wp2_with fail
        refine (sync_spec _ d f c mb _ _ room _ HT1.out.1 tmpB).mono ?_
        rintro e wT2 ⟨rfl, hdT2, hkT2⟩
        obtain ⟨T2, hT2⟩ : ∃ T : OpS, T = stepS T1 (fun o => noneR o tmpB) (fun o => syncO o tmpB) := ⟨_, rfl⟩
        have eT2 : T2 = (opErr (noneR T1.2.2 tmpB) T1.2.1, opQ (noneR T1.2.2 tmpB) T1.2.1, opO (noneR T1.2.2 tmpB) T1.2.1 T1.2.2 (syncO T1.2.2 tmpB)) := by rw [hT2]; unfold stepS; rw [if_pos HzT1.out]
        obtain ⟨aT2, hdT2'⟩ : ∃ a, DiskAt wT2 d f c mb a T2.2.1 room T2.2.2 := ⟨_, by rw [eT2]; exact hdT2⟩
        have HT2 := Lib.hid (And.intro hdT2' (And.intro (HT1.out.2.1.trans hkT2) hT2))
        rw [show opErr (noneR T1.2.2 tmpB) T1.2.1 = T2.1 from by rw [eT2]]
        clear eT2 hT2 hdT2 hdT2' hkT2
        by_cases hz : T2.1 = 0
        · have HzT2 := Lib.hid hz
          have hz1 : (T2.1 != 0) = false := by simp [hz]
          have hz2 : (T2.1 == 0) = true := by simp [hz]
          clear hz
          go_wp2_with fail
          refine (ren_spec _ d f c mb _ _ room _ HT2.out.1 tmpB name hname).mono ?_
          rintro e wT3 ⟨rfl, hdT3, hkT3⟩
          obtain ⟨T3, hT3⟩ : ∃ T : OpS, T = stepS T2 (fun o => renR o tmpB name) (fun o => renO o tmpB name) := ⟨_, rfl⟩
          have eT3 : T3 = (opErr (renR T2.2.2 tmpB name) T2.2.1, opQ (renR T2.2.2 tmpB name) T2.2.1, opO (renR T2.2.2 tmpB name) T2.2.1 T2.2.2 (renO T2.2.2 tmpB name)) := by rw [hT3]; unfold stepS; rw [if_pos HzT2.out]
          obtain ⟨aT3, hdT3'⟩ : ∃ a, DiskAt wT3 d f c mb a T3.2.1 room T3.2.2 := ⟨_, by rw [eT3]; exact hdT3⟩
          have HT3 := Lib.hid (And.intro hdT3' (And.intro (HT2.out.2.1.trans hkT3) hT3))
          rw [show opErr (renR T2.2.2 tmpB name) T2.2.1 = T3.1 from by rw [eT3]]
          clear eT3 hT3 hdT3 hdT3' hkT3
          go_wp2_with fail
          go_ret
          exact fresh_end (by unfold freshS; rw [← HE.out, ← HT1.out.2.2, ← HT2.out.2.2]; exact HT3.out.2.2.symm) HT3.out.1 HT3.out.2.1
        · have HzT2 := Lib.hid hz
          have hz1 : (T2.1 != 0) = true := by simp [hz]
          have hz2 : (T2.1 == 0) = false := by simp [hz]
          clear hz
          go_wp2_with fail
          go_ret
          exact fresh_end (by unfold freshS; rw [← HE.out, ← HT1.out.2.2, ← HT2.out.2.2, stepS_stop HzT2.out]) HT2.out.1 HT2.out.2.1
      · have HzT1 := Lib.hid hz
        have hz1 : (T1.1 != 0) = true := by simp [hz]
        have hz2 : (T1.1 == 0) = false := by simp [hz]
        clear hz
        go_wp2_with fail
        go_ret
        exact fresh_end (by unfold freshS; rw [← HE.out, ← HT1.out.2.2, stepS_stop HzT1.out, stepS_stop HzT1.out]) HT1.out.1 HT1.out.2.1
    · have HzS1 := Lib.hid hz
      have hz1 : (S1.1 != 0) = true := by simp [hz]
      have hz2 : (S1.1 == 0) = false := by simp [hz]
      clear hz
      go_wp2_with fail
      go_ret
      exact fresh_end (by unfold freshS; rw [← HE.out, stepS_stop HzS1.out, stepS_stop HzS1.out, stepS_stop HzS1.out]) HS1.out.1 HS1.out.2
  · rw [if_neg hs]
    obtain ⟨S1, hS1⟩ : ∃ T : OpS, T = (if (look o tmpB).isSome then stepS (0, Q, o) (fun o => noneR o tmpB) (fun o => del o tmpB) else (0, Q, o)) := ⟨_, rfl⟩
    have e1 : S1 = (0, Q, o) := by rw [hS1, if_neg hs]
    have hd1' : DiskAt w0 d f c mb armed S1.2.1 room S1.2.2 := by rw [e1]; exact H0.out.same hk0
    have HS1 := Lib.hid (And.intro hd1' (hk0.mono (S' := [f, c, mb, d]) (by simp)))
    have HE := Lib.hid hS1
    have HzS1 := Lib.hid (show S1.1 = 0 from by rw [e1])
    clear e1 hS1 hd1' hk0 hs
    go_wp2_with fail
    refine (append_spec _ d f c mb _ _ room _ HS1.out.1 tmpB s (by decide)).mono ?_
    rintro e wT1 ⟨rfl, hdT1, hkT1⟩
    obtain ⟨T1, hT1⟩ : ∃ T : OpS, T = stepS S1 (fun o => appR room o tmpB s) (fun o => appO o tmpB s) := ⟨_, rfl⟩
    have eT1 : T1 = (opErr (appR room S1.2.2 tmpB s) S1.2.1, opQ (appR room S1.2.2 tmpB s) S1.2.1, opO (appR room S1.2.2 tmpB s) S1.2.1 S1.2.2 (appO S1.2.2 tmpB s)) := by rw [hT1]; unfold stepS; rw [if_pos HzS1.out]
    obtain ⟨aT1, hdT1'⟩ : ∃ a, DiskAt wT1 d f c mb a T1.2.1 room T1.2.2 := ⟨_, by rw [eT1]; exact hdT1⟩
    have HT1 := Lib.hid (And.intro hdT1' (And.intro (HS1.out.2.trans hkT1) hT1))
    rw [show opErr (appR room S1.2.2 tmpB s) S1.2.1 = T1.1 from by rw [eT1]]
    clear eT1 hT1 hdT1 hdT1' hkT1
    by_cases hz : T1.1 = 0
    · have HzT1 := Lib.hid hz
      have hz1 : (T1.1 != 0) = false := by simp [hz]
      have hz2 : (T1.1 == 0) = true := by simp [hz]
      clear hz
      go_wp2_with fail
      refine (sync_spec _ d f c mb _ _ room _ HT1.out.1 tmpB).mono ?_
      rintro e wT2 ⟨rfl, hdT2, hkT2⟩
      obtain ⟨T2, hT2⟩ : ∃ T : OpS, T = stepS T1 (fun o => noneR o tmpB) (fun o => syncO o tmpB) := ⟨_, rfl⟩
      have eT2 : T2 = (opErr (noneR T1.2.2 tmpB) T1.2.1, opQ (noneR T1.2.2 tmpB) T1.2.1, opO (noneR T1.2.2 tmpB) T1.2.1 T1.2.2 (syncO T1.2.2 tmpB)) := by rw [hT2]; unfold stepS; rw [if_pos HzT1.out]
      obtain ⟨aT2, hdT2'⟩ : ∃ a, DiskAt wT2 d f c mb a T2.2.1 room T2.2.2 := ⟨_, by rw [eT2]; exact hdT2⟩
      have HT2 := Lib.hid (And.intro hdT2' (And.intro (HT1.out.2.1.trans hkT2) hT2))
      rw [show opErr (noneR T1.2.2 tmpB) T1.2.1 = T2.1 from by rw [eT2]]
      clear eT2 hT2 hdT2 hdT2' hkT2
      by_cases hz : T2.1 = 0
      · have HzT2 := Lib.hid hz
        have hz1 : (T2.1 != 0) = false := by simp [hz]
        have hz2 : (T2.1 == 0) = true := by simp [hz]
        clear hz
        go_wp2_with fail
        refine (ren_spec _ d f c mb _ _ room _ HT2.out.1 tmpB name hname).mono ?_
        rintro e wT3 ⟨rfl, hdT3, hkT3⟩
        obtain ⟨T3, hT3⟩ : ∃ T : OpS, T = stepS T2 (fun o => renR o tmpB name) (fun o => renO o tmpB name) := ⟨_, rfl⟩
        have eT3 : T3 = (opErr (renR T2.2.2 tmpB name) T2.2.1, opQ (renR T2.2.2 tmpB name) T2.2.1, opO (renR T2.2.2 tmpB name) T2.2.1 T2.2.2 (renO T2.2.2 tmpB name)) := by rw [hT3]; unfold stepS; rw [if_pos HzT2.out]
        obtain ⟨aT3, hdT3'⟩ : ∃ a, DiskAt wT3 d f c mb a T3.2.1 room T3.2.2 := ⟨_, by rw [eT3]; exact hdT3⟩
        have HT3 := Lib.hid (And.intro hdT3' (And.intro (HT2.out.2.1.trans hkT3) hT3))
        rw [show opErr (renR T2.2.2 tmpB name) T2.2.1 = T3.1 from by rw [eT3]]
        clear eT3 hT3 hdT3 hdT3' hkT3
        go_wp2_with fail
        go_ret
        exact fresh_end (by unfold freshS; rw [← HE.out, ← HT1.out.2.2, ← HT2.out.2.2]; exact HT3.out.2.2.symm) HT3.out.1 HT3.out.2.1
      · have HzT2 := Lib.hid hz
        have hz1 : (T2.1 != 0) = true := by simp [hz]
        have hz2 : (T2.1 == 0) = false := by simp [hz]
        clear hz
        go_wp2_with fail
        go_ret
        exact fresh_end (by unfold freshS; rw [← HE.out, ← HT1.out.2.2, ← HT2.out.2.2, stepS_stop HzT2.out]) HT2.out.1 HT2.out.2.1
    · have HzT1 := Lib.hid hz
      have hz1 : (T1.1 != 0) = true := by simp [hz]
      have hz2 : (T1.1 == 0) = false := by simp [hz]
      clear hz
      go_wp2_with fail
      go_ret
      exact fresh_end (by unfold freshS; rw [← HE.out, ← HT1.out.2.2, stepS_stop HzT1.out, stepS_stop HzT1.out]) HT1.out.1 HT1.out.2.1

end Go.Proofs.YtaebpbkiaihhdaaGreatDoor
