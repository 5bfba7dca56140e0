/-
  The answers that the document fixes for layer 18 (barographlaw18.awake): true.
  No condition.
-/
import Derived.Test.YtfbmopganmljlaaShipNext
import Derived.Test.YtfbmopganmljlaaCrashKeep
namespace Go.Proofs.Ytfbmopganmljlaa
open Go Go.RowKit Go.Conc

theorem step_quiet {S : OpS} {r : List (ByteArray × Ob) → Option Int} {g : List (ByteArray × Ob) → List (ByteArray × Ob)} (h : S.2.1 = [] ∧ S.1 ≠ 8) (hr : ∀ o, r o ≠ some 8) : (stepS S r g).2.1 = [] ∧ (stepS S r g).1 ≠ 8 := by
  unfold stepS
  split
  · have hr' := hr S.2.2
    simp only [h.1]
    cases hx : r S.2.2 with
    | none => exact ⟨rfl, by decide⟩
    | some n =>
      rw [hx] at hr'
      exact ⟨rfl, fun e => hr' (by simpa [opErr] using e)⟩
  · exact h

theorem noneR_ne (n : ByteArray) : ∀ o, noneR o n ≠ some 8 := fun o => by unfold noneR; split <;> simp

/-- Where no fault waits nothing fails. -/
theorem fresh_quiet {room : Nat} {o : List (ByteArray × Ob)} {name s : ByteArray} : (freshS room [] o name s).2.1 = [] ∧ (freshS room [] o name s).1 ≠ 8 := by
  unfold freshS
  refine step_quiet (step_quiet (step_quiet ?_ fun o => ?_) (noneR_ne _)) fun o => ?_
  · split
    · exact step_quiet ⟨rfl, by simp⟩ (noneR_ne _)
    · exact ⟨rfl, by simp⟩
  · unfold appR; split
    · simp
    · split <;> simp
  · unfold renR; split
    · split <;> simp
    · simp


theorem seq_ne : seqB ≠ tmpB := by decide

theorem seq_law {room : Nat} (Q : List (Int × Bool)) {o : List (ByteArray × Ob)} {n : Nat} (hn : n < 128) (hnd : (o.map (·.1)).Nodup) (hroom : used o + 7 ≤ room) :
    FreshInv o seqB (F n) (freshS room Q o seqB (F n)).2.2 ∧ ((freshS room Q o seqB (F n)).1 = 0 ∧ look (freshS room Q o seqB (F n)).2.2 seqB = some (F n, ((F n).size : Int)) ∨
      (freshS room Q o seqB (F n)).1 = 8 ∧ (look (freshS room Q o seqB (F n)).2.2 seqB = look o seqB ∨ look (freshS room Q o seqB (F n)).2.2 seqB = some (F n, ((F n).size : Int)))) := by
  obtain ⟨h1, h2⟩ := fresh_law (room := room) Q (o := o) (name := seqB) (s := F n) seq_ne (by decide) (by decide) hnd (by rw [F_len n hn]; exact hroom)
  exact ⟨h1, h2.imp (fun h => ⟨h.1, h.2.1⟩) id⟩


def idB (t n : Nat) : ByteArray := ⟨(identL t n).toArray⟩

theorem idB51 : (⟨(identL 5 1).toArray⟩ : ByteArray) = ⟨#[48, 48, 48, 48, 48, 48, 48, 53, 48, 48, 48, 48, 48, 48, 48, 49]⟩ := by decide

theorem idB52 : (⟨(identL 5 2).toArray⟩ : ByteArray) = ⟨#[48, 48, 48, 48, 48, 48, 48, 53, 48, 48, 48, 48, 48, 48, 48, 50]⟩ := by decide


set_option maxRecDepth 100000 in
set_option maxHeartbeats 1000000 in
theorem awake18_spec (w : World) :
    Calls Try.prog 11 #[] w fun e w' => e = .returned (.bool true) ∧ Keeps [] w w' := by
  have hl1 : lateB (parseL (identL 5 1)) 9 4 = true := by rw [parseL_ident (by decide) (by decide)]; rfl
  have hl2 : lateB (parseL (identL 5 1)) 8 4 = false := by rw [parseL_ident (by decide) (by decide)]; rfl
  have HL1 := Lib.hid (fun w => late_spec w ⟨(identL 5 1).toArray⟩ 9 4 (by decide))
  have HL2 := Lib.hid (fun w => late_spec w ⟨(identL 5 1).toArray⟩ 8 4 (by decide))
  simp only [hl1] at HL1
  simp only [hl2] at HL2
  rw [idB51] at HL1 HL2
  clear hl1 hl2
  go_enter Try.func11, Try.ntmps11
  go_wp2_with fail
  refine (newDisk_spec w 10000 (by decide)).mono ?_
  rintro e w1 ⟨d, f, c, mb, rfl, hd1', hk1, l1, l2, l3, l4⟩
  have hd1 : DiskAt w1 d f c mb false [] 10000 [] := hd1'
  clear hd1'
  obtain ⟨i1, s1⟩ := seq_law (room := 10000) [] (o := []) (n := 1) (by decide) (by simp) (by simp [used])
  obtain ⟨q1, q2⟩ := fresh_quiet (room := 10000) (o := []) (name := seqB) (s := F 1)
  have Hn1 := Lib.hid (shipNext_spec w1 d f c mb false [] 10000 [] hd1 5 0 (by decide) (by decide) (.inl ⟨rfl, rfl⟩) (by simp [used]))
  rw [show (0 + 1 : Nat) = 1 from rfl] at Hn1
  generalize freshS 10000 [] [] seqB (F 1) = S1 at i1 s1 q1 q2 Hn1
  have z1 : S1.1 = 0 := by rcases s1 with h | h; exact h.1; exact absurd h.1 q2
  have s1' : look S1.2.2 seqB = some (F 1, ((F 1).size : Int)) := by rcases s1 with h | h; exact h.2; exact absurd h.1 q2
  have u1 : used S1.2.2 ≤ 7 := by have := i1.used; rw [F_len 1 (by decide)] at this; simpa [used] using this
  have Hs1 := Lib.hid (And.intro i1.nodup (And.intro z1 (And.intro s1' (And.intro u1 q1))))
  have hk1' := Lib.hid (And.intro hk1 (And.intro l1 (And.intro l2 (And.intro l3 l4))))
  clear i1 s1 q1 q2 z1 s1' u1 hk1 hd1
  go_wp2_with fail
  refine Hn1.out.mono ?_
  rintro e w2 ⟨rfl, a2, hd2, hk2⟩
  rw [if_pos Hs1.out.2.1, idB51]
  rw [Hs1.out.2.2.2.2] at hd2
  obtain ⟨i2, s2⟩ := seq_law (room := 10000) [] (o := S1.2.2) (n := 2) (by decide) Hs1.out.1 (by have := Hs1.out.2.2.2.1; omega)
  obtain ⟨q1, q2⟩ := fresh_quiet (room := 10000) (o := S1.2.2) (name := seqB) (s := F 2)
  have Hn2 := Lib.hid (shipNext_spec w2 d f c mb a2 [] 10000 S1.2.2 hd2 5 1 (by decide) (by decide) (.inr ⟨_, Hs1.out.2.2.1⟩) (by have := Hs1.out.2.2.2.1; omega))
  rw [show (1 + 1 : Nat) = 2 from rfl] at Hn2
  generalize freshS 10000 [] S1.2.2 seqB (F 2) = S2 at i2 s2 q1 q2 Hn2
  have z2 : S2.1 = 0 := by rcases s2 with h | h; exact h.1; exact absurd h.1 q2
  have Hz2 := Lib.hid z2
  have hk02 := Lib.hid (show Keeps [] w w2 from hk1'.out.1.after hk2 (by have := hk1'.out; simp; omega))
  clear i2 s2 q1 q2 z2 hk2 hd2 l1 l2 l3 l4
  go_wp2_with fail
  refine Hn2.out.mono ?_
  rintro e w3 ⟨rfl, a3, hd3, hk3⟩
  rw [if_pos Hz2.out, idB52]
  have hk03 := Lib.hid (show Keeps [] w w3 from hk02.out.after hk3 (by have := hk1'.out; simp; omega))
  clear hk3 hd3
  go_wp2_with fail
  refine (HL1.out w3).mono ?_
  rintro e w4 ⟨rfl, rfl⟩
  go_wp2_with fail
  refine (HL2.out w3).mono ?_
  rintro e w4 ⟨rfl, rfl⟩
  go_wp2_with fail
  go_ret
  exact ⟨rfl, hk03.out⟩

end Go.Proofs.Ytfbmopganmljlaa
