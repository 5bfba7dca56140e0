/-
  The disk's Crash: of the bytes that aren't there for sure, file by file, as many as the choices say are left.
  It holds for every world in which the disk's blocks are laid as DiskAt says, and the choices can be read.

  What a crash leaves of a disk's files. No program in sight.
-/
import Derived.Test.YtaebpbkiaihhdaaGreatDoorDiskList
import Derived.Test.YtaebpbkiaihhdaaGreatDoorArgs
namespace Go.Proofs.YtaebpbkiaihhdaaGreatDoor
open Go Go.RowKit Go.Conc

/-- How many of the loose bytes are kept. -/
def keepOf (ch : List Int) (i loose : Nat) : Nat :=
  match ch[i]? with
  | none => 0
  | some c => (((c.tmod (loose + 1 : Nat) + loose + 1)) % (loose + 1 : Nat)).toNat

theorem keepOf_le (ch : List Int) (i loose : Nat) : keepOf ch i loose ≤ loose := by
  unfold keepOf
  split
  · omega
  · have h1 := Int.emod_lt_of_pos ((‹Int›).tmod (loose + 1 : Nat) + loose + 1) (b := ((loose + 1 : Nat) : Int)) (by omega)
    have h2 := Int.emod_nonneg ((‹Int›).tmod (loose + 1 : Nat) + loose + 1) (b := ((loose + 1 : Nat) : Int)) (by omega)
    omega

/-- One file of a crash: the files, and how many choices are used up. -/
def crashStep (ch : List Int) (s : List (ByteArray × Ob) × Nat) (n : ByteArray) : List (ByteArray × Ob) × Nat :=
  let x := obOr (look s.1 n)
  let loose := x.1.size - x.2.toNat
  if loose = 0 then s else (put s.1 n (x.1.extract 0 (x.2.toNat + keepOf ch s.2 loose), (x.2.toNat + keepOf ch s.2 loose : Nat)), s.2 + 1)

def crashK (ch : List Int) (ks : List ByteArray) (o : List (ByteArray × Ob)) (k : Nat) : List (ByteArray × Ob) × Nat := (ks.take k).foldl (crashStep ch) (o, 0)

/-- The files behind a crash. -/
def crashO (ch : List Int) (o : List (ByteArray × Ob)) : List (ByteArray × Ob) := (crashK ch (names o ⟨#[]⟩) o (names o ⟨#[]⟩).length).1

theorem crashK_succ (ch : List Int) (ks : List ByteArray) (o : List (ByteArray × Ob)) (k : Nat) (hk : k < ks.length) : crashK ch ks o (k + 1) = crashStep ch (crashK ch ks o k) ks[k] := by
  unfold crashK
  rw [List.take_succ_eq_append_getElem hk, List.foldl_append]
  rfl

theorem crash_count (ch : List Int) (ks : List ByteArray) (o : List (ByteArray × Ob)) : ∀ k, (crashK ch ks o k).2 ≤ k := by
  suffices h : ∀ (M : List ByteArray) s, (M.foldl (crashStep ch) s).2 ≤ s.2 + M.length by
    intro k
    have := h (ks.take k) (o, 0)
    have h2 : (ks.take k).length ≤ k := by rw [List.length_take]; omega
    unfold crashK
    simp at this
    omega
  intro M
  induction M with
  | nil => intro s; simp
  | cons n M ih =>
    intro s
    have := ih (crashStep ch s n)
    rw [List.foldl_cons, List.length_cons]
    have h2 : (crashStep ch s n).2 ≤ s.2 + 1 := by
      unfold crashStep
      dsimp only
      split <;> simp
    omega

def encN (n : Int) : List Value := [.int .i64 n]

def CrashPost (w : World) (d f c mb room : Nat) (o' : List (ByteArray × Ob)) (e : Ending) (w' : World) : Prop :=
  e = .returned (.tuple #[]) ∧ DiskAt w' d f c mb false [] room o' ∧ Keeps [f, c, mb, d] w w'

def CrashRel (w2 : World) (d f c mb room : Nat) (ch : List Int) (ks : List ByteArray) (o : List (ByteArray × Ob)) (gk : Nat) (u4 u18 : Value) (wr : World) : Prop :=
  ∃ k, k ≤ ks.length ∧ gk = ks.length - k ∧ u18 = .int .i64 k ∧ u4 = .int .i64 (crashK ch ks o k).2 ∧ DiskAt wr d f c mb false [] room (crashK ch ks o k).1 ∧ Keeps [mb, d] w2 wr ∧ used (crashK ch ks o k).1 ≤ used o


set_option maxRecDepth 100000 in
set_option maxHeartbeats 1000000 in
theorem crash_spec (w : World) (d f c mb : Nat) (armed : Bool) (Q : List (Int × Bool)) (room : Nat) (o : List (ByteArray × Ob)) (h : DiskAt w d f c mb armed Q room o) (v : Value) (ch : List Int)
    (hst : ∀ w', Keeps [f, c, mb, d] w w' → SliceArg 1 encN w' v ch) (hci : ∀ x ∈ ch, -9223372036854775808 ≤ x ∧ x ≤ 9223372036854775807)
    (hk : ∀ p ∈ o, p.1.size ≤ maxLen) (hl : o.length * 16 ≤ 140737488355328) (hu : used o ≤ 1000000000) :
    Calls Tryz.prog 21 #[.pointer (some ⟨d, 0, none⟩), v] w (CrashPost w d f c mb room (crashO ch o)) := by
  have cd := cells_at h.cells
  obtain ⟨ld, lf, lc, lm⟩ := h.lt
  have hv := hst w (Keeps.refl _ _)
  have hvl := hv.len
  have hvf : ∃ ao cap, v = .slice ao ch.length cap := by obtain ⟨ao, cap, e, _⟩ := hv; exact ⟨ao, cap, e⟩
  obtain ⟨ao, cap, rfl⟩ := hvf
  have Hst := Lib.hid hst
  have Hci := Lib.hid hci
  clear hv hst hci
  go_enter Tryz.func21, Tryz.ntmps21
  go_wp2_with fail
  refine (clear_spec w f c armed Q h.fuse).mono ?_
  rintro e w1 ⟨rfl, hq1, hk1⟩
  have hD1 := h.tried hk1 hq1
  go_wp2_with fail
  refine (listD_spec w1 d f c mb _ _ room o hD1 ⟨#[]⟩ hk hl).mono ?_
  rintro e w2 ⟨v2, rfl, hrow, hk2⟩
  have hD2 := hD1.same hk2
  have hfin : crashO ch o = (crashK ch (names o ⟨#[]⟩) o (names o ⟨#[]⟩).length).1 := rfl
  have hn : (names o ⟨#[]⟩).length ≤ o.length := Nat.le_trans (List.length_filter_le _ _) (by simp [sortedKeys, sortB_length])
  generalize names o ⟨#[]⟩ = ks at hrow hn hfin
  have Hfin := Lib.hid hfin
  clear hfin
  obtain ⟨ao2, cap2, rfl, hcap, hcap2, hcell⟩ := row_slice hrow
  have hk02 : Keeps [f, c] w w2 := hk1.after hk2 (by simp)
  obtain ⟨m1, m2, m3, m4, m5⟩ := h.ne
  have Hc := Lib.hid hcell
  have H := Lib.hid (And.intro hk02 (And.intro hD2 hk1.size))
  unfold maxLen at hvl hcap2
  have hks : ks.length ≤ 10000000000000 := by omega
  clear hcell hrow hD1 hk1 hk2 hk02 hq1 cd h
  go_wp2_with fail
  go_loopg [4, 18] ks.length (CrashRel w2 d f c mb room ch ks o)
  case atStart => exact ⟨0, Nat.zero_le _, rfl, rfl, rfl, hD2, Keeps.refl _ _, Nat.le_refl _⟩
  case round =>
    obtain ⟨k, hkl, hgk, rfl, rfl, hD, hkr, hus⟩ := hrel
    have Hg := Lib.hid hgk
    clear hgk hD2
    by_cases hlt : k < ks.length
    · have hlt' : (k : Int) < (ks.length : Int) := by omega
      obtain ⟨g, rfl, hg1, hg2, hg3⟩ := Hc.out k (by omega)
      have hw1 := H.out.2.2
      have hck : wr.cell? ⟨g, k, none⟩ = some (.string ks[k]) := by
        rw [hkr.cell hg2 (by simp; omega), hg3]
        simp [hlt]
      have lg := hkr.lt hg2
      have hsv := Hst.out wr (((H.out.1.mono (by simp)).trans (hkr.mono (by simp))) : Keeps [f, c, mb, d] w wr)
      have hcnt := crash_count ch ks o k
      have Hsucc : Hid (crashK ch ks o (k + 1) = crashStep ch (crashK ch ks o k) ks[k]) := Lib.hid (crashK_succ ch ks o k hlt)
      generalize crashK ch ks o k = st at hD hus hcnt Hsucc ⊢
      obtain ⟨oc, ic⟩ := st
      simp only at hD hus hcnt ⊢
      generalize ks[k] = n at hck Hsucc
      have hrun := hD.run_look1 n
      have hsu := hD.sure.or n
      have hle := look_le (n := n) oc
      have Hx : Hid (∀ y, obOr (look oc n) = y → crashStep ch (oc, ic) n = if y.1.size - y.2.toNat = 0 then (oc, ic) else (put oc n (y.1.extract 0 (y.2.toNat + keepOf ch ic (y.1.size - y.2.toNat)), (y.2.toNat + keepOf ch ic (y.1.size - y.2.toNat) : Nat)), ic + 1)) := by
        apply Lib.hid
        rintro y rfl
        rfl
      have hup := fun (x : Ob) => used_put n x oc
      generalize hox : obOr (look oc n) = x at hrun hsu hle hup
      have Hx2 := Lib.hid (Hx.out x hox)
      clear hox Hx
      obtain ⟨xs, xt⟩ := x
      obtain ⟨sn, rfl⟩ := Int.eq_ofNat_of_zero_le hsu.1
      simp only [Int.toNat_natCast] at Hx2 hrun hle hup hsu
      have hsn : sn ≤ xs.size := by omega
      obtain ⟨Lo, hLo⟩ : ∃ Lo, Lo = xs.size - sn := ⟨_, rfl⟩
      have hsub : (xs.size : Int) - (sn : Int) = (Lo : Int) := by omega
      have hxs : xs.size ≤ 9223372036854775807 := by omega
      have hLo1 : Lo ≤ 1000000000 := by omega
      have cd := cells_at hD.cells
      have ld1 := hD.lt.1
      have hus1 : used oc ≤ 1000000000 := by omega
      have hlo2 : Lo ≤ used oc := by omega
      have Hup := Lib.hid hup
      have HLo := Lib.hid hLo
      have HD := Lib.hid (And.intro hD (And.intro hkr (And.intro hsv hus)))
      clear hup hLo hD hkr hsv hus hg3
      by_cases hz : Lo = 0
      · subst hz
        have Hst2 : Hid (crashStep ch (oc, ic) n = (oc, ic)) := Lib.hid (by rw [Hx2.out, if_pos HLo.out.symm])
        go_wp2_with fail
        go_roundg (ks.length - (k + 1))
        case measure => have := Hg.out; omega
        case rel => exact ⟨k + 1, by omega, rfl, by go_num, by rw [Hsucc.out, Hst2.out], by rw [Hsucc.out, Hst2.out]; exact HD.out.1.same ((Keeps.refl [] wr).alloc _), HD.out.2.1.alloc _, by rw [Hsucc.out, Hst2.out]; exact HD.out.2.2.2⟩
      · have hz' : ((Lo : Int) == 0) = false := by simp; omega
        have Hst2 : Hid (crashStep ch (oc, ic) n = (put oc n (xs.extract 0 (sn + keepOf ch ic Lo), (sn + keepOf ch ic Lo : Nat)), ic + 1)) := Lib.hid (by rw [Hx2.out, if_neg (by rw [← HLo.out]; exact hz), ← HLo.out])
        have hkl0 := keepOf_le ch ic Lo
        have fd := free_at HD.out.1.cells
        have hroom := HD.out.1.roomOk
        by_cases hi : ic < ch.length
        · obtain ⟨ao', cap', he, _, hcc⟩ := HD.out.2.2.1
          injection he with e1 e2 e3
          subst e1
          obtain ⟨b3, of3, rfl, l3, hc3⟩ := hcc ic hi
          have hcell : wr.cell? ⟨b3, of3 + ic, none⟩ = some (.int .i64 ch[ic]) := by simpa [encN] using hc3 0 (by omega)
          have hi' : (ic : Int) < (ch.length : Int) := by omega
          have hcb := Hci.out ch[ic] (List.getElem_mem _)
          have hr1 := Int.tmod_lt_of_pos ch[ic] (b := (Lo : Int) + 1) (by omega)
          have hr2 := Int.lt_tmod_of_pos ch[ic] (b := (Lo : Int) + 1) (by omega)
          have hkp : (ch[ic].tmod ((Lo : Int) + 1) + (Lo : Int) + 1) % ((Lo : Int) + 1) = (keepOf ch ic Lo : Int) := by
            unfold keepOf
            rw [List.getElem?_eq_getElem hi]
            simp only [Int.natCast_add, Int.natCast_one]
            have := Int.emod_nonneg (ch[ic].tmod ((Lo : Int) + 1) + (Lo : Int) + 1) (b := (Lo : Int) + 1) (by omega)
            omega
          generalize hrr : ch[ic].tmod ((Lo : Int) + 1) = r at hr1 hr2 hkp
          generalize keepOf ch ic Lo = kp at hkp hkl0 Hst2
          clear hcc e2 e3 hc3
          go_wp2_with fail
          rw [hkp, Nat.min_eq_left (show sn + kp ≤ xs.size by have := HLo.out; omega)]
          clear hr1 hr2 hrr hkp
          have hLo2 := Nat.le_of_eq HLo.out
          have hLo3 := Nat.le_of_eq HLo.out.symm
          have hup2 := Hup.out (xs.extract 0 (sn + kp), ((sn + kp : Nat) : Int))
          have hXs : (xs.extract 0 (sn + kp)).size = sn + kp := by simp; omega
          simp only [hXs] at hup2
          have hU : ((used oc : Int) - ((Lo : Int) - (kp : Int))) = (used (put oc n (xs.extract 0 (sn + kp), ((sn + kp : Nat) : Int))) : Int) := by omega
          have hfit2 : used (put oc n (xs.extract 0 (sn + kp), ((sn + kp : Nat) : Int))) ≤ used oc := by omega
          have hd2 : ((wr.setCell ⟨d, 3, none⟩ (.int .i64 ((used oc : Int) - ((Lo : Int) - (kp : Int))))).alloc (.cells #[.string (xs.extract 0 (sn + kp)), .int .i64 ((sn + kp : Nat) : Int)] 109)).heap[d]? = some (.cells #[.pointer (some ⟨f, 0, none⟩), .map (some mb), .int .i64 room, .int .i64 ((used oc : Int) - ((Lo : Int) - (kp : Int)))] 67 (0, 0)) := heap_old (heap_cell_same (i := 3) HD.out.1.cells (.int .i64 ((used oc : Int) - ((Lo : Int) - (kp : Int))))) _
          have hq2 : ((wr.setCell ⟨d, 3, none⟩ (.int .i64 ((used oc : Int) - ((Lo : Int) - (kp : Int))))).alloc (.cells #[.string (xs.extract 0 (sn + kp)), .int .i64 ((sn + kp : Nat) : Int)] 109)).heap[wr.heap.size]? = some (.cells #[.string (xs.extract 0 (sn + kp)), .int .i64 ((sn + kp : Nat) : Int)] 109 (0, 0)) := by
            have := heap_new (wr.setCell ⟨d, 3, none⟩ (.int .i64 ((used oc : Int) - ((Lo : Int) - (kp : Int))))) (.cells #[.string (xs.extract 0 (sn + kp)), .int .i64 ((sn + kp : Nat) : Int)] 109)
            rwa [show (wr.setCell ⟨d, 3, none⟩ (.int .i64 ((used oc : Int) - ((Lo : Int) - (kp : Int))))).heap.size = wr.heap.size from by simp] at this
          have hk2 : Keeps [d] wr ((wr.setCell ⟨d, 3, none⟩ (.int .i64 ((used oc : Int) - ((Lo : Int) - (kp : Int))))).alloc (.cells #[.string (xs.extract 0 (sn + kp)), .int .i64 ((sn + kp : Nat) : Int)] 109)) := ((Keeps.refl [d] wr).setCell (.inl (by simp)) _).alloc _
          have HU := Lib.hid (And.intro hU hfit2)
          clear hup2 hXs hU hfit2 cd fd
          generalize (wr.setCell ⟨d, 3, none⟩ (.int .i64 ((used oc : Int) - ((Lo : Int) - (kp : Int))))).alloc (.cells #[.string (xs.extract 0 (sn + kp)), .int .i64 ((sn + kp : Nat) : Int)] 109) = W4 at hd2 hq2 hk2 ⊢
          have cd := cells_at hd2
          have cq := cells_at hq2
          have hm4 := HD.out.1.map.keep hk2 (by simpa using m3.symm)
          go_still_tail 6, (by kernel_rfl)
          change wpList _ _ _ _ _ W4.drew
          refine wpList_update_str _ rfl (.tmp 80) (.tmp 81) (.tmp 82) _ _ _ rfl Tryz.underlying65 Tryz.underlying9 mb (encMap encOb oc) n (encOb (xs.extract 0 (sn + kp), ((sn + kp : Nat) : Int))) (by rfl) (by rfl) (by rfl) hm4.drew ?_
          intro W5 hm5 k5
          simp only [Act.put]
          rw [put_enc] at hm5
          have k45 : Keeps [mb, d] wr W5 := (hk2.drew.mono (by simp)).trans (k5.mono (by simp))
          have hd5 := k5.at_ (w := W4.drew) hd2 (by simpa using m3)
          have Hm := Lib.hid (And.intro hm5 (And.intro hd5 k45))
          clear hm5 hd5 k45 k5 hk2 hm4 cd cq hd2 hq2
          go_wp2_with fail
          go_roundg (ks.length - (k + 1))
          case measure => have := Hg.out; omega
          case rel =>
            have hd5 := Hm.out.2.1
            rw [HU.out.1] at hd5
            refine ⟨k + 1, by omega, rfl, by go_num, by rw [Hsucc.out, Hst2.out]; go_num, ?_, HD.out.2.1.trans Hm.out.2.2, by rw [Hsucc.out, Hst2.out]; exact Nat.le_trans HU.out.2 HD.out.2.2.2⟩
            rw [Hsucc.out, Hst2.out]
            refine HD.out.1.turn Hm.out.2.2 (by simp; omega) (by simp; omega) hd5 Hm.out.1 (Nat.le_trans HU.out.2 HD.out.1.fits) (HD.out.1.sure.put n _ (by simp only; omega) (by simp; omega))
        · have hk0 : keepOf ch ic Lo = 0 := by unfold keepOf; rw [List.getElem?_eq_none (by omega)]
          rw [hk0] at Hst2
          clear hk0 hkl0
          have hi' : ¬ (ic : Int) < (ch.length : Int) := by omega
          simp only [Nat.add_zero] at Hst2
          go_wp2_with fail
          have hLo2 := Nat.le_of_eq HLo.out
          have hLo3 := Nat.le_of_eq HLo.out.symm
          have hup2 := Hup.out (xs.extract 0 sn, ((sn : Nat) : Int))
          have hXs : (xs.extract 0 sn).size = sn := by simp; omega
          simp only [hXs] at hup2
          have hU : ((used oc : Int) - (Lo : Int)) = (used (put oc n (xs.extract 0 sn, ((sn : Nat) : Int))) : Int) := by omega
          have hfit2 : used (put oc n (xs.extract 0 sn, ((sn : Nat) : Int))) ≤ used oc := by omega
          have hd2 : ((wr.setCell ⟨d, 3, none⟩ (.int .i64 ((used oc : Int) - (Lo : Int)))).alloc (.cells #[.string (xs.extract 0 sn), .int .i64 (sn : Int)] 109)).heap[d]? = some (.cells #[.pointer (some ⟨f, 0, none⟩), .map (some mb), .int .i64 room, .int .i64 ((used oc : Int) - (Lo : Int))] 67 (0, 0)) := heap_old (heap_cell_same (i := 3) HD.out.1.cells (.int .i64 ((used oc : Int) - (Lo : Int)))) _
          have hq2 : ((wr.setCell ⟨d, 3, none⟩ (.int .i64 ((used oc : Int) - (Lo : Int)))).alloc (.cells #[.string (xs.extract 0 sn), .int .i64 (sn : Int)] 109)).heap[wr.heap.size]? = some (.cells #[.string (xs.extract 0 sn), .int .i64 (sn : Int)] 109 (0, 0)) := by
            have := heap_new (wr.setCell ⟨d, 3, none⟩ (.int .i64 ((used oc : Int) - (Lo : Int)))) (.cells #[.string (xs.extract 0 sn), .int .i64 (sn : Int)] 109)
            rwa [show (wr.setCell ⟨d, 3, none⟩ (.int .i64 ((used oc : Int) - (Lo : Int)))).heap.size = wr.heap.size from by simp] at this
          have hk2 : Keeps [d] wr ((wr.setCell ⟨d, 3, none⟩ (.int .i64 ((used oc : Int) - (Lo : Int)))).alloc (.cells #[.string (xs.extract 0 sn), .int .i64 (sn : Int)] 109)) := ((Keeps.refl [d] wr).setCell (.inl (by simp)) _).alloc _
          have HU := Lib.hid (And.intro hU hfit2)
          clear hup2 hXs hU hfit2 cd fd
          generalize (wr.setCell ⟨d, 3, none⟩ (.int .i64 ((used oc : Int) - (Lo : Int)))).alloc (.cells #[.string (xs.extract 0 sn), .int .i64 (sn : Int)] 109) = W4 at hd2 hq2 hk2 ⊢
          have cd := cells_at hd2
          have cq := cells_at hq2
          have hm4 := HD.out.1.map.keep hk2 (by simpa using m3.symm)
          go_still_tail 6, (by kernel_rfl)
          change wpList _ _ _ _ _ W4.drew
          refine wpList_update_str _ rfl (.tmp 80) (.tmp 81) (.tmp 82) _ _ _ rfl Tryz.underlying65 Tryz.underlying9 mb (encMap encOb oc) n (encOb (xs.extract 0 sn, (sn : Int))) (by rfl) (by rfl) (by rfl) hm4.drew ?_
          intro W5 hm5 k5
          simp only [Act.put]
          rw [put_enc] at hm5
          have k45 : Keeps [mb, d] wr W5 := (hk2.drew.mono (by simp)).trans (k5.mono (by simp))
          have hd5 := k5.at_ (w := W4.drew) hd2 (by simpa using m3)
          have Hm := Lib.hid (And.intro hm5 (And.intro hd5 k45))
          clear hm5 hd5 k45 k5 hk2 hm4 cd cq hd2 hq2
          go_wp2_with fail
          go_roundg (ks.length - (k + 1))
          case measure => have := Hg.out; omega
          case rel =>
            have hd5 := Hm.out.2.1
            rw [HU.out.1] at hd5
            refine ⟨k + 1, by omega, rfl, by go_num, by rw [Hsucc.out, Hst2.out]; go_num, ?_, HD.out.2.1.trans Hm.out.2.2, by rw [Hsucc.out, Hst2.out]; exact Nat.le_trans HU.out.2 HD.out.2.2.2⟩
            rw [Hsucc.out, Hst2.out]
            refine HD.out.1.turn Hm.out.2.2 (by simp; omega) (by simp; omega) hd5 Hm.out.1 (Nat.le_trans HU.out.2 HD.out.1.fits) (HD.out.1.sure.put n _ (by simp) (by simp; omega))
    · go_wp2_with fail
      go_end0
      have hkk : k = ks.length := by omega
      subst hkk
      exact ⟨rfl, by rw [Hfin.out]; exact hD, (H.out.1.mono (by simp)).trans (hkr.mono (by simp))⟩

end Go.Proofs.YtaebpbkiaihhdaaGreatDoor

namespace Go.Proofs.YtaebpbkiaihhdaaGreatDoor
open Go

theorem mem_names {o : List (ByteArray × Ob)} {pre n : ByteArray} (h : n ∈ names o pre) : n ∈ o.map (·.1) := by
  unfold names at h
  have h1 := (List.mem_filter.1 h).1
  exact (sortB_perm _).mem_iff.1 h1


theorem used_put_le {o : List (ByteArray × Ob)} {n : ByteArray} {x : Ob} (h : x.1.size ≤ (obOr (look o n)).1.size) : used (put o n x) ≤ used o := by
  have := used_put n x o
  omega

theorem crash_step_keep (ch : List Int) (s : List (ByteArray × Ob) × Nat) (n : ByteArray) (hn : n ∈ s.1.map (·.1)) : (crashStep ch s n).1.map (·.1) = s.1.map (·.1) ∧ used (crashStep ch s n).1 ≤ used s.1 ∧
    ∀ p t, look s.1 p = some (t, (t.size : Int)) → look (crashStep ch s n).1 p = some (t, (t.size : Int)) := by
  unfold crashStep
  dsimp only
  split
  · exact ⟨rfl, Nat.le_refl _, fun _ _ h => h⟩
  · rename_i hz
    refine ⟨keys_put_mem n _ hn, ?_, ?_⟩
    · exact used_put_le (by simp only [ByteArray.size_extract]; omega)
    · intro p t hp
      rw [look_put]
      split
      · rename_i e
        subst e
        rw [hp] at hz
        simp [obOr] at hz
      · exact hp

/-- What a crash leaves: the names, no more bytes, what was there for sure. -/
theorem crash_keep (ch : List Int) (o : List (ByteArray × Ob)) : (crashO ch o).map (·.1) = o.map (·.1) ∧ used (crashO ch o) ≤ used o ∧ ∀ p t, look o p = some (t, (t.size : Int)) → look (crashO ch o) p = some (t, (t.size : Int)) := by
  suffices hs : ∀ (M : List ByteArray) (s : List (ByteArray × Ob) × Nat), (∀ n ∈ M, n ∈ s.1.map (·.1)) → ((M.foldl (crashStep ch) s).1.map (·.1) = s.1.map (·.1) ∧ used (M.foldl (crashStep ch) s).1 ≤ used s.1 ∧
      ∀ p t, look s.1 p = some (t, (t.size : Int)) → look (M.foldl (crashStep ch) s).1 p = some (t, (t.size : Int))) from
    hs ((names o ⟨#[]⟩).take (names o ⟨#[]⟩).length) (o, 0) (fun n hn => mem_names (List.mem_of_mem_take hn))
  intro M
  induction M with
  | nil => intro s _; exact ⟨rfl, Nat.le_refl _, fun _ _ h => h⟩
  | cons n M ih =>
    intro s hM
    obtain ⟨a1, a2, a3⟩ := crash_step_keep ch s n (hM n (by simp))
    obtain ⟨b1, b2, b3⟩ := ih (crashStep ch s n) (fun q hq => by rw [a1]; exact hM q (by simp [hq]))
    rw [List.foldl_cons]
    exact ⟨b1.trans a1, Nat.le_trans b2 a2, fun p t hp => b3 p t (a3 p t hp)⟩

end Go.Proofs.YtaebpbkiaihhdaaGreatDoor
