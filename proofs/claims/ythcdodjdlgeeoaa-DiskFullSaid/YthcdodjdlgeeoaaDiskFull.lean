/-
  DiskFull answers true for every room and all texts, and leaves all memory that was there as it was.
  No condition: every input that can be read.
-/
import Derived.Test.YthcdodjdlgeeoaaDiskKeeps
import Derived.Laws.IdiomStrings
import Derived.Deep.OwnRows
namespace Go.Proofs.Ythcdodjdlgeeoaa
open Go Go.RowKit Go.Conc Go.Deep

def dG : ByteArray := ⟨#[103]⟩
def zeros300 : Array Value := madeCells #[.int .u8 0] 300
def z300 : ByteArray := ⟨(List.replicate 300 0).toArray⟩
theorem z300_size : z300.size = 300 := by decide +kernel
theorem make300 (w : World) : (Instr.makeSlice 89 (.int .i64 300) (.int .i64 300)).run Try.prog w = .ok (.slice (some ⟨w.heap.size, 0, none⟩) 300 300) (w.alloc (.cells zeros300 5)) :=
  run_make_row' (P := Try.prog) 89 5 (.int .u8 0) 1 Try.underlying89 (by kernel_rfl) rfl .i64 .i64 300 (by decide) (by decide) w
theorem conv_zeros (w : World) (n : Nat) : (convert 89 9 (.slice (some ⟨w.heap.size, 0, none⟩) n n)).run Try.prog (w.alloc (.cells (madeCells #[.int .u8 0] n) 5)) = .ok (.string ⟨(List.replicate n 0).toArray⟩) (w.alloc (.cells (madeCells #[.int .u8 0] n) 5)) := by
  have h := run_convert_bytes_back (P := Try.prog) (w.alloc (.cells (madeCells #[.int .u8 0] n) 5)) 89 9 5 ⟨w.heap.size, 0, none⟩ n (List.replicate n 0) Try.underlying89 Try.underlying5 Try.underlying9 ?_
  · rw [List.length_replicate] at h
    exact h
  · intro j hj
    have hadd : (⟨w.heap.size, 0, none⟩ : Addr).add j = ⟨w.heap.size, j, none⟩ := by unfold Addr.add; split <;> simp_all
    rw [List.length_replicate] at hj
    rw [hadd, (World.rowIs_made w (.int .u8 0) n 5).cell hj, List.getElem_replicate]
    rfl
theorem conv300 (w : World) : (convert 89 9 (.slice (some ⟨w.heap.size, 0, none⟩) 300 300)).run Try.prog (w.alloc (.cells zeros300 5)) = .ok (.string z300) (w.alloc (.cells zeros300 5)) := conv_zeros w 300

/-- At most one file, of this name. -/
def OnlyF (o : List (ByteArray × Ob)) : Prop := o = [] ∨ ∃ x, o = [(dF, x)]
theorem OnlyF.app {o : List (ByteArray × Ob)} (h : OnlyF o) (s : ByteArray) : OnlyF (appO o dF s) := by
  rcases h with rfl | ⟨x, rfl⟩
  · exact .inr ⟨_, rfl⟩
  · exact .inr ⟨_, by simp [appO, put]; rfl⟩
theorem OnlyF.names {o : List (ByteArray × Ob)} (h : OnlyF o) : names o dG = [] := by
  rcases h with rfl | ⟨x, rfl⟩
  · simp [Go.Proofs.Ythcdodjdlgeeoaa.names, sortedKeys, sortB]
  · have h : sortedKeys [(dF, x)] = [dF] := List.perm_singleton.1 (sortB_perm _)
    rw [Go.Proofs.Ythcdodjdlgeeoaa.names, h]
    decide +kernel
theorem OnlyF.keys {o : List (ByteArray × Ob)} (h : OnlyF o) : (∀ p ∈ o, p.1.size ≤ maxLen) ∧ o.length * 16 ≤ 140737488355328 := by
  rcases h with rfl | ⟨x, rfl⟩
  · exact ⟨by simp, by simp⟩
  · exact ⟨by simp only [List.mem_singleton]; rintro p rfl; show dF.size ≤ maxLen; decide, by simp⟩

def FullRel (w : World) (d f c mb room n gk : Nat) (i : Value) (wr : World) : Prop :=
  ∃ k o, k ≤ n ∧ k ≤ 20 ∧ gk = 20 - k ∧ i = .int .i64 k ∧ DiskAt wr d f c mb false [] room o ∧ OnlyF o ∧ Keeps [] w wr

set_option maxRecDepth 100000 in
set_option maxHeartbeats 1000000 in
theorem diskFull_walk (w : World) (rm : Int) (v : Value) (L : List ByteArray) (hs : SliceArg 1 encS w v L) (hok : ∀ s ∈ L, s.size ≤ maxLen) :
    Calls Try.prog 10 #[.int .i64 rm, v] w fun e w' => e = .returned (.bool true) ∧ Keeps [] w w' := by
  obtain ⟨ao, cap, rfl, hl, hc⟩ := hs
  unfold maxLen at hl
  have Hc := Lib.hid hc
  have Hok := Lib.hid hok
  clear hc hok
  by_cases hbad : rm < 0 ∨ 200 < rm
  · go_enter Try.func10, Try.ntmps10
    go_wp2_with fail
    refine (awakeD_spec w).mono ?_
    rintro e w1 ⟨rfl, hk1⟩
    by_cases h0 : rm < 0
    · have h0' : decide (rm < 0) = true := by simpa using h0
      clear hbad
      go_wp2_with fail
      refine (awakeD_spec w1).mono ?_
      rintro e w2 ⟨rfl, hk2⟩
      go_wp2_with fail
      go_ret
      exact ⟨rfl, hk1.trans hk2⟩
    · have h0' : decide (rm < 0) = false := by simpa using h0
      have h1' : decide (rm > 200) = true := by simp; omega
      clear hbad
      go_wp2_with fail
      refine (awakeD_spec w1).mono ?_
      rintro e w2 ⟨rfl, hk2⟩
      go_wp2_with fail
      go_ret
      exact ⟨rfl, hk1.trans hk2⟩
  · obtain ⟨room, rfl⟩ := Int.eq_ofNat_of_zero_le (a := rm) (by omega)
    have hr : room ≤ 200 := by omega
    have h0' : decide ((room : Int) < 0) = false := by rw [decide_eq_false_iff_not]; omega
    have h1' : decide ((room : Int) > 200) = false := by rw [decide_eq_false_iff_not]; omega
    clear hbad
    go_enter Try.func10, Try.ntmps10
    go_wp2_with fail
    refine (awakeD_spec w).mono ?_
    rintro e w1 ⟨rfl, hk1⟩
    go_wp2_with fail
    refine (newDisk_spec w1 room (by omega)).mono ?_
    rintro e w2 ⟨d, f, c, mb, rfl, hd2, hk2, l1, l2, l3, l4⟩
    have hs1 := hk1.size
    have hk02 := hk1.trans hk2
    rw [show (max (room : Int) 0).toNat = room from by omega] at hd2
    clear hk1 hk2
    go_wp2_with fail
    go_loopg [6] 20 (FullRel w d f c mb room L.length)
    case atStart => exact ⟨0, [], Nat.zero_le _, by omega, rfl, rfl, hd2, .inl rfl, hk02⟩
    case round =>
      obtain ⟨k, o, hkl, hk20, hgk, rfl, hd, ho, hk⟩ := hrel
      have Hg := Lib.hid hgk
      clear hgk hd2 hk02
      by_cases hlt : k < L.length ∧ k < 20
      · obtain ⟨hlt, hlt20⟩ := hlt
        obtain ⟨b1, o1, rfl, hb1, hc1⟩ := Hc.out k hlt
        have d0 : wr.cell? ⟨b1, o1 + k, none⟩ = some (.string L[k]) := by rw [hk.cell hb1 (by simp)]; simpa [encS] using hc1 0 (by omega)
        have hlt' : (k : Int) < (L.length : Int) := by omega
        have hlt2 : (k : Int) < 20 := by omega
        generalize L[k] = s0 at d0
        clear hc1
        go_wp2_with fail
        refine (cut_any s0 60 _ (by decide)).mono ?_
        rintro e w' ⟨rfl, rfl⟩
        have hs60 := cut_size s0 60
        generalize cut s0 60 = s at hs60 ⊢
        clear d0
        have hfit := hd.fits
        have H := Lib.hid (And.intro hd (And.intro ho hk))
        clear hd ho hk
        go_wp2_with fail
        refine (free_spec wr d f c mb _ _ _ _ H.out.1).mono ?_
        rintro e w' ⟨rfl, nd, rfl⟩
        go_wp2_with fail
        refine (append_spec _ d f c mb _ _ _ _ (H.out.1.same ((Keeps.refl [] wr).drewN nd)) dF s (by decide)).mono ?_
        rintro e w5 ⟨rfl, hd5, hk5⟩
        have hk05 : Keeps [] w w5 := (H.out.2.2.drewN nd).after hk5 (by simp; omega)
        by_cases hrm : room < used o + s.size
        · have hap : appR room o dF s = some 7 := by unfold appR; rw [if_neg (by decide), if_pos hrm]
          rw [hap] at hd5 ⊢
          have hd5' : DiskAt w5 d f c mb false [] room o := hd5
          rw [show opErr (some 7) [] = 7 from rfl]
          have hle : decide ((s.size : Int) ≤ (room : Int) - (used o : Int)) = false := by simp; omega
          have hle2 : ¬ (s.size : Int) ≤ (room : Int) - (used o : Int) := by omega
          clear hd5 hap hk5 hrm
          go_wp2_with fail
          refine (used_spec w5 d f c mb _ _ _ _ hd5').mono ?_
          rintro e w6 ⟨rfl, rfl⟩
          have hus : decide ((used o : Int) > (room : Int)) = false := by simp; omega
          go_wp2_with fail
          go_roundg (20 - (k + 1))
          case measure => have := Hg.out; omega
          case rel => exact ⟨k + 1, o, by omega, by omega, rfl, by go_num, hd5', H.out.2.1, hk05⟩
        · have hap : appR room o dF s = none := by unfold appR; rw [if_neg (by decide), if_neg hrm]
          rw [hap] at hd5 ⊢
          have hd5' : DiskAt w5 d f c mb false [] room (appO o dF s) := hd5
          rw [show opErr none [] = 0 from rfl]
          have hle : decide ((s.size : Int) ≤ (room : Int) - (used o : Int)) = true := by simp; omega
          have hle2 : (s.size : Int) ≤ (room : Int) - (used o : Int) := by omega
          have ho' := H.out.2.1.app s
          generalize appO o dF s = o2 at hd5' ho'
          have hf2 := hd5'.fits
          clear hd5 hap hk5 hrm
          go_wp2_with fail
          refine (used_spec w5 d f c mb _ _ _ _ hd5').mono ?_
          rintro e w6 ⟨rfl, rfl⟩
          have hus : decide ((used o2 : Int) > (room : Int)) = false := by simp; omega
          go_wp2_with fail
          go_roundg (20 - (k + 1))
          case measure => have := Hg.out; omega
          case rel => exact ⟨k + 1, o2, by omega, by omega, rfl, by go_num, hd5', ho', hk05⟩
      · have hmk := make300
        have hcv := conv300
        have hfit := hd.fits
        have cd := cells_at hd.cells
        go_wp2_with fail
        all_goals
          refine (arm_ok wr f c _ _ 0 false (by decide) hd.fuse (by decide)).mono ?_
          rintro e w4 ⟨rfl, hq4, hk4⟩
          have hd4 : DiskAt w4 d f c mb false [(0, false)] room o := hd.tried hk4 hq4
          have hk04 := hk.after hk4 (by simp; omega)
          clear hq4 hk4 cd hd hk
          go_wp2_with fail
          have hk5 : Keeps [] w4 (w4.alloc (.cells zeros300 5)) := (Keeps.refl [] w4).alloc _
          have hd5 := hd4.same hk5
          have hap : appR room o dG z300 = some 7 := by unfold appR; rw [if_neg (by decide), if_pos (by rw [z300_size]; omega)]
          have hap2 : appR room o dG ⟨#[]⟩ = none := by unfold appR; rw [if_neg (by decide), if_neg (by rw [empty_size]; omega)]
          generalize w4.alloc (.cells zeros300 5) = W5 at hk5 hd5 ⊢
          clear hmk hcv hd4
          refine (append_spec W5 d f c mb _ _ _ _ hd5 dG z300 (by decide)).mono ?_
          rintro e w6 ⟨rfl, hd6', hk6⟩
          rw [hap] at hd6' ⊢
          have hd6 : DiskAt w6 d f c mb false [(0, false)] room o := hd6'
          rw [show opErr (some 7) [(0, false)] = 7 from rfl]
          clear hd6' hd5
          go_wp2_with fail
          refine (append_spec w6 d f c mb _ _ _ _ hd6 dG ⟨#[]⟩ (by decide)).mono ?_
          rintro e w7 ⟨rfl, hd7', hk7⟩
          rw [hap2] at hd7' ⊢
          have hd7 : DiskAt w7 d f c mb false [] room o := hd7'
          rw [show opErr none [(0, false)] = 8 from rfl]
          have hk07 : Keeps [] w w7 := ((hk04.trans hk5).after hk6 (by simp; omega)).after hk7 (by simp; omega)
          clear hd7' hd6 hap hap2 hk04 hk5 hk6 hk7
          obtain ⟨ho1, ho2⟩ := ho.keys
          go_wp2_with fail
          refine (listD_spec w7 d f c mb _ _ _ _ hd7 dG ho1 ho2).mono ?_
          rintro e w8 ⟨v8, rfl, hrow, hk8⟩
          rw [ho.names] at hrow
          obtain ⟨ao8, cap8, rfl, _⟩ := row_slice hrow
          have hk08 := hk07.trans hk8
          clear hrow hk8 ho1 ho2 hd7 hk07
          go_wp2_with fail
          go_ret
          exact ⟨rfl, hk08⟩

theorem diskFull_law (W : World) (rm : Int) (_ : (Lit.int .i64 rm).wf = true) (v : Value) (h : ∃ ss : List ByteArray, SliceArg 1 (fun s => [Value.string s]) W v ss ∧ ∀ s ∈ ss, s.size ≤ maxLen) :
    Calls Try.prog 10 #[.int .i64 rm, v] W fun e w' => e = .returned (.bool true) ∧ Keeps [] W w' := by
  obtain ⟨ss, h1, h2⟩ := h
  exact diskFull_walk W rm v ss h1 h2

end Go.Proofs.Ythcdodjdlgeeoaa
