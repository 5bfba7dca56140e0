/-
  BucketLast answers true for every list of texts and every list of numbers, and leaves all memory that was there as it was.
  No condition: every input that can be read.
-/
import Derived.Test.YthcdodjdlgeeoaaBucketAgain
import Derived.Test.YthcdodjdlgeeoaaArgs
import Derived.StillTailTactics
namespace Go.Proofs.Ythcdodjdlgeeoaa
open Go Go.RowKit Go.Conc

theorem quiet_same {P : Program} {f : FuncId} {args : Array Value} {w : World} {n : Nat} {v : Value} (h : Calls P f args (w.drewN n) fun e w' => e = .returned v ∧ w.drewN n = w') : Calls P f args (w.drewN n) fun e w'' => e = .returned v ∧ ∃ m, w'' = w.drewN m :=
  h.mono fun _ _ ⟨he, hm⟩ => ⟨he, n, hm.symm⟩

theorem BucketAt.drew {w : World} {b f c mb : Nat} {armed : Bool} {Q : List (Int × Bool)} {o : List (ByteArray × Ob)} (h : BucketAt w b f c mb armed Q o) : BucketAt w.drew b f c mb armed Q o := h.keep (Keeps.refl [] w).drew (by simp) (by simp) (by simp) (by simp)

/-- The object behind k Puts. -/
def lastO (ss : List ByteArray) (zs : List Int) : Nat → List (ByteArray × Ob)
  | 0 => []
  | k + 1 => objN (cut (ss.getD k ⟨#[]⟩) 60) (zs.getD k 0)
theorem lastO_put (ss : List ByteArray) (zs : List Int) (k : Nat) (h1 : k < ss.length) (h2 : k < zs.length) : chg [] (lastO ss zs k) (put (lastO ss zs k) nameO (cut ss[k] 60, zs[k])) = lastO ss zs (k + 1) := by
  have e : lastO ss zs (k + 1) = objN (cut ss[k] 60) zs[k] := by simp [lastO, List.getD, h1, h2]
  rw [e]
  cases k <;> rfl

theorem listing_one (s : ByteArray) (t : Int) : listing (objN s t) nameO = [(nameO, (s, t))] := by
  have h : sortedKeys (objN s t) = [nameO] := by simp [sortedKeys, sortB, objN, nameO]
  have h2 : hasPre nameO nameO = true := by decide +kernel
  simp only [listing, h]
  simp only [List.filter_cons, h2, if_true, List.filter_nil, List.map_cons, List.map_nil]
  rfl

def LastRel (w : World) (b f c mb : Nat) (ss : List ByteArray) (zs : List Int) (n gk : Nat) (i : Value) (wr : World) : Prop :=
  ∃ k, k ≤ n ∧ gk = n - k ∧ i = .int .i64 k ∧ BucketAt wr b f c mb false [] (lastO ss zs k) ∧ Keeps [] w wr

set_option maxRecDepth 100000 in
set_option maxHeartbeats 2000000 in
theorem bucketLast_walk (ss : List ByteArray) (zs : List Int) (v0 v1 : Value) (w : World) (hs : SliceArg 1 (fun s => [Value.string s]) w v0 ss) (hz : SliceArg 1 (fun n => [Value.int .i64 n]) w v1 zs) (hzb : ∀ n ∈ zs, -9223372036854775808 ≤ n ∧ n ≤ 9223372036854775807) :
    Calls Try.prog 6 #[v0, v1] w fun e w' => e = .returned (.bool true) ∧ Keeps [] w w' := by
  obtain ⟨ao, cap, rfl, hl, hc⟩ := hs
  obtain ⟨bo, cap2, rfl, hl2, hc2⟩ := hz
  unfold maxLen at hl hl2
  have Hc := Lib.hid hc
  have Hc2 := Lib.hid hc2
  clear hc hc2
  obtain ⟨n, hn⟩ : ∃ n, n = min (min ss.length zs.length) 10 := ⟨_, rfl⟩
  have hn1 : n ≤ ss.length := by omega
  have hn2 : n ≤ zs.length := by omega
  have hn3 : n ≤ 10 := by omega
  have Hn := Lib.hid hn
  clear hn
  go_enter Try.func6, Try.ntmps6
  go_wp2_with fail
  refine (newBucket_spec w).mono ?_
  rintro e w1 ⟨b, f, c, mb, rfl, hb1, hk1, l1, l2, l3, l4⟩
  go_upto_region 2 with (fail)
  go_cut [6] from 12 (fun s6 wc => s6 = .int .i64 n ∧ wc = w1)
  case first =>
    go_wp2_with fail
    all_goals
      go_meet
      have hn := Hn.out
      exact ⟨by congr 1; omega, rfl⟩
  case rest =>
    obtain ⟨rfl, rfl⟩ := hcut
    by_cases h0 : n = 0
    · subst h0
      go_wp2_with fail
      refine (awakeB_spec wc).mono ?_
      rintro e w2 ⟨rfl, hk2⟩
      go_wp2_with fail
      refine (awakeB_spec w2).mono ?_
      rintro e w3 ⟨rfl, hk3⟩
      go_wp2_with fail
      go_ret
      exact ⟨rfl, (hk1.trans hk2).trans hk3⟩
    · have h0' : ((n : Int) == 0) = false := by simp; omega
      go_wp2_with fail
      refine (awakeB_spec wc).mono ?_
      rintro e w2 ⟨rfl, hk2⟩
      have hb2 := hk2.keep_bucket hb1
      have hk02 := hk1.trans hk2
      go_wp2_with fail
      go_loopg [7] n (LastRel w b f c mb ss zs n)
      case atStart => exact ⟨0, Nat.zero_le _, rfl, rfl, hb2, hk02⟩
      case round =>
        obtain ⟨k, hkn, hgk, rfl, hbr, hkr⟩ := hrel
        have Hg := Lib.hid hgk
        clear hgk hb2 hk2 hk02 hb1 hk1
        by_cases hlt : k < n
        · obtain ⟨b1, o1, rfl, hb1, hc1⟩ := Hc.out k (by omega)
          obtain ⟨b2, o2, rfl, hb2, hc2⟩ := Hc2.out k (by omega)
          have d1 : wr.cell? ⟨b1, o1 + k, none⟩ = some (.string ss[k]) := by
            rw [hkr.cell hb1 (by simp)]
            simpa using hc1 0 (by omega)
          have d2 : wr.cell? ⟨b2, o2 + k, none⟩ = some (.int .i64 zs[k]) := by
            rw [hkr.cell hb2 (by simp)]
            simpa using hc2 0 (by omega)
          clear hc1 hc2
          have k1 : (k : Int) < (ss.length : Int) := by omega
          have k2 : (k : Int) < (zs.length : Int) := by omega
          go_wp2_with fail
          go_still_tail 10, (by kernel_rfl)
          still_call ((cut_any _ 60 _ (by decide)).mono fun _ _ h => ⟨h.1, h.2.symm⟩)
          repeat still_step
          refine wpStill_nil ?_
          have hbd := BucketAt.drew hbr
          change wpList _ _ _ _ _ wr.drew
          go_wp2_with fail
          refine (put_spec wr.drew b f c mb _ _ _ hbd nameO (cut ss[k] 60) zs[k] (by decide) (by decide)).mono ?_
          rintro e w4 ⟨rfl, hb4', hk4⟩
          rw [lastO_put ss zs k (by omega) (by omega)] at hb4'
          have hb4 : BucketAt w4 b f c mb false [] (lastO ss zs (k + 1)) := hb4'
          have hkr4 : Keeps [] w w4 := hkr.drew.after hk4 (by simp; omega)
          rw [show ioErr [] = 0 from rfl]
          clear hb4' hk4 hbr hkr hbd
          go_wp2_with fail
          go_roundg (n - (k + 1))
          case measure => have := Hg.out; omega
          case rel => exact ⟨k + 1, by omega, rfl, by go_num, hb4, hkr4⟩
        · obtain ⟨m, rfl⟩ : ∃ m, n = m + 1 := ⟨n - 1, by omega⟩
          obtain rfl : k = m + 1 := by omega
          have hbr' : BucketAt wr b f c mb false [] (objN (cut ss[m] 60) zs[m]) := by
            have e : lastO ss zs (m + 1) = objN (cut ss[m] 60) zs[m] := by simp [lastO, List.getD, show m < ss.length by omega, show m < zs.length by omega]
            rw [← e]; exact hbr
          clear hbr h0'
          have hcs := cut_size ss[m] 60
          have hbz := hzb zs[m] (List.getElem_mem _)
          obtain ⟨b1, o1, rfl, hb1, hc1⟩ := Hc.out m (by omega)
          obtain ⟨b2, o2, rfl, hb2, hc2⟩ := Hc2.out m (by omega)
          have d1 : w.cell? ⟨b1, o1 + m, none⟩ = some (.string ss[m]) := by simpa using hc1 0 (by omega)
          have d2 : w.cell? ⟨b2, o2 + m, none⟩ = some (.int .i64 zs[m]) := by simpa using hc2 0 (by omega)
          have D := Lib.hid (And.intro d1 d2)
          clear hc1 hc2 d1 d2
          generalize hct : cut ss[m] 60 = ct at hbr' hcs
          have Hct := Lib.hid hct
          clear hct
          go_wp2_with fail
          refine (list_spec wr b f c mb _ _ _ hbr' nameO ?_ ?_ (by simp [objN])).mono ?_
          · intro p hp
            simp only [objN, List.mem_singleton] at hp
            subst hp
            show nameO.size ≤ maxLen
            decide
          · intro x
            simp only [objN, look]
            split
            · simp only [obOr, Option.getD_some]; omega
            · decide
          rintro e w4 ⟨v, rfl, hb4', hk4, hrow⟩
          have hb4 : BucketAt w4 b f c mb false [] (objN ct zs[m]) := hb4'
          rw [show listL [] (objN ct zs[m]) nameO = [(nameO, (ct, zs[m]))] from listing_one ct zs[m]] at hrow
          rw [show ioErr [] = 0 from rfl]
          obtain ⟨ai, capi, rfl, _, _, hci⟩ := row_slice hrow
          obtain ⟨g, rfl, hg1, hg2, hg3⟩ := hci 0 (by simp)
          have hg4 : w4.cell? ⟨g, 0 + 1, none⟩ = some (.int .i64 ct.size) := by
            obtain ⟨g', e', _, _, h'⟩ := hci 1 (by simp)
            injection e' with e'; injection e' with e'; subst e'
            exact h'
          have hg5 : w4.cell? ⟨g, 0 + 2, none⟩ = some (.int .i64 zs[m]) := by
            obtain ⟨g', e', _, _, h'⟩ := hci 2 (by simp)
            injection e' with e'; injection e' with e'; subst e'
            exact h'
          obtain ⟨m0, m1, m2, m3⟩ := hbr'.lt
          clear hrow hci hg3 hb4'
          go_wp2_with fail
          refine (get_spec w4 b f c mb _ _ _ hb4 nameO).mono ?_
          rintro e w5 ⟨rfl, hb5, hk5⟩
          rw [show getVal [] (objN ct zs[m]) nameO = (ct, 0) from rfl]
          have hk05 := (hkr.after hk4 (by simp; omega)).after hk5 (by simp; omega)
          have e1 : w5.cell? ⟨b1, o1 + m, none⟩ = some (.string ss[m]) := by rw [hk05.cell hb1 (by simp)]; exact D.out.1
          have e2 : w5.cell? ⟨b2, o2 + m, none⟩ = some (.int .i64 zs[m]) := by rw [hk05.cell hb2 (by simp)]; exact D.out.2
          have e3 : w5.cell? ⟨g, 1, none⟩ = some (.int .i64 ct.size) := by rw [hk5.cell hg2 (by simp; omega)]; exact hg4
          have e4 : w5.cell? ⟨g, 2, none⟩ = some (.int .i64 zs[m]) := by rw [hk5.cell hg2 (by simp; omega)]; exact hg5
          have q1 : ((m : Int)) < (ss.length : Int) := by omega
          have q2 : ((m : Int)) < (zs.length : Int) := by omega
          clear hg4 hg5 hb4 hk4 hk5 hb5
          go_wp2_with fail
          have Hcc : Hid (∀ W, Calls Try.prog 14 #[.string ss[m], .int .i64 60] W fun e w' => e = .returned (.string ct) ∧ W = w') := by
            apply Lib.hid
            intro W
            rw [← Hct.out]
            exact cut_any _ 60 _ (by decide)
          go_quiet ((go_at_call 14; exact quiet_same (Hcc.out _)))
          go_wp2_with fail
          go_ret
          exact ⟨rfl, hk05.drewN _⟩

theorem bucketLast_law (W : World) (v0 : Value) (h0 : ∃ ss : List ByteArray, SliceArg 1 (fun s => [Value.string s]) W v0 ss ∧ ∀ s ∈ ss, s.size ≤ maxLen) (v1 : Value)
    (h1 : ∃ zs : List Int, SliceArg 1 (fun n => [Value.int .i64 n]) W v1 zs ∧ ∀ n ∈ zs, -9223372036854775808 ≤ n ∧ n ≤ 9223372036854775807) :
    Calls Try.prog 6 #[v0, v1] W fun e w' => e = .returned (.bool true) ∧ Keeps [] W w' := by
  obtain ⟨ss, hs, _⟩ := h0
  obtain ⟨zs, hz, hzb⟩ := h1
  exact bucketLast_walk ss zs v0 v1 W hs hz hzb

end Go.Proofs.Ythcdodjdlgeeoaa
