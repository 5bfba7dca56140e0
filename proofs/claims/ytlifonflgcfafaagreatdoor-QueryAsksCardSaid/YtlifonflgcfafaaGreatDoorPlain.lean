/-
  A plain text: at most 40 bytes, none of them a sign: the document's.
  No condition beyond those that each theorem states.

  Which matchers may be: the document's Check.
  The texts are no longer than a slice may be.
-/
import Derived.Test.YtlifonflgcfafaaGreatDoorGetP
import Derived.Lib.SlBytesConst
namespace Go.Proofs.YtlifonflgcfafaaGreatDoor
open Go Go.RowKit

def signsL : List UInt8 := [61, 33, 94, 64, 44, 124]

def plainB (s : ByteArray) : Bool := s.data.toList.all (fun b => !(signsL.contains b)) && decide (s.size ≤ 40)

def PlainRel (w : World) (s : ByteArray) (gk : Nat) (u3 : Value) (wr : World) : Prop := ∃ i, i ≤ s.size ∧ gk = s.size - i ∧ u3 = .int .i64 i ∧ (s.data.toList.take i).all (fun b => !(signsL.contains b)) = true ∧ Keeps [] w wr

def PlainIn (W : World) (x : UInt8) (gk : Nat) (u15 : Value) (wr : World) : Prop := ∃ j, j ≤ 6 ∧ gk = 6 - j ∧ u15 = .int .i64 j ∧ (signsL.take j).contains x = false ∧ wr = W

theorem plain_in (x : UInt8) (j : Nat) (hj : j < signsL.length) : (signsL.take (j + 1)).contains x = ((signsL.take j).contains x || decide (x = signsL[j])) := by
  rw [List.take_add_one, List.getElem?_eq_getElem hj, Option.toList_some]
  rw [List.contains_append]
  simp

set_option linter.unusedSimpArgs false in
set_option maxRecDepth 100000 in
set_option maxHeartbeats 1000000 in
theorem plain_spec (w : World) (s : ByteArray) (hs : s.size ≤ maxLen) :
    Calls Tryz.prog 77 #[.string s] w fun e w' => e = .returned (.bool (plainB s)) ∧ Keeps [] w w' := by
  unfold maxLen at hs
  obtain ⟨R, hR⟩ : ∃ R, R = plainB s := ⟨_, rfl⟩
  rw [← hR]
  have HR := Lib.hid hR
  clear hR
  go_enter Tryz.func77, Tryz.ntmps77
  go_wp2_with fail
  go_loopg [3] s.size (PlainRel w s)
  case atStart => exact ⟨0, Nat.zero_le _, rfl, rfl, rfl, Keeps.refl _ _⟩
  case round =>
    obtain ⟨i, hi, hgk, rfl, hall, hkw⟩ := hrel
    have Hg := Lib.hid (And.intro hgk hall)
    clear hgk hall
    by_cases hlt : i < s.size
    · have hlt' : (i : Int) < (s.size : Int) := by omega
      have kA : Keeps [] wr (wr.alloc (.cells #[.int .u8 61, .int .u8 33, .int .u8 94, .int .u8 64, .int .u8 44, .int .u8 124] 5 (6, 7))) := (Keeps.refl [] wr).alloc _
      have Hk := Lib.hid (And.intro (heap_new wr (.cells #[.int .u8 61, .int .u8 33, .int .u8 94, .int .u8 64, .int .u8 44, .int .u8 124] 5 (6, 7))) (hkw.trans kA))
      have hcv := Lib.run_convert_bytes_const (P := Tryz.prog) wr 142 5 #[.int .u8 61, .int .u8 33, .int .u8 94, .int .u8 64, .int .u8 44, .int .u8 124] 6 6 Tryz.underlying142 Tryz.underlying5
      rw [show (#[.int .u8 61, .int .u8 33, .int .u8 94, .int .u8 64, .int .u8 44, .int .u8 124] : Array Value).size = 6 from rfl] at hcv
      clear hkw kA
      go_wp2_with fail
      clear hcv
      generalize wr.heap.size = pk at Hk ⊢
      generalize wr.alloc (.cells #[.int .u8 61, .int .u8 33, .int .u8 94, .int .u8 64, .int .u8 44, .int .u8 124] 5 (6, 7)) = W at Hk ⊢
      obtain ⟨x, hx⟩ : ∃ x, x = s[i] := ⟨_, rfl⟩
      have Hx := Lib.hid hx
      clear hx
      go_loopg [15] 6 (PlainIn W x)
      case atStart => exact ⟨0, by decide, rfl, rfl, by simp, rfl⟩
      case round =>
        obtain ⟨j, hj, hgj, rfl, hin, hw⟩ := hrel
        subst hw
        have Hj := Lib.hid (And.intro hgj hin)
        clear hgj hin
        by_cases hlj : j < 6
        · have hlj' : (j : Int) < 6 := by omega
          have hjs : j < signsL.length := by show j < 6; exact hlj
          have hpx := lt_of_at Hk.out.1
          have d0 : wr.cell? ⟨pk, j, none⟩ = some (.int .u8 (signsL[j].toNat : Int)) := by
            rw [cells_at Hk.out.1]
            match j, hjs with
            | 0, _ => rfl
            | 1, _ => rfl
            | 2, _ => rfl
            | 3, _ => rfl
            | 4, _ => rfl
            | 5, _ => rfl
            | n + 6, h => exact absurd h (by show ¬ n + 6 < 6; omega)
          have Hp := Lib.hid (plain_in x j hjs)
          generalize signsL[j] = y at d0 Hp
          by_cases hxy : x = y
          · have he : (s[i].toNat : Int) = (y.toNat : Int) := by rw [← Hx.out, hxy]
            have Hxy := Lib.hid hxy
            clear hxy
            go_wp2_with fail
            go_ret
            refine ⟨?_, Hk.out.2⟩
            rw [HR.out]
            have hc : signsL.contains x = true := by
              have := Hp.out
              rw [decide_eq_true Hxy.out, Bool.or_true, List.contains_iff_mem] at this
              rw [List.contains_iff_mem]
              exact List.mem_of_mem_take this
            have : plainB s = false := by
              unfold plainB
              rw [Bool.and_eq_false_iff]
              left
              rw [List.all_eq_false]
              refine ⟨x, ?_, by rw [hc]; decide⟩
              rw [Hx.out]
              exact List.getElem_mem (l := s.data.toList) (by simpa using hlt)
            rw [this]
            rfl
          · have he : ¬ (s[i].toNat : Int) = (y.toNat : Int) := fun e => hxy (by rw [Hx.out]; exact UInt8.toNat_inj.1 (by omega))
            have Hxy := Lib.hid hxy
            clear hxy
            go_wp2_with fail
            go_roundg (6 - (j + 1))
            case measure => have := Hj.out.1; omega
            case rel => exact ⟨j + 1, by omega, rfl, by go_num, by rw [Hp.out, Hj.out.2, Bool.false_or]; exact decide_eq_false Hxy.out, rfl⟩
        · have hj6 := Lib.hid (show j = 6 from by omega)
          have hlj' : ¬ (j : Int) < 6 := by omega
          go_wp2_with fail
          go_roundg (s.size - (i + 1))
          case measure => have := Hg.out.1; omega
          case rel =>
            refine ⟨i + 1, hlt, rfl, by go_num, ?_, Hk.out.2⟩
            have hl : i < s.data.toList.length := by simpa using hlt
            have hc := Hj.out.2
            rw [hj6.out, show signsL.take 6 = signsL from rfl] at hc
            rw [List.take_add_one, List.getElem?_eq_getElem hl, Option.toList_some, List.all_append, Hg.out.2, Bool.true_and, show s.data.toList[i] = x from by rw [Hx.out]; rfl]
            simpa using hc
    · have hin := Lib.hid (show i = s.size from by omega)
      have hlt' : ¬ (i : Int) < (s.size : Int) := by omega
      have Hk := Lib.hid hkw
      clear hkw
      go_wp2_with fail
      go_ret
      refine ⟨?_, Hk.out⟩
      have h1 := Hg.out.2
      rw [hin.out, List.take_of_length_le (by simp)] at h1
      rw [HR.out]
      unfold plainB
      rw [h1, Bool.true_and]
      first | rfl | (simp; done) | (congr 2; simp; omega)
end Go.Proofs.YtlifonflgcfafaaGreatDoor

namespace Go.Proofs.YtlifonflgcfafaaGreatDoor
open Go Go.RowKit

def valB (k : Int) (v : ByteArray) : Bool := plainB v && !(decide (k = 3) && decide (v = ⟨#[]⟩))

def headB (k : Int) (n : ByteArray) (l : Nat) : Bool := decide (1 ≤ k) && decide (k ≤ 4) && decide (n ≠ ⟨#[]⟩) && plainB n && decide (l ≠ 0) && decide (l ≤ 10) && !(decide (k < 4) && decide (1 < l))

def chkB (m : MatB) : Bool := headB m.1 m.2.1 m.2.2.length && m.2.2.all (valB m.1)

theorem chkB_may {m : MatB} (h : chkB m = true) : mayK m := by
  unfold chkB headB at h
  simp only [Bool.and_eq_true, decide_eq_true_eq] at h
  obtain ⟨⟨⟨⟨⟨⟨⟨h1, h2⟩, -⟩, -⟩, h5⟩, -⟩, -⟩, -⟩ := h
  exact ⟨by omega, by omega⟩

def ChkVRel (w : World) (k : Int) (V : List ByteArray) (gk : Nat) (u50 : Value) (wr : World) : Prop := ∃ j, j ≤ V.length ∧ gk = V.length - j ∧ u50 = .int .i64 j ∧ (V.take j).all (valB k) = true ∧ Keeps [] w wr

theorem not_empty {x : ByteArray} (h : ¬ x = ⟨#[]⟩) : (x.toList == []) = false ∧ (x.toList != []) = true ∧ ¬ x.toList = [] := by
  have hne : ¬ x.data.toList = [] := fun e => h (ba_ext e)
  have hn1 : (x.toList == []) = false := by rw [ByteArray.toList_eq]; simpa using hne
  exact ⟨hn1, by rw [bne, hn1]; rfl, by rw [ByteArray.toList_eq]; exact hne⟩

set_option linter.unusedSimpArgs false in
set_option maxRecDepth 100000 in
set_option maxHeartbeats 1000000 in
theorem chkR_spec (w : World) (k : Int) (n : ByteArray) (v : Value) (V : List ByteArray) (h : SliceArg 1 encS1 w v V) (hn : n.size ≤ maxLen) (hVs : ∀ x ∈ V, x.size ≤ maxLen) :
    Calls Tryz.prog 43 #[.agg #[.int .i64 k, .string n, v]] w fun e w' => e = .returned (.bool (chkB (k, n, V))) ∧ Keeps [] w w' := by
  have hf := h
  obtain ⟨ao, cap, rfl, hl, -⟩ := h
  unfold maxLen at hl
  obtain ⟨R, hR⟩ : ∃ R, R = chkB (k, n, V) := ⟨_, rfl⟩
  rw [← hR]
  have HR := Lib.hid (show R = (headB k n V.length && V.all (valB k)) from hR)
  clear hR
  have kA : Keeps [] w (w.alloc (.cells #[.int .i64 k, .string n, .slice ao V.length cap] 113)) := (Keeps.refl [] w).alloc _
  have H0 := Lib.hid (And.intro (heap_new w (.cells #[.int .i64 k, .string n, .slice ao V.length cap] 113)) (And.intro (hf.keep kA) kA))
  clear hf kA
  go_enter Tryz.func43, Tryz.ntmps43
  by_cases k1 : k < 1
  · go_wp2_with fail
    go_ret
    exact ⟨by rw [HR.out]; unfold headB; rw [decide_eq_false (show ¬ 1 ≤ k from by omega)]; simp, H0.out.2.2⟩
  by_cases k4 : 4 < k
  · go_wp2_with fail
    go_ret
    exact ⟨by rw [HR.out]; unfold headB; rw [decide_eq_false (show ¬ k ≤ 4 from by omega)]; simp, H0.out.2.2⟩
  by_cases hne : n = ⟨#[]⟩
  · subst hne
    go_wp2_with fail
    go_ret
    exact ⟨by rw [HR.out]; unfold headB; simp, H0.out.2.2⟩
  have HN := Lib.hid hne
  obtain ⟨q1, q2, q3⟩ := not_empty hne
  clear hne
  go_wp2_with fail
  refine (plain_spec _ n hn).mono ?_
  rintro e w1 ⟨rfl, hk1⟩
  have H1 := Lib.hid (And.intro (hk1.at_ H0.out.1 (by simp)) (And.intro (H0.out.2.1.keep hk1) (H0.out.2.2.trans hk1)))
  clear hk1 H0
  generalize w.heap.size = pk at H1 ⊢
  have c0 : w1.cell? ⟨pk, 0, none⟩ = some (.int .i64 k) := cells_at H1.out.1 0
  have c2 : w1.cell? ⟨pk, 2, none⟩ = some (.slice ao V.length cap) := cells_at H1.out.1 2
  cases hpn : plainB n with
  | false =>
    go_wp2_with fail
    go_ret
    exact ⟨by rw [HR.out]; unfold headB; rw [hpn]; simp, H1.out.2.2⟩
  | true =>
    have Hpn := Lib.hid hpn
    clear hpn
    by_cases l0 : (V.length : Int) = 0
    · have hl0 : ((V.length : Int) == 0) = true := by rw [beq_iff_eq]; exact l0
      have L0 := Lib.hid l0
      clear l0
      go_wp2_with fail
      all_goals try (exfalso; have := L0.out; omega)
      go_ret
      exact ⟨by rw [HR.out]; unfold headB; rw [decide_eq_false (show ¬ V.length ≠ 0 from by have := L0.out; omega)]; simp, H1.out.2.2⟩
    have hl0 : ((V.length : Int) == 0) = false := by rw [beq_eq_false_iff_ne]; exact l0
    by_cases l10 : (10 : Int) < (V.length : Int)
    · go_wp2_with fail
      go_ret
      exact ⟨by rw [HR.out]; unfold headB; rw [decide_eq_false (show ¬ V.length ≤ 10 from by omega)]; simp, H1.out.2.2⟩
    by_cases k41 : k < 4 ∧ 1 < V.length
    · obtain ⟨y1, y2⟩ := k41
      have y3 : (1 : Int) < (V.length : Int) := by omega
      go_wp2_with fail
      go_ret
      exact ⟨by rw [HR.out]; unfold headB; rw [decide_eq_true y1, decide_eq_true y2]; simp, H1.out.2.2⟩
    have Hh := Lib.hid (show headB k n V.length = true from by
      unfold headB
      rw [Hpn.out]
      simp only [Bool.and_eq_true, decide_eq_true_eq, Bool.not_eq_true', Bool.and_eq_false_iff, decide_eq_false_iff_not]
      refine ⟨⟨⟨⟨⟨⟨by omega, by omega⟩, HN.out⟩, trivial⟩, by omega⟩, by omega⟩, ?_⟩
      by_cases y1 : k < 4
      · right
        intro y2
        exact k41 ⟨y1, y2⟩
      · left
        exact y1)
    have HR2 := Lib.hid (show R = V.all (valB k) from by rw [HR.out, Hh.out, Bool.true_and])
    clear HR
    have hk4 : ¬ k < 4 ∨ (k < 4 ∧ ¬ (1 : Int) < (V.length : Int)) := by
      by_cases y1 : k < 4
      · right
        exact ⟨y1, fun y2 => k41 ⟨y1, by omega⟩⟩
      · exact .inl y1
    clear k41
    have hV0 : 0 < V.length := by omega
    rcases hk4 with y1 | ⟨y1, y2⟩
    all_goals
      go_wp2_with fail
      clear q1 q2 q3 c2 hl0 c0
      go_loopg [50] V.length (ChkVRel w1 k V)
      case atStart => exact ⟨0, Nat.zero_le _, rfl, rfl, rfl, Keeps.refl _ _⟩
      case round =>
        obtain ⟨j, hj, hgk, rfl, hall, hkw⟩ := hrel
        have Hg := Lib.hid (And.intro hgk hall)
        clear hgk hall
        by_cases hlt : j < V.length
        · have hlt' : (j : Int) < (V.length : Int) := by omega
          obtain ⟨b, off, cap', ea, hbW, hcell⟩ := texts_at (H1.out.2.1.keep hkw) hV0
          injection ea with ea _ ec
          subst ea ec
          have d0 := hcell j hlt
          rw [List.getD_eq_getElem?_getD, List.getElem?_eq_getElem hlt, Option.getD_some] at d0
          have hys := hVs V[j] (List.getElem_mem hlt)
          have Hsp := Lib.hid (show (V.take (j + 1)).all (valB k) = ((V.take j).all (valB k) && valB k V[j]) from by rw [List.take_add_one, List.getElem?_eq_getElem hlt, Option.toList_some, List.all_append]; simp)
          have Hno := Lib.hid (show valB k V[j] = false → V.all (valB k) = false from fun h => by
            rw [List.all_eq_false]
            exact ⟨V[j], List.getElem_mem hlt, by rw [h]; decide⟩)
          have Hk := Lib.hid (And.intro (hkw.at_ H1.out.1 (by simp)) hkw)
          clear hkw hcell
          generalize V[j] = y at d0 hys Hsp Hno
          go_wp2_with fail
          refine (plain_spec _ y hys).mono ?_
          rintro e w2 ⟨rfl, hk2⟩
          have H2 := Lib.hid (go1 hk2 Hk.out)
          clear hk2 Hk d0
          have c0 : w2.cell? ⟨pk, 0, none⟩ = some (.int .i64 k) := cells_at H2.out.1 0
          cases hpy : plainB y with
          | false =>
            go_wp2_with fail
            go_ret
            exact ⟨by rw [HR2.out, Hno.out (by unfold valB; rw [hpy]; rfl)]; rfl, H1.out.2.2.trans H2.out.2⟩
          | true =>
            have Hpy := Lib.hid hpy
            clear hpy
            by_cases k3 : k = 3
            · first
                | (exfalso; omega)
                | (have hk3b : (k == 3) = true := by rw [beq_iff_eq]; exact k3
                   by_cases hy : y = ⟨#[]⟩
                   · have Hk3 := Lib.hid k3
                     subst hy
                     clear k3
                     go_wp2_with fail
                     all_goals try (exfalso; have := Hk3.out; omega)
                     go_ret
                     exact ⟨by rw [HR2.out, Hno.out (by unfold valB; rw [Hpy.out, decide_eq_true Hk3.out]; simp)]; rfl, H1.out.2.2.trans H2.out.2⟩
                   · obtain ⟨z1, z2, z3⟩ := not_empty hy
                     have Hy := Lib.hid hy
                     have Hk3 := Lib.hid k3
                     clear hy k3
                     go_wp2_with fail
                     all_goals try (exfalso; have := Hk3.out; omega)
                     go_roundg (V.length - (j + 1))
                     case measure => have := Hg.out.1; omega
                     case rel => exact ⟨j + 1, by omega, rfl, by go_num, by rw [Hsp.out, Hg.out.2]; unfold valB; rw [Hpy.out, decide_eq_false Hy.out]; simp, H2.out.2⟩)
            · have hk3b : (k == 3) = false := by rw [beq_eq_false_iff_ne]; exact k3
              have Hk3 := Lib.hid k3
              clear k3
              go_wp2_with fail
              all_goals try (exfalso; have := Hk3.out; omega)
              go_roundg (V.length - (j + 1))
              case measure => have := Hg.out.1; omega
              case rel => exact ⟨j + 1, by omega, rfl, by go_num, by rw [Hsp.out, Hg.out.2]; unfold valB; rw [Hpy.out, decide_eq_false Hk3.out]; simp, H2.out.2⟩
        · have hjn := Lib.hid (show j = V.length from by omega)
          have hlt' : ¬ (j : Int) < (V.length : Int) := by omega
          have Hk := Lib.hid hkw
          clear hkw
          go_wp2_with fail
          go_ret
          refine ⟨?_, H1.out.2.2.trans Hk.out⟩
          have h1 := Hg.out.2
          rw [hjn.out, List.take_length] at h1
          rw [HR2.out, h1]
          rfl
end Go.Proofs.YtlifonflgcfafaaGreatDoor
