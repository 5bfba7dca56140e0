/-
  A plain text: at most 40 bytes, none of them a sign: the document's.
  No condition beyond those that each theorem states.
-/
import Derived.Test.YtjgaidojohgenaaDoorMatch
import Derived.Lib.SlBytesConst
namespace Go.Proofs.YtjgaidojohgenaaDoor
open Go Go.RowKit

def signsL : List UInt8 := [61, 33, 94, 64, 44, 124]

def plainB (s : ByteArray) : Bool := s.data.toList.all (fun b => !(signsL.contains b)) && decide (s.size ≤ 40)

def PlainRel (w : World) (s : ByteArray) (gk : Nat) (u3 : Value) (wr : World) : Prop := ∃ i, i ≤ s.size ∧ gk = s.size - i ∧ u3 = .int .i64 i ∧ (s.data.toList.take i).all (fun b => !(signsL.contains b)) = true ∧ Keeps [] w wr

def PlainIn (W : World) (x : UInt8) (gk : Nat) (u15 : Value) (wr : World) : Prop := ∃ j, j ≤ 6 ∧ gk = 6 - j ∧ u15 = .int .i64 j ∧ (signsL.take j).contains x = false ∧ wr = W

theorem plain_in (x : UInt8) (j : Nat) (hj : j < signsL.length) : (signsL.take (j + 1)).contains x = ((signsL.take j).contains x || decide (x = signsL[j])) := by
  rw [List.take_add_one, List.getElem?_eq_getElem hj, Option.toList_some]
  rw [List.contains_append]
  simp

set_option linter.unusedSimpArgs false in
set_option maxRecDepth 100000 in
set_option maxHeartbeats 1000000 in
theorem plain_spec (w : World) (s : ByteArray) (hs : s.size ≤ maxLen) :
    Calls Tryd.prog 51 #[.string s] w fun e w' => e = .returned (.bool (plainB s)) ∧ Keeps [] w w' := by
  unfold maxLen at hs
  obtain ⟨R, hR⟩ : ∃ R, R = plainB s := ⟨_, rfl⟩
  rw [← hR]
  have HR := Lib.hid hR
  clear hR
  go_enter Tryd.func51, Tryd.ntmps51
  go_wp2_with fail
  go_loopg [3] s.size (PlainRel w s)
  case atStart => exact ⟨0, Nat.zero_le _, rfl, rfl, rfl, Keeps.refl _ _⟩
  case round =>
    obtain ⟨i, hi, hgk, rfl, hall, hkw⟩ := hrel
    have Hg := Lib.hid (And.intro hgk hall)
    clear hgk hall
    by_cases hlt : i < s.size
    · have hlt' : (i : Int) < (s.size : Int) := by omega
      have kA : Keeps [] wr (wr.alloc (.cells #[.int .u8 61, .int .u8 33, .int .u8 94, .int .u8 64, .int .u8 44, .int .u8 124] 5 (6, 7))) := (Keeps.refl [] wr).alloc _
      have Hk := Lib.hid (And.intro (heap_new wr (.cells #[.int .u8 61, .int .u8 33, .int .u8 94, .int .u8 64, .int .u8 44, .int .u8 124] 5 (6, 7))) (hkw.trans kA))
      have hcv := Lib.run_convert_bytes_const (P := Tryd.prog) wr 119 5 #[.int .u8 61, .int .u8 33, .int .u8 94, .int .u8 64, .int .u8 44, .int .u8 124] 6 6 Tryd.underlying119 Tryd.underlying5
      rw [show (#[.int .u8 61, .int .u8 33, .int .u8 94, .int .u8 64, .int .u8 44, .int .u8 124] : Array Value).size = 6 from rfl] at hcv
      clear hkw kA
      go_wp2_with fail
      clear hcv
      generalize wr.heap.size = pk at Hk ⊢
      generalize wr.alloc (.cells #[.int .u8 61, .int .u8 33, .int .u8 94, .int .u8 64, .int .u8 44, .int .u8 124] 5 (6, 7)) = W at Hk ⊢
      obtain ⟨x, hx⟩ : ∃ x, x = s[i] := ⟨_, rfl⟩
      have Hx := Lib.hid hx
      clear hx
      go_loopg [15] 6 (PlainIn W x)
      case atStart => exact ⟨0, by decide, rfl, rfl, by simp, rfl⟩
      case round =>
        obtain ⟨j, hj, hgj, rfl, hin, hw⟩ := hrel
        subst hw
        have Hj := Lib.hid (And.intro hgj hin)
        clear hgj hin
        by_cases hlj : j < 6
        · have hlj' : (j : Int) < 6 := by omega
          have hjs : j < signsL.length := by show j < 6; exact hlj
          have hpx := lt_of_at Hk.out.1
          have d0 : wr.cell? ⟨pk, j, none⟩ = some (.int .u8 (signsL[j].toNat : Int)) := by
            rw [cells_at Hk.out.1]
            match j, hjs with
            | 0, _ => rfl
            | 1, _ => rfl
            | 2, _ => rfl
            | 3, _ => rfl
            | 4, _ => rfl
            | 5, _ => rfl
            | n + 6, h => exact absurd h (by show ¬ n + 6 < 6; omega)
          have Hp := Lib.hid (plain_in x j hjs)
          generalize signsL[j] = y at d0 Hp
          by_cases hxy : x = y
          · have he : (s[i].toNat : Int) = (y.toNat : Int) := by rw [← Hx.out, hxy]
            have Hxy := Lib.hid hxy
            clear hxy
            go_wp2_with fail
            go_ret
            refine ⟨?_, Hk.out.2⟩
            rw [HR.out]
            have hc : signsL.contains x = true := by
              have := Hp.out
              rw [decide_eq_true Hxy.out, Bool.or_true, List.contains_iff_mem] at this
              rw [List.contains_iff_mem]
              exact List.mem_of_mem_take this
            have : plainB s = false := by
              unfold plainB
              rw [Bool.and_eq_false_iff]
              left
              rw [List.all_eq_false]
              refine ⟨x, ?_, by rw [hc]; decide⟩
              rw [Hx.out]
              exact List.getElem_mem (l := s.data.toList) (by simpa using hlt)
            rw [this]
            rfl
          · have he : ¬ (s[i].toNat : Int) = (y.toNat : Int) := fun e => hxy (by rw [Hx.out]; exact UInt8.toNat_inj.1 (by omega))
            have Hxy := Lib.hid hxy
            clear hxy
            go_wp2_with fail
            go_roundg (6 - (j + 1))
            case measure => have := Hj.out.1; omega
            case rel => exact ⟨j + 1, by omega, rfl, by go_num, by rw [Hp.out, Hj.out.2, Bool.false_or]; exact decide_eq_false Hxy.out, rfl⟩
        · have hj6 := Lib.hid (show j = 6 from by omega)
          have hlj' : ¬ (j : Int) < 6 := by omega
          go_wp2_with fail
          go_roundg (s.size - (i + 1))
          case measure => have := Hg.out.1; omega
          case rel =>
            refine ⟨i + 1, hlt, rfl, by go_num, ?_, Hk.out.2⟩
            have hl : i < s.data.toList.length := by simpa using hlt
            have hc := Hj.out.2
            rw [hj6.out, show signsL.take 6 = signsL from rfl] at hc
            rw [List.take_add_one, List.getElem?_eq_getElem hl, Option.toList_some, List.all_append, Hg.out.2, Bool.true_and, show s.data.toList[i] = x from by rw [Hx.out]; rfl]
            simpa using hc
    · have hin := Lib.hid (show i = s.size from by omega)
      have hlt' : ¬ (i : Int) < (s.size : Int) := by omega
      have Hk := Lib.hid hkw
      clear hkw
      go_wp2_with fail
      go_ret
      refine ⟨?_, Hk.out⟩
      have h1 := Hg.out.2
      rw [hin.out, List.take_of_length_le (by simp)] at h1
      rw [HR.out]
      unfold plainB
      rw [h1, Bool.true_and]
      first | rfl | (simp; done) | (congr 2; simp; omega)
end Go.Proofs.YtjgaidojohgenaaDoor
