/-
  The value of a name in a set of pairs: the program's Get and the document's.
  No condition beyond those that each theorem states.
-/
import Derived.Test.YtjgaidojohgenaaDoorPairs
namespace Go.Proofs.YtjgaidojohgenaaDoor
open Go Go.RowKit

def getP : List PairB → ByteArray → ByteArray
  | [], _ => ⟨#[]⟩
  | p :: r, x => if p.1 = x then p.2 else getP r x

theorem getP_drop (L : List PairB) (x : ByteArray) (k : Nat) (hk : k < L.length) : getP (L.drop k) x = if L[k].1 = x then L[k].2 else getP (L.drop (k + 1)) x := by
  rw [List.drop_eq_getElem_cons hk]
  rfl

def GetRel (w : World) (L : List PairB) (x : ByteArray) (gk : Nat) (u9 : Value) (wr : World) : Prop := ∃ k, k ≤ L.length ∧ gk = L.length - k ∧ u9 = .int .i64 k ∧ getP (L.drop k) x = getP L x ∧ Keeps [] w wr

set_option linter.unusedSimpArgs false in
set_option maxRecDepth 100000 in
set_option maxHeartbeats 1000000 in
theorem getS_spec (w : World) (v : Value) (L : List PairB) (x : ByteArray) (h : SliceArg 2 encPB w v L) :
    Calls Tryd.prog 42 #[v, .string x] w fun e w' => e = .returned (.string (getP L x)) ∧ Keeps [] w w' := by
  have Hf := Lib.hid h
  obtain ⟨ao, cap, rfl, hl, -⟩ := h
  unfold maxLen at hl
  obtain ⟨R, hR⟩ : ∃ R, R = getP L x := ⟨_, rfl⟩
  rw [← hR]
  have HR := Lib.hid hR
  clear hR
  go_enter Tryd.func42, Tryd.ntmps42
  go_wp2_with fail
  go_loopg [9] L.length (GetRel w L x)
  case atStart => exact ⟨0, Nat.zero_le _, rfl, rfl, by rw [List.drop_zero], Keeps.refl _ _⟩
  case round =>
    obtain ⟨k, hk, hgk, rfl, hget, hkw⟩ := hrel
    have Hg := Lib.hid (And.intro hgk hget)
    clear hgk hget
    by_cases hlt : k < L.length
    · obtain ⟨b, off, cap', ea, hbW, d0, d1⟩ := pair_at (Hf.out.keep hkw) k hlt
      injection ea with ea _ ec
      subst ea ec
      have hlt' : (k : Int) < (L.length : Int) := by omega
      have Hd := Lib.hid (getP_drop L x k hlt)
      obtain ⟨p, hp⟩ : ∃ p, p = L[k] := ⟨_, rfl⟩
      rw [← hp] at d0 d1 Hd
      obtain ⟨p1, p2⟩ := p
      dsimp only at d0 d1 Hd
      have kA : Keeps [] wr (wr.alloc (.cells #[.string p1, .string p2] 78)) := (Keeps.refl [] wr).alloc _
      have Hk := Lib.hid (hkw.trans kA)
      clear hkw hp kA
      by_cases hx : p1 = x
      · subst hx
        go_wp2_with fail
        go_ret
        refine ⟨?_, Hk.out⟩
        have h1 := Hd.out
        rw [if_pos trivial] at h1
        rw [HR.out, ← Hg.out.2, h1]
        rfl
      · have hbb : (p1 == x) = false := by rw [ba_beq]; simpa using hx
        have hbb : (p1.toList == x.toList) = false := by rw [toList_beq]; exact decide_eq_false hx
        have Hx := Lib.hid hx
        clear hx
        go_wp2_with fail
        go_roundg (L.length - (k + 1))
        case measure => have := Hg.out.1; omega
        case rel =>
          refine ⟨k + 1, hlt, rfl, by go_num, ?_, Hk.out⟩
          have h1 := Hd.out
          rw [if_neg Hx.out] at h1
          rw [← h1, Hg.out.2]
    · have hlt' : ¬ (k : Int) < (L.length : Int) := by omega
      have Hk := Lib.hid hkw
      clear hkw
      go_wp2_with fail
      go_ret
      refine ⟨?_, Hk.out⟩
      have h1 := Hg.out.2
      rw [List.drop_of_length_le (by omega)] at h1
      rw [HR.out, ← h1]
      rfl

set_option linter.unusedSimpArgs false in
set_option maxRecDepth 100000 in
set_option maxHeartbeats 1000000 in
theorem getR_spec (w : World) (v : Value) (L : List PairB) (x : ByteArray) (h : SliceArg 2 encPB w v L) :
    Calls Tryd.prog 43 #[v, .string x] w fun e w' => e = .returned (.string (getP L x)) ∧ Keeps [] w w' := by
  have Hf := Lib.hid h
  obtain ⟨ao, cap, rfl, hl, -⟩ := h
  unfold maxLen at hl
  obtain ⟨R, hR⟩ : ∃ R, R = getP L x := ⟨_, rfl⟩
  rw [← hR]
  have HR := Lib.hid hR
  clear hR
  go_enter Tryd.func43, Tryd.ntmps43
  go_wp2_with fail
  go_loopg [9] L.length (GetRel w L x)
  case atStart => exact ⟨0, Nat.zero_le _, rfl, rfl, by rw [List.drop_zero], Keeps.refl _ _⟩
  case round =>
    obtain ⟨k, hk, hgk, rfl, hget, hkw⟩ := hrel
    have Hg := Lib.hid (And.intro hgk hget)
    clear hgk hget
    by_cases hlt : k < L.length
    · obtain ⟨b, off, cap', ea, hbW, d0, d1⟩ := pair_at (Hf.out.keep hkw) k hlt
      injection ea with ea _ ec
      subst ea ec
      have hlt' : (k : Int) < (L.length : Int) := by omega
      have Hd := Lib.hid (getP_drop L x k hlt)
      obtain ⟨p, hp⟩ : ∃ p, p = L[k] := ⟨_, rfl⟩
      rw [← hp] at d0 d1 Hd
      obtain ⟨p1, p2⟩ := p
      dsimp only at d0 d1 Hd
      have kA : Keeps [] wr (wr.alloc (.cells #[.string p1, .string p2] 44)) := (Keeps.refl [] wr).alloc _
      have Hk := Lib.hid (hkw.trans kA)
      clear hkw hp kA
      by_cases hx : p1 = x
      · subst hx
        go_wp2_with fail
        go_ret
        refine ⟨?_, Hk.out⟩
        have h1 := Hd.out
        rw [if_pos trivial] at h1
        rw [HR.out, ← Hg.out.2, h1]
        rfl
      · have hbb : (p1 == x) = false := by rw [ba_beq]; simpa using hx
        have hbb : (p1.toList == x.toList) = false := by rw [toList_beq]; exact decide_eq_false hx
        have Hx := Lib.hid hx
        clear hx
        go_wp2_with fail
        go_roundg (L.length - (k + 1))
        case measure => have := Hg.out.1; omega
        case rel =>
          refine ⟨k + 1, hlt, rfl, by go_num, ?_, Hk.out⟩
          have h1 := Hd.out
          rw [if_neg Hx.out] at h1
          rw [← h1, Hg.out.2]
    · have hlt' : ¬ (k : Int) < (L.length : Int) := by omega
      have Hk := Lib.hid hkw
      clear hkw
      go_wp2_with fail
      go_ret
      refine ⟨?_, Hk.out⟩
      have h1 := Hg.out.2
      rw [List.drop_of_length_le (by omega)] at h1
      rw [HR.out, ← h1]
      rfl
end Go.Proofs.YtjgaidojohgenaaDoor
