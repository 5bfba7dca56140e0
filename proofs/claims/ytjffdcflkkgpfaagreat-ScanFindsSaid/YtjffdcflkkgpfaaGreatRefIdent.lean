/-
  The document's reading of blocks' names (ref 08): sign, number, Parse, Split, where the names are whole.
  Each contract holds in every world; old memory is left as it was.

  The document's Split (ref 08) of a block's object's whole name.
  Old memory is left as it was.

  The document's number and Parse on any text: a name's tick and number, or that it is no name.
  No condition beyond those that each theorem states.
-/
import Derived.Test.YtjffdcflkkgpfaaGreatSplit
import Derived.BigQuiet
import Derived.Deep.QuietTactic
namespace Go.Proofs.YtjffdcflkkgpfaaGreat
open Go Go.RowKit Go.Conc

theorem quiet_one {P : Program} {f : FuncId} {args : Array Value} {w : World} {n : Nat} {v : Value} (h : Calls P f args (w.drewN n) fun e w' => e = .returned v ∧ w.drewN n = w') : Calls P f args (w.drewN n) fun e w'' => e = .returned v ∧ ∃ m, w'' = w.drewN m :=
  h.mono fun _ _ ⟨he, hm⟩ => ⟨he, n, hm.symm⟩

theorem sign_cut {k : Nat} (h : k < 32) : signB.extract k (k + 1) = ⟨#[signAt k]⟩ := by
  have h1 : (signB.extract k (k + 1)).data.toList = [signAt k] := by
    have := (by decide : ∀ d : Fin 32, ((signB.data.toList.take (d.1 + 1)).drop d.1) = [signAt d.1]) ⟨k, h⟩
    simp only [ByteArray.data_extract, Array.toList_extract, List.extract_eq_take_drop]
    rw [← this, List.drop_take]
  exact ba_ext h1

theorem cut_one {s : ByteArray} {i : Nat} (h : i < s.size) : s.extract i (i + 1) = ⟨#[s[i]]⟩ := by
  apply ba_ext
  simp only [ByteArray.data_extract, Array.toList_extract, List.extract_eq_take_drop]
  have hl : i < s.data.toList.length := by rw [dsize]; exact h
  rw [show i + 1 - i = 1 from by omega, List.drop_eq_getElem_cons hl]
  rfl

theorem sign_only : ∀ c : UInt8, ∀ k, k < 32 → (signAt k = c ↔ numIx c = some k) := by
  intro c k hk
  have := (by decide +kernel : ∀ n : Fin 256, ∀ k : Fin 32, (signAt k.1 = UInt8.ofNat n.1 ↔ numIx (UInt8.ofNat n.1) = some k.1)) ⟨c.toNat, UInt8.toNat_lt c⟩ ⟨k, hk⟩
  simpa using this

theorem ba_one {a b : UInt8} : (⟨#[a]⟩ : ByteArray) = ⟨#[b]⟩ ↔ a = b := by
  constructor
  · intro h; injection h with h; simpa using h
  · rintro rfl; rfl


set_option maxRecDepth 100000 in
set_option maxHeartbeats 1000000 in
theorem refSign_spec (w : World) (k : Nat) (hk : k < 32) :
    Calls Tryz.prog 139 #[.int .i64 k] w fun e w' => e = .returned (.string ⟨#[signAt k]⟩) ∧ w = w' := by
  have hc := sign_cut hk
  have hz : signB.size = 32 := rfl
  unfold signB at hc hz
  have hk1 : (k : Int) + 1 ≤ 32 := by omega
  go_enter Tryz.func139, Tryz.ntmps139
  go_wp2_with fail
  go_ret
  exact ⟨rfl, rfl⟩


def rNumRel (w : World) (s : ByteArray) (gk : Nat) (u3 u4 : Value) (wr : World) : Prop :=
  ∃ i m : Nat, i ≤ s.size ∧ gk = s.size - i ∧ u4 = .int .i64 i ∧ u3 = .int .i64 m ∧ m < 2 ^ (5 * i) ∧ numL s.data.toList 0 = numL (s.data.toList.drop i) m ∧ Keeps [] w wr

def rSeekRel (w : World) (k : Nat) (gk : Nat) (u5 u6 : Value) (wr : World) : Prop :=
  ∃ j : Nat, ∃ v : Int, j ≤ 32 ∧ gk = 32 - j ∧ u6 = .int .i64 j ∧ u5 = .int .i64 v ∧ v = (if k < j then (k : Int) else -1) ∧ Keeps [] w wr

set_option maxRecDepth 100000 in
set_option maxHeartbeats 1000000 in
theorem refNumber_spec (w : World) (s : ByteArray) (hs : s.size ≤ 8) (r : Nat) (hr : numL s.data.toList 0 = some r) :
    Calls Tryz.prog 115 #[.string s] w fun e w' => e = .returned (.int .i64 r) ∧ Keeps [] w w' := by
  have HR := Lib.hid hr
  clear hr
  go_enter Tryz.func115, Tryz.ntmps115
  go_wp2_with fail
  go_loopg [3, 4] s.size (rNumRel w s)
  case atStart => exact ⟨0, 0, Nat.zero_le _, rfl, rfl, rfl, by decide, rfl, Keeps.refl _ _⟩
  case round =>
    obtain ⟨i, m, hi, hg, rfl, rfl, hm, hN, hkp⟩ := hrel
    have Hg := Lib.hid hg
    by_cases hlt : i < s.size
    · have hlt' : (i : Int) < (s.size : Int) := by omega
      rw [List.drop_eq_getElem_cons (by rw [dsize]; exact hlt), show s.data.toList[i]'(by rw [dsize]; exact hlt) = s[i] from rfl] at hN
      simp only [numL] at hN
      have hm7 : m < 34359738368 := by
        have : 2 ^ (5 * i) ≤ 2 ^ (5 * 7) := Nat.pow_le_pow_right (by decide) (by omega)
        have e : (2 : Nat) ^ (5 * 7) = 34359738368 := by decide
        omega
      have hcut := cut_one hlt
      have Hone := Lib.hid (sign_only s[i])
      cases hc : numIx s[i] with
      | none =>
        have h2 := HR.out
        rw [hN, hc] at h2
        cases h2
      | some k =>
        have hk := numIx_lt hc
        rw [hc] at hN Hone
        have HN := Lib.hid (And.intro hN (And.intro (show m * 32 + k < 2 ^ (5 * (i + 1)) from by
          rw [Nat.mul_add, Nat.pow_add]
          have : (m + 1) * 32 ≤ 2 ^ (5 * i) * 32 := Nat.mul_le_mul_right _ hm
          omega) hkp))
        have Hc := Lib.hid hcut
        clear hN hc hm hg hcut
        go_wp2_with fail
        go_loopg [5, 6] 32 (rSeekRel wr k)
        case atStart => exact ⟨0, -1, by decide, rfl, rfl, rfl, by simp, Keeps.refl _ _⟩
        case round =>
          obtain ⟨j, v, hj, hg2, rfl, rfl, hv, hk2⟩ := hrel
          have Hg2 := Lib.hid (And.intro hg2 (And.intro hv hk2))
          by_cases hj32 : j < 32
          · have hjl : (j : Int) < 32 := by omega
            have Hs := Lib.hid (fun W => refSign_spec W j hj32)
            obtain ⟨sj, hsj⟩ : ∃ sj : ByteArray, sj = ⟨#[signAt j]⟩ := ⟨_, rfl⟩
            rw [← hsj] at Hs
            have hiff : (sj.toList == (s.extract i (i + 1)).toList) = decide (k = j) := by
              rw [toList_beq, hsj, Hc.out]
              congr 1
              rw [ba_one, Hone.out j hj32]
              simp
            clear hg2 hv hk2 hsj
            by_cases e : k = j
            · have Hej := Lib.hid e
              have he2 : (sj.toList == (s.extract i (i + 1)).toList) = true := by rw [hiff]; exact decide_eq_true e
              clear e hiff
              go_wp2_with fail
              go_quiet ((go_at_call 139; exact quiet_one (Hs.out _)))
              go_wp2_with fail
              go_roundg (32 - (j + 1))
              case measure => have := Hg2.out.1; omega
              case rel => exact ⟨j + 1, (j : Int), by omega, rfl, by go_num, rfl, by have := Hej.out; rw [if_pos (by omega), this], Hg2.out.2.2.drewN _⟩
            · have Hej := Lib.hid e
              have he2 : (sj.toList == (s.extract i (i + 1)).toList) = false := by rw [hiff]; exact decide_eq_false e
              clear e hiff
              go_wp2_with fail
              go_quiet ((go_at_call 139; exact quiet_one (Hs.out _)))
              go_wp2_with fail
              go_roundg (32 - (j + 1))
              case measure => have := Hg2.out.1; omega
              case rel => exact ⟨j + 1, v, by omega, rfl, by go_num, rfl, by have := Hej.out; have h3 := Hg2.out.2.1; rw [h3]; by_cases h4 : k < j <;> simp [h4] <;> omega, Hg2.out.2.2.drewN _⟩
          · obtain rfl : j = 32 := by omega
            rw [if_pos hk] at hv
            subst hv
            clear hg2
            have hnk : ¬ (k : Int) < 0 := by omega
            go_wp2_with fail
            go_roundg (s.size - (i + 1))
            case measure => have := Hg.out; omega
            case rel => exact ⟨i + 1, m * 32 + k, by omega, rfl, by go_num, by first | rfl | go_num, HN.out.2.1, HN.out.1, HN.out.2.2.trans Hg2.out.2.2⟩
    · rw [List.drop_eq_nil_of_le (by rw [dsize]; omega)] at hN
      have HN := Lib.hid hN
      have Hk := Lib.hid hkp
      clear hg hN hm hkp
      go_wp2_with fail
      go_ret
      refine ⟨?_, Hk.out⟩
      have h2 := HR.out
      rw [HN.out] at h2
      simp only [numL, Option.some.injEq] at h2
      rw [h2]
      rfl


theorem cutB {s : ByteArray} {a b : List UInt8} (h : s.data.toList = a ++ b) : s.extract 0 a.length = ⟨a.toArray⟩ ∧ s.extract a.length s.size = ⟨b.toArray⟩ := by
  constructor
  · apply ba_ext
    rw [take_data, h]
    simp
  · apply ba_ext
    rw [drop_data, h]
    simp

/-- What the document reads of a block's whole name. -/
def rParse (a b : Nat) : Value := .tuple #[.int .i64 a, .int .i64 b, .bool true]

set_option maxRecDepth 100000 in
set_option maxHeartbeats 1000000 in
theorem refParse_spec (w : World) (s : ByteArray) (a b : Nat) (h : parseL s.data.toList = some (a, b)) :
    Calls Tryz.prog 87 #[.string s] w fun e w' => e = .returned (rParse a b) ∧ Keeps [] w w' := by
  have h16 : s.size = 16 := by
    unfold parseL at h
    split at h
    · cases h
    · rename_i hl
      rw [dsize] at hl
      omega
  have hab : numL (s.data.toList.take 8) 0 = some a ∧ numL (s.data.toList.drop 8) 0 = some b := by
    unfold parseL at h
    split at h
    · cases h
    · split at h
      · rename_i x y hx hy
        simp only [Option.some.injEq, Prod.mk.injEq] at h
        exact ⟨by rw [hx, h.1], by rw [hy, h.2]⟩
      · cases h
  have e16 : ((s.size : Int) == 16) = true := by rw [beq_iff_eq]; omega
  have z1 : (s.extract 0 8).size ≤ 8 := by rw [ByteArray.size_extract]; omega
  have z2 : (s.extract 8 s.size).size ≤ 8 := by rw [ByteArray.size_extract]; omega
  have H1 := Lib.hid (fun w => refNumber_spec w (s.extract 0 8) z1 a (by rw [take_data]; exact hab.1))
  have H2 := Lib.hid (fun w => refNumber_spec w (s.extract 8 s.size) z2 b (by rw [drop_data]; exact hab.2))
  have hlt8 : 8 ≤ s.size := by omega
  have hlt8' : (8 : Int) ≤ (s.size : Int) := by omega
  have na : ¬ (a : Int) < 0 := by omega
  have nb : ¬ (b : Int) < 0 := by omega
  clear h hab z1 z2 h16
  go_enter Tryz.func87, Tryz.ntmps87
  go_wp2_with fail
  refine (H1.out _).mono ?_
  rintro e w1 ⟨rfl, hk1⟩
  go_wp2_with fail
  refine (H2.out _).mono ?_
  rintro e w2 ⟨rfl, hk2⟩
  have Hk := Lib.hid (hk1.trans hk2)
  clear hk1 hk2
  go_wp2_with fail
  go_ret3
  exact ⟨rfl, Hk.out⟩
end Go.Proofs.YtjffdcflkkgpfaaGreat

namespace Go.Proofs.YtjffdcflkkgpfaaGreat
open Go Go.RowKit

set_option maxRecDepth 100000 in
set_option maxHeartbeats 1000000 in
theorem refSplit_spec (w : World) (id part : ByteArray) (hi : isIDB id.data.toList = true) (hp : part ∈ partsB) :
    Calls Tryz.prog 48 #[.string (objectB id part)] w fun e w' => e = .returned (.tuple #[.string id, .string part, .bool true]) ∧ Keeps [] w w' := by
  have h16 : id.size = 16 := id_size hi
  obtain ⟨ab, hab⟩ := Option.isSome_iff_exists.1 (show (parseL id.data.toList).isSome = true from hi)
  have Hp := Lib.hid (fun w => refParse_spec w id ab.1 ab.2 hab)
  have hd : (objectB id part).data.toList = (id.data.toList ++ [47]) ++ part.data.toList := by simp [objectB, ByteArray.data_append]
  have hd2 : (objectB id part).data.toList = id.data.toList ++ ([47] ++ part.data.toList) := by rw [hd, List.append_assoc]
  have l16 : id.data.toList.length = 16 := by rw [dsize, h16]
  have x1 := (cutB hd2).1
  have x2 := (cutB hd).2
  rw [l16, show (⟨id.data.toList.toArray⟩ : ByteArray) = id from ba_mk id] at x1
  rw [List.length_append, l16, show (⟨part.data.toList.toArray⟩ : ByteArray) = part from ba_mk part] at x2
  have x2 : (objectB id part).extract 17 (objectB id part).size = part := x2
  have hsz : (objectB id part).size = 17 + part.size := by
    rw [← dsize, hd]
    simp only [List.length_append, l16, dsize]
    rfl
  have hb : ∀ h : 16 < (objectB id part).size, (objectB id part)[16] = 47 := by
    intro h
    have : (objectB id part)[16] = (objectB id part).data.toList[16]'(by rw [dsize]; exact h) := rfl
    rw [this]
    simp only [hd2]
    rw [List.getElem_append_right (by omega)]
    simp [l16]
  generalize objectB id part = s at *
  have hlt : ¬ (s.size : Int) < 17 := by omega
  have hl1 : 16 < s.size := by omega
  have hl2 : 17 ≤ s.size := by omega
  have hl3 : (17 : Int) ≤ (s.size : Int) := by omega
  have hb2 := hb hl1
  have hb3 : (s[16].toNat : Int) = 47 := by rw [hb2]; rfl
  clear hd hd2 l16 hsz hab h16 hb
  simp only [partsB, List.mem_cons, List.not_mem_nil, or_false] at hp
  rcases hp with rfl | rfl | rfl | rfl
  all_goals
    simp only [metaB, indexB, chunksB, markB] at x2 ⊢
    go_enter Tryz.func48, Tryz.ntmps48
    go_wp2_with fail
    refine (Hp.out _).mono ?_
    rintro e w1 ⟨rfl, hk1⟩
    have Hk := Lib.hid hk1
    clear hk1
    unfold rParse
    go_wp2_with fail
    go_ret3
    refine ⟨?_, Hk.out⟩
    rfl
end Go.Proofs.YtjffdcflkkgpfaaGreat

namespace Go.Proofs.YtjffdcflkkgpfaaGreat
open Go Go.RowKit

/-- What number answers. -/
def numV : Option Nat → Int
  | some n => n
  | none => -1

set_option maxRecDepth 100000 in
set_option maxHeartbeats 1000000 in
theorem refNumberG_spec (w : World) (s : ByteArray) (hs : s.size ≤ 8) (R : Option Nat) (hr : numL s.data.toList 0 = R) :
    Calls Tryz.prog 115 #[.string s] w fun e w' => e = .returned (.int .i64 (numV R)) ∧ Keeps [] w w' := by
  have HR := Lib.hid hr
  clear hr
  go_enter Tryz.func115, Tryz.ntmps115
  go_wp2_with fail
  go_loopg [3, 4] s.size (rNumRel w s)
  case atStart => exact ⟨0, 0, Nat.zero_le _, rfl, rfl, rfl, by decide, rfl, Keeps.refl _ _⟩
  case round =>
    obtain ⟨i, m, hi, hg, rfl, rfl, hm, hN, hkp⟩ := hrel
    have Hg := Lib.hid hg
    by_cases hlt : i < s.size
    · have hlt' : (i : Int) < (s.size : Int) := by omega
      rw [List.drop_eq_getElem_cons (by rw [dsize]; exact hlt), show s.data.toList[i]'(by rw [dsize]; exact hlt) = s[i] from rfl] at hN
      simp only [numL] at hN
      have hm7 : m < 34359738368 := by
        have : 2 ^ (5 * i) ≤ 2 ^ (5 * 7) := Nat.pow_le_pow_right (by decide) (by omega)
        have e : (2 : Nat) ^ (5 * 7) = 34359738368 := by decide
        omega
      have hcut := cut_one hlt
      have Hone := Lib.hid (sign_only s[i])
      cases hc : numIx s[i] with
      | none =>
        rw [hc] at hN Hone
        have HN := Lib.hid (And.intro hN hkp)
        have Hc := Lib.hid hcut
        clear hN hc hm hg hcut hkp
        go_wp2_with fail
        go_loopg [5, 6] 32 (rSeekRel wr 32)
        case atStart => exact ⟨0, -1, by decide, rfl, rfl, rfl, by simp, Keeps.refl _ _⟩
        case round =>
          obtain ⟨j, v, hj, hg2, rfl, rfl, hv, hk2⟩ := hrel
          have hv1 : v = -1 := by rw [hv, if_neg (by omega)]
          subst hv1
          have Hg2 := Lib.hid (And.intro hg2 hk2)
          by_cases hj32 : j < 32
          · have hjl : (j : Int) < 32 := by omega
            have Hs := Lib.hid (fun W => refSign_spec W j hj32)
            obtain ⟨sj, hsj⟩ : ∃ sj : ByteArray, sj = ⟨#[signAt j]⟩ := ⟨_, rfl⟩
            rw [← hsj] at Hs
            have he2 : (sj.toList == (s.extract i (i + 1)).toList) = false := by
              rw [toList_beq, hsj, Hc.out, decide_eq_false_iff_not, ba_one]
              exact fun h => absurd ((Hone.out j hj32).1 h) (by simp)
            clear hg2 hv hk2 hsj
            go_wp2_with fail
            go_quiet ((go_at_call 139; exact quiet_one (Hs.out _)))
            go_wp2_with fail
            go_roundg (32 - (j + 1))
            case measure => have := Hg2.out.1; omega
            case rel => exact ⟨j + 1, -1, by omega, rfl, by go_num, rfl, by rw [if_neg (by omega)], Hg2.out.2.drewN _⟩
          · obtain rfl : j = 32 := by omega
            clear hg2 hv
            go_wp2_with fail
            go_ret
            refine ⟨?_, HN.out.2.trans Hg2.out.2⟩
            have h2 := HR.out
            rw [HN.out.1] at h2
            rw [← h2]
            rfl
      | some k =>
        have hk := numIx_lt hc
        rw [hc] at hN Hone
        have HN := Lib.hid (And.intro hN (And.intro (show m * 32 + k < 2 ^ (5 * (i + 1)) from by
          rw [Nat.mul_add, Nat.pow_add]
          have : (m + 1) * 32 ≤ 2 ^ (5 * i) * 32 := Nat.mul_le_mul_right _ hm
          omega) hkp))
        have Hc := Lib.hid hcut
        clear hN hc hm hg hcut
        go_wp2_with fail
        go_loopg [5, 6] 32 (rSeekRel wr k)
        case atStart => exact ⟨0, -1, by decide, rfl, rfl, rfl, by simp, Keeps.refl _ _⟩
        case round =>
          obtain ⟨j, v, hj, hg2, rfl, rfl, hv, hk2⟩ := hrel
          have Hg2 := Lib.hid (And.intro hg2 (And.intro hv hk2))
          by_cases hj32 : j < 32
          · have hjl : (j : Int) < 32 := by omega
            have Hs := Lib.hid (fun W => refSign_spec W j hj32)
            obtain ⟨sj, hsj⟩ : ∃ sj : ByteArray, sj = ⟨#[signAt j]⟩ := ⟨_, rfl⟩
            rw [← hsj] at Hs
            have hiff : (sj.toList == (s.extract i (i + 1)).toList) = decide (k = j) := by
              rw [toList_beq, hsj, Hc.out]
              congr 1
              rw [ba_one, Hone.out j hj32]
              simp
            clear hg2 hv hk2 hsj
            by_cases e : k = j
            · have Hej := Lib.hid e
              have he2 : (sj.toList == (s.extract i (i + 1)).toList) = true := by rw [hiff]; exact decide_eq_true e
              clear e hiff
              go_wp2_with fail
              go_quiet ((go_at_call 139; exact quiet_one (Hs.out _)))
              go_wp2_with fail
              go_roundg (32 - (j + 1))
              case measure => have := Hg2.out.1; omega
              case rel => exact ⟨j + 1, (j : Int), by omega, rfl, by go_num, rfl, by have := Hej.out; rw [if_pos (by omega), this], Hg2.out.2.2.drewN _⟩
            · have Hej := Lib.hid e
              have he2 : (sj.toList == (s.extract i (i + 1)).toList) = false := by rw [hiff]; exact decide_eq_false e
              clear e hiff
              go_wp2_with fail
              go_quiet ((go_at_call 139; exact quiet_one (Hs.out _)))
              go_wp2_with fail
              go_roundg (32 - (j + 1))
              case measure => have := Hg2.out.1; omega
              case rel => exact ⟨j + 1, v, by omega, rfl, by go_num, rfl, by have := Hej.out; have h3 := Hg2.out.2.1; rw [h3]; by_cases h4 : k < j <;> simp [h4] <;> omega, Hg2.out.2.2.drewN _⟩
          · obtain rfl : j = 32 := by omega
            rw [if_pos hk] at hv
            subst hv
            clear hg2
            have hnk : ¬ (k : Int) < 0 := by omega
            go_wp2_with fail
            go_roundg (s.size - (i + 1))
            case measure => have := Hg.out; omega
            case rel => exact ⟨i + 1, m * 32 + k, by omega, rfl, by go_num, by first | rfl | go_num, HN.out.2.1, HN.out.1, HN.out.2.2.trans Hg2.out.2.2⟩
    · rw [List.drop_eq_nil_of_le (by rw [dsize]; omega)] at hN
      have HN := Lib.hid hN
      have Hk := Lib.hid hkp
      clear hg hN hm hkp
      go_wp2_with fail
      go_ret
      refine ⟨?_, Hk.out⟩
      have h2 := HR.out
      rw [HN.out] at h2
      rw [← h2]
      rfl


def rParseV : Option (Nat × Nat) → Value
  | some (a, b) => rParse a b
  | none => .tuple #[.int .i64 0, .int .i64 0, .bool false]

theorem parseL_none {l : List UInt8} (h : l.length ≠ 16) : parseL l = none := by unfold parseL; rw [if_pos h]

theorem parseL_two {l : List UInt8} (h : l.length = 16) : parseL l = match numL (l.take 8) 0, numL (l.drop 8) 0 with | some a, some b => some (a, b) | _, _ => none := by
  unfold parseL
  rw [if_neg (fun e => e h)]
  cases numL (l.take 8) 0 <;> cases numL (l.drop 8) 0 <;> rfl

set_option linter.unusedSimpArgs false in
set_option maxRecDepth 100000 in
set_option maxHeartbeats 1000000 in
theorem refParseG_spec (w : World) (s : ByteArray) :
    Calls Tryz.prog 87 #[.string s] w fun e w' => e = .returned (rParseV (parseL s.data.toList)) ∧ Keeps [] w w' := by
  by_cases h16 : s.size = 16
  · have e16 : ((s.size : Int) == 16) = true := by rw [beq_iff_eq]; omega
    have z1 : (s.extract 0 8).size ≤ 8 := by rw [ByteArray.size_extract]; omega
    have z2 : (s.extract 8 s.size).size ≤ 8 := by rw [ByteArray.size_extract]; omega
    have hp := parseL_two (l := s.data.toList) (by rw [dsize]; exact h16)
    have H1 := fun w => refNumberG_spec w (s.extract 0 8) z1 _ (show _ = numL (s.data.toList.take 8) 0 from by rw [take_data])
    have H2 := fun w => refNumberG_spec w (s.extract 8 s.size) z2 _ (show _ = numL (s.data.toList.drop 8) 0 from by rw [drop_data])
    generalize numL (s.data.toList.take 8) 0 = A at H1 hp
    generalize numL (s.data.toList.drop 8) 0 = B at H2 hp
    have hlt8 : 8 ≤ s.size := by omega
    have hlt8' : (8 : Int) ≤ (s.size : Int) := by omega
    have HP := Lib.hid hp
    have H1 := Lib.hid H1
    have H2 := Lib.hid H2
    clear hp z1 z2 h16
    cases A with
    | none =>
      go_enter Tryz.func87, Tryz.ntmps87
      go_wp2_with fail
      refine (H1.out _).mono ?_
      rintro e w1 ⟨rfl, hk1⟩
      simp only [numV]
      go_wp2_with fail
      refine (H2.out _).mono ?_
      rintro e w2 ⟨rfl, hk2⟩
      have Hk := Lib.hid (hk1.trans hk2)
      clear hk1 hk2
      generalize numV B = vb
      go_wp2_with fail
      go_ret3
      exact ⟨by rw [HP.out]; rfl, Hk.out⟩
    | some a =>
      have na : ¬ (a : Int) < 0 := by omega
      cases B with
      | none =>
        go_enter Tryz.func87, Tryz.ntmps87
        go_wp2_with fail
        refine (H1.out _).mono ?_
        rintro e w1 ⟨rfl, hk1⟩
        simp only [numV]
        go_wp2_with fail
        refine (H2.out _).mono ?_
        rintro e w2 ⟨rfl, hk2⟩
        have Hk := Lib.hid (hk1.trans hk2)
        clear hk1 hk2
        simp only [numV]
        go_wp2_with fail
        go_ret3
        exact ⟨by rw [HP.out]; rfl, Hk.out⟩
      | some b =>
        have nb : ¬ (b : Int) < 0 := by omega
        go_enter Tryz.func87, Tryz.ntmps87
        go_wp2_with fail
        refine (H1.out _).mono ?_
        rintro e w1 ⟨rfl, hk1⟩
        simp only [numV]
        go_wp2_with fail
        refine (H2.out _).mono ?_
        rintro e w2 ⟨rfl, hk2⟩
        have Hk := Lib.hid (hk1.trans hk2)
        clear hk1 hk2
        simp only [numV]
        go_wp2_with fail
        go_ret3
        exact ⟨by rw [HP.out]; rfl, Hk.out⟩
  · have e16 : ((s.size : Int) == 16) = false := by rw [beq_eq_false_iff_ne]; omega
    have e17 : ((s.size : Int) != 16) = true := by rw [bne, e16]; rfl
    have HP := Lib.hid (parseL_none (l := s.data.toList) (by rw [dsize]; exact h16))
    clear h16
    go_enter Tryz.func87, Tryz.ntmps87
    go_wp2_with fail
    go_ret3
    exact ⟨by rw [HP.out]; rfl, Keeps.refl _ _⟩

set_option linter.unusedSimpArgs false in
set_option maxRecDepth 100000 in
set_option maxHeartbeats 1000000 in
theorem rId_spec (w : World) (s : ByteArray) :
    Calls Tryz.prog 92 #[.string s] w fun e w' => e = .returned (.bool (isIDB s.data.toList)) ∧ Keeps [] w w' := by
  have H := Lib.hid (fun w => refParseG_spec w s)
  unfold isIDB
  generalize parseL s.data.toList = r at H
  go_enter Tryz.func92, Tryz.ntmps92
  go_wp2_with fail
  refine (H.out _).mono ?_
  rintro e w1 ⟨rfl, hk1⟩
  have Hk := Lib.hid hk1
  clear hk1
  cases r with
  | none =>
    simp only [rParseV]
    go_wp2_with fail
    go_ret
    exact ⟨rfl, Hk.out⟩
  | some p =>
    obtain ⟨a, b⟩ := p
    simp only [rParseV, rParse]
    go_wp2_with fail
    go_ret
    exact ⟨rfl, Hk.out⟩
end Go.Proofs.YtjffdcflkkgpfaaGreat
