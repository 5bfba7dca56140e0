/-
  The document's bytes of numbers and texts (package barographref01: Uint, Text), sums and records (package barographref02: Sum, Bytes).
  No condition beyond those that each theorem states.

  The document's bytes of a meta (package barographref09): Fields.
  The meta may be said.

  The document's bytes of a listing (package barographref10): Encode.
  The blocks may be said, they are few.

  Of how many blocks one is a source (Made), the live ones that meet times (Over; package barographref10).
  They are few.
-/
import Derived.Test.YtjffdcflkkgpfaaGreatLists
import Derived.Test.YtjffdcflkkgpfaaGreatFrame
import Derived.Laws.IdiomStrings
namespace Go.Proofs.YtjffdcflkkgpfaaGreat
open Go Go.RowKit

theorem mk_append (a b : List UInt8) : (⟨a.toArray⟩ : ByteArray) ++ ⟨b.toArray⟩ = ⟨(a ++ b).toArray⟩ := by
  apply ba_ext
  simp

theorem mk_size (a : List UInt8) : (⟨a.toArray⟩ : ByteArray).size = a.length := rfl

theorem conv_one {w : World} (c : UInt8) (x : Int) (h : x = (c.toNat : Int)) : (convert 126 9 (.slice (some ⟨w.heap.size, 0, none⟩) 1 1)).run Tryz.prog (w.alloc (.cells #[.int .u8 x] 5)) = .ok (.string ⟨[c].toArray⟩) (w.alloc (.cells #[.int .u8 x] 5)) := by
  subst h
  exact (buf_new (w := w.alloc (.cells #[.int .u8 c.toNat] 5)) [c] (heap_new w (.cells #[.int .u8 c.toNat] 5)) (by simp [maxLen])).run_string

def Uint1Rel (w : World) (n : Nat) (gk : Nat) (u0 u3 u4 : Value) (wr : World) : Prop :=
  ∃ (k m : Nat) (p : List UInt8), k ≤ 9 ∧ gk = 9 - k ∧ u4 = .int .i64 k ∧ u0 = .int .u64 m ∧ u3 = .string ⟨p.toArray⟩ ∧ m < 2 ^ (64 - 7 * k) ∧ p ++ lebL m = lebL n ∧ p.length = k ∧ Keeps [] w wr

set_option maxRecDepth 100000 in
set_option maxHeartbeats 1000000 in
theorem uint1_spec (w : World) (n : Nat) (hn : n < 18446744073709551616) :
    Calls Tryz.prog 154 #[.int .u64 n] w fun e w' => e = .returned (.string ⟨(lebL n).toArray⟩) ∧ Keeps [] w w' := by
  go_enter Tryz.func154, Tryz.ntmps154
  go_wp2_with fail
  go_loopg [0, 3, 4] 9 (Uint1Rel w n)
  case atStart => exact ⟨0, n, [], by decide, rfl, rfl, rfl, rfl, by simpa using hn, rfl, rfl, Keeps.refl _ _⟩
  case round =>
    obtain ⟨k, m, p, hk, hgk, rfl, rfl, rfl, hm, hp, hpl, hkr⟩ := hrel
    have Hg := Lib.hid (And.intro hgk (And.intro hp hpl))
    have hm64 : m < 18446744073709551616 := Nat.lt_of_lt_of_le hm (Nat.le_trans (Nat.pow_le_pow_right (by decide) (show 64 - 7 * k ≤ 64 by omega)) (by decide))
    have Hk := Lib.hid hkr
    clear hgk hp hkr
    by_cases hs : k < 9 ∧ 127 < m
    · obtain ⟨h9, hs⟩ := hs
      have h1 : (127 : Int) < (m : Int) := by omega
      have h2 : (k : Int) < 9 := by omega
      have hcv := @conv_one wr (UInt8.ofNat (m % 128 + 128)) (128 + (m : Int) % 128) (by simp; omega)
      have hsz := mk_size p
      have Hx := Lib.hid (lebL_big (v := m) (by omega))
      have Hp := Lib.hid (show 128 * 2 ^ (64 - 7 * (k + 1)) = 2 ^ (64 - 7 * k) from by
        rw [show (128 : Nat) = 2 ^ 7 from rfl, ← Nat.pow_add]; congr 1; omega)
      go_wp2_with fail
      go_roundg (9 - (k + 1))
      case measure => have := Hg.out.1; omega
      case rel =>
        refine ⟨k + 1, m / 128, p ++ [UInt8.ofNat (m % 128 + 128)], by omega, rfl, by first | rfl | go_num, by first | rfl | go_num, ?_, by have := Hp.out; omega, by rw [← Hg.out.2.1, Hx.out]; simp, by rw [List.length_append, Hg.out.2.2]; rfl, Hk.out.alloc _⟩
        have e := mk_append p [UInt8.ofNat (m % 128 + 128)]
        rw [← e]
        simp
    · have hm128 : m < 128 := by
        by_cases h9 : k < 9
        · omega
        · obtain rfl : k = 9 := by omega
          have : m < 2 ^ (64 - 7 * 9) := hm
          omega
      have Hx := Lib.hid (lebL_small hm128)
      have hcv := @conv_one wr (UInt8.ofNat m) (m : Int) (by simp; omega)
      have hsz := mk_size p
      have h8 : (m : Int) < 256 := by omega
      by_cases h9 : k < 9
      · have h2 : (k : Int) < 9 := by omega
        have h1 : ¬ (127 : Int) < (m : Int) := by omega
        go_wp2_with fail
        go_ret
        refine ⟨?_, Hk.out.alloc _⟩
        rw [← Hg.out.2.1, Hx.out, ← mk_append]
        rfl
      · have h2 : ¬ (k : Int) < 9 := by omega
        go_wp2_with fail
        go_ret
        refine ⟨?_, Hk.out.alloc _⟩
        rw [← Hg.out.2.1, Hx.out, ← mk_append]
        rfl

/-! Sums -/
theorem run_stringB (w : World) (s : ByteArray) : ∃ c W, (convert 9 126 (.string s)).run Tryz.prog w = .ok (.slice (some ⟨w.heap.size, 0, none⟩) s.size c) W ∧ Keeps [] w W ∧ w.heap.size < W.heap.size ∧ ∀ i (h : i < s.size), W.cell? ⟨w.heap.size, i, none⟩ = some (.int .u8 (s[i].toNat : Int)) := by
  refine ⟨_, _, run_bytes_of_string w _ _ 5 s Tryz.underlying9 Tryz.underlying126 Tryz.underlying5, ((Keeps.refl [] w).drew).alloc _, by simp, fun i h => ?_⟩
  have := cells_at (heap_new w.drew (.cells (bytesRow s (grownCap w s.size 0 5)) 5 ((bytesRow s (grownCap w s.size 0 5)).size, (bytesRow s (grownCap w s.size 0 5)).size + 1))) i
  rw [bytesRow_at s _ i h] at this
  exact this

def Sum2In (w : World) (c0 b : Nat) (gk : Nat) (u3 u5 u6 : Value) (wr : World) : Prop := ∃ k, k ≤ 8 ∧ gk = 8 - k ∧ u6 = .int .i64 k ∧ u5 = .int .u8 (b / 2 ^ k : Nat) ∧ u3 = .int .u32 (crcK c0 b k) ∧ w = wr

def Sum2Out (w : World) (s : ByteArray) (gk : Nat) (u3 u11 : Value) (wr : World) : Prop := ∃ i, i ≤ s.size ∧ gk = s.size - i ∧ u11 = .int .i64 i ∧ u3 = .int .u32 (crcL 4294967295 (s.data.toList.take i)) ∧ w = wr

set_option maxRecDepth 100000 in
set_option maxHeartbeats 1000000 in
theorem sum2_spec (w : World) (s : ByteArray) (hs : s.size ≤ maxLen) :
    Calls Tryz.prog 153 #[.string s] w fun e w' => e = .returned (.int .u32 (moreN 0 s.data.toList)) ∧ Keeps [] w w' := by
  unfold maxLen at hs
  obtain ⟨cp, W, hrun, hkW, hlW, hcW⟩ := run_stringB w s
  have HW := Lib.hid (And.intro hkW (And.intro hlW hcW))
  clear hkW hlW hcW
  go_enter Tryz.func153, Tryz.ntmps153
  go_wp2_with fail
  clear hrun
  generalize w.heap.size = sb at HW ⊢
  go_loopg [3, 11] s.size (Sum2Out W s)
  case atStart => exact ⟨0, Nat.zero_le _, rfl, rfl, rfl, rfl⟩
  case round =>
    obtain ⟨i, hi, hg, rfl, rfl, rfl⟩ := hrel
    have Hg := Lib.hid hg
    clear hg
    have hc := crcL_lt (s.data.toList.take i) (c := 4294967295) (by omega)
    by_cases hlt : i < s.size
    · have hlt' : (i : Int) < (s.size : Int) := by omega
      have Hcr := Lib.hid (show crcL 4294967295 (s.data.toList.take (i + 1)) = crcK (crcL 4294967295 (s.data.toList.take i)) s[i].toNat 8 from by
        rw [List.take_succ_eq_append_getElem (by rw [dsize]; exact hlt), crcL_append]
        rfl)
      have hcell := HW.out.2.2 i hlt
      have hblt := HW.out.2.1
      generalize crcL 4294967295 (s.data.toList.take i) = c0 at hc Hcr
      have hbl : s[i].toNat < 256 := UInt8.toNat_lt _
      generalize s[i].toNat = b at Hcr hcell hbl
      go_wp2_with fail
      obtain ⟨W1, hW1⟩ : ∃ W1, W1 = W := ⟨_, rfl⟩
      have HW1 := Lib.hid hW1
      go_loopg [3, 5, 6] 8 (Sum2In W c0 b)
      case atStart => exact ⟨0, by decide, rfl, rfl, by simp, rfl, rfl⟩
      case round =>
        obtain ⟨k, hk, hg, rfl, rfl, rfl, rfl⟩ := hrel
        have Hg2 := Lib.hid hg
        clear hg
        have hck := crcK_lt b hc k
        by_cases hk8 : k < 8
        · have hk8' : (k : Int) < 8 := by omega
          have Hck := Lib.hid (show crcK c0 b (k + 1) = crcBit (crcK c0 b k) (b / 2 ^ k) from rfl)
          have Hq := Lib.hid (show b / 2 ^ (k + 1) = b / 2 ^ k / 2 from by rw [Nat.pow_succ, Nat.div_div_eq_div_mul])
          have hql : b / 2 ^ k < 256 := Nat.lt_of_le_of_lt (Nat.div_le_self _ _) hbl
          generalize crcK c0 b k = c at hck Hck
          generalize b / 2 ^ k = q at hql Hck Hq
          have hpoly := u32_xor_nat (c / 2) 2197175160 (by omega) (by decide)
          rw [show ((c / 2 : Nat) : Int) = (c : Int) / 2 from by omega, show ((2197175160 : Nat) : Int) = 2197175160 from rfl] at hpoly
          by_cases hbit : (c + q) % 2 = 1
          · have hb1 : ((c : Int) + (q : Int)) % 4294967296 % 2 = 1 := by omega
            have Hb := Lib.hid (show crcBit c q = (c / 2) ^^^ 2197175160 from by unfold crcBit; rw [if_pos hbit])
            clear hbit
            go_wp2_with fail
            go_roundg (8 - (k + 1))
            case measure => have := Hg2.out; omega
            case rel => exact ⟨k + 1, by omega, rfl, by go_num, by rw [Hq.out]; go_num, by rw [Hck.out, Hb.out], rfl⟩
          · have hb1 : ¬ ((c : Int) + (q : Int)) % 4294967296 % 2 = 1 := by omega
            have Hb := Lib.hid (show crcBit c q = c / 2 from by unfold crcBit; rw [if_neg hbit])
            clear hbit
            go_wp2_with fail
            go_roundg (8 - (k + 1))
            case measure => have := Hg2.out; omega
            case rel => exact ⟨k + 1, by omega, rfl, by go_num, by rw [Hq.out]; go_num, by rw [Hck.out, Hb.out]; go_num, rfl⟩
        · obtain rfl : k = 8 := by omega
          have Hcr2 := Lib.hid Hcr.out
          go_wp2_with fail
          go_roundg (s.size - (i + 1))
          case measure => have := Hg.out; omega
          case rel => exact ⟨i + 1, by omega, rfl, by go_num, by rw [Hcr2.out], rfl⟩
    · have he : s.data.toList.take i = s.data.toList := List.take_of_length_le (by rw [dsize]; omega)
      rw [he] at hc ⊢
      have hge : ¬ (i : Int) < (s.size : Int) := by omega
      have Hm := Lib.hid (show moreN 0 s.data.toList = 4294967295 - crcL 4294967295 s.data.toList from rfl)
      clear he
      generalize crcL 4294967295 s.data.toList = c at hc Hm ⊢
      have Hm2 := Lib.hid (show (((4294967295 - c : Nat)) : Int) = 4294967295 - (c : Int) from by omega)
      go_wp2_with fail
      go_ret
      exact ⟨by rw [Hm.out, Hm2.out]; rfl, HW.out.1⟩

/-! Records -/
theorem le4_snoc (n : Nat) : ∀ j, j < 4 → (le4 n).take (j + 1) = (le4 n).take j ++ [UInt8.ofNat (n / 256 ^ j % 256)]
  | 0, _ => by simp [le4]
  | 1, _ => by simp [le4]
  | 2, _ => by simp [le4]
  | 3, _ => by simp [le4]

def Bytes2Rel (w : World) (rb : Nat) (cs : Array Value) (A : List UInt8) (n : Nat) (gk : Nat) (u4 u5 u6 : Value) (wr : World) : Prop :=
  ∃ j, j ≤ 4 ∧ gk = 4 - j ∧ u6 = .int .i64 j ∧ u4 = .int .u32 (n / 256 ^ j : Nat) ∧ u5 = .string ⟨(A ++ (le4 n).take j).toArray⟩ ∧ wr.heap[rb]? = some (.cells cs 209 (0, 0)) ∧ Keeps [] w wr

set_option maxRecDepth 100000 in
set_option maxHeartbeats 1000000 in
theorem bytes2_spec (w : World) (k : UInt8) (d : ByteArray) (hd : d.size ≤ 1000000000) :
    Calls Tryz.prog 140 #[.agg #[.int .u8 k.toNat, .string d]] w fun e w' => e = .returned (.string ⟨(frameL k d.data.toList).toArray⟩) ∧ Keeps [] w w' := by
  have hn := moreN_lt 0 (k :: d.data.toList)
  have hdl : d.data.toList.length = d.size := by simp
  have hll : (lebL d.size).length ≤ 10 := lebL_len10 (by omega)
  have hcat : (⟨[k].toArray⟩ : ByteArray) ++ d = ⟨(k :: d.data.toList).toArray⟩ := by
    have := mk_append [k] d.data.toList
    rw [ba_mk] at this
    rw [this]
    rfl
  have Hs := Lib.hid (fun W => sum2_spec W (⟨(k :: d.data.toList).toArray⟩ : ByteArray) (by rw [mk_size, List.length_cons, hdl]; unfold maxLen; omega))
  have hsz2 : (⟨(k :: d.data.toList).toArray⟩ : ByteArray).size = d.size + 1 := by rw [mk_size, List.length_cons, hdl]
  have Hu := Lib.hid (fun W => uint1_spec W d.size (by omega))
  have HF := Lib.hid (show frameL k d.data.toList = ([k] ++ lebL d.size ++ (le4 (moreN 0 (k :: d.data.toList))).take 4) ++ d.data.toList from by unfold frameL; rw [hdl]; simp [le4])
  clear hdl hsz2
  obtain ⟨rb, hrb⟩ : ∃ b, b = w.heap.size := ⟨_, rfl⟩
  have n0 := heap_new w (.cells #[.int .u8 k.toNat, .string d] 209)
  have k0 : Keeps [] w (w.alloc (.cells #[.int .u8 k.toNat, .string d] 209)) := (Keeps.refl [] w).alloc _
  rw [← hrb] at n0
  have H0 := Lib.hid (And.intro n0 k0)
  have Hrb := Lib.hid hrb
  clear n0 k0 hrb
  go_enter Tryz.func140, Tryz.ntmps140
  go_upto_region 1 with fail
  rw [← Hrb.out]
  generalize w.alloc (.cells #[.int .u8 k.toNat, .string d] 209) = W0 at H0 ⊢
  clear Hrb
  have hcv := @conv_one W0 k (k.toNat : Int) rfl
  have kA : Keeps [] W0 (W0.alloc (.cells #[.int .u8 k.toNat] 5)) := (Keeps.refl [] W0).alloc _
  have HA := Lib.hid (kp kA H0.out)
  have c0 := cells_at H0.out.1
  have l0 := lt_of_at H0.out.1
  have cA := cells_at HA.out.1
  have lA := lt_of_at HA.out.1
  have hsz1 : (⟨[k].toArray⟩ : ByteArray).size = 1 := rfl
  go_upto_region 2 with fail
  clear c0 l0 hcv kA H0
  generalize W0.alloc (.cells #[.int .u8 k.toNat] 5) = W1 at HA cA lA ⊢
  go_wp2_with fail
  refine (Hs.out _).mono ?_
  rintro e w2 ⟨rfl, hk2⟩
  have H2 := Lib.hid (kp hk2 HA.out)
  have c2 := cells_at H2.out.1
  have l2 := lt_of_at H2.out.1
  generalize moreN 0 (k :: d.data.toList) = n at hn HF ⊢
  clear cA lA hk2 HA hcat
  go_wp2_with fail
  refine (Hu.out _).mono ?_
  rintro e w3 ⟨rfl, hk3⟩
  have hszl := mk_size (lebL d.size)
  have hcat2 := mk_append [k] (lebL d.size)
  have H3 := Lib.hid (kp hk3 H2.out)
  clear hk3 c2 l2 H2
  generalize lebL d.size = ll at hll hszl hcat2 HF ⊢
  go_wp2_with fail
  go_loopg [4, 5, 6] 4 (Bytes2Rel w rb #[.int .u8 k.toNat, .string d] ([k] ++ ll) n)
  case atStart => exact ⟨0, by decide, rfl, rfl, by simp, by first | rfl | simp, H3.out.1, H3.out.2⟩
  case round =>
    obtain ⟨j, hj, hg, rfl, rfl, rfl, hrb, hkr⟩ := hrel
    have Hg := Lib.hid hg
    clear hg
    have Hr := Lib.hid (And.intro hrb hkr)
    have hql : n / 256 ^ j < 4294967296 := Nat.lt_of_le_of_lt (Nat.div_le_self _ _) hn
    have hlen : ((le4 n).take j).length ≤ 4 := by rw [List.length_take]; simp [le4]; omega
    clear hrb hkr hcat2 hszl
    have hszp := mk_size ([k] ++ ll ++ (le4 n).take j)
    rw [List.length_append, List.length_append] at hszp
    simp only [List.length_cons, List.length_nil] at hszp
    by_cases hj4 : j < 4
    · have h4 : (j : Int) < 4 := by omega
      have Hsn := Lib.hid (le4_snoc n j hj4)
      have Hq := Lib.hid (show n / 256 ^ (j + 1) = n / 256 ^ j / 256 from by rw [Nat.pow_succ, Nat.div_div_eq_div_mul])
      generalize n / 256 ^ j = q at hql Hsn Hq
      have hcv := @conv_one wr (UInt8.ofNat (q % 256)) ((q : Int) % 256) (by simp)
      have Hcat := Lib.hid (mk_append ([k] ++ ll ++ (le4 n).take j) [UInt8.ofNat (q % 256)])
      obtain ⟨pre, hpre⟩ : ∃ pre, pre = [k] ++ ll ++ (le4 n).take j := ⟨_, rfl⟩
      rw [← hpre] at hszp Hcat ⊢
      have Hpre := Lib.hid hpre
      clear hpre
      go_wp2_with fail
      go_roundg (4 - (j + 1))
      case measure => have := Hg.out; omega
      case rel =>
        refine ⟨j + 1, by omega, rfl, by go_num, by rw [Hq.out]; go_num, ?_, (kp ((Keeps.refl [] wr).alloc _) Hr.out).1, Hr.out.2.alloc _⟩
        rw [Hsn.out, ← List.append_assoc, ← Hpre.out, ← Hcat.out]
    · obtain rfl : j = 4 := by omega
      have hr4 : wr.heap[rb]? = some (.cells #[.int .u8 k.toNat, .string d] 209 (0, 0)) := Hr.out.1
      have c4 := cells_at hr4
      have l4 := lt_of_at hr4
      have Hcat := Lib.hid (mk_append ([k] ++ ll ++ (le4 n).take 4) d.data.toList)
      obtain ⟨pre, hpre⟩ : ∃ pre, pre = [k] ++ ll ++ (le4 n).take 4 := ⟨_, rfl⟩
      rw [← hpre] at hszp Hcat HF ⊢
      clear hpre hr4
      go_wp2_with fail
      go_ret
      refine ⟨?_, Hr.out.2⟩
      rw [HF.out, ← Hcat.out, ba_mk d]
      rfl
end Go.Proofs.YtjffdcflkkgpfaaGreat

namespace Go.Proofs.YtjffdcflkkgpfaaGreat
open Go Go.RowKit

/-- A text of bytes. -/
def strB (l : List UInt8) : ByteArray := ⟨l.toArray⟩

theorem strB_append (a b : List UInt8) : strB a ++ strB b = strB (a ++ b) := mk_append a b

theorem strB_size (a : List UInt8) : (strB a).size = a.length := rfl

theorem uintS (w : World) (n : Nat) (hn : n < 18446744073709551616) : Calls Tryz.prog 154 #[.int .u64 n] w fun e w' => e = .returned (.string (strB (lebL n))) ∧ Keeps [] w w' := uint1_spec w n hn


theorem bytesS (w : World) (k : UInt8) (d : List UInt8) (hd : d.length ≤ 1000000000) : Calls Tryz.prog 140 #[.agg #[.int .u8 k.toNat, .string (strB d)]] w fun e w' => e = .returned (.string (strB (frameL k d))) ∧ Keeps [] w w' := bytes2_spec w k (strB d) hd

theorem flat_take_le {α : Type} (F : α → List UInt8) (L : List α) (k : Nat) : ((L.take k).flatMap F).length ≤ (L.flatMap F).length := by
  have : L.flatMap F = (L.take k).flatMap F ++ (L.drop k).flatMap F := by rw [← List.flatMap_append, List.take_append_drop]
  rw [this, List.length_append]
  omega

def FldRel (w : World) (pb : Nat) (cs : Array Value) (P : List UInt8) (F : Nat → List UInt8) (n gk : Nat) (u3 u : Value) (wr : World) : Prop :=
  ∃ k, k ≤ n ∧ gk = n - k ∧ u = .int .i64 k ∧ u3 = .string (strB (P ++ F k)) ∧ wr.heap[pb]? = some (.cells cs 66 (0, 0)) ∧ Keeps [] w wr

theorem file_bounds {m : MetaS} (ok : MetaOk m) : ∀ f ∈ m.files, f.1.size ≤ 10 ∧ f.2.1 ≤ 1048576 ∧ f.2.2 < 4294967296 := by
  obtain ⟨s1, c1, s2, c2, hf, h1, h2, h3, h4⟩ := ok.files
  intro f hm
  rw [hf] at hm
  simp only [List.mem_cons, List.not_mem_nil, or_false] at hm
  have hc : chunksB.size = 6 := rfl
  have hi : indexB.size = 5 := rfl
  rcases hm with rfl | rfl
  · exact ⟨by simp only; omega, h1, h3⟩
  · exact ⟨by simp only; omega, h2, h4⟩

def headF (m : MetaS) : List UInt8 := textB m.id ++ (lebL m.mn ++ (lebL m.mx ++ (lebL m.level ++ (lebL m.series ++ lebL m.samples))))

theorem metaL_head (m : MetaS) : metaL m = headF m ++ m.files.flatMap fileL ++ lebL m.sources.length ++ m.sources.flatMap textB := by
  unfold metaL headF
  simp [List.append_assoc]

end Go.Proofs.YtjffdcflkkgpfaaGreat

namespace Go.Proofs.YtjffdcflkkgpfaaGreat
open Go Go.RowKit

def blockT (p : BlkS) : List UInt8 := metaL p.1 ++ lebL (p.2 + 1).toNat

def lstT (at_ : Nat) (T : List BlkS) : List UInt8 := lebL at_ ++ (lebL T.length ++ T.flatMap blockT)

theorem bytes3S (w : World) (d : List UInt8) (hd : d.length ≤ 1000000000) : Calls Tryz.prog 140 #[.agg #[.int .u8 3, .string (strB d)]] w fun e w' => e = .returned (.string (strB (frameL 3 d))) ∧ Keeps [] w w' := bytesS w 3 d hd

def LstRel (w : World) (xb : Nat) (cs : Array Value) (P : List UInt8) (F : Nat → List UInt8) (n gk : Nat) (u3 u : Value) (wr : World) : Prop :=
  ∃ k, k ≤ n ∧ gk = n - k ∧ u = .int .i64 k ∧ u3 = .string (strB (P ++ F k)) ∧ wr.heap[xb]? = some (.cells cs 40 (0, 0)) ∧ Keeps [] w wr

theorem blockT_len {p : BlkS} (ok : MetaOk p.1) (hm : -1 ≤ p.2 ∧ p.2 ≤ 65535) : (blockT p).length ≤ 2010 := by
  unfold blockT
  rw [List.length_append]
  have := ok.len
  have := lebL_len10 (v := (p.2 + 1).toNat) (by omega)
  omega

end Go.Proofs.YtjffdcflkkgpfaaGreat

namespace Go.Proofs.YtjffdcflkkgpfaaGreat
open Go Go.RowKit

def cntL (S : List ByteArray) (id : ByteArray) : Nat := (S.filter fun x => decide (x = id)).length

theorem cntL_append (a b : List ByteArray) (id : ByteArray) : cntL (a ++ b) id = cntL a id + cntL b id := by simp [cntL]

theorem cntL_le (a : List ByteArray) (id : ByteArray) : cntL a id ≤ a.length := List.length_filter_le _ _

theorem cntL_snoc {S : List ByteArray} {j : Nat} (h : j < S.length) (id : ByteArray) : cntL (S.take (j + 1)) id = cntL (S.take j) id + (if S[j] = id then 1 else 0) := by
  rw [List.take_succ_eq_append_getElem h, cntL_append]
  congr 1
  unfold cntL
  by_cases e : S[j] = id
  · simp [e]
  · simp [e]

def srcsT (T : List BlkS) : List ByteArray := T.flatMap fun p => p.1.sources

theorem srcsT_snoc {T : List BlkS} {k : Nat} (h : k < T.length) : srcsT (T.take (k + 1)) = srcsT (T.take k) ++ T[k].1.sources := by
  unfold srcsT
  rw [List.take_succ_eq_append_getElem h, List.flatMap_append]
  simp

theorem srcsT_len : ∀ {T : List BlkS}, (∀ p ∈ T, p.1.sources.length ≤ 50) → (srcsT T).length ≤ 50 * T.length
  | [], _ => by simp [srcsT]
  | p :: T, h => by
    have h1 := h p (by simp)
    have h2 := srcsT_len (T := T) fun q hq => h q (by simp [hq])
    unfold srcsT at *
    rw [List.flatMap_cons, List.length_append, List.length_cons]
    omega

def Made10Rel (w : World) (T : List BlkS) (id : ByteArray) (gk : Nat) (u5 u13 : Value) (wr : World) : Prop :=
  ∃ k, k ≤ T.length ∧ gk = T.length - k ∧ u13 = .int .i64 k ∧ u5 = .int .i64 (cntL (srcsT (T.take k)) id) ∧ Keeps [] w wr

def Made10Rel2 (w : World) (c0 : Nat) (S : List ByteArray) (id : ByteArray) (gk : Nat) (u5 u21 : Value) (wr : World) : Prop :=
  ∃ j, j ≤ S.length ∧ gk = S.length - j ∧ u21 = .int .i64 j ∧ u5 = .int .i64 (c0 + cntL (S.take j) id : Nat) ∧ w = wr


theorem infoMeta9 : (Tryz.prog.info? 66).map (fun i => (i.zero, i.size, i.bytes)) = some (some (.agg #[.string ⟨#[]⟩, .int .i64 0, .int .i64 0, .int .i64 0, .int .i64 0, .int .i64 0, .slice none 0 0, .slice none 0 0]), 8, 104) := by kernel_rfl

def meetC (S : List ByteArray) (fr to_ : Int) (m : MetaS) : Bool := decide (cntL S m.id = 0) && (decide ((m.mn : Int) < to_) && decide (fr < (m.mx : Int)))

def Over10Rel (w : World) (xb : Nat) (cs : Array Value) (C : List BlkC) (S : List ByteArray) (fr to_ : Int) (gk : Nat) (u7 u14 : Value) (wr : World) : Prop :=
  ∃ k, k ≤ C.length ∧ gk = C.length - k ∧ u14 = .int .i64 k ∧ wr.ownsRow w.heap.size 66 8 u7 ((C.take k).filter fun c => meetC S fr to_ c.1.1).length (((C.take k).filter fun c => meetC S fr to_ c.1.1).flatMap fun c => encMC c.1) ∧ wr.heap[xb]? = some (.cells cs 40 (0, 0)) ∧ Keeps [] w wr

end Go.Proofs.YtjffdcflkkgpfaaGreat
