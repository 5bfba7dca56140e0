/-
  The document's bytes of numbers and texts (package barographref01: Uint, Text), sums and records (package barographref02: Sum, Bytes).
  No condition beyond those that each theorem states.

  The document's bytes of a meta (package barographref09): Fields.
  The meta may be said.

  The document's bytes of a listing (package barographref10): Encode.
  The blocks may be said, they are few.

  Of how many blocks one is a source (Made), the live ones that meet times (Over; package barographref10).
  They are few.
-/
import Derived.Test.YthlmlneiehijkaaSame
import Derived.Test.YthlmlneiehijkaaFrame
import Derived.Laws.IdiomStrings
namespace Go.Proofs.Ythlmlneiehijkaa
open Go Go.RowKit

theorem mk_append (a b : List UInt8) : (⟨a.toArray⟩ : ByteArray) ++ ⟨b.toArray⟩ = ⟨(a ++ b).toArray⟩ := by
  apply ba_ext
  simp

theorem mk_size (a : List UInt8) : (⟨a.toArray⟩ : ByteArray).size = a.length := rfl

theorem conv_one {w : World} (c : UInt8) (x : Int) (h : x = (c.toNat : Int)) : (convert 79 9 (.slice (some ⟨w.heap.size, 0, none⟩) 1 1)).run Try.prog (w.alloc (.cells #[.int .u8 x] 5)) = .ok (.string ⟨[c].toArray⟩) (w.alloc (.cells #[.int .u8 x] 5)) := by
  subst h
  exact (buf_new (w := w.alloc (.cells #[.int .u8 c.toNat] 5)) [c] (heap_new w (.cells #[.int .u8 c.toNat] 5)) (by simp [maxLen])).run_string

def Uint1Rel (w : World) (n : Nat) (gk : Nat) (u0 u3 u4 : Value) (wr : World) : Prop :=
  ∃ (k m : Nat) (p : List UInt8), k ≤ 9 ∧ gk = 9 - k ∧ u4 = .int .i64 k ∧ u0 = .int .u64 m ∧ u3 = .string ⟨p.toArray⟩ ∧ m < 2 ^ (64 - 7 * k) ∧ p ++ lebL m = lebL n ∧ p.length = k ∧ Keeps [] w wr

set_option maxRecDepth 100000 in
set_option maxHeartbeats 1000000 in
theorem uint1_spec (w : World) (n : Nat) (hn : n < 18446744073709551616) :
    Calls Try.prog 38 #[.int .u64 n] w fun e w' => e = .returned (.string ⟨(lebL n).toArray⟩) ∧ Keeps [] w w' := by
  go_enter Try.func38, Try.ntmps38
  go_wp2_with fail
  go_loopg [0, 3, 4] 9 (Uint1Rel w n)
  case atStart => exact ⟨0, n, [], by decide, rfl, rfl, rfl, rfl, by simpa using hn, rfl, rfl, Keeps.refl _ _⟩
  case round =>
    obtain ⟨k, m, p, hk, hgk, rfl, rfl, rfl, hm, hp, hpl, hkr⟩ := hrel
    have Hg := Lib.hid (And.intro hgk (And.intro hp hpl))
    have hm64 : m < 18446744073709551616 := Nat.lt_of_lt_of_le hm (Nat.le_trans (Nat.pow_le_pow_right (by decide) (show 64 - 7 * k ≤ 64 by omega)) (by decide))
    have Hk := Lib.hid hkr
    clear hgk hp hkr
    by_cases hs : k < 9 ∧ 127 < m
    · obtain ⟨h9, hs⟩ := hs
      have h1 : (127 : Int) < (m : Int) := by omega
      have h2 : (k : Int) < 9 := by omega
      have hcv := @conv_one wr (UInt8.ofNat (m % 128 + 128)) (128 + (m : Int) % 128) (by simp; omega)
      have hsz := mk_size p
      have Hx := Lib.hid (lebL_big (v := m) (by omega))
      have Hp := Lib.hid (show 128 * 2 ^ (64 - 7 * (k + 1)) = 2 ^ (64 - 7 * k) from by
        rw [show (128 : Nat) = 2 ^ 7 from rfl, ← Nat.pow_add]; congr 1; omega)
      go_wp2_with fail
      go_roundg (9 - (k + 1))
      case measure => have := Hg.out.1; omega
      case rel =>
        refine ⟨k + 1, m / 128, p ++ [UInt8.ofNat (m % 128 + 128)], by omega, rfl, by first | rfl | go_num, by first | rfl | go_num, ?_, by have := Hp.out; omega, by rw [← Hg.out.2.1, Hx.out]; simp, by rw [List.length_append, Hg.out.2.2]; rfl, Hk.out.alloc _⟩
        have e := mk_append p [UInt8.ofNat (m % 128 + 128)]
        rw [← e]
        simp
    · have hm128 : m < 128 := by
        by_cases h9 : k < 9
        · omega
        · obtain rfl : k = 9 := by omega
          have : m < 2 ^ (64 - 7 * 9) := hm
          omega
      have Hx := Lib.hid (lebL_small hm128)
      have hcv := @conv_one wr (UInt8.ofNat m) (m : Int) (by simp; omega)
      have hsz := mk_size p
      have h8 : (m : Int) < 256 := by omega
      by_cases h9 : k < 9
      · have h2 : (k : Int) < 9 := by omega
        have h1 : ¬ (127 : Int) < (m : Int) := by omega
        go_wp2_with fail
        go_ret
        refine ⟨?_, Hk.out.alloc _⟩
        rw [← Hg.out.2.1, Hx.out, ← mk_append]
        rfl
      · have h2 : ¬ (k : Int) < 9 := by omega
        go_wp2_with fail
        go_ret
        refine ⟨?_, Hk.out.alloc _⟩
        rw [← Hg.out.2.1, Hx.out, ← mk_append]
        rfl

set_option maxRecDepth 100000 in
set_option maxHeartbeats 1000000 in
theorem text1_spec (w : World) (s : ByteArray) (hs : s.size ≤ 1000000000) :
    Calls Try.prog 59 #[.string s] w fun e w' => e = .returned (.string ⟨(textL s.data.toList).toArray⟩) ∧ Keeps [] w w' := by
  have hsl : (lebL s.size).length ≤ 10 := lebL_len10 (by omega)
  have hsz := mk_size (lebL s.size)
  have Hu := Lib.hid (uint1_spec w s.size (by omega))
  have Hn := Lib.hid (show s.data.toList.length = s.size from by simp)
  have he : (⟨(textL s.data.toList).toArray⟩ : ByteArray) = ⟨(lebL s.size).toArray⟩ ++ s := by
    have := mk_append (lebL s.size) s.data.toList
    rw [ba_mk] at this
    rw [this]
    unfold textL
    rw [Hn.out]
  have He := Lib.hid he
  clear he
  generalize lebL s.size = l at hsl hsz Hu He
  go_enter Try.func59, Try.ntmps59
  go_wp2_with fail
  refine Hu.out.mono ?_
  rintro e w1 ⟨rfl, hk1⟩
  have H1 := Lib.hid hk1
  clear hk1
  go_wp2_with fail
  go_ret
  exact ⟨by rw [He.out]; rfl, H1.out⟩

/-! Sums -/
theorem run_stringB (w : World) (s : ByteArray) : ∃ c W, (convert 9 79 (.string s)).run Try.prog w = .ok (.slice (some ⟨w.heap.size, 0, none⟩) s.size c) W ∧ Keeps [] w W ∧ w.heap.size < W.heap.size ∧ ∀ i (h : i < s.size), W.cell? ⟨w.heap.size, i, none⟩ = some (.int .u8 (s[i].toNat : Int)) := by
  refine ⟨_, _, run_bytes_of_string w _ _ 5 s Try.underlying9 Try.underlying79 Try.underlying5, ((Keeps.refl [] w).drew).alloc _, by simp, fun i h => ?_⟩
  have := cells_at (heap_new w.drew (.cells (bytesRow s (grownCap w s.size 0 5)) 5 ((bytesRow s (grownCap w s.size 0 5)).size, (bytesRow s (grownCap w s.size 0 5)).size + 1))) i
  rw [bytesRow_at s _ i h] at this
  exact this

def Sum2In (w : World) (c0 b : Nat) (gk : Nat) (u3 u5 u6 : Value) (wr : World) : Prop := ∃ k, k ≤ 8 ∧ gk = 8 - k ∧ u6 = .int .i64 k ∧ u5 = .int .u8 (b / 2 ^ k : Nat) ∧ u3 = .int .u32 (crcK c0 b k) ∧ w = wr

def Sum2Out (w : World) (s : ByteArray) (gk : Nat) (u3 u11 : Value) (wr : World) : Prop := ∃ i, i ≤ s.size ∧ gk = s.size - i ∧ u11 = .int .i64 i ∧ u3 = .int .u32 (crcL 4294967295 (s.data.toList.take i)) ∧ w = wr

set_option maxRecDepth 100000 in
set_option maxHeartbeats 1000000 in
theorem sum2_spec (w : World) (s : ByteArray) (hs : s.size ≤ maxLen) :
    Calls Try.prog 60 #[.string s] w fun e w' => e = .returned (.int .u32 (moreN 0 s.data.toList)) ∧ Keeps [] w w' := by
  unfold maxLen at hs
  obtain ⟨cp, W, hrun, hkW, hlW, hcW⟩ := run_stringB w s
  have HW := Lib.hid (And.intro hkW (And.intro hlW hcW))
  clear hkW hlW hcW
  go_enter Try.func60, Try.ntmps60
  go_wp2_with fail
  clear hrun
  generalize w.heap.size = sb at HW ⊢
  go_loopg [3, 11] s.size (Sum2Out W s)
  case atStart => exact ⟨0, Nat.zero_le _, rfl, rfl, rfl, rfl⟩
  case round =>
    obtain ⟨i, hi, hg, rfl, rfl, rfl⟩ := hrel
    have Hg := Lib.hid hg
    clear hg
    have hc := crcL_lt (s.data.toList.take i) (c := 4294967295) (by omega)
    by_cases hlt : i < s.size
    · have hlt' : (i : Int) < (s.size : Int) := by omega
      have Hcr := Lib.hid (show crcL 4294967295 (s.data.toList.take (i + 1)) = crcK (crcL 4294967295 (s.data.toList.take i)) s[i].toNat 8 from by
        rw [List.take_succ_eq_append_getElem (by rw [dsize]; exact hlt), crcL_append]
        rfl)
      have hcell := HW.out.2.2 i hlt
      have hblt := HW.out.2.1
      generalize crcL 4294967295 (s.data.toList.take i) = c0 at hc Hcr
      have hbl : s[i].toNat < 256 := UInt8.toNat_lt _
      generalize s[i].toNat = b at Hcr hcell hbl
      go_wp2_with fail
      obtain ⟨W1, hW1⟩ : ∃ W1, W1 = W := ⟨_, rfl⟩
      have HW1 := Lib.hid hW1
      go_loopg [3, 5, 6] 8 (Sum2In W c0 b)
      case atStart => exact ⟨0, by decide, rfl, rfl, by simp, rfl, rfl⟩
      case round =>
        obtain ⟨k, hk, hg, rfl, rfl, rfl, rfl⟩ := hrel
        have Hg2 := Lib.hid hg
        clear hg
        have hck := crcK_lt b hc k
        by_cases hk8 : k < 8
        · have hk8' : (k : Int) < 8 := by omega
          have Hck := Lib.hid (show crcK c0 b (k + 1) = crcBit (crcK c0 b k) (b / 2 ^ k) from rfl)
          have Hq := Lib.hid (show b / 2 ^ (k + 1) = b / 2 ^ k / 2 from by rw [Nat.pow_succ, Nat.div_div_eq_div_mul])
          have hql : b / 2 ^ k < 256 := Nat.lt_of_le_of_lt (Nat.div_le_self _ _) hbl
          generalize crcK c0 b k = c at hck Hck
          generalize b / 2 ^ k = q at hql Hck Hq
          have hpoly := u32_xor_nat (c / 2) 2197175160 (by omega) (by decide)
          rw [show ((c / 2 : Nat) : Int) = (c : Int) / 2 from by omega, show ((2197175160 : Nat) : Int) = 2197175160 from rfl] at hpoly
          by_cases hbit : (c + q) % 2 = 1
          · have hb1 : ((c : Int) + (q : Int)) % 4294967296 % 2 = 1 := by omega
            have Hb := Lib.hid (show crcBit c q = (c / 2) ^^^ 2197175160 from by unfold crcBit; rw [if_pos hbit])
            clear hbit
            go_wp2_with fail
            go_roundg (8 - (k + 1))
            case measure => have := Hg2.out; omega
            case rel => exact ⟨k + 1, by omega, rfl, by go_num, by rw [Hq.out]; go_num, by rw [Hck.out, Hb.out], rfl⟩
          · have hb1 : ¬ ((c : Int) + (q : Int)) % 4294967296 % 2 = 1 := by omega
            have Hb := Lib.hid (show crcBit c q = c / 2 from by unfold crcBit; rw [if_neg hbit])
            clear hbit
            go_wp2_with fail
            go_roundg (8 - (k + 1))
            case measure => have := Hg2.out; omega
            case rel => exact ⟨k + 1, by omega, rfl, by go_num, by rw [Hq.out]; go_num, by rw [Hck.out, Hb.out]; go_num, rfl⟩
        · obtain rfl : k = 8 := by omega
          have Hcr2 := Lib.hid Hcr.out
          go_wp2_with fail
          go_roundg (s.size - (i + 1))
          case measure => have := Hg.out; omega
          case rel => exact ⟨i + 1, by omega, rfl, by go_num, by rw [Hcr2.out], rfl⟩
    · have he : s.data.toList.take i = s.data.toList := List.take_of_length_le (by rw [dsize]; omega)
      rw [he] at hc ⊢
      have hge : ¬ (i : Int) < (s.size : Int) := by omega
      have Hm := Lib.hid (show moreN 0 s.data.toList = 4294967295 - crcL 4294967295 s.data.toList from rfl)
      clear he
      generalize crcL 4294967295 s.data.toList = c at hc Hm ⊢
      have Hm2 := Lib.hid (show (((4294967295 - c : Nat)) : Int) = 4294967295 - (c : Int) from by omega)
      go_wp2_with fail
      go_ret
      exact ⟨by rw [Hm.out, Hm2.out]; rfl, HW.out.1⟩

/-! Records -/
theorem le4_snoc (n : Nat) : ∀ j, j < 4 → (le4 n).take (j + 1) = (le4 n).take j ++ [UInt8.ofNat (n / 256 ^ j % 256)]
  | 0, _ => by simp [le4]
  | 1, _ => by simp [le4]
  | 2, _ => by simp [le4]
  | 3, _ => by simp [le4]

def Bytes2Rel (w : World) (rb : Nat) (cs : Array Value) (A : List UInt8) (n : Nat) (gk : Nat) (u4 u5 u6 : Value) (wr : World) : Prop :=
  ∃ j, j ≤ 4 ∧ gk = 4 - j ∧ u6 = .int .i64 j ∧ u4 = .int .u32 (n / 256 ^ j : Nat) ∧ u5 = .string ⟨(A ++ (le4 n).take j).toArray⟩ ∧ wr.heap[rb]? = some (.cells cs 88 (0, 0)) ∧ Keeps [] w wr

set_option maxRecDepth 100000 in
set_option maxHeartbeats 1000000 in
theorem bytes2_spec (w : World) (k : UInt8) (d : ByteArray) (hd : d.size ≤ 1000000000) :
    Calls Try.prog 40 #[.agg #[.int .u8 k.toNat, .string d]] w fun e w' => e = .returned (.string ⟨(frameL k d.data.toList).toArray⟩) ∧ Keeps [] w w' := by
  have hn := moreN_lt 0 (k :: d.data.toList)
  have hdl : d.data.toList.length = d.size := by simp
  have hll : (lebL d.size).length ≤ 10 := lebL_len10 (by omega)
  have hcat : (⟨[k].toArray⟩ : ByteArray) ++ d = ⟨(k :: d.data.toList).toArray⟩ := by
    have := mk_append [k] d.data.toList
    rw [ba_mk] at this
    rw [this]
    rfl
  have Hs := Lib.hid (fun W => sum2_spec W (⟨(k :: d.data.toList).toArray⟩ : ByteArray) (by rw [mk_size, List.length_cons, hdl]; unfold maxLen; omega))
  have hsz2 : (⟨(k :: d.data.toList).toArray⟩ : ByteArray).size = d.size + 1 := by rw [mk_size, List.length_cons, hdl]
  have Hu := Lib.hid (fun W => uint1_spec W d.size (by omega))
  have HF := Lib.hid (show frameL k d.data.toList = ([k] ++ lebL d.size ++ (le4 (moreN 0 (k :: d.data.toList))).take 4) ++ d.data.toList from by unfold frameL; rw [hdl]; simp [le4])
  clear hdl hsz2
  obtain ⟨rb, hrb⟩ : ∃ b, b = w.heap.size := ⟨_, rfl⟩
  have n0 := heap_new w (.cells #[.int .u8 k.toNat, .string d] 88)
  have k0 : Keeps [] w (w.alloc (.cells #[.int .u8 k.toNat, .string d] 88)) := (Keeps.refl [] w).alloc _
  rw [← hrb] at n0
  have H0 := Lib.hid (And.intro n0 k0)
  have Hrb := Lib.hid hrb
  clear n0 k0 hrb
  go_enter Try.func40, Try.ntmps40
  go_upto_region 1 with fail
  rw [← Hrb.out]
  generalize w.alloc (.cells #[.int .u8 k.toNat, .string d] 88) = W0 at H0 ⊢
  clear Hrb
  have hcv := @conv_one W0 k (k.toNat : Int) rfl
  have kA : Keeps [] W0 (W0.alloc (.cells #[.int .u8 k.toNat] 5)) := (Keeps.refl [] W0).alloc _
  have HA := Lib.hid (kp kA H0.out)
  have c0 := cells_at H0.out.1
  have l0 := lt_of_at H0.out.1
  have cA := cells_at HA.out.1
  have lA := lt_of_at HA.out.1
  have hsz1 : (⟨[k].toArray⟩ : ByteArray).size = 1 := rfl
  go_upto_region 2 with fail
  clear c0 l0 hcv kA H0
  generalize W0.alloc (.cells #[.int .u8 k.toNat] 5) = W1 at HA cA lA ⊢
  go_wp2_with fail
  refine (Hs.out _).mono ?_
  rintro e w2 ⟨rfl, hk2⟩
  have H2 := Lib.hid (kp hk2 HA.out)
  have c2 := cells_at H2.out.1
  have l2 := lt_of_at H2.out.1
  generalize moreN 0 (k :: d.data.toList) = n at hn HF ⊢
  clear cA lA hk2 HA hcat
  go_wp2_with fail
  refine (Hu.out _).mono ?_
  rintro e w3 ⟨rfl, hk3⟩
  have hszl := mk_size (lebL d.size)
  have hcat2 := mk_append [k] (lebL d.size)
  have H3 := Lib.hid (kp hk3 H2.out)
  clear hk3 c2 l2 H2
  generalize lebL d.size = ll at hll hszl hcat2 HF ⊢
  go_wp2_with fail
  go_loopg [4, 5, 6] 4 (Bytes2Rel w rb #[.int .u8 k.toNat, .string d] ([k] ++ ll) n)
  case atStart => exact ⟨0, by decide, rfl, rfl, by simp, by first | rfl | simp, H3.out.1, H3.out.2⟩
  case round =>
    obtain ⟨j, hj, hg, rfl, rfl, rfl, hrb, hkr⟩ := hrel
    have Hg := Lib.hid hg
    clear hg
    have Hr := Lib.hid (And.intro hrb hkr)
    have hql : n / 256 ^ j < 4294967296 := Nat.lt_of_le_of_lt (Nat.div_le_self _ _) hn
    have hlen : ((le4 n).take j).length ≤ 4 := by rw [List.length_take]; simp [le4]; omega
    clear hrb hkr hcat2 hszl
    have hszp := mk_size ([k] ++ ll ++ (le4 n).take j)
    rw [List.length_append, List.length_append] at hszp
    simp only [List.length_cons, List.length_nil] at hszp
    by_cases hj4 : j < 4
    · have h4 : (j : Int) < 4 := by omega
      have Hsn := Lib.hid (le4_snoc n j hj4)
      have Hq := Lib.hid (show n / 256 ^ (j + 1) = n / 256 ^ j / 256 from by rw [Nat.pow_succ, Nat.div_div_eq_div_mul])
      generalize n / 256 ^ j = q at hql Hsn Hq
      have hcv := @conv_one wr (UInt8.ofNat (q % 256)) ((q : Int) % 256) (by simp)
      have Hcat := Lib.hid (mk_append ([k] ++ ll ++ (le4 n).take j) [UInt8.ofNat (q % 256)])
      obtain ⟨pre, hpre⟩ : ∃ pre, pre = [k] ++ ll ++ (le4 n).take j := ⟨_, rfl⟩
      rw [← hpre] at hszp Hcat ⊢
      have Hpre := Lib.hid hpre
      clear hpre
      go_wp2_with fail
      go_roundg (4 - (j + 1))
      case measure => have := Hg.out; omega
      case rel =>
        refine ⟨j + 1, by omega, rfl, by go_num, by rw [Hq.out]; go_num, ?_, (kp ((Keeps.refl [] wr).alloc _) Hr.out).1, Hr.out.2.alloc _⟩
        rw [Hsn.out, ← List.append_assoc, ← Hpre.out, ← Hcat.out]
    · obtain rfl : j = 4 := by omega
      have hr4 : wr.heap[rb]? = some (.cells #[.int .u8 k.toNat, .string d] 88 (0, 0)) := Hr.out.1
      have c4 := cells_at hr4
      have l4 := lt_of_at hr4
      have Hcat := Lib.hid (mk_append ([k] ++ ll ++ (le4 n).take 4) d.data.toList)
      obtain ⟨pre, hpre⟩ : ∃ pre, pre = [k] ++ ll ++ (le4 n).take 4 := ⟨_, rfl⟩
      rw [← hpre] at hszp Hcat HF ⊢
      clear hpre hr4
      go_wp2_with fail
      go_ret
      refine ⟨?_, Hr.out.2⟩
      rw [HF.out, ← Hcat.out, ba_mk d]
      rfl
end Go.Proofs.Ythlmlneiehijkaa

namespace Go.Proofs.Ythlmlneiehijkaa
open Go Go.RowKit

/-- A text of bytes. -/
def strB (l : List UInt8) : ByteArray := ⟨l.toArray⟩

theorem strB_append (a b : List UInt8) : strB a ++ strB b = strB (a ++ b) := mk_append a b

theorem strB_size (a : List UInt8) : (strB a).size = a.length := rfl

theorem uintS (w : World) (n : Nat) (hn : n < 18446744073709551616) : Calls Try.prog 38 #[.int .u64 n] w fun e w' => e = .returned (.string (strB (lebL n))) ∧ Keeps [] w w' := uint1_spec w n hn

theorem textS (w : World) (s : ByteArray) (hs : s.size ≤ 1000000000) : Calls Try.prog 59 #[.string s] w fun e w' => e = .returned (.string (strB (textB s))) ∧ Keeps [] w w' := text1_spec w s hs

theorem bytesS (w : World) (k : UInt8) (d : List UInt8) (hd : d.length ≤ 1000000000) : Calls Try.prog 40 #[.agg #[.int .u8 k.toNat, .string (strB d)]] w fun e w' => e = .returned (.string (strB (frameL k d))) ∧ Keeps [] w w' := bytes2_spec w k (strB d) hd

theorem flat_take_le {α : Type} (F : α → List UInt8) (L : List α) (k : Nat) : ((L.take k).flatMap F).length ≤ (L.flatMap F).length := by
  have : L.flatMap F = (L.take k).flatMap F ++ (L.drop k).flatMap F := by rw [← List.flatMap_append, List.take_append_drop]
  rw [this, List.length_append]
  omega

def FldRel (w : World) (pb : Nat) (cs : Array Value) (P : List UInt8) (F : Nat → List UInt8) (n gk : Nat) (u3 u : Value) (wr : World) : Prop :=
  ∃ k, k ≤ n ∧ gk = n - k ∧ u = .int .i64 k ∧ u3 = .string (strB (P ++ F k)) ∧ wr.heap[pb]? = some (.cells cs 51 (0, 0)) ∧ Keeps [] w wr

theorem file_bounds {m : MetaS} (ok : MetaOk m) : ∀ f ∈ m.files, f.1.size ≤ 10 ∧ f.2.1 ≤ 1048576 ∧ f.2.2 < 4294967296 := by
  obtain ⟨s1, c1, s2, c2, hf, h1, h2, h3, h4⟩ := ok.files
  intro f hm
  rw [hf] at hm
  simp only [List.mem_cons, List.not_mem_nil, or_false] at hm
  have hc : chunksB.size = 6 := rfl
  have hi : indexB.size = 5 := rfl
  rcases hm with rfl | rfl
  · exact ⟨by simp only; omega, h1, h3⟩
  · exact ⟨by simp only; omega, h2, h4⟩

def headF (m : MetaS) : List UInt8 := textB m.id ++ (lebL m.mn ++ (lebL m.mx ++ (lebL m.level ++ (lebL m.series ++ lebL m.samples))))

theorem metaL_head (m : MetaS) : metaL m = headF m ++ m.files.flatMap fileL ++ lebL m.sources.length ++ m.sources.flatMap textB := by
  unfold metaL headF
  simp [List.append_assoc]

set_option linter.unusedSimpArgs false in
set_option maxRecDepth 100000 in
set_option maxHeartbeats 2000000 in
theorem fields9_spec (B : Nat) (w : World) (vs : List Value) (m : MetaS) (h : MetaV B w vs m) (ok : MetaOk m) :
    Calls Try.prog 39 #[.agg vs.toArray] w fun e w' => e = .returned (.string (strB (metaL m))) ∧ Keeps [] w w' := by
  obtain ⟨vf, vo, rfl, hf, ho⟩ := h
  have Hv := Lib.hid (And.intro hf ho)
  obtain ⟨af, cf, rfl, -, -, -, -⟩ := hf
  obtain ⟨ao, co, rfl, hno, -, -, -⟩ := ho
  have hidz := id16 ok.id
  obtain ⟨t1, t2⟩ := ok.time
  obtain ⟨t3, t4⟩ := ok.level
  obtain ⟨t5, t6⟩ := ok.samples
  have t7 := ok.few
  have e1 : IntKind.u64.wrap (m.mn : Int) = (m.mn : Int) := IntWalk.u64_in _ (by omega)
  have e2 : IntKind.u64.wrap (m.mx : Int) = (m.mx : Int) := IntWalk.u64_in _ (by omega)
  have e3 : IntKind.u64.wrap (m.level : Int) = (m.level : Int) := IntWalk.u64_in _ (by omega)
  have e4 : IntKind.u64.wrap (m.series : Int) = (m.series : Int) := IntWalk.u64_in _ (by omega)
  have e5 : IntKind.u64.wrap (m.samples : Int) = (m.samples : Int) := IntWalk.u64_in _ (by omega)
  have hid := textB_len (s := m.id) (by omega)
  have l1 := lebL_len10 (v := m.mn) (by omega)
  have l2 := lebL_len10 (v := m.mx) (by omega)
  have l3 := lebL_len10 (v := m.level) (by omega)
  have l4 := lebL_len10 (v := m.series) (by omega)
  have l5 := lebL_len10 (v := m.samples) (by omega)
  have Hok := Lib.hid ok
  have Hh := Lib.hid (metaL_head m)
  obtain ⟨pb, hpb⟩ : ∃ b, b = w.heap.size := ⟨_, rfl⟩
  have n0 := heap_new w (.cells #[.string m.id, .int .i64 m.mn, .int .i64 m.mx, .int .i64 m.level, .int .i64 m.series, .int .i64 m.samples, .slice af m.files.length cf, .slice ao m.sources.length co] 51)
  have k0 : Keeps [] w (w.alloc (.cells #[.string m.id, .int .i64 m.mn, .int .i64 m.mx, .int .i64 m.level, .int .i64 m.series, .int .i64 m.samples, .slice af m.files.length cf, .slice ao m.sources.length co] 51)) := (Keeps.refl [] w).alloc _
  rw [← hpb] at n0
  have H0 := Lib.hid (And.intro n0 k0)
  have Hpb := Lib.hid hpb
  have hsA := strB_append
  have hsS := strB_size
  have Hml0 := Lib.hid ok.len
  have Hml0 := Lib.hid ok.len
  clear n0 k0 hpb ok
  go_enter Try.func39, Try.ntmps39
  go_upto_region 1 with fail
  rw [← Hpb.out]
  generalize w.alloc (.cells #[.string m.id, .int .i64 m.mn, .int .i64 m.mx, .int .i64 m.level, .int .i64 m.series, .int .i64 m.samples, .slice af m.files.length cf, .slice ao m.sources.length co] 51) = W0 at H0 ⊢
  clear Hpb
  have cP : ∀ (s : Kept W0) i, s.val.cell? ⟨pb, i, none⟩ = (#[Value.string m.id, .int .i64 m.mn, .int .i64 m.mx, .int .i64 m.level, .int .i64 m.series, .int .i64 m.samples, .slice af m.files.length cf, .slice ao m.sources.length co] : Array Value)[i]? := fun s i => (s.property.cell (lt_of_at H0.out.1) (by simp)).trans (cells_at H0.out.1 i)
  have lP : ∀ s : Kept W0, pb < s.val.heap.size := fun s => s.property.lt (lt_of_at H0.out.1)
  have Ht := Lib.hid (fun W (_ : Keeps [] W0 W) => textS W m.id (by omega))
  have H1 := Lib.hid (fun W (_ : Keeps [] W0 W) => uintS W m.mn (by omega))
  have H2 := Lib.hid (fun W (_ : Keeps [] W0 W) => uintS W m.mx (by omega))
  have H3 := Lib.hid (fun W (_ : Keeps [] W0 W) => uintS W m.level (by omega))
  have H4 := Lib.hid (fun W (_ : Keeps [] W0 W) => uintS W m.series (by omega))
  have H5 := Lib.hid (fun W (_ : Keeps [] W0 W) => uintS W m.samples (by omega))
  refine wp_region_kept W0 (by kernel_rfl) (by kernel_rfl) ((Keeps.refl [] W0).drew) ?_
  repeat (go_big_quiet_step (first | (go_at_call 59; exact Calls.kept Ht.out) | (go_at_call 38; first | with_reducible exact Calls.kept H1.out | with_reducible exact Calls.kept H2.out | with_reducible exact Calls.kept H3.out | with_reducible exact Calls.kept H4.out | with_reducible exact Calls.kept H5.out)))
  refine wpQuiet_nil ?_
  rintro w1 ⟨⟨_, hk1⟩, rfl⟩
  have hhd : textB m.id ++ (lebL m.mn ++ (lebL m.mx ++ (lebL m.level ++ (lebL m.series ++ lebL m.samples)))) = headF m := rfl
  rw [hhd]
  have hml := Hml0.out
  rw [Hh.out] at hml
  simp only [List.length_append] at hml
  have Hml := Lib.hid hml
  have HW := Lib.hid (kp hk1 H0.out)
  clear hhd cP lP Ht H1 H2 H3 H4 H5 hk1 H0 l1 l2 l3 l4 l5 hid e1 e2 e3 e4 e5 t1 t2 t3 t4 t5 t6 hidz hml
  have hf2 : m.files.length ≤ 2 := by obtain ⟨s1, c1, s2, c2, e, -⟩ := Hok.out.files; rw [e]; exact Nat.le_refl _
  generalize headF m = P at Hml Hh ⊢
  have c1 := cells_at HW.out.1
  have b1 := lt_of_at HW.out.1
  go_wp2_with fail
  clear c1 b1
  go_loopg [3, 39] m.files.length (FldRel w pb #[.string m.id, .int .i64 m.mn, .int .i64 m.mx, .int .i64 m.level, .int .i64 m.series, .int .i64 m.samples, .slice af m.files.length cf, .slice ao m.sources.length co] P (fun k => (m.files.take k).flatMap fileL) m.files.length)
  case atStart => exact ⟨0, Nat.zero_le _, rfl, rfl, by simp, HW.out.1, HW.out.2⟩
  case round =>
    obtain ⟨k, hk, hgk, rfl, hu3, hpb, hkr⟩ := hrel
    have hu3' : _ = Value.string (strB (P ++ (m.files.take k).flatMap fileL)) := hu3
    subst hu3'
    clear hu3
    have Hg := Lib.hid hgk
    clear hgk
    have Hr := Lib.hid (And.intro hpb hkr)
    have hfl := flat_take_le fileL m.files k
    clear hpb
    by_cases hlt : k < m.files.length
    · obtain ⟨fb, fo, ea, -, hb1, hc1⟩ := (Hv.out.1.keep hkr (by simp)).atI k hlt
      subst ea
      have hfb := file_bounds Hok.out m.files[k] (List.getElem_mem _)
      have Hnx := Lib.hid (flat_nextL fileL hlt)
      obtain ⟨⟨fn, fs, fc⟩, hfe⟩ : ∃ f, f = m.files[k] := ⟨_, rfl⟩
      rw [← hfe] at hc1 hfb Hnx
      simp only at hfb
      obtain ⟨f1, f2, f3⟩ := hfb
      have d0 : wr.cell? ⟨fb, fo + k * 3, none⟩ = some (.string fn) := hc1 0 (by decide)
      have d1 : wr.cell? ⟨fb, fo + k * 3 + 1, none⟩ = some (.int .i64 fs) := hc1 1 (by decide)
      have d2 : wr.cell? ⟨fb, fo + k * 3 + 2, none⟩ = some (.int .u32 fc) := hc1 2 (by decide)
      have hlt' : (k : Int) < (m.files.length : Int) := by omega
      have ka : Keeps [] wr (wr.alloc (.cells #[.string fn, .int .i64 fs, .int .u32 fc] 94)) := (Keeps.refl [] wr).alloc _
      have na := heap_new wr (.cells #[.string fn, .int .i64 fs, .int .u32 fc] 94)
      have HA := Lib.hid (And.intro na (kp ka Hr.out))
      have Hml2 := Lib.hid (show P.length + ((m.files.take k).flatMap fileL).length ≤ 2000 from by have := Hml.out; omega)
      clear hkr hc1 hfe ka na hfl
      go_upto_region 5 with fail
      clear d0 d1 d2
      generalize hWa : wr.alloc (.cells #[.string fn, .int .i64 fs, .int .u32 fc] 94) = Wa at HA ⊢
      generalize hyb : wr.heap.size = yb at HA ⊢
      clear hWa hyb
      have cP : ∀ (s : Kept Wa) i, s.val.cell? ⟨yb, i, none⟩ = (#[Value.string fn, .int .i64 fs, .int .u32 fc] : Array Value)[i]? := fun s i => (s.property.cell (lt_of_at HA.out.1) (by simp)).trans (cells_at HA.out.1 i)
      have lP : ∀ s : Kept Wa, yb < s.val.heap.size := fun s => s.property.lt (lt_of_at HA.out.1)
      have z1 : IntKind.u64.wrap (fs : Int) = (fs : Int) := IntWalk.u64_in _ (by omega)
      have z2 : IntKind.u64.wrap (fc : Int) = (fc : Int) := IntWalk.u64_in _ (by omega)
      have m0 := textB_len (s := fn) (by omega)
      have m1 := lebL_len10 (v := fs) (by omega)
      have m2 := lebL_len10 (v := fc) (by omega)
      have hml := Hml2.out
      have Ht := Lib.hid (fun W (_ : Keeps [] Wa W) => textS W fn (by omega))
      have H1 := Lib.hid (fun W (_ : Keeps [] Wa W) => uintS W fs (by omega))
      have H2 := Lib.hid (fun W (_ : Keeps [] Wa W) => uintS W fc (by omega))
      generalize (m.files.take k).flatMap fileL = F at hml Hnx ⊢
      refine wp_region_kept Wa (by kernel_rfl) (by kernel_rfl) ((Keeps.refl [] Wa).drew) ?_
      repeat (go_big_quiet_step (first | (go_at_call 59; exact Calls.kept Ht.out) | (go_at_call 38; first | with_reducible exact Calls.kept H1.out | with_reducible exact Calls.kept H2.out)))
      refine wpQuiet_nil ?_
      rintro w2 ⟨⟨_, hk2⟩, rfl⟩
      have HR := Lib.hid (kp hk2 HA.out.2)
      clear hk2 cP lP z1 z2 m0 m1 m2 hml Ht H1 H2
      go_wp2_with fail
      go_roundg (m.files.length - (k + 1))
      case measure => have := Hg.out; omega
      case rel => exact ⟨k + 1, by omega, rfl, by go_num, by show _ = Value.string (strB (P ++ (m.files.take (k + 1)).flatMap fileL)); rw [Hnx.out]; rfl, HR.out.1, HR.out.2⟩
    · have hge : ¬ (k : Int) < (m.files.length : Int) := by omega
      have hke : m.files.take k = m.files := List.take_of_length_le (by omega)
      rw [hke] at hfl ⊢
      have c1 := cells_at Hr.out.1
      have b1 := lt_of_at Hr.out.1
      have z1 : IntKind.u64.wrap (m.sources.length : Int) = (m.sources.length : Int) := IntWalk.u64_in _ (by omega)
      have m1 := lebL_len10 (v := m.sources.length) (by omega)
      have hml := Hml.out
      clear hke hfl hkr
      generalize m.files.flatMap fileL = F at hml Hh Hml ⊢
      have Hu := Lib.hid (fun W => uintS W m.sources.length (by omega))
      go_wp2_with fail
      refine (Hu.out _).mono ?_
      rintro e w2 ⟨rfl, hk2⟩
      have HX := Lib.hid (kp hk2 Hr.out)
      clear c1 b1 hk2 Hr z1
      have c1 := cells_at HX.out.1
      have b1 := lt_of_at HX.out.1
      have Hsrc := Lib.hid (fun x hx => (Hok.out.src x hx).1)
      generalize lebL m.sources.length = LL at m1 hml Hh Hml ⊢
      go_wp2_with fail
      clear c1 b1
      obtain ⟨P2, hP2⟩ : ∃ P2, P2 = P ++ (F ++ LL) := ⟨_, rfl⟩
      have hP2l : P2.length + (m.sources.flatMap textB).length ≤ 2000 := by rw [hP2, List.length_append, List.length_append]; omega
      have HP2 := Lib.hid (show metaL m = P2 ++ m.sources.flatMap textB from by rw [Hh.out, hP2]; simp [List.append_assoc])
      rw [← hP2]
      clear hP2 hml Hh Hml m1 Hu
      go_loopg [3, 69] m.sources.length (FldRel w pb #[.string m.id, .int .i64 m.mn, .int .i64 m.mx, .int .i64 m.level, .int .i64 m.series, .int .i64 m.samples, .slice af m.files.length cf, .slice ao m.sources.length co] P2 (fun k => (m.sources.take k).flatMap textB) m.sources.length)
      case atStart => exact ⟨0, Nat.zero_le _, rfl, rfl, by simp, HX.out.1, HX.out.2⟩
      case round =>
        obtain ⟨k, hk, hgk, rfl, hu3, hpb, hkr⟩ := hrel
        have hu3' : _ = Value.string (strB (P2 ++ (m.sources.take k).flatMap textB)) := hu3
        subst hu3'
        clear hu3
        have Hg := Lib.hid hgk
        clear hgk
        have Hr := Lib.hid (And.intro hpb hkr)
        have hfl := flat_take_le textB m.sources k
        clear hpb
        by_cases hlt : k < m.sources.length
        · obtain ⟨fb, fo, ea, -, hb1, hc1⟩ := (Hv.out.2.keep hkr (by simp)).atI k hlt
          subst ea
          have h16 := id16 (Hsrc.out m.sources[k] (List.getElem_mem _))
          have Hnx := Lib.hid (flat_nextL textB hlt)
          obtain ⟨sk, hsk⟩ : ∃ f, f = m.sources[k] := ⟨_, rfl⟩
          rw [← hsk] at hc1 h16 Hnx
          have d0 : wr.cell? ⟨fb, fo + k, none⟩ = some (.string sk) := by simpa [encS1m] using hc1 0 (by decide)
          have hlt' : (k : Int) < (m.sources.length : Int) := by omega
          have m0 := textB_len (s := sk) (by omega)
          have Ht := Lib.hid (fun W => textS W sk (by omega))
          have hml : P2.length + ((m.sources.take k).flatMap textB).length ≤ 2000 := by omega
          clear hkr hc1 hsk hfl
          generalize (m.sources.take k).flatMap textB = F2 at hml Hnx ⊢
          go_wp2_with fail
          refine (Ht.out _).mono ?_
          rintro e w3 ⟨rfl, hk3⟩
          have HR := Lib.hid (kp hk3 Hr.out)
          clear hk3
          go_wp2_with fail
          go_roundg (m.sources.length - (k + 1))
          case measure => have := Hg.out; omega
          case rel => exact ⟨k + 1, by omega, rfl, by go_num, by show _ = Value.string (strB (P2 ++ (m.sources.take (k + 1)).flatMap textB)); rw [Hnx.out], HR.out.1, HR.out.2⟩
        · have hge : ¬ (k : Int) < (m.sources.length : Int) := by omega
          have hke : m.sources.take k = m.sources := List.take_of_length_le (by omega)
          rw [hke] at hfl ⊢
          clear hke hfl hkr
          rw [← HP2.out]
          go_wp2_with fail
          go_ret
          exact ⟨rfl, Hr.out.2⟩
end Go.Proofs.Ythlmlneiehijkaa

namespace Go.Proofs.Ythlmlneiehijkaa
open Go Go.RowKit

def blockT (p : BlkS) : List UInt8 := metaL p.1 ++ lebL (p.2 + 1).toNat

def lstT (at_ : Nat) (T : List BlkS) : List UInt8 := lebL at_ ++ (lebL T.length ++ T.flatMap blockT)

theorem bytes3S (w : World) (d : List UInt8) (hd : d.length ≤ 1000000000) : Calls Try.prog 40 #[.agg #[.int .u8 3, .string (strB d)]] w fun e w' => e = .returned (.string (strB (frameL 3 d))) ∧ Keeps [] w w' := bytesS w 3 d hd

def LstRel (w : World) (xb : Nat) (cs : Array Value) (P : List UInt8) (F : Nat → List UInt8) (n gk : Nat) (u3 u : Value) (wr : World) : Prop :=
  ∃ k, k ≤ n ∧ gk = n - k ∧ u = .int .i64 k ∧ u3 = .string (strB (P ++ F k)) ∧ wr.heap[xb]? = some (.cells cs 38 (0, 0)) ∧ Keeps [] w wr

theorem blockT_len {p : BlkS} (ok : MetaOk p.1) (hm : -1 ≤ p.2 ∧ p.2 ≤ 65535) : (blockT p).length ≤ 2010 := by
  unfold blockT
  rw [List.length_append]
  have := ok.len
  have := lebL_len10 (v := (p.2 + 1).toNat) (by omega)
  omega

set_option linter.unusedSimpArgs false in
set_option maxRecDepth 100000 in
set_option maxHeartbeats 2000000 in
theorem enc10_spec (B : Nat) (w : World) (at_ : Nat) (u : Value) (T : List BlkS) (h : BlksV B w u T) (hat : at_ ≤ 1099511627776) (hl : T.length ≤ 20) (hok : ∀ p ∈ T, MetaOk p.1 ∧ -1 ≤ p.2 ∧ p.2 ≤ 65535) :
    Calls Try.prog 13 #[.agg #[.int .i64 at_, u]] w fun e w' => e = .returned (.string (strB (frameL 3 (lstT at_ T)))) ∧ Keeps [] w w' := by
  have Hv := Lib.hid h
  have Hok := Lib.hid hok
  obtain ⟨a, c, rfl⟩ := h.form
  have e1 : IntKind.u64.wrap (at_ : Int) = (at_ : Int) := IntWalk.u64_in _ (by omega)
  have e2 : IntKind.u64.wrap (T.length : Int) = (T.length : Int) := IntWalk.u64_in _ (by omega)
  have l1 := lebL_len10 (v := at_) (by omega)
  have l2 := lebL_len10 (v := T.length) (by omega)
  have Hh := Lib.hid (show lstT at_ T = (lebL at_ ++ lebL T.length) ++ T.flatMap blockT from by unfold lstT; simp [List.append_assoc])
  have Hlen := Lib.hid (flat_len_le blockT 2010 T (fun p hp => blockT_len (hok p hp).1 (hok p hp).2))
  obtain ⟨xb, hxb⟩ : ∃ b, b = w.heap.size := ⟨_, rfl⟩
  have n0 := heap_new w (.cells #[.int .i64 at_, .slice a T.length c] 38)
  have k0 : Keeps [] w (w.alloc (.cells #[.int .i64 at_, .slice a T.length c] 38)) := (Keeps.refl [] w).alloc _
  rw [← hxb] at n0
  have H0 := Lib.hid (And.intro n0 k0)
  have Hxb := Lib.hid hxb
  have hsA := strB_append
  have hsS := strB_size
  clear n0 k0 hxb hok h
  go_enter Try.func13, Try.ntmps13
  go_upto_region 1 with fail
  rw [← Hxb.out]
  generalize w.alloc (.cells #[.int .i64 at_, .slice a T.length c] 38) = W0 at H0 ⊢
  clear Hxb
  have cP : ∀ (s : Kept W0) i, s.val.cell? ⟨xb, i, none⟩ = (#[Value.int .i64 at_, .slice a T.length c] : Array Value)[i]? := fun s i => (s.property.cell (lt_of_at H0.out.1) (by simp)).trans (cells_at H0.out.1 i)
  have lP : ∀ s : Kept W0, xb < s.val.heap.size := fun s => s.property.lt (lt_of_at H0.out.1)
  have H1 := Lib.hid (fun W (_ : Keeps [] W0 W) => uintS W at_ (by omega))
  have H2 := Lib.hid (fun W (_ : Keeps [] W0 W) => uintS W T.length (by omega))
  refine wp_region_kept W0 (by kernel_rfl) (by kernel_rfl) ((Keeps.refl [] W0).drew) ?_
  repeat (go_big_quiet_step (first | (go_at_call 38; with_reducible exact Calls.kept H1.out) | (go_at_call 38; with_reducible exact Calls.kept H2.out)))
  refine wpQuiet_nil ?_
  rintro w1 ⟨⟨_, hk1⟩, rfl⟩
  obtain ⟨P, hP⟩ : ∃ P, P = lebL at_ ++ lebL T.length := ⟨_, rfl⟩
  have hPl : P.length + (T.flatMap blockT).length ≤ 100000 := by have := Hlen.out; rw [hP, List.length_append]; omega
  rw [← hP] at Hh ⊢
  have HW := Lib.hid (kp hk1 H0.out)
  have HP := Lib.hid hPl
  clear cP lP H1 H2 hk1 H0 e1 e2 l1 l2 hP hPl Hlen
  have c1 := cells_at HW.out.1
  have b1 := lt_of_at HW.out.1
  go_wp2_with fail
  clear c1 b1
  go_loopg [3, 19] T.length (LstRel w xb #[.int .i64 at_, .slice a T.length c] P (fun k => (T.take k).flatMap blockT) T.length)
  case atStart => exact ⟨0, Nat.zero_le _, rfl, rfl, by simp, HW.out.1, HW.out.2⟩
  case round =>
    obtain ⟨k, hk, hgk, rfl, hu3, hpb, hkr⟩ := hrel
    have hu3' : _ = Value.string (strB (P ++ (T.take k).flatMap blockT)) := hu3
    subst hu3'
    clear hu3
    have Hg := Lib.hid hgk
    clear hgk
    have Hr := Lib.hid (And.intro hpb hkr)
    have hfl := flat_take_le blockT T k
    clear hpb
    by_cases hlt : k < T.length
    · obtain ⟨b2, o2, f2, g2, p2, q2, e2, hb2, hm2, d0, d1, d2, d3, d4, d5, d6, d7, d8⟩ := BlksV.elem (kp hkr Hv.out) k hlt
      subst e2
      have hokk := Hok.out T[k] (List.getElem_mem _)
      have Hnx := Lib.hid (flat_nextL blockT hlt)
      obtain ⟨⟨m, mk⟩, hme⟩ : ∃ m, m = T[k] := ⟨_, rfl⟩
      rw [← hme] at d0 d1 d2 d3 d4 d5 d6 d7 d8 hm2 hokk Hnx
      simp only at d0 d1 d2 d3 d4 d5 d6 d7 d8 hm2 hokk
      obtain ⟨hmo, hmk1, hmk2⟩ := hokk
      obtain ⟨mn, hmn⟩ : ∃ n : Nat, mk = (n : Int) - 1 := ⟨(mk + 1).toNat, by omega⟩
      subst hmn
      have hlt' : (k : Int) < (T.length : Int) := by omega
      have ka : Keeps [] wr (wr.alloc (.cells #[.string m.id, .int .i64 m.mn, .int .i64 m.mx, .int .i64 m.level, .int .i64 m.series, .int .i64 m.samples, .slice f2 m.files.length g2, .slice p2 m.sources.length q2, .int .i64 ((mn : Int) - 1)] 53)) := (Keeps.refl [] wr).alloc _
      have na := heap_new wr (.cells #[.string m.id, .int .i64 m.mn, .int .i64 m.mx, .int .i64 m.level, .int .i64 m.series, .int .i64 m.samples, .slice f2 m.files.length g2, .slice p2 m.sources.length q2, .int .i64 ((mn : Int) - 1)] 53)
      have HA := Lib.hid (And.intro na (And.intro (kp ka Hr.out) (kp ka hm2)))
      have Hb := Lib.hid (show blockT (m, (mn : Int) - 1) = metaL m ++ lebL mn from by unfold blockT; simp)
      have hml : P.length + ((T.take k).flatMap blockT).length ≤ 100000 := by have := HP.out; omega
      have m0 := hmo.len
      have m1 := lebL_len10 (v := mn) (by omega)
      clear hkr hme ka na hfl hm2
      go_upto_region 5 with fail
      clear d0 d1 d2 d3 d4 d5 d6 d7 d8
      generalize hWa : wr.alloc (.cells #[.string m.id, .int .i64 m.mn, .int .i64 m.mx, .int .i64 m.level, .int .i64 m.series, .int .i64 m.samples, .slice f2 m.files.length g2, .slice p2 m.sources.length q2, .int .i64 ((mn : Int) - 1)] 53) = Wa at HA ⊢
      generalize hyb : wr.heap.size = yb at HA ⊢
      clear hWa hyb
      have cP : ∀ (s : Kept Wa) i, s.val.cell? ⟨yb, i, none⟩ = (#[.string m.id, .int .i64 m.mn, .int .i64 m.mx, .int .i64 m.level, .int .i64 m.series, .int .i64 m.samples, .slice f2 m.files.length g2, .slice p2 m.sources.length q2, .int .i64 ((mn : Int) - 1)] : Array Value)[i]? := fun s i => (s.property.cell (lt_of_at HA.out.1) (by simp)).trans (cells_at HA.out.1 i)
      have lP : ∀ s : Kept Wa, yb < s.val.heap.size := fun s => s.property.lt (lt_of_at HA.out.1)
      have z1 : IntKind.u64.wrap (mn : Int) = (mn : Int) := IntWalk.u64_in _ (by omega)
      have z2 : IntKind.i64.wrap ((mn : Int) - 1 + 1) = (mn : Int) := by rw [IntWalk.i64_in _ (by omega)]; omega
      have H1 := Lib.hid (fun W (hk : Keeps [] Wa W) => fields9_spec B W _ m (kp hk HA.out.2.2) hmo)
      have H2 := Lib.hid (fun W (_ : Keeps [] Wa W) => uintS W mn (by omega))
      generalize (T.take k).flatMap blockT = F at hml Hnx ⊢
      refine wp_region_kept Wa (by kernel_rfl) (by kernel_rfl) ((Keeps.refl [] Wa).drew) ?_
      repeat (go_big_quiet_step (first | (go_at_call 39; exact Calls.kept H1.out) | (go_at_call 38; exact Calls.kept H2.out)))
      refine wpQuiet_nil ?_
      rintro w2 ⟨⟨_, hk2⟩, rfl⟩
      have HR := Lib.hid (kp hk2 HA.out.2.1)
      clear hk2 cP lP z1 z2 m0 m1 hml H1 H2
      go_wp2_with fail
      go_roundg (T.length - (k + 1))
      case measure => have := Hg.out; omega
      case rel => exact ⟨k + 1, by omega, rfl, by go_num, by show _ = Value.string (strB (P ++ (T.take (k + 1)).flatMap blockT)); rw [Hnx.out, Hb.out], HR.out.1, HR.out.2⟩
    · have hge : ¬ (k : Int) < (T.length : Int) := by omega
      have hke : T.take k = T := List.take_of_length_le (by omega)
      rw [hke] at hfl ⊢
      have hfin : (P ++ T.flatMap blockT).length ≤ 1000000000 := by have := HP.out; rw [List.length_append]; omega
      have Hf := Lib.hid (bytes3S wr _ hfin)
      rw [← Hh.out] at Hf ⊢
      clear hke hfl hkr hfin
      go_wp2_with fail
      refine Hf.out.mono ?_
      rintro e w3 ⟨rfl, hk3⟩
      have HX := Lib.hid (Hr.out.2.trans hk3)
      clear hk3
      go_wp2_with fail
      go_ret
      exact ⟨rfl, HX.out⟩
end Go.Proofs.Ythlmlneiehijkaa

namespace Go.Proofs.Ythlmlneiehijkaa
open Go Go.RowKit

def cntL (S : List ByteArray) (id : ByteArray) : Nat := (S.filter fun x => decide (x = id)).length

theorem cntL_append (a b : List ByteArray) (id : ByteArray) : cntL (a ++ b) id = cntL a id + cntL b id := by simp [cntL]

theorem cntL_le (a : List ByteArray) (id : ByteArray) : cntL a id ≤ a.length := List.length_filter_le _ _

theorem cntL_snoc {S : List ByteArray} {j : Nat} (h : j < S.length) (id : ByteArray) : cntL (S.take (j + 1)) id = cntL (S.take j) id + (if S[j] = id then 1 else 0) := by
  rw [List.take_succ_eq_append_getElem h, cntL_append]
  congr 1
  unfold cntL
  by_cases e : S[j] = id
  · simp [e]
  · simp [e]

def srcsT (T : List BlkS) : List ByteArray := T.flatMap fun p => p.1.sources

theorem srcsT_snoc {T : List BlkS} {k : Nat} (h : k < T.length) : srcsT (T.take (k + 1)) = srcsT (T.take k) ++ T[k].1.sources := by
  unfold srcsT
  rw [List.take_succ_eq_append_getElem h, List.flatMap_append]
  simp

theorem srcsT_len : ∀ {T : List BlkS}, (∀ p ∈ T, p.1.sources.length ≤ 50) → (srcsT T).length ≤ 50 * T.length
  | [], _ => by simp [srcsT]
  | p :: T, h => by
    have h1 := h p (by simp)
    have h2 := srcsT_len (T := T) fun q hq => h q (by simp [hq])
    unfold srcsT at *
    rw [List.flatMap_cons, List.length_append, List.length_cons]
    omega

def Made10Rel (w : World) (T : List BlkS) (id : ByteArray) (gk : Nat) (u5 u13 : Value) (wr : World) : Prop :=
  ∃ k, k ≤ T.length ∧ gk = T.length - k ∧ u13 = .int .i64 k ∧ u5 = .int .i64 (cntL (srcsT (T.take k)) id) ∧ Keeps [] w wr

def Made10Rel2 (w : World) (c0 : Nat) (S : List ByteArray) (id : ByteArray) (gk : Nat) (u5 u21 : Value) (wr : World) : Prop :=
  ∃ j, j ≤ S.length ∧ gk = S.length - j ∧ u21 = .int .i64 j ∧ u5 = .int .i64 (c0 + cntL (S.take j) id : Nat) ∧ w = wr

set_option linter.unusedSimpArgs false in
set_option maxRecDepth 100000 in
set_option maxHeartbeats 2000000 in
theorem made10_spec (B : Nat) (w : World) (at_ : Int) (u : Value) (T : List BlkS) (id : ByteArray) (h : BlksV B w u T) (hl : T.length ≤ 20) (hsr : ∀ p ∈ T, p.1.sources.length ≤ 50) :
    Calls Try.prog 22 #[.agg #[.int .i64 at_, u], .string id] w fun e w' => e = .returned (.int .i64 (cntL (srcsT T) id)) ∧ Keeps [] w w' := by
  have Hv := Lib.hid h
  have Hsr := Lib.hid hsr
  obtain ⟨a, c, rfl⟩ := h.form
  obtain ⟨xb, hxb⟩ : ∃ b, b = w.heap.size := ⟨_, rfl⟩
  have n0 := heap_new w (.cells #[.int .i64 at_, .slice a T.length c] 38)
  have k0 : Keeps [] w (w.alloc (.cells #[.int .i64 at_, .slice a T.length c] 38)) := (Keeps.refl [] w).alloc _
  rw [← hxb] at n0
  have H0 := Lib.hid (And.intro n0 k0)
  have Hxb := Lib.hid hxb
  clear n0 k0 hxb hsr h
  go_enter Try.func22, Try.ntmps22
  go_upto_region 1 with fail
  rw [← Hxb.out]
  generalize w.alloc (.cells #[.int .i64 at_, .slice a T.length c] 38) = W0 at H0 ⊢
  clear Hxb
  have c1 := cells_at H0.out.1
  have b1 := lt_of_at H0.out.1
  go_wp2_with fail
  clear c1 b1
  go_loopg [5, 13] T.length (Made10Rel w T id)
  case atStart => exact ⟨0, Nat.zero_le _, rfl, rfl, rfl, H0.out.2⟩
  case round =>
    obtain ⟨k, hk, hgk, rfl, rfl, hkr⟩ := hrel
    have Hg := Lib.hid hgk
    clear hgk
    have hcl := cntL_le (srcsT (T.take k)) id
    have hsl := srcsT_len (T := T.take k) fun p hp => Hsr.out p (List.mem_of_mem_take hp)
    rw [List.length_take] at hsl
    by_cases hlt : k < T.length
    · obtain ⟨b2, o2, f2, g2, p2, q2, e2, hb2, hm2, d0, d1, d2, d3, d4, d5, d6, d7, d8⟩ := BlksV.elem (kp hkr Hv.out) k hlt
      subst e2
      have Hsn := Lib.hid (srcsT_snoc hlt)
      have hs50 := Hsr.out T[k] (List.getElem_mem _)
      obtain ⟨⟨m, mk⟩, hme⟩ : ∃ m, m = T[k] := ⟨_, rfl⟩
      rw [← hme] at d0 d1 d2 d3 d4 d5 d6 d7 d8 hm2 Hsn hs50
      simp only at d0 d1 d2 d3 d4 d5 d6 d7 d8 hm2 hs50
      have hlt' : (k : Int) < (T.length : Int) := by omega
      have ka : Keeps [] wr (wr.alloc (.cells #[.string m.id, .int .i64 m.mn, .int .i64 m.mx, .int .i64 m.level, .int .i64 m.series, .int .i64 m.samples, .slice f2 m.files.length g2, .slice p2 m.sources.length q2, .int .i64 mk] 53)) := (Keeps.refl [] wr).alloc _
      have na := heap_new wr (.cells #[.string m.id, .int .i64 m.mn, .int .i64 m.mx, .int .i64 m.level, .int .i64 m.series, .int .i64 m.samples, .slice f2 m.files.length g2, .slice p2 m.sources.length q2, .int .i64 mk] 53)
      have hso : SliceFrom B 1 encS1m wr (.slice p2 m.sources.length q2) m.sources := by
        obtain ⟨vf, vo, e, -, ho⟩ := hm2
        simp only [List.cons.injEq, and_true] at e
        rw [e.2.2.2.2.2.2.2]
        exact ho
      have HA := Lib.hid (And.intro na (And.intro (hkr.trans ka) (kp ka hso)))
      have Hc0 := Lib.hid (show cntL (srcsT (T.take (k + 1))) id = cntL (srcsT (T.take k)) id + cntL m.sources id from by rw [Hsn.out, cntL_append])
      generalize cntL (srcsT (T.take k)) id = c0 at hcl Hc0 ⊢
      clear hkr hme ka na hm2 hso Hsn
      go_upto_region 5 with fail
      clear d0 d1 d2 d3 d4 d5 d6 d7 d8
      generalize hWa : wr.alloc (.cells #[.string m.id, .int .i64 m.mn, .int .i64 m.mx, .int .i64 m.level, .int .i64 m.series, .int .i64 m.samples, .slice f2 m.files.length g2, .slice p2 m.sources.length q2, .int .i64 mk] 53) = Wa at HA ⊢
      generalize hyb : wr.heap.size = yb at HA ⊢
      clear hWa hyb
      have cy := cells_at HA.out.1
      have ly := lt_of_at HA.out.1
      go_wp2_with fail
      clear cy ly
      go_loopg [5, 21] m.sources.length (Made10Rel2 Wa c0 m.sources id)
      case atStart => exact ⟨0, Nat.zero_le _, rfl, rfl, by simp [cntL], rfl⟩
      case round =>
        obtain ⟨j, hj, hgj, rfl, rfl, rfl⟩ := hrel
        have Hgj := Lib.hid hgj
        clear hgj
        have hcj := cntL_le (m.sources.take j) id
        rw [List.length_take] at hcj
        by_cases hlj : j < m.sources.length
        · obtain ⟨fb, fo, ea, -, hb1, hc1⟩ := HA.out.2.2.atI j hlj
          subst ea
          have Hsj := Lib.hid (cntL_snoc hlj id)
          obtain ⟨sj, hsj⟩ : ∃ f, f = m.sources[j] := ⟨_, rfl⟩
          rw [← hsj] at hc1 Hsj
          have e0 : Wa.cell? ⟨fb, fo + j, none⟩ = some (.string sj) := by simpa [encS1m] using hc1 0 (by decide)
          have hlt2 : (j : Int) < (m.sources.length : Int) := by omega
          have hse : (sj.toList == id.toList) = decide (sj = id) := toList_beq _ _
          clear hc1 hsj
          generalize cntL (m.sources.take j) id = c1 at hcj Hsj ⊢
          by_cases he : sj = id
          · rw [decide_eq_true he] at hse
            have Hs2 := Lib.hid (show cntL (m.sources.take (j + 1)) id = c1 + 1 from by rw [Hsj.out, if_pos he])
            clear he Hsj
            go_wp2_with fail
            go_roundg (m.sources.length - (j + 1))
            case measure => have := Hgj.out; omega
            case rel => exact ⟨j + 1, by omega, rfl, by go_num, by rw [Hs2.out]; go_num, rfl⟩
          · rw [decide_eq_false he] at hse
            have Hs2 := Lib.hid (show cntL (m.sources.take (j + 1)) id = c1 from by rw [Hsj.out, if_neg he]; rfl)
            clear he Hsj
            go_wp2_with fail
            go_roundg (m.sources.length - (j + 1))
            case measure => have := Hgj.out; omega
            case rel => exact ⟨j + 1, by omega, rfl, by go_num, by rw [Hs2.out], rfl⟩
        · have hge : ¬ (j : Int) < (m.sources.length : Int) := by omega
          have hke : m.sources.take j = m.sources := List.take_of_length_le (by omega)
          rw [hke]
          rw [hke] at hcj
          have Hx := Lib.hid Hc0.out
          clear hke hcj
          go_wp2_with fail
          go_roundg (T.length - (k + 1))
          case measure => have := Hg.out; omega
          case rel => exact ⟨k + 1, by omega, rfl, by go_num, by rw [Hx.out]; go_num, HA.out.2.1⟩
    · have hge : ¬ (k : Int) < (T.length : Int) := by omega
      have hke : T.take k = T := List.take_of_length_le (by omega)
      rw [hke]
      have Hk := Lib.hid hkr
      clear hke hcl hsl hkr
      go_wp2_with fail
      go_ret
      exact ⟨rfl, Hk.out⟩

theorem infoMeta9 : (Try.prog.info? 51).map (fun i => (i.zero, i.size, i.bytes)) = some (some (.agg #[.string ⟨#[]⟩, .int .i64 0, .int .i64 0, .int .i64 0, .int .i64 0, .int .i64 0, .slice none 0 0, .slice none 0 0]), 8, 104) := by kernel_rfl

def meetC (S : List ByteArray) (fr to_ : Int) (m : MetaS) : Bool := decide (cntL S m.id = 0) && (decide ((m.mn : Int) < to_) && decide (fr < (m.mx : Int)))

def Over10Rel (w : World) (xb : Nat) (cs : Array Value) (C : List BlkC) (S : List ByteArray) (fr to_ : Int) (gk : Nat) (u7 u14 : Value) (wr : World) : Prop :=
  ∃ k, k ≤ C.length ∧ gk = C.length - k ∧ u14 = .int .i64 k ∧ wr.ownsRow w.heap.size 51 8 u7 ((C.take k).filter fun c => meetC S fr to_ c.1.1).length (((C.take k).filter fun c => meetC S fr to_ c.1.1).flatMap fun c => encMC c.1) ∧ wr.heap[xb]? = some (.cells cs 38 (0, 0)) ∧ Keeps [] w wr

set_option linter.unusedSimpArgs false in
set_option maxRecDepth 100000 in
set_option maxHeartbeats 2000000 in
theorem over10_spec (B : Nat) (w : World) (at_ fr to_ : Int) (u : Value) (T : List BlkS) (h : BlksV B w u T) (hl : T.length ≤ 20) (hsr : ∀ p ∈ T, p.1.sources.length ≤ 50) (hB : B ≤ w.heap.size) :
    Calls Try.prog 16 #[.agg #[.int .i64 at_, u], .int .i64 fr, .int .i64 to_] w fun e w' => ∃ v', e = .returned v' ∧ MetasV B w' v' ((T.map (·.1)).filter (meetC (srcsT T) fr to_)) ∧ Keeps [] w w' := by
  have Hm := Lib.hid (fun W (hk : Keeps [] w W) id => made10_spec B W at_ u T id (kp hk h) hl hsr)
  obtain ⟨C, hC, hs, hm⟩ := h.reps
  have hCl : C.length = T.length := by rw [← hC, List.length_map]
  have HC := Lib.hid (And.intro hC (And.intro hs hm))
  have HB := Lib.hid hB
  obtain ⟨a, c, rfl⟩ := h.form
  rw [← hCl] at hl
  generalize srcsT T = S at Hm ⊢
  rw [← hCl] at Hm HC ⊢
  clear hCl
  obtain ⟨im, him, hzm0, hzm1, hzm2⟩ := info_parts infoMeta9
  obtain ⟨xb, hxb⟩ : ∃ b, b = w.heap.size := ⟨_, rfl⟩
  have n0 := heap_new w (.cells #[.int .i64 at_, .slice a C.length c] 38)
  have k0 : Keeps [] w (w.alloc (.cells #[.int .i64 at_, .slice a C.length c] 38)) := (Keeps.refl [] w).alloc _
  have kb : Keeps [] (w.alloc (.cells #[.int .i64 at_, .slice a C.length c] 38)) ((w.alloc (.cells #[.int .i64 at_, .slice a C.length c] 38)).alloc (.cells #[] 51)) := (Keeps.refl [] _).alloc _
  have r0 := ownsRow_made (w.alloc (.cells #[.int .i64 at_, .slice a C.length c] 38)) w.heap.size 51 8 k0.size
  have hz : (w.alloc (.cells #[.int .i64 at_, .slice a C.length c] 38)).heap.size = xb + 1 := by simp [hxb]
  rw [hz] at r0
  rw [← hxb] at n0
  have H0 := Lib.hid (And.intro (kp kb n0) (And.intro r0 (k0.trans kb)))
  have Hxb := Lib.hid hxb
  clear n0 k0 kb r0 hz hxb hsr h hC hs hm hB
  go_enter Try.func16, Try.ntmps16
  go_upto_region 2 with fail
  rw [← Hxb.out]
  generalize (w.alloc (.cells #[.int .i64 at_, .slice a C.length c] 38)).alloc (.cells #[] 51) = W1 at H0 ⊢
  clear Hxb
  have c1 := cells_at H0.out.1
  have b1 := lt_of_at H0.out.1
  go_wp2_with fail
  clear c1 b1
  go_loopg [7, 14] C.length (Over10Rel w xb #[.int .i64 at_, .slice a C.length c] C S fr to_)
  case atStart => exact ⟨0, Nat.zero_le _, rfl, rfl, H0.out.2.1, H0.out.1, H0.out.2.2⟩
  case round =>
    obtain ⟨k, hk, hgk, rfl, hrow, hbx, hkr⟩ := hrel
    have Hg := Lib.hid hgk
    clear hgk
    have Hr := Lib.hid (And.intro hbx (And.intro hrow hkr))
    have hRl : ((C.take k).filter fun c => meetC S fr to_ c.1.1).length ≤ 20 := by
      have := List.length_filter_le (fun c : BlkC => meetC S fr to_ c.1.1) (C.take k)
      rw [List.length_take] at this
      omega
    by_cases hlt : k < C.length
    · obtain ⟨b2, o2, e2, -, hb2, hc2⟩ := (HC.out.2.1.keep Hr.out.2.2 (by simp)).atI k hlt
      subst e2
      have Hyes := Lib.hid (filter_yes (fun c : BlkC => meetC S fr to_ c.1.1) hlt)
      have Hno := Lib.hid (filter_no (fun c : BlkC => meetC S fr to_ c.1.1) hlt)
      obtain ⟨⟨⟨m, ⟨af, nf, cf⟩, ⟨ao, no, co⟩⟩, mk⟩, hme⟩ : ∃ m, m = C[k] := ⟨_, rfl⟩
      rw [← hme] at hc2 Hyes Hno
      have d0 : wr.cell? ⟨b2, o2 + k * 9, none⟩ = some (.string m.id) := hc2 0 (by decide)
      have d1 : wr.cell? ⟨b2, o2 + k * 9 + 1, none⟩ = some (.int .i64 m.mn) := hc2 1 (by decide)
      have d2 : wr.cell? ⟨b2, o2 + k * 9 + 2, none⟩ = some (.int .i64 m.mx) := hc2 2 (by decide)
      have d3 : wr.cell? ⟨b2, o2 + k * 9 + 3, none⟩ = some (.int .i64 m.level) := hc2 3 (by decide)
      have d4 : wr.cell? ⟨b2, o2 + k * 9 + 4, none⟩ = some (.int .i64 m.series) := hc2 4 (by decide)
      have d5 : wr.cell? ⟨b2, o2 + k * 9 + 5, none⟩ = some (.int .i64 m.samples) := hc2 5 (by decide)
      have d6 : wr.cell? ⟨b2, o2 + k * 9 + 6, none⟩ = some (.slice af nf cf) := hc2 6 (by decide)
      have d7 : wr.cell? ⟨b2, o2 + k * 9 + 7, none⟩ = some (.slice ao no co) := hc2 7 (by decide)
      have d8 : wr.cell? ⟨b2, o2 + k * 9 + 8, none⟩ = some (.int .i64 mk) := hc2 8 (by decide)
      have hlt' : (k : Int) < (C.length : Int) := by omega
      have ka : Keeps [] wr (wr.alloc (.cells #[.string m.id, .int .i64 m.mn, .int .i64 m.mx, .int .i64 m.level, .int .i64 m.series, .int .i64 m.samples, .slice af nf cf, .slice ao no co, .int .i64 mk] 53)) := (Keeps.refl [] wr).alloc _
      have na := heap_new wr (.cells #[.string m.id, .int .i64 m.mn, .int .i64 m.mx, .int .i64 m.level, .int .i64 m.series, .int .i64 m.samples, .slice af nf cf, .slice ao no co, .int .i64 mk] 53)
      have HA := Lib.hid (And.intro na (kp ka Hr.out))
      clear hkr hme ka na hc2 hrow hbx Hr
      go_upto_region 5 with fail
      clear d0 d1 d2 d3 d4 d5 d6 d7 d8
      generalize hWa : wr.alloc (.cells #[.string m.id, .int .i64 m.mn, .int .i64 m.mx, .int .i64 m.level, .int .i64 m.series, .int .i64 m.samples, .slice af nf cf, .slice ao no co, .int .i64 mk] 53) = Wa at HA ⊢
      generalize hyb : wr.heap.size = yb at HA ⊢
      clear hWa hyb
      have cy := cells_at HA.out.1
      have ly := lt_of_at HA.out.1
      have cx := cells_at HA.out.2.1
      have lx := lt_of_at HA.out.2.1
      have Hmd := Lib.hid (Hm.out Wa HA.out.2.2.2 m.id)
      go_wp2_with fail
      refine Hmd.out.mono ?_
      rintro e w5 ⟨rfl, hk5⟩
      have H5 := Lib.hid (kp hk5 HA.out.2)
      have n5 := kp hk5 HA.out.1
      have cz := cells_at n5
      have lz := lt_of_at n5
      have hmv := HC.out.2.2
      clear cy ly cx lx n5 hk5 Hmd
      by_cases hc0 : cntL S m.id = 0
      · have hz0 : ((cntL S m.id : Nat) : Int) = 0 := by omega
        rw [hz0]
        by_cases hc1 : (m.mn : Int) < to_
        · by_cases hc2 : fr < (m.mx : Int)
          · have Hy := Lib.hid (Hyes.out (by unfold meetC; simp [hc0, hc1, hc2]))
            clear hz0 hc0
            go_wp2_with (at_builtin; refine wpList_append_own _ rfl (.tmp 38) (.tmp 41) 44 rfl w.heap.size 51 im _ 8 104 Try.underlying44 him hzm0 hzm1 hzm2 rfl (by decide) u7 _ _ rfl (H5.out.2.1.alloc _) ⟨w5.heap.size, 0, none⟩ 1 1 [.string m.id, .int .i64 m.mn, .int .i64 m.mx, .int .i64 m.level, .int .i64 m.series, .int .i64 m.samples, .slice af nf cf, .slice ao no co] rfl rfl (news_of (heap_new w5 _)) (by simp [Value.oneCell']) (by simp only [maxLen]; omega) (by omega) (by have := H5.out.2.2.size; simp; omega) ?_; intro v8 w8 hown8 hgrow8 hnil; clear hnil)
            have hk8 : Keeps [] w w8 := keeps_grownM (H5.out.2.2.alloc _) hgrow8 (fun q hq => (World.ownsRow.lt H5.out.2.1 q hq).1)
            have kb := keeps_rowM hgrow8
            have hbx5 := heap_old H5.out.1 (.cells #[.string m.id, .int .i64 m.mn, .int .i64 m.mx, .int .i64 m.level, .int .i64 m.series, .int .i64 m.samples, .slice af nf cf, .slice ao no co] 51)
            have nb := kb.at_ hbx5 (fun hm => row_ne_type (H5.out.2.1.alloc (.cells #[.string m.id, .int .i64 m.mn, .int .i64 m.mx, .int .i64 m.level, .int .i64 m.series, .int .i64 m.samples, .slice af nf cf, .slice ao no co] 51)) hbx5 (by decide) xb (by simpa using hm) rfl)
            clear hbx5
            have H8 := Lib.hid (And.intro hown8 (And.intro nb hk8))
            clear hown8 hgrow8 hk8 kb nb
            go_roundg (C.length - (k + 1))
            case measure => have := Hg.out; omega
            case rel =>
              refine ⟨k + 1, by omega, rfl, by go_num, ?_, H8.out.2.1, H8.out.2.2⟩
              have h8 := H8.out.1
              rw [Hy.out, List.length_append, List.flatMap_append]
              simpa [encMC] using h8
          · have Hn := Lib.hid (Hno.out (by unfold meetC; simp [hc0, hc1, hc2]))
            clear hz0 hc0 Hyes Hno
            go_wp2_with fail
            go_roundg (C.length - (k + 1))
            case measure => have := Hg.out; omega
            case rel => exact ⟨k + 1, by omega, rfl, by go_num, by rw [Hn.out]; exact H5.out.2.1, H5.out.1, H5.out.2.2⟩
        · have Hn := Lib.hid (Hno.out (by unfold meetC; simp [hc1]))
          clear hz0 hc0 Hyes Hno
          go_wp2_with fail
          go_roundg (C.length - (k + 1))
          case measure => have := Hg.out; omega
          case rel => exact ⟨k + 1, by omega, rfl, by go_num, by rw [Hn.out]; exact H5.out.2.1, H5.out.1, H5.out.2.2⟩
      · have hb0 : (((cntL S m.id : Nat) : Int) == 0) = false := by simp; omega
        have Hn := Lib.hid (Hno.out (by unfold meetC; simp [hc0]))
        clear hc0 Hyes Hno
        go_wp2_with fail
        go_roundg (C.length - (k + 1))
        case measure => have := Hg.out; omega
        case rel => exact ⟨k + 1, by omega, rfl, by go_num, by rw [Hn.out]; exact H5.out.2.1, H5.out.1, H5.out.2.2⟩
    · obtain rfl : k = C.length := by omega
      rw [List.take_length] at hrow
      have hsf := sliceFrom_row (enc := fun c : BlkC => encMC c.1) (fun c => encMC_len c.1) hrow
      have Hres := Lib.hid (And.intro hsf hkr)
      have hge : ¬ (C.length : Int) < (C.length : Int) := by omega
      clear hrow hkr hbx Hr hsf
      go_wp2_with fail
      go_ret
      refine ⟨_, rfl, ?_, Hres.out.2⟩
      have hms := metasV_of (SliceFrom.to_map (f := fun c : BlkC => c.1) (enc := encMC) (Hres.out.1.low HB.out)) (fun x hx => by
        obtain ⟨c, hc, rfl⟩ := List.mem_map.1 hx
        exact (HC.out.2.2 c ((List.mem_filter.1 hc).1)).same Hres.out.2)
      have he : ((C.filter fun c => meetC S fr to_ c.1.1).map fun c : BlkC => c.1).map (·.1) = (T.map (·.1)).filter (meetC S fr to_) := by
        rw [← HC.out.1, List.map_map, List.map_map, List.filter_map]
        rfl
      rw [← he]
      exact hms
end Go.Proofs.Ythlmlneiehijkaa
