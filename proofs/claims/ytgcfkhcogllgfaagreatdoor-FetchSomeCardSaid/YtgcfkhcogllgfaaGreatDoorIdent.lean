/-
  Blocks' names (ident): digits, Make, number, Parse.
  Each contract holds in every world; old memory is left as it was.

  Blocks' names (ident): Parse; whether a block is late (ship.Late).
  Each contract holds in every world; old memory is left as it was.
-/
import Derived.Test.YtgcfkhcogllgfaaGreatDoorFrame
import Derived.Test.YtgcfkhcogllgfaaGreatDoorLebLaw
import Derived.Test.YtgcfkhcogllgfaaGreatDoorShelf
import Derived.Laws.Rows
namespace Go.Proofs.YtgcfkhcogllgfaaGreatDoor
set_option maxRecDepth 100000
set_option maxHeartbeats 1000000
open Go Go.RowKit
theorem digL_cons : ∀ k n, digL (k + 1) n = signAt (n / 32 ^ k % 32) :: digL k n
 | 0, n => by simp [digL]
 | k + 1, n => by
  have h := digL_cons k (n / 32)
  have e : digL (k + 1 + 1) n = digL (k + 1) (n / 32) ++ [signAt (n % 32)] := rfl
  have e2 : digL (k + 1) n = digL k (n / 32) ++ [signAt (n % 32)] := rfl
  rw [e, h, e2, Nat.div_div_eq_div_mul, Nat.pow_succ, Nat.mul_comm 32, List.cons_append]
theorem set_last (k : Nat) (hk : k < 8) (l : List Value) (v : Value) : (List.replicate (8 - k) (Value.int .u8 0) ++ l).toArray.setIfInBounds (7 - k) v = (List.replicate (7 - k) (Value.int .u8 0) ++ v :: l).toArray := by
 apply Array.ext'
 rw [Array.toList_setIfInBounds]
 have e : 8 - k = (7 - k) + 1 := by omega
 simp only [e, List.replicate_succ', List.append_assoc, List.singleton_append]
 rw [List.set_append_right _ _ (by simp)]
 simp
def signB : ByteArray := ⟨#[48, 49, 50, 51, 52, 53, 54, 55, 56, 57, 97, 98, 99, 100, 101, 102, 103, 104, 106, 107, 109, 110, 112, 113, 114, 115, 116, 118, 119, 120, 121, 122]⟩
theorem sign_get : ∀ d, ∀ h : d < signB.size, signB[d] = signAt d := by
 intro d h
 have h2 : d < 32 := h
 have := (by decide : ∀ d : Fin 32, signB[d.1]'d.2 = signAt d.1) ⟨d, h2⟩
 exact this
theorem and31 {x : Int} (h0 : 0 ≤ x) (h1 : x < 2 ^ 63) : bits .and .i64 x 31 = x % 32 :=
 bits_mask .i64 63 (by decide) (fun n h0 h1 => by rw [IntKind.wrap_i64]; omega) 5 (by decide) x h0 h1
def digRel (w : World) (n : Nat) (gk : Nat) (u0 u4 : Value) (wr : World) : Prop :=
 ∃ k m : Nat, k ≤ 8 ∧ gk = 8 - k ∧ m = n / 32 ^ k ∧ u0 = .int .i64 m ∧ u4 = .int .i64 ((7 : Int) - k) ∧
  wr.heap[w.heap.size]? = some (.cells (List.replicate (8 - k) (Value.int .u8 0) ++ bytesV (digL k n)).toArray 185 (0, 0)) ∧ Keeps [] w wr
theorem digits_spec (w : World) (n : Nat) (hn : n < 1099511627776) :
  Calls Tryz.prog 62 #[.int .i64 n] w fun e w' => e = .returned (.string ⟨(digL 8 n).toArray⟩) ∧ Keeps [] w w' := by
 go_enter Tryz.func62, Tryz.ntmps62
 go_wp2_with fail
 go_loopg [0, 4] 8 (digRel w n)
 case atStart => exact ⟨0, n, by decide, rfl, by simp, rfl, rfl, heap_new w _, (Keeps.refl [] w).alloc _⟩
 case round =>
  obtain ⟨k, m, hk, hg, hm, rfl, rfl, hq, hkp⟩ := hrel
  have Hg := Lib.hid hg
  clear hg
  have hml : m ≤ n := by rw [hm]; exact Nat.div_le_self _ _
  by_cases hk8 : k < 8
  ·obtain ⟨j, hj⟩ : ∃ j : Nat, (7 : Int) - (k : Int) = j := ⟨7 - k, by omega⟩
   rw [hj]
   have hjk : j = 7 - k := by omega
   have hq' := heap_cell_same (i := j) hq (.int .u8 (signAt (m % 32)).toNat)
   have hsl := set_last k hk8 (bytesV (digL k n)) (.int .u8 (signAt (m % 32)).toNat)
   rw [← hjk] at hsl
   rw [hsl] at hq'
   clear hsl
   have hdc : List.replicate (7 - k) (Value.int .u8 0) ++ Value.int .u8 (signAt (m % 32)).toNat :: bytesV (digL k n) = List.replicate (8 - (k + 1)) (Value.int .u8 0) ++ bytesV (digL (k + 1) n) := by
    rw [digL_cons, hm, show 8 - (k + 1) = 7 - k from by omega]
    rfl
   rw [← hjk] at hdc
   rw [hdc] at hq'
   have hcell : wr.cell? ⟨w.heap.size, j, none⟩ = some (.int .u8 0) := by
    rw [cells_at hq, hjk]
    simp only [List.getElem?_toArray]
    rw [List.getElem?_append_left (by simp; omega), List.getElem?_replicate_of_lt (by omega)]
   have hfree := free_at hq j
   have lq := lt_of_at hq
   have hand : bits .and .i64 (m : Int) 31 = ((m % 32 : Nat) : Int) := by rw [and31 (by omega) (by omega)]; omega
   have hd0 : m % 32 < 32 := Nat.mod_lt _ (by decide)
   have hds : m % 32 < signB.size := hd0
   have hsg : (signB[m % 32]'hds).toNat = (signAt (m % 32)).toNat := congrArg UInt8.toNat (sign_get _ hds)
   have hd1 : ((m % 32 : Nat) : Int) < 32 := by omega
   have hm2 : m / 32 = n / 32 ^ (k + 1) := by rw [hm, Nat.div_div_eq_div_mul, ← Nat.pow_succ]
   have H := Lib.hid (And.intro hq' (And.intro hm2 (And.intro hj (hkp.setCell (p := ⟨w.heap.size, j, none⟩) (.inr (Nat.le_refl _)) (.int .u8 (signAt (m % 32)).toNat)))))
   have hj7 : j ≤ 7 := by omega
   have hj7' : (j : Int) < 8 := by omega
   generalize hd : m % 32 = d at hand hds hsg H hd0 hd1
   clear hq hkp hq' hm hm2 hjk hj hdc hd
   unfold signB at hsg hds
   go_wp2_with fail
   go_roundg (8 - (k + 1))
   case measure => have := Hg.out; omega
   case rel => exact ⟨k + 1, m / 32, by omega, rfl, H.out.2.1, by go_num, by have := H.out.2.2.1; congr 1; omega, H.out.1, H.out.2.2.2⟩
  ·obtain rfl : k = 8 := by omega
   have hlt : ¬ (0 : Int) ≤ 7 - ((8 : Nat) : Int) := by omega
   have hbs : Lib.Bytes wr w.heap.size 0 ⟨(digL 8 n).toArray⟩ := by
    intro i hi
    have hil : i < (digL 8 n).length := hi
    rw [Nat.zero_add, cells_at hq]
    simp [bytesV, hil]
    rfl
   have hconv := Lib.run_convert_whole (P := Tryz.prog) wr 147 5 9 Tryz.underlying147 Tryz.underlying5 Tryz.underlying9 w.heap.size 0 ⟨(digL 8 n).toArray⟩ hbs 8
   have hsz : (⟨(digL 8 n).toArray⟩ : ByteArray).size = 8 := digL_len 8 n
   rw [hsz] at hconv
   have lq := lt_of_at hq
   have H := Lib.hid hkp
   obtain ⟨ds, hds⟩ : ∃ ds : ByteArray, ds = ⟨(digL 8 n).toArray⟩ := ⟨_, rfl⟩
   rw [← hds] at hconv
   have Hds := Lib.hid hds
   clear hq hkp hbs hsz hm hds
   go_wp2_with fail
   go_ret
   exact ⟨by rw [← Hds.out]; rfl, H.out⟩
theorem ident_join (t s : Nat) : (⟨(digL 8 t).toArray⟩ : ByteArray) ++ ⟨(digL 8 s).toArray⟩ = ⟨(identL t s).toArray⟩ := by
 apply ba_ext
 simp [ByteArray.data_append, identL]
theorem make_spec (w : World) (t s : Nat) (ht : t < 1099511627776) (hs : s < 1099511627776) :
  Calls Tryz.prog 37 #[.int .i64 t, .int .i64 s] w fun e w' => e = .returned (.tuple #[.string ⟨(identL t s).toArray⟩, .int .i64 0]) ∧ Keeps [] w w' := by
 have h1 : ¬ (1099511627776 : Int) ≤ (t : Int) := by omega
 have h2 : ¬ (1099511627776 : Int) ≤ (s : Int) := by omega
 have z1 : (⟨(digL 8 t).toArray⟩ : ByteArray).size = 8 := digL_len 8 t
 have z2 : (⟨(digL 8 s).toArray⟩ : ByteArray).size = 8 := digL_len 8 s
 have Hj := Lib.hid (ident_join t s)
 have Hd := Lib.hid (And.intro (fun w => digits_spec w t ht) (fun w => digits_spec w s hs))
 obtain ⟨dt, hdt⟩ : ∃ ds : ByteArray, ds = ⟨(digL 8 t).toArray⟩ := ⟨_, rfl⟩
 obtain ⟨dq, hdq⟩ : ∃ ds : ByteArray, ds = ⟨(digL 8 s).toArray⟩ := ⟨_, rfl⟩
 rw [← hdt] at z1 Hj Hd
 rw [← hdq] at z2 Hj Hd
 have h3 : dt.size ≤ 8 := by omega
 have h4 : dq.size ≤ 8 := by omega
 clear z1 z2 hdt hdq
 go_enter Tryz.func37, Tryz.ntmps37
 go_wp2_with fail
 refine (Hd.out.1 w).mono ?_
 rintro e w1 ⟨rfl, hk1⟩
 go_wp2_with fail
 refine (Hd.out.2 w1).mono ?_
 rintro e w2 ⟨rfl, hk2⟩
 have hk := hk1.trans hk2
 clear hk1 hk2
 go_wp2_with fail
 go_ret2
 exact ⟨by rw [← Hj.out]; rfl, hk⟩
theorem index_sign : ∀ c : UInt8, Lib.indexByte signB.data.toList c = (match numIx c with | some k => (k : Int) | none => -1) := by
 intro c
 have := (by decide +kernel : ∀ n : Fin 256, Lib.indexByte signB.data.toList (UInt8.ofNat n.1) = (match numIx (UInt8.ofNat n.1) with | some k => (k : Int) | none => -1)) ⟨c.toNat, UInt8.toNat_lt c⟩
 simpa using this
theorem or_join {n k : Nat} (hn : n < 1125899906842624) (hk : k < 32) : bits .or .i64 ((n : Int) * 32) (k : Int) = ((n * 32 + k : Nat) : Int) := by
 have h := (bits_nat .i64 63 (by decide) (fun n h0 h1 => by rw [IntKind.wrap_i64]; omega) (n * 32) k (by omega) (by omega)).2
 rw [show ((n * 32 : Nat) : Int) = (n : Int) * 32 from by omega] at h
 rw [h]
 congr 1
 have h2 := Nat.two_pow_add_eq_or_of_lt (i := 5) (b := k) (by omega) n
 rw [Nat.mul_comm n 32, show (32 : Nat) = 2 ^ 5 from rfl, ← h2]
def numVals (r : Option Nat) : Value := match r with | some m => .tuple #[.int .i64 m, .bool true] | none => .tuple #[.int .i64 0, .bool false]
def numRel (w : World) (s : ByteArray) (gk : Nat) (u4 u9 : Value) (wr : World) : Prop :=
 ∃ i m : Nat, i ≤ s.size ∧ gk = s.size - i ∧ u9 = .int .i64 i ∧ u4 = .int .i64 m ∧ m < 2 ^ (5 * i) ∧ numL s.data.toList 0 = numL (s.data.toList.drop i) m ∧ wr = w
theorem number_spec (w : World) (s : ByteArray) (hs : s.size ≤ 8) :
  Calls Tryz.prog 166 #[.string s] w fun e w' => e = .returned (numVals (numL s.data.toList 0)) ∧ w = w' := by
 go_enter Tryz.func166, Tryz.ntmps166
 go_wp2_with fail
 go_loopg [4, 9] s.size (numRel w s)
 case atStart => exact ⟨0, 0, Nat.zero_le _, rfl, rfl, rfl, by decide, rfl, rfl⟩
 case round =>
  obtain ⟨i, m, hi, hg, rfl, rfl, hm, hN, rfl⟩ := hrel
  have Hg := Lib.hid hg
  by_cases hlt : i < s.size
  ·have hlt' : (i : Int) < (s.size : Int) := by omega
   rw [List.drop_eq_getElem_cons (by rw [dsize]; exact hlt), show s.data.toList[i]'(by rw [dsize]; exact hlt) = s[i] from rfl] at hN
   simp only [numL] at hN
   have hix := Tryz.strings_IndexByte signB (s[i].toNat : Int)
   rw [show ((s[i].toNat : Int).toNat.toUInt8) = s[i] from by simp, index_sign] at hix
   have Hix := Lib.hid hix
   have hm7 : m < 34359738368 := by
    have : 2 ^ (5 * i) ≤ 2 ^ (5 * 7) := Nat.pow_le_pow_right (by decide) (by omega)
    have e : (2 : Nat) ^ (5 * 7) = 34359738368 := by decide
    omega
   clear hg hix
   cases hc : numIx s[i] with
   | none =>
    rw [hc] at hN Hix
    have HN := Lib.hid hN
    clear hN hc hm
    unfold signB at Hix
    go_wp2_with fail
    refine (Hix.out wr).mono ?_
    rintro e w1 ⟨rfl, rfl⟩
    go_wp2_with fail
    go_ret2
    exact ⟨by rw [HN.out]; rfl, rfl⟩
   | some k =>
    have hk := numIx_lt hc
    rw [hc] at hN Hix
    have hor := or_join (n := m) (k := k) (by omega) hk
    have HN := Lib.hid (And.intro hN (show m * 32 + k < 2 ^ (5 * (i + 1)) from by
     rw [Nat.mul_add, Nat.pow_add]
     have : (m + 1) * 32 ≤ 2 ^ (5 * i) * 32 := Nat.mul_le_mul_right _ hm
     omega))
    clear hN hc hm
    unfold signB at Hix
    simp only at Hix
    go_wp2_with fail
    refine (Hix.out wr).mono ?_
    rintro e w1 ⟨rfl, rfl⟩
    go_wp2_with fail
    go_roundg (s.size - (i + 1))
    case measure => have := Hg.out; omega
    case rel => exact ⟨i + 1, m * 32 + k, by omega, rfl, by go_num, by first | rfl | go_num, HN.out.2, HN.out.1, rfl⟩
  ·rw [List.drop_eq_nil_of_le (by rw [dsize]; omega)] at hN
   have HN := Lib.hid hN
   clear hg hN hm
   go_wp2_with fail
   go_ret2
   exact ⟨by rw [HN.out]; rfl, rfl⟩
def parseVals (r : Option (Nat × Nat)) : Value := match r with | some (a, b) => .tuple #[.int .i64 a, .int .i64 b, .int .i64 0] | none => .tuple #[.int .i64 0, .int .i64 0, .int .i64 3]
theorem take_data (s : ByteArray) (k : Nat) : (s.extract 0 k).data.toList = s.data.toList.take k := by
 simp [ByteArray.data_extract, List.extract_eq_take_drop]
theorem drop_data (s : ByteArray) (k : Nat) : (s.extract k s.size).data.toList = s.data.toList.drop k := by
 rw [extract_end]
theorem parse_spec (w : World) (s : ByteArray) :
  Calls Tryz.prog 129 #[.string s] w fun e w' => e = .returned (parseVals (parseL s.data.toList)) ∧ w = w' := by
 have hP : parseL s.data.toList = (if s.data.toList.length ≠ 16 then none else
  match numL (s.data.toList.take 8) 0, numL (s.data.toList.drop 8) 0 with
  | some a, some b => some (a, b)
  | _, _ => none) := rfl
 rw [dsize] at hP
 by_cases h16 : s.size = 16
 ·rw [if_neg (fun h => h h16)] at hP
  have e16 : ((s.size : Int) == 16) = true := by rw [beq_iff_eq]; omega
  have e16' : (s.size : Int) = 16 := by omega
  have z1 : (s.extract 0 8).size ≤ 8 := by rw [ByteArray.size_extract]; omega
  have z2 : (s.extract 8 s.size).size ≤ 8 := by rw [ByteArray.size_extract]; omega
  have H1 := Lib.hid (number_spec w (s.extract 0 8) z1)
  have H2 := Lib.hid (number_spec w (s.extract 8 s.size) z2)
  rw [take_data] at H1
  rw [drop_data] at H2
  generalize parseL s.data.toList = R at hP
  generalize numL (s.data.toList.take 8) 0 = a at hP H1
  generalize numL (s.data.toList.drop 8) 0 = b at hP H2
  have HP := Lib.hid hP
  have hlt8 : 8 ≤ s.size := by omega
  have hlt8' : (8 : Int) ≤ (s.size : Int) := by omega
  have Hsz := Lib.hid h16
  clear hP h16 e16' z1 z2
  go_enter Tryz.func129, Tryz.ntmps129
  go_wp2_with fail
  refine H1.out.mono ?_
  rintro e w1 ⟨rfl, rfl⟩
  cases a with
  | none =>
   simp only [numVals]
   go_wp2_with fail
   refine H2.out.mono ?_
   rintro e w2 ⟨rfl, rfl⟩
   cases b with
   | none =>
    simp only [numVals]
    go_wp2_with fail
    go_ret3
    exact ⟨by rw [HP.out]; rfl, rfl⟩
   | some b =>
    simp only [numVals]
    go_wp2_with fail
    go_ret3
    exact ⟨by rw [HP.out]; rfl, rfl⟩
  | some a =>
   simp only [numVals]
   go_wp2_with fail
   refine H2.out.mono ?_
   rintro e w2 ⟨rfl, rfl⟩
   cases b with
   | none =>
    simp only [numVals]
    go_wp2_with fail
    go_ret3
    exact ⟨by rw [HP.out]; rfl, rfl⟩
   | some b =>
    simp only [numVals]
    go_wp2_with fail
    go_ret3
    exact ⟨by rw [HP.out]; rfl, rfl⟩
 ·rw [if_pos h16] at hP
  have e16 : ((s.size : Int) == 16) = false := by rw [beq_eq_false_iff_ne]; omega
  have e16' : ¬ (s.size : Int) = 16 := by omega
  have HP := Lib.hid hP
  clear hP h16
  go_enter Tryz.func129, Tryz.ntmps129
  go_wp2_with fail
  go_ret3
  exact ⟨by rw [HP.out]; rfl, rfl⟩
end Go.Proofs.YtgcfkhcogllgfaaGreatDoor
