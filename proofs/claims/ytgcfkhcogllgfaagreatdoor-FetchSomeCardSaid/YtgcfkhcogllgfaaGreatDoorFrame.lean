/-
  Sums of bytes and records (frame): More, Sum, Append, Next.
  Each contract holds in every world; old memory is left as it was.

  The record at the beginning of bytes (frame.Next).
  The contract holds in every world; old memory is left as it was.
-/
import Derived.Test.YtgcfkhcogllgfaaGreatDoorLebLaw
import Derived.Deep.RegionHeld3
import Derived.Test.YtgcfkhcogllgfaaGreatDoorRegion
import Derived.Deep.CutRange
import Derived.RegionTactic
import Derived.ChangeAlike
import Derived.Lib.EndianBits
namespace Go.Proofs.YtgcfkhcogllgfaaGreatDoor
set_option maxRecDepth 100000
set_option maxHeartbeats 1000000
set_option linter.unusedSimpArgs false
open Go Go.RowKit
theorem u32_xor_nat (a b : Nat) (ha : a < 4294967296) (hb : b < 4294967296) : bits .xor .u32 (a : Int) (b : Int) = ((a ^^^ b : Nat) : Int) := by
 have hx : a ^^^ b < 4294967296 := Nat.xor_lt_two_pow (n := 32) ha hb
 have ha' : a % 2 ^ IntKind.u32.bits = a := Nat.mod_eq_of_lt ha
 have hb' : b % 2 ^ IntKind.u32.bits = b := Nat.mod_eq_of_lt hb
 simp only [bits, BitVec.ofInt_natCast, BitVec.toNat_xor, BitVec.toNat_ofNat, ha', hb']
 rw [IntKind.wrap_u32]
 omega
theorem xor_all {a : Nat} (ha : a < 4294967296) : 4294967295 ^^^ a = 4294967295 - a := by
 have h := congrArg BitVec.toNat (BitVec.xor_allOnes (x := BitVec.ofNat 32 a))
 rw [BitVec.toNat_xor, BitVec.toNat_not, BitVec.toNat_allOnes, BitVec.toNat_ofNat, Nat.mod_eq_of_lt ha, Nat.xor_comm] at h
 exact h
theorem u32_not {a : Nat} (ha : a < 4294967296) : bits .xor .u32 IntKind.u32.max (a : Int) = ((4294967295 - a : Nat) : Int) := by
 have := u32_xor_nat 4294967295 a (by decide) ha
 rw [xor_all ha] at this
 exact this
theorem xor_low (a b : Nat) : (a ^^^ b) &&& 1 = (a + b) % 2 := by
 rw [Nat.and_one_is_mod]
 have h := @Nat.xor_mod_two_eq_one a b
 have h1 := Nat.mod_two_eq_zero_or_one (a ^^^ b)
 rcases Nat.mod_two_eq_zero_or_one a with ha | ha <;> rcases Nat.mod_two_eq_zero_or_one b with hb | hb <;> rw [ha, hb] at h <;> omega
theorem low_bit {c b : Nat} (hc : c < 4294967296) (hb : b < 256) (k : Nat) : bits .and .u32 (bits .xor .u32 (c : Int) ((b : Int) / 2 ^ k % 4294967296)) 1 = (((c + b / 2 ^ k) % 2 : Nat) : Int) := by
 have hq : b / 2 ^ k < 4294967296 := Nat.lt_of_le_of_lt (Nat.div_le_self _ _) (by omega)
 have e : ((b : Int) / 2 ^ k % 4294967296) = ((b / 2 ^ k : Nat) : Int) := by
  rw [show ((b : Int) / 2 ^ k) = ((b / 2 ^ k : Nat) : Int) from by simp]
  generalize b / 2 ^ k = q at hq
  omega
 have hx : c ^^^ (b / 2 ^ k) < 4294967296 := Nat.xor_lt_two_pow (n := 32) hc hq
 rw [e, u32_xor_nat c _ hc hq]
 have h := (bits_nat .u32 32 (by decide) (fun n h0 h1 => by rw [IntKind.wrap_u32]; omega) (c ^^^ (b / 2 ^ k)) 1 hx (by decide)).1
 rw [xor_low] at h
 exact h
def moreIn (w : World) (c0 b : Nat) (gk : Nat) (u5 u16 : Value) (wr : World) : Prop := ∃ k, k ≤ 8 ∧ gk = 8 - k ∧ u16 = .int .i64 k ∧ u5 = .int .u32 (crcK c0 b k) ∧ wr = w
def moreOut (w : World) (c0 : Nat) (s : ByteArray) (gk : Nat) (u5 u13 : Value) (wr : World) : Prop := ∃ i, i ≤ s.size ∧ gk = s.size - i ∧ u13 = .int .i64 i ∧ u5 = .int .u32 (crcL c0 (s.data.toList.take i)) ∧ wr = w
theorem more_spec (w : World) (sum : Nat) (hsum : sum < 4294967296) (s : ByteArray) (hs : s.size ≤ maxLen) :
  Calls Tryz.prog 102 #[.int .u32 sum, .string s] w fun e w' => e = .returned (.int .u32 (moreN sum s.data.toList)) ∧ w = w' := by
 unfold maxLen at hs
 have hnot := u32_not hsum
 go_enter Tryz.func102, Tryz.ntmps102
 go_wp2_with fail
 clear hnot
 go_loopg [5, 13] s.size (moreOut w (4294967295 - sum) s)
 case atStart => exact ⟨0, Nat.zero_le _, rfl, rfl, rfl, rfl⟩
 case round =>
  obtain ⟨i, hi, hg, rfl, rfl, rfl⟩ := hrel
  have Hg := Lib.hid hg
  clear hg
  have hc := crcL_lt (s.data.toList.take i) (c := 4294967295 - sum) (by omega)
  by_cases hlt : i < s.size
  ·have hlt' : (i : Int) < (s.size : Int) := by omega
   have Hcr := Lib.hid (show crcL (4294967295 - sum) (s.data.toList.take (i + 1)) = crcK (crcL (4294967295 - sum) (s.data.toList.take i)) s[i].toNat 8 from by
    rw [List.take_succ_eq_append_getElem (by rw [dsize]; exact hlt), crcL_append]
    rfl)
   generalize crcL (4294967295 - sum) (s.data.toList.take i) = c0 at hc Hcr
   generalize hb : s[i].toNat = b at Hcr
   have hbl : b < 256 := by rw [← hb]; exact UInt8.toNat_lt _
   go_wp2_with fail
   go_loopg [5, 16] 8 (moreIn wr c0 b)
   case atStart => exact ⟨0, by decide, rfl, rfl, rfl, rfl⟩
   case round =>
    obtain ⟨k, hk, hg, rfl, rfl, rfl⟩ := hrel
    have Hg2 := Lib.hid hg
    clear hg
    have hck := crcK_lt b hc k
    by_cases hk8 : k < 8
    ·have hk8' : (k : Int) < 8 := by omega
     have Hck := Lib.hid (show crcK c0 b (k + 1) = crcBit (crcK c0 b k) (b / 2 ^ k) from rfl)
     generalize crcK c0 b k = c at hck Hck
     have hlow := low_bit hck hbl k
     have hpoly := u32_xor_nat (c / 2) 2197175160 (by omega) (by decide)
     rw [show ((c / 2 : Nat) : Int) = (c : Int) / 2 from by omega, show ((2197175160 : Nat) : Int) = 2197175160 from rfl] at hpoly
     by_cases hbit : (c + b / 2 ^ k) % 2 = 1
     ·rw [hbit] at hlow
      have Hb := Lib.hid (show crcBit c (b / 2 ^ k) = (c / 2) ^^^ 2197175160 from by unfold crcBit; rw [if_pos hbit])
      clear hbit
      go_wp2_with fail
      go_roundg (8 - (k + 1))
      case measure => have := Hg2.out; omega
      case rel => exact ⟨k + 1, by omega, rfl, by go_num, by rw [Hck.out, Hb.out], rfl⟩
     ·have hb0 : (c + b / 2 ^ k) % 2 = 0 := by omega
      rw [hb0] at hlow
      have Hb := Lib.hid (show crcBit c (b / 2 ^ k) = c / 2 from by unfold crcBit; rw [if_neg hbit])
      clear hbit hb0
      go_wp2_with fail
      go_roundg (8 - (k + 1))
      case measure => have := Hg2.out; omega
      case rel => exact ⟨k + 1, by omega, rfl, by go_num, by rw [Hck.out, Hb.out]; go_num, rfl⟩
    ·obtain rfl : k = 8 := by omega
     have Hcr2 := Lib.hid Hcr.out
     go_wp2_with fail
     go_roundg (s.size - (i + 1))
     case measure => have := Hg.out; omega
     case rel => exact ⟨i + 1, by omega, rfl, by go_num, by rw [Hcr2.out], rfl⟩
  ·have he : s.data.toList.take i = s.data.toList := List.take_of_length_le (by rw [dsize]; omega)
   rw [he] at hc ⊢
   have hnot := u32_not hc
   have Hm := Lib.hid (show moreN sum s.data.toList = 4294967295 - crcL (4294967295 - sum) s.data.toList from rfl)
   clear he
   generalize crcL (4294967295 - sum) s.data.toList = c at hc hnot Hm ⊢
   go_wp2_with fail
   go_ret
   exact ⟨by rw [Hm.out]; rfl, rfl⟩
theorem sum_spec (w : World) (s : ByteArray) (hs : s.size ≤ maxLen) :
  Calls Tryz.prog 99 #[.string s] w fun e w' => e = .returned (.int .u32 (moreN 0 s.data.toList)) ∧ w = w' := by
 have Hm := Lib.hid (more_spec w 0 (by decide) s hs)
 go_enter Tryz.func99, Tryz.ntmps99
 go_wp2_with fail
 refine Hm.out.mono ?_
 rintro e w' ⟨rfl, rfl⟩
 go_wp2_with fail
 go_ret
 exact ⟨rfl, rfl⟩
theorem le4V {n : Nat} (h : n < 4294967296) : bytesV (le4 n) = [.int .u8 ((n : Int) % 256), .int .u8 ((n : Int) / 256 % 256), .int .u8 ((n : Int) / 65536 % 256), .int .u8 ((n : Int) / 16777216)] := by
 simp [bytesV, le4]
 omega
theorem frameAppend_spec (w : World) (v : Value) (l : List UInt8) (k : UInt8) (d : ByteArray) (hl : l.length + d.size ≤ 140737488350000) (h : Buf w v l) :
  Calls Tryz.prog 73 #[v, .agg #[.int .u8 k.toNat, .string d]] w (BufPost w v (l ++ frameL k d.data.toList)) := by
 go_enter Tryz.func73, Tryz.ntmps73
 go_upto_region 1 with fail
 have q0 := heap_new w (.cells #[.int .u8 k.toNat, .string d] 166)
 have k1 := (Keeps.refl [] w).alloc (.cells #[.int .u8 k.toNat, .string d] 166)
 generalize w.alloc (.cells #[.int .u8 k.toNat, .string d] 166) = w1 at q0 k1 ⊢
 have c0 := cells_at q0
 have l0 := lt_of_at q0
 have d0 : w1.cell? ⟨w.heap.size, 0, none⟩ = some (.int .u8 k.toNat) := by rw [c0]; rfl
 have d1 : w1.cell? ⟨w.heap.size, 1, none⟩ = some (.string d) := by rw [c0]; rfl
 clear c0
 have hk1 : (⟨#[k]⟩ : ByteArray).size ≤ maxLen := by show 1 ≤ maxLen; decide
 have hd1 : d.size ≤ maxLen := by unfold maxLen; omega
 have hconv : (convert 147 9 (.slice (some ⟨w1.heap.size, 0, none⟩) 1 1)).run Tryz.prog (w1.alloc (.cells #[.int .u8 k.toNat] 5)).drew = .ok (.string ⟨#[k]⟩) (w1.alloc (.cells #[.int .u8 k.toNat] 5)).drew :=
  (buf_new (w := (w1.alloc (.cells #[.int .u8 k.toNat] 5)).drew) [k] (heap_new w1 (.cells #[.int .u8 k.toNat] 5)) (by simp [maxLen])).run_string
 refine wp_region_last_n 8 (fun w' => w'.cell? ⟨w.heap.size, 0, none⟩ = some (.int .u8 k.toNat) ∧ w'.cell? ⟨w.heap.size, 1, none⟩ = some (.string d)) (by kernel_rfl) (by kernel_rfl) (by kernel_rfl) ?_
 have hS : (fun w' => w'.cell? ⟨w.heap.size, 0, none⟩ = some (.int .u8 k.toNat) ∧ w'.cell? ⟨w.heap.size, 1, none⟩ = some (.string d)) w1.drew := ⟨d0, d1⟩
 simp only [List.take_succ_cons, List.take_zero, List.toList_toArray]
 refine tk (v := ?_) 0 rfl ?_ ?_
 rotate_left
 ·rintro _ ⟨s1, s2⟩; go_simp; (try with_reducible rfl)
 simp only [Act.put, zz]
 refine tk (v := ?_) 1 rfl ?_ ?_
 rotate_left
 ·rintro _ ⟨s1, s2⟩; go_simp; (try with_reducible rfl)
 simp only [Act.put, zz]
 refine tk (v := ?_) 5 rfl ?_ ?_
 rotate_left
 ·rintro _ ⟨s1, s2⟩; go_simp; (try with_reducible rfl)
 simp only [Act.put, zz]
 refine tk (v := ?_) 6 rfl ?_ ?_
 rotate_left
 ·rintro _ ⟨s1, s2⟩; go_simp; (try with_reducible rfl)
 simp only [Act.put, zz]
 refine rd 2 rfl fun K hK => ?_
 go_simp
 refine hK.out _ _ ⟨by go_keep, by go_keep⟩ (fun hS => ?_)
 clear hK K
 try simp only [Act.put, zz]
 refine rd 3 rfl fun K hK => ?_
 go_simp
 refine hK.out _ _ ⟨by go_keep, by go_keep⟩ (fun hS => ?_)
 clear hK K
 try simp only [Act.put, zz]
 refine rd 4 rfl fun K hK => ?_
 (go_simp; go_at_call 99; refine (sum_spec _ ⟨#[k]⟩ hk1).mono ?_; rintro e w5 ⟨rfl, rfl⟩)
 refine hK.out _ _ ⟨by go_keep, by go_keep⟩ (fun hS => ?_)
 clear hK K
 try simp only [Act.put, zz]
 refine rd 7 rfl fun K hK => ?_
 (go_simp; go_at_call 102; refine (more_spec _ (moreN 0 [k]) (moreN_lt _ _) d hd1).mono ?_; rintro e w5 ⟨rfl, rfl⟩)
 refine hK.out _ _ ⟨by go_keep, by go_keep⟩ (fun hS => ?_)
 clear hK K
 try simp only [Act.put, zz]
 refine wpAnyH_done (by kernel_rfl) ?_ _
 refine lastQ_step rfl (fun K hK => ?_)
 go_simp
 refine hK _ _ ?_
 clear hK K hS
 rw [moreN_more, List.singleton_append]
 have hk2 : Keeps [] w (w1.alloc (.cells #[.int .u8 k.toNat] 5)).drew := (k1.alloc _).drew
 have q2 : (w1.alloc (.cells #[.int .u8 k.toNat] 5)).drew.heap[w.heap.size]? = _ := heap_old q0 _
 have hmk : ∀ g, v.ownBlock = some g → g ≠ w.heap.size := fun g hg => Nat.ne_of_lt (h.lt g hg)
 have Hb2 := Lib.hid (And.intro (h.same hk2) hmk)
 clear d0 d1 hconv l0 q0 k1 h hmk
 generalize (w1.alloc (.cells #[.int .u8 k.toNat] 5)).drew = w2 at hk2 q2 Hb2 ⊢
 generalize hsum : moreN 0 (k :: d.data.toList) = sm
 have Hsum := Lib.hid hsum
 have hsl : sm < 4294967296 := by rw [← hsum]; exact moreN_lt _ _
 clear hsum
 have c2 := cells_at q2
 have l2 := lt_of_at q2
 have hcv : IntKind.u64.wrap (d.size : Int) = (d.size : Int) := IntWalk.u64_in _ (by omega)
 go_wp2_with (at_builtin; refine buf_append rfl (.tmp 14) (.tmp 17) rfl v l rfl (Hb2.out.1.same ((Keeps.refl [] w2).alloc _)) ⟨w2.heap.size, 0, none⟩ 1 1 [k] rfl rfl (cells_new (heap_new w2 _)) (by omega) ?_; intro v3 w3 hb3 ht3; have q3 := ht3.box (heap_old q2 (.cells #[.int .u8 k.toNat] 5)) Hb2.out.2; have c3 := cells_at q3.1)
 have Hb3 := Lib.hid (And.intro hb3 (And.intro (Turns.since ((Keeps.refl [] w2).alloc _) ht3) q3))
 have Hml := Lib.hid (show (l ++ [k]).length = l.length + 1 from by simp)
 clear hb3 ht3 c2 l2 q2 q3 c3
 have Hlen := lebL_len10 (v := d.size) (by omega)
 refine (uint_spec w3 v3 (l ++ [k]) d.size (by omega) (by rw [Hml.out]; omega) Hb3.out.1).mono ?_
 rintro e w4 ⟨v4, rfl, hb4, ht4⟩
 have q4 := ht4.box Hb3.out.2.2.1 Hb3.out.2.2.2
 have Hb4 := Lib.hid (And.intro hb4 (And.intro (Hb3.out.2.1.trans ht4) q4))
 have Hml4 := Lib.hid (show (l ++ [k] ++ lebL d.size).length = l.length + 1 + (lebL d.size).length from by simp; omega)
 have He4 := Lib.hid (le4V hsl)
 clear hb4 ht4 q4
 go_upto_region 5 with (at_builtin; refine buf_append rfl (.tmp 25) (.tmp 37) rfl v4 (l ++ [k] ++ lebL d.size) rfl (Hb4.out.1.same ((Keeps.refl [] w4).alloc _)) ⟨w4.heap.size, 0, none⟩ 4 4 (le4 sm) rfl rfl (by rw [He4.out]; exact cells_new (heap_new w4 _)) (by rw [Hml4.out]; omega) ?_; intro v5 w5 hb5 ht5; have q5 := ht5.box (heap_old Hb4.out.2.2.1 (.cells #[.int .u8 ((sm : Int) % 256), .int .u8 ((sm : Int) / 256 % 256), .int .u8 ((sm : Int) / 65536 % 256), .int .u8 ((sm : Int) / 16777216)] 5)) Hb4.out.2.2.2; have c5 := cells_at q5.1)
 have Hb5 := Lib.hid (And.intro hb5 (Hb4.out.2.1.trans (Turns.since ((Keeps.refl [] w4).alloc _) ht5)))
 have Hml5 := Lib.hid (show (l ++ [k] ++ lebL d.size ++ le4 sm).length = l.length + 1 + (lebL d.size).length + 4 from by simp [le4]; omega)
 clear hb5 ht5
 go_wp2_with (at_builtin; refine buf_append_str rfl (.tmp 39) (.tmp 41) rfl v5 (l ++ [k] ++ lebL d.size ++ le4 sm) rfl Hb5.out.1 d rfl (by rw [Hml5.out]; omega) ?_; intro v6 w6 hb6 ht6)
 go_ret
 refine ⟨_, rfl, ?_, Turns.since hk2 (Hb5.out.2.trans ht6)⟩
 have e : l ++ frameL k d.data.toList = l ++ [k] ++ lebL d.size ++ le4 sm ++ d.data.toList := by
  unfold frameL; rw [Hsum.out, dsize]; simp
 rw [e]
 exact hb6
def nextVals (r : UInt8 × List UInt8 × List UInt8 × Int) : Value := .tuple #[.agg #[.int .u8 r.1.toNat, .string ⟨r.2.1.toArray⟩], .string ⟨r.2.2.1.toArray⟩, .int .i64 r.2.2.2]
def NextPost (w : World) (r : UInt8 × List UInt8 × List UInt8 × Int) (e : Ending) (w' : World) : Prop := e = .returned (nextVals r) ∧ Keeps [] w w'
theorem next_spec (w : World) (s : ByteArray) (hs : s.size ≤ 140737488355000) :
  Calls Tryz.prog 114 #[.string s] w (NextPost w (nextF s.data.toList)) := by
 have Hb := Lib.hid (fun w => takeByte_spec w s (by unfold maxLen; omega))
 have hd := dsize s
 have q1 := heap_new w (.cells #[.int .u8 0, .string ⟨#[]⟩] 166)
 have k1 := (Keeps.refl [] w).alloc (.cells #[.int .u8 0, .string ⟨#[]⟩] 166)
 cases hl : s.data.toList with
 | nil =>
  rw [hl] at Hb
  have Hr := Lib.hid (show nextF [] = (0, [], [], 2) from rfl)
  clear hl hd
  go_enter Tryz.func114, Tryz.ntmps114
  go_wp2_with fail
  generalize w.alloc (.cells #[.int .u8 0, .string ⟨#[]⟩] 166) = w1 at q1 k1 ⊢
  refine (Hb.out w1).mono ?_
  rintro e w2 ⟨rfl, nq, rfl⟩
  simp only [byteVals]
  have k2 := k1.drewN nq
  have q2 : (w1.drewN nq).heap[w.heap.size]? = _ := q1
  clear k1 q1
  generalize w1.drewN nq = w2 at k2 q2 ⊢
  have t := heap_cell_same (i := 1) (heap_cell_same (i := 0) q2 (.int .u8 0)) (.string ⟨#[]⟩)
  have kq : Keeps [] w ((w2.setCell ⟨w.heap.size, 0, none⟩ (.int .u8 0)).setCell ⟨w.heap.size, 1, none⟩ (.string ⟨#[]⟩)) := (k2.setCell (.inr (Nat.le_refl _)) _).setCell (.inr (Nat.le_refl _)) _
  have Hfin := Lib.hid (And.intro t kq)
  have c2 := cells_at q2
  have f2 := free_at q2
  have l2 := lt_of_at q2
  clear t kq k2 q2
  go_wp2_with fail
  have hc := cells_at Hfin.out.1
  refine bodyPost_ret (v := .tuple #[.agg #[.int .u8 0, .string ⟨#[]⟩], .string ⟨#[]⟩, .int .i64 2]) ?_ rfl ⟨by rw [Hr.out]; rfl, Hfin.out.2⟩
  simp [results, Tryz.results114, go_sem, hc, l2]
 | cons k r =>
  rw [hl] at Hb hd
  simp only [List.length_cons] at hd
  obtain ⟨rs, hrs⟩ : ∃ rs : ByteArray, rs = ⟨r.toArray⟩ := ⟨_, rfl⟩
  have hrd : rs.data.toList = r := by rw [hrs]
  have hrl : rs.size = r.length := by rw [hrs]; rfl
  have Hm := Lib.hid (fun w => takeMost_spec w rs (by unfold maxLen; omega) 1048576 (by decide))
  rw [hrd] at Hm
  have hbd := takeM_bounds r (most := 1048576) (by decide)
  have herr := @takeM_err r 1048576
  have hN : nextF (k :: r) = (if (takeM r 1048576).2.2 ≠ 0 then (0, [], [], (takeM r 1048576).2.2)
   else if ((takeM r 1048576).2.1.length : Int) < 4 + (takeM r 1048576).1 then (0, [], [], 2)
   else if moreN 0 (k :: ((takeM r 1048576).2.1.drop 4).take (takeM r 1048576).1.toNat) ≠ un4 (takeM r 1048576).2.1 then (0, [], [], 4)
   else (k, ((takeM r 1048576).2.1.drop 4).take (takeM r 1048576).1.toNat, (takeM r 1048576).2.1.drop (4 + (takeM r 1048576).1.toNat), 0)) := rfl
  generalize nextF (k :: r) = R at hN
  generalize takeM r 1048576 = m at Hm hbd herr hN
  obtain ⟨n, rest, er⟩ := m
  simp only at hbd hN herr
  have Hrs := Lib.hid hrs
  have Hsl := Lib.hid (And.intro hl hd)
  clear hl hd hrs hrd
  by_cases he : er = 0
  ·subst he
   rw [if_neg (fun h => h rfl)] at hN
   obtain ⟨ts, hts⟩ : ∃ ts : ByteArray, ts = ⟨rest.toArray⟩ := ⟨_, rfl⟩
   have htl : ts.size = rest.length := by rw [hts]; rfl
   have Hts := Lib.hid (And.intro hts (show ts.data.toList = rest from by rw [hts]))
   obtain ⟨j, rfl⟩ : ∃ j : Nat, n = j := ⟨n.toNat, by omega⟩
   clear hts herr
   by_cases hsh : (rest.length : Int) < 4 + (j : Int)
   ·rw [if_pos hsh] at hN
    have Hr := Lib.hid hN
    have hsh' : (ts.size : Int) < 4 + (j : Int) := by omega
    clear hN hsh htl
    go_enter Tryz.func114, Tryz.ntmps114
    go_wp2_with fail
    generalize w.alloc (.cells #[.int .u8 0, .string ⟨#[]⟩] 166) = w1 at q1 k1 ⊢
    refine (Hb.out w1).mono ?_
    rintro e w2 ⟨rfl, nq, rfl⟩
    simp only [byteVals]
    rw [← Hrs.out]
    go_wp2_with fail
    refine (Hm.out _).mono ?_
    rintro e w2 ⟨rfl, nq2, rfl⟩
    simp only [takeMVals]
    rw [← Hts.out.1]
    have k2 := (k1.drewN nq).drewN nq2
    have q2 : ((w1.drewN nq).drewN nq2).heap[w.heap.size]? = _ := q1
    clear k1 q1
    generalize (w1.drewN nq).drewN nq2 = w2 at k2 q2 ⊢
    have t := heap_cell_same (i := 1) (heap_cell_same (i := 0) q2 (.int .u8 0)) (.string ⟨#[]⟩)
    have kq : Keeps [] w ((w2.setCell ⟨w.heap.size, 0, none⟩ (.int .u8 0)).setCell ⟨w.heap.size, 1, none⟩ (.string ⟨#[]⟩)) := (k2.setCell (.inr (Nat.le_refl _)) _).setCell (.inr (Nat.le_refl _)) _
    have Hfin := Lib.hid (And.intro t kq)
    have c2 := cells_at q2
    have f2 := free_at q2
    have l2 := lt_of_at q2
    clear t kq k2 q2
    go_wp2_with fail
    have hc := cells_at Hfin.out.1
    refine bodyPost_ret (v := .tuple #[.agg #[.int .u8 0, .string ⟨#[]⟩], .string ⟨#[]⟩, .int .i64 2]) ?_ rfl ⟨by rw [Hr.out]; rfl, Hfin.out.2⟩
    simp [results, Tryz.results114, go_sem, hc, l2]
   ·rw [if_neg hsh] at hN
    have b0 : 4 + j ≤ ts.size := by omega
    have b1 : (4 : Int) + (j : Int) ≤ (ts.size : Int) := by omega
    have b2 : (0 : Int) < (ts.size : Int) := by omega
    have b3 : (1 : Int) < (ts.size : Int) := by omega
    have b4 : (2 : Int) < (ts.size : Int) := by omega
    have b5 : (3 : Int) < (ts.size : Int) := by omega
    have b6 : 3 < ts.size := by omega
    have b7 : 0 < ts.size := by omega
    have b8 : 1 < ts.size := by omega
    have b9 : 2 < ts.size := by omega
    have g0 := UInt8.toNat_lt ts[0]
    have g1 := UInt8.toNat_lt ts[1]
    have g2 := UInt8.toNat_lt ts[2]
    have g3 := UInt8.toNat_lt ts[3]
    have hsh' : ¬ (ts.size : Int) < 4 + (j : Int) := by omega
    have HN := Lib.hid hN
    have Htl := Lib.hid htl
    clear hN hsh htl
    go_enter Tryz.func114, Tryz.ntmps114
    go_wp2_with fail
    generalize w.alloc (.cells #[.int .u8 0, .string ⟨#[]⟩] 166) = w1 at q1 k1 ⊢
    refine (Hb.out w1).mono ?_
    rintro e w2 ⟨rfl, nq, rfl⟩
    simp only [byteVals]
    rw [← Hrs.out]
    go_wp2_with fail
    refine (Hm.out _).mono ?_
    rintro e w2 ⟨rfl, nq2, rfl⟩
    simp only [takeMVals]
    rw [← Hts.out.1]
    have k2 := (k1.drewN nq).drewN nq2
    have q2 : ((w1.drewN nq).drewN nq2).heap[w.heap.size]? = _ := q1
    clear k1 q1
    generalize (w1.drewN nq).drewN nq2 = w2 at k2 q2 ⊢
    go_upto_region 9 with fail
    have r1 : bits .or .u32 (ts[0].toNat : Int) ((ts[1].toNat : Int) * (256 : Int)) = (ts[0].toNat : Int) + (ts[1].toNat : Int) * (256 : Int) := u32_or8 _ _ (by omega) (by omega) (by omega) (by omega) (by omega)
    have r2 : bits .or .u32 ((ts[0].toNat : Int) + (ts[1].toNat : Int) * (256 : Int)) ((ts[2].toNat : Int) * (65536 : Int)) = (ts[0].toNat : Int) + (ts[1].toNat : Int) * (256 : Int) + (ts[2].toNat : Int) * (65536 : Int) := u32_or16 _ _ (by omega) (by omega) (by omega) (by omega) (by omega)
    have r3 : bits .or .u32 ((ts[0].toNat : Int) + (ts[1].toNat : Int) * (256 : Int) + (ts[2].toNat : Int) * (65536 : Int)) ((ts[3].toNat : Int) * (16777216 : Int)) = (ts[0].toNat : Int) + (ts[1].toNat : Int) * (256 : Int) + (ts[2].toNat : Int) * (65536 : Int) + (ts[3].toNat : Int) * (16777216 : Int) := u32_or24 _ _ (by omega) (by omega) (by omega) (by omega) (by omega)
    have hget : ∀ i (h : i < ts.size), rest.getD i 0 = ts[i] := fun i h => by
     have e : rest[i]? = some ts[i] := by
      rw [← Hts.out.2, List.getElem?_eq_getElem (by rw [dsize]; exact h)]
      rfl
     rw [List.getD_eq_getElem?_getD, e]
     rfl
    have hX : (ts[0].toNat : Int) + (ts[1].toNat : Int) * (256 : Int) + (ts[2].toNat : Int) * (65536 : Int) + (ts[3].toNat : Int) * (16777216 : Int) = ((un4 rest : Nat) : Int) := by
     unfold un4
     rw [hget 0 b7, hget 1 b8, hget 2 b9, hget 3 b6]
     omega
    have hX0 : un4 rest < 4294967296 := by omega
    generalize un4 rest = X at hX hX0 HN
    rw [hX] at r3
    clear hget hX
    go_quiet (fail)
    clear r1 r2 r3 g0 g1 g2 g3
    have k3 := k2.drewN nq
    have q3 : (w2.drewN nq).heap[w.heap.size]? = _ := q2
    clear k2 q2
    generalize w2.drewN nq = w3 at k3 q3 ⊢
    have hs1 : 1 ≤ s.size := by have := Hsl.out.2; omega
    have hs2 : (1 : Int) ≤ (s.size : Int) := by omega
    have e1 : (s.extract 0 1).data.toList = [k] := by
     simp only [ByteArray.data_extract, Array.toList_extract, List.extract_eq_take_drop, Hsl.out.1]
     rfl
    have e2 : (ts.extract 4 (4 + j)).data.toList = (rest.drop 4).take j := by
     simp only [ByteArray.data_extract, Array.toList_extract, List.extract_eq_take_drop, Hts.out.2]
     congr 1
     omega
    have Hdd := Lib.hid (show ts.extract 4 (4 + j) = ⟨((rest.drop 4).take j).toArray⟩ from by rw [← e2])
    have Hrr := Lib.hid (show ts.extract (4 + j) ts.size = ⟨(rest.drop (4 + j)).toArray⟩ from by rw [extract_end, Hts.out.2])
    have hds : (ts.extract 4 (4 + j)).size ≤ maxLen := by rw [ByteArray.size_extract]; unfold maxLen; omega
    have Hsum := Lib.hid (sum_spec w3 (s.extract 0 1) (by rw [ByteArray.size_extract]; unfold maxLen; omega))
    have Hmore := Lib.hid (more_spec w3 (moreN 0 [k]) (moreN_lt _ _) (ts.extract 4 (4 + j)) hds)
    rw [e1] at Hsum
    rw [e2, moreN_more, List.singleton_append] at Hmore
    have hSl := moreN_lt 0 (k :: (rest.drop 4).take j)
    have HN2 := Lib.hid HN.out
    clear HN
    have HN := HN2.out
    simp only [Int.toNat_natCast] at HN
    generalize moreN 0 (k :: (rest.drop 4).take j) = S at Hmore HN hSl
    generalize moreN 0 [k] = S1 at Hsum Hmore
    have HN3 := Lib.hid HN
    clear e1 e2 hds HN HN2
    go_wp2_with fail
    refine Hsum.out.mono ?_
    rintro e w4 ⟨rfl, rfl⟩
    go_wp2_with fail
    refine Hmore.out.mono ?_
    rintro e w4 ⟨rfl, rfl⟩
    by_cases hSX : S = X
    ·have hne : ((S : Int) != (X : Int)) = false := by simp [hSX]
     have Hr := Lib.hid HN3.out
     rw [if_neg (fun h => h hSX)] at Hr
     have b8 : (0 : Int) ≤ 4 + (j : Int) := by omega
     have b9 : ((4 : Int) + (j : Int)).toNat = 4 + j := by omega
     subst hSX
     clear hne
     have t := heap_cell_same (i := 1) (heap_cell_same (i := 0) q3 (.int .u8 k.toNat)) (.string (ts.extract 4 (4 + j)))
     have kq : Keeps [] w ((w3.setCell ⟨w.heap.size, 0, none⟩ (.int .u8 k.toNat)).setCell ⟨w.heap.size, 1, none⟩ (.string (ts.extract 4 (4 + j)))) := (k3.setCell (.inr (Nat.le_refl _)) _).setCell (.inr (Nat.le_refl _)) _
     have Hfin := Lib.hid (And.intro t kq)
     have c2 := cells_at q3
     have f2 := free_at q3
     have l2 := lt_of_at q3
     clear t kq k3 q3
     go_wp2_with fail
     go_region
     go_wp2_with fail
     have hc := cells_at Hfin.out.1
     refine bodyPost_ret (v := .tuple #[.agg #[.int .u8 k.toNat, .string (ts.extract 4 (4 + j))], .string (ts.extract (4 + j) ts.size), .int .i64 0]) ?_ rfl ⟨by rw [Hr.out, Hdd.out, Hrr.out]; rfl, Hfin.out.2.drew⟩
     simp [results, Tryz.results114, go_sem, hc, l2]
    ·have hne : ((S : Int) != (X : Int)) = true := by simp; omega
     have hne2 : ((S : Int) == (X : Int)) = false := by simp; omega
     have hne3 : ¬ (S : Int) = (X : Int) := by omega
     have Hr := Lib.hid HN3.out
     rw [if_pos hSX] at Hr
     have k2 := k3
     have q2 := q3
     clear hSX q3 k3
     have t := heap_cell_same (i := 1) (heap_cell_same (i := 0) q2 (.int .u8 0)) (.string ⟨#[]⟩)
     have kq : Keeps [] w ((w3.setCell ⟨w.heap.size, 0, none⟩ (.int .u8 0)).setCell ⟨w.heap.size, 1, none⟩ (.string ⟨#[]⟩)) := (k2.setCell (.inr (Nat.le_refl _)) _).setCell (.inr (Nat.le_refl _)) _
     have Hfin := Lib.hid (And.intro t kq)
     have c2 := cells_at q2
     have f2 := free_at q2
     have l2 := lt_of_at q2
     clear t kq k2 q2
     go_wp2_with fail
     have hc := cells_at Hfin.out.1
     refine bodyPost_ret (v := .tuple #[.agg #[.int .u8 0, .string ⟨#[]⟩], .string ⟨#[]⟩, .int .i64 4]) ?_ rfl ⟨by rw [Hr.out]; rfl, Hfin.out.2⟩
     simp [results, Tryz.results114, go_sem, hc, l2]
  ·rw [if_pos he] at hN
   have he' : (er == 0) = false := by simp [he]
   have Hr := Lib.hid hN
   obtain ⟨rfl, rfl⟩ := herr he
   clear hN herr
   go_enter Tryz.func114, Tryz.ntmps114
   go_wp2_with fail
   generalize w.alloc (.cells #[.int .u8 0, .string ⟨#[]⟩] 166) = w1 at q1 k1 ⊢
   refine (Hb.out w1).mono ?_
   rintro e w2 ⟨rfl, nq, rfl⟩
   simp only [byteVals]
   rw [← Hrs.out]
   go_wp2_with fail
   refine (Hm.out _).mono ?_
   rintro e w2 ⟨rfl, nq2, rfl⟩
   simp only [takeMVals]
   have k2 := (k1.drewN nq).drewN nq2
   have q2 : ((w1.drewN nq).drewN nq2).heap[w.heap.size]? = _ := q1
   clear k1 q1
   generalize (w1.drewN nq).drewN nq2 = w2 at k2 q2 ⊢
   have t := heap_cell_same (i := 1) (heap_cell_same (i := 0) q2 (.int .u8 0)) (.string ⟨#[]⟩)
   have kq : Keeps [] w ((w2.setCell ⟨w.heap.size, 0, none⟩ (.int .u8 0)).setCell ⟨w.heap.size, 1, none⟩ (.string ⟨#[]⟩)) := (k2.setCell (.inr (Nat.le_refl _)) _).setCell (.inr (Nat.le_refl _)) _
   have Hfin := Lib.hid (And.intro t kq)
   have c2 := cells_at q2
   have f2 := free_at q2
   have l2 := lt_of_at q2
   clear t kq k2 q2
   go_wp2_with fail
   have hc := cells_at Hfin.out.1
   refine bodyPost_ret (v := .tuple #[.agg #[.int .u8 0, .string ⟨#[]⟩], .string ⟨#[]⟩, .int .i64 er]) ?_ rfl ⟨by rw [Hr.out]; rfl, Hfin.out.2⟩
   simp [results, Tryz.results114, go_sem, hc, l2]
end Go.Proofs.YtgcfkhcogllgfaaGreatDoor
