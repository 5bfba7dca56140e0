/-
  Sums of bytes and records (frame): More, Sum, Append, Next.
  Each contract holds in every world; old memory is left as it was.
-/
import Derived.Test.YthlmlneiehijkaaLebT
import Derived.Test.YthlmlneiehijkaaLebLaw
import Derived.Deep.RegionHeld3
import Derived.Test.YthlmlneiehijkaaRegion
import Derived.Deep.CutRange
namespace Go.Proofs.Ythlmlneiehijkaa
open Go Go.RowKit

theorem u32_xor_nat (a b : Nat) (ha : a < 4294967296) (hb : b < 4294967296) : bits .xor .u32 (a : Int) (b : Int) = ((a ^^^ b : Nat) : Int) := by
  have hx : a ^^^ b < 4294967296 := Nat.xor_lt_two_pow (n := 32) ha hb
  have ha' : a % 2 ^ IntKind.u32.bits = a := Nat.mod_eq_of_lt ha
  have hb' : b % 2 ^ IntKind.u32.bits = b := Nat.mod_eq_of_lt hb
  simp only [bits, BitVec.ofInt_natCast, BitVec.toNat_xor, BitVec.toNat_ofNat, ha', hb']
  rw [IntKind.wrap_u32]
  omega

theorem xor_all {a : Nat} (ha : a < 4294967296) : 4294967295 ^^^ a = 4294967295 - a := by
  have h := congrArg BitVec.toNat (BitVec.xor_allOnes (x := BitVec.ofNat 32 a))
  rw [BitVec.toNat_xor, BitVec.toNat_not, BitVec.toNat_allOnes, BitVec.toNat_ofNat, Nat.mod_eq_of_lt ha, Nat.xor_comm] at h
  exact h

theorem u32_not {a : Nat} (ha : a < 4294967296) : bits .xor .u32 IntKind.u32.max (a : Int) = ((4294967295 - a : Nat) : Int) := by
  have := u32_xor_nat 4294967295 a (by decide) ha
  rw [xor_all ha] at this
  exact this


theorem xor_low (a b : Nat) : (a ^^^ b) &&& 1 = (a + b) % 2 := by
  rw [Nat.and_one_is_mod]
  have h := @Nat.xor_mod_two_eq_one a b
  have h1 := Nat.mod_two_eq_zero_or_one (a ^^^ b)
  rcases Nat.mod_two_eq_zero_or_one a with ha | ha <;> rcases Nat.mod_two_eq_zero_or_one b with hb | hb <;> rw [ha, hb] at h <;> omega

theorem low_bit {c b : Nat} (hc : c < 4294967296) (hb : b < 256) (k : Nat) : bits .and .u32 (bits .xor .u32 (c : Int) ((b : Int) / 2 ^ k % 4294967296)) 1 = (((c + b / 2 ^ k) % 2 : Nat) : Int) := by
  have hq : b / 2 ^ k < 4294967296 := Nat.lt_of_le_of_lt (Nat.div_le_self _ _) (by omega)
  have e : ((b : Int) / 2 ^ k % 4294967296) = ((b / 2 ^ k : Nat) : Int) := by
    rw [show ((b : Int) / 2 ^ k) = ((b / 2 ^ k : Nat) : Int) from by simp]
    generalize b / 2 ^ k = q at hq
    omega
  have hx : c ^^^ (b / 2 ^ k) < 4294967296 := Nat.xor_lt_two_pow (n := 32) hc hq
  rw [e, u32_xor_nat c _ hc hq]
  have h := (bits_nat .u32 32 (by decide) (fun n h0 h1 => by rw [IntKind.wrap_u32]; omega) (c ^^^ (b / 2 ^ k)) 1 hx (by decide)).1
  rw [xor_low] at h
  exact h

def moreIn (w : World) (c0 b : Nat) (gk : Nat) (u5 u16 : Value) (wr : World) : Prop := ∃ k, k ≤ 8 ∧ gk = 8 - k ∧ u16 = .int .i64 k ∧ u5 = .int .u32 (crcK c0 b k) ∧ wr = w

def moreOut (w : World) (c0 : Nat) (s : ByteArray) (gk : Nat) (u5 u13 : Value) (wr : World) : Prop := ∃ i, i ≤ s.size ∧ gk = s.size - i ∧ u13 = .int .i64 i ∧ u5 = .int .u32 (crcL c0 (s.data.toList.take i)) ∧ wr = w


set_option maxRecDepth 100000 in
set_option maxHeartbeats 1000000 in
theorem more_spec (w : World) (sum : Nat) (hsum : sum < 4294967296) (s : ByteArray) (hs : s.size ≤ maxLen) :
    Calls Try.prog 54 #[.int .u32 sum, .string s] w fun e w' => e = .returned (.int .u32 (moreN sum s.data.toList)) ∧ w = w' := by
  unfold maxLen at hs
  have hnot := u32_not hsum
  go_enter Try.func54, Try.ntmps54
  go_wp2_with fail
  clear hnot
  go_loopg [5, 13] s.size (moreOut w (4294967295 - sum) s)
  case atStart => exact ⟨0, Nat.zero_le _, rfl, rfl, rfl, rfl⟩
  case round =>
    obtain ⟨i, hi, hg, rfl, rfl, rfl⟩ := hrel
    have Hg := Lib.hid hg
    clear hg
    have hc := crcL_lt (s.data.toList.take i) (c := 4294967295 - sum) (by omega)
    by_cases hlt : i < s.size
    · have hlt' : (i : Int) < (s.size : Int) := by omega
      have Hcr := Lib.hid (show crcL (4294967295 - sum) (s.data.toList.take (i + 1)) = crcK (crcL (4294967295 - sum) (s.data.toList.take i)) s[i].toNat 8 from by
        rw [List.take_succ_eq_append_getElem (by rw [dsize]; exact hlt), crcL_append]
        rfl)
      generalize crcL (4294967295 - sum) (s.data.toList.take i) = c0 at hc Hcr
      generalize hb : s[i].toNat = b at Hcr
      have hbl : b < 256 := by rw [← hb]; exact UInt8.toNat_lt _
      go_wp2_with fail
      go_loopg [5, 16] 8 (moreIn wr c0 b)
      case atStart => exact ⟨0, by decide, rfl, rfl, rfl, rfl⟩
      case round =>
        obtain ⟨k, hk, hg, rfl, rfl, rfl⟩ := hrel
        have Hg2 := Lib.hid hg
        clear hg
        have hck := crcK_lt b hc k
        by_cases hk8 : k < 8
        · have hk8' : (k : Int) < 8 := by omega
          have Hck := Lib.hid (show crcK c0 b (k + 1) = crcBit (crcK c0 b k) (b / 2 ^ k) from rfl)
          generalize crcK c0 b k = c at hck Hck
          have hlow := low_bit hck hbl k
          have hpoly := u32_xor_nat (c / 2) 2197175160 (by omega) (by decide)
          rw [show ((c / 2 : Nat) : Int) = (c : Int) / 2 from by omega, show ((2197175160 : Nat) : Int) = 2197175160 from rfl] at hpoly
          by_cases hbit : (c + b / 2 ^ k) % 2 = 1
          · rw [hbit] at hlow
            have Hb := Lib.hid (show crcBit c (b / 2 ^ k) = (c / 2) ^^^ 2197175160 from by unfold crcBit; rw [if_pos hbit])
            clear hbit
            go_wp2_with fail
            go_roundg (8 - (k + 1))
            case measure => have := Hg2.out; omega
            case rel => exact ⟨k + 1, by omega, rfl, by go_num, by rw [Hck.out, Hb.out], rfl⟩
          · have hb0 : (c + b / 2 ^ k) % 2 = 0 := by omega
            rw [hb0] at hlow
            have Hb := Lib.hid (show crcBit c (b / 2 ^ k) = c / 2 from by unfold crcBit; rw [if_neg hbit])
            clear hbit hb0
            go_wp2_with fail
            go_roundg (8 - (k + 1))
            case measure => have := Hg2.out; omega
            case rel => exact ⟨k + 1, by omega, rfl, by go_num, by rw [Hck.out, Hb.out]; go_num, rfl⟩
        · obtain rfl : k = 8 := by omega
          have Hcr2 := Lib.hid Hcr.out
          go_wp2_with fail
          go_roundg (s.size - (i + 1))
          case measure => have := Hg.out; omega
          case rel => exact ⟨i + 1, by omega, rfl, by go_num, by rw [Hcr2.out], rfl⟩
    · have he : s.data.toList.take i = s.data.toList := List.take_of_length_le (by rw [dsize]; omega)
      rw [he] at hc ⊢
      have hnot := u32_not hc
      have Hm := Lib.hid (show moreN sum s.data.toList = 4294967295 - crcL (4294967295 - sum) s.data.toList from rfl)
      clear he
      generalize crcL (4294967295 - sum) s.data.toList = c at hc hnot Hm ⊢
      go_wp2_with fail
      go_ret
      exact ⟨by rw [Hm.out]; rfl, rfl⟩


set_option maxRecDepth 100000 in
set_option maxHeartbeats 1000000 in
theorem sum_spec (w : World) (s : ByteArray) (hs : s.size ≤ maxLen) :
    Calls Try.prog 55 #[.string s] w fun e w' => e = .returned (.int .u32 (moreN 0 s.data.toList)) ∧ w = w' := by
  have Hm := Lib.hid (more_spec w 0 (by decide) s hs)
  go_enter Try.func55, Try.ntmps55
  go_wp2_with fail
  refine Hm.out.mono ?_
  rintro e w' ⟨rfl, rfl⟩
  go_wp2_with fail
  go_ret
  exact ⟨rfl, rfl⟩


theorem le4V {n : Nat} (h : n < 4294967296) : bytesV (le4 n) = [.int .u8 ((n : Int) % 256), .int .u8 ((n : Int) / 256 % 256), .int .u8 ((n : Int) / 65536 % 256), .int .u8 ((n : Int) / 16777216)] := by
  simp [bytesV, le4]
  omega


set_option linter.unusedSimpArgs false in
set_option maxRecDepth 100000 in
set_option maxHeartbeats 1000000 in
theorem frameAppend_spec (w : World) (v : Value) (l : List UInt8) (k : UInt8) (d : ByteArray) (hl : l.length + d.size ≤ 140737488350000) (h : Buf w v l) :
    Calls Try.prog 36 #[v, .agg #[.int .u8 k.toNat, .string d]] w (BufPost w v (l ++ frameL k d.data.toList)) := by
  go_enter Try.func36, Try.ntmps36
  go_upto_region 1 with fail
  have q0 := heap_new w (.cells #[.int .u8 k.toNat, .string d] 76)
  have k1 := (Keeps.refl [] w).alloc (.cells #[.int .u8 k.toNat, .string d] 76)
  generalize w.alloc (.cells #[.int .u8 k.toNat, .string d] 76) = w1 at q0 k1 ⊢
  have c0 := cells_at q0
  have l0 := lt_of_at q0
  have d0 : w1.cell? ⟨w.heap.size, 0, none⟩ = some (.int .u8 k.toNat) := by rw [c0]; rfl
  have d1 : w1.cell? ⟨w.heap.size, 1, none⟩ = some (.string d) := by rw [c0]; rfl
  clear c0
  have hk1 : (⟨#[k]⟩ : ByteArray).size ≤ maxLen := by show 1 ≤ maxLen; decide
  have hd1 : d.size ≤ maxLen := by unfold maxLen; omega
  have hconv : (convert 79 9 (.slice (some ⟨w1.heap.size, 0, none⟩) 1 1)).run Try.prog (w1.alloc (.cells #[.int .u8 k.toNat] 5)).drew = .ok (.string ⟨#[k]⟩) (w1.alloc (.cells #[.int .u8 k.toNat] 5)).drew :=
    (buf_new (w := (w1.alloc (.cells #[.int .u8 k.toNat] 5)).drew) [k] (heap_new w1 (.cells #[.int .u8 k.toNat] 5)) (by simp [maxLen])).run_string
  refine wp_region_last_n 8 (fun w' => w'.cell? ⟨w.heap.size, 0, none⟩ = some (.int .u8 k.toNat) ∧ w'.cell? ⟨w.heap.size, 1, none⟩ = some (.string d)) (by kernel_rfl) (by kernel_rfl) (by kernel_rfl) ?_
  have hS : (fun w' => w'.cell? ⟨w.heap.size, 0, none⟩ = some (.int .u8 k.toNat) ∧ w'.cell? ⟨w.heap.size, 1, none⟩ = some (.string d)) w1.drew := ⟨d0, d1⟩
  simp only [List.take_succ_cons, List.take_zero, List.toList_toArray]
  refine wpAnyH_take (i := 0) (v := ?_) rfl (by kernel_rfl) (by kernel_rfl) (by kernel_rfl) (fun _ _ _ h => h) (Or.inl ⟨by rfl, ?_⟩) (by assumption) ?_
  rotate_left
  · intro w' hSw; obtain ⟨s1, s2⟩ := hSw; go_simp; (try with_reducible rfl)
  simp only [Act.put, List.getElem_toArray, List.getElem_cons_succ, List.getElem_cons_zero, List.setIfInBounds_toArray, List.set_cons_zero, List.set_cons_succ]
  refine wpAnyH_take (i := 1) (v := ?_) rfl (by kernel_rfl) (by kernel_rfl) (by kernel_rfl) (fun _ _ _ h => h) (Or.inl ⟨by rfl, ?_⟩) (by assumption) ?_
  rotate_left
  · intro w' hSw; obtain ⟨s1, s2⟩ := hSw; go_simp; (try with_reducible rfl)
  simp only [Act.put, List.getElem_toArray, List.getElem_cons_succ, List.getElem_cons_zero, List.setIfInBounds_toArray, List.set_cons_zero, List.set_cons_succ]
  refine wpAnyH_take (i := 5) (v := ?_) rfl (by kernel_rfl) (by kernel_rfl) (by kernel_rfl) (fun _ _ _ h => h) (Or.inl ⟨by rfl, ?_⟩) (by assumption) ?_
  rotate_left
  · intro w' hSw; obtain ⟨s1, s2⟩ := hSw; go_simp; (try with_reducible rfl)
  simp only [Act.put, List.getElem_toArray, List.getElem_cons_succ, List.getElem_cons_zero, List.setIfInBounds_toArray, List.set_cons_zero, List.set_cons_succ]
  refine wpAnyH_take (i := 6) (v := ?_) rfl (by kernel_rfl) (by kernel_rfl) (by kernel_rfl) (fun _ _ _ h => h) (Or.inl ⟨by rfl, ?_⟩) (by assumption) ?_
  rotate_left
  · intro w' hSw; obtain ⟨s1, s2⟩ := hSw; go_simp; (try with_reducible rfl)
  simp only [Act.put, List.getElem_toArray, List.getElem_cons_succ, List.getElem_cons_zero, List.setIfInBounds_toArray, List.set_cons_zero, List.set_cons_succ]
  refine wpAnyH_ready (rs := [2]) (by kernel_rfl) (by simp) ?_
  refine AllReadyH.cons rfl (fun K hK => ?_) AllReadyH.nil
  go_simp
  refine hK.out _ _ ⟨by go_keep, by go_keep⟩ (fun hS => ?_)
  clear hK K
  try simp only [Act.put, List.getElem_toArray, List.getElem_cons_succ, List.getElem_cons_zero, List.setIfInBounds_toArray, List.set_cons_zero, List.set_cons_succ]
  refine wpAnyH_ready (rs := [3]) (by kernel_rfl) (by simp) ?_
  refine AllReadyH.cons rfl (fun K hK => ?_) AllReadyH.nil
  go_simp
  refine hK.out _ _ ⟨by go_keep, by go_keep⟩ (fun hS => ?_)
  clear hK K
  try simp only [Act.put, List.getElem_toArray, List.getElem_cons_succ, List.getElem_cons_zero, List.setIfInBounds_toArray, List.set_cons_zero, List.set_cons_succ]
  refine wpAnyH_ready (rs := [4]) (by kernel_rfl) (by simp) ?_
  refine AllReadyH.cons rfl (fun K hK => ?_) AllReadyH.nil
  (go_simp; go_at_call 55; refine (sum_spec _ ⟨#[k]⟩ hk1).mono ?_; rintro e w5 ⟨rfl, rfl⟩)
  refine hK.out _ _ ⟨by go_keep, by go_keep⟩ (fun hS => ?_)
  clear hK K
  try simp only [Act.put, List.getElem_toArray, List.getElem_cons_succ, List.getElem_cons_zero, List.setIfInBounds_toArray, List.set_cons_zero, List.set_cons_succ]
  refine wpAnyH_ready (rs := [7]) (by kernel_rfl) (by simp) ?_
  refine AllReadyH.cons rfl (fun K hK => ?_) AllReadyH.nil
  (go_simp; go_at_call 54; refine (more_spec _ (moreN 0 [k]) (moreN_lt _ _) d hd1).mono ?_; rintro e w5 ⟨rfl, rfl⟩)
  refine hK.out _ _ ⟨by go_keep, by go_keep⟩ (fun hS => ?_)
  clear hK K
  try simp only [Act.put, List.getElem_toArray, List.getElem_cons_succ, List.getElem_cons_zero, List.setIfInBounds_toArray, List.set_cons_zero, List.set_cons_succ]
  refine wpAnyH_done (by kernel_rfl) ?_ _
  refine lastQ_step rfl (fun K hK => ?_)
  go_simp
  refine hK _ _ ?_
  clear hK K hS
  rw [moreN_more, List.singleton_append]
  have hk2 : Keeps [] w (w1.alloc (.cells #[.int .u8 k.toNat] 5)).drew := (k1.alloc _).drew
  have q2 : (w1.alloc (.cells #[.int .u8 k.toNat] 5)).drew.heap[w.heap.size]? = _ := heap_old q0 _
  have hmk : ∀ g, v.ownBlock = some g → g ≠ w.heap.size := fun g hg => Nat.ne_of_lt (h.lt g hg)
  have Hb2 := Lib.hid (And.intro (h.same hk2) hmk)
  clear d0 d1 hconv l0 q0 k1 h hmk
  generalize (w1.alloc (.cells #[.int .u8 k.toNat] 5)).drew = w2 at hk2 q2 Hb2 ⊢
  generalize hsum : moreN 0 (k :: d.data.toList) = sm
  have Hsum := Lib.hid hsum
  have hsl : sm < 4294967296 := by rw [← hsum]; exact moreN_lt _ _
  clear hsum
  have c2 := cells_at q2
  have l2 := lt_of_at q2
  have hcv : IntKind.u64.wrap (d.size : Int) = (d.size : Int) := IntWalk.u64_in _ (by omega)
  go_wp2_with (at_builtin; refine buf_append rfl (.tmp 14) (.tmp 17) rfl v l rfl (Hb2.out.1.same ((Keeps.refl [] w2).alloc _)) ⟨w2.heap.size, 0, none⟩ 1 1 [k] rfl rfl (cells_new (heap_new w2 _)) (by omega) ?_; intro v3 w3 hb3 ht3; have q3 := ht3.box (heap_old q2 (.cells #[.int .u8 k.toNat] 5)) Hb2.out.2; have c3 := cells_at q3.1)
  have Hb3 := Lib.hid (And.intro hb3 (And.intro (Turns.since ((Keeps.refl [] w2).alloc _) ht3) q3))
  have Hml := Lib.hid (show (l ++ [k]).length = l.length + 1 from by simp)
  clear hb3 ht3 c2 l2 q2 q3 c3
  have Hlen := lebL_len10 (v := d.size) (by omega)
  refine (uint_spec w3 v3 (l ++ [k]) d.size (by omega) (by rw [Hml.out]; omega) Hb3.out.1).mono ?_
  rintro e w4 ⟨v4, rfl, hb4, ht4⟩
  have q4 := ht4.box Hb3.out.2.2.1 Hb3.out.2.2.2
  have Hb4 := Lib.hid (And.intro hb4 (And.intro (Hb3.out.2.1.trans ht4) q4))
  have Hml4 := Lib.hid (show (l ++ [k] ++ lebL d.size).length = l.length + 1 + (lebL d.size).length from by simp; omega)
  have He4 := Lib.hid (le4V hsl)
  clear hb4 ht4 q4
  go_upto_region 5 with (at_builtin; refine buf_append rfl (.tmp 25) (.tmp 37) rfl v4 (l ++ [k] ++ lebL d.size) rfl (Hb4.out.1.same ((Keeps.refl [] w4).alloc _)) ⟨w4.heap.size, 0, none⟩ 4 4 (le4 sm) rfl rfl (by rw [He4.out]; exact cells_new (heap_new w4 _)) (by rw [Hml4.out]; omega) ?_; intro v5 w5 hb5 ht5; have q5 := ht5.box (heap_old Hb4.out.2.2.1 (.cells #[.int .u8 ((sm : Int) % 256), .int .u8 ((sm : Int) / 256 % 256), .int .u8 ((sm : Int) / 65536 % 256), .int .u8 ((sm : Int) / 16777216)] 5)) Hb4.out.2.2.2; have c5 := cells_at q5.1)
  have Hb5 := Lib.hid (And.intro hb5 (Hb4.out.2.1.trans (Turns.since ((Keeps.refl [] w4).alloc _) ht5)))
  have Hml5 := Lib.hid (show (l ++ [k] ++ lebL d.size ++ le4 sm).length = l.length + 1 + (lebL d.size).length + 4 from by simp [le4]; omega)
  clear hb5 ht5
  go_wp2_with (at_builtin; refine buf_append_str rfl (.tmp 39) (.tmp 41) rfl v5 (l ++ [k] ++ lebL d.size ++ le4 sm) rfl Hb5.out.1 d rfl (by rw [Hml5.out]; omega) ?_; intro v6 w6 hb6 ht6)
  go_ret
  refine ⟨_, rfl, ?_, Turns.since hk2 (Hb5.out.2.trans ht6)⟩
  have e : l ++ frameL k d.data.toList = l ++ [k] ++ lebL d.size ++ le4 sm ++ d.data.toList := by
    unfold frameL; rw [Hsum.out, dsize]; simp
  rw [e]
  exact hb6

end Go.Proofs.Ythlmlneiehijkaa
