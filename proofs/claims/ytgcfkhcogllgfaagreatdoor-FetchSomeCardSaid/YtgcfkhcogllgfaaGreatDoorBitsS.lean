/-
  How wide a number is (package bitrow): Width. One bit more at a row of bits that is a chunk's: Bit, Bits, Unary, Len, Text; which bits they are is told.
  Samples as a row of bits (package xor): zig, time, value, Append, Text, Of: which bits they are is told (BitLaw).
  The package's variable widths holds what its text says (XorVar).
-/
import Derived.Test.YtgcfkhcogllgfaaGreatDoorBase
import Derived.Test.YtgcfkhcogllgfaaGreatDoorRows
import Derived.Deep.Cut
import Derived.Deep.QuietTactic
import Derived.BigQuiet
import Derived.Lib.Hide
import Derived.Deep.LoopGhost
import Derived.WalkSpells
import Derived.Test.YtgcfkhcogllgfaaGreatDoorStb
import Derived.Test.YtgcfkhcogllgfaaGreatDoorBuf
import Derived.StillTailTactics
import Derived.Laws.Bits64
import Derived.Test.YtgcfkhcogllgfaaGreatDoorLibVar
import Derived.OpenShut
import Derived.LaidMore
import Derived.LaidSub
import Derived.Lay
import Derived.Test.YtgcfkhcogllgfaaGreatDoorBitLaw
namespace Go.Proofs.YtgcfkhcogllgfaaGreatDoor
set_option maxRecDepth 100000
set_option maxHeartbeats 1000000
set_option linter.unusedSimpArgs false
open Go Go.RowKit Go.Conc
def WidthRel (w : World) (v : Nat) (gk : Nat) (u0 u3 : Value) (wr : World) : Prop := ∃ k, k ≤ widthN v ∧ gk = widthN v - k ∧ u0 = .int .u64 (v / 2 ^ k : Nat) ∧ u3 = .int .i64 k ∧ w = wr
theorem width_spec (w : World) (v : Nat) (hv : v < 2 ^ 64) : Calls Tryz.prog 185 #[.int .u64 (v : Int)] w fun e w' => e = .returned (.int .i64 (widthN v : Nat)) ∧ w = w' := by
 have hw64 := widthN_le hv
 go_enter Tryz.func185, Tryz.ntmps185
 go_wp2_with fail
 go_loopg [0, 3] (widthN v) (WidthRel w v)
 case atStart => exact ⟨0, Nat.zero_le _, rfl, by simp, rfl, rfl⟩
 case round =>
  obtain ⟨k, hk, hgk, rfl, rfl, rfl⟩ := hrel
  have Hg := Lib.hid hgk
  clear hgk
  have hat := widthN_at v k hk
  by_cases h0 : v / 2 ^ k = 0
  ·have hkw : k = widthN v := by rw [h0, widthN_zero] at hat; omega
   have HK := Lib.hid hkw
   rw [h0]
   clear hat h0
   go_wp2_with fail
   go_ret
   exact ⟨by rw [HK.out]; rfl, rfl⟩
  ·have hpos := widthN_pos h0
   have hlt : k < widthN v := by omega
   have hx : ∃ x, x = v / 2 ^ k := ⟨_, rfl⟩
   obtain ⟨x, hx⟩ := hx
   have hxs : v / 2 ^ (k + 1) = x / 2 := by rw [hx, Nat.div_div_eq_div_mul, ← Nat.pow_succ]
   have hx0 : (x : Int) > 0 := by omega
   have hxb : x < 2 ^ 64 := by rw [hx]; exact Nat.lt_of_le_of_lt (Nat.div_le_self _ _) hv
   have HX := Lib.hid hxs
   rw [← hx]
   clear hx hxs h0 hat hpos
   go_wp2_with fail
   go_roundg (widthN v - (k + 1))
   case measure => have := Hg.out; omega
   case rel => exact ⟨k + 1, by omega, rfl, by rw [HX.out]; go_num, by go_num, rfl⟩
def RowAt (w : World) (p : Nat) (B : List Bool) (x2 x3 x4 x5 x6 x7 : Value) : Prop :=
 ∃ (v : Value) (l : List UInt8), w.heap[p]? = some (.cells #[v, .int .i64 B.length, x2, x3, x4, x5, x6, x7] 237 (0, 0)) ∧ w.ownsRow (p + 1) 5 1 v l.length (bytesV l) ∧ l = packB B
theorem RowAt.keep {w w' : World} {p : Nat} {B : List Bool} {x2 x3 x4 x5 x6 x7 : Value} (h : RowAt w p B x2 x3 x4 x5 x6 x7) (k : Keeps [] w w') : RowAt w' p B x2 x3 x4 x5 x6 x7 := by
 obtain ⟨v, l, h1, h2, h3⟩ := h
 exact ⟨v, l, k.at_ h1 (by simp), k.row h2 (by simp), h3⟩
structure Frm (p : Nat) (w w' : World) : Prop where
 low : Below p w w'
 typ : ∀ b cs t z, b ≠ p → w.heap[b]? = some (.cells cs t z) → t ≠ 5 → w'.heap[b]? = some (.cells cs t z)
namespace Frm
variable {p : Nat} {a b c w : World}
theorem refl (p : Nat) (w : World) : Frm p w w := ⟨Below.refl _ _, fun _ _ _ _ _ h _ => h⟩
theorem trans (h : Frm p a b) (k : Frm p b c) : Frm p a c := ⟨h.low.trans k.low, fun x cs t z hx hc ht => k.typ x cs t z hx (h.typ x cs t z hx hc ht) ht⟩
theorem drew (h : Frm p a w) : Frm p a w.drew := ⟨h.low.drew, h.typ⟩
theorem setCell {i : Nat} (h : Frm p a w) (u : Value) : Frm p a (w.setCell ⟨p, i, none⟩ u) :=
 ⟨h.low.setCell (Nat.le_refl _) _, fun x cs t z hx hc ht => (heap_cell_other (w := w) (p := ⟨p, i, none⟩) u hx).trans (h.typ x cs t z hx hc ht)⟩
theorem setByte {g i : Nat} {cs : Array Value} {z : Nat × Nat} (h : Frm p a w) (hg : w.heap[g]? = some (.cells cs 5 z)) (hp : p ≤ g) (u : Value) : Frm p a (w.setCell ⟨g, i, none⟩ u) := by
 refine ⟨h.low.setCell hp _, fun x cx t y hx hc ht => ?_⟩
 have h1 := h.typ x cx t y hx hc ht
 by_cases hxg : x = g
 ·subst hxg
  rw [hg] at h1
  injection h1 with h1
  injection h1 with _ h1 _
  exact absurd h1.symm ht
 ·exact (heap_cell_other (w := w) (p := ⟨g, i, none⟩) u hxg).trans h1
end Frm
theorem keeps_frm {p : Nat} {w w' : World} (k : Keeps [] w w') (hp : p ≤ w.heap.size) : Frm p w w' := ⟨k.below hp (by simp), fun _ _ _ _ _ h _ => k.at_ h (by simp)⟩
theorem row_block {w : World} {B s n g : Nat} {e : TypeId} {cp : Nat} {xs : List Value} (h : w.ownsRow B e s (.slice (some ⟨g, 0, none⟩) n cp) n xs) : ∃ cs, w.heap[g]? = some (.cells cs e (0, 0)) := by
 obtain ⟨_, ⟨e1, _⟩ | ⟨g2, cap, cur, e1, hB, hg, _⟩⟩ := h
 ·cases e1
 ·injection e1 with e1 _ _
  injection e1 with e1
  injection e1 with e1 _ _
  subst e1
  exact ⟨_, hg⟩
theorem frm_row {p B n : Nat} {w w' : World} {v : Value} {xs : List Value} (hr : w.ownsRow B 5 1 v n xs) (k : Keeps (p :: v.ownBlock.toList) w w') (hB : p ≤ B) (hp : p ≤ w.heap.size) : Frm p w w' := by
 refine ⟨k.below hp fun x hx => ?_, fun b cs t z hb hc ht => k.at_ hc fun hm => ?_⟩
 ·simp only [List.mem_cons] at hx
  rcases hx with rfl | hx
  ·exact Nat.le_refl _
  ·exact Nat.le_trans hB (World.ownsRow.lt hr x (by simpa using hx)).1
 ·simp only [List.mem_cons] at hm
  rcases hm with rfl | hm
  ·exact hb rfl
  ·exact row_ne_type hr hc ht b (by simpa using hm) rfl
theorem bytes_set {w : World} {B g i n : Nat} {cp : Nat} {l : List UInt8} {t : TypeId} (h : w.ownsRow B t 1 (.slice (some ⟨g, 0, none⟩) n cp) n (bytesV l)) (x : Nat) (hx : x < 256) :
  (w.setCell ⟨g, i, none⟩ (.int .u8 x)).ownsRow B t 1 (.slice (some ⟨g, 0, none⟩) n cp) n (bytesV (l.set i (UInt8.ofNat x))) := by
 obtain ⟨hlen, ⟨e, _⟩ | ⟨g2, cap, cur, e, hB, hg, hnc, hcm, hcs, htake⟩⟩ := h
 ·cases e
 ·injection e with e1 _ e3
  injection e1 with e1
  injection e1 with e1 _ _
  subst e1 e3
  have ex : ((UInt8.ofNat x).toNat : Int) = (x : Int) := by
   have : (UInt8.ofNat x).toNat = x := by simp; omega
   rw [this]
  have el : bytesV (l.set i (UInt8.ofNat x)) = (bytesV l).set i (.int .u8 x) := by
   unfold bytesV
   rw [List.map_set, ex]
  refine ⟨by rw [el]; simpa using hlen, .inr ⟨g, cp, cur.setIfInBounds i (.int .u8 x), rfl, hB, heap_cell_same hg _, hnc, hcm, by simpa using hcs, ?_⟩⟩
  rw [el, Array.toList_setIfInBounds, List.take_set, htake]
theorem i64_and7R (n : Int) : bits .and .i64 n 7 = n % 8 := by
 have h3 : (BitVec.ofInt 64 7).toNat = 2 ^ 3 - 1 := by decide
 have key : (BitVec.ofInt 64 n &&& BitVec.ofInt 64 7).toNat = (n % ((2 ^ 64 : Nat) : Int)).toNat % 2 ^ 3 := by
  rw [BitVec.toNat_and, BitVec.toNat_ofInt, h3, Nat.and_two_pow_sub_one_eq_mod]
 show IntKind.i64.wrap ((BitVec.ofInt 64 n &&& BitVec.ofInt 64 7).toNat : Nat) = n % 8
 rw [key, IntKind.wrap_i64]
 omega
theorem u8_orN {a b : Nat} (ha : a < 256) (hb : b < 256) : bits .or .u8 (a : Int) (b : Int) = ((a ||| b : Nat) : Int) ∧ a ||| b < 256 :=
 ⟨(bits_nat .u8 8 (by decide) (fun n h0 h1 => by rw [IntKind.wrap_u8]; omega) a b ha hb).2, Nat.or_lt_two_pow (n := 8) ha hb⟩
theorem row_someR {B s n : Nat} {e : TypeId} {w : World} {v : Value} {xs : List Value} (h : w.ownsRow B e s v n xs) (hn : 0 < n) : ∃ g c, v = .slice (some ⟨g, 0, none⟩) n c := by
 obtain ⟨_, ⟨rfl, h0⟩ | ⟨g, cap, cur, rfl, _⟩⟩ := h
 ·omega
 ·exact ⟨g, cap, rfl⟩
def BitMid (w : World) (p n : Nat) (B : List Bool) (x2 x3 x4 x5 x6 x7 : Value) (wr : World) : Prop :=
 ∃ (v : Value) (l : List UInt8), wr.heap[p]? = some (.cells #[v, .int .i64 n, x2, x3, x4, x5, x6, x7] 237 (0, 0)) ∧ wr.ownsRow (p + 1) 5 1 v l.length (bytesV l) ∧ l = packB (B ++ [false]) ∧ n / 8 < l.length ∧ Frm p w wr
theorem bit_spec (w : World) (p : Nat) (B : List Bool) (x2 x3 x4 x5 x6 x7 : Value) (is : Bool) (hn : B.length < 1000000000) (h : RowAt w p B x2 x3 x4 x5 x6 x7) :
  Calls Tryz.prog 184 #[.pointer (some ⟨p, 0, none⟩), .bool is] w fun e w' => e = .returned (.tuple #[]) ∧ RowAt w' p (B ++ [is]) x2 x3 x4 x5 x6 x7 ∧ Frm p w w' := by
 obtain ⟨v, l, hp, hr, hlB⟩ := h
 obtain ⟨n, hnB⟩ : ∃ n, n = B.length := ⟨_, rfl⟩
 rw [← hnB] at hn hp
 have HB0 := Lib.hid (And.intro hnB hlB)
 have hl : l.length = bytesN n := by rw [hlB, packB_length, hnB]
 clear hnB hlB
 have Hr := Lib.hid (And.intro hr (And.intro hl hp))
 have cp := cells_at hp
 have fp := free_at hp
 have lp := lt_of_at hp
 obtain ⟨ao, cap, rfl, -, -, -⟩ := row_slice hr
 have hand := i64_and7R (n : Int)
 obtain ⟨ib, hib, hz0, hz1, hz2⟩ := info_parts infoByte
 clear hr hl hp
 go_enter Tryz.func184, Tryz.ntmps184
 go_upto_if 9 with fail
 go_cut [] from 5 to 18 (BitMid w p n B x2 x3 x4 x5 x6 x7)
 case first =>
  by_cases h8 : (n : Int) % 8 = 0
  ·have hb := bytesN_full (n := n) (by omega)
   have Hb := Lib.hid hb.1
   have hlm : l.length ≤ 1000000000 := by have := Hr.out.2.1; unfold bytesN at this; omega
   have Hk := Lib.hid (And.intro h8 hlm)
   clear hb hlm
   go_wp2_with (at_builtin; refine wpList_append_own _ rfl (.tmp 14) (.tmp 15) 147 rfl (p + 1) 5 ib _ 1 1 Tryz.underlying147 hib hz0 hz1 hz2 rfl (by decide) (.slice ao l.length cap) l.length (bytesV l) rfl (Hr.out.1.alloc _) ⟨w.heap.size, 0, none⟩ 1 1 [.int .u8 0] rfl rfl (news_of (heap_new w _)) (by simp [Value.oneCell']) (by have := Hk.out.2; simp only [maxLen]; omega) (by have := Hk.out.2; omega) (by simp; omega) ?_; intro v8 w8 hown8 hgrow8 hnil; clear hnil; obtain ⟨ao8, cp8, hv8, -, -, -⟩ := row_slice hown8; subst hv8; have hn8 := (keeps_rowM hgrow8).at_ (heap_old Hr.out.2.2 _) (by have := row_ne_type Hr.out.1 Hr.out.2.2 (by decide); simpa using fun hm => this p hm rfl); have cx8 := cells_at hn8; have fx8 := free_at hn8; have lx8 := lt_of_at hn8; have H8 := Lib.hid (And.intro hown8 hgrow8); clear hown8 hgrow8 hn8 cp fp lp)
   obtain ⟨r1, r2, r3⟩ := app_field (i := 0) Hr.out.2.2 Hr.out.1 (by decide) H8.out.1 H8.out.2
   go_meet
   case rel =>
    refine ⟨_, l ++ [0], r1, by rw [bytesV_append, List.length_append]; exact r2, by rw [packB_push_full (by rw [← HB0.out.1]; have := Hk.out.1; omega), ← HB0.out.2], ?_, ?_⟩
    ·rw [List.length_append, Hr.out.2.1]
     have := Hk.out.1
     unfold bytesN
     simp only [List.length_cons, List.length_nil]
     omega
    ·exact frm_row Hr.out.1 r3 (Nat.le_succ _) (Nat.le_of_lt (lt_of_at Hr.out.2.2))
  ·have hb := bytesN_part (n := n) (by omega)
   go_wp2_with fail
   go_meet
   case rel => exact ⟨_, _, Hr.out.2.2, Hr.out.1, by rw [packB_push_part (by rw [← HB0.out.1]; omega)]; exact HB0.out.2, by rw [Hr.out.2.1]; exact hb.2, Frm.refl _ _⟩
 case rest =>
  obtain ⟨v, l', hp, hr, hl, hlt, hB⟩ := hcut
  obtain ⟨g, cp', rfl⟩ := row_someR hr (by omega)
  clear Hr cp fp lp
  have hgp : p < g := (World.ownsRow.lt hr g rfl).1
  have Hr := Lib.hid (And.intro hr (And.intro hl (And.intro hp (And.intro hB hlt))))
  have cp := cells_at hp
  have fp := free_at hp
  have lp := lt_of_at hp
  have lg := (World.ownsRow.lt hr g rfl).2
  have hlt' : (n : Int) / 8 < (l'.length : Int) := by omega
  have hg0 : (0 : Int) ≤ (n : Int) / 8 := by omega
  have hoff : ((n : Int) / 8).toNat = n / 8 := by omega
  have hcell : wc.cell? ⟨g, ((n : Int) / 8).toNat, none⟩ = some (.int .u8 (l'[n / 8].toNat : Int)) := by
   rw [hoff]
   have h1 := World.ownsRow.cellAt hr (n / 8) (by omega)
   have h2 : (bytesV l')[n / 8]? = some (.int .u8 (l'[n / 8].toNat : Int)) := by simp [bytesV, hlt]
   rw [h2] at h1
   exact h1
  have hbv : l'[n / 8].toNat = packN (B ++ [false]) (n / 8) := by subst hl; exact packB_get hlt
  have Hbt := Lib.hid (And.intro (UInt8.toNat_lt l'[n / 8]) hbv)
  generalize l'[n / 8].toNat = bt at hcell Hbt
  clear hbv
  have fg : wc.frozen? ⟨g, ((n : Int) / 8).toNat, none⟩ = false := World.ownsRow.frozenAt hr _
  have Hoff := Lib.hid hoff
  clear hp hr hl hB hoff
  have Hn1 := Lib.hid (show ∀ x : Bool, (n : Int) + 1 = (((B ++ [x]).length : Nat) : Int) from fun x => by rw [List.length_append, ← HB0.out.1]; rfl)
  cases is
  ·go_wp2_with fail
   refine bodyPost_end (results_none rfl _ _ _) rfl ?_
   rw [Hn1.out false]
   exact ⟨rfl, ⟨_, l', heap_cell_same Hr.out.2.2.1 _, ownsRow_setCell_below Hr.out.1 (by simp) _, Hr.out.2.1⟩, Hr.out.2.2.2.1.setCell _⟩
  ·go_upto_region 3 with fail
   go_still_tail 19, (by kernel_rfl)
   repeat still_step
   change wpList _ _ _ _ _ wc.drew
   rw [show (128 : Int) / 2 ^ ((n : Int) % 8).toNat = ((128 / 2 ^ ((n : Int) % 8).toNat : Nat) : Int) by simp]
   obtain ⟨ex, hx⟩ := u8_orN (b := 128 / 2 ^ ((n : Int) % 8).toNat) Hbt.out.1 (Nat.lt_of_le_of_lt (Nat.div_le_self _ _) (by decide))
   rw [ex]
   clear ex
   obtain ⟨x, hxe⟩ : ∃ x, x = bt ||| 128 / 2 ^ ((n : Int) % 8).toNat := ⟨_, rfl⟩
   rw [← hxe] at hx ⊢
   have HX := Lib.hid hxe
   clear hxe
   obtain ⟨gcs, hgb⟩ := row_block Hr.out.1
   have HR := Lib.hid (And.intro (bytes_set (i := ((n : Int) / 8).toNat) (World.ownsRow.drew Hr.out.1) x hx) (And.intro ((heap_cell_other (w := wc.drew) (p := ⟨g, ((n : Int) / 8).toNat, none⟩) (.int .u8 x) (show p ≠ g by omega)).trans Hr.out.2.2.1) (Frm.setByte (w := wc.drew) (g := g) (i := ((n : Int) / 8).toNat) Hr.out.2.2.2.1.drew hgb (by omega) (.int .u8 x))))
   go_wp2_with fail
   refine bodyPost_end (results_none rfl _ _ _) rfl ?_
   rw [Hn1.out true]
   refine ⟨rfl, ⟨_, _, heap_cell_same HR.out.2.1 _, by rw [List.length_set]; exact ownsRow_setCell_below HR.out.1 (by simp) _, ?_⟩, HR.out.2.2.setCell _⟩
   rw [packB_push1, ← HB0.out.1, ← Hr.out.2.1, HX.out, Hbt.out.2, show ((n : Int) / 8).toNat = n / 8 by omega, show ((n : Int) % 8).toNat = n % 8 by omega]
theorem RowAt.lt {w : World} {p : Nat} {B : List Bool} {x2 x3 x4 x5 x6 x7 : Value} (h : RowAt w p B x2 x3 x4 x5 x6 x7) : p < w.heap.size := by
 obtain ⟨v, l, h1, -, -⟩ := h
 exact lt_of_at h1
theorem RowAt.pos {w : World} {p : Nat} {B : List Bool} {x2 x3 x4 x5 x6 x7 : Value} (h : RowAt w p B x2 x3 x4 x5 x6 x7) : p ≤ w.heap.size := Nat.le_of_lt h.lt
theorem u64_and1 {x : Nat} (hx : x < 18446744073709551616) : bits .and .u64 (x : Int) 1 = ((x % 2 : Nat) : Int) := by
 have h := (bits_nat .u64 64 (by decide) (fun n h0 h1 => by rw [IntKind.wrap_u64]; omega) x 1 (by simpa using hx) (by decide)).1
 rw [Nat.and_one_is_mod] at h
 exact h
theorem len_take {v k j : Nat} (h : j ≤ k) : ((bitsN v k).take j).length = j := by rw [List.length_take, bitsN_length]; omega
def BitsRel (w : World) (p : Nat) (B : List Bool) (v k : Nat) (x2 x3 x4 x5 x6 x7 : Value) (gk : Nat) (u6 : Value) (wr : World) : Prop :=
 ∃ j, j ≤ k ∧ gk = k - j ∧ u6 = .int .i64 ((k : Int) - 1 - (j : Int)) ∧ RowAt wr p (B ++ (bitsN v k).take j) x2 x3 x4 x5 x6 x7 ∧ Frm p w wr
theorem bits_spec (w : World) (p : Nat) (B : List Bool) (v k : Nat) (x2 x3 x4 x5 x6 x7 : Value) (hv : v < 18446744073709551616) (hn : B.length + k < 1000000000) (hk : k ≤ 64) (h : RowAt w p B x2 x3 x4 x5 x6 x7) :
  Calls Tryz.prog 160 #[.pointer (some ⟨p, 0, none⟩), .int .u64 (v : Int), .int .i64 k] w fun e w' => e = .returned (.tuple #[]) ∧ RowAt w' p (B ++ bitsN v k) x2 x3 x4 x5 x6 x7 ∧ Frm p w w' := by
 have h64 : (k : Int) ≤ 64 := by omega
 have hmin : min (k : Int) 64 = (k : Int) := by omega
 go_enter Tryz.func160, Tryz.ntmps160
 go_wp2_with fail
 go_loopg [6] k (BitsRel w p B v k x2 x3 x4 x5 x6 x7)
 case atStart => exact ⟨0, Nat.zero_le _, rfl, by congr 1; omega, by rw [bitsN_take0, List.append_nil]; exact h, Frm.refl _ _⟩
 case round =>
  obtain ⟨j, hj, hgk, rfl, hr, hB⟩ := hrel
  have Hg := Lib.hid (And.intro hgk (And.intro hr hB))
  clear hgk hr hB h hmin
  by_cases hlt : j < k
  ·obtain ⟨i, hi⟩ : ∃ i : Nat, (k : Int) - 1 - (j : Int) = (i : Int) := ⟨k - 1 - j, by omega⟩
   rw [hi]
   have hi64 : i < 64 := by omega
   have hand := u64_and1 (x := v / 2 ^ i) (Nat.lt_of_le_of_lt (Nat.div_le_self _ _) hv)
   rw [show ((v / 2 ^ i : Nat) : Int) = (v : Int) / 2 ^ i by simp] at hand
   have hbit : ((((v / 2 ^ i % 2 : Nat) : Int)) == 1) = decide (v / 2 ^ i % 2 = 1) := by
    by_cases h1 : v / 2 ^ i % 2 = 1
    ·rw [h1]; rfl
    ·have h0 : v / 2 ^ i % 2 = 0 := by omega
     rw [h0]; rfl
   have hlen := len_take (v := v) (k := k) (j := j) hj
   have hsz : (B ++ (bitsN v k).take j).length < 1000000000 := by rw [List.length_append, hlen]; omega
   have htk := bitsN_take (v := v) hlt
   rw [show k - 1 - j = i by omega] at htk
   have Hi := Lib.hid (And.intro hi (And.intro hsz htk))
   clear hi hlen hsz htk
   obtain ⟨bz, hbz⟩ : ∃ bz : Int, bz = ((v / 2 ^ i % 2 : Nat) : Int) := ⟨_, rfl⟩
   rw [← hbz] at hand hbit
   clear hbz
   obtain ⟨bx, hbx⟩ : ∃ bx : Bool, bx = decide (v / 2 ^ i % 2 = 1) := ⟨_, rfl⟩
   rw [← hbx] at hbit Hi
   clear hbx
   go_wp2_with fail
   refine (bit_spec wr p (B ++ (bitsN v k).take j) x2 x3 x4 x5 x6 x7 bx Hi.out.2.1 Hg.out.2.1).mono ?_
   rintro e w2 ⟨rfl, hr2, hB2⟩
   have H2 := Lib.hid (And.intro hr2 (Hg.out.2.2.trans hB2))
   clear hr2 hB2
   go_wp2_with fail
   go_roundg (k - (j + 1))
   case measure => have := Hg.out.1; omega
   case rel => exact ⟨j + 1, hlt, rfl, by have := Hi.out.1; congr 1; omega, by rw [Hi.out.2.2, ← List.append_assoc]; exact H2.out.1, H2.out.2⟩
  ·have hge : ¬ (k : Int) - 1 - (j : Int) ≥ 0 := by omega
   obtain rfl : j = k := by omega
   go_wp2_with fail
   refine bodyPost_end (results_none rfl _ _ _) rfl ?_
   have hr := Hg.out.2.1
   rw [bitsN_takeAll] at hr
   exact ⟨rfl, hr, Hg.out.2.2⟩
def UnRel (w : World) (p : Nat) (B : List Bool) (k : Nat) (x2 x3 x4 x5 x6 x7 : Value) (gk : Nat) (u12 : Value) (wr : World) : Prop :=
 ∃ j, j ≤ k ∧ gk = k - j ∧ u12 = .int .i64 (j : Nat) ∧ RowAt wr p (B ++ List.replicate j true) x2 x3 x4 x5 x6 x7 ∧ Frm p w wr
theorem unary_spec (w : World) (p : Nat) (B : List Bool) (k : Nat) (x2 x3 x4 x5 x6 x7 : Value) (hn : B.length < 900000000) (hk : k ≤ 4) (h : RowAt w p B x2 x3 x4 x5 x6 x7) :
  Calls Tryz.prog 186 #[.pointer (some ⟨p, 0, none⟩), .int .i64 k, .int .i64 4] w fun e w' => e = .returned (.tuple #[]) ∧ RowAt w' p (B ++ unaryB k) x2 x3 x4 x5 x6 x7 ∧ Frm p w w' := by
 have h4 : (k : Int) ≤ 4 := by omega
 go_enter Tryz.func186, Tryz.ntmps186
 go_wp2_with fail
 go_loopg [12] k (UnRel w p B k x2 x3 x4 x5 x6 x7)
 case atStart => exact ⟨0, Nat.zero_le _, rfl, rfl, by rw [List.replicate_zero, List.append_nil]; exact h, Frm.refl _ _⟩
 case round =>
  obtain ⟨j, hj, hgk, rfl, hr, hB⟩ := hrel
  have hlen : (B ++ List.replicate j true).length < 1000000000 := by rw [List.length_append, List.length_replicate]; omega
  have Hg := Lib.hid (And.intro hgk (And.intro hr (And.intro hB hlen)))
  clear hgk hr hB h hlen
  by_cases hlt : j < k
  ·have hlt1 : (j : Int) < (k : Int) := by omega
   go_wp2_with fail
   refine (bit_spec wr p _ x2 x3 x4 x5 x6 x7 true Hg.out.2.2.2 Hg.out.2.1).mono ?_
   rintro e w2 ⟨rfl, hr2, hB2⟩
   have H2 := Lib.hid (And.intro hr2 (Hg.out.2.2.1.trans hB2))
   clear hr2 hB2
   go_wp2_with fail
   go_roundg (k - (j + 1))
   case measure => have := Hg.out.1; omega
   case rel => exact ⟨j + 1, hlt, rfl, by go_num, by rw [List.replicate_succ', ← List.append_assoc]; exact H2.out.1, H2.out.2⟩
  ·have hge : ¬ (j : Int) < (k : Int) := by omega
   have hjk : j = k := by omega
   have Hjk := Lib.hid hjk
   clear hjk
   by_cases hk4 : k < 4
   ·have hk4' : (k : Int) < 4 := by omega
    have Hun := Lib.hid (show B ++ List.replicate j true ++ [false] = B ++ unaryB k by rw [Hjk.out]; unfold unaryB; rw [if_pos hk4, List.append_assoc])
    clear hk4
    go_wp2_with fail
    refine (bit_spec wr p _ x2 x3 x4 x5 x6 x7 false Hg.out.2.2.2 Hg.out.2.1).mono ?_
    rintro e w2 ⟨rfl, hr2, hB2⟩
    have H2 := Lib.hid (And.intro hr2 (Hg.out.2.2.1.trans hB2))
    clear hr2 hB2
    go_wp2_with fail
    refine bodyPost_end (results_none rfl _ _ _) rfl ?_
    exact ⟨rfl, by rw [← Hun.out]; exact H2.out.1, H2.out.2⟩
   ·have hk4' : ¬ (k : Int) < 4 := by omega
    have Hun := Lib.hid (show B ++ List.replicate j true = B ++ unaryB k by rw [Hjk.out]; unfold unaryB; rw [if_neg hk4, List.append_nil])
    clear hk4
    go_wp2_with fail
    refine bodyPost_end (results_none rfl _ _ _) rfl ?_
    exact ⟨rfl, by rw [← Hun.out]; exact Hg.out.2.1, Hg.out.2.2.1⟩
theorem len_spec (w : World) (p : Nat) (B : List Bool) (x2 x3 x4 x5 x6 x7 : Value) (h : RowAt w p B x2 x3 x4 x5 x6 x7) :
  Calls Tryz.prog 164 #[.pointer (some ⟨p, 0, none⟩)] w fun e w' => e = .returned (.int .i64 (B.length : Nat)) ∧ w = w' := by
 obtain ⟨v, l, hp, -, -⟩ := h
 have cp := cells_at hp
 have lp := lt_of_at hp
 clear hp
 go_enter Tryz.func164, Tryz.ntmps164
 go_wp2_with fail
 go_ret
 exact ⟨rfl, rfl⟩
theorem rowText_spec (w : World) (p : Nat) (B : List Bool) (x2 x3 x4 x5 x6 x7 : Value) (h : RowAt w p B x2 x3 x4 x5 x6 x7) :
  Calls Tryz.prog 165 #[.pointer (some ⟨p, 0, none⟩)] w fun e w' => e = .returned (.string ⟨(packB B).toArray⟩) ∧ w = w' := by
 obtain ⟨v, l, hp, hr, hl⟩ := h
 have cp := cells_at hp
 have lp := lt_of_at hp
 have hrun := (show Buf w v l from row_base hr (Nat.zero_le _)).run_string
 obtain ⟨ao, cap, rfl, -, -, -⟩ := row_slice hr
 have Hl := Lib.hid hl
 clear hp hr hl
 go_enter Tryz.func165, Tryz.ntmps165
 go_wp2_with fail
 go_ret
 exact ⟨by rw [Hl.out]; rfl, rfl⟩
def XorVar (w : World) : Prop := ∀ k, k < 5 → w.cell? ⟨4, k, none⟩ = some (.int .i64 (wd k : Nat))
theorem XorVar.lt {w : World} (h : XorVar w) : 4 < w.heap.size := World.block_lt_of_cell? w _ (h 0 (by decide))
theorem XorVar.below {w w' : World} {p : Nat} (h : XorVar w) (hB : Frm p w w') (hp : 4 < p) : XorVar w' := fun k hk => (hB.low.cell (p := ⟨4, k, none⟩) hp).trans (h k hk)
theorem XorVar.same {w w' : World} (h : XorVar w) (k : Keeps [] w w') : XorVar w' := fun j hj => (k.cell h.lt (by simp)).trans (h j hj)
theorem XorVar.keep {w w' : World} {S : List Nat} (h : XorVar w) (k : Keeps S w w') (hS : 4 ∉ S) : XorVar w' := fun j hj => (k.cell h.lt hS).trans (h j hj)
theorem xor_ones {x : Nat} (hx : x < 18446744073709551616) : (BitVec.ofInt 64 (x : Int) ^^^ BitVec.ofInt 64 18446744073709551615).toNat = 18446744073709551615 - x := by
 have h1 : BitVec.ofInt 64 18446744073709551615 = BitVec.allOnes 64 := by decide
 rw [h1, BitVec.xor_allOnes, BitVec.toNat_not]
 have h2 : (BitVec.ofInt 64 (x : Int)).toNat = x := by
  rw [BitVec.toNat_ofInt]
  omega
 rw [h2]
theorem xor_zero (x : Int) : (BitVec.ofInt 64 x ^^^ BitVec.ofInt 64 0) = BitVec.ofInt 64 x := by
 rw [show BitVec.ofInt 64 0 = 0#64 from by decide, BitVec.xor_zero]
theorem zig_bits {d : Int} (h : -1099511627776 ≤ d ∧ d ≤ 1099511627776) : bits .xor .u64 (IntKind.u64.wrap (wrap64 (d * 2))) (IntKind.u64.wrap (d / 9223372036854775808)) = (zigN d : Int) := by
 have hw : wrap64 (d * 2) = d * 2 := IntWalk.wrap64_in _ (by omega)
 rw [hw]
 show IntKind.u64.wrap ((BitVec.ofInt 64 _ ^^^ BitVec.ofInt 64 _).toNat : Nat) = _
 by_cases h0 : 0 ≤ d
 ·have e1 : d / 9223372036854775808 = 0 := by omega
  have e2 : IntKind.u64.wrap (d * 2) = d * 2 := IntWalk.u64_in _ (by omega)
  rw [e1, e2, show IntKind.u64.wrap 0 = 0 from by decide, xor_zero, BitVec.toNat_ofInt, IntKind.wrap_u64]
  unfold zigN
  rw [if_pos h0]
  omega
 ·have e1 : d / 9223372036854775808 = -1 := by omega
  obtain ⟨x, hx⟩ : ∃ x : Nat, (x : Int) = 18446744073709551616 + d * 2 := ⟨(18446744073709551616 + d * 2).toNat, by omega⟩
  have e2 : IntKind.u64.wrap (d * 2) = (x : Int) := by rw [IntKind.wrap_u64]; omega
  rw [e1, e2, show IntKind.u64.wrap (-1) = 18446744073709551615 from by decide, xor_ones (by omega), IntKind.wrap_u64]
  unfold zigN
  rw [if_neg h0]
  omega
theorem zig_spec (w : World) (d : Int) (h : -1099511627776 ≤ d ∧ d ≤ 1099511627776) : Calls Tryz.prog 162 #[.int .i64 d] w fun e w' => e = .returned (.int .u64 (zigN d : Nat)) ∧ w = w' := by
 have H := Lib.hid h
 clear h
 go_enter Tryz.func162, Tryz.ntmps162
 go_wp2_with fail
 go_ret
 exact ⟨by rw [← zig_bits H.out]; rfl, rfl⟩
theorem quiet_stayX {P : Program} {f : FuncId} {args : Array Value} {w : World} {n : Nat} {v : Value} (h : Calls P f args (w.drewN n) fun e w' => e = .returned v ∧ w.drewN n = w') : Calls P f args (w.drewN n) fun e w'' => e = .returned v ∧ ∃ m, w'' = w.drewN m :=
 h.mono fun _ _ ⟨he, hm⟩ => ⟨he, n, hm.symm⟩
def TimeRel (w : World) (u : Nat) (gk : Nat) (u4 : Value) (wr : World) : Prop := ∃ k, k ≤ kOf u ∧ gk = 4 - k ∧ u4 = .int .i64 (k : Nat) ∧ Keeps [] w wr
theorem time_spec (w : World) (hX : XorVar w) (p : Nat) (B : List Bool) (u : Nat) (x2 x3 x4 x5 x6 x7 : Value) (hp : 4 < p) (hn : B.length < 800000000) (hu : u < 18446744073709551616) (h : RowAt w p B x2 x3 x4 x5 x6 x7) :
  Calls Tryz.prog 161 #[.pointer (some ⟨p, 0, none⟩), .int .u64 u] w fun e w' => e = .returned (.tuple #[]) ∧ RowAt w' p (B ++ timeB u) x2 x3 x4 x5 x6 x7 ∧ Frm p w w' := by
 have hw64 := widthN_le (k := 64) (v := u) (by simpa using hu)
 have hk4 := kOf_le u
 have Hw := Lib.hid (fun W => width_spec W u (by simpa using hu))
 have H0 := Lib.hid (And.intro hX h)
 clear hX h
 go_enter Tryz.func161, Tryz.ntmps161
 go_wp2_with fail
 go_loopg [4] 4 (TimeRel w u)
 case atStart => exact ⟨0, Nat.zero_le _, rfl, rfl, Keeps.refl _ _⟩
 case round =>
  obtain ⟨k, hk, hgk, rfl, hkw⟩ := hrel
  have Hg := Lib.hid (And.intro hgk hkw)
  have hc := (H0.out.1.same hkw) k (by omega)
  have hk5 : (k : Int) < 5 := by omega
  have hgb := H0.out.1.same hkw |>.lt
  clear hgk hkw
  obtain ⟨d, hd⟩ : ∃ d, d = wd k := ⟨_, rfl⟩
  obtain ⟨z, hz⟩ : ∃ z, z = widthN u := ⟨_, rfl⟩
  rw [← hd] at hc
  rw [← hz] at Hw hw64
  have Hd := Lib.hid (And.intro hd hz)
  by_cases hgt : d < z
  ·have hlt : k < kOf u := by
    rcases Nat.lt_or_ge k (kOf u) with h | h
    ·exact h
    ·obtain rfl : k = kOf u := by omega
     have h2 : widthN u ≤ wd (kOf u) := widthN_le (kOf_fits hu)
     omega
   have hgt' : (z : Int) > (d : Int) := by omega
   clear hd hz hw64
   go_upto_region 1 with fail
   go_quiet ((go_at_call 185; exact quiet_stayX (Hw.out _)))
   go_wp2_with fail
   go_roundg (4 - (k + 1))
   case measure => have := Hg.out.1; omega
   case rel => exact ⟨k + 1, hlt, rfl, by go_num, Hg.out.2.drewN _⟩
  ·have hgt' : ¬ (z : Int) > (d : Int) := by omega
   have hke : k = kOf u := kOf_here (by omega) hk
   have HKe := Lib.hid hke
   clear hd hz hw64 hke
   go_upto_region 1 with fail
   go_quiet ((go_at_call 185; exact quiet_stayX (Hw.out _)))
   have hd64 : d ≤ 64 := by
    rw [Hd.out.1]
    exact wd_le k
   obtain ⟨W1, hW1⟩ : ∃ W1, W1 = wr.drewN nq := ⟨_, rfl⟩
   rw [← hW1]
   have k1 : Keeps [] w W1 := by rw [hW1]; exact Hg.out.2.drewN _
   have H1 := Lib.hid (And.intro k1 (H0.out.2.keep k1))
   clear hW1 k1 hc hgb hgt'
   go_wp2_with fail
   refine (unary_spec W1 p B k x2 x3 x4 x5 x6 x7 (by omega) (by omega) H1.out.2).mono ?_
   rintro e w2 ⟨rfl, hr2, hB2⟩
   have hX2 := (H0.out.1.same H1.out.1).below hB2 hp
   have hgb := hX2.lt
   have hc := hX2 k (by omega)
   rw [← Hd.out.1] at hc
   have H2 := Lib.hid (And.intro hr2 (Frm.trans (keeps_frm H1.out.1 H0.out.2.pos) hB2))
   have hul : (B ++ unaryB k).length + d < 1000000000 := by rw [List.length_append]; have := unaryB_len (k := k) (by omega); omega
   have Hul := Lib.hid hul
   clear hr2 hB2 hX2 hul
   go_upto_region 4 with fail
   go_still_tail 7, (by kernel_rfl)
   repeat still_step
   change wpList _ _ _ _ _ w2.drew
   go_wp2_with fail
   refine (bits_spec w2.drew p (B ++ unaryB k) u d x2 x3 x4 x5 x6 x7 hu Hul.out hd64 (H2.out.1.keep (Keeps.refl [] _).drew)).mono ?_
   rintro e w3 ⟨rfl, hr3, hB3⟩
   have H3 := Lib.hid (And.intro hr3 (H2.out.2.trans (Frm.trans ((Frm.refl _ _).drew) hB3)))
   clear hr3 hB3
   go_wp2_with fail
   refine bodyPost_end (results_none rfl _ _ _) rfl ?_
   have hr := H3.out.1
   rw [Hd.out.1, HKe.out, List.append_assoc] at hr
   exact ⟨rfl, hr, H3.out.2⟩
end Go.Proofs.YtgcfkhcogllgfaaGreatDoor
