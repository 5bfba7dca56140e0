/-
  Numbers as rows of bits, in plain words: how wide a number is, how many zeros are at its end.
  No condition beyond those that each theorem states.

  How wide a number is (package bitrow): Width.
  No condition: every number of 64 bits.

  One bit more at a row of bits that is a chunk's (package bitrow): Bit. The row is of so many bits, in so many bytes of the walk's own; which bits they are counts for nothing here.
  No condition beyond those that each theorem states.

  Bits more at a row of bits that is a chunk's (package bitrow): Bits, Unary, Len, Text. How many they are; which they are counts for nothing here.
  No condition beyond those that each theorem states.

  Samples as a row of bits (package xor): zig, time, value. How many bits they take at most; which they are counts for nothing here.
  The package's variable widths holds what its text says (XorVar).

  A change of a value's bits as bits (package xor): value. How many bits it takes at most; which they are counts for nothing here.
  No condition beyond those that each theorem states.

  A sample more at a chunk, a chunk's text, samples as a chunk's text (package xor): Append, Text, Of. They answer well where the times rise from 0 on; how many bits they take at most. Which bits they are counts for nothing here.
  The package's variable widths holds what its text says (XorVar).

  What a row's list says of the variable xor.widths: it holds its five numbers.
  No condition beyond those that each theorem states.
-/
import Derived.Test.YtaebpbkiaihhdaaGreatDoorBase
import Derived.Test.YtaebpbkiaihhdaaGreatDoorRows
import Derived.Deep.Cut
import Derived.Deep.QuietTactic
import Derived.BigQuiet
import Derived.Lib.Hide
import Derived.Deep.LoopGhost
import Derived.WalkSpells
import Derived.Test.YtaebpbkiaihhdaaGreatDoorStb
import Derived.Test.YtaebpbkiaihhdaaGreatDoorBuf
import Derived.StillTailTactics
import Derived.Laws.Bits64
import Derived.Test.YtaebpbkiaihhdaaGreatDoorLibVar
import Derived.OpenShut
import Derived.LaidMore
import Derived.LaidSub
import Derived.Lay
namespace Go.Proofs.YtaebpbkiaihhdaaGreatDoor

/-- Of how many bits a number is. -/
def widthN (v : Nat) : Nat := if h : v = 0 then 0 else widthN (v / 2) + 1
termination_by v
decreasing_by omega

theorem widthN_zero : widthN 0 = 0 := by rw [widthN]; rfl

theorem widthN_half {v : Nat} (h : v ≠ 0) : widthN v = widthN (v / 2) + 1 := by
  rw [widthN, dif_neg h]

theorem widthN_le : ∀ {k v : Nat}, v < 2 ^ k → widthN v ≤ k
  | 0, v, h => by
    obtain rfl : v = 0 := by simp at h; exact h
    rw [widthN_zero]
    exact Nat.le_refl _
  | k + 1, v, h => by
    by_cases h0 : v = 0
    · subst h0
      rw [widthN_zero]
      exact Nat.zero_le _
    · rw [widthN_half h0]
      have := widthN_le (k := k) (v := v / 2) (by rw [Nat.pow_succ] at h; omega)
      omega

theorem widthN_lt (v : Nat) : v < 2 ^ widthN v := by
  induction v using Nat.strongRecOn with
  | _ v ih =>
    by_cases h0 : v = 0
    · subst h0
      rw [widthN_zero]
      decide
    · rw [widthN_half h0, Nat.pow_succ]
      have := ih (v / 2) (by omega)
      omega

theorem widthN_pos {v : Nat} (h : v ≠ 0) : 0 < widthN v := by
  rw [widthN_half h]
  omega

/-- Behind k turns of its loop. -/
theorem widthN_turn {v k : Nat} (h : v / 2 ^ k ≠ 0) : widthN (v / 2 ^ k) = widthN (v / 2 ^ (k + 1)) + 1 := by
  rw [widthN_half h, Nat.div_div_eq_div_mul, ← Nat.pow_succ]

theorem widthN_at (v : Nat) : ∀ k, k ≤ widthN v → widthN (v / 2 ^ k) + k = widthN v
  | 0, _ => by simp
  | k + 1, h => by
    have ih := widthN_at v k (by omega)
    have h0 : v / 2 ^ k ≠ 0 := fun e => by
      rw [e, widthN_zero] at ih
      omega
    rw [widthN_turn h0] at ih
    omega

/-- How many zeros are at a number's end. -/
def tailN (v : Nat) : Nat := if h : v = 0 then 0 else if v % 2 = 1 then 0 else tailN (v / 2) + 1
termination_by v
decreasing_by omega

theorem tailN_odd {v : Nat} (h : v % 2 = 1) : tailN v = 0 := by
  rw [tailN, dif_neg (by omega), if_pos h]

theorem tailN_even {v : Nat} (h0 : v ≠ 0) (h : v % 2 = 0) : tailN v = tailN (v / 2) + 1 := by
  rw [tailN, dif_neg h0, if_neg (by omega)]

theorem tailN_lt {v : Nat} (h : v ≠ 0) : tailN v < widthN v := by
  induction v using Nat.strongRecOn with
  | _ v ih =>
    rw [widthN_half h]
    by_cases h2 : v % 2 = 1
    · rw [tailN_odd h2]
      omega
    · rw [tailN_even h (by omega)]
      have := ih (v / 2) (by omega) (by omega)
      omega

/-- The loop that counts them: bit by bit. -/
theorem tailN_bit {v : Nat} (h : v ≠ 0) : ∀ j, j ≤ tailN v → (v / 2 ^ j % 2 = if j < tailN v then 0 else 1) := by
  induction v using Nat.strongRecOn with
  | _ v ih =>
    intro j hj
    by_cases h2 : v % 2 = 1
    · rw [tailN_odd h2] at hj ⊢
      obtain rfl : j = 0 := by omega
      simpa using h2
    · have he := tailN_even h (by omega)
      rw [he] at hj ⊢
      match j, hj with
      | 0, _ =>
        rw [if_pos (by omega)]
        simp
        omega
      | j + 1, hj =>
        have := ih (v / 2) (by omega) (by omega) j (by omega)
        rw [Nat.pow_succ, Nat.mul_comm, ← Nat.div_div_eq_div_mul, this]
        by_cases hlt : j < tailN (v / 2)
        · rw [if_pos hlt, if_pos (by omega)]
        · rw [if_neg hlt, if_neg (by omega)]

/-- Bytes that a row of bits takes. -/
def bytesN (n : Nat) : Nat := (n + 7) / 8

theorem bytesN_full {n : Nat} (h : n % 8 = 0) : bytesN (n + 1) = bytesN n + 1 ∧ bytesN n = n / 8 := by
  unfold bytesN
  omega

theorem bytesN_part {n : Nat} (h : n % 8 ≠ 0) : bytesN (n + 1) = bytesN n ∧ n / 8 < bytesN n := by
  unfold bytesN
  omega
end Go.Proofs.YtaebpbkiaihhdaaGreatDoor

namespace Go.Proofs.YtaebpbkiaihhdaaGreatDoor
open Go Go.RowKit Go.Conc

def WidthRel (w : World) (v : Nat) (gk : Nat) (u0 u3 : Value) (wr : World) : Prop := ∃ k, k ≤ widthN v ∧ gk = widthN v - k ∧ u0 = .int .u64 (v / 2 ^ k : Nat) ∧ u3 = .int .i64 k ∧ w = wr

set_option linter.unusedSimpArgs false in
set_option maxRecDepth 100000 in
set_option maxHeartbeats 1000000 in
theorem width_spec (w : World) (v : Nat) (hv : v < 2 ^ 64) : Calls Tryz.prog 165 #[.int .u64 (v : Int)] w fun e w' => e = .returned (.int .i64 (widthN v : Nat)) ∧ w = w' := by
  have hw64 := widthN_le hv
  go_enter Tryz.func165, Tryz.ntmps165
  go_wp2_with fail
  go_loopg [0, 3] (widthN v) (WidthRel w v)
  case atStart => exact ⟨0, Nat.zero_le _, rfl, by simp, rfl, rfl⟩
  case round =>
    obtain ⟨k, hk, hgk, rfl, rfl, rfl⟩ := hrel
    have Hg := Lib.hid hgk
    clear hgk
    have hat := widthN_at v k hk
    by_cases h0 : v / 2 ^ k = 0
    · have hkw : k = widthN v := by rw [h0, widthN_zero] at hat; omega
      have HK := Lib.hid hkw
      rw [h0]
      clear hat h0
      go_wp2_with fail
      go_ret
      exact ⟨by rw [HK.out]; rfl, rfl⟩
    · have hpos := widthN_pos h0
      have hlt : k < widthN v := by omega
      have hx : ∃ x, x = v / 2 ^ k := ⟨_, rfl⟩
      obtain ⟨x, hx⟩ := hx
      have hxs : v / 2 ^ (k + 1) = x / 2 := by rw [hx, Nat.div_div_eq_div_mul, ← Nat.pow_succ]
      have hx0 : (x : Int) > 0 := by omega
      have hxb : x < 2 ^ 64 := by rw [hx]; exact Nat.lt_of_le_of_lt (Nat.div_le_self _ _) hv
      have HX := Lib.hid hxs
      rw [← hx]
      clear hx hxs h0 hat hpos
      go_wp2_with fail
      go_roundg (widthN v - (k + 1))
      case measure => have := Hg.out; omega
      case rel => exact ⟨k + 1, by omega, rfl, by rw [HX.out]; go_num, by go_num, rfl⟩
end Go.Proofs.YtaebpbkiaihhdaaGreatDoor

namespace Go.Proofs.YtaebpbkiaihhdaaGreatDoor
open Go Go.RowKit Go.Conc

/-- A chunk in block p: its row is of n bits; what else it holds. -/
def RowAt (w : World) (p n : Nat) (x2 x3 x4 x5 x6 x7 : Value) : Prop :=
  ∃ (v : Value) (l : List UInt8), w.heap[p]? = some (.cells #[v, .int .i64 n, x2, x3, x4, x5, x6, x7] 223 (0, 0)) ∧ w.ownsRow (p + 1) 5 1 v l.length (bytesV l) ∧ l.length = bytesN n

theorem RowAt.keep {w w' : World} {p n : Nat} {x2 x3 x4 x5 x6 x7 : Value} (h : RowAt w p n x2 x3 x4 x5 x6 x7) (k : Keeps [] w w') : RowAt w' p n x2 x3 x4 x5 x6 x7 := by
  obtain ⟨v, l, h1, h2, h3⟩ := h
  exact ⟨v, l, k.at_ h1 (by simp), k.row h2 (by simp), h3⟩

/-- From w to w' only blocks from p on have turned, and of these only p and blocks of bytes. -/
structure Frm (p : Nat) (w w' : World) : Prop where
  low : Below p w w'
  typ : ∀ b cs t z, b ≠ p → w.heap[b]? = some (.cells cs t z) → t ≠ 5 → w'.heap[b]? = some (.cells cs t z)
namespace Frm
variable {p : Nat} {a b c w : World}
theorem refl (p : Nat) (w : World) : Frm p w w := ⟨Below.refl _ _, fun _ _ _ _ _ h _ => h⟩

theorem trans (h : Frm p a b) (k : Frm p b c) : Frm p a c := ⟨h.low.trans k.low, fun x cs t z hx hc ht => k.typ x cs t z hx (h.typ x cs t z hx hc ht) ht⟩

theorem drew (h : Frm p a w) : Frm p a w.drew := ⟨h.low.drew, h.typ⟩

theorem setCell {i : Nat} (h : Frm p a w) (u : Value) : Frm p a (w.setCell ⟨p, i, none⟩ u) :=
  ⟨h.low.setCell (Nat.le_refl _) _, fun x cs t z hx hc ht => (heap_cell_other (w := w) (p := ⟨p, i, none⟩) u hx).trans (h.typ x cs t z hx hc ht)⟩

theorem setByte {g i : Nat} {cs : Array Value} {z : Nat × Nat} (h : Frm p a w) (hg : w.heap[g]? = some (.cells cs 5 z)) (hp : p ≤ g) (u : Value) : Frm p a (w.setCell ⟨g, i, none⟩ u) := by
  refine ⟨h.low.setCell hp _, fun x cx t y hx hc ht => ?_⟩
  have h1 := h.typ x cx t y hx hc ht
  by_cases hxg : x = g
  · subst hxg
    rw [hg] at h1
    injection h1 with h1
    injection h1 with _ h1 _
    exact absurd h1.symm ht
  · exact (heap_cell_other (w := w) (p := ⟨g, i, none⟩) u hxg).trans h1
end Frm
theorem keeps_frm {p : Nat} {w w' : World} (k : Keeps [] w w') (hp : p ≤ w.heap.size) : Frm p w w' := ⟨k.below hp (by simp), fun _ _ _ _ _ h _ => k.at_ h (by simp)⟩

theorem row_block {w : World} {B s n g : Nat} {e : TypeId} {cp : Nat} {xs : List Value} (h : w.ownsRow B e s (.slice (some ⟨g, 0, none⟩) n cp) n xs) : ∃ cs, w.heap[g]? = some (.cells cs e (0, 0)) := by
  obtain ⟨_, ⟨e1, _⟩ | ⟨g2, cap, cur, e1, hB, hg, _⟩⟩ := h
  · cases e1
  · injection e1 with e1 _ _
    injection e1 with e1
    injection e1 with e1 _ _
    subst e1
    exact ⟨_, hg⟩

/-- What turned v's block of bytes and p alone. -/
theorem frm_row {p B n : Nat} {w w' : World} {v : Value} {xs : List Value} (hr : w.ownsRow B 5 1 v n xs) (k : Keeps (p :: v.ownBlock.toList) w w') (hB : p ≤ B) (hp : p ≤ w.heap.size) : Frm p w w' := by
  refine ⟨k.below hp fun x hx => ?_, fun b cs t z hb hc ht => k.at_ hc fun hm => ?_⟩
  · simp only [List.mem_cons] at hx
    rcases hx with rfl | hx
    · exact Nat.le_refl _
    · exact Nat.le_trans hB (World.ownsRow.lt hr x (by simpa using hx)).1
  · simp only [List.mem_cons] at hm
    rcases hm with rfl | hm
    · exact hb rfl
    · exact row_ne_type hr hc ht b (by simpa using hm) rfl

/-- Another byte in a row of bytes. -/
theorem bytes_set {w : World} {B g i n : Nat} {cp : Nat} {l : List UInt8} {t : TypeId} (h : w.ownsRow B t 1 (.slice (some ⟨g, 0, none⟩) n cp) n (bytesV l)) (x : Nat) (hx : x < 256) :
    (w.setCell ⟨g, i, none⟩ (.int .u8 x)).ownsRow B t 1 (.slice (some ⟨g, 0, none⟩) n cp) n (bytesV (l.set i (UInt8.ofNat x))) := by
  obtain ⟨hlen, ⟨e, _⟩ | ⟨g2, cap, cur, e, hB, hg, hnc, hcm, hcs, htake⟩⟩ := h
  · cases e
  · injection e with e1 _ e3
    injection e1 with e1
    injection e1 with e1 _ _
    subst e1 e3
    have ex : ((UInt8.ofNat x).toNat : Int) = (x : Int) := by
      have : (UInt8.ofNat x).toNat = x := by simp; omega
      rw [this]
    have el : bytesV (l.set i (UInt8.ofNat x)) = (bytesV l).set i (.int .u8 x) := by
      unfold bytesV
      rw [List.map_set, ex]
    refine ⟨by rw [el]; simpa using hlen, .inr ⟨g, cp, cur.setIfInBounds i (.int .u8 x), rfl, hB, heap_cell_same hg _, hnc, hcm, by simpa using hcs, ?_⟩⟩
    rw [el, Array.toList_setIfInBounds, List.take_set, htake]

theorem i64_and7R (n : Int) : bits .and .i64 n 7 = n % 8 := by
  have h3 : (BitVec.ofInt 64 7).toNat = 2 ^ 3 - 1 := by decide
  have key : (BitVec.ofInt 64 n &&& BitVec.ofInt 64 7).toNat = (n % ((2 ^ 64 : Nat) : Int)).toNat % 2 ^ 3 := by
    rw [BitVec.toNat_and, BitVec.toNat_ofInt, h3, Nat.and_two_pow_sub_one_eq_mod]
  show IntKind.i64.wrap ((BitVec.ofInt 64 n &&& BitVec.ofInt 64 7).toNat : Nat) = n % 8
  rw [key, IntKind.wrap_i64]
  omega

theorem u8_or {a b : Nat} (ha : a < 256) (hb : b < 256) : ∃ x : Nat, x < 256 ∧ bits .or .u8 (a : Int) (b : Int) = (x : Int) :=
  ⟨a ||| b, Nat.or_lt_two_pow (n := 8) ha hb, (bits_nat .u8 8 (by decide) (fun n h0 h1 => by rw [IntKind.wrap_u8]; omega) a b ha hb).2⟩

theorem row_someR {B s n : Nat} {e : TypeId} {w : World} {v : Value} {xs : List Value} (h : w.ownsRow B e s v n xs) (hn : 0 < n) : ∃ g c, v = .slice (some ⟨g, 0, none⟩) n c := by
  obtain ⟨_, ⟨rfl, h0⟩ | ⟨g, cap, cur, rfl, _⟩⟩ := h
  · omega
  · exact ⟨g, cap, rfl⟩

/-- The row has room for one bit more. -/
def BitMid (w : World) (p n : Nat) (x2 x3 x4 x5 x6 x7 : Value) (wr : World) : Prop :=
  ∃ (v : Value) (l : List UInt8), wr.heap[p]? = some (.cells #[v, .int .i64 n, x2, x3, x4, x5, x6, x7] 223 (0, 0)) ∧ wr.ownsRow (p + 1) 5 1 v l.length (bytesV l) ∧ l.length = bytesN (n + 1) ∧ n / 8 < l.length ∧ Frm p w wr

set_option linter.unusedSimpArgs false in
set_option maxRecDepth 100000 in
set_option maxHeartbeats 1000000 in
theorem bit_spec (w : World) (p n : Nat) (x2 x3 x4 x5 x6 x7 : Value) (is : Bool) (hn : n < 1000000000) (h : RowAt w p n x2 x3 x4 x5 x6 x7) :
    Calls Tryz.prog 164 #[.pointer (some ⟨p, 0, none⟩), .bool is] w fun e w' => e = .returned (.tuple #[]) ∧ RowAt w' p (n + 1) x2 x3 x4 x5 x6 x7 ∧ Frm p w w' := by
  obtain ⟨v, l, hp, hr, hl⟩ := h
  have Hr := Lib.hid (And.intro hr (And.intro hl hp))
  have cp := cells_at hp
  have fp := free_at hp
  have lp := lt_of_at hp
  obtain ⟨ao, cap, rfl, -, -, -⟩ := row_slice hr
  have hand := i64_and7R (n : Int)
  obtain ⟨ib, hib, hz0, hz1, hz2⟩ := info_parts infoByte
  clear hr hl hp
  go_enter Tryz.func164, Tryz.ntmps164
  go_upto_if 9 with fail
  go_cut [] from 5 to 18 (BitMid w p n x2 x3 x4 x5 x6 x7)
  case first =>
    by_cases h8 : (n : Int) % 8 = 0
    · have hb := bytesN_full (n := n) (by omega)
      have Hb := Lib.hid hb.1
      have hlm : l.length ≤ 1000000000 := by have := Hr.out.2.1; unfold bytesN at this; omega
      have Hk := Lib.hid (And.intro h8 hlm)
      clear hb hlm
      go_wp2_with (at_builtin; refine wpList_append_own _ rfl (.tmp 14) (.tmp 15) 113 rfl (p + 1) 5 ib _ 1 1 Tryz.underlying113 hib hz0 hz1 hz2 rfl (by decide) (.slice ao l.length cap) l.length (bytesV l) rfl (Hr.out.1.alloc _) ⟨w.heap.size, 0, none⟩ 1 1 [.int .u8 0] rfl rfl (news_of (heap_new w _)) (by simp [Value.oneCell']) (by have := Hk.out.2; simp only [maxLen]; omega) (by have := Hk.out.2; omega) (by simp; omega) ?_; intro v8 w8 hown8 hgrow8 hnil; clear hnil; obtain ⟨ao8, cp8, hv8, -, -, -⟩ := row_slice hown8; subst hv8; have hn8 := (keeps_rowM hgrow8).at_ (heap_old Hr.out.2.2 _) (by have := row_ne_type Hr.out.1 Hr.out.2.2 (by decide); simpa using fun hm => this p hm rfl); have cx8 := cells_at hn8; have fx8 := free_at hn8; have lx8 := lt_of_at hn8; have H8 := Lib.hid (And.intro hown8 hgrow8); clear hown8 hgrow8 hn8 cp fp lp)
      obtain ⟨r1, r2, r3⟩ := app_field (i := 0) Hr.out.2.2 Hr.out.1 (by decide) H8.out.1 H8.out.2
      go_meet
      case rel =>
        refine ⟨_, l ++ [0], r1, by rw [bytesV_append, List.length_append]; exact r2, by rw [List.length_append, Hr.out.2.1, Hb.out]; rfl, ?_, ?_⟩
        · rw [List.length_append, Hr.out.2.1]
          have := Hk.out.1
          unfold bytesN
          simp only [List.length_cons, List.length_nil]
          omega
        · exact frm_row Hr.out.1 r3 (Nat.le_succ _) (Nat.le_of_lt (lt_of_at Hr.out.2.2))
    · have hb := bytesN_part (n := n) (by omega)
      go_wp2_with fail
      go_meet
      case rel => exact ⟨_, _, Hr.out.2.2, Hr.out.1, by rw [hb.1]; exact Hr.out.2.1, by rw [Hr.out.2.1]; exact hb.2, Frm.refl _ _⟩
  case rest =>
    obtain ⟨v, l', hp, hr, hl, hlt, hB⟩ := hcut
    obtain ⟨g, cp', rfl⟩ := row_someR hr (by omega)
    clear Hr cp fp lp
    have hgp : p < g := (World.ownsRow.lt hr g rfl).1
    have Hr := Lib.hid (And.intro hr (And.intro hl (And.intro hp (And.intro hB hlt))))
    have cp := cells_at hp
    have fp := free_at hp
    have lp := lt_of_at hp
    have lg := (World.ownsRow.lt hr g rfl).2
    have hlt' : (n : Int) / 8 < (l'.length : Int) := by omega
    have hg0 : (0 : Int) ≤ (n : Int) / 8 := by omega
    have hoff : ((n : Int) / 8).toNat = n / 8 := by omega
    have hcell : wc.cell? ⟨g, ((n : Int) / 8).toNat, none⟩ = some (.int .u8 (l'[n / 8].toNat : Int)) := by
      rw [hoff]
      have h1 := World.ownsRow.cellAt hr (n / 8) (by omega)
      have h2 : (bytesV l')[n / 8]? = some (.int .u8 (l'[n / 8].toNat : Int)) := by simp [bytesV, hlt]
      rw [h2] at h1
      exact h1
    have Hbt := Lib.hid (UInt8.toNat_lt l'[n / 8])
    generalize l'[n / 8].toNat = bt at hcell Hbt
    have fg : wc.frozen? ⟨g, ((n : Int) / 8).toNat, none⟩ = false := World.ownsRow.frozenAt hr _
    have Hoff := Lib.hid hoff
    clear hp hr hl hB hoff
    have Hn1 := Lib.hid (show (n : Int) + 1 = ((n + 1 : Nat) : Int) by omega)
    cases is
    · go_wp2_with fail
      refine bodyPost_end (results_none rfl _ _ _) rfl ?_
      rw [Hn1.out]
      exact ⟨rfl, ⟨_, l', heap_cell_same Hr.out.2.2.1 _, ownsRow_setCell_below Hr.out.1 (by simp) _, Hr.out.2.1⟩, Hr.out.2.2.2.1.setCell _⟩
    · go_upto_region 3 with fail
      go_still_tail 19, (by kernel_rfl)
      repeat still_step
      change wpList _ _ _ _ _ wc.drew
      rw [show (128 : Int) / 2 ^ ((n : Int) % 8).toNat = ((128 / 2 ^ ((n : Int) % 8).toNat : Nat) : Int) by simp]
      obtain ⟨x, hx, ex⟩ := u8_or (b := 128 / 2 ^ ((n : Int) % 8).toNat) Hbt.out (Nat.lt_of_le_of_lt (Nat.div_le_self _ _) (by decide))
      rw [ex]
      clear ex
      obtain ⟨gcs, hgb⟩ := row_block Hr.out.1
      have HR := Lib.hid (And.intro (bytes_set (i := ((n : Int) / 8).toNat) (World.ownsRow.drew Hr.out.1) x hx) (And.intro ((heap_cell_other (w := wc.drew) (p := ⟨g, ((n : Int) / 8).toNat, none⟩) (.int .u8 x) (show p ≠ g by omega)).trans Hr.out.2.2.1) (Frm.setByte (w := wc.drew) (g := g) (i := ((n : Int) / 8).toNat) Hr.out.2.2.2.1.drew hgb (by omega) (.int .u8 x))))
      go_wp2_with fail
      refine bodyPost_end (results_none rfl _ _ _) rfl ?_
      rw [Hn1.out]
      exact ⟨rfl, ⟨_, _, heap_cell_same HR.out.2.1 _, by rw [List.length_set]; exact ownsRow_setCell_below HR.out.1 (by simp) _, by rw [List.length_set]; exact Hr.out.2.1⟩, HR.out.2.2.setCell _⟩
end Go.Proofs.YtaebpbkiaihhdaaGreatDoor

namespace Go.Proofs.YtaebpbkiaihhdaaGreatDoor
open Go Go.RowKit Go.Conc

def BitsRel (w : World) (p n k : Nat) (x2 x3 x4 x5 x6 x7 : Value) (gk : Nat) (u6 : Value) (wr : World) : Prop :=
  ∃ j, j ≤ k ∧ gk = k - j ∧ u6 = .int .i64 ((k : Int) - 1 - (j : Int)) ∧ RowAt wr p (n + j) x2 x3 x4 x5 x6 x7 ∧ Frm p w wr

theorem RowAt.lt {w : World} {p n : Nat} {x2 x3 x4 x5 x6 x7 : Value} (h : RowAt w p n x2 x3 x4 x5 x6 x7) : p < w.heap.size := by
  obtain ⟨v, l, h1, -, -⟩ := h
  exact lt_of_at h1

set_option linter.unusedSimpArgs false in
set_option maxRecDepth 100000 in
set_option maxHeartbeats 1000000 in
theorem bits_spec (w : World) (p n k : Nat) (v : Int) (x2 x3 x4 x5 x6 x7 : Value) (hn : n + k < 1000000000) (hk : k ≤ 64) (h : RowAt w p n x2 x3 x4 x5 x6 x7) :
    Calls Tryz.prog 145 #[.pointer (some ⟨p, 0, none⟩), .int .u64 v, .int .i64 k] w fun e w' => e = .returned (.tuple #[]) ∧ RowAt w' p (n + k) x2 x3 x4 x5 x6 x7 ∧ Frm p w w' := by
  have h64 : (k : Int) ≤ 64 := by omega
  have hmin : min (k : Int) 64 = (k : Int) := by omega
  go_enter Tryz.func145, Tryz.ntmps145
  go_wp2_with fail
  go_loopg [6] k (BitsRel w p n k x2 x3 x4 x5 x6 x7)
  case atStart => exact ⟨0, Nat.zero_le _, rfl, by congr 1; omega, h, Frm.refl _ _⟩
  case round =>
    obtain ⟨j, hj, hgk, rfl, hr, hB⟩ := hrel
    have Hg := Lib.hid (And.intro hgk (And.intro hr hB))
    clear hgk hr hB h hmin
    by_cases hlt : j < k
    · obtain ⟨i, hi⟩ : ∃ i : Nat, (k : Int) - 1 - (j : Int) = (i : Int) := ⟨k - 1 - j, by omega⟩
      rw [hi]
      have hi64 : i < 64 := by omega
      have Hi := Lib.hid hi
      clear hi
      go_wp2_with fail
      refine (bit_spec wr p (n + j) x2 x3 x4 x5 x6 x7 _ (by omega) Hg.out.2.1).mono ?_
      rintro e w2 ⟨rfl, hr2, hB2⟩
      have H2 := Lib.hid (And.intro hr2 (Hg.out.2.2.trans hB2))
      clear hr2 hB2
      generalize (bits BinOp.and IntKind.u64 (v / 2 ^ i) 1 == 1) = bx
      generalize bits BinOp.and IntKind.u64 (v / 2 ^ i) 1 = bz
      go_wp2_with fail
      go_roundg (k - (j + 1))
      case measure => have := Hg.out.1; omega
      case rel => exact ⟨j + 1, hlt, rfl, by have := Hi.out; congr 1; omega, H2.out.1, H2.out.2⟩
    · have hge : ¬ (k : Int) - 1 - (j : Int) ≥ 0 := by omega
      obtain rfl : j = k := by omega
      go_wp2_with fail
      refine bodyPost_end (results_none rfl _ _ _) rfl ?_
      exact ⟨rfl, Hg.out.2.1, Hg.out.2.2⟩


def UnRel (w : World) (p n k : Nat) (x2 x3 x4 x5 x6 x7 : Value) (gk : Nat) (u12 : Value) (wr : World) : Prop :=
  ∃ j, j ≤ k ∧ gk = k - j ∧ u12 = .int .i64 (j : Nat) ∧ RowAt wr p (n + j) x2 x3 x4 x5 x6 x7 ∧ Frm p w wr

set_option linter.unusedSimpArgs false in
set_option maxRecDepth 100000 in
set_option maxHeartbeats 1000000 in
theorem unary_spec (w : World) (p n k : Nat) (x2 x3 x4 x5 x6 x7 : Value) (hn : n < 900000000) (hk : k ≤ 4) (h : RowAt w p n x2 x3 x4 x5 x6 x7) :
    Calls Tryz.prog 166 #[.pointer (some ⟨p, 0, none⟩), .int .i64 k, .int .i64 4] w fun e w' => e = .returned (.tuple #[]) ∧ (∃ m, m ≤ n + 4 ∧ RowAt w' p m x2 x3 x4 x5 x6 x7) ∧ Frm p w w' := by
  have h4 : (k : Int) ≤ 4 := by omega
  go_enter Tryz.func166, Tryz.ntmps166
  go_wp2_with fail
  go_loopg [12] k (UnRel w p n k x2 x3 x4 x5 x6 x7)
  case atStart => exact ⟨0, Nat.zero_le _, rfl, rfl, h, Frm.refl _ _⟩
  case round =>
    obtain ⟨j, hj, hgk, rfl, hr, hB⟩ := hrel
    have Hg := Lib.hid (And.intro hgk (And.intro hr hB))
    clear hgk hr hB h
    by_cases hlt : j < k
    · have hlt1 : (j : Int) < (k : Int) := by omega
      go_wp2_with fail
      refine (bit_spec wr p (n + j) x2 x3 x4 x5 x6 x7 true (by omega) Hg.out.2.1).mono ?_
      rintro e w2 ⟨rfl, hr2, hB2⟩
      have H2 := Lib.hid (And.intro hr2 (Hg.out.2.2.trans hB2))
      clear hr2 hB2
      go_wp2_with fail
      go_roundg (k - (j + 1))
      case measure => have := Hg.out.1; omega
      case rel => exact ⟨j + 1, hlt, rfl, by go_num, H2.out.1, H2.out.2⟩
    · have hge : ¬ (j : Int) < (k : Int) := by omega
      have hjk : j = k := by omega
      have Hjk := Lib.hid hjk
      clear hjk
      by_cases hk4 : k < 4
      · have hk4' : (k : Int) < 4 := by omega
        go_wp2_with fail
        refine (bit_spec wr p (n + j) x2 x3 x4 x5 x6 x7 false (by omega) Hg.out.2.1).mono ?_
        rintro e w2 ⟨rfl, hr2, hB2⟩
        have H2 := Lib.hid (And.intro hr2 (Hg.out.2.2.trans hB2))
        clear hr2 hB2
        go_wp2_with fail
        refine bodyPost_end (results_none rfl _ _ _) rfl ?_
        exact ⟨rfl, ⟨_, by have := Hjk.out; omega, H2.out.1⟩, H2.out.2⟩
      · have hk4' : ¬ (k : Int) < 4 := by omega
        go_wp2_with fail
        refine bodyPost_end (results_none rfl _ _ _) rfl ?_
        exact ⟨rfl, ⟨_, by have := Hjk.out; omega, Hg.out.2.1⟩, Hg.out.2.2⟩

set_option linter.unusedSimpArgs false in
set_option maxRecDepth 100000 in
theorem len_spec (w : World) (p n : Nat) (x2 x3 x4 x5 x6 x7 : Value) (h : RowAt w p n x2 x3 x4 x5 x6 x7) :
    Calls Tryz.prog 149 #[.pointer (some ⟨p, 0, none⟩)] w fun e w' => e = .returned (.int .i64 n) ∧ w = w' := by
  obtain ⟨v, l, hp, -, -⟩ := h
  have cp := cells_at hp
  have lp := lt_of_at hp
  clear hp
  go_enter Tryz.func149, Tryz.ntmps149
  go_wp2_with fail
  go_ret
  exact ⟨rfl, rfl⟩

set_option linter.unusedSimpArgs false in
set_option maxRecDepth 100000 in
theorem rowText_spec (w : World) (p n : Nat) (x2 x3 x4 x5 x6 x7 : Value) (h : RowAt w p n x2 x3 x4 x5 x6 x7) :
    Calls Tryz.prog 150 #[.pointer (some ⟨p, 0, none⟩)] w fun e w' => (∃ s : ByteArray, e = .returned (.string s) ∧ s.size = bytesN n) ∧ w = w' := by
  obtain ⟨v, l, hp, hr, hl⟩ := h
  have cp := cells_at hp
  have lp := lt_of_at hp
  have hrun := (show Buf w v l from row_base hr (Nat.zero_le _)).run_string
  obtain ⟨ao, cap, rfl, -, -, -⟩ := row_slice hr
  have Hl := Lib.hid hl
  clear hp hr hl
  go_enter Tryz.func150, Tryz.ntmps150
  go_wp2_with fail
  go_ret
  exact ⟨⟨_, rfl, Hl.out⟩, rfl⟩
end Go.Proofs.YtaebpbkiaihhdaaGreatDoor

namespace Go.Proofs.YtaebpbkiaihhdaaGreatDoor
open Go Go.RowKit Go.Conc

def wd : Nat → Nat
  | 0 => 0
  | 1 => 7
  | 2 => 12
  | 3 => 20
  | _ => 64

def XorVar (w : World) : Prop := ∀ k, k < 5 → w.cell? ⟨1, k, none⟩ = some (.int .i64 (wd k : Nat))

theorem XorVar.lt {w : World} (h : XorVar w) : 1 < w.heap.size := World.block_lt_of_cell? w _ (h 0 (by decide))

theorem XorVar.below {w w' : World} {p : Nat} (h : XorVar w) (hB : Frm p w w') (hp : 1 < p) : XorVar w' := fun k hk => (hB.low.cell (p := ⟨1, k, none⟩) hp).trans (h k hk)

theorem XorVar.same {w w' : World} (h : XorVar w) (k : Keeps [] w w') : XorVar w' := fun j hj => (k.cell h.lt (by simp)).trans (h j hj)

theorem RowAt.pos {w : World} {p n : Nat} {x2 x3 x4 x5 x6 x7 : Value} (h : RowAt w p n x2 x3 x4 x5 x6 x7) : p ≤ w.heap.size := Nat.le_of_lt h.lt

theorem u64_bits_in (op : BinOp) (a b : Int) : ∃ u : Nat, u < 18446744073709551616 ∧ bits op .u64 a b = (u : Int) := by
  have key : ∀ z : Int, ∃ u : Nat, u < 18446744073709551616 ∧ IntKind.u64.wrap z = (u : Int) := fun z => by
    rw [IntKind.wrap_u64]
    have h0 := Int.emod_nonneg z (b := 18446744073709551616) (by decide)
    have h1 := Int.emod_lt_of_pos z (b := 18446744073709551616) (by decide)
    exact ⟨(z % 18446744073709551616).toNat, by omega, by omega⟩
  unfold bits
  exact key _

set_option linter.unusedSimpArgs false in
set_option maxRecDepth 100000 in
theorem zig_spec (w : World) (d : Int) : Calls Tryz.prog 147 #[.int .i64 d] w fun e w' => (∃ u : Nat, u < 18446744073709551616 ∧ e = .returned (.int .u64 u)) ∧ w = w' := by
  go_enter Tryz.func147, Tryz.ntmps147
  go_wp2_with fail
  go_ret
  obtain ⟨u, hu, he⟩ := u64_bits_in .xor (IntKind.u64.wrap (wrap64 (d * 2))) (IntKind.u64.wrap (d / 9223372036854775808))
  exact ⟨⟨u, hu, by rw [← he]; rfl⟩, rfl⟩


theorem quiet_stayX {P : Program} {f : FuncId} {args : Array Value} {w : World} {n : Nat} {v : Value} (h : Calls P f args (w.drewN n) fun e w' => e = .returned v ∧ w.drewN n = w') : Calls P f args (w.drewN n) fun e w'' => e = .returned v ∧ ∃ m, w'' = w.drewN m :=
  h.mono fun _ _ ⟨he, hm⟩ => ⟨he, n, hm.symm⟩

def TimeRel (w : World) (gk : Nat) (u4 : Value) (wr : World) : Prop := ∃ k, k ≤ 4 ∧ gk = 4 - k ∧ u4 = .int .i64 (k : Nat) ∧ Keeps [] w wr

set_option linter.unusedSimpArgs false in
set_option maxRecDepth 100000 in
set_option maxHeartbeats 1000000 in
theorem time_spec (w : World) (hX : XorVar w) (p n u : Nat) (x2 x3 x4 x5 x6 x7 : Value) (hp : 1 < p) (hn : n < 900000000) (hu : u < 18446744073709551616) (h : RowAt w p n x2 x3 x4 x5 x6 x7) :
    Calls Tryz.prog 146 #[.pointer (some ⟨p, 0, none⟩), .int .u64 u] w fun e w' => e = .returned (.tuple #[]) ∧ (∃ m, m ≤ n + 68 ∧ RowAt w' p m x2 x3 x4 x5 x6 x7) ∧ Frm p w w' := by
  have hw64 := widthN_le (k := 64) (v := u) (by simpa using hu)
  have Hw := Lib.hid (fun W => width_spec W u (by simpa using hu))
  have H0 := Lib.hid (And.intro hX h)
  clear hX h
  go_enter Tryz.func146, Tryz.ntmps146
  go_wp2_with fail
  go_loopg [4] 4 (TimeRel w)
  case atStart => exact ⟨0, by decide, rfl, rfl, Keeps.refl _ _⟩
  case round =>
    obtain ⟨k, hk, hgk, rfl, hkw⟩ := hrel
    have Hg := Lib.hid (And.intro hgk hkw)
    have hc := (H0.out.1.same hkw) k (by omega)
    have hk5 : (k : Int) < 5 := by omega
    have hgb := H0.out.1.same hkw |>.lt
    clear hgk hkw
    obtain ⟨d, hd⟩ : ∃ d, d = wd k := ⟨_, rfl⟩
    obtain ⟨z, hz⟩ : ∃ z, z = widthN u := ⟨_, rfl⟩
    rw [← hd] at hc
    rw [← hz] at Hw hw64
    have Hd := Lib.hid (And.intro hd hz)
    by_cases hgt : d < z
    · have hk4 : k < 4 := by
        rcases (by omega : k = 0 ∨ k = 1 ∨ k = 2 ∨ k = 3 ∨ k = 4) with rfl | rfl | rfl | rfl | rfl <;> simp [wd] at hd <;> omega
      have hgt' : (z : Int) > (d : Int) := by omega
      clear hd hz hw64
      go_upto_region 1 with fail
      go_quiet ((go_at_call 165; exact quiet_stayX (Hw.out _)))
      go_wp2_with fail
      go_roundg (4 - (k + 1))
      case measure => have := Hg.out.1; omega
      case rel => exact ⟨k + 1, by omega, rfl, by go_num, Hg.out.2.drewN _⟩
    · have hgt' : ¬ (z : Int) > (d : Int) := by omega
      clear hd hz hw64
      go_upto_region 1 with fail
      go_quiet ((go_at_call 165; exact quiet_stayX (Hw.out _)))
      have hd64 : d ≤ 64 := by
        have := Hd.out.1
        rcases (by omega : k = 0 ∨ k = 1 ∨ k = 2 ∨ k = 3 ∨ k = 4) with rfl | rfl | rfl | rfl | rfl <;> simp [wd] at this <;> omega
      obtain ⟨W1, hW1⟩ : ∃ W1, W1 = wr.drewN nq := ⟨_, rfl⟩
      rw [← hW1]
      have k1 : Keeps [] w W1 := by rw [hW1]; exact Hg.out.2.drewN _
      have H1 := Lib.hid (And.intro k1 (H0.out.2.keep k1))
      clear hW1 k1 hc hgb hgt'
      go_wp2_with fail
      refine (unary_spec W1 p n k x2 x3 x4 x5 x6 x7 hn hk H1.out.2).mono ?_
      rintro e w2 ⟨rfl, ⟨m2, hm2, hr2⟩, hB2⟩
      have hX2 := (H0.out.1.same H1.out.1).below hB2 hp
      have hgb := hX2.lt
      have hc := hX2 k (by omega)
      rw [← Hd.out.1] at hc
      have H2 := Lib.hid (And.intro hr2 (Frm.trans (keeps_frm H1.out.1 H0.out.2.pos) hB2))
      clear hr2 hB2 hX2
      go_upto_region 4 with fail
      go_still_tail 7, (by kernel_rfl)
      repeat still_step
      change wpList _ _ _ _ _ w2.drew
      go_wp2_with fail
      refine (bits_spec w2.drew p m2 d u x2 x3 x4 x5 x6 x7 (by omega) hd64 (H2.out.1.keep (Keeps.refl [] _).drew)).mono ?_
      rintro e w3 ⟨rfl, hr3, hB3⟩
      have H3 := Lib.hid (And.intro hr3 (H2.out.2.trans (Frm.trans ((Frm.refl _ _).drew) hB3)))
      clear hr3 hB3
      go_wp2_with fail
      refine bodyPost_end (results_none rfl _ _ _) rfl ?_
      exact ⟨rfl, ⟨_, by omega, H3.out.1⟩, H3.out.2⟩
end Go.Proofs.YtaebpbkiaihhdaaGreatDoor

namespace Go.Proofs.YtaebpbkiaihhdaaGreatDoor
open Go Go.RowKit Go.Conc

theorem u64_and1 {x : Nat} (hx : x < 18446744073709551616) : bits .and .u64 (x : Int) 1 = ((x % 2 : Nat) : Int) := by
  have h := (bits_nat .u64 64 (by decide) (fun n h0 h1 => by rw [IntKind.wrap_u64]; omega) x 1 (by simpa using hx) (by decide)).1
  rw [Nat.and_one_is_mod] at h
  exact h

def TailRel (w : World) (x : Nat) (gk : Nat) (u5 : Value) (wr : World) : Prop := ∃ t, t ≤ tailN x ∧ gk = tailN x - t ∧ u5 = .int .i64 (t : Nat) ∧ wr = w

def CondRel (w : World) (w0 : Nat) (c : Value) (wc : World) : Prop := ∃ b : Bool, c = .bool b ∧ (b = true → 0 < w0) ∧ Keeps [] w wc

def ValMid (w : World) (p n : Nat) (x2 x3 x4 x5 : Value) (wr : World) : Prop := ∃ m l1 w1 : Nat, m ≤ n + 14 ∧ l1 + w1 ≤ 64 ∧ RowAt wr p m x2 x3 x4 x5 (.int .i64 l1) (.int .i64 w1) ∧ Frm p w wr

theorem RowAt.set67 {w : World} {p n : Nat} {x2 x3 x4 x5 x6 x7 : Value} (h : RowAt w p n x2 x3 x4 x5 x6 x7) (y6 y7 : Value) : RowAt ((w.setCell ⟨p, 6, none⟩ y6).setCell ⟨p, 7, none⟩ y7) p n x2 x3 x4 x5 y6 y7 := by
  obtain ⟨v, l, h1, h2, h3⟩ := h
  exact ⟨v, l, heap_cell_same (heap_cell_same h1 _) _, ownsRow_setCell_below (ownsRow_setCell_below h2 (by simp) _) (by simp) _, h3⟩

theorem RowAt.cells {w : World} {p n : Nat} {x2 x3 x4 x5 x6 x7 : Value} (h : RowAt w p n x2 x3 x4 x5 x6 x7) : w.cell? ⟨p, 2, none⟩ = some x2 ∧ w.cell? ⟨p, 3, none⟩ = some x3 ∧ w.cell? ⟨p, 4, none⟩ = some x4 ∧ w.cell? ⟨p, 5, none⟩ = some x5 ∧ w.cell? ⟨p, 6, none⟩ = some x6 ∧ w.cell? ⟨p, 7, none⟩ = some x7 ∧ ∀ i, w.frozen? ⟨p, i, none⟩ = false := by
  obtain ⟨v, l, h1, -, -⟩ := h
  refine ⟨?_, ?_, ?_, ?_, ?_, ?_, free_at h1⟩ <;> rw [cells_at h1] <;> rfl

set_option linter.unusedSimpArgs false in
set_option maxRecDepth 100000 in
set_option maxHeartbeats 2000000 in
theorem value_spec (w : World) (p n x l0 w0 : Nat) (x2 x3 x4 x5 : Value) (hn : n < 900000000) (hx : x < 18446744073709551616) (hlw : l0 + w0 ≤ 64) (h : RowAt w p n x2 x3 x4 x5 (.int .i64 l0) (.int .i64 w0)) :
    Calls Tryz.prog 148 #[.pointer (some ⟨p, 0, none⟩), .int .u64 x] w fun e w' => e = .returned (.tuple #[]) ∧ (∃ m l1 w1 : Nat, m ≤ n + 78 ∧ l1 + w1 ≤ 64 ∧ RowAt w' p m x2 x3 x4 x5 (.int .i64 l1) (.int .i64 w1)) ∧ Frm p w w' := by
  have hw64 := widthN_le (k := 64) (v := x) (by simpa using hx)
  have Hw := Lib.hid (fun W => width_spec W x (by simpa using hx))
  have lp := h.lt
  by_cases hx0 : x = 0
  · subst hx0
    rw [show ((0 : Nat) : Int) = 0 from rfl]
    have Hb := Lib.hid (bit_spec w p n x2 x3 x4 x5 _ _ false (by omega) h)
    clear h hw64 Hw
    go_enter Tryz.func148, Tryz.ntmps148
    go_wp2_with fail
    refine Hb.out.mono ?_
    rintro e w2 ⟨rfl, hr2, hB2⟩
    have H2 := Lib.hid (And.intro hr2 hB2)
    clear hr2 hB2
    go_wp2_with fail
    refine bodyPost_ret (results_none rfl _ _ _) rfl ?_
    exact ⟨rfl, ⟨_, _, _, by omega, hlw, H2.out.1⟩, H2.out.2⟩
  · have htl := tailN_lt hx0
    have hx0' : ¬ (x : Int) = 0 := by omega
    have Hh := Lib.hid h
    clear h
    go_enter Tryz.func148, Tryz.ntmps148
    go_wp2_with fail
    refine (bit_spec w p n x2 x3 x4 x5 _ _ _ (by omega) Hh.out).mono ?_
    rintro e w2 ⟨rfl, hr2, hB2⟩
    have H2 := Lib.hid (And.intro hr2 hB2)
    clear hr2 hB2 Hh
    go_wp2_with fail
    refine (Hw.out _).mono ?_
    rintro e w3 ⟨rfl, rfl⟩
    have hsub : (64 : Int) - (widthN x : Int) = ((64 - widthN x : Nat) : Int) := by omega
    go_wp2_with fail
    go_loopg [5] (tailN x) (TailRel w2 x)
    case atStart => exact ⟨0, Nat.zero_le _, rfl, rfl, rfl⟩
    case round =>
      obtain ⟨t, ht, hgk, rfl, rfl⟩ := hrel
      have Hg := Lib.hid hgk
      clear hgk
      have hbit := tailN_bit hx0 t ht
      have hand := u64_and1 (x := x / 2 ^ t) (Nat.lt_of_le_of_lt (Nat.div_le_self _ _) hx)
      rw [hbit, show ((x / 2 ^ t : Nat) : Int) = (x : Int) / 2 ^ t by simp] at hand
      clear hbit
      by_cases hlt : t < tailN x
      · rw [if_pos hlt] at hand
        have ht64 : t < 64 := by omega
        go_wp2_with fail
        go_roundg (tailN x - (t + 1))
        case measure => have := Hg.out; omega
        case rel => exact ⟨t + 1, hlt, rfl, by go_num, rfl⟩
      · rw [if_neg hlt] at hand
        have ht64 : t < 64 := by omega
        go_upto_region 6 with fail
        have htt : t = tailN x := by omega
        obtain ⟨a, ha⟩ : ∃ a, a = 64 - widthN x := ⟨_, rfl⟩
        rw [← ha]
        have hat : a + t < 64 := by omega
        have HA := Lib.hid (And.intro ha htt)
        obtain ⟨c2, c3, c4, c5, c6, c7, fz⟩ := H2.out.1.cells
        have lp2 := H2.out.1.lt
        clear hand hlt ha htt htl
        go_cut [50] from 24 to 49 (CondRel wr w0)
        case first =>
          have hways : decide (0 < w0) = false ∨ (decide (0 < w0) = true ∧ decide (l0 ≤ a) = false) ∨ (decide (0 < w0) = true ∧ decide (l0 ≤ a) = true ∧ decide (64 - (l0 : Int) - (w0 : Int) ≤ (t : Int)) = false) ∨ (decide (0 < w0) = true ∧ decide (l0 ≤ a) = true ∧ decide (64 - (l0 : Int) - (w0 : Int) ≤ (t : Int)) = true) := by
            simp only [decide_eq_true_eq, decide_eq_false_iff_not]
            omega
          have hr1 := IntWalk.i64_in (64 - (l0 : Int)) (by omega)
          have hr2 := IntWalk.i64_in (64 - (l0 : Int) - (w0 : Int)) (by omega)
          rcases hways with h1 | ⟨h1, h2⟩ | ⟨h1, h2, h3⟩ | ⟨h1, h2, h3⟩
          all_goals
            have Hw1 := Lib.hid h1
            go_quiet (fail)
            go_wp2_with fail
            go_meet
            case rel => exact ⟨_, rfl, by first | (intro _; simpa using Hw1.out) | (intro h; cases h), (Keeps.refl [] _).drewN _⟩
        case rest =>
          obtain ⟨b, rfl, hb, hk⟩ := hcut
          have Hb := Lib.hid hb
          have H3 := Lib.hid (And.intro (H2.out.1.keep hk) (Frm.trans H2.out.2 (keeps_frm hk (Nat.le_of_lt lp2))))
          have lp3 := hk.lt lp2
          clear hb hk c2 c3 c4 c5 c6 c7 fz lp2 H2
          have Hs := Lib.hid (show (64 : Int) - (a : Int) - (t : Int) = ((64 - a - t : Nat) : Int) by omega)
          have hr1 := IntWalk.i64_in (64 - (a : Int)) (by omega)
          have hr2 := IntWalk.i64_in (64 - (a : Int) - (t : Int)) (by omega)
          go_upto_if 50 with fail
          go_cut [] from 24 to 85 (ValMid w p n x2 x3 x4 x5)
          case first =>
            cases b
            · go_wp2_with fail
              refine (bit_spec wc p (n + 1) x2 x3 x4 x5 _ _ _ (by omega) H3.out.1).mono ?_
              rintro e w4 ⟨rfl, hr4, hB4⟩
              obtain ⟨c2, c3, c4, c5, c6, c7, fz⟩ := hr4.cells
              have lp4 := hr4.lt
              have H4 := Lib.hid (And.intro hr4 (H3.out.2.trans hB4))
              clear hr4 hB4
              go_upto_region 10 with fail
              rw [Hs.out]
              have hr5 := H4.out.1.set67 (.int .i64 (a : Nat)) (.int .i64 ((64 - a - t : Nat) : Int))
              have hB5 := (H4.out.2.setCell (i := 6) (.int .i64 (a : Nat))).setCell (i := 7) (.int .i64 ((64 - a - t : Nat) : Int))
              generalize (w4.setCell ⟨p, 6, none⟩ (.int .i64 (a : Nat))).setCell ⟨p, 7, none⟩ (.int .i64 ((64 - a - t : Nat) : Int)) = w5 at hr5 hB5 ⊢
              have hx7 : ∃ q, q = 64 - a - t := ⟨_, rfl⟩
              obtain ⟨q, hq⟩ := hx7
              rw [← hq] at hr5
              have H5 := Lib.hid (And.intro hr5 (And.intro hB5 hq))
              have lp5 := hr5.lt
              clear hr5 hB5 hq c2 c3 c4 c5 c6 c7 fz lp4 hr1 hr2
              go_wp2_with fail
              refine (bits_spec w5 p (n + 2) 6 _ x2 x3 x4 x5 _ _ (by omega) (by decide) H5.out.1).mono ?_
              rintro e w6 ⟨rfl, hr6, hB6⟩
              obtain ⟨c2, c3, c4, c5, c6, c7, fz⟩ := hr6.cells
              have lp6 := hr6.lt
              have H6 := Lib.hid (And.intro hr6 (H5.out.2.1.trans hB6))
              have hq1 : (1 : Int) ≤ (q : Int) := by have := H5.out.2.2; omega
              have hq2 : (q : Int) ≤ 64 := by have := H5.out.2.2; omega
              clear hr6 hB6 lp5
              go_upto_region 11 with fail
              go_still_tail 9, (by kernel_rfl)
              repeat still_step
              change wpList _ _ _ _ _ w6.drew
              go_wp2_with fail
              refine (bits_spec w6.drew p (n + 2 + 6) 6 _ x2 x3 x4 x5 _ _ (by omega) (by decide) (H6.out.1.keep (Keeps.refl [] _).drew)).mono ?_
              rintro e w7 ⟨rfl, hr7, hB7⟩
              have H7 := Lib.hid (And.intro hr7 (Frm.trans H6.out.2 (Frm.trans ((Frm.refl _ _).drew) hB7)))
              clear hr7 hB7 c2 c3 c4 c5 c6 c7 fz lp6
              go_wp2_with fail
              go_meet
              case rel => exact ⟨_, a, q, by omega, by have := H5.out.2.2; omega, H7.out.1, H7.out.2⟩
            · go_wp2_with fail
              refine (bit_spec wc p (n + 1) x2 x3 x4 x5 _ _ _ (by omega) H3.out.1).mono ?_
              rintro e w4 ⟨rfl, hr4, hB4⟩
              have H4 := Lib.hid (And.intro hr4 (H3.out.2.trans hB4))
              clear hr4 hB4
              go_wp2_with fail
              go_meet
              case rel => exact ⟨_, _, _, by omega, hlw, H4.out.1, H4.out.2⟩
          case rest =>
            obtain ⟨m, l1, w1, hm, hlw1, hr, hB⟩ := hcut
            obtain ⟨c2, c3, c4, c5, c6, c7, fz⟩ := hr.cells
            have lp6 := hr.lt
            have H6 := Lib.hid (And.intro hr hB)
            have hr3 := IntWalk.i64_in (64 - (l1 : Int)) (by omega)
            have hr4 := IntWalk.i64_in (64 - (l1 : Int) - (w1 : Int)) (by omega)
            have h0 : (0 : Int) ≤ 64 - (l1 : Int) - (w1 : Int) := by omega
            clear hr hB hr1 hr2 H3 lp3
            go_upto_region 12 with fail
            go_still_tail 19, (by kernel_rfl)
            repeat still_step
            change wpList _ _ _ _ _ wc.drew
            go_wp2_with fail
            refine (bits_spec _ p m w1 _ x2 x3 x4 x5 _ _ (by omega) (by omega) (H6.out.1.keep (Keeps.refl [] _).drew)).mono ?_
            rintro e w7 ⟨rfl, hr7, hB7⟩
            have H7 := Lib.hid (And.intro hr7 (Frm.trans H6.out.2 (Frm.trans ((Frm.refl _ _).drew) hB7)))
            clear hr7 hB7
            go_wp2_with fail
            refine bodyPost_end (results_none rfl _ _ _) rfl ?_
            exact ⟨rfl, ⟨_, _, _, by omega, hlw1, H7.out.1⟩, H7.out.2⟩
end Go.Proofs.YtaebpbkiaihhdaaGreatDoor

namespace Go.Proofs.YtaebpbkiaihhdaaGreatDoor
open Go Go.RowKit Go.Conc

section
variable {w : World} {p n : Nat} {x2 x3 x4 x5 x6 x7 : Value}
theorem RowAt.set2 (h : RowAt w p n x2 x3 x4 x5 x6 x7) (y : Value) : RowAt (w.setCell ⟨p, 2, none⟩ y) p n y x3 x4 x5 x6 x7 := by
  obtain ⟨v, l, h1, h2, h3⟩ := h
  exact ⟨v, l, heap_cell_same h1 _, ownsRow_setCell_below h2 (by simp) _, h3⟩

theorem RowAt.set5 (h : RowAt w p n x2 x3 x4 x5 x6 x7) (y : Value) : RowAt (w.setCell ⟨p, 5, none⟩ y) p n x2 x3 x4 y x6 x7 := by
  obtain ⟨v, l, h1, h2, h3⟩ := h
  exact ⟨v, l, heap_cell_same h1 _, ownsRow_setCell_below h2 (by simp) _, h3⟩

theorem RowAt.set34 (h : RowAt w p n x2 x3 x4 x5 x6 x7) (y z : Value) : RowAt ((w.setCell ⟨p, 3, none⟩ y).setCell ⟨p, 4, none⟩ z) p n x2 y z x5 x6 x7 := by
  obtain ⟨v, l, h1, h2, h3⟩ := h
  exact ⟨v, l, heap_cell_same (heap_cell_same h1 _) _, ownsRow_setCell_below (ownsRow_setCell_below h2 (by simp) _) (by simp) _, h3⟩
end
/-- A chunk of N samples, the last one (T, V), in n bits. -/
def ChunkAt (w : World) (p n N : Nat) (T : Int) (V : Nat) : Prop := ∃ (st : Int) (l0 w0 : Nat), l0 + w0 ≤ 64 ∧ RowAt w p n (.int .i64 N) (.int .i64 T) (.int .u64 V) (.int .i64 st) (.int .i64 l0) (.int .i64 w0)

set_option linter.unusedSimpArgs false in
set_option maxRecDepth 100000 in
set_option maxHeartbeats 2000000 in
theorem append0_spec (w : World) (p n : Nat) (t : Int) (y V : Nat) (T : Int) (hn : n < 900000000) (ht : 0 ≤ t ∧ t ≤ 1099511627776) (h : ChunkAt w p n 0 T V) :
    Calls Tryz.prog 125 #[.pointer (some ⟨p, 0, none⟩), .agg #[.int .i64 t, .int .u64 y]] w fun e w' => e = .returned (.int .i64 0) ∧ (∃ m, m ≤ n + 105 ∧ ChunkAt w' p m 1 t y) ∧ Frm p w w' := by
  obtain ⟨st, l0, w0, hlw, h⟩ := h
  have k0 : Keeps [] w (w.alloc (.cells #[.int .i64 t, .int .u64 y] 147)) := (Keeps.refl [] w).alloc _
  have n0 := heap_new w (.cells #[.int .i64 t, .int .u64 y] 147)
  have lp := h.lt
  obtain ⟨q, hq⟩ : ∃ q, q = w.heap.size := ⟨_, rfl⟩
  have hqp : p < q := by omega
  have H0 := Lib.hid (And.intro (h.keep k0) (And.intro (keeps_frm k0 h.pos) hlw))
  obtain ⟨c2, c3, c4, c5, c6, c7, fz⟩ := (h.keep k0).cells
  have hg1 : ¬ t < 0 := by omega
  have hg2 : ¬ t > 1099511627776 := by omega
  clear h ht hlw k0
  rw [← hq] at n0
  have HQ := Lib.hid hq
  go_enter Tryz.func125, Tryz.ntmps125
  go_upto_region 1 with fail
  rw [← hq]
  clear hq
  generalize w.alloc (.cells #[.int .i64 t, .int .u64 y] 147) = W0 at n0 H0 c2 c3 c4 c5 c6 c7 fz ⊢
  have lpW : p < W0.heap.size := H0.out.1.lt
  have cq := cells_at n0
  have lq := lt_of_at n0
  have c2 : W0.cell? ⟨p, 2, none⟩ = some (.int .i64 0) := c2
  go_upto_region 3 with fail
  go_quiet (fail)
  obtain ⟨W1, hW1⟩ : ∃ W1, W1 = W0.drewN nq := ⟨_, rfl⟩
  rw [← hW1]
  have k1 : Keeps [] W0 W1 := by rw [hW1]; exact (Keeps.refl [] _).drewN _
  have n1 := k1.at_ n0 (by simp)
  have H1 := Lib.hid (And.intro (H0.out.1.keep k1) (Frm.trans H0.out.2.1 (keeps_frm k1 (Nat.le_of_lt lpW))))
  obtain ⟨d2, d3, d4, d5, d6, d7, fd⟩ := (H0.out.1.keep k1).cells
  have d2 : W1.cell? ⟨p, 2, none⟩ = some (.int .i64 0) := d2
  have dq := cells_at n1
  have lq1 := lt_of_at n1
  have lp1 := H1.out.1.lt
  clear c2 c3 c4 c5 c6 c7 fz cq lq lpW n0 hW1 k1
  go_upto_region 8 with fail
  go_still_tail 6, (by kernel_rfl)
  repeat still_step
  change wpList _ _ _ _ _ W1.drew
  go_wp2_with fail
  refine (bits_spec W1.drew p n 41 _ _ _ _ _ _ _ (by omega) (by decide) (H1.out.1.keep (Keeps.refl [] _).drew)).mono ?_
  rintro e W2 ⟨rfl, hr2, hB2⟩
  have n2 := hB2.typ q _ _ _ (by omega) n1 (by decide)
  have H2 := Lib.hid (And.intro hr2 (H1.out.2.trans (Frm.trans ((Frm.refl _ _).drew) hB2)))
  have dq := cells_at n2
  have lq2 := lt_of_at n2
  have lp2 := hr2.lt
  clear hr2 hB2 d2 d3 d4 d5 d6 d7 fd lq1 lp1 n1
  go_upto_region 9 with fail
  go_still_tail 5, (by kernel_rfl)
  repeat still_step
  change wpList _ _ _ _ _ W2.drew
  go_wp2_with fail
  refine (bits_spec W2.drew p (n + 41) 64 _ _ _ _ _ _ _ (by omega) (by decide) (H2.out.1.keep (Keeps.refl [] _).drew)).mono ?_
  rintro e W3 ⟨rfl, hr3, hB3⟩
  have n3 := hB3.typ q _ _ _ (by omega) n2 (by decide)
  have H3 := Lib.hid (And.intro hr3 (H2.out.2.trans (Frm.trans ((Frm.refl _ _).drew) hB3)))
  obtain ⟨d2, d3, d4, d5, d6, d7, fd⟩ := hr3.cells
  have d2 : W3.cell? ⟨p, 2, none⟩ = some (.int .i64 0) := d2
  have dq := cells_at n3
  have lq2 := lt_of_at n3
  have lp3 := hr3.lt
  clear hr3 hB3 lp2 n2 n3
  go_wp2_with fail
  go_ret
  exact ⟨rfl, ⟨_, by omega, st, l0, w0, H0.out.2.2, (H3.out.1.set34 _ _).set2 _⟩, ((H3.out.2.setCell (i := 3) _).setCell (i := 4) _).setCell (i := 2) _⟩

set_option linter.unusedSimpArgs false in
set_option maxRecDepth 100000 in
set_option maxHeartbeats 2000000 in
theorem append1_spec (w : World) (hX : XorVar w) (p n N : Nat) (t : Int) (y V : Nat) (T : Int) (hxp : 1 < p) (hn : n < 800000000) (hN : 0 < N) (hN2 : N < 120) (ht : 0 ≤ T ∧ T < t ∧ t ≤ 1099511627776) (hy : y < 18446744073709551616) (hV : V < 18446744073709551616) (h : ChunkAt w p n N T V) :
    Calls Tryz.prog 125 #[.pointer (some ⟨p, 0, none⟩), .agg #[.int .i64 t, .int .u64 y]] w fun e w' => e = .returned (.int .i64 0) ∧ (∃ m, m ≤ n + 146 ∧ ChunkAt w' p m (N + 1) t y) ∧ Frm p w w' := by
  obtain ⟨st, l0, w0, hlw, h⟩ := h
  have k0 : Keeps [] w (w.alloc (.cells #[.int .i64 t, .int .u64 y] 147)) := (Keeps.refl [] w).alloc _
  have n0 := heap_new w (.cells #[.int .i64 t, .int .u64 y] 147)
  have lp := h.lt
  obtain ⟨q, hq⟩ : ∃ q, q = w.heap.size := ⟨_, rfl⟩
  have hqp : p < q := by omega
  have H0 := Lib.hid (And.intro (h.keep k0) (And.intro (keeps_frm k0 h.pos) (And.intro hlw (hX.same k0))))
  obtain ⟨c2, c3, c4, c5, c6, c7, fz⟩ := (h.keep k0).cells
  have hg1 : ¬ t < 0 := by omega
  have hg2 : ¬ t > 1099511627776 := by omega
  have hz1 : decide (0 < N) = true := by simpa using hN
  have hz2 : decide (t ≤ T) = false := by simp; omega
  have hN0 : ¬ (N : Int) = 0 := by omega
  have hN3 : ¬ (N : Int) = 120 := by omega
  have hst := IntWalk.i64_in (t - T) (by omega)
  have HT := Lib.hid ht
  have HN := Lib.hid hN
  clear h hlw k0 ht hX
  rw [← hq] at n0
  have HQ := Lib.hid hq
  go_enter Tryz.func125, Tryz.ntmps125
  go_upto_region 1 with fail
  rw [← hq]
  clear hq
  generalize w.alloc (.cells #[.int .i64 t, .int .u64 y] 147) = W0 at n0 H0 c2 c3 c4 c5 c6 c7 fz ⊢
  have lpW : p < W0.heap.size := H0.out.1.lt
  have cq := cells_at n0
  have lq := lt_of_at n0
  go_upto_region 3 with fail
  go_quiet (fail)
  obtain ⟨W1, hW1⟩ : ∃ W1, W1 = W0.drewN nq := ⟨_, rfl⟩
  rw [← hW1]
  have k1 : Keeps [] W0 W1 := by rw [hW1]; exact (Keeps.refl [] _).drewN _
  have n1 := k1.at_ n0 (by simp)
  have H1 := Lib.hid (And.intro (H0.out.1.keep k1) (And.intro (Frm.trans H0.out.2.1 (keeps_frm k1 (Nat.le_of_lt lpW))) (H0.out.2.2.2.same k1)))
  obtain ⟨d2, d3, d4, d5, d6, d7, fd⟩ := (H0.out.1.keep k1).cells
  have dq := cells_at n1
  have lq1 := lt_of_at n1
  have lp1 := H1.out.1.lt
  clear c2 c3 c4 c5 c6 c7 fz cq lq lpW n0 hW1 k1
  go_upto_region 10 with fail
  go_quiet (fail)
  obtain ⟨W2, hW2⟩ : ∃ W2, W2 = W1.drewN nq := ⟨_, rfl⟩
  rw [← hW2]
  have k2 : Keeps [] W1 W2 := by rw [hW2]; exact (Keeps.refl [] _).drewN _
  have n2 := k2.at_ n1 (by simp)
  have H2 := Lib.hid (And.intro (H1.out.1.keep k2) (And.intro (Frm.trans H1.out.2.1 (keeps_frm k2 (Nat.le_of_lt lp1))) (H1.out.2.2.same k2)))
  clear d2 d3 d4 d5 d6 d7 fd dq lq1 hW2
  obtain ⟨d2, d3, d4, d5, d6, d7, fd⟩ := (H1.out.1.keep k2).cells
  have lp2 := k2.lt lp1
  clear lp1 n1 k2 H1 hz1 hz2 hN0 hN3 hst hg1 hg2
  go_wp2_with fail
  refine (zig_spec W2 _).mono ?_
  rintro e w3 ⟨⟨u, hu, rfl⟩, rfl⟩
  go_wp2_with fail
  refine (time_spec W2 H2.out.2.2 p n u _ _ _ _ _ _ hxp (by omega) hu H2.out.1).mono ?_
  rintro e W3 ⟨rfl, ⟨m3, hm3, hr3⟩, hB3⟩
  have n3 := hB3.typ q _ _ _ (by omega) n2 (by decide)
  have H3 := Lib.hid (And.intro (hr3.set5 (.int .i64 (t - T))) ((H2.out.2.1.trans hB3).setCell (i := 5) (.int .i64 (t - T))))
  have lp3 := hr3.lt
  have f3 := hr3.cells.2.2.2.2.2.2
  have e5 := hr3.cells.2.2.2.1
  clear hr3 hB3 d2 d3 d4 d5 d6 d7 fd
  go_upto_region 13 with fail
  have n4 : (W3.setCell ⟨p, 5, none⟩ (.int .i64 (t - T))).heap[q]? = some (.cells #[.int .i64 t, .int .u64 y] 147 (0, 0)) := (heap_cell_other (w := W3) (p := ⟨p, 5, none⟩) _ (by show q ≠ p; omega)).trans n3
  generalize W3.setCell ⟨p, 5, none⟩ (.int .i64 (t - T)) = W4 at n4 H3 ⊢
  obtain ⟨d2, d3, d4, d5, d6, d7, fd⟩ := H3.out.1.cells
  have dq := cells_at n4
  have lq4 := lt_of_at n4
  have lp4 := H3.out.1.lt
  have hx := bits_xor_u64_nat y V hy hV
  have hxl : y ^^^ V < 18446744073709551616 := Nat.xor_lt_two_pow (n := 64) hy hV
  obtain ⟨xv, hxv⟩ : ∃ xv, xv = y ^^^ V := ⟨_, rfl⟩
  rw [← hxv] at hx hxl
  clear hxv lp3 f3 e5 lp2 n2 n3
  go_still_tail 9, (by kernel_rfl)
  repeat still_step
  change wpList _ _ _ _ _ W4.drew
  go_wp2_with fail
  refine (value_spec W4.drew p m3 xv l0 w0 _ _ _ _ (by omega) hxl H0.out.2.2.1 (H3.out.1.keep (Keeps.refl [] _).drew)).mono ?_
  rintro e W5 ⟨rfl, ⟨m5, l5, w5, hm5, hlw5, hr5⟩, hB5⟩
  have n5 := hB5.typ q _ _ _ (by omega) n4 (by decide)
  have H5 := Lib.hid (And.intro hr5 (H3.out.2.trans (Frm.trans ((Frm.refl _ _).drew) hB5)))
  clear d2 d3 d4 d5 d6 d7 fd dq lq4 hx lp4
  obtain ⟨d2, d3, d4, d5, d6, d7, fd⟩ := hr5.cells
  have dq := cells_at n5
  have lq5 := lt_of_at n5
  have lp5 := hr5.lt
  clear hr5 hB5 n4 n5
  go_wp2_with fail
  go_ret
  exact ⟨rfl, ⟨_, by omega, _, l5, w5, hlw5, (H5.out.1.set34 _ _).set2 _⟩, ((H5.out.2.setCell (i := 3) _).setCell (i := 4) _).setCell (i := 2) _⟩
end Go.Proofs.YtaebpbkiaihhdaaGreatDoor

namespace Go.Proofs.YtaebpbkiaihhdaaGreatDoor
open Go Go.RowKit Go.ChangeShapes Go.WideShapes Go.ChangeAt

theorem xorVar_of {W : World} {l : List (String × DataW Unit)} (hl : (l.filter fun x => x.1 == "barograph/xor.widths") = [("barograph/xor.widths", Rows.laid_barograph_xor_widths)]) (h0 : laidMetH Tryz.prog l W) : XorVar W := by
  have h := laidMetH.filter (fun x => x.1 == "barograph/xor.widths") h0
  rw [hl, MakeChecks.laidMetH_plain _ _ _ (by kernel_rfl)] at h
  obtain ⟨ps, ⟨g, t, cs, fuel, p, q, hg, ht, hv, hd, _, _⟩, _, _⟩ := h
  obtain rfl := Option.some.inj ((show Tryz.prog.globalNamed "barograph/xor.widths" = some 1 by kernel_rfl).symm.trans hg)
  obtain rfl := Option.some.inj ((show (Tryz.prog.globals[1]?).map (·.type) = some 253 by kernel_rfl).symm.trans ht)
  obtain ⟨xs, m, _, ex, _, hln, hel⟩ := DataW.trod_array Tryz.underlying253 hd
  have cS : Tryz.prog.cellsOf 3 = 1 := by kernel_rfl
  have e3 : (xs.map (·.1)) = [.lit (.int .i64 0), .lit (.int .i64 7), .lit (.int .i64 12), .lit (.int .i64 20), .lit (.int .i64 64)] := (DataW.agg.inj (Prod.mk.inj ex).1).symm
  have key : ∀ (r : Nat) (b : Int), r < 5 → ([.lit (.int .i64 0), .lit (.int .i64 7), .lit (.int .i64 12), .lit (.int .i64 20), .lit (.int .i64 64)] : List (DataW Unit))[r]? = some (.lit (.int .i64 b)) → W.cell? ⟨1, r, none⟩ = some (.int .i64 b) := by
    intro r b hr hb
    have hE := hel r hr
    rw [cS, Nat.mul_one, List.getElem?_eq_getElem (by omega)] at hE
    obtain ⟨s, e1, e2, _⟩ := DataW.trod_int Tryz.underlying3 hE
    have e4 : (xs.map (·.1))[r]? = some (.lit (.int .i64 b)) := by rw [e3]; exact hb
    rw [List.getElem?_map, List.getElem?_eq_getElem (by omega : r < xs.length), e2] at e4
    have hz : s = b := by simpa using e4
    rw [World.var?_cell hg hv r, ← hz]
    have : cs.toList[r]? = some (.int .i64 s) := by
      have h0 : ((cs.toList.drop r).take 1)[0]? = some (.int .i64 s) := by rw [e1]; rfl
      simpa using h0
    simpa using this
  intro k hk
  rcases (by omega : k = 0 ∨ k = 1 ∨ k = 2 ∨ k = 3 ∨ k = 4) with rfl | rfl | rfl | rfl | rfl
  · exact key 0 _ (by decide) rfl
  · exact key 1 _ (by decide) rfl
  · exact key 2 _ (by decide) rfl
  · exact key 3 _ (by decide) rfl
  · exact key 4 _ (by decide) rfl
end Go.Proofs.YtaebpbkiaihhdaaGreatDoor
