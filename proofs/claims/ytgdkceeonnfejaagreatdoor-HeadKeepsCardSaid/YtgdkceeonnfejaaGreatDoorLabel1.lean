/-
  Package label at one pair, a=1: goodName, Check, Make, walked.
  No condition beyond those that each theorem states.

  Package label at one pair, a=1: Make, walked.
  No condition beyond those that each theorem states.

  Package label at one pair: Parse of the text a=1, a range over strings.SplitSeq, walked.
  The library's variable internal/bytealg.MaxLen holds some number.
-/
import Derived.Test.YtgdkceeonnfejaaGreatDoorPostLaw
import Derived.Test.YtgdkceeonnfejaaGreatDoorLibVar
import Derived.Test.YtgdkceeonnfejaaGreatDoorShelfA
import Derived.RangeFuncNested
import Derived.RangeFuncBox
import Derived.RangeFuncBound
import Derived.RangeFuncCalls
import Derived.RangeFuncLeaves
import Derived.Shelf.Abstract
import Derived.Shelf.AbstractIn
import Derived.Shelf.RegionOpen
import Derived.OwnWalkIn
import Derived.TacticsInMore
import Derived.LoopNIn
import Derived.LoopIn
import Derived.Maps.AppendAt
namespace Go.Proofs.YtgdkceeonnfejaaGreatDoor
set_option maxRecDepth 100000
set_option maxHeartbeats 2000000
set_option linter.unusedSimpArgs false
open Go Go.RowKit
theorem insort1_spec (w : World) (g c : Nat) (f : Value) :
  Calls Tryz.prog 159 #[.slice (some ⟨g, 0, none⟩) 1 c, .int .i64 0, .int .i64 1, f] w fun e w' => e = .returned (.tuple #[]) ∧ w = w' := by
 go_enter Tryz.func159, Tryz.ntmps159
 go_wp2_with fail
 go_loopg [8] 0 (fun gk u8 wr => u8 = .int .i64 1 ∧ wr = w)
 case atStart => exact ⟨rfl, rfl⟩
 case round =>
  obtain ⟨rfl, rfl⟩ := hrel
  go_wp2_with fail
  go_end0
  exact ⟨rfl, rfl⟩
theorem pdq1_spec (w : World) (g c : Nat) (l : Int) (f : Value) :
  Calls Tryz.prog 125 #[.slice (some ⟨g, 0, none⟩) 1 c, .int .i64 0, .int .i64 1, .int .i64 l, f] w fun e w' => e = .returned (.tuple #[]) ∧ w = w' := by
 go_enter Tryz.func125, Tryz.ntmps125
 go_wp2_with fail
 go_loopg [1, 2] 0 (fun gk u1 u2 wr => u1 = .int .i64 0 ∧ u2 = .int .i64 1 ∧ wr = w)
 case atStart => exact ⟨rfl, rfl, rfl⟩
 case round =>
  obtain ⟨rfl, rfl, rfl⟩ := hrel
  go_wp2_with fail
  refine (insort1_spec _ g c f).mono ?_
  rintro e w1 ⟨rfl, rfl⟩
  go_wp2_with fail
  refine bodyPost_ret (results_none rfl _ _ _) rfl ?_
  exact ⟨rfl, rfl⟩
theorem sortP1_spec (w : World) (g c : Nat) (f : Value) :
  Calls Tryz.prog 95 #[.slice (some ⟨g, 0, none⟩) 1 c, f] w fun e w' => e = .returned (.tuple #[]) ∧ w = w' := by
 go_enter Tryz.func95, Tryz.ntmps95
 go_wp2_with fail
 refine (Tryz.bits_Len 1 w (by decide) (by decide)).mono ?_
 rintro e w1 ⟨rfl, rfl⟩
 go_wp2_with fail
 refine (pdq1_spec _ g c _ f).mono ?_
 rintro e w1 ⟨rfl, rfl⟩
 go_wp2_with fail
 go_end0
 exact ⟨rfl, rfl⟩
def aB : ByteArray := ⟨#[97]⟩
theorem run_stringBy (w : World) (s : ByteArray) : ∃ c W, (convert 9 138 (.string s)).run Tryz.prog w = .ok (.slice (some ⟨w.heap.size, 0, none⟩) s.size c) W ∧ Keeps [] w W ∧ w.heap.size < W.heap.size ∧ ∀ i (h : i < s.size), W.cell? ⟨w.heap.size, i, none⟩ = some (.int .u8 (s[i].toNat : Int)) := by
 refine ⟨_, _, run_bytes_of_string w _ _ 5 s Tryz.underlying9 Tryz.underlying138 Tryz.underlying5, ((Keeps.refl [] w).drew).alloc _, by simp, fun i h => ?_⟩
 have := cells_at (heap_new w.drew (.cells (bytesRow s (grownCap w s.size 0 5)) 5 ((bytesRow s (grownCap w s.size 0 5)).size, (bytesRow s (grownCap w s.size 0 5)).size + 1))) i
 rw [bytesRow_at s _ i h] at this
 exact this
theorem goodA_spec (w : World) :
  Calls Tryz.prog 65 #[.string ⟨#[97]⟩] w fun e w' => e = .returned (.bool true) ∧ Keeps [] w w' := by
 obtain ⟨cp, W, hrun, hkW, hlW, hcW⟩ := run_stringBy w ⟨#[97]⟩
 have hc0 := hcW 0 (by decide)
 have hb : (((⟨#[97]⟩ : ByteArray)[0]'(by decide)).toNat : Int) = 97 := by decide
 rw [hb] at hc0
 have hs1 : (⟨#[97]⟩ : ByteArray).size = 1 := rfl
 rw [hs1] at hrun
 have HW := Lib.hid hkW
 clear hkW hcW hb hs1
 go_enter Tryz.func65, Tryz.ntmps65
 go_wp2_with fail
 clear hrun
 generalize w.heap.size = sb at hlW hc0 ⊢
 go_loopg [9] 1 (fun gk u9 wr => ∃ k : Nat, k ≤ 1 ∧ gk = 1 - k ∧ u9 = .int .i64 k ∧ wr = W)
 case atStart => exact ⟨0, by omega, rfl, rfl, rfl⟩
 case round =>
  obtain ⟨k, hk, hgk, rfl, rfl⟩ := hrel
  have Hg := Lib.hid hgk
  clear hgk
  by_cases h0 : k = 0
  ·subst h0
   go_wp2_with fail
   go_roundg 0
   case measure => have := Hg.out; omega
   case rel => exact ⟨1, by omega, rfl, rfl, rfl⟩
  ·obtain rfl : k = 1 := by omega
   go_wp2_with fail
   go_ret
   exact ⟨rfl, HW.out⟩
def Set1 (B : Nat) (w : World) (v : Value) : Prop := ∃ g c cur, v = .slice (some ⟨g, 0, none⟩) 1 c ∧ B ≤ g ∧ 1 ≤ c ∧ c ≤ maxLen ∧ w.heap[g]? = some (.cells cur 149 (0, 0)) ∧ cur.size = c * 2 ∧ cur[0]? = some (.string ⟨#[97]⟩) ∧ cur[1]? = some (.string ⟨#[49]⟩)
theorem check1_spec (w : World) (g c : Nat) (cur : Array Value) (_hc : 1 ≤ c) (hb : w.heap[g]? = some (.cells cur 149 (0, 0))) (h0 : cur[0]? = some (.string ⟨#[97]⟩)) (h1 : cur[1]? = some (.string ⟨#[49]⟩)) :
  Calls Tryz.prog 37 #[.slice (some ⟨g, 0, none⟩) 1 c] w fun e w' => e = .returned (.int .i64 0) ∧ Keeps [] w w' := by
 have d0 : w.cell? ⟨g, 0, none⟩ = some (.string ⟨#[97]⟩) := by rw [cells_at hb]; exact h0
 have d1 : w.cell? ⟨g, 1, none⟩ = some (.string ⟨#[49]⟩) := by rw [cells_at hb]; exact h1
 have hl := lt_of_at hb
 clear hb h0 h1
 go_enter Tryz.func37, Tryz.ntmps37
 go_wp2_with fail
 go_loopg [15] 1 (fun gk u15 wr => (gk = 1 ∧ u15 = .int .i64 0 ∨ gk = 0 ∧ u15 = .int .i64 1) ∧ Keeps [] w wr)
 case atStart => exact ⟨.inl ⟨rfl, rfl⟩, Keeps.refl [] w⟩
 case round =>
  obtain ⟨⟨hgk, rfl⟩ | ⟨hgk, rfl⟩, hkw⟩ := hrel
  ·have Hg := Lib.hid hgk
   have e0 := (hkw.cell (i := 0) hl (by simp)).trans d0
   have e1 := (hkw.cell (i := 1) hl (by simp)).trans d1
   have hlw := hkw.lt hl
   obtain ⟨W0, hW0⟩ : ∃ W0, W0 = (wr.alloc (.cells #[.string ⟨#[97]⟩, .string ⟨#[49]⟩] 149)).drew := ⟨_, rfl⟩
   have hp := heap_new wr (.cells #[.string ⟨#[97]⟩, .string ⟨#[49]⟩] 149)
   have F0 : ∀ s : Kept W0, s.val.cell? ⟨wr.heap.size, 0, none⟩ = some (.string ⟨#[97]⟩) := keptCell (by rw [hW0]; exact cells_at hp 0)
   have F1 : ∀ s : Kept W0, s.val.cell? ⟨wr.heap.size, 1, none⟩ = some (.string ⟨#[49]⟩) := keptCell (by rw [hW0]; exact cells_at hp 1)
   have HW := Lib.hid (And.intro hW0 (show Keeps [] w W0 by rw [hW0]; exact (hkw.alloc _).drew))
   clear hkw d0 d1 hgk hW0 hp
   go_upto_region 6 with fail
   refine wp_region_held_drew (S := KeptS W0) (by kernel_rfl) (by rw [← HW.out.1]; exact keptS (Keeps.refl _ _)) (fun hS => ?_)
   rw [← HW.out.1] at hS ⊢
   generalize wr.heap.size = pb at F0 F1 ⊢
   clear e0 e1 hlw
   refine tk (v := ?_) 0 rfl ?_ ?_; rotate_left
   ·rintro _ ⟨s, rfl⟩; go_simp; (try with_reducible rfl)
   simp only [Act.put, zz]
   refine tk (v := ?_) 1 rfl ?_ ?_; rotate_left
   ·rintro _ ⟨s, rfl⟩; go_simp; (try with_reducible rfl)
   simp only [Act.put, zz]
   refine rd 2 rfl fun K hK => ?_
   go_simp
   go_at_call 65
   refine (goodA_spec _).mono ?_
   rintro e A1 ⟨rfl, kA1⟩
   go_simp
   refine hK.out _ _ (keptS kA1) (fun hS => ?_)
   clear hK K
   try simp only [Act.put, zz]
   refine tk (v := ?_) 3 rfl ?_ ?_; rotate_left
   ·rintro _ ⟨s, rfl⟩; go_simp; (try with_reducible rfl)
   simp only [Act.put, zz]
   refine tk (v := ?_) 4 rfl ?_ ?_; rotate_left
   ·rintro _ ⟨s, rfl⟩; go_simp; (try with_reducible rfl)
   simp only [Act.put, zz]
   refine tk (v := ?_) 5 rfl ?_ ?_; rotate_left
   ·rintro _ ⟨s, rfl⟩; go_simp; (try with_reducible rfl)
   simp only [Act.put, zz]
   refine tk (v := ?_) 6 rfl ?_ ?_; rotate_left
   ·rintro _ ⟨s, rfl⟩; go_simp; (try with_reducible rfl)
   simp only [Act.put, zz]
   refine tk (v := ?_) 7 rfl ?_ ?_; rotate_left
   ·rintro _ ⟨s, rfl⟩; go_simp; (try with_reducible rfl)
   simp only [Act.put, zz]
   refine tk (v := ?_) 8 rfl ?_ ?_; rotate_left
   ·rintro _ ⟨s, rfl⟩; go_simp; (try with_reducible rfl)
   simp only [Act.put, zz]
   refine tk (v := ?_) 9 rfl ?_ ?_; rotate_left
   ·rintro _ ⟨s, rfl⟩; go_simp; (try with_reducible rfl)
   simp only [Act.put, zz]
   refine tk (v := ?_) 10 rfl ?_ ?_; rotate_left
   ·rintro _ ⟨s, rfl⟩; go_simp; (try with_reducible rfl)
   simp only [Act.put, zz]
   refine tk (v := ?_) 11 rfl ?_ ?_; rotate_left
   ·rintro _ ⟨s, rfl⟩; go_simp; (try with_reducible rfl)
   simp only [Act.put, zz]
   refine tk (v := ?_) 12 rfl ?_ ?_; rotate_left
   ·rintro _ ⟨s, rfl⟩; go_simp; (try with_reducible rfl)
   simp only [Act.put, zz]
   refine tk (v := ?_) 13 rfl ?_ ?_; rotate_left
   ·rintro _ ⟨s, rfl⟩; go_simp; (try with_reducible rfl)
   simp only [Act.put, zz]
   refine tk (v := ?_) 14 rfl ?_ ?_; rotate_left
   ·rintro _ ⟨s, rfl⟩; go_simp; (try with_reducible rfl)
   simp only [Act.put, zz]
   refine tk (v := ?_) 15 rfl ?_ ?_; rotate_left
   ·rintro _ ⟨s, rfl⟩; go_simp; (try with_reducible rfl)
   simp only [Act.put, zz]
   refine tk (v := ?_) 16 rfl ?_ ?_; rotate_left
   ·rintro _ ⟨s, rfl⟩; go_simp; (try with_reducible rfl)
   simp only [Act.put, zz]
   refine tk (v := ?_) 17 rfl ?_ ?_; rotate_left
   ·rintro _ ⟨s, rfl⟩; go_simp; (try with_reducible rfl)
   simp only [Act.put, zz]
   refine tk (v := ?_) 18 rfl ?_ ?_; rotate_left
   ·rintro _ ⟨s, rfl⟩; go_simp; (try with_reducible rfl)
   simp only [Act.put, zz]
   refine sk 19 rfl ?_
   simp only [Act.put, zz]
   refine sk 20 rfl ?_
   simp only [Act.put, zz]
   refine sk 21 rfl ?_
   simp only [Act.put, zz]
   refine sk 22 rfl ?_
   simp only [Act.put, zz]
   refine sk 23 rfl ?_
   simp only [Act.put, zz]
   refine sk 24 rfl ?_
   simp only [Act.put, zz]
   refine sk 25 rfl ?_
   simp only [Act.put, zz]
   refine sk 26 rfl ?_
   simp only [Act.put, zz]
   refine sk 27 rfl ?_
   simp only [Act.put, zz]
   refine tk (v := ?_) 28 rfl ?_ ?_; rotate_left
   ·rintro _ ⟨s, rfl⟩; go_simp; (try with_reducible rfl)
   simp only [Act.put, zz]
   refine tk (v := ?_) 29 rfl ?_ ?_; rotate_left
   ·rintro _ ⟨s, rfl⟩; go_simp; (try with_reducible rfl)
   simp only [Act.put, zz]
   refine wpAnyH_done (by kernel_rfl) ?_ _
   have H1 := Lib.hid (HW.out.2.trans kA1)
   clear hS kA1 F0 F1
   go_wp2_with fail
   go_roundg 0
   case measure => have := Hg.out; omega
   case rel => exact ⟨.inr ⟨rfl, rfl⟩, H1.out⟩
  ·have HW := Lib.hid hkw
   clear hkw d0 d1
   go_wp2_with fail
   go_ret
   exact ⟨rfl, HW.out⟩
theorem infoPair : (Tryz.prog.info? 149).map (fun i => (i.zero, i.size, i.bytes)) = some (some (.agg #[.string ⟨#[]⟩, .string ⟨#[]⟩]), 2, 32) := by kernel_rfl
theorem set1_of {B : Nat} {w : World} {v : Value} (h : w.ownsRow B 149 2 v 1 [.string ⟨#[97]⟩, .string ⟨#[49]⟩]) : Set1 B w v := by
 obtain ⟨_, ⟨_, hn⟩ | ⟨g, cap, cur, rfl, hbg, hg, hnc, hcm, hcs, ht⟩⟩ := h
 ·cases hn
 ·have h0 : cur.toList[0]? = some (.string ⟨#[97]⟩) := by
   have : (cur.toList.take (1 * 2))[0]? = some (.string ⟨#[97]⟩) := by rw [ht]; rfl
   rwa [List.getElem?_take_of_lt (by decide)] at this
  have h1 : cur.toList[1]? = some (.string ⟨#[49]⟩) := by
   have : (cur.toList.take (1 * 2))[1]? = some (.string ⟨#[49]⟩) := by rw [ht]; rfl
   rwa [List.getElem?_take_of_lt (by decide)] at this
  exact ⟨g, cap, cur, rfl, hbg, hnc, hcm, hg, hcs, by simpa using h0, by simpa using h1⟩
theorem Set1.news {w : World} {g : Nat} {cur : Array Value} (hg : w.heap[g]? = some (.cells cur 149 (0, 0))) (h0 : cur[0]? = some (.string ⟨#[97]⟩)) (h1 : cur[1]? = some (.string ⟨#[49]⟩)) :
  ∀ j u, ([.string ⟨#[97]⟩, .string ⟨#[49]⟩] : List Value)[j]? = some u → w.cell? ((⟨g, 0, none⟩ : Addr).add j) = some u := by
 intro j u hu
 have hadd : (⟨g, 0, none⟩ : Addr).add j = ⟨g, j, none⟩ := by unfold Addr.add; split <;> simp_all
 rw [hadd, cells_at hg]
 match j with
 | 0 => rw [h0]; exact hu
 | 1 => rw [h1]; exact hu
 | n + 2 => simp at hu
theorem Set1.keep {B : Nat} {w w' : World} {v : Value} {S : List Nat} (h : Set1 B w v) (k : Keeps S w w') (hS : ∀ x ∈ S, x < B) : Set1 B w' v := by
 obtain ⟨g, c, cur, e, hb, h1, h2, hg, r⟩ := h
 exact ⟨g, c, cur, e, hb, h1, h2, k.at_ hg (fun hm => by have := hS g hm; omega), r⟩
instance go1Set1 {w w' : World} (B : Nat) (v : Value) : Go1 w w' (Set1 B w v) (Set1 B w' v) := ⟨fun k h => h.keep k (by simp)⟩
theorem Set1.low {B B' : Nat} {w : World} {v : Value} (h : Set1 B w v) (hB : B' ≤ B) : Set1 B' w v := by
 obtain ⟨g, c, cur, e, hb, r⟩ := h
 exact ⟨g, c, cur, e, by omega, r⟩
theorem cloneP1_spec (B : Nat) (w : World) (v : Value) (h : Set1 B w v) :
  Calls Tryz.prog 94 #[v] w fun e w' => ∃ v', e = .returned v' ∧ Set1 w.heap.size w' v' ∧ Keeps [] w w' := by
 have qT : ∀ (w : World) (a : Option Addr) (n c : Nat), (binOp .eql 84 (.slice a n c) (.slice none 0 0)).run Tryz.prog w = .ok (.bool a.isNone) w := fun w a n c => run_eql_slice_nilP w _ _ a n c Tryz.underlying84
 obtain ⟨ip, hip, hz0, hz1, hz2⟩ := info_parts infoPair
 obtain ⟨g, c, cur, rfl, hb, h1, h2, hg, hcs, hc0, hc1⟩ := h
 have k0 : Keeps [] w (w.alloc (.cells #[] 149)) := (Keeps.refl [] w).alloc _
 have hg2 := k0.at_ hg (by simp)
 have H0 := Lib.hid (And.intro (own_made w w.heap.size 149 2 (Nat.le_refl _)) (And.intro k0 (Set1.news hg2 hc0 hc1)))
 clear k0 hg2 hg hc0 hc1 hcs
 go_enter Tryz.func94, Tryz.ntmps94
 go_wp2_with (at_builtin; refine wpList_append_own _ rfl (.tmp 5) (.tmp 6) 84 rfl w.heap.size 149 ip _ 2 32 Tryz.underlying84 hip hz0 hz1 hz2 rfl (by decide) (.slice (some ⟨w.heap.size, 0, none⟩) 0 0) 0 [] rfl H0.out.1 ⟨g, 0, none⟩ 1 c [.string ⟨#[97]⟩, .string ⟨#[49]⟩] rfl rfl H0.out.2.2 (by simp [Value.oneCell']) (by decide) (by decide) (by simp) ?_; intro v8 w8 hown8 hgrow8 hnil; clear hnil)
 go_ret
 exact ⟨_, rfl, set1_of (by simpa using hown8), keeps_own H0.out.2.1 hgrow8 (fun q hq => (World.ownsRow.lt H0.out.1 q hq).1)⟩
theorem make1_spec (B : Nat) (w : World) (v : Value) (h : Set1 B w v) :
  Calls Tryz.prog 64 #[v] w fun e w' => ∃ v', e = .returned (.tuple #[v', .int .i64 0]) ∧ Set1 w.heap.size w' v' ∧ Keeps [] w w' := by
 have H0 := Lib.hid h
 obtain ⟨g, c, cur, rfl, -⟩ := h
 go_enter Tryz.func64, Tryz.ntmps64
 go_wp2_with fail
 refine (cloneP1_spec B _ _ H0.out).mono ?_
 rintro e w1 ⟨v1, rfl, hs1, hk1⟩
 have H1 := Lib.hid (And.intro hs1 hk1)
 obtain ⟨g1, c1, cur1, rfl, -, hc1, -, hg1, -, h10, h11⟩ := hs1
 have HG := Lib.hid (And.intro hc1 (And.intro hg1 (And.intro h10 h11)))
 clear hk1 hc1 hg1 h10 h11
 go_wp2_with fail
 refine (sortP1_spec _ g1 c1 _).mono ?_
 rintro e w2 ⟨rfl, rfl⟩
 go_wp2_with fail
 refine (check1_spec _ g1 c1 cur1 HG.out.1 HG.out.2.1 HG.out.2.2.1 HG.out.2.2.2).mono ?_
 rintro e w3 ⟨rfl, hk3⟩
 have H3 := Lib.hid (And.intro (go1 hk3 H1.out.1) (H1.out.2.trans hk3))
 clear hk3
 go_wp2_with fail
 go_ret2
 exact ⟨_, rfl, H3.out.1, H3.out.2⟩
open Go Go.RowKit Go.Shelf
attribute [local go_sem] Oper.semAt_some
instance go1LibVar {w w' : World} : Go1 w w' (LibVar w) (LibVar w') := ⟨fun k h => h.keep k (by simp)⟩
theorem split0_spec (w : World) (s sep : ByteArray) :
  Calls Tryz.prog 92 #[.string s, .string sep, .int .i64 0] w fun e w' => e = .returned (.func (.func 121) #[] #[.pointer (some ⟨w.heap.size + 1, 0, none⟩), .pointer (some ⟨w.heap.size, 0, none⟩), .pointer (some ⟨w.heap.size + 2, 0, none⟩)]) ∧
   w' = ((w.alloc (.cells #[.string s] 9)).alloc (.cells #[.string sep] 9)).alloc (.cells #[.int .i64 0] 3) := by
 go_enter Tryz.func92, Tryz.ntmps92
 go_wp2_with fail
 go_ret
 exact ⟨rfl, rfl⟩
theorem splitSeq_spec (w : World) (s sep : ByteArray) :
  Calls Tryz.prog 62 #[.string s, .string sep] w fun e w' => e = .returned (.func (.func 121) #[] #[.pointer (some ⟨w.heap.size + 1, 0, none⟩), .pointer (some ⟨w.heap.size, 0, none⟩), .pointer (some ⟨w.heap.size + 2, 0, none⟩)]) ∧
   w' = ((w.alloc (.cells #[.string s] 9)).alloc (.cells #[.string sep] 9)).alloc (.cells #[.int .i64 0] 3) := by
 go_enter Tryz.func62, Tryz.ntmps62
 go_wp2_with fail
 refine (split0_spec _ s sep).mono ?_
 rintro e w1 ⟨rfl, rfl⟩
 go_wp2_with fail
 go_ret
 exact ⟨rfl, rfl⟩
theorem split1_in (n : Nat) (hn : 1 ≤ n) (l b1 b2 b3 : Nat) (s : ByteArray) (m : Int) (hs : s.size < 4294967281) (hx : Lib.index s.data.toList [44] = -1) (Kp : World → World → Prop) (J Jx : List Unit → World → Prop)
  (hY : ∀ pre x W, J pre W → pre.length < 1 → YieldAt Fence.wide (n - 1) Tryz.prog l #[.string s] W fun e W' =>
   (e = .returned (.bool true) ∧ J (pre ++ [x]) W' ∧ Kp W W') ∨ (e = .returned (.bool false) ∧ Jx (pre ++ [x]) W'))
  (W : World) (h1 : W.cell? ⟨b1, 0, none⟩ = some (.string ⟨#[44]⟩)) (h2 : W.cell? ⟨b2, 0, none⟩ = some (.string s)) (h3 : W.cell? ⟨b3, 0, none⟩ = some (.int .i64 0)) (hm : W.cell? ⟨0, 0, none⟩ = some (.int .i64 m)) (h0 : J [] W) :
  CallsIn Fence.wide n Tryz.prog 121 #[.func (.yield l) #[] #[], .pointer (some ⟨b1, 0, none⟩), .pointer (some ⟨b2, 0, none⟩), .pointer (some ⟨b3, 0, none⟩)] W fun e W' => (∃ v, e = .returned v) ∧
   ((∃ ys, ys = [()] ∧ J ys W') ∨ (∃ pre, pre = [()] ∧ Jx pre W')) := by
 have Hi := Tryz.strings_Index s ⟨#[44]⟩ m W hs hm
 rw [show (⟨#[44]⟩ : ByteArray).data.toList = [44] from rfl, hx] at Hi
 have HI := Lib.hid Hi
 clear Hi
 have hneg : (-1 : Int) < 0 := by decide
 obtain ⟨fn, tmps, assign, body, hy, hR⟩ := hY [] () W h0 (by simp)
 refine callsIn_of_wp Tryz.func121 rfl trivial ?_ rfl
 simp only [Tryz.ntmps121, List.size_toArray, List.length_cons, List.length_nil, Nat.reduceAdd, Nat.reduceSub, Array.replicate_succ, Array.replicate_zero, List.push_toArray, List.append_toArray, List.nil_append, List.cons_append]
 gi_wp2
 gi_loopw [7] (fun _ wr => wr = W) (fun _ _ => 0)
 case atStart => rfl
 case round =>
  subst hrel
  gi_wp2
  refine ⟨trivial, (callsIn_wide.2 HI.out).mono ?_⟩
  rintro e w' ⟨rfl, rfl⟩
  gi_wp2
  refine hR.mono ?_
  rintro e W1 (⟨rfl, hJ1, _⟩ | ⟨rfl, hx1⟩)
  ·gi_wp2
   go_end0
   exact ⟨⟨_, rfl⟩, .inl ⟨[()], rfl, hJ1⟩⟩
  ·gi_wp2
   go_end0
   exact ⟨⟨_, rfl⟩, .inr ⟨[()], rfl, hx1⟩⟩
theorem split1_stops (n : Nat) (hn : 1 ≤ n) (Kp : World → World → Prop) (b1 b2 b3 : Nat) (s : ByteArray) (hs : s.size < 4294967281) (hx : Lib.index s.data.toList [44] = -1) (w : World) (hv : LibVar w)
  (h1 : w.cell? ⟨b1, 0, none⟩ = some (.string ⟨#[44]⟩)) (h2 : w.cell? ⟨b2, 0, none⟩ = some (.string s)) (h3 : w.cell? ⟨b3, 0, none⟩ = some (.int .i64 0)) :
  SeqStopsK Fence.wide n Tryz.prog 121 #[.pointer (some ⟨b1, 0, none⟩), .pointer (some ⟨b2, 0, none⟩), .pointer (some ⟨b3, 0, none⟩)] (fun _ : Unit => #[Value.string s]) Kp (fun ys => ys = [()]) (fun pre => pre = [()]) 1 w := fun l J Jx W hW _ _ hY h0 => by
 obtain ⟨m, hm⟩ := hv
 exact split1_in n hn l b1 b2 b3 s m hs hx Kp J Jx hY W ((hW.cell (p := ⟨b1, 0, none⟩) (World.block_lt_of_cell? w _ h1)).trans h1) ((hW.cell (p := ⟨b2, 0, none⟩) (World.block_lt_of_cell? w _ h2)).trans h2) ((hW.cell (p := ⟨b3, 0, none⟩) (World.block_lt_of_cell? w _ h3)).trans h3)
  ((hW.cell (p := ⟨0, 0, none⟩) (World.block_lt_of_cell? w _ hm)).trans hm) h0
def Parse1Post (w : World) (e : Ending) (w' : World) : Prop := ∃ v, e = .returned (.tuple #[v, .int .i64 0]) ∧ Set1 w.heap.size w' v ∧ Keeps [] w w'
def P1Rows (s : Nat) (pre : List Unit) (W : World) : Prop := ∃ v, Boxed W (s + 1 + 1) 84 v ∧ W.ownsRow (s + 1 + 1) 149 2 v pre.length (pre.flatMap fun _ => [.string ⟨#[97]⟩, .string ⟨#[49]⟩]) ∧ True
theorem parse1_spec (w : World) (hv : LibVar w) :
  Calls Tryz.prog 33 #[.string ⟨#[97, 61, 49]⟩] w (Parse1Post w) := by
 obtain ⟨ip, hip, hz0, hz1, hz2⟩ := info_parts infoPair
 obtain ⟨s, hs⟩ : ∃ s, s = w.heap.size := ⟨_, rfl⟩
 have kw : Keeps [] w ((((((w.alloc (.cells #[.slice none 0 0] 85)).alloc (.cells #[.int .i64 0] 24)).alloc (.cells #[.slice none 0 0] 84)).alloc (.cells #[.string ⟨#[97, 61, 49]⟩] 9)).alloc (.cells #[.string ⟨#[44]⟩] 9)).alloc (.cells #[.int .i64 0] 3)) := ((((((Keeps.refl [] w).alloc _).alloc _).alloc _).alloc _).alloc _).alloc _
 have n1 := new5 w (.cells #[.slice none 0 0] 85) (.cells #[.int .i64 0] 24) (.cells #[.slice none 0 0] 84) (.cells #[.string ⟨#[97, 61, 49]⟩] 9) (.cells #[.string ⟨#[44]⟩] 9)
 have n6 := heap_new (((((w.alloc (.cells #[.slice none 0 0] 85)).alloc (.cells #[.int .i64 0] 24)).alloc (.cells #[.slice none 0 0] 84)).alloc (.cells #[.string ⟨#[97, 61, 49]⟩] 9)).alloc (.cells #[.string ⟨#[44]⟩] 9)) (.cells #[.int .i64 0] 3)
 have k6 : Keeps [] (((((w.alloc (.cells #[.slice none 0 0] 85)).alloc (.cells #[.int .i64 0] 24)).alloc (.cells #[.slice none 0 0] 84)).alloc (.cells #[.string ⟨#[97, 61, 49]⟩] 9)).alloc (.cells #[.string ⟨#[44]⟩] 9)) ((((((w.alloc (.cells #[.slice none 0 0] 85)).alloc (.cells #[.int .i64 0] 24)).alloc (.cells #[.slice none 0 0] 84)).alloc (.cells #[.string ⟨#[97, 61, 49]⟩] 9)).alloc (.cells #[.string ⟨#[44]⟩] 9)).alloc (.cells #[.int .i64 0] 3)) := (Keeps.refl [] _).alloc _
 have nn := go1 k6 n1
 have hsz : (((((w.alloc (.cells #[.slice none 0 0] 85)).alloc (.cells #[.int .i64 0] 24)).alloc (.cells #[.slice none 0 0] 84)).alloc (.cells #[.string ⟨#[97, 61, 49]⟩] 9)).alloc (.cells #[.string ⟨#[44]⟩] 9)).heap.size = w.heap.size + 1 + 1 + 1 + 2 := by simp
 have hsz6 : ((((((w.alloc (.cells #[.slice none 0 0] 85)).alloc (.cells #[.int .i64 0] 24)).alloc (.cells #[.slice none 0 0] 84)).alloc (.cells #[.string ⟨#[97, 61, 49]⟩] 9)).alloc (.cells #[.string ⟨#[44]⟩] 9)).alloc (.cells #[.int .i64 0] 3)).heap.size = w.heap.size + 6 := by simp
 rw [hsz] at n6
 have hlv := go1 kw hv
 have hgl := hv.lt
 refine (callsIn_wide (n := 6)).1 ?_
 refine callsIn_of_wp_marks Tryz.func33 rfl trivial ?_ rfl
 simp only [Tryz.ntmps33, List.size_toArray, List.length_cons, List.length_nil, Nat.reduceAdd, Nat.reduceSub, Array.replicate_succ, Array.replicate_zero, List.push_toArray, List.append_toArray, List.nil_append, List.cons_append]
 have H0 := Lib.hid (And.intro kw (And.intro nn (And.intro n6 (And.intro hsz6 hlv))))
 clear kw n1 n6 k6 nn hsz hsz6 hlv hv
 gi_wp2
 refine ⟨trivial, (callsIn_wide.2 (splitSeq_spec _ ⟨#[97, 61, 49]⟩ ⟨#[44]⟩)).mono ?_⟩
 rintro e w1 ⟨rfl, rfl⟩
 gi_wp2
 generalize (((((w.alloc (.cells #[.slice none 0 0] 85)).alloc (.cells #[.int .i64 0] 24)).alloc (.cells #[.slice none 0 0] 84)).alloc (.cells #[.string ⟨#[97, 61, 49]⟩] 9)).alloc (.cells #[.string ⟨#[44]⟩] 9)).alloc (.cells #[.int .i64 0] 3) = W6 at H0 ⊢
 rw [← hs] at H0 ⊢
 have hS6 := H0.out.2.2.2.1
 rw [← hs] at hgl
 have HS := Lib.hid hs
 clear hs
 have hx : Lib.index [97, 61, 49] [44] = -1 := by decide +kernel
 refine wpIn_rangeFunc_ownG rfl (by omega) (gf := 121) (lb := #[.pointer (some ⟨s + 1 + 1 + 1 + 1, 0, none⟩), .pointer (some ⟨s + 1 + 1 + 1, 0, none⟩), .pointer (some ⟨s + 1 + 1 + 1 + 2, 0, none⟩)]) rfl trivial (enters_of Tryz.func121 (by kernel_rfl) rfl)
  (split1_stops 5 (by omega) (Below (s + 1 + 1)) (s + 1 + 1 + 1 + 1) (s + 1 + 1 + 1) (s + 1 + 1 + 1 + 2) ⟨#[97, 61, 49]⟩ (by decide) hx W6 H0.out.2.2.2.2 (by rw [cells_at H0.out.2.1.2.2.2.2]; rfl) (by rw [cells_at H0.out.2.1.2.2.2.1]; rfl) (by rw [cells_at H0.out.2.2.1]; rfl))
  belowK_t (belowK_b (by omega)) (Below.refl _ _) (fun _ => rfl)
  (fun pre W => P1Rows s pre W ∧ Below (s + 1 + 1) W6 W)
  (fun _ _ _ => False)
  (OwnFrom.and (Own.from (holdsRow_own (s + 1 + 1) (s + 1 + 1) 84 149 2 (fun pre : List Unit => pre.length) (fun pre => pre.flatMap fun _ => [.string ⟨#[97]⟩, .string ⟨#[49]⟩]) (fun _ _ => True)) _) (ownFrom_below (by omega) (by omega)))
  (fun _ _ _ _ _ hs _ _ => hs)
  ⟨⟨.slice none 0 0, H0.out.2.1.2.2.1, World.ownsRow_nil _ _ _ 2, trivial⟩, Below.refl _ _⟩
  (fun _ => { tmps := #[.string ⟨#[97, 61, 49]⟩, undef, .pointer (some ⟨s, 0, none⟩), .pointer (some ⟨s + 1, 0, none⟩), .pointer (some ⟨s + 1 + 1, 0, none⟩), .string ⟨#[97, 61, 49]⟩, undef, undef, undef, undef, undef, .string ⟨#[97, 61, 49]⟩,
        .func (.func 121) #[] #[.pointer (some ⟨s + 1 + 1 + 1 + 1, 0, none⟩), .pointer (some ⟨s + 1 + 1 + 1, 0, none⟩), .pointer (some ⟨s + 1 + 1 + 1 + 2, 0, none⟩)], .string ⟨#[97, 61, 49]⟩,
        undef, undef, undef, undef, undef, undef, undef, undef, undef, undef, undef, undef, undef, undef, undef, undef, undef, undef, undef, undef, undef, undef, undef], defers := [] }) ?assign ?body ?done ?stop
 case assign =>
  intro l x W K hK
  gi_wp2
  exact hK
 case body =>
  rintro l pre x W ⟨⟨v, hbv, hrow, -⟩, hB⟩ hlt
  obtain rfl : pre = [] := List.eq_nil_of_length_eq_zero (by omega)
  have hvn : v = .slice none 0 0 ∨ ∃ g c, v = .slice (some ⟨g, 0, none⟩) 0 c := by
   obtain ⟨_, ⟨rfl, _⟩ | ⟨g, c, cur, rfl, _⟩⟩ := hrow
   ·exact .inl rfl
   ·exact .inr ⟨g, c, rfl⟩
  have hc := hbv.cell
  obtain ⟨m, hm⟩ : LibVar W := by
   obtain ⟨m, hm⟩ := H0.out.2.2.2.2
   refine ⟨m, (hB.cell (p := ⟨0, 0, none⟩) ?_).trans hm⟩
   show 0 < s + 1 + 1
   omega
  have Hcut := Lib.hid (Tryz.strings_Cut ⟨#[97, 61, 49]⟩ ⟨#[61]⟩ m W (by decide) hm)
  gi_wp2
  refine ⟨trivial, (CallsIn.inRound l (callsIn_wide.2 Hcut.out)).mono ?_⟩
  rintro e w2 ⟨rfl, nq, rfl⟩
  have hcut : Lib.cut (⟨#[97, 61, 49]⟩ : ByteArray).data.toList (⟨#[61]⟩ : ByteArray).data.toList = ([97], [49], true) := by decide +kernel
  rw [hcut]
  have hb2 : Boxed (W.drewN nq) (s + 1 + 1) 84 v := hbv
  have hr2 : (W.drewN nq).ownsRow (s + 1 + 1) 149 2 v 0 [] := hrow
  have hB2 : Below (s + 1 + 1) W6 (W.drewN nq) := ⟨hB.os, hB.tape, hB.output, hB.size, hB.block⟩
  have hk2 : KeepsOthers W (W.drewN nq) := ⟨Nat.le_refl _, fun _ _ h _ => h⟩
  have hkb : Below (s + 1 + 1) W (W.drewN nq) := ⟨rfl, rfl, rfl, Nat.le_refl _, fun _ _ => rfl⟩
  have HX := Lib.hid (And.intro hb2 (And.intro hr2 (And.intro hB2 (And.intro hk2 hkb))))
  clear hc hm hbv hrow hB hb2 hr2 hB2 hk2 hkb hcut
  generalize W.drewN nq = W2 at HX ⊢
  have hc := HX.out.1.cell
  have hsz2 := HX.out.2.2.1.size
  gi_wp2_with (gi_at_builtin; refine wpListIn_append_own _ rfl _ _ 84 rfl (s + 1 + 1) 149 ip _ 2 32 Tryz.underlying84 hip hz0 hz1 hz2 rfl (by decide) v 0 [] rfl (HX.out.2.1.alloc _) ⟨W2.heap.size, 0, none⟩ 1 1 [.string ⟨#[97]⟩, .string ⟨#[49]⟩] rfl rfl (news_of (heap_new W2 _)) (by simp [Value.oneCell']) (by decide) (by decide) (by simp; omega) ?_; intro v' w1 hown' hgrow _; obtain ⟨g', cap', rfl⟩ := ownsRow_succ hown'; obtain ⟨hv1, hv2, hr3, hk3, hb3⟩ := HX.out.1.appended (by decide) HX.out.2.1 (by omega) (Nat.le_refl _) hown' hgrow; have hc1 := hv1.cell; have hf1 := hv1.frozen)
  exact ⟨(HX.out.2.2.2.1.trans hk3).from _, HX.out.2.2.2.2.trans hb3, ⟨_, hv2, by simpa using hr3, trivial⟩, HX.out.2.2.1.trans hb3⟩
 case done =>
  rintro D ys W hD rfl ⟨⟨v, hbv, hrow, -⟩, hB⟩ hK
  have hs1 := set1_of (by simpa using hrow)
  have hc := hbv.cell
  have HR := Lib.hid (And.intro hs1 (And.intro hB hK))
  clear hs1 hrow hB hK hbv
  gi_wp2
  refine ⟨trivial, (callsIn_wide.2 (make1_spec (s + 1 + 1) W v HR.out.1)).mono ?_⟩
  rintro e w2 ⟨v2, rfl, hs2, hk2⟩
  have nA := hk2.at_ ((HR.out.2.1.block s (by omega)).trans H0.out.2.1.1) (by simp)
  have nB := hk2.at_ ((HR.out.2.1.block (s + 1) (by omega)).trans H0.out.2.1.2.1) (by simp)
  have cA := cells_at nA
  have fA := free_at nA
  have cB := cells_at nB
  have fB := free_at nB
  obtain ⟨g2, c2, cur2, rfl, hrest⟩ := hs2
  have HM := Lib.hid (And.intro nA (And.intro nB (And.intro hrest hk2)))
  clear hrest hk2 hc nA nB
  gi_wp2
  have q1 : Keeps [s] w2 (w2.setCell ⟨s, 0, none⟩ (.slice (some ⟨g2, 0, none⟩) 1 c2)) := (Keeps.refl _ w2).setCell (.inl (by simp)) _
  have nA1 := heap_cell_same (i := 0) HM.out.1 (.slice (some ⟨g2, 0, none⟩) 1 c2)
  have nB1 := q1.at_ HM.out.2.1 (by simp)
  have q2 : Keeps [s + 1] (w2.setCell ⟨s, 0, none⟩ (.slice (some ⟨g2, 0, none⟩) 1 c2)) ((w2.setCell ⟨s, 0, none⟩ (.slice (some ⟨g2, 0, none⟩) 1 c2)).setCell ⟨s + 1, 0, none⟩ (.int .i64 0)) := (Keeps.refl _ _).setCell (.inl (by simp)) _
  have nA2 := q2.at_ nA1 (by simp)
  have nB2 := heap_cell_same (i := 0) nB1 (.int .i64 0)
  have q12 : Keeps [s, s + 1] w2 ((w2.setCell ⟨s, 0, none⟩ (.slice (some ⟨g2, 0, none⟩) 1 c2)).setCell ⟨s + 1, 0, none⟩ (.int .i64 0)) := (q1.mono (by simp)).trans (q2.mono (by simp))
  generalize (w2.setCell ⟨s, 0, none⟩ (.slice (some ⟨g2, 0, none⟩) 1 c2)).setCell ⟨s + 1, 0, none⟩ (.int .i64 0) = W9 at nA2 nB2 q12 ⊢
  have hD2 : W9.heap[D]? = some (.deferred (some [])) := q12.at_ (HM.out.2.2.2.at_ HR.out.2.2 (by simp)) (by simp; omega)
  refine ⟨by simp, .inl ⟨_, _, rfl, run_takeDeferred hD2, ?_⟩⟩
  have q10 : Keeps [D] W9 (W9.putObj D (.deferred none)) := Keeps.of_grown (grownBy_putObj' W9 D _) (fun k hk => .inl (by simp at hk; simp [hk]))
  have hDW := lt_of_at HR.out.2.2
  have hg2 := HM.out.2.2.1.1
  have nA3 := q10.at_ nA2 (by simp; omega)
  have nB3 := q10.at_ nB2 (by simp; omega)
  have nG := q10.at_ (q12.at_ HM.out.2.2.1.2.2.2.1 (by simp; omega)) (by simp; omega)
  have hws := HS.out
  have kW : Keeps [] w W := Keeps.of_below ((H0.out.1.below (Nat.le_refl _) (by simp)).trans (HR.out.2.1.mono (by omega)))
  have kF : Keeps [] w (W9.putObj D (.deferred none)) := ((kW.trans HM.out.2.2.2).after q12 (fun x hx => .inr (by simp at hx; omega))).after q10 (fun x hx => .inr (by simp at hx; omega))
  generalize W9.putObj D (.deferred none) = W10 at nA3 nB3 nG kF ⊢
  have cA3 := cells_at nA3 0
  have cB3 := cells_at nB3 0
  refine ⟨.tuple #[.slice (some ⟨g2, 0, none⟩) 1 c2, .int .i64 0], ?_, ⟨_, rfl, ⟨g2, c2, cur2, rfl, by omega, HM.out.2.2.1.2.1, HM.out.2.2.1.2.2.1, nG, HM.out.2.2.1.2.2.2.2⟩, kF⟩⟩
  simp at cA3 cB3
  simp [results, Tryz.results33, go_sem, cA3, cB3]
 case stop =>
  rintro D c pre W _ _ h _
  exact h.elim
end Go.Proofs.YtgdkceeonnfejaaGreatDoor
