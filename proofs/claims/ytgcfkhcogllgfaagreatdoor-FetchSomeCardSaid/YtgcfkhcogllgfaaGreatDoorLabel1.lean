/-
  Package label at one pair, a=1: goodName, Check, Make, walked.
  No condition beyond those that each theorem states.

  Package label at one pair, a=1: Make, walked.
  No condition beyond those that each theorem states.

  Package label at one pair: Parse of the text a=1, a range over strings.SplitSeq, walked.
  The library's variable internal/bytealg.MaxLen holds some number.
-/
import Derived.Test.YtgcfkhcogllgfaaGreatDoorPostLaw
import Derived.Test.YtgcfkhcogllgfaaGreatDoorLibVar
import Derived.Test.YtgcfkhcogllgfaaGreatDoorShelfA
import Derived.RangeFuncNested
import Derived.RangeFuncBox
import Derived.RangeFuncBound
import Derived.RangeFuncCalls
import Derived.RangeFuncLeaves
import Derived.Shelf.Abstract
import Derived.Shelf.AbstractIn
import Derived.Shelf.RegionOpen
import Derived.OwnWalkIn
import Derived.TacticsInMore
import Derived.LoopNIn
import Derived.LoopIn
import Derived.Maps.AppendAt
namespace Go.Proofs.YtgcfkhcogllgfaaGreatDoor
set_option maxRecDepth 100000
set_option maxHeartbeats 1000000
open Go Go.RowKit
theorem run_stringBy (w : World) (s : ByteArray) : ∃ c W, (convert 9 147 (.string s)).run Tryz.prog w = .ok (.slice (some ⟨w.heap.size, 0, none⟩) s.size c) W ∧ Keeps [] w W ∧ w.heap.size < W.heap.size ∧ ∀ i (h : i < s.size), W.cell? ⟨w.heap.size, i, none⟩ = some (.int .u8 (s[i].toNat : Int)) := by
 refine ⟨_, _, run_bytes_of_string w _ _ 5 s Tryz.underlying9 Tryz.underlying147 Tryz.underlying5, ((Keeps.refl [] w).drew).alloc _, by simp, fun i h => ?_⟩
 have := cells_at (heap_new w.drew (.cells (bytesRow s (grownCap w s.size 0 5)) 5 ((bytesRow s (grownCap w s.size 0 5)).size, (bytesRow s (grownCap w s.size 0 5)).size + 1))) i
 rw [bytesRow_at s _ i h] at this
 exact this
def Set1 (B : Nat) (w : World) (v : Value) : Prop := ∃ g c cur, v = .slice (some ⟨g, 0, none⟩) 1 c ∧ B ≤ g ∧ 1 ≤ c ∧ c ≤ maxLen ∧ w.heap[g]? = some (.cells cur 91 (0, 0)) ∧ cur.size = c * 2 ∧ cur[0]? = some (.string ⟨#[97]⟩) ∧ cur[1]? = some (.string ⟨#[49]⟩)
theorem infoPair : (Tryz.prog.info? 91).map (fun i => (i.zero, i.size, i.bytes)) = some (some (.agg #[.string ⟨#[]⟩, .string ⟨#[]⟩]), 2, 32) := by kernel_rfl
theorem Set1.news {w : World} {g : Nat} {cur : Array Value} (hg : w.heap[g]? = some (.cells cur 91 (0, 0))) (h0 : cur[0]? = some (.string ⟨#[97]⟩)) (h1 : cur[1]? = some (.string ⟨#[49]⟩)) :
  ∀ j u, ([.string ⟨#[97]⟩, .string ⟨#[49]⟩] : List Value)[j]? = some u → w.cell? ((⟨g, 0, none⟩ : Addr).add j) = some u := by
 intro j u hu
 have hadd : (⟨g, 0, none⟩ : Addr).add j = ⟨g, j, none⟩ := by unfold Addr.add; split <;> simp_all
 rw [hadd, cells_at hg]
 match j with
 | 0 => rw [h0]; exact hu
 | 1 => rw [h1]; exact hu
 | n + 2 => simp at hu
theorem Set1.keep {B : Nat} {w w' : World} {v : Value} {S : List Nat} (h : Set1 B w v) (k : Keeps S w w') (hS : ∀ x ∈ S, x < B) : Set1 B w' v := by
 obtain ⟨g, c, cur, e, hb, h1, h2, hg, r⟩ := h
 exact ⟨g, c, cur, e, hb, h1, h2, k.at_ hg (fun hm => by have := hS g hm; omega), r⟩
instance go1Set1 {w w' : World} (B : Nat) (v : Value) : Go1 w w' (Set1 B w v) (Set1 B w' v) := ⟨fun k h => h.keep k (by simp)⟩
theorem Set1.low {B B' : Nat} {w : World} {v : Value} (h : Set1 B w v) (hB : B' ≤ B) : Set1 B' w v := by
 obtain ⟨g, c, cur, e, hb, r⟩ := h
 exact ⟨g, c, cur, e, by omega, r⟩
open Go Go.RowKit Go.Shelf
attribute [local go_sem] Oper.semAt_some
instance go1LibVar {w w' : World} : Go1 w w' (LibVar w) (LibVar w') := ⟨fun k h => h.keep k (by simp)⟩
theorem split0_spec (w : World) (s sep : ByteArray) :
  Calls Tryz.prog 75 #[.string s, .string sep, .int .i64 0] w fun e w' => e = .returned (.func (.func 104) #[] #[.pointer (some ⟨w.heap.size + 1, 0, none⟩), .pointer (some ⟨w.heap.size, 0, none⟩), .pointer (some ⟨w.heap.size + 2, 0, none⟩)]) ∧
   w' = ((w.alloc (.cells #[.string s] 9)).alloc (.cells #[.string sep] 9)).alloc (.cells #[.int .i64 0] 3) := by
 go_enter Tryz.func75, Tryz.ntmps75
 go_wp2_with fail
 go_ret
 exact ⟨rfl, rfl⟩
theorem splitSeq_spec (w : World) (s sep : ByteArray) :
  Calls Tryz.prog 43 #[.string s, .string sep] w fun e w' => e = .returned (.func (.func 104) #[] #[.pointer (some ⟨w.heap.size + 1, 0, none⟩), .pointer (some ⟨w.heap.size, 0, none⟩), .pointer (some ⟨w.heap.size + 2, 0, none⟩)]) ∧
   w' = ((w.alloc (.cells #[.string s] 9)).alloc (.cells #[.string sep] 9)).alloc (.cells #[.int .i64 0] 3) := by
 go_enter Tryz.func43, Tryz.ntmps43
 go_wp2_with fail
 refine (split0_spec _ s sep).mono ?_
 rintro e w1 ⟨rfl, rfl⟩
 go_wp2_with fail
 go_ret
 exact ⟨rfl, rfl⟩
end Go.Proofs.YtgcfkhcogllgfaaGreatDoor
