/-
  A sweeper (package sweep): New, Done, Gone.
  As in the scan's file.

  A new sweeper (package sweep): New.
  As in the scan's file.

  A sweeper that begins again (package sweep): Again.
  As in the scan's file.
-/
import Derived.Test.YtbndpegilpgheaaGreatScanStep
import Derived.Deep.RegionWith
namespace Go.Proofs.YtbndpegilpgheaaGreat
open Go Go.RowKit

structure SweepS where
  cfg : Int × Int × Int
  scan : ScanS
  left : List ByteArray
  ready : Bool
  gone : Int

def encCfg (c : Int × Int × Int) : List Value := [.int .i64 c.1, .int .i64 c.2.1, .int .i64 c.2.2]

def SweepAt (w : World) (B p q gb : Nat) (Z : SweepS) : Prop :=
  B ≤ p ∧ p ≠ q ∧ p ≠ gb ∧ ∃ B2 vl, p < B2 ∧ q < B2 ∧ gb < B2 ∧
    w.heap[p]? = some (.cells #[.int .i64 Z.cfg.1, .int .i64 Z.cfg.2.1, .int .i64 Z.cfg.2.2, .pointer (some ⟨q, 0, none⟩), vl, .bool Z.ready, .int .i64 Z.gone] 153 (0, 0)) ∧
    SliceFrom B2 1 encS1 w vl Z.left ∧ ScanAt (p + 1) w B q gb Z.scan

theorem SweepAt.keep {w w' : World} {B p q gb : Nat} {Z : SweepS} {R : List Nat} (h : SweepAt w B p q gb Z) (k : Keeps R w w') (hR : ∀ x ∈ R, x < B) : SweepAt w' B p q gb Z := by
  obtain ⟨h1, h2, h2', B2, vl, h3, h4, h5, h6, h7, h8⟩ := h
  exact ⟨h1, h2, h2', B2, vl, h3, h4, h5, k.at_ h6 (fun hm => by have := hR _ hm; omega), h7.keep k (fun x hx => by have := hR x hx; omega), h8.keep k hR⟩


set_option maxRecDepth 100000 in
set_option maxHeartbeats 1000000 in
theorem sweepGone_spec (w : World) (B p q gb : Nat) (Z : SweepS) (h : SweepAt w B p q gb Z) : Calls Tryz.prog 31 #[.pointer (some ⟨p, 0, none⟩)] w fun e w' => e = .returned (.int .i64 Z.gone) ∧ w = w' := by
  obtain ⟨_, _, _, B2, vl, _, _, _, h6, _, _⟩ := h
  have c5 := cells_at h6
  have l5 := lt_of_at h6
  clear h6
  go_enter Tryz.func31, Tryz.ntmps31
  go_wp2_with fail
  go_ret
  exact ⟨rfl, rfl⟩


set_option maxRecDepth 100000 in
set_option maxHeartbeats 1000000 in
theorem sweepDone_spec (w : World) (B p q gb : Nat) (Z : SweepS) (h : SweepAt w B p q gb Z) : Calls Tryz.prog 53 #[.pointer (some ⟨p, 0, none⟩)] w fun e w' => e = .returned (.bool (Z.ready && Z.left.isEmpty)) ∧ w = w' := by
  obtain ⟨_, _, _, B2, vl, _, _, _, h6, h7, _⟩ := h
  obtain ⟨ao, cap, rfl, hl, _⟩ := h7
  unfold maxLen at hl
  have c5 := cells_at h6
  have l5 := lt_of_at h6
  clear h6
  cases hb : Z.ready with
  | true =>
    rw [hb] at c5
    cases hw : Z.left with
    | nil =>
      rw [hw] at c5
      simp only [List.length_nil] at c5
      go_enter Tryz.func53, Tryz.ntmps53
      go_wp2_with fail
      go_ret
      exact ⟨rfl, rfl⟩
    | cons x l =>
      rw [hw] at c5 hl
      have hne : ((((x :: l).length : Nat) : Int) == 0) = false := by rw [beq_eq_false_iff_ne]; simp only [List.length_cons]; omega
      have hne2 : ¬ (((x :: l).length : Nat) : Int) = 0 := by simp only [List.length_cons]; omega
      have hpos : 0 < (x :: l).length := by simp
      generalize (x :: l).length = n at c5 hl hne hne2 hpos
      clear hw
      go_enter Tryz.func53, Tryz.ntmps53
      go_wp2_with fail
      go_ret
      exact ⟨rfl, rfl⟩
  | false =>
    rw [hb] at c5
    go_enter Tryz.func53, Tryz.ntmps53
    go_wp2_with fail
    go_ret
    exact ⟨rfl, rfl⟩
end Go.Proofs.YtbndpegilpgheaaGreat

namespace Go.Proofs.YtbndpegilpgheaaGreat
open Go Go.RowKit

def NewPost (w : World) (c : Int × Int × Int) (e : Ending) (w' : World) : Prop :=
  ∃ p q gb, e = .returned (.pointer (some ⟨p, 0, none⟩)) ∧ SweepAt w' w.heap.size p q gb ⟨c, scan0, [], false, 0⟩ ∧ Keeps [] w w'


theorem ScanAt.low {X : Nat} {w : World} {B B' q gb : Nat} {S : ScanS} (h : ScanAt X w B q gb S) (hB : B' ≤ B) : ScanAt X w B' q gb S := ⟨Nat.le_trans hB h.1, Nat.le_trans hB h.2.1, h.2.2⟩

theorem newPost_of {w wa w1 : World} {c : Int × Int × Int} {q gb : Nat} (ka : Keeps [] w wa) (hS : ScanAt 0 w1 wa.heap.size q gb scan0) (hk : Keeps [] wa w1) :
    NewPost w c (.returned (.pointer (some ⟨w1.heap.size, 0, none⟩))) (w1.alloc (.cells #[.int .i64 c.1, .int .i64 c.2.1, .int .i64 c.2.2, .pointer (some ⟨q, 0, none⟩), .slice none 0 0, .bool false, .int .i64 0] 153)) := by
  have hl := hS.lt
  have h1 := ka.size
  have h2 := hk.size
  exact ⟨w1.heap.size, q, gb, rfl, ⟨by omega, by omega, by omega, w1.heap.size + 1, _, by omega, by omega, by omega, heap_new w1 _, sliceFrom_nil _ _ _ _, ((hS.low h1).same ((Keeps.refl [] w1).alloc _)).up (by simp)⟩, (ka.trans hk).alloc _⟩


set_option linter.unusedSimpArgs false in
set_option maxRecDepth 100000 in
set_option maxHeartbeats 1000000 in
theorem sweepNew_spec (w : World) (c : Int × Int × Int) : Calls Tryz.prog 21 #[.agg #[.int .i64 c.1, .int .i64 c.2.1, .int .i64 c.2.2]] w (NewPost w c) := by
  obtain ⟨c0, c1, c2⟩ := c
  have n1 := heap_new w (.cells #[.int .i64 c0, .int .i64 c1, .int .i64 c2] 50)
  have cc := cells_at n1
  have ka : Keeps [] w (w.alloc (.cells #[.int .i64 c0, .int .i64 c1, .int .i64 c2] 50)) := (Keeps.refl [] w).alloc _
  have l1 : w.heap.size < (w.alloc (.cells #[.int .i64 c0, .int .i64 c1, .int .i64 c2] 50)).heap.size := lt_of_at n1
  have d0 := cc 0
  have d1 := cc 1
  have d2 := cc 2
  simp only [List.getElem?_toArray, List.getElem?_cons_zero, List.getElem?_cons_succ] at d0 d1 d2
  go_enter Tryz.func21, Tryz.ntmps21
  go_upto_region 1 with fail
  go_region_with (go_at_call 62; refine (scanNew_spec _).mono ?_; rintro e w1 ⟨q, gb, rfl, hS, hk⟩; have e0 := (hk.cell l1 (by simp)).trans d0; have e1 := (hk.cell l1 (by simp)).trans d1; have e2 := (hk.cell l1 (by simp)).trans d2)
  all_goals
    go_wp2_with fail
    go_ret
    exact newPost_of ka.drew hS hk
end Go.Proofs.YtbndpegilpgheaaGreat

namespace Go.Proofs.YtbndpegilpgheaaGreat
open Go Go.RowKit

def AgainPost (w : World) (B p : Nat) (Z : SweepS) (e : Ending) (w' : World) : Prop :=
  e = .returned (.tuple #[]) ∧ ∃ q gb, SweepAt w' B p q gb ⟨Z.cfg, scan0, [], false, Z.gone⟩ ∧ Keeps [p] w w' ∧ w.heap.size ≤ q ∧ w.heap.size ≤ gb


theorem set7 {w : World} {p : Nat} {t : TypeId} {a0 a1 a2 a3 a4 a5 a6 v0 v1 v2 v3 v4 v5 v6 v7 : Value} {z : Nat × Nat} (h : w.heap[p]? = some (.cells #[a0, a1, a2, a3, a4, a5, a6] t z)) :
    ((((((((w.setCell ⟨p, 0, none⟩ v0).setCell ⟨p, 1, none⟩ v1).setCell ⟨p, 2, none⟩ v2).setCell ⟨p, 3, none⟩ v3).setCell ⟨p, 4, none⟩ v4).setCell ⟨p, 5, none⟩ v5).setCell ⟨p, 6, none⟩ v6).setCell ⟨p, 6, none⟩ v7).heap[p]? = some (.cells #[v0, v1, v2, v3, v4, v5, v7] t z) ∧
      Keeps [p] w ((((((((w.setCell ⟨p, 0, none⟩ v0).setCell ⟨p, 1, none⟩ v1).setCell ⟨p, 2, none⟩ v2).setCell ⟨p, 3, none⟩ v3).setCell ⟨p, 4, none⟩ v4).setCell ⟨p, 5, none⟩ v5).setCell ⟨p, 6, none⟩ v6).setCell ⟨p, 6, none⟩ v7) := by
  have h0 := heap_cell_same (i := 0) h v0
  have h1 := heap_cell_same (i := 1) h0 v1
  have h2 := heap_cell_same (i := 2) h1 v2
  have h3 := heap_cell_same (i := 3) h2 v3
  have h4 := heap_cell_same (i := 4) h3 v4
  have h5 := heap_cell_same (i := 5) h4 v5
  have h6 := heap_cell_same (i := 6) h5 v6
  have h7 := heap_cell_same (i := 6) h6 v7
  exact ⟨h7.trans (by simp), ((((((((Keeps.refl [p] w).setCell (.inl (by simp)) v0).setCell (.inl (by simp)) v1).setCell (.inl (by simp)) v2).setCell (.inl (by simp)) v3).setCell (.inl (by simp)) v4).setCell (.inl (by simp)) v5).setCell (.inl (by simp)) v6).setCell (.inl (by simp)) v7⟩

theorem again_of {w w1 W : World} {B p q2 gb2 B1 : Nat} {Z : SweepS} {u0 : Value} (hB : B ≤ p) (hlt : p < w.heap.size) (hk : Keeps [] w w1) (hB1 : w.heap.size ≤ B1) {X : Nat} (g8 : ScanAt X w1 B1 q2 gb2 scan0) (g7 : SliceFrom (w.heap.size) 1 encS1 w1 u0 [])
    (h1 : W.heap[p]? = some (.cells #[.int .i64 Z.cfg.1, .int .i64 Z.cfg.2.1, .int .i64 Z.cfg.2.2, .pointer (some ⟨q2, 0, none⟩), u0, .bool false, .int .i64 Z.gone] 153 (0, 0))) (h2 : Keeps [p] w1 W) :
    AgainPost w B p Z (.returned (.tuple #[])) W := by
  have hl := g8.lt
  have e1 := g8.1
  have e2 := g8.2.1
  obtain ⟨ao, cap, rfl, a1, a2, a3, a4⟩ := g7
  exact ⟨rfl, q2, gb2, ⟨hB, by omega, by omega, max (max q2 gb2 + 1) (p + 1), _, by omega, by omega, by omega, h1, ⟨ao, cap, rfl, a1, a2, a3, fun i h => by simp at h⟩, ((g8.keep h2 (by simp; omega)).low (by omega)).up (by have := hk.size; have := h2.size; omega)⟩, (hk.mono (by simp)).trans h2, by omega, by omega⟩


set_option linter.unusedSimpArgs false in
set_option maxRecDepth 100000 in
set_option maxHeartbeats 1000000 in
theorem sweepAgain_spec (w : World) (B p q gb : Nat) (Z : SweepS) (h : SweepAt w B p q gb Z) : Calls Tryz.prog 25 #[.pointer (some ⟨p, 0, none⟩)] w (AgainPost w B p Z) := by
  obtain ⟨hB, _, _, B2, vl, _, _, _, h6, _, _⟩ := h
  have Hn := Lib.hid (sweepNew_spec w Z.cfg)
  have c5 := cells_at h6
  have l5 := lt_of_at h6
  have H6 := Lib.hid h6
  clear h6
  go_enter Tryz.func25, Tryz.ntmps25
  go_wp2_with fail
  refine Hn.out.mono ?_
  rintro e w1 ⟨p2, q2, gb2, rfl, hs, hk⟩
  have Hs := Lib.hid (And.intro hs hk)
  obtain ⟨hB1, _, _, B3, vl2, _, _, _, g6, g7, _⟩ := hs
  have g7' := g7
  obtain ⟨ao, cap, rfl, _, hc, hn, _⟩ := g7
  have Hs2 : Hid (SliceFrom w.heap.size 1 encS1 w1 (.slice ao 0 cap) []) := Lib.hid ⟨ao, cap, rfl, by simp [maxLen], by simp, hn, fun i h => by simp at h⟩
  clear g7'
  have hq := hk.at_ H6.out (by simp)
  have hpp : p ≠ p2 := by omega
  have e5 := cells_at g6
  have m5 := lt_of_at g6
  replace c5 := cells_at hq
  replace l5 := lt_of_at hq
  have f5 := free_at hq
  have Hq := Lib.hid (And.intro hq g6)
  clear hq g6 hk
  simp only [List.length_nil] at e5
  go_wp2_with fail
  all_goals
    have lw := lt_of_at H6.out
    obtain ⟨hB1, _, _, B3, vl2, _, _, _, _, g7, g8⟩ := Hs.out.1
    obtain ⟨t1, k1⟩ := set7 (v0 := .int .i64 Z.cfg.1) (v1 := .int .i64 Z.cfg.2.1) (v2 := .int .i64 Z.cfg.2.2) (v3 := .pointer (some ⟨q2, 0, none⟩)) (v4 := .slice ao 0 cap) (v5 := .bool false) (v6 := .int .i64 0) (v7 := .int .i64 Z.gone) Hq.out.1
    go_end0
    generalize World.setCell _ _ _ = W at t1 k1 ⊢
    exact again_of hB lw Hs.out.2 (Nat.le_refl _) g8 (Hs2.out) t1 k1
end Go.Proofs.YtbndpegilpgheaaGreat
