/-
  A query of a bucket of nothing, walked: listing.New of nothing; what it tells; query.New, Step, Result.
  No condition beyond those that each theorem states.

  A query of a bucket of nothing with one table of one row: Step, and Result, walked.
  No condition beyond those that each theorem states.
-/
import Derived.Test.YtlifonflgcfafaaGreatDoorTabTbl
import Derived.Test.YtlifonflgcfafaaGreatDoorBucket
namespace Go.Proofs.YtlifonflgcfafaaGreatDoor
open Go Go.RowKit

set_option linter.unusedSimpArgs false in
set_option maxRecDepth 100000 in
theorem isortM0_spec (w : World) (v f : Value) : Calls Tryz.prog 258 #[v, .int .i64 0, .int .i64 0, f] w fun e w' => e = .returned (.tuple #[]) ∧ w' = w := by
  go_enter Tryz.func258, Tryz.ntmps258
  go_wp2_with fail
  go_loopg [8] 0 (fun (gk : Nat) (u8 : Value) (wr : World) => gk = 0 ∧ u8 = .int .i64 1 ∧ wr = w)
  case atStart => exact ⟨rfl, rfl, rfl⟩
  case round =>
    obtain ⟨hgk, rfl, rfl⟩ := hrel
    go_wp2_with fail
    refine bodyPost_end (results_none rfl _ _ _) rfl ?_
    exact ⟨rfl, rfl⟩

set_option linter.unusedSimpArgs false in
set_option maxRecDepth 100000 in
theorem pdqM0_spec (w : World) (v x f : Value) : Calls Tryz.prog 226 #[v, .int .i64 0, .int .i64 0, x, f] w fun e w' => e = .returned (.tuple #[]) ∧ w' = w := by
  go_enter Tryz.func226, Tryz.ntmps226
  go_wp2_with fail
  go_loopg [1, 2] 0 (fun (gk : Nat) (u1 u2 : Value) (wr : World) => gk = 0 ∧ u1 = .int .i64 0 ∧ u2 = .int .i64 0 ∧ wr = w)
  case atStart => exact ⟨rfl, rfl, rfl, rfl⟩
  case round =>
    obtain ⟨hgk, rfl, rfl, rfl⟩ := hrel
    go_wp2_with fail
    refine (isortM0_spec wr v f).mono ?_
    rintro e w2 ⟨rfl, rfl⟩
    go_wp2_with fail
    refine bodyPost_ret (results_none rfl _ _ _) rfl ?_
    exact ⟨rfl, rfl⟩

set_option linter.unusedSimpArgs false in
set_option maxRecDepth 100000 in
theorem sortM0_spec (w : World) (f : Value) : Calls Tryz.prog 174 #[.slice none 0 0, f] w fun e w' => e = .returned (.tuple #[]) ∧ w' = w := by
  go_enter Tryz.func174, Tryz.ntmps174
  go_wp2_with fail
  refine (Tryz.bits_Len 0 w (by decide) (by decide)).mono ?_
  rintro e w2 ⟨rfl, rfl⟩
  go_wp2_with fail
  refine (pdqM0_spec w2 _ _ f).mono ?_
  rintro e w3 ⟨rfl, rfl⟩
  go_wp2_with fail
  refine bodyPost_end (results_none rfl _ _ _) rfl ?_
  exact ⟨rfl, rfl⟩

theorem run_eql_slice_nil0 {P : Program} (w : World) (t e : TypeId) (a : Option Addr) (n c : Nat) (h : P.underlying t = some (.slice e)) :
    (binOp .eql t (.slice a n c) (.slice none 0 0)).run P w = .ok (.bool a.isNone) w := run_eql_slice_nilP w t e a n c h

set_option linter.unusedSimpArgs false in
set_option maxRecDepth 100000 in
theorem cloneM0_spec (w : World) : Calls Tryz.prog 172 #[.slice none 0 0] w fun e w' => e = .returned (.slice none 0 0) ∧ w' = w := by
  have qT : ∀ (w : World) (a : Option Addr) (n c : Nat), (binOp .eql 216 (.slice a n c) (.slice none 0 0)).run Tryz.prog w = .ok (.bool a.isNone) w := fun w a n c => run_eql_slice_nilP w _ _ a n c Tryz.underlying216
  go_enter Tryz.func172, Tryz.ntmps172
  go_wp2_with fail
  go_ret
  exact ⟨rfl, rfl⟩

set_option linter.unusedSimpArgs false in
set_option maxRecDepth 100000 in
theorem cloneMap0_spec (w : World) : Calls Tryz.prog 173 #[.map none] w fun e w' => e = .returned (.map none) ∧ w' = w := by
  have qM : ∀ (w : World) (r : Option Nat), (binOp .eql 67 (.map r) (.map none)).run Tryz.prog w = .ok (.bool r.isNone) w := fun w r => run_eql_map_nil w _ _ _ r Tryz.underlying67
  go_enter Tryz.func173, Tryz.ntmps173
  go_wp2_with fail
  go_ret
  exact ⟨rfl, rfl⟩

set_option linter.unusedSimpArgs false in
set_option maxRecDepth 100000 in
theorem newL0_spec (w : World) : Calls Tryz.prog 120 #[.int .i64 0, .slice none 0 0, .map none] w fun e w' => (∃ m, e = .returned (.agg #[.int .i64 0, .slice none 0 0, .map (some m)])) ∧ Keeps [] w w' := by
  have hmm := @run_makeMap Tryz.prog
  have qM : ∀ (w : World) (r : Option Nat), (binOp .eql 67 (.map r) (.map none)).run Tryz.prog w = .ok (.bool r.isNone) w := fun w r => run_eql_map_nil w _ _ _ r Tryz.underlying67
  go_enter Tryz.func120, Tryz.ntmps120
  go_wp2_with fail
  refine (cloneM0_spec _).mono ?_
  rintro e w2 ⟨rfl, rfl⟩
  go_wp2_with fail
  refine (cloneMap0_spec _).mono ?_
  rintro e w2 ⟨rfl, rfl⟩
  go_wp2_with fail
  refine (sortM0_spec _ _).mono ?_
  rintro e w2 ⟨rfl, rfl⟩
  go_wp2_with fail
  have q0 := heap_old (heap_old (heap_new w (.cells #[.int .i64 0, .slice none 0 0, .map (some (w.heap.size + 1 + 1))] 218)) (.cells #[.int .i64 0, .slice none 0 0, .map (some (w.heap.size + 1 + 1))] 218)) (.map #[] 0)
  have kw : Keeps [] w (((w.alloc (.cells #[.int .i64 0, .slice none 0 0, .map (some (w.heap.size + 1 + 1))] 218)).alloc (.cells #[.int .i64 0, .slice none 0 0, .map (some (w.heap.size + 1 + 1))] 218)).alloc (.map #[] 0)) := (((Keeps.refl [] w).alloc _).alloc _).alloc _
  generalize ((w.alloc (.cells #[.int .i64 0, .slice none 0 0, .map (some (w.heap.size + 1 + 1))] 218)).alloc (.cells #[.int .i64 0, .slice none 0 0, .map (some (w.heap.size + 1 + 1))] 218)).alloc (.map #[] 0) = W3 at q0 kw ⊢
  have hc := cells_at q0
  have hlr := lt_of_at q0
  refine bodyPost_ret (v := .agg #[.int .i64 0, .slice none 0 0, .map (some (w.heap.size + 1 + 1))]) ?_ rfl ⟨⟨_, rfl⟩, kw⟩
  simp [results, Tryz.results120, go_sem, hc, hlr]

set_option linter.unusedSimpArgs false in
set_option maxRecDepth 100000 in
theorem shadow0_spec (w : World) (m : Nat) : Calls Tryz.prog 266 #[.agg #[.int .i64 0, .slice none 0 0, .map (some m)]] w fun e w' => (∃ m2, e = .returned (.map (some m2))) ∧ Keeps [] w w' := by
  have hmm := @run_makeMap Tryz.prog
  go_enter Tryz.func266, Tryz.ntmps266
  go_wp2_with fail
  go_loopg [12] 0 (fun (gk : Nat) (u12 : Value) (wr : World) => gk = 0 ∧ u12 = .int .i64 0 ∧ Keeps [] w wr)
  case atStart => exact ⟨rfl, rfl, ((Keeps.refl [] w).alloc _).alloc _⟩
  case round =>
    obtain ⟨hgk, rfl, hk⟩ := hrel
    go_wp2_with fail
    go_ret
    exact ⟨⟨_, rfl⟩, hk⟩

set_option linter.unusedSimpArgs false in
set_option maxRecDepth 100000 in
theorem live0_spec (w : World) (m : Nat) : Calls Tryz.prog 227 #[.agg #[.int .i64 0, .slice none 0 0, .map (some m)]] w fun e w' => e = .returned (.slice none 0 0) ∧ Keeps [] w w' := by
  go_enter Tryz.func227, Tryz.ntmps227
  go_wp2_with fail
  refine (shadow0_spec _ m).mono ?_
  rintro e w2 ⟨⟨m2, rfl⟩, k2⟩
  have k1 : Keeps [] w (w.alloc (.cells #[.int .i64 0, .slice none 0 0, .map (some m)] 218)) := (Keeps.refl [] w).alloc _
  have q2 := k2.at_ (heap_new w (.cells #[.int .i64 0, .slice none 0 0, .map (some m)] 218)) (by simp)
  have K := Lib.hid (k1.trans k2)
  clear k1 k2
  generalize w.heap.size = p at q2 ⊢
  have c2 := cells_at q2
  have l2 := lt_of_at q2
  go_wp2_with fail
  go_loopg [4, 12] 0 (fun (gk : Nat) (u4 u12 : Value) (wr : World) => gk = 0 ∧ u4 = .slice none 0 0 ∧ u12 = .int .i64 0 ∧ wr = w2)
  case atStart => exact ⟨rfl, rfl, rfl, rfl⟩
  case round =>
    obtain ⟨hgk, rfl, rfl, rfl⟩ := hrel
    go_wp2_with fail
    go_ret
    exact ⟨rfl, K.out⟩

set_option linter.unusedSimpArgs false in
set_option maxRecDepth 100000 in
theorem over0_spec (w : World) (m : Nat) (x y : Int) : Calls Tryz.prog 176 #[.agg #[.int .i64 0, .slice none 0 0, .map (some m)], .int .i64 x, .int .i64 y] w fun e w' => e = .returned (.slice none 0 0) ∧ Keeps [] w w' := by
  go_enter Tryz.func176, Tryz.ntmps176
  go_wp2_with fail
  refine (live0_spec _ m).mono ?_
  rintro e w2 ⟨rfl, k2⟩
  have k1 : Keeps [] w (w.alloc (.cells #[.int .i64 0, .slice none 0 0, .map (some m)] 218)) := (Keeps.refl [] w).alloc _
  have K := Lib.hid (k1.trans k2)
  clear k1 k2
  go_wp2_with fail
  go_loopg [7, 13] 0 (fun (gk : Nat) (u7 u13 : Value) (wr : World) => gk = 0 ∧ u7 = .slice none 0 0 ∧ u13 = .int .i64 0 ∧ wr = w2)
  case atStart => exact ⟨rfl, rfl, rfl, rfl⟩
  case round =>
    obtain ⟨hgk, rfl, rfl, rfl⟩ := hrel
    go_wp2_with fail
    go_ret
    exact ⟨rfl, K.out⟩

/-- A query of all times ahead of 100, of one table. -/
def QAt (w : World) (q tb ct : Nat) (listed ended : Bool) : Prop := w.heap[q]? = some (.cells #[.int .i64 0, .int .i64 100, .slice none 0 0, .int .i64 9, .slice (some ⟨tb, 0, none⟩) 1 ct, .slice none 0 0, .bool listed, .int .i64 0, .slice none 0 0, .bool ended, .int .i64 0] 166 (0, 0))

set_option linter.unusedSimpArgs false in
set_option maxRecDepth 100000 in
theorem newQ_spec (w : World) (tb ct : Nat) : Calls Tryz.prog 45 #[.agg #[.int .i64 0, .int .i64 100, .slice none 0 0], .int .i64 9, .slice none 0 0, .slice (some ⟨tb, 0, none⟩) 1 ct] w fun e w' => ∃ q, e = .returned (.pointer (some ⟨q, 0, none⟩)) ∧ w.heap.size ≤ q ∧ QAt w' q tb ct false false ∧ Keeps [] w w' := by
  go_enter Tryz.func45, Tryz.ntmps45
  go_wp2_with fail
  go_ret
  have hn := heap_new (w.alloc (.cells #[.int .i64 0, .int .i64 100, .slice none 0 0] 59)) (.cells #[.int .i64 0, .int .i64 100, .slice none 0 0, .int .i64 9, .slice (some ⟨tb, 0, none⟩) 1 ct, .slice none 0 0, .bool false, .int .i64 0, .slice none 0 0, .bool false, .int .i64 0] 166)
  rw [World.size_alloc] at hn
  exact ⟨_, rfl, by omega, hn, ((Keeps.refl [] w).alloc _).alloc _⟩

set_option linter.unusedSimpArgs false in
set_option maxRecDepth 100000 in
theorem busy_spec (w : World) (q tb ct : Nat) (h : QAt w q tb ct false false) : Calls Tryz.prog 46 #[.pointer (some ⟨q, 0, none⟩)] w fun e w' => e = .returned (.tuple #[.slice none 0 0, .int .i64 15]) ∧ w' = w := by
  have cq := cells_at h
  have lq := lt_of_at h
  go_enter Tryz.func46, Tryz.ntmps46
  go_wp2_with fail
  go_ret2
  exact ⟨rfl, rfl⟩

set_option linter.unusedSimpArgs false in
set_option maxRecDepth 100000 in
theorem ended_spec (w : World) (q tb ct : Nat) (l e : Bool) (h : QAt w q tb ct l e) : Calls Tryz.prog 48 #[.pointer (some ⟨q, 0, none⟩)] w fun x w' => x = .returned (.bool e) ∧ w' = w := by
  have cq := cells_at h
  have lq := lt_of_at h
  go_enter Tryz.func48, Tryz.ntmps48
  go_wp2_with fail
  go_ret
  exact ⟨rfl, rfl⟩

set_option linter.unusedSimpArgs false in
set_option maxRecDepth 100000 in
theorem atQ_spec (w : World) (q tb ct : Nat) (e : Bool) (h : QAt w q tb ct true e) : Calls Tryz.prog 49 #[.pointer (some ⟨q, 0, none⟩)] w fun x w' => x = .returned (.int .i64 0) ∧ w' = w := by
  have cq := cells_at h
  have lq := lt_of_at h
  go_enter Tryz.func49, Tryz.ntmps49
  go_wp2_with fail
  go_ret
  exact ⟨rfl, rfl⟩

set_option linter.unusedSimpArgs false in
set_option maxRecDepth 100000 in
theorem endQ_spec (w : World) (q tb ct : Nat) (l : Bool) (h : QAt w q tb ct l false) : Calls Tryz.prog 82 #[.pointer (some ⟨q, 0, none⟩), .int .i64 0] w fun x w' => x = .returned (.int .i64 0) ∧ QAt w' q tb ct l true ∧ Keeps [q] w w' := by
  have cq := cells_at h
  have fq := free_at h
  have lq := lt_of_at h
  go_enter Tryz.func82, Tryz.ntmps82
  go_wp2_with fail
  go_ret
  refine ⟨rfl, ?_, by repeat (first | exact Keeps.refl _ _ | assumption | refine Keeps.drew ?_ | refine Keeps.drewN ?_ _ | refine Keeps.alloc ?_ _ | refine Keeps.setCell ?_ (by first | exact .inl (by simp) | exact .inr (by simp; done) | exact .inr (by simp; omega)) _)⟩
  have := heap_cell_same (i := 10) (heap_cell_same (i := 9) h (.bool true)) (.int .i64 0)
  exact this.trans (by simp)

set_option linter.unusedSimpArgs false in
set_option maxRecDepth 100000 in
theorem overQ_spec (w : World) (q tb ct : Nat) (l : Bool) (h : QAt w q tb ct l false) : Calls Tryz.prog 85 #[.pointer (some ⟨q, 0, none⟩)] w fun x w' => x = .returned (.int .i64 0) ∧ QAt w' q tb ct l true ∧ Keeps [q] w w' := by
  have cq := cells_at h
  have lq := lt_of_at h
  go_enter Tryz.func85, Tryz.ntmps85
  go_wp2_with fail
  clear cq lq
  go_loopg [10] 0 (fun (gk : Nat) (u10 : Value) (wr : World) => gk = 0 ∧ u10 = .int .i64 0 ∧ wr = w)
  case atStart => exact ⟨rfl, rfl, rfl⟩
  case round =>
    obtain ⟨hgk, rfl, rfl⟩ := hrel
    go_wp2_with fail
    refine (endQ_spec wr q tb ct l h).mono ?_
    rintro e w2 ⟨rfl, h2, k2⟩
    go_wp2_with fail
    go_ret
    exact ⟨rfl, h2, k2⟩

set_option linter.unusedSimpArgs false in
set_option maxRecDepth 100000 in
theorem metasQ_spec (w : World) (q tb ct m : Nat) (l e : Bool) (h : QAt w q tb ct l e) : Calls Tryz.prog 121 #[.pointer (some ⟨q, 0, none⟩), .agg #[.int .i64 0, .slice none 0 0, .map (some m)]] w fun x w' => x = .returned (.slice none 0 0) ∧ Keeps [] w w' := by
  have k1 : Keeps [] w (w.alloc (.cells #[.int .i64 0, .slice none 0 0, .map (some m)] 218)) := (Keeps.refl [] w).alloc _
  have H := Lib.hid (And.intro (show QAt _ q tb ct l e from k1.at_ h (by simp)) (And.intro (heap_new w (.cells #[.int .i64 0, .slice none 0 0, .map (some m)] 218)) k1))
  clear k1 h
  go_enter Tryz.func121, Tryz.ntmps121
  go_upto_region 1 with fail
  generalize w.alloc (.cells #[.int .i64 0, .slice none 0 0, .map (some m)] 218) = w1 at H ⊢
  generalize w.heap.size = p at H ⊢
  obtain ⟨W0, hW0⟩ : ∃ W0, W0 = w1.drew := ⟨_, rfl⟩
  have k0 : Keeps [] w1 W0 := by rw [hW0]; exact (Keeps.refl [] w1).drew
  have H0 := Lib.hid (And.intro (show QAt _ q tb ct l e from k0.at_ H.out.1 (by simp)) (And.intro (k0.at_ H.out.2.1 (by simp)) (H.out.2.2.trans k0)))
  have F0 : ∀ s : Kept W0, s.val.cell? ⟨q, 0, none⟩ = some (.int .i64 0) := keptCell (cells_at H0.out.1 0)
  have F1 : ∀ s : Kept W0, s.val.cell? ⟨q, 1, none⟩ = some (.int .i64 100) := keptCell (cells_at H0.out.1 1)
  have F2 : ∀ s : Kept W0, s.val.cell? ⟨p, 0, none⟩ = some (.int .i64 0) := keptCell (cells_at H0.out.2.1 0)
  have F3 : ∀ s : Kept W0, s.val.cell? ⟨p, 1, none⟩ = some (.slice none 0 0) := keptCell (cells_at H0.out.2.1 1)
  have F4 : ∀ s : Kept W0, s.val.cell? ⟨p, 2, none⟩ = some (.map (some m)) := keptCell (cells_at H0.out.2.1 2)
  refine wp_region_held_drew (S := KeptS W0) (by kernel_rfl) (by rw [← hW0]; exact keptS (Keeps.refl _ _)) (fun hS => ?_)
  rw [← hW0] at hS ⊢
  clear hW0 k0 H
  refine wpAnyH_take (i := 0) (v := ?_) rfl (by kernel_rfl) (by kernel_rfl) (by kernel_rfl) (fun _ _ _ h => h) (Or.inl ⟨by rfl, ?_⟩) (by assumption) ?_
  rotate_left
  · intro w' s1; obtain ⟨s, rfl⟩ := s1; go_simp; (try with_reducible rfl)
  simp only [Act.put, List.getElem_toArray, List.getElem_cons_succ, List.getElem_cons_zero, List.setIfInBounds_toArray, List.set_cons_zero, List.set_cons_succ]
  refine wpAnyH_take (i := 1) (v := ?_) rfl (by kernel_rfl) (by kernel_rfl) (by kernel_rfl) (fun _ _ _ h => h) (Or.inl ⟨by rfl, ?_⟩) (by assumption) ?_
  rotate_left
  · intro w' s1; obtain ⟨s, rfl⟩ := s1; go_simp; (try with_reducible rfl)
  simp only [Act.put, List.getElem_toArray, List.getElem_cons_succ, List.getElem_cons_zero, List.setIfInBounds_toArray, List.set_cons_zero, List.set_cons_succ]
  refine wpAnyH_take (i := 2) (v := ?_) rfl (by kernel_rfl) (by kernel_rfl) (by kernel_rfl) (fun _ _ _ h => h) (Or.inl ⟨by rfl, ?_⟩) (by assumption) ?_
  rotate_left
  · intro w' s1; obtain ⟨s, rfl⟩ := s1; go_simp; (try with_reducible rfl)
  simp only [Act.put, List.getElem_toArray, List.getElem_cons_succ, List.getElem_cons_zero, List.setIfInBounds_toArray, List.set_cons_zero, List.set_cons_succ]
  refine wpAnyH_take (i := 3) (v := ?_) rfl (by kernel_rfl) (by kernel_rfl) (by kernel_rfl) (fun _ _ _ h => h) (Or.inl ⟨by rfl, ?_⟩) (by assumption) ?_
  rotate_left
  · intro w' s1; obtain ⟨s, rfl⟩ := s1; go_simp; (try with_reducible rfl)
  simp only [Act.put, List.getElem_toArray, List.getElem_cons_succ, List.getElem_cons_zero, List.setIfInBounds_toArray, List.set_cons_zero, List.set_cons_succ]
  refine wpAnyH_take (i := 4) (v := ?_) rfl (by kernel_rfl) (by kernel_rfl) (by kernel_rfl) (fun _ _ _ h => h) (Or.inl ⟨by rfl, ?_⟩) (by assumption) ?_
  rotate_left
  · intro w' s1; obtain ⟨s, rfl⟩ := s1; go_simp; (try with_reducible rfl)
  simp only [Act.put, List.getElem_toArray, List.getElem_cons_succ, List.getElem_cons_zero, List.setIfInBounds_toArray, List.set_cons_zero, List.set_cons_succ]
  refine wpAnyH_take (i := 5) (v := ?_) rfl (by kernel_rfl) (by kernel_rfl) (by kernel_rfl) (fun _ _ _ h => h) (Or.inl ⟨by rfl, ?_⟩) (by assumption) ?_
  rotate_left
  · intro w' s1; obtain ⟨s, rfl⟩ := s1; go_simp; (try with_reducible rfl)
  simp only [Act.put, List.getElem_toArray, List.getElem_cons_succ, List.getElem_cons_zero, List.setIfInBounds_toArray, List.set_cons_zero, List.set_cons_succ]
  refine wpAnyH_take (i := 6) (v := ?_) rfl (by kernel_rfl) (by kernel_rfl) (by kernel_rfl) (fun _ _ _ h => h) (Or.inl ⟨by rfl, ?_⟩) (by assumption) ?_
  rotate_left
  · intro w' s1; obtain ⟨s, rfl⟩ := s1; go_simp; (try with_reducible rfl)
  simp only [Act.put, List.getElem_toArray, List.getElem_cons_succ, List.getElem_cons_zero, List.setIfInBounds_toArray, List.set_cons_zero, List.set_cons_succ]
  refine wpAnyH_take (i := 7) (v := ?_) rfl (by kernel_rfl) (by kernel_rfl) (by kernel_rfl) (fun _ _ _ h => h) (Or.inl ⟨by rfl, ?_⟩) (by assumption) ?_
  rotate_left
  · intro w' s1; obtain ⟨s, rfl⟩ := s1; go_simp; (try with_reducible rfl)
  simp only [Act.put, List.getElem_toArray, List.getElem_cons_succ, List.getElem_cons_zero, List.setIfInBounds_toArray, List.set_cons_zero, List.set_cons_succ]
  refine wpAnyH_take (i := 8) (v := ?_) rfl (by kernel_rfl) (by kernel_rfl) (by kernel_rfl) (fun _ _ _ h => h) (Or.inl ⟨by rfl, ?_⟩) (by assumption) ?_
  rotate_left
  · intro w' s1; obtain ⟨s, rfl⟩ := s1; go_simp; (try with_reducible rfl)
  simp only [Act.put, List.getElem_toArray, List.getElem_cons_succ, List.getElem_cons_zero, List.setIfInBounds_toArray, List.set_cons_zero, List.set_cons_succ]
  refine wpAnyH_take (i := 9) (v := ?_) rfl (by kernel_rfl) (by kernel_rfl) (by kernel_rfl) (fun _ _ _ h => h) (Or.inl ⟨by rfl, ?_⟩) (by assumption) ?_
  rotate_left
  · intro w' s1; obtain ⟨s, rfl⟩ := s1; go_simp; (try with_reducible rfl)
  simp only [Act.put, List.getElem_toArray, List.getElem_cons_succ, List.getElem_cons_zero, List.setIfInBounds_toArray, List.set_cons_zero, List.set_cons_succ]
  refine wpAnyH_take (i := 10) (v := ?_) rfl (by kernel_rfl) (by kernel_rfl) (by kernel_rfl) (fun _ _ _ h => h) (Or.inl ⟨by rfl, ?_⟩) (by assumption) ?_
  rotate_left
  · intro w' s1; obtain ⟨s, rfl⟩ := s1; go_simp; (try with_reducible rfl)
  simp only [Act.put, List.getElem_toArray, List.getElem_cons_succ, List.getElem_cons_zero, List.setIfInBounds_toArray, List.set_cons_zero, List.set_cons_succ]
  refine wpAnyH_ready (rs := [11]) (by kernel_rfl) (by simp) ?_
  refine AllReadyH.cons rfl (fun K hK => ?_) AllReadyH.nil
  go_simp
  go_at_call 176
  refine (over0_spec W0 m 0 100).mono ?_
  rintro e2 w2 ⟨rfl, k2⟩
  go_simp
  refine hK.out _ _ (keptS k2) (fun hS => ?_)
  clear hK K
  try simp only [Act.put, List.getElem_toArray, List.getElem_cons_succ, List.getElem_cons_zero, List.setIfInBounds_toArray, List.set_cons_zero, List.set_cons_succ]
  refine wpAnyH_ready (rs := [12]) (by kernel_rfl) (by simp) ?_
  refine AllReadyH.cons rfl (fun K hK => ?_) AllReadyH.nil
  go_simp
  go_simp
  refine hK.out _ _ (keptS k2) (fun hS => ?_)
  clear hK K
  try simp only [Act.put, List.getElem_toArray, List.getElem_cons_succ, List.getElem_cons_zero, List.setIfInBounds_toArray, List.set_cons_zero, List.set_cons_succ]
  refine wpAnyH_done (by kernel_rfl) ?_ _
  clear hS F0 F1 F2 F3 F4
  have H2 := Lib.hid (And.intro (show QAt _ q tb ct l e from k2.at_ H0.out.1 (by simp)) (H0.out.2.2.trans k2))
  clear H0 k2
  have cq := cells_at H2.out.1
  have lq := lt_of_at H2.out.1
  go_wp2_with fail
  clear cq lq
  go_loopg [5, 27] 0 (fun (gk : Nat) (u5 u27 : Value) (wr : World) => gk = 0 ∧ u5 = .slice none 0 0 ∧ u27 = .int .i64 0 ∧ wr = w2)
  case atStart => exact ⟨rfl, rfl, rfl, rfl⟩
  case round =>
    obtain ⟨hgk, rfl, rfl, rfl⟩ := hrel
    go_wp2_with fail
    go_ret
    exact ⟨rfl, H2.out.2⟩
end Go.Proofs.YtlifonflgcfafaaGreatDoor

namespace Go.Proofs.YtlifonflgcfafaaGreatDoor
open Go Go.RowKit

set_option linter.unusedSimpArgs false in
set_option maxRecDepth 100000 in
set_option maxHeartbeats 2000000 in
theorem listQ_spec (w : World) (q tb ct b f c mb : Nat) (h : QAt w q tb ct false false) (hb : BucketAt w b f c mb false [] []) (hqf : q ≠ f) (hqc : q ≠ c) :
    Calls Tryz.prog 81 #[.pointer (some ⟨q, 0, none⟩), .pointer (some ⟨b, 0, none⟩), .int .i64 3] w fun x w' => x = .returned (.int .i64 0) ∧ QAt w' q tb ct true true ∧ Keeps [q, f, c] w w' := by
  have k1 : Keeps [] w (w.alloc (.cells #[.int .i64 0, .slice none 0 0, .map none] 218)) := (Keeps.refl [] w).alloc _
  have H1 := Lib.hid (And.intro (show QAt _ q tb ct false false from k1.at_ h (by simp)) (And.intro (hb.keepNew k1 (by simp)) (And.intro (heap_new w (.cells #[.int .i64 0, .slice none 0 0, .map none] 218)) k1)))
  have hlf : w.heap.size ≠ f := by have := hb.lt.2.1; omega
  have hlc : w.heap.size ≠ c := by have := hb.lt.2.2.1; omega
  have hlq : w.heap.size ≠ q := by have := lt_of_at h; omega
  have Hne := Lib.hid (And.intro hlf (And.intro hlc hlq))
  have Hsz := Lib.hid (Nat.le_refl w.heap.size)
  clear k1 h hb hlf hlc hlq
  go_enter Tryz.func81, Tryz.ntmps81
  go_wp2_with fail
  generalize w.alloc (.cells #[.int .i64 0, .slice none 0 0, .map none] 218) = w1 at H1 ⊢
  generalize hp : w.heap.size = p at H1 Hne ⊢
  have Hp := Lib.hid hp
  clear hp
  refine (get_spec w1 b f c mb false [] [] H1.out.2.1 _).mono ?_
  rintro e w2 ⟨rfl, -, k2⟩
  have H2 := Lib.hid (And.intro (show QAt _ q tb ct false false from k2.at_ H1.out.1 (by simp; omega)) (And.intro (k2.at_ H1.out.2.2.1 (by have := Hne.out; simp; omega)) ((H1.out.2.2.2.mono (S' := [q, f, c]) (by simp)).trans (k2.mono (S' := [q, f, c]) (by intro x hx; simp at hx ⊢; rcases hx with rfl | rfl <;> simp)))))
  clear k2 H1
  rw [show (getVal [] [] _) = ((⟨#[]⟩ : ByteArray), (5 : Int)) from rfl]
  go_wp2_with fail
  refine (newL0_spec w2).mono ?_
  rintro e w3 ⟨⟨m, rfl⟩, k3⟩
  have cp := cells_at (k3.at_ H2.out.2.1 (by simp))
  have fp := free_at (k3.at_ H2.out.2.1 (by simp))
  have lp := lt_of_at (k3.at_ H2.out.2.1 (by simp))
  go_upto_region 11 with fail
  have r7 := heap_cell_same (i := 2) (heap_cell_same (i := 1) (heap_cell_same (i := 0) (k3.at_ H2.out.2.1 (by simp)) (.int .i64 0)) (.slice none 0 0)) (.map (some m))
  have kp : Keeps [p] w3 (((w3.setCell ⟨p, 0, none⟩ (.int .i64 0)).setCell ⟨p, 1, none⟩ (.slice none 0 0)).setCell ⟨p, 2, none⟩ (.map (some m))) := by repeat (first | exact Keeps.refl _ _ | assumption | refine Keeps.drew ?_ | refine Keeps.drewN ?_ _ | refine Keeps.alloc ?_ _ | refine Keeps.setCell ?_ (by first | exact .inl (by simp) | exact .inr (by simp; done) | exact .inr (by simp; omega)) _)
  have hne := Hne.out
  have H4 := Lib.hid (And.intro (show QAt _ q tb ct false false from kp.at_ (k3.at_ H2.out.1 (by simp)) (by simp; omega)) (And.intro (show _ = some (Obj.cells #[.int .i64 0, .slice none 0 0, .map (some m)] 218 (0, 0)) from r7.trans (by simp)) (((H2.out.2.2.trans (k3.mono (S' := [q, f, c]) (by simp)))).after kp (fun x hx => .inr (by have := Hp.out; simp only [List.mem_singleton] at hx; omega)))))
  clear r7 kp cp fp lp hne k3 H2
  generalize ((w3.setCell ⟨p, 0, none⟩ (.int .i64 0)).setCell ⟨p, 1, none⟩ (.slice none 0 0)).setCell ⟨p, 2, none⟩ (.map (some m)) = w4 at H4 ⊢
  have cp := cells_at H4.out.2.1
  have lp := lt_of_at H4.out.2.1
  have cq := cells_at H4.out.1
  have fq := free_at H4.out.1
  have lq := lt_of_at H4.out.1
  have hqp : p ≠ q := Hne.out.2.2
  go_region
  have kq : Keeps [q] w4 (((w4.setCell ⟨q, 6, none⟩ (.bool true)).setCell ⟨q, 7, none⟩ (.int .i64 0)).drew) := by repeat (first | exact Keeps.refl _ _ | assumption | refine Keeps.drew ?_ | refine Keeps.drewN ?_ _ | refine Keeps.alloc ?_ _ | refine Keeps.setCell ?_ (by first | exact .inl (by simp) | exact .inr (by simp; done) | exact .inr (by simp; omega)) _)
  have r8 := heap_cell_same (i := 7) (heap_cell_same (i := 6) H4.out.1 (.bool true)) (.int .i64 0)
  have H5 := Lib.hid (And.intro (show QAt (((w4.setCell ⟨q, 6, none⟩ (.bool true)).setCell ⟨q, 7, none⟩ (.int .i64 0)).drew) q tb ct true false from r8.trans (by simp)) (And.intro (kq.at_ H4.out.2.1 (by simp; omega)) (H4.out.2.2.trans (kq.mono (S' := [q, f, c]) (by simp)))))
  clear kq r8 cp lp cq fq lq H4
  generalize ((w4.setCell ⟨q, 6, none⟩ (.bool true)).setCell ⟨q, 7, none⟩ (.int .i64 0)).drew = w5 at H5 ⊢
  have cp := cells_at H5.out.2.1
  have lp := lt_of_at H5.out.2.1
  have cq := cells_at H5.out.1
  have lq := lt_of_at H5.out.1
  go_wp2_with fail
  go_region
  have k6 : Keeps [] w5 w5.drew := (Keeps.refl [] w5).drew
  have H6 := Lib.hid (And.intro (show QAt _ q tb ct true false from k6.at_ H5.out.1 (by simp)) (And.intro (k6.at_ H5.out.2.1 (by simp)) (H5.out.2.2.trans (k6.mono (S' := [q, f, c]) (by simp)))))
  clear k6 cp lp cq lq H5
  generalize w5.drew = w6 at H6 ⊢
  have cp := cells_at H6.out.2.1
  have lp := lt_of_at H6.out.2.1
  go_wp2_with fail
  refine (metasQ_spec w6 q tb ct m true false H6.out.1).mono ?_
  rintro e w7 ⟨rfl, k7⟩
  have H7 := Lib.hid (And.intro (show QAt _ q tb ct true false from k7.at_ H6.out.1 (by simp)) (H6.out.2.2.trans (k7.mono (S' := [q, f, c]) (by simp))))
  clear k7 cp lp H6
  go_wp2_with fail
  go_loopg [59] 0 (fun (gk : Nat) (u59 : Value) (wr : World) => gk = 0 ∧ u59 = .int .i64 0 ∧ wr = w7)
  case atStart => exact ⟨rfl, rfl, rfl⟩
  case round =>
    obtain ⟨hgk, rfl, rfl⟩ := hrel
    go_wp2_with fail
    refine (overQ_spec wr q tb ct true H7.out.1).mono ?_
    rintro e w8 ⟨rfl, h8, k8⟩
    go_wp2_with fail
    go_ret
    exact ⟨rfl, h8, H7.out.2.trans (k8.mono (S' := [q, f, c]) (by simp))⟩

set_option linter.unusedSimpArgs false in
set_option maxRecDepth 100000 in
set_option maxHeartbeats 2000000 in
theorem stepQ0_spec (w : World) (q tb ct b f c mb : Nat) (h : QAt w q tb ct false false) (hb : BucketAt w b f c mb false [] []) (hqf : q ≠ f) (hqc : q ≠ c) :
    Calls Tryz.prog 47 #[.pointer (some ⟨q, 0, none⟩), .pointer (some ⟨b, 0, none⟩), .int .i64 3] w fun x w' => x = .returned (.int .i64 0) ∧ QAt w' q tb ct true true ∧ Keeps [q, f, c] w w' := by
  have cq := cells_at h
  have lq := lt_of_at h
  go_enter Tryz.func47, Tryz.ntmps47
  go_wp2_with fail
  refine (listQ_spec w q tb ct b f c mb h hb hqf hqc).mono ?_
  rintro e w2 ⟨rfl, h2, k2⟩
  clear cq lq
  go_wp2_with fail
  go_ret
  exact ⟨rfl, h2, k2⟩

set_option linter.unusedSimpArgs false in
set_option maxRecDepth 100000 in
theorem stepQ1_spec (w : World) (q tb ct : Nat) (v : Value) (h : QAt w q tb ct true true) :
    Calls Tryz.prog 47 #[.pointer (some ⟨q, 0, none⟩), v, .int .i64 3] w fun x w' => x = .returned (.int .i64 17) ∧ w' = w := by
  have cq := cells_at h
  have lq := lt_of_at h
  go_enter Tryz.func47, Tryz.ntmps47
  go_wp2_with fail
  go_ret
  exact ⟨rfl, rfl⟩

theorem infoTab : (Tryz.prog.info? 47).map (fun i => (i.zero, i.size, i.bytes)) = some (some (.slice none 0 0), 1, 24) := by kernel_rfl

def ResRel (w : World) (gk : Nat) (P : List PairB) (s : SmpB) (u4 u30 : Value) (wr : World) : Prop :=
  (gk = 1 ∧ u4 = .slice none 0 0 ∧ u30 = .int .i64 0 ∧ wr = w) ∨ (gk = 0 ∧ u30 = .int .i64 1 ∧ ∃ l cl vt, u4 = .slice (some ⟨l, 0, none⟩) 1 cl ∧ wr.cell? ⟨l, 0, none⟩ = some vt ∧ TabAt 100 138 0 wr vt [(P, [s])] ∧ Keeps [] w wr)

theorem matsAt_nil (w : World) : MatsAt w (.slice none 0 0) [] := ⟨[], ⟨none, 0, rfl, by simp [maxLen], fun i hi => absurd hi (by simp)⟩, rfl, fun i hi => absurd hi (by simp)⟩

set_option linter.unusedSimpArgs false in
set_option maxRecDepth 100000 in
set_option maxHeartbeats 2000000 in
theorem resultQ_spec (w : World) (q tb ct : Nat) (h : QAt w q tb ct true true) (vt : Value) (P : List PairB) (s : SmpB) (hv : w.cell? ⟨tb, 0, none⟩ = some vt) (hT : TabAt 100 138 0 w vt [(P, [s])]) (h0 : 0 < P.length) (hP : P.length ≤ 1000) (hs : 0 ≤ s.1 ∧ s.1 < 100) :
    Calls Tryz.prog 46 #[.pointer (some ⟨q, 0, none⟩)] w fun e w' => (∃ a c, e = .returned (.tuple #[.slice (some a) 1 c, .int .i64 0])) ∧ Keeps [] w w' := by
  obtain ⟨it, hit, hz0, hz1, hz2⟩ := info_parts infoTab
  have cq := cells_at h
  have lq := lt_of_at h
  have ltb := World.block_lt_of_cell? w _ hv
  have hA : betT 0 100 ([(P, [s])].filter (fitR [])) = [(P, [s])] := by
    rw [show [(P, [s])].filter (fitR []) = [(P, [s])] from rfl]
    simp [betT, betS, hs.1, hs.2]
  have hf : FewT [(P, [s])] := ⟨by simp, fun r hr => by obtain rfl := List.mem_singleton.1 hr; exact ⟨hP, by simp⟩⟩
  have hne : ∀ r ∈ [(P, [s])], r.1 ≠ [] := fun r hr => by obtain rfl := List.mem_singleton.1 hr; exact fun e => by have e' : P = [] := e; rw [e'] at h0; exact absurd h0 (by simp)
  have Hf := Lib.hid (And.intro hf (And.intro hne (And.intro hT hA)))
  clear hf hne hT hA
  go_enter Tryz.func46, Tryz.ntmps46
  go_wp2_with fail
  go_loopg [4, 30] 1 (fun (gk : Nat) (u4 u30 : Value) (wr : World) => ResRel w gk P s u4 u30 wr)
  case atStart => exact .inl ⟨rfl, rfl, rfl, rfl⟩
  case round =>
    rcases hrel with ⟨hgk, rfl, rfl, rfl⟩ | ⟨hgk, rfl, l, cl, vt2, rfl, hc, hT2, hk⟩
    · go_wp2_with fail
      refine (ofQ_spec wr vt (.slice none 0 0) [(P, [s])] [] 0 100 Hf.out.2.2.1 Hf.out.1 Hf.out.2.1 (matsAt_nil wr) (by simp)).mono ?_
      rintro e w2 ⟨v2, rfl, hT2, k2⟩
      rw [Hf.out.2.2.2] at hT2
      obtain ⟨a2, c2, rfl⟩ := hT2.form
      have H2 := Lib.hid (And.intro hT2 k2)
      clear hT2 k2
      go_wp2_with (at_builtin; refine wpList_append_own _ rfl (.tmp 34) (.tmp 41) 163 rfl w2.heap.size 47 it _ 1 24 Tryz.underlying163 hit hz0 hz1 hz2 rfl (by decide) (.slice none 0 0) 0 [] rfl (World.ownsRow_nil _ _ _ 1) ⟨w2.heap.size, 0, none⟩ 1 1 [.slice a2 [(P, [s])].length c2] rfl rfl (news_one (heap_new w2 _)) (by simp [Value.oneCell']) (by decide) (by decide) (by rw [World.size_alloc]; omega) ?_; intro v9 w9 hown9 hgrow9 hnil9; clear hnil9; obtain ⟨g9, c9, rfl, hB9, hc9, hcells9, hf9⟩ := row_one hown9; skip)
      have k9 := keeps_own ((Keeps.refl [] w2).alloc (.cells #[.slice a2 [(P, [s])].length c2] 47)) hgrow9 (fun g hg => by simp [Value.ownBlock] at hg)
      go_wp2_with fail
      go_roundg 0
      case measure => omega
      case rel => exact .inr ⟨rfl, by go_num, g9, c9, _, rfl, hcells9 0 _ rfl, (go1 k9 H2.out.1).base (Nat.zero_le _), H2.out.2.trans k9⟩
    · have cq := cells_at (hk.at_ h (by simp))
      have lq := lt_of_at (hk.at_ h (by simp))
      have H3 := Lib.hid (And.intro hc (And.intro hT2 hk))
      clear hc hT2 hk
      go_wp2_with fail
      clear cq lq
      go_loopg [4, 49] 0 (fun (gk : Nat) (u4 u49 : Value) (wr2 : World) => gk = 0 ∧ u4 = .slice (some ⟨l, 0, none⟩) 1 cl ∧ u49 = .int .i64 0 ∧ wr2 = wr)
      case atStart => exact ⟨rfl, rfl, rfl, rfl⟩
      case round =>
        obtain ⟨hgk, rfl, rfl, rfl⟩ := hrel
        go_wp2_with fail
        refine (tables1_spec wr l cl 0 vt2 P s H3.out.1 H3.out.2.1 h0 hP).mono ?_
        rintro e w5 ⟨⟨a5, c5, rfl⟩, k5⟩
        go_wp2_with fail
        go_ret2
        exact ⟨⟨_, _, rfl⟩, H3.out.2.2.trans k5⟩
end Go.Proofs.YtlifonflgcfafaaGreatDoor
