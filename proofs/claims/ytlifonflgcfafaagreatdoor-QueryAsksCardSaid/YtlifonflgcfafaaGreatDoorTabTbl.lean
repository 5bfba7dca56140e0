/-
  merge.Tables at one table of one row of one sample, walked: it hands back one row.
  The row's labels are not empty.
-/
import Derived.Test.YtlifonflgcfafaaGreatDoorTabOne
import Derived.Test.YtlifonflgcfafaaGreatDoorPostBase
namespace Go.Proofs.YtlifonflgcfafaaGreatDoor
open Go Go.RowKit

theorem infoCur : (Tryz.prog.info? 208).map (fun i => (i.zero, i.size, i.bytes)) = some (some (.agg #[.int .i64 0, .int .i64 0, .slice none 0 0, .slice none 0 0]), 4, 64) := by kernel_rfl

theorem infoSmps : (Tryz.prog.info? 90).map (fun i => (i.zero, i.size, i.bytes)) = some (some (.slice none 0 0), 1, 24) := by kernel_rfl

theorem news_four {w : World} {g : Nat} {x y z u : Value} {t : TypeId} (hg : w.heap[g]? = some (.cells #[x, y, z, u] t (0, 0))) : ∀ j v, ([x, y, z, u] : List Value)[j]? = some v → w.cell? ((⟨g, 0, none⟩ : Addr).add j) = some v := by
  intro j v hv
  have hadd : (⟨g, 0, none⟩ : Addr).add j = ⟨g, j, none⟩ := by unfold Addr.add; split <;> simp_all
  rw [hadd, cells_at hg]
  match j with
  | 0 => exact hv
  | 1 => exact hv
  | 2 => exact hv
  | 3 => exact hv
  | n + 4 => simp at hv

theorem news_one {w : World} {g : Nat} {x : Value} {t : TypeId} (hg : w.heap[g]? = some (.cells #[x] t (0, 0))) : ∀ j v, ([x] : List Value)[j]? = some v → w.cell? ((⟨g, 0, none⟩ : Addr).add j) = some v := by
  intro j v hv
  have hadd : (⟨g, 0, none⟩ : Addr).add j = ⟨g, j, none⟩ := by unfold Addr.add; split <;> simp_all
  rw [hadd, cells_at hg]
  match j with
  | 0 => exact hv
  | n + 1 => simp at hv

/-- A row of one that grew out of nothing. -/
theorem row_one {w : World} {B sz : Nat} {T : TypeId} {v : Value} {xs : List Value} (h : w.ownsRow B T sz v 1 xs) : ∃ g c, v = .slice (some ⟨g, 0, none⟩) 1 c ∧ B ≤ g ∧ 1 ≤ c ∧ (∀ j u, xs[j]? = some u → w.cell? ⟨g, j, none⟩ = some u) ∧ ∀ i, w.frozen? ⟨g, i, none⟩ = false := by
  obtain ⟨hxl, ⟨-, e⟩ | ⟨g, c, cur, rfl, hbase, hg, h1, h2, h3, h4⟩⟩ := h
  · exact absurd e (by decide)
  · refine ⟨g, c, rfl, hbase, h1, fun j u hu => ?_, free_at hg⟩
    have hj : j < 1 * sz := by rw [← hxl]; exact (List.getElem?_eq_some_iff.1 hu).1
    rw [cells_at hg, ← Array.getElem?_toList, ← List.getElem?_take_of_lt hj, h4]
    exact hu

set_option linter.unusedSimpArgs false in
set_option maxRecDepth 100000 in
theorem flush0_spec (w : World) (o p : Nat) (v : Value) (ho : w.heap[o]? = some (.cells #[.slice none 0 0] 47 (0, 0))) (hp : w.heap[p]? = some (.cells #[v] 211 (0, 0))) :
    Calls Tryz.prog 114 #[.pointer (some ⟨o, 0, none⟩), .pointer (some ⟨p, 0, none⟩)] w fun e w' => e = .returned (.tuple #[]) ∧ w'.heap[p]? = some (.cells #[.slice none 0 0] 211 (0, 0)) ∧ Keeps [p] w w' := by
  have co := cells_at ho
  have cp := cells_at hp
  have fp := free_at hp
  have lo := lt_of_at ho
  have lp := lt_of_at hp
  go_enter Tryz.func114, Tryz.ntmps114
  go_wp2_with fail
  refine bodyPost_end (results_none rfl _ _ _) rfl ?_
  exact ⟨rfl, heap_setCell_same w p 0 _ _ _ hp, by repeat (first | exact Keeps.refl _ _ | assumption | refine Keeps.drew ?_ | refine Keeps.drewN ?_ _ | refine Keeps.alloc ?_ _ | refine Keeps.setCell ?_ (by first | exact .inl (by simp) | exact .inr (by simp; done) | exact .inr (by simp; omega)) _)⟩

set_option linter.unusedSimpArgs false in
set_option maxRecDepth 100000 in
theorem flush1_spec (w : World) (o p r c pp cp B : Nat) (t x : Int) (v2 v3 : Value) (ho : w.heap[o]? = some (.cells #[.slice (some ⟨r, 0, none⟩) 1 c] 47 (0, 0))) (hp : w.heap[p]? = some (.cells #[.slice (some ⟨pp, 0, none⟩) 1 cp] 211 (0, 0)))
    (hr : w.cell? ⟨r, 1, none⟩ = some v3) (hf : ∀ i, w.frozen? ⟨r, i, none⟩ = false) (hpp : w.cell? ⟨pp, 0, none⟩ = some v2) (h2 : w.ownsRow B 42 2 v2 1 [.int .i64 t, .int .u64 x]) (hrp : r ≠ p) (hop : o ≠ p) (hro : r ≠ o) :
    Calls Tryz.prog 114 #[.pointer (some ⟨o, 0, none⟩), .pointer (some ⟨p, 0, none⟩)] w fun e w' => e = .returned (.tuple #[]) ∧ w'.heap[o]? = some (.cells #[.slice (some ⟨r, 0, none⟩) 1 c] 47 (0, 0)) ∧ Keeps [p, r] w w' := by
  have H := Lib.hid (And.intro ho (And.intro hp (And.intro hr (And.intro hf (And.intro hpp h2)))))
  have lr := World.block_lt_of_cell? w _ hr
  have co := cells_at ho
  have cp' := cells_at hp
  have lo := lt_of_at ho
  have lp := lt_of_at hp
  clear ho hp hpp h2
  go_enter Tryz.func114, Tryz.ntmps114
  obtain ⟨W0, hW0⟩ : ∃ W0, W0 = w.drew := ⟨_, rfl⟩
  have k0 : Keeps [] w W0 := by rw [hW0]; exact (Keeps.refl [] w).drew
  go_upto_region 2 with fail
  have H0 := Lib.hid (And.intro (k0.at_ H.out.1 (by simp)) (And.intro (k0.at_ H.out.2.1 (by simp)) (And.intro ((k0.cell lr (by simp)).trans H.out.2.2.1) (And.intro (fun i => (k0.frozen lr (by simp)).trans (H.out.2.2.2.1 i)) (And.intro ((k0.cell (World.block_lt_of_cell? w _ H.out.2.2.2.2.1) (by simp)).trans H.out.2.2.2.2.1) (And.intro (go1 k0 H.out.2.2.2.2.2) k0))))))
  have F0 : ∀ s : Kept W0, s.val.cell? ⟨o, 0, none⟩ = some (.slice (some ⟨r, 0, none⟩) 1 c) := keptCell (cells_at H0.out.1 0)
  have F1 : ∀ s : Kept W0, s.val.cell? ⟨p, 0, none⟩ = some (.slice (some ⟨pp, 0, none⟩) 1 cp) := keptCell (cells_at H0.out.2.1 0)
  refine wp_region_last_n 7 (KeptS W0) (by kernel_rfl) (by kernel_rfl) (by kernel_rfl) ?_
  rw [← hW0]
  have lr0 : r < W0.heap.size := Nat.lt_of_lt_of_le lr k0.size
  clear co cp' lo lp hr hf H k0 hW0 lr
  have hS : KeptS W0 W0 := keptS (Keeps.refl _ _)
  simp only [List.take_succ_cons, List.take_zero, List.toList_toArray]
  have hw0 : IntKind.i64.wrap 0 = 0 := by decide
  refine wpAnyH_take (i := 0) (v := ?_) rfl (by kernel_rfl) (by kernel_rfl) (by kernel_rfl) (fun _ _ _ h => h) (Or.inl ⟨by rfl, ?_⟩) (by assumption) ?_
  rotate_left
  · intro w' s1; obtain ⟨s, rfl⟩ := s1; go_simp; (try with_reducible rfl)
  simp only [Act.put, List.getElem_toArray, List.getElem_cons_succ, List.getElem_cons_zero, List.setIfInBounds_toArray, List.set_cons_zero, List.set_cons_succ]
  refine wpAnyH_take (i := 1) (v := ?_) rfl (by kernel_rfl) (by kernel_rfl) (by kernel_rfl) (fun _ _ _ h => h) (Or.inl ⟨by rfl, ?_⟩) (by assumption) ?_
  rotate_left
  · intro w' s1; obtain ⟨s, rfl⟩ := s1; go_simp; (try with_reducible rfl)
  simp only [Act.put, List.getElem_toArray, List.getElem_cons_succ, List.getElem_cons_zero, List.setIfInBounds_toArray, List.set_cons_zero, List.set_cons_succ]
  refine wpAnyH_take (i := 2) (v := ?_) rfl (by kernel_rfl) (by kernel_rfl) (by kernel_rfl) (fun _ _ _ h => h) (Or.inl ⟨by rfl, ?_⟩) (by assumption) ?_
  rotate_left
  · intro w' s1; obtain ⟨s, rfl⟩ := s1; go_simp; (try with_reducible rfl)
  simp only [Act.put, List.getElem_toArray, List.getElem_cons_succ, List.getElem_cons_zero, List.setIfInBounds_toArray, List.set_cons_zero, List.set_cons_succ]
  refine wpAnyH_take (i := 3) (v := ?_) rfl (by kernel_rfl) (by kernel_rfl) (by kernel_rfl) (fun _ _ _ h => h) (Or.inl ⟨by rfl, ?_⟩) (by assumption) ?_
  rotate_left
  · intro w' s1; obtain ⟨s, rfl⟩ := s1; go_simp; (try with_reducible rfl)
  simp only [Act.put, List.getElem_toArray, List.getElem_cons_succ, List.getElem_cons_zero, List.setIfInBounds_toArray, List.set_cons_zero, List.set_cons_succ]
  refine wpAnyH_ready (rs := [4]) (by kernel_rfl) (by simp) ?_
  refine AllReadyH.cons rfl (fun K hK => ?_) AllReadyH.nil
  go_simp
  go_at_call 115
  refine (samples1_spec W0 pp cp B v2 t x H0.out.2.2.2.2.1 H0.out.2.2.2.2.2.1).mono ?_
  rintro e A1 ⟨⟨a9, c9, rfl⟩, k1⟩
  go_simp
  refine hK.out _ _ (keptS k1) (fun hS => ?_)
  clear hK K
  try simp only [Act.put, List.getElem_toArray, List.getElem_cons_succ, List.getElem_cons_zero, List.setIfInBounds_toArray, List.set_cons_zero, List.set_cons_succ]
  refine wpAnyH_take (i := 5) (v := ?_) rfl (by kernel_rfl) (by kernel_rfl) (by kernel_rfl) (fun _ _ _ h => h) (Or.inl ⟨by rfl, ?_⟩) (by assumption) ?_
  rotate_left
  · intro w' s1; obtain ⟨s, rfl⟩ := s1; go_simp; (try with_reducible rfl)
  simp only [Act.put, List.getElem_toArray, List.getElem_cons_succ, List.getElem_cons_zero, List.setIfInBounds_toArray, List.set_cons_zero, List.set_cons_succ]
  refine wpAnyH_take (i := 6) (v := ?_) rfl (by kernel_rfl) (by kernel_rfl) (by kernel_rfl) (fun _ _ _ h => h) (Or.inl ⟨by rfl, ?_⟩) (by assumption) ?_
  rotate_left
  · intro w' s1; obtain ⟨s, rfl⟩ := s1; go_simp; (try with_reducible rfl)
  simp only [Act.put, List.getElem_toArray, List.getElem_cons_succ, List.getElem_cons_zero, List.setIfInBounds_toArray, List.set_cons_zero, List.set_cons_succ]
  have hr1 : A1.cell? ⟨r, 1, none⟩ = some v3 := (k1.cell lr0 (by simp)).trans H0.out.2.2.1
  have hf1 : ∀ i, A1.frozen? ⟨r, i, none⟩ = false := fun i => (k1.frozen lr0 (by simp)).trans (H0.out.2.2.2.1 i)
  have lr1 : r < A1.heap.size := Nat.lt_of_lt_of_le lr0 k1.size
  refine wpAnyH_done (by kernel_rfl) ?_ _
  refine lastQ_step rfl (fun K hK => ?_)
  go_simp
  refine hK _ _ ?_
  clear hK K
  clear F0 F1 hS hw0
  have kr : Keeps [r] A1 (A1.setCell ⟨r, 1, none⟩ (.slice (some a9) 1 c9)) := (Keeps.refl _ A1).setCell (.inl (by simp)) _
  have ho2 := kr.at_ (k1.at_ H0.out.1 (by simp)) (by simpa using fun e => hro e.symm)
  have hp2 := kr.at_ (k1.at_ H0.out.2.1 (by simp)) (by simpa using fun e => hrp e.symm)
  have H2 := Lib.hid (And.intro ho2 (And.intro hp2 (((H0.out.2.2.2.2.2.2.trans k1).mono (S' := [r]) (by simp)).trans kr)))
  clear kr ho2 hp2 hr1 hf1 lr1 k1
  generalize A1.setCell ⟨r, 1, none⟩ (.slice (some a9) 1 c9) = A2 at H2 ⊢
  have cp' := cells_at H2.out.2.1
  have fp := free_at H2.out.2.1
  have lp := lt_of_at H2.out.2.1
  go_wp2_with fail
  refine bodyPost_end (results_none rfl _ _ _) rfl ?_
  have kp : Keeps [p] A2 (A2.setCell ⟨p, 0, none⟩ (.slice none 0 0)) := (Keeps.refl _ A2).setCell (.inl (by simp)) _
  exact ⟨rfl, kp.at_ H2.out.1 (by simpa using hop), (H2.out.2.2.mono (by simp)).trans (kp.mono (by simp))⟩

theorem CurAt.keep {w w' : World} {g : Nat} {u1 u2 : Value} {S : List Nat} (h : CurAt w g u1 u2) (k : Keeps S w w') (hg : g ∉ S) : CurAt w' g u1 u2 := by
  obtain ⟨⟨c0, c1, c2, c3⟩, hf⟩ := h
  have lg := World.block_lt_of_cell? w _ c0
  exact ⟨⟨(k.cell lg hg).trans c0, (k.cell lg hg).trans c1, (k.cell lg hg).trans c2, (k.cell lg hg).trans c3⟩, fun i => (k.frozen lg hg).trans (hf i)⟩

theorem assert_cur (w : World) (x : Value) : (Instr.typeAssert (.iface 208 x) 20 208 true).run Tryz.prog w = .ok (.tuple #[x, .bool true]) w := by kernel_rfl

/-- The loop that empties the heap. -/
def TEmpty (w wb : World) (q o p : Nat) (u2 : Value) (sv : List Value) (gk : Nat) (wr : World) : Prop :=
  (gk = 1 ∧ wr = wb) ∨ (gk = 0 ∧ ∃ g c r cr pp cp, wr.heap[q]? = some (.cells #[.slice (some ⟨g, 0, none⟩) 0 c] 206 (0, 0)) ∧ wr.heap[o]? = some (.cells #[.slice (some ⟨r, 0, none⟩) 1 cr] 47 (0, 0)) ∧ wr.heap[p]? = some (.cells #[.slice (some ⟨pp, 0, none⟩) 1 cp] 211 (0, 0)) ∧
    wr.cell? ⟨r, 1, none⟩ = some (.slice none 0 0) ∧ (∀ i, wr.frozen? ⟨r, i, none⟩ = false) ∧ wr.cell? ⟨pp, 0, none⟩ = some u2 ∧ wr.ownsRow 0 42 2 u2 1 sv ∧ w.heap.size ≤ r ∧ r ≠ p ∧ r ≠ o ∧ Keeps [] w wr)

/-- The loop that fills the heap. -/
def TFill (w1 : World) (q : Nat) (u1 u2 : Value) (gk : Nat) (u14 : Value) (wr : World) : Prop :=
  (gk = 1 ∧ u14 = .int .i64 0 ∧ wr = w1) ∨ (gk = 0 ∧ u14 = .int .i64 1 ∧ ∃ g c, wr.heap[q]? = some (.cells #[.slice (some ⟨g, 0, none⟩) 1 c] 206 (0, 0)) ∧ CurAt wr g u1 u2 ∧ 1 ≤ c ∧ g ≠ q ∧ Keeps [q] w1 wr)

set_option linter.unusedSimpArgs false in
set_option maxRecDepth 100000 in
set_option maxHeartbeats 4000000 in
theorem tables1_spec (w : World) (l cl B : Nat) (vt : Value) (P : List PairB) (s : SmpB) (hl : w.cell? ⟨l, 0, none⟩ = some vt) (h : TabAt 100 138 B w vt [(P, [s])]) (h0 : 0 < P.length) (hP : P.length ≤ 1000) :
    Calls Tryz.prog 80 #[.slice (some ⟨l, 0, none⟩) 1 cl] w fun e w' => (∃ a c, e = .returned (.slice (some a) 1 c)) ∧ Keeps [] w w' := by
  obtain ⟨ic, hic, hz0, hz1, hz2⟩ := info_parts infoCur
  obtain ⟨ir, hir, hy0, hy1, hy2⟩ := info_parts infoRowM
  obtain ⟨is_, his, hx0, hx1, hx2⟩ := info_parts infoSmps
  obtain ⟨at_, ct, rfl⟩ := h.form
  obtain ⟨b, off, v1, v2, ea, hb, d0, d1, g1, g2⟩ := h.at_ 0 (by simp)
  subst ea
  simp only [Nat.zero_mul, Nat.add_zero, List.getElem_cons_zero, List.length_singleton, List.flatMap_cons, List.flatMap_nil, List.append_nil] at d0 d1 g1 g2
  obtain ⟨ar1, cr1, rfl, -, -, -⟩ := row_slice g1
  obtain ⟨ar2, cr2, rfl, -, -, -⟩ := row_slice g2
  have ll := World.block_lt_of_cell? w _ hl
  have k1 : Keeps [] w (w.alloc (.cells #[.slice none 0 0] 206)) := (Keeps.refl [] w).alloc _
  have H1 := Lib.hid (And.intro (heap_new w (.cells #[.slice none 0 0] 206)) (And.intro ((k1.cell ll (by simp)).trans hl) (And.intro ((k1.cell hb (by simp)).trans d0) (And.intro ((k1.cell hb (by simp)).trans d1) (And.intro (go1 k1 g1) (And.intro (go1 k1 g2) k1))))))
  have Hb := Lib.hid (And.intro g1 (And.intro g2 hl))
  clear hl d0 d1 g1 g2 k1 h
  simp only [List.length_singleton] at *
  go_enter Tryz.func80, Tryz.ntmps80
  go_wp2_with fail
  generalize hw1 : w.alloc (.cells #[.slice none 0 0] 206) = w1 at H1 ⊢
  generalize hq : w.heap.size = q at H1 ⊢
  have Hq := Lib.hid hq
  clear hw1 hq hb ll
  go_loopg [14] 1 (TFill w1 q (.slice ar1 P.length cr1) (.slice ar2 1 cr2))
  case atStart => exact .inl ⟨rfl, rfl, rfl⟩
  case round =>
    rcases hrel with ⟨hgk, rfl, rfl⟩ | ⟨hgk, rfl, g, c, hqq, hcur, hc1, hgq, hkq⟩
    · have dl := H1.out.2.1
      have ll := World.block_lt_of_cell? _ _ dl
      obtain ⟨W0, hW0⟩ : ∃ W0, W0 = wr.drew := ⟨_, rfl⟩
      have k0 : Keeps [] wr W0 := by rw [hW0]; exact (Keeps.refl [] wr).drew
      go_upto_region 6 with fail
      clear dl ll
      have H2 := Lib.hid (And.intro (k0.at_ H1.out.1 (by simp)) (And.intro ((k0.cell (World.block_lt_of_cell? _ _ H1.out.2.2.1) (by simp)).trans H1.out.2.2.1) (And.intro ((k0.cell (World.block_lt_of_cell? _ _ H1.out.2.2.2.1) (by simp)).trans H1.out.2.2.2.1) k0)))
      have F0 : ∀ s : Kept W0, s.val.cell? ⟨q, 0, none⟩ = some (.slice none 0 0) := keptCell (cells_at H2.out.1 0)
      have F1 : ∀ s : Kept W0, s.val.cell? ⟨b, off, none⟩ = some (.slice ar1 P.length cr1) := keptCell H2.out.2.1
      have F2 : ∀ s : Kept W0, s.val.cell? ⟨b, off + 1, none⟩ = some (.slice ar2 1 cr2) := keptCell H2.out.2.2.1
      refine wp_region_last_n 8 (KeptS W0) (by kernel_rfl) (by kernel_rfl) (by kernel_rfl) ?_
      rw [← hW0]
      clear k0 hW0
      have hS : KeptS W0 W0 := keptS (Keeps.refl _ _)
      simp only [List.take_succ_cons, List.take_zero, List.toList_toArray]
      have hw0 : IntKind.i64.wrap 0 = 0 := by decide
      refine wpAnyH_take (i := 0) (v := ?_) rfl (by kernel_rfl) (by kernel_rfl) (by kernel_rfl) (fun _ _ _ h => h) (Or.inl ⟨by rfl, ?_⟩) (by assumption) ?_
      rotate_left
      · intro w' s1; obtain ⟨s, rfl⟩ := s1; go_simp; (try with_reducible rfl)
      simp only [Act.put, List.getElem_toArray, List.getElem_cons_succ, List.getElem_cons_zero, List.setIfInBounds_toArray, List.set_cons_zero, List.set_cons_succ]
      refine wpAnyH_take (i := 1) (v := ?_) rfl (by kernel_rfl) (by kernel_rfl) (by kernel_rfl) (fun _ _ _ h => h) (Or.inl ⟨by rfl, ?_⟩) (by assumption) ?_
      rotate_left
      · intro w' s1; obtain ⟨s, rfl⟩ := s1; go_simp; (try with_reducible rfl)
      simp only [Act.put, List.getElem_toArray, List.getElem_cons_succ, List.getElem_cons_zero, List.setIfInBounds_toArray, List.set_cons_zero, List.set_cons_succ]
      refine wpAnyH_take (i := 2) (v := ?_) rfl (by kernel_rfl) (by kernel_rfl) (by kernel_rfl) (fun _ _ _ h => h) (Or.inl ⟨by rfl, ?_⟩) (by assumption) ?_
      rotate_left
      · intro w' s1; obtain ⟨s, rfl⟩ := s1; go_simp; (try with_reducible rfl)
      simp only [Act.put, List.getElem_toArray, List.getElem_cons_succ, List.getElem_cons_zero, List.setIfInBounds_toArray, List.set_cons_zero, List.set_cons_succ]
      refine wpAnyH_take (i := 3) (v := ?_) rfl (by kernel_rfl) (by kernel_rfl) (by kernel_rfl) (fun _ _ _ h => h) (Or.inl ⟨by rfl, ?_⟩) (by assumption) ?_
      rotate_left
      · intro w' s1; obtain ⟨s, rfl⟩ := s1; go_simp; (try with_reducible rfl)
      simp only [Act.put, List.getElem_toArray, List.getElem_cons_succ, List.getElem_cons_zero, List.setIfInBounds_toArray, List.set_cons_zero, List.set_cons_succ]
      refine wpAnyH_take (i := 4) (v := ?_) rfl (by kernel_rfl) (by kernel_rfl) (by kernel_rfl) (fun _ _ _ h => h) (Or.inl ⟨by rfl, ?_⟩) (by assumption) ?_
      rotate_left
      · intro w' s1; obtain ⟨s, rfl⟩ := s1; go_simp; (try with_reducible rfl)
      simp only [Act.put, List.getElem_toArray, List.getElem_cons_succ, List.getElem_cons_zero, List.setIfInBounds_toArray, List.set_cons_zero, List.set_cons_succ]
      refine wpAnyH_take (i := 5) (v := ?_) rfl (by kernel_rfl) (by kernel_rfl) (by kernel_rfl) (fun _ _ _ h => h) (Or.inl ⟨by rfl, ?_⟩) (by assumption) ?_
      rotate_left
      · intro w' s1; obtain ⟨s, rfl⟩ := s1; go_simp; (try with_reducible rfl)
      simp only [Act.put, List.getElem_toArray, List.getElem_cons_succ, List.getElem_cons_zero, List.setIfInBounds_toArray, List.set_cons_zero, List.set_cons_succ]
      refine wpAnyH_ready (rs := [6]) (by kernel_rfl) (by simp) ?_
      refine AllReadyH.cons rfl (fun K hK => ?_) AllReadyH.nil
      go_simp
      have kA : Keeps [] W0 (W0.alloc (.cells #[.int .i64 0, .int .i64 0, .slice ar1 P.length cr1, .slice ar2 1 cr2] 208)) := (Keeps.refl [] W0).alloc _
      have H3 := Lib.hid (And.intro (heap_new W0 (.cells #[.int .i64 0, .int .i64 0, .slice ar1 P.length cr1, .slice ar2 1 cr2] 208)) kA)
      clear kA
      generalize W0.heap.size = nb at H3 ⊢
      generalize W0.alloc (.cells #[.int .i64 0, .int .i64 0, .slice ar1 P.length cr1, .slice ar2 1 cr2] 208) = A1 at H3 ⊢
      go_simp
      refine hK.out _ _ (keptS H3.out.2) (fun hS => ?_)
      clear hK K
      try simp only [Act.put, List.getElem_toArray, List.getElem_cons_succ, List.getElem_cons_zero, List.setIfInBounds_toArray, List.set_cons_zero, List.set_cons_succ]
      refine wpAnyH_ready (rs := [7]) (by kernel_rfl) (by simp) ?_
      refine AllReadyH.cons rfl (fun K hK => ?_) AllReadyH.nil
      refine step_appP rfl (.tmp 22) (.tmp 28) 206 rfl A1.heap.size 208 ic _ 4 64 Tryz.underlying206 hic hz0 hz1 hz2 rfl (by decide) (.slice none 0 0) 0 [] rfl (World.ownsRow_nil _ _ _ 4) ⟨nb, 0, none⟩ 1 1 [.int .i64 0, .int .i64 0, .slice ar1 P.length cr1, .slice ar2 1 cr2] rfl rfl (news_four H3.out.1) (by simp [Value.oneCell']) (by decide) (by decide) (Nat.le_refl _) ?_
      intro v5 A2 hown5 hgrow5
      have k5 := keeps_own (Keeps.refl [] A1) hgrow5 (fun g hg => by simp [Value.ownBlock] at hg)
      obtain ⟨g, c, rfl, hB, hc1, hcells, hfr⟩ := row_one hown5
      have H5 := Lib.hid (And.intro (H3.out.2.trans k5) (And.intro hcells (And.intro hfr (And.intro hB hc1))))
      clear hown5 hgrow5 k5 hB hc1 hcells hfr
      refine hK.out _ _ (keptS H5.out.1) (fun hS => ?_)
      clear hK K
      try simp only [Act.put, List.getElem_toArray, List.getElem_cons_succ, List.getElem_cons_zero, List.setIfInBounds_toArray, List.set_cons_zero, List.set_cons_succ]
      have cq : A2.cell? ⟨q, 0, none⟩ = some (.slice none 0 0) := cells_at (H5.out.1.at_ H2.out.1 (by simp)) 0
      have fq := free_at (H5.out.1.at_ H2.out.1 (by simp))
      have lq := lt_of_at (H5.out.1.at_ H2.out.1 (by simp))
      refine wpAnyH_done (by kernel_rfl) ?_ _
      refine lastQ_step rfl (fun K hK => ?_)
      go_simp
      refine hK _ _ ?_
      clear hK K
      have hgq : g ≠ q := fun e => by
        have h1 := H5.out.2.2.2.1
        have h2 := lt_of_at H2.out.1
        have h3 := H3.out.2.size
        omega
      have kq : Keeps [q] A2 (A2.setCell ⟨q, 0, none⟩ (.slice (some ⟨g, 0, none⟩) 1 c)) := (Keeps.refl _ A2).setCell (.inl (by simp)) _
      have lg : g < A2.heap.size := World.block_lt_of_cell? _ _ (H5.out.2.1 0 (.int .i64 0) rfl)
      have hcur : CurAt (A2.setCell ⟨q, 0, none⟩ (.slice (some ⟨g, 0, none⟩) 1 c)) g (.slice ar1 P.length cr1) (.slice ar2 1 cr2) :=
        ⟨⟨(kq.cell lg (by simpa using hgq)).trans (H5.out.2.1 0 _ rfl), (kq.cell lg (by simpa using hgq)).trans (H5.out.2.1 1 _ rfl), (kq.cell lg (by simpa using hgq)).trans (H5.out.2.1 2 _ rfl), (kq.cell lg (by simpa using hgq)).trans (H5.out.2.1 3 _ rfl)⟩, fun i => (kq.frozen lg (by simpa using hgq)).trans (H5.out.2.2.1 i)⟩
      have hqq := heap_setCell_same A2 q 0 _ _ (.slice (some ⟨g, 0, none⟩) 1 c) (H5.out.1.at_ H2.out.1 (by simp))
      have H6 := Lib.hid (And.intro (show _ = some (Obj.cells #[.slice (some ⟨g, 0, none⟩) 1 c] 206 (0, 0)) from hqq) (And.intro hcur (And.intro H5.out.2.2.2.2 (And.intro hgq (((H2.out.2.2.2.trans H5.out.1).mono (S' := [q]) (by simp)).trans kq)))))
      clear hcur hqq hgq kq lg cq fq lq F0 F1 F2 hS hw0 H5 H3 H2
      generalize A2.setCell ⟨q, 0, none⟩ (.slice (some ⟨g, 0, none⟩) 1 c) = A3 at H6 ⊢
      go_wp2_with fail
      go_roundg 0
      case measure => omega
      case rel => exact .inr ⟨rfl, by go_num, g, c, H6.out⟩
    · have Hc := Lib.hid (And.intro hqq (And.intro hcur (And.intro hc1 (And.intro hgq (H1.out.2.2.2.2.2.2.after hkq (fun x hx => .inr (by simp only [List.mem_singleton] at hx; rw [hx, ← Hq.out]; exact Nat.le_refl _)))))))
      have Hl := Lib.hid (hkq)
      clear hqq hcur hc1 hgq hkq
      go_wp2_with fail
      refine (hinit_spec wr q g c Hc.out.1).mono ?_
      rintro e w2 ⟨rfl, rfl⟩
      have kA : Keeps [] w2 (w2.alloc (.cells #[.slice none 0 0] 47)) := (Keeps.refl [] w2).alloc _
      have kB : Keeps [] (w2.alloc (.cells #[.slice none 0 0] 47)) ((w2.alloc (.cells #[.slice none 0 0] 47)).alloc (.cells #[.slice none 0 0] 211)) := (Keeps.refl [] _).alloc _
      have hp0 := heap_new (w2.alloc (.cells #[.slice none 0 0] 47)) (.cells #[.slice none 0 0] 211)
      rw [World.size_alloc] at hp0
      have H2 := Lib.hid (And.intro (go1 (kA.trans kB) Hc.out.1) (And.intro (Hc.out.2.1.keep (kA.trans kB) (by simp)) (And.intro (kB.at_ (heap_new w2 (.cells #[.slice none 0 0] 47)) (by simp)) (And.intro hp0 (And.intro ((kA.trans kB).mono (S' := [q]) (by simp)) (And.intro (lt_of_at Hc.out.1) ((Hc.out.2.2.2.2.trans kA).trans kB)))))))
      clear kA kB hp0
      go_wp2_with fail
      generalize (w2.alloc (.cells #[.slice none 0 0] 47)).alloc (.cells #[.slice none 0 0] 211) = wb at H2 ⊢
      have Ho := Lib.hid (show w.heap.size ≤ w2.heap.size from Hc.out.2.2.2.2.size)
      generalize w2.heap.size = o at H2 Ho ⊢
      have Hwb := Lib.hid (Hl.out.trans H2.out.2.2.2.2.1)
      go_loopg [] 1 (TEmpty w wb q o (o + 1) (.slice ar2 1 cr2) (encSm s))
      case atStart => exact .inl ⟨rfl, rfl⟩
      case round =>
        rcases hrel with ⟨hgk, rfl⟩ | ⟨hgk, g2, c2, r, cr, pp, cp, e1, e2, e3, e4, e5, e6, e7, e8, e9, e10, e11⟩
        · have cq := cells_at H2.out.1
          have lq := lt_of_at H2.out.1
          go_wp2_with fail
          refine (hpop_spec wr q g c ar1 ar2 P.length cr1 1 cr2 H2.out.1 H2.out.2.1 Hc.out.2.2.1).mono ?_
          rintro e w3 ⟨rfl, hq3, k3⟩
          have kw3 := H2.out.2.2.2.2.2.2.after k3 (fun x hx => .inr (by simp only [List.mem_singleton] at hx; rw [hx, ← Hq.out]; exact Nat.le_refl _))
          have hoq := H2.out.2.2.2.2.2.1
          have kC : Keeps [] w3 (w3.alloc (.cells #[.int .i64 0, .int .i64 0, .slice ar1 P.length cr1, .slice ar2 1 cr2] 208)) := (Keeps.refl [] w3).alloc _
          have H3 := Lib.hid (And.intro (kC.at_ hq3 (by simp)) (And.intro (kC.at_ (k3.at_ H2.out.2.2.1 (by simp; omega)) (by simp)) (And.intro (kC.at_ (k3.at_ H2.out.2.2.2.1 (by simp; omega)) (by simp)) (And.intro (heap_new w3 (.cells #[.int .i64 0, .int .i64 0, .slice ar1 P.length cr1, .slice ar2 1 cr2] 208)) (And.intro (Nat.lt_of_lt_of_le (lt_of_at H2.out.2.2.2.1) k3.size) (kw3.trans kC))))))
          have Hoq := Lib.hid hoq
          have co : w3.cell? ⟨o, 0, none⟩ = some (.slice none 0 0) := cells_at (k3.at_ H2.out.2.2.1 (by simp; omega)) 0
          have lo : o < w3.heap.size := lt_of_at (k3.at_ H2.out.2.2.1 (by simp; omega))
          have qA := assert_cur
          clear cq lq hq3 k3 kw3 kC hoq H2 Hwb Hl
          go_upto_region 15 with fail
          clear co lo qA
          generalize w3.alloc (.cells #[.int .i64 0, .int .i64 0, .slice ar1 P.length cr1, .slice ar2 1 cr2] 208) = w4 at H3 ⊢
          generalize w3.heap.size = k at H3 ⊢
          go_region
          have kd : Keeps [] w4 w4.drew := (Keeps.refl [] w4).drew
          have H4 := Lib.hid (And.intro (kd.at_ H3.out.1 (by simp)) (And.intro (kd.at_ H3.out.2.1 (by simp)) (And.intro (kd.at_ H3.out.2.2.1 (by simp)) (And.intro (kd.at_ H3.out.2.2.2.1 (by simp)) (And.intro H3.out.2.2.2.2.1 (H3.out.2.2.2.2.2.trans kd))))))
          clear kd H3
          generalize w4.drew = w5 at H4 ⊢
          go_wp2_with fail
          refine (flush0_spec w5 o (o + 1) _ H4.out.2.1 H4.out.2.2.1).mono ?_
          rintro e w6 ⟨rfl, hp6, k6⟩
          obtain ⟨W7, hW7⟩ : ∃ W7, W7 = w6.drew := ⟨_, rfl⟩
          have k7 : Keeps [] w6 W7 := by rw [hW7]; exact (Keeps.refl [] w6).drew
          have hlt := H4.out.2.2.2.2.1
          have hoq := Hoq.out
          have H7 := Lib.hid (And.intro (k7.at_ (k6.at_ H4.out.1 (by simp; omega)) (by simp)) (And.intro (k7.at_ (k6.at_ H4.out.2.1 (by simp)) (by simp)) (And.intro (k7.at_ hp6 (by simp)) (And.intro (k7.at_ (k6.at_ H4.out.2.2.2.1 (by simp; omega)) (by simp)) (And.intro hlt ((H4.out.2.2.2.2.2.after k6 (fun x hx => .inr (by simp only [List.mem_singleton] at hx; have := Ho.out; omega))).trans k7))))))
          clear hp6 k6 hlt hoq H4
          go_upto_region 17 with fail
          have F0 : ∀ s : Kept W7, s.val.cell? ⟨o, 0, none⟩ = some (.slice none 0 0) := keptCell (cells_at H7.out.2.1 0)
          have F1 : ∀ s : Kept W7, s.val.cell? ⟨k, 2, none⟩ = some (.slice ar1 P.length cr1) := keptCell (cells_at H7.out.2.2.2.1 2)
          refine wp_region_last_n 8 (KeptS W7) (by kernel_rfl) (by kernel_rfl) (by kernel_rfl) ?_
          rw [← hW7]
          clear k7 hW7
          have hS : KeptS W7 W7 := keptS (Keeps.refl _ _)
          simp only [List.take_succ_cons, List.take_zero, List.toList_toArray]
          refine wpAnyH_take (i := 0) (v := ?_) rfl (by kernel_rfl) (by kernel_rfl) (by kernel_rfl) (fun _ _ _ h => h) (Or.inl ⟨by rfl, ?_⟩) (by assumption) ?_
          rotate_left
          · intro w' s1; obtain ⟨s, rfl⟩ := s1; go_simp; (try with_reducible rfl)
          simp only [Act.put, List.getElem_toArray, List.getElem_cons_succ, List.getElem_cons_zero, List.setIfInBounds_toArray, List.set_cons_zero, List.set_cons_succ]
          refine wpAnyH_take (i := 1) (v := ?_) rfl (by kernel_rfl) (by kernel_rfl) (by kernel_rfl) (fun _ _ _ h => h) (Or.inl ⟨by rfl, ?_⟩) (by assumption) ?_
          rotate_left
          · intro w' s1; obtain ⟨s, rfl⟩ := s1; go_simp; (try with_reducible rfl)
          simp only [Act.put, List.getElem_toArray, List.getElem_cons_succ, List.getElem_cons_zero, List.setIfInBounds_toArray, List.set_cons_zero, List.set_cons_succ]
          refine wpAnyH_take (i := 2) (v := ?_) rfl (by kernel_rfl) (by kernel_rfl) (by kernel_rfl) (fun _ _ _ h => h) (Or.inl ⟨by rfl, ?_⟩) (by assumption) ?_
          rotate_left
          · intro w' s1; obtain ⟨s, rfl⟩ := s1; go_simp; (try with_reducible rfl)
          simp only [Act.put, List.getElem_toArray, List.getElem_cons_succ, List.getElem_cons_zero, List.setIfInBounds_toArray, List.set_cons_zero, List.set_cons_succ]
          refine wpAnyH_take (i := 3) (v := ?_) rfl (by kernel_rfl) (by kernel_rfl) (by kernel_rfl) (fun _ _ _ h => h) (Or.inl ⟨by rfl, ?_⟩) (by assumption) ?_
          rotate_left
          · intro w' s1; obtain ⟨s, rfl⟩ := s1; go_simp; (try with_reducible rfl)
          simp only [Act.put, List.getElem_toArray, List.getElem_cons_succ, List.getElem_cons_zero, List.setIfInBounds_toArray, List.set_cons_zero, List.set_cons_succ]
          refine wpAnyH_ready (rs := [4]) (by kernel_rfl) (by simp) ?_
          refine AllReadyH.cons rfl (fun K hK => ?_) AllReadyH.nil
          go_simp
          go_at_call 59
          refine (cloneT_spec W7 0 _ P (go1 H7.out.2.2.2.2.2 Hb.out.1) h0 hP).mono ?_
          rintro e A1 ⟨v8, rfl, hown8, k8⟩
          obtain ⟨ao8, cp8, rfl, -, -, -⟩ := row_slice hown8
          clear hown8
          go_simp
          refine hK.out _ _ (keptS k8) (fun hS => ?_)
          clear hK K
          try simp only [Act.put, List.getElem_toArray, List.getElem_cons_succ, List.getElem_cons_zero, List.setIfInBounds_toArray, List.set_cons_zero, List.set_cons_succ]
          refine wpAnyH_take (i := 5) (v := ?_) rfl (by kernel_rfl) (by kernel_rfl) (by kernel_rfl) (fun _ _ _ h => h) (Or.inl ⟨by rfl, ?_⟩) (by assumption) ?_
          rotate_left
          · intro w' s1; obtain ⟨s, rfl⟩ := s1; go_simp; (try with_reducible rfl)
          simp only [Act.put, List.getElem_toArray, List.getElem_cons_succ, List.getElem_cons_zero, List.setIfInBounds_toArray, List.set_cons_zero, List.set_cons_succ]
          refine wpAnyH_ready (rs := [6]) (by kernel_rfl) (by simp) ?_
          refine AllReadyH.cons rfl (fun K hK => ?_) AllReadyH.nil
          go_simp
          have kA : Keeps [] A1 (A1.alloc (.cells #[.slice ao8 P.length cp8, .slice none 0 0] 100)) := (Keeps.refl [] A1).alloc _
          have H8 := Lib.hid (And.intro (heap_new A1 (.cells #[.slice ao8 P.length cp8, .slice none 0 0] 100)) (k8.trans kA))
          clear kA
          generalize A1.heap.size = nb at H8 ⊢
          generalize A1.alloc (.cells #[.slice ao8 P.length cp8, .slice none 0 0] 100) = A2 at H8 ⊢
          go_simp
          refine hK.out _ _ (keptS H8.out.2) (fun hS => ?_)
          clear hK K
          try simp only [Act.put, List.getElem_toArray, List.getElem_cons_succ, List.getElem_cons_zero, List.setIfInBounds_toArray, List.set_cons_zero, List.set_cons_succ]
          refine wpAnyH_ready (rs := [7]) (by kernel_rfl) (by simp) ?_
          refine AllReadyH.cons rfl (fun K hK => ?_) AllReadyH.nil
          refine step_appP rfl (.tmp 62) (.tmp 68) 47 rfl A2.heap.size 100 ir _ 2 48 Tryz.underlying47 hir hy0 hy1 hy2 rfl (by decide) (.slice none 0 0) 0 [] rfl (World.ownsRow_nil _ _ _ 2) ⟨nb, 0, none⟩ 1 1 [.slice ao8 P.length cp8, .slice none 0 0] rfl rfl (news_two H8.out.1) (by simp [Value.oneCell']) (by decide) (by decide) (Nat.le_refl _) ?_
          intro v9 A3 hown9 hgrow9
          have k9 := keeps_own (Keeps.refl [] A2) hgrow9 (fun g hg => by simp [Value.ownBlock] at hg)
          obtain ⟨r, cr, rfl, hB, hcr1, hcells, hfr⟩ := row_one hown9
          have H9 := Lib.hid (And.intro (H8.out.2.trans k9) (And.intro (hcells 1 _ rfl) (And.intro hfr (show W7.heap.size ≤ r from Nat.le_trans H8.out.2.size hB))))
          clear hown9 hgrow9 k9 hB hcells hfr
          refine hK.out _ _ (keptS H9.out.1) (fun hS => ?_)
          clear hK K
          try simp only [Act.put, List.getElem_toArray, List.getElem_cons_succ, List.getElem_cons_zero, List.setIfInBounds_toArray, List.set_cons_zero, List.set_cons_succ]
          have co : A3.cell? ⟨o, 0, none⟩ = some (.slice none 0 0) := cells_at (H9.out.1.at_ H7.out.2.1 (by simp)) 0
          have fo := free_at (H9.out.1.at_ H7.out.2.1 (by simp))
          have lo := lt_of_at (H9.out.1.at_ H7.out.2.1 (by simp))
          refine wpAnyH_done (by kernel_rfl) ?_ _
          refine lastQ_step rfl (fun K hK => ?_)
          go_simp
          refine hK _ _ ?_
          clear hK K
          clear co fo lo F0 F1 hS
          have lk := lt_of_at H7.out.2.2.2.1
          have hlt := H7.out.2.2.2.2.1
          have hrb := H9.out.2.2.2
          have hro : r ≠ o := by omega
          have hrp : r ≠ o + 1 := by omega
          have hrk : r ≠ k := by omega
          have hqo := Hoq.out
          have lr := World.block_lt_of_cell? _ _ H9.out.2.1
          have ko : Keeps [o] A3 (A3.setCell ⟨o, 0, none⟩ (.slice (some ⟨r, 0, none⟩) 1 cr)) := (Keeps.refl _ A3).setCell (.inl (by simp)) _
          have H10 := Lib.hid (And.intro (ko.at_ (H9.out.1.at_ H7.out.1 (by simp)) (by simp; omega)) (And.intro (show _ = some (Obj.cells #[.slice (some ⟨r, 0, none⟩) 1 cr] 47 (0, 0)) from heap_setCell_same A3 o 0 _ _ (.slice (some ⟨r, 0, none⟩) 1 cr) (H9.out.1.at_ H7.out.2.1 (by simp))) (And.intro (ko.at_ (H9.out.1.at_ H7.out.2.2.1 (by simp)) (by simp)) (And.intro (ko.at_ (H9.out.1.at_ H7.out.2.2.2.1 (by simp)) (by simp; omega)) (And.intro ((ko.cell lr (by simp; omega)).trans H9.out.2.1) (And.intro (fun i => (ko.frozen lr (by simp; omega)).trans (H9.out.2.2.1 i)) ((H7.out.2.2.2.2.2.trans H9.out.1).after ko (fun x hx => .inr (by simp only [List.mem_singleton] at hx; have := Ho.out; omega)))))))))
          have Hne := Lib.hid (And.intro hro (And.intro hrp (And.intro hrk (And.intro hlt (show w.heap.size ≤ r from Nat.le_trans H7.out.2.2.2.2.2.size hrb)))))
          clear ko lk hlt hrb hro hrp hrk hqo lr H9 H8 H7
          generalize A3.setCell ⟨o, 0, none⟩ (.slice (some ⟨r, 0, none⟩) 1 cr) = A4 at H10 ⊢
          have cp1 : A4.cell? ⟨o + 1, 0, none⟩ = some (.slice none 0 0) := cells_at H10.out.2.2.1 0
          have fp1 := free_at H10.out.2.2.1
          have lp1 := lt_of_at H10.out.2.2.1
          have ck3 : A4.cell? ⟨k, 3, none⟩ = some (.slice ar2 1 cr2) := cells_at H10.out.2.2.2.1 3
          have lk1 := lt_of_at H10.out.2.2.2.1
          go_upto_region 19 with (at_builtin; refine wpList_append_own _ rfl (.tmp 70) (.tmp 74) 211 rfl A4.heap.size 90 is_ _ 1 24 Tryz.underlying211 his hx0 hx1 hx2 rfl (by decide) (.slice none 0 0) 0 [] rfl (World.ownsRow_nil _ _ _ 1) ⟨A4.heap.size, 0, none⟩ 1 1 [.slice ar2 1 cr2] rfl rfl (news_one (heap_new A4 _)) (by simp [Value.oneCell']) (by decide) (by decide) (by rw [World.size_alloc]; omega) ?_; intro v10 w10 hown10 hgrow10 hnil10; clear hnil10; obtain ⟨pp, cpp, rfl, hpB, hpc, hpcells, hpf⟩ := row_one hown10; have k10 := keeps_own ((Keeps.refl [] A4).alloc (.cells #[.slice ar2 1 cr2] 90)) hgrow10 (fun g hg => by simp [Value.ownBlock] at hg); have cq1 : w10.cell? ⟨o + 1, 0, none⟩ = some (.slice none 0 0) := (k10.cell lp1 (by simp)).trans cp1; have fq1 : ∀ i, w10.frozen? ⟨o + 1, i, none⟩ = false := fun i => (k10.frozen lp1 (by simp)).trans (fp1 i); have lq1 : o + 1 < w10.heap.size := Nat.lt_of_lt_of_le lp1 k10.size; skip)
          have hpo : pp ≠ o + 1 := by omega
          have hpk : pp ≠ k := by omega
          have hok := Hne.out.2.2.2.1
          have hro := Hne.out.2.1
          have hqo := Hoq.out
          have lpp := World.block_lt_of_cell? _ _ (hpcells 0 _ rfl)
          have lr := World.block_lt_of_cell? _ _ H10.out.2.2.2.2.1
          have lr2 : r < w10.heap.size := Nat.lt_of_lt_of_le lr k10.size
          have kp : Keeps [o + 1] w10 (w10.setCell ⟨o + 1, 0, none⟩ (.slice (some ⟨pp, 0, none⟩) 1 cpp)) := (Keeps.refl _ w10).setCell (.inl (by simp)) _
          have H11 := Lib.hid (And.intro (kp.at_ (k10.at_ H10.out.1 (by simp)) (by simp; omega)) (And.intro (kp.at_ (k10.at_ H10.out.2.1 (by simp)) (by simp)) (And.intro (show _ = some (Obj.cells #[.slice (some ⟨pp, 0, none⟩) 1 cpp] 211 (0, 0)) from heap_setCell_same w10 (o + 1) 0 _ _ (.slice (some ⟨pp, 0, none⟩) 1 cpp) (k10.at_ H10.out.2.2.1 (by simp))) (And.intro (kp.at_ (k10.at_ H10.out.2.2.2.1 (by simp)) (by simp; omega)) (And.intro ((kp.cell lr2 (by simp; omega)).trans ((k10.cell lr (by simp)).trans H10.out.2.2.2.2.1)) (And.intro (fun i => (kp.frozen lr2 (by simp; omega)).trans ((k10.frozen lr (by simp)).trans (H10.out.2.2.2.2.2.1 i))) (And.intro ((kp.cell lpp (by simp; omega)).trans (hpcells 0 _ rfl)) ((H10.out.2.2.2.2.2.2.trans k10).after kp (fun x hx => .inr (by simp only [List.mem_singleton] at hx; have := Ho.out; omega))))))))))
          have Hpp := Lib.hid hpk
          clear hpo hpk hok hro hqo lpp lr lr2 kp cq1 fq1 lq1 k10 hpf hpcells hpc hpB hown10 hgrow10 lk1 ck3 lp1 fp1 cp1 H10
          generalize w10.setCell ⟨o + 1, 0, none⟩ (.slice (some ⟨pp, 0, none⟩) 1 cpp) = A5 at H11 ⊢
          have ck1 : A5.cell? ⟨k, 1, none⟩ = some (.int .i64 0) := cells_at H11.out.2.2.2.1 1
          have fk1 := free_at H11.out.2.2.2.1
          have lk1 := lt_of_at H11.out.2.2.2.1
          go_upto_region 20 with fail
          have hok := Hne.out.2.2.2.1
          have hrk := Hne.out.2.2.1
          have hqo := Hoq.out
          have hpk := Hpp.out
          have hwo := Ho.out
          have lr := World.block_lt_of_cell? _ _ H11.out.2.2.2.2.1
          have lpp := World.block_lt_of_cell? _ _ H11.out.2.2.2.2.2.2.1
          have kk : Keeps [k] A5 (A5.setCell ⟨k, 1, none⟩ (.int .i64 1)) := (Keeps.refl _ A5).setCell (.inl (by simp)) _
          have H12 := Lib.hid (And.intro (kk.at_ H11.out.1 (by simp; omega)) (And.intro (kk.at_ H11.out.2.1 (by simp; omega)) (And.intro (kk.at_ H11.out.2.2.1 (by simp; omega)) (And.intro (show _ = some (Obj.cells #[.int .i64 0, .int .i64 1, .slice ar1 P.length cr1, .slice ar2 1 cr2] 208 (0, 0)) from heap_setCell_same A5 k 1 _ _ (.int .i64 1) H11.out.2.2.2.1) (And.intro ((kk.cell lr (by simp; omega)).trans H11.out.2.2.2.2.1) (And.intro (fun i => (kk.frozen lr (by simp; omega)).trans (H11.out.2.2.2.2.2.1 i)) (And.intro ((kk.cell lpp (by simp; omega)).trans H11.out.2.2.2.2.2.2.1) (H11.out.2.2.2.2.2.2.2.after kk (fun x hx => .inr (by simp only [List.mem_singleton] at hx; omega))))))))))
          clear hok hrk hqo hpk hwo lr lpp kk ck1 fk1 lk1 H11
          generalize A5.setCell ⟨k, 1, none⟩ (.int .i64 1) = A6 at H12 ⊢
          have ck0 : A6.cell? ⟨k, 0, none⟩ = some (.int .i64 0) := cells_at H12.out.2.2.2.1 0
          have ck1 : A6.cell? ⟨k, 1, none⟩ = some (.int .i64 1) := cells_at H12.out.2.2.2.1 1
          have lk1 := lt_of_at H12.out.2.2.2.1
          have cl0 := (H12.out.2.2.2.2.2.2.2.cell (World.block_lt_of_cell? _ _ Hb.out.2.2) (by simp)).trans Hb.out.2.2
          have ll0 := World.block_lt_of_cell? _ _ cl0
          go_region
          clear ck0 ck1 lk1 cl0 ll0
          have kd : Keeps [] A6 A6.drew := (Keeps.refl [] A6).drew
          have H13 := Lib.hid (And.intro (kd.at_ H12.out.1 (by simp)) (And.intro (kd.at_ H12.out.2.1 (by simp)) (And.intro (kd.at_ H12.out.2.2.1 (by simp)) (And.intro ((kd.cell (World.block_lt_of_cell? _ _ H12.out.2.2.2.2.1) (by simp)).trans H12.out.2.2.2.2.1) (And.intro (fun i => (kd.frozen (World.block_lt_of_cell? _ _ H12.out.2.2.2.2.1) (by simp)).trans (H12.out.2.2.2.2.2.1 i)) (And.intro ((kd.cell (World.block_lt_of_cell? _ _ H12.out.2.2.2.2.2.2.1) (by simp)).trans H12.out.2.2.2.2.2.2.1) (H12.out.2.2.2.2.2.2.2.trans kd)))))))
          clear kd H12
          generalize A6.drew = A7 at H13 ⊢
          go_wp2_with fail
          go_roundg 0
          case measure => omega
          case rel => exact .inr ⟨rfl, g, c, r, cr, pp, cpp, H13.out.1, H13.out.2.1, H13.out.2.2.1, H13.out.2.2.2.1, H13.out.2.2.2.2.1, H13.out.2.2.2.2.2.1, go1 H13.out.2.2.2.2.2.2 Hb.out.2.1, Hne.out.2.2.2.2, Hne.out.2.1, Hne.out.1, H13.out.2.2.2.2.2.2⟩
        · have HB := Lib.hid (And.intro e2 (And.intro e3 (And.intro e4 (And.intro e5 (And.intro e6 (And.intro e7 (And.intro e9 (And.intro e10 (And.intro e11 e8)))))))))
          have cq := cells_at e1
          have lq := lt_of_at e1
          clear e1 e2 e3 e4 e5 e6 e7 e8 e9 e10 e11 H2 Hwb Hl
          go_wp2_with fail
          refine (flush1_spec wr o (o + 1) r cr pp cp 0 s.1 s.2 _ _ HB.out.1 HB.out.2.1 HB.out.2.2.1 HB.out.2.2.2.1 HB.out.2.2.2.2.1 HB.out.2.2.2.2.2.1 HB.out.2.2.2.2.2.2.1 (by omega) HB.out.2.2.2.2.2.2.2.1).mono ?_
          rintro e w8 ⟨rfl, ho8, k8⟩
          clear cq lq
          have HR := Lib.hid (HB.out.2.2.2.2.2.2.2.2.1.after k8 (fun x hx => .inr (by
            have := Ho.out
            have := HB.out.2.2.2.2.2.2.2.2.2
            simp only [List.mem_cons, List.not_mem_nil, or_false] at hx
            omega)))
          have co := cells_at ho8
          have lo := lt_of_at ho8
          clear k8 ho8
          go_wp2_with fail
          go_ret
          exact ⟨⟨_, _, rfl⟩, HR.out⟩
end Go.Proofs.YtlifonflgcfafaaGreatDoor
