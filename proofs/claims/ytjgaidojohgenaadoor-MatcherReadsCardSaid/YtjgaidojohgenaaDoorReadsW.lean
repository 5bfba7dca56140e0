/-
  MatcherReads, walked.
  The variable matcher.signs holds its five signs; the library's variable internal/bytealg.MaxLen holds some number.
-/
import Derived.Test.YtjgaidojohgenaaDoorMText
import Derived.Test.YtjgaidojohgenaaDoorAwake13
import Derived.Test.YtjgaidojohgenaaDoorMatArgs
import Derived.Test.YtjgaidojohgenaaDoorSignsOf
import Derived.Lib.SmallJoins
namespace Go.Proofs.YtjgaidojohgenaaDoor
open Go Go.RowKit

def errM (r : Option (List MatB)) : Int := match r with | none => 3 | some _ => 0

def listM (r : Option (List MatB)) : List MatB := match r with | none => [] | some L => L

theorem ms_form {w : World} {r : Option (List MatB)} {e : Ending} {w' : World} (h : MsPost w r e w') : ∃ v, e = .returned (.tuple #[v, .int .i64 (errM r)]) ∧ MatsAt w' v (listM r) ∧ Keeps [] w w' := by
  cases r with
  | none =>
    obtain ⟨h1, h2⟩ := h
    exact ⟨_, h1, mats_nil w', h2⟩
  | some L => exact h

def MatArg (w : World) (v : Value) : Prop := ∃ k n u V, v = .agg #[.int .i64 k, .string n, u] ∧ SliceArg 1 encS1 w u V

set_option maxRecDepth 100000 in
theorem open_mat {H : Type} {e0 : TypeId × Value → H} {W : World} {r : Reach} {b0 : Nat} {v : Value} {d : DataW H} {p : List MemPlace} (hok : Value.okWide Tryd.prog W r b0 56 v) (h : DataW.Trod e0 Tryd.prog W 0 (fun _ => true) true 56 v d p) : MatArg W v := by
  have hCs : Tryd.prog.cellsOf 9 = 1 := by kernel_rfl
  obtain ⟨v0, v1, v2, y0, y1, y2, n, rfl, -, -, g0, g1, g2⟩ := Joins.open_agg3 Tryd.underlying56 (by kernel_rfl) (by kernel_rfl) hok h
  obtain ⟨n0, e0', _, _⟩ := DataW.trod_int Tryd.underlying3 g0
  obtain ⟨n1, e1, _, _⟩ := DataW.trod_string Tryd.underlying9 g1
  simp only [List.cons.injEq, and_true] at e0' e1
  subst e0' e1
  obtain ⟨V, hV⟩ := texts_of_trod Tryd.underlying34 Tryd.underlying9 hCs g2
  exact ⟨n0, n1, v2, V, rfl, hV⟩

theorem shortV_small (V : List ByteArray) : (shortV V).length ≤ 12 ∧ ∀ x ∈ shortV V, x.size ≤ 42 := by
  unfold shortV
  refine ⟨by rw [List.length_map, List.length_take]; omega, fun x hx => ?_⟩
  obtain ⟨y, _, rfl⟩ := List.mem_map.1 hx
  have := cut_size y 42
  omega

set_option linter.unusedSimpArgs false in
set_option maxRecDepth 100000 in
set_option maxHeartbeats 1000000 in
theorem reads_walk (w : World) (hv : LibVar w) (hsg : SignsAt w) (s : ByteArray) (k : Int) (n : ByteArray) (u : Value) (V : List ByteArray) (h : SliceArg 1 encS1 w u V) :
    Calls Tryd.prog 6 #[.string s, .agg #[.int .i64 k, .string n, u]] w fun e w' => e = .returned (.bool true) ∧ Keeps [] w w' := by
  have hf := h
  obtain ⟨ao, cap, rfl, hl, -⟩ := h
  unfold maxLen at hl
  have kA : Keeps [] w (w.alloc (.cells #[.int .i64 k, .string n, .slice ao V.length cap] 56)) := (Keeps.refl [] w).alloc _
  have H0 := Lib.hid (And.intro (heap_new w (.cells #[.int .i64 k, .string n, .slice ao V.length cap] 56)) (And.intro (hf.keep kA) (And.intro (hsg.keep kA) (And.intro (hv.keep kA (by simp)) kA))))
  clear hf kA hsg hv
  go_enter Tryd.func6, Tryd.ntmps6
  go_wp2_with fail
  refine (cut_any s 200 _ (by decide)).mono ?_
  rintro e w' ⟨rfl, rfl⟩
  have hcs := cut_size s 200
  have HS := Lib.hid (show (cut s 200).size ≤ 1000000 from by omega)
  clear hcs
  generalize cut s 200 = t at HS ⊢
  go_wp2_with fail
  refine (matParse_spec _ H0.out.2.2.1 H0.out.2.2.2.1 t HS.out).mono ?_
  rintro e w1 hm
  obtain ⟨va, rfl, ha, hk1⟩ := ms_form hm
  have H1 := Lib.hid (And.intro ha (go1 hk1 H0.out))
  obtain ⟨aa, ca, rfl, -⟩ := ha.form
  clear hm ha hk1 H0
  go_wp2_with fail
  refine (refParse_spec w1 t HS.out).mono ?_
  rintro e w2 hm
  obtain ⟨vb, rfl, hb, hk2⟩ := ms_form hm
  have H2 := Lib.hid (And.intro hb (go1 hk2 H1.out))
  obtain ⟨ab, cb, rfl, -⟩ := hb.form
  clear hm hb hk2 H1
  generalize errM (mparsesB t) = er
  generalize listM (mparsesB t) = L at H2 ⊢
  generalize w.heap.size = pk at H2 ⊢
  have c0 : w2.cell? ⟨pk, 0, none⟩ = some (.int .i64 k) := cells_at H2.out.2.2.1 0
  have c1 : w2.cell? ⟨pk, 1, none⟩ = some (.string n) := cells_at H2.out.2.2.1 1
  have c2 : w2.cell? ⟨pk, 2, none⟩ = some (.slice ao V.length cap) := cells_at H2.out.2.2.1 2
  go_wp2_with fail
  refine (short_spec w2 k n _ V H2.out.2.2.2.1).mono ?_
  rintro e w3 ⟨v3, rfl, hr3, hk3⟩
  have H3 := Lib.hid (And.intro hr3 (go1 hk3 H2.out))
  obtain ⟨a3, c3, rfl, -, -, -⟩ := row_slice hr3
  have hcn := cut_size n 42
  have hsv := shortV_small V
  have HZ := Lib.hid (And.intro hcn hsv)
  clear hr3 hk3 H2 c0 c1 c2 hcn hsv hl
  generalize shortV V = sv at H3 HZ ⊢
  generalize cut n 42 = sn at HZ ⊢
  generalize w2.heap.size = B3 at H3
  have n2 := new2 w3 (.cells #[.int .i64 k, .string sn, .slice a3 sv.length c3] 59) (.cells #[.int .i64 k, .string sn, .slice a3 sv.length c3] 56)
  have kB : Keeps [] w3 ((w3.alloc (.cells #[.int .i64 k, .string sn, .slice a3 sv.length c3] 59)).alloc (.cells #[.int .i64 k, .string sn, .slice a3 sv.length c3] 56)) := ((Keeps.refl [] w3).alloc _).alloc _
  obtain ⟨W0, hW0⟩ : ∃ W0, W0 = ((w3.alloc (.cells #[.int .i64 k, .string sn, .slice a3 sv.length c3] 59)).alloc (.cells #[.int .i64 k, .string sn, .slice a3 sv.length c3] 56)).drew := ⟨_, rfl⟩
  have kW : Keeps [] w3 W0 := by rw [hW0]; exact kB.drew
  have H4 := Lib.hid (And.intro (show W0.heap[w3.heap.size]? = some (.cells #[.int .i64 k, .string sn, .slice a3 sv.length c3] 59 (0, 0)) from by rw [hW0]; exact n2.1) (And.intro (show W0.heap[w3.heap.size + 1]? = some (.cells #[.int .i64 k, .string sn, .slice a3 sv.length c3] 56 (0, 0)) from by rw [hW0]; exact n2.2) (go1 kW H3.out)))
  have p0 : (w3.alloc (.cells #[.int .i64 k, .string sn, .slice a3 sv.length c3] 59)).cell? ⟨w3.heap.size, 0, none⟩ = some (.int .i64 k) := cells_at (heap_new w3 (.cells #[.int .i64 k, .string sn, .slice a3 sv.length c3] 59)) 0
  have p1 : (w3.alloc (.cells #[.int .i64 k, .string sn, .slice a3 sv.length c3] 59)).cell? ⟨w3.heap.size, 1, none⟩ = some (.string sn) := cells_at (heap_new w3 (.cells #[.int .i64 k, .string sn, .slice a3 sv.length c3] 59)) 1
  have p2 : (w3.alloc (.cells #[.int .i64 k, .string sn, .slice a3 sv.length c3] 59)).cell? ⟨w3.heap.size, 2, none⟩ = some (.slice a3 sv.length c3) := cells_at (heap_new w3 (.cells #[.int .i64 k, .string sn, .slice a3 sv.length c3] 59)) 2
  have HW := Lib.hid hW0
  clear n2 kB kW hW0 H3
  go_upto_region 6 with fail
  refine wp_region_held_drew (S := KeptS W0) (by kernel_rfl) (by rw [← HW.out]; exact keptS (Keeps.refl _ _)) (fun hS => ?_)
  rw [← HW.out] at hS ⊢
  clear HW p0 p1 p2
  have D0 : ∀ s : Kept W0, s.val.cell? ⟨w3.heap.size, 0, none⟩ = some (.int .i64 k) := keptCell (cells_at H4.out.1 0)
  have D1 : ∀ s : Kept W0, s.val.cell? ⟨w3.heap.size, 1, none⟩ = some (.string sn) := keptCell (cells_at H4.out.1 1)
  have D2 : ∀ s : Kept W0, s.val.cell? ⟨w3.heap.size, 2, none⟩ = some (.slice a3 sv.length c3) := keptCell (cells_at H4.out.1 2)
  have E0 : ∀ s : Kept W0, s.val.cell? ⟨w3.heap.size + 1, 0, none⟩ = some (.int .i64 k) := keptCell (cells_at H4.out.2.1 0)
  have E1 : ∀ s : Kept W0, s.val.cell? ⟨w3.heap.size + 1, 1, none⟩ = some (.string sn) := keptCell (cells_at H4.out.2.1 1)
  have E2 : ∀ s : Kept W0, s.val.cell? ⟨w3.heap.size + 1, 2, none⟩ = some (.slice a3 sv.length c3) := keptCell (cells_at H4.out.2.1 2)
  generalize hp9 : w3.heap.size = p9 at H4 D0 D1 D2 E0 E1 E2 ⊢
  clear hp9
  have he : (er != er) = false := by simp
  cases hcb : chkB (k, sn, sv) with
  | false =>
    have HB := Lib.hid hcb
    clear hcb
    refine wpAnyH_ready (rs := [0]) (by kernel_rfl) (by simp) ?_
    refine AllReadyH.cons rfl (fun K hK => ?_) AllReadyH.nil
    go_simp
    go_at_call 17
    refine (awake13_spec W0 H4.out.2.2.2.2.2.2.2.1 H4.out.2.2.2.2.2.2.2.2.1).mono ?_
    rintro e A1 ⟨rfl, kA1⟩
    go_simp
    refine hK.out _ _ (keptS kA1) (fun hS => ?_)
    clear hK K
    try simp only [Act.put, List.getElem_toArray, List.getElem_cons_succ, List.getElem_cons_zero, List.setIfInBounds_toArray, List.set_cons_zero, List.set_cons_succ]
    refine wpAnyH_take (i := 1) (v := ?_) rfl (by kernel_rfl) (by kernel_rfl) (by kernel_rfl) (fun _ _ _ h => h) (Or.inl ⟨by rfl, ?_⟩) (by assumption) ?_
    rotate_left
    · intro w' s1; obtain ⟨s, rfl⟩ := s1; go_simp; (try with_reducible rfl)
    simp only [Act.put, List.getElem_toArray, List.getElem_cons_succ, List.getElem_cons_zero, List.setIfInBounds_toArray, List.set_cons_zero, List.set_cons_succ]
    refine wpAnyH_take (i := 2) (v := ?_) rfl (by kernel_rfl) (by kernel_rfl) (by kernel_rfl) (fun _ _ _ h => h) (Or.inl ⟨by rfl, ?_⟩) (by assumption) ?_
    rotate_left
    · intro w' s1; obtain ⟨s, rfl⟩ := s1; go_simp; (try with_reducible rfl)
    simp only [Act.put, List.getElem_toArray, List.getElem_cons_succ, List.getElem_cons_zero, List.setIfInBounds_toArray, List.set_cons_zero, List.set_cons_succ]
    refine wpAnyH_take (i := 3) (v := ?_) rfl (by kernel_rfl) (by kernel_rfl) (by kernel_rfl) (fun _ _ _ h => h) (Or.inl ⟨by rfl, ?_⟩) (by assumption) ?_
    rotate_left
    · intro w' s1; obtain ⟨s, rfl⟩ := s1; go_simp; (try with_reducible rfl)
    simp only [Act.put, List.getElem_toArray, List.getElem_cons_succ, List.getElem_cons_zero, List.setIfInBounds_toArray, List.set_cons_zero, List.set_cons_succ]
    refine wpAnyH_take (i := 4) (v := ?_) rfl (by kernel_rfl) (by kernel_rfl) (by kernel_rfl) (fun _ _ _ h => h) (Or.inl ⟨by rfl, ?_⟩) (by assumption) ?_
    rotate_left
    · intro w' s1; obtain ⟨s, rfl⟩ := s1; go_simp; (try with_reducible rfl)
    simp only [Act.put, List.getElem_toArray, List.getElem_cons_succ, List.getElem_cons_zero, List.setIfInBounds_toArray, List.set_cons_zero, List.set_cons_succ]
    refine wpAnyH_take (i := 5) (v := ?_) rfl (by kernel_rfl) (by kernel_rfl) (by kernel_rfl) (fun _ _ _ h => h) (Or.inl ⟨by rfl, ?_⟩) (by assumption) ?_
    rotate_left
    · intro w' s1; obtain ⟨s, rfl⟩ := s1; go_simp; (try with_reducible rfl)
    simp only [Act.put, List.getElem_toArray, List.getElem_cons_succ, List.getElem_cons_zero, List.setIfInBounds_toArray, List.set_cons_zero, List.set_cons_succ]
    refine wpAnyH_take (i := 6) (v := ?_) rfl (by kernel_rfl) (by kernel_rfl) (by kernel_rfl) (fun _ _ _ h => h) (Or.inl ⟨by rfl, ?_⟩) (by assumption) ?_
    rotate_left
    · intro w' s1; obtain ⟨s, rfl⟩ := s1; go_simp; (try with_reducible rfl)
    simp only [Act.put, List.getElem_toArray, List.getElem_cons_succ, List.getElem_cons_zero, List.setIfInBounds_toArray, List.set_cons_zero, List.set_cons_succ]
    refine wpAnyH_take (i := 7) (v := ?_) rfl (by kernel_rfl) (by kernel_rfl) (by kernel_rfl) (fun _ _ _ h => h) (Or.inl ⟨by rfl, ?_⟩) (by assumption) ?_
    rotate_left
    · intro w' s1; obtain ⟨s, rfl⟩ := s1; go_simp; (try with_reducible rfl)
    simp only [Act.put, List.getElem_toArray, List.getElem_cons_succ, List.getElem_cons_zero, List.setIfInBounds_toArray, List.set_cons_zero, List.set_cons_succ]
    refine wpAnyH_take (i := 8) (v := ?_) rfl (by kernel_rfl) (by kernel_rfl) (by kernel_rfl) (fun _ _ _ h => h) (Or.inl ⟨by rfl, ?_⟩) (by assumption) ?_
    rotate_left
    · intro w' s1; obtain ⟨s, rfl⟩ := s1; go_simp; (try with_reducible rfl)
    simp only [Act.put, List.getElem_toArray, List.getElem_cons_succ, List.getElem_cons_zero, List.setIfInBounds_toArray, List.set_cons_zero, List.set_cons_succ]
    refine wpAnyH_take (i := 9) (v := ?_) rfl (by kernel_rfl) (by kernel_rfl) (by kernel_rfl) (fun _ _ _ h => h) (Or.inl ⟨by rfl, ?_⟩) (by assumption) ?_
    rotate_left
    · intro w' s1; obtain ⟨s, rfl⟩ := s1; go_simp; (try with_reducible rfl)
    simp only [Act.put, List.getElem_toArray, List.getElem_cons_succ, List.getElem_cons_zero, List.setIfInBounds_toArray, List.set_cons_zero, List.set_cons_succ]
    refine wpAnyH_ready (rs := [10]) (by kernel_rfl) (by simp) ?_
    refine AllReadyH.cons rfl (fun K hK => ?_) AllReadyH.nil
    go_simp
    go_at_call 26
    refine (sameM_spec A1 _ _ L (H4.out.2.2.2.2.1.keep kA1) (H4.out.2.2.2.1.keep kA1)).mono ?_
    rintro e A2 ⟨rfl, kB2⟩
    have kA2 := kA1.trans kB2
    go_simp
    refine hK.out _ _ (keptS kA2) (fun hS => ?_)
    clear hK K
    try simp only [Act.put, List.getElem_toArray, List.getElem_cons_succ, List.getElem_cons_zero, List.setIfInBounds_toArray, List.set_cons_zero, List.set_cons_succ]
    refine wpAnyH_take (i := 11) (v := ?_) rfl (by kernel_rfl) (by kernel_rfl) (by kernel_rfl) (fun _ _ _ h => h) (Or.inl ⟨by rfl, ?_⟩) (by assumption) ?_
    rotate_left
    · intro w' s1; obtain ⟨s, rfl⟩ := s1; go_simp; (try with_reducible rfl)
    simp only [Act.put, List.getElem_toArray, List.getElem_cons_succ, List.getElem_cons_zero, List.setIfInBounds_toArray, List.set_cons_zero, List.set_cons_succ]
    refine wpAnyH_take (i := 12) (v := ?_) rfl (by kernel_rfl) (by kernel_rfl) (by kernel_rfl) (fun _ _ _ h => h) (Or.inl ⟨by rfl, ?_⟩) (by assumption) ?_
    rotate_left
    · intro w' s1; obtain ⟨s, rfl⟩ := s1; go_simp; (try with_reducible rfl)
    simp only [Act.put, List.getElem_toArray, List.getElem_cons_succ, List.getElem_cons_zero, List.setIfInBounds_toArray, List.set_cons_zero, List.set_cons_succ]
    refine wpAnyH_take (i := 13) (v := ?_) rfl (by kernel_rfl) (by kernel_rfl) (by kernel_rfl) (fun _ _ _ h => h) (Or.inl ⟨by rfl, ?_⟩) (by assumption) ?_
    rotate_left
    · intro w' s1; obtain ⟨s, rfl⟩ := s1; go_simp; (try with_reducible rfl)
    simp only [Act.put, List.getElem_toArray, List.getElem_cons_succ, List.getElem_cons_zero, List.setIfInBounds_toArray, List.set_cons_zero, List.set_cons_succ]
    refine wpAnyH_take (i := 14) (v := ?_) rfl (by kernel_rfl) (by kernel_rfl) (by kernel_rfl) (fun _ _ _ h => h) (Or.inl ⟨by rfl, ?_⟩) (by assumption) ?_
    rotate_left
    · intro w' s1; obtain ⟨s, rfl⟩ := s1; go_simp; (try with_reducible rfl)
    simp only [Act.put, List.getElem_toArray, List.getElem_cons_succ, List.getElem_cons_zero, List.setIfInBounds_toArray, List.set_cons_zero, List.set_cons_succ]
    refine wpAnyH_take (i := 17) (v := ?_) rfl (by kernel_rfl) (by kernel_rfl) (by kernel_rfl) (fun _ _ _ h => h) (Or.inl ⟨by rfl, ?_⟩) (by assumption) ?_
    rotate_left
    · intro w' s1; obtain ⟨s, rfl⟩ := s1; go_simp; (try with_reducible rfl)
    simp only [Act.put, List.getElem_toArray, List.getElem_cons_succ, List.getElem_cons_zero, List.setIfInBounds_toArray, List.set_cons_zero, List.set_cons_succ]
    refine wpAnyH_ready (rs := [15]) (by kernel_rfl) (by simp) ?_
    refine AllReadyH.cons rfl (fun K hK => ?_) AllReadyH.nil
    go_simp
    go_at_call 27
    refine (mcheck_spec A2 k sn _ sv (row_texts (kA2.row H4.out.2.2.1 (by simp))) (by have := HZ.out.1; omega) (fun x hx => by have := HZ.out.2.2 x hx; omega)).mono ?_
    rintro e A3 ⟨rfl, kB3⟩
    have kA3 := kA2.trans kB3
    rw [HB.out]
    go_simp
    refine hK.out _ _ (keptS kA3) (fun hS => ?_)
    clear hK K
    try simp only [Act.put, List.getElem_toArray, List.getElem_cons_succ, List.getElem_cons_zero, List.setIfInBounds_toArray, List.set_cons_zero, List.set_cons_succ]
    refine wpAnyH_take (i := 16) (v := ?_) rfl (by kernel_rfl) (by kernel_rfl) (by kernel_rfl) (fun _ _ _ h => h) (Or.inl ⟨by rfl, ?_⟩) (by assumption) ?_
    rotate_left
    · intro w' s1; obtain ⟨s, rfl⟩ := s1; go_simp; (try with_reducible rfl)
    simp only [Act.put, List.getElem_toArray, List.getElem_cons_succ, List.getElem_cons_zero, List.setIfInBounds_toArray, List.set_cons_zero, List.set_cons_succ]
    refine wpAnyH_ready (rs := [18]) (by kernel_rfl) (by simp) ?_
    refine AllReadyH.cons rfl (fun K hK => ?_) AllReadyH.nil
    go_simp
    go_at_call 28
    refine (chkR_spec A3 k sn _ sv (row_texts (kA3.row H4.out.2.2.1 (by simp))) (by have := HZ.out.1; simp only [maxLen]; omega) (fun x hx => by have := HZ.out.2.2 x hx; simp only [maxLen]; omega)).mono ?_
    rintro e A4 ⟨rfl, kB4⟩
    have kA4 := kA3.trans kB4
    rw [HB.out]
    go_simp
    refine hK.out _ _ (keptS kA4) (fun hS => ?_)
    clear hK K
    try simp only [Act.put, List.getElem_toArray, List.getElem_cons_succ, List.getElem_cons_zero, List.setIfInBounds_toArray, List.set_cons_zero, List.set_cons_succ]
    refine wpAnyH_take (i := 19) (v := ?_) rfl (by kernel_rfl) (by kernel_rfl) (by kernel_rfl) (fun _ _ _ h => h) (Or.inl ⟨by rfl, ?_⟩) (by assumption) ?_
    rotate_left
    · intro w' s1; obtain ⟨s, rfl⟩ := s1; go_simp; (try with_reducible rfl)
    simp only [Act.put, List.getElem_toArray, List.getElem_cons_succ, List.getElem_cons_zero, List.setIfInBounds_toArray, List.set_cons_zero, List.set_cons_succ]
    refine wpAnyH_take (i := 20) (v := ?_) rfl (by kernel_rfl) (by kernel_rfl) (by kernel_rfl) (fun _ _ _ h => h) (Or.inl ⟨by rfl, ?_⟩) (by assumption) ?_
    rotate_left
    · intro w' s1; obtain ⟨s, rfl⟩ := s1; go_simp; (try with_reducible rfl)
    simp only [Act.put, List.getElem_toArray, List.getElem_cons_succ, List.getElem_cons_zero, List.setIfInBounds_toArray, List.set_cons_zero, List.set_cons_succ]
    refine wpAnyH_done (by kernel_rfl) ?_ _
    have kW8 : Keeps [] W0 A4.drew := kA4.trans (Keeps.refl [] A4).drew
    have H8 := Lib.hid (go1 kW8 H4.out)
    clear hS kA1 kA2 kA3 kA4 kB2 kB3 kB4 kW8 D0 D1 D2 E0 E1 E2 H4
    have D0 : ∀ s : Kept A4.drew, s.val.cell? ⟨p9, 0, none⟩ = some (.int .i64 k) := keptCell (cells_at H8.out.1 0)
    have D1 : ∀ s : Kept A4.drew, s.val.cell? ⟨p9, 1, none⟩ = some (.string sn) := keptCell (cells_at H8.out.1 1)
    have D2 : ∀ s : Kept A4.drew, s.val.cell? ⟨p9, 2, none⟩ = some (.slice a3 sv.length c3) := keptCell (cells_at H8.out.1 2)
    have E0 : ∀ s : Kept A4.drew, s.val.cell? ⟨p9 + 1, 0, none⟩ = some (.int .i64 k) := keptCell (cells_at H8.out.2.1 0)
    have E1 : ∀ s : Kept A4.drew, s.val.cell? ⟨p9 + 1, 1, none⟩ = some (.string sn) := keptCell (cells_at H8.out.2.1 1)
    have E2 : ∀ s : Kept A4.drew, s.val.cell? ⟨p9 + 1, 2, none⟩ = some (.slice a3 sv.length c3) := keptCell (cells_at H8.out.2.1 2)
    go_upto_region 8 with fail
    refine wp_region_held_drew (S := KeptS A4.drew) (by kernel_rfl) (keptS (Keeps.refl _ _)) (fun hS => ?_)
    generalize A4.drew = W8 at H8 D0 D1 D2 E0 E1 E2 hS ⊢
    refine wpAnyH_take (i := 0) (v := ?_) rfl (by kernel_rfl) (by kernel_rfl) (by kernel_rfl) (fun _ _ _ h => h) (Or.inl ⟨by rfl, ?_⟩) (by assumption) ?_
    rotate_left
    · intro w' s1; obtain ⟨s, rfl⟩ := s1; go_simp; (try with_reducible rfl)
    simp only [Act.put, List.getElem_toArray, List.getElem_cons_succ, List.getElem_cons_zero, List.setIfInBounds_toArray, List.set_cons_zero, List.set_cons_succ]
    refine wpAnyH_ready (rs := [1]) (by kernel_rfl) (by simp) ?_
    refine AllReadyH.cons rfl (fun K hK => ?_) AllReadyH.nil
    go_simp
    go_at_call 28
    refine (chkR_spec W8 k sn _ sv (row_texts H8.out.2.2.1) (by have := HZ.out.1; simp only [maxLen]; omega) (fun x hx => by have := HZ.out.2.2 x hx; simp only [maxLen]; omega)).mono ?_
    rintro e B1 ⟨rfl, kB1⟩
    rw [HB.out]
    go_simp
    refine hK.out _ _ (keptS kB1) (fun hS => ?_)
    clear hK K
    try simp only [Act.put, List.getElem_toArray, List.getElem_cons_succ, List.getElem_cons_zero, List.setIfInBounds_toArray, List.set_cons_zero, List.set_cons_succ]
    refine wpAnyH_take (i := 2) (v := ?_) rfl (by kernel_rfl) (by kernel_rfl) (by kernel_rfl) (fun _ _ _ h => h) (Or.inl ⟨by rfl, ?_⟩) (by assumption) ?_
    rotate_left
    · intro w' s1; obtain ⟨s, rfl⟩ := s1; go_simp; (try with_reducible rfl)
    simp only [Act.put, List.getElem_toArray, List.getElem_cons_succ, List.getElem_cons_zero, List.setIfInBounds_toArray, List.set_cons_zero, List.set_cons_succ]
    refine wpAnyH_take (i := 3) (v := ?_) rfl (by kernel_rfl) (by kernel_rfl) (by kernel_rfl) (fun _ _ _ h => h) (Or.inl ⟨by rfl, ?_⟩) (by assumption) ?_
    rotate_left
    · intro w' s1; obtain ⟨s, rfl⟩ := s1; go_simp; (try with_reducible rfl)
    simp only [Act.put, List.getElem_toArray, List.getElem_cons_succ, List.getElem_cons_zero, List.setIfInBounds_toArray, List.set_cons_zero, List.set_cons_succ]
    refine wpAnyH_take (i := 4) (v := undef) rfl (by kernel_rfl) (by kernel_rfl) (by kernel_rfl) (fun _ _ _ h => h) (Or.inr ⟨by rfl, rfl⟩) (by assumption) ?_
    simp only [Act.put, List.getElem_toArray, List.getElem_cons_succ, List.getElem_cons_zero, List.setIfInBounds_toArray, List.set_cons_zero, List.set_cons_succ]
    refine wpAnyH_take (i := 5) (v := undef) rfl (by kernel_rfl) (by kernel_rfl) (by kernel_rfl) (fun _ _ _ h => h) (Or.inr ⟨by rfl, rfl⟩) (by assumption) ?_
    simp only [Act.put, List.getElem_toArray, List.getElem_cons_succ, List.getElem_cons_zero, List.setIfInBounds_toArray, List.set_cons_zero, List.set_cons_succ]
    refine wpAnyH_take (i := 6) (v := undef) rfl (by kernel_rfl) (by kernel_rfl) (by kernel_rfl) (fun _ _ _ h => h) (Or.inr ⟨by rfl, rfl⟩) (by assumption) ?_
    simp only [Act.put, List.getElem_toArray, List.getElem_cons_succ, List.getElem_cons_zero, List.setIfInBounds_toArray, List.set_cons_zero, List.set_cons_succ]
    refine wpAnyH_take (i := 7) (v := undef) rfl (by kernel_rfl) (by kernel_rfl) (by kernel_rfl) (fun _ _ _ h => h) (Or.inr ⟨by rfl, rfl⟩) (by assumption) ?_
    simp only [Act.put, List.getElem_toArray, List.getElem_cons_succ, List.getElem_cons_zero, List.setIfInBounds_toArray, List.set_cons_zero, List.set_cons_succ]
    refine wpAnyH_take (i := 8) (v := undef) rfl (by kernel_rfl) (by kernel_rfl) (by kernel_rfl) (fun _ _ _ h => h) (Or.inr ⟨by rfl, rfl⟩) (by assumption) ?_
    simp only [Act.put, List.getElem_toArray, List.getElem_cons_succ, List.getElem_cons_zero, List.setIfInBounds_toArray, List.set_cons_zero, List.set_cons_succ]
    refine wpAnyH_take (i := 9) (v := ?_) rfl (by kernel_rfl) (by kernel_rfl) (by kernel_rfl) (fun _ _ _ h => h) (Or.inl ⟨by rfl, ?_⟩) (by assumption) ?_
    rotate_left
    · intro w' s1; obtain ⟨s, rfl⟩ := s1; go_simp; (try with_reducible rfl)
    simp only [Act.put, List.getElem_toArray, List.getElem_cons_succ, List.getElem_cons_zero, List.setIfInBounds_toArray, List.set_cons_zero, List.set_cons_succ]
    refine wpAnyH_ready (rs := [10]) (by kernel_rfl) (by simp) ?_
    refine AllReadyH.cons rfl (fun K hK => ?_) AllReadyH.nil
    go_simp
    go_simp
    refine hK.out _ _ (keptS kB1) (fun hS => ?_)
    clear hK K
    try simp only [Act.put, List.getElem_toArray, List.getElem_cons_succ, List.getElem_cons_zero, List.setIfInBounds_toArray, List.set_cons_zero, List.set_cons_succ]
    refine wpAnyH_done (by kernel_rfl) ?_ _
    have Hk := Lib.hid (H8.out.2.2.2.2.2.2.2.2.2.trans kB1)
    clear hS D0 D1 D2 E0 E1 E2
    go_wp2_with fail
    go_ret
    exact ⟨rfl, Hk.out⟩
  | true =>
    have HB := Lib.hid hcb
    clear hcb
    refine wpAnyH_ready (rs := [0]) (by kernel_rfl) (by simp) ?_
    refine AllReadyH.cons rfl (fun K hK => ?_) AllReadyH.nil
    go_simp
    go_at_call 17
    refine (awake13_spec W0 H4.out.2.2.2.2.2.2.2.1 H4.out.2.2.2.2.2.2.2.2.1).mono ?_
    rintro e A1 ⟨rfl, kA1⟩
    go_simp
    refine hK.out _ _ (keptS kA1) (fun hS => ?_)
    clear hK K
    try simp only [Act.put, List.getElem_toArray, List.getElem_cons_succ, List.getElem_cons_zero, List.setIfInBounds_toArray, List.set_cons_zero, List.set_cons_succ]
    refine wpAnyH_take (i := 1) (v := ?_) rfl (by kernel_rfl) (by kernel_rfl) (by kernel_rfl) (fun _ _ _ h => h) (Or.inl ⟨by rfl, ?_⟩) (by assumption) ?_
    rotate_left
    · intro w' s1; obtain ⟨s, rfl⟩ := s1; go_simp; (try with_reducible rfl)
    simp only [Act.put, List.getElem_toArray, List.getElem_cons_succ, List.getElem_cons_zero, List.setIfInBounds_toArray, List.set_cons_zero, List.set_cons_succ]
    refine wpAnyH_take (i := 2) (v := ?_) rfl (by kernel_rfl) (by kernel_rfl) (by kernel_rfl) (fun _ _ _ h => h) (Or.inl ⟨by rfl, ?_⟩) (by assumption) ?_
    rotate_left
    · intro w' s1; obtain ⟨s, rfl⟩ := s1; go_simp; (try with_reducible rfl)
    simp only [Act.put, List.getElem_toArray, List.getElem_cons_succ, List.getElem_cons_zero, List.setIfInBounds_toArray, List.set_cons_zero, List.set_cons_succ]
    refine wpAnyH_take (i := 3) (v := ?_) rfl (by kernel_rfl) (by kernel_rfl) (by kernel_rfl) (fun _ _ _ h => h) (Or.inl ⟨by rfl, ?_⟩) (by assumption) ?_
    rotate_left
    · intro w' s1; obtain ⟨s, rfl⟩ := s1; go_simp; (try with_reducible rfl)
    simp only [Act.put, List.getElem_toArray, List.getElem_cons_succ, List.getElem_cons_zero, List.setIfInBounds_toArray, List.set_cons_zero, List.set_cons_succ]
    refine wpAnyH_take (i := 4) (v := ?_) rfl (by kernel_rfl) (by kernel_rfl) (by kernel_rfl) (fun _ _ _ h => h) (Or.inl ⟨by rfl, ?_⟩) (by assumption) ?_
    rotate_left
    · intro w' s1; obtain ⟨s, rfl⟩ := s1; go_simp; (try with_reducible rfl)
    simp only [Act.put, List.getElem_toArray, List.getElem_cons_succ, List.getElem_cons_zero, List.setIfInBounds_toArray, List.set_cons_zero, List.set_cons_succ]
    refine wpAnyH_take (i := 5) (v := ?_) rfl (by kernel_rfl) (by kernel_rfl) (by kernel_rfl) (fun _ _ _ h => h) (Or.inl ⟨by rfl, ?_⟩) (by assumption) ?_
    rotate_left
    · intro w' s1; obtain ⟨s, rfl⟩ := s1; go_simp; (try with_reducible rfl)
    simp only [Act.put, List.getElem_toArray, List.getElem_cons_succ, List.getElem_cons_zero, List.setIfInBounds_toArray, List.set_cons_zero, List.set_cons_succ]
    refine wpAnyH_take (i := 6) (v := ?_) rfl (by kernel_rfl) (by kernel_rfl) (by kernel_rfl) (fun _ _ _ h => h) (Or.inl ⟨by rfl, ?_⟩) (by assumption) ?_
    rotate_left
    · intro w' s1; obtain ⟨s, rfl⟩ := s1; go_simp; (try with_reducible rfl)
    simp only [Act.put, List.getElem_toArray, List.getElem_cons_succ, List.getElem_cons_zero, List.setIfInBounds_toArray, List.set_cons_zero, List.set_cons_succ]
    refine wpAnyH_take (i := 7) (v := ?_) rfl (by kernel_rfl) (by kernel_rfl) (by kernel_rfl) (fun _ _ _ h => h) (Or.inl ⟨by rfl, ?_⟩) (by assumption) ?_
    rotate_left
    · intro w' s1; obtain ⟨s, rfl⟩ := s1; go_simp; (try with_reducible rfl)
    simp only [Act.put, List.getElem_toArray, List.getElem_cons_succ, List.getElem_cons_zero, List.setIfInBounds_toArray, List.set_cons_zero, List.set_cons_succ]
    refine wpAnyH_take (i := 8) (v := ?_) rfl (by kernel_rfl) (by kernel_rfl) (by kernel_rfl) (fun _ _ _ h => h) (Or.inl ⟨by rfl, ?_⟩) (by assumption) ?_
    rotate_left
    · intro w' s1; obtain ⟨s, rfl⟩ := s1; go_simp; (try with_reducible rfl)
    simp only [Act.put, List.getElem_toArray, List.getElem_cons_succ, List.getElem_cons_zero, List.setIfInBounds_toArray, List.set_cons_zero, List.set_cons_succ]
    refine wpAnyH_take (i := 9) (v := ?_) rfl (by kernel_rfl) (by kernel_rfl) (by kernel_rfl) (fun _ _ _ h => h) (Or.inl ⟨by rfl, ?_⟩) (by assumption) ?_
    rotate_left
    · intro w' s1; obtain ⟨s, rfl⟩ := s1; go_simp; (try with_reducible rfl)
    simp only [Act.put, List.getElem_toArray, List.getElem_cons_succ, List.getElem_cons_zero, List.setIfInBounds_toArray, List.set_cons_zero, List.set_cons_succ]
    refine wpAnyH_ready (rs := [10]) (by kernel_rfl) (by simp) ?_
    refine AllReadyH.cons rfl (fun K hK => ?_) AllReadyH.nil
    go_simp
    go_at_call 26
    refine (sameM_spec A1 _ _ L (H4.out.2.2.2.2.1.keep kA1) (H4.out.2.2.2.1.keep kA1)).mono ?_
    rintro e A2 ⟨rfl, kB2⟩
    have kA2 := kA1.trans kB2
    go_simp
    refine hK.out _ _ (keptS kA2) (fun hS => ?_)
    clear hK K
    try simp only [Act.put, List.getElem_toArray, List.getElem_cons_succ, List.getElem_cons_zero, List.setIfInBounds_toArray, List.set_cons_zero, List.set_cons_succ]
    refine wpAnyH_take (i := 11) (v := ?_) rfl (by kernel_rfl) (by kernel_rfl) (by kernel_rfl) (fun _ _ _ h => h) (Or.inl ⟨by rfl, ?_⟩) (by assumption) ?_
    rotate_left
    · intro w' s1; obtain ⟨s, rfl⟩ := s1; go_simp; (try with_reducible rfl)
    simp only [Act.put, List.getElem_toArray, List.getElem_cons_succ, List.getElem_cons_zero, List.setIfInBounds_toArray, List.set_cons_zero, List.set_cons_succ]
    refine wpAnyH_take (i := 12) (v := ?_) rfl (by kernel_rfl) (by kernel_rfl) (by kernel_rfl) (fun _ _ _ h => h) (Or.inl ⟨by rfl, ?_⟩) (by assumption) ?_
    rotate_left
    · intro w' s1; obtain ⟨s, rfl⟩ := s1; go_simp; (try with_reducible rfl)
    simp only [Act.put, List.getElem_toArray, List.getElem_cons_succ, List.getElem_cons_zero, List.setIfInBounds_toArray, List.set_cons_zero, List.set_cons_succ]
    refine wpAnyH_take (i := 13) (v := ?_) rfl (by kernel_rfl) (by kernel_rfl) (by kernel_rfl) (fun _ _ _ h => h) (Or.inl ⟨by rfl, ?_⟩) (by assumption) ?_
    rotate_left
    · intro w' s1; obtain ⟨s, rfl⟩ := s1; go_simp; (try with_reducible rfl)
    simp only [Act.put, List.getElem_toArray, List.getElem_cons_succ, List.getElem_cons_zero, List.setIfInBounds_toArray, List.set_cons_zero, List.set_cons_succ]
    refine wpAnyH_take (i := 14) (v := ?_) rfl (by kernel_rfl) (by kernel_rfl) (by kernel_rfl) (fun _ _ _ h => h) (Or.inl ⟨by rfl, ?_⟩) (by assumption) ?_
    rotate_left
    · intro w' s1; obtain ⟨s, rfl⟩ := s1; go_simp; (try with_reducible rfl)
    simp only [Act.put, List.getElem_toArray, List.getElem_cons_succ, List.getElem_cons_zero, List.setIfInBounds_toArray, List.set_cons_zero, List.set_cons_succ]
    refine wpAnyH_take (i := 17) (v := ?_) rfl (by kernel_rfl) (by kernel_rfl) (by kernel_rfl) (fun _ _ _ h => h) (Or.inl ⟨by rfl, ?_⟩) (by assumption) ?_
    rotate_left
    · intro w' s1; obtain ⟨s, rfl⟩ := s1; go_simp; (try with_reducible rfl)
    simp only [Act.put, List.getElem_toArray, List.getElem_cons_succ, List.getElem_cons_zero, List.setIfInBounds_toArray, List.set_cons_zero, List.set_cons_succ]
    refine wpAnyH_ready (rs := [15]) (by kernel_rfl) (by simp) ?_
    refine AllReadyH.cons rfl (fun K hK => ?_) AllReadyH.nil
    go_simp
    go_at_call 27
    refine (mcheck_spec A2 k sn _ sv (row_texts (kA2.row H4.out.2.2.1 (by simp))) (by have := HZ.out.1; omega) (fun x hx => by have := HZ.out.2.2 x hx; omega)).mono ?_
    rintro e A3 ⟨rfl, kB3⟩
    have kA3 := kA2.trans kB3
    rw [HB.out]
    go_simp
    refine hK.out _ _ (keptS kA3) (fun hS => ?_)
    clear hK K
    try simp only [Act.put, List.getElem_toArray, List.getElem_cons_succ, List.getElem_cons_zero, List.setIfInBounds_toArray, List.set_cons_zero, List.set_cons_succ]
    refine wpAnyH_take (i := 16) (v := ?_) rfl (by kernel_rfl) (by kernel_rfl) (by kernel_rfl) (fun _ _ _ h => h) (Or.inl ⟨by rfl, ?_⟩) (by assumption) ?_
    rotate_left
    · intro w' s1; obtain ⟨s, rfl⟩ := s1; go_simp; (try with_reducible rfl)
    simp only [Act.put, List.getElem_toArray, List.getElem_cons_succ, List.getElem_cons_zero, List.setIfInBounds_toArray, List.set_cons_zero, List.set_cons_succ]
    refine wpAnyH_ready (rs := [18]) (by kernel_rfl) (by simp) ?_
    refine AllReadyH.cons rfl (fun K hK => ?_) AllReadyH.nil
    go_simp
    go_at_call 28
    refine (chkR_spec A3 k sn _ sv (row_texts (kA3.row H4.out.2.2.1 (by simp))) (by have := HZ.out.1; simp only [maxLen]; omega) (fun x hx => by have := HZ.out.2.2 x hx; simp only [maxLen]; omega)).mono ?_
    rintro e A4 ⟨rfl, kB4⟩
    have kA4 := kA3.trans kB4
    rw [HB.out]
    go_simp
    refine hK.out _ _ (keptS kA4) (fun hS => ?_)
    clear hK K
    try simp only [Act.put, List.getElem_toArray, List.getElem_cons_succ, List.getElem_cons_zero, List.setIfInBounds_toArray, List.set_cons_zero, List.set_cons_succ]
    refine wpAnyH_take (i := 19) (v := ?_) rfl (by kernel_rfl) (by kernel_rfl) (by kernel_rfl) (fun _ _ _ h => h) (Or.inl ⟨by rfl, ?_⟩) (by assumption) ?_
    rotate_left
    · intro w' s1; obtain ⟨s, rfl⟩ := s1; go_simp; (try with_reducible rfl)
    simp only [Act.put, List.getElem_toArray, List.getElem_cons_succ, List.getElem_cons_zero, List.setIfInBounds_toArray, List.set_cons_zero, List.set_cons_succ]
    refine wpAnyH_take (i := 20) (v := ?_) rfl (by kernel_rfl) (by kernel_rfl) (by kernel_rfl) (fun _ _ _ h => h) (Or.inl ⟨by rfl, ?_⟩) (by assumption) ?_
    rotate_left
    · intro w' s1; obtain ⟨s, rfl⟩ := s1; go_simp; (try with_reducible rfl)
    simp only [Act.put, List.getElem_toArray, List.getElem_cons_succ, List.getElem_cons_zero, List.setIfInBounds_toArray, List.set_cons_zero, List.set_cons_succ]
    refine wpAnyH_done (by kernel_rfl) ?_ _
    have kW8 : Keeps [] W0 A4.drew := kA4.trans (Keeps.refl [] A4).drew
    have H8 := Lib.hid (go1 kW8 H4.out)
    clear hS kA1 kA2 kA3 kA4 kB2 kB3 kB4 kW8 D0 D1 D2 E0 E1 E2 H4
    have D0 : ∀ s : Kept A4.drew, s.val.cell? ⟨p9, 0, none⟩ = some (.int .i64 k) := keptCell (cells_at H8.out.1 0)
    have D1 : ∀ s : Kept A4.drew, s.val.cell? ⟨p9, 1, none⟩ = some (.string sn) := keptCell (cells_at H8.out.1 1)
    have D2 : ∀ s : Kept A4.drew, s.val.cell? ⟨p9, 2, none⟩ = some (.slice a3 sv.length c3) := keptCell (cells_at H8.out.1 2)
    have E0 : ∀ s : Kept A4.drew, s.val.cell? ⟨p9 + 1, 0, none⟩ = some (.int .i64 k) := keptCell (cells_at H8.out.2.1 0)
    have E1 : ∀ s : Kept A4.drew, s.val.cell? ⟨p9 + 1, 1, none⟩ = some (.string sn) := keptCell (cells_at H8.out.2.1 1)
    have E2 : ∀ s : Kept A4.drew, s.val.cell? ⟨p9 + 1, 2, none⟩ = some (.slice a3 sv.length c3) := keptCell (cells_at H8.out.2.1 2)
    go_upto_region 8 with fail
    refine wp_region_held_drew (S := KeptS A4.drew) (by kernel_rfl) (keptS (Keeps.refl _ _)) (fun hS => ?_)
    generalize A4.drew = W8 at H8 D0 D1 D2 E0 E1 E2 hS ⊢
    refine wpAnyH_take (i := 0) (v := ?_) rfl (by kernel_rfl) (by kernel_rfl) (by kernel_rfl) (fun _ _ _ h => h) (Or.inl ⟨by rfl, ?_⟩) (by assumption) ?_
    rotate_left
    · intro w' s1; obtain ⟨s, rfl⟩ := s1; go_simp; (try with_reducible rfl)
    simp only [Act.put, List.getElem_toArray, List.getElem_cons_succ, List.getElem_cons_zero, List.setIfInBounds_toArray, List.set_cons_zero, List.set_cons_succ]
    refine wpAnyH_ready (rs := [1]) (by kernel_rfl) (by simp) ?_
    refine AllReadyH.cons rfl (fun K hK => ?_) AllReadyH.nil
    go_simp
    go_at_call 28
    refine (chkR_spec W8 k sn _ sv (row_texts H8.out.2.2.1) (by have := HZ.out.1; simp only [maxLen]; omega) (fun x hx => by have := HZ.out.2.2 x hx; simp only [maxLen]; omega)).mono ?_
    rintro e B1 ⟨rfl, kB1⟩
    rw [HB.out]
    go_simp
    refine hK.out _ _ (keptS kB1) (fun hS => ?_)
    clear hK K
    try simp only [Act.put, List.getElem_toArray, List.getElem_cons_succ, List.getElem_cons_zero, List.setIfInBounds_toArray, List.set_cons_zero, List.set_cons_succ]
    refine wpAnyH_take (i := 2) (v := ?_) rfl (by kernel_rfl) (by kernel_rfl) (by kernel_rfl) (fun _ _ _ h => h) (Or.inl ⟨by rfl, ?_⟩) (by assumption) ?_
    rotate_left
    · intro w' s1; obtain ⟨s, rfl⟩ := s1; go_simp; (try with_reducible rfl)
    simp only [Act.put, List.getElem_toArray, List.getElem_cons_succ, List.getElem_cons_zero, List.setIfInBounds_toArray, List.set_cons_zero, List.set_cons_succ]
    refine wpAnyH_take (i := 3) (v := ?_) rfl (by kernel_rfl) (by kernel_rfl) (by kernel_rfl) (fun _ _ _ h => h) (Or.inl ⟨by rfl, ?_⟩) (by assumption) ?_
    rotate_left
    · intro w' s1; obtain ⟨s, rfl⟩ := s1; go_simp; (try with_reducible rfl)
    simp only [Act.put, List.getElem_toArray, List.getElem_cons_succ, List.getElem_cons_zero, List.setIfInBounds_toArray, List.set_cons_zero, List.set_cons_succ]
    refine wpAnyH_take (i := 4) (v := ?_) rfl (by kernel_rfl) (by kernel_rfl) (by kernel_rfl) (fun _ _ _ h => h) (Or.inl ⟨by rfl, ?_⟩) (by assumption) ?_
    rotate_left
    · intro w' s1; obtain ⟨s, rfl⟩ := s1; go_simp; (try with_reducible rfl)
    simp only [Act.put, List.getElem_toArray, List.getElem_cons_succ, List.getElem_cons_zero, List.setIfInBounds_toArray, List.set_cons_zero, List.set_cons_succ]
    refine wpAnyH_take (i := 6) (v := ?_) rfl (by kernel_rfl) (by kernel_rfl) (by kernel_rfl) (fun _ _ _ h => h) (Or.inl ⟨by rfl, ?_⟩) (by assumption) ?_
    rotate_left
    · intro w' s1; obtain ⟨s, rfl⟩ := s1; go_simp; (try with_reducible rfl)
    simp only [Act.put, List.getElem_toArray, List.getElem_cons_succ, List.getElem_cons_zero, List.setIfInBounds_toArray, List.set_cons_zero, List.set_cons_succ]
    refine wpAnyH_ready (rs := [5]) (by kernel_rfl) (by simp) ?_
    refine AllReadyH.cons rfl (fun K hK => ?_) AllReadyH.nil
    go_simp
    go_at_call 29
    refine (stringM_spec B1 (H8.out.2.2.2.2.2.2.2.1.keep kB1) B3 k sn _ sv (kB1.row H8.out.2.2.1 (by simp)) HB.out).mono ?_
    rintro e B2 ⟨rfl, kC2⟩
    have kB2 := kB1.trans kC2
    go_simp
    refine hK.out _ _ (keptS kB2) (fun hS => ?_)
    clear hK K
    try simp only [Act.put, List.getElem_toArray, List.getElem_cons_succ, List.getElem_cons_zero, List.setIfInBounds_toArray, List.set_cons_zero, List.set_cons_succ]
    refine wpAnyH_ready (rs := [7]) (by kernel_rfl) (by simp) ?_
    refine AllReadyH.cons rfl (fun K hK => ?_) AllReadyH.nil
    go_simp
    go_at_call 30
    refine (textR_spec B2 k sn _ sv (row_texts (kB2.row H8.out.2.2.1 (by simp))) HB.out).mono ?_
    rintro e B3' ⟨rfl, kC3⟩
    have kB3 := kB2.trans kC3
    go_simp
    refine hK.out _ _ (keptS kB3) (fun hS => ?_)
    clear hK K
    try simp only [Act.put, List.getElem_toArray, List.getElem_cons_succ, List.getElem_cons_zero, List.setIfInBounds_toArray, List.set_cons_zero, List.set_cons_succ]
    generalize textB (k, sn, sv) = R
    have hRR : (R.toList == R.toList) = true := by simp
    refine wpAnyH_take (i := 8) (v := ?_) rfl (by kernel_rfl) (by kernel_rfl) (by kernel_rfl) (fun _ _ _ h => h) (Or.inl ⟨by rfl, ?_⟩) (by assumption) ?_
    rotate_left
    · intro w' s1; obtain ⟨s, rfl⟩ := s1; go_simp; (try with_reducible rfl)
    simp only [Act.put, List.getElem_toArray, List.getElem_cons_succ, List.getElem_cons_zero, List.setIfInBounds_toArray, List.set_cons_zero, List.set_cons_succ]
    refine wpAnyH_take (i := 9) (v := ?_) rfl (by kernel_rfl) (by kernel_rfl) (by kernel_rfl) (fun _ _ _ h => h) (Or.inl ⟨by rfl, ?_⟩) (by assumption) ?_
    rotate_left
    · intro w' s1; obtain ⟨s, rfl⟩ := s1; go_simp; (try with_reducible rfl)
    simp only [Act.put, List.getElem_toArray, List.getElem_cons_succ, List.getElem_cons_zero, List.setIfInBounds_toArray, List.set_cons_zero, List.set_cons_succ]
    refine wpAnyH_ready (rs := [10]) (by kernel_rfl) (by simp) ?_
    refine AllReadyH.cons rfl (fun K hK => ?_) AllReadyH.nil
    go_simp
    go_simp
    refine hK.out _ _ (keptS kB3) (fun hS => ?_)
    clear hK K
    try simp only [Act.put, List.getElem_toArray, List.getElem_cons_succ, List.getElem_cons_zero, List.setIfInBounds_toArray, List.set_cons_zero, List.set_cons_succ]
    refine wpAnyH_done (by kernel_rfl) ?_ _
    have Hk := Lib.hid (H8.out.2.2.2.2.2.2.2.2.2.trans kB3)
    clear hS D0 D1 D2 E0 E1 E2
    go_wp2_with fail
    go_ret
    exact ⟨rfl, Hk.out⟩

theorem reads_law (w : World) (hv : LibVar w) (hsg : SignsAt w) (s : ByteArray) (_hs : s.size ≤ maxLen) (v : Value) (h : MatArg w v) :
    Calls Tryd.prog 6 #[.string s, v] w fun e w' => e = .returned (.bool true) ∧ Keeps [] w w' := by
  obtain ⟨k, n, u, V, rfl, hV⟩ := h
  exact reads_walk w hv hsg s k n u V hV
end Go.Proofs.YtjgaidojohgenaaDoor
