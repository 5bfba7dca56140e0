/-
  Package posting: Drop of the one series of an index: it is empty again, walked.
  No condition beyond those that each theorem states.
-/
import Derived.Test.YtlifonflgcfafaaGreatDoorPostAddS
namespace Go.Proofs.YtlifonflgcfafaaGreatDoor
open Go Go.RowKit

theorem run_lenD {P : Program} {w : World} {b : Nat} {m : KV} {t k e : TypeId} (h : MapAt w b m) (ht : P.underlying t = some (.map k e)) (ty : TypeId) : (Builtin.len_ #[t] ty #[.map (some b)]).run P w = .ok (.int .i64 m.length) w := by
  obtain ⟨E, c, h1, h2, rfl⟩ := h
  simp [Builtin.len_, run_underlying ht, MapKept.run_getObj_map h1, goInt, Result.andThen, pairs]

theorem step_delete_str {P : Program} {ops : Array Oper} {o : Oper} {a : Act} {w : World} {K : Act → World → Prop} {Q : Exit → Act → World → Prop} {E : Prop}
    (hg : o.guard = none) (m x : Operand) (t kt et : TypeId) (hop : o.op = Op.call { callee := Callee.builtin Builtin.delete, args := #[m, x], argTypes := #[t, kt] }) (ht : P.underlying t = some (.map kt et)) (hk : P.underlying kt = some .string)
    (b : Nat) (M : KV) (key : ByteArray) (hm : a.eval m = .map (some b)) (hx : a.eval x = .string key) (h : MapAt w b M)
    (hK : ∀ w', MapAt w' b (del M key) → Keeps [b] w w' → K (a.put o.dst (.tuple #[])) w') : if Region.wanted o (yielded ops a.tmps) = true then Oper.wp P o a w K Q else E := by
  have hw : Region.wanted o (yielded ops a.tmps) = true := by simp [Region.wanted, hg]
  rw [if_pos hw]
  obtain ⟨ob, hrun, r1⟩ := h.run_delete ht hk key o.type
  unfold Oper.wp
  simp [execOp, hop, resolve, invoke, builtin, hm, hx, hrun, Result.andThen]
  exact hK _ r1 (keeps_setIf ob)

def DropPost (B x mb : Nat) (w0 : World) (e : Ending) (w' : World) : Prop :=
  ∃ ao c, e = .returned (.tuple #[]) ∧ IxAt w' x mb (.slice ao 0 c) ∧ MapAt w' mb [] ∧ Own B w' (.slice ao 0 c) [] ∧ Keeps [] w0 w'

def DropRel (B : Nat) (w0 : World) (x mb : Nat) (n : Int) (va vs : Value) (P : List PairB) (lo hi gk : Nat) (u21 : Value) (wr : World) : Prop :=
  ∃ i li ents, i ≤ P.length ∧ gk = P.length - i ∧ u21 = .int .i64 i ∧ lo ≤ li ∧ ents.map EntI.nv = P.drop i ∧ IxAt wr x mb va ∧ MapAt wr mb (ents.map EntI.kv) ∧ Own B wr va [] ∧ wr.ownsRow 0 138 2 vs P.length (P.flatMap encPB) ∧ EntsAt wr n li hi ents ∧ hi ≤ wr.heap.size ∧ Keeps [] w0 wr

theorem remL_one (n : Int) : remL [n] n = [] := by simp [remL]

set_option linter.unusedSimpArgs false in
set_option maxRecDepth 100000 in
set_option maxHeartbeats 1000000 in
theorem dropS_spec (B : Nat) (w0 w : World) (x mb : Nat) (n : Int) (va : Value) (lo : Nat) (ents : List EntI) (v : Value) (P : List PairB) (k0 : Keeps [] w0 w) (hB1 : B ≤ w0.heap.size) (hB2 : w0.heap.size ≤ B) (hx0 : B ≤ x) (hm0 : B ≤ mb) (hix : IxS w x mb n va lo ents) (ho : Own B w va [n]) (hnv : ents.map EntI.nv = P) (hs : w.ownsRow 0 138 2 v P.length (P.flatMap encPB)) (hl : P.length ≤ 1000) :
    Calls Tryz.prog 40 #[.pointer (some ⟨x, 0, none⟩), .int .i64 n, v] w (DropPost B x mb w0) := by
  obtain ⟨hx, hm, hen, hxl, hml, hval⟩ := hix
  have hxm : x ≠ mb := hm.ne hx
  have c0 := cells_at hx
  have l0 := lt_of_at hx
  have hox : ∀ g, va.ownBlock = some g → g ≠ x := row_ne_cells ho hx (by decide)
  have hom : ∀ g, va.ownBlock = some g → g ≠ mb := row_ne_map ho hm
  have hos : ∀ g, v.ownBlock = some g → g ∉ va.ownBlock.toList := rows_ne2 ho hs (by decide)
  have hsx : ∀ g, v.ownBlock = some g → g ≠ x := row_ne_cells hs hx (by decide)
  have hob : ∀ g, va.ownBlock = some g → B ≤ g := fun g hg => (World.ownsRow.lt ho g hg).1
  have H0 := Lib.hid (And.intro (And.intro hx (And.intro hm (And.intro hs hen))) (And.intro (And.intro hox hom) (And.intro hos (And.intro hsx (And.intro hval (And.intro hob (And.intro hnv k0)))))))
  have Hrem := Lib.hid (remove_spec B w va [n] n ho (List.pairwise_singleton _ _) (by simp))
  obtain ⟨a0, cp0, rfl, -, -, -⟩ := row_slice ho
  obtain ⟨vs, vc, rfl, -, -, -⟩ := row_slice hs
  have hle0 := hen.le
  clear hx hm ho hs hox hom hos hsx hob hen hval hnv k0
  go_enter Tryz.func40, Tryz.ntmps40
  go_wp2_with fail
  refine Hrem.out.mono ?_
  rintro e w1 ⟨v1, rfl, hown1, ht1⟩
  rw [remL_one] at hown1
  obtain ⟨a1, cp1, rfl, -, -, -⟩ := row_slice hown1
  have H1 := Lib.hid (And.intro (ht1.box H0.out.1.1 H0.out.2.1.1) (And.intro (H0.out.1.2.1.keep ht1.keeps (fun hm => H0.out.2.1.2 mb (by simpa using hm) rfl)) (And.intro (ht1.keeps.row H0.out.1.2.2.1 H0.out.2.2.1) (And.intro hown1 (And.intro ht1 (H0.out.1.2.2.2.keep ht1.keeps (fun y hy => .inl (H0.out.2.2.2.2.1 y (by simpa using hy)))))))))
  have hsz1 := ht1.keeps.size
  clear hown1 ht1 c0 l0 Hrem
  have c1 := cells_at H1.out.1.1
  have f1 := free_at H1.out.1.1
  have l1 := lt_of_at H1.out.1.1
  go_wp2_with fail
  clear c1 f1 l1
  have k12 : Keeps [x] w1 (w1.setCell ⟨x, 1, none⟩ (.slice a1 0 cp1)) := (Keeps.refl _ w1).setCell (.inl (by simp)) _
  have hx2 : IxAt (w1.setCell ⟨x, 1, none⟩ (.slice a1 0 cp1)) x mb (.slice a1 0 cp1) := (heap_cell_same (i := 1) H1.out.1.1 _).trans (by simp)
  have hva2 : ∀ g, (Value.slice a1 0 cp1).ownBlock = some g → g < lo ∨ w.heap.size ≤ g := fun g hg => by
    rcases H1.out.2.2.2.2.1.own g hg with h | h
    · exact .inl (H0.out.2.2.2.2.1 g h)
    · exact .inr h
  have k02 : Keeps [] w0 (w1.setCell ⟨x, 1, none⟩ (.slice a1 0 cp1)) := (H0.out.2.2.2.2.2.2.2.after H1.out.2.2.2.2.1.keeps (fun y hy => .inr (by
    have := H0.out.2.2.2.2.2.1 y (by simpa using hy)
    omega))).after k12 (fun y hy => .inr (by
    obtain rfl : y = x := by simpa using hy
    omega))
  have H2 := Lib.hid (And.intro hx2 (And.intro (H1.out.2.1.keep k12 (by simpa using fun e => hxm e.symm)) (And.intro (k12.row H1.out.2.2.1 (fun g hg => by simpa using H0.out.2.2.2.1 g hg)) (And.intro (k12.row H1.out.2.2.2.1 (fun g hg => by simpa using H1.out.1.2 g hg)) (And.intro (H1.out.2.2.2.2.2.keep k12 (fun y hy => .inl (by
    obtain rfl : y = x := by simpa using hy
    exact hxl))) (And.intro k02 (And.intro hva2 H0.out.2.2.2.2.2.2.1)))))))
  have hsz2 := k12.size
  clear k12 hx2 H1 H0 hva2 k02
  generalize w1.setCell ⟨x, 1, none⟩ (.slice a1 0 cp1) = w2 at H2 hsz2 ⊢
  obtain ⟨hi, hhi⟩ : ∃ hi, hi = w.heap.size := ⟨_, rfl⟩
  rw [← hhi] at H2 hsz1 hle0
  clear hhi
  go_loopg [21] P.length (DropRel B w0 x mb n (.slice a1 0 cp1) (.slice vs P.length vc) P lo hi)
  case atStart => exact ⟨0, lo, ents, Nat.zero_le _, rfl, rfl, Nat.le_refl _, H2.out.2.2.2.2.2.2.2, H2.out.1, H2.out.2.1, H2.out.2.2.2.1, H2.out.2.2.1, H2.out.2.2.2.2.1, Nat.le_trans hsz1 hsz2, H2.out.2.2.2.2.2.1⟩
  case round =>
    obtain ⟨i, li, ents, hi', hgk, rfl, hli, hnv, hxr, hmb, hor, hvr, hen, hhr, hkw⟩ := hrel
    have Hg := Lib.hid hgk
    clear hgk
    have Hva := Lib.hid H2.out.2.2.2.2.2.2.1
    clear H2
    by_cases hlt : i < P.length
    · have hSA : SliceArg 2 encPB wr (.slice vs P.length vc) P := (sliceFrom_row (enc := encPB) (fun _ => rfl) hvr).arg
      obtain ⟨b, off, cap', ea, hbW, d0, d1⟩ := pair_at hSA i hlt
      injection ea with ea _ ec
      subst ea ec
      have hlt' : (i : Int) < (P.length : Int) := by omega
      rw [List.drop_eq_getElem_cons hlt] at hnv
      match ents, hnv with
      | ⟨p1, p2, ib, vr⟩ :: r, hnv =>
      rw [List.map_cons] at hnv
      injection hnv with hp hnv
      rw [← hp] at d0 d1
      have Hn := Lib.hid hnv
      clear hp hnv hSA
      change wr.cell? _ = some (.string p1) at d0
      change wr.cell? _ = some (.string p2) at d1
      obtain ⟨mid, m1, m2, hmI, hoI, hoh, hen⟩ := hen
      change li ≤ ib at m1
      change ib < mid at m2
      change MapAt wr ib [(p2, vr)] at hmI
      change Own (ib + 1) wr vr [n] at hoI
      change ∀ g, vr.ownBlock = some g → g < mid at hoh
      change MapAt wr mb ((p1, .map (some ib)) :: r.map EntI.kv) at hmb
      have hmh := hen.le
      have kp : Keeps [] wr (wr.alloc (.cells #[.string p1, .string p2] 138)) := (Keeps.refl [] wr).alloc _
      obtain ⟨W0, hW0⟩ : ∃ W0, W0 = (wr.alloc (.cells #[.string p1, .string p2] 138)).drew := ⟨_, rfl⟩
      have kW : Keeps [] wr W0 := by rw [hW0]; exact kp.drew
      have hpc : W0.heap[wr.heap.size]? = some (.cells #[.string p1, .string p2] 138 (0, 0)) := by rw [hW0]; exact heap_new wr _
      have H3 := Lib.hid (And.intro (go1 kW hxr) (And.intro (go1 kW hmb) (And.intro (go1 kW hor) (And.intro hpc (And.intro (go1 kW hen) (And.intro (go1 kW hvr) (And.intro (go1 kW hmI) (And.intro (go1 kW hoI) (And.intro hoh (hkw.trans (kW.mono (by simp))))))))))))
      have HW := Lib.hid hW0
      have hWs : wr.heap.size < W0.heap.size := lt_of_at hpc
      clear kp kW hpc hW0 hxr hmb hor hen hkw hvr hmI hoI hoh
      go_upto_region 4 with fail
      clear d0 d1 hbW
      have F0 : ∀ s : Kept W0, s.val.cell? ⟨x, 0, none⟩ = some (.map (some mb)) := keptCell (by rw [cells_at H3.out.1]; rfl)
      have F1 : ∀ s : Kept W0, s.val.cell? ⟨wr.heap.size, 0, none⟩ = some (.string p1) := keptCell (by rw [cells_at H3.out.2.2.2.1]; rfl)
      have F2 : ∀ s : Kept W0, (Instr.lookup 129 (.map (some mb)) (.string p1) false).run Tryz.prog s.val = .ok (.map (some ib)) s.val := fun s => by
        have := (go1 s.property H3.out.2.1).run_lookup (P := Tryz.prog) Tryz.underlying129 Tryz.underlying9 (zeroInner _) p1 false
        rwa [show lookVal ((p1, Value.map (some ib)) :: r.map EntI.kv) p1 (.map none) false = .map (some ib) from by simp [lookVal, look]] at this
      have L0 : ∀ s : Kept W0, x < s.val.heap.size := fun s => s.property.lt (lt_of_at H3.out.1)
      refine wp_region_held_drew (S := KeptS W0) (by kernel_rfl) (by rw [← HW.out]; exact keptS (Keeps.refl _ _)) (fun hS => ?_)
      rw [← HW.out] at hS ⊢
      clear HW
      refine wpAnyH_take (i := 0) (v := ?_) rfl (by kernel_rfl) (by kernel_rfl) (by kernel_rfl) (fun _ _ _ h => h) (Or.inl ⟨by rfl, ?_⟩) (by assumption) ?_
      rotate_left
      · intro w' s1; obtain ⟨s, rfl⟩ := s1; go_simp; (try with_reducible rfl)
      simp only [Act.put, List.getElem_toArray, List.getElem_cons_succ, List.getElem_cons_zero, List.setIfInBounds_toArray, List.set_cons_zero, List.set_cons_succ]
      refine wpAnyH_take (i := 1) (v := ?_) rfl (by kernel_rfl) (by kernel_rfl) (by kernel_rfl) (fun _ _ _ h => h) (Or.inl ⟨by rfl, ?_⟩) (by assumption) ?_
      rotate_left
      · intro w' s1; obtain ⟨s, rfl⟩ := s1; go_simp; (try with_reducible rfl)
      simp only [Act.put, List.getElem_toArray, List.getElem_cons_succ, List.getElem_cons_zero, List.setIfInBounds_toArray, List.set_cons_zero, List.set_cons_succ]
      refine wpAnyH_take (i := 2) (v := ?_) rfl (by kernel_rfl) (by kernel_rfl) (by kernel_rfl) (fun _ _ _ h => h) (Or.inl ⟨by rfl, ?_⟩) (by assumption) ?_
      rotate_left
      · intro w' s1; obtain ⟨s, rfl⟩ := s1; go_simp; (try with_reducible rfl)
      simp only [Act.put, List.getElem_toArray, List.getElem_cons_succ, List.getElem_cons_zero, List.setIfInBounds_toArray, List.set_cons_zero, List.set_cons_succ]
      refine wpAnyH_take (i := 3) (v := ?_) rfl (by kernel_rfl) (by kernel_rfl) (by kernel_rfl) (fun _ _ _ h => h) (Or.inl ⟨by rfl, ?_⟩) (by assumption) ?_
      rotate_left
      · intro w' s1; obtain ⟨s, rfl⟩ := s1; go_simp; (try with_reducible rfl)
      simp only [Act.put, List.getElem_toArray, List.getElem_cons_succ, List.getElem_cons_zero, List.setIfInBounds_toArray, List.set_cons_zero, List.set_cons_succ]
      refine wpAnyH_take (i := 4) (v := ?_) rfl (by kernel_rfl) (by kernel_rfl) (by kernel_rfl) (fun _ _ _ h => h) (Or.inl ⟨by rfl, ?_⟩) (by assumption) ?_
      rotate_left
      · intro w' s1; obtain ⟨s, rfl⟩ := s1; go_simp; (try with_reducible rfl)
      simp only [Act.put, List.getElem_toArray, List.getElem_cons_succ, List.getElem_cons_zero, List.setIfInBounds_toArray, List.set_cons_zero, List.set_cons_succ]
      refine wpAnyH_take (i := 5) (v := ?_) rfl (by kernel_rfl) (by kernel_rfl) (by kernel_rfl) (fun _ _ _ h => h) (Or.inl ⟨by rfl, ?_⟩) (by assumption) ?_
      rotate_left
      · intro w' s1; obtain ⟨s, rfl⟩ := s1; go_simp; (try with_reducible rfl)
      simp only [Act.put, List.getElem_toArray, List.getElem_cons_succ, List.getElem_cons_zero, List.setIfInBounds_toArray, List.set_cons_zero, List.set_cons_succ]
      refine wpAnyH_take (i := 6) (v := ?_) rfl (by kernel_rfl) (by kernel_rfl) (by kernel_rfl) (fun _ _ _ h => h) (Or.inl ⟨by rfl, ?_⟩) (by assumption) ?_
      rotate_left
      · intro w' s1; obtain ⟨s, rfl⟩ := s1; go_simp; (try with_reducible rfl)
      simp only [Act.put, List.getElem_toArray, List.getElem_cons_succ, List.getElem_cons_zero, List.setIfInBounds_toArray, List.set_cons_zero, List.set_cons_succ]
      refine wpAnyH_ready (rs := [7]) (by kernel_rfl) (by simp) ?_
      refine AllReadyH.cons rfl (fun K hK => ?_) AllReadyH.nil
      go_simp
      go_simp
      refine hK.out _ _ (keptS (Keeps.refl _ _)) (fun hS => ?_)
      clear hK K
      try simp only [Act.put, List.getElem_toArray, List.getElem_cons_succ, List.getElem_cons_zero, List.setIfInBounds_toArray, List.set_cons_zero, List.set_cons_succ]
      refine wpAnyH_done (by kernel_rfl) ?_ _
      clear F0 F1 F2 L0 hS
      generalize wr.heap.size = pb at H3 hWs hhr ⊢
      have F2 := H3.out.2.2.2.2.2.2.1.run_lookup (P := Tryz.prog) Tryz.underlying159 Tryz.underlying9 (zeroList W0) p2 false
      rw [show lookVal [(p2, vr)] p2 (.slice none 0 0) false = vr from by simp [lookVal, look]] at F2
      have q1 : W0.cell? ⟨pb, 1, none⟩ = some (.string p2) := by rw [cells_at H3.out.2.2.2.1]; rfl
      have q2 := lt_of_at H3.out.2.2.2.1
      obtain ⟨a3, c3, rfl, -, -, -⟩ := row_slice H3.out.2.2.2.2.2.2.2.1
      have Hrem := Lib.hid (remove_spec (ib + 1) W0 (.slice a3 1 c3) [n] n H3.out.2.2.2.2.2.2.2.1 (List.pairwise_singleton _ _) (by simp))
      go_wp2_with fail
      refine Hrem.out.mono ?_
      rintro e w5 ⟨v5, rfl, hown5, ht5⟩
      rw [remL_one] at hown5
      obtain ⟨a5, c5, rfl, -, -, -⟩ := row_slice hown5
      clear F2 q1 q2 Hrem
      have hg5 : ∀ y ∈ (Value.slice a3 1 c3).ownBlock.toList, ib + 1 ≤ y ∧ y < mid := fun y hy => ⟨(World.ownsRow.lt H3.out.2.2.2.2.2.2.2.1 y (by simpa using hy)).1, H3.out.2.2.2.2.2.2.2.2.1 y (by simpa using hy)⟩
      have k5 := ht5.keeps
      have H5 := Lib.hid (And.intro (show IxAt w5 x mb (.slice a1 0 cp1) from k5.at_ H3.out.1 (fun hm => by have := hg5 _ hm; omega)) (And.intro (H3.out.2.1.keep k5 (fun hm => by have := hg5 _ hm; omega)) (And.intro (k5.row H3.out.2.2.1 (fun g hg hm => by
          have h1 := hg5 _ hm
          rcases Hva.out g hg with h2 | h2
          · omega
          · omega)) (And.intro (k5.at_ H3.out.2.2.2.1 (fun hm => by have := hg5 _ hm; omega)) (And.intro (H3.out.2.2.2.2.1.keep k5 (fun y hy => .inl (hg5 y hy).2)) (And.intro (k5.row H3.out.2.2.2.2.2.1 (rows_ne2 H3.out.2.2.2.2.2.2.2.1 H3.out.2.2.2.2.2.1 (by decide))) (And.intro (H3.out.2.2.2.2.2.2.1.keep k5 (fun hm => by have := hg5 _ hm; omega)) (H3.out.2.2.2.2.2.2.2.2.2.after k5 (fun y hy => .inr (by have := hg5 y hy; omega))))))))))
      have hz5 := k5.size
      clear k5 ht5 hg5 H3 hown5
      have q1 : w5.cell? ⟨pb, 1, none⟩ = some (.string p2) := by rw [cells_at H5.out.2.2.2.1]; rfl
      have q2 := lt_of_at H5.out.2.2.2.1
      go_upto_region 9 with (refine wpList_delete_str _ rfl (.tmp 45) (.tmp 47) _ _ 104 rfl Tryz.underlying159 Tryz.underlying9 ib [(p2, .slice a3 1 c3)] p2 (by rfl) (by rfl) H5.out.2.2.2.2.2.2.1 ?_; intro w6 hm6 hk6; rw [show del [(p2, Value.slice a3 1 c3)] p2 = [] from by simp [del]] at hm6)
      have q6 := run_lenD (P := Tryz.prog) hm6 Tryz.underlying159 3
      have H6 := Lib.hid (And.intro (show IxAt w6 x mb (.slice a1 0 cp1) from hk6.at_ H5.out.1 (fun hm => by
          obtain rfl : x = ib := by simpa using hm
          omega)) (And.intro (H5.out.2.1.keep hk6 (fun hm => by
          obtain rfl : mb = ib := by simpa using hm
          omega)) (And.intro (hk6.row H5.out.2.2.1 (fun g hg => by have := row_ne_map H5.out.2.2.1 H5.out.2.2.2.2.2.2.1 g hg; simpa using this)) (And.intro (hk6.at_ H5.out.2.2.2.1 (by simpa using H5.out.2.2.2.2.2.2.1.ne H5.out.2.2.2.1)) (And.intro (H5.out.2.2.2.2.1.keep hk6 (fun y hy => .inl (by
          obtain rfl : y = ib := by simpa using hy
          exact m2))) (And.intro (hk6.row H5.out.2.2.2.2.2.1 (fun g hg => by have := row_ne_map H5.out.2.2.2.2.2.1 H5.out.2.2.2.2.2.2.1 g hg; simpa using this)) (H5.out.2.2.2.2.2.2.2.after hk6 (fun y hy => .inr (by
          obtain rfl : y = ib := by simpa using hy
          omega)))))))))
      have hz6 := hk6.size
      clear hk6 H5 q1 q2 hm6
      obtain ⟨W7, hW7⟩ : ∃ W7, W7 = w6.drew := ⟨_, rfl⟩
      have k7 : Keeps [] w6 W7 := by rw [hW7]; exact (Keeps.refl [] w6).drew
      have H7 := Lib.hid (go1 k7 H6.out)
      have HW := Lib.hid hW7
      have hz7 := k7.size
      clear hW7 k7 H6
      go_upto_region 10 with fail
      clear q6
      have s1 : W7.cell? ⟨x, 0, none⟩ = some (.map (some mb)) := by rw [cells_at H7.out.1]; rfl
      have s2 : W7.cell? ⟨pb, 0, none⟩ = some (.string p1) := by rw [cells_at H7.out.2.2.2.1]; rfl
      have s3 : x < W7.heap.size := lt_of_at H7.out.1
      refine wp_region_held_drew (S := fun w' => w'.cell? ⟨x, 0, none⟩ = some (.map (some mb)) ∧ w'.cell? ⟨pb, 0, none⟩ = some (.string p1) ∧ x < w'.heap.size) (by kernel_rfl) (by rw [← HW.out]; exact ⟨s1, s2, s3⟩) (fun hS => ?_)
      rw [← HW.out] at hS ⊢
      clear HW
      have HS := Lib.hid (And.intro s1 (And.intro s2 s3))
      clear s1 s2 s3
      refine wpAnyH_take (i := 0) (v := ?_) rfl (by kernel_rfl) (by kernel_rfl) (by kernel_rfl) (fun _ _ _ h => h) (Or.inl ⟨by rfl, ?_⟩) (by assumption) ?_
      rotate_left
      · intro w' hSw; obtain ⟨s1, s2, s3⟩ := hSw; go_simp; (try with_reducible rfl)
      simp only [Act.put, List.getElem_toArray, List.getElem_cons_succ, List.getElem_cons_zero, List.setIfInBounds_toArray, List.set_cons_zero, List.set_cons_succ]
      refine wpAnyH_take (i := 1) (v := ?_) rfl (by kernel_rfl) (by kernel_rfl) (by kernel_rfl) (fun _ _ _ h => h) (Or.inl ⟨by rfl, ?_⟩) (by assumption) ?_
      rotate_left
      · intro w' hSw; obtain ⟨s1, s2, s3⟩ := hSw; go_simp; (try with_reducible rfl)
      simp only [Act.put, List.getElem_toArray, List.getElem_cons_succ, List.getElem_cons_zero, List.setIfInBounds_toArray, List.set_cons_zero, List.set_cons_succ]
      refine wpAnyH_take (i := 2) (v := ?_) rfl (by kernel_rfl) (by kernel_rfl) (by kernel_rfl) (fun _ _ _ h => h) (Or.inl ⟨by rfl, ?_⟩) (by assumption) ?_
      rotate_left
      · intro w' hSw; obtain ⟨s1, s2, s3⟩ := hSw; go_simp; (try with_reducible rfl)
      simp only [Act.put, List.getElem_toArray, List.getElem_cons_succ, List.getElem_cons_zero, List.setIfInBounds_toArray, List.set_cons_zero, List.set_cons_succ]
      refine wpAnyH_take (i := 3) (v := ?_) rfl (by kernel_rfl) (by kernel_rfl) (by kernel_rfl) (fun _ _ _ h => h) (Or.inl ⟨by rfl, ?_⟩) (by assumption) ?_
      rotate_left
      · intro w' hSw; obtain ⟨s1, s2, s3⟩ := hSw; go_simp; (try with_reducible rfl)
      simp only [Act.put, List.getElem_toArray, List.getElem_cons_succ, List.getElem_cons_zero, List.setIfInBounds_toArray, List.set_cons_zero, List.set_cons_succ]
      refine wpAnyH_take (i := 4) (v := ?_) rfl (by kernel_rfl) (by kernel_rfl) (by kernel_rfl) (fun _ _ _ h => h) (Or.inl ⟨by rfl, ?_⟩) (by assumption) ?_
      rotate_left
      · intro w' hSw; obtain ⟨s1, s2, s3⟩ := hSw; go_simp; (try with_reducible rfl)
      simp only [Act.put, List.getElem_toArray, List.getElem_cons_succ, List.getElem_cons_zero, List.setIfInBounds_toArray, List.set_cons_zero, List.set_cons_succ]
      refine wpAnyH_take (i := 5) (v := ?_) rfl (by kernel_rfl) (by kernel_rfl) (by kernel_rfl) (fun _ _ _ h => h) (Or.inl ⟨by rfl, ?_⟩) (by assumption) ?_
      rotate_left
      · intro w' hSw; obtain ⟨s1, s2, s3⟩ := hSw; go_simp; (try with_reducible rfl)
      simp only [Act.put, List.getElem_toArray, List.getElem_cons_succ, List.getElem_cons_zero, List.setIfInBounds_toArray, List.set_cons_zero, List.set_cons_succ]
      refine wpAnyH_ready (rs := [6]) (by kernel_rfl) (by simp) ?_
      refine AllReadyH.cons rfl (fun K hK => ?_) AllReadyH.nil
      refine step_delete_str rfl (.tmp 54) (.tmp 56) _ _ _ rfl Tryz.underlying129 Tryz.underlying9 mb ((p1, .map (some ib)) :: r.map EntI.kv) p1 rfl rfl H7.out.2.1 ?_
      intro w8 hm8 hk8
      refine hK.out _ _ ⟨(hk8.cell (lt_of_at H7.out.1) (by simpa using hxm)).trans HS.out.1, (hk8.cell (lt_of_at H7.out.2.2.2.1) (by simpa using H7.out.2.1.ne H7.out.2.2.2.1)).trans HS.out.2.1, hk8.lt HS.out.2.2⟩ (fun hS => ?_)
      clear hK K
      try simp only [Act.put, List.getElem_toArray, List.getElem_cons_succ, List.getElem_cons_zero, List.setIfInBounds_toArray, List.set_cons_zero, List.set_cons_succ]
      refine wpAnyH_done (by kernel_rfl) ?_ _
      clear hS HS
      rw [show del ((p1, Value.map (some ib)) :: r.map EntI.kv) p1 = r.map EntI.kv from by simp [del]] at hm8
      have hz8 := hk8.size
      have H8 := Lib.hid (And.intro (show IxAt w8 x mb (.slice a1 0 cp1) from hk8.at_ H7.out.1 (by simpa using hxm)) (And.intro hm8 (And.intro (hk8.row H7.out.2.2.1 (fun g hg => by have := row_ne_map H7.out.2.2.1 H7.out.2.1 g hg; simpa using this)) (And.intro (hk8.row H7.out.2.2.2.2.2.1 (fun g hg => by have := row_ne_map H7.out.2.2.2.2.2.1 H7.out.2.1 g hg; simpa using this)) (And.intro (H7.out.2.2.2.2.1.keep hk8 (fun y hy => .inl (by
          obtain rfl : y = mb := by simpa using hy
          omega))) (H7.out.2.2.2.2.2.2.after hk8 (fun y hy => .inr (by
          obtain rfl : y = mb := by simpa using hy
          omega))))))))
      clear hm8 hk8 H7
      go_wp2_with fail
      go_roundg (P.length - (i + 1))
      case measure => have := Hg.out; omega
      case rel => exact ⟨i + 1, mid, r, hlt, rfl, by go_num, by omega, Hn.out, H8.out.1, H8.out.2.1, H8.out.2.2.1, H8.out.2.2.2.1, H8.out.2.2.2.2.1, by omega, H8.out.2.2.2.2.2⟩
    · have hkn : i = P.length := by omega
      have hlt' : ¬ (i : Int) < (P.length : Int) := by omega
      have hnil : ents = [] := by
        rw [hkn, List.drop_length] at hnv
        exact List.map_eq_nil_iff.1 hnv
      rw [hnil] at hmb
      have Hr := Lib.hid (And.intro hxr (And.intro (show MapAt wr mb [] from hmb) (And.intro hor hkw)))
      clear hxr hmb hor hen hkw hvr hnv hnil hkn Hva
      go_wp2_with fail
      go_end0
      exact ⟨_, _, rfl, Hr.out.1, Hr.out.2.1, Hr.out.2.2.1, Hr.out.2.2.2⟩
end Go.Proofs.YtlifonflgcfafaaGreatDoor
