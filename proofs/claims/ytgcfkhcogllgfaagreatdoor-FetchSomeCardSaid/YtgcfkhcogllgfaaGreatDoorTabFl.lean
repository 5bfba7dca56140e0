/-
  merge.Tables' flush, walked: the last row gets the samples of its parts.
  The parts are not empty, and are of few samples.

  Two tables merged, in plain words: the groups of rows of one label, and how they are met one by one.
  The tables' rows rise.

  The queue of merge.Tables at two tables: how Init, Pop and Push turn it.
  The tables' labels are of few pairs.

  What is taken off the queue of merge.Tables at two tables, and what that opens; the flush with a row open or none.
  The tables' rows rise.

  merge.Tables at two tables, walked: it hands back what the groups of the two say.
  The tables' rows rise; they are of few rows, these of few pairs and samples, of one at least.
-/
import Derived.Test.YtgcfkhcogllgfaaGreatDoorSymL
import Derived.Test.YtgcfkhcogllgfaaGreatDoorLabCmpG
namespace Go.Proofs.YtgcfkhcogllgfaaGreatDoor
set_option maxRecDepth 100000
set_option maxHeartbeats 8000000
set_option linter.unusedSimpArgs false
open Go Go.RowKit
theorem ElemsAt.pt2 {w w' : World} {p : Nat} {cs : Array Value} {T0 : TypeId} {E : List RowV} {A : TabT} (h : ElemsAt 91 w E A) (hp : w.heap[p]? = some (.cells cs T0 (0, 0))) (h2 : T0 ≠ 91) (h3 : T0 ≠ 50) (K : Keeps [p] w w') : ElemsAt 91 w' E A :=
 ⟨h.1, fun i hi hi' => ⟨K.row (h.2 i hi hi').1 (fun g hg hm => row_ne_cells (h.2 i hi hi').1 hp h2 g hg (by simpa using hm)), K.row (h.2 i hi hi').2 (fun g hg hm => row_ne_cells (h.2 i hi hi').2 hp h3 g hg (by simpa using hm))⟩⟩
theorem rv_len (E : List RowV) : (E.flatMap encRV).length = E.length * 2 := by
 induction E with
 | nil => rfl
 | cons c E ih =>
  rw [List.flatMap_cons, List.length_append, ih, List.length_cons]
  show 2 + _ = _
  omega
theorem row_last {w : World} {B g cp : Nat} {E : List RowV} {ul v3 : Value} (v' : Value) (h : w.ownsRow B 76 2 (.slice (some ⟨g, 0, none⟩) (E.length + 1) cp) (E.length + 1) (E.flatMap encRV ++ [ul, v3])) : (w.setCell ⟨g, E.length * 2 + 1, none⟩ v').ownsRow B 76 2 (.slice (some ⟨g, 0, none⟩) (E.length + 1) cp) (E.length + 1) (E.flatMap encRV ++ [ul, v']) := by
 obtain ⟨hxl, ⟨e, -⟩ | ⟨g', cp', cur, e, hb, hg, h1, h2, h3, h4⟩⟩ := h
 ·cases e
 ·injection e with e1 _ e3
  injection e1 with e1
  injection e1 with e1 _ _
  subst e1 e3
  refine ⟨by simpa using hxl, .inr ⟨g, cp, _, rfl, hb, heap_setCell_same w g _ _ _ v' hg, h1, h2, by simp [h3], ?_⟩⟩
  have hl := rv_len E
  have hL : cur.toList = E.flatMap encRV ++ [ul, v3] ++ cur.toList.drop ((E.length + 1) * 2) := by rw [← h4, List.take_append_drop]
  rw [Array.toList_setIfInBounds, hL]
  have e2 : (E.flatMap encRV ++ [ul, v3] ++ cur.toList.drop ((E.length + 1) * 2)).set (E.length * 2 + 1) v' = E.flatMap encRV ++ [ul, v'] ++ cur.toList.drop ((E.length + 1) * 2) := by
   rw [List.append_assoc, List.set_append_right _ _ (by omega), show E.length * 2 + 1 - (E.flatMap encRV).length = 1 by omega, List.append_assoc]
   rfl
  rw [e2, show (E.length + 1) * 2 = (E.flatMap encRV ++ [ul, v']).length by rw [List.length_append, hl]; simp; omega, List.take_left]
structure OutNil (w : World) (o p B : Nat) (D : TabT) : Prop where
 out : ∃ vo, w.heap[o]? = some (.cells #[vo] 24 (0, 0)) ∧ TabAt 76 91 B w vo D
 par : w.heap[p]? = some (.cells #[.slice none 0 0] 84 (0, 0))
structure OutOn (w : World) (o p B : Nat) (D : TabT) (P : List PairB) (Ls : List (List SmpB)) : Prop where
 out : ∃ vo E ul, w.heap[o]? = some (.cells #[vo] 24 (0, 0)) ∧ w.ownsRow B 76 2 vo (E.length + 1) (E.flatMap encRV ++ [ul, .slice none 0 0]) ∧ ElemsAt 91 w E D ∧ w.ownsRow 0 91 2 ul P.length (P.flatMap encPB)
 par : ∃ vp, w.heap[p]? = some (.cells #[vp] 84 (0, 0)) ∧ PartsAt B w vp Ls
theorem flushN_spec (w : World) (o p B : Nat) (h : OutNil w o p B []) :
  Calls Tryz.prog 27 #[.pointer (some ⟨o, 0, none⟩), .pointer (some ⟨p, 0, none⟩)] w fun e w' => e = .returned (.tuple #[]) ∧ OutNil w' o p B [] ∧ Keeps [p] w w' := by
 obtain ⟨vo, ho, hT⟩ := h.out
 have hp := h.par
 obtain ⟨a0, c0, rfl⟩ := hT.form
 have hne : o ≠ p := fun e => by
  subst e
  rw [ho] at hp
  have := Option.some.inj hp
  injection this with _ e2 _
  exact absurd e2 (by decide)
 have co := cells_at ho
 have cp := cells_at hp
 have fp := free_at hp
 have lo := lt_of_at ho
 have lp := lt_of_at hp
 have kp : Keeps [p] w (w.setCell ⟨p, 0, none⟩ (.slice none 0 0)) := (Keeps.refl _ w).setCell (.inl (by simp)) _
 have hE : OutNil (w.setCell ⟨p, 0, none⟩ (.slice none 0 0)) o p B [] := by
  obtain ⟨E, hE1, hE2⟩ := hT
  refine ⟨⟨_, kp.at_ ho (by simpa using hne), E, kp.row hE1 (fun g hg hm => ?_), ⟨hE2.1, fun i hi hi' => absurd hi' (by simp)⟩⟩, heap_setCell_same w p 0 _ _ _ hp⟩
  obtain rfl : g = p := by simpa using hm
  exact row_ne_cells hE1 hp (by decide) g hg rfl
 have HE := Lib.hid (And.intro hE kp)
 clear h ho hT hp hE kp
 go_enter Tryz.func27, Tryz.ntmps27
 go_wp2_with fail
 refine bodyPost_end (results_none rfl _ _ _) rfl ?_
 exact ⟨rfl, HE.out⟩
theorem flushG_spec (w : World) (o p B : Nat) (D : TabT) (P : List PairB) (Ls : List (List SmpB)) (h : OutOn w o p B D P Ls) (hD : D.length ≤ 1000) (hne : ∀ L ∈ Ls, 0 < L.length) (h0 : 0 < Ls.length) (hl : Ls.flatten.length < 10000) (hn : Ls.length < 1000) (hB : B ≤ w.heap.size) :
  Calls Tryz.prog 27 #[.pointer (some ⟨o, 0, none⟩), .pointer (some ⟨p, 0, none⟩)] w fun e w' => e = .returned (.tuple #[]) ∧ ∃ T, SmpsOf Ls T ∧ T.length ≤ Ls.flatten.length ∧ OutNil w' o p B (D ++ [(P, T)]) ∧ ∃ S, Keeps S w w' ∧ ∀ x ∈ S, x = p ∨ ∃ cur, w.heap[x]? = some (.cells cur 76 (0, 0)) ∧ B ≤ x := by
 obtain ⟨vo, E, ul, ho, hrow, hel, hul⟩ := h.out
 obtain ⟨vp, hp, hpar⟩ := h.par
 have hEl : E.length = D.length := hel.1
 obtain ⟨g, cp, rfl⟩ := row_some hrow (by omega)
 have hvp : ∃ a n c, vp = .slice a n c := by
  obtain ⟨Vs, h1, -, -⟩ := hpar
  obtain ⟨a, c, e, -⟩ := row_slice h1
  exact ⟨a, _, c, e⟩
 obtain ⟨ap, np, cpp, rfl⟩ := hvp
 have hcell : w.cell? ⟨g, E.length * 2 + 1, none⟩ = some (.slice none 0 0) := by
  have h1 := World.ownsRow.cells hrow (g := g) rfl (E.length * 2 + 1) (.slice none 0 0) (by
   have hel2 := rv_len E
   rw [List.getElem?_append_right (by omega), hel2, show E.length * 2 + 1 - E.length * 2 = 1 by omega]
   rfl)
  have hadd : (⟨g, 0, none⟩ : Addr).add (E.length * 2 + 1) = ⟨g, E.length * 2 + 1, none⟩ := by unfold Addr.add; split <;> simp_all
  rw [hadd] at h1
  exact h1
 have hrp : g ≠ p := row_ne_cells hrow hp (by decide) g rfl
 have hro : g ≠ o := row_ne_cells hrow ho (by decide) g rfl
 have hop : o ≠ p := fun e => by
  subst e
  rw [ho] at hp
  have := Option.some.inj hp
  injection this with _ e2 _
  exact absurd e2 (by decide)
 have hgB := (World.ownsRow.lt hrow g rfl).1
 have hEl2 : E.length ≤ 1000 := by omega
 obtain ⟨W0, hW0⟩ : ∃ W0, W0 = w.drew := ⟨_, rfl⟩
 have k0 : Keeps [] w W0 := by rw [hW0]; exact (Keeps.refl [] w).drew
 have hgR : ∃ cur, w.heap[g]? = some (.cells cur 76 (0, 0)) := by
  obtain ⟨-, ⟨e, -⟩ | ⟨g', cp', cur, e, -, hg, -⟩⟩ := hrow
  ·cases e
  ·injection e with e1 _ _
   injection e1 with e1
   injection e1 with e1 _ _
   subst e1
   exact ⟨cur, hg⟩
 have H := Lib.hid (And.intro (k0.at_ ho (by simp)) (And.intro (k0.at_ hp (by simp)) (And.intro (go1 k0 hrow) (And.intro (hel.keep k0) (And.intro (go1 k0 hul) (And.intro (hpar.keep k0) (And.intro (k0) (And.intro (hEl) (And.intro (hrp) (And.intro (hro) (And.intro (hop) (And.intro (hgB) (hgR)))))))))))))
 have F0 : ∀ s : Kept W0, s.val.cell? ⟨o, 0, none⟩ = some (.slice (some ⟨g, 0, none⟩) (E.length + 1) cp) := keptCell (cells_at H.out.1 0)
 have F1 : ∀ s : Kept W0, s.val.cell? ⟨p, 0, none⟩ = some (.slice ap np cpp) := keptCell (cells_at H.out.2.1 0)
 have co := cells_at ho
 have lo := lt_of_at ho
 have lr := World.block_lt_of_cell? _ _ hcell
 have HW := Lib.hid hW0
 have hw0 : IntKind.i64.wrap ((E.length : Int) + 1 - 1) = (E.length : Int) := by rw [IntWalk.i64_in _ (by omega)]; omega
 have hw1 := IntWalk.i64_in (E.length : Int) (by omega)
 have hw2 : (E.length : Int) < (E.length : Int) + 1 := by omega
 have HB := Lib.hid hB
 have HSm := Lib.hid (fun (W : World) (hp : PartsAt B W (.slice ap np cpp) Ls) => samples_spec W (.slice ap np cpp) Ls B hp hne h0 hl hn)
 clear h ho hp hrow hel hul hpar hcell k0 hW0 hEl hrp hro hop hgB hgR hne h0 hl hn hD hB
 go_enter Tryz.func27, Tryz.ntmps27
 go_upto_region 2 with fail
 refine wp_region_last_n 7 (KeptS W0) (by kernel_rfl) (by kernel_rfl) (by kernel_rfl) ?_
 rw [← HW.out]
 have lr0 : g < W0.heap.size := Nat.lt_of_lt_of_le lr H.out.2.2.2.2.2.2.1.size
 clear co lo lr
 have hS : KeptS W0 W0 := keptS (Keeps.refl _ _)
 simp only [List.take_succ_cons, List.take_zero, List.toList_toArray]
 refine tk (v := ?_) 0 rfl ?_ ?_; rotate_left
 ·rintro _ ⟨s, rfl⟩; go_simp; (try with_reducible rfl)
 simp only [Act.put, zz]
 refine tk (v := ?_) 1 rfl ?_ ?_; rotate_left
 ·rintro _ ⟨s, rfl⟩; go_simp; (try with_reducible rfl)
 simp only [Act.put, zz]
 refine tk (v := ?_) 2 rfl ?_ ?_; rotate_left
 ·rintro _ ⟨s, rfl⟩; go_simp; (try with_reducible rfl)
 simp only [Act.put, zz]
 refine tk (v := ?_) 3 rfl ?_ ?_; rotate_left
 ·rintro _ ⟨s, rfl⟩; go_simp; (try with_reducible rfl)
 simp only [Act.put, zz]
 refine rd 4 rfl fun K hK => ?_
 go_simp
 go_at_call 28
 refine (HSm.out W0 H.out.2.2.2.2.2.1).mono ?_
 rintro e A1 ⟨v5, T, rfl, hT, hTl, hrowT, k1⟩
 obtain ⟨a5, c5, rfl, -, -, -⟩ := row_slice hrowT
 have H1 := Lib.hid (And.intro hT (And.intro hTl (And.intro hrowT k1)))
 clear hT hTl hrowT k1
 go_simp
 refine hK.out _ _ (keptS H1.out.2.2.2) (fun hS => ?_)
 clear hK K
 try simp only [Act.put, zz]
 refine tk (v := ?_) 5 rfl ?_ ?_; rotate_left
 ·rintro _ ⟨s, rfl⟩; go_simp; (try with_reducible rfl)
 simp only [Act.put, zz]
 refine tk (v := ?_) 6 rfl ?_ ?_; rotate_left
 ·rintro _ ⟨s, rfl⟩; go_simp; (try with_reducible rfl)
 simp only [Act.put, zz]
 have hr1 : A1.cell? ⟨g, E.length * 2 + 1, none⟩ = some (.slice none 0 0) := by
  have h1 := World.ownsRow.cells (go1 H1.out.2.2.2 H.out.2.2.1) (g := g) rfl (E.length * 2 + 1) (.slice none 0 0) (by
   have hel2 := rv_len E
   rw [List.getElem?_append_right (by omega), hel2, show E.length * 2 + 1 - E.length * 2 = 1 by omega]
   rfl)
  have hadd : (⟨g, 0, none⟩ : Addr).add (E.length * 2 + 1) = ⟨g, E.length * 2 + 1, none⟩ := by unfold Addr.add; split <;> simp_all
  rw [hadd] at h1
  exact h1
 have hf1 : ∀ i, A1.frozen? ⟨g, i, none⟩ = false := by
  obtain ⟨-, ⟨e, -⟩ | ⟨g', cp', cur, e, -, hg, -⟩⟩ := go1 H1.out.2.2.2 H.out.2.2.1
  ·cases e
  ·injection e with e1 _ _
   injection e1 with e1
   injection e1 with e1 _ _
   subst e1
   exact free_at hg
 have lr1 : g < A1.heap.size := Nat.lt_of_lt_of_le lr0 H1.out.2.2.2.size
 refine wpAnyH_done (by kernel_rfl) ?_ _
 refine lastQ_step rfl (fun K hK => ?_)
 go_simp
 refine hK _ _ ?_
 clear hK K
 clear F0 F1 hS hw0 hw1 hw2
 have kr : Keeps [g] A1 (A1.setCell ⟨g, E.length * 2 + 1, none⟩ (.slice a5 T.length c5)) := (Keeps.refl _ A1).setCell (.inl (by simp)) _
 have kA := H1.out.2.2.2
 have H2 := Lib.hid (And.intro (kr.at_ (kA.at_ H.out.1 (by simp)) (by simpa using fun e => H.out.2.2.2.2.2.2.2.2.2.1 e.symm)) (And.intro (kr.at_ (kA.at_ H.out.2.1 (by simp)) (by simpa using fun e => H.out.2.2.2.2.2.2.2.2.1 e.symm)) (And.intro (row_last (.slice a5 T.length c5) (go1 kA H.out.2.2.1)) (And.intro ((H.out.2.2.2.1.keep kA).snoc (r := (P, T)) (go1 kA H.out.2.2.2.2.1) (row_base H1.out.2.2.1 (Nat.zero_le _))) (((H.out.2.2.2.2.2.2.1.trans kA).mono (S' := [g]) (by simp)).trans kr)))))
 have hg2 : ElemsAt 91 (A1.setCell ⟨g, E.length * 2 + 1, none⟩ (.slice a5 T.length c5)) (E ++ [(ul, .slice a5 T.length c5)]) (D ++ [(P, T)]) := H2.out.2.2.2.1.grown (go1 kA H.out.2.2.1) (kr.mono (by simp [Value.ownBlock])) (by decide) (by decide)
 have Hg := Lib.hid hg2
 clear kr kA hg2 hr1 hf1 lr1 lr0
 generalize A1.setCell ⟨g, E.length * 2 + 1, none⟩ (.slice a5 T.length c5) = A2 at H2 Hg ⊢
 have cp' := cells_at H2.out.2.1
 have fp := free_at H2.out.2.1
 have lp := lt_of_at H2.out.2.1
 go_wp2_with fail
 refine bodyPost_end (results_none rfl _ _ _) rfl ?_
 have kp : Keeps [p] A2 (A2.setCell ⟨p, 0, none⟩ (.slice none 0 0)) := (Keeps.refl _ A2).setCell (.inl (by simp)) _
 refine ⟨rfl, T, H1.out.1, H1.out.2.1, ⟨⟨_, kp.at_ H2.out.1 (by simpa using H.out.2.2.2.2.2.2.2.2.2.2.1), E ++ [(ul, .slice a5 T.length c5)], ?_, ?_⟩, heap_setCell_same A2 p 0 _ _ _ H2.out.2.1⟩, [g, p], (H2.out.2.2.2.2.mono (by simp)).trans (kp.mono (by simp)), fun x hx => ?_⟩
 ·have h1 := rv_snoc (u1 := ul) (u2 := .slice a5 T.length c5) H2.out.2.2.1
  rw [show (E ++ [(ul, Value.slice a5 T.length c5)]).length = E.length + 1 by simp] at h1 ⊢
  refine kp.row h1 (fun x hx hm => ?_)
  obtain rfl : x = p := by simpa using hm
  exact row_ne_cells h1 H2.out.2.1 (by decide) x hx rfl
 ·exact Hg.out.pt2 H2.out.2.1 (by decide) (by decide) kp
 ·simp only [List.mem_cons, List.not_mem_nil, or_false] at hx
  rcases hx with rfl | rfl
  ·exact .inr (by obtain ⟨cur, hc⟩ := H.out.2.2.2.2.2.2.2.2.2.2.2.2; exact ⟨cur, hc, H.out.2.2.2.2.2.2.2.2.2.2.2.1⟩)
  ·exact .inl rfl
abbrev GrpT := List PairB × List (List SmpB)
open Classical in
noncomputable def mrg : TabT → TabT → List GrpT
 | [], B => B.map fun r => (r.1, [r.2])
 | a :: A, [] => (a :: A).map fun r => (r.1, [r.2])
 | a :: A, b :: B => if ltL b.1 a.1 then (b.1, [b.2]) :: mrg (a :: A) B else if a.1 = b.1 then (a.1, [a.2, b.2]) :: mrg A B else (a.1, [a.2]) :: mrg A (b :: B)
termination_by A B => A.length + B.length
theorem mrg_nil_right (A : TabT) : mrg A [] = A.map fun r => (r.1, [r.2]) := by
 cases A <;> simp [mrg]
theorem mrg_nil_left (B : TabT) : mrg [] B = B.map fun r => (r.1, [r.2]) := by simp [mrg]
theorem mrg_lt {a b : RowT} {A B : TabT} (h : ltL b.1 a.1) : mrg (a :: A) (b :: B) = (b.1, [b.2]) :: mrg (a :: A) B := by rw [mrg, if_pos h]
theorem mrg_eq {a b : RowT} {A B : TabT} (h : ¬ ltL b.1 a.1) (e : a.1 = b.1) : mrg (a :: A) (b :: B) = (a.1, [a.2, b.2]) :: mrg A B := by rw [mrg, if_neg h, if_pos e]
theorem mrg_gt {a b : RowT} {A B : TabT} (h : ¬ ltL b.1 a.1) (e : ¬ a.1 = b.1) : mrg (a :: A) (b :: B) = (a.1, [a.2]) :: mrg A (b :: B) := by rw [mrg, if_neg h, if_neg e]
theorem mrg_grp : ∀ (n : Nat) (A B : TabT), A.length + B.length = n → ∀ g ∈ mrg A B, 0 < g.2.length ∧ g.2.length ≤ 2 ∧ ∀ L ∈ g.2, ∃ r, (r ∈ A ∨ r ∈ B) ∧ r.2 = L
 | _, [], B, _, g, hg => by
  rw [mrg_nil_left] at hg
  obtain ⟨r, hr, rfl⟩ := List.mem_map.1 hg
  exact ⟨by simp, by simp, fun L hL => ⟨r, .inr hr, (List.mem_singleton.1 hL).symm⟩⟩
 | _, a :: A, [], _, g, hg => by
  rw [mrg_nil_right] at hg
  obtain ⟨r, hr, rfl⟩ := List.mem_map.1 hg
  exact ⟨by simp, by simp, fun L hL => ⟨r, .inl hr, (List.mem_singleton.1 hL).symm⟩⟩
 | 0, a :: A, b :: B, h, _, _ => by simp at h
 | n + 1, a :: A, b :: B, h, g, hg => by
  by_cases h1 : ltL b.1 a.1
  ·rw [mrg_lt h1] at hg
   rcases List.mem_cons.1 hg with rfl | hg
   ·exact ⟨by simp, by simp, fun L hL => ⟨b, .inr List.mem_cons_self, (List.mem_singleton.1 hL).symm⟩⟩
   ·obtain ⟨q1, q2, q3⟩ := mrg_grp n (a :: A) B (by simp at h ⊢; omega) g hg
    exact ⟨q1, q2, fun L hL => by obtain ⟨r, hr, e⟩ := q3 L hL; exact ⟨r, hr.imp id (List.mem_cons_of_mem _), e⟩⟩
  ·by_cases e : a.1 = b.1
   ·rw [mrg_eq h1 e] at hg
    rcases List.mem_cons.1 hg with rfl | hg
    ·refine ⟨by simp, by simp, fun L hL => ?_⟩
     simp only [List.mem_cons, List.not_mem_nil, or_false] at hL
     rcases hL with rfl | rfl
     ·exact ⟨a, .inl List.mem_cons_self, rfl⟩
     ·exact ⟨b, .inr List.mem_cons_self, rfl⟩
    ·obtain ⟨q1, q2, q3⟩ := mrg_grp (A.length + B.length) A B rfl g hg
     exact ⟨q1, q2, fun L hL => by obtain ⟨r, hr, e⟩ := q3 L hL; exact ⟨r, hr.imp (List.mem_cons_of_mem _) (List.mem_cons_of_mem _), e⟩⟩
   ·rw [mrg_gt h1 e] at hg
    rcases List.mem_cons.1 hg with rfl | hg
    ·exact ⟨by simp, by simp, fun L hL => ⟨a, .inl List.mem_cons_self, (List.mem_singleton.1 hL).symm⟩⟩
    ·obtain ⟨q1, q2, q3⟩ := mrg_grp n A (b :: B) (by simp at h ⊢; omega) g hg
     exact ⟨q1, q2, fun L hL => by obtain ⟨r, hr, e⟩ := q3 L hL; exact ⟨r, hr.imp (List.mem_cons_of_mem _) id, e⟩⟩
termination_by _ A B => A.length + B.length
def MgSt (G : List GrpT) (cur : Option GrpT) (A B : TabT) (M : List GrpT) : Prop :=
 match cur with
 | none => G = [] ∧ M = mrg A B
 | some (P, Ls) => (M = G ++ (P, Ls) :: mrg A B ∧ (∀ r ∈ A, ltL P r.1) ∧ ∀ r ∈ B, ltL P r.1) ∨
   ∃ b B1, B = b :: B1 ∧ b.1 = P ∧ M = G ++ (P, Ls ++ [b.2]) :: mrg A B1 ∧ (∀ r ∈ A, ltL P r.1) ∧ ∀ r ∈ B1, ltL P r.1
def closeG (G : List GrpT) (cur : Option GrpT) : List GrpT := match cur with | none => G | some g => G ++ [g]
def RisesT (A : TabT) : Prop := A.Pairwise fun a b => ltL a.1 b.1
theorem rises_head {a : RowT} {A : TabT} (h : RisesT (a :: A)) : ∀ r ∈ A, ltL a.1 r.1 := (List.pairwise_cons.1 h).1
theorem mgSt_start (A B : TabT) : MgSt [] none A B (mrg A B) := ⟨rfl, rfl⟩
theorem mgSt_end {G : List GrpT} {cur : Option GrpT} {M : List GrpT} (h : MgSt G cur [] [] M) : M = closeG G cur := by
 cases cur with
 | none => obtain ⟨rfl, h⟩ := h; rw [h, mrg_nil_left]; rfl
 | some g =>
  rcases h with ⟨h, -⟩ | ⟨b, B1, e, -⟩
  ·rw [h, mrg_nil_left]; rfl
  ·cases e
theorem ltL_ne {a b : List PairB} (h : ltL a b) : a ≠ b := fun e => by
 subst e
 unfold ltL at h
 rw [cmpL_self] at h
 exact absurd h (by decide)
theorem ltL_asym {a b : List PairB} (h : ltL a b) : ¬ ltL b a := fun k => by
 unfold ltL at h k
 rw [cmpL_swap, h] at k
 exact absurd k (by decide)
theorem mgSt_a {G : List GrpT} {cur : Option GrpT} {a : RowT} {A B : TabT} {M : List GrpT} (h : MgSt G cur (a :: A) B M) (hA : RisesT (a :: A)) (hB : RisesT B) (hab : ∀ b B1, B = b :: B1 → ¬ ltL b.1 a.1) :
  (∀ P Ls, cur = some (P, Ls) → ltL P a.1) ∧ MgSt (closeG G cur) (some (a.1, [a.2])) A B M := by
 have key : ∀ G' : List GrpT, M = G' ++ mrg (a :: A) B → MgSt G' (some (a.1, [a.2])) A B M := fun G' hM => by
  cases B with
  | nil =>
   refine .inl ⟨?_, rises_head hA, fun r hr => by cases hr⟩
   rw [hM, mrg_nil_right, mrg_nil_right]
   rfl
  | cons b B =>
   have hn := hab b B rfl
   by_cases e : a.1 = b.1
   ·refine .inr ⟨b, B, rfl, e.symm, ?_, rises_head hA, fun r hr => by rw [e]; exact rises_head hB r hr⟩
    rw [hM, mrg_eq hn e]
    rfl
   ·have hlt : ltL a.1 b.1 := by
     rcases cmpL_cases a.1 b.1 with h3 | h3 | h3
     ·exact h3
     ·exact absurd (cmpL_zero h3) e
     ·exact absurd (show ltL b.1 a.1 by unfold ltL; rw [cmpL_swap, h3]) hn
    refine .inl ⟨by rw [hM, mrg_gt hn e], rises_head hA, fun r hr => ?_⟩
    rcases List.mem_cons.1 hr with rfl | hr
    ·exact hlt
    ·exact ltL_tr hlt (rises_head hB r hr)
 cases cur with
 | none =>
  obtain ⟨rfl, hM⟩ := h
  exact ⟨fun P Ls e => (by cases e), key [] (by simpa using hM)⟩
 | some g =>
  obtain ⟨P, Ls⟩ := g
  rcases h with ⟨hM, h1, -⟩ | ⟨b, B1, e, eP, hM, h1, -⟩
  ·refine ⟨fun P' Ls' e => by cases e; exact h1 a List.mem_cons_self, key _ ?_⟩
   rw [hM]
   simp [closeG]
  ·exact absurd (by rw [eP]; exact h1 a List.mem_cons_self) (hab b B1 e)
theorem mgSt_b {G : List GrpT} {cur : Option GrpT} {b : RowT} {A B : TabT} {M : List GrpT} (h : MgSt G cur A (b :: B) M) (hB : RisesT (b :: B)) (hab : ∀ a A1, A = a :: A1 → ltL b.1 a.1) (hA : RisesT A) :
  ((∀ P Ls, cur = some (P, Ls) → ltL P b.1) ∧ MgSt (closeG G cur) (some (b.1, [b.2])) A B M) ∨ ∃ Ls, cur = some (b.1, Ls) ∧ MgSt G (some (b.1, Ls ++ [b.2])) A B M := by
 have hall : ∀ r ∈ A, ltL b.1 r.1 := fun r hr => by
  cases A with
  | nil => cases hr
  | cons a A =>
   have h1 := hab a A rfl
   rcases List.mem_cons.1 hr with rfl | hr
   ·exact h1
   ·exact ltL_tr h1 (rises_head hA r hr)
 have key : ∀ G' : List GrpT, M = G' ++ mrg A (b :: B) → MgSt G' (some (b.1, [b.2])) A B M := fun G' hM => by
  refine .inl ⟨?_, hall, rises_head hB⟩
  cases A with
  | nil => rw [hM, mrg_nil_left, mrg_nil_left]; rfl
  | cons a A => rw [hM, mrg_lt (hab a A rfl)]
 cases cur with
 | none =>
  obtain ⟨rfl, hM⟩ := h
  exact .inl ⟨fun P Ls e => (by cases e), key [] (by simpa using hM)⟩
 | some g =>
  obtain ⟨P, Ls⟩ := g
  rcases h with ⟨hM, -, h2⟩ | ⟨b', B1, e, eP, hM, h1, h2⟩
  ·refine .inl ⟨fun P' Ls' e => by cases e; exact h2 b List.mem_cons_self, key _ ?_⟩
   rw [hM]
   simp [closeG]
  ·injection e with e1 e2
   subst e1 e2 eP
   exact .inr ⟨Ls, rfl, .inl ⟨hM, h1, h2⟩⟩
def GRel (G : List GrpT) (D : TabT) : Prop := G.length = D.length ∧ ∀ (i : Nat) (g : GrpT) (r : RowT), G[i]? = some g → D[i]? = some r → r.1 = g.1 ∧ SmpsOf g.2 r.2
theorem gRel_snoc {G : List GrpT} {D : TabT} {P : List PairB} {Ls : List (List SmpB)} {T : List SmpB} (h : GRel G D) (hT : SmpsOf Ls T) : GRel (G ++ [(P, Ls)]) (D ++ [(P, T)]) := by
 refine ⟨by simp [h.1], fun i g r hg hr => ?_⟩
 rcases Nat.lt_or_ge i G.length with hi | hi
 ·rw [List.getElem?_append_left hi] at hg
  rw [List.getElem?_append_left (by rw [← h.1]; exact hi)] at hr
  exact h.2 i g r hg hr
 ·rw [List.getElem?_append_right hi] at hg
  rw [List.getElem?_append_right (by rw [← h.1]; exact hi), ← h.1] at hr
  rcases Nat.eq_zero_or_pos (i - G.length) with e | e
  ·rw [e] at hg hr
   obtain rfl : (P, Ls) = g := by simpa using hg
   obtain rfl : (P, T) = r := by simpa using hr
   exact ⟨rfl, hT⟩
  ·rw [List.getElem?_eq_none (by simp; omega)] at hg
   cases hg
structure CurOk (w : World) (t k : Nat) (r : RowT) (c : CurV) : Prop where
 t : c.1 = t
 k : c.2.1 = k
 lab : LabAt w c r.1
 smp : w.ownsRow 0 50 2 c.2.2.2 r.2.length (r.2.flatMap encSm)
theorem CurOk.isCur {w : World} {t k : Nat} {r : RowT} {c : CurV} (h : CurOk w t k r c) : IsCur c := by
 obtain ⟨a1, c1, e1, -⟩ := row_slice h.lab.1
 obtain ⟨a2, c2, e2, -⟩ := row_slice h.smp
 exact ⟨⟨a1, _, c1, e1⟩, ⟨a2, _, c2, e2⟩⟩
theorem LabAt.keep {w w' : World} {c : CurV} {P : List PairB} (h : LabAt w c P) (k : Keeps [] w w') : LabAt w' c P := ⟨go1 k h.1, h.2⟩
def CurL (w : World) (t k : Nat) (T : TabT) (C : List CurV) : Prop := (∃ r c, T[k]? = some r ∧ C = [c] ∧ CurOk w t k r c) ∨ (T[k]? = none ∧ C = [])
def QueOk (w : World) (A B : TabT) (i j : Nat) (C : List CurV) : Prop :=
 ∃ Ca Cb, CurL w 0 i A Ca ∧ CurL w 1 j B Cb ∧ ((C = Ca ++ Cb ∧ ∀ a b, A[i]? = some a → B[j]? = some b → ¬ ltL b.1 a.1) ∨ (C = Cb ++ Ca ∧ ∃ a b, A[i]? = some a ∧ B[j]? = some b ∧ ltL b.1 a.1))
theorem lessB_ba {w : World} {i j : Nat} {a b : RowT} {ca cb : CurV} (ha : CurOk w 0 i a ca) (hb : CurOk w 1 j b cb) : (lessB cb ca b.1 a.1 = true ↔ ltL b.1 a.1) ∧ (lessB ca cb a.1 b.1 = true ↔ ¬ ltL b.1 a.1) := by
 unfold lessB ltL
 have h1 := ha.t
 have h2 := hb.t
 rw [h1, h2, cmpL_swap b.1 a.1]
 rcases cmpL_cases b.1 a.1 with h | h | h <;> rw [h] <;> decide
theorem initQ_spec (w W : World) (q Bq : Nat) (v : Value) (A B : TabT) (Ca Cb : List CurV) (k0 : Keeps [] w W) (h : QAt W q Bq v (Ca ++ Cb)) (ha : CurL w 0 0 A Ca) (hb : CurL w 1 0 B Cb) :
  Calls Tryz.prog 26 #[.iface 83 (.pointer (some ⟨q, 0, none⟩))] W fun e W' => e = .returned (.tuple #[]) ∧ ∃ C, QueOk w A B 0 0 C ∧ QAt W' q Bq v C ∧ Keeps v.ownBlock.toList W W' := by
 have ha' := ha
 have hb' := hb
 rcases ha with ⟨a, ca, eA, rfl, oa⟩ | ⟨eA, rfl⟩
 ·rcases hb with ⟨b, cb, eB, rfl, ob⟩ | ⟨eB, rfl⟩
  ·refine (hinit2_spec W q Bq v ca cb h oa.isCur ob.isCur a.1 b.1 (oa.lab.keep k0) (ob.lab.keep k0)).mono ?_
   rintro e W' ⟨rfl, h2, k2⟩
   have hl := (lessB_ba oa ob).1
   by_cases hlt : ltL b.1 a.1
   ·rw [if_pos (hl.2 hlt)] at h2
    exact ⟨rfl, _, ⟨_, _, ha', hb', .inr ⟨rfl, a, b, eA, eB, hlt⟩⟩, h2, k2⟩
   ·rw [if_neg (fun e => hlt (hl.1 e))] at h2
    exact ⟨rfl, _, ⟨_, _, ha', hb', .inl ⟨rfl, fun a' b' ea eb => by rw [eA] at ea; rw [eB] at eb; cases ea; cases eb; exact hlt⟩⟩, h2, k2⟩
  ·refine (hinit1_spec W q Bq v _ h (by simp)).mono ?_
   rintro e W' ⟨rfl, rfl⟩
   exact ⟨rfl, _, ⟨_, _, ha', hb', .inl ⟨rfl, fun a' b' ea eb => by rw [eB] at eb; cases eb⟩⟩, h, Keeps.refl _ _⟩
 ·refine (hinit1_spec W q Bq v _ h (by rcases hb with ⟨_, _, _, rfl, _⟩ | ⟨_, rfl⟩ <;> simp)).mono ?_
  rintro e W' ⟨rfl, rfl⟩
  exact ⟨rfl, _, ⟨_, _, ha', hb', .inl ⟨rfl, fun a' b' ea eb => by rw [eA] at ea; cases ea⟩⟩, h, Keeps.refl _ _⟩
def PopOk (w : World) (A B : TabT) (i j : Nat) (c : CurV) (C1 : List CurV) : Prop :=
 (∃ r, A[i]? = some r ∧ CurOk w 0 i r c ∧ CurL w 1 j B C1 ∧ ∀ b, B[j]? = some b → ¬ ltL b.1 r.1) ∨ (∃ r, B[j]? = some r ∧ CurOk w 1 j r c ∧ CurL w 0 i A C1 ∧ ∀ a, A[i]? = some a → ltL r.1 a.1)
theorem popQ_spec (w W : World) (q Bq : Nat) (v : Value) (A B : TabT) (i j : Nat) (C : List CurV) (hQ : QueOk w A B i j C) (h : QAt W q Bq v C) (hC : C ≠ []) :
  Calls Tryz.prog 29 #[.iface 83 (.pointer (some ⟨q, 0, none⟩))] W fun e W' => ∃ c C1 v', e = .returned (.iface 81 (aggCur c)) ∧ PopOk w A B i j c C1 ∧ QAt W' q Bq v' C1 ∧ Keeps (q :: v.ownBlock.toList) W W' := by
 have key : ∀ c C1, C = c :: C1 → C1.length ≤ 1 → IsCur c → (∀ c', c' ∈ C1 → IsCur c') → PopOk w A B i j c C1 → Calls Tryz.prog 29 #[.iface 83 (.pointer (some ⟨q, 0, none⟩))] W fun e W' => ∃ c C1 v', e = .returned (.iface 81 (aggCur c)) ∧ PopOk w A B i j c C1 ∧ QAt W' q Bq v' C1 ∧ Keeps (q :: v.ownBlock.toList) W W' := by
  intro c C1 e hl hc hc1 hp
  subst e
  match C1, hl with
  | [], _ =>
   refine (hpop1_spec W q Bq v c h hc).mono ?_
   rintro e W' ⟨rfl, v', h2, k2⟩
   exact ⟨c, [], v', rfl, hp, h2, k2⟩
  | [d], _ =>
   refine (hpop2_spec W q Bq v c d h hc (hc1 d List.mem_cons_self)).mono ?_
   rintro e W' ⟨rfl, v', h2, k2⟩
   exact ⟨c, [d], v', rfl, hp, h2, k2⟩
 obtain ⟨Ca, Cb, ha, hb, hc⟩ := hQ
 have one : ∀ {t k : Nat} {T : TabT} {D : List CurV}, CurL w t k T D → D.length ≤ 1 ∧ ∀ c', c' ∈ D → IsCur c' := fun hD => by
  rcases hD with ⟨r, d, -, rfl, od⟩ | ⟨-, rfl⟩
  ·exact ⟨by simp, fun c' hc' => by obtain rfl := List.mem_singleton.1 hc'; exact od.isCur⟩
  ·exact ⟨by simp, fun c' hc' => by cases hc'⟩
 rcases hc with ⟨rfl, hn⟩ | ⟨rfl, a, b, eA, eB, hlt⟩
 ·rcases ha with ⟨a, ca, eA, rfl, oa⟩ | ⟨eA, rfl⟩
  ·exact key ca Cb rfl (one hb).1 oa.isCur (one hb).2 (.inl ⟨a, eA, oa, hb, fun b eb => hn a b eA eb⟩)
  ·rcases hb with ⟨b, cb, eB, rfl, ob⟩ | ⟨eB, rfl⟩
   ·exact key cb [] rfl (by simp) ob.isCur (fun c' hc' => by cases hc') (.inr ⟨b, eB, ob, .inr ⟨eA, rfl⟩, fun a ea => by rw [eA] at ea; cases ea⟩)
   ·exact absurd rfl hC
 ·rcases hb with ⟨b', cb, eB', rfl, ob⟩ | ⟨eB', -⟩
  ·rw [eB] at eB'
   cases eB'
   exact key cb Ca rfl (one ha).1 ob.isCur (one ha).2 (.inr ⟨b, eB, ob, ha, fun a' ea => by rw [eA] at ea; cases ea; exact hlt⟩)
  ·rw [eB] at eB'
   cases eB'
theorem pushQ_spec (w W : World) (q Bq : Nat) (v : Value) (A B : TabT) (i j : Nat) (Ca Cb C1 : List CurV) (c : CurV) (k0 : Keeps [] w W) (hq : w.heap.size ≤ q) (hB0 : w.heap.size ≤ Bq) (hB : Bq ≤ W.heap.size) (h : QAt W q Bq v C1) (ha : CurL w 0 i A Ca) (hb : CurL w 1 j B Cb) (hc : (C1 = Cb ∧ Ca = [c]) ∨ (C1 = Ca ∧ Cb = [c])) :
  Calls Tryz.prog 32 #[.iface 83 (.pointer (some ⟨q, 0, none⟩)), .iface 81 (aggCur c)] W fun e W' => e = .returned (.tuple #[]) ∧ ∃ v' C', QueOk w A B i j C' ∧ QAt W' q Bq v' C' ∧ Keeps [] w W' ∧ QFr q W W' := by
 have ha' := ha
 have hb' := hb
 have kk : ∀ {v0 : Value} {D : List CurV} {W' : World}, QAt W q Bq v0 D → Keeps (q :: v0.ownBlock.toList) W W' → Keeps [] w W' := fun hD k2 => k0.after k2 (fun x hx => .inr (by
  rcases List.mem_cons.1 hx with rfl | hx
  ·exact hq
  ·have h1 := (World.ownsRow.lt hD.row x (by simpa using hx)).1
   omega))
 rcases hc with ⟨rfl, rfl⟩ | ⟨rfl, rfl⟩
 ·rcases ha with ⟨a, ca, eA, e, oa⟩ | ⟨-, e⟩
  ·cases e
   rcases hb with ⟨b, cb, eB, rfl, ob⟩ | ⟨eB, rfl⟩
   ·refine (hpush1_spec W q Bq v cb c h ob.isCur oa.isCur hB w k0 hq hB0 b.1 a.1 ob.lab oa.lab).mono ?_
    rintro e W' ⟨rfl, v', h2, k2, f2⟩
    have hl := (lessB_ba oa ob).2
    by_cases hlt : ltL b.1 a.1
    ·rw [if_neg (fun e => (hl.1 e) hlt)] at h2
     exact ⟨rfl, v', _, ⟨_, _, ha', hb', .inr ⟨rfl, a, b, eA, eB, hlt⟩⟩, h2, k2, f2⟩
    ·rw [if_pos (hl.2 hlt)] at h2
     exact ⟨rfl, v', _, ⟨_, _, ha', hb', .inl ⟨rfl, fun a' b' ea eb => by rw [eA] at ea; rw [eB] at eb; cases ea; cases eb; exact hlt⟩⟩, h2, k2, f2⟩
   ·refine (hpush0_spec W q Bq v c h oa.isCur hB).mono ?_
    rintro e W' ⟨rfl, v', h2, k2⟩
    exact ⟨rfl, v', _, ⟨_, _, ha', hb', .inl ⟨rfl, fun a' b' ea eb => by rw [eB] at eb; cases eb⟩⟩, h2, kk h k2, qfr_of h k2⟩
  ·cases e
 ·rcases hb with ⟨b, cb, eB, e, ob⟩ | ⟨-, e⟩
  ·cases e
   rcases ha with ⟨a, ca, eA, rfl, oa⟩ | ⟨eA, rfl⟩
   ·refine (hpush1_spec W q Bq v ca c h oa.isCur ob.isCur hB w k0 hq hB0 a.1 b.1 oa.lab ob.lab).mono ?_
    rintro e W' ⟨rfl, v', h2, k2, f2⟩
    have hl := (lessB_ba oa ob).1
    by_cases hlt : ltL b.1 a.1
    ·rw [if_pos (hl.2 hlt)] at h2
     exact ⟨rfl, v', _, ⟨_, _, ha', hb', .inr ⟨rfl, a, b, eA, eB, hlt⟩⟩, h2, k2, f2⟩
    ·rw [if_neg (fun e => hlt (hl.1 e))] at h2
     exact ⟨rfl, v', _, ⟨_, _, ha', hb', .inl ⟨rfl, fun a' b' ea eb => by rw [eA] at ea; rw [eB] at eb; cases ea; cases eb; exact hlt⟩⟩, h2, k2, f2⟩
   ·refine (hpush0_spec W q Bq v c h ob.isCur hB).mono ?_
    rintro e W' ⟨rfl, v', h2, k2⟩
    exact ⟨rfl, v', _, ⟨_, _, ha', hb', .inl ⟨rfl, fun a' b' ea eb => by rw [eA] at ea; cases ea⟩⟩, h2, kk h k2, qfr_of h k2⟩
  ·cases e
theorem pop_pack {w : World} {A B : TabT} {i j : Nat} {c : CurV} {C1 : List CurV} {G M : List GrpT} {cur : Option GrpT} (hP : PopOk w A B i j c C1) (_hi : i ≤ A.length) (_hj : j ≤ B.length) (rA : RisesT A) (rB : RisesT B) (hSt : MgSt G cur (A.drop i) (B.drop j) M) :
  ∃ t k T i' j' r, ((t = 0 ∧ T = A) ∨ (t = 1 ∧ T = B)) ∧ T[k]? = some r ∧ CurOk w t k r c ∧ i' ≤ A.length ∧ j' ≤ B.length ∧ (A.length - i') + (B.length - j') + 1 = (A.length - i) + (B.length - j) ∧ C1.length ≤ 1 ∧
   (((∀ P Ls, cur = some (P, Ls) → ltL P r.1) ∧ MgSt (closeG G cur) (some (r.1, [r.2])) (A.drop i') (B.drop j') M) ∨ ∃ Ls, cur = some (r.1, Ls) ∧ MgSt G (some (r.1, Ls ++ [r.2])) (A.drop i') (B.drop j') M) ∧
   (¬ k + 1 < T.length → QueOk w A B i' j' C1) ∧ ∀ c2 r2, T[k + 1]? = some r2 → CurOk w t (k + 1) r2 c2 → ∃ Ca Cb, CurL w 0 i' A Ca ∧ CurL w 1 j' B Cb ∧ ((C1 = Cb ∧ Ca = [c2]) ∨ (C1 = Ca ∧ Cb = [c2])) := by
 have one : ∀ {t k : Nat} {T : TabT} {D : List CurV}, CurL w t k T D → D.length ≤ 1 := fun hD => by
  rcases hD with ⟨r, d, -, rfl, -⟩ | ⟨-, rfl⟩ <;> simp
 rcases hP with ⟨r, hr, hc, h1, hn⟩ | ⟨r, hr, hc, h1, hn⟩
 ·obtain ⟨hlt, he⟩ := List.getElem?_eq_some_iff.1 hr
  have hd : A.drop i = r :: A.drop (i + 1) := by rw [List.drop_eq_getElem_cons hlt, he]
  rw [hd] at hSt
  have rA' : RisesT (r :: A.drop (i + 1)) := by rw [← hd]; exact List.Pairwise.sublist (List.drop_sublist _ _) rA
  have rB' : RisesT (B.drop j) := List.Pairwise.sublist (List.drop_sublist _ _) rB
  have hst := mgSt_a hSt rA' rB' (fun b B1 e => hn b (by
   have h5 := congrArg List.head? e
   rw [List.head?_drop] at h5
   simpa using h5))
  refine ⟨0, i, A, i + 1, j, r, .inl ⟨rfl, rfl⟩, hr, hc, hlt, _hj, by omega, one h1, .inl hst, fun hk => ⟨[], C1, .inr ⟨List.getElem?_eq_none (by omega), rfl⟩, h1, .inl ⟨rfl, fun a b ea eb => by rw [List.getElem?_eq_none (by omega)] at ea; cases ea⟩⟩, fun c2 r2 h2 hc2 => ⟨[c2], C1, .inl ⟨r2, c2, h2, rfl, hc2⟩, h1, .inl ⟨rfl, rfl⟩⟩⟩
 ·obtain ⟨hlt, he⟩ := List.getElem?_eq_some_iff.1 hr
  have hd : B.drop j = r :: B.drop (j + 1) := by rw [List.drop_eq_getElem_cons hlt, he]
  rw [hd] at hSt
  have rB' : RisesT (r :: B.drop (j + 1)) := by rw [← hd]; exact List.Pairwise.sublist (List.drop_sublist _ _) rB
  have rA' : RisesT (A.drop i) := List.Pairwise.sublist (List.drop_sublist _ _) rA
  have hst := mgSt_b hSt rB' (fun a A1 e => hn a (by
   have h5 := congrArg List.head? e
   rw [List.head?_drop] at h5
   simpa using h5)) rA'
  refine ⟨1, j, B, i, j + 1, r, .inr ⟨rfl, rfl⟩, hr, hc, _hi, hlt, by omega, one h1, hst, fun hk => ⟨C1, [], h1, .inr ⟨List.getElem?_eq_none (by omega), rfl⟩, .inl ⟨by rw [List.append_nil], fun a b ea eb => by rw [List.getElem?_eq_none (by omega)] at eb; cases eb⟩⟩, fun c2 r2 h2 hc2 => ⟨C1, [c2], h1, .inl ⟨r2, c2, h2, rfl, hc2⟩, .inr ⟨rfl, rfl⟩⟩⟩
def OutSt (W : World) (o p B : Nat) (D : TabT) (cur : Option GrpT) : Prop := match cur with | none => OutNil W o p B D ∧ D = [] | some g => OutOn W o p B D g.1 g.2
def FFr (p : Nat) (w w' : World) : Prop := ∀ (x : Nat) (cs : Array Value) (T : TypeId) (z : Nat × Nat), T ≠ 76 → x ≠ p → w.heap[x]? = some (.cells cs T z) → w'.heap[x]? = some (.cells cs T z)
def CurFew (cur : Option GrpT) : Prop := ∀ g, cur = some g → 0 < g.2.length ∧ g.2.length ≤ 2 ∧ ∀ L ∈ g.2, 0 < L.length ∧ L.length ≤ 500
theorem flat_few {Ls : List (List SmpB)} (h : ∀ L ∈ Ls, 0 < L.length ∧ L.length ≤ 500) : Ls.flatten.length ≤ Ls.length * 500 := by
 induction Ls with
 | nil => simp
 | cons L Ls ih =>
  have h1 := (h L List.mem_cons_self).2
  have h2 := ih (fun L' hL' => h L' (List.mem_cons_of_mem _ hL'))
  rw [List.flatten_cons, List.length_append, List.length_cons]
  omega
theorem flushA_spec (w W : World) (o p : Nat) (D : TabT) (cur : Option GrpT) (G : List GrpT) (h : OutSt W o p w.heap.size D cur) (hG : GRel G D) (hD : D.length ≤ 1000) (hc : CurFew cur) (k : Keeps [] w W) (hp : w.heap.size ≤ p) :
  Calls Tryz.prog 27 #[.pointer (some ⟨o, 0, none⟩), .pointer (some ⟨p, 0, none⟩)] W fun e W' => e = .returned (.tuple #[]) ∧ ∃ D', GRel (closeG G cur) D' ∧ D'.length ≤ D.length + 1 ∧ OutNil W' o p w.heap.size D' ∧ Keeps [] w W' ∧ FFr p W W' ∧ W.heap.size ≤ W'.heap.size := by
 cases cur with
 | none =>
  obtain ⟨h, rfl⟩ := h
  refine (flushN_spec W o p w.heap.size h).mono ?_
  rintro e W' ⟨rfl, h2, k2⟩
  exact ⟨rfl, [], hG, Nat.zero_le _, h2, k.after k2 (fun x hx => .inr (by obtain rfl := List.mem_singleton.1 hx; exact hp)), fun x cs T z _ hx hh => k2.at_ hh (by simpa using hx), k2.size⟩
 | some g =>
  obtain ⟨P, Ls⟩ := g
  obtain ⟨f1, f2, f3⟩ := hc (P, Ls) rfl
  dsimp only at f1 f2 f3
  have hfl := flat_few f3
  refine (flushG_spec W o p w.heap.size D P Ls h hD (fun L hL => (f3 L hL).1) f1 (by omega) (by omega) k.size).mono ?_
  rintro e W' ⟨rfl, T, hT, -, h2, S, k2, hS⟩
  refine ⟨rfl, D ++ [(P, T)], gRel_snoc hG hT, by simp, h2, k.after k2 (fun x hx => .inr ?_), fun x cs T' z hT' hx hh => k2.at_ hh (fun hm => ?_), k2.size⟩
  ·rcases hS x hx with rfl | ⟨_, _, h3⟩
   ·exact hp
   ·exact h3
  ·rcases hS x hm with e | ⟨cc, h3, -⟩
   ·exact hx e
   ·rw [hh] at h3
    have := Option.some.inj h3
    injection this with _ e2 _
    exact hT' e2
theorem FFr.row {p B s n : Nat} {T : TypeId} {w w' : World} {v : Value} {xs : List Value} (h : FFr p w w') (hr : w.ownsRow B T s v n xs) (hT : T ≠ 76) (hq : ∀ g, v.ownBlock = some g → g ≠ p) : w'.ownsRow B T s v n xs := by
 obtain ⟨hl, ⟨rfl, h0⟩ | ⟨g, cp, cur, rfl, hb, hg, h1, h2, h3, h4⟩⟩ := hr
 ·exact ⟨hl, .inl ⟨rfl, h0⟩⟩
 ·exact ⟨hl, .inr ⟨g, cp, cur, rfl, hb, h g cur T (0, 0) hT (hq g rfl) hg, h1, h2, h3, h4⟩⟩
theorem QAt.ffr {w w' : World} {q p B : Nat} {v : Value} {C : List CurV} {cs : Array Value} (h : QAt w q B v C) (hp : w.heap[p]? = some (.cells cs 84 (0, 0))) (f : FFr p w w') : QAt w' q B v C := by
 refine ⟨f q _ _ _ (by decide) (fun e => ?_) h.q, f.row h.row (by decide) (row_ne_cells h.row hp (by decide))⟩
 have h1 := h.q
 rw [e, hp] at h1
 have := Option.some.inj h1
 injection this with _ e2 _
 exact absurd e2 (by decide)
theorem qfr_keep {q : Nat} {w w' : World} (k : Keeps [] w w') : QFr q w w' := ⟨fun _ _ _ _ _ _ hh => k.at_ hh (by simp), k.size⟩
theorem qfr_box {q b : Nat} {w w' : World} {cs : Array Value} {z : Nat × Nat} (hb : w.heap[b]? = some (.cells cs 81 z)) (k : Keeps [b] w w') : QFr q w w' := ⟨fun x cs' T z' hT _ hh => k.at_ hh (fun hm => by
 obtain rfl : x = b := by simpa using hm
 rw [hh] at hb
 have := Option.some.inj hb
 injection this with _ e2 _
 exact hT e2), k.size⟩
theorem box_ne {w : World} {x q : Nat} {cs cq : Array Value} {T : TypeId} {z : Nat × Nat} (hx : w.heap[x]? = some (.cells cs T z)) (hq : w.heap[q]? = some (.cells cq 79 (0, 0))) (hT : T ≠ 79) : x ≠ q := fun e => by
 subst e
 rw [hx] at hq
 have := Option.some.inj hq
 injection this with _ e2 _
 exact hT e2
theorem ElemsAt.qfr {q : Nat} {w w' : World} {E : List RowV} {D : TabT} {cq : Array Value} (h : ElemsAt 91 w E D) (hq : w.heap[q]? = some (.cells cq 79 (0, 0))) (f : QFr q w w') : ElemsAt 91 w' E D :=
 ⟨h.1, fun i hi hi' => ⟨f.row (h.2 i hi hi').1 (by decide) (row_ne_cells (h.2 i hi hi').1 hq (by decide)), f.row (h.2 i hi hi').2 (by decide) (row_ne_cells (h.2 i hi hi').2 hq (by decide))⟩⟩
theorem OutNil.qfr {q o p B : Nat} {w w' : World} {D : TabT} {cq : Array Value} (h : OutNil w o p B D) (hq : w.heap[q]? = some (.cells cq 79 (0, 0))) (f : QFr q w w') : OutNil w' o p B D := by
 obtain ⟨vo, ho, E, h1, h2⟩ := h.out
 exact ⟨⟨vo, f.1 _ _ _ _ (by decide) (box_ne ho hq (by decide)) ho, E, f.row h1 (by decide) (row_ne_cells h1 hq (by decide)), h2.qfr hq f⟩, f.1 _ _ _ _ (by decide) (box_ne h.par hq (by decide)) h.par⟩
theorem OutOn.qfr {q o p B : Nat} {w w' : World} {D : TabT} {P : List PairB} {Ls : List (List SmpB)} {cq : Array Value} (h : OutOn w o p B D P Ls) (hq : w.heap[q]? = some (.cells cq 79 (0, 0))) (f : QFr q w w') : OutOn w' o p B D P Ls := by
 obtain ⟨vo, E, ul, ho, h1, h2, h3⟩ := h.out
 obtain ⟨vp, hp, Vs, h4, h5, h6⟩ := h.par
 exact ⟨⟨vo, E, ul, f.1 _ _ _ _ (by decide) (box_ne ho hq (by decide)) ho, f.row h1 (by decide) (row_ne_cells h1 hq (by decide)), h2.qfr hq f, f.row h3 (by decide) (row_ne_cells h3 hq (by decide))⟩,
  ⟨vp, f.1 _ _ _ _ (by decide) (box_ne hp hq (by decide)) hp, Vs, f.row h4 (by decide) (row_ne_cells h4 hq (by decide)), h5, fun i V L hV hL => f.row (h6 i V L hV hL) (by decide) (row_ne_cells (h6 i V L hV hL) hq (by decide))⟩⟩
theorem OutSt.qfr {q o p B : Nat} {w w' : World} {D : TabT} {cur : Option GrpT} {cq : Array Value} (h : OutSt w o p B D cur) (hq : w.heap[q]? = some (.cells cq 79 (0, 0))) (f : QFr q w w') : OutSt w' o p B D cur := by
 cases cur with
 | none => exact ⟨h.1.qfr hq f, h.2⟩
 | some g => exact OutOn.qfr h hq f
def nOut (D : TabT) (cur : Option GrpT) : Nat := match cur with | none => 0 | some _ => D.length + 1
theorem OutSt.len {o p B : Nat} {W : World} {D : TabT} {cur : Option GrpT} (h : OutSt W o p B D cur) : ∃ vo cc, W.heap[o]? = some (.cells #[.slice vo (nOut D cur) cc] 24 (0, 0)) := by
 cases cur with
 | none =>
  obtain ⟨⟨⟨vo, h1, E, h2, h3⟩, -⟩, hD0⟩ := h
  obtain ⟨a, b, e, -⟩ := row_slice h2
  subst e hD0
  have : E = [] := List.eq_nil_of_length_eq_zero h3.1
  subst this
  exact ⟨a, b, h1⟩
 | some g =>
  obtain ⟨⟨vo, E, ul, h1, h2, h3, -⟩, -⟩ := h
  obtain ⟨a, b, e, -⟩ := row_slice h2
  subst e
  rw [h3.1] at h1
  exact ⟨a, b, h1⟩
def NewGrp (A B : TabT) (G : List GrpT) (cur : Option GrpT) (i j : Nat) (r : RowT) (M : List GrpT) (nb : Bool) : Prop :=
 (nb = true ∧ (∀ P Ls, cur = some (P, Ls) → ltL P r.1) ∧ MgSt (closeG G cur) (some (r.1, [r.2])) (A.drop i) (B.drop j) M) ∨ (nb = false ∧ ∃ Ls, cur = some (r.1, Ls) ∧ MgSt G (some (r.1, Ls ++ [r.2])) (A.drop i) (B.drop j) M)
theorem newGrp_of {A B : TabT} {G : List GrpT} {cur : Option GrpT} {i j : Nat} {r : RowT} {M : List GrpT} (h : ((∀ P Ls, cur = some (P, Ls) → ltL P r.1) ∧ MgSt (closeG G cur) (some (r.1, [r.2])) (A.drop i) (B.drop j) M) ∨ ∃ Ls, cur = some (r.1, Ls) ∧ MgSt G (some (r.1, Ls ++ [r.2])) (A.drop i) (B.drop j) M) : ∃ nb, NewGrp A B G cur i j r M nb := by
 rcases h with h | h
 ·exact ⟨true, .inl ⟨rfl, h⟩⟩
 ·exact ⟨false, .inr ⟨rfl, h⟩⟩
theorem newGrp_cmp {A B : TabT} {G : List GrpT} {P : List PairB} {Ls : List (List SmpB)} {i j : Nat} {r : RowT} {M : List GrpT} {nb : Bool} (h : NewGrp A B G (some (P, Ls)) i j r M nb) : (cmpL P r.1 = -1 ∧ nb = true) ∨ (cmpL P r.1 = 0 ∧ nb = false) := by
 rcases h with ⟨rfl, h1, -⟩ | ⟨rfl, Ls', e, -⟩
 ·exact .inl ⟨h1 P Ls rfl, rfl⟩
 ·cases e
  exact .inr ⟨cmpL_self _, rfl⟩
theorem addr_add (g j : Nat) : (⟨g, 0, none⟩ : Addr).add j = ⟨g, j, none⟩ := by unfold Addr.add; split <;> simp_all
theorem OutSt.par {o p B : Nat} {W : World} {D : TabT} {cur : Option GrpT} (h : OutSt W o p B D cur) : ∃ cs, W.heap[p]? = some (.cells cs 84 (0, 0)) := by
 cases cur with
 | none => exact ⟨_, h.1.par⟩
 | some g =>
  obtain ⟨-, vp, h2, -⟩ := h
  exact ⟨_, h2⟩
theorem blk_ne {w : World} {x y : Nat} {c1 c2 : Array Value} {T1 T2 : TypeId} {z1 z2 : Nat × Nat} (h1 : w.heap[x]? = some (.cells c1 T1 z1)) (h2 : w.heap[y]? = some (.cells c2 T2 z2)) (hT : T1 ≠ T2) : x ≠ y := fun e => by
 subst e
 rw [h1] at h2
 have := Option.some.inj h2
 injection this with _ e2 _
 exact hT e2
theorem infoSmps2 : (Tryz.prog.info? 72).map (fun i => (i.zero, i.size, i.bytes)) = some (some (.slice none 0 0), 1, 24) := by kernel_rfl
theorem news_one2 {w : World} {g : Nat} {x : Value} {t : TypeId} (hg : w.heap[g]? = some (.cells #[x] t (0, 0))) : ∀ j v, ([x] : List Value)[j]? = some v → w.cell? ((⟨g, 0, none⟩ : Addr).add j) = some v := by
 intro j v hv
 rw [addr_add, cells_at hg]
 match j with
 | 0 => exact hv
 | n + 1 => simp at hv
theorem PartsAt.snoc {B : Nat} {w : World} {v u : Value} {Vs : List Value} {Ls : List (List SmpB)} {L : List SmpB} (hr : w.ownsRow B 72 1 v (Vs.length + 1) (Vs ++ [u])) (hl : Vs.length = Ls.length) (h : ∀ (i : Nat) (V : Value) (L : List SmpB), Vs[i]? = some V → Ls[i]? = some L → w.ownsRow 0 50 2 V L.length (L.flatMap encSm)) (hu : w.ownsRow 0 50 2 u L.length (L.flatMap encSm)) : PartsAt B w v (Ls ++ [L]) := by
 refine ⟨Vs ++ [u], by rw [List.length_append]; exact hr, by simp [hl], fun i V L' hV hL => ?_⟩
 rcases Nat.lt_or_ge i Vs.length with hi | hi
 ·rw [List.getElem?_append_left hi] at hV
  rw [List.getElem?_append_left (by omega)] at hL
  exact h i V L' hV hL
 ·rw [List.getElem?_append_right hi] at hV
  rw [List.getElem?_append_right (by omega), ← hl] at hL
  rcases Nat.eq_zero_or_pos (i - Vs.length) with e | e
  ·rw [e] at hV hL
   obtain rfl : u = V := by simpa using hV
   obtain rfl : L = L' := by simpa using hL
   exact hu
  ·rw [List.getElem?_eq_none (by simp; omega)] at hV
   cases hV
theorem ElemsAt.grownS {tr : TypeId} {B sz n : Nat} {w w' : World} {v : Value} {xs : List Value} {E : List RowV} {A : TabT} (h : ElemsAt 91 w E A) (ho : w.ownsRow B tr sz v n xs) (k : Keeps v.ownBlock.toList w w') (h1 : tr ≠ 91) (h2 : tr ≠ 50) : ElemsAt 91 w' E A :=
 ⟨h.1, fun i hi hi' => ⟨k.row (h.2 i hi hi').1 (rows_ne2 ho (h.2 i hi hi').1 h1), k.row (h.2 i hi hi').2 (rows_ne2 ho (h.2 i hi hi').2 h2)⟩⟩
theorem OutOn.part {w wA w10 : World} {o p : Nat} {D : TabT} {P : List PairB} {Ls : List (List SmpB)} {L : List SmpB} {ap ao : Option Addr} {cpp cp : Nat} {Vs : List Value} {u : Value} (h : OutOn wA o p w.heap.size D P Ls) (hp : wA.heap[p]? = some (.cells #[.slice ap Vs.length cpp] 84 (0, 0))) (hV : wA.ownsRow w.heap.size 72 1 (.slice ap Vs.length cpp) Vs.length Vs) (hVs : ∀ (i : Nat) (V : Value) (L : List SmpB), Vs[i]? = some V → Ls[i]? = some L → wA.ownsRow 0 50 2 V L.length (L.flatMap encSm)) (hVl : Vs.length = Ls.length) (hu : wA.ownsRow 0 50 2 u L.length (L.flatMap encSm)) (hown : w10.ownsRow w.heap.size 72 1 (.slice ao (Vs.length + 1) cp) (Vs.length + 1) (Vs ++ [u])) (hg : wA.grownBy w10 (Value.slice ap Vs.length cpp).ownBlock) :
  OutOn (w10.setCell ⟨p, 0, none⟩ (.slice ao (Vs.length + 1) cp)) o p w.heap.size D P (Ls ++ [L]) := by
 have k10 := keeps_row hg
 have p10 := k10.at_ hp (fun hm => row_ne_cells hV hp (by decide) p (by simpa using hm) rfl)
 have kp : Keeps [p] w10 (w10.setCell ⟨p, 0, none⟩ (.slice ao (Vs.length + 1) cp)) := (Keeps.refl _ w10).setCell (.inl (by simp)) _
 have hrow : ∀ {B s n : Nat} {T : TypeId} {v : Value} {xs : List Value}, wA.ownsRow B T s v n xs → 72 ≠ T → 84 ≠ T → (w10.setCell ⟨p, 0, none⟩ (.slice ao (Vs.length + 1) cp)).ownsRow B T s v n xs := fun hr h1 h2 => by
  have h3 := k10.row hr (rows_ne2 hV hr h1)
  exact kp.row h3 (fun g hg hm => row_ne_cells h3 p10 h2 g hg (by simpa using hm))
 obtain ⟨vo, E, ul, ho, h1, h2, h3⟩ := h.out
 have ho10 := k10.at_ ho (fun hm => row_ne_cells hV ho (by decide) o (by simpa using hm) rfl)
 refine ⟨⟨vo, E, ul, kp.at_ ho10 (by simpa using blk_ne ho10 p10 (by decide)), hrow h1 (by decide) (by decide), (h2.grownS hV k10 (by decide) (by decide)).pt2 p10 (by decide) (by decide) kp, hrow h3 (by decide) (by decide)⟩, ⟨_, heap_setCell_same w10 p 0 _ _ _ p10, ?_⟩⟩
 exact PartsAt.snoc (kp.row hown (fun g hg hm => row_ne_cells hown p10 (by decide) g hg (by simpa using hm))) hVl (fun i V L' a b => hrow (hVs i V L' a b) (by decide) (by decide)) (hrow hu (by decide) (by decide))
def RowFew (r : RowT) : Prop := 0 < r.1.length ∧ r.1.length ≤ 1000 ∧ 0 < r.2.length ∧ r.2.length ≤ 500
def FillL (w : World) (t : Nat) (T : TabT) (on : Prop) (C : List CurV) : Prop := (on ∧ CurL w t 0 T C) ∨ (¬ on ∧ C = [])
def TFill2 (w : World) (q : Nat) (A B : TabT) (gk : Nat) (u14 : Value) (wr : World) : Prop :=
 ∃ t C v, t ≤ 2 ∧ gk = 2 - t ∧ u14 = .int .i64 (t : Nat) ∧ QAt wr q w.heap.size v C ∧ (∃ Ca Cb, C = Ca ++ Cb ∧ FillL w 0 A (0 < t) Ca ∧ FillL w 1 B (1 < t) Cb) ∧ Keeps [] w wr
def TLp (w : World) (q o p : Nat) (A B : TabT) (gk : Nat) (wr : World) : Prop :=
 ∃ i j C v G cur D, i ≤ A.length ∧ j ≤ B.length ∧ gk = (A.length - i) + (B.length - j) ∧ QAt wr q w.heap.size v C ∧ QueOk w A B i j C ∧ MgSt G cur (A.drop i) (B.drop j) (mrg A B) ∧ (∀ g, cur = some g → 0 < g.2.length ∧ g.1.length ≤ 1000) ∧ GRel G D ∧ D.length ≤ i + j ∧ OutSt wr o p w.heap.size D cur ∧ Keeps [] w wr
theorem cur_few {A B A' B' : TabT} {G : List GrpT} {cur : Option GrpT} (h : MgSt G cur A' B' (mrg A B)) (hne : ∀ g, cur = some g → 0 < g.2.length ∧ g.1.length ≤ 1000) (fA : ∀ r ∈ A, RowFew r) (fB : ∀ r ∈ B, RowFew r) : CurFew cur := by
 intro g e
 subst e
 obtain ⟨P, Ls⟩ := g
 have key : ∀ X, (P, Ls ++ X) ∈ mrg A B → 0 < Ls.length ∧ Ls.length ≤ 2 ∧ ∀ L ∈ Ls, 0 < L.length ∧ L.length ≤ 500 := fun X hX => by
  obtain ⟨-, h2, h3⟩ := mrg_grp _ A B rfl _ hX
  dsimp only at h2 h3
  rw [List.length_append] at h2
  refine ⟨(hne _ rfl).1, by omega, fun L hL => ?_⟩
  obtain ⟨r, hr, e⟩ := h3 L (List.mem_append_left _ hL)
  rcases hr with hr | hr
  ·have := fA r hr; unfold RowFew at this; rw [e] at this; exact ⟨this.2.2.1, this.2.2.2⟩
  ·have := fB r hr; unfold RowFew at this; rw [e] at this; exact ⟨this.2.2.1, this.2.2.2⟩
 rcases h with ⟨hM, -⟩ | ⟨b, B1, -, -, hM, -⟩
 ·exact key [] (by rw [List.append_nil, hM]; simp)
 ·exact key [b.2] (by rw [hM]; simp)
theorem tables2_spec (w : World) (l cl B0 : Nat) (A B : TabT) (va vb : Value) (h0 : w.cell? ⟨l, 0, none⟩ = some va) (h1 : w.cell? ⟨l, 1, none⟩ = some vb) (hA : TabAt 76 91 B0 w va A) (hB : TabAt 76 91 B0 w vb B) (rA : RisesT A) (rB : RisesT B) (fA : ∀ r ∈ A, RowFew r) (fB : ∀ r ∈ B, RowFew r) (lA : A.length ≤ 100) (lB : B.length ≤ 100) :
  Calls Tryz.prog 11 #[.slice (some ⟨l, 0, none⟩) 2 cl] w fun e w' => ∃ v T, e = .returned v ∧ TabAt 76 91 w.heap.size w' v T ∧ GRel (mrg A B) T ∧ Keeps [] w w' := by
 obtain ⟨ic, hic, hz0, hz1, hz2⟩ := info_parts infoCur2
 obtain ⟨ir, hir, hy0, hy1, hy2⟩ := info_parts infoRowM
 obtain ⟨is_, his, hx0, hx1, hx2⟩ := info_parts infoSmps2
 have ll := World.block_lt_of_cell? w _ h0
 have k1 : Keeps [] w (w.alloc (.cells #[.slice none 0 0] 79)) := (Keeps.refl [] w).alloc _
 have H := Lib.hid (And.intro h0 (And.intro h1 (And.intro hA (And.intro hB (And.intro rA (And.intro rB (And.intro fA (And.intro fB ll))))))))
 have H1 := Lib.hid (And.intro (heap_new w (.cells #[.slice none 0 0] 79)) k1)
 clear h0 h1 hA hB rA rB fA fB ll k1
 go_enter Tryz.func11, Tryz.ntmps11
 go_wp2_with fail
 generalize hw1 : w.alloc (.cells #[.slice none 0 0] 79) = w1 at H1 ⊢
 generalize hq : w.heap.size = q at H1 ⊢
 have Hq := Lib.hid hq
 clear hw1 hq
 go_loopg [14] 2 (TFill2 w q A B)
 case atStart => exact ⟨0, [], .slice none 0 0, by decide, rfl, rfl, ⟨H1.out.1, World.ownsRow_nil _ _ _ 4⟩, ⟨[], [], rfl, .inr ⟨by simp, rfl⟩, .inr ⟨by simp, rfl⟩⟩, H1.out.2⟩
 case round =>
  obtain ⟨t, C, v, ht, hgk, rfl, hQ, hF, hkw⟩ := hrel
  by_cases ht2 : t < 2
  ·have HF : ∃ T vt, w.cell? ⟨l, t, none⟩ = some vt ∧ TabAt 76 91 B0 w vt T ∧ (∀ r ∈ T, RowFew r) ∧ T.length ≤ 100 ∧ ∀ C1 W v', QAt W q w.heap.size v' (C ++ C1) → CurL w t 0 T C1 → Keeps [] w W → TFill2 w q A B (2 - (t + 1)) (.int .i64 (t + 1 : Nat)) W := by
    obtain ⟨Ca, Cb, rfl, fa, fb⟩ := hF
    rcases (show t = 0 ∨ t = 1 by omega) with rfl | rfl
    ·refine ⟨A, va, H.out.1, H.out.2.2.1, H.out.2.2.2.2.2.2.1, lA, fun C1 W v' hq hc hk => ⟨1, _, v', by decide, rfl, rfl, hq, ⟨C1, [], ?_, .inl ⟨by decide, hc⟩, .inr ⟨by decide, rfl⟩⟩, hk⟩⟩
     rcases fa with ⟨h, -⟩ | ⟨-, rfl⟩
     ·exact absurd h (by decide)
     ·rcases fb with ⟨h, -⟩ | ⟨-, rfl⟩
      ·exact absurd h (by decide)
      ·simp
    ·refine ⟨B, vb, H.out.2.1, H.out.2.2.2.1, H.out.2.2.2.2.2.2.2.1, lB, fun C1 W v' hq hc hk => ⟨2, _, v', by decide, rfl, rfl, hq, ⟨Ca, C1, ?_, .inl ⟨by decide, ?_⟩, .inl ⟨by decide, hc⟩⟩, hk⟩⟩
     ·rcases fb with ⟨h, -⟩ | ⟨-, rfl⟩
      ·exact absurd h (by decide)
      ·simp
     ·rcases fa with ⟨-, h⟩ | ⟨h, -⟩
      ·exact h
      ·exact absurd (by decide) h
   have hCl : C.length ≤ 2 := by
    obtain ⟨Ca, Cb, rfl, fa, fb⟩ := hF
    have e1 : Ca.length ≤ 1 := by rcases fa with ⟨-, ⟨_, _, _, rfl, _⟩ | ⟨_, rfl⟩⟩ | ⟨_, rfl⟩ <;> simp
    have e2 : Cb.length ≤ 1 := by rcases fb with ⟨-, ⟨_, _, _, rfl, _⟩ | ⟨_, rfl⟩⟩ | ⟨_, rfl⟩ <;> simp
    rw [List.length_append]
    omega
   clear hF
   obtain ⟨T, vt, hcell, hT, hfew, hTl, hfin⟩ := HF
   obtain ⟨at_, ct, rfl⟩ := hT.form
   have lcell := World.block_lt_of_cell? _ _ hcell
   have dl := (hkw.cell lcell (by simp)).trans hcell
   have ll := World.block_lt_of_cell? _ _ dl
   have htl : (t : Int) < 2 := by omega
   have HQ := Lib.hid (And.intro hQ (And.intro hkw (And.intro hT (And.intro hfew (And.intro hfin hgk)))))
   clear hQ hkw hcell hfin hgk lcell
   by_cases hpos : 0 < T.length
   ·have hpos' : (0 : Int) < (T.length : Int) := by omega
    obtain ⟨b, off, u1, u2, ea, hb, d0, d1, g1, g2⟩ := hT.at_ 0 hpos
    subst ea
    have hr := hfew T[0] (List.getElem_mem hpos)
    obtain ⟨r, hre⟩ : ∃ r, r = T[0] := ⟨_, rfl⟩
    rw [← hre] at g1 g2 hr
    obtain ⟨ar1, cr1, rfl, -, -, -⟩ := row_slice g1
    obtain ⟨ar2, cr2, rfl, -, -, -⟩ := row_slice g2
    obtain ⟨av, cv, rfl⟩ := HQ.out.1.form
    obtain ⟨W0, hW0⟩ : ∃ W0, W0 = wr.drew := ⟨_, rfl⟩
    have k0 : Keeps [] wr W0 := by rw [hW0]; exact (Keeps.refl [] wr).drew
    rw [Nat.zero_mul, Nat.add_zero] at d0 d1
    have H2 := Lib.hid (And.intro (HQ.out.1.keep k0 (by simp) (by simp)) (And.intro (HQ.out.2.1.trans k0) (And.intro d0 (And.intro d1 (And.intro hb (And.intro g1 (And.intro g2 (And.intro hr hre))))))))
    have s0 : W0.cell? ⟨q, 0, none⟩ = some (.slice av C.length cv) := cells_at H2.out.1.q 0
    have s1 : W0.cell? ⟨b, off, none⟩ = some (.slice ar1 r.1.length cr1) := (H2.out.2.1.cell hb (by simp)).trans d0
    have s2 : W0.cell? ⟨b, off + 1, none⟩ = some (.slice ar2 r.2.length cr2) := (H2.out.2.1.cell hb (by simp)).trans d1
    have HW := Lib.hid hW0
    clear hT hfew hb d0 d1 g1 g2 hr hre k0 hW0
    go_upto_region 6 with fail
    clear dl ll
    refine wp_region_last_n 8 (fun w' => w'.cell? ⟨q, 0, none⟩ = some (.slice av C.length cv) ∧ w'.cell? ⟨b, off, none⟩ = some (.slice ar1 r.1.length cr1) ∧ w'.cell? ⟨b, off + 1, none⟩ = some (.slice ar2 r.2.length cr2)) (by kernel_rfl) (by kernel_rfl) (by kernel_rfl) ?_
    rw [← HW.out]
    have hS : W0.cell? ⟨q, 0, none⟩ = some (.slice av C.length cv) ∧ W0.cell? ⟨b, off, none⟩ = some (.slice ar1 r.1.length cr1) ∧ W0.cell? ⟨b, off + 1, none⟩ = some (.slice ar2 r.2.length cr2) := ⟨s0, s1, s2⟩
    simp only [List.take_succ_cons, List.take_zero, List.toList_toArray]
    have hw0 : IntKind.i64.wrap 0 = 0 := by decide
    clear HW s0 s1 s2
    refine tk (v := ?_) 0 rfl ?_ ?_; rotate_left
    ·rintro _ ⟨s1, s2, s3⟩; go_simp; (try with_reducible rfl)
    simp only [Act.put, zz]
    refine tk (v := ?_) 1 rfl ?_ ?_; rotate_left
    ·rintro _ ⟨s1, s2, s3⟩; go_simp; (try with_reducible rfl)
    simp only [Act.put, zz]
    refine tk (v := ?_) 2 rfl ?_ ?_; rotate_left
    ·rintro _ ⟨s1, s2, s3⟩; go_simp; (try with_reducible rfl)
    simp only [Act.put, zz]
    refine tk (v := ?_) 3 rfl ?_ ?_; rotate_left
    ·rintro _ ⟨s1, s2, s3⟩; go_simp; (try with_reducible rfl)
    simp only [Act.put, zz]
    refine tk (v := ?_) 4 rfl ?_ ?_; rotate_left
    ·rintro _ ⟨s1, s2, s3⟩; go_simp; (try with_reducible rfl)
    simp only [Act.put, zz]
    refine tk (v := ?_) 5 rfl ?_ ?_; rotate_left
    ·rintro _ ⟨s1, s2, s3⟩; go_simp; (try with_reducible rfl)
    simp only [Act.put, zz]
    refine rd 6 rfl fun K hK => ?_
    go_simp
    have kA : Keeps [] W0 (W0.alloc (.cells #[.int .i64 (t : Nat), .int .i64 0, .slice ar1 r.1.length cr1, .slice ar2 r.2.length cr2] 81)) := (Keeps.refl [] W0).alloc _
    have H3 := Lib.hid (And.intro (heap_new W0 (.cells #[.int .i64 (t : Nat), .int .i64 0, .slice ar1 r.1.length cr1, .slice ar2 r.2.length cr2] 81)) (And.intro (H2.out.1.keep kA (by simp) (by simp)) (H2.out.2.1.trans kA)))
    clear kA
    generalize W0.heap.size = nb at H3 ⊢
    generalize W0.alloc (.cells #[.int .i64 (t : Nat), .int .i64 0, .slice ar1 r.1.length cr1, .slice ar2 r.2.length cr2] 81) = A1 at H3 ⊢
    have t3 : A1.cell? ⟨q, 0, none⟩ = some (.slice av C.length cv) ∧ A1.cell? ⟨b, off, none⟩ = some (.slice ar1 r.1.length cr1) ∧ A1.cell? ⟨b, off + 1, none⟩ = some (.slice ar2 r.2.length cr2) := ⟨cells_at H3.out.2.1.q 0, (H3.out.2.2.cell H2.out.2.2.2.2.1 (by simp)).trans H2.out.2.2.1, (H3.out.2.2.cell H2.out.2.2.2.2.1 (by simp)).trans H2.out.2.2.2.1⟩
    go_simp
    refine hK.out _ _ t3 (fun hS => ?_)
    clear hK K
    try simp only [Act.put, zz]
    clear t3
    refine rd 7 rfl fun K hK => ?_
    refine step_appP rfl (.tmp 22) (.tmp 28) 79 rfl w.heap.size 81 ic _ 4 64 Tryz.underlying79 hic hz0 hz1 hz2 rfl (by decide) (.slice av C.length cv) C.length (C.flatMap encCur) rfl H3.out.2.1.row ⟨nb, 0, none⟩ 1 1 [.int .i64 (t : Nat), .int .i64 0, .slice ar1 r.1.length cr1, .slice ar2 r.2.length cr2] rfl rfl (news_four2 H3.out.1) (by simp [Value.oneCell']) (by simp only [maxLen]; omega) (by omega) H3.out.2.2.size ?_
    intro v5 A3 hown5 hgrow5
    obtain ⟨ao5, cp5, rfl, -, -, -⟩ := row_slice hown5
    have k5 := keeps_row hgrow5
    have q5 := k5.at_ H3.out.2.1.q (fun hm => H3.out.2.1.ne q (by simpa using hm) rfl)
    have kw5 : Keeps [] w A3 := keeps_own H3.out.2.2 hgrow5 (fun x hx => (World.ownsRow.lt H3.out.2.1.row x hx).1)
    have t5 : A3.cell? ⟨q, 0, none⟩ = some (.slice av C.length cv) ∧ A3.cell? ⟨b, off, none⟩ = some (.slice ar1 r.1.length cr1) ∧ A3.cell? ⟨b, off + 1, none⟩ = some (.slice ar2 r.2.length cr2) := ⟨cells_at q5 0, (kw5.cell H2.out.2.2.2.2.1 (by simp)).trans H2.out.2.2.1, (kw5.cell H2.out.2.2.2.2.1 (by simp)).trans H2.out.2.2.2.1⟩
    have H5 := Lib.hid (And.intro hown5 (And.intro q5 kw5))
    have T5 := Lib.hid t5
    clear hown5 hgrow5 k5 q5 kw5 t5 H3
    refine hK.out _ _ T5.out (fun hS => ?_)
    clear hK K
    try simp only [Act.put, zz]
    have cq : A3.cell? ⟨q, 0, none⟩ = some (.slice av C.length cv) := T5.out.1
    have fq := free_at H5.out.2.1
    have lq := lt_of_at H5.out.2.1
    refine wpAnyH_done (by kernel_rfl) ?_ _
    refine lastQ_step rfl (fun K hK => ?_)
    go_simp
    refine hK _ _ ?_
    clear hK K
    have kq : Keeps [q] A3 (A3.setCell ⟨q, 0, none⟩ (.slice ao5 (C.length + 1) cp5)) := (Keeps.refl _ A3).setCell (.inl (by simp)) _
    have hqq := heap_setCell_same A3 q 0 _ _ (.slice ao5 (C.length + 1) cp5) H5.out.2.1
    have hrow2 : (A3.setCell ⟨q, 0, none⟩ (.slice ao5 (C.length + 1) cp5)).ownsRow w.heap.size 81 4 (.slice ao5 (C.length + 1) cp5) (C ++ [((t, 0, Value.slice ar1 r.1.length cr1, Value.slice ar2 r.2.length cr2) : CurV)]).length ((C ++ [((t, 0, Value.slice ar1 r.1.length cr1, Value.slice ar2 r.2.length cr2) : CurV)]).flatMap encCur) := by
     rw [List.length_append, List.flatMap_append]
     refine kq.row H5.out.1 (fun g hg hm => ?_)
     obtain rfl : g = q := by simpa using hm
     exact row_ne_cells H5.out.1 H5.out.2.1 (by decide) g hg rfl
    have HE := Lib.hid (HQ.out.2.2.2.2.1 [((t, 0, Value.slice ar1 r.1.length cr1, Value.slice ar2 r.2.length cr2) : CurV)] (A3.setCell ⟨q, 0, none⟩ (.slice ao5 (C.length + 1) cp5)) _ ⟨hqq, hrow2⟩ (.inl ⟨r, _, by rw [H2.out.2.2.2.2.2.2.2.2]; exact List.getElem?_eq_getElem hpos, rfl, ⟨rfl, rfl, ⟨H2.out.2.2.2.2.2.1, H2.out.2.2.2.2.2.2.2.1.2.1⟩, H2.out.2.2.2.2.2.2.1⟩⟩) (H5.out.2.2.after kq (fun x hx => .inr (by obtain rfl := List.mem_singleton.1 hx; exact Nat.le_of_eq Hq.out))))
    clear kq hqq hrow2 cq fq lq hS H5
    generalize A3.setCell ⟨q, 0, none⟩ (.slice ao5 (C.length + 1) cp5) = A4 at HE ⊢
    go_wp2_with fail
    go_roundg (2 - (t + 1))
    case measure => have := HQ.out.2.2.2.2.2; omega
    case rel => exact HE.out
   ·have hneg : ¬ (0 : Int) < (T.length : Int) := by omega
    have HE := Lib.hid (HQ.out.2.2.2.2.1 [] wr _ (by rw [List.append_nil]; exact HQ.out.1) (.inr ⟨List.getElem?_eq_none (by omega), rfl⟩) HQ.out.2.1)
    clear hT hfew
    go_wp2_with fail
    go_roundg (2 - (t + 1))
    case measure => have := HQ.out.2.2.2.2.2; omega
    case rel => exact HE.out
  ·have htl : ¬ (t : Int) < 2 := by omega
   obtain rfl : t = 2 := by omega
   obtain ⟨Ca, Cb, rfl, fa, fb⟩ := hF
   have ha : CurL w 0 0 A Ca := by
    rcases fa with ⟨-, h⟩ | ⟨h, -⟩
    ·exact h
    ·exact absurd (by decide) h
   have hb : CurL w 1 0 B Cb := by
    rcases fb with ⟨-, h⟩ | ⟨h, -⟩
    ·exact h
    ·exact absurd (by decide) h
   have Hi := Lib.hid (initQ_spec w wr q w.heap.size v A B Ca Cb hkw hQ ha hb)
   have HK := Lib.hid (And.intro hkw (And.intro hQ (fun x hx => (World.ownsRow.lt hQ.row x hx).1)))
   clear hQ hkw fa fb ha hb hgk ht
   go_wp2_with fail
   refine Hi.out.mono ?_
   rintro e w2 ⟨rfl, C0, hC0, hQ2, k2⟩
   have kw2 : Keeps [] w w2 := HK.out.1.after k2 (fun x hx => .inr (HK.out.2.2 x (by simpa using hx)))
   have kA : Keeps [] w2 (w2.alloc (.cells #[.slice none 0 0] 24)) := (Keeps.refl [] w2).alloc _
   have kB : Keeps [] (w2.alloc (.cells #[.slice none 0 0] 24)) ((w2.alloc (.cells #[.slice none 0 0] 24)).alloc (.cells #[.slice none 0 0] 84)) := (Keeps.refl [] _).alloc _
   have hp0 := heap_new (w2.alloc (.cells #[.slice none 0 0] 24)) (.cells #[.slice none 0 0] 84)
   rw [World.size_alloc] at hp0
   have ho0 := kB.at_ (heap_new w2 (.cells #[.slice none 0 0] 24)) (by simp)
   have hON : OutNil ((w2.alloc (.cells #[.slice none 0 0] 24)).alloc (.cells #[.slice none 0 0] 84)) w2.heap.size (w2.heap.size + 1) w.heap.size [] := ⟨⟨_, ho0, tab_nil _ _ _ _⟩, hp0⟩
   have H2 := Lib.hid (And.intro (hQ2.keep (kA.trans kB) (by simp) (by simp)) (And.intro hC0 (And.intro hON ((kw2.trans kA).trans kB))))
   have Ho := Lib.hid (show w.heap.size ≤ w2.heap.size from kw2.size)
   clear kA kB hp0 ho0 hON hQ2 hC0 k2 kw2
   go_wp2_with fail
   generalize (w2.alloc (.cells #[.slice none 0 0] 24)).alloc (.cells #[.slice none 0 0] 84) = wb at H2 ⊢
   generalize w2.heap.size = o at H2 Ho ⊢
   go_loopg [] (A.length + B.length) (TLp w q o (o + 1) A B)
   case atStart => exact ⟨0, 0, C0, _, [], none, [], Nat.zero_le _, Nat.zero_le _, rfl, H2.out.1, H2.out.2.1, mgSt_start A B, (fun g e => by cases e), ⟨rfl, fun i g r hg => by simp at hg⟩, Nat.zero_le _, ⟨H2.out.2.2.1, rfl⟩, H2.out.2.2.2⟩
   case round =>
    obtain ⟨i, j, C, v2, G, cur, D, hi, hj, hgk, hQ, hQue, hSt, hne, hG, hDl, hOut, hkw⟩ := hrel
    have hfew := cur_few hSt hne H.out.2.2.2.2.2.2.1 H.out.2.2.2.2.2.2.2.1
    obtain ⟨av, cv, rfl⟩ := hQ.form
    by_cases hC : C = []
    ·subst hC
     have hij : i = A.length ∧ j = B.length := by
      obtain ⟨Ca, Cb, ha, hb, hc⟩ := hQue
      have e : Ca = [] ∧ Cb = [] := by
       rcases hc with ⟨e, -⟩ | ⟨e, -⟩
       ·exact List.append_eq_nil_iff.1 e.symm
       ·exact (List.append_eq_nil_iff.1 e.symm).symm
      obtain ⟨rfl, rfl⟩ := e
      constructor
      ·rcases ha with ⟨_, _, _, e, _⟩ | ⟨e, -⟩
       ·cases e
       ·have := List.getElem?_eq_none_iff.1 e; omega
      ·rcases hb with ⟨_, _, _, e, _⟩ | ⟨e, -⟩
       ·cases e
       ·have := List.getElem?_eq_none_iff.1 e; omega
     have hM : mrg A B = closeG G cur := by
      rw [hij.1, hij.2, List.drop_length, List.drop_length] at hSt
      exact mgSt_end hSt
     have cq := cells_at hQ.q
     have lq := lt_of_at hQ.q
     have Hf := Lib.hid (flushA_spec w wr o (o + 1) D cur G hOut hG (by omega) hfew hkw (by have := Ho.out; omega))
     have HM := Lib.hid hM
     clear hM hij hSt hne hG hDl hOut hkw hQ hQue hfew hgk H2
     go_wp2_with fail
     refine Hf.out.mono ?_
     rintro e w3 ⟨rfl, D', hG', -, hN, k3, -, -⟩
     obtain ⟨⟨vo, hvo, hTo⟩, -⟩ := hN
     have HE := Lib.hid (And.intro hTo (And.intro hG' k3))
     have co := cells_at hvo
     have lo := lt_of_at hvo
     clear cq lq hvo hTo hG' k3
     go_wp2_with fail
     go_ret
     exact ⟨_, D', rfl, HE.out.1, by rw [HM.out]; exact HE.out.2.1, HE.out.2.2⟩
    ·have Hp := Lib.hid (popQ_spec w wr q w.heap.size _ A B i j C hQue hQ hC)
     have hC1 : 0 < C.length := List.length_pos_iff.2 hC
     have hC2 : (0 : Int) < (C.length : Int) := by omega
     have cq := cells_at hQ.q
     have lq := lt_of_at hQ.q
     have HR := Lib.hid (And.intro hi (And.intro hj (And.intro hgk (And.intro hQ (And.intro hSt (And.intro hne (And.intro hG (And.intro hDl (And.intro hOut (And.intro hkw hfew))))))))))
     clear hi hj hgk hQ hQue hSt hne hG hDl hOut hkw hC hC1 H2 hfew
     go_wp2_with fail
     refine Hp.out.mono ?_
     rintro e w3 ⟨c, C1, v3, rfl, hPop, hQ3, k3⟩
     obtain ⟨t, k, T, i', j', r, htT, hr, hcu, hi', hj', hgk', hC1, hNS, hStop, hPush⟩ := pop_pack hPop HR.out.1 HR.out.2.1 H.out.2.2.2.2.1 H.out.2.2.2.2.2.1 HR.out.2.2.2.2.1
     obtain ⟨c0, c1, c2, c3⟩ := c
     have e0 := hcu.t
     have e1 := hcu.k
     dsimp only at e0 e1
     subst e0 e1
     obtain ⟨x2, y2, e2, -, -, -⟩ := row_slice hcu.lab.1
     obtain ⟨x3, y3, e3, -, -, -⟩ := row_slice hcu.smp
     dsimp only at e2 e3
     subst e2 e3
     have fq3 := qfr_of HR.out.2.2.2.1 k3
     have kw3 : Keeps [] w w3 := HR.out.2.2.2.2.2.2.2.2.2.1.after k3 (fun x hx => .inr (by
      rcases List.mem_cons.1 hx with rfl | hx
      ·exact Nat.le_of_eq Hq.out
      ·exact (World.ownsRow.lt HR.out.2.2.2.1.row x (by simpa using hx)).1))
     have hOut3 := HR.out.2.2.2.2.2.2.2.2.1.qfr HR.out.2.2.2.1.q fq3
     obtain ⟨vt, hvt, hTt, hTf, hTl⟩ : ∃ vt, w.cell? ⟨l, c0, none⟩ = some vt ∧ TabAt 76 91 B0 w vt T ∧ (∀ r ∈ T, RowFew r) ∧ T.length ≤ 100 := by
      rcases htT with ⟨rfl, rfl⟩ | ⟨rfl, rfl⟩
      ·exact ⟨va, H.out.1, H.out.2.2.1, H.out.2.2.2.2.2.2.1, lA⟩
      ·exact ⟨vb, H.out.2.1, H.out.2.2.2.1, H.out.2.2.2.2.2.2.2.1, lB⟩
     have ht2 : c0 < 2 := by rcases htT with ⟨rfl, -⟩ | ⟨rfl, -⟩ <;> decide
     have hrf := hTf r (List.mem_of_getElem? hr)
     have kC : Keeps [] w3 (w3.alloc (.cells #[.int .i64 (c0 : Nat), .int .i64 (c1 : Nat), .slice x2 r.1.length y2, .slice x3 r.2.length y3] 81)) := (Keeps.refl [] w3).alloc _
     have H3 := Lib.hid (And.intro (hQ3.keep kC (by simp) (by simp)) (And.intro (hOut3.qfr hQ3.q (qfr_keep kC)) (And.intro (heap_new w3 (.cells #[.int .i64 (c0 : Nat), .int .i64 (c1 : Nat), .slice x2 r.1.length y2, .slice x3 r.2.length y3] 81)) (And.intro (kw3.trans kC) (And.intro (fun (g : Nat) (hg : v3.ownBlock = some g) => Nat.ne_of_lt (World.ownsRow.lt hQ3.row g hg).2) kw3.size)))))
     obtain ⟨vo, cco, hco3⟩ := hOut3.len
     obtain ⟨nb, hnb⟩ := newGrp_of hNS
     have HTl := Lib.hid hTl
     have HT := Lib.hid (And.intro hvt (And.intro hTt (And.intro hTf (And.intro hr (And.intro hcu (And.intro hrf (And.intro hnb (And.intro hStop (And.intro hPush (And.intro hi' (And.intro hj' (And.intro hgk' hC1))))))))))))
     obtain ⟨no, hno⟩ : ∃ no, no = nOut D cur := ⟨_, rfl⟩
     rw [← hno] at hco3
     have Hno := Lib.hid hno
     have co := cells_at hco3
     have lo := lt_of_at hco3
     have qA := assert_cur2
     clear cq lq hPop hQ3 k3 hOut3 fq3 kw3 hvt hTt hTf hr hcu hrf hNS hnb hStop hPush hi' hj' hgk' hC1 kC htT hco3 hno
     go_upto_region 15 with fail
     generalize w3.alloc (.cells #[.int .i64 (c0 : Nat), .int .i64 (c1 : Nat), .slice x2 r.1.length y2, .slice x3 r.2.length y3] 81) = w4 at H3 ⊢
     generalize w3.heap.size = kb at H3 ⊢
     clear co lo qA
     go_cut [59] from 45 to 58 (fun cc wc => cc = .bool nb ∧ Keeps [] w4 wc)
     case first =>
      cases cur with
      | none =>
       have hn0 : no = 0 := Hno.out
       have hnt : nb = true := by
        rcases HT.out.2.2.2.2.2.2.1 with ⟨h, -⟩ | ⟨-, Ls, e, -⟩
        ·exact h
        ·cases e
       subst hn0 hnt
       go_region
       have kd : Keeps [] w4 w4.drew := (Keeps.refl [] w4).drew
       have HD := Lib.hid kd
       clear kd
       generalize w4.drew = w5 at HD ⊢
       go_wp2_with fail
       go_meet
       case rel => exact ⟨rfl, HD.out⟩
      | some g =>
       obtain ⟨P, Ls⟩ := g
       have hOn : OutOn w4 o (o + 1) w.heap.size D P Ls := H3.out.2.1
       obtain ⟨⟨vo2, E, ul, g1, g2, g3, g4⟩, -⟩ := hOn
       obtain ⟨gr, cpr, rfl⟩ := row_some g2 (by omega)
       obtain ⟨xu, yu, eu, -, -, -⟩ := row_slice g4
       subst eu
       have hnE : no = E.length + 1 := by rw [Hno.out, g3.1]; rfl
       subst hnE
       have hEl : E.length ≤ 300 := by
        have := g3.1
        have := HR.out.2.2.2.2.2.2.2.1
        have := HR.out.1
        have := HR.out.2.1
        omega
       have hP1000 := (HR.out.2.2.2.2.2.1 (P, Ls) rfl).2
       have hcell : w4.cell? ⟨gr, E.length * 2, none⟩ = some (.slice xu P.length yu) := by
        have h1 := World.ownsRow.cells g2 (g := gr) rfl (E.length * 2) (.slice xu P.length yu) (by
         have hel2 := rv_len E
         rw [List.getElem?_append_right (by omega), hel2, Nat.sub_self]
         rfl)
        rw [addr_add] at h1
        exact h1
       have lr := World.block_lt_of_cell? _ _ hcell
       obtain ⟨W0, hW0⟩ : ∃ W0, W0 = w4.drew := ⟨_, rfl⟩
       have k0 : Keeps [] w4 W0 := by rw [hW0]; exact (Keeps.refl [] w4).drew
       have F0 : ∀ s : Kept W0, s.val.cell? ⟨o, 0, none⟩ = some (.slice (some ⟨gr, 0, none⟩) (E.length + 1) cpr) := keptCell (cells_at (k0.at_ g1 (by simp)) 0)
       have F1 : ∀ s : Kept W0, s.val.cell? ⟨gr, E.length * 2, none⟩ = some (.slice xu P.length yu) := keptCell ((k0.cell lr (by simp)).trans hcell)
       have F2 : ∀ s : Kept W0, s.val.cell? ⟨kb, 2, none⟩ = some (.slice x2 r.1.length y2) := keptCell (cells_at (k0.at_ H3.out.2.2.1 (by simp)) 2)
       have hw0 : IntKind.i64.wrap ((E.length : Int) + 1 - 1) = (E.length : Int) := by rw [IntWalk.i64_in _ (by omega)]; omega
       have hw1 := IntWalk.i64_in (E.length : Int) (by omega)
       have hw2 : (E.length : Int) < (E.length : Int) + 1 := by omega
       have hw3 : ¬ ((E.length : Int) + 1 = 0) := by omega
       have hw4 : ((E.length : Int) + 1 == 0) = false := by rw [beq_eq_false_iff_ne]; exact hw3
       have hcv := newGrp_cmp HT.out.2.2.2.2.2.2.1
       have HC := Lib.hid (And.intro (go1 k0 g4) (And.intro (go1 (H3.out.2.2.2.1.trans k0) HT.out.2.2.2.2.1.lab.1) (And.intro hP1000 k0)))
       have HW := Lib.hid hW0
       clear g1 g2 g3 g4 hcell lr k0 hW0 hP1000 hEl
       rcases hcv with ⟨hcv, rfl⟩ | ⟨hcv, rfl⟩
       all_goals
        replace hcv := Lib.hid hcv
        refine wp_region_held_drew (S := KeptS W0) (by kernel_rfl) (by rw [← HW.out]; exact keptS (Keeps.refl _ _)) (fun hS => ?_)
        rw [← HW.out] at hS ⊢
        clear HW
        refine tk (v := ?_) 0 rfl ?_ ?_; rotate_left
        ·rintro _ ⟨s, rfl⟩; go_simp; (try with_reducible rfl)
        simp only [Act.put, zz]
        refine tk (v := ?_) 1 rfl ?_ ?_; rotate_left
        ·rintro _ ⟨s, rfl⟩; go_simp; (try with_reducible rfl)
        simp only [Act.put, zz]
        refine tk (v := ?_) 2 rfl ?_ ?_; rotate_left
        ·rintro _ ⟨s, rfl⟩; go_simp; (try with_reducible rfl)
        simp only [Act.put, zz]
        refine tk (v := ?_) 3 rfl ?_ ?_; rotate_left
        ·rintro _ ⟨s, rfl⟩; go_simp; (try with_reducible rfl)
        simp only [Act.put, zz]
        refine tk (v := ?_) 4 rfl ?_ ?_; rotate_left
        ·rintro _ ⟨s, rfl⟩; go_simp; (try with_reducible rfl)
        simp only [Act.put, zz]
        refine tk (v := ?_) 5 rfl ?_ ?_; rotate_left
        ·rintro _ ⟨s, rfl⟩; go_simp; (try with_reducible rfl)
        simp only [Act.put, zz]
        refine tk (v := ?_) 6 rfl ?_ ?_; rotate_left
        ·rintro _ ⟨s, rfl⟩; go_simp; (try with_reducible rfl)
        simp only [Act.put, zz]
        refine tk (v := ?_) 7 rfl ?_ ?_; rotate_left
        ·rintro _ ⟨s, rfl⟩; go_simp; (try with_reducible rfl)
        simp only [Act.put, zz]
        refine tk (v := ?_) 8 rfl ?_ ?_; rotate_left
        ·rintro _ ⟨s, rfl⟩; go_simp; (try with_reducible rfl)
        simp only [Act.put, zz]
        refine tk (v := ?_) 9 rfl ?_ ?_; rotate_left
        ·rintro _ ⟨s, rfl⟩; go_simp; (try with_reducible rfl)
        simp only [Act.put, zz]
        refine tk (v := ?_) 10 rfl ?_ ?_; rotate_left
        ·rintro _ ⟨s, rfl⟩; go_simp; (try with_reducible rfl)
        simp only [Act.put, zz]
        refine tk (v := ?_) 11 rfl ?_ ?_; rotate_left
        ·rintro _ ⟨s, rfl⟩; go_simp; (try with_reducible rfl)
        simp only [Act.put, zz]
        refine rd 12 rfl fun K hK => ?_
        go_simp
        go_at_call 30
        refine (labCompareG_spec W0 0 0 91 _ _ P r.1 HC.out.1 HC.out.2.1 HC.out.2.2.1).mono ?_
        rintro e A1 ⟨rfl, q1⟩
        rw [hcv.out]
        go_simp
        refine hK.out _ _ (keptS q1) (fun hS => ?_)
        clear hK K
        try simp only [Act.put, zz]
        refine tk (v := ?_) 13 rfl ?_ ?_; rotate_left
        ·rintro _ ⟨s, rfl⟩; go_simp; (try with_reducible rfl)
        simp only [Act.put, zz]
        refine tk (v := ?_) 14 rfl ?_ ?_; rotate_left
        ·rintro _ ⟨s, rfl⟩; go_simp; (try with_reducible rfl)
        simp only [Act.put, zz]
        refine wpAnyH_done (by kernel_rfl) ?_ _
        have HD := Lib.hid (HC.out.2.2.2.trans q1)
        clear F0 F1 F2 hS q1
        go_wp2_with fail
        go_meet
        case rel => exact ⟨rfl, HD.out⟩
     case rest =>
     obtain ⟨rfl, k5⟩ := hcut
     obtain ⟨w5, rfl⟩ : ∃ W : World, W = wc := ⟨_, rfl⟩
     have hO5 := H3.out.2.1.qfr H3.out.1.q (qfr_keep k5)
     have H5 := Lib.hid (And.intro (H3.out.1.keep k5 (by simp) (by simp)) (And.intro hO5 (And.intro (k5.at_ H3.out.2.2.1 (by simp)) (H3.out.2.2.2.1.trans k5))))
     have HB0 := Lib.hid H3.out.2.2.2.2
     clear k5 hO5 H3
     go_upto_if 59 with fail
     go_cut [11] from 45 to 69 (fun _ wc => ∃ G' Ls' D', GRel G' D' ∧ D'.length ≤ i' + j' ∧ OutOn wc o (o + 1) w.heap.size D' r.1 Ls' ∧ QAt wc q w.heap.size v3 C1 ∧ wc.heap[kb]? = some (.cells #[.int .i64 (c0 : Nat), .int .i64 (c1 : Nat), .slice x2 r.1.length y2, .slice x3 r.2.length y3] 81 (0, 0)) ∧ Keeps [] w wc ∧ MgSt G' (some (r.1, Ls' ++ [r.2])) (A.drop i') (B.drop j') (mrg A B))
     case first =>
      have hij : i' + j' = i + j + 1 := by
       have q1 := HT.out.2.2.2.2.2.2.2.2.2.1
       have q2 := HT.out.2.2.2.2.2.2.2.2.2.2.1
       have q3 := HT.out.2.2.2.2.2.2.2.2.2.2.2.1
       have q4 := HR.out.1
       have q5 := HR.out.2.1
       omega
      have hng := HT.out.2.2.2.2.2.2.1
      cases nb with
      | false =>
       have HE := Lib.hid (show ∃ G' Ls' D', GRel G' D' ∧ D'.length ≤ i' + j' ∧ OutOn w5 o (o + 1) w.heap.size D' r.1 Ls' ∧ MgSt G' (some (r.1, Ls' ++ [r.2])) (A.drop i') (B.drop j') (mrg A B) by
        rcases hng with ⟨e, -⟩ | ⟨-, Ls, e, hM⟩
        ·cases e
        ·subst e
         exact ⟨G, Ls, D, HR.out.2.2.2.2.2.2.1, by have := HR.out.2.2.2.2.2.2.2.1; omega, H5.out.2.1, hM⟩)
       clear hng hij
       go_wp2_with fail
       go_meet
       case rel =>
        obtain ⟨G', Ls', D', q1, q2, q3, q4⟩ := HE.out
        exact ⟨G', Ls', D', q1, q2, q3, H5.out.1, H5.out.2.2.1, H5.out.2.2.2, q4⟩
      | true =>
       have hM : MgSt (closeG G cur) (some (r.1, [r.2])) (A.drop i') (B.drop j') (mrg A B) := by
        rcases hng with ⟨-, -, hM⟩ | ⟨e, -⟩
        ·exact hM
        ·cases e
       have HM := Lib.hid (And.intro hM hij)
       have hDl : D.length ≤ 1000 := by
        have := HR.out.2.2.2.2.2.2.2.1
        have := HR.out.1
        have := HR.out.2.1
        omega
       have Hf := Lib.hid (flushA_spec w w5 o (o + 1) D cur G H5.out.2.1 HR.out.2.2.2.2.2.2.1 hDl HR.out.2.2.2.2.2.2.2.2.2.2 H5.out.2.2.2 (by have := Ho.out; omega))
       clear hng hij hM hDl
       go_wp2_with fail
       refine Hf.out.mono ?_
       rintro e w6 ⟨rfl, D', hG', hDl', hN6, k6, f6, -⟩
       have hpar : ∃ cs, w5.heap[o + 1]? = some (.cells cs 84 (0, 0)) := H5.out.2.1.par
       obtain ⟨csp, hpar⟩ := hpar
       have hkp : kb ≠ o + 1 := fun e => by
        have h7 := H5.out.2.2.1
        rw [e, hpar] at h7
        have := Option.some.inj h7
        injection this with _ e2 _
        exact absurd e2 (by decide)
       have hQ6 := H5.out.1.ffr hpar f6
       have hb6 := f6 kb _ _ _ (by decide) hkp H5.out.2.2.1
       obtain ⟨⟨vo6, ho6, E6, hr6, he6⟩, hp6⟩ := hN6
       obtain ⟨ao6, co6, rfl, -, -, -⟩ := row_slice hr6
       obtain ⟨W7, hW7⟩ : ∃ W7, W7 = w6.drew := ⟨_, rfl⟩
       have k7 : Keeps [] w6 W7 := by rw [hW7]; exact (Keeps.refl [] w6).drew
       have H7 := Lib.hid (And.intro (hQ6.keep k7 (by simp) (by simp)) (And.intro (k7.at_ hb6 (by simp)) (And.intro (k7.at_ ho6 (by simp)) (And.intro (go1 k7 hr6) (And.intro (he6.keep k7) (And.intro (k7.at_ hp6 (by simp)) (And.intro (k6.trans k7) (And.intro hG' hDl'))))))))
       have hE6 : E6.length ≤ 1000 := by
        have := he6.1
        have := HR.out.2.2.2.2.2.2.2.1
        have := HR.out.1
        have := HR.out.2.1
        omega
       clear hpar hkp hQ6 hb6 ho6 hr6 he6 hp6 k6 f6 k7 hG' hDl'
       go_upto_region 17 with fail
       have s0 : W7.cell? ⟨o, 0, none⟩ = some (.slice ao6 E6.length co6) := cells_at H7.out.2.2.1 0
       have s1 : W7.cell? ⟨kb, 2, none⟩ = some (.slice x2 r.1.length y2) := cells_at H7.out.2.1 2
       have hS : W7.cell? ⟨o, 0, none⟩ = some (.slice ao6 E6.length co6) ∧ W7.cell? ⟨kb, 2, none⟩ = some (.slice x2 r.1.length y2) := ⟨s0, s1⟩
       refine wp_region_last_n 8 (fun X => X.cell? ⟨o, 0, none⟩ = some (.slice ao6 E6.length co6) ∧ X.cell? ⟨kb, 2, none⟩ = some (.slice x2 r.1.length y2)) (by kernel_rfl) (by kernel_rfl) (by kernel_rfl) ?_
       rw [← hW7]
       clear s0 s1 hW7
       simp only [List.take_succ_cons, List.take_zero, List.toList_toArray]
       refine tk (v := ?_) 0 rfl ?_ ?_; rotate_left
       ·rintro _ ⟨s1, s2⟩; go_simp; (try with_reducible rfl)
       simp only [Act.put, zz]
       refine tk (v := ?_) 1 rfl ?_ ?_; rotate_left
       ·rintro _ ⟨s1, s2⟩; go_simp; (try with_reducible rfl)
       simp only [Act.put, zz]
       refine tk (v := ?_) 2 rfl ?_ ?_; rotate_left
       ·rintro _ ⟨s1, s2⟩; go_simp; (try with_reducible rfl)
       simp only [Act.put, zz]
       refine tk (v := ?_) 3 rfl ?_ ?_; rotate_left
       ·rintro _ ⟨s1, s2⟩; go_simp; (try with_reducible rfl)
       simp only [Act.put, zz]
       refine rd 4 rfl fun K hK => ?_
       go_simp
       go_at_call 31
       refine (cloneT_spec W7 0 _ r.1 (go1 H7.out.2.2.2.2.2.2.1 HT.out.2.2.2.2.1.lab.1) HT.out.2.2.2.2.2.1.1 HT.out.2.2.2.2.2.1.2.1).mono ?_
       rintro e A1 ⟨v8, rfl, hown8, k8⟩
       obtain ⟨ao8, cp8, rfl, -, -, -⟩ := row_slice hown8
       have H8 := Lib.hid (And.intro (row_base (b' := 0) hown8 (Nat.zero_le _)) (And.intro (H7.out.1.keep k8 (by simp) (by simp)) (And.intro (k8.at_ H7.out.2.1 (by simp)) (And.intro (k8.at_ H7.out.2.2.1 (by simp)) (And.intro (go1 k8 H7.out.2.2.2.1) (And.intro (H7.out.2.2.2.2.1.keep k8) (And.intro (k8.at_ H7.out.2.2.2.2.2.1 (by simp)) (H7.out.2.2.2.2.2.2.1.trans k8))))))))
       have t8 : A1.cell? ⟨o, 0, none⟩ = some (.slice ao6 E6.length co6) ∧ A1.cell? ⟨kb, 2, none⟩ = some (.slice x2 r.1.length y2) := ⟨cells_at H8.out.2.2.2.1 0, cells_at H8.out.2.2.1 2⟩
       clear hown8 k8
       go_simp
       refine hK.out _ _ t8 (fun hS => ?_)
       clear hK K
       try simp only [Act.put, zz]
       refine tk (v := ?_) 5 rfl ?_ ?_; rotate_left
       ·rintro _ ⟨s1, s2⟩; go_simp; (try with_reducible rfl)
       simp only [Act.put, zz]
       refine rd 6 rfl fun K hK => ?_
       go_simp
       have kA : Keeps [] A1 (A1.alloc (.cells #[.slice ao8 r.1.length cp8, .slice none 0 0] 76)) := (Keeps.refl [] A1).alloc _
       have H9 := Lib.hid (And.intro (heap_new A1 (.cells #[.slice ao8 r.1.length cp8, .slice none 0 0] 76)) (And.intro (go1 kA H8.out.1) (And.intro (H8.out.2.1.keep kA (by simp) (by simp)) (And.intro (kA.at_ H8.out.2.2.1 (by simp)) (And.intro (kA.at_ H8.out.2.2.2.1 (by simp)) (And.intro (go1 kA H8.out.2.2.2.2.1) (And.intro (H8.out.2.2.2.2.2.1.keep kA) (And.intro (kA.at_ H8.out.2.2.2.2.2.2.1 (by simp)) (H8.out.2.2.2.2.2.2.2.trans kA)))))))))
       clear kA t8
       generalize A1.heap.size = nb2 at H9 ⊢
       generalize A1.alloc (.cells #[.slice ao8 r.1.length cp8, .slice none 0 0] 76) = A2 at H9 ⊢
       have t9 : A2.cell? ⟨o, 0, none⟩ = some (.slice ao6 E6.length co6) ∧ A2.cell? ⟨kb, 2, none⟩ = some (.slice x2 r.1.length y2) := ⟨cells_at H9.out.2.2.2.2.1 0, cells_at H9.out.2.2.2.1 2⟩
       go_simp
       refine hK.out _ _ t9 (fun hS => ?_)
       clear hK K
       try simp only [Act.put, zz]
       clear t9
       refine rd 7 rfl fun K hK => ?_
       refine step_appP rfl (.tmp 62) (.tmp 68) 24 rfl w.heap.size 76 ir _ 2 48 Tryz.underlying24 hir hy0 hy1 hy2 rfl (by decide) (.slice ao6 E6.length co6) E6.length (E6.flatMap encRV) rfl H9.out.2.2.2.2.2.1 ⟨nb2, 0, none⟩ 1 1 [.slice ao8 r.1.length cp8, .slice none 0 0] rfl rfl (news_two H9.out.1) (by simp [Value.oneCell']) (by simp only [maxLen]; omega) (by omega) H9.out.2.2.2.2.2.2.2.2.size ?_
       intro v9 A3 hown9 hgrow9
       obtain ⟨ao9, cp9, rfl, -, -, -⟩ := row_slice hown9
       have k9 := keeps_row hgrow9
       have hN9 := H9.out.2.2.2.2.2.1
       have o9 := k9.at_ H9.out.2.2.2.2.1 (fun hm => row_ne_cells hN9 H9.out.2.2.2.2.1 (by decide) o (by simpa using hm) rfl)
       have b9 := k9.at_ H9.out.2.2.2.1 (fun hm => row_ne_cells hN9 H9.out.2.2.2.1 (by decide) kb (by simpa using hm) rfl)
       have p9 := k9.at_ H9.out.2.2.2.2.2.2.2.1 (fun hm => row_ne_cells hN9 H9.out.2.2.2.2.2.2.2.1 (by decide) (o + 1) (by simpa using hm) rfl)
       have q9 := H9.out.2.2.1.keep k9 (fun hm => row_ne_cells hN9 H9.out.2.2.1.q (by decide) q (by simpa using hm) rfl) (rows_ne2 hN9 H9.out.2.2.1.row (by decide))
       have l9 := k9.row H9.out.2.1 (rows_ne2 hN9 H9.out.2.1 (by decide))
       have e9 := H9.out.2.2.2.2.2.2.1.grown hN9 k9 (by decide) (by decide)
       have kw9 : Keeps [] w A3 := keeps_own H9.out.2.2.2.2.2.2.2.2 hgrow9 (fun x hx => (World.ownsRow.lt hN9 x hx).1)
       have T9 := Lib.hid (show A3.cell? ⟨o, 0, none⟩ = some (.slice ao6 E6.length co6) ∧ A3.cell? ⟨kb, 2, none⟩ = some (.slice x2 r.1.length y2) from ⟨cells_at o9 0, cells_at b9 2⟩)
       have H10 := Lib.hid (And.intro hown9 (And.intro o9 (And.intro b9 (And.intro p9 (And.intro q9 (And.intro l9 (And.intro e9 kw9)))))))
       clear hown9 hgrow9 k9 hN9 o9 b9 p9 q9 l9 e9 kw9 H9 H8
       refine hK.out _ _ T9.out (fun hS => ?_)
       clear hK K
       try simp only [Act.put, zz]
       have co : A3.cell? ⟨o, 0, none⟩ = some (.slice ao6 E6.length co6) := T9.out.1
       have fo := free_at H10.out.2.1
       have lo := lt_of_at H10.out.2.1
       refine wpAnyH_done (by kernel_rfl) ?_ _
       refine lastQ_step rfl (fun K hK => ?_)
       go_simp
       refine hK _ _ ?_
       clear hK K
       have ko : Keeps [o] A3 (A3.setCell ⟨o, 0, none⟩ (.slice ao9 (E6.length + 1) cp9)) := (Keeps.refl _ A3).setCell (.inl (by simp)) _
       have hbo := blk_ne H10.out.2.2.1 H10.out.2.1 (by decide)
       have hqo := blk_ne H10.out.2.2.2.2.1.q H10.out.2.1 (by decide)
       have hOn4 : OutOn (A3.setCell ⟨o, 0, none⟩ (.slice ao9 (E6.length + 1) cp9)) o (o + 1) w.heap.size D' r.1 [] := ⟨⟨_, E6, _, heap_setCell_same A3 o 0 _ _ _ H10.out.2.1, ko.row H10.out.1 (fun g hg hm => row_ne_cells H10.out.1 H10.out.2.1 (by decide) g hg (by simpa using hm)), H10.out.2.2.2.2.2.2.1.pt2 H10.out.2.1 (by decide) (by decide) ko, ko.row H10.out.2.2.2.2.2.1 (fun g hg hm => row_ne_cells H10.out.2.2.2.2.2.1 H10.out.2.1 (by decide) g hg (by simpa using hm))⟩, ⟨_, ko.at_ H10.out.2.2.2.1 (by simp), [], World.ownsRow_nil _ _ _ 1, rfl, fun i V L hV => by simp at hV⟩⟩
       have HE := Lib.hid (And.intro hOn4 (And.intro (H10.out.2.2.2.2.1.keep ko (by simpa using hqo) (fun g hg hm => row_ne_cells H10.out.2.2.2.2.1.row H10.out.2.1 (by decide) g hg (by simpa using hm))) (And.intro (ko.at_ H10.out.2.2.1 (by simpa using hbo)) (H10.out.2.2.2.2.2.2.2.after ko (fun x hx => .inr (by obtain rfl := List.mem_singleton.1 hx; exact Ho.out))))))
       clear ko hbo hqo hOn4 co fo lo hS T9 H10
       generalize A3.setCell ⟨o, 0, none⟩ (.slice ao9 (E6.length + 1) cp9) = A4 at HE ⊢
       go_wp2_with fail
       go_meet
       case rel => exact ⟨closeG G cur, [], D', H7.out.2.2.2.2.2.2.2.1, by have := H7.out.2.2.2.2.2.2.2.2; have := HM.out.2; have := HR.out.2.2.2.2.2.2.2.1; omega, HE.out.1, HE.out.2.1, HE.out.2.2.1, HE.out.2.2.2, HM.out.1⟩
     case rest =>
     obtain ⟨G', Ls', D', hG', hDl', hOn, hQ7, hb7, kw7, hM7⟩ := hcut
     obtain ⟨w7, rfl⟩ : ∃ W : World, W = wc := ⟨_, rfl⟩
     obtain ⟨vp, hp7, Vs, hVr, hVl, hVs⟩ := hOn.par
     obtain ⟨ap, cpp, rfl, -, -, -⟩ := row_slice hVr
     have hVn : Vs.length ≤ 2 := by
      have h9 := (cur_few hM7 (fun g e => by cases e; exact ⟨by simp, HT.out.2.2.2.2.2.1.2.1⟩) H.out.2.2.2.2.2.2.1 H.out.2.2.2.2.2.2.2.1 _ rfl).2.1
      simp only [List.length_append, List.length_singleton] at h9
      omega
     have kA : Keeps [] w7 (w7.alloc (.cells #[.slice x3 r.2.length y3] 72)) := (Keeps.refl [] w7).alloc _
     have H7 := Lib.hid (And.intro (heap_new w7 (.cells #[.slice x3 r.2.length y3] 72)) (And.intro (hQ7.keep kA (by simp) (by simp)) (And.intro (kA.at_ hb7 (by simp)) (And.intro (hOn.qfr hQ7.q (qfr_keep kA)) (And.intro (kA.at_ hp7 (by simp)) (And.intro (go1 kA hVr) (And.intro (fun (i : Nat) (V : Value) (L : List SmpB) h8 h9 => go1 kA (hVs i V L h8 h9)) (And.intro hVl (And.intro (kw7.trans kA) (And.intro hG' (And.intro hDl' hM7)))))))))))
     have cp7 := cells_at hp7
     have lp7 := lt_of_at hp7
     have cb7 := cells_at hb7
     have lb7 := lt_of_at hb7
     clear hOn hQ7 hb7 kw7 hM7 hp7 hVr hVl hVs kA hG' hDl'
     go_upto_region 19 with (at_builtin; refine wpList_append_own _ rfl (.tmp 70) (.tmp 74) 84 rfl w.heap.size 72 is_ _ 1 24 Tryz.underlying84 his hx0 hx1 hx2 rfl (by decide) (.slice ap Vs.length cpp) Vs.length Vs rfl H7.out.2.2.2.2.2.1 ⟨w7.heap.size, 0, none⟩ 1 1 [.slice x3 r.2.length y3] rfl rfl (news_one2 H7.out.1) (by simp [Value.oneCell']) (by simp only [maxLen]; omega) (by omega) H7.out.2.2.2.2.2.2.2.2.1.size ?_; intro v10 w10 hown10 hgrow10 hnil10; clear hnil10; obtain ⟨ao10, cp10, rfl, -, -, -⟩ := row_slice hown10; have HX := Lib.hid (And.intro hown10 hgrow10); have pq10 := (keeps_row hgrow10).at_ H7.out.2.2.2.2.1 (fun hm => row_ne_cells H7.out.2.2.2.2.2.1 H7.out.2.2.2.2.1 (by decide) (o + 1) (by simpa using hm) rfl); have cq10 := cells_at pq10; have fq10 := free_at pq10; have lq10 := lt_of_at pq10; clear hown10 hgrow10)
     have hk10 := keeps_row HX.out.2
     have kp : Keeps [o + 1] w10 (w10.setCell ⟨o + 1, 0, none⟩ (.slice ao10 (Vs.length + 1) cp10)) := (Keeps.refl _ w10).setCell (.inl (by simp)) _
     have hw10 : Keeps [] w w10 := keeps_own H7.out.2.2.2.2.2.2.2.2.1 HX.out.2 (fun x hx => (World.ownsRow.lt H7.out.2.2.2.2.2.1 x hx).1)
     have hO11 := H7.out.2.2.2.1.part (L := r.2) H7.out.2.2.2.2.1 H7.out.2.2.2.2.2.1 H7.out.2.2.2.2.2.2.1 H7.out.2.2.2.2.2.2.2.1 (go1 H7.out.2.2.2.2.2.2.2.2.1 HT.out.2.2.2.2.1.smp) HX.out.1 HX.out.2
     have hb10 := hk10.at_ H7.out.2.2.1 (fun hm => row_ne_cells H7.out.2.2.2.2.2.1 H7.out.2.2.1 (by decide) kb (by simpa using hm) rfl)
     have hq10 := H7.out.2.1.keep hk10 (fun hm => row_ne_cells H7.out.2.2.2.2.2.1 H7.out.2.1.q (by decide) q (by simpa using hm) rfl) (rows_ne2 H7.out.2.2.2.2.2.1 H7.out.2.1.row (by decide))
     have H11 := Lib.hid (And.intro hO11 (And.intro (kp.at_ hb10 (by simpa using blk_ne hb10 pq10 (by decide))) (And.intro (hq10.keep kp (by simpa using blk_ne hq10.q pq10 (by decide)) (fun g hg hm => row_ne_cells hq10.row pq10 (by decide) g hg (by simpa using hm))) (hw10.after kp (fun x hx => .inr (by obtain rfl := List.mem_singleton.1 hx; have := Ho.out; omega))))))
     have HG := Lib.hid (And.intro H7.out.2.2.2.2.2.2.2.2.2.1 (And.intro H7.out.2.2.2.2.2.2.2.2.2.2.1 H7.out.2.2.2.2.2.2.2.2.2.2.2))
     clear hk10 kp hw10 hO11 hb10 hq10 pq10 cq10 fq10 lq10 cp7 lp7 cb7 lb7 HX H7
     generalize w10.setCell ⟨o + 1, 0, none⟩ (.slice ao10 (Vs.length + 1) cp10) = w11 at H11 ⊢
     have ck1 : w11.cell? ⟨kb, 1, none⟩ = some (.int .i64 (c1 : Nat)) := cells_at H11.out.2.1 1
     have fk1 := free_at H11.out.2.1
     have lk1 := lt_of_at H11.out.2.1
     have hTlen := (List.getElem?_eq_some_iff.1 HT.out.2.2.2.1).1
     obtain ⟨n1, hn1⟩ : ∃ n1, n1 = c1 + 1 := ⟨_, rfl⟩
     have hTl2 := HTl.out
     have hcw : IntKind.i64.wrap ((c1 : Int) + 1) = (n1 : Int) := by rw [IntWalk.i64_in _ (by omega)]; omega
     have Hn1 := Lib.hid (And.intro hn1 hTlen)
     clear hn1 hTlen
     go_upto_region 20 with fail
     have kk : Keeps [kb] w11 (w11.setCell ⟨kb, 1, none⟩ (.int .i64 (n1 : Nat))) := (Keeps.refl _ w11).setCell (.inl (by simp)) _
     have hqb := blk_ne H11.out.2.2.1.q H11.out.2.1 (by decide)
     have H12 := Lib.hid (And.intro (H11.out.1.qfr H11.out.2.2.1.q (qfr_box H11.out.2.1 kk)) (And.intro (show _ = some (Obj.cells #[.int .i64 (c0 : Nat), .int .i64 (n1 : Nat), .slice x2 r.1.length y2, .slice x3 r.2.length y3] 81 (0, 0)) from heap_setCell_same w11 kb 1 _ _ (.int .i64 (n1 : Nat)) H11.out.2.1) (And.intro (H11.out.2.2.1.keep kk (by simpa using hqb) (fun g hg hm => HB0.out.1 g hg (by simpa using hm))) (H11.out.2.2.2.after kk (fun x hx => .inr (by obtain rfl := List.mem_singleton.1 hx; exact HB0.out.2))))))
     clear kk hqb ck1 fk1 lk1 hcw H11
     generalize w11.setCell ⟨kb, 1, none⟩ (.int .i64 (n1 : Nat)) = w12 at H12 ⊢
     obtain ⟨at2, ct2, evt⟩ := HT.out.2.1.form
     have hvt2 := HT.out.1
     rw [evt] at hvt2
     have lvt := World.block_lt_of_cell? _ _ hvt2
     have cl := (H12.out.2.2.2.cell lvt (by simp)).trans hvt2
     have ll2 := World.block_lt_of_cell? _ _ cl
     have cb := cells_at H12.out.2.1
     have lb := lt_of_at H12.out.2.1
     have hc02 : (c0 : Int) < 2 := by omega
     go_region
     have kd : Keeps [] w12 w12.drew := (Keeps.refl [] w12).drew
     have H13 := Lib.hid (And.intro (H12.out.1.qfr H12.out.2.2.1.q (qfr_keep kd)) (And.intro (kd.at_ H12.out.2.1 (by simp)) (And.intro (H12.out.2.2.1.keep kd (by simp) (by simp)) (H12.out.2.2.2.trans kd))))
     clear cl ll2 cb lb kd H12
     generalize w12.drew = w13 at H13 ⊢
     have hfin : ∀ (W : World) (C' : List CurV) (v' : Value), QueOk w A B i' j' C' → QAt W q w.heap.size v' C' → OutOn W o (o + 1) w.heap.size D' r.1 (Ls' ++ [r.2]) → Keeps [] w W → TLp w q o (o + 1) A B ((A.length - i') + (B.length - j')) W := fun W C' v' a1 a2 a3 a4 => ⟨i', j', C', v', G', some (r.1, Ls' ++ [r.2]), D', HT.out.2.2.2.2.2.2.2.2.2.1, HT.out.2.2.2.2.2.2.2.2.2.2.1, rfl, a2, a1, HG.out.2.2, (fun g e => by cases e; exact ⟨by simp, HT.out.2.2.2.2.2.1.2.1⟩), HG.out.1, HG.out.2.1, a3, a4⟩
     have HF := Lib.hid hfin
     clear hfin
     by_cases hnx : n1 < T.length
     ·have hnx1 : (n1 : Int) < (T.length : Int) := by omega
      obtain ⟨b2, off2, z1, z2, eb2, hb2, d0, d1, q1, q2⟩ := (show TabAt 76 91 B0 w (.slice at2 T.length ct2) T from by rw [← evt]; exact HT.out.2.1).at_ n1 hnx
      subst eb2
      have hr2 : T[c1 + 1]? = some T[n1] := by rw [← Hn1.out.1]; exact List.getElem?_eq_getElem hnx
      have hfew2 := HT.out.2.2.1 T[n1] (List.getElem_mem hnx)
      generalize T[n1] = r2 at d0 d1 q1 q2 hr2 hfew2
      obtain ⟨xz1, yz1, ez1, -, -, -⟩ := row_slice q1
      obtain ⟨xz2, yz2, ez2, -, -, -⟩ := row_slice q2
      subst ez1 ez2
      have HZ := Lib.hid (And.intro q1 (And.intro q2 (And.intro hr2 hfew2)))
      have cl := (H13.out.2.2.2.cell lvt (by simp)).trans hvt2
      have ll2 := World.block_lt_of_cell? _ _ cl
      have cz1 := (H13.out.2.2.2.cell hb2 (by simp)).trans d0
      have cz2 := (H13.out.2.2.2.cell hb2 (by simp)).trans d1
      have lz := World.block_lt_of_cell? _ _ cz1
      have cb0 : w13.cell? ⟨kb, 0, none⟩ = some (.int .i64 (c0 : Nat)) := cells_at H13.out.2.1 0
      have cb1 : w13.cell? ⟨kb, 1, none⟩ = some (.int .i64 (n1 : Nat)) := cells_at H13.out.2.1 1
      have cb2 : w13.cell? ⟨kb, 2, none⟩ = some (.slice x2 r.1.length y2) := cells_at H13.out.2.1 2
      have cb3 : w13.cell? ⟨kb, 3, none⟩ = some (.slice x3 r.2.length y3) := cells_at H13.out.2.1 3
      have fb := free_at H13.out.2.1
      have lb := lt_of_at H13.out.2.1
      clear d0 d1 hb2 q1 q2 hr2 hfew2
      go_upto_region 21 with fail
      go_region
      have kk : Keeps [kb] w13 (((w13.setCell ⟨kb, 2, none⟩ (.slice xz1 r2.1.length yz1)).setCell ⟨kb, 3, none⟩ (.slice xz2 r2.2.length yz2)).drew) := (((Keeps.refl _ w13).setCell (.inl (by simp)) _).setCell (.inl (by simp)) _).drew
      have b1 := heap_setCell_same w13 kb 2 _ _ (.slice xz1 r2.1.length yz1) H13.out.2.1
      have b2 := heap_setCell_same _ kb 3 _ _ (.slice xz2 r2.2.length yz2) b1
      have hqb := blk_ne H13.out.2.2.1.q H13.out.2.1 (by decide)
      have H14 := Lib.hid (And.intro (H13.out.1.qfr H13.out.2.2.1.q (qfr_box H13.out.2.1 kk)) (And.intro (show (World.drew ((w13.setCell ⟨kb, 2, none⟩ (.slice xz1 r2.1.length yz1)).setCell ⟨kb, 3, none⟩ (.slice xz2 r2.2.length yz2))).heap[kb]? = some (Obj.cells #[.int .i64 (c0 : Nat), .int .i64 (n1 : Nat), .slice xz1 r2.1.length yz1, .slice xz2 r2.2.length yz2] 81 (0, 0)) from b2) (And.intro (H13.out.2.2.1.keep kk (by simpa using hqb) (fun g hg hm => HB0.out.1 g hg (by simpa using hm))) (H13.out.2.2.2.after kk (fun x hx => .inr (by obtain rfl := List.mem_singleton.1 hx; exact HB0.out.2))))))
      clear kk b1 b2 hqb cl ll2 cz1 cz2 lz cb0 cb1 cb2 cb3 fb lb H13
      generalize ((w13.setCell ⟨kb, 2, none⟩ (.slice xz1 r2.1.length yz1)).setCell ⟨kb, 3, none⟩ (.slice xz2 r2.2.length yz2)).drew = w14 at H14 ⊢
      have cb := cells_at H14.out.2.1
      have lb := lt_of_at H14.out.2.1
      have hpk := HT.out.2.2.2.2.2.2.2.2.1 ((c0, n1, Value.slice xz1 r2.1.length yz1, Value.slice xz2 r2.2.length yz2) : CurV) r2 HZ.out.2.2.1 ⟨rfl, Hn1.out.1, ⟨HZ.out.1, HZ.out.2.2.2.2.1⟩, HZ.out.2.1⟩
      obtain ⟨Ca2, Cb2, hCa, hCb, hcc⟩ := hpk
      have Hpush := Lib.hid (pushQ_spec w w14 q w.heap.size v3 A B i' j' Ca2 Cb2 C1 _ H14.out.2.2.2 (Nat.le_of_eq Hq.out) (Nat.le_refl _) H14.out.2.2.2.size H14.out.2.2.1 hCa hCb hcc)
      clear hCa hCb hcc
      go_wp2_with fail
      refine Hpush.out.mono ?_
      rintro e w15 ⟨rfl, v', C', hQ', hA', k15, f15⟩
      have HE := Lib.hid (HF.out w15 C' v' hQ' hA' (H14.out.1.qfr H14.out.2.2.1.q f15) k15)
      clear cb lb hQ' hA' k15 f15
      go_wp2_with fail
      go_roundg ((A.length - i') + (B.length - j'))
      case measure => have := HR.out.2.2.1; have := HT.out.2.2.2.2.2.2.2.2.2.2.2.1; omega
      case rel => exact HE.out
     ·have hnx1 : ¬ (n1 : Int) < (T.length : Int) := by omega
      have HE := Lib.hid (HF.out w13 C1 v3 (HT.out.2.2.2.2.2.2.2.1 (by rw [← Hn1.out.1]; exact hnx)) H13.out.2.2.1 H13.out.1 H13.out.2.2.2)
      go_wp2_with fail
      go_roundg ((A.length - i') + (B.length - j'))
      case measure => have := HR.out.2.2.1; have := HT.out.2.2.2.2.2.2.2.2.2.2.2.1; omega
      case rel => exact HE.out
end Go.Proofs.YtgcfkhcogllgfaaGreatDoor
