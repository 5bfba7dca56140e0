/-
  Package barographlaw15: Points, walked: at most 8 points of the law's argument, the program's and the document's.
  The library's variable internal/bytealg.MaxLen holds some number.
-/
import Derived.Test.YtgdkceeonnfejaaGreatDoorHeadChkG
import Derived.Test.YtgdkceeonnfejaaGreatDoorTabMk
namespace Go.Proofs.YtgdkceeonnfejaaGreatDoor
set_option maxRecDepth 100000
set_option maxHeartbeats 4000000
set_option linter.unusedSimpArgs false
open Go Go.RowKit Go.Maps
def timeP (t : Int) : Int := IntKind.i64.wrap (t.tmod 1000 - 2)
noncomputable def ptOf (x : One14) : PtB := (if x.1 = 255 then [] else labN x.1, (timeP x.2.1, x.2.2))
def PtsG (B : Nat) (tp tl : TypeId) (w : World) (v : Value) (L : List PtB) : Prop := ∃ QS : List (Value × SmpB), QS.map (·.2) = L.map (·.2) ∧ w.ownsRow B tp 3 v L.length (QS.flatMap encPt) ∧ ∀ i (h : i < QS.length) (h' : i < L.length), w.ownsRow 0 tl 2 QS[i].1 L[i].1.length (L[i].1.flatMap encPB)
theorem PtsG.pts {B : Nat} {w : World} {v : Value} {L : List PtB} (h : PtsG B 89 149 w v L) : PtsAt w v L := by
 obtain ⟨QS, h1, h2, h3⟩ := h
 exact ⟨QS, h1, row_base h2 (Nat.zero_le _), h3⟩
section
variable {B : Nat} {tp tl : TypeId} {w w' : World} {v : Value} {L : List PtB}
theorem PtsG.keep (h : PtsG B tp tl w v L) (k : Keeps [] w w') : PtsG B tp tl w' v L := by
 obtain ⟨QS, h1, h2, h3⟩ := h
 exact ⟨QS, h1, go1 k h2, fun i hi hi' => go1 k (h3 i hi hi')⟩
instance go1PtsG : Go1 w w' (PtsG B tp tl w v L) (PtsG B tp tl w' v L) := ⟨fun k h => h.keep k⟩
theorem PtsG.fr {X : List Nat} {w0 : World} (h : PtsG B tp tl w v L) (f : HFr X w0 w w') (h1 : Calm tp) (h2 : Calm tl) : PtsG B tp tl w' v L := by
 obtain ⟨QS, e, g1, g2⟩ := h
 exact ⟨QS, e, f.row g1 h1, fun i hi hi' => f.row (g2 i hi hi') h2⟩
theorem PtsG.form (h : PtsG B tp tl w v L) : ∃ a c, v = .slice a L.length c := by
 obtain ⟨QS, h1, h2, h3⟩ := h
 obtain ⟨a, c, e, -, -, -⟩ := row_slice h2
 exact ⟨a, c, e⟩
theorem pts_made (h : w.ownsRow B tp 3 v 0 []) : PtsG B tp tl w v [] := ⟨[], rfl, h, fun i hi => by simp at hi⟩
theorem PtsG.at_ {a : Option Addr} {n c : Nat} (h : PtsG B tp tl w (.slice a n c) L) (k : Nat) (hk : k < L.length) : ∃ b off u, a = some ⟨b, off, none⟩ ∧ b < w.heap.size ∧ w.cell? ⟨b, off + k * 3, none⟩ = some u ∧ w.cell? ⟨b, off + k * 3 + 1, none⟩ = some (.int .i64 L[k].2.1) ∧ w.cell? ⟨b, off + k * 3 + 2, none⟩ = some (.int .u64 L[k].2.2) ∧ w.ownsRow 0 tl 2 u L[k].1.length (L[k].1.flatMap encPB) := by
 obtain ⟨QS, h1, h2, h3⟩ := h
 have hl : QS.length = L.length := by have := congrArg List.length h1; simpa using this
 have hk' : k < QS.length := by omega
 have h2' : w.ownsRow B tp 3 (.slice a n c) QS.length (QS.flatMap encPt) := by rw [hl]; exact h2
 obtain ⟨b, off, e, _, hb, hc⟩ := sf_at (sliceFrom_row (enc := encPt) (fun _ => rfl) h2') k hk'
 have e2 : QS[k].2 = L[k].2 := by
  have := congrArg (fun l => l[k]?) h1
  simpa [hk', hk] using this
 refine ⟨b, off, QS[k].1, e, hb, by simpa [encPt] using hc 0 (by decide), ?_, ?_, h3 k hk' hk⟩
 ·have := hc 1 (by decide)
  rw [← Nat.add_assoc] at this
  simpa [encPt, e2] using this
 ·have := hc 2 (by decide)
  rw [← Nat.add_assoc] at this
  simpa [encPt, e2] using this
end
theorem PtsG.snoc {B : Nat} {tp tl : TypeId} {w w' : World} {v v' u : Value} {L : List PtB} {QS : List (Value × SmpB)} {P : List PairB} {t y : Int} (h1 : QS.map (·.2) = L.map (·.2)) (h2 : w.ownsRow B tp 3 v L.length (QS.flatMap encPt)) (h3 : ∀ i (h : i < QS.length) (h' : i < L.length), w.ownsRow 0 tl 2 QS[i].1 L[i].1.length (L[i].1.flatMap encPB)) (hu : w.ownsRow 0 tl 2 u P.length (P.flatMap encPB)) (hr : w'.ownsRow B tp 3 v' (L.length + 1) (QS.flatMap encPt ++ [u, .int .i64 t, .int .u64 y])) (k : Keeps v.ownBlock.toList w w') (hne : tp ≠ tl) : PtsG B tp tl w' v' (L ++ [(P, (t, y))]) := by
 have hl : QS.length = L.length := by have := congrArg List.length h1; simpa using this
 refine ⟨QS ++ [(u, (t, y))], by rw [List.map_append, List.map_append, h1]; rfl, by rw [List.length_append, List.flatMap_append]; exact hr, fun i hi hi' => ?_⟩
 by_cases hlt : i < L.length
 ·rw [List.getElem_append_left (by omega), List.getElem_append_left hlt]
  exact k.row (h3 i (by omega) hlt) (rows_ne2 h2 (h3 i (by omega) hlt) hne)
 ·have e : i = L.length := by rw [List.length_append] at hi'; simp at hi'; omega
  subst e
  rw [List.getElem_append_right (by omega), List.getElem_append_right (by omega)]
  simp only [hl, Nat.sub_self, List.getElem_cons_zero]
  exact k.row hu (rows_ne2 h2 hu hne)
theorem PtsG.box {B : Nat} {tp tl T : TypeId} {w w' : World} {v u : Value} {L : List PtB} {n : Nat} {xs : List Value} (h : PtsG B tp tl w v L) (ho : w.ownsRow B T 3 u n xs) (k : Keeps u.ownBlock.toList w w') (h1 : T ≠ tp) (h2 : T ≠ tl) : PtsG B tp tl w' v L := by
 obtain ⟨QS, e, g1, g2⟩ := h
 exact ⟨QS, e, k.row g1 (rows_ne2 ho g1 h1), fun i hi hi' => k.row (g2 i hi hi') (rows_ne2 ho (g2 i hi hi') h2)⟩
theorem infoPtH : (Tryz.prog.info? 89).map (fun i => (i.zero, i.size, i.bytes)) = some (some (.agg #[.slice none 0 0, .int .i64 0, .int .u64 0]), 3, 40) := by kernel_rfl
theorem infoPtR : (Tryz.prog.info? 44).map (fun i => (i.zero, i.size, i.bytes)) = some (some (.agg #[.slice none 0 0, .int .i64 0, .int .u64 0]), 3, 40) := by kernel_rfl
theorem news_3 {w : World} {g : Nat} {x y z : Value} {t : TypeId} (hg : w.heap[g]? = some (.cells #[x, y, z] t (0, 0))) : ∀ j u, ([x, y, z] : List Value)[j]? = some u → w.cell? ((⟨g, 0, none⟩ : Addr).add j) = some u := by
 intro j u hu
 have hadd : (⟨g, 0, none⟩ : Addr).add j = ⟨g, j, none⟩ := by unfold Addr.add; split <;> simp_all
 rw [hadd, cells_at hg]
 match j with
 | 0 => exact hu
 | 1 => exact hu
 | 2 => exact hu
 | n + 3 => simp at hu
def PtsRel (w : World) (L : List One14) (m gk : Nat) (u4 u5 u6 : Value) (wr : World) : Prop :=
 ∃ i, i ≤ m ∧ gk = m - i ∧ u6 = .int .i64 (i : Nat) ∧ PtsG w.heap.size 89 149 wr u4 ((L.take i).map ptOf) ∧ PtsG w.heap.size 44 152 wr u5 ((L.take i).map ptOf) ∧ Keeps [] w wr
def PtsPost (w : World) (L : List One14) (e : Ending) (w' : World) : Prop :=
 ∃ va vb, e = .returned (.tuple #[va, vb]) ∧ PtsG w.heap.size 89 149 w' va ((L.take 8).map ptOf) ∧ PtsG w.heap.size 44 152 w' vb ((L.take 8).map ptOf) ∧ Keeps [] w w'
def PtCut (P : List PairB) (wn : World) (u7 : Value) (wc : World) : Prop := wc.ownsRow 0 149 2 u7 P.length (P.flatMap encPB) ∧ wc = wn
theorem points_spec (w : World) (hv : LibVar w) (v : Value) (L : List One14) (h : SliceArg 3 encO14 w v L) (hb : ∀ x ∈ L, 0 ≤ x.1) :
  Calls Tryz.prog 10 #[v] w (PtsPost w L) := by
 obtain ⟨ip, hip, hp0, hp1, hp2⟩ := info_parts infoPtH
 obtain ⟨ir, hir, hr0, hr1, hr2⟩ := info_parts infoPtR
 have Hf := Lib.hid (And.intro h (And.intro hb hv))
 obtain ⟨ao, cap, rfl, hlm, -⟩ := h
 unfold maxLen at hlm
 obtain ⟨m, hm⟩ : ∃ m : Nat, m = min L.length 8 := ⟨_, rfl⟩
 have hm1 : m ≤ L.length := by omega
 have hm2 : m ≤ 8 := by omega
 have hm3 : m = L.length ∨ m = 8 := by omega
 have Hm := Lib.hid hm
 clear hm hb hv
 have kA : Keeps [] w (w.alloc (.cells #[] 89)) := (Keeps.refl [] w).alloc _
 have kB : Keeps [] (w.alloc (.cells #[] 89)) ((w.alloc (.cells #[] 89)).alloc (.cells #[] 44)) := (Keeps.refl [] _).alloc _
 have mA := own_made w w.heap.size 89 3 (Nat.le_refl _)
 have mB := own_made (w.alloc (.cells #[] 89)) w.heap.size 44 3 (by simp)
 have hzA : (w.alloc (.cells #[] 89)).heap.size = w.heap.size + 1 := by simp
 rw [hzA] at mB
 have H0 := Lib.hid (And.intro (pts_made (tl := 149) (go1 kB mA)) (And.intro (pts_made (tl := 152) mB) (kA.trans kB)))
 clear kA kB mA mB hzA
 go_enter Tryz.func10, Tryz.ntmps10
 go_wp2_with fail
 go_loopg [4, 5, 6] m (PtsRel w L m)
 case atStart => exact ⟨0, Nat.zero_le _, rfl, rfl, H0.out.1, H0.out.2.1, H0.out.2.2⟩
 case round =>
  obtain ⟨i, hi, hgk, rfl, hra, hrb, hkw⟩ := hrel
  have Hg := Lib.hid hgk
  clear hgk H0
  have hti : (L.take i).length = i := by rw [List.length_take]; omega
  obtain ⟨a4, c4, e4⟩ := hra.form
  obtain ⟨a5, c5, e5⟩ := hrb.form
  rw [List.length_map, hti] at e4 e5
  subst e4 e5
  by_cases hlt : i < m
  ·have hltL : i < L.length := by omega
   obtain ⟨b, off, cap', ea, hbW, d0, d1, d2⟩ := o14_at (Hf.out.1.keep hkw) i hltL
   injection ea with ea _ ec
   subst ea ec
   have hlt1 : (i : Int) < (L.length : Int) := by omega
   have hlt2 : (i : Int) < 8 := by omega
   have hx0 := Hf.out.2.1 L[i] (List.getElem_mem hltL)
   have Htk := Lib.hid (show (L.take (i + 1)).map ptOf = (L.take i).map ptOf ++ [ptOf L[i]] from by rw [List.take_succ_eq_append_getElem hltL, List.map_append]; rfl)
   generalize L[i] = x at d0 d1 d2 hx0 Htk
   obtain ⟨xn, xt, xv⟩ := x
   dsimp only at d0 d1 d2 hx0
   have H1 := Lib.hid (And.intro hra (And.intro hrb (And.intro hkw (go1 hkw Hf.out.2.2))))
   have Hd := Lib.hid (And.intro d0 (And.intro d1 (And.intro d2 hbW)))
   clear hra hrb hkw
   go_wp2_with fail
   refine (labelsO_spec wr H1.out.2.2.2 xn hx0).mono ?_
   rintro e w2 ⟨v2, rfl, hl2, hk2⟩
   have H2 := Lib.hid (And.intro hl2 (And.intro (go1 hk2 H1.out.1) (And.intro (go1 hk2 H1.out.2.1) (H1.out.2.2.1.trans hk2))))
   have d0 := (hk2.cell (i := off + i * 3) Hd.out.2.2.2 (by simp)).trans Hd.out.1
   have d1 := (hk2.cell (i := off + i * 3 + 1) Hd.out.2.2.2 (by simp)).trans Hd.out.2.1
   have d2 := (hk2.cell (i := off + i * 3 + 2) Hd.out.2.2.2 (by simp)).trans Hd.out.2.2.1
   have hb2 := hk2.lt Hd.out.2.2.2
   obtain ⟨a2, c2, rfl, -, -, -⟩ := row_slice hl2
   clear hl2 hk2 H1 Hd
   obtain ⟨P, hP⟩ : ∃ P, P = if xn = 255 then [] else labN xn := ⟨_, rfl⟩
   have hPl : P.length ≤ 10 := by
    rw [hP]
    split
    ·simp
    ·exact Nat.le_trans (labN_len _) (by decide)
   have HP := Lib.hid hP
   clear hP
   go_upto_if 32 with fail
   go_cut [7] from 33 to 33 (PtCut P w2)
   case first =>
    by_cases hn : xn = 255
    ·have hR := Lib.hid (show PtCut P w2 (.slice none 0 0) w2 from ⟨by rw [HP.out, if_pos hn]; exact World.ownsRow_nil _ _ _ _, rfl⟩)
     go_wp2_with fail
     go_meet
     exact hR.out
    ·have hR := Lib.hid (show PtCut P w2 (.slice a2 (labN xn).length c2) w2 from ⟨by rw [HP.out, if_neg hn]; exact H2.out.1, rfl⟩)
     go_wp2_with fail
     go_meet
     exact hR.out
   case rest =>
    obtain ⟨hrow, rfl⟩ := hcut
    obtain ⟨a7, c7, rfl, -, -, -⟩ := row_slice hrow
    obtain ⟨W3, hW3⟩ : ∃ W3, W3 = wc.drew := ⟨_, rfl⟩
    have k3 : Keeps [] wc W3 := by rw [hW3]; exact (Keeps.refl [] wc).drew
    have H3 := Lib.hid (And.intro (go1 k3 hrow) (And.intro (go1 k3 H2.out.2.1) (And.intro (go1 k3 H2.out.2.2.1) (H2.out.2.2.2.trans k3))))
    have D1 : ∀ s : Kept W3, s.val.cell? ⟨b, off + i * 3 + 1, none⟩ = some (.int .i64 xt) := fun s => ((k3.trans s.property).cell hb2 (by simp)).trans d1
    have D2 : ∀ s : Kept W3, s.val.cell? ⟨b, off + i * 3 + 2, none⟩ = some (.int .u64 xv) := fun s => ((k3.trans s.property).cell hb2 (by simp)).trans d2
    have L1 : ∀ s : Kept W3, b < s.val.heap.size := fun s => (k3.trans s.property).lt hb2
    have HW := Lib.hid hW3
    clear k3 hW3 hrow H2 d0 d1 d2 hb2
    go_upto_region 9 with fail
    refine wp_region_last_n 14 (KeptS W3) (by kernel_rfl) (by kernel_rfl) (by kernel_rfl) ?_
    rw [← HW.out]
    have hS : KeptS W3 W3 := keptS (Keeps.refl _ _)
    simp only [List.take_succ_cons, List.take_zero, List.toList_toArray]
    refine tk (v := ?_) 0 rfl ?_ ?_; rotate_left
    ·rintro _ ⟨s, rfl⟩; go_simp; (try with_reducible rfl)
    simp only [Act.put, zz]
    refine tk (v := ?_) 1 rfl ?_ ?_; rotate_left
    ·rintro _ ⟨s, rfl⟩; go_simp; (try with_reducible rfl)
    simp only [Act.put, zz]
    refine tk (v := ?_) 2 rfl ?_ ?_; rotate_left
    ·rintro _ ⟨s, rfl⟩; go_simp; (try with_reducible rfl)
    simp only [Act.put, zz]
    refine tk (v := ?_) 3 rfl ?_ ?_; rotate_left
    ·rintro _ ⟨s, rfl⟩; go_simp; (try with_reducible rfl)
    simp only [Act.put, zz]
    refine tk (v := ?_) 4 rfl ?_ ?_; rotate_left
    ·rintro _ ⟨s, rfl⟩; go_simp; (try with_reducible rfl)
    simp only [Act.put, zz]
    refine tk (v := ?_) 5 rfl ?_ ?_; rotate_left
    ·rintro _ ⟨s, rfl⟩; go_simp; (try with_reducible rfl)
    simp only [Act.put, zz]
    refine tk (v := ?_) 6 rfl ?_ ?_; rotate_left
    ·rintro _ ⟨s, rfl⟩; go_simp; (try with_reducible rfl)
    simp only [Act.put, zz]
    refine tk (v := ?_) 7 rfl ?_ ?_; rotate_left
    ·rintro _ ⟨s, rfl⟩; go_simp; (try with_reducible rfl)
    simp only [Act.put, zz]
    refine tk (v := ?_) 8 rfl ?_ ?_; rotate_left
    ·rintro _ ⟨s, rfl⟩; go_simp; (try with_reducible rfl)
    simp only [Act.put, zz]
    refine tk (v := ?_) 9 rfl ?_ ?_; rotate_left
    ·rintro _ ⟨s, rfl⟩; go_simp; (try with_reducible rfl)
    simp only [Act.put, zz]
    refine tk (v := ?_) 10 rfl ?_ ?_; rotate_left
    ·rintro _ ⟨s, rfl⟩; go_simp; (try with_reducible rfl)
    simp only [Act.put, zz]
    refine tk (v := ?_) 11 rfl ?_ ?_; rotate_left
    ·rintro _ ⟨s, rfl⟩; go_simp; (try with_reducible rfl)
    simp only [Act.put, zz]
    rw [show IntKind.i64.wrap (xt.tmod 1000 - 2) = timeP xt from rfl]
    generalize hty : timeP xt = ty
    have Hty := Lib.hid hty
    clear hty
    refine tk (v := ?_) 12 rfl ?_ ?_; rotate_left
    ·rintro _ ⟨s, rfl⟩; go_simp; (try with_reducible rfl)
    simp only [Act.put, zz]
    refine rd 13 rfl fun K hK => ?_
    go_simp
    have kA : Keeps [] W3 (W3.alloc (.cells #[.int .i64 0, .int .u64 0] 42)) := (Keeps.refl [] W3).alloc _
    have H4 := Lib.hid (And.intro (heap_new W3 (.cells #[.int .i64 0, .int .u64 0] 42)) (And.intro kA (go1 kA H3.out)))
    have hwA : w.heap.size ≤ W3.heap.size := H3.out.2.2.2.size
    obtain ⟨xb, hxb⟩ : ∃ xb, xb = W3.heap.size := ⟨_, rfl⟩
    rw [← hxb] at H4 ⊢
    have hxb2 : W3.heap.size ≤ xb := by omega
    clear hxb
    generalize W3.alloc (.cells #[.int .i64 0, .int .u64 0] 42) = A1 at H4 kA ⊢
    go_simp
    refine hK.out _ _ (keptS kA) (fun hS => ?_)
    clear hK K
    try simp only [Act.put, zz]
    have z0 : A1.cell? ⟨xb, 0, none⟩ = some (.int .i64 0) := cells_at H4.out.1 0
    have z1 : A1.cell? ⟨xb, 1, none⟩ = some (.int .u64 0) := cells_at H4.out.1 1
    have zf := free_at H4.out.1
    have zl := lt_of_at H4.out.1
    refine wpAnyH_done (by kernel_rfl) ?_ _
    refine lastQ_step rfl (fun K hK => ?_)
    go_simp
    refine hK _ _ ?_
    clear hK K
    clear z0 z1 zf zl hS D1 D2 L1 HW
    have kS : Keeps [] W3 ((A1.setCell ⟨xb, 0, none⟩ (.int .i64 ty)).setCell ⟨xb, 1, none⟩ (.int .u64 xv)) := (kA.setCell (.inr hxb2) _).setCell (.inr hxb2) _
    have n4 : (A1.setCell ⟨xb, 0, none⟩ (.int .i64 ty)).heap[xb]? = some (.cells #[.int .i64 ty, .int .u64 0] 42 (0, 0)) := (heap_cell_same (i := 0) H4.out.1 _).trans (by simp)
    have n5 : ((A1.setCell ⟨xb, 0, none⟩ (.int .i64 ty)).setCell ⟨xb, 1, none⟩ (.int .u64 xv)).heap[xb]? = some (.cells #[.int .i64 ty, .int .u64 xv] 42 (0, 0)) := (heap_cell_same (i := 1) n4 _).trans (by simp)
    have H5 := Lib.hid (And.intro n5 (go1 kS H3.out))
    clear kS n4 n5 kA H4 H3
    generalize (A1.setCell ⟨xb, 0, none⟩ (.int .i64 ty)).setCell ⟨xb, 1, none⟩ (.int .u64 xv) = A2 at H5 ⊢
    have hlm2 : ((L.take i).map ptOf).length = i := by rw [List.length_map]; exact hti
    obtain ⟨QA, qa1, qa2, qa3⟩ := H5.out.2.2.1
    have qa2' := qa2
    rw [hlm2] at qa2'
    have HA := Lib.hid (And.intro qa1 (And.intro qa2 (And.intro qa3 qa2')))
    clear qa1 qa2 qa3 qa2'
    have x0 : A2.cell? ⟨xb, 0, none⟩ = some (.int .i64 ty) := cells_at H5.out.1 0
    have x1 : A2.cell? ⟨xb, 1, none⟩ = some (.int .u64 xv) := cells_at H5.out.1 1
    have xl := lt_of_at H5.out.1
    have hwA2 : w.heap.size ≤ A2.heap.size := H5.out.2.2.2.2.size
    go_upto_region 11 with (at_builtin; refine wpList_append_own _ rfl (.tmp 46) (.tmp 50) 31 rfl w.heap.size 89 ip _ 3 40 Tryz.underlying31 hip hp0 hp1 hp2 rfl (by decide) (.slice a4 i c4) i (QA.flatMap encPt) rfl (HA.out.2.2.2.alloc _) ⟨A2.heap.size, 0, none⟩ 1 1 [.slice a7 P.length c7, .int .i64 ty, .int .u64 xv] rfl rfl (news_3 (heap_new A2 _)) (by simp [Value.oneCell']) (by simp only [maxLen]; omega) (by omega) (by rw [World.size_alloc]; omega) ?_; intro v9 w9 hown9 hgrow9 hnil9; clear hnil9; obtain ⟨ao9, cp9, rfl, -, -, -⟩ := row_slice hown9; skip)
    clear x0 x1 xl
    have kN : Keeps [] A2 (A2.alloc (.cells #[.slice a7 P.length c7, .int .i64 ty, .int .u64 xv] 89)) := (Keeps.refl [] A2).alloc _
    have hgr := keeps_row hgrow9
    have hrA := go1 kN HA.out.2.2.2
    have hA9 : PtsG w.heap.size 89 149 w9 (.slice ao9 (i + 1) cp9) ((L.take i).map ptOf ++ [(P, (ty, xv))]) := PtsG.snoc HA.out.1 (go1 kN HA.out.2.1) (fun k hk hk' => go1 kN (HA.out.2.2.1 k hk hk')) (go1 kN H5.out.2.1) (by rw [hlm2]; exact hown9) hgr (by decide)
    have H9 := Lib.hid (And.intro hA9 (And.intro ((go1 kN H5.out.2.2.2.1).box hrA hgr (by decide) (by decide)) (And.intro (hgr.at_ (go1 kN H5.out.1) (fun hm => row_ne_cells hrA (kN.at_ H5.out.1 (by simp)) (by decide) xb (by simpa using hm) rfl)) (And.intro (hgr.row (go1 kN H5.out.2.1) (rows_ne2 hrA (go1 kN H5.out.2.1) (by decide))) (keeps_own (H5.out.2.2.2.2.alloc _) hgrow9 (fun g hg => (World.ownsRow.lt hrA g hg).1))))))
    clear hown9 hgrow9 hgr kN hrA hA9 HA H5
    obtain ⟨W5, hW5⟩ : ∃ W5, W5 = w9.drew := ⟨_, rfl⟩
    have k5 : Keeps [] w9 W5 := by rw [hW5]; exact (Keeps.refl [] w9).drew
    have H6 := Lib.hid (And.intro (go1 k5 H9.out.1) (And.intro (go1 k5 H9.out.2.1) (And.intro (k5.at_ H9.out.2.2.1 (by simp)) (And.intro (go1 k5 H9.out.2.2.2.1) (H9.out.2.2.2.2.trans k5)))))
    have HW := Lib.hid hW5
    clear hW5 k5 H9
    have s1 : W5.cell? ⟨xb, 0, none⟩ = some (.int .i64 ty) := cells_at H6.out.2.2.1 0
    have s2 : W5.cell? ⟨xb, 1, none⟩ = some (.int .u64 xv) := cells_at H6.out.2.2.1 1
    refine wp_region_held_drew (S := fun w' => w'.cell? ⟨xb, 0, none⟩ = some (.int .i64 ty) ∧ w'.cell? ⟨xb, 1, none⟩ = some (.int .u64 xv)) (by kernel_rfl) (by rw [← HW.out]; exact ⟨s1, s2⟩) (fun hS => ?_)
    rw [← HW.out] at hS ⊢
    clear HW s1 s2
    refine tk (v := ?_) 0 rfl ?_ ?_; rotate_left
    ·rintro _ ⟨s1, s2⟩; go_simp; (try with_reducible rfl)
    simp only [Act.put, zz]
    refine tk (v := ?_) 1 rfl ?_ ?_; rotate_left
    ·rintro _ ⟨s1, s2⟩; go_simp; (try with_reducible rfl)
    simp only [Act.put, zz]
    refine tk (v := ?_) 3 rfl ?_ ?_; rotate_left
    ·rintro _ ⟨s1, s2⟩; go_simp; (try with_reducible rfl)
    simp only [Act.put, zz]
    refine rd 2 rfl fun K hK => ?_
    go_simp
    go_at_call 36
    refine (told6_spec W5 _ P (rowP H6.out.2.2.2.1) (by omega)).mono ?_
    rintro e B1 ⟨v1, rfl, hrow1, q1⟩
    have h1 := row_base (b' := 0) hrow1 (Nat.zero_le _)
    obtain ⟨al, cl, rfl, -, -, -⟩ := row_slice hrow1
    have H7 := Lib.hid (And.intro (go1 q1 H6.out.1) (And.intro (go1 q1 H6.out.2.1) (And.intro (q1.at_ H6.out.2.2.1 (by simp)) (And.intro h1 (H6.out.2.2.2.2.trans q1)))))
    clear hrow1 q1 h1 H6
    go_simp
    refine hK.out _ _ ⟨cells_at H7.out.2.2.1 0, cells_at H7.out.2.2.1 1⟩ (fun hS => ?_)
    clear hK K
    try simp only [Act.put, zz]
    refine rd 4 rfl fun K hK => ?_
    go_simp
    go_simp
    refine hK.out _ _ ⟨cells_at H7.out.2.2.1 0, cells_at H7.out.2.2.1 1⟩ (fun hS => ?_)
    clear hK K
    try simp only [Act.put, zz]
    refine rd 5 rfl fun K hK => ?_
    go_simp
    have kB : Keeps [] B1 (B1.alloc (.cells #[.slice al P.length cl, .int .i64 ty, .int .u64 xv] 44)) := (Keeps.refl [] B1).alloc _
    have H8 := Lib.hid (And.intro (heap_new B1 (.cells #[.slice al P.length cl, .int .i64 ty, .int .u64 xv] 44)) (And.intro (go1 kB H7.out.1) (And.intro (go1 kB H7.out.2.1) (And.intro (kB.at_ H7.out.2.2.1 (by simp)) (And.intro (go1 kB H7.out.2.2.2.1) (H7.out.2.2.2.2.trans kB))))))
    clear kB H7
    generalize B1.heap.size = nb at H8 ⊢
    generalize B1.alloc (.cells #[.slice al P.length cl, .int .i64 ty, .int .u64 xv] 44) = B2 at H8 ⊢
    go_simp
    refine hK.out _ _ ⟨cells_at H8.out.2.2.2.1 0, cells_at H8.out.2.2.2.1 1⟩ (fun hS => ?_)
    clear hK K
    try simp only [Act.put, zz]
    obtain ⟨QB, qb1, qb2, qb3⟩ := H8.out.2.2.1
    have qb2' := qb2
    rw [hlm2] at qb2'
    have HB := Lib.hid (And.intro qb1 (And.intro qb2 (And.intro qb3 qb2')))
    clear qb1 qb2 qb3 qb2'
    refine rd 6 rfl fun K hK => ?_
    refine step_appP rfl (.tmp 52) (.tmp 57) 32 rfl w.heap.size 44 ir _ 3 40 Tryz.underlying32 hir hr0 hr1 hr2 rfl (by decide) (.slice a5 i c5) i (QB.flatMap encPt) rfl HB.out.2.2.2 ⟨nb, 0, none⟩ 1 1 [.slice al P.length cl, .int .i64 ty, .int .u64 xv] rfl rfl (news_3 H8.out.1) (by simp [Value.oneCell']) (by simp only [maxLen]; omega) (by omega) H8.out.2.2.2.2.2.size ?_
    intro v6 B3 hown6 hgrow6
    obtain ⟨ao6, cp6, rfl, -, -, -⟩ := row_slice hown6
    have hgr := keeps_row hgrow6
    have hB6 : PtsG w.heap.size 44 152 B3 (.slice ao6 (i + 1) cp6) ((L.take i).map ptOf ++ [(P, (ty, xv))]) := PtsG.snoc HB.out.1 HB.out.2.1 HB.out.2.2.1 H8.out.2.2.2.2.1 (by rw [hlm2]; exact hown6) hgr (by decide)
    have n6 := hgr.at_ H8.out.2.2.2.1 (fun hm => row_ne_cells HB.out.2.2.2 H8.out.2.2.2.1 (by decide) xb (by simpa using hm) rfl)
    have H10 := Lib.hid (And.intro (H8.out.2.1.box HB.out.2.2.2 hgr (by decide) (by decide)) (And.intro hB6 (And.intro n6 (keeps_own H8.out.2.2.2.2.2 hgrow6 (fun g hg => (World.ownsRow.lt HB.out.2.2.2 g hg).1)))))
    clear hown6 hgrow6 hgr hB6 n6 HB H8
    refine hK.out _ _ ⟨cells_at H10.out.2.2.1 0, cells_at H10.out.2.2.1 1⟩ (fun hS => ?_)
    clear hK K
    try simp only [Act.put, zz]
    refine rd 7 rfl fun K hK => ?_
    go_simp
    go_simp
    refine hK.out _ _ ⟨cells_at H10.out.2.2.1 0, cells_at H10.out.2.2.1 1⟩ (fun hS => ?_)
    clear hK K
    try simp only [Act.put, zz]
    refine wpAnyH_done (by kernel_rfl) ?_ _
    clear hS
    have Hpt := Lib.hid (show ptOf (xn, xt, xv) = (P, (ty, xv)) from by
     unfold ptOf
     rw [HP.out, ← Hty.out])
    go_wp2_with fail
    go_roundg (m - (i + 1))
    case measure => have := Hg.out; omega
    case rel => exact ⟨i + 1, hlt, rfl, by go_num, by rw [Htk.out, Hpt.out]; exact H10.out.1, by rw [Htk.out, Hpt.out]; exact H10.out.2.1, H10.out.2.2.2⟩
  ·have hcond : (¬ (i : Int) < (L.length : Int)) ∨ ((i : Int) < (L.length : Int) ∧ ¬ (i : Int) < 8) := by omega
   have hti2 : L.take i = L.take 8 := by
    rcases hm3 with h1 | h1
    ·rw [List.take_of_length_le (by omega), List.take_of_length_le (by omega)]
    ·rw [show i = 8 by omega]
   rw [hti2] at hra hrb
   have Hr := Lib.hid (And.intro hra (And.intro hrb hkw))
   clear hra hrb hkw hti hti2
   rcases hcond with h1 | ⟨h1, h2⟩
   all_goals
    go_wp2_with fail
    go_ret2
    exact ⟨_, _, rfl, Hr.out⟩
end Go.Proofs.YtgdkceeonnfejaaGreatDoor
