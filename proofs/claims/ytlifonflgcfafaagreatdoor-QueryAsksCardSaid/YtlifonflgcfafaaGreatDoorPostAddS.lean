/-
  Package posting: Add of a series of distinct names to an index that is empty, walked.
  No condition beyond those that each theorem states.
-/
import Derived.Test.YtlifonflgcfafaaGreatDoorPostRem
namespace Go.Proofs.YtlifonflgcfafaaGreatDoor
open Go Go.RowKit

structure EntI where
  nm : ByteArray
  val : ByteArray
  ib : Nat
  vr : Value

def EntI.kv (e : EntI) : ByteArray × Value := (e.nm, .map (some e.ib))

def EntI.nv (e : EntI) : PairB := (e.nm, e.val)

/-- The entries lie in blocks that rise: each one's map, then its list. -/
def EntsAt (w : World) (n : Int) : Nat → Nat → List EntI → Prop
  | lo, hi, [] => lo ≤ hi
  | lo, hi, e :: r => ∃ mid, lo ≤ e.ib ∧ e.ib < mid ∧ MapAt w e.ib [(e.val, e.vr)] ∧ Own (e.ib + 1) w e.vr [n] ∧ (∀ g, e.vr.ownBlock = some g → g < mid) ∧ EntsAt w n mid hi r

theorem EntsAt.le {w : World} {n : Int} {hi : Nat} : ∀ {l : List EntI} {lo : Nat}, EntsAt w n lo hi l → lo ≤ hi
  | [], _, h => h
  | _ :: _, _, ⟨_, h1, h2, _, _, _, h⟩ => by have := EntsAt.le h; omega

theorem EntsAt.keep {S : List Nat} {w w' : World} {n : Int} {hi : Nat} (k : Keeps S w w') : ∀ {l : List EntI} {lo : Nat}, EntsAt w n lo hi l → (∀ y ∈ S, y < lo ∨ hi ≤ y) → EntsAt w' n lo hi l
  | [], _, h, _ => h
  | e :: r, lo, ⟨mid, h1, h2, h3, h4, h5, h⟩, hS => by
    have hle := EntsAt.le h
    refine ⟨mid, h1, h2, h3.keep k (fun hm => ?_), k.row h4 (fun g hg hm => ?_), h5, EntsAt.keep k h (fun y hy => ?_)⟩
    · have := hS _ hm
      omega
    · have := hS _ hm
      have h6 := (World.ownsRow.lt h4 g hg).1
      have h7 := h5 g hg
      omega
    · rcases hS y hy with h | h
      · exact .inl (by omega)
      · exact .inr h

instance go1Ents {w w' : World} (n : Int) (lo hi : Nat) (l : List EntI) : Go1 w w' (EntsAt w n lo hi l) (EntsAt w' n lo hi l) := ⟨fun k h => h.keep k (by simp)⟩

theorem EntsAt.snoc {w : World} {n : Int} {hi hi2 : Nat} {e : EntI} (h1 : hi ≤ e.ib) (h2 : e.ib < hi2) (h3 : MapAt w e.ib [(e.val, e.vr)]) (h4 : Own (e.ib + 1) w e.vr [n]) (h5 : ∀ g, e.vr.ownBlock = some g → g < hi2) :
    ∀ {l : List EntI} {lo : Nat}, EntsAt w n lo hi l → EntsAt w n lo hi2 (l ++ [e])
  | [], _, h => ⟨hi2, Nat.le_trans h h1, h2, h3, h4, h5, Nat.le_refl _⟩
  | _ :: _, _, ⟨mid, a1, a2, a3, a4, a5, h⟩ => ⟨mid, a1, a2, a3, a4, a5, EntsAt.snoc h1 h2 h3 h4 h5 h⟩

theorem put_end {m : KV} {k : ByteArray} {v : Value} (h : k ∉ m.map (·.1)) : put m k v = m ++ [(k, v)] := by
  have := put_append m [] k v h
  rw [List.append_nil] at this
  rw [this]
  rfl

theorem lookVal_none {m : KV} {k : ByteArray} {z : Value} (h : k ∉ m.map (·.1)) : lookVal m k z false = z := by
  rw [← look_none_iff] at h
  simp [lookVal, h]

theorem kv_names (l : List EntI) : (l.map EntI.kv).map (·.1) = (l.map EntI.nv).map (·.1) := by simp [EntI.kv, EntI.nv, Function.comp_def]

def IxS (w : World) (x mb : Nat) (n : Int) (va : Value) (lo : Nat) (ents : List EntI) : Prop :=
  IxAt w x mb va ∧ MapAt w mb (ents.map EntI.kv) ∧ EntsAt w n lo w.heap.size ents ∧ x < lo ∧ mb < lo ∧ ∀ g, va.ownBlock = some g → g < lo

def AddPost (B x mb : Nat) (n : Int) (P : List PairB) (S : List Nat) (w : World) (e : Ending) (w' : World) : Prop :=
  ∃ va lo ents, e = .returned (.tuple #[]) ∧ IxS w' x mb n va lo ents ∧ Own B w' va [n] ∧ ents.map EntI.nv = P ∧ Keeps S w w'

def AddRelS (w2 : World) (mb : Nat) (n : Int) (P : List PairB) (lo gk : Nat) (u20 : Value) (wr : World) : Prop :=
  ∃ i ents, i ≤ P.length ∧ gk = P.length - i ∧ u20 = .int .i64 i ∧ ents.map EntI.nv = P.take i ∧ MapAt wr mb (ents.map EntI.kv) ∧ EntsAt wr n lo wr.heap.size ents ∧ Keeps [mb] w2 wr

set_option linter.unusedSimpArgs false in
set_option maxRecDepth 100000 in
set_option maxHeartbeats 1000000 in
theorem addS_spec (B : Nat) (w : World) (x mb : Nat) (n : Int) (a : Option Addr) (c : Nat) (v : Value) (P : List PairB) (hB : B ≤ w.heap.size) (hx : IxAt w x mb (.slice a 0 c)) (ho : Own B w (.slice a 0 c) []) (hm : MapAt w mb []) (hs : w.ownsRow 0 138 2 v P.length (P.flatMap encPB)) (hd : (P.map (·.1)).Nodup) (hl : P.length ≤ 1000) :
    Calls Tryz.prog 60 #[.pointer (some ⟨x, 0, none⟩), .int .i64 n, v] w (AddPost B x mb n P (x :: mb :: (Value.slice a 0 c).ownBlock.toList) w) := by
  have hmm := @run_makeMap Tryz.prog
  have qM : ∀ (w : World) (r : Option Nat), (binOp .eql 159 (.map r) (.map none)).run Tryz.prog w = .ok (.bool r.isNone) w := fun w r => run_eql_map_nil w _ _ _ r Tryz.underlying159
  have hxm : x ≠ mb := hm.ne hx
  have c0 := cells_at hx
  have l0 := lt_of_at hx
  have hox : ∀ g, (Value.slice a 0 c).ownBlock = some g → g ≠ x := row_ne_cells ho hx (by decide)
  have hom : ∀ g, (Value.slice a 0 c).ownBlock = some g → g ≠ mb := row_ne_map ho hm
  have hos : ∀ g, v.ownBlock = some g → g ∉ (Value.slice a 0 c).ownBlock.toList := rows_ne2 ho hs (by decide)
  have hsx : ∀ g, v.ownBlock = some g → g ≠ x := row_ne_cells hs hx (by decide)
  have H0 := Lib.hid (And.intro (And.intro hx (And.intro hm (And.intro hs hd))) (And.intro hox (And.intro hom (And.intro hos hsx))))
  have Hadd := Lib.hid (insertE_spec B w n a c hB ho)
  obtain ⟨va, vc, rfl, -, -, -⟩ := row_slice hs
  clear hx hm ho hs hox hom hos hsx hd
  go_enter Tryz.func60, Tryz.ntmps60
  go_wp2_with fail
  refine Hadd.out.mono ?_
  rintro e w1 ⟨a1, cp1, rfl, hown1, ht1⟩
  have H1 := Lib.hid (And.intro (ht1.box H0.out.1.1 H0.out.2.1) (And.intro (H0.out.1.2.1.keep ht1.keeps (fun hm => H0.out.2.2.1 mb (by simpa using hm) rfl)) (And.intro (ht1.keeps.row H0.out.1.2.2.1 H0.out.2.2.2.1) (And.intro hown1 ht1))))
  clear hown1 ht1 c0 l0 Hadd
  have c1 := cells_at H1.out.1.1
  have f1 := free_at H1.out.1.1
  have l1 := lt_of_at H1.out.1.1
  go_wp2_with fail
  clear c1 f1 l1
  have k12 : Keeps [x] w1 (w1.setCell ⟨x, 1, none⟩ (.slice a1 1 cp1)) := (Keeps.refl _ w1).setCell (.inl (by simp)) _
  have hx2 : IxAt (w1.setCell ⟨x, 1, none⟩ (.slice a1 1 cp1)) x mb (.slice a1 1 cp1) := (heap_cell_same (i := 1) H1.out.1.1 _).trans (by simp)
  have H2 := Lib.hid (And.intro hx2 (And.intro (H1.out.2.1.keep k12 (by simpa using fun e => hxm e.symm)) (And.intro (k12.row H1.out.2.2.1 (fun g hg => by simpa using H0.out.2.2.2.2 g hg)) (And.intro (k12.row H1.out.2.2.2.1 (fun g hg => by simpa using H1.out.1.2 g hg)) (And.intro ((H1.out.2.2.2.2.keeps.mono (S' := x :: mb :: (Value.slice a 0 c).ownBlock.toList) (fun y hy => by rw [List.mem_cons, List.mem_cons]; exact .inr (.inr hy))).after k12 (by simp)) H0.out.1.2.2.2)))))
  clear k12 hx2 H1 H0
  generalize w1.setCell ⟨x, 1, none⟩ (.slice a1 1 cp1) = w2 at H2 ⊢
  have hxl := lt_of_at H2.out.1
  have hml := H2.out.2.1.lt
  obtain ⟨lo, hlo⟩ : ∃ lo, lo = w2.heap.size := ⟨_, rfl⟩
  rw [← hlo] at hxl hml
  have HL := Lib.hid hlo
  clear hlo
  go_loopg [20] P.length (AddRelS w2 mb n P lo)
  case atStart => exact ⟨0, [], Nat.zero_le _, rfl, rfl, rfl, H2.out.2.1, Nat.le_of_eq HL.out, Keeps.refl _ _⟩
  case round =>
    obtain ⟨i, ents, hi, hgk, rfl, hnv, hmb, hen, hkw⟩ := hrel
    have Hg := Lib.hid hgk
    clear hgk
    have hxr : IxAt wr x mb (.slice a1 1 cp1) := hkw.at_ H2.out.1 (by simpa using hxm)
    have hvr := hkw.row H2.out.2.2.1 (fun g hg => by have := row_ne_map H2.out.2.2.1 H2.out.2.1 g hg; simpa using this)
    have hor := hkw.row H2.out.2.2.2.1 (fun g hg => by have := row_ne_map H2.out.2.2.2.1 H2.out.2.1 g hg; simpa using this)
    have hle : lo ≤ wr.heap.size := hen.le
    by_cases hlt : i < P.length
    · have hSA : SliceArg 2 encPB wr (.slice va P.length vc) P := (sliceFrom_row (enc := encPB) (fun _ => rfl) hvr).arg
      obtain ⟨b, off, cap', ea, hbW, d0, d1⟩ := pair_at hSA i hlt
      injection ea with ea _ ec
      subst ea ec
      have hlt' : (i : Int) < (P.length : Int) := by omega
      obtain ⟨p, hp⟩ : ∃ p, p = P[i] := ⟨_, rfl⟩
      have hnin : p.1 ∉ (ents.map EntI.kv).map (·.1) := by
        rw [kv_names, hnv, hp]
        intro hmem
        have h2 := H2.out.2.2.2.2.2
        rw [← List.take_append_drop i P, List.map_append, List.nodup_append] at h2
        refine h2.2.2 _ hmem _ ?_ rfl
        exact List.mem_map.2 ⟨P[i], by rw [List.drop_eq_getElem_cons hlt]; exact List.mem_cons_self, rfl⟩
      rw [← hp] at d0 d1
      have Hp := Lib.hid hp
      obtain ⟨p1, p2⟩ := p
      dsimp only at d0 d1 hnin
      have Hn := Lib.hid (And.intro hnin hnv)
      have kp : Keeps [] wr (wr.alloc (.cells #[.string p1, .string p2] 138)) := (Keeps.refl [] wr).alloc _
      obtain ⟨W0, hW0⟩ : ∃ W0, W0 = (wr.alloc (.cells #[.string p1, .string p2] 138)).drew := ⟨_, rfl⟩
      have kW : Keeps [] wr W0 := by rw [hW0]; exact kp.drew
      have hpc : W0.heap[wr.heap.size]? = some (.cells #[.string p1, .string p2] 138 (0, 0)) := by rw [hW0]; exact heap_new wr _
      have H3 := Lib.hid (And.intro (go1 kW hxr) (And.intro (go1 kW hmb) (And.intro (go1 kW hor) (And.intro hpc (And.intro (go1 kW hen) (hkw.trans (kW.mono (by simp))))))))
      have HW := Lib.hid hW0
      have hWs : wr.heap.size < W0.heap.size := lt_of_at hpc
      clear kp kW hpc hW0 hxr hmb hor hen hkw hvr hSA hnin hnv hp
      go_upto_region 4 with fail
      clear d0 d1 hbW
      have F0 : ∀ s : Kept W0, s.val.cell? ⟨x, 0, none⟩ = some (.map (some mb)) := keptCell (by rw [cells_at H3.out.1]; rfl)
      have F1 : ∀ s : Kept W0, s.val.cell? ⟨wr.heap.size, 0, none⟩ = some (.string p1) := keptCell (by rw [cells_at H3.out.2.2.2.1]; rfl)
      have F2 : ∀ s : Kept W0, (Instr.lookup 129 (.map (some mb)) (.string p1) false).run Tryz.prog s.val = .ok (.map none) s.val := fun s => by
        have := (go1 s.property H3.out.2.1).run_lookup (P := Tryz.prog) Tryz.underlying129 Tryz.underlying9 (zeroInner _) p1 false
        rwa [lookVal_none Hn.out.1] at this
      have L0 : ∀ s : Kept W0, x < s.val.heap.size := fun s => s.property.lt (lt_of_at H3.out.1)
      refine wp_region_held_drew (S := KeptS W0) (by kernel_rfl) (by rw [← HW.out]; exact keptS (Keeps.refl _ _)) (fun hS => ?_)
      rw [← HW.out] at hS ⊢
      clear HW
      refine wpAnyH_take (i := 0) (v := ?_) rfl (by kernel_rfl) (by kernel_rfl) (by kernel_rfl) (fun _ _ _ h => h) (Or.inl ⟨by rfl, ?_⟩) (by assumption) ?_
      rotate_left
      · intro w' s1; obtain ⟨s, rfl⟩ := s1; go_simp; (try with_reducible rfl)
      simp only [Act.put, List.getElem_toArray, List.getElem_cons_succ, List.getElem_cons_zero, List.setIfInBounds_toArray, List.set_cons_zero, List.set_cons_succ]
      refine wpAnyH_take (i := 1) (v := ?_) rfl (by kernel_rfl) (by kernel_rfl) (by kernel_rfl) (fun _ _ _ h => h) (Or.inl ⟨by rfl, ?_⟩) (by assumption) ?_
      rotate_left
      · intro w' s1; obtain ⟨s, rfl⟩ := s1; go_simp; (try with_reducible rfl)
      simp only [Act.put, List.getElem_toArray, List.getElem_cons_succ, List.getElem_cons_zero, List.setIfInBounds_toArray, List.set_cons_zero, List.set_cons_succ]
      refine wpAnyH_take (i := 2) (v := ?_) rfl (by kernel_rfl) (by kernel_rfl) (by kernel_rfl) (fun _ _ _ h => h) (Or.inl ⟨by rfl, ?_⟩) (by assumption) ?_
      rotate_left
      · intro w' s1; obtain ⟨s, rfl⟩ := s1; go_simp; (try with_reducible rfl)
      simp only [Act.put, List.getElem_toArray, List.getElem_cons_succ, List.getElem_cons_zero, List.setIfInBounds_toArray, List.set_cons_zero, List.set_cons_succ]
      refine wpAnyH_take (i := 3) (v := ?_) rfl (by kernel_rfl) (by kernel_rfl) (by kernel_rfl) (fun _ _ _ h => h) (Or.inl ⟨by rfl, ?_⟩) (by assumption) ?_
      rotate_left
      · intro w' s1; obtain ⟨s, rfl⟩ := s1; go_simp; (try with_reducible rfl)
      simp only [Act.put, List.getElem_toArray, List.getElem_cons_succ, List.getElem_cons_zero, List.setIfInBounds_toArray, List.set_cons_zero, List.set_cons_succ]
      refine wpAnyH_take (i := 4) (v := ?_) rfl (by kernel_rfl) (by kernel_rfl) (by kernel_rfl) (fun _ _ _ h => h) (Or.inl ⟨by rfl, ?_⟩) (by assumption) ?_
      rotate_left
      · intro w' s1; obtain ⟨s, rfl⟩ := s1; go_simp; (try with_reducible rfl)
      simp only [Act.put, List.getElem_toArray, List.getElem_cons_succ, List.getElem_cons_zero, List.setIfInBounds_toArray, List.set_cons_zero, List.set_cons_succ]
      refine wpAnyH_take (i := 5) (v := ?_) rfl (by kernel_rfl) (by kernel_rfl) (by kernel_rfl) (fun _ _ _ h => h) (Or.inl ⟨by rfl, ?_⟩) (by assumption) ?_
      rotate_left
      · intro w' s1; obtain ⟨s, rfl⟩ := s1; go_simp; (try with_reducible rfl)
      simp only [Act.put, List.getElem_toArray, List.getElem_cons_succ, List.getElem_cons_zero, List.setIfInBounds_toArray, List.set_cons_zero, List.set_cons_succ]
      refine wpAnyH_take (i := 6) (v := ?_) rfl (by kernel_rfl) (by kernel_rfl) (by kernel_rfl) (fun _ _ _ h => h) (Or.inl ⟨by rfl, ?_⟩) (by assumption) ?_
      rotate_left
      · intro w' s1; obtain ⟨s, rfl⟩ := s1; go_simp; (try with_reducible rfl)
      simp only [Act.put, List.getElem_toArray, List.getElem_cons_succ, List.getElem_cons_zero, List.setIfInBounds_toArray, List.set_cons_zero, List.set_cons_succ]
      refine wpAnyH_ready (rs := [7]) (by kernel_rfl) (by simp) ?_
      refine AllReadyH.cons rfl (fun K hK => ?_) AllReadyH.nil
      go_simp
      go_simp
      refine hK.out _ _ (keptS (Keeps.refl _ _)) (fun hS => ?_)
      clear hK K
      try simp only [Act.put, List.getElem_toArray, List.getElem_cons_succ, List.getElem_cons_zero, List.setIfInBounds_toArray, List.set_cons_zero, List.set_cons_succ]
      refine wpAnyH_done (by kernel_rfl) ?_ _
      clear F0 F1 F2 L0 hS
      have k4 : Keeps [] W0 (W0.alloc (.map #[] 0)).drew := ((Keeps.refl [] W0).alloc _).drew
      obtain ⟨W4, hW4⟩ : ∃ W4, W4 = (W0.alloc (.map #[] 0)).drew := ⟨_, rfl⟩
      rw [← hW4] at k4
      obtain ⟨ib, hib⟩ : ∃ ib, ib = W0.heap.size := ⟨_, rfl⟩
      have hmI : MapAt W4 ib [] := by rw [hW4, hib]; exact mapAt_new W0
      generalize wr.heap.size = pb at H3 hWs hle ⊢
      have H4 := Lib.hid (And.intro (go1 k4 H3.out) hmI)
      have HW := Lib.hid (And.intro hW4 hib)
      have hbi : mb < ib ∧ x < ib ∧ pb < ib ∧ x ≠ ib ∧ mb ≠ ib := by omega
      clear hW4 k4 hmI hib H3
      go_upto_region 7 with fail
      rw [← HW.out.2]
      have F0 : ∀ s : Kept W4, s.val.cell? ⟨x, 0, none⟩ = some (.map (some mb)) := keptCell (by rw [cells_at H4.out.1.1]; rfl)
      have F1 : ∀ s : Kept W4, s.val.cell? ⟨pb, 0, none⟩ = some (.string p1) := keptCell (by rw [cells_at H4.out.1.2.2.2.1]; rfl)
      have L0 : ∀ s : Kept W4, x < s.val.heap.size := fun s => s.property.lt (lt_of_at H4.out.1.1)
      refine wp_region_last_n 7 (KeptS W4) (by kernel_rfl) (by kernel_rfl) (by kernel_rfl) ?_
      rw [← HW.out.1]
      have hS : KeptS W4 W4 := keptS (Keeps.refl _ _)
      simp only [List.take_succ_cons, List.take_zero, List.toList_toArray]
      refine wpAnyH_take (i := 0) (v := ?_) rfl (by kernel_rfl) (by kernel_rfl) (by kernel_rfl) (fun _ _ _ h => h) (Or.inl ⟨by rfl, ?_⟩) (by assumption) ?_
      rotate_left
      · intro w' s1; obtain ⟨s, rfl⟩ := s1; go_simp; (try with_reducible rfl)
      simp only [Act.put, List.getElem_toArray, List.getElem_cons_succ, List.getElem_cons_zero, List.setIfInBounds_toArray, List.set_cons_zero, List.set_cons_succ]
      refine wpAnyH_take (i := 1) (v := ?_) rfl (by kernel_rfl) (by kernel_rfl) (by kernel_rfl) (fun _ _ _ h => h) (Or.inl ⟨by rfl, ?_⟩) (by assumption) ?_
      rotate_left
      · intro w' s1; obtain ⟨s, rfl⟩ := s1; go_simp; (try with_reducible rfl)
      simp only [Act.put, List.getElem_toArray, List.getElem_cons_succ, List.getElem_cons_zero, List.setIfInBounds_toArray, List.set_cons_zero, List.set_cons_succ]
      refine wpAnyH_take (i := 2) (v := ?_) rfl (by kernel_rfl) (by kernel_rfl) (by kernel_rfl) (fun _ _ _ h => h) (Or.inl ⟨by rfl, ?_⟩) (by assumption) ?_
      rotate_left
      · intro w' s1; obtain ⟨s, rfl⟩ := s1; go_simp; (try with_reducible rfl)
      simp only [Act.put, List.getElem_toArray, List.getElem_cons_succ, List.getElem_cons_zero, List.setIfInBounds_toArray, List.set_cons_zero, List.set_cons_succ]
      refine wpAnyH_take (i := 3) (v := ?_) rfl (by kernel_rfl) (by kernel_rfl) (by kernel_rfl) (fun _ _ _ h => h) (Or.inl ⟨by rfl, ?_⟩) (by assumption) ?_
      rotate_left
      · intro w' s1; obtain ⟨s, rfl⟩ := s1; go_simp; (try with_reducible rfl)
      simp only [Act.put, List.getElem_toArray, List.getElem_cons_succ, List.getElem_cons_zero, List.setIfInBounds_toArray, List.set_cons_zero, List.set_cons_succ]
      refine wpAnyH_take (i := 4) (v := ?_) rfl (by kernel_rfl) (by kernel_rfl) (by kernel_rfl) (fun _ _ _ h => h) (Or.inl ⟨by rfl, ?_⟩) (by assumption) ?_
      rotate_left
      · intro w' s1; obtain ⟨s, rfl⟩ := s1; go_simp; (try with_reducible rfl)
      simp only [Act.put, List.getElem_toArray, List.getElem_cons_succ, List.getElem_cons_zero, List.setIfInBounds_toArray, List.set_cons_zero, List.set_cons_succ]
      refine wpAnyH_take (i := 5) (v := ?_) rfl (by kernel_rfl) (by kernel_rfl) (by kernel_rfl) (fun _ _ _ h => h) (Or.inl ⟨by rfl, ?_⟩) (by assumption) ?_
      rotate_left
      · intro w' s1; obtain ⟨s, rfl⟩ := s1; go_simp; (try with_reducible rfl)
      simp only [Act.put, List.getElem_toArray, List.getElem_cons_succ, List.getElem_cons_zero, List.setIfInBounds_toArray, List.set_cons_zero, List.set_cons_succ]
      refine wpAnyH_take (i := 6) (v := ?_) rfl (by kernel_rfl) (by kernel_rfl) (by kernel_rfl) (fun _ _ _ h => h) (Or.inl ⟨by rfl, ?_⟩) (by assumption) ?_
      rotate_left
      · intro w' s1; obtain ⟨s, rfl⟩ := s1; go_simp; (try with_reducible rfl)
      simp only [Act.put, List.getElem_toArray, List.getElem_cons_succ, List.getElem_cons_zero, List.setIfInBounds_toArray, List.set_cons_zero, List.set_cons_succ]
      refine wpAnyH_done (by kernel_rfl) ?_ _
      refine lastQ_step rfl (fun K hK => ?_)
      refine step_update_str rfl (.tmp 37) (.tmp 39) (.tmp 40) _ _ _ rfl Tryz.underlying129 Tryz.underlying9 mb (ents.map EntI.kv) p1 (.map (some ib)) rfl rfl rfl H4.out.1.2.1 ?_
      intro w5 hm5 hk5
      refine hK _ _ ?_
      clear hK K hS F0 F1 L0 HW
      rw [put_end Hn.out.1] at hm5
      have H5 := Lib.hid (And.intro (show IxAt w5 x mb (.slice a1 1 cp1) from hk5.at_ H4.out.1.1 (by simpa using hxm)) (And.intro hm5 (And.intro (hk5.row H4.out.1.2.2.1 (fun g hg => by have := row_ne_map H4.out.1.2.2.1 H4.out.1.2.1 g hg; simpa using this)) (And.intro (hk5.at_ H4.out.1.2.2.2.1 (by simpa using H4.out.1.2.1.ne H4.out.1.2.2.2.1)) (And.intro (H4.out.2.keep hk5 (by simpa using hbi.2.2.2.2.symm)) (And.intro (H4.out.1.2.2.2.2.1.keep hk5 (by simpa using Or.inl hml)) (H4.out.1.2.2.2.2.2.trans hk5)))))))
      clear hm5 hk5 H4
      obtain ⟨W6, hW6⟩ : ∃ W6, W6 = w5.drew := ⟨_, rfl⟩
      have k6 : Keeps [] w5 W6 := by rw [hW6]; exact (Keeps.refl [] w5).drew
      have H6 := Lib.hid (go1 k6 H5.out)
      have HW := Lib.hid hW6
      clear hW6 k6 H5
      go_upto_region 8 with fail
      have F0 : ∀ s : Kept W6, s.val.cell? ⟨pb, 1, none⟩ = some (.string p2) := keptCell (by rw [cells_at H6.out.2.2.2.1]; rfl)
      have F2 : ∀ s : Kept W6, (Instr.lookup 159 (.map (some ib)) (.string p2) false).run Tryz.prog s.val = .ok (.slice none 0 0) s.val := fun s => (go1 s.property H6.out.2.2.2.2.1).run_lookup Tryz.underlying159 Tryz.underlying9 (zeroList _) p2 false
      refine wp_region_last_n 9 (KeptS W6) (by kernel_rfl) (by kernel_rfl) (by kernel_rfl) ?_
      rw [← HW.out]
      have hS : KeptS W6 W6 := keptS (Keeps.refl _ _)
      simp only [List.take_succ_cons, List.take_zero, List.toList_toArray]
      refine wpAnyH_take (i := 0) (v := ?_) rfl (by kernel_rfl) (by kernel_rfl) (by kernel_rfl) (fun _ _ _ h => h) (Or.inl ⟨by rfl, ?_⟩) (by assumption) ?_
      rotate_left
      · intro w' s1; obtain ⟨s, rfl⟩ := s1; go_simp; (try with_reducible rfl)
      simp only [Act.put, List.getElem_toArray, List.getElem_cons_succ, List.getElem_cons_zero, List.setIfInBounds_toArray, List.set_cons_zero, List.set_cons_succ]
      refine wpAnyH_take (i := 1) (v := ?_) rfl (by kernel_rfl) (by kernel_rfl) (by kernel_rfl) (fun _ _ _ h => h) (Or.inl ⟨by rfl, ?_⟩) (by assumption) ?_
      rotate_left
      · intro w' s1; obtain ⟨s, rfl⟩ := s1; go_simp; (try with_reducible rfl)
      simp only [Act.put, List.getElem_toArray, List.getElem_cons_succ, List.getElem_cons_zero, List.setIfInBounds_toArray, List.set_cons_zero, List.set_cons_succ]
      refine wpAnyH_take (i := 2) (v := ?_) rfl (by kernel_rfl) (by kernel_rfl) (by kernel_rfl) (fun _ _ _ h => h) (Or.inl ⟨by rfl, ?_⟩) (by assumption) ?_
      rotate_left
      · intro w' s1; obtain ⟨s, rfl⟩ := s1; go_simp; (try with_reducible rfl)
      simp only [Act.put, List.getElem_toArray, List.getElem_cons_succ, List.getElem_cons_zero, List.setIfInBounds_toArray, List.set_cons_zero, List.set_cons_succ]
      refine wpAnyH_take (i := 3) (v := ?_) rfl (by kernel_rfl) (by kernel_rfl) (by kernel_rfl) (fun _ _ _ h => h) (Or.inl ⟨by rfl, ?_⟩) (by assumption) ?_
      rotate_left
      · intro w' s1; obtain ⟨s, rfl⟩ := s1; go_simp; (try with_reducible rfl)
      simp only [Act.put, List.getElem_toArray, List.getElem_cons_succ, List.getElem_cons_zero, List.setIfInBounds_toArray, List.set_cons_zero, List.set_cons_succ]
      refine wpAnyH_take (i := 4) (v := ?_) rfl (by kernel_rfl) (by kernel_rfl) (by kernel_rfl) (fun _ _ _ h => h) (Or.inl ⟨by rfl, ?_⟩) (by assumption) ?_
      rotate_left
      · intro w' s1; obtain ⟨s, rfl⟩ := s1; go_simp; (try with_reducible rfl)
      simp only [Act.put, List.getElem_toArray, List.getElem_cons_succ, List.getElem_cons_zero, List.setIfInBounds_toArray, List.set_cons_zero, List.set_cons_succ]
      refine wpAnyH_take (i := 5) (v := ?_) rfl (by kernel_rfl) (by kernel_rfl) (by kernel_rfl) (fun _ _ _ h => h) (Or.inl ⟨by rfl, ?_⟩) (by assumption) ?_
      rotate_left
      · intro w' s1; obtain ⟨s, rfl⟩ := s1; go_simp; (try with_reducible rfl)
      simp only [Act.put, List.getElem_toArray, List.getElem_cons_succ, List.getElem_cons_zero, List.setIfInBounds_toArray, List.set_cons_zero, List.set_cons_succ]
      refine wpAnyH_take (i := 6) (v := ?_) rfl (by kernel_rfl) (by kernel_rfl) (by kernel_rfl) (fun _ _ _ h => h) (Or.inl ⟨by rfl, ?_⟩) (by assumption) ?_
      rotate_left
      · intro w' s1; obtain ⟨s, rfl⟩ := s1; go_simp; (try with_reducible rfl)
      simp only [Act.put, List.getElem_toArray, List.getElem_cons_succ, List.getElem_cons_zero, List.setIfInBounds_toArray, List.set_cons_zero, List.set_cons_succ]
      refine wpAnyH_take (i := 7) (v := ?_) rfl (by kernel_rfl) (by kernel_rfl) (by kernel_rfl) (fun _ _ _ h => h) (Or.inl ⟨by rfl, ?_⟩) (by assumption) ?_
      rotate_left
      · intro w' s1; obtain ⟨s, rfl⟩ := s1; go_simp; (try with_reducible rfl)
      simp only [Act.put, List.getElem_toArray, List.getElem_cons_succ, List.getElem_cons_zero, List.setIfInBounds_toArray, List.set_cons_zero, List.set_cons_succ]
      refine wpAnyH_ready (rs := [8]) (by kernel_rfl) (by simp) ?_
      refine AllReadyH.cons rfl (fun K hK => ?_) AllReadyH.nil
      go_simp
      go_at_call 96
      refine (insert0_spec _ n).mono ?_
      rintro e A1 ⟨v9, rfl, hown9, kA1⟩
      go_simp
      refine hK.out _ _ (keptS kA1) (fun hS => ?_)
      clear hK K
      try simp only [Act.put, List.getElem_toArray, List.getElem_cons_succ, List.getElem_cons_zero, List.setIfInBounds_toArray, List.set_cons_zero, List.set_cons_succ]
      have H7 := Lib.hid (And.intro (go1 kA1 H6.out) hown9)
      refine wpAnyH_done (by kernel_rfl) ?_ _
      refine lastQ_step rfl (fun K hK => ?_)
      refine step_update_str rfl (.tmp 41) (.tmp 43) (.tmp 49) _ _ _ rfl Tryz.underlying159 Tryz.underlying9 ib [] p2 v9 rfl rfl rfl H7.out.1.2.2.2.2.1 ?_
      intro w8 hm8 hk8
      refine hK _ _ ?_
      clear hK K hS F0 F2 HW
      have hw6 : ib < W6.heap.size := H6.out.2.2.2.2.1.lt
      have h9l : ∀ g, v9.ownBlock = some g → g < w8.heap.size := fun g hg => Nat.lt_of_lt_of_le (World.ownsRow.lt hown9 g hg).2 hk8.size
      have H8 := Lib.hid (And.intro (H7.out.1.2.1.keep hk8 (by simpa using hbi.2.2.2.2)) (And.intro (EntsAt.snoc (e := ⟨p1, p2, ib, v9⟩) (by dsimp only; omega) (by dsimp only; have := hm8.lt; omega) hm8 (row_base (hk8.row H7.out.2 (fun g hg => by have := row_ne_map H7.out.2 H7.out.1.2.2.2.2.1 g hg; simpa using this)) (by dsimp only; omega)) h9l (H7.out.1.2.2.2.2.2.1.keep hk8 (fun y hy => by
          obtain rfl : y = ib := by simpa using hy
          exact .inr (by omega)))) (H7.out.1.2.2.2.2.2.2.after hk8 (fun y hy => by
          obtain rfl : y = ib := by simpa using hy
          exact .inr (by have := HL.out; omega)))))
      clear hm8 hk8 H7 H6 hown9 kA1 h9l
      go_wp2_with fail
      go_roundg (P.length - (i + 1))
      case measure => have := Hg.out; omega
      case rel =>
        refine ⟨i + 1, ents ++ [⟨p1, p2, ib, v9⟩], hlt, rfl, by go_num, ?_, ?_, H8.out.2.1, H8.out.2.2⟩
        · rw [List.map_append, Hn.out.2, List.take_add_one, List.getElem?_eq_getElem hlt, Option.toList_some, ← Hp.out]
          rfl
        · rw [List.map_append]
          exact H8.out.1
    · have hkn := Lib.hid (show i = P.length from by omega)
      have hlt' : ¬ (i : Int) < (P.length : Int) := by omega
      have hva : ∀ g, (Value.slice a1 1 cp1).ownBlock = some g → g < lo := fun g hg => by have := (World.ownsRow.lt H2.out.2.2.2.1 g hg).2; have := HL.out; omega
      have Hr := Lib.hid (And.intro hnv (And.intro hor (And.intro (show IxS wr x mb n (.slice a1 1 cp1) lo ents from ⟨hxr, hmb, hen, hxl, hml, hva⟩) (H2.out.2.2.2.2.1.trans (hkw.mono (by simp))))))
      clear hxr hmb hor hen hkw hvr hnv hva H2
      go_wp2_with fail
      go_end0
      refine ⟨_, lo, ents, rfl, Hr.out.2.2.1, Hr.out.2.1, ?_, Hr.out.2.2.2⟩
      rw [Hr.out.1, hkn.out, List.take_length]
end Go.Proofs.YtlifonflgcfafaaGreatDoor
