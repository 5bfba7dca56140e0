/-
  Package posting: Add, in general, walked.
  No condition beyond those that each theorem states.
-/
import Derived.Deep.CutRange
import Derived.Test.YtejfigbjaiealaaGreatDoorPostIxG
namespace Go.Proofs.YtejfigbjaiealaaGreatDoor
open Go Go.RowKit

/-- All but rows of numbers, the Index's cell and maps stays. -/
def Still2 (w w' : World) : Prop := ∀ (b : Nat) (cs : Array Value) (t : TypeId), t ≠ 3 → t ≠ 75 → w.heap[b]? = some (.cells cs t (0, 0)) → w'.heap[b]? = some (.cells cs t (0, 0))

def K2 (w0 w wr : World) : Prop := Keeps [] w0 wr ∧ Still2 w wr

theorem K2.start {w0 w : World} (k : Keeps [] w0 w) : K2 w0 w w := ⟨k, fun _ _ _ _ _ h => h⟩

theorem K2.keep {w0 w a b : World} (h : K2 w0 w a) (k : Keeps [] a b) : K2 w0 w b := ⟨h.1.trans k, fun c cs t h1 h2 hc => k.at_ (h.2 c cs t h1 h2 hc) (by simp)⟩

theorem K2.after_turns {w0 w a b : World} {v v' : Value} {B : Nat} {l : List Int} (h : K2 w0 w a) (k : Turns v a v' b) (ho : Own B a v l) (hB : w0.heap.size ≤ B) : K2 w0 w b :=
  ⟨h.1.after k.keeps (fun y hy => .inr (by have := (World.ownsRow.lt ho y (by simpa using hy)).1; omega)), fun c cs t h1 h2 hc => k.keeps.at_ (h.2 c cs t h1 h2 hc) (fun hy => row_ne_cells ho (h.2 c cs t h1 h2 hc) h1 c (by simpa using hy) rfl)⟩

theorem K2.map {w0 w a b : World} {m : Nat} {kv : KV} (h : K2 w0 w a) (k : Keeps [m] a b) (hm : MapAt a m kv) (hB : w0.heap.size ≤ m) : K2 w0 w b :=
  ⟨h.1.after k (fun y hy => .inr (by
    obtain rfl : y = m := by simpa using hy
    exact hB)), fun c cs t h1 h2 hc => k.at_ (h.2 c cs t h1 h2 hc) (by simpa using hm.ne (h.2 c cs t h1 h2 hc))⟩

theorem K2.ix {w0 w a b : World} {x mb : Nat} {va : Value} (h : K2 w0 w a) (k : Keeps [x] a b) (hx : IxAt a x mb va) (hB : w0.heap.size ≤ x) : K2 w0 w b :=
  ⟨h.1.after k (fun y hy => .inr (by
    obtain rfl : y = x := by simpa using hy
    exact hB)), fun c cs t h1 h2 hc => k.at_ (h.2 c cs t h1 h2 hc) (fun hy => by
    obtain rfl : c = x := by simpa using hy
    have h3 := h.2 _ cs t h1 h2 hc
    unfold IxAt at hx
    rw [hx] at h3
    injection h3 with h3
    injection h3 with _ h3 _
    exact h2 h3.symm)⟩

instance go1K2 {w w' : World} (w0 a : World) : Go1 w w' (K2 w0 a w) (K2 w0 a w') := ⟨fun k h => h.keep k⟩

def RowsOk (E : OutG) : Prop := ∀ p ∈ E, ∀ q ∈ p.2.2, RowOk q.2.l

def AddPostG (B x mb : Nat) (n : Int) (P : List PairB) (E : OutG) (all : List Int) (v : Value) (w0 w : World) (e : Ending) (w' : World) : Prop :=
  ∃ va E', e = .returned (.tuple #[]) ∧ IxG B w' x mb va E' (insI all n) ∧ absG E' = P.foldl (fun A p => addA A n p) (absG E) ∧ RowsOk E' ∧ w'.ownsRow 0 64 2 v P.length (P.flatMap encPB) ∧ K2 w0 w w'

def AddRelG (w0 w : World) (B x mb : Nat) (n : Int) (v va : Value) (P : List PairB) (E : OutG) (all : List Int) (gk : Nat) (u20 : Value) (wr : World) : Prop :=
  ∃ (i : Nat) (E' : OutG), i ≤ P.length ∧ gk = P.length - i ∧ u20 = .int .i64 i ∧ IxG B wr x mb va E' (insI all n) ∧ absG E' = (P.take i).foldl (fun A p => addA A n p) (absG E) ∧ RowsOk E' ∧ wr.ownsRow 0 64 2 v P.length (P.flatMap encPB) ∧ K2 w0 w wr

def CutG (w0 w : World) (B x mb pb : Nat) (n : Int) (v va : Value) (P : List PairB) (p1 p2 : ByteArray) (A : List (ByteArray × List (ByteArray × List Int))) (all : List Int) (u8 : Value) (wc : World) : Prop :=
  ∃ (ib : Nat) (inner : List (ByteArray × RowG)) (E1 : OutG), u8 = .map (some ib) ∧ IxG B wc x mb va E1 all ∧ (p1, (ib, inner)) ∈ E1 ∧ look E1 p1 = some (ib, inner) ∧ addA (absG E1) n (p1, p2) = addA A n (p1, p2) ∧ RowsOk E1 ∧ wc.ownsRow 0 64 2 v P.length (P.flatMap encPB) ∧ wc.heap[pb]? = some (.cells #[.string p1, .string p2] 64 (0, 0)) ∧ K2 w0 w wc

theorem look_memG {α : Type} {k : ByteArray} {v : α} : ∀ {M : List (ByteArray × α)}, look M k = some v → (k, v) ∈ M
  | (k', x) :: r, h => by
    unfold look at h
    split at h
    · rename_i e
      subst e
      injection h with h
      rw [h]
      exact List.mem_cons_self
    · exact List.mem_cons_of_mem _ (look_memG h)

set_option linter.unusedSimpArgs false in
set_option maxRecDepth 100000 in
set_option maxHeartbeats 2000000 in
theorem addG_spec (B : Nat) (w0 w : World) (x mb : Nat) (n : Int) (va v : Value) (E : OutG) (all : List Int) (P : List PairB) (k0 : Keeps [] w0 w) (hB0 : w0.heap.size ≤ B) (hB : B ≤ w.heap.size) (hx0 : B ≤ x) (hm0 : B ≤ mb) (hix : IxG B w x mb va E all) (hall : RowOk all) (hrows : RowsOk E) (hn : 0 ≤ n ∧ n < 12) (hs : w.ownsRow 0 64 2 v P.length (P.flatMap encPB)) (hl : P.length ≤ 1000) :
    Calls Tryz.prog 26 #[.pointer (some ⟨x, 0, none⟩), .int .i64 n, v] w (AddPostG B x mb n P E all v w0 w) := by
  have hmm := @run_makeMap Tryz.prog
  have qM : ∀ (w : World) (r : Option Nat), (binOp .eql 72 (.map r) (.map none)).run Tryz.prog w = .ok (.bool r.isNone) w := fun w r => run_eql_map_nil w _ _ _ r Tryz.underlying72
  have hxm : x ≠ mb := hix.map.ne hix.at_
  have c0 := cells_at hix.at_
  have l0 := lt_of_at hix.at_
  have Hadd := Lib.hid (insert_spec B w n va all (hall.1.imp fun h => Int.le_of_lt h) (by have := hall.len; omega) hB hix.own)
  obtain ⟨aa, ca, rfl, -, -, -⟩ := row_slice hix.own
  obtain ⟨vs, vc, rfl, -, -, -⟩ := row_slice hs
  have H0 := Lib.hid (And.intro hix (And.intro hs (And.intro k0 (And.intro hrows hn))))
  clear hix hs k0 hrows hn hall
  go_enter Tryz.func26, Tryz.ntmps26
  go_wp2_with fail
  refine Hadd.out.mono ?_
  rintro e w1 ⟨v1, rfl, hown1, ht1⟩
  have hne1 : insI all n ≠ [] ∨ True := .inr trivial
  clear hne1
  obtain ⟨a1, cp1, rfl, -, -, -⟩ := row_slice hown1
  have hx1 := ht1.box H0.out.1.at_ (row_ne_cells H0.out.1.own H0.out.1.at_ (by decide))
  have H1 := Lib.hid (And.intro hx1 (And.intro hown1 ht1))
  have hso : w1.ownsRow 0 64 2 (.slice vs P.length vc) P.length (P.flatMap encPB) := ht1.keeps.row H0.out.2.1 (rows_ne2 H0.out.1.own H0.out.2.1 (by decide))
  have hk01 : K2 w0 w w1 := (K2.start H0.out.2.2.1).after_turns ht1 H0.out.1.own hB0
  have Hs := Lib.hid (And.intro hso hk01)
  clear hown1 ht1 c0 l0 Hadd hx1 hso hk01
  have c1 := cells_at H1.out.1.1
  have f1 := free_at H1.out.1.1
  have l1 := lt_of_at H1.out.1.1
  go_wp2_with fail
  clear c1 f1 l1
  have k12 : Keeps [x] w1 (w1.setCell ⟨x, 1, none⟩ (.slice a1 (insI all n).length cp1)) := (Keeps.refl _ w1).setCell (.inl (by simp)) _
  have hx2 : IxAt (w1.setCell ⟨x, 1, none⟩ (.slice a1 (insI all n).length cp1)) x mb (.slice a1 (insI all n).length cp1) := (heap_cell_same (i := 1) H1.out.1.1 _).trans (by simp)
  have H2 := Lib.hid (And.intro (H0.out.1.setAll H1.out.2.2 H1.out.2.1 k12 hx2) (And.intro (k12.row Hs.out.1 (fun g hg => by have := row_ne_cells Hs.out.1 H1.out.1.1 (by decide) g hg; simpa using this)) (And.intro (Hs.out.2.ix k12 H1.out.1.1 (Nat.le_trans hB0 hx0)) (And.intro H0.out.2.2.2.1 H0.out.2.2.2.2))))
  clear k12 hx2 H1 H0 Hs
  generalize w1.setCell ⟨x, 1, none⟩ (.slice a1 (insI all n).length cp1) = w2 at H2 ⊢
  go_loopg [20] P.length (AddRelG w0 w B x mb n (.slice vs P.length vc) (.slice a1 (insI all n).length cp1) P E all)
  case atStart => exact ⟨0, E, Nat.zero_le _, rfl, rfl, H2.out.1, rfl, H2.out.2.2.2.1, H2.out.2.1, H2.out.2.2.1⟩
  case round =>
    obtain ⟨i, E', hi, hgk, rfl, hixr, habs, hrows, hvr, hkw⟩ := hrel
    have Hg := Lib.hid hgk
    have Hn := Lib.hid H2.out.2.2.2.2
    clear hgk H2
    by_cases hlt : i < P.length
    · have hSA : SliceArg 2 encPB wr (.slice vs P.length vc) P := (sliceFrom_row (enc := encPB) (fun _ => rfl) hvr).arg
      obtain ⟨b, off, cap', ea, hbW, d0, d1⟩ := pair_at hSA i hlt
      injection ea with ea _ ec
      subst ea ec
      have hlt' : (i : Int) < (P.length : Int) := by omega
      obtain ⟨p, hp⟩ : ∃ p, p = P[i] := ⟨_, rfl⟩
      rw [← hp] at d0 d1
      have Hp := Lib.hid (And.intro hp habs)
      obtain ⟨p1, p2⟩ := p
      dsimp only at d0 d1
      have kp : Keeps [] wr (wr.alloc (.cells #[.string p1, .string p2] 64)) := (Keeps.refl [] wr).alloc _
      have H3a := Lib.hid (And.intro (go1 kp (And.intro hixr (And.intro hvr hkw))) (And.intro (heap_new wr (.cells #[.string p1, .string p2] 64)) hrows))
      clear hixr hvr hkw hSA hp habs hrows kp
      go_upto_region 4 with fail
      clear d0 d1 hbW
      generalize hwa : wr.alloc (.cells #[.string p1, .string p2] 64) = wa at H3a ⊢
      generalize hpb : wr.heap.size = pb at H3a ⊢
      clear hwa hpb
      obtain ⟨o, ho⟩ : ∃ o, o = (look E' p1).map (·.1) := ⟨_, rfl⟩
      obtain ⟨W0, hW0⟩ : ∃ W0, W0 = wa.drew := ⟨_, rfl⟩
      have kW : Keeps [] wa W0 := by rw [hW0]; exact (Keeps.refl [] wa).drew
      have H3 := Lib.hid (go1 kW H3a.out)
      have HW := Lib.hid hW0
      have hpx := lt_of_at H3.out.2.1
      clear kW hW0 H3a
      have F0 : ∀ s : Kept W0, s.val.cell? ⟨x, 0, none⟩ = some (.map (some mb)) := keptCell (by rw [cells_at H3.out.1.1.at_]; rfl)
      have F1 : ∀ s : Kept W0, s.val.cell? ⟨pb, 0, none⟩ = some (.string p1) := keptCell (by rw [cells_at H3.out.2.1]; rfl)
      have L0 : ∀ s : Kept W0, x < s.val.heap.size := fun s => s.property.lt (lt_of_at H3.out.1.1.at_)
      have F2 : ∀ s : Kept W0, (Instr.lookup 73 (.map (some mb)) (.string p1) false).run Tryz.prog s.val = .ok (.map o) s.val := fun s => by
        have := (go1 s.property H3.out.1.1.map).run_lookup (P := Tryz.prog) Tryz.underlying73 Tryz.underlying9 (zeroInner _) p1 false
        rwa [show lookVal (encMap encEntG E') p1 (.map none) false = .map o from by
          rw [ho]
          cases hlk : look E' p1 <;> simp [lookVal, look_enc, hlk, encEntG]] at this
      have Ho := Lib.hid ho
      clear ho
      refine wp_region_held_drew (S := KeptS W0) (by kernel_rfl) (by rw [← HW.out]; exact keptS (Keeps.refl _ _)) (fun hS => ?_)
      rw [← HW.out] at hS ⊢
      clear HW
      refine wpAnyH_take (i := 0) (v := ?_) rfl (by kernel_rfl) (by kernel_rfl) (by kernel_rfl) (fun _ _ _ h => h) (Or.inl ⟨by rfl, ?_⟩) (by assumption) ?_
      rotate_left
      · intro w' s1; obtain ⟨s, rfl⟩ := s1; go_simp; (try with_reducible rfl)
      simp only [Act.put, List.getElem_toArray, List.getElem_cons_succ, List.getElem_cons_zero, List.setIfInBounds_toArray, List.set_cons_zero, List.set_cons_succ]
      refine wpAnyH_take (i := 1) (v := ?_) rfl (by kernel_rfl) (by kernel_rfl) (by kernel_rfl) (fun _ _ _ h => h) (Or.inl ⟨by rfl, ?_⟩) (by assumption) ?_
      rotate_left
      · intro w' s1; obtain ⟨s, rfl⟩ := s1; go_simp; (try with_reducible rfl)
      simp only [Act.put, List.getElem_toArray, List.getElem_cons_succ, List.getElem_cons_zero, List.setIfInBounds_toArray, List.set_cons_zero, List.set_cons_succ]
      refine wpAnyH_take (i := 2) (v := ?_) rfl (by kernel_rfl) (by kernel_rfl) (by kernel_rfl) (fun _ _ _ h => h) (Or.inl ⟨by rfl, ?_⟩) (by assumption) ?_
      rotate_left
      · intro w' s1; obtain ⟨s, rfl⟩ := s1; go_simp; (try with_reducible rfl)
      simp only [Act.put, List.getElem_toArray, List.getElem_cons_succ, List.getElem_cons_zero, List.setIfInBounds_toArray, List.set_cons_zero, List.set_cons_succ]
      refine wpAnyH_take (i := 3) (v := ?_) rfl (by kernel_rfl) (by kernel_rfl) (by kernel_rfl) (fun _ _ _ h => h) (Or.inl ⟨by rfl, ?_⟩) (by assumption) ?_
      rotate_left
      · intro w' s1; obtain ⟨s, rfl⟩ := s1; go_simp; (try with_reducible rfl)
      simp only [Act.put, List.getElem_toArray, List.getElem_cons_succ, List.getElem_cons_zero, List.setIfInBounds_toArray, List.set_cons_zero, List.set_cons_succ]
      refine wpAnyH_take (i := 4) (v := ?_) rfl (by kernel_rfl) (by kernel_rfl) (by kernel_rfl) (fun _ _ _ h => h) (Or.inl ⟨by rfl, ?_⟩) (by assumption) ?_
      rotate_left
      · intro w' s1; obtain ⟨s, rfl⟩ := s1; go_simp; (try with_reducible rfl)
      simp only [Act.put, List.getElem_toArray, List.getElem_cons_succ, List.getElem_cons_zero, List.setIfInBounds_toArray, List.set_cons_zero, List.set_cons_succ]
      refine wpAnyH_take (i := 5) (v := ?_) rfl (by kernel_rfl) (by kernel_rfl) (by kernel_rfl) (fun _ _ _ h => h) (Or.inl ⟨by rfl, ?_⟩) (by assumption) ?_
      rotate_left
      · intro w' s1; obtain ⟨s, rfl⟩ := s1; go_simp; (try with_reducible rfl)
      simp only [Act.put, List.getElem_toArray, List.getElem_cons_succ, List.getElem_cons_zero, List.setIfInBounds_toArray, List.set_cons_zero, List.set_cons_succ]
      refine wpAnyH_take (i := 6) (v := ?_) rfl (by kernel_rfl) (by kernel_rfl) (by kernel_rfl) (fun _ _ _ h => h) (Or.inl ⟨by rfl, ?_⟩) (by assumption) ?_
      rotate_left
      · intro w' s1; obtain ⟨s, rfl⟩ := s1; go_simp; (try with_reducible rfl)
      simp only [Act.put, List.getElem_toArray, List.getElem_cons_succ, List.getElem_cons_zero, List.setIfInBounds_toArray, List.set_cons_zero, List.set_cons_succ]
      refine wpAnyH_ready (rs := [7]) (by kernel_rfl) (by simp) ?_
      refine AllReadyH.cons rfl (fun K hK => ?_) AllReadyH.nil
      go_simp
      go_simp
      refine hK.out _ _ (keptS (Keeps.refl _ _)) (fun hS => ?_)
      clear hK K
      try simp only [Act.put, List.getElem_toArray, List.getElem_cons_succ, List.getElem_cons_zero, List.setIfInBounds_toArray, List.set_cons_zero, List.set_cons_succ]
      refine wpAnyH_done (by kernel_rfl) ?_ _
      clear F0 F1 F2 L0 hS
      go_upto_if 32 with fail
      go_cut [8] from 33 to 40 (CutG w0 w B x mb pb n (.slice (some ⟨b, off, none⟩) P.length vc) (.slice a1 (insI all n).length cp1) P p1 p2 (absG E') (insI all n))
      case first =>
        cases hlk : look E' p1 with
        | none =>
          have hon : o = none := by rw [Ho.out, hlk]; rfl
          subst hon
          have Hlk := Lib.hid hlk
          clear hlk
          have k4 : Keeps [] W0 (W0.alloc (.map #[] 0)).drew := ((Keeps.refl [] W0).alloc _).drew
          obtain ⟨W4, hW4⟩ : ∃ W4, W4 = (W0.alloc (.map #[] 0)).drew := ⟨_, rfl⟩
          rw [← hW4] at k4
          obtain ⟨ib, hib⟩ : ∃ ib, ib = W0.heap.size := ⟨_, rfl⟩
          have hmI : MapAt W4 ib [] := by rw [hW4, hib]; exact mapAt_new W0
          have H4 := Lib.hid (And.intro (go1 k4 H3.out) (And.intro hmI (And.intro k4 H3.out.1.1)))
          have HW := Lib.hid (And.intro hW4 hib)
          have hib1 : W0.heap.size ≤ ib := by omega
          have hBW : B ≤ W0.heap.size := Nat.le_trans hx0 (Nat.le_of_lt (lt_of_at H3.out.1.1.at_))
          clear hW4 k4 hmI hib H3
          go_upto_region 7 with fail
          rw [← HW.out.2]
          have F0 : ∀ s : Kept W4, s.val.cell? ⟨x, 0, none⟩ = some (.map (some mb)) := keptCell (by rw [cells_at H4.out.1.1.1.at_]; rfl)
          have F1 : ∀ s : Kept W4, s.val.cell? ⟨pb, 0, none⟩ = some (.string p1) := keptCell (by rw [cells_at H4.out.1.2.1]; rfl)
          have L0 : ∀ s : Kept W4, x < s.val.heap.size := fun s => s.property.lt (lt_of_at H4.out.1.1.1.at_)
          refine wp_region_last_n 7 (KeptS W4) (by kernel_rfl) (by kernel_rfl) (by kernel_rfl) ?_
          rw [← HW.out.1]
          have hS : KeptS W4 W4 := keptS (Keeps.refl _ _)
          simp only [List.take_succ_cons, List.take_zero, List.toList_toArray]
          refine wpAnyH_take (i := 0) (v := ?_) rfl (by kernel_rfl) (by kernel_rfl) (by kernel_rfl) (fun _ _ _ h => h) (Or.inl ⟨by rfl, ?_⟩) (by assumption) ?_
          rotate_left
          · intro w' s1; obtain ⟨s, rfl⟩ := s1; go_simp; (try with_reducible rfl)
          simp only [Act.put, List.getElem_toArray, List.getElem_cons_succ, List.getElem_cons_zero, List.setIfInBounds_toArray, List.set_cons_zero, List.set_cons_succ]
          refine wpAnyH_take (i := 1) (v := ?_) rfl (by kernel_rfl) (by kernel_rfl) (by kernel_rfl) (fun _ _ _ h => h) (Or.inl ⟨by rfl, ?_⟩) (by assumption) ?_
          rotate_left
          · intro w' s1; obtain ⟨s, rfl⟩ := s1; go_simp; (try with_reducible rfl)
          simp only [Act.put, List.getElem_toArray, List.getElem_cons_succ, List.getElem_cons_zero, List.setIfInBounds_toArray, List.set_cons_zero, List.set_cons_succ]
          refine wpAnyH_take (i := 2) (v := ?_) rfl (by kernel_rfl) (by kernel_rfl) (by kernel_rfl) (fun _ _ _ h => h) (Or.inl ⟨by rfl, ?_⟩) (by assumption) ?_
          rotate_left
          · intro w' s1; obtain ⟨s, rfl⟩ := s1; go_simp; (try with_reducible rfl)
          simp only [Act.put, List.getElem_toArray, List.getElem_cons_succ, List.getElem_cons_zero, List.setIfInBounds_toArray, List.set_cons_zero, List.set_cons_succ]
          refine wpAnyH_take (i := 3) (v := ?_) rfl (by kernel_rfl) (by kernel_rfl) (by kernel_rfl) (fun _ _ _ h => h) (Or.inl ⟨by rfl, ?_⟩) (by assumption) ?_
          rotate_left
          · intro w' s1; obtain ⟨s, rfl⟩ := s1; go_simp; (try with_reducible rfl)
          simp only [Act.put, List.getElem_toArray, List.getElem_cons_succ, List.getElem_cons_zero, List.setIfInBounds_toArray, List.set_cons_zero, List.set_cons_succ]
          refine wpAnyH_take (i := 4) (v := ?_) rfl (by kernel_rfl) (by kernel_rfl) (by kernel_rfl) (fun _ _ _ h => h) (Or.inl ⟨by rfl, ?_⟩) (by assumption) ?_
          rotate_left
          · intro w' s1; obtain ⟨s, rfl⟩ := s1; go_simp; (try with_reducible rfl)
          simp only [Act.put, List.getElem_toArray, List.getElem_cons_succ, List.getElem_cons_zero, List.setIfInBounds_toArray, List.set_cons_zero, List.set_cons_succ]
          refine wpAnyH_take (i := 5) (v := ?_) rfl (by kernel_rfl) (by kernel_rfl) (by kernel_rfl) (fun _ _ _ h => h) (Or.inl ⟨by rfl, ?_⟩) (by assumption) ?_
          rotate_left
          · intro w' s1; obtain ⟨s, rfl⟩ := s1; go_simp; (try with_reducible rfl)
          simp only [Act.put, List.getElem_toArray, List.getElem_cons_succ, List.getElem_cons_zero, List.setIfInBounds_toArray, List.set_cons_zero, List.set_cons_succ]
          refine wpAnyH_take (i := 6) (v := ?_) rfl (by kernel_rfl) (by kernel_rfl) (by kernel_rfl) (fun _ _ _ h => h) (Or.inl ⟨by rfl, ?_⟩) (by assumption) ?_
          rotate_left
          · intro w' s1; obtain ⟨s, rfl⟩ := s1; go_simp; (try with_reducible rfl)
          simp only [Act.put, List.getElem_toArray, List.getElem_cons_succ, List.getElem_cons_zero, List.setIfInBounds_toArray, List.set_cons_zero, List.set_cons_succ]
          refine wpAnyH_done (by kernel_rfl) ?_ _
          refine lastQ_step rfl (fun K hK => ?_)
          refine step_update_str rfl (.tmp 37) (.tmp 39) (.tmp 40) _ _ _ rfl Tryz.underlying73 Tryz.underlying9 mb (encMap encEntG E') p1 (.map (some ib)) rfl rfl rfl H4.out.1.1.1.map ?_
          intro w5 hm5 hk5
          refine hK _ _ ?_
          clear hK K hS F0 F1 L0 HW
          have hnk : p1 ∉ (encMap encEntG E').map (·.1) := by rw [keysG_enc]; exact (look_none_iff p1 E').1 Hlk.out
          have hm5' : MapAt w5 mb (encMap encEntG (E' ++ [(p1, (ib, []))])) := by
            rw [put_end hnk] at hm5
            have e : encMap encEntG (E' ++ [(p1, (ib, []))]) = encMap encEntG E' ++ [(p1, .map (some ib))] := by simp [encMap, encEntG]
            rw [e]
            exact hm5
          have hpe := put_end2 (v := ((ib, []) : EntG)) (x := ((ib, []) : EntG)) Hlk.out
          have hR := Lib.hid (show CutG w0 w B x mb pb n (.slice (some ⟨b, off, none⟩) P.length vc) (.slice a1 (insI all n).length cp1) P p1 p2 (absG E') (insI all n) (.map (some ib)) w5 from
            ⟨ib, [], E' ++ [(p1, (ib, []))], rfl, H4.out.2.2.2.newEnt hib1 hBW H4.out.2.2.1 H4.out.2.1 hxm hk5 hm5', by simp, hpe.2, absG_new ib n p2 Hlk.out, fun p hp q hq => by
              rcases List.mem_append.1 hp with hp | hp
              · exact H4.out.1.2.2 p hp q hq
              · obtain rfl : p = (p1, (ib, [])) := by simpa using hp
                simp at hq, hk5.row H4.out.1.1.2.1 (fun g hg => by have := row_ne_map H4.out.1.1.2.1 H4.out.1.1.1.map g hg; simpa using this), hk5.at_ H4.out.1.2.1 (by simpa using H4.out.1.1.1.map.ne H4.out.1.2.1), H4.out.1.1.2.2.map hk5 H4.out.1.1.1.map (Nat.le_trans hB0 hm0)⟩)
          clear hm5 hk5 H4 hm5' hpe hnk
          go_wp2_with fail
          go_meet
          exact hR.out
        | some e =>
          obtain ⟨ib, inner⟩ := e
          have hon : o = some ib := by rw [Ho.out, hlk]; rfl
          subst hon
          have Hlk := Lib.hid hlk
          clear hlk
          have hR := Lib.hid (show CutG w0 w B x mb pb n (.slice (some ⟨b, off, none⟩) P.length vc) (.slice a1 (insI all n).length cp1) P p1 p2 (absG E') (insI all n) (.map (some ib)) W0 from
            ⟨ib, inner, E', rfl, H3.out.1.1, look_memG Hlk.out, Hlk.out, rfl, H3.out.2.2, H3.out.1.2.1, H3.out.2.1, H3.out.1.2.2⟩)
          clear H3
          go_wp2_with fail
          go_meet
          exact hR.out
      case rest =>
        obtain ⟨ib, inner, E1, rfl, hixc, hmem, hlk, habs1, hrows1, hvc, hpc, hkc⟩ := hcut
        clear H3
        obtain ⟨W6, hW6⟩ : ∃ W6, W6 = wc.drew := ⟨_, rfl⟩
        have k6 : Keeps [] wc W6 := by rw [hW6]; exact (Keeps.refl [] wc).drew
        have H6 := Lib.hid (And.intro (go1 k6 hixc) (And.intro (go1 k6 hvc) (And.intro (go1 k6 hpc) (And.intro (hkc.keep k6) (And.intro hmem (And.intro hlk (And.intro habs1 hrows1)))))))
        have HW := Lib.hid hW6
        clear hW6 k6 hixc hvc hpc hkc hmem hlk habs1 hrows1
        have hI := (H6.out.1.ent _ H6.out.2.2.2.2.1).1
        -- the list that is there
        obtain ⟨v0, l0, hv0, hl0, ho0, hlv, hrow0⟩ : ∃ (v0 : Value) (l0 : List Int), (v0 = .slice none 0 0 ∨ ∃ r0, (p2, r0) ∈ inner ∧ v0 = r0.val) ∧ l0 = ((look inner p2).map RowG.l).getD [] ∧ Own B W6 v0 l0 ∧ lookVal (encMap RowG.val inner) p2 (.slice none 0 0) false = v0 ∧ RowOk l0 := by
          cases hq : look inner p2 with
          | none => exact ⟨.slice none 0 0, [], .inl rfl, rfl, World.ownsRow_nil _ _ _ 1, by simp [lookVal, look_enc, hq], List.Pairwise.nil, by simp⟩
          | some r0 =>
            have hm := look_memG hq
            exact ⟨r0.val, r0.l, .inr ⟨r0, hm, rfl⟩, rfl, (H6.out.1.row _ H6.out.2.2.2.2.1 _ hm).2.1, by simp [lookVal, look_enc, hq], H6.out.2.2.2.2.2.2.2 _ H6.out.2.2.2.2.1 _ hm⟩
        have s1 : W6.cell? ⟨pb, 1, none⟩ = some (.string p2) := by rw [cells_at H6.out.2.2.1]; rfl
        have hlook : ∀ W : World, MapAt W ib (encMap RowG.val inner) → (Instr.lookup 72 (.map (some ib)) (.string p2) false).run Tryz.prog W = .ok v0 W := fun W hW => by
          have := hW.run_lookup (P := Tryz.prog) Tryz.underlying72 Tryz.underlying9 (zeroList _) p2 false
          rwa [hlv] at this
        have s2 := hlook W6 hI
        have Hlook := Lib.hid hlook
        clear hlook
        go_upto_region 8 with fail
        have hBW : B ≤ W6.heap.size := Nat.le_trans hx0 (Nat.le_of_lt (lt_of_at H6.out.1.at_))
        have Hl := Lib.hid (And.intro hv0 (And.intro hl0 (And.intro ho0 (And.intro hrow0 hI))))
        clear hv0 hl0 hlv hI
        obtain ⟨a0, cp0, rfl, -, -, -⟩ := row_slice ho0
        clear ho0 hrow0
        refine wp_region_last_n 9 (fun w' => w'.cell? ⟨pb, 1, none⟩ = some (.string p2) ∧ (Instr.lookup 72 (.map (some ib)) (.string p2) false).run Tryz.prog w' = .ok (.slice a0 l0.length cp0) w') (by kernel_rfl) (by kernel_rfl) (by kernel_rfl) ?_
        rw [← HW.out]
        have hS : W6.cell? ⟨pb, 1, none⟩ = some (.string p2) ∧ (Instr.lookup 72 (.map (some ib)) (.string p2) false).run Tryz.prog W6 = .ok (.slice a0 l0.length cp0) W6 := ⟨s1, s2⟩
        have HS := Lib.hid hS
        clear s1 s2
        simp only [List.take_succ_cons, List.take_zero, List.toList_toArray]
        refine wpAnyH_take (i := 0) (v := ?_) rfl (by kernel_rfl) (by kernel_rfl) (by kernel_rfl) (fun _ _ _ h => h) (Or.inl ⟨by rfl, ?_⟩) (by assumption) ?_
        rotate_left
        · intro w' hSw; obtain ⟨s1, s2⟩ := hSw; go_simp; (try with_reducible rfl)
        simp only [Act.put, List.getElem_toArray, List.getElem_cons_succ, List.getElem_cons_zero, List.setIfInBounds_toArray, List.set_cons_zero, List.set_cons_succ]
        refine wpAnyH_take (i := 1) (v := ?_) rfl (by kernel_rfl) (by kernel_rfl) (by kernel_rfl) (fun _ _ _ h => h) (Or.inl ⟨by rfl, ?_⟩) (by assumption) ?_
        rotate_left
        · intro w' hSw; obtain ⟨s1, s2⟩ := hSw; go_simp; (try with_reducible rfl)
        simp only [Act.put, List.getElem_toArray, List.getElem_cons_succ, List.getElem_cons_zero, List.setIfInBounds_toArray, List.set_cons_zero, List.set_cons_succ]
        refine wpAnyH_take (i := 2) (v := ?_) rfl (by kernel_rfl) (by kernel_rfl) (by kernel_rfl) (fun _ _ _ h => h) (Or.inl ⟨by rfl, ?_⟩) (by assumption) ?_
        rotate_left
        · intro w' hSw; obtain ⟨s1, s2⟩ := hSw; go_simp; (try with_reducible rfl)
        simp only [Act.put, List.getElem_toArray, List.getElem_cons_succ, List.getElem_cons_zero, List.setIfInBounds_toArray, List.set_cons_zero, List.set_cons_succ]
        refine wpAnyH_take (i := 3) (v := ?_) rfl (by kernel_rfl) (by kernel_rfl) (by kernel_rfl) (fun _ _ _ h => h) (Or.inl ⟨by rfl, ?_⟩) (by assumption) ?_
        rotate_left
        · intro w' hSw; obtain ⟨s1, s2⟩ := hSw; go_simp; (try with_reducible rfl)
        simp only [Act.put, List.getElem_toArray, List.getElem_cons_succ, List.getElem_cons_zero, List.setIfInBounds_toArray, List.set_cons_zero, List.set_cons_succ]
        refine wpAnyH_take (i := 4) (v := ?_) rfl (by kernel_rfl) (by kernel_rfl) (by kernel_rfl) (fun _ _ _ h => h) (Or.inl ⟨by rfl, ?_⟩) (by assumption) ?_
        rotate_left
        · intro w' hSw; obtain ⟨s1, s2⟩ := hSw; go_simp; (try with_reducible rfl)
        simp only [Act.put, List.getElem_toArray, List.getElem_cons_succ, List.getElem_cons_zero, List.setIfInBounds_toArray, List.set_cons_zero, List.set_cons_succ]
        refine wpAnyH_take (i := 5) (v := ?_) rfl (by kernel_rfl) (by kernel_rfl) (by kernel_rfl) (fun _ _ _ h => h) (Or.inl ⟨by rfl, ?_⟩) (by assumption) ?_
        rotate_left
        · intro w' hSw; obtain ⟨s1, s2⟩ := hSw; go_simp; (try with_reducible rfl)
        simp only [Act.put, List.getElem_toArray, List.getElem_cons_succ, List.getElem_cons_zero, List.setIfInBounds_toArray, List.set_cons_zero, List.set_cons_succ]
        refine wpAnyH_take (i := 6) (v := ?_) rfl (by kernel_rfl) (by kernel_rfl) (by kernel_rfl) (fun _ _ _ h => h) (Or.inl ⟨by rfl, ?_⟩) (by assumption) ?_
        rotate_left
        · intro w' hSw; obtain ⟨s1, s2⟩ := hSw; go_simp; (try with_reducible rfl)
        simp only [Act.put, List.getElem_toArray, List.getElem_cons_succ, List.getElem_cons_zero, List.setIfInBounds_toArray, List.set_cons_zero, List.set_cons_succ]
        refine wpAnyH_take (i := 7) (v := ?_) rfl (by kernel_rfl) (by kernel_rfl) (by kernel_rfl) (fun _ _ _ h => h) (Or.inl ⟨by rfl, ?_⟩) (by assumption) ?_
        rotate_left
        · intro w' hSw; obtain ⟨s1, s2⟩ := hSw; go_simp; (try with_reducible rfl)
        simp only [Act.put, List.getElem_toArray, List.getElem_cons_succ, List.getElem_cons_zero, List.setIfInBounds_toArray, List.set_cons_zero, List.set_cons_succ]
        refine wpAnyH_ready (rs := [8]) (by kernel_rfl) (by simp) ?_
        refine AllReadyH.cons rfl (fun K hK => ?_) AllReadyH.nil
        go_simp
        go_at_call 46
        refine (insert_spec B W6 n (.slice a0 l0.length cp0) l0 (Hl.out.2.2.2.1.1.imp fun h => Int.le_of_lt h) (by have := Hl.out.2.2.2.1.len; omega) hBW Hl.out.2.2.1).mono ?_
        rintro e A1 ⟨v9, rfl, hown9, kA1⟩
        have hr9 := Hl.out.2.2.2.1.ins Hn.out
        obtain ⟨r9, hr9l, rfl⟩ := own_form hown9 hr9.2
        rw [← hr9l] at hown9 hr9
        have hI := Hl.out.2.2.2.2
        have hmA : MapAt A1 ib (encMap RowG.val inner) := hI.keep kA1.keeps (fun hy => row_ne_map Hl.out.2.2.1 hI ib (by simpa using hy) rfl)
        have hpA := kA1.keeps.at_ H6.out.2.2.1 (fun hy => row_ne_cells Hl.out.2.2.1 H6.out.2.2.1 (by decide) pb (by simpa using hy) rfl)
        have hvA := kA1.keeps.row H6.out.2.1 (rows_ne2 Hl.out.2.2.1 H6.out.2.1 (by decide))
        have hkA := H6.out.2.2.2.1.after_turns kA1 Hl.out.2.2.1 hB0
        have q1 : A1.cell? ⟨pb, 1, none⟩ = some (.string p2) := by rw [cells_at hpA]; rfl
        have q2 := Hlook.out A1 hmA
        have HA := Lib.hid (And.intro hmA (And.intro hvA (And.intro hkA (And.intro hown9 (And.intro kA1 (And.intro hr9 hr9l))))))
        clear hmA hpA hvA hkA hown9 kA1 hr9 hr9l hI
        go_simp
        refine hK.out _ _ ⟨q1,q2⟩ (fun hS => ?_)
        clear hK K
        try simp only [Act.put, List.getElem_toArray, List.getElem_cons_succ, List.getElem_cons_zero, List.setIfInBounds_toArray, List.set_cons_zero, List.set_cons_succ]
        refine wpAnyH_done (by kernel_rfl) ?_ _
        refine lastQ_step rfl (fun K hK => ?_)
        refine step_update_str rfl (.tmp 41) (.tmp 43) (.tmp 49) _ _ _ rfl Tryz.underlying72 Tryz.underlying9 ib (encMap RowG.val inner) p2 r9.val rfl rfl rfl HA.out.1 ?_
        intro w8 hm8 hk8
        refine hK _ _ ?_
        clear hK K hS HS q1 q2 HW
        rw [put_enc] at hm8
        have hix8 := H6.out.1.setRow H6.out.2.2.2.2.1 Hl.out.1 HA.out.2.2.2.2.1 HA.out.2.2.2.1 HA.out.2.2.2.2.2.1.2 hk8 hm8
        have habs8 : absG (put E1 p1 (ib, put inner p2 r9)) = (P.take (i + 1)).foldl (fun A p => addA A n p) (absG E) := by
          rw [absG_add H6.out.2.2.2.2.2.1 (n := n) (by rw [HA.out.2.2.2.2.2.2, Hl.out.2.1]), H6.out.2.2.2.2.2.2.1, List.take_succ_eq_append_getElem hlt, List.foldl_append, ← Hp.out.1, Hp.out.2]
          rfl
        have hrows8 : RowsOk (put E1 p1 (ib, put inner p2 r9)) := fun p hp q hq => by
          rcases mem_putN H6.out.1.names hp with rfl | ⟨hp, _⟩
          · rcases mem_putN (H6.out.1.vals H6.out.2.2.2.2.1) hq with rfl | ⟨hq, _⟩
            · exact HA.out.2.2.2.2.2.1.1
            · exact H6.out.2.2.2.2.2.2.2 _ H6.out.2.2.2.2.1 q hq
          · exact H6.out.2.2.2.2.2.2.2 p hp q hq
        have H8 := Lib.hid (And.intro hix8 (And.intro habs8 (And.intro hrows8 (And.intro (hk8.row HA.out.2.1 (fun g hg => by have := row_ne_map HA.out.2.1 HA.out.1 g hg; simpa using this)) (HA.out.2.2.1.map hk8 HA.out.1 (Nat.le_trans hB0 (H6.out.1.ent _ H6.out.2.2.2.2.1).2.1))))))
        clear hm8 hk8 hix8 habs8 hrows8 H6 HA Hl Hlook
        go_wp2_with fail
        go_roundg (P.length - (i + 1))
        case measure => have := Hg.out; omega
        case rel => exact ⟨i + 1, _, hlt, rfl, by go_num, H8.out.1, H8.out.2.1, H8.out.2.2.1, H8.out.2.2.2.1, H8.out.2.2.2.2⟩
    · have hkn := Lib.hid (show i = P.length from by omega)
      have hlt' : ¬ (i : Int) < (P.length : Int) := by omega
      have Hr := Lib.hid (And.intro hixr (And.intro habs (And.intro hrows (And.intro hvr hkw))))
      clear hixr habs hrows hvr hkw
      go_wp2_with fail
      go_end0
      exact ⟨_, E', rfl, Hr.out.1, by rw [Hr.out.2.1, hkn.out, List.take_length], Hr.out.2.2.1, Hr.out.2.2.2.1, Hr.out.2.2.2.2⟩
end Go.Proofs.YtejfigbjaiealaaGreatDoor
