/-
  Package posting: an index of one series: New, Add onto an empty index of one pair, Get, All, walked.
  No condition beyond those that each theorem states.
-/
import Derived.Test.YtgdkceeonnfejaaGreatDoorLabel1
import Derived.Test.YtgdkceeonnfejaaGreatDoorOps
import Derived.Test.YtgdkceeonnfejaaGreatDoorRegion
namespace Go.Proofs.YtgdkceeonnfejaaGreatDoor
set_option maxRecDepth 100000
set_option maxHeartbeats 1000000
set_option linter.unusedSimpArgs false
open Go Go.RowKit
theorem append_types {P : Program} {t tx e e' : TypeId} (ht : P.underlying t = some (.slice e)) (hx : P.underlying tx = some (.slice e')) (ty : TypeId) (b : Option Addr) (n c : Nat) (x : Value) (w : World) :
  (Builtin.append_ #[t, tx] ty #[.slice b n c, x]).run P w = (Builtin.append_ #[t, t] ty #[.slice b n c, x]).run P w := by
 unfold Builtin.append_
 simp only [List.getElem?_toArray, List.getElem?_cons_zero, List.getElem?_cons_succ, Sem.run_bind, run_underlying ht, run_underlying hx, Result.andThen_ok, Sem.run_pure]
section
variable {ops : Array Oper} {rest : List Oper} {o : Oper} {a : Act} {Q : Exit → Act → World → Prop}
theorem own_append2 {w : World} (hgd : o.guard = none) (s x : Operand) (T Tx : TypeId) (hT : Tryz.prog.underlying T = some (.slice 3)) (hTx : Tryz.prog.underlying Tx = some (.slice 3)) (ho : o.op = .call { callee := .builtin .append, args := #[s, x], argTypes := #[T, Tx] })
  (B : Nat) (v : Value) (l : List Int) (hs : a.eval s = v) (hb : Own B w v l) (ad : Addr) (m c : Nat) (news : List Int) (hm : news.length = m) (hx : a.eval x = .slice (some ad) m c) (hnews : ∀ j u, (news.map (Value.int .i64))[j]? = some u → w.cell? (ad.add j) = some u)
  (h63 : l.length + m ≤ 1000000) (hB : B ≤ w.heap.size) (h : ∀ ao cp w', Own B w' (.slice ao (l.length + m) cp) (l ++ news) → Turns v w (.slice ao (l.length + m) cp) w' → wpList Tryz.prog ops Q rest (a.put o.dst (.slice ao (l.length + m) cp)) w') : wpList Tryz.prog ops Q (o :: rest) a w := by
 obtain ⟨i, hi, hz0, hz1, hz2⟩ := info_parts infoInt
 refine wpList_plain hgd fun K hK => ?_
 obtain ⟨v', w', hr, h2, h3⟩ := run_append_turns (P := Tryz.prog) w B T o.type 3 i _ 1 8 hT hi hz0 hz1 hz2 rfl (by decide) v _ _ hb ad m c (news.map (Value.int .i64)) (by rw [List.length_map, hm, Nat.mul_one]) hnews (by
  intro u hu
  obtain ⟨n, _, rfl⟩ := List.mem_map.1 hu
  rfl) (by simp only [maxLen]; omega) (by omega) hB
 obtain ⟨av, cv, rfl, -, -, -⟩ := row_slice hb
 have hr' := (append_types (P := Tryz.prog) hT hTx o.type av l.length cv (.slice (some ad) m c) w).trans hr
 unfold Oper.wp execOp
 simp only [ho, resolve, invoke, builtin, Sem.run_bind, Sem.run_pure, Result.andThen_ok, List.map_toArray, List.map_cons, List.map_nil, hs, hx, hr']
 obtain ⟨ao, cp, rfl, -, -, -⟩ := row_slice h2
 exact hK _ _ (h ao cp w' (by unfold Own; rw [List.map_append, List.length_append, hm]; exact h2) h3)
end
theorem step_update_str {P : Program} {ops : Array Oper} {o : Oper} {a : Act} {w : World} {K : Act → World → Prop} {Q : Exit → Act → World → Prop} {E : Prop}
  (hg : o.guard = none) (m x v : Operand) (t kt et : TypeId) (hop : o.op = Op.mapUpdate t m x v) (ht : P.underlying t = some (.map kt et)) (hk : P.underlying kt = some .string)
  (b : Nat) (M : KV) (key : ByteArray) (val : Value) (hm : a.eval m = .map (some b)) (hx : a.eval x = .string key) (hv : a.eval v = val) (h : MapAt w b M)
  (hK : ∀ w', MapAt w' b (put M key val) → Keeps [b] w w' → K (a.put o.dst undef) w') : if Region.wanted o (yielded ops a.tmps) = true then Oper.wp P o a w K Q else E := by
 have hw : Region.wanted o (yielded ops a.tmps) = true := by simp [Region.wanted, hg]
 rw [if_pos hw]
 obtain ⟨ob, hrun, r1⟩ := h.run_update ht hk key val
 unfold Oper.wp
 simp [execOp, hop, hm, hx, hv, hrun, Result.andThen]
 exact hK _ r1 (keeps_setIf ob)
def IxAt (w : World) (x mb : Nat) (va : Value) : Prop := w.heap[x]? = some (.cells #[.map (some mb), va] 142 (0, 0))
instance go1Ix {w w' : World} (x mb : Nat) (va : Value) : Go1 w w' (IxAt w x mb va) (IxAt w' x mb va) := ⟨fun k h => k.at_ h (by simp)⟩
theorem newIx_spec (w : World) : Calls Tryz.prog 32 #[] w fun e w' => ∃ x mb, e = .returned (.pointer (some ⟨x, 0, none⟩)) ∧ IxAt w' x mb (.slice none 0 0) ∧ MapAt w' mb [] ∧ w.heap.size ≤ x ∧ w.heap.size ≤ mb ∧ x ≠ mb ∧ Keeps [] w w' := by
 have hmm := @run_makeMap Tryz.prog
 go_enter Tryz.func32, Tryz.ntmps32
 go_wp2_with fail
 go_ret
 have hk2 : Keeps [] w ((w.alloc (.map #[] 0)).alloc (.cells #[.map (some w.heap.size), .slice none 0 0] 142)) := ((Keeps.refl [] w).alloc _).alloc _
 obtain ⟨n1, n2⟩ := new2 w (.map #[] 0) (.cells #[.map (some w.heap.size), .slice none 0 0] 142)
 exact ⟨w.heap.size + 1, w.heap.size, rfl, n2, ⟨[], 0, n1, ⟨by simp, by simp, by simp⟩, rfl⟩, by omega, Nat.le_refl _, by omega, hk2⟩
theorem bsearch0_spec (w : World) (n : Int) : Calls Tryz.prog 113 #[.slice none 0 0, .int .i64 n] w fun e w' => e = .returned (.tuple #[.int .i64 0, .bool false]) ∧ w = w' := by
 go_enter Tryz.func113, Tryz.ntmps113
 go_wp2_with fail
 go_loopg [7, 8] 0 (fun gk u7 u8 wr => u7 = .int .i64 0 ∧ u8 = .int .i64 0 ∧ wr = w)
 case atStart => exact ⟨rfl, rfl, rfl⟩
 case round =>
  obtain ⟨rfl, rfl, rfl⟩ := hrel
  go_wp2_with fail
  go_ret2
  exact ⟨rfl, rfl⟩
theorem insertS0_spec (w : World) (n : Int) (g : Nat) (hg : w.heap[g]? = some (.cells #[.int .i64 n] 3 (0, 0))) : Calls Tryz.prog 127 #[.slice none 0 0, .int .i64 0, .slice (some ⟨g, 0, none⟩) 1 1] w fun e w' => ∃ v', e = .returned v' ∧ Own w.heap.size w' v' [n] ∧ Keeps [] w w' := by
 go_enter Tryz.func127, Tryz.ntmps127
 go_wp2_with (at_builtin; refine own_append2 rfl (.tmp 23) (.tmp 24) 114 113 Tryz.underlying114 Tryz.underlying113 rfl w.heap.size (.slice none 0 0) [] rfl (World.ownsRow_nil _ _ _ 1) ⟨g, 0, none⟩ 1 1 [n] rfl rfl (news_of hg) (by decide) (Nat.le_refl _) ?_; intro ao cp w9 hown9 ht9; have H9 := Lib.hid (And.intro hown9 (ht9.fresh (Keeps.refl [] w) (fun g hg => by simp [Value.ownBlock] at hg)).1); clear hown9 ht9)
 go_ret
 exact ⟨_, rfl, H9.out.1, H9.out.2⟩
theorem insert0_spec (w : World) (n : Int) : Calls Tryz.prog 98 #[.slice none 0 0, .int .i64 n] w fun e w' => ∃ v', e = .returned v' ∧ Own w.heap.size w' v' [n] ∧ Keeps [] w w' := by
 have k0 : Keeps [] w (w.alloc (.cells #[.int .i64 n] 3)) := (Keeps.refl [] w).alloc _
 have H0 := Lib.hid (And.intro (heap_new w (.cells #[.int .i64 n] 3)) k0)
 clear k0
 go_enter Tryz.func98, Tryz.ntmps98
 go_wp2_with fail
 refine (bsearch0_spec _ n).mono ?_
 rintro e w1 ⟨rfl, rfl⟩
 go_wp2_with fail
 refine (insertS0_spec _ n _ H0.out.1).mono ?_
 rintro e w2 ⟨v2, rfl, hown, hk⟩
 have H2 := Lib.hid (And.intro (row_base (b' := w.heap.size) hown (by simp)) (H0.out.2.trans hk))
 clear hown hk
 go_wp2_with fail
 go_ret
 exact ⟨_, rfl, H2.out.1, H2.out.2⟩
theorem row_ne_map {w : World} {base s n b : Nat} {e : TypeId} {v : Value} {xs : List Value} {m : KV} (h : w.ownsRow base e s v n xs) (hm : MapAt w b m) : ∀ g, v.ownBlock = some g → g ≠ b := by
 intro g hg
 obtain ⟨_, ⟨rfl, _⟩ | ⟨g', cap, cur, rfl, _, h1, _⟩⟩ := h
 ·simp [Value.ownBlock] at hg
 ·obtain rfl : g' = g := by simpa [Value.ownBlock] using hg
  exact hm.ne h1
theorem Set1.ne {B b : Nat} {w : World} {v : Value} {o : Obj} (h : Set1 B w v) (hb : w.heap[b]? = some o) (ho : ∀ c, o ≠ .cells c 149 (0, 0)) : ∀ w' S, S = [b] → Keeps S w w' → Set1 B w' v := by
 rintro w' S rfl k
 obtain ⟨g, c, cur, e, h1, h2, h3, hg, r⟩ := h
 refine ⟨g, c, cur, e, h1, h2, h3, k.at_ hg (fun hm => ?_), r⟩
 obtain rfl : g = b := by simpa using hm
 rw [hg] at hb
 injection hb with hb
 exact ho _ hb.symm
def Ix1 (w : World) (x : Nat) (n : Int) : Prop := ∃ mb ib va vr, IxAt w x mb va ∧ Own 0 w va [n] ∧ MapAt w mb [(⟨#[97]⟩, .map (some ib))] ∧ MapAt w ib [(⟨#[49]⟩, vr)] ∧ Own 0 w vr [n]
theorem zeroInner (w : World) : (zeroValue 171).run Tryz.prog w = .ok (.map none) w := by kernel_rfl
theorem zeroList (w : World) : (zeroValue 114).run Tryz.prog w = .ok (.slice none 0 0) w := by kernel_rfl
def AddRel1 (w w2 : World) (x mb : Nat) (n : Int) (gk : Nat) (u20 : Value) (wr : World) : Prop :=
 (gk = 1 ∧ u20 = .int .i64 0 ∧ wr = w2) ∨ (gk = 0 ∧ u20 = .int .i64 1 ∧ Ix1 wr x n ∧ Keeps [x, mb] w wr)
theorem add1_spec (B : Nat) (w : World) (x mb : Nat) (n : Int) (v : Value) (hx : IxAt w x mb (.slice none 0 0)) (hm : MapAt w mb []) (hs : Set1 B w v) :
  Calls Tryz.prog 68 #[.pointer (some ⟨x, 0, none⟩), .int .i64 n, v] w fun e w' => e = .returned (.tuple #[]) ∧ Ix1 w' x n ∧ Keeps [x, mb] w w' := by
 have hmm := @run_makeMap Tryz.prog
 have qM : ∀ (w : World) (r : Option Nat), (binOp .eql 171 (.map r) (.map none)).run Tryz.prog w = .ok (.bool r.isNone) w := fun w r => run_eql_map_nil w _ _ _ r Tryz.underlying171
 have hxm : x ≠ mb := hm.ne hx
 have c0 := cells_at hx
 have l0 := lt_of_at hx
 have H0 := Lib.hid (And.intro hx (And.intro hm hs))
 obtain ⟨g, c, cur, rfl, -⟩ := hs
 clear hx hm
 go_enter Tryz.func68, Tryz.ntmps68
 go_wp2_with fail
 refine (insert0_spec _ n).mono ?_
 rintro e w1 ⟨v1, rfl, hown1, hk1⟩
 obtain ⟨a1, cp1, rfl, -, -, -⟩ := row_slice hown1
 have H1 := Lib.hid (And.intro (go1 hk1 H0.out) (And.intro hown1 hk1))
 clear hown1 hk1 c0 l0
 have c1 := cells_at H1.out.1.1
 have f1 := free_at H1.out.1.1
 have l1 := lt_of_at H1.out.1.1
 go_wp2_with fail
 clear c1 f1 l1
 have k12 : Keeps [x] w1 (w1.setCell ⟨x, 1, none⟩ (.slice a1 1 cp1)) := (Keeps.refl _ w1).setCell (.inl (by simp)) _
 have hx2 : IxAt (w1.setCell ⟨x, 1, none⟩ (.slice a1 1 cp1)) x mb (.slice a1 1 cp1) := (heap_cell_same (i := 1) H1.out.1.1 _).trans (by simp)
 have H2 := Lib.hid (And.intro hx2 (And.intro (H1.out.1.2.1.keep k12 (by simpa using fun e => hxm e.symm)) (And.intro (H1.out.1.2.2.ne H1.out.1.1 (fun c e => by injection e with _ e _; exact absurd e (by decide)) _ _ rfl k12) (And.intro (k12.row (row_base H1.out.2.1 (Nat.zero_le _)) (fun g hg => by have := row_ne_cells H1.out.2.1 H1.out.1.1 (by decide) g hg; simpa using this)) ((H1.out.2.2.mono (by simp)).trans k12)))))
 clear k12 hx2 H1 H0
 generalize w1.setCell ⟨x, 1, none⟩ (.slice a1 1 cp1) = w2 at H2 ⊢
 go_loopg [20] 1 (AddRel1 w w2 x mb n)
 case atStart => exact .inl ⟨rfl, rfl, rfl⟩
 case round =>
  rcases hrel with ⟨hgk, rfl, rfl⟩ | ⟨hgk, rfl, hix, hk⟩
  ·have Hg := Lib.hid hgk
   obtain ⟨g', c', cur', e1, -, hc1, hcm, hG, -, h10, h11⟩ := H2.out.2.2.1
   injection e1 with e1 _ e2
   injection e1 with e1
   injection e1 with e1 _ _
   subst e1 e2
   have d0 : wr.cell? ⟨g, 0, none⟩ = some (.string ⟨#[97]⟩) := by rw [cells_at hG]; exact h10
   have d1 : wr.cell? ⟨g, 1, none⟩ = some (.string ⟨#[49]⟩) := by rw [cells_at hG]; exact h11
   have lg := lt_of_at hG
   have kp : Keeps [] wr (wr.alloc (.cells #[.string ⟨#[97]⟩, .string ⟨#[49]⟩] 149)) := (Keeps.refl [] wr).alloc _
   obtain ⟨W0, hW0⟩ : ∃ W0, W0 = (wr.alloc (.cells #[.string ⟨#[97]⟩, .string ⟨#[49]⟩] 149)).drew := ⟨_, rfl⟩
   have kW : Keeps [] wr W0 := by rw [hW0]; exact kp.drew
   have hp : W0.heap[wr.heap.size]? = some (.cells #[.string ⟨#[97]⟩, .string ⟨#[49]⟩] 149 (0, 0)) := by rw [hW0]; exact heap_new wr _
   have hxlt := lt_of_at H2.out.1
   have hmlt := H2.out.2.1.lt
   have H3 := Lib.hid (And.intro (go1 kW H2.out.1) (And.intro (go1 kW H2.out.2.1) (And.intro (go1 kW H2.out.2.2.2.1) (And.intro hp (H2.out.2.2.2.2.trans (kW.mono (by simp)))))))
   have HW := Lib.hid hW0
   have hWs : wr.heap.size < W0.heap.size := lt_of_at hp
   have hw0 : w.heap.size ≤ W0.heap.size := (H2.out.2.2.2.2.trans (kW.mono (by simp))).size
   clear hgk hG h10 h11 hc1 hcm kp kW hp hW0
   go_upto_region 4 with fail
   clear d0 d1 lg
   have F0 : ∀ s : Kept W0, s.val.cell? ⟨x, 0, none⟩ = some (.map (some mb)) := keptCell (by rw [cells_at H3.out.1]; rfl)
   have F1 : ∀ s : Kept W0, s.val.cell? ⟨wr.heap.size, 0, none⟩ = some (.string ⟨#[97]⟩) := keptCell (by rw [cells_at H3.out.2.2.2.1]; rfl)
   have F2 : ∀ s : Kept W0, (Instr.lookup 140 (.map (some mb)) (.string ⟨#[97]⟩) false).run Tryz.prog s.val = .ok (.map none) s.val := fun s => (go1 s.property H3.out.2.1).run_lookup Tryz.underlying140 Tryz.underlying9 (zeroInner _) ⟨#[97]⟩ false
   have L0 : ∀ s : Kept W0, x < s.val.heap.size := fun s => s.property.lt (lt_of_at H3.out.1)
   refine wp_region_held_drew (S := KeptS W0) (by kernel_rfl) (by rw [← HW.out]; exact keptS (Keeps.refl _ _)) (fun hS => ?_)
   rw [← HW.out] at hS ⊢
   clear HW
   refine tk (v := ?_) 0 rfl ?_ ?_; rotate_left
   ·rintro _ ⟨s, rfl⟩; go_simp; (try with_reducible rfl)
   simp only [Act.put, zz]
   refine tk (v := ?_) 1 rfl ?_ ?_; rotate_left
   ·rintro _ ⟨s, rfl⟩; go_simp; (try with_reducible rfl)
   simp only [Act.put, zz]
   refine tk (v := ?_) 2 rfl ?_ ?_; rotate_left
   ·rintro _ ⟨s, rfl⟩; go_simp; (try with_reducible rfl)
   simp only [Act.put, zz]
   refine tk (v := ?_) 3 rfl ?_ ?_; rotate_left
   ·rintro _ ⟨s, rfl⟩; go_simp; (try with_reducible rfl)
   simp only [Act.put, zz]
   refine tk (v := ?_) 4 rfl ?_ ?_; rotate_left
   ·rintro _ ⟨s, rfl⟩; go_simp; (try with_reducible rfl)
   simp only [Act.put, zz]
   refine tk (v := ?_) 5 rfl ?_ ?_; rotate_left
   ·rintro _ ⟨s, rfl⟩; go_simp; (try with_reducible rfl)
   simp only [Act.put, zz]
   refine tk (v := ?_) 6 rfl ?_ ?_; rotate_left
   ·rintro _ ⟨s, rfl⟩; go_simp; (try with_reducible rfl)
   simp only [Act.put, zz]
   refine rd 7 rfl fun K hK => ?_
   go_simp
   go_simp
   refine hK.out _ _ (keptS (Keeps.refl _ _)) (fun hS => ?_)
   clear hK K
   try simp only [Act.put, zz]
   refine wpAnyH_done (by kernel_rfl) ?_ _
   clear F0 F1 F2 L0 hS
   have k4 : Keeps [] W0 (W0.alloc (.map #[] 0)).drew := ((Keeps.refl [] W0).alloc _).drew
   obtain ⟨W4, hW4⟩ : ∃ W4, W4 = (W0.alloc (.map #[] 0)).drew := ⟨_, rfl⟩
   rw [← hW4] at k4
   obtain ⟨ib, hib⟩ : ∃ ib, ib = W0.heap.size := ⟨_, rfl⟩
   have hmI : MapAt W4 ib [] := by rw [hW4, hib]; exact mapAt_new W0
   generalize wr.heap.size = pb at H3 hWs hxlt hmlt ⊢
   have H4 := Lib.hid (And.intro (go1 k4 H3.out) hmI)
   have HW := Lib.hid (And.intro hW4 hib)
   have hbi : mb < ib ∧ x < ib ∧ pb < ib ∧ x ≠ ib ∧ mb ≠ ib := by omega
   have hwi : w.heap.size ≤ ib := by omega
   clear hW4 k4 hmI hib H3
   go_upto_region 7 with fail
   rw [← HW.out.2]
   have F0 : ∀ s : Kept W4, s.val.cell? ⟨x, 0, none⟩ = some (.map (some mb)) := keptCell (by rw [cells_at H4.out.1.1]; rfl)
   have F1 : ∀ s : Kept W4, s.val.cell? ⟨pb, 0, none⟩ = some (.string ⟨#[97]⟩) := keptCell (by rw [cells_at H4.out.1.2.2.2.1]; rfl)
   have L0 : ∀ s : Kept W4, x < s.val.heap.size := fun s => s.property.lt (lt_of_at H4.out.1.1)
   refine wp_region_last_n 7 (KeptS W4) (by kernel_rfl) (by kernel_rfl) (by kernel_rfl) ?_
   rw [← HW.out.1]
   have hS : KeptS W4 W4 := keptS (Keeps.refl _ _)
   simp only [List.take_succ_cons, List.take_zero, List.toList_toArray]
   refine tk (v := ?_) 0 rfl ?_ ?_; rotate_left
   ·rintro _ ⟨s, rfl⟩; go_simp; (try with_reducible rfl)
   simp only [Act.put, zz]
   refine tk (v := ?_) 1 rfl ?_ ?_; rotate_left
   ·rintro _ ⟨s, rfl⟩; go_simp; (try with_reducible rfl)
   simp only [Act.put, zz]
   refine tk (v := ?_) 2 rfl ?_ ?_; rotate_left
   ·rintro _ ⟨s, rfl⟩; go_simp; (try with_reducible rfl)
   simp only [Act.put, zz]
   refine tk (v := ?_) 3 rfl ?_ ?_; rotate_left
   ·rintro _ ⟨s, rfl⟩; go_simp; (try with_reducible rfl)
   simp only [Act.put, zz]
   refine tk (v := ?_) 4 rfl ?_ ?_; rotate_left
   ·rintro _ ⟨s, rfl⟩; go_simp; (try with_reducible rfl)
   simp only [Act.put, zz]
   refine tk (v := ?_) 5 rfl ?_ ?_; rotate_left
   ·rintro _ ⟨s, rfl⟩; go_simp; (try with_reducible rfl)
   simp only [Act.put, zz]
   refine tk (v := ?_) 6 rfl ?_ ?_; rotate_left
   ·rintro _ ⟨s, rfl⟩; go_simp; (try with_reducible rfl)
   simp only [Act.put, zz]
   refine wpAnyH_done (by kernel_rfl) ?_ _
   refine lastQ_step rfl (fun K hK => ?_)
   refine step_update_str rfl (.tmp 37) (.tmp 39) (.tmp 40) _ _ _ rfl Tryz.underlying140 Tryz.underlying9 mb [] ⟨#[97]⟩ (.map (some ib)) rfl rfl rfl H4.out.1.2.1 ?_
   intro w5 hm5 hk5
   refine hK _ _ ?_
   clear hK K hS F0 F1 L0 HW
   have H5 := Lib.hid (And.intro (show IxAt w5 x mb (.slice a1 1 cp1) from hk5.at_ H4.out.1.1 (by simpa using hxm)) (And.intro hm5 (And.intro (hk5.row H4.out.1.2.2.1 (fun g hg => by have := row_ne_map H4.out.1.2.2.1 H4.out.1.2.1 g hg; simpa using this)) (And.intro (hk5.at_ H4.out.1.2.2.2.1 (by simpa using H4.out.1.2.1.ne H4.out.1.2.2.2.1)) (And.intro (H4.out.2.keep hk5 (by simpa using hbi.2.2.2.2.symm)) ((H4.out.1.2.2.2.2.mono (by simp)).trans (hk5.mono (by simp) : Keeps [x, mb] W4 w5)))))))
   clear hm5 hk5 H4
   obtain ⟨W6, hW6⟩ : ∃ W6, W6 = w5.drew := ⟨_, rfl⟩
   have k6 : Keeps [] w5 W6 := by rw [hW6]; exact (Keeps.refl [] w5).drew
   have H6 := Lib.hid (go1 k6 H5.out)
   have HW := Lib.hid hW6
   clear hW6 k6 H5
   go_upto_region 8 with fail
   have F0 : ∀ s : Kept W6, s.val.cell? ⟨pb, 1, none⟩ = some (.string ⟨#[49]⟩) := keptCell (by rw [cells_at H6.out.2.2.2.1]; rfl)
   have F2 : ∀ s : Kept W6, (Instr.lookup 171 (.map (some ib)) (.string ⟨#[49]⟩) false).run Tryz.prog s.val = .ok (.slice none 0 0) s.val := fun s => (go1 s.property H6.out.2.2.2.2.1).run_lookup Tryz.underlying171 Tryz.underlying9 (zeroList _) ⟨#[49]⟩ false
   refine wp_region_last_n 9 (KeptS W6) (by kernel_rfl) (by kernel_rfl) (by kernel_rfl) ?_
   rw [← HW.out]
   have hS : KeptS W6 W6 := keptS (Keeps.refl _ _)
   simp only [List.take_succ_cons, List.take_zero, List.toList_toArray]
   refine tk (v := ?_) 0 rfl ?_ ?_; rotate_left
   ·rintro _ ⟨s, rfl⟩; go_simp; (try with_reducible rfl)
   simp only [Act.put, zz]
   refine tk (v := ?_) 1 rfl ?_ ?_; rotate_left
   ·rintro _ ⟨s, rfl⟩; go_simp; (try with_reducible rfl)
   simp only [Act.put, zz]
   refine tk (v := ?_) 2 rfl ?_ ?_; rotate_left
   ·rintro _ ⟨s, rfl⟩; go_simp; (try with_reducible rfl)
   simp only [Act.put, zz]
   refine tk (v := ?_) 3 rfl ?_ ?_; rotate_left
   ·rintro _ ⟨s, rfl⟩; go_simp; (try with_reducible rfl)
   simp only [Act.put, zz]
   refine tk (v := ?_) 4 rfl ?_ ?_; rotate_left
   ·rintro _ ⟨s, rfl⟩; go_simp; (try with_reducible rfl)
   simp only [Act.put, zz]
   refine tk (v := ?_) 5 rfl ?_ ?_; rotate_left
   ·rintro _ ⟨s, rfl⟩; go_simp; (try with_reducible rfl)
   simp only [Act.put, zz]
   refine tk (v := ?_) 6 rfl ?_ ?_; rotate_left
   ·rintro _ ⟨s, rfl⟩; go_simp; (try with_reducible rfl)
   simp only [Act.put, zz]
   refine tk (v := ?_) 7 rfl ?_ ?_; rotate_left
   ·rintro _ ⟨s, rfl⟩; go_simp; (try with_reducible rfl)
   simp only [Act.put, zz]
   refine rd 8 rfl fun K hK => ?_
   go_simp
   go_at_call 98
   refine (insert0_spec _ n).mono ?_
   rintro e A1 ⟨v9, rfl, hown9, kA1⟩
   go_simp
   refine hK.out _ _ (keptS kA1) (fun hS => ?_)
   clear hK K
   try simp only [Act.put, zz]
   have H7 := Lib.hid (And.intro (go1 kA1 H6.out) hown9)
   refine wpAnyH_done (by kernel_rfl) ?_ _
   refine lastQ_step rfl (fun K hK => ?_)
   refine step_update_str rfl (.tmp 41) (.tmp 43) (.tmp 49) _ _ _ rfl Tryz.underlying171 Tryz.underlying9 ib [] ⟨#[49]⟩ v9 rfl rfl rfl H7.out.1.2.2.2.2.1 ?_
   intro w8 hm8 hk8
   refine hK _ _ ?_
   clear hK K hS F0 F2 HW hown9 kA1
   have H8 := Lib.hid (And.intro (show Ix1 w8 x n from ⟨mb, ib, _, v9, hk8.at_ H7.out.1.1 (by simpa using hbi.2.2.2.1), hk8.row H7.out.1.2.2.1 (fun g hg => by have := row_ne_map H7.out.1.2.2.1 H7.out.1.2.2.2.2.1 g hg; simpa using this), H7.out.1.2.1.keep hk8 (by simpa using hbi.2.2.2.2), hm8, row_base (hk8.row H7.out.2 (fun g hg => by have := row_ne_map H7.out.2 H7.out.1.2.2.2.2.1 g hg; simpa using this)) (Nat.zero_le _)⟩)
    (H7.out.1.2.2.2.2.2.after hk8 (fun y hy => by
     obtain rfl : y = ib := by simpa using hy
     exact .inr (by omega))))
   clear hm8 hk8 H7 H6
   go_wp2_with fail
   go_roundg 0
   case measure => have := Hg.out; omega
   case rel => exact .inr ⟨rfl, rfl, H8.out.1, H8.out.2⟩
  ·have Hr := Lib.hid (And.intro hix hk)
   clear hix hk H2
   go_wp2_with fail
   go_end0
   exact ⟨rfl, Hr.out.1, Hr.out.2⟩
theorem Ix1.same {w w' : World} {x : Nat} {n : Int} (h : Ix1 w x n) (k : Keeps [] w w') : Ix1 w' x n := by
 obtain ⟨mb, ib, va, vr, hx, hva, hm, hi, hvr⟩ := h
 exact ⟨mb, ib, va, vr, go1 k hx, go1 k hva, go1 k hm, go1 k hi, go1 k hvr⟩
instance go1Ix1 {w w' : World} (x : Nat) (n : Int) : Go1 w w' (Ix1 w x n) (Ix1 w' x n) := ⟨fun k h => h.same k⟩
end Go.Proofs.YtgdkceeonnfejaaGreatDoor
