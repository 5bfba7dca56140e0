/-
  Package label: the key of the set of one pair, a=1; its copy.
  No condition beyond those that each theorem states.

  A map of numbers to pointers that holds nothing, or number 1 alone: its look-up, update, range.
  No condition beyond those that each theorem states.

  Package head: (*Head).Check: two points of one new series onto the head that holds nothing; one point onto the head of one series, at its last time.
  No condition beyond those that each theorem states.

  Package head: (*Head).add: the first point of a new series; a second point of it.
  No condition beyond those that each theorem states.

  Package head: (*Head).Add of two points of one new series; (*Head).Oldest and (*Head).Samples then.
  No condition beyond those that each theorem states.

  What wakes package barographlaw15: it answers true. HeadMay: New opens a head iff the config may be.
  The library's variable internal/bytealg.MaxLen holds some number.
-/
import Derived.Test.YtgdkceeonnfejaaGreatDoorHead1
import Derived.Test.YtgdkceeonnfejaaGreatDoorLebLaw
import Derived.Maps.RangeRun
import Derived.BigQuiet
import Derived.Maps.RangeWalk
import Derived.Lib.SmallJoins
namespace Go.Proofs.YtgdkceeonnfejaaGreatDoor
set_option maxRecDepth 100000
set_option maxHeartbeats 1000000
set_option linter.unusedSimpArgs false
open Go Go.RowKit
def keyB : ByteArray := ⟨#[1, 1, 97, 1, 49]⟩
def Key1Rel (w : World) (gk : Nat) (u3 u12 : Value) (wr : World) : Prop :=
 (gk = 1 ∧ u12 = .int .i64 0 ∧ Buf wr u3 [1] ∧ (∀ g, u3.ownBlock = some g → w.heap.size ≤ g) ∧ Keeps [] w wr) ∨ (gk = 0 ∧ u12 = .int .i64 1 ∧ Buf wr u3 [1, 1, 97, 1, 49] ∧ Keeps [] w wr)
theorem key1_spec (w : World) (g c : Nat) (cur : Array Value) (hb : w.heap[g]? = some (.cells cur 149 (0, 0))) (h0 : cur[0]? = some (.string ⟨#[97]⟩)) (h1 : cur[1]? = some (.string ⟨#[49]⟩)) :
  Calls Tryz.prog 38 #[.slice (some ⟨g, 0, none⟩) 1 c] w fun e w' => e = .returned (.string keyB) ∧ Keeps [] w w' := by
 have d0 : w.cell? ⟨g, 0, none⟩ = some (.string ⟨#[97]⟩) := by rw [cells_at hb]; exact h0
 have d1 : w.cell? ⟨g, 1, none⟩ = some (.string ⟨#[49]⟩) := by rw [cells_at hb]; exact h1
 have hl := lt_of_at hb
 clear hb h0 h1
 go_enter Tryz.func38, Tryz.ntmps38
 go_wp2_with fail
 refine (uint_spec w (.slice none 0 0) [] 1 (by decide) (by decide) (buf_nil w)).mono ?_
 rintro e w1 ⟨v1, rfl, hbuf, ht⟩
 have hf := ht.fresh (Keeps.refl [] w) (fun g hg => by simp [Value.ownBlock] at hg)
 have hl1 : lebL 1 = [1] := by decide +kernel
 rw [hl1, List.nil_append] at hbuf
 have H1 := Lib.hid (And.intro hbuf hf)
 clear hbuf ht hf hl1
 go_wp2_with fail
 go_loopg [3, 12] 1 (Key1Rel w)
 case atStart => exact .inl ⟨rfl, rfl, H1.out.1, H1.out.2.2, H1.out.2.1⟩
 case round =>
  rcases hrel with ⟨hgk, rfl, hbuf, hown, hkw⟩ | ⟨hgk, rfl, hbuf, hkw⟩
  ·have Hg := Lib.hid hgk
   have e0 := (hkw.cell (i := 0) hl (by simp)).trans d0
   have e1 := (hkw.cell (i := 1) hl (by simp)).trans d1
   have hlw := hkw.lt hl
   have hp := heap_new wr (.cells #[.string ⟨#[97]⟩, .string ⟨#[49]⟩] 149)
   have kp : Keeps [] wr (wr.alloc (.cells #[.string ⟨#[97]⟩, .string ⟨#[49]⟩] 149)) := (Keeps.refl [] wr).alloc _
   have hne : ∀ g, u3.ownBlock = some g → g ≠ wr.heap.size := fun g hg => by have := hbuf.lt g hg; omega
   obtain ⟨W0, hW0⟩ : ∃ W0, W0 = (wr.alloc (.cells #[.string ⟨#[97]⟩, .string ⟨#[49]⟩] 149)).drew := ⟨_, rfl⟩
   have kW : Keeps [] wr W0 := by rw [hW0]; exact kp.drew
   have hp0 : W0.heap[wr.heap.size]? = some (.cells #[.string ⟨#[97]⟩, .string ⟨#[49]⟩] 149 (0, 0)) := by rw [hW0]; exact hp
   obtain ⟨ao, cp, rfl, -, -, -⟩ := row_slice hbuf
   have HB := Lib.hid (And.intro (hbuf.same kW) (And.intro hown (And.intro (hkw.trans kW) (And.intro hp0 hne))))
   have s1 : W0.cell? ⟨wr.heap.size, 0, none⟩ = some (.string ⟨#[97]⟩) := cells_at hp0 0
   have s2 : W0.cell? ⟨wr.heap.size, 1, none⟩ = some (.string ⟨#[49]⟩) := cells_at hp0 1
   have HW := Lib.hid hW0
   clear hkw hbuf hown hp kp hne kW hp0 hW0 hgk d0 d1
   go_upto_region 5 with fail
   generalize wr.heap.size = pb at HB s1 s2 ⊢
   clear e0 e1 hlw
   refine wp_region_held_drew (S := fun w' => w'.cell? ⟨pb, 0, none⟩ = some (.string ⟨#[97]⟩) ∧ w'.cell? ⟨pb, 1, none⟩ = some (.string ⟨#[49]⟩)) (by kernel_rfl) (by rw [← HW.out]; exact ⟨s1, s2⟩) (fun hS => ?_)
   rw [← HW.out] at hS ⊢
   refine tk (v := ?_) 0 rfl ?_ ?_; rotate_left
   ·rintro _ ⟨s1, s2⟩; go_simp; (try with_reducible rfl)
   simp only [Act.put, zz]
   refine tk (v := ?_) 1 rfl ?_ ?_; rotate_left
   ·rintro _ ⟨s1, s2⟩; go_simp; (try with_reducible rfl)
   simp only [Act.put, zz]
   refine tk (v := ?_) 2 rfl ?_ ?_; rotate_left
   ·rintro _ ⟨s1, s2⟩; go_simp; (try with_reducible rfl)
   simp only [Act.put, zz]
   refine tk (v := ?_) 4 rfl ?_ ?_; rotate_left
   ·rintro _ ⟨s1, s2⟩; go_simp; (try with_reducible rfl)
   simp only [Act.put, zz]
   refine tk (v := ?_) 5 rfl ?_ ?_; rotate_left
   ·rintro _ ⟨s1, s2⟩; go_simp; (try with_reducible rfl)
   simp only [Act.put, zz]
   refine rd 3 rfl fun K hK => ?_
   go_simp
   go_at_call 66
   refine (text_spec W0 _ [1] ⟨#[97]⟩ (by decide) HB.out.1).mono ?_
   rintro e A1 ⟨v2, rfl, hb2, ht2⟩
   have hx2 := ht2.box HB.out.2.2.2.1 HB.out.2.2.2.2
   have hf2 := ht2.fresh HB.out.2.2.1 HB.out.2.1
   have hlx : ([1] ++ textL (⟨#[97]⟩ : ByteArray).data.toList) = [1, 1, 97] := by decide +kernel
   rw [hlx] at hb2
   obtain ⟨ao2, cp2, rfl, -, -, -⟩ := row_slice hb2
   have H2 := Lib.hid (And.intro hb2 (And.intro hx2 hf2))
   have t1 : A1.cell? ⟨pb, 0, none⟩ = some (.string ⟨#[97]⟩) := cells_at hx2.1 0
   have t2 : A1.cell? ⟨pb, 1, none⟩ = some (.string ⟨#[49]⟩) := cells_at hx2.1 1
   clear hb2 ht2 hx2 hf2 hlx
   go_simp
   refine hK.out _ _ ⟨t1, t2⟩ (fun hS => ?_)
   clear hK K
   try simp only [Act.put, zz]
   refine rd 6 rfl fun K hK => ?_
   go_simp
   go_at_call 66
   refine (text_spec A1 _ [1, 1, 97] ⟨#[49]⟩ (by decide) H2.out.1).mono ?_
   rintro e A2 ⟨v3, rfl, hb3, ht3⟩
   have hx3 := ht3.box H2.out.2.1.1 H2.out.2.1.2
   have hf3 := ht3.fresh H2.out.2.2.1 H2.out.2.2.2
   have hlx : ([1, 1, 97] ++ textL (⟨#[49]⟩ : ByteArray).data.toList) = [1, 1, 97, 1, 49] := by decide +kernel
   rw [hlx] at hb3
   obtain ⟨ao3, cp3, rfl, -, -, -⟩ := row_slice hb3
   have H3 := Lib.hid (And.intro hb3 hf3.1)
   have r1 : A2.cell? ⟨pb, 0, none⟩ = some (.string ⟨#[97]⟩) := cells_at hx3.1 0
   have r2 : A2.cell? ⟨pb, 1, none⟩ = some (.string ⟨#[49]⟩) := cells_at hx3.1 1
   clear hb3 ht3 hx3 hf3 hlx
   go_simp
   refine hK.out _ _ ⟨r1, r2⟩ (fun hS => ?_)
   clear hK K
   try simp only [Act.put, zz]
   refine rd 7 rfl fun K hK => ?_
   go_simp
   go_simp
   refine hK.out _ _ ⟨r1, r2⟩ (fun hS => ?_)
   clear hK K
   try simp only [Act.put, zz]
   refine wpAnyH_done (by kernel_rfl) ?_ _
   clear hS s1 s2 t1 t2 r1 r2
   go_wp2_with fail
   go_roundg 0
   case measure => have := Hg.out; omega
   case rel => exact .inr ⟨rfl, rfl, H3.out.1, H3.out.2⟩
  ·obtain ⟨ao, cp, rfl, -, -, -⟩ := row_slice hbuf
   have hrun : (convert 138 9 (.slice ao 5 cp)).run Tryz.prog wr = .ok (.string keyB) wr := hbuf.run_string
   have H2 := Lib.hid hkw
   clear hbuf hkw d0 d1
   go_wp2_with fail
   go_ret
   exact ⟨rfl, H2.out⟩
theorem cloneS1_spec (B : Nat) (w : World) (v : Value) (h : Set1 B w v) :
  Calls Tryz.prog 67 #[v] w fun e w' => ∃ v', e = .returned v' ∧ Set1 w.heap.size w' v' ∧ Keeps [] w w' := by
 have qT : ∀ (w : World) (a : Option Addr) (n c : Nat), (binOp .eql 85 (.slice a n c) (.slice none 0 0)).run Tryz.prog w = .ok (.bool a.isNone) w := fun w a n c => run_eql_slice_nilP w _ _ a n c Tryz.underlying85
 obtain ⟨ip, hip, hz0, hz1, hz2⟩ := info_parts infoPair
 obtain ⟨g, c, cur, rfl, hb, h1, h2, hg, hcs, hc0, hc1⟩ := h
 have k0 : Keeps [] w (w.alloc (.cells #[] 149)) := (Keeps.refl [] w).alloc _
 have hg2 := k0.at_ hg (by simp)
 have H0 := Lib.hid (And.intro (own_made w w.heap.size 149 2 (Nat.le_refl _)) (And.intro k0 (Set1.news hg2 hc0 hc1)))
 clear k0 hg2 hg hc0 hc1 hcs
 go_enter Tryz.func67, Tryz.ntmps67
 go_wp2_with (at_builtin; refine wpList_append_own _ rfl (.tmp 5) (.tmp 6) 85 rfl w.heap.size 149 ip _ 2 32 Tryz.underlying85 hip hz0 hz1 hz2 rfl (by decide) (.slice (some ⟨w.heap.size, 0, none⟩) 0 0) 0 [] rfl H0.out.1 ⟨g, 0, none⟩ 1 c [.string ⟨#[97]⟩, .string ⟨#[49]⟩] rfl rfl H0.out.2.2 (by simp [Value.oneCell']) (by decide) (by decide) (by simp) ?_; intro v8 w8 hown8 hgrow8 hnil; clear hnil)
 go_ret
 exact ⟨_, rfl, set1_of (by simpa using hown8), keeps_own H0.out.2.1 hgrow8 (fun q hq => (World.ownsRow.lt H0.out.1 q hq).1)⟩
open Go Go.RowKit Go.Maps
def oneE (sb : Nat) : MapEntry := { key := .int .i64 1, val := .pointer (some ⟨sb, 0, none⟩), born := 0 }
def One (w : World) (ob sb : Nat) : Prop := w.heap[ob]? = some (.map #[oneE sb] 1)
instance go1One {w w' : World} (ob sb : Nat) : Go1 w w' (One w ob sb) (One w' ob sb) := ⟨fun k g => k.at_ g (by simp)⟩
theorem checkInt {P : Program} {kt : TypeId} {q : IntKind} (hk : P.underlying kt = some (.int q)) (e : Bool) (k : Int) (w : World) : (Instr.checkKey e 10000 kt (.int q k)).run P w = .ok () w := by
 have h : ∀ n, (Instr.checkKey e (n + 1) kt (.int q k)).run P w = .ok () w := fun n => by simp [Instr.checkKey, run_underlying hk]
 exact h 9999
theorem run_one {w : World} {ob sb : Nat} (h : One w ob sb) : (Instr.lookup 79 (.map (some ob)) (.int .i64 1) false).run Tryz.prog w = .ok (.pointer (some ⟨sb, 0, none⟩)) w := by
 simp [Instr.lookup, run_underlying Tryz.underlying79, MapKept.run_getObj_map h, checkInt Tryz.underlying3, Instr.findKey, run_underlying Tryz.underlying3, Instr.findNow, Instr.sameNow, oneE]
theorem run_put1 {w : World} {ob : Nat} (h : w.heap[ob]? = some (.map #[] 0)) (sb : Nat) : (Instr.mapUpdate 79 (.map (some ob)) (.int .i64 1) (.pointer (some ⟨sb, 0, none⟩))).run Tryz.prog w = .ok () { w with heap := w.heap.setIfInBounds ob (.map #[oneE sb] 1) } := by
 simp [Instr.mapUpdate, run_underlying Tryz.underlying79, MapKept.run_getObj_map h, checkInt Tryz.underlying3, Instr.findKey, run_underlying Tryz.underlying3, Instr.findNow, MapKept.run_setObj_map _ h, oneE]
theorem run_range1 {w : World} {ob sb : Nat} (h : One w ob sb) : (Instr.range 79 (.map (some ob))).run Tryz.prog w = .ok (.pointer (some ⟨w.heap.size, 0, none⟩)) (w.alloc (.mapIter (some ob) 1 #[] 1)) := by
 simp [Instr.range, run_underlying Tryz.underlying79, MapKept.run_getObj_map h]
theorem run_next1 {w : World} {ob sb r : Nat} (ty : TypeId) (h : One w ob sb) (hr : w.heap[r]? = some (.mapIter (some ob) 1 #[] 1)) :
  ∃ w', (Instr.next (.pointer (some ⟨r, 0, none⟩)) false ty).run Tryz.prog w = .ok (.tuple #[.bool true, .int .i64 1, .pointer (some ⟨sb, 0, none⟩)]) w' ∧ w'.heap[r]? = some (.mapIter (some ob) 1 #[0] 1) ∧ Keeps [r] w w' := by
 have hb : w.heap[ob]? = some (.map #[oneE sb] 1) := h
 rcases run_next_at (P := Tryz.prog) w ty r ob 1 1 #[] #[oneE sb] 1 hr hb (by simp [oneE]) (Nat.le_refl _) with ⟨h0, -⟩ | ⟨e, he, w1, hw1, hrun⟩
 ·simp [leftOf] at h0
 ·have he1 : e = oneE sb := by
   have := he
   simp [leftOf] at this
   exact this
  subst he1
  have hr1 : w1.heap[r]? = some (.mapIter (some ob) 1 #[] 1) := by rcases hw1 with rfl | rfl <;> exact hr
  have k1 : Keeps [r] w w1 := by
   rcases hw1 with rfl | rfl
   ·exact Keeps.refl _ _
   ·exact (Keeps.refl _ _).drew
  exact ⟨_, hrun, heap_set_same hr1 _, k1.trans (keeps_setIf _)⟩
theorem run_next2 {w : World} {ob sb r : Nat} (ty : TypeId) (h : One w ob sb) (hr : w.heap[r]? = some (.mapIter (some ob) 1 #[0] 1)) :
  (Instr.next (.pointer (some ⟨r, 0, none⟩)) false ty).run Tryz.prog w = .ok (.tuple #[.bool false]) w := by
 have hb : w.heap[ob]? = some (.map #[oneE sb] 1) := h
 rcases run_next_at (P := Tryz.prog) w ty r ob 1 1 #[0] #[oneE sb] 1 hr hb (by simp [oneE]) (Nat.le_refl _) with ⟨-, hrun⟩ | ⟨e, he, -⟩
 ·exact hrun
 ·simp [leftOf, oneE] at he
theorem run_entry1 {w : World} {ob sb r : Nat} (h : One w ob sb) (hr : w.heap[r]? = some (.mapIter (some ob) 1 #[0] 1)) :
  (Instr.entry (.pointer (some ⟨r, 0, none⟩))).run Tryz.prog w = .ok (.tuple #[.int .i64 1, .pointer (some ⟨sb, 0, none⟩)]) w :=
 run_entry_at w r ob 1 #[] #[oneE sb] 1 (oneE sb) hr h (by simp) (by simp)
section
variable {ops : Array Oper} {rest : List Oper} {o : Oper} {a : Act} {Q : Exit → Act → World → Prop}
theorem wpList_range1 {w : World} {ob sb : Nat} (hg : o.guard = none) (m : Operand) (hop : o.op = Op.range 79 m) (hm : a.eval m = .map (some ob)) (h : One w ob sb)
  (hK : wpList Tryz.prog ops Q rest (a.put o.dst (.pointer (some ⟨w.heap.size, 0, none⟩))) (w.alloc (.mapIter (some ob) 1 #[] 1))) : wpList Tryz.prog ops Q (o :: rest) a w := by
 refine wpList_plain hg fun K' hK' => ?_
 unfold Oper.wp
 simp [execOp, hop, hm, run_range1 h, Result.andThen]
 exact hK' _ _ hK
theorem wpList_next1 {w : World} {ob sb r : Nat} (hg : o.guard = none) (it : Operand) (hop : o.op = Op.next it false) (hit : a.eval it = .pointer (some ⟨r, 0, none⟩)) (h : One w ob sb) (hr : w.heap[r]? = some (.mapIter (some ob) 1 #[] 1))
  (hK : ∀ w', w'.heap[r]? = some (.mapIter (some ob) 1 #[0] 1) → Keeps [r] w w' → wpList Tryz.prog ops Q rest (a.put o.dst (.tuple #[.bool true, .int .i64 1, .pointer (some ⟨sb, 0, none⟩)])) w') : wpList Tryz.prog ops Q (o :: rest) a w := by
 refine wpList_plain hg fun K' hK' => ?_
 obtain ⟨w', hrun, h1, h2⟩ := run_next1 o.type h hr
 unfold Oper.wp
 simp [execOp, hop, hit, hrun, Result.andThen]
 exact hK' _ _ (hK w' h1 h2)
theorem wpList_next2 {w : World} {ob sb r : Nat} (hg : o.guard = none) (it : Operand) (hop : o.op = Op.next it false) (hit : a.eval it = .pointer (some ⟨r, 0, none⟩)) (h : One w ob sb) (hr : w.heap[r]? = some (.mapIter (some ob) 1 #[0] 1))
  (hK : wpList Tryz.prog ops Q rest (a.put o.dst (.tuple #[.bool false])) w) : wpList Tryz.prog ops Q (o :: rest) a w := by
 refine wpList_plain hg fun K' hK' => ?_
 unfold Oper.wp
 simp [execOp, hop, hit, run_next2 o.type h hr, Result.andThen]
 exact hK' _ _ hK
end
theorem step_put1 {ops : Array Oper} {o : Oper} {a : Act} {w : World} {K : Act → World → Prop} {Q : Exit → Act → World → Prop} {E : Prop}
  (hg : o.guard = none) (m x v : Operand) (hop : o.op = Op.mapUpdate 79 m x v) (ob sb : Nat) (hm : a.eval m = .map (some ob)) (hx : a.eval x = .int .i64 1) (hv : a.eval v = .pointer (some ⟨sb, 0, none⟩)) (h : w.heap[ob]? = some (.map #[] 0))
  (hK : ∀ w', One w' ob sb → Keeps [ob] w w' → K (a.put o.dst undef) w') : if Region.wanted o (yielded ops a.tmps) = true then Oper.wp Tryz.prog o a w K Q else E := by
 have hw : Region.wanted o (yielded ops a.tmps) = true := by simp [Region.wanted, hg]
 rw [if_pos hw]
 unfold Oper.wp
 simp [execOp, hop, hm, hx, hv, run_put1 h, Result.andThen]
 exact hK _ (heap_set_same h _) (keeps_setIf _)
theorem zero64 (w : World) : (zeroValue 2).run Tryz.prog w = .ok (.int .i64 0) w := by kernel_rfl
theorem zeroI (w : World) : (zeroValue 3).run Tryz.prog w = .ok (.int .i64 0) w := by kernel_rfl
open Go Go.RowKit Go.Maps
def ChkRel (w : World) (gk : Nat) (u7 u19 : Value) (wr : World) : Prop :=
 (gk = 2 ∧ u7 = .int .i64 0 ∧ u19 = .int .i64 0 ∧ MapAt wr w.heap.size [] ∧ Keeps [] w wr) ∨ (gk = 1 ∧ u7 = .int .i64 1 ∧ u19 = .int .i64 1 ∧ MapAt wr w.heap.size [(keyB, .int .i64 3)] ∧ Keeps [] w wr) ∨ (gk = 0 ∧ u7 = .int .i64 1 ∧ u19 = .int .i64 2 ∧ Keeps [] w wr)
theorem chk2_spec (w : World) (h pb cp : Nat) (g c : Nat) (cur : Array Value) (hc : 1 ≤ c) (hb : w.heap[g]? = some (.cells cur 149 (0, 0))) (h0 : cur[0]? = some (.string ⟨#[97]⟩)) (h1 : cur[1]? = some (.string ⟨#[49]⟩))
  (hp : w.heap[pb]? = some (.cells #[.slice (some ⟨g, 0, none⟩) 1 c, .int .i64 3, .int .u64 0, .slice (some ⟨g, 0, none⟩) 1 c, .int .i64 25, .int .u64 0] 89 (0, 0))) (B : Nat) (hh : Head0 B w h 5 50 10) :
  Calls Tryz.prog 11 #[.pointer (some ⟨h, 0, none⟩), .slice (some ⟨pb, 0, none⟩) 2 cp] w fun e w' => e = .returned (.tuple #[.int .i64 (-1), .int .i64 0]) ∧ Keeps [] w w' := by
 have hmm := @run_makeMap Tryz.prog
 obtain ⟨rb, ob, x, mb, hhc, hmr, hob, -⟩ := hh
 have d0 : w.cell? ⟨pb, 0, none⟩ = some (.slice (some ⟨g, 0, none⟩) 1 c) := cells_at hp 0
 have d1 : w.cell? ⟨pb, 1, none⟩ = some (.int .i64 3) := cells_at hp 1
 have d2 : w.cell? ⟨pb, 2, none⟩ = some (.int .u64 0) := cells_at hp 2
 have d3 : w.cell? ⟨pb, 3, none⟩ = some (.slice (some ⟨g, 0, none⟩) 1 c) := cells_at hp 3
 have d4 : w.cell? ⟨pb, 4, none⟩ = some (.int .i64 25) := cells_at hp 4
 have d5 : w.cell? ⟨pb, 5, none⟩ = some (.int .u64 0) := cells_at hp 5
 have hl := lt_of_at hp
 have HH := Lib.hid (And.intro hb (And.intro hhc (And.intro hmr hob)))
 have k0 : Keeps [] w (w.alloc (.map #[] 0)) := (Keeps.refl [] w).alloc _
 have Hm := Lib.hid (And.intro (mapAt_new w) k0)
 clear hp hb hhc hmr hob k0
 go_enter Tryz.func11, Tryz.ntmps11
 go_wp2_with fail
 go_loopg [7, 19] 2 (ChkRel w)
 case atStart => exact .inl ⟨rfl, rfl, rfl, Hm.out.1, Hm.out.2⟩
 case round =>
  clear Hm
  rcases hrel with ⟨hgk, rfl, rfl, hm, hkw⟩ | ⟨hgk, rfl, rfl, hm, hkw⟩ | ⟨hgk, rfl, rfl, hkw⟩
  ·have Hg := Lib.hid hgk
   have e0 := (hkw.cell (i := 0) hl (by simp)).trans d0
   have e1 := (hkw.cell (i := 1) hl (by simp)).trans d1
   have e2 := (hkw.cell (i := 2) hl (by simp)).trans d2
   have hlw := hkw.lt hl
   have hp := heap_new wr (.cells #[.slice (some ⟨g, 0, none⟩) 1 c, .int .i64 3, .int .u64 0] 89)
   have kp : Keeps [] wr (wr.alloc (.cells #[.slice (some ⟨g, 0, none⟩) 1 c, .int .i64 3, .int .u64 0] 89)) := (Keeps.refl [] wr).alloc _
   have H0 := Lib.hid (And.intro hp (go1 kp (And.intro hm (And.intro (go1 hkw HH.out) hkw))))
   clear hp kp hm hkw hgk d0 d1 d2 d3 d4 d5
   go_wp2_with fail
   refine (check1_spec _ g c cur hc H0.out.2.2.1.1 h0 h1).mono ?_
   rintro e w2 ⟨rfl, hk2⟩
   have H2 := Lib.hid (go1 hk2 H0.out)
   clear hk2 H0 e0 e1 e2 hlw
   generalize wr.heap.size = pk at H2 ⊢
   have s0 : w2.cell? ⟨pk, 0, none⟩ = some (.slice (some ⟨g, 0, none⟩) 1 c) := cells_at H2.out.1 0
   have s1 : w2.cell? ⟨pk, 1, none⟩ = some (.int .i64 3) := cells_at H2.out.1 1
   go_wp2_with fail
   refine (key1_spec _ g c cur H2.out.2.2.1.1 h0 h1).mono ?_
   rintro e w3 ⟨rfl, hk3⟩
   have H3 := Lib.hid (go1 hk3 H2.out)
   clear hk3 H2 s0 s1
   have s1 : w3.cell? ⟨pk, 1, none⟩ = some (.int .i64 3) := cells_at H3.out.1 1
   have hq1 : (Instr.lookup 96 (.map (some w.heap.size)) (.string keyB) true).run Tryz.prog w3 = .ok (.tuple #[.int .i64 0, .bool false]) w3 := (H3.out.2.1.run_lookup Tryz.underlying96 Tryz.underlying9 (zero64 w3) keyB true).trans (by simp [lookVal, look])
   have hh := H3.out.2.2.1.2.1
   have hq2 : (Instr.lookup 78 (.map (some rb)) (.string keyB) true).run Tryz.prog w3 = .ok (.tuple #[.int .i64 0, .bool false]) w3 := (H3.out.2.2.1.2.2.1.run_lookup Tryz.underlying78 Tryz.underlying9 (zeroI w3) keyB true).trans (by simp [lookVal, look])
   have hob := H3.out.2.2.1.2.2.2
   have c0 : w3.cell? ⟨h, 0, none⟩ = some (.int .i64 5) := cells_at hh 0
   have c1 : w3.cell? ⟨h, 1, none⟩ = some (.int .i64 50) := cells_at hh 1
   have c3 : w3.cell? ⟨h, 3, none⟩ = some (.map (some rb)) := cells_at hh 3
   have c4 : w3.cell? ⟨h, 4, none⟩ = some (.map (some ob)) := cells_at hh 4
   have c7 : w3.cell? ⟨h, 7, none⟩ = some (.int .i64 0) := cells_at hh 7
   have c8 : w3.cell? ⟨h, 8, none⟩ = some (.int .i64 0) := cells_at hh 8
   have hn1 : ∀ n, (Builtin.len_ #[79] 3 #[.map (some ob)]).run Tryz.prog (w3.drewN n) = .ok (.int .i64 0) (w3.drewN n) := fun n => (run_len_map (w := w3.drewN n) 79 3 ob #[] 0 Tryz.underlying79 hob).trans rfl
   clear hh
   go_wp2_with fail
   go_quiet (fail)
   go_wp2_with fail
   go_quiet (fail)
   go_wp2_with (refine wpList_update_str _ rfl (.tmp 137) (.tmp 138) (.tmp 141) _ _ _ rfl Tryz.underlying96 Tryz.underlying9 w.heap.size _ keyB (.int .i64 3) (by rfl) (by rfl) (by rfl) H3.out.2.1 ?_; intro w5 hm5 hk5)
   have H5 := Lib.hid (And.intro hm5 ((H3.out.2.2.2.drewN _).after hk5 (fun y hy => .inr (by simp at hy; omega))))
   clear hm5 hk5 H3
   go_roundg 1
   case measure => have := Hg.out; omega
   case rel => exact .inr (.inl ⟨rfl, rfl, rfl, H5.out.1, H5.out.2⟩)
  ·have Hg := Lib.hid hgk
   have e0 := (hkw.cell (i := 3) hl (by simp)).trans d3
   have e1 := (hkw.cell (i := 4) hl (by simp)).trans d4
   have e2 := (hkw.cell (i := 5) hl (by simp)).trans d5
   have hlw := hkw.lt hl
   have hp := heap_new wr (.cells #[.slice (some ⟨g, 0, none⟩) 1 c, .int .i64 25, .int .u64 0] 89)
   have kp : Keeps [] wr (wr.alloc (.cells #[.slice (some ⟨g, 0, none⟩) 1 c, .int .i64 25, .int .u64 0] 89)) := (Keeps.refl [] wr).alloc _
   have H0 := Lib.hid (And.intro hp (go1 kp (And.intro hm (And.intro (go1 hkw HH.out) hkw))))
   clear hp kp hm hkw hgk d0 d1 d2 d3 d4 d5
   go_wp2_with fail
   refine (check1_spec _ g c cur hc H0.out.2.2.1.1 h0 h1).mono ?_
   rintro e w2 ⟨rfl, hk2⟩
   have H2 := Lib.hid (go1 hk2 H0.out)
   clear hk2 H0 e0 e1 e2 hlw
   generalize wr.heap.size = pk at H2 ⊢
   have s0 : w2.cell? ⟨pk, 0, none⟩ = some (.slice (some ⟨g, 0, none⟩) 1 c) := cells_at H2.out.1 0
   have s1 : w2.cell? ⟨pk, 1, none⟩ = some (.int .i64 25) := cells_at H2.out.1 1
   go_wp2_with fail
   refine (key1_spec _ g c cur H2.out.2.2.1.1 h0 h1).mono ?_
   rintro e w3 ⟨rfl, hk3⟩
   have H3 := Lib.hid (go1 hk3 H2.out)
   clear hk3 H2 s0 s1
   have s1 : w3.cell? ⟨pk, 1, none⟩ = some (.int .i64 25) := cells_at H3.out.1 1
   have hq1 : (Instr.lookup 96 (.map (some w.heap.size)) (.string keyB) true).run Tryz.prog w3 = .ok (.tuple #[.int .i64 3, .bool true]) w3 := (H3.out.2.1.run_lookup Tryz.underlying96 Tryz.underlying9 (zero64 w3) keyB true).trans (by simp [lookVal, look])
   have hh := H3.out.2.2.1.2.1
   have hq2 : (Instr.lookup 78 (.map (some rb)) (.string keyB) true).run Tryz.prog w3 = .ok (.tuple #[.int .i64 0, .bool false]) w3 := (H3.out.2.2.1.2.2.1.run_lookup Tryz.underlying78 Tryz.underlying9 (zeroI w3) keyB true).trans (by simp [lookVal, look])
   have hob := H3.out.2.2.1.2.2.2
   have c0 : w3.cell? ⟨h, 0, none⟩ = some (.int .i64 5) := cells_at hh 0
   have c1 : w3.cell? ⟨h, 1, none⟩ = some (.int .i64 50) := cells_at hh 1
   have c3 : w3.cell? ⟨h, 3, none⟩ = some (.map (some rb)) := cells_at hh 3
   have c4 : w3.cell? ⟨h, 4, none⟩ = some (.map (some ob)) := cells_at hh 4
   have c7 : w3.cell? ⟨h, 7, none⟩ = some (.int .i64 0) := cells_at hh 7
   have c8 : w3.cell? ⟨h, 8, none⟩ = some (.int .i64 0) := cells_at hh 8
   have hn1 : ∀ n, (Builtin.len_ #[79] 3 #[.map (some ob)]).run Tryz.prog (w3.drewN n) = .ok (.int .i64 0) (w3.drewN n) := fun n => (run_len_map (w := w3.drewN n) 79 3 ob #[] 0 Tryz.underlying79 hob).trans rfl
   clear hh
   go_wp2_with fail
   go_quiet (fail)
   go_wp2_with fail
   go_quiet (fail)
   go_wp2_with (refine wpList_update_str _ rfl (.tmp 137) (.tmp 138) (.tmp 141) _ _ _ rfl Tryz.underlying96 Tryz.underlying9 w.heap.size _ keyB (.int .i64 25) (by rfl) (by rfl) (by rfl) H3.out.2.1 ?_; intro w5 hm5 hk5)
   have H5 := Lib.hid (And.intro hm5 ((H3.out.2.2.2.drewN _).after hk5 (fun y hy => .inr (by simp at hy; omega))))
   clear hm5 hk5 H3
   go_roundg 0
   case measure => have := Hg.out; omega
   case rel => exact .inr (.inr ⟨rfl, rfl, rfl, H5.out.2⟩)
  ·have Hk := Lib.hid hkw
   clear hkw d0 d1 d2 d3 d4 d5
   go_wp2_with fail
   go_ret2
   exact ⟨rfl, Hk.out⟩
def Head1 (w : World) (h : Nat) (next n floor top : Int) (last : Int) : Prop :=
 ∃ rb ob x sb lb va, HeadC w h 5 50 10 rb ob x next n floor top ∧ MapAt w rb [(keyB, .int .i64 1)] ∧ One w ob sb ∧ w.heap[sb]? = some (.cells #[lb, va, .int .i64 last] 102 (0, 0))
def Chk1Rel (w : World) (gk : Nat) (u19 : Value) (wr : World) : Prop := gk = 1 ∧ u19 = .int .i64 0 ∧ MapAt wr w.heap.size [] ∧ Keeps [] w wr
theorem chk1_spec (w : World) (h pb cp : Nat) (g c : Nat) (cur : Array Value) (hc : 1 ≤ c) (hb : w.heap[g]? = some (.cells cur 149 (0, 0))) (h0 : cur[0]? = some (.string ⟨#[97]⟩)) (h1 : cur[1]? = some (.string ⟨#[49]⟩))
  (hp : w.heap[pb]? = some (.cells #[.slice (some ⟨g, 0, none⟩) 1 c, .int .i64 25, .int .u64 0] 89 (0, 0))) (next n floor top : Int) (hh : Head1 w h next n floor top 25) :
  Calls Tryz.prog 11 #[.pointer (some ⟨h, 0, none⟩), .slice (some ⟨pb, 0, none⟩) 1 cp] w fun e w' => e = .returned (.tuple #[.int .i64 0, .int .i64 11]) ∧ Keeps [] w w' := by
 have hmm := @run_makeMap Tryz.prog
 obtain ⟨rb, ob, x, sb, lb, va, hhc, hmr, hob, hsb⟩ := hh
 have d0 : w.cell? ⟨pb, 0, none⟩ = some (.slice (some ⟨g, 0, none⟩) 1 c) := cells_at hp 0
 have d1 : w.cell? ⟨pb, 1, none⟩ = some (.int .i64 25) := cells_at hp 1
 have d2 : w.cell? ⟨pb, 2, none⟩ = some (.int .u64 0) := cells_at hp 2
 have hl := lt_of_at hp
 have HH := Lib.hid (And.intro hb (And.intro hhc (And.intro hmr (And.intro hob hsb))))
 have k0 : Keeps [] w (w.alloc (.map #[] 0)) := (Keeps.refl [] w).alloc _
 have Hm := Lib.hid (And.intro (mapAt_new w) k0)
 clear hp hb hhc hmr hob hsb k0
 go_enter Tryz.func11, Tryz.ntmps11
 go_wp2_with fail
 go_loopg [19] 1 (Chk1Rel w)
 case atStart => exact ⟨rfl, rfl, Hm.out.1, Hm.out.2⟩
 case round =>
  clear Hm
  rcases hrel with ⟨hgk, rfl, hm, hkw⟩
  have Hg := Lib.hid hgk
  have e0 := (hkw.cell (i := 0) hl (by simp)).trans d0
  have e1 := (hkw.cell (i := 1) hl (by simp)).trans d1
  have e2 := (hkw.cell (i := 2) hl (by simp)).trans d2
  have hlw := hkw.lt hl
  have hp := heap_new wr (.cells #[.slice (some ⟨g, 0, none⟩) 1 c, .int .i64 25, .int .u64 0] 89)
  have kp : Keeps [] wr (wr.alloc (.cells #[.slice (some ⟨g, 0, none⟩) 1 c, .int .i64 25, .int .u64 0] 89)) := (Keeps.refl [] wr).alloc _
  have H0 := Lib.hid (And.intro hp (go1 kp (And.intro hm (And.intro (go1 hkw HH.out) hkw))))
  clear hp kp hm hkw hgk d0 d1 d2
  go_wp2_with fail
  refine (check1_spec _ g c cur hc H0.out.2.2.1.1 h0 h1).mono ?_
  rintro e w2 ⟨rfl, hk2⟩
  have H2 := Lib.hid (go1 hk2 H0.out)
  clear hk2 H0 e0 e1 e2 hlw
  generalize wr.heap.size = pk at H2 ⊢
  have s0 : w2.cell? ⟨pk, 0, none⟩ = some (.slice (some ⟨g, 0, none⟩) 1 c) := cells_at H2.out.1 0
  have s1 : w2.cell? ⟨pk, 1, none⟩ = some (.int .i64 25) := cells_at H2.out.1 1
  go_wp2_with fail
  refine (key1_spec _ g c cur H2.out.2.2.1.1 h0 h1).mono ?_
  rintro e w3 ⟨rfl, hk3⟩
  have H3 := Lib.hid (go1 hk3 H2.out)
  clear hk3 H2 s0 s1
  have s1 : w3.cell? ⟨pk, 1, none⟩ = some (.int .i64 25) := cells_at H3.out.1 1
  have hq1 : (Instr.lookup 96 (.map (some w.heap.size)) (.string keyB) true).run Tryz.prog w3 = .ok (.tuple #[.int .i64 0, .bool false]) w3 := (H3.out.2.1.run_lookup Tryz.underlying96 Tryz.underlying9 (zero64 w3) keyB true).trans (by simp [lookVal, look])
  have hh := H3.out.2.2.1.2.1
  have hq2 : (Instr.lookup 78 (.map (some rb)) (.string keyB) true).run Tryz.prog w3 = .ok (.tuple #[.int .i64 1, .bool true]) w3 := (H3.out.2.2.1.2.2.1.run_lookup Tryz.underlying78 Tryz.underlying9 (zeroI w3) keyB true).trans (by simp [lookVal, look])
  have hq3 := run_one H3.out.2.2.1.2.2.2.1
  have c9 : w3.cell? ⟨sb, 2, none⟩ = some (.int .i64 25) := cells_at H3.out.2.2.1.2.2.2.2 2
  have c3 : w3.cell? ⟨h, 3, none⟩ = some (.map (some rb)) := cells_at hh 3
  have c4 : w3.cell? ⟨h, 4, none⟩ = some (.map (some ob)) := cells_at hh 4
  clear hh
  go_wp2_with fail
  go_ret2
  exact ⟨rfl, H3.out.2.2.2⟩
open Go Go.RowKit Go.Maps
theorem infoSamp : (Tryz.prog.info? 42).map (fun i => (i.zero, i.size, i.bytes)) = some (some (.agg #[.int .i64 0, .int .u64 0]), 2, 16) := by kernel_rfl
theorem news_samp {w : World} {g : Nat} {x y : Value} {t : TypeId} (hg : w.heap[g]? = some (.cells #[x, y] t (0, 0))) : ∀ j u, ([x, y] : List Value)[j]? = some u → w.cell? ((⟨g, 0, none⟩ : Addr).add j) = some u := by
 intro j u hu
 have hadd : (⟨g, 0, none⟩ : Addr).add j = ⟨g, j, none⟩ := by unfold Addr.add; split <;> simp_all
 rw [hadd, cells_at hg]
 match j with
 | 0 => exact hu
 | 1 => exact hu
 | n + 2 => simp at hu
theorem at_but {w w' : World} {y b : Nat} {o oy : Obj} (k : Keeps [y] w w') (hb : w.heap[b]? = some o) (hy : w.heap[y]? = some oy) (hne : o ≠ oy) : w'.heap[b]? = some o := k.at_ hb (by simpa using ne_of_at hb hy hne)
theorem row_ne_obj {w : World} {base s n b : Nat} {e : TypeId} {v : Value} {xs : List Value} {o : Obj} (h : w.ownsRow base e s v n xs) (hb : w.heap[b]? = some o) (ho : ∀ c z, o ≠ .cells c e z) : ∀ g, v.ownBlock = some g → g ≠ b := by
 intro g hg e1
 subst e1
 obtain ⟨_, ⟨rfl, _⟩ | ⟨g', cap, cur, rfl, _, h1, _⟩⟩ := h
 ·simp [Value.ownBlock] at hg
 ·obtain rfl : g' = g := by simpa [Value.ownBlock] using hg
  rw [h1] at hb
  injection hb with hb
  exact ho _ _ hb.symm
theorem step_app {P : Program} {ops : Array Oper} {o : Oper} {a : Act} {w : World} {K : Act → World → Prop} {Q : Exit → Act → World → Prop} {E : Prop} (hg : o.guard = none) (s x : Operand) (t : TypeId)
  (ho : o.op = .call { callee := .builtin .append, args := #[s, x], argTypes := #[t, t] })
  (base : Nat) (e : TypeId) (i : TypeInfo) (z : Value) (size bytes : Nat) (ht : P.underlying t = some (.slice e)) (hi : P.info? e = some i) (hz : i.zero = some z)
  (hsize : i.size = size) (hby : i.bytes = bytes) (hzs : z.cells.size = size) (hsz : 0 < size)
  (v : Value) (n : Nat) (xs : List Value) (hs : a.eval s = v) (hown : w.ownsRow base e size v n xs)
  (ad : Addr) (m c : Nat) (news : List Value) (hx : a.eval x = .slice (some ad) m c) (hl : news.length = m * size) (hnews : ∀ j u, news[j]? = some u → w.cell? (ad.add j) = some u) (h1 : ∀ u ∈ news, u.oneCell' = true)
  (h63 : n + m ≤ maxLen) (hbytes : (n + m) * bytes ≤ 140737488355328) (hbase : base ≤ w.heap.size)
  (h : ∀ v' w', w'.ownsRow base e size v' (n + m) (xs ++ news) → w.grownBy w' v.ownBlock → (v' = .slice none 0 0 ↔ v = .slice none 0 0 ∧ m = 0) → K (a.put o.dst v') w') : if Region.wanted o (yielded ops a.tmps) = true then Oper.wp P o a w K Q else E := by
 have hw : Region.wanted o (yielded ops a.tmps) = true := by simp [Region.wanted, hg]
 rw [if_pos hw]
 exact wp_append_own w s x t ho base e i z size bytes ht hi hz hsize hby hzs hsz v n xs hs hown ad m c news hx hl hnews h1 h63 hbytes hbase h
def StillP (w w' : World) : Prop := ∀ (q : Nat) (cs : Array Value) (t : TypeId) (z : Nat × Nat), w.heap[q]? = some (Obj.cells cs t z) → (t = 149 ∨ t = 89) → w'.heap[q]? = some (Obj.cells cs t z)
theorem still_of {S : List Nat} {w w' : World} (k : Keeps S w w') (h : ∀ (q : Nat) (cs : Array Value) (t : TypeId) (z : Nat × Nat), w.heap[q]? = some (Obj.cells cs t z) → (t = 149 ∨ t = 89) → q ∉ S) : StillP w w' := fun q cs t z hq ht => k.at_ hq (h q cs t z hq ht)
theorem StillP.trans {a w w' : World} (h : StillP a w) (h2 : StillP w w') : StillP a w' := fun q cs t z hq ht => h2 q cs t z (h q cs t z hq ht) ht
instance go1Still {w w' : World} (a : World) : Go1 w w' (StillP a w) (StillP a w') := ⟨fun k h => h.trans (still_of k (fun _ _ _ _ _ _ => by simp))⟩
theorem kst_after {b a w w' : World} {y : Nat} {oy : Obj} (K : Keeps [] b w ∧ StillP a w) (k : Keeps [y] w w') (hy : w.heap[y]? = some oy) (ho : ∀ cs t z, oy = .cells cs t z → t ≠ 149 ∧ t ≠ 89) (hb : b.heap.size ≤ y) : Keeps [] b w' ∧ StillP a w' :=
 ⟨K.1.after k (fun q hq => .inr (by rw [show q = y from (by simpa using hq)]; exact hb)), K.2.trans (still_of k (fun q cs t z hq ht hm => by
  obtain rfl : q = y := by simpa using hm
  rw [hq] at hy
  injection hy with hy
  have := ho cs t z hy.symm
  rcases ht with rfl | rfl
  ·exact this.1 rfl
  ·exact this.2 rfl))⟩
theorem kst_afterM {b a w w' : World} {y : Nat} {m : KV} (K : Keeps [] b w ∧ StillP a w) (k : Keeps [y] w w') (hy : MapAt w y m) (hb : b.heap.size ≤ y) : Keeps [] b w' ∧ StillP a w' :=
 ⟨K.1.after k (fun q hq => .inr (by rw [show q = y from (by simpa using hq)]; exact hb)), K.2.trans (still_of k (fun q cs t z hq ht hm => hy.ne hq (by simpa using hm)))⟩
def HeadN (b w : World) (h : Nat) (n : Nat) (xs : List Value) (top : Int) : Prop :=
 ∃ rb ob x sb lb va, HeadC w h 5 50 10 rb ob x 2 n 0 top ∧ MapAt w rb [(keyB, .int .i64 1)] ∧ One w ob sb ∧ w.heap[sb]? = some (.cells #[lb, va, .int .i64 top] 102 (0, 0)) ∧ w.ownsRow b.heap.size 42 2 va n xs ∧ Keeps [] b w ∧ b.heap.size ≤ h ∧ b.heap.size ≤ sb
theorem addOld_spec (b w : World) (h : Nat) (g c : Nat) (cur : Array Value) (hb : w.heap[g]? = some (.cells cur 149 (0, 0))) (h0 : cur[0]? = some (.string ⟨#[97]⟩)) (h1 : cur[1]? = some (.string ⟨#[49]⟩))
  (hh : HeadN b w h 1 [.int .i64 3, .int .u64 0] 3) :
  Calls Tryz.prog 39 #[.pointer (some ⟨h, 0, none⟩), .agg #[.slice (some ⟨g, 0, none⟩) 1 c, .int .i64 25, .int .u64 0]] w fun e w' => e = .returned (.int .i64 1) ∧ HeadN b w' h 2 [.int .i64 3, .int .u64 0, .int .i64 25, .int .u64 0] 25 ∧ StillP w w' := by
 obtain ⟨isa, hisa, hs0, hs1, hs2⟩ := info_parts infoSamp
 obtain ⟨rb, ob, x, sb, lb, va, hhc, hmr, hob, hsb, hva, hkb, hbb⟩ := hh
 have Hb := Lib.hid hbb
 have hp := heap_new w (.cells #[.slice (some ⟨g, 0, none⟩) 1 c, .int .i64 25, .int .u64 0] 89)
 have kp : Keeps [] w (w.alloc (.cells #[.slice (some ⟨g, 0, none⟩) 1 c, .int .i64 25, .int .u64 0] 89)) := (Keeps.refl [] w).alloc _
 have H0 := Lib.hid (And.intro (kp.at_ hb (by simp)) (And.intro hp (go1 kp (And.intro hhc (And.intro hmr (And.intro hob (And.intro hsb (And.intro hva (And.intro hkb (show StillP w w from fun _ _ _ _ h _ => h))))))))))
 clear hp kp hhc hmr hob hsb hva hkb hbb
 go_enter Tryz.func39, Tryz.ntmps39
 go_wp2_with fail
 refine (key1_spec _ g c cur H0.out.1 h0 h1).mono ?_
 rintro e w1 ⟨rfl, hk1⟩
 have HT := Lib.hid (go1 hk1 H0.out.2)
 clear hk1 H0 hb
 generalize w.heap.size = pk at HT ⊢
 have q2 : (Instr.lookup 78 (.map (some rb)) (.string keyB) true).run Tryz.prog w1 = .ok (.tuple #[.int .i64 1, .bool true]) w1 := (HT.out.2.2.1.run_lookup Tryz.underlying78 Tryz.underlying9 (zeroI w1) keyB true).trans (by simp [lookVal, look])
 have c3 : w1.cell? ⟨h, 3, none⟩ = some (.map (some rb)) := cells_at HT.out.2.1 3
 have l3 := lt_of_at HT.out.2.1
 go_upto_region 9 with fail
 clear q2 c3 l3
 have q1 := run_one HT.out.2.2.2.1
 have c4 : w1.cell? ⟨h, 4, none⟩ = some (.map (some ob)) := cells_at HT.out.2.1 4
 obtain ⟨W9, hW9⟩ : ∃ W9, W9 = w1.drew := ⟨_, rfl⟩
 have k9 : Keeps [] w1 W9 := by rw [hW9]; exact (Keeps.refl [] w1).drew
 have H9 := Lib.hid (go1 k9 HT.out)
 have HW := Lib.hid hW9
 clear hW9 k9
 go_upto_region 10 with fail
 clear q1 c4
 have s1 : W9.cell? ⟨sb, 1, none⟩ = some (va) := cells_at H9.out.2.2.2.2.1 1
 have s2 : W9.cell? ⟨pk, 1, none⟩ = some (.int .i64 25) := cells_at H9.out.1 1
 have s3 : W9.cell? ⟨pk, 2, none⟩ = some (.int .u64 0) := cells_at H9.out.1 2
 refine wp_region_last_n 11 (fun w' => w'.cell? ⟨sb, 1, none⟩ = some (va) ∧ w'.cell? ⟨pk, 1, none⟩ = some (.int .i64 25) ∧ w'.cell? ⟨pk, 2, none⟩ = some (.int .u64 0)) (by kernel_rfl) (by kernel_rfl) (by kernel_rfl) ?_
 rw [← HW.out]
 have hS : W9.cell? ⟨sb, 1, none⟩ = some (va) ∧ W9.cell? ⟨pk, 1, none⟩ = some (.int .i64 25) ∧ W9.cell? ⟨pk, 2, none⟩ = some (.int .u64 0) := ⟨s1, s2, s3⟩
 simp only [List.take_succ_cons, List.take_zero, List.toList_toArray]
 clear s1 s2 s3
 refine tk (v := ?_) 0 rfl ?_ ?_; rotate_left
 ·rintro _ ⟨s1, s2, s3⟩; go_simp; (try with_reducible rfl)
 simp only [Act.put, zz]
 refine tk (v := ?_) 1 rfl ?_ ?_; rotate_left
 ·rintro _ ⟨s1, s2, s3⟩; go_simp; (try with_reducible rfl)
 simp only [Act.put, zz]
 refine tk (v := ?_) 2 rfl ?_ ?_; rotate_left
 ·rintro _ ⟨s1, s2, s3⟩; go_simp; (try with_reducible rfl)
 simp only [Act.put, zz]
 refine tk (v := ?_) 3 rfl ?_ ?_; rotate_left
 ·rintro _ ⟨s1, s2, s3⟩; go_simp; (try with_reducible rfl)
 simp only [Act.put, zz]
 refine tk (v := ?_) 4 rfl ?_ ?_; rotate_left
 ·rintro _ ⟨s1, s2, s3⟩; go_simp; (try with_reducible rfl)
 simp only [Act.put, zz]
 refine tk (v := ?_) 5 rfl ?_ ?_; rotate_left
 ·rintro _ ⟨s1, s2, s3⟩; go_simp; (try with_reducible rfl)
 simp only [Act.put, zz]
 refine tk (v := ?_) 6 rfl ?_ ?_; rotate_left
 ·rintro _ ⟨s1, s2, s3⟩; go_simp; (try with_reducible rfl)
 simp only [Act.put, zz]
 refine rd 7 rfl fun K hK => ?_
 go_simp
 have kA : Keeps [] W9 (W9.alloc (.cells #[.int .i64 25, .int .u64 0] 42)) := (Keeps.refl [] W9).alloc _
 have HA := Lib.hid (And.intro (heap_new W9 (.cells #[.int .i64 25, .int .u64 0] 42)) (go1 kA H9.out))
 clear kA
 generalize W9.heap.size = nb at HA ⊢
 generalize W9.alloc (.cells #[.int .i64 25, .int .u64 0] 42) = A1 at HA ⊢
 go_simp
 refine hK.out _ _ ⟨cells_at HA.out.2.2.2.2.2.1 1, cells_at HA.out.2.1 1, cells_at HA.out.2.1 2⟩ (fun hS => ?_)
 clear hK K
 try simp only [Act.put, zz]
 refine rd 8 rfl fun K hK => ?_
 refine step_app rfl (.tmp 68) (.tmp 71) 100 rfl b.heap.size 42 isa _ 2 16 Tryz.underlying100 hisa hs0 hs1 hs2 rfl (by decide) (va) 1 [.int .i64 3, .int .u64 0] rfl HA.out.2.2.2.2.2.2.1 ⟨nb, 0, none⟩ 1 1 [.int .i64 25, .int .u64 0] rfl rfl (news_samp HA.out.1) (by simp [Value.oneCell']) (by decide) (by decide) HA.out.2.2.2.2.2.2.2.1.size ?_
 intro v5 A2 hown5 hgrow5 hnil5
 clear hnil5
 replace hown5 : A2.ownsRow b.heap.size 42 2 v5 2 ([.int .i64 3, .int .u64 0] ++ [.int .i64 25, .int .u64 0]) := hown5
 obtain ⟨ao5, cp5, rfl, -, -, -⟩ := row_slice hown5
 have k5 := keeps_row hgrow5
 have hN := HA.out.2.2.2.2.2.2.1
 have t1 := k5.at_ HA.out.2.1 (fun hm => row_ne_cells hN HA.out.2.1 (by decide) _ (by simpa using hm) rfl)
 have t2 := k5.at_ HA.out.2.2.1 (fun hm => row_ne_cells hN HA.out.2.2.1 (by decide) _ (by simpa using hm) rfl)
 have t3 := HA.out.2.2.2.1.keep k5 (fun hm => row_ne_map hN HA.out.2.2.2.1 _ (by simpa using hm) rfl)
 have t4 : One A2 ob sb := k5.at_ HA.out.2.2.2.2.1 (fun hm => row_ne_obj hN HA.out.2.2.2.2.1 (by simp) _ (by simpa using hm) rfl)
 have t5 := k5.at_ HA.out.2.2.2.2.2.1 (fun hm => row_ne_cells hN HA.out.2.2.2.2.2.1 (by decide) _ (by simpa using hm) rfl)
 have t7 := And.intro (keeps_own HA.out.2.2.2.2.2.2.2.1 hgrow5 (fun q hq => (World.ownsRow.lt hN q hq).1)) (HA.out.2.2.2.2.2.2.2.2.trans (still_of k5 (fun q cs t z hq ht hm => row_ne_cells hN hq (by rcases ht with rfl | rfl <;> decide) _ (by simpa using hm) rfl)))
 have HB := Lib.hid (And.intro t1 (And.intro t2 (And.intro t3 (And.intro t4 (And.intro t5 (And.intro hown5 t7))))))
 clear t1 t2 t3 t4 t5 t7 hown5 hgrow5 k5 hN HA H9 HT
 refine hK.out _ _ ⟨cells_at HB.out.2.2.2.2.1 1, cells_at HB.out.1 1, cells_at HB.out.1 2⟩ (fun hS => ?_)
 clear hK K
 try simp only [Act.put, zz]
 refine tk (v := ?_) 9 rfl ?_ ?_; rotate_left
 ·rintro _ ⟨s1, s2, s3⟩; go_simp; (try with_reducible rfl)
 simp only [Act.put, zz]
 refine tk (v := ?_) 10 rfl ?_ ?_; rotate_left
 ·rintro _ ⟨s1, s2, s3⟩; go_simp; (try with_reducible rfl)
 simp only [Act.put, zz]
 have c5 := free_at HB.out.2.2.2.2.1
 have l5 := lt_of_at HB.out.2.2.2.2.1
 have v5c : A2.cell? ⟨sb, 1, none⟩ = some (va) := cells_at HB.out.2.2.2.2.1 1
 refine wpAnyH_done (by kernel_rfl) ?_ _
 refine lastQ_step rfl (fun K hK => ?_)
 go_simp
 refine hK _ _ ?_
 clear hK K
 clear c5 l5 v5c hS HW
 have kS : Keeps [sb] A2 (A2.setCell ⟨sb, 1, none⟩ (.slice ao5 2 cp5)) := (Keeps.refl _ A2).setCell (.inl (by simp)) _
 have n5 : (A2.setCell ⟨sb, 1, none⟩ (.slice ao5 2 cp5)).heap[sb]? = some (.cells #[lb, .slice ao5 2 cp5, .int .i64 3] 102 (0, 0)) := (heap_cell_same (i := 1) HB.out.2.2.2.2.1 (.slice ao5 2 cp5)).trans (by simp)
 have HC := Lib.hid (And.intro (at_but kS HB.out.1 HB.out.2.2.2.2.1 (by simp)) (And.intro (at_but kS HB.out.2.1 HB.out.2.2.2.2.1 (by simp)) (And.intro (HB.out.2.2.1.keep kS (by simpa using fun e => HB.out.2.2.1.ne HB.out.2.2.2.2.1 e.symm)) (And.intro (show One _ ob sb from at_but kS HB.out.2.2.2.1 HB.out.2.2.2.2.1 (by simp)) (And.intro n5 (And.intro (kS.row HB.out.2.2.2.2.2.1 (fun q hq => by simpa using row_ne_cells HB.out.2.2.2.2.2.1 HB.out.2.2.2.2.1 (by decide) q hq)) (kst_after HB.out.2.2.2.2.2.2 kS HB.out.2.2.2.2.1 (by intro _ _ _ e; cases e <;> decide) Hb.out.2)))))))
 clear kS n5 HB
 generalize A2.setCell ⟨sb, 1, none⟩ (.slice ao5 2 cp5) = A3 at HC ⊢
 have p1 : A3.cell? ⟨pk, 1, none⟩ = some (.int .i64 25) := cells_at HC.out.1 1
 have c5 := free_at HC.out.2.2.2.2.1
 have l5 := lt_of_at HC.out.2.2.2.2.1
 have v5c : A3.cell? ⟨sb, 2, none⟩ = some (.int .i64 3) := cells_at HC.out.2.2.2.2.1 2
 have kS : Keeps [sb] A3 (A3.setCell ⟨sb, 2, none⟩ (.int .i64 25)) := (Keeps.refl _ A3).setCell (.inl (by simp)) _
 have n5 : (A3.setCell ⟨sb, 2, none⟩ (.int .i64 25)).heap[sb]? = some (.cells #[lb, .slice ao5 2 cp5, .int .i64 25] 102 (0, 0)) := (heap_cell_same (i := 2) HC.out.2.2.2.2.1 (.int .i64 25)).trans (by simp)
 have HD := Lib.hid (And.intro (at_but kS HC.out.1 HC.out.2.2.2.2.1 (by simp)) (And.intro (at_but kS HC.out.2.1 HC.out.2.2.2.2.1 (by simp)) (And.intro (HC.out.2.2.1.keep kS (by simpa using fun e => HC.out.2.2.1.ne HC.out.2.2.2.2.1 e.symm)) (And.intro (show One _ ob sb from at_but kS HC.out.2.2.2.1 HC.out.2.2.2.2.1 (by simp)) (And.intro n5 (And.intro (kS.row HC.out.2.2.2.2.2.1 (fun q hq => by simpa using row_ne_cells HC.out.2.2.2.2.2.1 HC.out.2.2.2.2.1 (by decide) q hq)) (kst_after HC.out.2.2.2.2.2.2 kS HC.out.2.2.2.2.1 (by intro _ _ _ e; cases e <;> decide) Hb.out.2)))))))
 clear kS n5 HC
 obtain ⟨A4, hA4⟩ : ∃ A4, A4 = A3.setCell ⟨sb, 2, none⟩ (.int .i64 25) := ⟨_, rfl⟩
 rw [← hA4] at HD
 obtain ⟨A5, hA5⟩ : ∃ A5, A5 = A4.drew := ⟨_, rfl⟩
 have k9 : Keeps [] A4 A5 := by rw [hA5]; exact (Keeps.refl [] A4).drew
 have HE := Lib.hid (go1 k9 HD.out)
 have HW := Lib.hid (hA5.trans (by rw [hA4]))
 clear hA5 hA4 k9 HD
 go_upto_region 12 with fail
 clear p1 c5 l5 v5c
 have F0 : ∀ s : Kept A5, s.val.cell? ⟨h, 9, none⟩ = some (.int .i64 3) := keptCell (cells_at HE.out.2.1 9)
 have F1 : ∀ s : Kept A5, s.val.cell? ⟨pk, 1, none⟩ = some (.int .i64 25) := keptCell (cells_at HE.out.1 1)
 refine wp_region_last_n 11 (KeptS A5) (by kernel_rfl) (by kernel_rfl) (by kernel_rfl) ?_
 rw [← HW.out]
 have hS : KeptS A5 A5 := keptS (Keeps.refl _ _)
 simp only [List.take_succ_cons, List.take_zero, List.toList_toArray]
 refine tk (v := ?_) 0 rfl ?_ ?_; rotate_left
 ·rintro _ ⟨s, rfl⟩; go_simp; (try with_reducible rfl)
 simp only [Act.put, zz]
 refine tk (v := ?_) 1 rfl ?_ ?_; rotate_left
 ·rintro _ ⟨s, rfl⟩; go_simp; (try with_reducible rfl)
 simp only [Act.put, zz]
 refine tk (v := ?_) 2 rfl ?_ ?_; rotate_left
 ·rintro _ ⟨s, rfl⟩; go_simp; (try with_reducible rfl)
 simp only [Act.put, zz]
 refine tk (v := ?_) 3 rfl ?_ ?_; rotate_left
 ·rintro _ ⟨s, rfl⟩; go_simp; (try with_reducible rfl)
 simp only [Act.put, zz]
 refine tk (v := ?_) 4 rfl ?_ ?_; rotate_left
 ·rintro _ ⟨s, rfl⟩; go_simp; (try with_reducible rfl)
 simp only [Act.put, zz]
 refine tk (v := ?_) 5 rfl ?_ ?_; rotate_left
 ·rintro _ ⟨s, rfl⟩; go_simp; (try with_reducible rfl)
 simp only [Act.put, zz]
 refine tk (v := ?_) 6 rfl ?_ ?_; rotate_left
 ·rintro _ ⟨s, rfl⟩; go_simp; (try with_reducible rfl)
 simp only [Act.put, zz]
 refine tk (v := ?_) 7 rfl ?_ ?_; rotate_left
 ·rintro _ ⟨s, rfl⟩; go_simp; (try with_reducible rfl)
 simp only [Act.put, zz]
 refine rd 8 rfl fun K hK => ?_
 go_simp
 go_simp
 refine hK.out _ _ (keptS (Keeps.refl [] A5)) (fun hS => ?_)
 clear hK K
 try simp only [Act.put, zz]
 refine tk (v := ?_) 9 rfl ?_ ?_; rotate_left
 ·rintro _ ⟨s, rfl⟩; go_simp; (try with_reducible rfl)
 simp only [Act.put, zz]
 refine tk (v := ?_) 10 rfl ?_ ?_; rotate_left
 ·rintro _ ⟨s, rfl⟩; go_simp; (try with_reducible rfl)
 simp only [Act.put, zz]
 have c5 := free_at HE.out.2.1
 have l5 := lt_of_at HE.out.2.1
 have v5c : A5.cell? ⟨h, 9, none⟩ = some (.int .i64 3) := cells_at HE.out.2.1 9
 refine wpAnyH_done (by kernel_rfl) ?_ _
 refine lastQ_step rfl (fun K hK => ?_)
 go_simp
 refine hK _ _ ?_
 clear hK K
 clear c5 l5 v5c hS HW F0 F1
 have kH : Keeps [h] A5 (A5.setCell ⟨h, 9, none⟩ (.int .i64 25)) := (Keeps.refl _ A5).setCell (.inl (by simp)) _
 have n5 : HeadC (A5.setCell ⟨h, 9, none⟩ (.int .i64 25)) h 5 50 10 rb ob x 2 1 0 25 := (heap_cell_same (i := 9) HE.out.2.1 (.int .i64 25)).trans (by simp)
 have HF := Lib.hid (And.intro n5 (And.intro (HE.out.2.2.1.keep kH (by simpa using fun e => HE.out.2.2.1.ne HE.out.2.1 e.symm)) (And.intro (show One _ ob sb from at_but kH HE.out.2.2.2.1 HE.out.2.1 (by simp)) (And.intro (at_but kH HE.out.2.2.2.2.1 HE.out.2.1 (by simp)) (And.intro (kH.row HE.out.2.2.2.2.2.1 (fun q hq => by simpa using row_ne_cells HE.out.2.2.2.2.2.1 HE.out.2.1 (by decide) q hq)) (kst_after HE.out.2.2.2.2.2.2 kH HE.out.2.1 (by intro _ _ _ e; cases e <;> decide) Hb.out.1))))))
 clear kH n5 HE
 simp only [show (max (3 : Int) 25) = 25 from by decide]
 generalize A5.setCell ⟨h, 9, none⟩ (.int .i64 25) = A6 at HF ⊢
 have c5 := free_at HF.out.1
 have l5 := lt_of_at HF.out.1
 have v5c : A6.cell? ⟨h, 7, none⟩ = some (.int .i64 1) := cells_at HF.out.1 7
 have kH : Keeps [h] A6 (A6.setCell ⟨h, 7, none⟩ (.int .i64 2)) := (Keeps.refl _ A6).setCell (.inl (by simp)) _
 have n5 : HeadC (A6.setCell ⟨h, 7, none⟩ (.int .i64 2)) h 5 50 10 rb ob x 2 2 0 25 := (heap_cell_same (i := 7) HF.out.1 (.int .i64 2)).trans (by simp)
 have HG := Lib.hid (And.intro (show HeadC _ h 5 50 10 rb ob x 2 2 0 25 from n5) (And.intro (HF.out.2.1.keep kH (by simpa using fun e => HF.out.2.1.ne HF.out.1 e.symm)) (And.intro (show One _ ob sb from at_but kH HF.out.2.2.1 HF.out.1 (by simp)) (And.intro (at_but kH HF.out.2.2.2.1 HF.out.1 (by simp)) (And.intro (kH.row HF.out.2.2.2.2.1 (fun q hq => by simpa using row_ne_cells HF.out.2.2.2.2.1 HF.out.1 (by decide) q hq)) (kst_after HF.out.2.2.2.2.2 kH HF.out.1 (by intro _ _ _ e; cases e <;> decide) Hb.out.1))))))
 clear kH n5 HF
 go_wp2_with fail
 go_ret
 exact ⟨rfl, ⟨rb, ob, x, sb, lb, .slice ao5 2 cp5, HG.out.1, HG.out.2.1, HG.out.2.2.1, HG.out.2.2.2.1, HG.out.2.2.2.2.1, HG.out.2.2.2.2.2.1, Hb.out⟩, HG.out.2.2.2.2.2.2⟩
theorem nin2 {a x y : Nat} (h1 : a ≠ x) (h2 : a ≠ y) : a ∉ [x, y] := by simp [h1, h2]
theorem addNew_spec (b w : World) (h : Nat) (g c : Nat) (cur : Array Value) (hc1 : 1 ≤ c) (hcm : c ≤ maxLen) (hcs : cur.size = c * 2) (hb : w.heap[g]? = some (.cells cur 149 (0, 0))) (h0 : cur[0]? = some (.string ⟨#[97]⟩)) (h1 : cur[1]? = some (.string ⟨#[49]⟩))
  (hh : Head0 b.heap.size w h 5 50 10) (hkb : Keeps [] b w) (hbh : b.heap.size ≤ h) :
  Calls Tryz.prog 39 #[.pointer (some ⟨h, 0, none⟩), .agg #[.slice (some ⟨g, 0, none⟩) 1 c, .int .i64 3, .int .u64 0]] w fun e w' => e = .returned (.int .i64 1) ∧ HeadN b w' h 1 [.int .i64 3, .int .u64 0] 3 ∧ StillP w w' := by
 obtain ⟨isa, hisa, hs0, hs1, hs2⟩ := info_parts infoSamp
 obtain ⟨rb, ob, x, mb, hhc, hmr, hob, hix, hmm, n1, n2, n3, l1, l2, l3, l4⟩ := hh
 have Hset : ∀ {W : World}, W.heap[g]? = some (.cells cur 149 (0, 0)) → Set1 0 W (.slice (some ⟨g, 0, none⟩) 1 c) := fun hg => ⟨g, c, cur, rfl, Nat.zero_le _, hc1, hcm, hg, hcs, h0, h1⟩
 have hp := heap_new w (.cells #[.slice (some ⟨g, 0, none⟩) 1 c, .int .i64 3, .int .u64 0] 89)
 have kp : Keeps [] w (w.alloc (.cells #[.slice (some ⟨g, 0, none⟩) 1 c, .int .i64 3, .int .u64 0] 89)) := (Keeps.refl [] w).alloc _
 have H0 := Lib.hid (And.intro (kp.at_ hb (by simp)) (And.intro hp (go1 kp (And.intro hhc (And.intro hmr (And.intro hob (And.intro hix (And.intro hmm (And.intro hkb (show StillP w w from fun _ _ _ _ h _ => h))))))))))
 clear hp kp hhc hmr hob hix hmm hkb
 go_enter Tryz.func39, Tryz.ntmps39
 go_wp2_with fail
 refine (key1_spec _ g c cur H0.out.1 h0 h1).mono ?_
 rintro e w1 ⟨rfl, hk1⟩
 have H1 := Lib.hid (go1 hk1 H0.out)
 clear hk1 H0 hb
 generalize w.heap.size = pk at H1 ⊢
 have q2 : (Instr.lookup 78 (.map (some rb)) (.string keyB) true).run Tryz.prog w1 = .ok (.tuple #[.int .i64 0, .bool false]) w1 := (H1.out.2.2.2.1.run_lookup Tryz.underlying78 Tryz.underlying9 (zeroI w1) keyB true).trans (by simp [lookVal, look])
 have c3 : w1.cell? ⟨h, 3, none⟩ = some (.map (some rb)) := cells_at H1.out.2.2.1 3
 have c6 : w1.cell? ⟨h, 6, none⟩ = some (.int .i64 1) := cells_at H1.out.2.2.1 6
 have f3 := free_at H1.out.2.2.1
 have l0 := lt_of_at H1.out.2.2.1
 go_upto_region 6 with fail
 clear q2 c3 c6 f3 l0
 have kH : Keeps [h] w1 (w1.setCell ⟨h, 6, none⟩ (.int .i64 2)) := (Keeps.refl _ w1).setCell (.inl (by simp)) _
 have n5 : HeadC (w1.setCell ⟨h, 6, none⟩ (.int .i64 2)) h 5 50 10 rb ob x 2 0 0 (-1) := (heap_cell_same (i := 6) H1.out.2.2.1 (.int .i64 2)).trans (by simp)
 have H2 := Lib.hid (And.intro (at_but kH H1.out.1 H1.out.2.2.1 (by simp)) (And.intro (at_but kH H1.out.2.1 H1.out.2.2.1 (by simp)) (And.intro n5 (And.intro (H1.out.2.2.2.1.keep kH (by simpa using fun e => H1.out.2.2.2.1.ne H1.out.2.2.1 e.symm)) (And.intro (at_but kH H1.out.2.2.2.2.1 H1.out.2.2.1 (by simp)) (And.intro (show IxAt _ x mb _ from at_but kH H1.out.2.2.2.2.2.1 H1.out.2.2.1 (by simp)) (And.intro (H1.out.2.2.2.2.2.2.1.keep kH (by simpa using fun e => H1.out.2.2.2.2.2.2.1.ne H1.out.2.2.1 e.symm)) (kst_after H1.out.2.2.2.2.2.2.2 kH H1.out.2.2.1 (by intro _ _ _ e; cases e <;> decide) hbh))))))))
 clear kH n5 H1
 generalize w1.setCell ⟨h, 6, none⟩ (.int .i64 2) = w2 at H2 ⊢
 have c3 : w2.cell? ⟨h, 3, none⟩ = some (.map (some rb)) := cells_at H2.out.2.2.1 3
 go_upto_region 7 with (refine wpList_update_str _ rfl (.tmp 37) (.tmp 38) (.tmp 39) _ _ _ rfl Tryz.underlying78 Tryz.underlying9 rb [] keyB (.int .i64 1) (by rfl) (by rfl) (by rfl) H2.out.2.2.2.1 ?_; intro w3 hm3 hk3)
 clear c3
 have hm2 := H2.out.2.2.2.1
 have H3 := Lib.hid (And.intro (hk3.at_ H2.out.1 (by simpa using hm2.ne H2.out.1)) (And.intro (hk3.at_ H2.out.2.1 (by simpa using hm2.ne H2.out.2.1)) (And.intro (show HeadC w3 h 5 50 10 rb ob x 2 0 0 (-1) from hk3.at_ H2.out.2.2.1 (by simpa using hm2.ne H2.out.2.2.1)) (And.intro (show MapAt w3 rb [(keyB, .int .i64 1)] from hm3) (And.intro (hk3.at_ H2.out.2.2.2.2.1 (by simpa using fun e : ob = rb => n1 e.symm)) (And.intro (show IxAt w3 x mb _ from hk3.at_ H2.out.2.2.2.2.2.1 (by simpa using hm2.ne H2.out.2.2.2.2.2.1)) (And.intro (H2.out.2.2.2.2.2.2.1.keep hk3 (by simpa using fun e : mb = rb => n2 e.symm)) (kst_afterM H2.out.2.2.2.2.2.2.2 hk3 hm2 l1))))))))
 clear hm2 hm3 hk3 H2
 obtain ⟨W4, hW4⟩ : ∃ W4, W4 = w3.drew := ⟨_, rfl⟩
 have k9 : Keeps [] w3 W4 := by rw [hW4]; exact (Keeps.refl [] w3).drew
 have H4 := Lib.hid (go1 k9 H3.out)
 have HW := Lib.hid hW4
 clear hW4 k9 H3
 have F0 : ∀ s : Kept W4, s.val.cell? ⟨h, 4, none⟩ = some (.map (some ob)) := keptCell (cells_at H4.out.2.2.1 4)
 have F1 : ∀ s : Kept W4, s.val.cell? ⟨pk, 0, none⟩ = some (.slice (some ⟨g, 0, none⟩) 1 c) := keptCell (cells_at H4.out.2.1 0)
 refine wp_region_last_n 10 (KeptS W4) (by kernel_rfl) (by kernel_rfl) (by kernel_rfl) ?_
 rw [← HW.out]
 have hS : KeptS W4 W4 := keptS (Keeps.refl _ _)
 simp only [List.take_succ_cons, List.take_zero, List.toList_toArray]
 refine tk (v := ?_) 0 rfl ?_ ?_; rotate_left
 ·rintro _ ⟨s, rfl⟩; go_simp; (try with_reducible rfl)
 simp only [Act.put, zz]
 refine tk (v := ?_) 1 rfl ?_ ?_; rotate_left
 ·rintro _ ⟨s, rfl⟩; go_simp; (try with_reducible rfl)
 simp only [Act.put, zz]
 refine tk (v := ?_) 2 rfl ?_ ?_; rotate_left
 ·rintro _ ⟨s, rfl⟩; go_simp; (try with_reducible rfl)
 simp only [Act.put, zz]
 refine tk (v := ?_) 3 rfl ?_ ?_; rotate_left
 ·rintro _ ⟨s, rfl⟩; go_simp; (try with_reducible rfl)
 simp only [Act.put, zz]
 refine tk (v := ?_) 4 rfl ?_ ?_; rotate_left
 ·rintro _ ⟨s, rfl⟩; go_simp; (try with_reducible rfl)
 simp only [Act.put, zz]
 refine tk (v := ?_) 5 rfl ?_ ?_; rotate_left
 ·rintro _ ⟨s, rfl⟩; go_simp; (try with_reducible rfl)
 simp only [Act.put, zz]
 refine tk (v := ?_) 6 rfl ?_ ?_; rotate_left
 ·rintro _ ⟨s, rfl⟩; go_simp; (try with_reducible rfl)
 simp only [Act.put, zz]
 refine rd 7 rfl fun K hK => ?_
 go_simp
 go_at_call 67
 refine (cloneS1_spec 0 W4 _ (Hset H4.out.1)).mono ?_
 rintro e A1 ⟨v7, rfl, ⟨g7, c7, cur7, rfl, -⟩, kA1⟩
 have H5 := Lib.hid (go1 kA1 H4.out)
 go_simp
 refine hK.out _ _ (keptS kA1) (fun hS => ?_)
 clear hK K
 try simp only [Act.put, zz]
 refine rd 8 rfl fun K hK => ?_
 go_simp
 go_simp
 refine hK.out _ _ (keptS kA1) (fun hS => ?_)
 clear hK K
 try simp only [Act.put, zz]
 refine rd 9 rfl fun K hK => ?_
 go_simp
 have kA2 : Keeps [] A1 (A1.alloc (.cells #[.slice (some ⟨g7, 0, none⟩) 1 c7, .slice none 0 0, .int .i64 (-1)] 102)) := (Keeps.refl [] A1).alloc _
 have hsl := H5.out.2.2.2.2.2.2.2.1.size
 have H6 := Lib.hid (And.intro (heap_new A1 (.cells #[.slice (some ⟨g7, 0, none⟩) 1 c7, .slice none 0 0, .int .i64 (-1)] 102)) (go1 kA2 H5.out))
 have kA12 := kA1.trans kA2
 clear kA2 kA1
 generalize A1.heap.size = sb at H6 hsl ⊢
 generalize A1.alloc (.cells #[.slice (some ⟨g7, 0, none⟩) 1 c7, .slice none 0 0, .int .i64 (-1)] 102) = A2 at H6 kA12 ⊢
 go_simp
 refine hK.out _ _ (keptS kA12) (fun hS => ?_)
 clear hK K
 try simp only [Act.put, zz]
 refine wpAnyH_done (by kernel_rfl) ?_ _
 refine lastQ_step rfl (fun K hK => ?_)
 refine step_put1 rfl (.tmp 43) (.tmp 44) (.tmp 49) rfl ob sb rfl rfl rfl H6.out.2.2.2.2.2.1 ?_
 intro w7 hone hk7
 refine hK _ _ ?_
 clear hK K hS F0 F1 HW kA12 H5 H4
 have hob6 := H6.out.2.2.2.2.2.1
 have H7 := Lib.hid (And.intro (at_but hk7 H6.out.1 hob6 (by simp)) (And.intro (at_but hk7 H6.out.2.1 hob6 (by simp)) (And.intro (at_but hk7 H6.out.2.2.1 hob6 (by simp)) (And.intro (show HeadC w7 h 5 50 10 rb ob x 2 0 0 (-1) from at_but hk7 H6.out.2.2.2.1 hob6 (by simp)) (And.intro (H6.out.2.2.2.2.1.keep hk7 (by simpa using n1)) (And.intro hone (And.intro (show IxAt w7 x mb _ from at_but hk7 H6.out.2.2.2.2.2.2.1 hob6 (by simp)) (And.intro (H6.out.2.2.2.2.2.2.2.1.keep hk7 (by simpa using fun e : mb = ob => n3 e.symm)) (kst_after H6.out.2.2.2.2.2.2.2.2 hk7 hob6 (by intro _ _ _ e; cases e <;> decide) l2)))))))))
 clear hob6 hone hk7 H6
 obtain ⟨W8, hW8⟩ : ∃ W8, W8 = w7.drew := ⟨_, rfl⟩
 have k9 : Keeps [] w7 W8 := by rw [hW8]; exact (Keeps.refl [] w7).drew
 have H8 := Lib.hid (go1 k9 H7.out)
 have HW := Lib.hid hW8
 clear hW8 k9 H7
 go_upto_region 8 with fail
 have s1 : W8.cell? ⟨h, 5, none⟩ = some (.pointer (some ⟨x, 0, none⟩)) := cells_at H8.out.2.2.2.1 5
 have s2 : W8.cell? ⟨pk, 0, none⟩ = some (.slice (some ⟨g, 0, none⟩) 1 c) := cells_at H8.out.2.2.1 0
 refine wp_region_held_drew (S := fun w' => w'.cell? ⟨h, 5, none⟩ = some (.pointer (some ⟨x, 0, none⟩)) ∧ w'.cell? ⟨pk, 0, none⟩ = some (.slice (some ⟨g, 0, none⟩) 1 c)) (by kernel_rfl) (by rw [← HW.out]; exact ⟨s1, s2⟩) (fun hS => ?_)
 rw [← HW.out] at hS ⊢
 clear s1 s2
 refine tk (v := ?_) 0 rfl ?_ ?_; rotate_left
 ·rintro _ ⟨s1, s2⟩; go_simp; (try with_reducible rfl)
 simp only [Act.put, zz]
 refine tk (v := ?_) 1 rfl ?_ ?_; rotate_left
 ·rintro _ ⟨s1, s2⟩; go_simp; (try with_reducible rfl)
 simp only [Act.put, zz]
 refine tk (v := ?_) 2 rfl ?_ ?_; rotate_left
 ·rintro _ ⟨s1, s2⟩; go_simp; (try with_reducible rfl)
 simp only [Act.put, zz]
 refine tk (v := ?_) 3 rfl ?_ ?_; rotate_left
 ·rintro _ ⟨s1, s2⟩; go_simp; (try with_reducible rfl)
 simp only [Act.put, zz]
 refine tk (v := ?_) 4 rfl ?_ ?_; rotate_left
 ·rintro _ ⟨s1, s2⟩; go_simp; (try with_reducible rfl)
 simp only [Act.put, zz]
 refine tk (v := ?_) 5 rfl ?_ ?_; rotate_left
 ·rintro _ ⟨s1, s2⟩; go_simp; (try with_reducible rfl)
 simp only [Act.put, zz]
 refine tk (v := ?_) 6 rfl ?_ ?_; rotate_left
 ·rintro _ ⟨s1, s2⟩; go_simp; (try with_reducible rfl)
 simp only [Act.put, zz]
 refine rd 7 rfl fun K hK => ?_
 go_simp
 go_at_call 68
 refine (add1_spec 0 W8 x mb 1 _ H8.out.2.2.2.2.2.2.1 H8.out.2.2.2.2.2.2.2.1 (Hset H8.out.2.1)).mono ?_
 rintro e w9 ⟨rfl, -, hk9⟩
 have ixb := H8.out.2.2.2.2.2.2.1
 have mbb := H8.out.2.2.2.2.2.2.2.1
 have HT := Lib.hid (And.intro (hk9.at_ H8.out.2.2.1 (nin2 (ne_of_at H8.out.2.2.1 ixb (by simp)) (mbb.ne H8.out.2.2.1))) (And.intro (show HeadC w9 h 5 50 10 rb ob x 2 0 0 (-1) from hk9.at_ H8.out.2.2.2.1 (nin2 (ne_of_at H8.out.2.2.2.1 ixb (by simp)) (mbb.ne H8.out.2.2.2.1))) (And.intro (H8.out.2.2.2.2.1.keep hk9 (nin2 (fun e => H8.out.2.2.2.2.1.ne ixb e.symm) n2)) (And.intro (show One w9 ob sb from hk9.at_ H8.out.2.2.2.2.2.1 (nin2 (ne_of_at H8.out.2.2.2.2.2.1 ixb (by simp)) n3)) (And.intro (hk9.at_ H8.out.1 (nin2 (ne_of_at H8.out.1 ixb (by simp)) (mbb.ne H8.out.1))) (And.intro (World.ownsRow_nil w9 b.heap.size 42 2) (And.intro (H8.out.2.2.2.2.2.2.2.2.1.after hk9 (fun y hy => .inr (by rcases (show y = x ∨ y = mb from (by simpa using hy)) with rfl | rfl <;> first | exact l3 | exact l4))) (H8.out.2.2.2.2.2.2.2.2.2.trans (still_of hk9 (fun q cs t z hq ht => nin2 (ne_of_at hq ixb (by rcases ht with rfl | rfl <;> simp)) (mbb.ne hq)))))))))))
 go_simp
 refine hK.out _ _ ⟨cells_at HT.out.2.1 5, cells_at HT.out.1 0⟩ (fun hS => ?_)
 clear hK K
 try simp only [Act.put, zz]
 refine wpAnyH_done (by kernel_rfl) ?_ _
 clear hS HW
 have Hb := Lib.hid (And.intro hbh hsl)
 clear ixb mbb hk9 H8 n1 n2 n3 l1 l2 l3 l4 hsl hbh Hset
 have q1 := run_one HT.out.2.2.2.1
 have c4 : w9.cell? ⟨h, 4, none⟩ = some (.map (some ob)) := cells_at HT.out.2.1 4
 obtain ⟨W9, hW9⟩ : ∃ W9, W9 = w9.drew := ⟨_, rfl⟩
 have k9 : Keeps [] w9 W9 := by rw [hW9]; exact (Keeps.refl [] w9).drew
 have H9 := Lib.hid (go1 k9 HT.out)
 have HW := Lib.hid hW9
 clear hW9 k9
 go_upto_region 10 with fail
 clear q1 c4
 have s1 : W9.cell? ⟨sb, 1, none⟩ = some (.slice none 0 0) := cells_at H9.out.2.2.2.2.1 1
 have s2 : W9.cell? ⟨pk, 1, none⟩ = some (.int .i64 3) := cells_at H9.out.1 1
 have s3 : W9.cell? ⟨pk, 2, none⟩ = some (.int .u64 0) := cells_at H9.out.1 2
 refine wp_region_last_n 11 (fun w' => w'.cell? ⟨sb, 1, none⟩ = some (.slice none 0 0) ∧ w'.cell? ⟨pk, 1, none⟩ = some (.int .i64 3) ∧ w'.cell? ⟨pk, 2, none⟩ = some (.int .u64 0)) (by kernel_rfl) (by kernel_rfl) (by kernel_rfl) ?_
 rw [← HW.out]
 have hS : W9.cell? ⟨sb, 1, none⟩ = some (.slice none 0 0) ∧ W9.cell? ⟨pk, 1, none⟩ = some (.int .i64 3) ∧ W9.cell? ⟨pk, 2, none⟩ = some (.int .u64 0) := ⟨s1, s2, s3⟩
 simp only [List.take_succ_cons, List.take_zero, List.toList_toArray]
 clear s1 s2 s3
 refine tk (v := ?_) 0 rfl ?_ ?_; rotate_left
 ·rintro _ ⟨s1, s2, s3⟩; go_simp; (try with_reducible rfl)
 simp only [Act.put, zz]
 refine tk (v := ?_) 1 rfl ?_ ?_; rotate_left
 ·rintro _ ⟨s1, s2, s3⟩; go_simp; (try with_reducible rfl)
 simp only [Act.put, zz]
 refine tk (v := ?_) 2 rfl ?_ ?_; rotate_left
 ·rintro _ ⟨s1, s2, s3⟩; go_simp; (try with_reducible rfl)
 simp only [Act.put, zz]
 refine tk (v := ?_) 3 rfl ?_ ?_; rotate_left
 ·rintro _ ⟨s1, s2, s3⟩; go_simp; (try with_reducible rfl)
 simp only [Act.put, zz]
 refine tk (v := ?_) 4 rfl ?_ ?_; rotate_left
 ·rintro _ ⟨s1, s2, s3⟩; go_simp; (try with_reducible rfl)
 simp only [Act.put, zz]
 refine tk (v := ?_) 5 rfl ?_ ?_; rotate_left
 ·rintro _ ⟨s1, s2, s3⟩; go_simp; (try with_reducible rfl)
 simp only [Act.put, zz]
 refine tk (v := ?_) 6 rfl ?_ ?_; rotate_left
 ·rintro _ ⟨s1, s2, s3⟩; go_simp; (try with_reducible rfl)
 simp only [Act.put, zz]
 refine rd 7 rfl fun K hK => ?_
 go_simp
 have kA : Keeps [] W9 (W9.alloc (.cells #[.int .i64 3, .int .u64 0] 42)) := (Keeps.refl [] W9).alloc _
 have HA := Lib.hid (And.intro (heap_new W9 (.cells #[.int .i64 3, .int .u64 0] 42)) (go1 kA H9.out))
 clear kA
 generalize W9.heap.size = nb at HA ⊢
 generalize W9.alloc (.cells #[.int .i64 3, .int .u64 0] 42) = A1 at HA ⊢
 go_simp
 refine hK.out _ _ ⟨cells_at HA.out.2.2.2.2.2.1 1, cells_at HA.out.2.1 1, cells_at HA.out.2.1 2⟩ (fun hS => ?_)
 clear hK K
 try simp only [Act.put, zz]
 refine rd 8 rfl fun K hK => ?_
 refine step_app rfl (.tmp 68) (.tmp 71) 100 rfl b.heap.size 42 isa _ 2 16 Tryz.underlying100 hisa hs0 hs1 hs2 rfl (by decide) (.slice none 0 0) 0 [] rfl HA.out.2.2.2.2.2.2.1 ⟨nb, 0, none⟩ 1 1 [.int .i64 3, .int .u64 0] rfl rfl (news_samp HA.out.1) (by simp [Value.oneCell']) (by decide) (by decide) HA.out.2.2.2.2.2.2.2.1.size ?_
 intro v5 A2 hown5 hgrow5 hnil5
 clear hnil5
 replace hown5 : A2.ownsRow b.heap.size 42 2 v5 1 ([] ++ [.int .i64 3, .int .u64 0]) := hown5
 obtain ⟨ao5, cp5, rfl, -, -, -⟩ := row_slice hown5
 have k5 := keeps_row hgrow5
 have hN := HA.out.2.2.2.2.2.2.1
 have t1 := k5.at_ HA.out.2.1 (fun hm => row_ne_cells hN HA.out.2.1 (by decide) _ (by simpa using hm) rfl)
 have t2 := k5.at_ HA.out.2.2.1 (fun hm => row_ne_cells hN HA.out.2.2.1 (by decide) _ (by simpa using hm) rfl)
 have t3 := HA.out.2.2.2.1.keep k5 (fun hm => row_ne_map hN HA.out.2.2.2.1 _ (by simpa using hm) rfl)
 have t4 : One A2 ob sb := k5.at_ HA.out.2.2.2.2.1 (fun hm => row_ne_obj hN HA.out.2.2.2.2.1 (by simp) _ (by simpa using hm) rfl)
 have t5 := k5.at_ HA.out.2.2.2.2.2.1 (fun hm => row_ne_cells hN HA.out.2.2.2.2.2.1 (by decide) _ (by simpa using hm) rfl)
 have t7 := And.intro (keeps_own HA.out.2.2.2.2.2.2.2.1 hgrow5 (fun q hq => (World.ownsRow.lt hN q hq).1)) (HA.out.2.2.2.2.2.2.2.2.trans (still_of k5 (fun q cs t z hq ht hm => row_ne_cells hN hq (by rcases ht with rfl | rfl <;> decide) _ (by simpa using hm) rfl)))
 have HB := Lib.hid (And.intro t1 (And.intro t2 (And.intro t3 (And.intro t4 (And.intro t5 (And.intro hown5 t7))))))
 clear t1 t2 t3 t4 t5 t7 hown5 hgrow5 k5 hN HA H9 HT
 refine hK.out _ _ ⟨cells_at HB.out.2.2.2.2.1 1, cells_at HB.out.1 1, cells_at HB.out.1 2⟩ (fun hS => ?_)
 clear hK K
 try simp only [Act.put, zz]
 refine tk (v := ?_) 9 rfl ?_ ?_; rotate_left
 ·rintro _ ⟨s1, s2, s3⟩; go_simp; (try with_reducible rfl)
 simp only [Act.put, zz]
 refine tk (v := ?_) 10 rfl ?_ ?_; rotate_left
 ·rintro _ ⟨s1, s2, s3⟩; go_simp; (try with_reducible rfl)
 simp only [Act.put, zz]
 have c5 := free_at HB.out.2.2.2.2.1
 have l5 := lt_of_at HB.out.2.2.2.2.1
 have v5c : A2.cell? ⟨sb, 1, none⟩ = some (.slice none 0 0) := cells_at HB.out.2.2.2.2.1 1
 refine wpAnyH_done (by kernel_rfl) ?_ _
 refine lastQ_step rfl (fun K hK => ?_)
 go_simp
 refine hK _ _ ?_
 clear hK K
 clear c5 l5 v5c hS HW
 have kS : Keeps [sb] A2 (A2.setCell ⟨sb, 1, none⟩ (.slice ao5 1 cp5)) := (Keeps.refl _ A2).setCell (.inl (by simp)) _
 have n5 : (A2.setCell ⟨sb, 1, none⟩ (.slice ao5 1 cp5)).heap[sb]? = some (.cells #[.slice (some ⟨g7, 0, none⟩) 1 c7, .slice ao5 1 cp5, .int .i64 (-1)] 102 (0, 0)) := (heap_cell_same (i := 1) HB.out.2.2.2.2.1 (.slice ao5 1 cp5)).trans (by simp)
 have HC := Lib.hid (And.intro (at_but kS HB.out.1 HB.out.2.2.2.2.1 (by simp)) (And.intro (at_but kS HB.out.2.1 HB.out.2.2.2.2.1 (by simp)) (And.intro (HB.out.2.2.1.keep kS (by simpa using fun e => HB.out.2.2.1.ne HB.out.2.2.2.2.1 e.symm)) (And.intro (show One _ ob sb from at_but kS HB.out.2.2.2.1 HB.out.2.2.2.2.1 (by simp)) (And.intro n5 (And.intro (kS.row HB.out.2.2.2.2.2.1 (fun q hq => by simpa using row_ne_cells HB.out.2.2.2.2.2.1 HB.out.2.2.2.2.1 (by decide) q hq)) (kst_after HB.out.2.2.2.2.2.2 kS HB.out.2.2.2.2.1 (by intro _ _ _ e; cases e <;> decide) Hb.out.2)))))))
 clear kS n5 HB
 generalize A2.setCell ⟨sb, 1, none⟩ (.slice ao5 1 cp5) = A3 at HC ⊢
 have p1 : A3.cell? ⟨pk, 1, none⟩ = some (.int .i64 3) := cells_at HC.out.1 1
 have c5 := free_at HC.out.2.2.2.2.1
 have l5 := lt_of_at HC.out.2.2.2.2.1
 have v5c : A3.cell? ⟨sb, 2, none⟩ = some (.int .i64 (-1)) := cells_at HC.out.2.2.2.2.1 2
 have kS : Keeps [sb] A3 (A3.setCell ⟨sb, 2, none⟩ (.int .i64 3)) := (Keeps.refl _ A3).setCell (.inl (by simp)) _
 have n5 : (A3.setCell ⟨sb, 2, none⟩ (.int .i64 3)).heap[sb]? = some (.cells #[.slice (some ⟨g7, 0, none⟩) 1 c7, .slice ao5 1 cp5, .int .i64 3] 102 (0, 0)) := (heap_cell_same (i := 2) HC.out.2.2.2.2.1 (.int .i64 3)).trans (by simp)
 have HD := Lib.hid (And.intro (at_but kS HC.out.1 HC.out.2.2.2.2.1 (by simp)) (And.intro (at_but kS HC.out.2.1 HC.out.2.2.2.2.1 (by simp)) (And.intro (HC.out.2.2.1.keep kS (by simpa using fun e => HC.out.2.2.1.ne HC.out.2.2.2.2.1 e.symm)) (And.intro (show One _ ob sb from at_but kS HC.out.2.2.2.1 HC.out.2.2.2.2.1 (by simp)) (And.intro n5 (And.intro (kS.row HC.out.2.2.2.2.2.1 (fun q hq => by simpa using row_ne_cells HC.out.2.2.2.2.2.1 HC.out.2.2.2.2.1 (by decide) q hq)) (kst_after HC.out.2.2.2.2.2.2 kS HC.out.2.2.2.2.1 (by intro _ _ _ e; cases e <;> decide) Hb.out.2)))))))
 clear kS n5 HC
 obtain ⟨A4, hA4⟩ : ∃ A4, A4 = A3.setCell ⟨sb, 2, none⟩ (.int .i64 3) := ⟨_, rfl⟩
 rw [← hA4] at HD
 obtain ⟨A5, hA5⟩ : ∃ A5, A5 = A4.drew := ⟨_, rfl⟩
 have k9 : Keeps [] A4 A5 := by rw [hA5]; exact (Keeps.refl [] A4).drew
 have HE := Lib.hid (go1 k9 HD.out)
 have HW := Lib.hid (hA5.trans (by rw [hA4]))
 clear hA5 hA4 k9 HD
 go_upto_region 12 with fail
 clear p1 c5 l5 v5c
 have F0 : ∀ s : Kept A5, s.val.cell? ⟨h, 9, none⟩ = some (.int .i64 (-1)) := keptCell (cells_at HE.out.2.1 9)
 have F1 : ∀ s : Kept A5, s.val.cell? ⟨pk, 1, none⟩ = some (.int .i64 3) := keptCell (cells_at HE.out.1 1)
 refine wp_region_last_n 11 (KeptS A5) (by kernel_rfl) (by kernel_rfl) (by kernel_rfl) ?_
 rw [← HW.out]
 have hS : KeptS A5 A5 := keptS (Keeps.refl _ _)
 simp only [List.take_succ_cons, List.take_zero, List.toList_toArray]
 refine tk (v := ?_) 0 rfl ?_ ?_; rotate_left
 ·rintro _ ⟨s, rfl⟩; go_simp; (try with_reducible rfl)
 simp only [Act.put, zz]
 refine tk (v := ?_) 1 rfl ?_ ?_; rotate_left
 ·rintro _ ⟨s, rfl⟩; go_simp; (try with_reducible rfl)
 simp only [Act.put, zz]
 refine tk (v := ?_) 2 rfl ?_ ?_; rotate_left
 ·rintro _ ⟨s, rfl⟩; go_simp; (try with_reducible rfl)
 simp only [Act.put, zz]
 refine tk (v := ?_) 3 rfl ?_ ?_; rotate_left
 ·rintro _ ⟨s, rfl⟩; go_simp; (try with_reducible rfl)
 simp only [Act.put, zz]
 refine tk (v := ?_) 4 rfl ?_ ?_; rotate_left
 ·rintro _ ⟨s, rfl⟩; go_simp; (try with_reducible rfl)
 simp only [Act.put, zz]
 refine tk (v := ?_) 5 rfl ?_ ?_; rotate_left
 ·rintro _ ⟨s, rfl⟩; go_simp; (try with_reducible rfl)
 simp only [Act.put, zz]
 refine tk (v := ?_) 6 rfl ?_ ?_; rotate_left
 ·rintro _ ⟨s, rfl⟩; go_simp; (try with_reducible rfl)
 simp only [Act.put, zz]
 refine tk (v := ?_) 7 rfl ?_ ?_; rotate_left
 ·rintro _ ⟨s, rfl⟩; go_simp; (try with_reducible rfl)
 simp only [Act.put, zz]
 refine rd 8 rfl fun K hK => ?_
 go_simp
 go_simp
 refine hK.out _ _ (keptS (Keeps.refl [] A5)) (fun hS => ?_)
 clear hK K
 try simp only [Act.put, zz]
 refine tk (v := ?_) 9 rfl ?_ ?_; rotate_left
 ·rintro _ ⟨s, rfl⟩; go_simp; (try with_reducible rfl)
 simp only [Act.put, zz]
 refine tk (v := ?_) 10 rfl ?_ ?_; rotate_left
 ·rintro _ ⟨s, rfl⟩; go_simp; (try with_reducible rfl)
 simp only [Act.put, zz]
 have c5 := free_at HE.out.2.1
 have l5 := lt_of_at HE.out.2.1
 have v5c : A5.cell? ⟨h, 9, none⟩ = some (.int .i64 (-1)) := cells_at HE.out.2.1 9
 refine wpAnyH_done (by kernel_rfl) ?_ _
 refine lastQ_step rfl (fun K hK => ?_)
 go_simp
 refine hK _ _ ?_
 clear hK K
 clear c5 l5 v5c hS HW F0 F1
 have kH : Keeps [h] A5 (A5.setCell ⟨h, 9, none⟩ (.int .i64 3)) := (Keeps.refl _ A5).setCell (.inl (by simp)) _
 have n5 : HeadC (A5.setCell ⟨h, 9, none⟩ (.int .i64 3)) h 5 50 10 rb ob x 2 0 0 3 := (heap_cell_same (i := 9) HE.out.2.1 (.int .i64 3)).trans (by simp)
 have HF := Lib.hid (And.intro n5 (And.intro (HE.out.2.2.1.keep kH (by simpa using fun e => HE.out.2.2.1.ne HE.out.2.1 e.symm)) (And.intro (show One _ ob sb from at_but kH HE.out.2.2.2.1 HE.out.2.1 (by simp)) (And.intro (at_but kH HE.out.2.2.2.2.1 HE.out.2.1 (by simp)) (And.intro (kH.row HE.out.2.2.2.2.2.1 (fun q hq => by simpa using row_ne_cells HE.out.2.2.2.2.2.1 HE.out.2.1 (by decide) q hq)) (kst_after HE.out.2.2.2.2.2.2 kH HE.out.2.1 (by intro _ _ _ e; cases e <;> decide) Hb.out.1))))))
 clear kH n5 HE
 simp only [show (max ((-1) : Int) 3) = 3 from by decide]
 generalize A5.setCell ⟨h, 9, none⟩ (.int .i64 3) = A6 at HF ⊢
 have c5 := free_at HF.out.1
 have l5 := lt_of_at HF.out.1
 have v5c : A6.cell? ⟨h, 7, none⟩ = some (.int .i64 0) := cells_at HF.out.1 7
 have kH : Keeps [h] A6 (A6.setCell ⟨h, 7, none⟩ (.int .i64 1)) := (Keeps.refl _ A6).setCell (.inl (by simp)) _
 have n5 : HeadC (A6.setCell ⟨h, 7, none⟩ (.int .i64 1)) h 5 50 10 rb ob x 2 1 0 3 := (heap_cell_same (i := 7) HF.out.1 (.int .i64 1)).trans (by simp)
 have HG := Lib.hid (And.intro (show HeadC _ h 5 50 10 rb ob x 2 1 0 3 from n5) (And.intro (HF.out.2.1.keep kH (by simpa using fun e => HF.out.2.1.ne HF.out.1 e.symm)) (And.intro (show One _ ob sb from at_but kH HF.out.2.2.1 HF.out.1 (by simp)) (And.intro (at_but kH HF.out.2.2.2.1 HF.out.1 (by simp)) (And.intro (kH.row HF.out.2.2.2.2.1 (fun q hq => by simpa using row_ne_cells HF.out.2.2.2.2.1 HF.out.1 (by decide) q hq)) (kst_after HF.out.2.2.2.2.2 kH HF.out.1 (by intro _ _ _ e; cases e <;> decide) Hb.out.1))))))
 clear kH n5 HF
 go_wp2_with fail
 go_ret
 exact ⟨rfl, ⟨rb, ob, x, sb, .slice (some ⟨g7, 0, none⟩) 1 c7, .slice ao5 1 cp5, HG.out.1, HG.out.2.1, HG.out.2.2.1, HG.out.2.2.2.1, HG.out.2.2.2.2.1, HG.out.2.2.2.2.2.1, Hb.out⟩, HG.out.2.2.2.2.2.2⟩
open Go Go.RowKit Go.Maps
theorem HeadN.keep {b w w' : World} {h n : Nat} {xs : List Value} {top : Int} (H : HeadN b w h n xs top) (k : Keeps [] w w') : HeadN b w' h n xs top := by
 obtain ⟨rb, ob, x, sb, lb, va, h1, h2, h3, h4, h5, h6, h7, h8⟩ := H
 exact ⟨rb, ob, x, sb, lb, va, go1 k h1, go1 k h2, go1 k h3, go1 k h4, go1 k h5, go1 k h6, h7, h8⟩
instance go1HeadN {b w w' : World} {h n : Nat} {xs : List Value} {top : Int} : Go1 w w' (HeadN b w h n xs top) (HeadN b w' h n xs top) := ⟨fun k H => H.keep k⟩
theorem Head0.keep {B : Nat} {w w' : World} {h : Nat} {p q r : Int} (H : Head0 B w h p q r) (k : Keeps [] w w') : Head0 B w' h p q r := by
 obtain ⟨rb, ob, x, mb, h1, h2, h3, h4, h5, h6⟩ := H
 exact ⟨rb, ob, x, mb, go1 k h1, go1 k h2, go1 k h3, go1 k h4, go1 k h5, h6⟩
instance go1Head0 {B : Nat} {w w' : World} {h : Nat} {p q r : Int} : Go1 w w' (Head0 B w h p q r) (Head0 B w' h p q r) := ⟨fun k H => H.keep k⟩
def AddRel (b w : World) (h : Nat) (gk : Nat) (u8 : Value) (wr : World) : Prop :=
 (gk = 2 ∧ u8 = .int .i64 0 ∧ Head0 b.heap.size wr h 5 50 10 ∧ Keeps [] b wr ∧ StillP w wr) ∨ (gk = 1 ∧ u8 = .int .i64 1 ∧ HeadN b wr h 1 [.int .i64 3, .int .u64 0] 3 ∧ StillP w wr) ∨ (gk = 0 ∧ u8 = .int .i64 2 ∧ HeadN b wr h 2 [.int .i64 3, .int .u64 0, .int .i64 25, .int .u64 0] 25 ∧ StillP w wr)
theorem headAdd_spec (b w : World) (h pb cp : Nat) (g c : Nat) (cur : Array Value) (hc1 : 1 ≤ c) (hcm : c ≤ maxLen) (hcs : cur.size = c * 2) (hb : w.heap[g]? = some (.cells cur 149 (0, 0))) (h0 : cur[0]? = some (.string ⟨#[97]⟩)) (h1 : cur[1]? = some (.string ⟨#[49]⟩))
  (hp : w.heap[pb]? = some (.cells #[.slice (some ⟨g, 0, none⟩) 1 c, .int .i64 3, .int .u64 0, .slice (some ⟨g, 0, none⟩) 1 c, .int .i64 25, .int .u64 0] 89 (0, 0))) (hh : Head0 b.heap.size w h 5 50 10) (hkb : Keeps [] b w) (hbh : b.heap.size ≤ h) :
  Calls Tryz.prog 12 #[.pointer (some ⟨h, 0, none⟩), .slice (some ⟨pb, 0, none⟩) 2 cp] w fun e w' => e = .returned (.tuple #[]) ∧ HeadN b w' h 2 [.int .i64 3, .int .u64 0, .int .i64 25, .int .u64 0] 25 ∧ StillP w w' := by
 have H0 := Lib.hid (And.intro hh hkb)
 clear hh hkb
 go_enter Tryz.func12, Tryz.ntmps12
 go_wp2_with fail
 go_loopg [8] 2 (AddRel b w h)
 case atStart => exact .inl ⟨rfl, rfl, H0.out.1, H0.out.2, fun _ _ _ _ h _ => h⟩
 case round =>
  clear H0
  rcases hrel with ⟨hgk, rfl, hh, hkb, hst⟩ | ⟨hgk, rfl, hh, hst⟩ | ⟨hgk, rfl, hh, hst⟩
  ·have Hg := Lib.hid hgk
   have hpw := hst _ _ _ _ hp (.inr rfl)
   have e0 : wr.cell? ⟨pb, 0, none⟩ = some (.slice (some ⟨g, 0, none⟩) 1 c) := cells_at hpw 0
   have e1 : wr.cell? ⟨pb, 1, none⟩ = some (.int .i64 3) := cells_at hpw 1
   have e2 : wr.cell? ⟨pb, 2, none⟩ = some (.int .u64 0) := cells_at hpw 2
   have hlw := lt_of_at hpw
   have kp : Keeps [] wr (wr.alloc (.cells #[.slice (some ⟨g, 0, none⟩) 1 c, .int .i64 3, .int .u64 0] 89)) := (Keeps.refl [] wr).alloc _
   have H0 := Lib.hid (And.intro (kp.at_ (hst _ _ _ _ hb (.inl rfl)) (by simp)) (And.intro (go1 kp hh) (And.intro (go1 kp hkb) (go1 kp hst))))
   clear kp hh hst hgk hpw hkb
   go_wp2_with fail
   refine (addNew_spec b _ h g c cur hc1 hcm hcs H0.out.1 h0 h1 H0.out.2.1 H0.out.2.2.1 hbh).mono ?_
   rintro e w2 ⟨rfl, hn, hs⟩
   have H2 := Lib.hid (And.intro hn (H0.out.2.2.2.trans hs))
   clear hn hs H0 e0 e1 e2 hlw
   go_wp2_with fail
   go_roundg 1
   case measure => have := Hg.out; omega
   case rel => exact .inr (.inl ⟨rfl, rfl, H2.out⟩)
  ·have Hg := Lib.hid hgk
   have hpw := hst _ _ _ _ hp (.inr rfl)
   have e0 : wr.cell? ⟨pb, 3, none⟩ = some (.slice (some ⟨g, 0, none⟩) 1 c) := cells_at hpw 3
   have e1 : wr.cell? ⟨pb, 4, none⟩ = some (.int .i64 25) := cells_at hpw 4
   have e2 : wr.cell? ⟨pb, 5, none⟩ = some (.int .u64 0) := cells_at hpw 5
   have hlw := lt_of_at hpw
   have kp : Keeps [] wr (wr.alloc (.cells #[.slice (some ⟨g, 0, none⟩) 1 c, .int .i64 25, .int .u64 0] 89)) := (Keeps.refl [] wr).alloc _
   have H0 := Lib.hid (And.intro (kp.at_ (hst _ _ _ _ hb (.inl rfl)) (by simp)) (And.intro (go1 kp hh) (go1 kp hst)))
   clear kp hh hst hgk hpw
   go_wp2_with fail
   refine (addOld_spec b _ h g c cur H0.out.1 h0 h1 H0.out.2.1).mono ?_
   rintro e w2 ⟨rfl, hn, hs⟩
   have H2 := Lib.hid (And.intro hn (H0.out.2.2.trans hs))
   clear hn hs H0 e0 e1 e2 hlw
   go_wp2_with fail
   go_roundg 0
   case measure => have := Hg.out; omega
   case rel => exact .inr (.inr ⟨rfl, rfl, H2.out⟩)
  ·have H2 := Lib.hid (And.intro hh hst)
   clear hh hst
   go_wp2_with fail
   go_end0
   exact ⟨rfl, H2.out⟩
theorem samples_spec (b w : World) (h : Nat) (n : Nat) (xs : List Value) (top : Int) (hh : HeadN b w h n xs top) : Calls Tryz.prog 27 #[.pointer (some ⟨h, 0, none⟩)] w fun e w' => e = .returned (.int .i64 n) ∧ Keeps [] w w' := by
 obtain ⟨rb, ob, x, sb, lb, va, hhc, -⟩ := hh
 have c7 : w.cell? ⟨h, 7, none⟩ = some (.int .i64 n) := cells_at hhc 7
 clear hhc
 go_enter Tryz.func27, Tryz.ntmps27
 go_wp2_with fail
 go_ret
 exact ⟨rfl, Keeps.refl _ _⟩
def OldRel (w : World) (h rb ob x sb : Nat) (lb va : Value) (gk : Nat) (u5 : Value) (wr : World) : Prop :=
 HeadC wr h 5 50 10 rb ob x 2 2 0 25 ∧ One wr ob sb ∧ wr.heap[sb]? = some (.cells #[lb, va, .int .i64 25] 102 (0, 0)) ∧ wr.ownsRow 0 42 2 va 2 [.int .i64 3, .int .u64 0, .int .i64 25, .int .u64 0] ∧ Keeps [] w wr ∧
  ((gk = 1 ∧ u5 = .int .i64 (-1) ∧ wr.heap[w.heap.size]? = some (.mapIter (some ob) 1 #[] 1)) ∨ (gk = 0 ∧ u5 = .int .i64 3 ∧ wr.heap[w.heap.size]? = some (.mapIter (some ob) 1 #[0] 1)))
theorem oldest_spec (b w : World) (h : Nat) (hh : HeadN b w h 2 [.int .i64 3, .int .u64 0, .int .i64 25, .int .u64 0] 25) :
  Calls Tryz.prog 34 #[.pointer (some ⟨h, 0, none⟩)] w fun e w' => e = .returned (.tuple #[.int .i64 0, .int .i64 10, .bool true]) ∧ Keeps [] w w' := by
 obtain ⟨rb, ob, x, sb, lb, va, hhc, hmr, hob, hsb, hva, hkb, hbb⟩ := hh
 have hva0 := row_base (b' := 0) hva (Nat.zero_le _)
 have c4 : w.cell? ⟨h, 4, none⟩ = some (.map (some ob)) := cells_at hhc 4
 have k0 : Keeps [] w (w.alloc (.mapIter (some ob) 1 #[] 1)) := (Keeps.refl [] w).alloc _
 have H0 := Lib.hid (And.intro (go1 k0 hhc) (And.intro (go1 k0 hob) (And.intro (go1 k0 hsb) (And.intro (go1 k0 hva0) (And.intro k0 (heap_new w (.mapIter (some ob) 1 #[] 1)))))))
 have Hob := Lib.hid hob
 clear hhc hmr hsb hva hva0 hkb hbb k0 hob
 go_enter Tryz.func34, Tryz.ntmps34
 go_wp2_with (at_range; refine wpList_range1 rfl _ rfl rfl Hob.out ?_)
 clear c4
 go_frame
 go_loopg [5] 1 (OldRel w h rb ob x sb lb va)
 case atStart => exact ⟨H0.out.1, H0.out.2.1, H0.out.2.2.1, H0.out.2.2.2.1, H0.out.2.2.2.2.1, .inl ⟨rfl, rfl, H0.out.2.2.2.2.2⟩⟩
 case round =>
  clear H0 Hob
  obtain ⟨hhc, hob, hsb, hva, hkw, hrel⟩ := hrel
  rcases hrel with ⟨hgk, rfl, hit⟩ | ⟨hgk, rfl, hit⟩
  ·have Hg := Lib.hid hgk
   have H1 := Lib.hid (And.intro hhc (And.intro hob (And.intro hsb (And.intro hva (And.intro hkw hit)))))
   clear hhc hob hsb hva hkw hit hgk
   go_wp2_with (at_next; refine wpList_next1 (r := w.heap.size) rfl _ rfl rfl H1.out.2.1 H1.out.2.2.2.2.2 ?_; intro w1 hi1 hk1; have hen := run_entry1 (show One w1 ob sb from at_but hk1 H1.out.2.1 H1.out.2.2.2.2.2 (by simp)) hi1; have s1 : w1.cell? ⟨sb, 1, none⟩ = some va := cells_at (at_but hk1 H1.out.2.2.1 H1.out.2.2.2.2.2 (by simp)) 1; have hva1 := hk1.row H1.out.2.2.2.1 (fun q hq => by simpa using row_ne_obj H1.out.2.2.2.1 H1.out.2.2.2.2.2 (by simp) q hq); obtain ⟨ao, cp, rfl, -, -, hcell⟩ := row_slice hva1; obtain ⟨gq, rfl, -, -, hc0⟩ := hcell 0 (by decide); clear hcell; have H3 := Lib.hid (And.intro (show HeadC w1 h 5 50 10 rb ob x 2 2 0 25 from at_but hk1 H1.out.1 H1.out.2.2.2.2.2 (by simp)) (And.intro (show One w1 ob sb from at_but hk1 H1.out.2.1 H1.out.2.2.2.2.2 (by simp)) (And.intro (at_but hk1 H1.out.2.2.1 H1.out.2.2.2.2.2 (by simp)) (And.intro hva1 (And.intro (H1.out.2.2.2.2.1.after hk1 (fun y hy => .inr (by rw [show y = w.heap.size from (by simpa using hy)]; exact Nat.le_refl _))) hi1))))); clear hva1 hi1 hk1)
   clear H1 hen s1 hc0
   go_roundg 0
   case measure => have := Hg.out; omega
   case rel => exact ⟨H3.out.1, H3.out.2.1, H3.out.2.2.1, H3.out.2.2.2.1, H3.out.2.2.2.2.1, .inr ⟨rfl, rfl, H3.out.2.2.2.2.2⟩⟩
  ·have c2 : wr.cell? ⟨h, 2, none⟩ = some (.int .i64 10) := cells_at hhc 2
   have c9 : wr.cell? ⟨h, 9, none⟩ = some (.int .i64 25) := cells_at hhc 9
   have H1 := Lib.hid (And.intro hob (And.intro hit hkw))
   clear hhc hob hsb hva hkw hit hgk
   go_wp2_with (at_next; refine wpList_next2 (r := w.heap.size) rfl _ rfl rfl H1.out.1 H1.out.2.1 ?_)
   go_quiet (fail)
   go_wp2_with fail
   go_ret3
   exact ⟨rfl, H1.out.2.2.drewN _⟩
open Go Go.RowKit Go.Maps
theorem awake15_spec (w : World) (hv : LibVar w) :
  Calls Tryz.prog 9 #[] w fun e w' => e = .returned (.bool true) ∧ Keeps [] w w' := by
 have Hv := Lib.hid hv
 clear hv
 go_enter Tryz.func9, Tryz.ntmps9
 go_wp2_with fail
 refine (newYes_spec w 5 50 10 (by decide)).mono ?_
 rintro e w1 ⟨h, rfl, hh, hwh, hk1⟩
 have H1 := Lib.hid (And.intro (go1 hk1 Hv.out) (And.intro hh hk1))
 clear hh hk1 Hv
 go_wp2_with fail
 refine (parse1_spec w1 H1.out.1).mono ?_
 rintro e w2 ⟨v2, rfl, hs2, hk2⟩
 obtain ⟨g, c, cur, rfl, -, hc1, hcm, hg, hcs, h0, h1⟩ := hs2
 have H2 := Lib.hid (And.intro hg (go1 hk2 H1.out.2))
 clear hg hk2 H1
 obtain ⟨W3, hW3⟩ : ∃ W3, W3 = w2.alloc (.cells #[.slice (some ⟨g, 0, none⟩) 1 c, .int .i64 3, .int .u64 0, .slice (some ⟨g, 0, none⟩) 1 c, .int .i64 25, .int .u64 0] 89) := ⟨_, rfl⟩
 have k3 : Keeps [] w2 W3 := by rw [hW3]; exact (Keeps.refl [] w2).alloc _
 have hp : W3.heap[w2.heap.size]? = some (.cells #[.slice (some ⟨g, 0, none⟩) 1 c, .int .i64 3, .int .u64 0, .slice (some ⟨g, 0, none⟩) 1 c, .int .i64 25, .int .u64 0] 89 (0, 0)) := by rw [hW3]; exact heap_new w2 _
 have H3 := Lib.hid (And.intro hp (go1 k3 H2.out))
 clear hp k3 H2
 go_wp2_with fail
 rw [← hW3]
 clear hW3
 generalize w2.heap.size = pb at H3 ⊢
 refine (chk2_spec W3 h pb 2 g c cur hc1 H3.out.2.1 h0 h1 H3.out.1 _ H3.out.2.2.1).mono ?_
 rintro e w4 ⟨rfl, hk4⟩
 have H4 := Lib.hid (go1 hk4 H3.out)
 clear hk4 H3
 go_wp2_with fail
 refine (headAdd_spec w w4 h pb 2 g c cur hc1 hcm hcs H4.out.2.1 h0 h1 H4.out.1 H4.out.2.2.1 H4.out.2.2.2 hwh).mono ?_
 rintro e w5 ⟨rfl, hn5, hs5⟩
 have H5 := Lib.hid (And.intro (hs5 _ _ _ _ H4.out.1 (.inr rfl)) (And.intro (hs5 _ _ _ _ H4.out.2.1 (.inl rfl)) hn5))
 clear hn5 hs5 H4
 go_wp2_with fail
 refine (oldest_spec w w5 h H5.out.2.2).mono ?_
 rintro e w6 ⟨rfl, hk6⟩
 have H6 := Lib.hid (go1 hk6 H5.out)
 clear hk6 H5
 have d3 : w6.cell? ⟨pb, 3, none⟩ = some (.slice (some ⟨g, 0, none⟩) 1 c) := cells_at H6.out.1 3
 have d4 : w6.cell? ⟨pb, 4, none⟩ = some (.int .i64 25) := cells_at H6.out.1 4
 have d5 : w6.cell? ⟨pb, 5, none⟩ = some (.int .u64 0) := cells_at H6.out.1 5
 obtain ⟨W7, hW7⟩ : ∃ W7, W7 = w6.alloc (.cells #[.slice (some ⟨g, 0, none⟩) 1 c, .int .i64 25, .int .u64 0] 89) := ⟨_, rfl⟩
 have k7 : Keeps [] w6 W7 := by rw [hW7]; exact (Keeps.refl [] w6).alloc _
 have hp : W7.heap[w6.heap.size]? = some (.cells #[.slice (some ⟨g, 0, none⟩) 1 c, .int .i64 25, .int .u64 0] 89 (0, 0)) := by rw [hW7]; exact heap_new w6 _
 have H7 := Lib.hid (And.intro hp (go1 k7 H6.out))
 clear hp k7 H6
 go_wp2_with fail
 rw [← hW7]
 clear hW7 d3 d4 d5
 generalize w6.heap.size = pc at H7 ⊢
 refine (chk1_spec W7 h pc 1 g c cur hc1 H7.out.2.2.1 h0 h1 H7.out.1 2 2 0 25 (by obtain ⟨rb, ob, x, sb, lb, va, y1, y2, y3, y4, -⟩ := H7.out.2.2.2; exact ⟨rb, ob, x, sb, lb, va, y1, y2, y3, y4⟩)).mono ?_
 rintro e w8 ⟨rfl, hk8⟩
 have H8 := Lib.hid (go1 hk8 H7.out.2.2.2)
 clear hk8 H7
 go_wp2_with fail
 refine (samples_spec w w8 h 2 _ 25 H8.out).mono ?_
 rintro e w9 ⟨rfl, hk9⟩
 have H9 := Lib.hid (go1 hk9 H8.out)
 clear hk9 H8
 go_wp2_with fail
 go_ret
 obtain ⟨rb, ob, x, sb, lb, va, -, -, -, -, -, hk, -⟩ := H9.out
 exact ⟨rfl, hk⟩
end Go.Proofs.YtgdkceeonnfejaaGreatDoor
