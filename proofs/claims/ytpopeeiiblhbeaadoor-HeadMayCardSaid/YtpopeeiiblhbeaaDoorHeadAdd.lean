/-
  Package head: (*Head).add: the first point of a new series; a second point of it.
  No condition beyond those that each theorem states.
-/
import Derived.Test.YtpopeeiiblhbeaaDoorHeadChk
namespace Go.Proofs.YtpopeeiiblhbeaaDoor
open Go Go.RowKit Go.Maps

theorem infoSamp : (Tryd.prog.info? 101).map (fun i => (i.zero, i.size, i.bytes)) = some (some (.agg #[.int .i64 0, .int .u64 0]), 2, 16) := by kernel_rfl

theorem news_samp {w : World} {g : Nat} {x y : Value} {t : TypeId} (hg : w.heap[g]? = some (.cells #[x, y] t (0, 0))) : ∀ j u, ([x, y] : List Value)[j]? = some u → w.cell? ((⟨g, 0, none⟩ : Addr).add j) = some u := by
  intro j u hu
  have hadd : (⟨g, 0, none⟩ : Addr).add j = ⟨g, j, none⟩ := by unfold Addr.add; split <;> simp_all
  rw [hadd, cells_at hg]
  match j with
  | 0 => exact hu
  | 1 => exact hu
  | n + 2 => simp at hu

theorem at_but {w w' : World} {y b : Nat} {o oy : Obj} (k : Keeps [y] w w') (hb : w.heap[b]? = some o) (hy : w.heap[y]? = some oy) (hne : o ≠ oy) : w'.heap[b]? = some o := k.at_ hb (by simpa using ne_of_at hb hy hne)

theorem row_ne_obj {w : World} {base s n b : Nat} {e : TypeId} {v : Value} {xs : List Value} {o : Obj} (h : w.ownsRow base e s v n xs) (hb : w.heap[b]? = some o) (ho : ∀ c z, o ≠ .cells c e z) : ∀ g, v.ownBlock = some g → g ≠ b := by
  intro g hg e1
  subst e1
  obtain ⟨_, ⟨rfl, _⟩ | ⟨g', cap, cur, rfl, _, h1, _⟩⟩ := h
  · simp [Value.ownBlock] at hg
  · obtain rfl : g' = g := by simpa [Value.ownBlock] using hg
    rw [h1] at hb
    injection hb with hb
    exact ho _ _ hb.symm

theorem step_app {P : Program} {ops : Array Oper} {o : Oper} {a : Act} {w : World} {K : Act → World → Prop} {Q : Exit → Act → World → Prop} {E : Prop} (hg : o.guard = none) (s x : Operand) (t : TypeId)
    (ho : o.op = .call { callee := .builtin .append, args := #[s, x], argTypes := #[t, t] })
    (base : Nat) (e : TypeId) (i : TypeInfo) (z : Value) (size bytes : Nat) (ht : P.underlying t = some (.slice e)) (hi : P.info? e = some i) (hz : i.zero = some z)
    (hsize : i.size = size) (hby : i.bytes = bytes) (hzs : z.cells.size = size) (hsz : 0 < size)
    (v : Value) (n : Nat) (xs : List Value) (hs : a.eval s = v) (hown : w.ownsRow base e size v n xs)
    (ad : Addr) (m c : Nat) (news : List Value) (hx : a.eval x = .slice (some ad) m c) (hl : news.length = m * size) (hnews : ∀ j u, news[j]? = some u → w.cell? (ad.add j) = some u) (h1 : ∀ u ∈ news, u.oneCell' = true)
    (h63 : n + m ≤ maxLen) (hbytes : (n + m) * bytes ≤ 140737488355328) (hbase : base ≤ w.heap.size)
    (h : ∀ v' w', w'.ownsRow base e size v' (n + m) (xs ++ news) → w.grownBy w' v.ownBlock → (v' = .slice none 0 0 ↔ v = .slice none 0 0 ∧ m = 0) → K (a.put o.dst v') w') : if Region.wanted o (yielded ops a.tmps) = true then Oper.wp P o a w K Q else E := by
  have hw : Region.wanted o (yielded ops a.tmps) = true := by simp [Region.wanted, hg]
  rw [if_pos hw]
  exact wp_append_own w s x t ho base e i z size bytes ht hi hz hsize hby hzs hsz v n xs hs hown ad m c news hx hl hnews h1 h63 hbytes hbase h

/-- Sets of labels and points stand. -/
def StillP (w w' : World) : Prop := ∀ (q : Nat) (cs : Array Value) (t : TypeId) (z : Nat × Nat), w.heap[q]? = some (Obj.cells cs t z) → (t = 117 ∨ t = 103) → w'.heap[q]? = some (Obj.cells cs t z)

theorem still_of {S : List Nat} {w w' : World} (k : Keeps S w w') (h : ∀ (q : Nat) (cs : Array Value) (t : TypeId) (z : Nat × Nat), w.heap[q]? = some (Obj.cells cs t z) → (t = 117 ∨ t = 103) → q ∉ S) : StillP w w' := fun q cs t z hq ht => k.at_ hq (h q cs t z hq ht)

theorem StillP.trans {a w w' : World} (h : StillP a w) (h2 : StillP w w') : StillP a w' := fun q cs t z hq ht => h2 q cs t z (h q cs t z hq ht) ht

instance go1Still {w w' : World} (a : World) : Go1 w w' (StillP a w) (StillP a w') := ⟨fun k h => h.trans (still_of k (fun _ _ _ _ _ _ => by simp))⟩

theorem kst_after {b a w w' : World} {y : Nat} {oy : Obj} (K : Keeps [] b w ∧ StillP a w) (k : Keeps [y] w w') (hy : w.heap[y]? = some oy) (ho : ∀ cs t z, oy = .cells cs t z → t ≠ 117 ∧ t ≠ 103) (hb : b.heap.size ≤ y) : Keeps [] b w' ∧ StillP a w' :=
  ⟨K.1.after k (fun q hq => .inr (by rw [show q = y from (by simpa using hq)]; exact hb)), K.2.trans (still_of k (fun q cs t z hq ht hm => by
    obtain rfl : q = y := by simpa using hm
    rw [hq] at hy
    injection hy with hy
    have := ho cs t z hy.symm
    rcases ht with rfl | rfl
    · exact this.1 rfl
    · exact this.2 rfl))⟩

theorem kst_afterM {b a w w' : World} {y : Nat} {m : KV} (K : Keeps [] b w ∧ StillP a w) (k : Keeps [y] w w') (hy : MapAt w y m) (hb : b.heap.size ≤ y) : Keeps [] b w' ∧ StillP a w' :=
  ⟨K.1.after k (fun q hq => .inr (by rw [show q = y from (by simpa using hq)]; exact hb)), K.2.trans (still_of k (fun q cs t z hq ht hm => hy.ne hq (by simpa using hm)))⟩

/-- The head of one series, n samples in it. -/
def HeadN (b w : World) (h : Nat) (n : Nat) (xs : List Value) (top : Int) : Prop :=
  ∃ rb ob x sb lb va, HeadC w h 5 50 10 rb ob x 2 n 0 top ∧ MapAt w rb [(keyB, .int .i64 1)] ∧ One w ob sb ∧ w.heap[sb]? = some (.cells #[lb, va, .int .i64 top] 147 (0, 0)) ∧ w.ownsRow b.heap.size 101 2 va n xs ∧ Keeps [] b w ∧ b.heap.size ≤ h ∧ b.heap.size ≤ sb


set_option linter.unusedSimpArgs false in
set_option maxRecDepth 100000 in
set_option maxHeartbeats 1000000 in
theorem addOld_spec (b w : World) (h : Nat) (g c : Nat) (cur : Array Value) (hb : w.heap[g]? = some (.cells cur 117 (0, 0))) (h0 : cur[0]? = some (.string ⟨#[97]⟩)) (h1 : cur[1]? = some (.string ⟨#[49]⟩))
    (hh : HeadN b w h 1 [.int .i64 3, .int .u64 0] 3) :
    Calls Tryd.prog 79 #[.pointer (some ⟨h, 0, none⟩), .agg #[.slice (some ⟨g, 0, none⟩) 1 c, .int .i64 25, .int .u64 0]] w fun e w' => e = .returned (.int .i64 1) ∧ HeadN b w' h 2 [.int .i64 3, .int .u64 0, .int .i64 25, .int .u64 0] 25 ∧ StillP w w' := by
  obtain ⟨isa, hisa, hs0, hs1, hs2⟩ := info_parts infoSamp
  obtain ⟨rb, ob, x, sb, lb, va, hhc, hmr, hob, hsb, hva, hkb, hbb⟩ := hh
  have Hb := Lib.hid hbb
  have hp := heap_new w (.cells #[.slice (some ⟨g, 0, none⟩) 1 c, .int .i64 25, .int .u64 0] 103)
  have kp : Keeps [] w (w.alloc (.cells #[.slice (some ⟨g, 0, none⟩) 1 c, .int .i64 25, .int .u64 0] 103)) := (Keeps.refl [] w).alloc _
  have H0 := Lib.hid (And.intro (kp.at_ hb (by simp)) (And.intro hp (go1 kp (And.intro hhc (And.intro hmr (And.intro hob (And.intro hsb (And.intro hva (And.intro hkb (show StillP w w from fun _ _ _ _ h _ => h))))))))))
  clear hp kp hhc hmr hob hsb hva hkb hbb
  go_enter Tryd.func79, Tryd.ntmps79
  go_wp2_with fail
  refine (key1_spec _ g c cur H0.out.1 h0 h1).mono ?_
  rintro e w1 ⟨rfl, hk1⟩
  have HT := Lib.hid (go1 hk1 H0.out.2)
  clear hk1 H0 hb
  generalize w.heap.size = pk at HT ⊢
  have q2 : (Instr.lookup 92 (.map (some rb)) (.string keyB) true).run Tryd.prog w1 = .ok (.tuple #[.int .i64 1, .bool true]) w1 := (HT.out.2.2.1.run_lookup Tryd.underlying92 Tryd.underlying9 (zeroI w1) keyB true).trans (by simp [lookVal, look])
  have c3 : w1.cell? ⟨h, 3, none⟩ = some (.map (some rb)) := cells_at HT.out.2.1 3
  have l3 := lt_of_at HT.out.2.1
  go_upto_region 9 with fail
  clear q2 c3 l3

  have q1 := run_one HT.out.2.2.2.1
  have c4 : w1.cell? ⟨h, 4, none⟩ = some (.map (some ob)) := cells_at HT.out.2.1 4
  obtain ⟨W9, hW9⟩ : ∃ W9, W9 = w1.drew := ⟨_, rfl⟩
  have k9 : Keeps [] w1 W9 := by rw [hW9]; exact (Keeps.refl [] w1).drew
  have H9 := Lib.hid (go1 k9 HT.out)
  have HW := Lib.hid hW9
  clear hW9 k9
  go_upto_region 10 with fail
  clear q1 c4
  have s1 : W9.cell? ⟨sb, 1, none⟩ = some (va) := cells_at H9.out.2.2.2.2.1 1
  have s2 : W9.cell? ⟨pk, 1, none⟩ = some (.int .i64 25) := cells_at H9.out.1 1
  have s3 : W9.cell? ⟨pk, 2, none⟩ = some (.int .u64 0) := cells_at H9.out.1 2
  refine wp_region_last_n 11 (fun w' => w'.cell? ⟨sb, 1, none⟩ = some (va) ∧ w'.cell? ⟨pk, 1, none⟩ = some (.int .i64 25) ∧ w'.cell? ⟨pk, 2, none⟩ = some (.int .u64 0)) (by kernel_rfl) (by kernel_rfl) (by kernel_rfl) ?_
  rw [← HW.out]
  have hS : W9.cell? ⟨sb, 1, none⟩ = some (va) ∧ W9.cell? ⟨pk, 1, none⟩ = some (.int .i64 25) ∧ W9.cell? ⟨pk, 2, none⟩ = some (.int .u64 0) := ⟨s1, s2, s3⟩
  simp only [List.take_succ_cons, List.take_zero, List.toList_toArray]
  clear s1 s2 s3
  refine wpAnyH_take (i := 0) (v := ?_) rfl (by kernel_rfl) (by kernel_rfl) (by kernel_rfl) (fun _ _ _ h => h) (Or.inl ⟨by rfl, ?_⟩) (by assumption) ?_
  rotate_left
  · intro w' hSw; obtain ⟨s1, s2, s3⟩ := hSw; go_simp; (try with_reducible rfl)
  simp only [Act.put, List.getElem_toArray, List.getElem_cons_succ, List.getElem_cons_zero, List.setIfInBounds_toArray, List.set_cons_zero, List.set_cons_succ]
  refine wpAnyH_take (i := 1) (v := ?_) rfl (by kernel_rfl) (by kernel_rfl) (by kernel_rfl) (fun _ _ _ h => h) (Or.inl ⟨by rfl, ?_⟩) (by assumption) ?_
  rotate_left
  · intro w' hSw; obtain ⟨s1, s2, s3⟩ := hSw; go_simp; (try with_reducible rfl)
  simp only [Act.put, List.getElem_toArray, List.getElem_cons_succ, List.getElem_cons_zero, List.setIfInBounds_toArray, List.set_cons_zero, List.set_cons_succ]
  refine wpAnyH_take (i := 2) (v := ?_) rfl (by kernel_rfl) (by kernel_rfl) (by kernel_rfl) (fun _ _ _ h => h) (Or.inl ⟨by rfl, ?_⟩) (by assumption) ?_
  rotate_left
  · intro w' hSw; obtain ⟨s1, s2, s3⟩ := hSw; go_simp; (try with_reducible rfl)
  simp only [Act.put, List.getElem_toArray, List.getElem_cons_succ, List.getElem_cons_zero, List.setIfInBounds_toArray, List.set_cons_zero, List.set_cons_succ]
  refine wpAnyH_take (i := 3) (v := ?_) rfl (by kernel_rfl) (by kernel_rfl) (by kernel_rfl) (fun _ _ _ h => h) (Or.inl ⟨by rfl, ?_⟩) (by assumption) ?_
  rotate_left
  · intro w' hSw; obtain ⟨s1, s2, s3⟩ := hSw; go_simp; (try with_reducible rfl)
  simp only [Act.put, List.getElem_toArray, List.getElem_cons_succ, List.getElem_cons_zero, List.setIfInBounds_toArray, List.set_cons_zero, List.set_cons_succ]
  refine wpAnyH_take (i := 4) (v := ?_) rfl (by kernel_rfl) (by kernel_rfl) (by kernel_rfl) (fun _ _ _ h => h) (Or.inl ⟨by rfl, ?_⟩) (by assumption) ?_
  rotate_left
  · intro w' hSw; obtain ⟨s1, s2, s3⟩ := hSw; go_simp; (try with_reducible rfl)
  simp only [Act.put, List.getElem_toArray, List.getElem_cons_succ, List.getElem_cons_zero, List.setIfInBounds_toArray, List.set_cons_zero, List.set_cons_succ]
  refine wpAnyH_take (i := 5) (v := ?_) rfl (by kernel_rfl) (by kernel_rfl) (by kernel_rfl) (fun _ _ _ h => h) (Or.inl ⟨by rfl, ?_⟩) (by assumption) ?_
  rotate_left
  · intro w' hSw; obtain ⟨s1, s2, s3⟩ := hSw; go_simp; (try with_reducible rfl)
  simp only [Act.put, List.getElem_toArray, List.getElem_cons_succ, List.getElem_cons_zero, List.setIfInBounds_toArray, List.set_cons_zero, List.set_cons_succ]
  refine wpAnyH_take (i := 6) (v := ?_) rfl (by kernel_rfl) (by kernel_rfl) (by kernel_rfl) (fun _ _ _ h => h) (Or.inl ⟨by rfl, ?_⟩) (by assumption) ?_
  rotate_left
  · intro w' hSw; obtain ⟨s1, s2, s3⟩ := hSw; go_simp; (try with_reducible rfl)
  simp only [Act.put, List.getElem_toArray, List.getElem_cons_succ, List.getElem_cons_zero, List.setIfInBounds_toArray, List.set_cons_zero, List.set_cons_succ]
  refine wpAnyH_ready (rs := [7]) (by kernel_rfl) (by simp) ?_
  refine AllReadyH.cons rfl (fun K hK => ?_) AllReadyH.nil
  go_simp
  have kA : Keeps [] W9 (W9.alloc (.cells #[.int .i64 25, .int .u64 0] 101)) := (Keeps.refl [] W9).alloc _
  have HA := Lib.hid (And.intro (heap_new W9 (.cells #[.int .i64 25, .int .u64 0] 101)) (go1 kA H9.out))
  clear kA
  generalize W9.heap.size = nb at HA ⊢
  generalize W9.alloc (.cells #[.int .i64 25, .int .u64 0] 101) = A1 at HA ⊢
  go_simp
  refine hK.out _ _ ⟨cells_at HA.out.2.2.2.2.2.1 1, cells_at HA.out.2.1 1, cells_at HA.out.2.1 2⟩ (fun hS => ?_)
  clear hK K
  try simp only [Act.put, List.getElem_toArray, List.getElem_cons_succ, List.getElem_cons_zero, List.setIfInBounds_toArray, List.set_cons_zero, List.set_cons_succ]
  refine wpAnyH_ready (rs := [8]) (by kernel_rfl) (by simp) ?_
  refine AllReadyH.cons rfl (fun K hK => ?_) AllReadyH.nil
  refine step_app rfl (.tmp 68) (.tmp 71) 145 rfl b.heap.size 101 isa _ 2 16 Tryd.underlying145 hisa hs0 hs1 hs2 rfl (by decide) (va) 1 [.int .i64 3, .int .u64 0] rfl HA.out.2.2.2.2.2.2.1 ⟨nb, 0, none⟩ 1 1 [.int .i64 25, .int .u64 0] rfl rfl (news_samp HA.out.1) (by simp [Value.oneCell']) (by decide) (by decide) HA.out.2.2.2.2.2.2.2.1.size ?_
  intro v5 A2 hown5 hgrow5 hnil5
  clear hnil5
  replace hown5 : A2.ownsRow b.heap.size 101 2 v5 2 ([.int .i64 3, .int .u64 0] ++ [.int .i64 25, .int .u64 0]) := hown5
  obtain ⟨ao5, cp5, rfl, -, -, -⟩ := row_slice hown5
  have k5 := keeps_row hgrow5
  have hN := HA.out.2.2.2.2.2.2.1
  have t1 := k5.at_ HA.out.2.1 (fun hm => row_ne_cells hN HA.out.2.1 (by decide) _ (by simpa using hm) rfl)
  have t2 := k5.at_ HA.out.2.2.1 (fun hm => row_ne_cells hN HA.out.2.2.1 (by decide) _ (by simpa using hm) rfl)
  have t3 := HA.out.2.2.2.1.keep k5 (fun hm => row_ne_map hN HA.out.2.2.2.1 _ (by simpa using hm) rfl)
  have t4 : One A2 ob sb := k5.at_ HA.out.2.2.2.2.1 (fun hm => row_ne_obj hN HA.out.2.2.2.2.1 (by simp) _ (by simpa using hm) rfl)
  have t5 := k5.at_ HA.out.2.2.2.2.2.1 (fun hm => row_ne_cells hN HA.out.2.2.2.2.2.1 (by decide) _ (by simpa using hm) rfl)
  have t7 := And.intro (keeps_own HA.out.2.2.2.2.2.2.2.1 hgrow5 (fun q hq => (World.ownsRow.lt hN q hq).1)) (HA.out.2.2.2.2.2.2.2.2.trans (still_of k5 (fun q cs t z hq ht hm => row_ne_cells hN hq (by rcases ht with rfl | rfl <;> decide) _ (by simpa using hm) rfl)))
  have HB := Lib.hid (And.intro t1 (And.intro t2 (And.intro t3 (And.intro t4 (And.intro t5 (And.intro hown5 t7))))))
  clear t1 t2 t3 t4 t5 t7 hown5 hgrow5 k5 hN HA H9 HT
  refine hK.out _ _ ⟨cells_at HB.out.2.2.2.2.1 1, cells_at HB.out.1 1, cells_at HB.out.1 2⟩ (fun hS => ?_)
  clear hK K
  try simp only [Act.put, List.getElem_toArray, List.getElem_cons_succ, List.getElem_cons_zero, List.setIfInBounds_toArray, List.set_cons_zero, List.set_cons_succ]
  refine wpAnyH_take (i := 9) (v := ?_) rfl (by kernel_rfl) (by kernel_rfl) (by kernel_rfl) (fun _ _ _ h => h) (Or.inl ⟨by rfl, ?_⟩) (by assumption) ?_
  rotate_left
  · intro w' hSw; obtain ⟨s1, s2, s3⟩ := hSw; go_simp; (try with_reducible rfl)
  simp only [Act.put, List.getElem_toArray, List.getElem_cons_succ, List.getElem_cons_zero, List.setIfInBounds_toArray, List.set_cons_zero, List.set_cons_succ]
  refine wpAnyH_take (i := 10) (v := ?_) rfl (by kernel_rfl) (by kernel_rfl) (by kernel_rfl) (fun _ _ _ h => h) (Or.inl ⟨by rfl, ?_⟩) (by assumption) ?_
  rotate_left
  · intro w' hSw; obtain ⟨s1, s2, s3⟩ := hSw; go_simp; (try with_reducible rfl)
  simp only [Act.put, List.getElem_toArray, List.getElem_cons_succ, List.getElem_cons_zero, List.setIfInBounds_toArray, List.set_cons_zero, List.set_cons_succ]
  have c5 := free_at HB.out.2.2.2.2.1
  have l5 := lt_of_at HB.out.2.2.2.2.1
  have v5c : A2.cell? ⟨sb, 1, none⟩ = some (va) := cells_at HB.out.2.2.2.2.1 1
  refine wpAnyH_done (by kernel_rfl) ?_ _
  refine lastQ_step rfl (fun K hK => ?_)
  go_simp
  refine hK _ _ ?_
  clear hK K
  clear c5 l5 v5c hS HW
  have kS : Keeps [sb] A2 (A2.setCell ⟨sb, 1, none⟩ (.slice ao5 2 cp5)) := (Keeps.refl _ A2).setCell (.inl (by simp)) _
  have n5 : (A2.setCell ⟨sb, 1, none⟩ (.slice ao5 2 cp5)).heap[sb]? = some (.cells #[lb, .slice ao5 2 cp5, .int .i64 3] 147 (0, 0)) := (heap_cell_same (i := 1) HB.out.2.2.2.2.1 (.slice ao5 2 cp5)).trans (by simp)
  have HC := Lib.hid (And.intro (at_but kS HB.out.1 HB.out.2.2.2.2.1 (by simp)) (And.intro (at_but kS HB.out.2.1 HB.out.2.2.2.2.1 (by simp)) (And.intro (HB.out.2.2.1.keep kS (by simpa using fun e => HB.out.2.2.1.ne HB.out.2.2.2.2.1 e.symm)) (And.intro (show One _ ob sb from at_but kS HB.out.2.2.2.1 HB.out.2.2.2.2.1 (by simp)) (And.intro n5 (And.intro (kS.row HB.out.2.2.2.2.2.1 (fun q hq => by simpa using row_ne_cells HB.out.2.2.2.2.2.1 HB.out.2.2.2.2.1 (by decide) q hq)) (kst_after HB.out.2.2.2.2.2.2 kS HB.out.2.2.2.2.1 (by intro _ _ _ e; cases e <;> decide) Hb.out.2)))))))
  clear kS n5 HB
  generalize A2.setCell ⟨sb, 1, none⟩ (.slice ao5 2 cp5) = A3 at HC ⊢
  have p1 : A3.cell? ⟨pk, 1, none⟩ = some (.int .i64 25) := cells_at HC.out.1 1
  have c5 := free_at HC.out.2.2.2.2.1
  have l5 := lt_of_at HC.out.2.2.2.2.1
  have v5c : A3.cell? ⟨sb, 2, none⟩ = some (.int .i64 3) := cells_at HC.out.2.2.2.2.1 2
  have kS : Keeps [sb] A3 (A3.setCell ⟨sb, 2, none⟩ (.int .i64 25)) := (Keeps.refl _ A3).setCell (.inl (by simp)) _
  have n5 : (A3.setCell ⟨sb, 2, none⟩ (.int .i64 25)).heap[sb]? = some (.cells #[lb, .slice ao5 2 cp5, .int .i64 25] 147 (0, 0)) := (heap_cell_same (i := 2) HC.out.2.2.2.2.1 (.int .i64 25)).trans (by simp)
  have HD := Lib.hid (And.intro (at_but kS HC.out.1 HC.out.2.2.2.2.1 (by simp)) (And.intro (at_but kS HC.out.2.1 HC.out.2.2.2.2.1 (by simp)) (And.intro (HC.out.2.2.1.keep kS (by simpa using fun e => HC.out.2.2.1.ne HC.out.2.2.2.2.1 e.symm)) (And.intro (show One _ ob sb from at_but kS HC.out.2.2.2.1 HC.out.2.2.2.2.1 (by simp)) (And.intro n5 (And.intro (kS.row HC.out.2.2.2.2.2.1 (fun q hq => by simpa using row_ne_cells HC.out.2.2.2.2.2.1 HC.out.2.2.2.2.1 (by decide) q hq)) (kst_after HC.out.2.2.2.2.2.2 kS HC.out.2.2.2.2.1 (by intro _ _ _ e; cases e <;> decide) Hb.out.2)))))))
  clear kS n5 HC
  obtain ⟨A4, hA4⟩ : ∃ A4, A4 = A3.setCell ⟨sb, 2, none⟩ (.int .i64 25) := ⟨_, rfl⟩
  rw [← hA4] at HD
  obtain ⟨A5, hA5⟩ : ∃ A5, A5 = A4.drew := ⟨_, rfl⟩
  have k9 : Keeps [] A4 A5 := by rw [hA5]; exact (Keeps.refl [] A4).drew
  have HE := Lib.hid (go1 k9 HD.out)
  have HW := Lib.hid (hA5.trans (by rw [hA4]))
  clear hA5 hA4 k9 HD
  go_upto_region 12 with fail
  clear p1 c5 l5 v5c
  have F0 : ∀ s : Kept A5, s.val.cell? ⟨h, 9, none⟩ = some (.int .i64 3) := keptCell (cells_at HE.out.2.1 9)
  have F1 : ∀ s : Kept A5, s.val.cell? ⟨pk, 1, none⟩ = some (.int .i64 25) := keptCell (cells_at HE.out.1 1)
  refine wp_region_last_n 11 (KeptS A5) (by kernel_rfl) (by kernel_rfl) (by kernel_rfl) ?_
  rw [← HW.out]
  have hS : KeptS A5 A5 := keptS (Keeps.refl _ _)
  simp only [List.take_succ_cons, List.take_zero, List.toList_toArray]
  refine wpAnyH_take (i := 0) (v := ?_) rfl (by kernel_rfl) (by kernel_rfl) (by kernel_rfl) (fun _ _ _ h => h) (Or.inl ⟨by rfl, ?_⟩) (by assumption) ?_
  rotate_left
  · intro w' s1; obtain ⟨s, rfl⟩ := s1; go_simp; (try with_reducible rfl)
  simp only [Act.put, List.getElem_toArray, List.getElem_cons_succ, List.getElem_cons_zero, List.setIfInBounds_toArray, List.set_cons_zero, List.set_cons_succ]
  refine wpAnyH_take (i := 1) (v := ?_) rfl (by kernel_rfl) (by kernel_rfl) (by kernel_rfl) (fun _ _ _ h => h) (Or.inl ⟨by rfl, ?_⟩) (by assumption) ?_
  rotate_left
  · intro w' s1; obtain ⟨s, rfl⟩ := s1; go_simp; (try with_reducible rfl)
  simp only [Act.put, List.getElem_toArray, List.getElem_cons_succ, List.getElem_cons_zero, List.setIfInBounds_toArray, List.set_cons_zero, List.set_cons_succ]
  refine wpAnyH_take (i := 2) (v := ?_) rfl (by kernel_rfl) (by kernel_rfl) (by kernel_rfl) (fun _ _ _ h => h) (Or.inl ⟨by rfl, ?_⟩) (by assumption) ?_
  rotate_left
  · intro w' s1; obtain ⟨s, rfl⟩ := s1; go_simp; (try with_reducible rfl)
  simp only [Act.put, List.getElem_toArray, List.getElem_cons_succ, List.getElem_cons_zero, List.setIfInBounds_toArray, List.set_cons_zero, List.set_cons_succ]
  refine wpAnyH_take (i := 3) (v := ?_) rfl (by kernel_rfl) (by kernel_rfl) (by kernel_rfl) (fun _ _ _ h => h) (Or.inl ⟨by rfl, ?_⟩) (by assumption) ?_
  rotate_left
  · intro w' s1; obtain ⟨s, rfl⟩ := s1; go_simp; (try with_reducible rfl)
  simp only [Act.put, List.getElem_toArray, List.getElem_cons_succ, List.getElem_cons_zero, List.setIfInBounds_toArray, List.set_cons_zero, List.set_cons_succ]
  refine wpAnyH_take (i := 4) (v := ?_) rfl (by kernel_rfl) (by kernel_rfl) (by kernel_rfl) (fun _ _ _ h => h) (Or.inl ⟨by rfl, ?_⟩) (by assumption) ?_
  rotate_left
  · intro w' s1; obtain ⟨s, rfl⟩ := s1; go_simp; (try with_reducible rfl)
  simp only [Act.put, List.getElem_toArray, List.getElem_cons_succ, List.getElem_cons_zero, List.setIfInBounds_toArray, List.set_cons_zero, List.set_cons_succ]
  refine wpAnyH_take (i := 5) (v := ?_) rfl (by kernel_rfl) (by kernel_rfl) (by kernel_rfl) (fun _ _ _ h => h) (Or.inl ⟨by rfl, ?_⟩) (by assumption) ?_
  rotate_left
  · intro w' s1; obtain ⟨s, rfl⟩ := s1; go_simp; (try with_reducible rfl)
  simp only [Act.put, List.getElem_toArray, List.getElem_cons_succ, List.getElem_cons_zero, List.setIfInBounds_toArray, List.set_cons_zero, List.set_cons_succ]
  refine wpAnyH_take (i := 6) (v := ?_) rfl (by kernel_rfl) (by kernel_rfl) (by kernel_rfl) (fun _ _ _ h => h) (Or.inl ⟨by rfl, ?_⟩) (by assumption) ?_
  rotate_left
  · intro w' s1; obtain ⟨s, rfl⟩ := s1; go_simp; (try with_reducible rfl)
  simp only [Act.put, List.getElem_toArray, List.getElem_cons_succ, List.getElem_cons_zero, List.setIfInBounds_toArray, List.set_cons_zero, List.set_cons_succ]
  refine wpAnyH_take (i := 7) (v := ?_) rfl (by kernel_rfl) (by kernel_rfl) (by kernel_rfl) (fun _ _ _ h => h) (Or.inl ⟨by rfl, ?_⟩) (by assumption) ?_
  rotate_left
  · intro w' s1; obtain ⟨s, rfl⟩ := s1; go_simp; (try with_reducible rfl)
  simp only [Act.put, List.getElem_toArray, List.getElem_cons_succ, List.getElem_cons_zero, List.setIfInBounds_toArray, List.set_cons_zero, List.set_cons_succ]
  refine wpAnyH_ready (rs := [8]) (by kernel_rfl) (by simp) ?_
  refine AllReadyH.cons rfl (fun K hK => ?_) AllReadyH.nil
  go_simp
  go_simp
  refine hK.out _ _ (keptS (Keeps.refl [] A5)) (fun hS => ?_)
  clear hK K
  try simp only [Act.put, List.getElem_toArray, List.getElem_cons_succ, List.getElem_cons_zero, List.setIfInBounds_toArray, List.set_cons_zero, List.set_cons_succ]
  refine wpAnyH_take (i := 9) (v := ?_) rfl (by kernel_rfl) (by kernel_rfl) (by kernel_rfl) (fun _ _ _ h => h) (Or.inl ⟨by rfl, ?_⟩) (by assumption) ?_
  rotate_left
  · intro w' s1; obtain ⟨s, rfl⟩ := s1; go_simp; (try with_reducible rfl)
  simp only [Act.put, List.getElem_toArray, List.getElem_cons_succ, List.getElem_cons_zero, List.setIfInBounds_toArray, List.set_cons_zero, List.set_cons_succ]
  refine wpAnyH_take (i := 10) (v := ?_) rfl (by kernel_rfl) (by kernel_rfl) (by kernel_rfl) (fun _ _ _ h => h) (Or.inl ⟨by rfl, ?_⟩) (by assumption) ?_
  rotate_left
  · intro w' s1; obtain ⟨s, rfl⟩ := s1; go_simp; (try with_reducible rfl)
  simp only [Act.put, List.getElem_toArray, List.getElem_cons_succ, List.getElem_cons_zero, List.setIfInBounds_toArray, List.set_cons_zero, List.set_cons_succ]
  have c5 := free_at HE.out.2.1
  have l5 := lt_of_at HE.out.2.1
  have v5c : A5.cell? ⟨h, 9, none⟩ = some (.int .i64 3) := cells_at HE.out.2.1 9
  refine wpAnyH_done (by kernel_rfl) ?_ _
  refine lastQ_step rfl (fun K hK => ?_)
  go_simp
  refine hK _ _ ?_
  clear hK K
  clear c5 l5 v5c hS HW F0 F1
  have kH : Keeps [h] A5 (A5.setCell ⟨h, 9, none⟩ (.int .i64 25)) := (Keeps.refl _ A5).setCell (.inl (by simp)) _
  have n5 : HeadC (A5.setCell ⟨h, 9, none⟩ (.int .i64 25)) h 5 50 10 rb ob x 2 1 0 25 := (heap_cell_same (i := 9) HE.out.2.1 (.int .i64 25)).trans (by simp)
  have HF := Lib.hid (And.intro n5 (And.intro (HE.out.2.2.1.keep kH (by simpa using fun e => HE.out.2.2.1.ne HE.out.2.1 e.symm)) (And.intro (show One _ ob sb from at_but kH HE.out.2.2.2.1 HE.out.2.1 (by simp)) (And.intro (at_but kH HE.out.2.2.2.2.1 HE.out.2.1 (by simp)) (And.intro (kH.row HE.out.2.2.2.2.2.1 (fun q hq => by simpa using row_ne_cells HE.out.2.2.2.2.2.1 HE.out.2.1 (by decide) q hq)) (kst_after HE.out.2.2.2.2.2.2 kH HE.out.2.1 (by intro _ _ _ e; cases e <;> decide) Hb.out.1))))))
  clear kH n5 HE
  simp only [show (max (3 : Int) 25) = 25 from by decide]
  generalize A5.setCell ⟨h, 9, none⟩ (.int .i64 25) = A6 at HF ⊢
  have c5 := free_at HF.out.1
  have l5 := lt_of_at HF.out.1
  have v5c : A6.cell? ⟨h, 7, none⟩ = some (.int .i64 1) := cells_at HF.out.1 7
  have kH : Keeps [h] A6 (A6.setCell ⟨h, 7, none⟩ (.int .i64 2)) := (Keeps.refl _ A6).setCell (.inl (by simp)) _
  have n5 : HeadC (A6.setCell ⟨h, 7, none⟩ (.int .i64 2)) h 5 50 10 rb ob x 2 2 0 25 := (heap_cell_same (i := 7) HF.out.1 (.int .i64 2)).trans (by simp)
  have HG := Lib.hid (And.intro (show HeadC _ h 5 50 10 rb ob x 2 2 0 25 from n5) (And.intro (HF.out.2.1.keep kH (by simpa using fun e => HF.out.2.1.ne HF.out.1 e.symm)) (And.intro (show One _ ob sb from at_but kH HF.out.2.2.1 HF.out.1 (by simp)) (And.intro (at_but kH HF.out.2.2.2.1 HF.out.1 (by simp)) (And.intro (kH.row HF.out.2.2.2.2.1 (fun q hq => by simpa using row_ne_cells HF.out.2.2.2.2.1 HF.out.1 (by decide) q hq)) (kst_after HF.out.2.2.2.2.2 kH HF.out.1 (by intro _ _ _ e; cases e <;> decide) Hb.out.1))))))
  clear kH n5 HF
  go_wp2_with fail
  go_ret
  exact ⟨rfl, ⟨rb, ob, x, sb, lb, .slice ao5 2 cp5, HG.out.1, HG.out.2.1, HG.out.2.2.1, HG.out.2.2.2.1, HG.out.2.2.2.2.1, HG.out.2.2.2.2.2.1, Hb.out⟩, HG.out.2.2.2.2.2.2⟩


theorem nin2 {a x y : Nat} (h1 : a ≠ x) (h2 : a ≠ y) : a ∉ [x, y] := by simp [h1, h2]

set_option linter.unusedSimpArgs false in
set_option maxRecDepth 100000 in
set_option maxHeartbeats 1000000 in
theorem addNew_spec (b w : World) (h : Nat) (g c : Nat) (cur : Array Value) (hc1 : 1 ≤ c) (hcm : c ≤ maxLen) (hcs : cur.size = c * 2) (hb : w.heap[g]? = some (.cells cur 117 (0, 0))) (h0 : cur[0]? = some (.string ⟨#[97]⟩)) (h1 : cur[1]? = some (.string ⟨#[49]⟩))
    (hh : Head0 b.heap.size w h 5 50 10) (hkb : Keeps [] b w) (hbh : b.heap.size ≤ h) :
    Calls Tryd.prog 79 #[.pointer (some ⟨h, 0, none⟩), .agg #[.slice (some ⟨g, 0, none⟩) 1 c, .int .i64 3, .int .u64 0]] w fun e w' => e = .returned (.int .i64 1) ∧ HeadN b w' h 1 [.int .i64 3, .int .u64 0] 3 ∧ StillP w w' := by
  obtain ⟨isa, hisa, hs0, hs1, hs2⟩ := info_parts infoSamp
  obtain ⟨rb, ob, x, mb, hhc, hmr, hob, hix, hmm, n1, n2, n3, l1, l2, l3, l4⟩ := hh
  have Hset : ∀ {W : World}, W.heap[g]? = some (.cells cur 117 (0, 0)) → Set1 0 W (.slice (some ⟨g, 0, none⟩) 1 c) := fun hg => ⟨g, c, cur, rfl, Nat.zero_le _, hc1, hcm, hg, hcs, h0, h1⟩
  have hp := heap_new w (.cells #[.slice (some ⟨g, 0, none⟩) 1 c, .int .i64 3, .int .u64 0] 103)
  have kp : Keeps [] w (w.alloc (.cells #[.slice (some ⟨g, 0, none⟩) 1 c, .int .i64 3, .int .u64 0] 103)) := (Keeps.refl [] w).alloc _
  have H0 := Lib.hid (And.intro (kp.at_ hb (by simp)) (And.intro hp (go1 kp (And.intro hhc (And.intro hmr (And.intro hob (And.intro hix (And.intro hmm (And.intro hkb (show StillP w w from fun _ _ _ _ h _ => h))))))))))
  clear hp kp hhc hmr hob hix hmm hkb
  go_enter Tryd.func79, Tryd.ntmps79
  go_wp2_with fail
  refine (key1_spec _ g c cur H0.out.1 h0 h1).mono ?_
  rintro e w1 ⟨rfl, hk1⟩
  have H1 := Lib.hid (go1 hk1 H0.out)
  clear hk1 H0 hb
  generalize w.heap.size = pk at H1 ⊢
  have q2 : (Instr.lookup 92 (.map (some rb)) (.string keyB) true).run Tryd.prog w1 = .ok (.tuple #[.int .i64 0, .bool false]) w1 := (H1.out.2.2.2.1.run_lookup Tryd.underlying92 Tryd.underlying9 (zeroI w1) keyB true).trans (by simp [lookVal, look])
  have c3 : w1.cell? ⟨h, 3, none⟩ = some (.map (some rb)) := cells_at H1.out.2.2.1 3
  have c6 : w1.cell? ⟨h, 6, none⟩ = some (.int .i64 1) := cells_at H1.out.2.2.1 6
  have f3 := free_at H1.out.2.2.1
  have l0 := lt_of_at H1.out.2.2.1
  go_upto_region 6 with fail
  clear q2 c3 c6 f3 l0
  have kH : Keeps [h] w1 (w1.setCell ⟨h, 6, none⟩ (.int .i64 2)) := (Keeps.refl _ w1).setCell (.inl (by simp)) _
  have n5 : HeadC (w1.setCell ⟨h, 6, none⟩ (.int .i64 2)) h 5 50 10 rb ob x 2 0 0 (-1) := (heap_cell_same (i := 6) H1.out.2.2.1 (.int .i64 2)).trans (by simp)
  have H2 := Lib.hid (And.intro (at_but kH H1.out.1 H1.out.2.2.1 (by simp)) (And.intro (at_but kH H1.out.2.1 H1.out.2.2.1 (by simp)) (And.intro n5 (And.intro (H1.out.2.2.2.1.keep kH (by simpa using fun e => H1.out.2.2.2.1.ne H1.out.2.2.1 e.symm)) (And.intro (at_but kH H1.out.2.2.2.2.1 H1.out.2.2.1 (by simp)) (And.intro (show IxAt _ x mb _ from at_but kH H1.out.2.2.2.2.2.1 H1.out.2.2.1 (by simp)) (And.intro (H1.out.2.2.2.2.2.2.1.keep kH (by simpa using fun e => H1.out.2.2.2.2.2.2.1.ne H1.out.2.2.1 e.symm)) (kst_after H1.out.2.2.2.2.2.2.2 kH H1.out.2.2.1 (by intro _ _ _ e; cases e <;> decide) hbh))))))))
  clear kH n5 H1
  generalize w1.setCell ⟨h, 6, none⟩ (.int .i64 2) = w2 at H2 ⊢
  have c3 : w2.cell? ⟨h, 3, none⟩ = some (.map (some rb)) := cells_at H2.out.2.2.1 3
  go_upto_region 7 with (refine wpList_update_str _ rfl (.tmp 37) (.tmp 38) (.tmp 39) _ _ _ rfl Tryd.underlying92 Tryd.underlying9 rb [] keyB (.int .i64 1) (by rfl) (by rfl) (by rfl) H2.out.2.2.2.1 ?_; intro w3 hm3 hk3)
  clear c3
  have hm2 := H2.out.2.2.2.1
  have H3 := Lib.hid (And.intro (hk3.at_ H2.out.1 (by simpa using hm2.ne H2.out.1)) (And.intro (hk3.at_ H2.out.2.1 (by simpa using hm2.ne H2.out.2.1)) (And.intro (show HeadC w3 h 5 50 10 rb ob x 2 0 0 (-1) from hk3.at_ H2.out.2.2.1 (by simpa using hm2.ne H2.out.2.2.1)) (And.intro (show MapAt w3 rb [(keyB, .int .i64 1)] from hm3) (And.intro (hk3.at_ H2.out.2.2.2.2.1 (by simpa using fun e : ob = rb => n1 e.symm)) (And.intro (show IxAt w3 x mb _ from hk3.at_ H2.out.2.2.2.2.2.1 (by simpa using hm2.ne H2.out.2.2.2.2.2.1)) (And.intro (H2.out.2.2.2.2.2.2.1.keep hk3 (by simpa using fun e : mb = rb => n2 e.symm)) (kst_afterM H2.out.2.2.2.2.2.2.2 hk3 hm2 l1))))))))
  clear hm2 hm3 hk3 H2
  obtain ⟨W4, hW4⟩ : ∃ W4, W4 = w3.drew := ⟨_, rfl⟩
  have k9 : Keeps [] w3 W4 := by rw [hW4]; exact (Keeps.refl [] w3).drew
  have H4 := Lib.hid (go1 k9 H3.out)
  have HW := Lib.hid hW4
  clear hW4 k9 H3
  have F0 : ∀ s : Kept W4, s.val.cell? ⟨h, 4, none⟩ = some (.map (some ob)) := keptCell (cells_at H4.out.2.2.1 4)
  have F1 : ∀ s : Kept W4, s.val.cell? ⟨pk, 0, none⟩ = some (.slice (some ⟨g, 0, none⟩) 1 c) := keptCell (cells_at H4.out.2.1 0)
  refine wp_region_last_n 10 (KeptS W4) (by kernel_rfl) (by kernel_rfl) (by kernel_rfl) ?_
  rw [← HW.out]
  have hS : KeptS W4 W4 := keptS (Keeps.refl _ _)
  simp only [List.take_succ_cons, List.take_zero, List.toList_toArray]
  refine wpAnyH_take (i := 0) (v := ?_) rfl (by kernel_rfl) (by kernel_rfl) (by kernel_rfl) (fun _ _ _ h => h) (Or.inl ⟨by rfl, ?_⟩) (by assumption) ?_
  rotate_left
  · intro w' s1; obtain ⟨s, rfl⟩ := s1; go_simp; (try with_reducible rfl)
  simp only [Act.put, List.getElem_toArray, List.getElem_cons_succ, List.getElem_cons_zero, List.setIfInBounds_toArray, List.set_cons_zero, List.set_cons_succ]
  refine wpAnyH_take (i := 1) (v := ?_) rfl (by kernel_rfl) (by kernel_rfl) (by kernel_rfl) (fun _ _ _ h => h) (Or.inl ⟨by rfl, ?_⟩) (by assumption) ?_
  rotate_left
  · intro w' s1; obtain ⟨s, rfl⟩ := s1; go_simp; (try with_reducible rfl)
  simp only [Act.put, List.getElem_toArray, List.getElem_cons_succ, List.getElem_cons_zero, List.setIfInBounds_toArray, List.set_cons_zero, List.set_cons_succ]
  refine wpAnyH_take (i := 2) (v := ?_) rfl (by kernel_rfl) (by kernel_rfl) (by kernel_rfl) (fun _ _ _ h => h) (Or.inl ⟨by rfl, ?_⟩) (by assumption) ?_
  rotate_left
  · intro w' s1; obtain ⟨s, rfl⟩ := s1; go_simp; (try with_reducible rfl)
  simp only [Act.put, List.getElem_toArray, List.getElem_cons_succ, List.getElem_cons_zero, List.setIfInBounds_toArray, List.set_cons_zero, List.set_cons_succ]
  refine wpAnyH_take (i := 3) (v := ?_) rfl (by kernel_rfl) (by kernel_rfl) (by kernel_rfl) (fun _ _ _ h => h) (Or.inl ⟨by rfl, ?_⟩) (by assumption) ?_
  rotate_left
  · intro w' s1; obtain ⟨s, rfl⟩ := s1; go_simp; (try with_reducible rfl)
  simp only [Act.put, List.getElem_toArray, List.getElem_cons_succ, List.getElem_cons_zero, List.setIfInBounds_toArray, List.set_cons_zero, List.set_cons_succ]
  refine wpAnyH_take (i := 4) (v := ?_) rfl (by kernel_rfl) (by kernel_rfl) (by kernel_rfl) (fun _ _ _ h => h) (Or.inl ⟨by rfl, ?_⟩) (by assumption) ?_
  rotate_left
  · intro w' s1; obtain ⟨s, rfl⟩ := s1; go_simp; (try with_reducible rfl)
  simp only [Act.put, List.getElem_toArray, List.getElem_cons_succ, List.getElem_cons_zero, List.setIfInBounds_toArray, List.set_cons_zero, List.set_cons_succ]
  refine wpAnyH_take (i := 5) (v := ?_) rfl (by kernel_rfl) (by kernel_rfl) (by kernel_rfl) (fun _ _ _ h => h) (Or.inl ⟨by rfl, ?_⟩) (by assumption) ?_
  rotate_left
  · intro w' s1; obtain ⟨s, rfl⟩ := s1; go_simp; (try with_reducible rfl)
  simp only [Act.put, List.getElem_toArray, List.getElem_cons_succ, List.getElem_cons_zero, List.setIfInBounds_toArray, List.set_cons_zero, List.set_cons_succ]
  refine wpAnyH_take (i := 6) (v := ?_) rfl (by kernel_rfl) (by kernel_rfl) (by kernel_rfl) (fun _ _ _ h => h) (Or.inl ⟨by rfl, ?_⟩) (by assumption) ?_
  rotate_left
  · intro w' s1; obtain ⟨s, rfl⟩ := s1; go_simp; (try with_reducible rfl)
  simp only [Act.put, List.getElem_toArray, List.getElem_cons_succ, List.getElem_cons_zero, List.setIfInBounds_toArray, List.set_cons_zero, List.set_cons_succ]
  refine wpAnyH_ready (rs := [7]) (by kernel_rfl) (by simp) ?_
  refine AllReadyH.cons rfl (fun K hK => ?_) AllReadyH.nil
  go_simp
  go_at_call 105
  refine (cloneS1_spec 0 W4 _ (Hset H4.out.1)).mono ?_
  rintro e A1 ⟨v7, rfl, ⟨g7, c7, cur7, rfl, -⟩, kA1⟩
  have H5 := Lib.hid (go1 kA1 H4.out)
  go_simp
  refine hK.out _ _ (keptS kA1) (fun hS => ?_)
  clear hK K
  try simp only [Act.put, List.getElem_toArray, List.getElem_cons_succ, List.getElem_cons_zero, List.setIfInBounds_toArray, List.set_cons_zero, List.set_cons_succ]
  refine wpAnyH_ready (rs := [8]) (by kernel_rfl) (by simp) ?_
  refine AllReadyH.cons rfl (fun K hK => ?_) AllReadyH.nil
  go_simp
  go_simp
  refine hK.out _ _ (keptS kA1) (fun hS => ?_)
  clear hK K
  try simp only [Act.put, List.getElem_toArray, List.getElem_cons_succ, List.getElem_cons_zero, List.setIfInBounds_toArray, List.set_cons_zero, List.set_cons_succ]
  refine wpAnyH_ready (rs := [9]) (by kernel_rfl) (by simp) ?_
  refine AllReadyH.cons rfl (fun K hK => ?_) AllReadyH.nil
  go_simp
  have kA2 : Keeps [] A1 (A1.alloc (.cells #[.slice (some ⟨g7, 0, none⟩) 1 c7, .slice none 0 0, .int .i64 (-1)] 147)) := (Keeps.refl [] A1).alloc _
  have hsl := H5.out.2.2.2.2.2.2.2.1.size
  have H6 := Lib.hid (And.intro (heap_new A1 (.cells #[.slice (some ⟨g7, 0, none⟩) 1 c7, .slice none 0 0, .int .i64 (-1)] 147)) (go1 kA2 H5.out))
  have kA12 := kA1.trans kA2
  clear kA2 kA1
  generalize A1.heap.size = sb at H6 hsl ⊢
  generalize A1.alloc (.cells #[.slice (some ⟨g7, 0, none⟩) 1 c7, .slice none 0 0, .int .i64 (-1)] 147) = A2 at H6 kA12 ⊢
  go_simp
  refine hK.out _ _ (keptS kA12) (fun hS => ?_)
  clear hK K
  try simp only [Act.put, List.getElem_toArray, List.getElem_cons_succ, List.getElem_cons_zero, List.setIfInBounds_toArray, List.set_cons_zero, List.set_cons_succ]
  refine wpAnyH_done (by kernel_rfl) ?_ _
  refine lastQ_step rfl (fun K hK => ?_)
  refine step_put1 rfl (.tmp 43) (.tmp 44) (.tmp 49) rfl ob sb rfl rfl rfl H6.out.2.2.2.2.2.1 ?_
  intro w7 hone hk7
  refine hK _ _ ?_
  clear hK K hS F0 F1 HW kA12 H5 H4
  have hob6 := H6.out.2.2.2.2.2.1
  have H7 := Lib.hid (And.intro (at_but hk7 H6.out.1 hob6 (by simp)) (And.intro (at_but hk7 H6.out.2.1 hob6 (by simp)) (And.intro (at_but hk7 H6.out.2.2.1 hob6 (by simp)) (And.intro (show HeadC w7 h 5 50 10 rb ob x 2 0 0 (-1) from at_but hk7 H6.out.2.2.2.1 hob6 (by simp)) (And.intro (H6.out.2.2.2.2.1.keep hk7 (by simpa using n1)) (And.intro hone (And.intro (show IxAt w7 x mb _ from at_but hk7 H6.out.2.2.2.2.2.2.1 hob6 (by simp)) (And.intro (H6.out.2.2.2.2.2.2.2.1.keep hk7 (by simpa using fun e : mb = ob => n3 e.symm)) (kst_after H6.out.2.2.2.2.2.2.2.2 hk7 hob6 (by intro _ _ _ e; cases e <;> decide) l2)))))))))
  clear hob6 hone hk7 H6
  obtain ⟨W8, hW8⟩ : ∃ W8, W8 = w7.drew := ⟨_, rfl⟩
  have k9 : Keeps [] w7 W8 := by rw [hW8]; exact (Keeps.refl [] w7).drew
  have H8 := Lib.hid (go1 k9 H7.out)
  have HW := Lib.hid hW8
  clear hW8 k9 H7
  go_upto_region 8 with fail
  have s1 : W8.cell? ⟨h, 5, none⟩ = some (.pointer (some ⟨x, 0, none⟩)) := cells_at H8.out.2.2.2.1 5
  have s2 : W8.cell? ⟨pk, 0, none⟩ = some (.slice (some ⟨g, 0, none⟩) 1 c) := cells_at H8.out.2.2.1 0
  refine wp_region_held_drew (S := fun w' => w'.cell? ⟨h, 5, none⟩ = some (.pointer (some ⟨x, 0, none⟩)) ∧ w'.cell? ⟨pk, 0, none⟩ = some (.slice (some ⟨g, 0, none⟩) 1 c)) (by kernel_rfl) (by rw [← HW.out]; exact ⟨s1, s2⟩) (fun hS => ?_)
  rw [← HW.out] at hS ⊢
  clear s1 s2
  refine wpAnyH_take (i := 0) (v := ?_) rfl (by kernel_rfl) (by kernel_rfl) (by kernel_rfl) (fun _ _ _ h => h) (Or.inl ⟨by rfl, ?_⟩) (by assumption) ?_
  rotate_left
  · intro w' hSw; obtain ⟨s1, s2⟩ := hSw; go_simp; (try with_reducible rfl)
  simp only [Act.put, List.getElem_toArray, List.getElem_cons_succ, List.getElem_cons_zero, List.setIfInBounds_toArray, List.set_cons_zero, List.set_cons_succ]
  refine wpAnyH_take (i := 1) (v := ?_) rfl (by kernel_rfl) (by kernel_rfl) (by kernel_rfl) (fun _ _ _ h => h) (Or.inl ⟨by rfl, ?_⟩) (by assumption) ?_
  rotate_left
  · intro w' hSw; obtain ⟨s1, s2⟩ := hSw; go_simp; (try with_reducible rfl)
  simp only [Act.put, List.getElem_toArray, List.getElem_cons_succ, List.getElem_cons_zero, List.setIfInBounds_toArray, List.set_cons_zero, List.set_cons_succ]
  refine wpAnyH_take (i := 2) (v := ?_) rfl (by kernel_rfl) (by kernel_rfl) (by kernel_rfl) (fun _ _ _ h => h) (Or.inl ⟨by rfl, ?_⟩) (by assumption) ?_
  rotate_left
  · intro w' hSw; obtain ⟨s1, s2⟩ := hSw; go_simp; (try with_reducible rfl)
  simp only [Act.put, List.getElem_toArray, List.getElem_cons_succ, List.getElem_cons_zero, List.setIfInBounds_toArray, List.set_cons_zero, List.set_cons_succ]
  refine wpAnyH_take (i := 3) (v := ?_) rfl (by kernel_rfl) (by kernel_rfl) (by kernel_rfl) (fun _ _ _ h => h) (Or.inl ⟨by rfl, ?_⟩) (by assumption) ?_
  rotate_left
  · intro w' hSw; obtain ⟨s1, s2⟩ := hSw; go_simp; (try with_reducible rfl)
  simp only [Act.put, List.getElem_toArray, List.getElem_cons_succ, List.getElem_cons_zero, List.setIfInBounds_toArray, List.set_cons_zero, List.set_cons_succ]
  refine wpAnyH_take (i := 4) (v := ?_) rfl (by kernel_rfl) (by kernel_rfl) (by kernel_rfl) (fun _ _ _ h => h) (Or.inl ⟨by rfl, ?_⟩) (by assumption) ?_
  rotate_left
  · intro w' hSw; obtain ⟨s1, s2⟩ := hSw; go_simp; (try with_reducible rfl)
  simp only [Act.put, List.getElem_toArray, List.getElem_cons_succ, List.getElem_cons_zero, List.setIfInBounds_toArray, List.set_cons_zero, List.set_cons_succ]
  refine wpAnyH_take (i := 5) (v := ?_) rfl (by kernel_rfl) (by kernel_rfl) (by kernel_rfl) (fun _ _ _ h => h) (Or.inl ⟨by rfl, ?_⟩) (by assumption) ?_
  rotate_left
  · intro w' hSw; obtain ⟨s1, s2⟩ := hSw; go_simp; (try with_reducible rfl)
  simp only [Act.put, List.getElem_toArray, List.getElem_cons_succ, List.getElem_cons_zero, List.setIfInBounds_toArray, List.set_cons_zero, List.set_cons_succ]
  refine wpAnyH_take (i := 6) (v := ?_) rfl (by kernel_rfl) (by kernel_rfl) (by kernel_rfl) (fun _ _ _ h => h) (Or.inl ⟨by rfl, ?_⟩) (by assumption) ?_
  rotate_left
  · intro w' hSw; obtain ⟨s1, s2⟩ := hSw; go_simp; (try with_reducible rfl)
  simp only [Act.put, List.getElem_toArray, List.getElem_cons_succ, List.getElem_cons_zero, List.setIfInBounds_toArray, List.set_cons_zero, List.set_cons_succ]
  refine wpAnyH_ready (rs := [7]) (by kernel_rfl) (by simp) ?_
  refine AllReadyH.cons rfl (fun K hK => ?_) AllReadyH.nil
  go_simp
  go_at_call 52
  refine (add1_spec 0 W8 x mb 1 _ H8.out.2.2.2.2.2.2.1 H8.out.2.2.2.2.2.2.2.1 (Hset H8.out.2.1)).mono ?_
  rintro e w9 ⟨rfl, -, hk9⟩
  have ixb := H8.out.2.2.2.2.2.2.1
  have mbb := H8.out.2.2.2.2.2.2.2.1
  have HT := Lib.hid (And.intro (hk9.at_ H8.out.2.2.1 (nin2 (ne_of_at H8.out.2.2.1 ixb (by simp)) (mbb.ne H8.out.2.2.1))) (And.intro (show HeadC w9 h 5 50 10 rb ob x 2 0 0 (-1) from hk9.at_ H8.out.2.2.2.1 (nin2 (ne_of_at H8.out.2.2.2.1 ixb (by simp)) (mbb.ne H8.out.2.2.2.1))) (And.intro (H8.out.2.2.2.2.1.keep hk9 (nin2 (fun e => H8.out.2.2.2.2.1.ne ixb e.symm) n2)) (And.intro (show One w9 ob sb from hk9.at_ H8.out.2.2.2.2.2.1 (nin2 (ne_of_at H8.out.2.2.2.2.2.1 ixb (by simp)) n3)) (And.intro (hk9.at_ H8.out.1 (nin2 (ne_of_at H8.out.1 ixb (by simp)) (mbb.ne H8.out.1))) (And.intro (World.ownsRow_nil w9 b.heap.size 101 2) (And.intro (H8.out.2.2.2.2.2.2.2.2.1.after hk9 (fun y hy => .inr (by rcases (show y = x ∨ y = mb from (by simpa using hy)) with rfl | rfl <;> first | exact l3 | exact l4))) (H8.out.2.2.2.2.2.2.2.2.2.trans (still_of hk9 (fun q cs t z hq ht => nin2 (ne_of_at hq ixb (by rcases ht with rfl | rfl <;> simp)) (mbb.ne hq)))))))))))
  go_simp
  refine hK.out _ _ ⟨cells_at HT.out.2.1 5, cells_at HT.out.1 0⟩ (fun hS => ?_)
  clear hK K
  try simp only [Act.put, List.getElem_toArray, List.getElem_cons_succ, List.getElem_cons_zero, List.setIfInBounds_toArray, List.set_cons_zero, List.set_cons_succ]
  refine wpAnyH_done (by kernel_rfl) ?_ _
  clear hS HW
  have Hb := Lib.hid (And.intro hbh hsl)
  clear ixb mbb hk9 H8 n1 n2 n3 l1 l2 l3 l4 hsl hbh Hset

  have q1 := run_one HT.out.2.2.2.1
  have c4 : w9.cell? ⟨h, 4, none⟩ = some (.map (some ob)) := cells_at HT.out.2.1 4
  obtain ⟨W9, hW9⟩ : ∃ W9, W9 = w9.drew := ⟨_, rfl⟩
  have k9 : Keeps [] w9 W9 := by rw [hW9]; exact (Keeps.refl [] w9).drew
  have H9 := Lib.hid (go1 k9 HT.out)
  have HW := Lib.hid hW9
  clear hW9 k9
  go_upto_region 10 with fail
  clear q1 c4
  have s1 : W9.cell? ⟨sb, 1, none⟩ = some (.slice none 0 0) := cells_at H9.out.2.2.2.2.1 1
  have s2 : W9.cell? ⟨pk, 1, none⟩ = some (.int .i64 3) := cells_at H9.out.1 1
  have s3 : W9.cell? ⟨pk, 2, none⟩ = some (.int .u64 0) := cells_at H9.out.1 2
  refine wp_region_last_n 11 (fun w' => w'.cell? ⟨sb, 1, none⟩ = some (.slice none 0 0) ∧ w'.cell? ⟨pk, 1, none⟩ = some (.int .i64 3) ∧ w'.cell? ⟨pk, 2, none⟩ = some (.int .u64 0)) (by kernel_rfl) (by kernel_rfl) (by kernel_rfl) ?_
  rw [← HW.out]
  have hS : W9.cell? ⟨sb, 1, none⟩ = some (.slice none 0 0) ∧ W9.cell? ⟨pk, 1, none⟩ = some (.int .i64 3) ∧ W9.cell? ⟨pk, 2, none⟩ = some (.int .u64 0) := ⟨s1, s2, s3⟩
  simp only [List.take_succ_cons, List.take_zero, List.toList_toArray]
  clear s1 s2 s3
  refine wpAnyH_take (i := 0) (v := ?_) rfl (by kernel_rfl) (by kernel_rfl) (by kernel_rfl) (fun _ _ _ h => h) (Or.inl ⟨by rfl, ?_⟩) (by assumption) ?_
  rotate_left
  · intro w' hSw; obtain ⟨s1, s2, s3⟩ := hSw; go_simp; (try with_reducible rfl)
  simp only [Act.put, List.getElem_toArray, List.getElem_cons_succ, List.getElem_cons_zero, List.setIfInBounds_toArray, List.set_cons_zero, List.set_cons_succ]
  refine wpAnyH_take (i := 1) (v := ?_) rfl (by kernel_rfl) (by kernel_rfl) (by kernel_rfl) (fun _ _ _ h => h) (Or.inl ⟨by rfl, ?_⟩) (by assumption) ?_
  rotate_left
  · intro w' hSw; obtain ⟨s1, s2, s3⟩ := hSw; go_simp; (try with_reducible rfl)
  simp only [Act.put, List.getElem_toArray, List.getElem_cons_succ, List.getElem_cons_zero, List.setIfInBounds_toArray, List.set_cons_zero, List.set_cons_succ]
  refine wpAnyH_take (i := 2) (v := ?_) rfl (by kernel_rfl) (by kernel_rfl) (by kernel_rfl) (fun _ _ _ h => h) (Or.inl ⟨by rfl, ?_⟩) (by assumption) ?_
  rotate_left
  · intro w' hSw; obtain ⟨s1, s2, s3⟩ := hSw; go_simp; (try with_reducible rfl)
  simp only [Act.put, List.getElem_toArray, List.getElem_cons_succ, List.getElem_cons_zero, List.setIfInBounds_toArray, List.set_cons_zero, List.set_cons_succ]
  refine wpAnyH_take (i := 3) (v := ?_) rfl (by kernel_rfl) (by kernel_rfl) (by kernel_rfl) (fun _ _ _ h => h) (Or.inl ⟨by rfl, ?_⟩) (by assumption) ?_
  rotate_left
  · intro w' hSw; obtain ⟨s1, s2, s3⟩ := hSw; go_simp; (try with_reducible rfl)
  simp only [Act.put, List.getElem_toArray, List.getElem_cons_succ, List.getElem_cons_zero, List.setIfInBounds_toArray, List.set_cons_zero, List.set_cons_succ]
  refine wpAnyH_take (i := 4) (v := ?_) rfl (by kernel_rfl) (by kernel_rfl) (by kernel_rfl) (fun _ _ _ h => h) (Or.inl ⟨by rfl, ?_⟩) (by assumption) ?_
  rotate_left
  · intro w' hSw; obtain ⟨s1, s2, s3⟩ := hSw; go_simp; (try with_reducible rfl)
  simp only [Act.put, List.getElem_toArray, List.getElem_cons_succ, List.getElem_cons_zero, List.setIfInBounds_toArray, List.set_cons_zero, List.set_cons_succ]
  refine wpAnyH_take (i := 5) (v := ?_) rfl (by kernel_rfl) (by kernel_rfl) (by kernel_rfl) (fun _ _ _ h => h) (Or.inl ⟨by rfl, ?_⟩) (by assumption) ?_
  rotate_left
  · intro w' hSw; obtain ⟨s1, s2, s3⟩ := hSw; go_simp; (try with_reducible rfl)
  simp only [Act.put, List.getElem_toArray, List.getElem_cons_succ, List.getElem_cons_zero, List.setIfInBounds_toArray, List.set_cons_zero, List.set_cons_succ]
  refine wpAnyH_take (i := 6) (v := ?_) rfl (by kernel_rfl) (by kernel_rfl) (by kernel_rfl) (fun _ _ _ h => h) (Or.inl ⟨by rfl, ?_⟩) (by assumption) ?_
  rotate_left
  · intro w' hSw; obtain ⟨s1, s2, s3⟩ := hSw; go_simp; (try with_reducible rfl)
  simp only [Act.put, List.getElem_toArray, List.getElem_cons_succ, List.getElem_cons_zero, List.setIfInBounds_toArray, List.set_cons_zero, List.set_cons_succ]
  refine wpAnyH_ready (rs := [7]) (by kernel_rfl) (by simp) ?_
  refine AllReadyH.cons rfl (fun K hK => ?_) AllReadyH.nil
  go_simp
  have kA : Keeps [] W9 (W9.alloc (.cells #[.int .i64 3, .int .u64 0] 101)) := (Keeps.refl [] W9).alloc _
  have HA := Lib.hid (And.intro (heap_new W9 (.cells #[.int .i64 3, .int .u64 0] 101)) (go1 kA H9.out))
  clear kA
  generalize W9.heap.size = nb at HA ⊢
  generalize W9.alloc (.cells #[.int .i64 3, .int .u64 0] 101) = A1 at HA ⊢
  go_simp
  refine hK.out _ _ ⟨cells_at HA.out.2.2.2.2.2.1 1, cells_at HA.out.2.1 1, cells_at HA.out.2.1 2⟩ (fun hS => ?_)
  clear hK K
  try simp only [Act.put, List.getElem_toArray, List.getElem_cons_succ, List.getElem_cons_zero, List.setIfInBounds_toArray, List.set_cons_zero, List.set_cons_succ]
  refine wpAnyH_ready (rs := [8]) (by kernel_rfl) (by simp) ?_
  refine AllReadyH.cons rfl (fun K hK => ?_) AllReadyH.nil
  refine step_app rfl (.tmp 68) (.tmp 71) 145 rfl b.heap.size 101 isa _ 2 16 Tryd.underlying145 hisa hs0 hs1 hs2 rfl (by decide) (.slice none 0 0) 0 [] rfl HA.out.2.2.2.2.2.2.1 ⟨nb, 0, none⟩ 1 1 [.int .i64 3, .int .u64 0] rfl rfl (news_samp HA.out.1) (by simp [Value.oneCell']) (by decide) (by decide) HA.out.2.2.2.2.2.2.2.1.size ?_
  intro v5 A2 hown5 hgrow5 hnil5
  clear hnil5
  replace hown5 : A2.ownsRow b.heap.size 101 2 v5 1 ([] ++ [.int .i64 3, .int .u64 0]) := hown5
  obtain ⟨ao5, cp5, rfl, -, -, -⟩ := row_slice hown5
  have k5 := keeps_row hgrow5
  have hN := HA.out.2.2.2.2.2.2.1
  have t1 := k5.at_ HA.out.2.1 (fun hm => row_ne_cells hN HA.out.2.1 (by decide) _ (by simpa using hm) rfl)
  have t2 := k5.at_ HA.out.2.2.1 (fun hm => row_ne_cells hN HA.out.2.2.1 (by decide) _ (by simpa using hm) rfl)
  have t3 := HA.out.2.2.2.1.keep k5 (fun hm => row_ne_map hN HA.out.2.2.2.1 _ (by simpa using hm) rfl)
  have t4 : One A2 ob sb := k5.at_ HA.out.2.2.2.2.1 (fun hm => row_ne_obj hN HA.out.2.2.2.2.1 (by simp) _ (by simpa using hm) rfl)
  have t5 := k5.at_ HA.out.2.2.2.2.2.1 (fun hm => row_ne_cells hN HA.out.2.2.2.2.2.1 (by decide) _ (by simpa using hm) rfl)
  have t7 := And.intro (keeps_own HA.out.2.2.2.2.2.2.2.1 hgrow5 (fun q hq => (World.ownsRow.lt hN q hq).1)) (HA.out.2.2.2.2.2.2.2.2.trans (still_of k5 (fun q cs t z hq ht hm => row_ne_cells hN hq (by rcases ht with rfl | rfl <;> decide) _ (by simpa using hm) rfl)))
  have HB := Lib.hid (And.intro t1 (And.intro t2 (And.intro t3 (And.intro t4 (And.intro t5 (And.intro hown5 t7))))))
  clear t1 t2 t3 t4 t5 t7 hown5 hgrow5 k5 hN HA H9 HT
  refine hK.out _ _ ⟨cells_at HB.out.2.2.2.2.1 1, cells_at HB.out.1 1, cells_at HB.out.1 2⟩ (fun hS => ?_)
  clear hK K
  try simp only [Act.put, List.getElem_toArray, List.getElem_cons_succ, List.getElem_cons_zero, List.setIfInBounds_toArray, List.set_cons_zero, List.set_cons_succ]
  refine wpAnyH_take (i := 9) (v := ?_) rfl (by kernel_rfl) (by kernel_rfl) (by kernel_rfl) (fun _ _ _ h => h) (Or.inl ⟨by rfl, ?_⟩) (by assumption) ?_
  rotate_left
  · intro w' hSw; obtain ⟨s1, s2, s3⟩ := hSw; go_simp; (try with_reducible rfl)
  simp only [Act.put, List.getElem_toArray, List.getElem_cons_succ, List.getElem_cons_zero, List.setIfInBounds_toArray, List.set_cons_zero, List.set_cons_succ]
  refine wpAnyH_take (i := 10) (v := ?_) rfl (by kernel_rfl) (by kernel_rfl) (by kernel_rfl) (fun _ _ _ h => h) (Or.inl ⟨by rfl, ?_⟩) (by assumption) ?_
  rotate_left
  · intro w' hSw; obtain ⟨s1, s2, s3⟩ := hSw; go_simp; (try with_reducible rfl)
  simp only [Act.put, List.getElem_toArray, List.getElem_cons_succ, List.getElem_cons_zero, List.setIfInBounds_toArray, List.set_cons_zero, List.set_cons_succ]
  have c5 := free_at HB.out.2.2.2.2.1
  have l5 := lt_of_at HB.out.2.2.2.2.1
  have v5c : A2.cell? ⟨sb, 1, none⟩ = some (.slice none 0 0) := cells_at HB.out.2.2.2.2.1 1
  refine wpAnyH_done (by kernel_rfl) ?_ _
  refine lastQ_step rfl (fun K hK => ?_)
  go_simp
  refine hK _ _ ?_
  clear hK K
  clear c5 l5 v5c hS HW
  have kS : Keeps [sb] A2 (A2.setCell ⟨sb, 1, none⟩ (.slice ao5 1 cp5)) := (Keeps.refl _ A2).setCell (.inl (by simp)) _
  have n5 : (A2.setCell ⟨sb, 1, none⟩ (.slice ao5 1 cp5)).heap[sb]? = some (.cells #[.slice (some ⟨g7, 0, none⟩) 1 c7, .slice ao5 1 cp5, .int .i64 (-1)] 147 (0, 0)) := (heap_cell_same (i := 1) HB.out.2.2.2.2.1 (.slice ao5 1 cp5)).trans (by simp)
  have HC := Lib.hid (And.intro (at_but kS HB.out.1 HB.out.2.2.2.2.1 (by simp)) (And.intro (at_but kS HB.out.2.1 HB.out.2.2.2.2.1 (by simp)) (And.intro (HB.out.2.2.1.keep kS (by simpa using fun e => HB.out.2.2.1.ne HB.out.2.2.2.2.1 e.symm)) (And.intro (show One _ ob sb from at_but kS HB.out.2.2.2.1 HB.out.2.2.2.2.1 (by simp)) (And.intro n5 (And.intro (kS.row HB.out.2.2.2.2.2.1 (fun q hq => by simpa using row_ne_cells HB.out.2.2.2.2.2.1 HB.out.2.2.2.2.1 (by decide) q hq)) (kst_after HB.out.2.2.2.2.2.2 kS HB.out.2.2.2.2.1 (by intro _ _ _ e; cases e <;> decide) Hb.out.2)))))))
  clear kS n5 HB
  generalize A2.setCell ⟨sb, 1, none⟩ (.slice ao5 1 cp5) = A3 at HC ⊢
  have p1 : A3.cell? ⟨pk, 1, none⟩ = some (.int .i64 3) := cells_at HC.out.1 1
  have c5 := free_at HC.out.2.2.2.2.1
  have l5 := lt_of_at HC.out.2.2.2.2.1
  have v5c : A3.cell? ⟨sb, 2, none⟩ = some (.int .i64 (-1)) := cells_at HC.out.2.2.2.2.1 2
  have kS : Keeps [sb] A3 (A3.setCell ⟨sb, 2, none⟩ (.int .i64 3)) := (Keeps.refl _ A3).setCell (.inl (by simp)) _
  have n5 : (A3.setCell ⟨sb, 2, none⟩ (.int .i64 3)).heap[sb]? = some (.cells #[.slice (some ⟨g7, 0, none⟩) 1 c7, .slice ao5 1 cp5, .int .i64 3] 147 (0, 0)) := (heap_cell_same (i := 2) HC.out.2.2.2.2.1 (.int .i64 3)).trans (by simp)
  have HD := Lib.hid (And.intro (at_but kS HC.out.1 HC.out.2.2.2.2.1 (by simp)) (And.intro (at_but kS HC.out.2.1 HC.out.2.2.2.2.1 (by simp)) (And.intro (HC.out.2.2.1.keep kS (by simpa using fun e => HC.out.2.2.1.ne HC.out.2.2.2.2.1 e.symm)) (And.intro (show One _ ob sb from at_but kS HC.out.2.2.2.1 HC.out.2.2.2.2.1 (by simp)) (And.intro n5 (And.intro (kS.row HC.out.2.2.2.2.2.1 (fun q hq => by simpa using row_ne_cells HC.out.2.2.2.2.2.1 HC.out.2.2.2.2.1 (by decide) q hq)) (kst_after HC.out.2.2.2.2.2.2 kS HC.out.2.2.2.2.1 (by intro _ _ _ e; cases e <;> decide) Hb.out.2)))))))
  clear kS n5 HC
  obtain ⟨A4, hA4⟩ : ∃ A4, A4 = A3.setCell ⟨sb, 2, none⟩ (.int .i64 3) := ⟨_, rfl⟩
  rw [← hA4] at HD
  obtain ⟨A5, hA5⟩ : ∃ A5, A5 = A4.drew := ⟨_, rfl⟩
  have k9 : Keeps [] A4 A5 := by rw [hA5]; exact (Keeps.refl [] A4).drew
  have HE := Lib.hid (go1 k9 HD.out)
  have HW := Lib.hid (hA5.trans (by rw [hA4]))
  clear hA5 hA4 k9 HD
  go_upto_region 12 with fail
  clear p1 c5 l5 v5c
  have F0 : ∀ s : Kept A5, s.val.cell? ⟨h, 9, none⟩ = some (.int .i64 (-1)) := keptCell (cells_at HE.out.2.1 9)
  have F1 : ∀ s : Kept A5, s.val.cell? ⟨pk, 1, none⟩ = some (.int .i64 3) := keptCell (cells_at HE.out.1 1)
  refine wp_region_last_n 11 (KeptS A5) (by kernel_rfl) (by kernel_rfl) (by kernel_rfl) ?_
  rw [← HW.out]
  have hS : KeptS A5 A5 := keptS (Keeps.refl _ _)
  simp only [List.take_succ_cons, List.take_zero, List.toList_toArray]
  refine wpAnyH_take (i := 0) (v := ?_) rfl (by kernel_rfl) (by kernel_rfl) (by kernel_rfl) (fun _ _ _ h => h) (Or.inl ⟨by rfl, ?_⟩) (by assumption) ?_
  rotate_left
  · intro w' s1; obtain ⟨s, rfl⟩ := s1; go_simp; (try with_reducible rfl)
  simp only [Act.put, List.getElem_toArray, List.getElem_cons_succ, List.getElem_cons_zero, List.setIfInBounds_toArray, List.set_cons_zero, List.set_cons_succ]
  refine wpAnyH_take (i := 1) (v := ?_) rfl (by kernel_rfl) (by kernel_rfl) (by kernel_rfl) (fun _ _ _ h => h) (Or.inl ⟨by rfl, ?_⟩) (by assumption) ?_
  rotate_left
  · intro w' s1; obtain ⟨s, rfl⟩ := s1; go_simp; (try with_reducible rfl)
  simp only [Act.put, List.getElem_toArray, List.getElem_cons_succ, List.getElem_cons_zero, List.setIfInBounds_toArray, List.set_cons_zero, List.set_cons_succ]
  refine wpAnyH_take (i := 2) (v := ?_) rfl (by kernel_rfl) (by kernel_rfl) (by kernel_rfl) (fun _ _ _ h => h) (Or.inl ⟨by rfl, ?_⟩) (by assumption) ?_
  rotate_left
  · intro w' s1; obtain ⟨s, rfl⟩ := s1; go_simp; (try with_reducible rfl)
  simp only [Act.put, List.getElem_toArray, List.getElem_cons_succ, List.getElem_cons_zero, List.setIfInBounds_toArray, List.set_cons_zero, List.set_cons_succ]
  refine wpAnyH_take (i := 3) (v := ?_) rfl (by kernel_rfl) (by kernel_rfl) (by kernel_rfl) (fun _ _ _ h => h) (Or.inl ⟨by rfl, ?_⟩) (by assumption) ?_
  rotate_left
  · intro w' s1; obtain ⟨s, rfl⟩ := s1; go_simp; (try with_reducible rfl)
  simp only [Act.put, List.getElem_toArray, List.getElem_cons_succ, List.getElem_cons_zero, List.setIfInBounds_toArray, List.set_cons_zero, List.set_cons_succ]
  refine wpAnyH_take (i := 4) (v := ?_) rfl (by kernel_rfl) (by kernel_rfl) (by kernel_rfl) (fun _ _ _ h => h) (Or.inl ⟨by rfl, ?_⟩) (by assumption) ?_
  rotate_left
  · intro w' s1; obtain ⟨s, rfl⟩ := s1; go_simp; (try with_reducible rfl)
  simp only [Act.put, List.getElem_toArray, List.getElem_cons_succ, List.getElem_cons_zero, List.setIfInBounds_toArray, List.set_cons_zero, List.set_cons_succ]
  refine wpAnyH_take (i := 5) (v := ?_) rfl (by kernel_rfl) (by kernel_rfl) (by kernel_rfl) (fun _ _ _ h => h) (Or.inl ⟨by rfl, ?_⟩) (by assumption) ?_
  rotate_left
  · intro w' s1; obtain ⟨s, rfl⟩ := s1; go_simp; (try with_reducible rfl)
  simp only [Act.put, List.getElem_toArray, List.getElem_cons_succ, List.getElem_cons_zero, List.setIfInBounds_toArray, List.set_cons_zero, List.set_cons_succ]
  refine wpAnyH_take (i := 6) (v := ?_) rfl (by kernel_rfl) (by kernel_rfl) (by kernel_rfl) (fun _ _ _ h => h) (Or.inl ⟨by rfl, ?_⟩) (by assumption) ?_
  rotate_left
  · intro w' s1; obtain ⟨s, rfl⟩ := s1; go_simp; (try with_reducible rfl)
  simp only [Act.put, List.getElem_toArray, List.getElem_cons_succ, List.getElem_cons_zero, List.setIfInBounds_toArray, List.set_cons_zero, List.set_cons_succ]
  refine wpAnyH_take (i := 7) (v := ?_) rfl (by kernel_rfl) (by kernel_rfl) (by kernel_rfl) (fun _ _ _ h => h) (Or.inl ⟨by rfl, ?_⟩) (by assumption) ?_
  rotate_left
  · intro w' s1; obtain ⟨s, rfl⟩ := s1; go_simp; (try with_reducible rfl)
  simp only [Act.put, List.getElem_toArray, List.getElem_cons_succ, List.getElem_cons_zero, List.setIfInBounds_toArray, List.set_cons_zero, List.set_cons_succ]
  refine wpAnyH_ready (rs := [8]) (by kernel_rfl) (by simp) ?_
  refine AllReadyH.cons rfl (fun K hK => ?_) AllReadyH.nil
  go_simp
  go_simp
  refine hK.out _ _ (keptS (Keeps.refl [] A5)) (fun hS => ?_)
  clear hK K
  try simp only [Act.put, List.getElem_toArray, List.getElem_cons_succ, List.getElem_cons_zero, List.setIfInBounds_toArray, List.set_cons_zero, List.set_cons_succ]
  refine wpAnyH_take (i := 9) (v := ?_) rfl (by kernel_rfl) (by kernel_rfl) (by kernel_rfl) (fun _ _ _ h => h) (Or.inl ⟨by rfl, ?_⟩) (by assumption) ?_
  rotate_left
  · intro w' s1; obtain ⟨s, rfl⟩ := s1; go_simp; (try with_reducible rfl)
  simp only [Act.put, List.getElem_toArray, List.getElem_cons_succ, List.getElem_cons_zero, List.setIfInBounds_toArray, List.set_cons_zero, List.set_cons_succ]
  refine wpAnyH_take (i := 10) (v := ?_) rfl (by kernel_rfl) (by kernel_rfl) (by kernel_rfl) (fun _ _ _ h => h) (Or.inl ⟨by rfl, ?_⟩) (by assumption) ?_
  rotate_left
  · intro w' s1; obtain ⟨s, rfl⟩ := s1; go_simp; (try with_reducible rfl)
  simp only [Act.put, List.getElem_toArray, List.getElem_cons_succ, List.getElem_cons_zero, List.setIfInBounds_toArray, List.set_cons_zero, List.set_cons_succ]
  have c5 := free_at HE.out.2.1
  have l5 := lt_of_at HE.out.2.1
  have v5c : A5.cell? ⟨h, 9, none⟩ = some (.int .i64 (-1)) := cells_at HE.out.2.1 9
  refine wpAnyH_done (by kernel_rfl) ?_ _
  refine lastQ_step rfl (fun K hK => ?_)
  go_simp
  refine hK _ _ ?_
  clear hK K
  clear c5 l5 v5c hS HW F0 F1
  have kH : Keeps [h] A5 (A5.setCell ⟨h, 9, none⟩ (.int .i64 3)) := (Keeps.refl _ A5).setCell (.inl (by simp)) _
  have n5 : HeadC (A5.setCell ⟨h, 9, none⟩ (.int .i64 3)) h 5 50 10 rb ob x 2 0 0 3 := (heap_cell_same (i := 9) HE.out.2.1 (.int .i64 3)).trans (by simp)
  have HF := Lib.hid (And.intro n5 (And.intro (HE.out.2.2.1.keep kH (by simpa using fun e => HE.out.2.2.1.ne HE.out.2.1 e.symm)) (And.intro (show One _ ob sb from at_but kH HE.out.2.2.2.1 HE.out.2.1 (by simp)) (And.intro (at_but kH HE.out.2.2.2.2.1 HE.out.2.1 (by simp)) (And.intro (kH.row HE.out.2.2.2.2.2.1 (fun q hq => by simpa using row_ne_cells HE.out.2.2.2.2.2.1 HE.out.2.1 (by decide) q hq)) (kst_after HE.out.2.2.2.2.2.2 kH HE.out.2.1 (by intro _ _ _ e; cases e <;> decide) Hb.out.1))))))
  clear kH n5 HE
  simp only [show (max ((-1) : Int) 3) = 3 from by decide]
  generalize A5.setCell ⟨h, 9, none⟩ (.int .i64 3) = A6 at HF ⊢
  have c5 := free_at HF.out.1
  have l5 := lt_of_at HF.out.1
  have v5c : A6.cell? ⟨h, 7, none⟩ = some (.int .i64 0) := cells_at HF.out.1 7
  have kH : Keeps [h] A6 (A6.setCell ⟨h, 7, none⟩ (.int .i64 1)) := (Keeps.refl _ A6).setCell (.inl (by simp)) _
  have n5 : HeadC (A6.setCell ⟨h, 7, none⟩ (.int .i64 1)) h 5 50 10 rb ob x 2 1 0 3 := (heap_cell_same (i := 7) HF.out.1 (.int .i64 1)).trans (by simp)
  have HG := Lib.hid (And.intro (show HeadC _ h 5 50 10 rb ob x 2 1 0 3 from n5) (And.intro (HF.out.2.1.keep kH (by simpa using fun e => HF.out.2.1.ne HF.out.1 e.symm)) (And.intro (show One _ ob sb from at_but kH HF.out.2.2.1 HF.out.1 (by simp)) (And.intro (at_but kH HF.out.2.2.2.1 HF.out.1 (by simp)) (And.intro (kH.row HF.out.2.2.2.2.1 (fun q hq => by simpa using row_ne_cells HF.out.2.2.2.2.1 HF.out.1 (by decide) q hq)) (kst_after HF.out.2.2.2.2.2 kH HF.out.1 (by intro _ _ _ e; cases e <;> decide) Hb.out.1))))))
  clear kH n5 HF
  go_wp2_with fail
  go_ret
  exact ⟨rfl, ⟨rb, ob, x, sb, .slice (some ⟨g7, 0, none⟩) 1 c7, .slice ao5 1 cp5, HG.out.1, HG.out.2.1, HG.out.2.2.1, HG.out.2.2.2.1, HG.out.2.2.2.2.1, HG.out.2.2.2.2.2.1, Hb.out⟩, HG.out.2.2.2.2.2.2⟩

end Go.Proofs.YtpopeeiiblhbeaaDoor
