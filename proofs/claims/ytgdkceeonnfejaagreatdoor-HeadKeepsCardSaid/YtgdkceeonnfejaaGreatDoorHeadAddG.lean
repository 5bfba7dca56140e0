/-
  Package head: (*Head).add, in general, walked: a point of a series that is there, or of a new one.
  The series are fewer than 12; the point's labels are small and may be.
-/
import Derived.Test.YtgdkceeonnfejaaGreatDoorHeadG
import Derived.Test.YtgdkceeonnfejaaGreatDoorLabelN
import Derived.Test.YtgdkceeonnfejaaGreatDoorTabLaw
import Derived.Deep.CutRange
namespace Go.Proofs.YtgdkceeonnfejaaGreatDoor
set_option maxRecDepth 100000
set_option maxHeartbeats 4000000
set_option linter.unusedSimpArgs false
open Go Go.RowKit Go.Maps
theorem step_update_int {P : Program} {ops : Array Oper} {o : Oper} {a : Act} {w : World} {K : Act → World → Prop} {Q : Exit → Act → World → Prop} {E : Prop}
  (hg : o.guard = none) (m x v : Operand) (t kt et : TypeId) (hop : o.op = Op.mapUpdate t m x v) (ht : P.underlying t = some (.map kt et)) (hk : P.underlying kt = some (.int .i64))
  (b : Nat) (M : KVN) (key : Int) (val : Value) (hm : a.eval m = .map (some b)) (hx : a.eval x = .int .i64 key) (hv : a.eval v = val) (h : MapAtN w b M)
  (hK : ∀ w', MapAtN w' b (putN M key val) → Keeps [b] w w' → K (a.put o.dst undef) w') : if Region.wanted o (yielded ops a.tmps) = true then Oper.wp P o a w K Q else E := by
 have hw : Region.wanted o (yielded ops a.tmps) = true := by simp [Region.wanted, hg]
 rw [if_pos hw]
 obtain ⟨ob, hrun, r1⟩ := h.run_update ht hk key val
 unfold Oper.wp
 simp [execOp, hop, hm, hx, hv, hrun, Result.andThen]
 exact hK _ r1 (keeps_setIf ob)
theorem zeroIntH (w : World) : (zeroValue 3).run Tryz.prog w = .ok (.int .i64 0) w := by kernel_rfl
theorem zeroSerH (w : World) : (zeroValue 103).run Tryz.prog w = .ok (.pointer none) w := by kernel_rfl
theorem infoSampG : (Tryz.prog.info? 42).map (fun i => (i.zero, i.size, i.bytes)) = some (some (.agg #[.int .i64 0, .int .u64 0]), 2, 16) := by kernel_rfl
theorem news_two2 {w : World} {g : Nat} {x y : Value} {t : TypeId} (hg : w.heap[g]? = some (.cells #[x, y] t (0, 0))) : ∀ j u, ([x, y] : List Value)[j]? = some u → w.cell? ((⟨g, 0, none⟩ : Addr).add j) = some u := by
 intro j u hu
 have hadd : (⟨g, 0, none⟩ : Addr).add j = ⟨g, j, none⟩ := by unfold Addr.add; split <;> simp_all
 rw [hadd, cells_at hg]
 match j with
 | 0 => exact hu
 | 1 => exact hu
 | n + 2 => simp at hu
theorem step_appG {P : Program} {ops : Array Oper} {o : Oper} {a : Act} {w : World} {K : Act → World → Prop} {Q : Exit → Act → World → Prop} {E : Prop} (hg : o.guard = none) (s x : Operand) (t : TypeId)
  (ho : o.op = .call { callee := .builtin .append, args := #[s, x], argTypes := #[t, t] })
  (base : Nat) (e : TypeId) (i : TypeInfo) (z : Value) (size bytes : Nat) (ht : P.underlying t = some (.slice e)) (hi : P.info? e = some i) (hz : i.zero = some z)
  (hsize : i.size = size) (hby : i.bytes = bytes) (hzs : z.cells.size = size) (hsz : 0 < size)
  (v : Value) (n : Nat) (xs : List Value) (hs : a.eval s = v) (hown : w.ownsRow base e size v n xs)
  (ad : Addr) (m c : Nat) (news : List Value) (hx : a.eval x = .slice (some ad) m c) (hl : news.length = m * size) (hnews : ∀ j u, news[j]? = some u → w.cell? (ad.add j) = some u) (h1 : ∀ u ∈ news, u.oneCell' = true)
  (h63 : n + m ≤ maxLen) (hbytes : (n + m) * bytes ≤ 140737488355328) (hbase : base ≤ w.heap.size)
  (h : ∀ v' w', w'.ownsRow base e size v' (n + m) (xs ++ news) → Turns v w v' w' → K (a.put o.dst v') w') : if Region.wanted o (yielded ops a.tmps) = true then Oper.wp P o a w K Q else E := by
 have hw : Region.wanted o (yielded ops a.tmps) = true := by simp [Region.wanted, hg]
 rw [if_pos hw]
 obtain ⟨v', w', hr, h2, h3⟩ := run_append_turns (P := P) w base t o.type e i z size bytes ht hi hz hsize hby hzs hsz v n xs hown ad m c news hl hnews h1 h63 hbytes hbase
 unfold Oper.wp execOp
 simp only [ho, resolve, invoke, builtin, Sem.run_bind, Sem.run_pure, Result.andThen_ok, List.map_toArray, List.map_cons, List.map_nil, hs, hx, hr]
 exact h v' w' h2 h3
def AddReady (S : List SerH) (next : Int) (P : List PairB) (S1 : List SerH) (s : SerH) (S2 : List SerH) (next' : Int) : Prop :=
 (S = S1 ++ s :: S2 ∧ keyP s.lab = keyP P ∧ next' = next) ∨ (S2 = [] ∧ S1 = S ∧ (∀ t ∈ S, keyP t.lab ≠ keyP P) ∧ s.lab = P ∧ s.l = [] ∧ s.ref = next ∧ next' = next + 1)
def AddCutH (B : Nat) (X : List Nat) (w0 w1 : World) (h rb ob x mb : Nat) (a b c : Int) (S : List SerH) (next n floor top : Int) (P : List PairB) (u6 : Value) (wc : World) : Prop :=
 ∃ S1 s S2 next' va E all, u6 = .int .i64 s.ref ∧ HeadP B wc h a b c rb ob x mb ((S1 ++ s :: S2).map refE) ((S1 ++ s :: S2).map ofE) va E all (S1 ++ s :: S2) next' n floor top ∧ HeadX B X h rb ob x mb va E (S1 ++ s :: S2) ∧ IdxI ((S1 ++ s :: S2).map (·.ref)) ((S1 ++ s :: S2).map serT) (absG E) all ∧ HFr X w0 w1 wc ∧ AddReady S next P S1 s S2 next'
def AddedH (S : List SerH) (next : Int) (P : List PairB) (p : SmpB) (S' : List SerH) (next' ref : Int) : Prop :=
 ∃ S1 s S2 va', AddReady S next P S1 s S2 next' ∧ S' = S1 ++ { s with va := va', l := s.l ++ [p], last := p.1 } :: S2 ∧ ref = s.ref
def AddHPost (B : Nat) (X : List Nat) (w0 w : World) (h : Nat) (a b c : Int) (S : List SerH) (next n floor top : Int) (P : List PairB) (p : SmpB) (e : Ending) (w' : World) : Prop :=
 ∃ S' next' ref, e = .returned (.int .i64 ref) ∧ HeadAt B X w' h a b c S' next' (n + 1) floor (max top p.1) ∧ HFr X w0 w w' ∧ AddedH S next P p S' next' ref
theorem serOk_of {P : List PairB} (n : Int) (h : chkSet P = true) : SerOk (n, P) ∧ SmallP P ∧ P ≠ [] := by
 have h0 := h
 unfold chkSet at h0
 simp only [Bool.and_eq_true, decide_eq_true_eq] at h0
 have hne : P ≠ [] := fun e => h0.1.1 (by rw [e]; rfl)
 have hz : ∀ p ∈ P, p.1.size ≤ 42 ∧ p.2.size ≤ 42 := fun p hp => by
  obtain ⟨i, hi, rfl⟩ := List.mem_iff_getElem.1 hp
  have h1 := chkSet_at h i hi
  have h2 := h1.1
  unfold goodB at h2
  simp only [Bool.and_eq_true, decide_eq_true_eq] at h2
  have h3 := h2.1.2
  have h4 := h1.2.2.1
  exact ⟨by omega, by omega⟩
 have hltp : ∀ j, ∀ hj : j + 1 < P.length, ltT P[j].1 P[j + 1].1 := fun j hj => (chkSet_at h (j + 1) hj).2.2.2 j rfl (by omega)
 have hpw : P.Pairwise fun p q => ltT p.1 q.1 := by
  rw [List.pairwise_iff_getElem]
  intro i j hi hj hij
  obtain ⟨d, rfl⟩ : ∃ d, j = i + 1 + d := ⟨j - i - 1, by omega⟩
  clear hij
  induction d with
  | zero => exact hltp i hj
  | succ d ih => exact ltT_tr _ _ _ (ih (by omega)) (hltp (i + 1 + d) hj)
 refine ⟨⟨?_, by show P.length ≤ 10; omega, hz⟩, ⟨by omega, fun p hp => by have := hz p hp; omega⟩, hne⟩
 show (P.map (·.1)).Nodup
 rw [List.nodup_iff_pairwise_ne]
 exact List.pairwise_map.2 (hpw.imp fun hab e => by rw [e] at hab; exact ltT_irr _ hab)
theorem addH_spec (B : Nat) (X : List Nat) (w0 w : World) (h : Nat) (a b c : Int) (S : List SerH) (next n floor top : Int) (v : Value) (P : List PairB) (p : SmpB) (hH : HeadAt B X w h a b c S next n floor top) (k0 : Keeps [] w0 w) (hB0 : w0.heap.size ≤ B) (hB : B ≤ w.heap.size)
  (hv : w.ownsRow 0 149 2 v P.length (P.flatMap encPB)) (hck : chkSet P = true) (hnew : ∀ s ∈ S, s.ref ≠ next) (h12 : S.length < 12) (hl : ∀ s ∈ S, s.l.length ≤ 100000) (hn : 0 ≤ n ∧ n ≤ 1000000000) (hnx : 0 ≤ next ∧ next ≤ 1000000000) :
  Calls Tryz.prog 39 #[.pointer (some ⟨h, 0, none⟩), .agg #[v, .int .i64 p.1, .int .u64 p.2]] w (AddHPost B X w0 w h a b c S next n floor top P p) := by
 obtain ⟨isa, hisa, hs0, hs1, hs2⟩ := info_parts infoSampG
 obtain ⟨p1, p2⟩ := p
 have hz : IntKind.i64.wrap (next + 1) = next + 1 := IntWalk.i64_in _ (by omega)
 have hzn : IntKind.i64.wrap (n + 1) = n + 1 := IntWalk.i64_in _ (by omega)
 obtain ⟨hser, hsml, hPne⟩ := serOk_of (P := P) next hck
 have hP0 : 0 < P.length := List.length_pos_iff.2 hPne
 have hP10 : P.length ≤ 10 := hser.len
 obtain ⟨rb, ob, x, mb, va, E, all, HP, HX, HI, HL⟩ := hH
 obtain ⟨av, cv, rfl, -, -, -⟩ := row_slice hv
 have kp : Keeps [] w (w.alloc (.cells #[.slice av P.length cv, .int .i64 p1, .int .u64 p2] 89)) := (Keeps.refl [] w).alloc _
 have H0 := Lib.hid (And.intro (heap_new w (.cells #[.slice av P.length cv, .int .i64 p1, .int .u64 p2] 89)) (And.intro (go1 kp HP) (And.intro (go1 kp hv) kp)))
 have HXh := Lib.hid (And.intro HX (And.intro HI (And.intro HL (And.intro hser (And.intro hnew hl)))))
 have hcW := HP.hc
 clear HP HX HI HL hv kp hser hnew hl
 dsimp only
 go_enter Tryz.func39, Tryz.ntmps39
 go_wp2_with fail
 refine (keyG_spec _ _ P (rowP H0.out.2.2.1) hsml).mono ?_
 rintro e w1 ⟨rfl, hk1⟩
 have H1 := Lib.hid (And.intro (hk1.at_ H0.out.1 (by simp)) (And.intro (go1 hk1 H0.out.2.1) (And.intro (go1 hk1 H0.out.2.2.1) (H0.out.2.2.2.trans hk1))))
 have hpkw : w.heap.size < w1.heap.size := lt_of_at H1.out.1
 clear hk1 H0
 generalize hpk : w.heap.size = pk at H1 hpkw ⊢
 have Hpk := Lib.hid hpk
 clear hpk
 -- the look-up
 obtain ⟨r0, ok, hway, hlook⟩ : ∃ (r0 : Int) (ok : Bool), ((ok = true ∧ ∃ S1 s S2, S = S1 ++ s :: S2 ∧ keyP s.lab = keyP P ∧ r0 = s.ref) ∨ (ok = false ∧ r0 = 0 ∧ ∀ t ∈ S, keyP t.lab ≠ keyP P)) ∧ lookVal (S.map refE) (keyP P) (.int .i64 0) true = .tuple #[.int .i64 r0, .bool ok] := by
  by_cases hx : ∃ s ∈ S, keyP s.lab = keyP P
  ·obtain ⟨s, hs, hk⟩ := hx
   obtain ⟨S1, S2, rfl⟩ := List.append_of_mem hs
   refine ⟨s.ref, true, .inl ⟨rfl, S1, s, S2, rfl, hk, rfl⟩, ?_⟩
   have := look_refs (s := s) H1.out.2.1.refs
   rw [hk] at this
   show Value.tuple #[(look _ _).getD _, .bool (look _ _).isSome] = _
   rw [this]
   rfl
  ·have hno : ∀ t ∈ S, keyP t.lab ≠ keyP P := fun t ht e => hx ⟨t, ht, e⟩
   refine ⟨0, false, .inr ⟨rfl, rfl, hno⟩, ?_⟩
   simp [lookVal, look_refs_none hno]
 have Hway := Lib.hid hway
 have q2 : (Instr.lookup 78 (.map (some rb)) (.string (keyP P)) true).run Tryz.prog w1 = .ok (.tuple #[.int .i64 r0, .bool ok]) w1 := (H1.out.2.1.refs.run_lookup Tryz.underlying78 Tryz.underlying9 (zeroIntH w1) (keyP P) true).trans (by rw [hlook])
 have c3 : w1.cell? ⟨h, 3, none⟩ = some (.map (some rb)) := cells_at H1.out.2.1.hc 3
 have l0 := lt_of_at H1.out.2.1.hc
 clear hway hlook hcW
 go_upto_if 22 with fail
 clear q2 c3 l0
 go_cut [6] from 23 to 57 (AddCutH B X w0 w1 h rb ob x mb a b c S next n floor top P)
 case first =>
  cases ok with
  | true =>
   have hR := Lib.hid (show AddCutH B X w0 w1 h rb ob x mb a b c S next n floor top P (.int .i64 r0) w1 from by
    rcases Hway.out with ⟨-, S1, s, S2, rfl, hk, rfl⟩ | ⟨h1, -⟩
    ·exact ⟨S1, s, S2, next, va, E, all, rfl, H1.out.2.1, HXh.out.1, HXh.out.2.1, HFr.refl (k0.trans H1.out.2.2.2), .inl ⟨rfl, hk, rfl⟩⟩
    ·cases h1)
   go_wp2_with fail
   go_meet
   exact hR.out
  | false =>
   have hno : ∀ t ∈ S, keyP t.lab ≠ keyP P := by
    rcases Hway.out with ⟨h1, -⟩ | ⟨-, -, h2⟩
    ·cases h1
    ·exact h2
   have HN := Lib.hid hno
   clear hno
   have hbx := HXh.out.1.base
   have hc1 : w1.heap[h]? = some (.cells #[.int .i64 a, .int .i64 b, .int .i64 c, .map (some rb), .map (some ob), .pointer (some ⟨x, 0, none⟩), .int .i64 next, .int .i64 n, .int .i64 floor, .int .i64 top] 83 (0, 0)) := H1.out.2.1.hc
   have c6 : w1.cell? ⟨h, 6, none⟩ = some (.int .i64 next) := cells_at hc1 6
   have f3 := free_at hc1
   have l0 := lt_of_at hc1
   clear hc1
   go_upto_region 6 with fail
   clear c6 f3 l0
   have kH : Keeps [h] w1 (w1.setCell ⟨h, 6, none⟩ (.int .i64 (next + 1))) := (Keeps.refl _ w1).setCell (.inl (by simp)) _
   have n5 : HeadC (w1.setCell ⟨h, 6, none⟩ (.int .i64 (next + 1))) h a b c rb ob x (next + 1) n floor top := (heap_cell_same (i := 6) H1.out.2.1.hc (.int .i64 (next + 1))).trans (by simp)
   have f2 : HFr X w0 w1 (w1.setCell ⟨h, 6, none⟩ (.int .i64 (next + 1))) := (HFr.refl (k0.trans H1.out.2.2.2)).one kH H1.out.2.1.hc (Nat.le_trans hB0 hbx.2.2.2.2) (fun hm => (HXh.out.1.apX h hm).2.2 rfl) (fun cs t z e => by cases e; decide)
   have H2 := Lib.hid (And.intro (H1.out.2.1.head kH n5) f2)
   clear kH n5 f2
   generalize w1.setCell ⟨h, 6, none⟩ (.int .i64 (next + 1)) = w2 at H2 ⊢
   have c3 : w2.cell? ⟨h, 3, none⟩ = some (.map (some rb)) := cells_at H2.out.1.hc 3
   have l0 := lt_of_at H2.out.1.hc
   go_upto_region 7 with (refine wpList_update_str _ rfl (.tmp 37) (.tmp 38) (.tmp 39) _ _ _ rfl Tryz.underlying78 Tryz.underlying9 rb (S.map refE) (keyP P) (.int .i64 next) (by rfl) (by rfl) (by rfl) H2.out.1.refs ?_; intro w3 hm3 hk3)
   clear c3 l0
   rw [put_end (fun hm => by
    obtain ⟨e, he, h2⟩ := List.mem_map.1 hm
    obtain ⟨t, ht, rfl⟩ := List.mem_map.1 he
    exact HN.out t ht h2)] at hm3
   obtain ⟨_, _, hrb, -⟩ := H2.out.1.refs
   have f3 := H2.out.2.one hk3 hrb (Nat.le_trans hB0 hbx.1) (fun hm => (HXh.out.1.apX rb hm).1 rfl) (fun cs t z e => by cases e)
   have H3 := Lib.hid (And.intro (H2.out.1.putRefs HXh.out.1 hk3 hm3) f3)
   clear hm3 hk3 hrb f3 H2
   obtain ⟨W4, hW4⟩ : ∃ W4, W4 = w3.drew := ⟨_, rfl⟩
   have k9 : Keeps [] w3 W4 := by rw [hW4]; exact (Keeps.refl [] w3).drew
   have H4 := Lib.hid (go1 k9 H3.out)
   have HW := Lib.hid hW4
   clear hW4 k9 H3
   have hpk4 := H4.out.2.still _ _ _ (by decide) H1.out.1
   have hrow4 := H4.out.2.row H1.out.2.2.1 (by decide)
   have F0 : ∀ s : Kept W4, s.val.cell? ⟨h, 4, none⟩ = some (.map (some ob)) := keptCell (cells_at H4.out.1.hc 4)
   have F1 : ∀ s : Kept W4, s.val.cell? ⟨pk, 0, none⟩ = some (.slice av P.length cv) := keptCell (cells_at hpk4 0)
   have L0 : ∀ s : Kept W4, h < s.val.heap.size := fun s => s.property.lt (lt_of_at H4.out.1.hc)
   have HR := Lib.hid hrow4
   clear hpk4 hrow4
   refine wp_region_last_n 10 (KeptS W4) (by kernel_rfl) (by kernel_rfl) (by kernel_rfl) ?_
   rw [← HW.out]
   have hS : KeptS W4 W4 := keptS (Keeps.refl _ _)
   simp only [List.take_succ_cons, List.take_zero, List.toList_toArray]
   refine tk (v := ?_) 0 rfl ?_ ?_; rotate_left
   ·rintro _ ⟨s, rfl⟩; go_simp; (try with_reducible rfl)
   simp only [Act.put, zz]
   refine tk (v := ?_) 1 rfl ?_ ?_; rotate_left
   ·rintro _ ⟨s, rfl⟩; go_simp; (try with_reducible rfl)
   simp only [Act.put, zz]
   refine tk (v := ?_) 2 rfl ?_ ?_; rotate_left
   ·rintro _ ⟨s, rfl⟩; go_simp; (try with_reducible rfl)
   simp only [Act.put, zz]
   refine tk (v := ?_) 3 rfl ?_ ?_; rotate_left
   ·rintro _ ⟨s, rfl⟩; go_simp; (try with_reducible rfl)
   simp only [Act.put, zz]
   refine tk (v := ?_) 4 rfl ?_ ?_; rotate_left
   ·rintro _ ⟨s, rfl⟩; go_simp; (try with_reducible rfl)
   simp only [Act.put, zz]
   refine tk (v := ?_) 5 rfl ?_ ?_; rotate_left
   ·rintro _ ⟨s, rfl⟩; go_simp; (try with_reducible rfl)
   simp only [Act.put, zz]
   refine tk (v := ?_) 6 rfl ?_ ?_; rotate_left
   ·rintro _ ⟨s, rfl⟩; go_simp; (try with_reducible rfl)
   simp only [Act.put, zz]
   refine rd 7 rfl fun K hK => ?_
   go_simp
   go_at_call 67
   refine (cloneT_spec W4 0 _ P HR.out hP0 (by omega)).mono ?_
   rintro e A1 ⟨v7, rfl, hv7, kA1⟩
   obtain ⟨a7, c7, rfl, -, -, -⟩ := row_slice hv7
   have H5 := Lib.hid (And.intro hv7 (go1 kA1 H4.out))
   clear hv7
   go_simp
   refine hK.out _ _ (keptS kA1) (fun hS => ?_)
   clear hK K
   try simp only [Act.put, zz]
   refine rd 8 rfl fun K hK => ?_
   go_simp
   go_simp
   refine hK.out _ _ (keptS kA1) (fun hS => ?_)
   clear hK K
   try simp only [Act.put, zz]
   refine rd 9 rfl fun K hK => ?_
   go_simp
   have kA2 : Keeps [] A1 (A1.alloc (.cells #[.slice a7 P.length c7, .slice none 0 0, .int .i64 (-1)] 102)) := (Keeps.refl [] A1).alloc _
   have H6 := Lib.hid (And.intro (heap_new A1 (.cells #[.slice a7 P.length c7, .slice none 0 0, .int .i64 (-1)] 102)) (go1 kA2 H5.out))
   have hsl : W4.heap.size ≤ A1.heap.size := kA1.size
   have kA12 := kA1.trans kA2
   clear kA2 kA1 H5
   generalize A1.heap.size = sb at H6 hsl ⊢
   generalize A1.alloc (.cells #[.slice a7 P.length c7, .slice none 0 0, .int .i64 (-1)] 102) = A2 at H6 kA12 ⊢
   go_simp
   refine hK.out _ _ (keptS kA12) (fun hS => ?_)
   clear hK K
   try simp only [Act.put, zz]
   refine wpAnyH_done (by kernel_rfl) ?_ _
   refine lastQ_step rfl (fun K hK => ?_)
   refine step_update_int rfl (.tmp 43) (.tmp 44) (.tmp 49) _ _ _ rfl Tryz.underlying79 Tryz.underlying3 ob (S.map ofE) next (.pointer (some ⟨sb, 0, none⟩)) rfl rfl rfl H6.out.2.2.1.of_ ?_
   intro w7 hm7 hk7
   refine hK _ _ ?_
   clear hK K hS F0 F1 L0 HW kA12 HR
   rw [putN_end (fun hm => by
    obtain ⟨e, he, h2⟩ := List.mem_map.1 hm
    obtain ⟨t, ht, rfl⟩ := List.mem_map.1 he
    exact HXh.out.2.2.2.2.1 t ht h2)] at hm7
   obtain ⟨_, _, hob, -⟩ := H6.out.2.2.1.of_
   have f7 := H6.out.2.2.2.one hk7 hob (Nat.le_trans hB0 hbx.2.1) (fun hm => (HXh.out.1.apX ob hm).2.1 rfl) (fun cs t z e => by cases e)
   have hsb7 := hk7.at_ H6.out.1 (by simpa using ne_of_at H6.out.1 hob (by simp))
   have hlv7 := hk7.row H6.out.2.1 (row_off_map H6.out.2.1 hob)
   have H7 := Lib.hid (And.intro (H6.out.2.2.1.putOf HXh.out.1 hk7 hm7) (And.intro f7 (And.intro hsb7 hlv7)))
   clear hm7 hk7 hob f7 hsb7 hlv7 H6
   obtain ⟨W8, hW8⟩ : ∃ W8, W8 = w7.drew := ⟨_, rfl⟩
   have k9 : Keeps [] w7 W8 := by rw [hW8]; exact (Keeps.refl [] w7).drew
   have H8 := Lib.hid (go1 k9 H7.out)
   have HW := Lib.hid hW8
   clear hW8 k9 H7
   have hpk8 := H8.out.2.1.still _ _ _ (by decide) H1.out.1
   have hrow8 := H8.out.2.1.row H1.out.2.2.1 (by decide)
   have HR := Lib.hid (And.intro hrow8 hpk8)
   clear hrow8 hpk8
   go_upto_region 8 with fail
   have s1 : W8.cell? ⟨h, 5, none⟩ = some (.pointer (some ⟨x, 0, none⟩)) := cells_at H8.out.1.hc 5
   have s2 : W8.cell? ⟨pk, 0, none⟩ = some (.slice av P.length cv) := cells_at HR.out.2 0
   refine wp_region_held_drew (S := fun w' => w'.cell? ⟨h, 5, none⟩ = some (.pointer (some ⟨x, 0, none⟩)) ∧ w'.cell? ⟨pk, 0, none⟩ = some (.slice av P.length cv)) (by kernel_rfl) (by rw [← HW.out]; exact ⟨s1, s2⟩) (fun hS => ?_)
   rw [← HW.out] at hS ⊢
   clear s1 s2
   refine tk (v := ?_) 0 rfl ?_ ?_; rotate_left
   ·rintro _ ⟨s1, s2⟩; go_simp; (try with_reducible rfl)
   simp only [Act.put, zz]
   refine tk (v := ?_) 1 rfl ?_ ?_; rotate_left
   ·rintro _ ⟨s1, s2⟩; go_simp; (try with_reducible rfl)
   simp only [Act.put, zz]
   refine tk (v := ?_) 2 rfl ?_ ?_; rotate_left
   ·rintro _ ⟨s1, s2⟩; go_simp; (try with_reducible rfl)
   simp only [Act.put, zz]
   refine tk (v := ?_) 3 rfl ?_ ?_; rotate_left
   ·rintro _ ⟨s1, s2⟩; go_simp; (try with_reducible rfl)
   simp only [Act.put, zz]
   refine tk (v := ?_) 4 rfl ?_ ?_; rotate_left
   ·rintro _ ⟨s1, s2⟩; go_simp; (try with_reducible rfl)
   simp only [Act.put, zz]
   refine tk (v := ?_) 5 rfl ?_ ?_; rotate_left
   ·rintro _ ⟨s1, s2⟩; go_simp; (try with_reducible rfl)
   simp only [Act.put, zz]
   refine tk (v := ?_) 6 rfl ?_ ?_; rotate_left
   ·rintro _ ⟨s1, s2⟩; go_simp; (try with_reducible rfl)
   simp only [Act.put, zz]
   refine rd 7 rfl fun K hK => ?_
   go_simp
   go_at_call 68
   have hsz1 : w1.heap.size ≤ W8.heap.size := H8.out.2.1.size
   have hXlt : ∀ d ∈ rb :: ob :: X, d < W8.heap.size := fun d hd => by
    rcases List.mem_cons.1 hd with rfl | hd
    ·exact H8.out.1.refs.lt
    ·rcases List.mem_cons.1 hd with rfl | hd
     ·exact H8.out.1.of_.lt
     ·have := HXh.out.2.2.1 d hd
      have := Hpk.out
      omega
   have hR12 : (S.map (·.ref) ++ [next]).length ≤ 12 := by simp; omega
   have hrows : RowsX (S.map (·.ref) ++ [next]) (rb :: ob :: X) x mb va E := ⟨HXh.out.2.1.rows H8.out.1.ix.nodupG hR12 (fun t ht => by
    obtain ⟨s, hs, rfl⟩ := List.mem_map.1 ht
    exact List.mem_append_left _ (List.mem_map.2 ⟨s, hs, rfl⟩)), HXh.out.1.ap⟩
   have hall : RowOk (S.map (·.ref) ++ [next]) all := (HXh.out.2.1.other (R' := S.map (·.ref) ++ [next]) hR12 (fun t ht => by
    obtain ⟨s, hs, rfl⟩ := List.mem_map.1 ht
    exact List.mem_append_left _ (List.mem_map.2 ⟨s, hs, rfl⟩))).allOk
   have hB8 : B ≤ W8.heap.size := by have := Hpk.out; omega
   refine (addG_spec (S.map (·.ref) ++ [next]) (rb :: ob :: X) B w0 W8 x mb next va _ E all P H8.out.2.1.keeps hB0 hB8 hbx.2.2.1 hbx.2.2.2.1 H8.out.1.ix hall hrows (by simp) hXlt HR.out.1 (by omega)).mono ?_
   rintro e w9 ⟨va9, E9, rfl, hix9, habs9, hrows9, -, hk9⟩
   have f9 := H8.out.2.1.k2 hk9 (fun d hd => List.mem_cons_of_mem _ (List.mem_cons_of_mem _ hd))
   have hI9 := HXh.out.2.1.add (R' := (S.map (·.ref)) ++ [next]) hR12 (fun z hz => List.mem_append_left _ hz) H8.out.1.ix.nodupG (n := next) (P := P) (by simp) (fun t ht => by
    obtain ⟨s, hs, rfl⟩ := List.mem_map.1 ht
    exact HXh.out.2.2.2.2.1 s hs) HXh.out.2.2.2.1 (by simpa using h12) habs9
   have hp9 := H8.out.1.index hk9 List.mem_cons_self (List.mem_cons_of_mem _ List.mem_cons_self) hix9
   have hsb9 := hk9.2.1 _ _ _ (by decide) (by decide) H8.out.2.2.1
   have hlv9 := row_stays H8.out.2.2.2 (fun q cs hq => hk9.2.1 _ _ _ (by decide) (by decide) hq)
   have hsbB : B ≤ sb := by
    have := H4.out.2.size
    have := Hpk.out
    omega
   obtain ⟨s', hs'⟩ : ∃ s' : SerH, s' = { ref := next, sb := sb, lv := .slice a7 P.length c7, va := .slice none 0 0, lab := P, l := [], last := -1 } := ⟨_, rfl⟩
   have hA9 : SerAt B w9 s' := by
    rw [hs']
    exact ⟨hsb9, row_base hlv9 (by have := H4.out.2.size; have := Hpk.out; omega), World.ownsRow_nil _ _ _ _, hsbB⟩
   have HT := Lib.hid (show AddCutH B X w0 w1 h rb ob x mb a b c S next n floor top P (.int .i64 next) w9 from by
    refine ⟨S, s', [], next + 1, va9, E9, insI all next, by rw [hs'], ?_, ?_, ?_, f9, .inr ⟨rfl, rfl, HN.out, by rw [hs'], by rw [hs'], by rw [hs'], rfl⟩⟩
    ·have := (HeadP.more (S1 := S) (S2 := []) (by simpa using hp9) hA9)
     rw [List.map_append, List.map_append, List.map_cons, List.map_cons, List.map_nil, List.map_nil]
     rw [show refE s' = (keyP P, .int .i64 next) by rw [hs']; rfl, show ofE s' = (next, .pointer (some ⟨sb, 0, none⟩)) by rw [hs']; rfl]
     exact this
    ·refine (HXh.out.1.snoc (s := s') (fun t ht => ?_) (fun d hd => ?_) (by rw [hs'])).ix hrows9.2
     ·rw [hs']
      have := lt_of_at (H4.out.1.ser t ht).at_
      show t.sb < sb
      omega
     ·rw [hs']
      have := HXh.out.2.2.1 d hd
      have := H4.out.2.size
      have := Hpk.out
      show d < sb
      omega
    ·rw [List.map_append, List.map_append, List.map_cons, List.map_cons, List.map_nil, List.map_nil]
     rw [show s'.ref = next by rw [hs'], show serT s' = (next, P) by rw [hs']; rfl]
     exact hI9)
   go_simp
   refine hK.out _ _ ⟨cells_at hp9.hc 5, cells_at (hk9.2.1 _ _ _ (by decide) (by decide) HR.out.2) 0⟩ (fun hS => ?_)
   clear hK K
   try simp only [Act.put, zz]
   refine wpAnyH_done (by kernel_rfl) ?_ _
   clear hS HW hk9 hix9 hrows9 habs9 hI9 hp9 hsb9 hlv9 hA9 hs' H8 HR f9 hall hrows hXlt
   go_wp2_with fail
   go_meet
   exact HT.out
 case rest =>
  obtain ⟨S1, s, S2, next', va2, E2, all2, rfl, hp2, hx2, hi2, f2, hrd⟩ := hcut
  have Hrd := Lib.hid hrd
  have Hx2 := Lib.hid (And.intro hx2 hi2)
  have hls : s.l.length ≤ 100000 := by
   rcases hrd with ⟨e, -⟩ | ⟨-, -, -, -, e, -⟩
   ·exact HXh.out.2.2.2.2.2 s (by rw [e]; simp)
   ·rw [e]; simp
  have hpk2 := f2.still _ _ _ (by decide) H1.out.1
  have HA := Lib.hid (And.intro hp2 (And.intro f2 hpk2))
  have q1 : (Instr.lookup 79 (.map (some ob)) (.int .i64 s.ref) false).run Tryz.prog wc = .ok (.pointer (some ⟨s.sb, 0, none⟩)) wc := (hp2.of_.run_lookup Tryz.underlying79 Tryz.underlying3 (zeroSerH wc) s.ref false).trans (by
   show Result.ok ((lookN _ _).getD _) wc = _
   rw [look_of hp2.of_]
   rfl)
  have c4 : wc.cell? ⟨h, 4, none⟩ = some (.map (some ob)) := cells_at hp2.hc 4
  have l0 := lt_of_at hp2.hc
  clear hrd hx2 hi2 hp2 f2 hpk2
  obtain ⟨W9, hW9⟩ : ∃ W9, W9 = wc.drew := ⟨_, rfl⟩
  have k9 : Keeps [] wc W9 := by rw [hW9]; exact (Keeps.refl [] wc).drew
  have H9 := Lib.hid (And.intro (go1 k9 HA.out.1) (And.intro (go1 k9 HA.out.2.1) (go1 k9 HA.out.2.2)))
  have HW := Lib.hid hW9
  clear hW9 k9 HA
  go_upto_region 10 with fail
  clear q1 c4 l0
  have hsA := H9.out.1.ser s (by simp)
  have hbx := Hx2.out.1.base
  have hsB : B ≤ s.sb := hsA.base
  obtain ⟨a5, c5, e5, -, -, -⟩ := row_slice hsA.smp
  have hat := hsA.at_
  rw [e5] at hat
  have s1 : W9.cell? ⟨s.sb, 1, none⟩ = some (.slice a5 s.l.length c5) := cells_at hat 1
  have s2 : W9.cell? ⟨pk, 1, none⟩ = some (.int .i64 p1) := cells_at H9.out.2.2 1
  have s3 : W9.cell? ⟨pk, 2, none⟩ = some (.int .u64 p2) := cells_at H9.out.2.2 2
  refine wp_region_last_n 11 (fun w' => w'.cell? ⟨s.sb, 1, none⟩ = some (.slice a5 s.l.length c5) ∧ w'.cell? ⟨pk, 1, none⟩ = some (.int .i64 p1) ∧ w'.cell? ⟨pk, 2, none⟩ = some (.int .u64 p2)) (by kernel_rfl) (by kernel_rfl) (by kernel_rfl) ?_
  rw [← HW.out]
  have hS : W9.cell? ⟨s.sb, 1, none⟩ = some (.slice a5 s.l.length c5) ∧ W9.cell? ⟨pk, 1, none⟩ = some (.int .i64 p1) ∧ W9.cell? ⟨pk, 2, none⟩ = some (.int .u64 p2) := ⟨s1, s2, s3⟩
  have HE5 := Lib.hid e5
  simp only [List.take_succ_cons, List.take_zero, List.toList_toArray]
  clear s1 s2 s3 hsA hat e5
  refine tk (v := ?_) 0 rfl ?_ ?_; rotate_left
  ·rintro _ ⟨s1, s2, s3⟩; go_simp; (try with_reducible rfl)
  simp only [Act.put, zz]
  refine tk (v := ?_) 1 rfl ?_ ?_; rotate_left
  ·rintro _ ⟨s1, s2, s3⟩; go_simp; (try with_reducible rfl)
  simp only [Act.put, zz]
  refine tk (v := ?_) 2 rfl ?_ ?_; rotate_left
  ·rintro _ ⟨s1, s2, s3⟩; go_simp; (try with_reducible rfl)
  simp only [Act.put, zz]
  refine tk (v := ?_) 3 rfl ?_ ?_; rotate_left
  ·rintro _ ⟨s1, s2, s3⟩; go_simp; (try with_reducible rfl)
  simp only [Act.put, zz]
  refine tk (v := ?_) 4 rfl ?_ ?_; rotate_left
  ·rintro _ ⟨s1, s2, s3⟩; go_simp; (try with_reducible rfl)
  simp only [Act.put, zz]
  refine tk (v := ?_) 5 rfl ?_ ?_; rotate_left
  ·rintro _ ⟨s1, s2, s3⟩; go_simp; (try with_reducible rfl)
  simp only [Act.put, zz]
  refine tk (v := ?_) 6 rfl ?_ ?_; rotate_left
  ·rintro _ ⟨s1, s2, s3⟩; go_simp; (try with_reducible rfl)
  simp only [Act.put, zz]
  refine rd 7 rfl fun K hK => ?_
  go_simp
  have kA : Keeps [] W9 (W9.alloc (.cells #[.int .i64 p1, .int .u64 p2] 42)) := (Keeps.refl [] W9).alloc _
  have HA := Lib.hid (And.intro (heap_new W9 (.cells #[.int .i64 p1, .int .u64 p2] 42)) (And.intro (go1 kA H9.out.1) (And.intro (go1 kA H9.out.2.1) (go1 kA H9.out.2.2))))
  clear kA H9
  generalize W9.heap.size = nb at HA ⊢
  generalize W9.alloc (.cells #[.int .i64 p1, .int .u64 p2] 42) = A1 at HA ⊢
  have hsA := HA.out.2.1.ser s (by simp)
  have hatA := hsA.at_
  rw [HE5.out] at hatA
  have hsmp := hsA.smp
  rw [HE5.out] at hsmp
  have HsA := Lib.hid (And.intro hsA (And.intro hatA hsmp))
  clear hsA
  go_simp
  refine hK.out _ _ ⟨cells_at hatA 1, cells_at HA.out.2.2.2 1, cells_at HA.out.2.2.2 2⟩ (fun hS => ?_)
  clear hK K
  try simp only [Act.put, zz]
  clear hatA hsmp
  refine rd 8 rfl fun K hK => ?_
  have hszA : w1.heap.size ≤ A1.heap.size := HA.out.2.2.1.size
  have hBA : B ≤ A1.heap.size := by have := HA.out.2.2.1.size; have := Hpk.out; omega
  refine step_appG rfl (.tmp 68) (.tmp 71) 100 rfl B 42 isa _ 2 16 Tryz.underlying100 hisa hs0 hs1 hs2 rfl (by decide) (.slice a5 s.l.length c5) s.l.length (s.l.flatMap encSm) rfl HsA.out.2.2 ⟨nb, 0, none⟩ 1 1 [.int .i64 p1, .int .u64 p2] rfl rfl (news_two2 HA.out.1) (by simp [Value.oneCell']) (by simp only [maxLen]; omega) (by omega) hBA ?_
  intro v5 A2 hown5 ht5
  obtain ⟨ao5, cp5, rfl, -, -, -⟩ := row_slice hown5
  replace hown5 : A2.ownsRow B 42 2 (.slice ao5 (s.l.length + 1) cp5) (s.l ++ [(p1, p2)]).length ((s.l ++ [(p1, p2)]).flatMap encSm) := by
   rw [List.length_append, List.flatMap_append]
   exact hown5
  have hfresh5 : ∀ g, (Value.slice ao5 (s.l.length + 1) cp5).ownBlock = some g → s.va.ownBlock = some g ∨ A1.heap.size ≤ g := by
   rw [HE5.out]
   exact ht5.own
  have k5 := ht5.keeps
  have hN := HsA.out.2.2
  have hmid := Hx2.out.1.mid
  have hp5 : HeadP B A2 h a b c rb ob x mb ((S1 ++ s :: S2).map refE) ((S1 ++ s :: S2).map ofE) va2 E2 all2 (S1 ++ S2) next' n floor top := (HA.out.2.1.less (S' := S1 ++ S2) (fun t ht => by
   rcases List.mem_append.1 ht with ht | ht
   ·exact List.mem_append_left _ ht
   ·exact List.mem_append_right _ (List.mem_cons_of_mem _ ht))).cells k5 (fun y hy => by
   have hy' : (Value.slice a5 s.l.length c5).ownBlock = some y := by simpa using hy
   obtain ⟨cur, hc5⟩ := row_obj hN hy'
   refine ⟨cur, _, _, hc5, .inr rfl, fun t ht => ⟨fun e => ?_, fun e => (hmid t ht).2 y (by rw [HE5.out]; exact hy') e⟩⟩
   have h2 := (HA.out.2.1.ser t (by
    rcases List.mem_append.1 ht with ht | ht
    ·exact List.mem_append_left _ ht
    ·exact List.mem_append_right _ (List.mem_cons_of_mem _ ht))).at_
   rw [e, hc5] at h2
   injection h2 with h2
   injection h2 with _ h2 _
   exact absurd h2 (by decide))
  have t1 := k5.at_ HsA.out.2.1 (fun hm => row_ne_cells hN HsA.out.2.1 (by decide) _ (by simpa using hm) rfl)
  have t2 := k5.row HsA.out.1.lab (rows_ne2 hN HsA.out.1.lab (by decide))
  have f5 := HA.out.2.2.1.step k5 (fun y hy => by
   have hy' : (Value.slice a5 s.l.length c5).ownBlock = some y := by simpa using hy
   obtain ⟨cur, hc5⟩ := row_obj hN hy'
   have := (World.ownsRow.lt hN y hy').1
   refine ⟨by omega, fun hm => (Hx2.out.1.apS y hm s (by simp)).2 (by rw [HE5.out]; exact hy'), fun cs t ht e => ?_⟩
   rw [hc5] at e
   injection e with e
   injection e with _ e _
   subst e
   exact absurd ht (by decide))
  have hpk5 := f5.still _ _ _ (by decide) H1.out.1
  have HB := Lib.hid (And.intro hp5 (And.intro f5 (And.intro t1 (And.intro t2 (And.intro hown5 (And.intro hfresh5 hpk5))))))
  have HL1 := Lib.hid HA.out.2.1
  clear t1 t2 hown5 ht5 k5 hN hp5 f5 hmid hfresh5 hpk5 HA HsA
  refine hK.out _ _ ⟨cells_at HB.out.2.2.1 1, cells_at HB.out.2.2.2.2.2.2 1, cells_at HB.out.2.2.2.2.2.2 2⟩ (fun hS => ?_)
  clear hK K
  try simp only [Act.put, zz]
  refine tk (v := ?_) 9 rfl ?_ ?_; rotate_left
  ·rintro _ ⟨s1, s2, s3⟩; go_simp; (try with_reducible rfl)
  simp only [Act.put, zz]
  refine tk (v := ?_) 10 rfl ?_ ?_; rotate_left
  ·rintro _ ⟨s1, s2, s3⟩; go_simp; (try with_reducible rfl)
  simp only [Act.put, zz]
  have g5 := free_at HB.out.2.2.1
  have l5 := lt_of_at HB.out.2.2.1
  have v5c : A2.cell? ⟨s.sb, 1, none⟩ = some (.slice a5 s.l.length c5) := cells_at HB.out.2.2.1 1
  refine wpAnyH_done (by kernel_rfl) ?_ _
  refine lastQ_step rfl (fun K hK => ?_)
  go_simp
  refine hK _ _ ?_
  clear hK K
  clear g5 l5 v5c hS HW
  have kS : Keeps [s.sb] A2 (A2.setCell ⟨s.sb, 1, none⟩ (.slice ao5 (s.l.length + 1) cp5)) := (Keeps.refl _ A2).setCell (.inl (by simp)) _
  have n5 : (A2.setCell ⟨s.sb, 1, none⟩ (.slice ao5 (s.l.length + 1) cp5)).heap[s.sb]? = some (.cells #[s.lv, .slice ao5 (s.l.length + 1) cp5, .int .i64 s.last] 102 (0, 0)) := (heap_cell_same (i := 1) HB.out.2.2.1 _).trans (by simp)
  have HC := Lib.hid (And.intro (HB.out.1.serCell Hx2.out.1 HB.out.2.2.1 kS) (And.intro (HB.out.2.1.serOne Hx2.out.1 HB.out.2.2.1 (Nat.le_trans hB0 hsB) kS) (And.intro n5 (And.intro (kS.row HB.out.2.2.2.1 (fun q hq => by simpa using row_ne_cells HB.out.2.2.2.1 HB.out.2.2.1 (by decide) q hq)) (kS.row HB.out.2.2.2.2.1 (fun q hq => by simpa using row_ne_cells HB.out.2.2.2.2.1 HB.out.2.2.1 (by decide) q hq))))))
  have HF5 := Lib.hid HB.out.2.2.2.2.2.1
  clear kS n5 HB
  generalize A2.setCell ⟨s.sb, 1, none⟩ (.slice ao5 (s.l.length + 1) cp5) = A3 at HC ⊢
  have hpk3 := HC.out.2.1.still _ _ _ (by decide) H1.out.1
  have p1c : A3.cell? ⟨pk, 1, none⟩ = some (.int .i64 p1) := cells_at hpk3 1
  have g5 := free_at HC.out.2.2.1
  have l5 := lt_of_at HC.out.2.2.1
  have v5c : A3.cell? ⟨s.sb, 2, none⟩ = some (.int .i64 s.last) := cells_at HC.out.2.2.1 2
  have kS : Keeps [s.sb] A3 (A3.setCell ⟨s.sb, 2, none⟩ (.int .i64 p1)) := (Keeps.refl _ A3).setCell (.inl (by simp)) _
  have n5 : (A3.setCell ⟨s.sb, 2, none⟩ (.int .i64 p1)).heap[s.sb]? = some (.cells #[s.lv, .slice ao5 (s.l.length + 1) cp5, .int .i64 p1] 102 (0, 0)) := (heap_cell_same (i := 2) HC.out.2.2.1 _).trans (by simp)
  have HD := Lib.hid (And.intro (HC.out.1.serCell Hx2.out.1 HC.out.2.2.1 kS) (And.intro (HC.out.2.1.serOne Hx2.out.1 HC.out.2.2.1 (Nat.le_trans hB0 hsB) kS) (And.intro n5 (And.intro (kS.row HC.out.2.2.2.1 (fun q hq => by simpa using row_ne_cells HC.out.2.2.2.1 HC.out.2.2.1 (by decide) q hq)) (kS.row HC.out.2.2.2.2 (fun q hq => by simpa using row_ne_cells HC.out.2.2.2.2 HC.out.2.2.1 (by decide) q hq))))))
  clear kS n5 HC hpk3
  obtain ⟨A4, hA4⟩ : ∃ A4, A4 = A3.setCell ⟨s.sb, 2, none⟩ (.int .i64 p1) := ⟨_, rfl⟩
  rw [← hA4] at HD
  obtain ⟨A5, hA5⟩ : ∃ A5, A5 = A4.drew := ⟨_, rfl⟩
  have k9 : Keeps [] A4 A5 := by rw [hA5]; exact (Keeps.refl [] A4).drew
  have HE := Lib.hid (And.intro (go1 k9 HD.out.1) (And.intro (go1 k9 HD.out.2.1) (And.intro (k9.at_ HD.out.2.2.1 (by simp)) (And.intro (go1 k9 HD.out.2.2.2.1) (go1 k9 HD.out.2.2.2.2)))))
  have HW := Lib.hid (hA5.trans (by rw [hA4]))
  clear hA5 hA4 k9 HD
  go_upto_region 12 with fail
  clear p1c g5 l5 v5c
  have hpk5 := HE.out.2.1.still _ _ _ (by decide) H1.out.1
  have F0 : ∀ s : Kept A5, s.val.cell? ⟨h, 9, none⟩ = some (.int .i64 top) := keptCell (cells_at HE.out.1.hc 9)
  have F1 : ∀ s : Kept A5, s.val.cell? ⟨pk, 1, none⟩ = some (.int .i64 p1) := keptCell (cells_at hpk5 1)
  have L0 : ∀ s : Kept A5, h < s.val.heap.size := fun s => s.property.lt (lt_of_at HE.out.1.hc)
  clear hpk5
  refine wp_region_last_n 11 (KeptS A5) (by kernel_rfl) (by kernel_rfl) (by kernel_rfl) ?_
  rw [← HW.out]
  have hS : KeptS A5 A5 := keptS (Keeps.refl _ _)
  simp only [List.take_succ_cons, List.take_zero, List.toList_toArray]
  refine tk (v := ?_) 0 rfl ?_ ?_; rotate_left
  ·rintro _ ⟨s, rfl⟩; go_simp; (try with_reducible rfl)
  simp only [Act.put, zz]
  refine tk (v := ?_) 1 rfl ?_ ?_; rotate_left
  ·rintro _ ⟨s, rfl⟩; go_simp; (try with_reducible rfl)
  simp only [Act.put, zz]
  refine tk (v := ?_) 2 rfl ?_ ?_; rotate_left
  ·rintro _ ⟨s, rfl⟩; go_simp; (try with_reducible rfl)
  simp only [Act.put, zz]
  refine tk (v := ?_) 3 rfl ?_ ?_; rotate_left
  ·rintro _ ⟨s, rfl⟩; go_simp; (try with_reducible rfl)
  simp only [Act.put, zz]
  refine tk (v := ?_) 4 rfl ?_ ?_; rotate_left
  ·rintro _ ⟨s, rfl⟩; go_simp; (try with_reducible rfl)
  simp only [Act.put, zz]
  refine tk (v := ?_) 5 rfl ?_ ?_; rotate_left
  ·rintro _ ⟨s, rfl⟩; go_simp; (try with_reducible rfl)
  simp only [Act.put, zz]
  refine tk (v := ?_) 6 rfl ?_ ?_; rotate_left
  ·rintro _ ⟨s, rfl⟩; go_simp; (try with_reducible rfl)
  simp only [Act.put, zz]
  refine tk (v := ?_) 7 rfl ?_ ?_; rotate_left
  ·rintro _ ⟨s, rfl⟩; go_simp; (try with_reducible rfl)
  simp only [Act.put, zz]
  refine rd 8 rfl fun K hK => ?_
  go_simp
  go_simp
  refine hK.out _ _ (keptS (Keeps.refl [] A5)) (fun hS => ?_)
  clear hK K
  try simp only [Act.put, zz]
  refine tk (v := ?_) 9 rfl ?_ ?_; rotate_left
  ·rintro _ ⟨s, rfl⟩; go_simp; (try with_reducible rfl)
  simp only [Act.put, zz]
  refine tk (v := ?_) 10 rfl ?_ ?_; rotate_left
  ·rintro _ ⟨s, rfl⟩; go_simp; (try with_reducible rfl)
  simp only [Act.put, zz]
  have g5 := free_at HE.out.1.hc
  have l5 := lt_of_at HE.out.1.hc
  have v5c : A5.cell? ⟨h, 9, none⟩ = some (.int .i64 top) := cells_at HE.out.1.hc 9
  refine wpAnyH_done (by kernel_rfl) ?_ _
  refine lastQ_step rfl (fun K hK => ?_)
  go_simp
  refine hK _ _ ?_
  clear hK K
  clear g5 l5 v5c hS HW F0 F1 L0
  have kH : Keeps [h] A5 (A5.setCell ⟨h, 9, none⟩ (.int .i64 (max top p1))) := (Keeps.refl _ A5).setCell (.inl (by simp)) _
  have n5 : HeadC (A5.setCell ⟨h, 9, none⟩ (.int .i64 (max top p1))) h a b c rb ob x next' n floor (max top p1) := (heap_cell_same (i := 9) HE.out.1.hc _).trans (by simp)
  have HF := Lib.hid (And.intro (HE.out.1.head kH n5) (And.intro (HE.out.2.1.one kH HE.out.1.hc (Nat.le_trans hB0 hbx.2.2.2.2) (fun hm => (Hx2.out.1.apX h hm).2.2 rfl) (fun cs t z e => by cases e; decide)) (And.intro (kH.at_ HE.out.2.2.1 (by simpa using ne_of_at HE.out.2.2.1 HE.out.1.hc (by simp))) (And.intro (kH.row HE.out.2.2.2.1 (fun q hq => by simpa using row_ne_cells HE.out.2.2.2.1 HE.out.1.hc (by decide) q hq)) (kH.row HE.out.2.2.2.2 (fun q hq => by simpa using row_ne_cells HE.out.2.2.2.2 HE.out.1.hc (by decide) q hq))))))
  clear kH n5 HE
  generalize A5.setCell ⟨h, 9, none⟩ (.int .i64 (max top p1)) = A6 at HF ⊢
  have g5 := free_at HF.out.1.hc
  have l5 := lt_of_at HF.out.1.hc
  have v5c : A6.cell? ⟨h, 7, none⟩ = some (.int .i64 n) := cells_at HF.out.1.hc 7
  have kH : Keeps [h] A6 (A6.setCell ⟨h, 7, none⟩ (.int .i64 (n + 1))) := (Keeps.refl _ A6).setCell (.inl (by simp)) _
  have n5 : HeadC (A6.setCell ⟨h, 7, none⟩ (.int .i64 (n + 1))) h a b c rb ob x next' (n + 1) floor (max top p1) := (heap_cell_same (i := 7) HF.out.1.hc _).trans (by simp)
  have HG := Lib.hid (And.intro (HF.out.1.head kH n5) (And.intro (HF.out.2.1.one kH HF.out.1.hc (Nat.le_trans hB0 hbx.2.2.2.2) (fun hm => (Hx2.out.1.apX h hm).2.2 rfl) (fun cs t z e => by cases e; decide)) (And.intro (kH.at_ HF.out.2.2.1 (by simpa using ne_of_at HF.out.2.2.1 HF.out.1.hc (by simp))) (And.intro (kH.row HF.out.2.2.2.1 (fun q hq => by simpa using row_ne_cells HF.out.2.2.2.1 HF.out.1.hc (by decide) q hq)) (kH.row HF.out.2.2.2.2 (fun q hq => by simpa using row_ne_cells HF.out.2.2.2.2 HF.out.1.hc (by decide) q hq))))))
  clear kH n5 HF
  go_wp2_with fail
  go_ret
  obtain ⟨s', hs'⟩ : ∃ s' : SerH, s' = { s with va := .slice ao5 (s.l.length + 1) cp5, l := s.l ++ [(p1, p2)], last := p1 } := ⟨_, rfl⟩
  have hA' : SerAt B (A6.setCell ⟨h, 7, none⟩ (.int .i64 (n + 1))) s' := by
   rw [hs']
   exact ⟨HG.out.2.2.1, HG.out.2.2.2.1, HG.out.2.2.2.2, hsB⟩
  refine ⟨S1 ++ s' :: S2, next', s.ref, rfl, ⟨rb, ob, x, mb, va2, E2, all2, ?_, ?_, ?_, fun d hd => ?_⟩, ?_, S1, s, S2, .slice ao5 (s.l.length + 1) cp5, Hrd.out, by rw [hs'], rfl⟩
  ·have e1 : (S1 ++ s' :: S2).map refE = (S1 ++ s :: S2).map refE := by simp [hs', refE]
   have e2 : (S1 ++ s' :: S2).map ofE = (S1 ++ s :: S2).map ofE := by simp [hs', ofE]
   rw [e1, e2]
   exact HG.out.1.more hA'
  ·exact Hx2.out.1.turn (w := A1) (fun t ht => HL1.out.ser t (by
    rcases List.mem_append.1 ht with ht | ht
    ·exact List.mem_append_left _ ht
    ·exact List.mem_append_right _ (List.mem_cons_of_mem _ ht))) (fun d hd => by
    have := HXh.out.2.2.1 d hd
    have := Hpk.out
    have := lt_of_at HL1.out.hc
    omega) (by rw [hs']) (by rw [hs']; exact HF5.out)
  ·have e1 : (S1 ++ s' :: S2).map (·.ref) = (S1 ++ s :: S2).map (·.ref) := by simp [hs']
   have e2 : (S1 ++ s' :: S2).map serT = (S1 ++ s :: S2).map serT := by simp [hs', serT]
   rw [e1, e2]
   exact Hx2.out.2
  ·have := HXh.out.2.2.1 d hd
   have := HG.out.2.1.size
   have := Hpk.out
   omega
  ·exact ((HFr.refl k0).keep H1.out.2.2.2).trans HG.out.2.1
end Go.Proofs.YtgdkceeonnfejaaGreatDoor
