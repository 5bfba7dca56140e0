/-
  QueryAsks: of any table what is asked for; walked.
  No condition: every input that can be read.
-/
import Derived.Test.YtlifonflgcfafaaGreatDoorAwake23
import Derived.Test.YtlifonflgcfafaaGreatDoorTabAsk
import Derived.Test.YtlifonflgcfafaaGreatDoorTabSame
import Derived.Test.YtlifonflgcfafaaGreatDoorTabTold
import Derived.Test.YtlifonflgcfafaaGreatDoorFew13R
import Derived.Test.YtlifonflgcfafaaGreatDoorSignsOf
namespace Go.Proofs.YtlifonflgcfafaaGreatDoor
open Go Go.RowKit

def badM : MatB := (9, ⟨#[97]⟩, [⟨#[120]⟩])

theorem badM_chk : chkB badM = false := by decide +kernel

/-- append onto a row of the walk's own, of another one (nil too). -/
theorem wpList_append_rows {P : Program} {ops : Array Oper} {rest : List Oper} {o : Oper} {a : Act} {w : World} {Q : Exit → Act → World → Prop} (hgd : o.guard = none) (s x : Operand) (t : TypeId)
    (ho : o.op = .call { callee := .builtin .append, args := #[s, x], argTypes := #[t, t] })
    (base : Nat) (e : TypeId) (i : TypeInfo) (z : Value) (size bytes : Nat) (ht : P.underlying t = some (.slice e)) (hi : P.info? e = some i) (hz : i.zero = some z)
    (hsize : i.size = size) (hby : i.bytes = bytes) (hzs : z.cells.size = size) (hsz : 0 < size)
    (v : Value) (n : Nat) (xs : List Value) (hs : a.eval s = v) (hown : w.ownsRow base e size v n xs)
    (B m : Nat) (u : Value) (ys : List Value) (hx : a.eval x = u) (hu : w.ownsRow B e size u m ys) (h1 : ∀ u ∈ ys, u.oneCell' = true)
    (h63 : n + m ≤ maxLen) (hbytes : (n + m) * bytes ≤ 140737488355328) (hbase : base ≤ w.heap.size)
    (h : ∀ v' w', w'.ownsRow base e size v' (n + m) (xs ++ ys) → w.grownBy w' v.ownBlock → wpList P ops Q rest (a.put o.dst v') w') : wpList P ops Q (o :: rest) a w := by
  have hl := hu.1
  have hu2 := hu.2
  rcases hu2 with ⟨rfl, rfl⟩ | ⟨g, c, cur, rfl, -⟩
  · obtain rfl : ys = [] := List.eq_nil_of_length_eq_zero (by simpa using hl)
    refine wpList_plain hgd fun _ hK => ?_
    have hrun := run_append_owned_none (P := P) (w := w) base t o.type e i size ht hi v n xs hown
    unfold Oper.wp
    simp [execOp, ho, resolve, invoke, builtin, hs, hx, hrun, Result.andThen]
    exact hK _ _ (h _ _ (by simpa using hown) (World.grownBy.refl w _))
  · exact wpList_append_own w hgd s x t ho base e i z size bytes ht hi hz hsize hby hzs hsz v n xs hs hown ⟨g, 0, none⟩ m c ys hx hl (row_news hu) h1 h63 hbytes hbase fun v' w' h2 h3 _ => h v' w' h2 h3

theorem encMV_one (E : List MatV) (h : ∀ i (hi : i < E.length), E[i].2.2.oneCell' = true) : ∀ u ∈ E.flatMap encMV, u.oneCell' = true := by
  intro u hu
  obtain ⟨x, hx, hu⟩ := List.mem_flatMap.1 hu
  obtain ⟨i, hi, rfl⟩ := List.mem_iff_getElem.1 hx
  have := h i hi
  simp only [encMV, List.mem_cons, List.not_mem_nil, or_false] at hu
  rcases hu with rfl | rfl | rfl
  · rfl
  · rfl
  · exact this

theorem ValsAt.one {B : Nat} {w : World} {E : List MatV} {L : List MatB} (h : ValsAt B w E L) : ∀ u ∈ E.flatMap encMV, u.oneCell' = true := by
  refine encMV_one E fun i hi => ?_
  obtain ⟨ao, c, e, -⟩ := row_slice (h.2 i hi (by have := h.1; omega)).2.2
  rw [e]
  rfl

theorem text_one {w : World} {p : Nat} {x : ByteArray} (h : w.heap[p]? = some (.cells #[.string x] 9 (0, 0))) : SliceArg 1 encS1 w (.slice (some ⟨p, 0, none⟩) 1 1) [x] := by
  refine ⟨_, _, rfl, by simp [maxLen], fun i hi => ⟨p, 0, rfl, lt_of_at h, fun j hj => ?_⟩⟩
  obtain rfl : i = 0 := by simpa using hi
  obtain rfl : j = 0 := by omega
  rw [cells_at h]
  rfl

/-- A matcher more. -/
theorem mats_snoc {B B' : Nat} {w : World} {e : TypeId} {v : Value} {E : List MatV} {L : List MatB} {k : Int} {n : ByteArray} {u : Value} {V : List ByteArray} (hr : w.ownsRow B e 3 v (E.length + 1) (E.flatMap encMV ++ [.int .i64 k, .string n, u])) (h : ValsAt B' w E L) (h1 : SliceArg 1 encS1 w u V) : MatsAt w v (L ++ [(k, n, V)]) := by
  have hr2 : w.ownsRow B e 3 v (E ++ [(k, n, u)]).length ((E ++ [(k, n, u)]).flatMap encMV) := by
    rw [List.length_append, List.flatMap_append]
    simpa [encMV] using hr
  refine ⟨E ++ [(k, n, u)], (sliceFrom_row (enc := encMV) (fun _ => rfl) hr2).arg, by simp [h.1], fun i hi hi' => ?_⟩
  by_cases hlt : i < E.length
  · rw [List.getElem_append_left hlt, List.getElem_append_left (by have := h.1; omega)]
    have := h.2 i hlt (by have := h.1; omega)
    exact ⟨this.1, this.2.1, row_texts this.2.2⟩
  · have e1 : i = E.length := by simp at hi; omega
    subst e1
    have e2 := h.1
    rw [List.getElem_append_right (Nat.le_refl _), List.getElem_append_right (by omega)]
    simp only [e2, Nat.sub_self, List.getElem_cons_zero]
    exact ⟨trivial, trivial, h1⟩

set_option linter.unusedSimpArgs false in
set_option maxRecDepth 100000 in
set_option maxHeartbeats 4000000 in
theorem queryAsks_walk (w : World) (hv : LibVar w) (v : Value) (LO : List One14) (h : SliceArg 3 encO14 w v LO) (hpos : ∀ x ∈ LO, 0 ≤ x.1) (from_ to_ : Int) (vm : Value) (M : List MatB) (hm : MatsAt w vm M) :
    Calls Tryz.prog 4 #[v, .int .i64 from_, .int .i64 to_, vm] w fun e w' => e = .returned (.bool true) ∧ Keeps [] w w' := by
  have Hf := Lib.hid (And.intro h (And.intro hpos (And.intro hv hm)))
  obtain ⟨av, cv, rfl, -, -⟩ := h
  obtain ⟨am, cm, rfl, -⟩ := hm.form
  clear hpos hv hm
  go_enter Tryz.func4, Tryz.ntmps4
  go_wp2_with fail
  refine (table_spec w Hf.out.2.2.1 _ LO Hf.out.1 Hf.out.2.1).mono ?_
  rintro e w1 ⟨va, vb, rfl, hTa, hTb, k1⟩
  have hgood := (tblL_good (LO.take 40)).1
  have hfew := tblL_few (L := LO.take 40) (by rw [List.length_take]; omega)
  have hne := tblL_ne (LO.take 40)
  obtain ⟨A, hA⟩ : ∃ A, A = tblL (LO.take 40) := ⟨_, rfl⟩
  rw [← hA] at hTa hTb hgood hfew hne
  have Hg := Lib.hid (And.intro hgood (And.intro hfew hne))
  have H1 := Lib.hid (And.intro (hTa.base (Nat.zero_le _)) (And.intro (hTb.base (Nat.zero_le _)) (And.intro (go1 k1 Hf.out.2.2) k1)))
  obtain ⟨aa, ca, rfl⟩ := hTa.form
  obtain ⟨ab, cb, rfl⟩ := hTb.form
  clear hgood hfew hne hA hTa hTb k1
  go_wp2_with fail
  refine (few13R_spec w1 _ M H1.out.2.2.1.2).mono ?_
  rintro e w2 ⟨vx, vy, L, rfl, hra, hmb, hchk, hl4, k2⟩
  have Hmay := Lib.hid (And.intro (show ∀ m ∈ L, mayK m from fun m hm => chkB_may (hchk m hm)) (show L.all chkB = true from List.all_eq_true.2 hchk))
  have Hsz := Lib.hid (show ∀ m ∈ L, m.2.1.size < 4294967281 ∧ ∀ x ∈ m.2.2, x.size < 4294967281 from fun m hm => ⟨by have := (chkB_sizes (hchk m hm)).1; omega, fun x hx => by have := (chkB_sizes (hchk m hm)).2 x hx; omega⟩)
  have H2 := Lib.hid (And.intro hra (And.intro hmb (go1 k2 H1.out)))
  obtain ⟨ax, cx, rfl, hlc, hcm, hab⟩ := hra.formR
  obtain ⟨ay, cy, rfl, -⟩ := hmb.form
  clear hra hmb k2 hchk H1 hlc hcm hab
  obtain ⟨ip, hip, hz0, hz1, hz2⟩ := info_parts infoMatP
  go_upto_region 4 with fail
  have k3 : Keeps [] w2 (w2.alloc (.cells #[.int .i64 from_, .int .i64 to_, .slice ax L.length cx] 59)) := (Keeps.refl [] w2).alloc _
  have H3 := Lib.hid (And.intro (heap_new w2 (.cells #[.int .i64 from_, .int .i64 to_, .slice ax L.length cx] 59)) (go1 k3 H2.out))
  clear k3 H2
  generalize w2.alloc (.cells #[.int .i64 from_, .int .i64 to_, .slice ax L.length cx] 59) = w3 at H3 ⊢
  generalize w2.heap.size = p13 at H3 ⊢
  obtain ⟨E, hrE, hvE⟩ := H3.out.2.1
  have hEL := hvE.1
  rw [hEL] at hrE
  have HE := Lib.hid hEL
  have kA : Keeps [] w3 (w3.alloc (.cells #[] 62)) := (Keeps.refl [] w3).alloc _
  have HA := Lib.hid (And.intro (own_made w3 w3.heap.size 62 3 (Nat.le_refl _)) (And.intro (go1 kA hrE) (And.intro (go1 kA hvE) kA)))
  clear kA hrE hvE hEL
  go_wp2_with (at_builtin; first | (refine wpList_append_rows rfl (.tmp 29) (.tmp 30) 52 rfl w3.heap.size 62 ip _ 3 48 Tryz.underlying52 hip hz0 hz1 hz2 rfl (by decide) (.slice (some ⟨w3.heap.size, 0, none⟩) 0 0) 0 [] rfl HA.out.1 _ L.length (.slice ax L.length cx) (E.flatMap encMV) rfl HA.out.2.1 HA.out.2.2.1.one (by simp only [maxLen]; omega) (by omega) (by rw [World.size_alloc]; omega) ?_; intro v5 w5 hown5 hgrow5; rw [Nat.zero_add, List.nil_append] at hown5; have H5 := Lib.hid (And.intro hown5 (And.intro (HA.out.2.2.1.keep (keeps_row hgrow5) (fun _ _ _ hr => rows_ne2 HA.out.1 hr (by decide))) (keeps_own HA.out.2.2.2 hgrow5 (fun q hq => (World.ownsRow.lt HA.out.1 q hq).1)))); obtain ⟨a5, c5, rfl, -, -, -⟩ := row_slice hown5; clear hown5 hgrow5; skip) | (refine wpList_append_own _ rfl (.tmp 31) (.tmp 34) 52 rfl w3.heap.size 62 ip _ 3 48 Tryz.underlying52 hip hz0 hz1 hz2 rfl (by decide) (.slice a5 L.length c5) L.length (E.flatMap encMV) rfl ((H5.out.1.alloc _).alloc _) ⟨w5.heap.size + 1, 0, none⟩ 1 1 [.int .i64 9, .string ⟨#[97]⟩, .slice (some ⟨w5.heap.size, 0, none⟩) 1 1] rfl rfl (news_three (by have hh := heap_new (w5.alloc (.cells #[.string ⟨#[120]⟩] 9)) (.cells #[.int .i64 9, .string ⟨#[97]⟩, .slice (some ⟨w5.heap.size, 0, none⟩) 1 1] 62); rw [World.size_alloc] at hh; exact hh)) (by simp [Value.oneCell']) (by simp only [maxLen]; omega) (by omega) (by have := H5.out.2.2.size; rw [World.size_alloc, World.size_alloc]; omega) ?_; intro v6 w6 hown6 hgrow6 hnil6; clear hnil6; have kB : Keeps [] w5 ((w5.alloc (.cells #[.string ⟨#[120]⟩] 9)).alloc (.cells #[.int .i64 9, .string ⟨#[97]⟩, .slice (some ⟨w5.heap.size, 0, none⟩) 1 1] 62)) := ((Keeps.refl [] w5).alloc _).alloc _; have ho6 := (H5.out.1.alloc (.cells #[.string ⟨#[120]⟩] 9)).alloc (.cells #[.int .i64 9, .string ⟨#[97]⟩, .slice (some ⟨w5.heap.size, 0, none⟩) 1 1] 62); have k6 := keeps_row hgrow6; have hsb : ((w5.alloc (.cells #[.string ⟨#[120]⟩] 9)).alloc (.cells #[.int .i64 9, .string ⟨#[97]⟩, .slice (some ⟨w5.heap.size, 0, none⟩) 1 1] 62)).heap[w5.heap.size]? = some (.cells #[.string ⟨#[120]⟩] 9 (0, 0)) := ((Keeps.refl [] (w5.alloc (.cells #[.string ⟨#[120]⟩] 9))).alloc (.cells #[.int .i64 9, .string ⟨#[97]⟩, .slice (some ⟨w5.heap.size, 0, none⟩) 1 1] 62)).at_ (heap_new w5 _) (by simp); have H6 := Lib.hid (And.intro hown6 (And.intro ((go1 kB H5.out.2.1).keep k6 (fun _ _ _ hr => rows_ne2 ho6 hr (by decide))) (And.intro (k6.at_ hsb (fun hm => row_ne_cells ho6 hsb (by decide) _ (by simpa using hm) rfl)) (keeps_own (H5.out.2.2.trans kB) hgrow6 (fun q hq => (World.ownsRow.lt ho6 q hq).1))))); obtain ⟨a6, c6, rfl, -, -, -⟩ := row_slice hown6; clear hown6 hgrow6 kB ho6 k6 hsb H5; skip) | refine Lib.Hid.out ?_)
  have k7 : Keeps [] w6 (w6.alloc (.cells #[.int .i64 0, .int .i64 0, .slice a6 (L.length + 1) c6] 59)) := (Keeps.refl [] w6).alloc _
  have hm2 : MatsAt w6 (.slice a6 (L.length + 1) c6) (L ++ [badM]) := mats_snoc (by rw [HE.out]; exact H6.out.1) H6.out.2.1 (text_one H6.out.2.2.1)
  have H7 := Lib.hid (And.intro (heap_new w6 (.cells #[.int .i64 0, .int .i64 0, .slice a6 (L.length + 1) c6] 59)) (And.intro (go1 k7 hm2) (go1 (H6.out.2.2.2.trans k7) (And.intro H3.out.1 (And.intro H3.out.2.1.mats (And.intro H3.out.2.2.1 (And.intro H3.out.2.2.2.1 (And.intro H3.out.2.2.2.2.1 (And.intro H3.out.2.2.2.2.2.1.1 H3.out.2.2.2.2.2.2)))))))))
  clear k7 hm2 H6 H3 HA HE
  generalize w6.alloc (.cells #[.int .i64 0, .int .i64 0, .slice a6 (L.length + 1) c6] 59) = w7 at H7 ⊢
  generalize w6.heap.size = p14 at H7 ⊢
  refine (awake23_spec w7 H7.out.2.2.2.2.2.2.2.1).mono ?_
  rintro e w8 ⟨rfl, k8⟩
  have H8 := Lib.hid (go1 k8 H7.out)
  have c14 := cells_at H8.out.1
  have l14 := lt_of_at H8.out.1
  have c13 := cells_at H8.out.2.2.1
  have l13 := lt_of_at H8.out.2.2.1
  clear k8 H7
  go_wp2_with fail
  refine (askCheck_spec w8 _ L from_ to_ H8.out.2.2.2.1 Hsz.out).mono ?_
  rintro e w9 ⟨rfl, k9⟩
  rw [Hmay.out.2, show errB true = 0 from rfl]
  have H9 := Lib.hid (go1 k9 H8.out)
  clear c14 l14 c13 l13 k9 H8
  have c14 := cells_at H9.out.1
  have l14 := lt_of_at H9.out.1
  have c13 := cells_at H9.out.2.2.1
  have l13 := lt_of_at H9.out.2.2.1
  go_wp2_with fail
  have hbad : (L ++ [badM]).all chkB = false := by rw [List.all_append]; simp [badM_chk]
  have hl5 : (L ++ [badM]).length = L.length + 1 := by simp
  have Hb5 := Lib.hid (And.intro hbad hl5)
  clear hbad hl5
  refine (askCheck_spec w9 _ (L ++ [badM]) 0 0 H9.out.2.1 (fun m hm => by
    rcases List.mem_append.1 hm with hm | hm
    · exact Hsz.out m hm
    · obtain rfl := List.mem_singleton.1 hm
      decide)).mono ?_
  rintro e w10 ⟨rfl, k10⟩
  rw [Hb5.out.1, show errB false = 1 from rfl]
  have H10 := Lib.hid (go1 k10 H9.out.2.2)
  clear c14 l14 c13 l13 k10 H9
  have c13 := cells_at H10.out.1
  have l13 := lt_of_at H10.out.1
  go_wp2_with fail
  refine (ofQ_spec w10 _ _ A L from_ to_ H10.out.2.2.2.1 Hg.out.2.1 Hg.out.2.2 H10.out.2.1 Hmay.out.1).mono ?_
  rintro e w11 ⟨v11, rfl, hT, k11⟩
  obtain ⟨X, hX⟩ : ∃ X, X = betT from_ to_ (A.filter (fitR L)) := ⟨_, rfl⟩
  rw [← hX] at hT
  have HX := Lib.hid (And.intro hX (show FewT X from by rw [hX]; exact betT_few ⟨Nat.le_trans (List.length_filter_le _ _) Hg.out.2.1.1, fun r hr => Hg.out.2.1.2 r (List.mem_filter.1 hr).1⟩))
  have H11 := Lib.hid (And.intro (hT.base (Nat.zero_le _)) (go1 k11 H10.out.2.2))
  obtain ⟨a11, c11, rfl⟩ := hT.form
  clear c13 l13 hT hX k11 H10
  go_wp2_with fail
  refine (told14_spec w11 _ X H11.out.1 HX.out.2).mono ?_
  rintro e w12 ⟨v12, rfl, hT, k12⟩
  have H12 := Lib.hid (And.intro (hT.base (Nat.zero_le _)) (go1 k12 H11.out.2))
  obtain ⟨a12, c12, rfl⟩ := hT.form
  have k13 : Keeps [] w12 (w12.alloc (.cells #[] 96)) := (Keeps.refl [] w12).alloc _
  have H13 := Lib.hid (And.intro (tab_made (tr := 96) (tp := 140) (own_made w12 0 96 2 (Nat.zero_le _))) (go1 k13 H12.out))
  clear hT k12 k13 H11 H12
  go_wp2_with fail
  generalize w12.alloc (.cells #[] 96) = w13 at H13 ⊢
  generalize w12.heap.size = p15 at H13 ⊢
  refine (addQ_spec w13 _ _ A from_ to_ _ L H13.out.1 H13.out.2.2.2.2.1 Hg.out.2.1 Hg.out.1 H13.out.2.2.1 Hmay.out.1).mono ?_
  rintro e w14 ⟨v14, rfl, hT, k14⟩
  rw [← HX.out.1] at hT
  have H14 := Lib.hid (And.intro hT (go1 k14 H13.out.2))
  obtain ⟨a14, c14, rfl⟩ := hT.form
  clear hT k14 H13
  go_wp2_with fail
  refine (same14_spec w14 _ _ X H14.out.2.1 H14.out.1 HX.out.2).mono ?_
  rintro e w15 ⟨rfl, k15⟩
  go_wp2_with fail
  go_ret
  exact ⟨rfl, H14.out.2.2.2.2.2.2.trans k15⟩

theorem queryAsks_law (w : World) (hv : LibVar w) (v0 : Value) (h0 : O14At w v0) (from_ : Int) (_w1 : (Lit.int .i64 from_).wf = true) (to_ : Int) (_w2 : (Lit.int .i64 to_).wf = true) (v3 : Value) (h3 : ∃ M : List MatB, MatsAt w v3 M) :
    Calls Tryz.prog 4 #[v0, .int .i64 from_, .int .i64 to_, v3] w fun e w' => e = .returned (.bool true) ∧ Keeps [] w w' := by
  obtain ⟨LO, hL, hpos⟩ := h0
  obtain ⟨M, hM⟩ := h3
  exact queryAsks_walk w hv v0 LO hL hpos from_ to_ v3 M hM
end Go.Proofs.YtlifonflgcfafaaGreatDoor
