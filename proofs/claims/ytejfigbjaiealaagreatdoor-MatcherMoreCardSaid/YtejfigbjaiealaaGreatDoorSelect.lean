/-
  Package matcher: with and Select; the document's Select; walked.
  The index is one of few series (Idx).
-/
import Derived.Test.YtejfigbjaiealaaGreatDoorSelLaw
import Derived.Test.YtejfigbjaiealaaGreatDoorFew13
namespace Go.Proofs.YtejfigbjaiealaaGreatDoor
open Go Go.RowKit

theorem infoListS : (Tryz.prog.info? 36).map (fun i => (i.zero, i.size, i.bytes)) = some (some (.slice none 0 0), 1, 24) := by kernel_rfl

/-- Lists of the walk's own, in a slice of its own. -/
def RowsD (B : Nat) (w : World) (v : Value) (VS : List Value) (LL : List (List Int)) : Prop :=
  w.ownsRow B 36 1 v VS.length VS ∧ VS.length = LL.length ∧ ∀ i (_ : i < VS.length) (h' : i < LL.length), Own B w VS[i] LL[i]

theorem RowsD.keep {B : Nat} {w w' : World} {v : Value} {VS : List Value} {LL : List (List Int)} (h : RowsD B w v VS LL) (k : Keeps [] w w') : RowsD B w' v VS LL := ⟨go1 k h.1, h.2.1, fun i hi hi' => go1 k (h.2.2 i hi hi')⟩

instance go1RowsD {w w' : World} (B : Nat) (v : Value) (VS : List Value) (LL : List (List Int)) : Go1 w w' (RowsD B w v VS LL) (RowsD B w' v VS LL) := ⟨fun k h => h.keep k⟩

theorem RowsD.rows {B : Nat} {w : World} {v : Value} {VS : List Value} {LL : List (List Int)} (h : RowsD B w v VS LL) : Rows2 B w v LL := rows2_of h.1 h.2.1 fun i hi hi' => (h.2.2 i hi hi').ints

theorem rowsD_nil (B : Nat) (w : World) : RowsD B w (.slice none 0 0) [] [] := ⟨World.ownsRow_nil _ _ _ 1, rfl, fun i hi => by simp at hi⟩

theorem rowsD_snoc {B : Nat} {w w' : World} {v v' u : Value} {VS : List Value} {LL : List (List Int)} {l : List Int} (h : RowsD B w v VS LL) (ho : Own B w u l) (t : Turns v w v' w') (hr : w'.ownsRow B 36 1 v' (VS.length + 1) (VS ++ [u])) : RowsD B w' v' (VS ++ [u]) (LL ++ [l]) := by
  have k : ∀ {u : Value} {l : List Int}, Own B w u l → Own B w' u l := fun hu => t.keeps.row hu (rows_ne2 h.1 hu (by decide))
  refine ⟨by rw [List.length_append]; exact hr, by simp [h.2.1], fun i hi hi' => ?_⟩
  by_cases hlt : i < VS.length
  · rw [List.getElem_append_left hlt, List.getElem_append_left (by have := h.2.1; omega)]
    exact k (h.2.2 i hlt (by have := h.2.1; omega))
  · have e1 : i = VS.length := by simp at hi; omega
    subst e1
    have e2 := h.2.1
    rw [List.getElem_append_right (Nat.le_refl _), List.getElem_append_right (by omega)]
    simp [e2]
    exact k ho

theorem listsAt_snoc (T : List SerT) (nm : ByteArray) (V : List ByteArray) (y : ByteArray) : listsAt T nm (V ++ [y]) = listsAt T nm V ++ [putAll (getXs nm y T)] := by simp [listsAt]

theorem rows_pair {W : World} {u v : Value} {l m : List Int} (h : Ints 0 W u l) (h2 : Ints 0 W v m) : Rows2 0 (W.alloc (.cells #[u, v] 36)) (.slice (some ⟨W.heap.size, 0, none⟩) 2 2) [l, m] :=
  rows2_new2 (heap_new W _) (Nat.zero_le _) (h.keep ((Keeps.refl [] W).alloc _) (by simp)) (h2.keep ((Keeps.refl [] W).alloc _) (by simp))

def WithRel (wb : World) (T : List SerT) (m : MatB) (vals : List ByteArray) (gk : Nat) (u5 u13 : Value) (wr : World) : Prop :=
  ∃ (i : Nat) (VS : List Value), i ≤ vals.length ∧ VS.length ≤ i ∧ gk = vals.length - i ∧ u13 = .int .i64 i ∧ RowsD wb.heap.size wr u5 VS (listsAt T m.2.1 ((vals.take i).filter (fitsB m.1 m.2.2))) ∧ Keeps [] wb wr

theorem filter_snocT {p : ByteArray → Bool} {V : List ByteArray} {y : ByteArray} (h : p y = true) : (V ++ [y]).filter p = V.filter p ++ [y] := by simp [List.filter_append, h]

theorem filter_snocF {p : ByteArray → Bool} {V : List ByteArray} {y : ByteArray} (h : p y = false) : (V ++ [y]).filter p = V.filter p := by simp [List.filter_append, h]

set_option linter.unusedSimpArgs false in
set_option maxRecDepth 100000 in
set_option maxHeartbeats 2000000 in
theorem with_spec (w : World) (x : Nat) (T : List SerT) (h : Idx w x T) (k : Int) (name : ByteArray) (v : Value) (V : List ByteArray) (hv : SliceArg 1 encS1 w v V) (hmay : mayK (k, name, V)) :
    Calls Tryz.prog 41 #[.agg #[.int .i64 k, .string name, v], .pointer (some ⟨x, 0, none⟩)] w fun e w' => ∃ v', e = .returned v' ∧ Own w.heap.size w' v' (withL T (k, name, V)) ∧ Keeps [] w w' := by
  have Hd := Lib.hid (And.intro h.dist.1 (And.intro h.few hmay))
  obtain ⟨a0, c0, rfl, -, -⟩ := id hv
  have kA : Keeps [] w (w.alloc (.cells #[.int .i64 k, .string name, .slice a0 V.length c0] 85)) := (Keeps.refl [] w).alloc _
  have H0 := Lib.hid (And.intro (go1 kA (And.intro h hv)) (And.intro (heap_new w (.cells #[.int .i64 k, .string name, .slice a0 V.length c0] 85)) kA))
  clear kA h hv hmay
  go_enter Tryz.func41, Tryz.ntmps41
  go_upto_region 2 with fail
  generalize hwa : w.alloc (.cells #[.int .i64 k, .string name, .slice a0 V.length c0] 85) = wa at H0 ⊢
  clear hwa
  have cs := cells_at H0.out.2.1
  have ls := lt_of_at H0.out.2.1
  go_wp2_with fail
  refine (valuesD_spec wa x T name H0.out.1.1).mono ?_
  rintro e w1 ⟨v1, rfl, hrow1, hk1⟩
  obtain ⟨vals, hvals⟩ : ∃ vals, vals = valsOf T name := ⟨_, rfl⟩
  rw [show insAll (valX name (allP T)) = vals from hvals.symm] at hrow1
  have HV := Lib.hid hvals
  clear hvals
  have H1 := Lib.hid (And.intro (go1 hk1 H0.out) (OwnS.strs hrow1))
  have hvl : vals.length ≤ 1000000 := by
    have h1 : vals.length ≤ (allP T).length := by
      rw [HV.out]
      exact Nat.le_trans (insAll_good _).2.2 (valX_len _ _)
    have h2 := Idx.pairs H0.out.1.1
    omega
  obtain ⟨a1, c1, rfl, -, -, -⟩ := row_slice hrow1
  clear hrow1 hk1 cs ls H0
  go_wp2_with fail
  go_loopg [5, 13] vals.length (WithRel w1 T (k, name, V) vals)
  case atStart => exact ⟨0, [], Nat.zero_le _, Nat.le_refl _, rfl, rfl, rowsD_nil _ _, Keeps.refl [] w1⟩
  case round =>
    obtain ⟨i, VS, hi, hVS, hgk, rfl, hrd, hkw⟩ := hrel
    have Hg := Lib.hid hgk
    clear hgk
    obtain ⟨a5, c5, rfl, -, -, -⟩ := row_slice hrd.1
    by_cases hlt : i < vals.length
    · obtain ⟨b, of, ea, hb, d0⟩ := sf_at1 (go1 hkw H1.out.2) i hlt
      subst ea
      have hlt' : (i : Int) < (vals.length : Int) := by omega
      have htk := List.take_succ_eq_append_getElem hlt
      generalize vals[i] = y at d0 htk
      have Htk := Lib.hid htk
      have H2 := Lib.hid (And.intro (go1 hkw H1.out.1) (And.intro hrd hkw))
      have cs := cells_at H2.out.1.2.1
      have ls := lt_of_at H2.out.1.2.1
      clear hrd hkw htk
      go_wp2_with fail
      refine (fits_spec _ k Hd.out.2.2.1 name _ V H2.out.1.1.2 Hd.out.2.2.2 y).mono ?_
      rintro e w2 ⟨rfl, hk2⟩
      have H3 := Lib.hid (And.intro (go1 hk2 H2.out.1) (go1 hk2 H2.out.2))
      clear hk2 H2 cs ls d0 hb
      have cs := cells_at H3.out.1.2.1
      have ls := lt_of_at H3.out.1.2.1
      cases hf : fitsB k V y with
      | true =>
        have Hf := Lib.hid hf
        clear hf
        go_wp2_with fail
        refine (getD_spec w2 x T name y H3.out.1.1.1).mono ?_
        rintro e w3 ⟨v3, rfl, hrow3, hk3⟩
        have H4 := Lib.hid (And.intro (row_base (b' := w1.heap.size) hrow3 H3.out.2.2.size) (go1 hk3 H3.out.2))
        have hsz := (H3.out.2.2.trans hk3).size
        obtain ⟨a3, c3, rfl, -, -, -⟩ := row_slice hrow3
        clear hrow3 hk3 cs ls H3
        go_wp2_with (at_builtin; refine row_append1 rfl (.tmp 20) (.tmp 26) 92 36 infoListS (by rfl) (by decide) Tryz.underlying92 rfl w1.heap.size (.slice a5 VS.length c5) VS (.slice a3 (putAll (getXs name y T)).length c3) (by rfl) VS.length rfl rfl H4.out.2.1.1 rfl (by omega) hsz ?_; intro ao9 cp9 w9 hown9 hturn9)
        have h9 := rowsD_snoc H4.out.2.1 H4.out.1 hturn9 hown9
        have k9 : Keeps [] w1 w9 := H4.out.2.2.after hturn9.keeps (fun y hy => .inr (by
          exact (World.ownsRow.lt H4.out.2.1.1 y (by simpa using hy)).1))
        have H5 := Lib.hid (And.intro h9 k9)
        clear hown9 hturn9 h9 k9
        go_wp2_with fail
        go_roundg (vals.length - (i + 1))
        case measure => have := Hg.out; omega
        case rel =>
          refine ⟨i + 1, VS ++ [.slice a3 (putAll (getXs name y T)).length c3], hlt, by rw [List.length_append]; simpa using hVS, rfl, by go_num, ?_, H5.out.2⟩
          rw [Htk.out, filter_snocT (p := fitsB k V) Hf.out, listsAt_snoc]
          have h := H5.out.1
          exact h
      | false =>
        have Hf := Lib.hid hf
        clear hf cs ls
        go_wp2_with fail
        go_roundg (vals.length - (i + 1))
        case measure => have := Hg.out; omega
        case rel => exact ⟨i + 1, VS, hlt, by omega, rfl, by go_num, by rw [Htk.out, filter_snocF (p := fitsB k V) Hf.out]; exact H3.out.2.1, H3.out.2.2⟩
    · have hge : ¬ (i : Int) < (vals.length : Int) := by omega
      have hin := Lib.hid (show vals.take i = vals from List.take_of_length_le (by omega))
      have H2 := Lib.hid (And.intro hrd.rows (H1.out.1.2.2.trans hkw))
      clear hrd hkw
      go_wp2_with fail
      refine (any_spec w1.heap.size _ _ _ H2.out.1 (Nat.le_trans (listsAt_len Hd.out.1 _ ((by rw [hin.out, HV.out]; exact valsOf_nodup T name : ((vals.take i)).Nodup).filter _)) (by have := Hd.out.2.1; omega))).mono ?_
      rintro e w3 ⟨v3, rfl, hrow3, hk3⟩
      have H3 := Lib.hid (And.intro (row_base (b' := w.heap.size) hrow3 H2.out.2.size) (H2.out.2.trans hk3))
      clear hrow3 hk3
      go_wp2_with fail
      go_ret
      refine ⟨_, rfl, ?_, H3.out.2⟩
      have h := H3.out.1
      rw [hin.out, HV.out] at h
      exact h

def HaveRel (wb : World) (T : List SerT) (nm : ByteArray) (vals : List ByteArray) (gk : Nat) (u9 u30 : Value) (wr : World) : Prop :=
  ∃ (i : Nat) (VS : List Value), i ≤ vals.length ∧ VS.length ≤ i ∧ gk = vals.length - i ∧ u30 = .int .i64 i ∧ RowsD wb.heap.size wr u9 VS (listsAt T nm (vals.take i)) ∧ Keeps [] wb wr

def SelRel (w : World) (T : List SerT) (L : List MatB) (gk : Nat) (u5 u16 : Value) (wr : World) : Prop :=
  ∃ i, i ≤ L.length ∧ gk = L.length - i ∧ u16 = .int .i64 i ∧ Own w.heap.size wr u5 (selL T (L.take i)) ∧ Keeps [] w wr

theorem bothP_two (a b : List Int) : bothP [a, b] = meetL a b := rfl

set_option linter.unusedSimpArgs false in
set_option maxRecDepth 100000 in
set_option maxHeartbeats 4000000 in
theorem select_spec (w : World) (x : Nat) (T : List SerT) (h : Idx w x T) (vm : Value) (L : List MatB) (hm : MatsAt w vm L) (hmay : ∀ m ∈ L, mayK m) :
    Calls Tryz.prog 20 #[.pointer (some ⟨x, 0, none⟩), vm] w fun e w' => ∃ v', e = .returned v' ∧ Own w.heap.size w' v' (selL T L) ∧ Keeps [] w w' := by
  have Hd := Lib.hid (And.intro h.dist.1 (And.intro h.few (And.intro hmay h.pairs)))
  have H0 := Lib.hid (And.intro h hm)
  obtain ⟨am, cm, rfl, hLm⟩ := hm.form
  unfold maxLen at hLm
  clear h hm hmay
  go_enter Tryz.func20, Tryz.ntmps20
  go_wp2_with fail
  refine (allD_spec w x T H0.out.1).mono ?_
  rintro e w1 ⟨v1, rfl, hrow1, hk1⟩
  have H1 := Lib.hid (And.intro (show Own w.heap.size w1 v1 (selL T (L.take 0)) from hrow1) hk1)
  obtain ⟨a1, c1, rfl, -, -, -⟩ := row_slice hrow1
  clear hrow1 hk1
  go_wp2_with fail
  go_loopg [5, 16] L.length (SelRel w T L)
  case atStart => exact ⟨0, Nat.zero_le _, rfl, rfl, H1.out.1, H1.out.2⟩
  case round =>
    obtain ⟨i, hi, hgk, rfl, hout, hkw⟩ := hrel
    have Hg := Lib.hid hgk
    clear hgk H1
    obtain ⟨O, hO⟩ : ∃ O, O = selL T (L.take i) := ⟨_, rfl⟩
    rw [← hO] at hout
    have HO := Lib.hid hO
    have hOl : O.length ≤ 12 := by rw [hO]; exact Nat.le_trans (selL_len T _) Hd.out.2.1
    have hOr : Rises O := by rw [hO]; exact selL_rises T _
    have HOr := Lib.hid hOr
    clear hO hOr
    obtain ⟨a5, c5, rfl, -, -, -⟩ := row_slice hout
    by_cases hlt : i < L.length
    · obtain ⟨b, off, cap', u, ea, hbW, d0, d1, d2, hu⟩ := (H0.out.2.keep hkw).at_ i hlt
      injection ea with ea _ ec
      subst ea ec
      have hlt' : (i : Int) < (L.length : Int) := by omega
      have hmk := Hd.out.2.2.1 L[i] (List.getElem_mem hlt)
      have htk := List.take_succ_eq_append_getElem hlt
      generalize L[i] = m at d0 d1 hu hmk htk
      obtain ⟨mk, mn, mv⟩ := m
      dsimp only at d0 d1 hu hmk
      have HM := Lib.hid (And.intro hmk (show selL T (L.take (i + 1)) = meetL O (askL T (mk, mn, mv)) from by rw [htk, selL_snoc, HO.out]))
      obtain ⟨ua, uc, rfl, -, -⟩ := id hu
      have kA : Keeps [] wr (wr.alloc (.cells #[.int .i64 mk, .string mn, .slice ua mv.length uc] 85)) := (Keeps.refl [] wr).alloc _
      have H2 := Lib.hid (And.intro (go1 kA (And.intro (go1 hkw H0.out.1) (And.intro hu trivial))) (And.intro (heap_new wr (.cells #[.int .i64 mk, .string mn, .slice ua mv.length uc] 85)) (go1 kA (And.intro hout hkw))))
      clear kA hout hkw hu hmk htk
      go_upto_region 5 with fail
      clear d0 d1 d2 hbW
      generalize hwa : wr.alloc (.cells #[.int .i64 mk, .string mn, .slice ua mv.length uc] 85) = wa at H2 ⊢
      generalize hpb : wr.heap.size = pb at H2 ⊢
      clear hwa hpb
      have cs := cells_at H2.out.2.1
      have ls := lt_of_at H2.out.2.1
      go_wp2_with fail
      refine (with_spec wa x T H2.out.1.1 mk mn _ mv H2.out.1.2.1 HM.out.1).mono ?_
      rintro e w3 ⟨v3, rfl, hrow3, hk3⟩
      have H3 := Lib.hid (And.intro hrow3.ints (go1 hk3 H2.out))
      have hWr := Lib.hid (And.intro (show Rises (withL T (mk, mn, mv)) from anyL_rises _) (Nat.le_trans (anyAt_len Hd.out.1 mn ((valsOf_nodup T mn).filter (fitsB mk mv))) Hd.out.2.1 : (withL T (mk, mn, mv)).length ≤ 12))
      obtain ⟨a3, c3, rfl, -, -, -⟩ := row_slice hrow3
      clear hrow3 hk3 H2 cs ls
      have cs := cells_at H3.out.2.2.1
      have ls := lt_of_at H3.out.2.2.1
      go_wp2_with fail
      refine (fits_spec w3 mk HM.out.1.1 mn _ mv H3.out.2.1.2.1 HM.out.1.2 ⟨#[]⟩).mono ?_
      rintro e w4 ⟨rfl, hk4⟩
      have H4 := Lib.hid (go1 hk4 H3.out)
      clear hk4 H3 cs ls
      cases hf : fitsB mk mv ⟨#[]⟩ with
      | true =>
        have Hf := Lib.hid (show askL T (mk, mn, mv) = anyL [withL T (mk, mn, mv), lessL (allL T) (haveL T mn)] from if_pos hf)
        clear hf
        have cs := cells_at H4.out.2.2.1
        have ls := lt_of_at H4.out.2.2.1
        go_wp2_with fail
        refine (valuesD_spec w4 x T mn H4.out.2.1.1).mono ?_
        rintro e w5 ⟨v5, rfl, hrow5, hk5⟩
        obtain ⟨vals, hvals⟩ : ∃ vals, vals = valsOf T mn := ⟨_, rfl⟩
        rw [show insAll (valX mn (allP T)) = vals from hvals.symm] at hrow5
        have HV := Lib.hid hvals
        clear hvals
        have hvl : vals.length ≤ 1000000 := by
          have h1 : vals.length ≤ (allP T).length := by
            rw [HV.out]
            exact Nat.le_trans (insAll_good _).2.2 (valX_len _ _)
          have h2 := Hd.out.2.2.2
          omega
        have H5 := Lib.hid (And.intro (go1 hk5 H4.out) (OwnS.strs hrow5))
        obtain ⟨a5', c5', rfl, -, -, -⟩ := row_slice hrow5
        clear hrow5 hk5 H4 cs ls
        go_wp2_with fail
        go_loopg [9, 30] vals.length (HaveRel w5 T mn vals)
        case atStart => exact ⟨0, [], Nat.zero_le _, Nat.le_refl _, rfl, rfl, rowsD_nil _ _, Keeps.refl [] w5⟩
        case round =>
          obtain ⟨j, VS, hj, hVS, hgj, rfl, hrd, hkb⟩ := hrel
          have Hgj := Lib.hid hgj
          clear hgj
          obtain ⟨a9, c9, rfl, -, -, -⟩ := row_slice hrd.1
          by_cases hltj : j < vals.length
          · obtain ⟨b7, of7, ea, hb7, d0⟩ := sf_at1 (go1 hkb H5.out.2) j hltj
            subst ea
            have hltj' : (j : Int) < (vals.length : Int) := by omega
            have htk := List.take_succ_eq_append_getElem hltj
            generalize vals[j] = y at d0 htk
            have Htk := Lib.hid htk
            have H6 := Lib.hid (And.intro (go1 hkb H5.out.1) (And.intro hrd hkb))
            have cs := cells_at H6.out.1.2.2.1
            have ls := lt_of_at H6.out.1.2.2.1
            clear hrd hkb htk
            go_wp2_with fail
            refine (getD_spec _ x T mn y H6.out.1.2.1.1).mono ?_
            rintro e w7 ⟨v7, rfl, hrow7, hk7⟩
            have H7 := Lib.hid (And.intro (row_base (b' := w5.heap.size) hrow7 H6.out.2.2.size) (go1 hk7 H6.out.2))
            have hsz := (H6.out.2.2.trans hk7).size
            obtain ⟨a7, c7, rfl, -, -, -⟩ := row_slice hrow7
            clear hrow7 hk7 cs ls H6 d0 hb7
            go_wp2_with (at_builtin; refine row_append1 rfl (.tmp 34) (.tmp 40) 92 36 infoListS (by rfl) (by decide) Tryz.underlying92 rfl w5.heap.size (.slice a9 VS.length c9) VS (.slice a7 (putAll (getXs mn y T)).length c7) (by rfl) VS.length rfl rfl H7.out.2.1.1 rfl (by omega) hsz ?_; intro ao9 cp9 w9 hown9 hturn9)
            have h9 := rowsD_snoc H7.out.2.1 H7.out.1 hturn9 hown9
            have k9 : Keeps [] w5 w9 := H7.out.2.2.after hturn9.keeps (fun y hy => .inr (by
              exact (World.ownsRow.lt H7.out.2.1.1 y (by simpa using hy)).1))
            have H8 := Lib.hid (And.intro h9 k9)
            clear hown9 hturn9 h9 k9
            go_wp2_with fail
            go_roundg (vals.length - (j + 1))
            case measure => have := Hgj.out; omega
            case rel =>
              refine ⟨j + 1, VS ++ [.slice a7 (putAll (getXs mn y T)).length c7], hltj, by rw [List.length_append]; simpa using hVS, rfl, by go_num, ?_, H8.out.2⟩
              rw [Htk.out, listsAt_snoc]
              have h := H8.out.1
              exact h
          · have hgej : ¬ (j : Int) < (vals.length : Int) := by omega
            have hin : vals.take j = vals := List.take_of_length_le (by omega)
            rw [hin, HV.out] at hrd
            have H6 := Lib.hid (And.intro hrd.rows (go1 hkb H5.out.1))
            clear hrd hkb hin
            go_wp2_with fail
            refine (allD_spec _ x T H6.out.2.2.1.1).mono ?_
            rintro e wB ⟨vB, rfl, hrowB, hkB⟩
            have HB := Lib.hid (And.intro (show Ints _ wB vB (allL T) from hrowB.ints) (go1 hkB H6.out))
            obtain ⟨aB, cB, rfl, -, -, -⟩ := row_slice hrowB
            clear hrowB hkB H6
            go_wp2_with fail
            refine (any_spec w5.heap.size _ _ _ HB.out.2.1 (Nat.le_trans (listsAt_len Hd.out.1 _ (valsOf_nodup T mn)) (by have := Hd.out.2.1; omega))).mono ?_
            rintro e wC ⟨vC, rfl, hrowC, hkC⟩
            have HC := Lib.hid (And.intro (show Ints _ wC vC (haveL T mn) from hrowC.ints) (go1 hkC (And.intro HB.out.1 HB.out.2.2)))
            have hHl : (haveL T mn).length ≤ 12 := Nat.le_trans (anyAt_len Hd.out.1 mn (valsOf_nodup T mn)) Hd.out.2.1
            have hHr : Rises (haveL T mn) := anyL_rises _
            have HHr := Lib.hid hHr
            clear hHr
            obtain ⟨aC, cC, rfl, -, -, -⟩ := row_slice hrowC
            clear hrowC hkC HB
            have hAl : (allL T).length ≤ 12 := Nat.le_trans (allL_len T) Hd.out.2.1
            go_wp2_with fail
            refine (less_spec 0 _ _ _ (allL T) (haveL T mn) (HC.out.2.1.low (Nat.zero_le _)) (HC.out.1.low (Nat.zero_le _)) (allL_rises T) HHr.out (by omega) (by omega)).mono ?_
            rintro e wD ⟨vD, rfl, hrowD, hkD⟩
            have HD := Lib.hid (And.intro (hrowD.ints.low (Nat.zero_le _)) (go1 hkD HC.out.2.2))
            have hDl := lessL_len (allL T) (haveL T mn)
            obtain ⟨aD, cD, rfl, -, -, -⟩ := row_slice hrowD
            clear hrowD hkD HC
            have hWl := hWr.out.2
            go_wp2_with fail
            refine (any_spec 0 _ _ [withL T (mk, mn, mv), lessL (allL T) (haveL T mn)] (rows_pair (HD.out.2.1.low (Nat.zero_le _)) HD.out.1) (by simp only [List.flatten_cons, List.flatten_nil, List.append_nil, List.length_append]; omega)).mono ?_
            rintro e wE ⟨vE, rfl, hrowE, hkE⟩
            rw [← Hf.out] at hrowE
            have kE := ((Keeps.refl [] wD).alloc (.cells #[.slice a3 (withL T (mk, mn, mv)).length c3, .slice aD (lessL (allL T) (haveL T mn)).length cD] 36)).trans hkE
            have HE := Lib.hid (And.intro (hrowE.ints.low (Nat.zero_le _)) (go1 kE HD.out.2.2.2.2))
            have hEl := askL_len Hd.out.1 (mk, mn, mv)
            have hTl := Hd.out.2.1
            obtain ⟨aE, cE, rfl, -, -, -⟩ := row_slice hrowE
            clear hrowE hkE HD kE
            go_wp2_with fail
            refine (both_spec 0 _ _ [O, askL T (mk, mn, mv)] (rows_pair ((Own.ints HE.out.2.1).low (Nat.zero_le _)) HE.out.1) (by
              intro l hl
              simp only [List.mem_cons, List.not_mem_nil, or_false] at hl
              rcases hl with rfl | rfl
              · exact HOr.out
              · exact askL_rises T _) (by
              intro l hl
              simp only [List.mem_cons, List.not_mem_nil, or_false] at hl
              rcases hl with rfl | rfl <;> omega) (Nat.zero_le _)).mono ?_
            rintro e wF ⟨vF, rfl, hrowF, hkF⟩
            rw [bothP_two, ← HM.out.2] at hrowF
            have kF := HE.out.2.2.trans (((Keeps.refl [] _).alloc _).trans hkF)
            have HF := Lib.hid (And.intro (row_base (b' := w.heap.size) hrowF (HE.out.2.2.trans ((Keeps.refl [] _).alloc _)).size) kF)
            clear hrowF hkF kF
            go_wp2_with fail
            go_roundg (L.length - (i + 1))
            case measure => have := Hg.out; omega
            case rel => exact ⟨i + 1, hlt, rfl, by go_num, HF.out.1, HF.out.2⟩
      | false =>
        have Hf := Lib.hid (show askL T (mk, mn, mv) = withL T (mk, mn, mv) from if_neg (by rw [hf]; decide))
        clear hf
        have hEl := askL_len Hd.out.1 (mk, mn, mv)
        have hTl := Hd.out.2.1
        have h40 := H4.out.1.low (Nat.zero_le _)
        rw [← Hf.out] at h40
        have HE := Lib.hid (And.intro h40 (H4.out.2.2.2))
        clear h40 H4
        rw [← Hf.out]
        go_wp2_with fail
        refine (both_spec 0 _ _ [O, askL T (mk, mn, mv)] (rows_pair ((Own.ints HE.out.2.1).low (Nat.zero_le _)) HE.out.1) (by
          intro l hl
          simp only [List.mem_cons, List.not_mem_nil, or_false] at hl
          rcases hl with rfl | rfl
          · exact HOr.out
          · exact askL_rises T _) (by
          intro l hl
          simp only [List.mem_cons, List.not_mem_nil, or_false] at hl
          rcases hl with rfl | rfl <;> omega) (Nat.zero_le _)).mono ?_
        rintro e wF ⟨vF, rfl, hrowF, hkF⟩
        rw [bothP_two, ← HM.out.2] at hrowF
        have kF := HE.out.2.2.trans (((Keeps.refl [] _).alloc _).trans hkF)
        have HF := Lib.hid (And.intro (row_base (b' := w.heap.size) hrowF (HE.out.2.2.trans ((Keeps.refl [] _).alloc _)).size) kF)
        clear hrowF hkF kF
        go_wp2_with fail
        go_roundg (L.length - (i + 1))
        case measure => have := Hg.out; omega
        case rel => exact ⟨i + 1, hlt, rfl, by go_num, HF.out.1, HF.out.2⟩
    · have hge : ¬ (i : Int) < (L.length : Int) := by omega
      have hin := Lib.hid (show L.take i = L from List.take_of_length_le (by omega))
      have H2 := Lib.hid (And.intro hout hkw)
      clear hout hkw
      go_wp2_with fail
      go_ret
      refine ⟨_, rfl, ?_, H2.out.2⟩
      have e : O = selL T L := by rw [HO.out, hin.out]
      rw [← e]
      exact H2.out.1

def SelR (w : World) (TV : List SerV) (L : List MatB) (gk : Nat) (u5 u11 : Value) (wr : World) : Prop :=
  ∃ k, k ≤ TV.length ∧ gk = TV.length - k ∧ u11 = .int .i64 k ∧ Own w.heap.size wr u5 (putAll ((((TV.take k).map (·.1)).filter fun s => L.all (fitsM s.2)).map (·.1))) ∧ Keeps [] w wr

theorem filt_yes {T : List SerT} {s : SerT} {p : SerT → Bool} (h : p s = true) : ((T ++ [s]).filter p).map (·.1) = (T.filter p).map (·.1) ++ [s.1] := by simp [List.filter_append, h]

theorem filt_no {T : List SerT} {s : SerT} {p : SerT → Bool} (h : p s = false) : ((T ++ [s]).filter p).map (·.1) = (T.filter p).map (·.1) := by simp [List.filter_append, h]

set_option linter.unusedSimpArgs false in
set_option maxRecDepth 100000 in
set_option maxHeartbeats 2000000 in
theorem selectR_spec (w : World) (v : Value) (TV : List SerV) (h : ToldR w v TV) (hl : TV.length ≤ 12) (vm : Value) (L : List MatB) (hm : MatsAt w vm L) (hmay : ∀ m ∈ L, mayK m) :
    Calls Tryz.prog 21 #[v, vm] w fun e w' => ∃ v', e = .returned v' ∧ Own w.heap.size w' v' (putAll (((TV.map (·.1)).filter fun s => L.all (fitsM s.2)).map (·.1))) ∧ Keeps [] w w' := by
  have Hf := Lib.hid (And.intro h (And.intro hm hmay))
  have hmx := h.row
  obtain ⟨ao, cap, rfl, -, -, -, -⟩ := hmx
  obtain ⟨am, cm, rfl, -⟩ := hm.form
  have H0 := Lib.hid (And.intro (own_made w w.heap.size 3 1 (Nat.le_refl _)) ((Keeps.refl [] w).alloc (.cells #[] 3)))
  clear h hm hmay
  go_enter Tryz.func21, Tryz.ntmps21
  go_wp2_with fail
  go_loopg [5, 11] TV.length (SelR w TV L)
  case atStart => exact ⟨0, Nat.zero_le _, rfl, rfl, by simpa [putAll, Own] using H0.out.1, H0.out.2⟩
  case round =>
    obtain ⟨k, hk, hgk, rfl, hrow, hkw⟩ := hrel
    have Hg := Lib.hid hgk
    clear hgk H0
    obtain ⟨X, hXe⟩ : ∃ X, X = putAll ((((TV.take k).map (·.1)).filter fun s => L.all (fitsM s.2)).map (·.1)) := ⟨_, rfl⟩
    have hXl : X.length ≤ 12 := by
      have h1 := putAll_len ((((TV.take k).map (·.1)).filter fun s => L.all (fitsM s.2)).map (·.1))
      have h2 := List.length_filter_le (fun s : SerT => L.all (fitsM s.2)) ((TV.take k).map (·.1))
      rw [List.length_map] at h1
      rw [List.length_map, List.length_take] at h2
      rw [← hXe] at h1
      omega
    rw [← hXe] at hrow
    have HXe := Lib.hid hXe
    clear hXe
    obtain ⟨ax, cx, rfl, -, -, -⟩ := row_slice hrow
    by_cases hlt : k < TV.length
    · obtain ⟨b, off, ea, hb, d0, d1⟩ := ser_at (go1 hkw Hf.out).1.row k hlt
      subst ea
      have hlt' : (k : Int) < (TV.length : Int) := by omega
      have hv1 := (go1 hkw Hf.out).1.ser TV[k] (List.getElem_mem hlt)
      have HX := Lib.hid (mapTake hlt)
      generalize TV[k] = q at d0 d1 hv1 HX
      obtain ⟨⟨n, S⟩, vs⟩ := q
      dsimp only at d0 d1 hv1 HX
      obtain ⟨a2, c2, rfl, -, -, -, -⟩ := id hv1
      have kA : Keeps [] wr (wr.alloc (.cells #[.int .i64 n, .slice a2 S.length c2] 31)) := (Keeps.refl [] wr).alloc _
      have H1 := Lib.hid (And.intro (go1 kA (And.intro hrow (And.intro hkw (And.intro hv1 (go1 hkw Hf.out).2.1)))) (heap_new wr (.cells #[.int .i64 n, .slice a2 S.length c2] 31)))
      clear kA hrow hkw hv1
      go_upto_region 5 with fail
      clear d0 d1 hb
      generalize hwa : wr.alloc (.cells #[.int .i64 n, .slice a2 S.length c2] 31) = wa at H1 ⊢
      generalize hsb : wr.heap.size = sb at H1 ⊢
      clear hwa hsb
      have cs := cells_at H1.out.2
      have ls := lt_of_at H1.out.2
      go_wp2_with fail
      refine (matchR_spec wa _ _ S L H1.out.1.2.2.1.arg H1.out.1.2.2.2 Hf.out.2.2).mono ?_
      rintro e w2 ⟨rfl, hk2⟩
      have H2 := Lib.hid (And.intro (go1 hk2 (And.intro H1.out.1.1 H1.out.1.2.1)) (go1 hk2 H1.out.2))
      clear hk2 H1 cs ls
      have cs := cells_at H2.out.2
      have ls := lt_of_at H2.out.2
      cases hf : L.all (fitsM S) with
      | true =>
        have Hfm := Lib.hid (show (fun s : SerT => L.all (fitsM s.2)) (n, S) = true from hf)
        clear hf
        go_wp2_with fail
        refine (putR_spec w.heap.size _ _ X n (Own.ints H2.out.1.1) (by omega)).mono ?_
        rintro e w5 ⟨v5, rfl, hown5, hk5⟩
        have H5 := Lib.hid (And.intro (row_base (b' := w.heap.size) hown5 H2.out.1.2.size) (H2.out.1.2.trans hk5))
        clear hown5 hk5 cs ls H2
        go_wp2_with fail
        go_roundg (TV.length - (k + 1))
        case measure => have := Hg.out; omega
        case rel => exact ⟨k + 1, hlt, rfl, by go_num, by rw [HX.out, filt_yes Hfm.out, putAll_snoc, ← HXe.out]; exact H5.out.1, H5.out.2⟩
      | false =>
        have Hfm := Lib.hid (show (fun s : SerT => L.all (fitsM s.2)) (n, S) = false from hf)
        clear hf cs ls
        go_wp2_with fail
        go_roundg (TV.length - (k + 1))
        case measure => have := Hg.out; omega
        case rel => exact ⟨k + 1, hlt, rfl, by go_num, by rw [HX.out, filt_no Hfm.out, ← HXe.out]; exact H2.out.1.1, H2.out.1.2⟩
    · have hge : ¬ (k : Int) < (TV.length : Int) := by omega
      have hkn := Lib.hid (show k = TV.length from by omega)
      have Hr := Lib.hid (And.intro hrow hkw)
      clear hrow hkw
      go_wp2_with fail
      go_ret
      have e : X = putAll (((TV.map (·.1)).filter fun s => L.all (fitsM s.2)).map (·.1)) := by rw [HXe.out, hkn.out, List.take_length]
      exact ⟨_, rfl, by rw [← e]; exact Hr.out.1, Hr.out.2⟩
end Go.Proofs.YtejfigbjaiealaaGreatDoor
