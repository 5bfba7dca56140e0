/-
  PostingParts answers true, and leaves all memory that was there as it was.
  The library's variable internal/bytealg.MaxLen holds some number.
-/
import Derived.Test.YtejfigbjaiealaaDoorIdxLaw
import Derived.Test.YtejfigbjaiealaaDoorOnceMap
import Derived.Test.YtejfigbjaiealaaDoorAwake12
import Derived.Test.YtejfigbjaiealaaDoorPostArgs
namespace Go.Proofs.YtejfigbjaiealaaDoor
open Go Go.RowKit

def PartsOut (w : World) (N : List ByteArray) (gk : Nat) (u34 : Value) (wr : World) : Prop := ∃ i, i ≤ N.length ∧ gk = N.length - i ∧ u34 = .int .i64 i ∧ Keeps [] w wr

def PartsVal (wb w5 : World) (sb : Nat) (T : List SerT) (nm : ByteArray) (V : List ByteArray) (gk : Nat) (u43 : Value) (wr : World) : Prop :=
  ∃ j, j ≤ V.length ∧ gk = V.length - j ∧ u43 = .int .i64 j ∧ OnceAt wr sb (catL T nm (V.take j)) ∧ Keeps [sb] w5 wr ∧ Keeps [] wb wr

def PartsNum (wb wc : World) (sb : Nat) (C l : List Int) (gk : Nat) (u56 : Value) (wr : World) : Prop :=
  ∃ k, k ≤ l.length ∧ gk = l.length - k ∧ u56 = .int .i64 k ∧ OnceAt wr sb (C ++ l.take k) ∧ Keeps [sb] wc wr ∧ Keeps [] wb wr

def HaveOut (wb : World) (TV : List SerV) (nm : ByteArray) (gk : Nat) (u13 u68 : Value) (wr : World) : Prop :=
  ∃ k, k ≤ TV.length ∧ gk = TV.length - k ∧ u68 = .int .i64 k ∧ u13 = .int .i64 (nmN nm (allP ((TV.take k).map (·.1)))) ∧ Keeps [] wb wr

def HaveIn (wb : World) (L : List PairB) (nm : ByteArray) (h0 : Nat) (gk : Nat) (u13 u75 : Value) (wr : World) : Prop :=
  ∃ j, j ≤ L.length ∧ gk = L.length - j ∧ u75 = .int .i64 j ∧ u13 = .int .i64 ((h0 + nmN nm (L.take j) : Nat) : Int) ∧ Keeps [] wb wr

def RangeRel (wb : World) (sb r : Nat) (C : List Int) (gk : Nat) (_u19 : Value) (wr : World) : Prop := OnceRange wr sb r C gk ∧ Keeps [] wb wr

theorem catL_snoc (T : List SerT) (nm : ByteArray) (V : List ByteArray) {j : Nat} (hj : j < V.length) : catL T nm (V.take (j + 1)) = catL T nm (V.take j) ++ putAll (getXs nm V[j] T) := by
  unfold catL
  rw [List.take_succ_eq_append_getElem hj, List.flatMap_append]
  simp

theorem nodup_take {C l : List Int} (h : (C ++ l).Nodup) {k : Nat} (hk : k < l.length) : l[k] ∉ C ++ l.take k := by
  have e : l = l.take k ++ l[k] :: l.drop (k + 1) := by
    rw [← List.drop_eq_getElem_cons hk, List.take_append_drop]
  rw [e, ← List.append_assoc, List.nodup_append] at h
  exact fun hm => h.2.2 _ hm _ List.mem_cons_self rfl

set_option linter.unusedSimpArgs false in
set_option maxRecDepth 100000 in
set_option maxHeartbeats 4000000 in
theorem postingParts_walk (w : World) (hv : LibVar w) (v : Value) (XS : List (Value × Bool)) (h : SliceArg 2 encOne w v XS) (hok : OnesOk w XS) :
    Calls Tryd.prog 3 #[v] w fun e w' => e = .returned (.bool true) ∧ Keeps [] w w' := by
  have hmm := @run_makeMap Tryd.prog
  have Hf := Lib.hid (And.intro h (And.intro hok hv))
  obtain ⟨av, cv, rfl, -, -⟩ := h
  clear hok hv
  go_enter Tryd.func3, Tryd.ntmps3
  go_wp2_with fail
  refine (growD_spec w _ XS Hf.out.1 Hf.out.2.1).mono ?_
  rintro e w1 ⟨x, vo, TV, rfl, hix, htr, hTl, hser, -, hk1⟩
  obtain ⟨ao, co, rfl, -, -, -, -⟩ := id htr.row
  have Hd := Lib.hid hix.dist
  have H1 := Lib.hid (And.intro hix (And.intro htr (And.intro (go1 hk1 Hf.out.2.2) hk1)))
  have hs10 := Lib.hid (fun (q : SerV) (hq : q ∈ TV) => (hser q hq).len)
  clear hix htr hser hk1
  go_wp2_with fail
  refine (awake12_spec _ H1.out.2.2.1).mono ?_
  rintro e w2 ⟨rfl, hk2⟩
  have H2 := Lib.hid (go1 hk2 (And.intro H1.out.1 (And.intro H1.out.2.1 H1.out.2.2.2)))
  clear hk2 H1
  obtain ⟨T, hT⟩ : ∃ T, T = TV.map (·.1) := ⟨_, rfl⟩
  rw [← hT] at H2 Hd
  have HT := Lib.hid hT
  clear hT
  go_wp2_with fail
  refine (namesD_spec _ x T H2.out.1).mono ?_
  rintro e w3 ⟨v3, rfl, hrow3, hk3⟩
  obtain ⟨N, hN⟩ : ∃ N, N = insAll (nmX (allP T)) := ⟨_, rfl⟩
  rw [← hN] at hrow3
  have hNl : N.length ≤ 120 := by rw [hN]; exact Nat.le_trans (insAll_good _).2.2 (by rw [nmX_len]; exact H2.out.1.pairs)
  have HN := Lib.hid hN
  clear hN
  have H3 := Lib.hid (And.intro (go1 hk3 H2.out) (OwnS.strs hrow3))
  obtain ⟨a3, c3, rfl, -, -, -⟩ := row_slice hrow3
  clear hrow3 hk3 H2
  go_wp2_with fail
  go_loopg [34] N.length (PartsOut w3 N)
  case atStart => exact ⟨0, Nat.zero_le _, rfl, rfl, Keeps.refl [] w3⟩
  case round =>
    obtain ⟨i, hi, hgk, rfl, hkw⟩ := hrel
    have Hg := Lib.hid hgk
    clear hgk
    by_cases hlt : i < N.length
    · obtain ⟨b, of, ea, hb, d0⟩ := sf_at1 (go1 hkw H3.out.2) i hlt
      subst ea
      have hlt' : (i : Int) < (N.length : Int) := by omega
      generalize N[i] = nm at d0
      obtain ⟨w4, rfl⟩ : ∃ wo : World, wo = wr := ⟨_, rfl⟩
      have H4 := Lib.hid (And.intro (go1 hkw H3.out.1) hkw)
      have hkM : Keeps [] w4 (w4.alloc (.map #[] 0)) := (Keeps.refl [] w4).alloc _
      have H5 := Lib.hid (And.intro (go1 hkM H4.out.1) (And.intro (once_new w4) (And.intro hkM (H4.out.2.trans hkM))))
      clear hkw hkM
      go_upto_region 8 with fail
      clear d0 hb
      obtain ⟨sb, hsb⟩ : ∃ sb, sb = w4.heap.size := ⟨_, rfl⟩
      rw [← hsb] at H5 ⊢
      have hsw : w4.heap.size ≤ sb := by omega
      clear hsb
      generalize hwm : w4.alloc (.map #[] 0) = wm at H5 ⊢
      clear hwm
      go_wp2_with fail
      refine (valuesD_spec wm x T nm H5.out.1.1).mono ?_
      rintro e w5 ⟨v5, rfl, hrow5, hk5⟩
      obtain ⟨V, hV⟩ : ∃ V, V = insAll (valX nm (allP T)) := ⟨_, rfl⟩
      rw [← hV] at hrow5
      have hVl : V.length ≤ 120 := by rw [hV]; exact Nat.le_trans (insAll_good _).2.2 (Nat.le_trans (valX_len _ _) H5.out.1.1.pairs)
      have HV := Lib.hid (And.intro hV (show V.Nodup from by rw [hV]; exact insAll_nodup _))
      clear hV
      have hsm := H5.out.2.1.lt
      have H6 := Lib.hid (And.intro (OwnS.strs hrow5) (And.intro (go1 hk5 H5.out.2.1) (H5.out.2.2.1.trans hk5)))
      obtain ⟨a5, c5, rfl, -, -, -⟩ := row_slice hrow5
      clear hrow5 hk5 H5
      go_wp2_with fail
      go_loopg [43] V.length (PartsVal w4 w5 sb T nm V)
      case atStart => exact ⟨0, Nat.zero_le _, rfl, rfl, by simpa [catL] using H6.out.2.1, Keeps.refl _ _, H6.out.2.2⟩
      case round =>
        obtain ⟨j, hj, hgj, rfl, honce, hkS, hkb⟩ := hrel
        have Hgj := Lib.hid hgj
        clear hgj
        by_cases hltj : j < V.length
        · obtain ⟨b5, of5, ea, hb5, d0⟩ := sf_at1 (H6.out.1.keep hkS (fun y hy => by
            obtain rfl : y = sb := by simpa using hy
            exact hsm)) j hltj
          subst ea
          have hltj' : (j : Int) < (V.length : Int) := by omega
          have hne := val_ne (T := T) (nm := nm) (v := V[j]) (by rw [← HV.out.1]; exact List.getElem_mem hltj)
          have hcs := catL_snoc T nm V hltj
          have hnd := catL_nodup Hd.out.1 nm (List.Sublist.nodup (List.take_sublist (j + 1) V) HV.out.2)
          have hcl := catL_len Hd.out.1 nm (List.Sublist.nodup (List.take_sublist (j + 1) V) HV.out.2)
          generalize V[j] = y at d0 hne hcs
          obtain ⟨C, hC⟩ : ∃ C, C = catL T nm (V.take j) := ⟨_, rfl⟩
          obtain ⟨l, hl⟩ : ∃ l, l = putAll (getXs nm y T) := ⟨_, rfl⟩
          rw [← hC] at honce
          rw [hcs, ← hC, ← hl] at hnd hcl
          rw [← hl] at hne
          have hTl2 : T.length ≤ 12 := by rw [HT.out, List.length_map]; exact hTl
          have hrng : ∀ n ∈ l, 0 ≤ n ∧ n < 12 := fun n hn => by
            rw [hl, (putAll_good _).2, mem_getXs] at hn
            obtain ⟨s, hs, rfl, _⟩ := hn
            exact Hd.out.2 s hs
          have Hcs := Lib.hid (And.intro hcs (And.intro hC hl))
          have hlp : 0 < l.length := by
            cases l with
            | nil => exact absurd rfl hne
            | cons a l => simp
          rw [List.length_append] at hcl
          have Hnd := Lib.hid (And.intro hnd hrng)
          clear hcs hC hnd hne hrng
          have H7 := Lib.hid (And.intro honce (And.intro hkS hkb))
          have hsr := honce.lt
          clear honce hkS hkb
          go_wp2_with fail
          refine (getD_spec _ x T nm y (go1 H7.out.2.2 H4.out.1).1).mono ?_
          rintro e w7 ⟨v7, rfl, hrow7, hk7⟩
          rw [← hl] at hrow7
          have H8 := Lib.hid (And.intro (Own.ints hrow7) (And.intro (go1 hk7 H7.out.1) (And.intro (H7.out.2.1.trans (hk7.mono (by simp))) (H7.out.2.2.trans hk7))))
          obtain ⟨a7, c7, rfl, -, -, -⟩ := row_slice hrow7
          have hl0 : ¬ (l.length : Int) = 0 := by omega
          have hl1 : ((l.length : Int) == 0) = false := by rw [beq_eq_false_iff_ne]; omega
          clear hrow7 hk7 d0 hb5 hl H7
          go_wp2_with fail
          go_loopg [56] l.length (PartsNum w4 w7 sb C l)
          case atStart => exact ⟨0, Nat.zero_le _, rfl, rfl, by simpa using H8.out.2.1, Keeps.refl _ _, H8.out.2.2.2⟩
          case round =>
            obtain ⟨k, hk, hgk, rfl, honce, hkS, hkb⟩ := hrel
            have Hgk := Lib.hid hgk
            clear hgk
            by_cases hltk : k < l.length
            · obtain ⟨b7, of7, ea, hb7, d0⟩ := sf_at1 (H8.out.1.keep hkS (fun y hy => by
                obtain rfl : y = sb := by simpa using hy
                exact hsr)) k hltk
              subst ea
              have hltk' : (k : Int) < (l.length : Int) := by omega
              have hni := nodup_take Hnd.out.1 hltk
              have hzr := Hnd.out.2 l[k] (List.getElem_mem hltk)
              have htk := List.take_succ_eq_append_getElem hltk
              generalize l[k] = z at d0 hni hzr htk
              have hwf : (Lit.int .i64 z).wf = true := WalkArith.wf_i64 (by omega)
              have hlo := honce.run_lookup hwf
              rw [if_neg hni] at hlo
              have H9 := Lib.hid (And.intro honce (And.intro hkS (And.intro hkb htk)))
              have hlen : (C ++ l.take k).length ≤ 1000 := by rw [List.length_append, List.length_take]; omega
              clear honce hkS hkb hni htk hzr
              go_wp2_with (at_mapUpdate; refine wpList_once rfl _ _ _ rfl sb (C ++ l.take k) z rfl rfl rfl hwf hlen H9.out.1 ?_; intro w10 h10 k10)
              have H10 := Lib.hid (And.intro h10 (And.intro (H9.out.2.1.trans k10) (H9.out.2.2.1.after k10 (fun y hy => .inr (by
                obtain rfl : y = sb := by simpa using hy
                exact hsw)))))
              clear h10 k10 hlo d0 hb7
              go_wp2_with fail
              go_roundg (l.length - (k + 1))
              case measure => have := Hgk.out; omega
              case rel => exact ⟨k + 1, hltk, rfl, by go_num, by rw [H9.out.2.2.2, ← List.append_assoc]; exact H10.out.1, H10.out.2.1, H10.out.2.2⟩
            · have hgek : ¬ (k : Int) < (l.length : Int) := by omega
              have hkn := Lib.hid (show k = l.length from by omega)
              have H9 := Lib.hid (And.intro honce (And.intro (H8.out.2.2.1.trans hkS) hkb))
              clear honce hkS hkb
              go_wp2_with fail
              go_roundg (V.length - (j + 1))
              case measure => have := Hgj.out; omega
              case rel =>
                have h1 := H9.out.1
                rw [hkn.out, List.take_length] at h1
                exact ⟨j + 1, hltj, rfl, by go_num, by rw [Hcs.out.1, ← Hcs.out.2.1, ← Hcs.out.2.2]; exact h1, H9.out.2.1, H9.out.2.2⟩
        · have hgej : ¬ (j : Int) < (V.length : Int) := by omega
          have hjn : j = V.length := by omega
          rw [hjn, List.take_length] at honce
          obtain ⟨w8, rfl⟩ : ∃ wo : World, wo = wr := ⟨_, rfl⟩
          obtain ⟨C, hC⟩ : ∃ C, C = catL T nm V := ⟨_, rfl⟩
          rw [← hC] at honce
          have hCn : C.Nodup := by rw [hC]; exact catL_nodup Hd.out.1 nm HV.out.2
          have hCl : C.length = nmN nm (allP T) := by rw [hC, HV.out.1]; exact catL_count Hd.out.1 nm
          have HC := Lib.hid (And.intro hCn hCl)
          have H7 := Lib.hid (And.intro honce (And.intro (go1 hkb H4.out.1) hkb))
          clear honce hkS hkb hC hCn hCl hjn
          go_wp2_with fail
          go_loopg [13, 68] TV.length (HaveOut w8 TV nm)
          case atStart => exact ⟨0, Nat.zero_le _, rfl, rfl, by simp [allP, nmN], Keeps.refl _ _⟩
          case round =>
            obtain ⟨k, hk, hgk, rfl, rfl, hkb⟩ := hrel
            have Hgk := Lib.hid hgk
            clear hgk
            have hbig := allP_len (takeT_len hs10.out hTl k).1 (takeT_len hs10.out hTl k).2
            have hbig2 := nmN_len nm (allP ((TV.take k).map (·.1)))
            by_cases hltk : k < TV.length
            · obtain ⟨b9, off9, ea, hb9, d0, d1⟩ := ser_at (go1 hkb H7.out.2.1).2.1.row k hltk
              subst ea
              have hltk' : (k : Int) < (TV.length : Int) := by omega
              have hs1 := hs10.out TV[k] (List.getElem_mem hltk)
              have hv1 := (go1 hkb H7.out.2.1).2.1.ser TV[k] (List.getElem_mem hltk)
              have HX := Lib.hid (mapTake hltk)
              generalize TV[k] = q at d0 d1 hs1 hv1 HX
              obtain ⟨⟨n, L⟩, vs⟩ := q
              dsimp only at d0 d1 hs1 hv1 HX
              obtain ⟨a2, c2, rfl, -, -, -, -⟩ := id hv1
              obtain ⟨h0, hh0⟩ : ∃ h0, h0 = nmN nm (allP ((TV.take k).map (·.1))) := ⟨_, rfl⟩
              rw [← hh0] at hbig2 ⊢
              have Hh0 := Lib.hid hh0
              clear hh0
              have hh1 : h0 ≤ 120 := by omega
              clear hbig hbig2
              have kA : Keeps [] wr (wr.alloc (.cells #[.int .i64 n, .slice a2 L.length c2] 37)) := (Keeps.refl [] wr).alloc _
              have H9 := Lib.hid (And.intro (go1 kA (And.intro hkb hv1)) (heap_new wr (.cells #[.int .i64 n, .slice a2 L.length c2] 37)))
              clear kA hkb hv1
              go_upto_region 24 with fail
              clear d0 d1 hb9
              generalize hwa : wr.alloc (.cells #[.int .i64 n, .slice a2 L.length c2] 37) = wa at H9 ⊢
              generalize hpb : wr.heap.size = pb at H9 ⊢
              clear hwa hpb
              have cs := cells_at H9.out.2
              have ls := lt_of_at H9.out.2
              go_wp2_with fail
              clear cs ls
              go_loopg [13, 75] L.length (HaveIn wa L nm h0)
              case atStart => exact ⟨0, Nat.zero_le _, rfl, rfl, by simp [nmN], Keeps.refl _ _⟩
              case round =>
                obtain ⟨m, hm, hgm, rfl, rfl, hkc⟩ := hrel
                have Hgm := Lib.hid hgm
                clear hgm
                by_cases hltm : m < L.length
                · obtain ⟨b10, off10, cap10, ea, hb10, d0, d1⟩ := pair_at (go1 hkc H9.out.1.2).arg m hltm
                  injection ea with ea _ ec
                  subst ea ec
                  have hltm' : (m : Int) < (L.length : Int) := by omega
                  have HS := Lib.hid (show L.take (m + 1) = L.take m ++ [L[m]] from List.take_succ_eq_append_getElem hltm)
                  generalize L[m] = p at d0 d1 HS
                  obtain ⟨p1, p2⟩ := p
                  dsimp only at d0 d1
                  obtain ⟨hv2, hve⟩ : ∃ g, g = h0 + nmN nm (L.take m) := ⟨_, rfl⟩
                  have hvl : hv2 ≤ 130 := by
                    have := nmN_len nm (L.take m)
                    rw [List.length_take] at this
                    omega
                  rw [← hve]
                  have Hve := Lib.hid hve
                  clear hve
                  have hadd : IntKind.i64.wrap ((hv2 : Int) + 1) = (hv2 : Int) + 1 := IntWalk.i64_in _ (by omega)
                  have kP : Keeps [] wr (wr.alloc (.cells #[.string p1, .string p2] 39)) := (Keeps.refl [] wr).alloc _
                  have H10 := Lib.hid (And.intro (hkc.trans kP) (heap_new wr (.cells #[.string p1, .string p2] 39)))
                  clear hkc kP
                  go_upto_region 27 with fail
                  clear d0 d1 hb10
                  generalize hwp : wr.alloc (.cells #[.string p1, .string p2] 39) = wp at H10 ⊢
                  generalize hqb : wr.heap.size = qb at H10 ⊢
                  clear hwp hqb
                  have cp := cells_at H10.out.2
                  have lp := lt_of_at H10.out.2
                  by_cases hp1 : p1 = nm
                  · have hq1 : (p1.toList == nm.toList) = true := by rw [toList_beq]; simp [hp1]
                    have Hp1 := Lib.hid hp1
                    clear hp1
                    go_wp2_with fail
                    go_roundg (L.length - (m + 1))
                    case measure => have := Hgm.out; omega
                    case rel => exact ⟨m + 1, hltm, rfl, by go_num, by rw [HS.out, nmN_yes Hp1.out, ← Nat.add_assoc, ← Hve.out]; go_num, H10.out.1⟩
                  · have hq1 : (p1.toList == nm.toList) = false := by rw [toList_beq]; simp [hp1]
                    have Hp1 := Lib.hid hp1
                    clear hp1
                    go_wp2_with fail
                    go_roundg (L.length - (m + 1))
                    case measure => have := Hgm.out; omega
                    case rel => exact ⟨m + 1, hltm, rfl, by go_num, by rw [HS.out, nmN_no Hp1.out, ← Hve.out], H10.out.1⟩
                · have hgem : ¬ (m : Int) < (L.length : Int) := by omega
                  have hmn := Lib.hid (show m = L.length from by omega)
                  have Hr := Lib.hid (H9.out.1.1.trans hkc)
                  clear hkc
                  go_wp2_with fail
                  go_roundg (TV.length - (k + 1))
                  case measure => have := Hgk.out; omega
                  case rel => exact ⟨k + 1, hltk, rfl, by go_num, by rw [HX.out, allP_snoc, nmN_app, ← Hh0.out, hmn.out, List.take_length]; simp, Hr.out⟩
            · have hgek : ¬ (k : Int) < (TV.length : Int) := by omega
              have hkn : k = TV.length := by omega
              have he : nmN nm (allP ((TV.take k).map (·.1))) = C.length := by rw [hkn, List.take_length, ← HT.out]; exact HC.out.2.symm
              rw [he]
              have H9 := Lib.hid (And.intro (go1 hkb H7.out.1) (H7.out.2.2.trans hkb))
              clear hkb hkn he hbig hbig2
              go_wp2_with (at_range; refine wpList_range_once rfl _ rfl sb C rfl H9.out.1 ?_; intro w11 cnt hrg0 hk11)
              try go_frame
              have Hrg := Lib.hid (And.intro hrg0 (H9.out.2.trans hk11))
              have hrl : wr.heap.size < w11.heap.size := hrg0.lt
              have hw4r := H9.out.2.size
              clear hrg0 hk11
              generalize hrb : wr.heap.size = rb at Hrg hrl hw4r ⊢
              clear hrb
              go_loopg [19] cnt (RangeRel w4 sb rb C)
              case atStart => exact Hrg.out
              case round =>
                obtain ⟨hrg, hkr⟩ := hrel
                have hln := hrg.once.run_len HC.out.1 3
                have Hkr := Lib.hid hkr
                clear hkr
                go_wp2_with (at_next; refine wpList_next_once rfl _ rfl sb rb C _ rfl hrg ?_ ?_)
                · clear hrg
                  go_wp2_with fail
                  go_roundg (N.length - (i + 1))
                  case measure => have := Hg.out; omega
                  case rel => exact ⟨i + 1, hlt, rfl, by go_num, H4.out.2.trans Hkr.out⟩
                · intro z w12 cnt' hrg' hlt' hk' hen
                  have Hn := Lib.hid (And.intro hrg' (Hkr.out.after hk' (fun y hy => .inr (by
                    obtain rfl : y = rb := by simpa using hy
                    exact hw4r))))
                  clear hrg hrg' hk' hln
                  try go_frame
                  go_wp2_with fail
                  go_roundg cnt'
                  case measure => exact hlt'
                  case rel => exact Hn.out
    · have hge : ¬ (i : Int) < (N.length : Int) := by omega
      have Hr := Lib.hid (H3.out.1.2.2.trans hkw)
      clear hkw
      go_wp2_with fail
      go_ret
      exact ⟨rfl, Hr.out⟩

theorem postingParts_law (w : World) (hv : LibVar w) (va : Value) (ha : Ones12 w va) :
    Calls Tryd.prog 3 #[va] w fun e w' => e = .returned (.bool true) ∧ Keeps [] w w' := by
  obtain ⟨XS, h1, h2, -⟩ := ha
  exact postingParts_walk w hv va XS h1 h2
end Go.Proofs.YtejfigbjaiealaaDoor
