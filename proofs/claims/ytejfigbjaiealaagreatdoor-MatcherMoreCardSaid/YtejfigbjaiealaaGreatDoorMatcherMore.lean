/-
  MatcherMore answers true, and leaves all memory that was there as it was.
  The variable matcher.signs holds its five signs; the library's variable internal/bytealg.MaxLen holds some number.
-/
import Derived.Test.YtejfigbjaiealaaGreatDoorSelect
import Derived.Test.YtejfigbjaiealaaGreatDoorFew13R
import Derived.Test.YtejfigbjaiealaaGreatDoorOnceMap
import Derived.Test.YtejfigbjaiealaaGreatDoorAwake13
import Derived.Test.YtejfigbjaiealaaGreatDoorSignsOf
namespace Go.Proofs.YtejfigbjaiealaaGreatDoor
open Go Go.RowKit

theorem RowsAt.mats {B : Nat} {w : World} {v : Value} {L : List MatB} (h : RowsAt B w v L) : MatsAt w v L := by
  obtain ⟨E, h1, h2⟩ := h
  exact mats_of h1 h2

theorem RowsAt.formR {B : Nat} {w : World} {v : Value} {L : List MatB} (h : RowsAt B w v L) : ∃ ao cap, v = .slice ao L.length cap ∧ L.length ≤ cap ∧ cap ≤ maxLen ∧ (0 < L.length → ∃ b, ao = some ⟨b, 0, none⟩) := by
  obtain ⟨E, h1, h2⟩ := h
  obtain ⟨ao, cap, e, hc, hm, hcell⟩ := row_slice h1
  have hl := h2.1
  refine ⟨ao, cap, by rw [e, hl], by omega, hm, fun h0 => ?_⟩
  obtain ⟨g, e2, _⟩ := hcell 0 (by omega)
  exact ⟨g, e2⟩

theorem mats_short {w : World} (ao : Option Addr) (c : Nat) {L : List MatB} (h : L.length + 1 ≤ 1) : MatsAt w (.slice ao L.length c) L := by
  have : L = [] := List.eq_nil_of_length_eq_zero (by omega)
  subst this
  exact ⟨[], ⟨ao, c, rfl, by simp [maxLen], fun i hi => by simp at hi⟩, rfl, fun i hi => by simp at hi⟩

theorem some_le {T : List SerT} {m : MatB} {L : List MatB} : (∀ n ∈ selL T (m :: L), n ∈ selL T L) ∧ (selL T (m :: L)).length ≤ (selL T L).length := by
  have h : ∀ n ∈ selL T (m :: L), n ∈ selL T L := fun n hn => by
    rw [mem_selL] at hn ⊢
    exact ⟨hn.1, fun x hx => hn.2 x (List.mem_cons_of_mem _ hx)⟩
  exact ⟨h, nodup_le (rises_nodup (selL_rises T _)) h⟩

theorem sel_range {T : List SerT} (h : ∀ s ∈ T, 0 ≤ s.1 ∧ s.1 < 12) (L : List MatB) : ∀ n ∈ selL T L, 0 ≤ n ∧ n < 12 := fun n hn => by
  have h1 := (mem_selL.1 hn).1
  unfold allL at h1
  rw [(putAll_good _).2, List.mem_map] at h1
  obtain ⟨s, hs, rfl⟩ := h1
  exact h s hs

theorem MatsAt.tail {w : World} {b off n cap : Nat} {m : MatB} {L : List MatB} (h : MatsAt w (.slice (some ⟨b, off, none⟩) n cap) (m :: L)) (c : Nat) : MatsAt w (.slice (some ⟨b, off + 3, none⟩) L.length c) L := by
  obtain ⟨E, ⟨ao, cap', e, hl, hc⟩, h2, h3⟩ := h
  injection e with e1 e2 e3
  subst e1 e2 e3
  match E, h2 with
  | e0 :: E, h2 =>
    have hEL : E.length = L.length := by simpa using h2
    refine ⟨E, ⟨_, c, by rw [hEL], by simp at hl; omega, fun i hi => ?_⟩, hEL, fun i hi hi' => ?_⟩
    · obtain ⟨b', off', e', hb', hcell⟩ := hc (i + 1) (by simpa using hi)
      injection e' with e'
      injection e' with e1 e2 _
      subst e1 e2
      refine ⟨b, off + 3, rfl, hb', fun j hj => ?_⟩
      have := hcell j hj
      simp only [List.getElem_cons_succ] at this
      rw [← this]
      congr 2
      omega
    · have := h3 (i + 1) (by simpa using hi) (by simpa using hi')
      simpa using this

def AllRel (w0 : World) (sb : Nat) (l : List Int) (gk : Nat) (u48 : Value) (wr : World) : Prop :=
  ∃ k, k ≤ l.length ∧ gk = l.length - k ∧ u48 = .int .i64 k ∧ OnceAt wr sb (l.take k) ∧ Keeps [] w0 wr

def SomeRel (w0 : World) (l : List Int) (gk : Nat) (u59 : Value) (wr : World) : Prop := ∃ k, k ≤ l.length ∧ gk = l.length - k ∧ u59 = .int .i64 k ∧ Keeps [] w0 wr

set_option linter.unusedSimpArgs false in
set_option maxRecDepth 100000 in
set_option maxHeartbeats 4000000 in
theorem matcherMore_walk (w : World) (hv : LibVar w) (hsg : SignsAt w) (v : Value) (XS : List (Value × Bool)) (h : SliceArg 2 encOne w v XS) (hok : OnesOk w XS) (v1 : Value) (M : List MatB) (h1 : MatsAt w v1 M) :
    Calls Tryz.prog 5 #[v, v1] w fun e w' => e = .returned (.bool true) ∧ Keeps [] w w' := by
  have hmm := @run_makeMap Tryz.prog
  have Hf := Lib.hid (And.intro h (And.intro hok (And.intro (And.intro hsg hv) h1)))
  obtain ⟨av, cv, rfl, -, -⟩ := h
  obtain ⟨am, cm, rfl, -⟩ := h1.form
  clear hok hv hsg h1
  go_enter Tryz.func5, Tryz.ntmps5
  go_wp2_with fail
  refine (growD_spec w _ XS Hf.out.1 Hf.out.2.1).mono ?_
  rintro e w1 ⟨x, vo, TV, rfl, hix, htr, hTl, -, -, hk1⟩
  obtain ⟨ao, co, rfl, -, -, -, -⟩ := id htr.row
  have Hd := Lib.hid (And.intro hix.dist.2 hix.few)
  have H1 := Lib.hid (And.intro (go1 hk1 Hf.out.2.2) (And.intro hix hk1))
  clear hix htr hk1
  go_wp2_with fail
  refine (few13R_spec w1 _ M H1.out.1.2).mono ?_
  rintro e w2 ⟨va, vb, L, rfl, ha, hb, hchk, -, hk2⟩
  have H2 := Lib.hid (And.intro ha (go1 hk2 H1.out))
  have Hmay := Lib.hid (show ∀ m ∈ L, mayK m from fun m hm => chkB_may (hchk m hm))
  obtain ⟨aa, ca, rfl, hlc, hcm, hab⟩ := ha.formR
  obtain ⟨ab, cb, rfl, -⟩ := hb.form
  unfold maxLen at hcm
  clear ha hb hk2 hchk H1
  go_wp2_with fail
  refine (awake13_spec w2 H2.out.2.1.1.1 H2.out.2.1.1.2).mono ?_
  rintro e w3 ⟨rfl, hk3⟩
  have H3 := Lib.hid (go1 hk3 H2.out)
  clear hk3 H2
  cases L with
  | nil =>
    clear hab
    go_wp2_with fail
    refine (awake13_spec w3 H3.out.2.1.1.1 H3.out.2.1.1.2).mono ?_
    rintro e w4 ⟨rfl, hk4⟩
    have H4 := Lib.hid (H3.out.2.2.2.trans hk4)
    clear hk4
    go_wp2_with fail
    go_ret
    exact ⟨rfl, H4.out⟩
  | cons m L =>
    obtain ⟨b, rfl⟩ := hab (by simp)
    have hl0 : ((((m :: L).length : Nat) : Int) == 0) = false := by rw [beq_eq_false_iff_ne]; simp; omega
    have hl1 : ¬ (((m :: L).length : Nat) : Int) = 0 := by simp; omega
    simp only [List.length_cons] at hlc hl0 hl1
    clear hab
    have Ht := Lib.hid (H3.out.1.mats.tail)
    obtain ⟨T, hT⟩ : ∃ T, T = TV.map (·.1) := ⟨_, rfl⟩
    have hTl2 : T.length = TV.length := by rw [hT, List.length_map]
    have H4 := Lib.hid (And.intro H3.out.1.mats (show Idx w3 x T from by rw [hT]; exact H3.out.2.2.1))
    rw [← hT] at Hd
    clear hT
    have hways : ca = 1 ∨ ¬ ca = 1 := by omega
    have hLn : ca = 1 → L = [] := fun e => List.eq_nil_of_length_eq_zero (by omega)
    rcases hways with rfl | hca
    · obtain rfl := hLn rfl
      clear hLn
      go_wp2_with fail
      refine (select_spec w3 x T H4.out.2 _ [] (mats_short (L := []) _ _ (by decide)) (fun y hy => Hmay.out y (List.mem_cons_of_mem _ hy))).mono ?_
      rintro e w4 ⟨v4, rfl, hrow4, hk4⟩
      obtain ⟨al, hal⟩ : ∃ al, al = selL T [] := ⟨_, rfl⟩
      rw [← hal] at hrow4
      have HalE := Lib.hid hal
      clear hal
      have H5 := Lib.hid (And.intro hrow4.ints (And.intro (go1 hk4 H4.out) (H3.out.2.2.2.trans hk4)))
      obtain ⟨a4, c4, rfl, -, -, -⟩ := row_slice hrow4
      clear hrow4 hk4
      go_wp2_with fail
      refine (select_spec w4 x T H5.out.2.1.2 _ (m :: []) H5.out.2.1.1 Hmay.out).mono ?_
      rintro e w5 ⟨v5, rfl, hrow5, hk5⟩
      obtain ⟨so, hso⟩ : ∃ so, so = selL T (m :: []) := ⟨_, rfl⟩
      rw [← hso] at hrow5
      have Hin := Lib.hid (show ∀ n ∈ so, n ∈ al from by rw [hso, HalE.out]; exact some_le.1)
      have hle1 : so.length ≤ al.length := by rw [hso, HalE.out]; exact some_le.2
      have hle2 : al.length ≤ T.length := by rw [HalE.out]; exact selL_len T []
      have hTf := Hd.out.2
      have Hal := Lib.hid (And.intro (show al.Nodup from by rw [HalE.out]; exact rises_nodup (selL_rises T [])) (show ∀ n ∈ al, 0 ≤ n ∧ n < 12 from by rw [HalE.out]; exact sel_range Hd.out.1 []))
      clear hso
      have H6 := Lib.hid (And.intro hrow5.ints (And.intro (go1 hk5 H5.out.1) (H5.out.2.2.trans hk5)))
      have HM := Lib.hid (And.intro (once_new w5) ((Keeps.refl [] w5).alloc (.map #[] 0)))
      obtain ⟨a5, c5, rfl, -, -, -⟩ := row_slice hrow5
      obtain ⟨sb, hsb⟩ : ∃ sb, sb = w5.heap.size := ⟨_, rfl⟩
      have hsw : w5.heap.size ≤ sb := by omega
      clear hrow5 hk5 H5
      go_upto_region 7 with fail
      rw [← hsb] at HM ⊢
      clear hsb
      generalize hwm : w5.alloc (.map #[] 0) = wm at HM ⊢
      clear hwm
      go_wp2_with fail
      go_loopg [48] al.length (AllRel w5 sb al)
      case atStart => exact ⟨0, Nat.zero_le _, rfl, rfl, by simpa using HM.out.1, HM.out.2⟩
      case round =>
        obtain ⟨k, hk, hgk, rfl, honce, hkb⟩ := hrel
        have Hg := Lib.hid hgk
        clear hgk
        by_cases hlt : k < al.length
        · obtain ⟨b7, of7, ea, hb7, d0⟩ := sf_at1 (go1 hkb H6.out.2.1) k hlt
          subst ea
          have hlt' : (k : Int) < (al.length : Int) := by omega
          have hni := nodup_take (C := []) Hal.out.1 hlt
          rw [List.nil_append] at hni
          have hzr := Hal.out.2 al[k] (List.getElem_mem hlt)
          have htk := List.take_succ_eq_append_getElem hlt
          generalize al[k] = z at d0 hni hzr htk
          have hwf : (Lit.int .i64 z).wf = true := WalkArith.wf_i64 (by omega)
          have hlo := honce.run_lookup hwf
          rw [if_neg hni] at hlo
          have H9 := Lib.hid (And.intro honce (And.intro hkb htk))
          have hlen : (al.take k).length ≤ 1000 := by rw [List.length_take]; omega
          clear honce hkb hni htk hzr
          go_wp2_with (at_mapUpdate; refine wpList_once rfl _ _ _ rfl sb (al.take k) z rfl rfl rfl hwf hlen H9.out.1 ?_; intro w10 h10 k10)
          have H10 := Lib.hid (And.intro h10 (H9.out.2.1.after k10 (fun y hy => .inr (by
            obtain rfl : y = sb := by simpa using hy
            exact hsw))))
          clear h10 k10 hlo d0 hb7
          go_wp2_with fail
          go_roundg (al.length - (k + 1))
          case measure => have := Hg.out; omega
          case rel => exact ⟨k + 1, hlt, rfl, by go_num, by rw [H9.out.2.2]; exact H10.out.1, H10.out.2⟩
        · have hge : ¬ (k : Int) < (al.length : Int) := by omega
          have hkn : al.take k = al := List.take_of_length_le (by omega)
          rw [hkn] at honce
          obtain ⟨w8, rfl⟩ : ∃ wo : World, wo = wr := ⟨_, rfl⟩
          have H9 := Lib.hid (And.intro honce (And.intro (go1 hkb H6.out.1) (H6.out.2.2.trans hkb)))
          clear honce hkb hkn
          go_wp2_with fail
          go_loopg [59] so.length (SomeRel w8 so)
          case atStart => exact ⟨0, Nat.zero_le _, rfl, rfl, Keeps.refl [] _⟩
          case round =>
            obtain ⟨j, hj, hgj, rfl, hkc⟩ := hrel
            have Hgj := Lib.hid hgj
            clear hgj
            by_cases hltj : j < so.length
            · obtain ⟨b7, of7, ea, hb7, d0⟩ := sf_at1 (go1 hkc H9.out.2.1) j hltj
              subst ea
              have hltj' : (j : Int) < (so.length : Int) := by omega
              have hzi := Hin.out so[j] (List.getElem_mem hltj)
              have hzr := Hal.out.2 so[j] hzi
              generalize so[j] = z at d0 hzi hzr
              have hlo := (go1 hkc H9.out.1).run_lookup (x := z) (WalkArith.wf_i64 (by omega))
              rw [if_pos hzi] at hlo
              have Hk := Lib.hid hkc
              clear hkc hzi hzr
              go_wp2_with fail
              go_roundg (so.length - (j + 1))
              case measure => have := Hgj.out; omega
              case rel => exact ⟨j + 1, hltj, rfl, by go_num, Hk.out⟩
            · have hge : ¬ (j : Int) < (so.length : Int) := by omega
              have hI1 : (so.length : Int) ≤ (al.length : Int) := by omega
              have hI2 : (al.length : Int) ≤ (TV.length : Int) := by omega
              have Hk := Lib.hid (H9.out.2.2.trans hkc)
              clear hkc
              go_wp2_with fail
              go_ret
              exact ⟨rfl, Hk.out⟩
    · clear hLn
      go_wp2_with fail
      try exact absurd (by assumption) hca
      refine (select_spec w3 x T H4.out.2 _ L (Ht.out _) (fun y hy => Hmay.out y (List.mem_cons_of_mem _ hy))).mono ?_
      rintro e w4 ⟨v4, rfl, hrow4, hk4⟩
      obtain ⟨al, hal⟩ : ∃ al, al = selL T L := ⟨_, rfl⟩
      rw [← hal] at hrow4
      have HalE := Lib.hid hal
      clear hal
      have H5 := Lib.hid (And.intro hrow4.ints (And.intro (go1 hk4 H4.out) (H3.out.2.2.2.trans hk4)))
      obtain ⟨a4, c4, rfl, -, -, -⟩ := row_slice hrow4
      clear hrow4 hk4
      go_wp2_with fail
      refine (select_spec w4 x T H5.out.2.1.2 _ (m :: L) H5.out.2.1.1 Hmay.out).mono ?_
      rintro e w5 ⟨v5, rfl, hrow5, hk5⟩
      obtain ⟨so, hso⟩ : ∃ so, so = selL T (m :: L) := ⟨_, rfl⟩
      rw [← hso] at hrow5
      have Hin := Lib.hid (show ∀ n ∈ so, n ∈ al from by rw [hso, HalE.out]; exact some_le.1)
      have hle1 : so.length ≤ al.length := by rw [hso, HalE.out]; exact some_le.2
      have hle2 : al.length ≤ T.length := by rw [HalE.out]; exact selL_len T L
      have hTf := Hd.out.2
      have Hal := Lib.hid (And.intro (show al.Nodup from by rw [HalE.out]; exact rises_nodup (selL_rises T L)) (show ∀ n ∈ al, 0 ≤ n ∧ n < 12 from by rw [HalE.out]; exact sel_range Hd.out.1 L))
      clear hso
      have H6 := Lib.hid (And.intro hrow5.ints (And.intro (go1 hk5 H5.out.1) (H5.out.2.2.trans hk5)))
      have HM := Lib.hid (And.intro (once_new w5) ((Keeps.refl [] w5).alloc (.map #[] 0)))
      obtain ⟨a5, c5, rfl, -, -, -⟩ := row_slice hrow5
      obtain ⟨sb, hsb⟩ : ∃ sb, sb = w5.heap.size := ⟨_, rfl⟩
      have hsw : w5.heap.size ≤ sb := by omega
      clear hrow5 hk5 H5
      go_upto_region 7 with fail
      rw [← hsb] at HM ⊢
      clear hsb
      generalize hwm : w5.alloc (.map #[] 0) = wm at HM ⊢
      clear hwm
      go_wp2_with fail
      go_loopg [48] al.length (AllRel w5 sb al)
      case atStart => exact ⟨0, Nat.zero_le _, rfl, rfl, by simpa using HM.out.1, HM.out.2⟩
      case round =>
        obtain ⟨k, hk, hgk, rfl, honce, hkb⟩ := hrel
        have Hg := Lib.hid hgk
        clear hgk
        by_cases hlt : k < al.length
        · obtain ⟨b7, of7, ea, hb7, d0⟩ := sf_at1 (go1 hkb H6.out.2.1) k hlt
          subst ea
          have hlt' : (k : Int) < (al.length : Int) := by omega
          have hni := nodup_take (C := []) Hal.out.1 hlt
          rw [List.nil_append] at hni
          have hzr := Hal.out.2 al[k] (List.getElem_mem hlt)
          have htk := List.take_succ_eq_append_getElem hlt
          generalize al[k] = z at d0 hni hzr htk
          have hwf : (Lit.int .i64 z).wf = true := WalkArith.wf_i64 (by omega)
          have hlo := honce.run_lookup hwf
          rw [if_neg hni] at hlo
          have H9 := Lib.hid (And.intro honce (And.intro hkb htk))
          have hlen : (al.take k).length ≤ 1000 := by rw [List.length_take]; omega
          clear honce hkb hni htk hzr
          go_wp2_with (at_mapUpdate; refine wpList_once rfl _ _ _ rfl sb (al.take k) z rfl rfl rfl hwf hlen H9.out.1 ?_; intro w10 h10 k10)
          have H10 := Lib.hid (And.intro h10 (H9.out.2.1.after k10 (fun y hy => .inr (by
            obtain rfl : y = sb := by simpa using hy
            exact hsw))))
          clear h10 k10 hlo d0 hb7
          go_wp2_with fail
          go_roundg (al.length - (k + 1))
          case measure => have := Hg.out; omega
          case rel => exact ⟨k + 1, hlt, rfl, by go_num, by rw [H9.out.2.2]; exact H10.out.1, H10.out.2⟩
        · have hge : ¬ (k : Int) < (al.length : Int) := by omega
          have hkn : al.take k = al := List.take_of_length_le (by omega)
          rw [hkn] at honce
          obtain ⟨w8, rfl⟩ : ∃ wo : World, wo = wr := ⟨_, rfl⟩
          have H9 := Lib.hid (And.intro honce (And.intro (go1 hkb H6.out.1) (H6.out.2.2.trans hkb)))
          clear honce hkb hkn
          go_wp2_with fail
          go_loopg [59] so.length (SomeRel w8 so)
          case atStart => exact ⟨0, Nat.zero_le _, rfl, rfl, Keeps.refl [] _⟩
          case round =>
            obtain ⟨j, hj, hgj, rfl, hkc⟩ := hrel
            have Hgj := Lib.hid hgj
            clear hgj
            by_cases hltj : j < so.length
            · obtain ⟨b7, of7, ea, hb7, d0⟩ := sf_at1 (go1 hkc H9.out.2.1) j hltj
              subst ea
              have hltj' : (j : Int) < (so.length : Int) := by omega
              have hzi := Hin.out so[j] (List.getElem_mem hltj)
              have hzr := Hal.out.2 so[j] hzi
              generalize so[j] = z at d0 hzi hzr
              have hlo := (go1 hkc H9.out.1).run_lookup (x := z) (WalkArith.wf_i64 (by omega))
              rw [if_pos hzi] at hlo
              have Hk := Lib.hid hkc
              clear hkc hzi hzr
              go_wp2_with fail
              go_roundg (so.length - (j + 1))
              case measure => have := Hgj.out; omega
              case rel => exact ⟨j + 1, hltj, rfl, by go_num, Hk.out⟩
            · have hge : ¬ (j : Int) < (so.length : Int) := by omega
              have hI1 : (so.length : Int) ≤ (al.length : Int) := by omega
              have hI2 : (al.length : Int) ≤ (TV.length : Int) := by omega
              have Hk := Lib.hid (H9.out.2.2.trans hkc)
              clear hkc
              go_wp2_with fail
              go_ret
              exact ⟨rfl, Hk.out⟩

theorem matcherMore_law (w : World) (hv : LibVar w) (hsg : SignsAt w) (v0 : Value) (h0 : Ones12 w v0) (v1 : Value) (h1 : ∃ M : List MatB, MatsAt w v1 M) :
    Calls Tryz.prog 5 #[v0, v1] w fun e w' => e = .returned (.bool true) ∧ Keeps [] w w' := by
  obtain ⟨XS, h2, h3, -⟩ := h0
  obtain ⟨M, hM⟩ := h1
  exact matcherMore_walk w hv hsg v0 XS h2 h3 v1 M hM
end Go.Proofs.YtejfigbjaiealaaGreatDoor
