/-
  MatcherSelects answers true, and leaves all memory that was there as it was.
  The variable matcher.signs holds its five signs; the library's variable internal/bytealg.MaxLen holds some number.
-/
import Derived.Test.YtejfigbjaiealaaGreatDoorSelect
import Derived.Test.YtejfigbjaiealaaGreatDoorPostLists
import Derived.Test.YtejfigbjaiealaaGreatDoorAwake13
import Derived.Test.YtejfigbjaiealaaGreatDoorSignsOf
namespace Go.Proofs.YtejfigbjaiealaaGreatDoor
open Go Go.RowKit

def SeenAt (wb : World) (n gk : Nat) (u : Value) (wr : World) : Prop := ∃ k, k ≤ n ∧ gk = n - k ∧ u = .int .i64 k ∧ Keeps [] wb wr

set_option linter.unusedSimpArgs false in
set_option maxRecDepth 100000 in
set_option maxHeartbeats 4000000 in
theorem matcherSelects_walk (w : World) (hv : LibVar w) (hsg : SignsAt w) (v : Value) (XS : List (Value × Bool)) (h : SliceArg 2 encOne w v XS) (hok : OnesOk w XS) (v1 : Value) (M : List MatB) (h1 : MatsAt w v1 M) :
    Calls Tryz.prog 4 #[v, v1] w fun e w' => e = .returned (.bool true) ∧ Keeps [] w w' := by
  have Hf := Lib.hid (And.intro h (And.intro hok (And.intro (And.intro hsg hv) h1)))
  obtain ⟨av, cv, rfl, -, -⟩ := h
  obtain ⟨am, cm, rfl, -⟩ := h1.form
  clear hok hv hsg h1
  go_enter Tryz.func4, Tryz.ntmps4
  go_wp2_with fail
  refine (growD_spec w _ XS Hf.out.1 Hf.out.2.1).mono ?_
  rintro e w1 ⟨x, vo, TV, rfl, hix, htr, hTl, hser, -, hk1⟩
  obtain ⟨ao, co, rfl, -, -, -, -⟩ := id htr.row
  have Hd := Lib.hid hix.dist.1
  have hs10 := Lib.hid (fun (q : SerV) (hq : q ∈ TV) => (hser q hq).len)
  have H1 := Lib.hid (And.intro (go1 hk1 Hf.out.2.2) (And.intro hix (And.intro htr hk1)))
  clear hix htr hk1 hser
  go_wp2_with fail
  refine (few13_spec w1 _ M H1.out.1.2).mono ?_
  rintro e w2 ⟨va, vb, L, rfl, ha, hb, hchk, -, hk2⟩
  have H2 := Lib.hid (And.intro ha (And.intro hb (go1 hk2 H1.out)))
  have Hmay := Lib.hid (show ∀ m ∈ L, mayK m from fun m hm => chkB_may (hchk m hm))
  obtain ⟨aa, ca, rfl, -⟩ := ha.form
  obtain ⟨ab, cb, rfl, -⟩ := hb.form
  clear ha hb hk2 hchk H1
  go_wp2_with fail
  refine (awake13_spec w2 H2.out.2.2.1.1.1 H2.out.2.2.1.1.2).mono ?_
  rintro e w3 ⟨rfl, hk3⟩
  have H3 := Lib.hid (go1 hk3 (And.intro H2.out.1 (And.intro H2.out.2.1 H2.out.2.2.2)))
  clear hk3 H2
  go_wp2_with fail
  go_loopg [30] TV.length (SeenAt w3 TV.length)
  case atStart => exact ⟨0, Nat.zero_le _, rfl, rfl, Keeps.refl [] w3⟩
  case round =>
    obtain ⟨k, hk, hgk, rfl, hkw⟩ := hrel
    have Hg := Lib.hid hgk
    clear hgk
    by_cases hlt : k < TV.length
    · obtain ⟨b, off, ea, hb, d0, d1⟩ := ser_at (go1 hkw H3.out).2.2.2.1.row k hlt
      subst ea
      have hlt' : (k : Int) < (TV.length : Int) := by omega
      have hv1 := (go1 hkw H3.out).2.2.2.1.ser TV[k] (List.getElem_mem hlt)
      have hs1 := hs10.out TV[k] (List.getElem_mem hlt)
      generalize TV[k] = q at d0 d1 hv1 hs1
      obtain ⟨⟨n, S⟩, vs⟩ := q
      dsimp only at d0 d1 hv1 hs1
      obtain ⟨a2, c2, rfl, -, -, -, -⟩ := id hv1
      have H4 := Lib.hid (And.intro hv1 hkw)
      clear hkw hv1 d0
      go_wp2_with fail
      clear d1 hb
      go_loopg [39] S.length (SeenAt wr S.length)
      case atStart => exact ⟨0, Nat.zero_le _, rfl, rfl, Keeps.refl [] _⟩
      case round =>
        obtain ⟨w4, rfl⟩ : ∃ wo : World, wo = wr := ⟨_, rfl⟩
        obtain ⟨j, hj, hgj, rfl, hkb⟩ := hrel
        have Hgj := Lib.hid hgj
        clear hgj
        by_cases hltj : j < S.length
        · obtain ⟨b5, off5, cap5, ea, hb5, d0, d1⟩ := pair_at (go1 hkb H4.out.1).arg j hltj
          injection ea with ea _ ec
          subst ea ec
          have hltj' : (j : Int) < (S.length : Int) := by omega
          generalize S[j] = p at d0 d1
          obtain ⟨p1, p2⟩ := p
          dsimp only at d0 d1
          have kP : Keeps [] w4 (w4.alloc (.cells #[.string p1, .string p2] 34)) := (Keeps.refl [] w4).alloc _
          have H5 := Lib.hid (And.intro (hkb.trans kP) (heap_new w4 (.cells #[.string p1, .string p2] 34)))
          clear hkb kP
          go_upto_region 11 with fail
          clear d0 d1 hb5
          generalize hwp : w4.alloc (.cells #[.string p1, .string p2] 34) = wp at H5 ⊢
          generalize hpb : w4.heap.size = pb at H5 ⊢
          clear hwp hpb
          have cp := cells_at H5.out.2
          have lp := lt_of_at H5.out.2
          by_cases hp : p2 = ⟨#[]⟩
          · subst hp
            have Hr := Lib.hid (H3.out.2.2.2.2.trans (H4.out.2.trans H5.out.1))
            clear H5
            go_wp2_with fail
            go_ret
            exact ⟨rfl, Hr.out⟩
          · have hq1 : (p2.toList == (⟨#[]⟩ : ByteArray).toList) = false := by rw [toList_beq]; simp [hp]
            have hne : ¬ p2.data.toList = [] := fun e => hp (ba_ext e)
            have hq2 : (p2.toList == []) = false := by rw [ByteArray.toList_eq]; simpa using hne
            have hq3 : ¬ p2.toList = [] := by rw [ByteArray.toList_eq]; exact hne
            clear hp hne
            go_wp2_with fail
            go_roundg (S.length - (j + 1))
            case measure => have := Hgj.out; omega
            case rel => exact ⟨j + 1, hltj, rfl, by go_num, H5.out.1⟩
        · have hge : ¬ (j : Int) < (S.length : Int) := by omega
          have Hr := Lib.hid (H4.out.2.trans hkb)
          clear hkb
          go_wp2_with fail
          go_roundg (TV.length - (k + 1))
          case measure => have := Hg.out; omega
          case rel => exact ⟨k + 1, hlt, rfl, by go_num, Hr.out⟩
    · have hge : ¬ (k : Int) < (TV.length : Int) := by omega
      have H4 := Lib.hid (go1 hkw H3.out)
      clear hkw
      go_wp2_with fail
      refine (select_spec _ x (TV.map (·.1)) H4.out.2.2.1 _ L H4.out.1 Hmay.out).mono ?_
      rintro e w5 ⟨v5, rfl, hrow5, hk5⟩
      have H5 := Lib.hid (And.intro hrow5.ints (go1 hk5 H4.out))
      obtain ⟨a5, c5, rfl, -, -, -⟩ := row_slice hrow5
      clear hrow5 hk5 H4
      go_wp2_with fail
      refine (selectR_spec w5 _ TV H5.out.2.2.2.2.1 hTl _ L H5.out.2.2.1 Hmay.out).mono ?_
      rintro e w6 ⟨v6, rfl, hrow6, hk6⟩
      rw [← selL_is Hd.out L] at hrow6
      have H6 := Lib.hid (And.intro hrow6.ints (And.intro (go1 hk6 H5.out.1) (H5.out.2.2.2.2.2.trans hk6)))
      obtain ⟨a6, c6, rfl, -, -, -⟩ := row_slice hrow6
      clear hrow6 hk6 H5
      go_wp2_with fail
      refine (same_spec _ _ w6 _ _ _ H6.out.2.1 H6.out.1).mono ?_
      rintro e w7 ⟨rfl, hk7⟩
      have H7 := Lib.hid (H6.out.2.2.trans hk7)
      clear hk7 H6
      go_wp2_with fail
      go_ret
      exact ⟨rfl, H7.out⟩

theorem matcherSelects_law (w : World) (hv : LibVar w) (hsg : SignsAt w) (v0 : Value) (h0 : Ones12 w v0) (v1 : Value) (h1 : ∃ M : List MatB, MatsAt w v1 M) :
    Calls Tryz.prog 4 #[v0, v1] w fun e w' => e = .returned (.bool true) ∧ Keeps [] w w' := by
  obtain ⟨XS, h2, h3, -⟩ := h0
  obtain ⟨M, hM⟩ := h1
  exact matcherSelects_walk w hv hsg v0 XS h2 h3 v1 M hM
end Go.Proofs.YtejfigbjaiealaaGreatDoor
