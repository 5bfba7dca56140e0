/-
  PostingEmpty answers true, and leaves all memory that was there as it was.
  The library's variable internal/bytealg.MaxLen holds some number.
-/
import Derived.Test.YtjgaidojohgenaaDoorGrowE
import Derived.Test.YtjgaidojohgenaaDoorNamesE
import Derived.Test.YtjgaidojohgenaaDoorAwake12
import Derived.Test.YtjgaidojohgenaaDoorPostArgs
import Derived.Laws.AppendOwnNone
namespace Go.Proofs.YtjgaidojohgenaaDoor
open Go Go.RowKit

theorem flatO : ∀ (L : List (Value × Bool)) (i : Nat), (L.flatMap encOne)[i * 2]? = (L[i]?).map (·.1) ∧ (L.flatMap encOne)[i * 2 + 1]? = (L[i]?).map fun x => Value.bool x.2
  | [], i => by simp
  | x :: L, 0 => by simp [encOne]
  | x :: L, i + 1 => by
    have ih := flatO L i
    have e : (x :: L).flatMap encOne = x.1 :: Value.bool x.2 :: L.flatMap encOne := rfl
    rw [e, show (i + 1) * 2 = i * 2 + 1 + 1 from by omega]
    simpa using ih

theorem flatO_len : ∀ L : List (Value × Bool), (L.flatMap encOne).length = L.length * 2
  | [] => rfl
  | x :: L => by
    have e : (x :: L).flatMap encOne = x.1 :: Value.bool x.2 :: L.flatMap encOne := rfl
    rw [e, List.length_cons, List.length_cons, flatO_len L, List.length_cons]
    omega

theorem one_news {w : World} {ad : Addr} {n c : Nat} {L : List (Value × Bool)} (h : SliceArg 2 encOne w (.slice (some ad) n c) L) (m : Nat) (hm : m ≤ L.length) : ∀ j u, ((L.take m).flatMap encOne)[j]? = some u → w.cell? (ad.add j) = some u := by
  intro j u hu
  have hjl := (List.getElem?_eq_some_iff.1 hu).1
  rw [flatO_len, List.length_take] at hjl
  have hi : j / 2 < L.length := by omega
  obtain ⟨b, off, cap, ea, -, d0, d1⟩ := one_at h (j / 2) hi
  injection ea with ea _ _
  injection ea with ea
  subst ea
  have hadd : (⟨b, off, none⟩ : Addr).add j = ⟨b, off + j, none⟩ := by unfold Addr.add; split <;> simp_all
  rw [hadd]
  have hf := flatO (L.take m) (j / 2)
  have ht : (L.take m)[j / 2]? = some L[j / 2] := by rw [List.getElem?_take_of_lt (by omega), List.getElem?_eq_getElem hi]
  rw [ht] at hf
  rcases Nat.mod_two_eq_zero_or_one j with h2 | h2
  · rw [show j / 2 * 2 = j from by omega] at hf d0
    rw [hf.1] at hu
    rw [d0]
    exact hu
  · have e : off + j / 2 * 2 + 1 = off + j := by omega
    rw [e] at d1
    rw [show j / 2 * 2 + 1 = j from by omega] at hf
    rw [hf.2] at hu
    rw [d1]
    exact hu

theorem one_cells {w : World} {L : List (Value × Bool)} (h : OnesOk w L) (m : Nat) : ∀ u ∈ (L.take m).flatMap encOne, u.oneCell' = true := by
  intro u hu
  obtain ⟨y, hy, hu⟩ := List.mem_flatMap.1 hu
  obtain ⟨L, hL⟩ := h y (List.mem_of_mem_take hy)
  obtain ⟨_, _, e, -⟩ := hL
  simp only [encOne, List.mem_cons, List.not_mem_nil, or_false] at hu
  rcases hu with rfl | rfl
  · rw [e]; rfl
  · rfl

def noStay (L : List (Value × Bool)) (k : Nat) : List (Value × Bool) := (L.take k).map (fun x => (x.1, false)) ++ L.drop k

theorem noStay_len (L : List (Value × Bool)) (k : Nat) : (noStay L k).length = L.length := by
  unfold noStay
  rw [List.length_append, List.length_map, List.length_take, List.length_drop]
  omega

theorem noStay_set {L : List (Value × Bool)} {k : Nat} (hk : k < L.length) : ((noStay L k).flatMap encOne).set (k * 2 + 1) (.bool false) = (noStay L (k + 1)).flatMap encOne := by
  have e1 : L.drop k = L[k] :: L.drop (k + 1) := List.drop_eq_getElem_cons hk
  have e2 : noStay L (k + 1) = (L.take k).map (fun x => (x.1, false)) ++ (L[k].1, false) :: L.drop (k + 1) := by
    unfold noStay
    rw [List.take_succ_eq_append_getElem hk, List.map_append, List.append_assoc]
    rfl
  have hl : (((L.take k).map (fun x => (x.1, false))).flatMap encOne).length = k * 2 := by
    rw [flatO_len, List.length_map, List.length_take]
    omega
  rw [e2]
  unfold noStay
  rw [e1, List.flatMap_append, List.flatMap_append, List.set_append_right _ _ (by rw [hl]; omega), hl]
  have e3 : k * 2 + 1 - k * 2 = 1 := by omega
  rw [e3]
  rfl

theorem noStay_end {L : List (Value × Bool)} : noStay L L.length = L.map fun x => (x.1, false) := by
  unfold noStay
  simp

/-- A slice of Ones, from its block. -/
theorem ones_arg {w : World} {g m c : Nat} {cur : Array Value} {T : TypeId} {L : List (Value × Bool)} (hg : w.heap[g]? = some (.cells cur T (0, 0))) (hL : L.length = m) (hm : m ≤ 12) (h : cur.toList.take (m * 2) = L.flatMap encOne) : SliceArg 2 encOne w (.slice (some ⟨g, 0, none⟩) m c) L := by
  refine ⟨_, _, by rw [hL], by unfold maxLen; omega, fun i hi => ⟨g, 0, rfl, lt_of_at hg, fun j hj => ?_⟩⟩
  have hf := flatO L i
  rw [List.getElem?_eq_getElem hi, ← h] at hf
  rw [cells_at hg, ← Array.getElem?_toList]
  match j, hj with
  | 0, _ =>
    have h1 := hf.1
    rw [List.getElem?_take_of_lt (by omega)] at h1
    rw [show 0 + (i * 2 + 0) = i * 2 from by omega]
    exact h1
  | 1, _ =>
    have h1 := hf.2
    rw [List.getElem?_take_of_lt (by omega)] at h1
    rw [show 0 + (i * 2 + 1) = i * 2 + 1 from by omega]
    exact h1

theorem infoOne : (Tryd.prog.info? 25).map (fun i => (i.zero, i.size, i.bytes)) = some (some (.agg #[.slice none 0 0, .bool false]), 2, 32) := by kernel_rfl

def GoneRel (w : World) (g : Nat) (L : List (Value × Bool)) (gk : Nat) (u16 : Value) (wr : World) : Prop :=
  ∃ (k : Nat) (cur : Array Value), k ≤ L.length ∧ gk = L.length - k ∧ u16 = .int .i64 k ∧ wr.heap[g]? = some (.cells cur 25 (0, 0)) ∧ L.length * 2 ≤ cur.size ∧ cur.toList.take (L.length * 2) = (noStay L k).flatMap encOne ∧ Keeps [] w wr

def GonePost (w : World) (L : List (Value × Bool)) (u : Value) (wc : World) : Prop :=
  ∃ (g c : Nat) (cur : Array Value), u = .slice (some ⟨g, 0, none⟩) L.length c ∧ w.heap.size ≤ g ∧ wc.heap[g]? = some (.cells cur 25 (0, 0)) ∧ L.length * 2 ≤ cur.size ∧ cur.toList.take (L.length * 2) = L.flatMap encOne ∧ Keeps [] w wc

theorem gone_of {w w' : World} {v : Value} {m : Nat} {L : List (Value × Bool)} (hm : L.length = m) (hne : v ≠ .slice none 0 0) (h : w'.ownsRow w.heap.size 25 2 v m (L.flatMap encOne)) (k : Keeps [] w w') : GonePost w L v w' := by
  subst hm
  obtain ⟨_, ⟨rfl, hn⟩ | ⟨g, cap, cur, rfl, hbase, hb, h1, h2, h3, h4⟩⟩ := h
  · exact absurd rfl hne
  · exact ⟨g, cap, cur, rfl, hbase, hb, by omega, h4, k⟩

set_option linter.unusedSimpArgs false in
set_option maxRecDepth 100000 in
set_option maxHeartbeats 2000000 in
theorem postingEmpty_walk (w : World) (hv : LibVar w) (v : Value) (XS : List (Value × Bool)) (h : SliceArg 2 encOne w v XS) (hcap : CapOk v) (hok : OnesOk w XS) :
    Calls Tryd.prog 3 #[v] w fun e w' => e = .returned (.bool true) ∧ Keeps [] w w' := by
  obtain ⟨io, hio, hz0, hz1, hz2⟩ := info_parts infoOne
  have Hf := Lib.hid (And.intro h (And.intro hok hv))
  obtain ⟨av, cv, rfl, hlm, -⟩ := h
  obtain ⟨a', n', c', ea, hnc, hnone⟩ := hcap
  injection ea with e1 e2 e3
  subst e1 e2 e3
  unfold maxLen at hlm
  clear hok hv
  obtain ⟨m, hmd⟩ : ∃ m : Nat, m = min XS.length 12 := ⟨_, rfl⟩
  have hmin : min (XS.length : Int) 12 = (m : Int) := by omega
  have hm1 : m ≤ XS.length := by omega
  have hm2 : m ≤ 12 := by omega
  have htl : (XS.take m).length = m := by rw [List.length_take]; omega
  have Htl := Lib.hid htl
  clear hmd htl
  have H0 := Lib.hid (And.intro (own_made w w.heap.size 25 2 (Nat.le_refl _)) ((Keeps.refl [] w).alloc (.cells #[] 25)))
  go_enter Tryd.func3, Tryd.ntmps3
  go_upto_region 1 with fail
  go_cut [3] from 7 to 13 (GonePost w (XS.take m))
  case first =>
    cases av with
    | none =>
      have hc0 := hnone rfl
      have hx0 : XS.length = 0 := by omega
      have hm0 : m = 0 := by omega
      subst hc0
      have hmin0 : min (XS.length : Int) 12 = 0 := by omega
      have hxl := Lib.hid (And.intro hx0 hm0)
      clear hmin hx0 hm0 hm1 hm2 hnc hlm
      go_wp2_with (at_builtin; refine wpList_append_own_none rfl (.tmp 7) (.tmp 12) 22 rfl w.heap.size 25 io 2 Tryd.underlying22 hio (.slice (some ⟨w.heap.size, 0, none⟩) 0 0) 0 [] rfl H0.out.1 (by rfl) ?_)
      go_meet
      have e0 : XS.take m = [] := by rw [hxl.out.2]; rfl
      rw [e0]
      exact gone_of rfl (by simp) (by simpa using H0.out.1) H0.out.2
    | some ad =>
      go_wp2_with (at_builtin; refine wpList_append_own _ rfl (.tmp 7) (.tmp 12) 22 rfl w.heap.size 25 io _ 2 32 Tryd.underlying22 hio hz0 hz1 hz2 rfl (by decide) (.slice (some ⟨w.heap.size, 0, none⟩) 0 0) 0 [] rfl H0.out.1 ad m cv ((XS.take m).flatMap encOne) rfl (by rw [flatO_len, Htl.out]) (one_news (Hf.out.1.keep H0.out.2) m hm1) (one_cells Hf.out.2.1 m) (by simp only [maxLen]; omega) (by omega) (by rw [World.size_alloc]; omega) ?_; intro v5 w5 hown5 hgrow5 hnil5; have H5 := Lib.hid (And.intro hown5 (And.intro (keeps_own H0.out.2 hgrow5 (fun q hq => (World.ownsRow.lt H0.out.1 q hq).1)) (show v5 ≠ .slice none 0 0 from fun e => by have := (hnil5.1 e).1; cases this))); clear hown5 hgrow5 hnil5)
      go_meet
      exact gone_of (m := m) Htl.out H5.out.2.2 (by simpa using H5.out.1) H5.out.2.1
  case rest =>
    obtain ⟨g, c, cur, rfl, hgw, hg, hcs, hct, hk⟩ := hcut
    obtain ⟨Y, hY⟩ : ∃ Y, Y = XS.take m := ⟨_, rfl⟩
    rw [← hY] at hcs hct Htl ⊢
    have HY := Lib.hid hY
    have hY12 : Y.length ≤ 12 := by rw [Htl.out]; omega
    have H1 := Lib.hid (And.intro hg (And.intro hcs (And.intro hct hk)))
    clear hg hcs hct hk hY H0
    go_wp2_with fail
    go_loopg [16] Y.length (GoneRel w g Y)
    case atStart => exact ⟨0, cur, Nat.zero_le _, rfl, rfl, H1.out.1, H1.out.2.1, by rw [H1.out.2.2.1]; rfl, H1.out.2.2.2⟩
    case round =>
      obtain ⟨k, cur', hk, hgk, rfl, hg, hcs, hct, hkw⟩ := hrel
      have Hg := Lib.hid hgk
      clear hgk H1
      by_cases hlt : k < Y.length
      · have hlt' : (k : Int) < (Y.length : Int) := by omega
        have hkc : k * 2 + 1 < cur'.size := by omega
        have f1 := free_at hg
        have c1 := cells_at hg
        have l1 := lt_of_at hg
        have kS : Keeps [] w (wr.setCell ⟨g, k * 2 + 1, none⟩ (.bool false)) := hkw.setCell (.inr hgw) _
        have hS := heap_cell_same (i := k * 2 + 1) hg (.bool false)
        have hT : (cur'.setIfInBounds (k * 2 + 1) (.bool false)).toList.take (Y.length * 2) = (noStay Y (k + 1)).flatMap encOne := by
          rw [Array.toList_setIfInBounds, List.take_set, hct, noStay_set hlt]
        have H2 := Lib.hid (And.intro hS (And.intro (show Y.length * 2 ≤ (cur'.setIfInBounds (k * 2 + 1) (.bool false)).size from by simpa using hcs) (And.intro hT kS)))
        clear hg hcs hct hkw kS hS hT
        go_wp2_with fail
        go_roundg (Y.length - (k + 1))
        case measure => have := Hg.out; omega
        case rel => exact ⟨k + 1, _, hlt, rfl, by go_num, H2.out.1, H2.out.2.1, H2.out.2.2.1, H2.out.2.2.2⟩
      · have hke : k = Y.length := by omega
        have hlt' : ¬ (k : Int) < (Y.length : Int) := by omega
        rw [hke, noStay_end] at hct
        have hA := ones_arg (c := c) hg (L := Y.map fun x => (x.1, false)) (m := Y.length) (by simp) hY12 hct
        have HA := Lib.hid (And.intro hA (And.intro hkw (go1 hkw Hf.out.2.2)))
        have hOk : OnesOk wr (Y.map fun x => (x.1, false)) := fun y hy => by
          obtain ⟨z, hz, rfl⟩ := List.mem_map.1 hy
          rw [HY.out] at hz
          obtain ⟨L, hL⟩ := Hf.out.2.1 z (List.mem_of_mem_take hz)
          exact ⟨L, hL.keep hkw⟩
        have HO := Lib.hid hOk
        clear hg hcs hct hkw hA hOk hke
        go_wp2_with fail
        refine (growE_spec _ _ (Y.map fun x => (x.1, false)) HA.out.1 HO.out (by rw [List.length_map]; exact hY12) (fun y hy => by
          obtain ⟨z, _, rfl⟩ := List.mem_map.1 hy
          rfl)).mono ?_
        rintro e w2 ⟨x, mb, a2, c2, vo, rfl, hx, hm, ho, hk2⟩
        have H2 := Lib.hid (And.intro hx (And.intro hm (And.intro (row_base (b' := 0) ho (Nat.zero_le _)) (And.intro (HA.out.2.1.trans hk2) (go1 hk2 HA.out.2.2)))))
        clear hx hm ho hk2 HA HO
        go_wp2_with fail
        refine (awake12_spec _ H2.out.2.2.2.2).mono ?_
        rintro e w3 ⟨rfl, hk3⟩
        have H3 := Lib.hid (go1 hk3 (And.intro H2.out.1 (And.intro H2.out.2.1 (And.intro H2.out.2.2.1 H2.out.2.2.2.1))))
        clear hk3 H2
        go_wp2_with fail
        refine (allE_spec _ x mb a2 c2 H3.out.1 H3.out.2.2.1).mono ?_
        rintro e w4 ⟨a4, c4, rfl, hk4⟩
        have H4 := Lib.hid (go1 hk4 (And.intro H3.out.1 (And.intro H3.out.2.1 H3.out.2.2.2)))
        clear hk4 H3
        go_wp2_with fail
        refine (namesE_spec _ x mb _ H4.out.1 H4.out.2.1).mono ?_
        rintro e w5 ⟨a5, c5, rfl, hk5⟩
        have H5 := Lib.hid (go1 hk5 H4.out.2.2)
        clear hk5 H4
        go_wp2_with fail
        go_ret
        exact ⟨rfl, H5.out⟩
end Go.Proofs.YtjgaidojohgenaaDoor
