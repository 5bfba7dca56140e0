/-
  Package barographlaw12: Grow of series none of which stays: the index is empty again, walked.
  No condition beyond those that each theorem states.
-/
import Derived.Test.YtjgaidojohgenaaDoorPostDropS
import Derived.Test.YtjgaidojohgenaaDoorSort6
namespace Go.Proofs.YtjgaidojohgenaaDoor
open Go Go.RowKit

theorem mem_putG {α : Type} {k : ByteArray} {v : α} {q : ByteArray × α} : ∀ {M : List (ByteArray × α)}, q ∈ put M k v → q = (k, v) ∨ q ∈ M
  | [], h => .inl (by simpa [put] using h)
  | (k', x) :: r, h => by
    unfold put at h
    split at h
    · rcases List.mem_cons.1 h with h | h
      · exact .inl h
      · exact .inr (List.mem_cons_of_mem _ h)
    · rcases List.mem_cons.1 h with h | h
      · exact .inr (by rw [h]; exact List.mem_cons_self)
      · exact (mem_putG h).imp_right (List.mem_cons_of_mem _)

theorem keys_putG {α : Type} {k : ByteArray} {v : α} : ∀ {M : List (ByteArray × α)}, k ∈ (put M k v).map (·.1) ∧ ∀ x ∈ M.map (·.1), x ∈ (put M k v).map (·.1)
  | [] => by simp [put]
  | (k', x) :: r => by
    have ih := keys_putG (k := k) (v := v) (M := r)
    unfold put
    split
    · rename_i h
      subst h
      exact ⟨by simp, fun y hy => by simpa using hy⟩
    · refine ⟨by rw [List.map_cons]; exact List.mem_cons_of_mem _ ih.1, fun y hy => ?_⟩
      rw [List.map_cons] at hy ⊢
      rcases List.mem_cons.1 hy with rfl | hy
      · exact List.mem_cons_self
      · exact List.mem_cons_of_mem _ (ih.2 y hy)

def encOne (x : Value × Bool) : List Value := [x.1, .bool x.2]

def OnesOk (w : World) (XS : List (Value × Bool)) : Prop := ∀ x ∈ XS, ∃ L : List PairB, SliceArg 2 encPB w x.1 L

theorem one_at {w : World} {v : Value} {L : List (Value × Bool)} (h : SliceArg 2 encOne w v L) (k : Nat) (hk : k < L.length) : ∃ b off cap, v = .slice (some ⟨b, off, none⟩) L.length cap ∧ b < w.heap.size ∧ w.cell? ⟨b, off + k * 2, none⟩ = some L[k].1 ∧ w.cell? ⟨b, off + k * 2 + 1, none⟩ = some (.bool L[k].2) := by
  obtain ⟨ao, cap, e, hl, h⟩ := h
  obtain ⟨b, off, e2, hb, hc⟩ := h k hk
  subst e2
  exact ⟨b, off, cap, e, hb, hc 0 (by decide), (by have := hc 1 (by decide); rw [← Nat.add_assoc] at this; exact this)⟩

theorem row_argP {B : Nat} {w : World} {e : TypeId} {v : Value} {P : List PairB} (h : w.ownsRow B e 2 v P.length (P.flatMap encPB)) : SliceArg 2 encPB w v P := (sliceFrom_row (enc := encPB) (fun _ => rfl) h).arg

theorem few6_len (L : List PairB) : (few6 L).length ≤ 10 := by
  unfold few6
  rw [List.length_map, List.length_take]
  omega

theorem row_snoc {w : World} {B : Nat} {v : Value} {N : List PairB} {q1 q2 : ByteArray} {T : TypeId} (h : w.ownsRow B T 2 v (N.length + 1) (N.flatMap encPB ++ [.string q1, .string q2])) : w.ownsRow B T 2 v (N ++ [(q1, q2)]).length ((N ++ [(q1, q2)]).flatMap encPB) := by
  rw [List.length_append, List.flatMap_append]
  simpa [encPB] using h

def GrowRel (w : World) (x mb m gk : Nat) (u6 : Value) (wr : World) : Prop :=
  ∃ (i : Nat) (a : Option Addr) (c : Nat), i ≤ m ∧ gk = m - i ∧ u6 = .int .i64 i ∧ IxAt wr x mb (.slice a 0 c) ∧ MapAt wr mb [] ∧ Own w.heap.size wr (.slice a 0 c) [] ∧ Keeps [] w wr

structure SeenOk (S : List PairB) (M : List (ByteArray × Int)) (j : Nat) : Prop where
  len : S.length ≤ j
  nodup : (S.map (·.1)).Nodup
  keys : ∀ p ∈ S, p.1 ∈ M.map (·.1)
  cnt : ∀ q ∈ M, 1 ≤ q.2 ∧ q.2 ≤ j

theorem SeenOk.bound {S : List PairB} {M : List (ByteArray × Int)} {j : Nat} (h : SeenOk S M j) (k : ByteArray) : 0 ≤ (look M k).getD 0 ∧ (look M k).getD 0 ≤ j ∧ ((look M k).getD 0 = 0 → k ∉ M.map (·.1)) := by
  cases hk : look M k with
  | none => exact ⟨by simp, by simp, fun _ => (look_none_iff k M).1 hk⟩
  | some c =>
    have := h.cnt _ (look_mem hk)
    simp only [Option.getD_some]
    simp only at this
    exact ⟨by omega, by omega, fun e => by omega⟩

theorem SeenOk.again {S : List PairB} {M : List (ByteArray × Int)} {j : Nat} (h : SeenOk S M j) (k : ByteArray) : SeenOk S (put M k ((look M k).getD 0 + 1)) (j + 1) := by
  refine ⟨Nat.le_succ_of_le h.len, h.nodup, fun p hp => keys_putG.2 _ (h.keys p hp), fun q hq => ?_⟩
  rcases mem_putG hq with rfl | hq
  · have := h.bound k
    simp only
    omega
  · have := h.cnt q hq
    omega

theorem SeenOk.first {S : List PairB} {M : List (ByteArray × Int)} {j : Nat} (h : SeenOk S M j) (p1 p2 : ByteArray) (h0 : (look M p1).getD 0 = 0) : SeenOk (S ++ [(p1, p2)]) (put M p1 ((look M p1).getD 0 + 1)) (j + 1) := by
  have ha := h.again p1
  have hn := (h.bound p1).2.2 h0
  refine ⟨by rw [List.length_append]; exact Nat.succ_le_succ h.len, ?_, fun p hp => ?_, ha.cnt⟩
  · rw [List.map_append, List.nodup_append]
    refine ⟨h.nodup, by simp, fun x hx y hy e => ?_⟩
    obtain ⟨p, hp, rfl⟩ := List.mem_map.1 hx
    have : y = p1 := by simpa using hy
    exact hn (this ▸ e ▸ h.keys p hp)
  · rcases List.mem_append.1 hp with hp | hp
    · exact ha.keys p hp
    · obtain rfl : p = (p1, p2) := by simpa using hp
      exact keys_putG.1

def SeenRel (wb : World) (nb sb m gk : Nat) (u9 u11 u45 : Value) (wr : World) : Prop :=
  ∃ (j : Nat) (S : List PairB) (M : List (ByteArray × Int)), j ≤ m ∧ gk = m - j ∧ u45 = .int .i64 j ∧ SeenOk S M j ∧ wr.ownsRow nb 78 2 u9 S.length (S.flatMap encPB) ∧ wr.ownsRow nb 44 2 u11 S.length (S.flatMap encPB) ∧ MapAt wr sb (encMap encI M) ∧ Keeps [] wb wr

def GrowPost (w : World) (e : Ending) (w' : World) : Prop :=
  ∃ (x mb : Nat) (a : Option Addr) (c : Nat) (vo : Value), e = .returned (.tuple #[.pointer (some ⟨x, 0, none⟩), vo]) ∧ IxAt w' x mb (.slice a 0 c) ∧ MapAt w' mb [] ∧ Own w.heap.size w' (.slice a 0 c) [] ∧ Keeps [] w w'

set_option linter.unusedSimpArgs false in
set_option maxRecDepth 100000 in
set_option maxHeartbeats 2000000 in
theorem growE_spec (w : World) (v : Value) (XS : List (Value × Bool)) (h : SliceArg 2 encOne w v XS) (hok : OnesOk w XS) (hl12 : XS.length ≤ 12) (hst : ∀ x ∈ XS, x.2 = false) :
    Calls Tryd.prog 8 #[v] w (GrowPost w) := by
  have hmm := @run_makeMap Tryd.prog
  obtain ⟨ip, hip, hz0, hz1, hz2⟩ := info_parts infoPair6
  obtain ⟨iq, hiq, hy0, hy1, hy2⟩ := info_parts infoPair
  have Hf := Lib.hid (And.intro h (And.intro hok hst))
  obtain ⟨av, cv, rfl, hlm, -⟩ := h
  clear hlm hok hst
  go_enter Tryd.func8, Tryd.ntmps8
  go_wp2_with fail
  refine (newIx_spec _).mono ?_
  rintro e w1 ⟨x, mb, rfl, hx, hm, hxw, hmw, hxm, hk1⟩
  have k2 := (Keeps.refl [] w1).alloc (.cells #[] 42)
  have H2 := Lib.hid (go1 k2 (And.intro hx (And.intro hm hk1)))
  clear k2 hx hm hk1
  go_wp2_with fail
  go_loopg [6] XS.length (GrowRel w x mb XS.length)
  case atStart => exact ⟨0, none, 0, Nat.zero_le _, rfl, rfl, H2.out.1, H2.out.2.1, World.ownsRow_nil _ _ _ 1, H2.out.2.2⟩
  case round =>
    obtain ⟨i, a, c, hi, hgk, rfl, hx, hm, ho, hk⟩ := hrel
    have Hg := Lib.hid hgk
    clear hgk H2
    by_cases hlt : i < XS.length
    · obtain ⟨b, off, cap', ea, hb0, -, -⟩ := one_at Hf.out.1 i hlt
      injection ea with ea _ ec
      subst ea ec
      obtain ⟨b', off', cap', ea, hbW, d0, d1⟩ := one_at (Hf.out.1.keep hk) i hlt
      injection ea with ea _ ec
      injection ea with ea
      injection ea with eb eo _
      subst eb eo ec
      have hlt' : (i : Int) < (XS.length : Int) := by omega
      have hlt12 : (i : Int) < 12 := by omega
      obtain ⟨L, hL⟩ := Hf.out.2.1 XS[i] (List.getElem_mem hlt)
      have hy := Hf.out.2.2 XS[i] (List.getElem_mem hlt)
      generalize XS[i] = y at d0 d1 hL hy
      obtain ⟨y1, y2⟩ := y
      dsimp only at d0 d1 hL hy
      subst hy
      have hL2 := hL.keep hk
      obtain ⟨ay, cy, rfl, -, -⟩ := hL
      have Hc := Lib.hid (And.intro hx (And.intro hm (And.intro ho (And.intro hk hL2))))
      have Hd := Lib.hid d1
      clear hx hm ho hk hL2 d1
      go_wp2_with fail
      refine (few6_spec _ _ L Hc.out.2.2.2.2).mono ?_
      rintro e w2 ⟨v2, rfl, hrow2, hk2⟩
      have H2 := Lib.hid (And.intro hrow2 hk2)
      clear hrow2 hk2 d0
      go_wp2_with fail
      refine (told6_spec _ _ (few6 L) (row_argP H2.out.1) (by have := few6_len L; omega)).mono ?_
      rintro e w3 ⟨v3, rfl, hrow3, hk3⟩
      have H3 := Lib.hid (And.intro hrow3 (H2.out.2.trans hk3))
      clear hrow3 hk3 H2
      go_wp2_with fail
      refine (sorted6_spec _ _ (few6 L) (row_argP H3.out.1) (few6_len L)).mono ?_
      rintro e w4 ⟨v4, R, rfl, hR, hrow4, hk4⟩
      have hRl : R.length ≤ 10 := by rw [hR]; exact few6_len L
      obtain ⟨a4, c4, rfl, -, -, -⟩ := row_slice hrow4
      have hk04 := H3.out.2.trans hk4
      have hbW4 : b < w4.heap.size := hk04.lt hbW
      have H4 := Lib.hid (And.intro (go1 hk04 (And.intro Hc.out.1 (And.intro Hc.out.2.1 (And.intro Hc.out.2.2.1 Hc.out.2.2.2.1)))) (And.intro (row_argP hrow4) ((hk04.cell hbW (by simp)).trans Hd.out)))
      clear hR hrow4 hk4 H3 Hc Hd hk04 hbW
      have kM := (Keeps.refl [] w4).alloc (.map #[] 0)
      have kN := (Keeps.refl [] (w4.alloc (.map #[] 0))).alloc (.cells #[] 44)
      have hzM : (w4.alloc (.map #[] 0)).heap.size = w4.heap.size + 1 := by simp
      have mk := own_made (w4.alloc (.map #[] 0)) w4.heap.size 44 2 (by rw [hzM]; omega)
      rw [hzM] at mk
      have H5 := Lib.hid (And.intro (show MapAt ((w4.alloc (.map #[] 0)).alloc (.cells #[] 44)) w4.heap.size (encMap encI []) from go1 kN (mapAt_new w4)) (And.intro mk (kM.trans kN)))
      clear kM kN hzM mk
      go_wp2_with fail
      generalize hwe : (w4.alloc (.map #[] 0)).alloc (.cells #[] 44) = we at H5 ⊢
      clear hwe
      obtain ⟨sb, hsb⟩ : ∃ sb, sb = w4.heap.size := ⟨_, rfl⟩
      rw [← hsb] at H5 hbW4 ⊢
      have hs1 : w4.heap.size ≤ sb := by omega
      have hs2 : sb ≤ w4.heap.size := by omega
      clear hsb
      go_loopg [9, 11, 45] R.length (SeenRel w4 sb sb R.length)
      case atStart => exact ⟨0, [], [], Nat.zero_le _, rfl, rfl, ⟨by simp, by simp, by simp, by simp⟩, World.ownsRow_nil _ _ _ 2, H5.out.2.1, H5.out.1, H5.out.2.2⟩
      case round =>
        obtain ⟨j, S, M, hj, hgj, rfl, hok, hs, ht, hmp, hkb⟩ := hrel
        have Hgj := Lib.hid hgj
        clear hgj H5
        have hSl : S.length ≤ 10 := by have := hok.len; omega
        obtain ⟨a9, c9, rfl, -, -, -⟩ := row_slice hs
        obtain ⟨a11, c11, rfl, -, -, -⟩ := row_slice ht
        by_cases hltj : j < R.length
        · obtain ⟨b5, off5, cap5, ea, hb5, d0, d1⟩ := pair_at (go1 hkb H4.out.2.1) j hltj
          injection ea with ea _ ec
          subst ea ec
          have hltj' : (j : Int) < (R.length : Int) := by omega
          obtain ⟨p, hp⟩ : ∃ p, p = R[j] := ⟨_, rfl⟩
          rw [← hp] at d0 d1
          clear hp
          obtain ⟨p1, p2⟩ := p
          dsimp only at d0 d1
          have kA : Keeps [] wr (wr.alloc (.cells #[.string p1, .string p2] 44)) := (Keeps.refl [] wr).alloc _
          have nA := heap_new wr (.cells #[.string p1, .string p2] 44)
          have hbd := hok.bound p1
          have hlo := (go1 kA hmp).run_lookup (P := Tryd.prog) Tryd.underlying77 Tryd.underlying9 (zeroInt _) p1 false
          rw [lookVal_int] at hlo
          have H6 := Lib.hid (And.intro (go1 kA (And.intro hs (And.intro ht (And.intro hmp hkb)))) (And.intro nA (And.intro hok.again (hok.first p1 p2))))
          clear hs ht hmp hkb kA nA hok
          obtain ⟨c0, hc0⟩ : ∃ c0, c0 = (look M p1).getD 0 := ⟨_, rfl⟩
          rw [← hc0] at hbd hlo
          have hcl : 0 ≤ c0 ∧ c0 ≤ j := ⟨hbd.1, hbd.2.1⟩
          have hadd : IntKind.i64.wrap (c0 + 1) = c0 + 1 := IntWalk.i64_in _ (by omega)
          have Hc0 := Lib.hid hc0
          clear hbd hc0
          go_upto_region 16 with fail
          clear d0 d1 hb5
          generalize hw6 : wr.alloc (.cells #[.string p1, .string p2] 44) = w6 at H6 hlo ⊢
          generalize hpb : wr.heap.size = pb at H6 ⊢
          clear hw6 hpb
          have cp := cells_at H6.out.2.1
          have lp := lt_of_at H6.out.2.1
          go_upto_region 17 with (refine wpList_update_str _ rfl (.tmp 49) (.tmp 51) (.tmp 53) _ _ _ rfl Tryd.underlying77 Tryd.underlying9 sb (encMap encI M) p1 (encI (c0 + 1)) (by rfl) (by rfl) (by rfl) H6.out.1.2.2.1 ?_; intro w7 hm7 hk7)
          rw [put_enc] at hm7
          have hl7 := hm7.run_lookup (P := Tryd.prog) Tryd.underlying77 Tryd.underlying9 (zeroInt _) p1 false
          rw [lookVal_int, look_put, if_pos rfl, Option.getD_some] at hl7
          clear hlo cp lp
          have n7 := hk7.at_ H6.out.2.1 (by simpa using H6.out.1.2.2.1.ne H6.out.2.1)
          have cp := cells_at n7
          have lp := lt_of_at n7
          have hk47 : Keeps [] w4 w7 := H6.out.1.2.2.2.after hk7 (fun y hy => .inr (by
            obtain rfl : y = sb := by simpa using hy
            exact hs1))
          have H7 := Lib.hid (And.intro (hk7.row H6.out.1.1 (fun g hg => by have := row_ne_map H6.out.1.1 H6.out.1.2.2.1 g hg; simpa using this)) (And.intro (hk7.row H6.out.1.2.1 (fun g hg => by have := row_ne_map H6.out.1.2.1 H6.out.1.2.2.1 g hg; simpa using this)) (And.intro hm7 (And.intro hk47 n7))))
          clear hm7 hk7 n7
          have hz7 : sb ≤ w7.heap.size := Nat.le_trans hs2 hk47.size
          clear hk47
          by_cases h1 : c0 = 0
          · have hc1 : c0 + 1 = 1 := by omega
            have hA1 := Lib.hid (And.intro (heap_new w7 (.cells #[.string p1, .string p2] 78)) (go1 ((Keeps.refl [] w7).alloc (.cells #[.string p1, .string p2] 78)) H7.out))
            go_upto_region 19 with (at_builtin; refine wpList_append_own _ rfl (.tmp 59) (.tmp 61) 50 rfl sb 78 iq _ 2 32 Tryd.underlying50 hiq hy0 hy1 hy2 rfl (by decide) (.slice a9 S.length c9) S.length (S.flatMap encPB) rfl hA1.out.2.1 ⟨w7.heap.size, 0, none⟩ 1 1 [.string p1, .string p2] rfl rfl (news_two hA1.out.1) (by simp [Value.oneCell']) (by simp only [maxLen]; omega) (by omega) (by rw [World.size_alloc]; omega) ?_; intro v8 w8 hown8 hgrow8 hnil8; clear hnil8; obtain ⟨ao8, cp8, rfl, -, -, -⟩ := row_slice hown8; skip)
            have hgr := keeps_row hgrow8
            have n8 := hgr.at_ hA1.out.2.2.2.2.2 (fun hm => row_ne_cells hA1.out.2.1 hA1.out.2.2.2.2.2 (by decide) pb (by simpa using hm) rfl)
            have t8 := hgr.row hA1.out.2.2.1 (rows_ne2 hA1.out.2.1 hA1.out.2.2.1 (by decide))
            have m8 := hA1.out.2.2.2.1.keep hgr (fun hm => row_ne_map hA1.out.2.1 hA1.out.2.2.2.1 sb (by simpa using hm) rfl)
            have k8 := keeps_own hA1.out.2.2.2.2.1 hgrow8 (fun g hg => by have := (World.ownsRow.lt H7.out.1 g hg).1; omega)
            clear cp lp hl7
            have cp := cells_at n8
            have lp := lt_of_at n8
            have hz8 := k8.size
            have hA2 := Lib.hid (And.intro (heap_new w8 (.cells #[.string p1, .string p2] 44)) (And.intro (go1 ((Keeps.refl [] w8).alloc (.cells #[.string p1, .string p2] 44)) (And.intro (row_snoc hown8) (And.intro t8 (And.intro m8 k8)))) t8))
            clear hown8 hgrow8 hgr n8 t8 m8 k8 hA1
            go_wp2_with (at_builtin; refine wpList_append_own _ rfl (.tmp 63) (.tmp 65) 40 rfl sb 44 ip _ 2 32 Tryd.underlying40 hip hz0 hz1 hz2 rfl (by decide) (.slice a11 S.length c11) S.length (S.flatMap encPB) rfl hA2.out.2.1.2.1 ⟨w8.heap.size, 0, none⟩ 1 1 [.string p1, .string p2] rfl rfl (news_two hA2.out.1) (by simp [Value.oneCell']) (by simp only [maxLen]; omega) (by omega) (by rw [World.size_alloc]; omega) ?_; intro v9 w9 hown9 hgrow9 hnil9; clear hnil9; obtain ⟨ao9, cp9, rfl, -, -, -⟩ := row_slice hown9; skip)
            have hgr := keeps_row hgrow9
            have s9 := hgr.row hA2.out.2.1.1 (rows_ne2 hA2.out.2.1.2.1 hA2.out.2.1.1 (by decide))
            have m9 := hA2.out.2.1.2.2.1.keep hgr (fun hm => row_ne_map hA2.out.2.1.2.1 hA2.out.2.1.2.2.1 sb (by simpa using hm) rfl)
            have k9 := keeps_own hA2.out.2.1.2.2.2 hgrow9 (fun g hg => by have := (World.ownsRow.lt hA2.out.2.2 g hg).1; omega)
            have H9 := Lib.hid (And.intro s9 (And.intro (row_snoc hown9) (And.intro m9 k9)))
            clear hown9 hgrow9 hgr s9 m9 k9 hA2 cp lp
            go_wp2_with fail
            go_roundg (R.length - (j + 1))
            case measure => have := Hgj.out; omega
            case rel =>
              have hf := H6.out.2.2.2 (by rw [← Hc0.out]; exact h1)
              rw [← Hc0.out] at hf
              have hlen : (S ++ [(p1, p2)]).length = S.length + 1 := by simp
              exact ⟨j + 1, S ++ [(p1, p2)], _, hltj, rfl, by go_num, hf, H9.out.1, H9.out.2.1, H9.out.2.2.1, H9.out.2.2.2⟩
          · have hc1 : c0 + 1 ≠ 1 := by omega
            go_wp2_with fail
            go_roundg (R.length - (j + 1))
            case measure => have := Hgj.out; omega
            case rel =>
              have hf := H6.out.2.2.1 p1
              rw [← Hc0.out] at hf
              exact ⟨j + 1, S, _, hltj, rfl, by go_num, hf, H7.out.1, H7.out.2.1, H7.out.2.2.1, H7.out.2.2.2.1⟩
        · have hge : ¬ (j : Int) < (R.length : Int) := by omega
          have HA := Lib.hid (And.intro (go1 hkb H4.out.1) (And.intro (row_base (b' := 0) hs (Nat.zero_le _)) (And.intro hok.nodup ((hkb.cell (by omega) (by simp)).trans H4.out.2.2))))
          have hbr : b < wr.heap.size := by have := hkb.size; omega
          clear hs ht hmp hkb hok H4
          have hsz := HA.out.1.2.2.2.size
          go_wp2_with fail
          refine (addS_spec w.heap.size _ x mb _ a c _ S hsz HA.out.1.1 HA.out.1.2.2.1 HA.out.1.2.1 HA.out.2.1 HA.out.2.2.1 (by omega)).mono ?_
          rintro e w8 ⟨va, lo, ents, rfl, hix, ho8, hnv, hk8⟩
          have hq : ∀ y ∈ x :: mb :: (Value.slice a 0 c).ownBlock.toList, w.heap.size ≤ y := fun y hy => by
            rcases List.mem_cons.1 hy with rfl | hy
            · exact hxw
            · rcases List.mem_cons.1 hy with rfl | hy
              · exact hmw
              · exact (World.ownsRow.lt HA.out.1.2.2.1 y (by simpa using hy)).1
          have hs8 := hk8.row HA.out.2.1 (fun g hg hm => by
            rcases List.mem_cons.1 hm with rfl | hm
            · exact row_ne_cells HA.out.2.1 HA.out.1.1 (by decide) _ hg rfl
            · rcases List.mem_cons.1 hm with rfl | hm
              · exact row_ne_map HA.out.2.1 HA.out.1.2.1 _ hg rfl
              · exact rows_ne2 HA.out.1.2.2.1 HA.out.2.1 (by decide) g hg hm)
          have d8 := (hk8.cell hbr (i := off + i * 2 + 1) (fun hm => by have := hq b hm; omega)).trans HA.out.2.2.2
          have hk08 : Keeps [] w w8 := HA.out.1.2.2.2.after hk8 (fun y hy => .inr (hq y hy))
          have hb8 : b < w8.heap.size := hk8.lt hbr
          have H8 := Lib.hid (And.intro hix (And.intro ho8 (And.intro hnv (And.intro hs8 hk08))))
          clear hix ho8 hnv hs8 hk8 hk08 hq HA
          go_wp2_with fail
          refine (dropS_spec w.heap.size w _ x mb _ va lo ents _ S H8.out.2.2.2.2 (Nat.le_refl _) (Nat.le_refl _) hxw hmw H8.out.1 H8.out.2.1 H8.out.2.2.1 H8.out.2.2.2.1 (by omega)).mono ?_
          rintro e w9 ⟨a9', c9', rfl, hx9, hm9, ho9, hk9⟩
          have H9 := Lib.hid (And.intro hx9 (And.intro hm9 (And.intro ho9 hk9)))
          clear hx9 hm9 ho9 hk9 H8 d8
          go_wp2_with fail
          go_roundg (XS.length - (i + 1))
          case measure => have := Hg.out; omega
          case rel => exact ⟨i + 1, a9', c9', hlt, rfl, by go_num, H9.out.1, H9.out.2.1, H9.out.2.2.1, H9.out.2.2.2⟩
    · have hlt' : ¬ (i : Int) < (XS.length : Int) := by omega
      have Hr := Lib.hid (And.intro hx (And.intro hm (And.intro ho hk)))
      clear hx hm ho hk
      go_wp2_with fail
      go_ret2
      exact ⟨x, mb, a, c, _, rfl, Hr.out.1, Hr.out.2.1, Hr.out.2.2.1, Hr.out.2.2.2⟩
end Go.Proofs.YtjgaidojohgenaaDoor
