/-
  Package barographlaw12: Grow in general, walked: the index says what the series that stay say.
  No condition beyond those that each theorem states.
-/
import Derived.Test.YtejfigbjaiealaaGreatDoorSort6
import Derived.Test.YtejfigbjaiealaaGreatDoorPostGood
namespace Go.Proofs.YtejfigbjaiealaaGreatDoor
open Go Go.RowKit

theorem Still2.row {w w' : World} (h : Still2 w w') {base s n : Nat} {e : TypeId} {v : Value} {xs : List Value} (ho : w.ownsRow base e s v n xs) (h1 : e ≠ 3) (h2 : e ≠ 75) : w'.ownsRow base e s v n xs := by
  obtain ⟨hl, ⟨rfl, rfl⟩ | ⟨g, cap, cur, rfl, hg1, hg2, r⟩⟩ := ho
  · exact ⟨hl, .inl ⟨rfl, rfl⟩⟩
  · exact ⟨hl, .inr ⟨g, cap, cur, rfl, hg1, h _ _ _ h1 h2 hg2, r⟩⟩

/-- A series that is told, and the slice of its pairs. -/
abbrev SerV := SerT × Value

def encSV (q : SerV) : List Value := [.int .i64 q.1.1, q.2]

structure ToldAt (B : Nat) (w : World) (vo : Value) (TV : List SerV) : Prop where
  row : w.ownsRow B 31 2 vo TV.length (TV.flatMap encSV)
  ser : ∀ q ∈ TV, w.ownsRow 0 34 2 q.2 q.1.2.length (q.1.2.flatMap encPB)

theorem ToldAt.keep {B : Nat} {w w' : World} {vo : Value} {TV : List SerV} (h : ToldAt B w vo TV) (k : Keeps [] w w') : ToldAt B w' vo TV := ⟨go1 k h.row, fun q hq => go1 k (h.ser q hq)⟩

instance go1Told {w w' : World} (B : Nat) (vo : Value) (TV : List SerV) : Go1 w w' (ToldAt B w vo TV) (ToldAt B w' vo TV) := ⟨fun k h => h.keep k⟩

theorem ToldAt.still {B : Nat} {w w' : World} {vo : Value} {TV : List SerV} (h : ToldAt B w vo TV) (k : Still2 w w') : ToldAt B w' vo TV := ⟨k.row h.row (by decide) (by decide), fun q hq => k.row (h.ser q hq) (by decide) (by decide)⟩

theorem infoSeries12 : (Tryz.prog.info? 31).map (fun i => (i.zero, i.size, i.bytes)) = some (some (.agg #[.int .i64 0, .slice none 0 0]), 2, 32) := by kernel_rfl

theorem told_snoc {w : World} {B : Nat} {v : Value} {TV : List SerV} {q : SerV} (h : w.ownsRow B 31 2 v (TV.length + 1) (TV.flatMap encSV ++ [.int .i64 q.1.1, q.2])) (hs : ∀ q ∈ TV, w.ownsRow 0 34 2 q.2 q.1.2.length (q.1.2.flatMap encPB)) (hq : w.ownsRow 0 34 2 q.2 q.1.2.length (q.1.2.flatMap encPB)) : ToldAt B w v (TV ++ [q]) := by
  refine ⟨?_, fun q' hq' => ?_⟩
  · rw [List.length_append, List.flatMap_append]
    simpa [encSV] using h
  · rcases List.mem_append.1 hq' with hq' | hq'
    · exact hs q' hq'
    · obtain rfl : q' = q := by simpa using hq'
      exact hq

theorem few6_sz {L : List PairB} : ∀ p ∈ few6 L, p.1.size ≤ 42 ∧ p.2.size ≤ 42 := by
  intro p hp
  unfold few6 at hp
  obtain ⟨q, _, rfl⟩ := List.mem_map.1 hp
  exact ⟨cut_size _ _, cut_size _ _⟩

theorem ixG_new {B : Nat} {w : World} {x mb : Nat} (hx : IxAt w x mb (.slice none 0 0)) (hm : MapAt w mb []) : IxG B w x mb (.slice none 0 0) [] [] :=
  ⟨hx, World.ownsRow_nil _ _ _ 1, hm, by simp, by simp, by simp, by simp⟩

def GrowRelG (w : World) (x mb m gk : Nat) (u5 u6 : Value) (wr : World) : Prop :=
  ∃ (i : Nat) (va : Value) (E : OutG) (all : List Int) (TV : List SerV), i ≤ m ∧ i ≤ 12 ∧ gk = m - i ∧ u6 = .int .i64 i ∧ IxG w.heap.size wr x mb va E all ∧ RowsOk E ∧ GrowI i (TV.map (·.1)) (absG E) all ∧ ToldAt w.heap.size wr u5 TV ∧ Keeps [] w wr

def SeenRelG (R : List PairB) (wb : World) (nb sb m gk : Nat) (u9 u11 u45 : Value) (wr : World) : Prop :=
  ∃ (j : Nat) (S : List PairB) (M : List (ByteArray × Int)), j ≤ m ∧ gk = m - j ∧ u45 = .int .i64 j ∧ (SeenOk S M j ∧ ∀ q ∈ S, q ∈ R) ∧ wr.ownsRow nb 64 2 u9 S.length (S.flatMap encPB) ∧ wr.ownsRow nb 34 2 u11 S.length (S.flatMap encPB) ∧ MapAt wr sb (encMap encI M) ∧ Keeps [] wb wr

def GrowPostG (w : World) (e : Ending) (w' : World) : Prop :=
  ∃ (x mb : Nat) (vo va : Value) (E : OutG) (all : List Int) (TV : List SerV), e = .returned (.tuple #[.pointer (some ⟨x, 0, none⟩), vo]) ∧ IxG w.heap.size w' x mb va E all ∧ RowsOk E ∧ GrowI 12 (TV.map (·.1)) (absG E) all ∧ ToldAt w.heap.size w' vo TV ∧ Keeps [] w w'

theorem IxG.keepRow {B : Nat} {w w' : World} {x mb : Nat} {va : Value} {E : OutG} {all : List Int} (h : IxG B w x mb va E all) {v : Value} {b s n : Nat} {e : TypeId} {xs : List Value} (ho : w.ownsRow b e s v n xs) (h1 : e ≠ 3) (h2 : e ≠ 75) (k : Keeps v.ownBlock.toList w w') : IxG B w' x mb va E all :=
  ⟨k.at_ h.at_ (fun hy => row_ne_cells ho h.at_ (fun e => h2 e.symm) x (by simpa using hy) rfl), k.row h.own (rows_ne2 ho h.own h1), h.map.keep k (fun hy => row_ne_map ho h.map mb (by simpa using hy) rfl), fun p hp => ⟨(h.ent p hp).1.keep k (fun hy => row_ne_map ho (h.ent p hp).1 _ (by simpa using hy) rfl), (h.ent p hp).2⟩, fun p hp q hq => ⟨(h.row p hp q hq).1, k.row (h.row p hp q hq).2.1 (rows_ne2 ho (h.row p hp q hq).2.1 h1), (h.row p hp q hq).2.2⟩, h.apartE, h.apartR⟩

theorem GrowI.le {i j : Nat} {T : List SerT} {A : AbsG} {all : List Int} (h : GrowI i T A all) (hj : i ≤ j) : GrowI j T A all :=
  ⟨fun s hs => by obtain ⟨k, hk, e⟩ := h.rng s hs; exact ⟨k, by omega, e⟩, h.nod, h.ser, h.full, h.say, h.all_, Nat.le_trans h.len hj⟩

set_option linter.unusedSimpArgs false in
set_option maxRecDepth 100000 in
set_option maxHeartbeats 2000000 in
theorem growG_spec (w : World) (v : Value) (XS : List (Value × Bool)) (h : SliceArg 2 encOne w v XS) (hok : OnesOk w XS) :
    Calls Tryz.prog 6 #[v] w (GrowPostG w) := by
  have hmm := @run_makeMap Tryz.prog
  obtain ⟨ip, hip, hz0, hz1, hz2⟩ := info_parts infoPair6
  obtain ⟨iq, hiq, hy0, hy1, hy2⟩ := info_parts infoPair
  obtain ⟨is, his, hi0, hi1, hi2⟩ := info_parts infoSeries12
  have Hf := Lib.hid (And.intro h hok)
  obtain ⟨av, cv, rfl, hlm, -⟩ := h
  clear hlm hok
  go_enter Tryz.func6, Tryz.ntmps6
  go_wp2_with fail
  refine (newIx_spec _).mono ?_
  rintro e w1 ⟨x, mb, rfl, hx, hm, hxw, hmw, hxm, hk1⟩
  have k2 := (Keeps.refl [] w1).alloc (.cells #[] 31)
  have H2 := Lib.hid (And.intro (go1 k2 (And.intro hx (And.intro hm hk1))) (own_made w1 w.heap.size 31 2 hk1.size))
  clear k2 hx hm hk1
  go_wp2_with fail
  go_loopg [5, 6] XS.length (GrowRelG w x mb XS.length)
  case atStart => exact ⟨0, _, [], [], [], Nat.zero_le _, Nat.zero_le _, rfl, rfl, ixG_new H2.out.1.1 H2.out.1.2.1, by intro p hp; simp at hp, GrowI.start, ⟨by simpa using H2.out.2, by simp⟩, H2.out.1.2.2⟩
  case round =>
    obtain ⟨i, va, E, all, TV, hi, hi12, hgk, rfl, hix, hrows, hI, htold, hk⟩ := hrel
    have Hg := Lib.hid hgk
    have HI := Lib.hid (And.intro hI hrows)
    obtain ⟨a5, c5, rfl, -, -, -⟩ := row_slice htold.row
    clear hgk H2 hI hrows
    by_cases hlt : i < XS.length
    · by_cases h12 : i < 12
      rotate_left
      · have hlt' : (i : Int) < (XS.length : Int) := by omega
        have h12' : ¬ (i : Int) < 12 := by omega
        have Hr := Lib.hid (And.intro hix (And.intro htold hk))
        clear hix htold hk
        go_wp2_with fail
        go_ret2
        exact ⟨x, mb, _, _, _, _, _, rfl, Hr.out.1, HI.out.2, HI.out.1.le hi12, Hr.out.2.1, Hr.out.2.2⟩
      obtain ⟨b, off, cap', ea, hb0, -, dd⟩ := one_at Hf.out.1 i hlt
      injection ea with ea _ ec
      subst ea ec
      have Hdd := Lib.hid dd
      clear dd
      obtain ⟨b', off', cap', ea, hbW, d0, d1⟩ := one_at (Hf.out.1.keep hk) i hlt
      injection ea with ea _ ec
      injection ea with ea
      injection ea with eb eo _
      subst eb eo ec
      have hlt' : (i : Int) < (XS.length : Int) := by omega
      have hlt12 : (i : Int) < 12 := by omega
      obtain ⟨L, hL⟩ := Hf.out.2 XS[i] (List.getElem_mem hlt)
      generalize XS[i] = y at d0 d1 hL Hdd
      obtain ⟨y1, y2⟩ := y
      dsimp only at d0 d1 hL Hdd
      have hL2 := hL.keep hk
      obtain ⟨ay, cy, rfl, -, -⟩ := hL
      have Hc := Lib.hid (And.intro hix (And.intro htold (And.intro hk hL2)))
      clear hix htold hk hL2 d1
      go_wp2_with fail
      refine (few6_spec _ _ L Hc.out.2.2.2).mono ?_
      rintro e w2 ⟨v2, rfl, hrow2, hk2⟩
      have H2 := Lib.hid (And.intro hrow2 hk2)
      clear hrow2 hk2 d0
      go_wp2_with fail
      refine (told6_spec _ _ (few6 L) (row_argP H2.out.1) (by have := few6_len L; omega)).mono ?_
      rintro e w3 ⟨v3, rfl, hrow3, hk3⟩
      have H3 := Lib.hid (And.intro hrow3 (H2.out.2.trans hk3))
      clear hrow3 hk3 H2
      go_wp2_with fail
      refine (sorted6_spec _ _ (few6 L) (row_argP H3.out.1) (few6_len L)).mono ?_
      rintro e w4 ⟨v4, R, rfl, ⟨hR, hRm⟩, hrow4, hk4⟩
      have hRl : R.length ≤ 10 := by rw [hR]; exact few6_len L
      obtain ⟨a4, c4, rfl, -, -, -⟩ := row_slice hrow4
      have hk04 := H3.out.2.trans hk4
      have HRm := Lib.hid (show ∀ q ∈ R, q.1.size ≤ 42 ∧ q.2.size ≤ 42 from fun q hq => few6_sz q (hRm q hq))
      have H4 := Lib.hid (And.intro (go1 hk04 (And.intro Hc.out.1 (And.intro Hc.out.2.1 Hc.out.2.2.1))) (row_argP hrow4))
      clear hR hRm hrow4 hk4 H3 Hc hk04 hbW
      have kM := (Keeps.refl [] w4).alloc (.map #[] 0)
      have kN := (Keeps.refl [] (w4.alloc (.map #[] 0))).alloc (.cells #[] 34)
      have hzM : (w4.alloc (.map #[] 0)).heap.size = w4.heap.size + 1 := by simp
      have mk := own_made (w4.alloc (.map #[] 0)) w4.heap.size 34 2 (by rw [hzM]; omega)
      rw [hzM] at mk
      have H5 := Lib.hid (And.intro (show MapAt ((w4.alloc (.map #[] 0)).alloc (.cells #[] 34)) w4.heap.size (encMap encI []) from go1 kN (mapAt_new w4)) (And.intro mk (kM.trans kN)))
      clear kM kN hzM mk
      go_wp2_with fail
      generalize hwe : (w4.alloc (.map #[] 0)).alloc (.cells #[] 34) = we at H5 ⊢
      clear hwe
      obtain ⟨sb, hsb⟩ : ∃ sb, sb = w4.heap.size := ⟨_, rfl⟩
      rw [← hsb] at H5 ⊢
      have hs1 : w4.heap.size ≤ sb := by omega
      have hs2 : sb ≤ w4.heap.size := by omega
      clear hsb
      go_loopg [9, 11, 45] R.length (SeenRelG R w4 sb sb R.length)
      case atStart => exact ⟨0, [], [], Nat.zero_le _, rfl, rfl, ⟨⟨by simp, by simp, by simp, by simp⟩, by simp⟩, World.ownsRow_nil _ _ _ 2, H5.out.2.1, H5.out.1, H5.out.2.2⟩
      case round =>
        obtain ⟨j, S, M, hj, hgj, rfl, hok, hs, ht, hmp, hkb⟩ := hrel
        have Hgj := Lib.hid hgj
        obtain ⟨hok, hSR⟩ := hok
        have HSR := Lib.hid hSR
        clear hgj H5 hSR
        have hSl : S.length ≤ 10 := by have := hok.len; omega
        obtain ⟨a9, c9, rfl, -, -, -⟩ := row_slice hs
        obtain ⟨a11, c11, rfl, -, -, -⟩ := row_slice ht
        by_cases hltj : j < R.length
        · obtain ⟨b5, off5, cap5, ea, hb5, d0, d1⟩ := pair_at (go1 hkb H4.out.2) j hltj
          injection ea with ea _ ec
          subst ea ec
          have hltj' : (j : Int) < (R.length : Int) := by omega
          obtain ⟨p, hp⟩ : ∃ p, p = R[j] := ⟨_, rfl⟩
          rw [← hp] at d0 d1
          have HpR := Lib.hid (show p ∈ R from by rw [hp]; exact List.getElem_mem hltj)
          clear hp
          obtain ⟨p1, p2⟩ := p
          dsimp only at d0 d1
          have kA : Keeps [] wr (wr.alloc (.cells #[.string p1, .string p2] 34)) := (Keeps.refl [] wr).alloc _
          have nA := heap_new wr (.cells #[.string p1, .string p2] 34)
          have hbd := hok.bound p1
          have hlo := (go1 kA hmp).run_lookup (P := Tryz.prog) Tryz.underlying63 Tryz.underlying9 (zeroInt _) p1 false
          rw [lookVal_int] at hlo
          have H6 := Lib.hid (And.intro (go1 kA (And.intro hs (And.intro ht (And.intro hmp hkb)))) (And.intro nA (And.intro hok.again (hok.first p1 p2))))
          clear hs ht hmp hkb kA nA hok
          obtain ⟨c0, hc0⟩ : ∃ c0, c0 = (look M p1).getD 0 := ⟨_, rfl⟩
          rw [← hc0] at hbd hlo
          have hcl : 0 ≤ c0 ∧ c0 ≤ j := ⟨hbd.1, hbd.2.1⟩
          have hadd : IntKind.i64.wrap (c0 + 1) = c0 + 1 := IntWalk.i64_in _ (by omega)
          have Hc0 := Lib.hid hc0
          clear hbd hc0
          go_upto_region 16 with fail
          clear d0 d1 hb5
          generalize hw6 : wr.alloc (.cells #[.string p1, .string p2] 34) = w6 at H6 hlo ⊢
          generalize hpb : wr.heap.size = pb at H6 ⊢
          clear hw6 hpb
          have cp := cells_at H6.out.2.1
          have lp := lt_of_at H6.out.2.1
          go_upto_region 17 with (refine wpList_update_str _ rfl (.tmp 49) (.tmp 51) (.tmp 53) _ _ _ rfl Tryz.underlying63 Tryz.underlying9 sb (encMap encI M) p1 (encI (c0 + 1)) (by rfl) (by rfl) (by rfl) H6.out.1.2.2.1 ?_; intro w7 hm7 hk7)
          rw [put_enc] at hm7
          have hl7 := hm7.run_lookup (P := Tryz.prog) Tryz.underlying63 Tryz.underlying9 (zeroInt _) p1 false
          rw [lookVal_int, look_put, if_pos rfl, Option.getD_some] at hl7
          clear hlo cp lp
          have n7 := hk7.at_ H6.out.2.1 (by simpa using H6.out.1.2.2.1.ne H6.out.2.1)
          have cp := cells_at n7
          have lp := lt_of_at n7
          have hk47 : Keeps [] w4 w7 := H6.out.1.2.2.2.after hk7 (fun y hy => .inr (by
            obtain rfl : y = sb := by simpa using hy
            exact hs1))
          have H7 := Lib.hid (And.intro (hk7.row H6.out.1.1 (fun g hg => by have := row_ne_map H6.out.1.1 H6.out.1.2.2.1 g hg; simpa using this)) (And.intro (hk7.row H6.out.1.2.1 (fun g hg => by have := row_ne_map H6.out.1.2.1 H6.out.1.2.2.1 g hg; simpa using this)) (And.intro hm7 (And.intro hk47 n7))))
          clear hm7 hk7 n7
          have hz7 : sb ≤ w7.heap.size := Nat.le_trans hs2 hk47.size
          clear hk47
          by_cases h1 : c0 = 0
          · have hc1 : c0 + 1 = 1 := by omega
            have hA1 := Lib.hid (And.intro (heap_new w7 (.cells #[.string p1, .string p2] 64)) (go1 ((Keeps.refl [] w7).alloc (.cells #[.string p1, .string p2] 64)) H7.out))
            go_upto_region 19 with (at_builtin; refine wpList_append_own _ rfl (.tmp 59) (.tmp 61) 62 rfl sb 64 iq _ 2 32 Tryz.underlying62 hiq hy0 hy1 hy2 rfl (by decide) (.slice a9 S.length c9) S.length (S.flatMap encPB) rfl hA1.out.2.1 ⟨w7.heap.size, 0, none⟩ 1 1 [.string p1, .string p2] rfl rfl (news_two hA1.out.1) (by simp [Value.oneCell']) (by simp only [maxLen]; omega) (by omega) (by rw [World.size_alloc]; omega) ?_; intro v8 w8 hown8 hgrow8 hnil8; clear hnil8; obtain ⟨ao8, cp8, rfl, -, -, -⟩ := row_slice hown8; skip)
            have hgr := keeps_row hgrow8
            have n8 := hgr.at_ hA1.out.2.2.2.2.2 (fun hm => row_ne_cells hA1.out.2.1 hA1.out.2.2.2.2.2 (by decide) pb (by simpa using hm) rfl)
            have t8 := hgr.row hA1.out.2.2.1 (rows_ne2 hA1.out.2.1 hA1.out.2.2.1 (by decide))
            have m8 := hA1.out.2.2.2.1.keep hgr (fun hm => row_ne_map hA1.out.2.1 hA1.out.2.2.2.1 sb (by simpa using hm) rfl)
            have k8 := keeps_own hA1.out.2.2.2.2.1 hgrow8 (fun g hg => by have := (World.ownsRow.lt H7.out.1 g hg).1; omega)
            clear cp lp hl7
            have cp := cells_at n8
            have lp := lt_of_at n8
            have hz8 := k8.size
            have hA2 := Lib.hid (And.intro (heap_new w8 (.cells #[.string p1, .string p2] 34)) (And.intro (go1 ((Keeps.refl [] w8).alloc (.cells #[.string p1, .string p2] 34)) (And.intro (row_snoc hown8) (And.intro t8 (And.intro m8 k8)))) t8))
            clear hown8 hgrow8 hgr n8 t8 m8 k8 hA1
            go_wp2_with (at_builtin; refine wpList_append_own _ rfl (.tmp 63) (.tmp 65) 29 rfl sb 34 ip _ 2 32 Tryz.underlying29 hip hz0 hz1 hz2 rfl (by decide) (.slice a11 S.length c11) S.length (S.flatMap encPB) rfl hA2.out.2.1.2.1 ⟨w8.heap.size, 0, none⟩ 1 1 [.string p1, .string p2] rfl rfl (news_two hA2.out.1) (by simp [Value.oneCell']) (by simp only [maxLen]; omega) (by omega) (by rw [World.size_alloc]; omega) ?_; intro v9 w9 hown9 hgrow9 hnil9; clear hnil9; obtain ⟨ao9, cp9, rfl, -, -, -⟩ := row_slice hown9; skip)
            have hgr := keeps_row hgrow9
            have s9 := hgr.row hA2.out.2.1.1 (rows_ne2 hA2.out.2.1.2.1 hA2.out.2.1.1 (by decide))
            have m9 := hA2.out.2.1.2.2.1.keep hgr (fun hm => row_ne_map hA2.out.2.1.2.1 hA2.out.2.1.2.2.1 sb (by simpa using hm) rfl)
            have k9 := keeps_own hA2.out.2.1.2.2.2 hgrow9 (fun g hg => by have := (World.ownsRow.lt hA2.out.2.2 g hg).1; omega)
            have H9 := Lib.hid (And.intro s9 (And.intro (row_snoc hown9) (And.intro m9 k9)))
            clear hown9 hgrow9 hgr s9 m9 k9 hA2 cp lp
            go_wp2_with fail
            go_roundg (R.length - (j + 1))
            case measure => have := Hgj.out; omega
            case rel =>
              have hf := H6.out.2.2.2 (by rw [← Hc0.out]; exact h1)
              rw [← Hc0.out] at hf
              have hlen : (S ++ [(p1, p2)]).length = S.length + 1 := by simp
              exact ⟨j + 1, S ++ [(p1, p2)], _, hltj, rfl, by go_num, ⟨hf, mem_snocP HSR.out HpR.out⟩, H9.out.1, H9.out.2.1, H9.out.2.2.1, H9.out.2.2.2⟩
          · have hc1 : c0 + 1 ≠ 1 := by omega
            go_wp2_with fail
            go_roundg (R.length - (j + 1))
            case measure => have := Hgj.out; omega
            case rel =>
              have hf := H6.out.2.2.1 p1
              rw [← Hc0.out] at hf
              exact ⟨j + 1, S, _, hltj, rfl, by go_num, ⟨hf, HSR.out⟩, H7.out.1, H7.out.2.1, H7.out.2.2.1, H7.out.2.2.2.1⟩
        · have hge : ¬ (j : Int) < (R.length : Int) := by omega
          have HA := Lib.hid (And.intro (go1 hkb H4.out.1) (And.intro (row_base (b' := 0) hs (Nat.zero_le _)) (And.intro (row_base (b' := 0) ht (Nat.zero_le _)) hok.nodup)))
          have hser : SerOk (numG i, S) := ⟨hok.nodup, hSl, fun p hp => HRm.out p (HSR.out p hp)⟩
          have Hser := Lib.hid hser
          clear hs ht hmp hkb hok H4 hser
          have hsz := HA.out.1.2.2.size
          have hBx : w.heap.size ≤ x ∧ w.heap.size ≤ mb := ⟨hxw, hmw⟩
          have HnG := Lib.hid HA.out.1.1.nodupG
          have hTl : TV.length ≤ 12 := by have := HI.out.1.len; rw [List.length_map] at this; omega
          go_wp2_with fail
          generalize hn' : ((i : Int) * 7 + 3) % 12 = n
          have Hn := Lib.hid (show n = numG i from hn'.symm)
          clear hn'
          refine (addG_spec w.heap.size w _ x mb n va _ E all S HA.out.1.2.2 (Nat.le_refl _) hsz hxw hmw HA.out.1.1 HI.out.1.allOk HI.out.2 (by rw [Hn.out]; exact numG_range i) HA.out.2.1 (by omega)).mono ?_
          rintro e w8 ⟨va8, E8, rfl, hix8, habs8, hrows8, hs8, hk8⟩
          have HB := Lib.hid (And.intro (HA.out.1.2.1.still hk8.2) (And.intro (hk8.2.row HA.out.2.2.1 (by decide) (by decide)) (And.intro hs8 (And.intro hix8 (And.intro habs8 (And.intro hrows8 hk8.1))))))
          have d8 := (hk8.1.cell hb0 (i := off + i * 2 + 1) (by simp)).trans Hdd.out
          have hb8 : b < w8.heap.size := hk8.1.lt hb0
          have HN := Lib.hid HA.out.2.2.2
          clear hix8 habs8 hrows8 hs8 hk8 HA
          rcases Bool.eq_false_or_eq_true y2 with rfl | rfl
          · have HS := Lib.hid (heap_new w8 (.cells #[.int .i64 n, .slice a11 S.length c11] 31))
            have hA1 := Lib.hid (go1 ((Keeps.refl [] w8).alloc (.cells #[.int .i64 n, .slice a11 S.length c11] 31)) (And.intro HB.out.1 (And.intro HB.out.2.1 (And.intro HB.out.2.2.2.1 HB.out.2.2.2.2.2.2))))
            have hz8 := HB.out.2.2.2.2.2.2.size
            go_wp2_with (at_builtin; refine wpList_append_own _ rfl (.tmp 82) (.tmp 86) 24 rfl w.heap.size 31 is _ 2 32 Tryz.underlying24 his hi0 hi1 hi2 rfl (by decide) (.slice a5 TV.length c5) TV.length (TV.flatMap encSV) rfl hA1.out.1.row ⟨w8.heap.size, 0, none⟩ 1 1 [.int .i64 n, .slice a11 S.length c11] rfl rfl (news_two HS.out) (by simp [Value.oneCell']) (by simp only [maxLen]; omega) (by omega) (by rw [World.size_alloc]; omega) ?_; intro v9 w9 hown9 hgrow9 hnil9; clear hnil9; obtain ⟨ao9, cp9, rfl, -, -, -⟩ := row_slice hown9; skip)
            have hgr := keeps_row hgrow9
            have hix9 := hA1.out.2.2.1.keepRow hA1.out.1.row (by decide) (by decide) hgr
            have k9 := keeps_own hA1.out.2.2.2 hgrow9 (fun g hg => (World.ownsRow.lt hA1.out.1.row g hg).1)
            have ht9 : ToldAt w.heap.size w9 (.slice ao9 (TV.length + 1) cp9) (TV ++ [((n, S), .slice a11 S.length c11)]) := told_snoc hown9 (fun q hq => hgr.row (hA1.out.1.ser q hq) (rows_ne2 hA1.out.1.row (hA1.out.1.ser q hq) (by decide))) (hgr.row hA1.out.2.1 (rows_ne2 hA1.out.1.row hA1.out.2.1 (by decide)))
            have H9 := Lib.hid (And.intro hix9 (And.intro ht9 k9))
            clear hown9 hgrow9 hgr hix9 k9 ht9 hA1 HS
            go_wp2_with fail
            go_roundg (XS.length - (i + 1))
            case measure => have := Hg.out; omega
            case rel =>
              have hI' := HI.out.1.stay h12 HnG.out Hser.out (A' := absG E8) (by rw [HB.out.2.2.2.2.1, Hn.out])
              refine ⟨i + 1, va8, E8, insI all n, TV ++ [((n, S), .slice a11 S.length c11)], hlt, by omega, rfl, by go_num, H9.out.1, HB.out.2.2.2.2.2.1, ?_, ?_, H9.out.2.2⟩
              · rw [List.map_append, Hn.out]
                exact hI'
              · have h := H9.out.2.1
                exact h
          · go_wp2_with fail
            refine (dropG_spec w.heap.size w _ x mb n va8 _ E8 _ S HB.out.2.2.2.2.2.2 (Nat.le_refl _) hxw hmw HB.out.2.2.2.1 (HI.out.1.allOk.ins (by rw [Hn.out]; exact numG_range i)).1 HB.out.2.2.2.2.2.1 HN.out (by rw [HB.out.2.2.2.2.1]; exact added_there n S (absG E) HN.out) HB.out.2.2.1 (by omega)).mono ?_
            rintro e w9 ⟨va9, E9, rfl, hix9, habs9, hrows9, hk9⟩
            have H9 := Lib.hid (And.intro hix9 (And.intro habs9 (And.intro hrows9 (And.intro (HB.out.1.still hk9.2) hk9.1))))
            clear hix9 habs9 hrows9 hk9 d8
            go_wp2_with fail
            go_roundg (XS.length - (i + 1))
            case measure => have := Hg.out; omega
            case rel =>
              have hI' := HI.out.1.gone h12 HnG.out HN.out (A1 := absG E8) (A2 := absG E9) (by rw [HB.out.2.2.2.2.1, Hn.out]) (by rw [H9.out.2.1, Hn.out])
              exact ⟨i + 1, va9, E9, _, TV, hlt, by omega, rfl, by go_num, H9.out.1, H9.out.2.2.1, by rw [Hn.out]; exact hI', H9.out.2.2.2.1, H9.out.2.2.2.2⟩
    · have hlt' : ¬ (i : Int) < (XS.length : Int) := by omega
      have Hr := Lib.hid (And.intro hix (And.intro htold hk))
      clear hix htold hk
      go_wp2_with fail
      go_ret2
      exact ⟨x, mb, _, _, _, _, _, rfl, Hr.out.1, HI.out.2, HI.out.1.le hi12, Hr.out.2.1, Hr.out.2.2⟩
end Go.Proofs.YtejfigbjaiealaaGreatDoor
