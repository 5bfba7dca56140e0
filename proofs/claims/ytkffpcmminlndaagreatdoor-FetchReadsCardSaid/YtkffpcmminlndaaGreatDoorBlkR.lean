/-
  A block's two texts are read (package block): Chunks, Entries; label.Take.
  The package's variable xor.widths holds what its text says (XorVar).
-/
import Derived.Test.YtkffpcmminlndaaGreatDoorXorS
import Derived.Test.YtkffpcmminlndaaGreatDoorFrameAS
namespace Go.Proofs.YtkffpcmminlndaaGreatDoor
open Go Go.RowKit Go.Conc

theorem rec_one {w : World} {B : Nat} {v : Value} {k : UInt8} {x : ByteArray} (h : w.ownsRow B 161 2 v [(k, x)].length ([(k, x)].flatMap encRecS)) : ∃ g c, v = .slice (some ⟨g, 0, none⟩) 1 c ∧ g < w.heap.size ∧ w.cell? ⟨g, 0, none⟩ = some (.int .u8 (k.toNat : Nat)) ∧ w.cell? ⟨g, 1, none⟩ = some (.string x) := by
  obtain ⟨g, c, rfl⟩ := row_some h Nat.zero_lt_one
  have hn := row_news h
  exact ⟨g, c, rfl, (World.ownsRow.lt h g rfl).2, hn 0 _ rfl, hn 1 _ rfl⟩

def CkkRel (w W : World) (L : List SmpB) (gk : Nat) (u6 u23 : Value) (wr : World) : Prop :=
  Keeps [] W wr ∧ ((gk = 1 ∧ u6 = .slice none 0 0 ∧ u23 = .int .i64 0) ∨ (gk = 0 ∧ u23 = .int .i64 1 ∧ wr.ownsRow w.heap.size 74 2 u6 L.length (L.flatMap encSm)))

set_option linter.unusedSimpArgs false in
set_option maxRecDepth 100000 in
set_option maxHeartbeats 2000000 in
theorem chunksR_spec (w : World) (hX : XorVar w) (s : ByteArray) (L : List SmpB) (hs : s.data.toList = chunkF L) (hok : SmpsOk L) (hL : 0 < L.length ∧ L.length ≤ 120) :
    Calls Tryz.prog 40 #[.string s] w (SmpsPost w L) := by
  obtain ⟨ib, hib, hz0, hz1, hz2⟩ := info_parts infoSmp
  have hfl := chunkF_len hL.2 hok
  have hsz : s.size ≤ 3000 := by rw [← dsize, hs]; exact hfl
  obtain ⟨x, hx⟩ : ∃ x : ByteArray, x = ⟨(xorL L).toArray⟩ := ⟨_, rfl⟩
  have hxz : x.size ≤ 2300 := by rw [hx]; exact xorL_len hL.2 hok
  have Ha := Lib.hid (allS_spec w s [(4, x)] (by rw [hs, hx]; simp [framesS, chunkF]) (by omega) (Nat.le_succ 1) (fun r hr => by simp at hr; rw [hr]; show x.size ≤ _; omega))
  have H := Lib.hid (And.intro hX (And.intro hok hx))
  have hL0 : ¬ (L.length : Int) = 0 := by omega
  have hLb : ((L.length : Int) == 0) = false := by rw [beq_eq_false_iff_ne]; exact hL0
  clear hX hok hx hs hfl
  go_enter Tryz.func40, Tryz.ntmps40
  go_wp2_with fail
  refine Ha.out.mono ?_
  rintro e W ⟨v, rfl, hrow, hk⟩
  obtain ⟨g, c, rfl, hgl, hc0, hc1⟩ := rec_one hrow
  have hkind : ((4 : UInt8).toNat : Int) = 4 := rfl
  have HW := Lib.hid (And.intro hrow (And.intro hk (And.intro hc0 (And.intro hc1 hgl))))
  clear hrow hk hc0 hc1 hgl
  go_wp2_with fail
  go_loopg [6, 23] 1 (CkkRel w W L)
  case atStart => exact ⟨Keeps.refl _ _, .inl ⟨rfl, rfl, rfl⟩⟩
  case round =>
    obtain ⟨hkr, hh⟩ := hrel
    rcases hh with ⟨hgk, rfl, rfl⟩ | ⟨hgk, rfl, hown⟩
    · have hc0 := (hkr.cell HW.out.2.2.2.2 (by simp)).trans HW.out.2.2.1
      have hc1 := (hkr.cell HW.out.2.2.2.2 (by simp)).trans HW.out.2.2.2.1
      have hgl := hkr.lt HW.out.2.2.2.2
      have Hg := Lib.hid (And.intro hgk hkr)
      rw [hkind] at hc0
      obtain ⟨q, hq⟩ : ∃ q, q = wr.heap.size := ⟨_, rfl⟩
      obtain ⟨w2, hw2⟩ : ∃ w2, w2 = wr.alloc (.cells #[.int .u8 4, .string x] 161) := ⟨_, rfl⟩
      have k2 : Keeps [] wr w2 := by rw [hw2]; exact (Keeps.refl [] _).alloc _
      have n2 : w2.heap[q]? = some (.cells #[.int .u8 4, .string x] 161 (0, 0)) := by rw [hw2, hq]; exact heap_new wr _
      clear hgk hkr
      go_upto_region 8 with fail
      rw [← hw2, ← hq]
      have H2 := Lib.hid (And.intro n2 (Hg.out.2.trans k2))
      have cq := cells_at n2
      have lq := lt_of_at n2
      clear hw2 hq n2 k2 hc0 hc1 hgl
      go_wp2_with fail
      refine (samplesX_spec w2 ((H.out.1.same HW.out.2.1).same H2.out.2) x L H.out.2.2 H.out.2.1 hL.2).mono ?_
      rintro e w3 ⟨v3, rfl, hr3, hk3⟩
      obtain ⟨g3, c3, rfl⟩ := row_some hr3 hL.1
      have n3 := hk3.at_ H2.out.1 (by simp)
      have hsz3 := (HW.out.2.1.trans (H2.out.2.trans hk3)).size
      have H3 := Lib.hid (And.intro hr3 (And.intro (H2.out.2.trans hk3) (HW.out.2.1.trans (H2.out.2.trans hk3)).size))
      clear cq lq hr3 hk3
      have cq := cells_at n3
      have lq := lt_of_at n3
      clear n3
      go_upto_region 12 with fail
      go_quiet (fail)
      obtain ⟨w4, hw4⟩ : ∃ w4, w4 = w3.drewN nq := ⟨_, rfl⟩
      rw [← hw4]
      have k4 : Keeps [] w3 w4 := by rw [hw4]; exact (Keeps.refl [] _).drewN _
      have hr4 := k4.row H3.out.1 (by simp)
      have H4 := Lib.hid (And.intro hr4 (And.intro (H3.out.2.1.trans k4) (Nat.le_trans H3.out.2.2 k4.size)))
      have hsz4 := H4.out.2.2
      clear hw4 k4 hr4 cq lq
      go_wp2_with (at_builtin; refine wpList_append_own _ rfl (.tmp 62) (.tmp 63) 104 rfl w.heap.size 74 ib _ 2 16 Tryz.underlying104 hib hz0 hz1 hz2 rfl (by decide) (.slice none 0 0) 0 [] rfl (World.ownsRow_nil _ _ _ 2) ⟨g3, 0, none⟩ L.length c3 (L.flatMap encSm) rfl (sm_flen _) (row_news H4.out.1) (sm_one _) (by simp only [maxLen]; omega) (by omega) hsz4 ?_; intro v9 w9 hown9 hgrow9 hnil9; clear hnil9; rw [Nat.zero_add, List.nil_append] at hown9; obtain ⟨ao9, cp9, rfl, -, -, -⟩ := row_slice hown9; skip)
      have hk9 := keeps_own H4.out.2.1 hgrow9 (fun g hg => by simp [Value.ownBlock] at hg)
      have H9 := Lib.hid (And.intro hown9 hk9)
      clear hown9 hgrow9 hk9
      go_wp2_with fail
      go_roundg 0
      case measure => have := Hg.out.1; omega
      case rel => exact ⟨H9.out.2, .inr ⟨rfl, rfl, H9.out.1⟩⟩
    · obtain ⟨ao, co, rfl, -, -, -⟩ := row_slice hown
      have Hr := Lib.hid (And.intro hown hkr)
      clear hown hkr
      go_wp2_with fail
      go_ret2
      exact ⟨_, rfl, Hr.out.1, HW.out.2.1.trans Hr.out.2⟩

theorem infoPairL : (Tryz.prog.info? 131).map (fun i => (i.zero, i.size, i.bytes)) = some (some (.agg #[.string ⟨#[]⟩, .string ⟨#[]⟩]), 2, 32) := by kernel_rfl

theorem back_arr (s : ByteArray) : (⟨s.data.toList.toArray⟩ : ByteArray) = s := by
  apply ByteArray.ext
  simp

def LTRel (W : World) (P : List PairB) (R : List UInt8) (gk : Nat) (u0 u5 u6 u7 : Value) (wr : World) : Prop :=
  ∃ j, j ≤ P.length ∧ gk = P.length - j ∧ u0 = .string ⟨((P.drop j).flatMap pairL ++ R).toArray⟩ ∧ u5 = .int .i64 ((P.length - j : Nat) : Int) ∧ u6 = .int .i64 0 ∧ wr.ownsRow W.heap.size 131 2 u7 j ((P.take j).flatMap encPB) ∧ Keeps [] W wr

theorem pairsL_len {P : List PairB} (h : ∀ p ∈ P, p.1.size ≤ 40 ∧ p.2.size ≤ 40) : (P.flatMap pairL).length ≤ 100 * P.length := by
  induction P with
  | nil => simp
  | cons p P ih =>
    have h1 := h p (by simp)
    have h2 := ih (fun q hq => h q (by simp [hq]))
    have h3 : (pairL p).length ≤ 100 := by
      unfold pairL textL
      simp only [List.length_append, dsize]
      have := lebL_len10 (v := p.1.size) (by omega)
      have := lebL_len10 (v := p.2.size) (by omega)
      omega
    rw [List.flatMap_cons, List.length_append, List.length_cons]
    omega

set_option linter.unusedSimpArgs false in
set_option maxRecDepth 100000 in
set_option maxHeartbeats 2000000 in
theorem labTake_spec (w : World) (s : ByteArray) (P : List PairB) (R : List UInt8) (hs : s.data.toList = (keyP P).data.toList ++ R) (hc : chkSet P = true) (hP : P.length ≤ 8) (hp : ∀ p ∈ P, p.1.size ≤ 40 ∧ p.2.size ≤ 40) (hR : R.length ≤ 100000) :
    Calls Tryz.prog 137 #[.string s] w fun e w' => ∃ v, e = .returned (.tuple #[v, .string ⟨R.toArray⟩, .int .i64 0]) ∧ w'.ownsRow w.heap.size 131 2 v P.length (P.flatMap encPB) ∧ Keeps [] w w' := by
  obtain ⟨ib, hib, hz0, hz1, hz2⟩ := info_parts infoPairL
  have hkey : s.data.toList = lebL P.length ++ (P.flatMap pairL ++ R) := by
    rw [hs]
    show keyL P P.length ++ R = _
    unfold keyL
    rw [List.take_length, List.append_assoc]
  have hpl := pairsL_len hp
  have hsz : s.size ≤ 200000 := by
    rw [← dsize, hkey, List.length_append, List.length_append]
    have := lebL_len10 (v := P.length) (by omega)
    omega
  have Ht := Lib.hid (takeMost_spec w s (by unfold maxLen; omega) 8 (by decide))
  rw [hkey, takeM_leb (m := P.length) _ (by omega) (by decide)] at Ht
  unfold takeMVals at Ht
  dsimp only at Ht
  have Hd : Hid (∀ j, (((P.drop j).flatMap pairL ++ R).length ≤ 101000)) := Lib.hid (fun j => by
    have h1 := pairsL_len (P := P.drop j) (fun p hq => hp p (List.mem_of_mem_drop hq))
    have h2 : (P.drop j).length ≤ 8 := by rw [List.length_drop]; omega
    rw [List.length_append]
    omega)
  have H := Lib.hid (And.intro hc hp)
  clear hs hkey hc hp hpl hsz
  go_enter Tryz.func137, Tryz.ntmps137
  go_wp2_with fail
  refine Ht.out.mono ?_
  rintro e W ⟨rfl, m1, hW⟩
  have k1 : Keeps [] w W := by rw [hW]; exact (Keeps.refl [] w).drewN _
  have hWs : W.heap.size = w.heap.size := by rw [hW]; rfl
  have H1 := Lib.hid (And.intro k1 hWs)
  clear hW k1 hWs
  obtain ⟨s1, hs1⟩ : ∃ s1 : ByteArray, s1 = ⟨(P.flatMap pairL ++ R).toArray⟩ := ⟨_, rfl⟩
  rw [← hs1]
  have HS1 := Lib.hid hs1
  clear hs1
  go_wp2_with fail
  go_loopg [0, 5, 6, 7] P.length (LTRel W P R)
  case atStart => exact ⟨0, Nat.zero_le _, rfl, by rw [HS1.out]; rfl, by simp, rfl, by simpa using World.ownsRow_nil W _ _ 2, Keeps.refl _ _⟩
  case round =>
    obtain ⟨j, hj, hgk, rfl, rfl, rfl, hown, hkr⟩ := hrel
    obtain ⟨m, hm⟩ : ∃ m, m = P.length - j := ⟨_, rfl⟩
    rw [← hm]
    obtain ⟨t0, ht0⟩ : ∃ t0 : ByteArray, t0 = ⟨((P.drop j).flatMap pairL ++ R).toArray⟩ := ⟨_, rfl⟩
    rw [← ht0]
    obtain ⟨av, cv, rfl, -, -, -⟩ := row_slice hown
    by_cases hlt : j < P.length
    · have hm0 : (m : Int) > 0 := by omega
      have hwm := IntWalk.i64_in ((m : Int) - 1) (by omega)
      have hdr : P.drop j = P[j] :: P.drop (j + 1) := List.drop_eq_getElem_cons hlt
      have htk := take_push hlt
      have hpp := H.out.2 P[j] (List.getElem_mem hlt)
      generalize P[j] = pr at hdr htk hpp
      obtain ⟨nm, vl⟩ := pr
      dsimp only at hpp
      obtain ⟨t1, ht1⟩ : ∃ t1 : ByteArray, t1 = ⟨(textL vl.data.toList ++ ((P.drop (j + 1)).flatMap pairL ++ R)).toArray⟩ := ⟨_, rfl⟩
      obtain ⟨t2, ht2⟩ : ∃ t2 : ByteArray, t2 = ⟨((P.drop (j + 1)).flatMap pairL ++ R).toArray⟩ := ⟨_, rfl⟩
      have e0 : t0.data.toList = textL nm.data.toList ++ t1.data.toList := by
        rw [ht0, ht1, hdr]
        simp [pairL]
      have e1 : t1.data.toList = textL vl.data.toList ++ t2.data.toList := by rw [ht1, ht2]
      have z0 : t0.size ≤ 101000 := by rw [ht0]; exact Hd.out j
      have z1 : t1.size ≤ 101000 := by
        have : t0.size = (textL nm.data.toList).length + t1.size := by rw [← dsize, e0, List.length_append, dsize]
        omega
      have Hc0 := Lib.hid (fun W' : World => takeText_spec W' t0 (by unfold maxLen; omega) 40 (by decide))
      rw [e0, takeT_text _ _ (by rw [dsize]; omega) (by decide)] at Hc0
      have Hc1 := Lib.hid (fun W' : World => takeText_spec W' t1 (by unfold maxLen; omega) 40 (by decide))
      rw [e1, takeT_text _ _ (by rw [dsize]; omega) (by decide)] at Hc1
      unfold takeTVals at Hc0 Hc1
      dsimp only at Hc0 Hc1
      rw [back_arr, back_arr] at Hc0 Hc1
      have Hg := Lib.hid (And.intro hgk (And.intro hown (And.intro hkr (And.intro htk (And.intro ht2 (And.intro hm hlt))))))
      clear hgk hown hkr htk hdr ht0 ht1 ht2 e0 e1 z0 z1 hpp hm hlt
      obtain ⟨q, hq⟩ : ∃ q, q = wr.heap.size := ⟨_, rfl⟩
      obtain ⟨w2, hw2⟩ : ∃ w2, w2 = wr.alloc (.cells #[.string ⟨#[]⟩, .string ⟨#[]⟩] 131) := ⟨_, rfl⟩
      have k2 : Keeps [] wr w2 := by rw [hw2]; exact (Keeps.refl [] _).alloc _
      have n2 : w2.heap[q]? = some (.cells #[.string ⟨#[]⟩, .string ⟨#[]⟩] 131 (0, 0)) := by rw [hw2, hq]; exact heap_new wr _
      have hqW : W.heap.size ≤ q := by rw [hq]; exact Hg.out.2.2.1.size
      have hqr : ∀ g, (Value.slice av j cv).ownBlock = some g → g ≠ q := fun g hg => by rw [hq]; have := (World.ownsRow.lt Hg.out.2.1 g hg).2; omega
      go_upto_region 6 with fail
      rw [← hw2, ← hq]
      have H2 := Lib.hid (And.intro n2 (And.intro (k2.row Hg.out.2.1 (by simp)) (And.intro (Hg.out.2.2.1.trans k2) (And.intro hqW hqr))))
      clear hw2 hq k2 n2 hqW hqr
      go_wp2_with fail
      refine (Hc0.out w2).mono ?_
      rintro e w3 ⟨rfl, m3, hw3⟩
      have k3 : Keeps [] w2 w3 := by rw [hw3]; exact (Keeps.refl [] _).drewN _
      have n3 := k3.at_ H2.out.1 (by simp)
      have H3 := Lib.hid (And.intro n3 (And.intro (k3.row H2.out.2.1 (by simp)) (H2.out.2.2.1.trans k3)))
      clear hw3 k3
      have cq := cells_at n3
      have fq := free_at n3
      have lq := lt_of_at n3
      clear n3
      go_upto_region 7 with fail
      have kS : Keeps [q] w3 (w3.setCell ⟨q, 0, none⟩ (.string nm)) := (Keeps.refl _ w3).setCell (.inl (by simp)) _
      have nS : (w3.setCell ⟨q, 0, none⟩ (.string nm)).heap[q]? = some (.cells #[.string nm, .string ⟨#[]⟩] 131 (0, 0)) := by
        have := heap_cell_same (i := 0) H3.out.1 (.string nm)
        simpa using this
      generalize w3.setCell ⟨q, 0, none⟩ (.string nm) = w4 at kS nS ⊢
      have H4 := Lib.hid (And.intro nS (And.intro (kS.row H3.out.2.1 (fun g hg hm => H2.out.2.2.2.2 g hg (by simpa using hm))) (H3.out.2.2.after kS (fun x hx => .inr (by simp at hx; rw [hx]; exact H2.out.2.2.2.1)))))
      clear kS nS cq fq lq
      go_wp2_with fail
      refine (Hc1.out w4).mono ?_
      rintro e w5 ⟨rfl, m5, hw5⟩
      have k5 : Keeps [] w4 w5 := by rw [hw5]; exact (Keeps.refl [] _).drewN _
      have n5 := k5.at_ H4.out.1 (by simp)
      have H5 := Lib.hid (And.intro n5 (And.intro (k5.row H4.out.2.1 (by simp)) (H4.out.2.2.trans k5)))
      clear hw5 k5
      have cq := cells_at n5
      have fq := free_at n5
      have lq := lt_of_at n5
      clear n5
      go_upto_region 9 with fail
      have kS : Keeps [q] w5 (w5.setCell ⟨q, 1, none⟩ (.string vl)) := (Keeps.refl _ w5).setCell (.inl (by simp)) _
      have nS : (w5.setCell ⟨q, 1, none⟩ (.string vl)).heap[q]? = some (.cells #[.string nm, .string vl] 131 (0, 0)) := by
        have := heap_cell_same (i := 1) H5.out.1 (.string vl)
        simpa using this
      generalize w5.setCell ⟨q, 1, none⟩ (.string vl) = w6 at kS nS ⊢
      have H6 := Lib.hid (And.intro nS (And.intro (kS.row H5.out.2.1 (fun g hg hm => H2.out.2.2.2.2 g hg (by simpa using hm))) (H5.out.2.2.after kS (fun x hx => .inr (by simp at hx; rw [hx]; exact H2.out.2.2.2.1)))))
      have hsz6 := H6.out.2.2.size
      have hj8 : j ≤ 8 := by omega
      clear kS cq fq lq
      have cq := cells_at nS
      have lq := lt_of_at nS
      clear nS
      go_wp2_with (at_builtin; refine wpList_append_own _ rfl (.tmp 39) (.tmp 41) 71 rfl W.heap.size 131 ib _ 2 32 Tryz.underlying71 hib hz0 hz1 hz2 rfl (by decide) (.slice av j cv) j ((P.take j).flatMap encPB) rfl (H6.out.2.1.alloc _) ⟨w6.heap.size, 0, none⟩ 1 1 [.string nm, .string vl] rfl rfl (news_two (heap_new w6 _)) (by simp [Value.oneCell']) (by simp only [maxLen]; omega) (by omega) (by rw [World.size_alloc]; omega) ?_; intro v9 w9 hown9 hgrow9 hnil9; clear hnil9; obtain ⟨ao9, cp9, rfl, -, -, -⟩ := row_slice hown9; skip)
      have hk9 := keeps_own (H6.out.2.2.trans ((Keeps.refl [] w6).alloc _)) hgrow9 (fun g hg => (World.ownsRow.lt H6.out.2.1 g hg).1)
      have hfin : (P.take j).flatMap encPB ++ [.string nm, .string vl] = (P.take (j + 1)).flatMap encPB := by
        rw [Hg.out.2.2.2.1, List.flatMap_append]
        rfl
      rw [hfin] at hown9
      have H9 := Lib.hid (And.intro hown9 hk9)
      clear hown9 hgrow9 hk9 hfin
      go_wp2_with fail
      go_roundg (P.length - (j + 1))
      case measure => have := Hg.out.1; have := Hg.out.2.2.2.2.2.2; omega
      case rel => exact ⟨j + 1, Hg.out.2.2.2.2.2.2, rfl, by rw [Hg.out.2.2.2.2.1], by have := Hg.out.2.2.2.2.2.1; have := Hg.out.2.2.2.2.2.2; congr 1; omega, rfl, H9.out.1, H9.out.2⟩
    · have hjn : j = P.length := by omega
      have hm0 : m = 0 := by omega
      have htR : t0 = ⟨R.toArray⟩ := by rw [ht0, hjn, List.drop_length]; rfl
      have htk : P.take j = P := List.take_of_length_le (by omega)
      rw [htk] at hown
      rw [htR]
      subst hm0
      have Hr := Lib.hid (And.intro hown hkr)
      obtain ⟨tR, htR2⟩ : ∃ tR : ByteArray, tR = ⟨R.toArray⟩ := ⟨_, rfl⟩
      rw [← htR2]
      subst hjn
      have HtR := Lib.hid htR2
      have hck := Lib.hid (checkN_spec wr _ P (rowP hown) H.out.1)
      clear hgk hown hkr ht0 htk htR hm htR2
      rw [show ((0 : Nat) : Int) = 0 from rfl]
      go_wp2_with fail
      refine hck.out.mono ?_
      rintro e w9 ⟨rfl, hk9⟩
      have H9 := Lib.hid (And.intro (hk9.row Hr.out.1 (by simp)) (Hr.out.2.trans hk9))
      clear hk9
      go_wp2_with fail
      go_ret3
      exact ⟨_, by rw [← HtR.out]; rfl, row_base H9.out.1 (Nat.le_of_eq H1.out.2.symm), H1.out.1.trans H9.out.2⟩
end Go.Proofs.YtkffpcmminlndaaGreatDoor
