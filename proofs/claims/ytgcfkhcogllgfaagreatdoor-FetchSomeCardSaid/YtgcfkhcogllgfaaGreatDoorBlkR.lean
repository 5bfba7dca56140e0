/-
  A block's two texts are read (package block): Chunks, Entries; label.Take.
  The package's variable xor.widths holds what its text says (XorVar).

  A block's index is read (package block): take, Entries.
  No condition beyond those that each theorem states.

  A block's index is read (package block): Entries.
  No condition beyond those that each theorem states.
-/
import Derived.Test.YtgcfkhcogllgfaaGreatDoorXorS
import Derived.Test.YtgcfkhcogllgfaaGreatDoorFrameAS
namespace Go.Proofs.YtgcfkhcogllgfaaGreatDoor
set_option maxRecDepth 100000
set_option maxHeartbeats 4000000
set_option linter.unusedSimpArgs false
open Go Go.RowKit Go.Conc
theorem rec_one {w : World} {B : Nat} {v : Value} {k : UInt8} {x : ByteArray} (h : w.ownsRow B 166 2 v [(k, x)].length ([(k, x)].flatMap encRecS)) : ∃ g c, v = .slice (some ⟨g, 0, none⟩) 1 c ∧ g < w.heap.size ∧ w.cell? ⟨g, 0, none⟩ = some (.int .u8 (k.toNat : Nat)) ∧ w.cell? ⟨g, 1, none⟩ = some (.string x) := by
 obtain ⟨g, c, rfl⟩ := row_some h Nat.zero_lt_one
 have hn := row_news h
 exact ⟨g, c, rfl, (World.ownsRow.lt h g rfl).2, hn 0 _ rfl, hn 1 _ rfl⟩
def CkkRel (w W : World) (L : List SmpB) (gk : Nat) (u6 u23 : Value) (wr : World) : Prop :=
 Keeps [] W wr ∧ ((gk = 1 ∧ u6 = .slice none 0 0 ∧ u23 = .int .i64 0) ∨ (gk = 0 ∧ u23 = .int .i64 1 ∧ wr.ownsRow w.heap.size 50 2 u6 L.length (L.flatMap encSm)))
theorem chunksR_spec (w : World) (hX : XorVar w) (s : ByteArray) (L : List SmpB) (hs : s.data.toList = chunkF L) (hok : SmpsOk L) (hL : 0 < L.length ∧ L.length ≤ 120) :
  Calls Tryz.prog 48 #[.string s] w (SmpsPost w L) := by
 obtain ⟨ib, hib, hz0, hz1, hz2⟩ := info_parts infoSmp
 have hfl := chunkF_len hL.2 hok
 have hsz : s.size ≤ 3000 := by rw [← dsize, hs]; exact hfl
 obtain ⟨x, hx⟩ : ∃ x : ByteArray, x = ⟨(xorL L).toArray⟩ := ⟨_, rfl⟩
 have hxz : x.size ≤ 2300 := by rw [hx]; exact xorL_len hL.2 hok
 have Ha := Lib.hid (allS_spec w s [(4, x)] (by rw [hs, hx]; simp [framesS, chunkF]) (by omega) (Nat.le_succ 1) (fun r hr => by simp at hr; rw [hr]; show x.size ≤ _; omega))
 have H := Lib.hid (And.intro hX (And.intro hok hx))
 have hL0 : ¬ (L.length : Int) = 0 := by omega
 have hLb : ((L.length : Int) == 0) = false := by rw [beq_eq_false_iff_ne]; exact hL0
 clear hX hok hx hs hfl
 go_enter Tryz.func48, Tryz.ntmps48
 go_wp2_with fail
 refine Ha.out.mono ?_
 rintro e W ⟨v, rfl, hrow, hk⟩
 obtain ⟨g, c, rfl, hgl, hc0, hc1⟩ := rec_one hrow
 have hkind : ((4 : UInt8).toNat : Int) = 4 := rfl
 have HW := Lib.hid (And.intro hrow (And.intro hk (And.intro hc0 (And.intro hc1 hgl))))
 clear hrow hk hc0 hc1 hgl
 go_wp2_with fail
 go_loopg [6, 23] 1 (CkkRel w W L)
 case atStart => exact ⟨Keeps.refl _ _, .inl ⟨rfl, rfl, rfl⟩⟩
 case round =>
  obtain ⟨hkr, hh⟩ := hrel
  rcases hh with ⟨hgk, rfl, rfl⟩ | ⟨hgk, rfl, hown⟩
  ·have hc0 := (hkr.cell HW.out.2.2.2.2 (by simp)).trans HW.out.2.2.1
   have hc1 := (hkr.cell HW.out.2.2.2.2 (by simp)).trans HW.out.2.2.2.1
   have hgl := hkr.lt HW.out.2.2.2.2
   have Hg := Lib.hid (And.intro hgk hkr)
   rw [hkind] at hc0
   obtain ⟨q, hq⟩ : ∃ q, q = wr.heap.size := ⟨_, rfl⟩
   obtain ⟨w2, hw2⟩ : ∃ w2, w2 = wr.alloc (.cells #[.int .u8 4, .string x] 166) := ⟨_, rfl⟩
   have k2 : Keeps [] wr w2 := by rw [hw2]; exact (Keeps.refl [] _).alloc _
   have n2 : w2.heap[q]? = some (.cells #[.int .u8 4, .string x] 166 (0, 0)) := by rw [hw2, hq]; exact heap_new wr _
   clear hgk hkr
   go_upto_region 8 with fail
   rw [← hw2, ← hq]
   have H2 := Lib.hid (And.intro n2 (Hg.out.2.trans k2))
   have cq := cells_at n2
   have lq := lt_of_at n2
   clear hw2 hq n2 k2 hc0 hc1 hgl
   go_wp2_with fail
   refine (samplesX_spec w2 ((H.out.1.same HW.out.2.1).same H2.out.2) x L H.out.2.2 H.out.2.1 hL.2).mono ?_
   rintro e w3 ⟨v3, rfl, hr3, hk3⟩
   obtain ⟨g3, c3, rfl⟩ := row_some hr3 hL.1
   have n3 := hk3.at_ H2.out.1 (by simp)
   have hsz3 := (HW.out.2.1.trans (H2.out.2.trans hk3)).size
   have H3 := Lib.hid (And.intro hr3 (And.intro (H2.out.2.trans hk3) (HW.out.2.1.trans (H2.out.2.trans hk3)).size))
   clear cq lq hr3 hk3
   have cq := cells_at n3
   have lq := lt_of_at n3
   clear n3
   go_upto_region 12 with fail
   go_quiet (fail)
   obtain ⟨w4, hw4⟩ : ∃ w4, w4 = w3.drewN nq := ⟨_, rfl⟩
   rw [← hw4]
   have k4 : Keeps [] w3 w4 := by rw [hw4]; exact (Keeps.refl [] _).drewN _
   have hr4 := k4.row H3.out.1 (by simp)
   have H4 := Lib.hid (And.intro hr4 (And.intro (H3.out.2.1.trans k4) (Nat.le_trans H3.out.2.2 k4.size)))
   have hsz4 := H4.out.2.2
   clear hw4 k4 hr4 cq lq
   go_wp2_with (at_builtin; refine wpList_append_own _ rfl (.tmp 62) (.tmp 63) 72 rfl w.heap.size 50 ib _ 2 16 Tryz.underlying72 hib hz0 hz1 hz2 rfl (by decide) (.slice none 0 0) 0 [] rfl (World.ownsRow_nil _ _ _ 2) ⟨g3, 0, none⟩ L.length c3 (L.flatMap encSm) rfl (sm_flen _) (row_news H4.out.1) (sm_one _) (by simp only [maxLen]; omega) (by omega) hsz4 ?_; intro v9 w9 hown9 hgrow9 hnil9; clear hnil9; rw [Nat.zero_add, List.nil_append] at hown9; obtain ⟨ao9, cp9, rfl, -, -, -⟩ := row_slice hown9; skip)
   have hk9 := keeps_own H4.out.2.1 hgrow9 (fun g hg => by simp [Value.ownBlock] at hg)
   have H9 := Lib.hid (And.intro hown9 hk9)
   clear hown9 hgrow9 hk9
   go_wp2_with fail
   go_roundg 0
   case measure => have := Hg.out.1; omega
   case rel => exact ⟨H9.out.2, .inr ⟨rfl, rfl, H9.out.1⟩⟩
  ·obtain ⟨ao, co, rfl, -, -, -⟩ := row_slice hown
   have Hr := Lib.hid (And.intro hown hkr)
   clear hown hkr
   go_wp2_with fail
   go_ret2
   exact ⟨_, rfl, Hr.out.1, HW.out.2.1.trans Hr.out.2⟩
theorem infoPairL : (Tryz.prog.info? 91).map (fun i => (i.zero, i.size, i.bytes)) = some (some (.agg #[.string ⟨#[]⟩, .string ⟨#[]⟩]), 2, 32) := by kernel_rfl
theorem back_arr (s : ByteArray) : (⟨s.data.toList.toArray⟩ : ByteArray) = s := by
 apply ByteArray.ext
 simp
def LTRel (W : World) (P : List PairB) (R : List UInt8) (gk : Nat) (u0 u5 u6 u7 : Value) (wr : World) : Prop :=
 ∃ j, j ≤ P.length ∧ gk = P.length - j ∧ u0 = .string ⟨((P.drop j).flatMap pairL ++ R).toArray⟩ ∧ u5 = .int .i64 ((P.length - j : Nat) : Int) ∧ u6 = .int .i64 0 ∧ wr.ownsRow W.heap.size 91 2 u7 j ((P.take j).flatMap encPB) ∧ Keeps [] W wr
theorem pairsL_len {P : List PairB} (h : ∀ p ∈ P, p.1.size ≤ 40 ∧ p.2.size ≤ 40) : (P.flatMap pairL).length ≤ 100 * P.length := by
 induction P with
 | nil => simp
 | cons p P ih =>
  have h1 := h p (by simp)
  have h2 := ih (fun q hq => h q (by simp [hq]))
  have h3 : (pairL p).length ≤ 100 := by
   unfold pairL textL
   simp only [List.length_append, dsize]
   have := lebL_len10 (v := p.1.size) (by omega)
   have := lebL_len10 (v := p.2.size) (by omega)
   omega
  rw [List.flatMap_cons, List.length_append, List.length_cons]
  omega
theorem labTake_spec (w : World) (s : ByteArray) (P : List PairB) (R : List UInt8) (hs : s.data.toList = (keyP P).data.toList ++ R) (hc : chkSet P = true) (hP : P.length ≤ 8) (hp : ∀ p ∈ P, p.1.size ≤ 40 ∧ p.2.size ≤ 40) (hR : R.length ≤ 100000) :
  Calls Tryz.prog 140 #[.string s] w fun e w' => ∃ v, e = .returned (.tuple #[v, .string ⟨R.toArray⟩, .int .i64 0]) ∧ w'.ownsRow w.heap.size 91 2 v P.length (P.flatMap encPB) ∧ Keeps [] w w' := by
 obtain ⟨ib, hib, hz0, hz1, hz2⟩ := info_parts infoPairL
 have hkey : s.data.toList = lebL P.length ++ (P.flatMap pairL ++ R) := by
  rw [hs]
  show keyL P P.length ++ R = _
  unfold keyL
  rw [List.take_length, List.append_assoc]
 have hpl := pairsL_len hp
 have hsz : s.size ≤ 200000 := by
  rw [← dsize, hkey, List.length_append, List.length_append]
  have := lebL_len10 (v := P.length) (by omega)
  omega
 have Ht := Lib.hid (takeMost_spec w s (by unfold maxLen; omega) 8 (by decide))
 rw [hkey, takeM_leb (m := P.length) _ (by omega) (by decide)] at Ht
 unfold takeMVals at Ht
 dsimp only at Ht
 have Hd : Hid (∀ j, (((P.drop j).flatMap pairL ++ R).length ≤ 101000)) := Lib.hid (fun j => by
  have h1 := pairsL_len (P := P.drop j) (fun p hq => hp p (List.mem_of_mem_drop hq))
  have h2 : (P.drop j).length ≤ 8 := by rw [List.length_drop]; omega
  rw [List.length_append]
  omega)
 have H := Lib.hid (And.intro hc hp)
 clear hs hkey hc hp hpl hsz
 go_enter Tryz.func140, Tryz.ntmps140
 go_wp2_with fail
 refine Ht.out.mono ?_
 rintro e W ⟨rfl, m1, hW⟩
 have k1 : Keeps [] w W := by rw [hW]; exact (Keeps.refl [] w).drewN _
 have hWs : W.heap.size = w.heap.size := by rw [hW]; rfl
 have H1 := Lib.hid (And.intro k1 hWs)
 clear hW k1 hWs
 obtain ⟨s1, hs1⟩ : ∃ s1 : ByteArray, s1 = ⟨(P.flatMap pairL ++ R).toArray⟩ := ⟨_, rfl⟩
 rw [← hs1]
 have HS1 := Lib.hid hs1
 clear hs1
 go_wp2_with fail
 go_loopg [0, 5, 6, 7] P.length (LTRel W P R)
 case atStart => exact ⟨0, Nat.zero_le _, rfl, by rw [HS1.out]; rfl, by simp, rfl, by simpa using World.ownsRow_nil W _ _ 2, Keeps.refl _ _⟩
 case round =>
  obtain ⟨j, hj, hgk, rfl, rfl, rfl, hown, hkr⟩ := hrel
  obtain ⟨m, hm⟩ : ∃ m, m = P.length - j := ⟨_, rfl⟩
  rw [← hm]
  obtain ⟨t0, ht0⟩ : ∃ t0 : ByteArray, t0 = ⟨((P.drop j).flatMap pairL ++ R).toArray⟩ := ⟨_, rfl⟩
  rw [← ht0]
  obtain ⟨av, cv, rfl, -, -, -⟩ := row_slice hown
  by_cases hlt : j < P.length
  ·have hm0 : (m : Int) > 0 := by omega
   have hwm := IntWalk.i64_in ((m : Int) - 1) (by omega)
   have hdr : P.drop j = P[j] :: P.drop (j + 1) := List.drop_eq_getElem_cons hlt
   have htk := take_push hlt
   have hpp := H.out.2 P[j] (List.getElem_mem hlt)
   generalize P[j] = pr at hdr htk hpp
   obtain ⟨nm, vl⟩ := pr
   dsimp only at hpp
   obtain ⟨t1, ht1⟩ : ∃ t1 : ByteArray, t1 = ⟨(textL vl.data.toList ++ ((P.drop (j + 1)).flatMap pairL ++ R)).toArray⟩ := ⟨_, rfl⟩
   obtain ⟨t2, ht2⟩ : ∃ t2 : ByteArray, t2 = ⟨((P.drop (j + 1)).flatMap pairL ++ R).toArray⟩ := ⟨_, rfl⟩
   have e0 : t0.data.toList = textL nm.data.toList ++ t1.data.toList := by
    rw [ht0, ht1, hdr]
    simp [pairL]
   have e1 : t1.data.toList = textL vl.data.toList ++ t2.data.toList := by rw [ht1, ht2]
   have z0 : t0.size ≤ 101000 := by rw [ht0]; exact Hd.out j
   have z1 : t1.size ≤ 101000 := by
    have : t0.size = (textL nm.data.toList).length + t1.size := by rw [← dsize, e0, List.length_append, dsize]
    omega
   have Hc0 := Lib.hid (fun W' : World => takeText_spec W' t0 (by unfold maxLen; omega) 40 (by decide))
   rw [e0, takeT_text _ _ (by rw [dsize]; omega) (by decide)] at Hc0
   have Hc1 := Lib.hid (fun W' : World => takeText_spec W' t1 (by unfold maxLen; omega) 40 (by decide))
   rw [e1, takeT_text _ _ (by rw [dsize]; omega) (by decide)] at Hc1
   unfold takeTVals at Hc0 Hc1
   dsimp only at Hc0 Hc1
   rw [back_arr, back_arr] at Hc0 Hc1
   have Hg := Lib.hid (And.intro hgk (And.intro hown (And.intro hkr (And.intro htk (And.intro ht2 (And.intro hm hlt))))))
   clear hgk hown hkr htk hdr ht0 ht1 ht2 e0 e1 z0 z1 hpp hm hlt
   obtain ⟨q, hq⟩ : ∃ q, q = wr.heap.size := ⟨_, rfl⟩
   obtain ⟨w2, hw2⟩ : ∃ w2, w2 = wr.alloc (.cells #[.string ⟨#[]⟩, .string ⟨#[]⟩] 91) := ⟨_, rfl⟩
   have k2 : Keeps [] wr w2 := by rw [hw2]; exact (Keeps.refl [] _).alloc _
   have n2 : w2.heap[q]? = some (.cells #[.string ⟨#[]⟩, .string ⟨#[]⟩] 91 (0, 0)) := by rw [hw2, hq]; exact heap_new wr _
   have hqW : W.heap.size ≤ q := by rw [hq]; exact Hg.out.2.2.1.size
   have hqr : ∀ g, (Value.slice av j cv).ownBlock = some g → g ≠ q := fun g hg => by rw [hq]; have := (World.ownsRow.lt Hg.out.2.1 g hg).2; omega
   go_upto_region 6 with fail
   rw [← hw2, ← hq]
   have H2 := Lib.hid (And.intro n2 (And.intro (k2.row Hg.out.2.1 (by simp)) (And.intro (Hg.out.2.2.1.trans k2) (And.intro hqW hqr))))
   clear hw2 hq k2 n2 hqW hqr
   go_wp2_with fail
   refine (Hc0.out w2).mono ?_
   rintro e w3 ⟨rfl, m3, hw3⟩
   have k3 : Keeps [] w2 w3 := by rw [hw3]; exact (Keeps.refl [] _).drewN _
   have n3 := k3.at_ H2.out.1 (by simp)
   have H3 := Lib.hid (And.intro n3 (And.intro (k3.row H2.out.2.1 (by simp)) (H2.out.2.2.1.trans k3)))
   clear hw3 k3
   have cq := cells_at n3
   have fq := free_at n3
   have lq := lt_of_at n3
   clear n3
   go_upto_region 7 with fail
   have kS : Keeps [q] w3 (w3.setCell ⟨q, 0, none⟩ (.string nm)) := (Keeps.refl _ w3).setCell (.inl (by simp)) _
   have nS : (w3.setCell ⟨q, 0, none⟩ (.string nm)).heap[q]? = some (.cells #[.string nm, .string ⟨#[]⟩] 91 (0, 0)) := by
    have := heap_cell_same (i := 0) H3.out.1 (.string nm)
    simpa using this
   generalize w3.setCell ⟨q, 0, none⟩ (.string nm) = w4 at kS nS ⊢
   have H4 := Lib.hid (And.intro nS (And.intro (kS.row H3.out.2.1 (fun g hg hm => H2.out.2.2.2.2 g hg (by simpa using hm))) (H3.out.2.2.after kS (fun x hx => .inr (by simp at hx; rw [hx]; exact H2.out.2.2.2.1)))))
   clear kS nS cq fq lq
   go_wp2_with fail
   refine (Hc1.out w4).mono ?_
   rintro e w5 ⟨rfl, m5, hw5⟩
   have k5 : Keeps [] w4 w5 := by rw [hw5]; exact (Keeps.refl [] _).drewN _
   have n5 := k5.at_ H4.out.1 (by simp)
   have H5 := Lib.hid (And.intro n5 (And.intro (k5.row H4.out.2.1 (by simp)) (H4.out.2.2.trans k5)))
   clear hw5 k5
   have cq := cells_at n5
   have fq := free_at n5
   have lq := lt_of_at n5
   clear n5
   go_upto_region 9 with fail
   have kS : Keeps [q] w5 (w5.setCell ⟨q, 1, none⟩ (.string vl)) := (Keeps.refl _ w5).setCell (.inl (by simp)) _
   have nS : (w5.setCell ⟨q, 1, none⟩ (.string vl)).heap[q]? = some (.cells #[.string nm, .string vl] 91 (0, 0)) := by
    have := heap_cell_same (i := 1) H5.out.1 (.string vl)
    simpa using this
   generalize w5.setCell ⟨q, 1, none⟩ (.string vl) = w6 at kS nS ⊢
   have H6 := Lib.hid (And.intro nS (And.intro (kS.row H5.out.2.1 (fun g hg hm => H2.out.2.2.2.2 g hg (by simpa using hm))) (H5.out.2.2.after kS (fun x hx => .inr (by simp at hx; rw [hx]; exact H2.out.2.2.2.1)))))
   have hsz6 := H6.out.2.2.size
   have hj8 : j ≤ 8 := by omega
   clear kS cq fq lq
   have cq := cells_at nS
   have lq := lt_of_at nS
   clear nS
   go_wp2_with (at_builtin; refine wpList_append_own _ rfl (.tmp 39) (.tmp 41) 47 rfl W.heap.size 91 ib _ 2 32 Tryz.underlying47 hib hz0 hz1 hz2 rfl (by decide) (.slice av j cv) j ((P.take j).flatMap encPB) rfl (H6.out.2.1.alloc _) ⟨w6.heap.size, 0, none⟩ 1 1 [.string nm, .string vl] rfl rfl (news_two (heap_new w6 _)) (by simp [Value.oneCell']) (by simp only [maxLen]; omega) (by omega) (by rw [World.size_alloc]; omega) ?_; intro v9 w9 hown9 hgrow9 hnil9; clear hnil9; obtain ⟨ao9, cp9, rfl, -, -, -⟩ := row_slice hown9; skip)
   have hk9 := keeps_own (H6.out.2.2.trans ((Keeps.refl [] w6).alloc _)) hgrow9 (fun g hg => (World.ownsRow.lt H6.out.2.1 g hg).1)
   have hfin : (P.take j).flatMap encPB ++ [.string nm, .string vl] = (P.take (j + 1)).flatMap encPB := by
    rw [Hg.out.2.2.2.1, List.flatMap_append]
    rfl
   rw [hfin] at hown9
   have H9 := Lib.hid (And.intro hown9 hk9)
   clear hown9 hgrow9 hk9 hfin
   go_wp2_with fail
   go_roundg (P.length - (j + 1))
   case measure => have := Hg.out.1; have := Hg.out.2.2.2.2.2.2; omega
   case rel => exact ⟨j + 1, Hg.out.2.2.2.2.2.2, rfl, by rw [Hg.out.2.2.2.2.1], by have := Hg.out.2.2.2.2.2.1; have := Hg.out.2.2.2.2.2.2; congr 1; omega, rfl, H9.out.1, H9.out.2⟩
  ·have hjn : j = P.length := by omega
   have hm0 : m = 0 := by omega
   have htR : t0 = ⟨R.toArray⟩ := by rw [ht0, hjn, List.drop_length]; rfl
   have htk : P.take j = P := List.take_of_length_le (by omega)
   rw [htk] at hown
   rw [htR]
   subst hm0
   have Hr := Lib.hid (And.intro hown hkr)
   obtain ⟨tR, htR2⟩ : ∃ tR : ByteArray, tR = ⟨R.toArray⟩ := ⟨_, rfl⟩
   rw [← htR2]
   subst hjn
   have HtR := Lib.hid htR2
   have hck := Lib.hid (checkN_spec wr _ P (rowP hown) H.out.1)
   clear hgk hown hkr ht0 htk htR hm htR2
   rw [show ((0 : Nat) : Int) = 0 from rfl]
   go_wp2_with fail
   refine hck.out.mono ?_
   rintro e w9 ⟨rfl, hk9⟩
   have H9 := Lib.hid (And.intro (hk9.row Hr.out.1 (by simp)) (Hr.out.2.trans hk9))
   clear hk9
   go_wp2_with fail
   go_ret3
   exact ⟨_, by rw [← HtR.out]; rfl, row_base H9.out.1 (Nat.le_of_eq H1.out.2.symm), H1.out.1.trans H9.out.2⟩
theorem ix4_0 (w : World) : (Instr.index 168 (.agg #[.int .i64 1048576, .int .i64 1048576, .int .i64 1099511627776, .int .i64 1099511627776]) (.int .i64 0)).run Tryz.prog w = .ok (.int .i64 1048576) w := by kernel_rfl
theorem ix4_1 (w : World) : (Instr.index 168 (.agg #[.int .i64 1048576, .int .i64 1048576, .int .i64 1099511627776, .int .i64 1099511627776]) (.int .i64 1)).run Tryz.prog w = .ok (.int .i64 1048576) w := by kernel_rfl
theorem ix4_2 (w : World) : (Instr.index 168 (.agg #[.int .i64 1048576, .int .i64 1048576, .int .i64 1099511627776, .int .i64 1099511627776]) (.int .i64 2)).run Tryz.prog w = .ok (.int .i64 1099511627776) w := by kernel_rfl
theorem ix4_3 (w : World) : (Instr.index 168 (.agg #[.int .i64 1048576, .int .i64 1048576, .int .i64 1099511627776, .int .i64 1099511627776]) (.int .i64 3)).run Tryz.prog w = .ok (.int .i64 1099511627776) w := by kernel_rfl
theorem infoEntR : (Tryz.prog.info? 122).map (fun i => (i.zero, i.size, i.bytes)) = some (some (.agg #[.slice none 0 0, .int .i64 0, .int .i64 0, .int .i64 0, .int .i64 0]), 5, 56) := by kernel_rfl
structure EntT (e : EntP) : Prop where
 set : chkSet e.1 = true ∧ e.1.length ≤ 8 ∧ ∀ p ∈ e.1, p.1.size ≤ 40 ∧ p.2.size ≤ 40
 nums : e.2.1 ≤ 1048576 ∧ e.2.2.1 ≤ 1048576 ∧ 0 < e.2.2.1 ∧ e.2.2.2.1 ≤ e.2.2.2.2 ∧ e.2.2.2.2 ≤ 1099511627776
def restT (N : List Nat) (R : List UInt8) (j : Nat) : ByteArray := ⟨((N.drop j).flatMap lebL ++ R).toArray⟩
def numsC (N : List Nat) (j : Nat) : Array Value := ((N.take j ++ List.replicate (4 - j) 0).map fun x => Value.int .i64 ((x : Nat) : Int)).toArray
def ETRel (w : World) (rb xb nb : Nat) (P : List PairB) (v : Value) (N : List Nat) (R : List UInt8) (gk : Nat) (u0 u7 u24 : Value) (wr : World) : Prop :=
 ∃ j, j ≤ 4 ∧ gk = 4 - j ∧ u0 = .string (restT N R j) ∧ u7 = .int .i64 0 ∧ u24 = .int .i64 (j : Nat) ∧ wr.heap[nb]? = some (.cells (numsC N j) 168 (0, 0)) ∧ wr.heap[xb]? = some (.cells #[v, .int .i64 0, .int .i64 0, .int .i64 0, .int .i64 0] 122 (0, 0)) ∧
  wr.heap[rb]? = some (.cells #[.slice none 0 0, .int .i64 0, .int .i64 0, .int .i64 0, .int .i64 0] 122 (0, 0)) ∧ wr.ownsRow w.heap.size 91 2 v P.length (P.flatMap encPB) ∧ Keeps [] w wr
theorem set5of5 {w : World} {p : Nat} {t : TypeId} {a0 a1 a2 a3 a4 v0 v1 v2 v3 v4 : Value} {z : Nat × Nat} (h : w.heap[p]? = some (.cells #[a0, a1, a2, a3, a4] t z)) :
  ((((((w.setCell ⟨p, 0, none⟩ v0).setCell ⟨p, 1, none⟩ v1).setCell ⟨p, 2, none⟩ v2).setCell ⟨p, 3, none⟩ v3).setCell ⟨p, 4, none⟩ v4).heap[p]? = some (.cells #[v0, v1, v2, v3, v4] t z)) ∧ Keeps [p] w (((((w.setCell ⟨p, 0, none⟩ v0).setCell ⟨p, 1, none⟩ v1).setCell ⟨p, 2, none⟩ v2).setCell ⟨p, 3, none⟩ v3).setCell ⟨p, 4, none⟩ v4) := by
 have h0 := heap_cell_same (i := 0) h v0
 have h1 := heap_cell_same (i := 1) h0 v1
 have h2 := heap_cell_same (i := 2) h1 v2
 have h3 := heap_cell_same (i := 3) h2 v3
 have h4 := heap_cell_same (i := 4) h3 v4
 exact ⟨by simpa using h4, (((((Keeps.refl [p] w).setCell (.inl (by simp)) v0).setCell (.inl (by simp)) v1).setCell (.inl (by simp)) v2).setCell (.inl (by simp)) v3).setCell (.inl (by simp)) v4⟩
theorem entTake_spec (w : World) (s : ByteArray) (P : List PairB) (f n mn mx : Nat) (R : List UInt8) (hs : s.data.toList = entL (P, f, n, mn, mx) ++ R) (ht : EntT (P, f, n, mn, mx)) (hR : R.length ≤ 50000) :
  Calls Tryz.prog 116 #[.string s] w fun e w' => ∃ v, e = .returned (.tuple #[.agg #[v, .int .i64 (f : Nat), .int .i64 (n : Nat), .int .i64 (mn : Nat), .int .i64 (mx : Nat)], .string ⟨R.toArray⟩, .int .i64 0]) ∧ w'.ownsRow w.heap.size 91 2 v P.length (P.flatMap encPB) ∧ Keeps [] w w' := by
 obtain ⟨N, hN⟩ : ∃ N, N = [f, n, mn, mx] := ⟨_, rfl⟩
 obtain ⟨⟨hc, hP8, hpp⟩, hf, hn, hn0, hm, hmx⟩ := ht
 dsimp only at hc hP8 hpp hf hn hn0 hm hmx
 have hlb : ∀ x : Nat, x ≤ 1099511627776 → (lebL x).length ≤ 10 := fun x hx => lebL_len10 (v := x) (by omega)
 have hrl : ∀ j, (restT N R j).size ≤ 50040 := fun j => by
  show ((N.drop j).flatMap lebL ++ R).length ≤ _
  rw [hN]
  have h1 := hlb f (by omega)
  have h2 := hlb n (by omega)
  have h3 := hlb mn (by omega)
  have h4 := hlb mx (by omega)
  rcases (by omega : j = 0 ∨ j = 1 ∨ j = 2 ∨ j = 3 ∨ 4 ≤ j) with rfl | rfl | rfl | rfl | h
  ·simp; omega
  ·simp; omega
  ·simp; omega
  ·simp; omega
  ·rw [List.drop_eq_nil_of_le (by simpa using h)]
   simp
   omega
 have Hrl := Lib.hid hrl
 have hr0 : (restT N R 0).data.toList = (lebL f ++ (lebL n ++ (lebL mn ++ lebL mx))) ++ R := by rw [hN]; simp [restT]
 obtain ⟨r, hr⟩ : ∃ r, r = w.heap.size := ⟨_, rfl⟩
 obtain ⟨W2, hW2⟩ : ∃ W2, W2 = (w.alloc (.cells #[.slice none 0 0, .int .i64 0, .int .i64 0, .int .i64 0, .int .i64 0] 122)).alloc (.cells #[.slice none 0 0, .int .i64 0, .int .i64 0, .int .i64 0, .int .i64 0] 122) := ⟨_, rfl⟩
 have k2 : Keeps [] w W2 := by rw [hW2]; exact ((Keeps.refl [] w).alloc _).alloc _
 have n2 : W2.heap[r]? = some (.cells #[.slice none 0 0, .int .i64 0, .int .i64 0, .int .i64 0, .int .i64 0] 122 (0, 0)) ∧ W2.heap[r + 1]? = some (.cells #[.slice none 0 0, .int .i64 0, .int .i64 0, .int .i64 0, .int .i64 0] 122 (0, 0)) := by rw [hW2, hr]; exact new2 w _ _
 have hsz2 : W2.heap.size = r + 2 := by rw [hW2, hr]; simp
 have H2 := Lib.hid (And.intro n2 (And.intro k2 (And.intro hsz2 hr)))
 have Hl := Lib.hid (labTake_spec W2 s P ((lebL f ++ (lebL n ++ (lebL mn ++ lebL mx))) ++ R) (by rw [hs]; simp [entL]) hc hP8 hpp (by
  have := Hrl.out 0
  rw [← hr0, dsize]
  omega))
 rw [← hr0, back_arr] at Hl
 obtain ⟨tz, htz⟩ : ∃ tz, tz = restT N R 0 := ⟨_, rfl⟩
 rw [← htz] at Hl
 have Htz := Lib.hid htz
 clear htz
 have HB := Lib.hid (And.intro hf (And.intro hn (And.intro hmx hN)))
 have hmmx : ¬ (mn : Int) > (mx : Int) := by omega
 have hnz : ¬ (n : Int) = 0 := by omega
 have hnzb : ((n : Int) == 0) = false := by rw [beq_eq_false_iff_ne]; exact hnz
 clear hs hc hP8 hpp hf hn hm hmx hlb hrl hr0 k2 n2 hsz2 hn0 hN
 go_enter Tryz.func116, Tryz.ntmps116
 go_upto_region 2 with fail
 rw [← hr, ← hW2]
 clear hW2 hr
 go_wp2_with fail
 refine Hl.out.mono ?_
 rintro e W3 ⟨v, rfl, hrow, hk3⟩
 obtain ⟨av, cv, rfl, -, -, -⟩ := row_slice hrow
 have H3 := Lib.hid (And.intro (hk3.at_ H2.out.1.1 (by simp)) (And.intro (hk3.at_ H2.out.1.2 (by simp)) (And.intro hrow (And.intro (H2.out.2.1.trans hk3) (by have := hk3.size; have := H2.out.2.2.1; omega : r + 2 ≤ W3.heap.size)))))
 clear hrow hk3
 have c5 := cells_at H3.out.2.1
 have f5 := free_at H3.out.2.1
 have l5 := lt_of_at H3.out.2.1
 go_upto_region 6 with fail
 have kS : Keeps [r + 1] W3 (W3.setCell ⟨r + 1, 0, none⟩ (.slice av P.length cv)) := (Keeps.refl _ W3).setCell (.inl (by simp)) _
 have nS : (W3.setCell ⟨r + 1, 0, none⟩ (.slice av P.length cv)).heap[r + 1]? = some (.cells #[.slice av P.length cv, .int .i64 0, .int .i64 0, .int .i64 0, .int .i64 0] 122 (0, 0)) := by
  have := heap_cell_same (i := 0) H3.out.2.1 (.slice av P.length cv)
  simpa using this
 generalize W3.setCell ⟨r + 1, 0, none⟩ (.slice av P.length cv) = W4 at kS nS ⊢
 have hrw : W4.ownsRow W2.heap.size 91 2 (.slice av P.length cv) P.length (P.flatMap encPB) := kS.row H3.out.2.2.1 (fun g hg hm => by
  have h1 := (World.ownsRow.lt H3.out.2.2.1 g hg).1
  have h2 := H2.out.2.2.1
  simp at hm
  omega)
 obtain ⟨nb, hnb⟩ : ∃ nb, nb = W4.heap.size := ⟨_, rfl⟩
 obtain ⟨W5, hW5⟩ : ∃ W5, W5 = W4.alloc (.cells #[.int .i64 0, .int .i64 0, .int .i64 0, .int .i64 0] 168) := ⟨_, rfl⟩
 have k5 : Keeps [] W4 W5 := by rw [hW5]; exact (Keeps.refl [] _).alloc _
 have n5 : W5.heap[nb]? = some (.cells #[.int .i64 0, .int .i64 0, .int .i64 0, .int .i64 0] 168 (0, 0)) := by rw [hW5, hnb]; exact heap_new W4 _
 have hnbr : r + 2 ≤ nb := by rw [hnb]; have := kS.size; have := H3.out.2.2.2.2; omega
 have hnr : ∀ g, (Value.slice av P.length cv).ownBlock = some g → g ≠ nb ∧ g ≠ r + 1 ∧ g ≠ r := fun g hg => by
  have h1 := World.ownsRow.lt hrw g hg
  have h2 := H2.out.2.2.1
  omega
 have H5 := Lib.hid (And.intro n5 (And.intro (k5.at_ nS (by simp)) (And.intro (k5.at_ (kS.at_ H3.out.1 (by simp)) (by simp)) (And.intro (k5.row (row_base hrw (b' := w.heap.size) H2.out.2.1.size) (by simp)) (And.intro ((H3.out.2.2.2.1.after kS (fun x hx => .inr (by simp at hx; have := H2.out.2.2.2; omega))).trans k5) (And.intro hnbr hnr))))))
 clear c5 f5 l5 kS nS hrw k5 n5 hnbr hnr
 go_upto_region 7 with fail
 rw [← hnb, ← hW5]
 clear hnb hW5
 go_wp2_with fail
 go_loopg [0, 7, 24] 4 (ETRel w r (r + 1) nb P (.slice av P.length cv) N R)
 case atStart => exact ⟨0, Nat.zero_le _, rfl, by rw [Htz.out], rfl, rfl, by rw [HB.out.2.2.2]; exact H5.out.1, H5.out.2.1, H5.out.2.2.1, H5.out.2.2.2.1, H5.out.2.2.2.2.1⟩
 case round =>
  obtain ⟨j, hj, hgk, rfl, rfl, rfl, hnb, hxb, hrb, hrow, hkr⟩ := hrel
  rcases (by omega : j = 0 ∨ j = 1 ∨ j = 2 ∨ j = 3 ∨ j = 4) with rfl | rfl | rfl | rfl | rfl
  ·have hnb : wr.heap[nb]? = some (.cells #[.int .i64 0, .int .i64 0, .int .i64 0, .int .i64 0] 168 (0, 0)) := by rw [HB.out.2.2.2] at hnb; exact hnb
   have Hc := Lib.hid (takeMost_spec wr (restT N R 0) (by have := Hrl.out 0; unfold maxLen; omega) 1048576 (by decide))
   rw [show (restT N R 0).data.toList = lebL f ++ (restT N R 1).data.toList from by rw [HB.out.2.2.2]; simp [restT], takeM_leb (m := f) _ (by have := HB.out.1; have := HB.out.2.1; have := HB.out.2.2.1; omega) (by decide)] at Hc
   unfold takeMVals at Hc
   dsimp only at Hc
   rw [back_arr] at Hc
   have Hg := Lib.hid (And.intro hgk (And.intro hnb (And.intro hxb (And.intro hrb (And.intro hrow hkr)))))
   obtain ⟨t0, ht0⟩ : ∃ t0, t0 = restT N R 0 := ⟨_, rfl⟩
   obtain ⟨t1, ht1⟩ : ∃ t1, t1 = restT N R 1 := ⟨_, rfl⟩
   rw [← ht0, ← ht1] at Hc
   rw [← ht0]
   have Ht1 := Lib.hid ht1
   clear hgk hnb hxb hrb hrow hkr ht0 ht1
   rw [show ((0 : Nat) : Int) = 0 from rfl]
   have hix := ix4_0
   go_wp2_with fail
   refine Hc.out.mono ?_
   rintro e w2 ⟨rfl, m2, hw2⟩
   have k2 : Keeps [] wr w2 := by rw [hw2]; exact (Keeps.refl [] _).drewN _
   have n2 := k2.at_ Hg.out.2.1 (by simp)
   have cn := cells_at n2
   have fn := free_at n2
   have ln := lt_of_at n2
   have Hk2 := Lib.hid (And.intro n2 k2)
   clear hw2 k2 n2
   go_upto_region 11 with fail
   have kS : Keeps [nb] w2 (w2.setCell ⟨nb, 0, none⟩ (.int .i64 (f : Nat))) := (Keeps.refl _ w2).setCell (.inl (by simp)) _
   have nS : (w2.setCell ⟨nb, 0, none⟩ (.int .i64 (f : Nat))).heap[nb]? = some (.cells #[.int .i64 (f : Nat), .int .i64 0, .int .i64 0, .int .i64 0] 168 (0, 0)) := by
    have := heap_cell_same (i := 0) Hk2.out.1 (.int .i64 (f : Nat))
    simpa using this
   generalize w2.setCell ⟨nb, 0, none⟩ (.int .i64 (f : Nat)) = w3 at kS nS ⊢
   have hnbr := H5.out.2.2.2.2.2.1
   have k13 := (Hk2.out.2.mono (by simp) : Keeps [nb] wr w2).trans kS
   have H3 := Lib.hid (And.intro nS (And.intro (k13.at_ Hg.out.2.2.1 (by simp; omega)) (And.intro (k13.at_ Hg.out.2.2.2.1 (by simp; omega)) (And.intro (k13.row Hg.out.2.2.2.2.1 (fun g hg hm => (H5.out.2.2.2.2.2.2 g hg).1 (by simpa using hm))) (Hg.out.2.2.2.2.2.after k13 (fun x hx => .inr (by simp at hx; have := H2.out.2.2.2; omega)))))))
   clear cn fn ln kS nS k13
   go_wp2_with fail
   go_roundg (3)
   case measure => have := Hg.out.1; omega
   case rel => exact ⟨1, by decide, rfl, (by rw [← Ht1.out]), (by first | rfl | go_num), (by first | rfl | go_num), by rw [HB.out.2.2.2]; exact H3.out.1, H3.out.2.1, H3.out.2.2.1, H3.out.2.2.2.1, H3.out.2.2.2.2⟩
  ·have hnb : wr.heap[nb]? = some (.cells #[.int .i64 (f : Nat), .int .i64 0, .int .i64 0, .int .i64 0] 168 (0, 0)) := by rw [HB.out.2.2.2] at hnb; exact hnb
   have Hc := Lib.hid (takeMost_spec wr (restT N R 1) (by have := Hrl.out 1; unfold maxLen; omega) 1048576 (by decide))
   rw [show (restT N R 1).data.toList = lebL n ++ (restT N R 2).data.toList from by rw [HB.out.2.2.2]; simp [restT], takeM_leb (m := n) _ (by have := HB.out.1; have := HB.out.2.1; have := HB.out.2.2.1; omega) (by decide)] at Hc
   unfold takeMVals at Hc
   dsimp only at Hc
   rw [back_arr] at Hc
   have Hg := Lib.hid (And.intro hgk (And.intro hnb (And.intro hxb (And.intro hrb (And.intro hrow hkr)))))
   obtain ⟨t0, ht0⟩ : ∃ t0, t0 = restT N R 1 := ⟨_, rfl⟩
   obtain ⟨t1, ht1⟩ : ∃ t1, t1 = restT N R 2 := ⟨_, rfl⟩
   rw [← ht0, ← ht1] at Hc
   rw [← ht0]
   have Ht1 := Lib.hid ht1
   clear hgk hnb hxb hrb hrow hkr ht0 ht1
   rw [show ((1 : Nat) : Int) = 1 from rfl]
   have hix := ix4_1
   go_wp2_with fail
   refine Hc.out.mono ?_
   rintro e w2 ⟨rfl, m2, hw2⟩
   have k2 : Keeps [] wr w2 := by rw [hw2]; exact (Keeps.refl [] _).drewN _
   have n2 := k2.at_ Hg.out.2.1 (by simp)
   have cn := cells_at n2
   have fn := free_at n2
   have ln := lt_of_at n2
   have Hk2 := Lib.hid (And.intro n2 k2)
   clear hw2 k2 n2
   go_upto_region 11 with fail
   have kS : Keeps [nb] w2 (w2.setCell ⟨nb, 1, none⟩ (.int .i64 (n : Nat))) := (Keeps.refl _ w2).setCell (.inl (by simp)) _
   have nS : (w2.setCell ⟨nb, 1, none⟩ (.int .i64 (n : Nat))).heap[nb]? = some (.cells #[.int .i64 (f : Nat), .int .i64 (n : Nat), .int .i64 0, .int .i64 0] 168 (0, 0)) := by
    have := heap_cell_same (i := 1) Hk2.out.1 (.int .i64 (n : Nat))
    simpa using this
   generalize w2.setCell ⟨nb, 1, none⟩ (.int .i64 (n : Nat)) = w3 at kS nS ⊢
   have hnbr := H5.out.2.2.2.2.2.1
   have k13 := (Hk2.out.2.mono (by simp) : Keeps [nb] wr w2).trans kS
   have H3 := Lib.hid (And.intro nS (And.intro (k13.at_ Hg.out.2.2.1 (by simp; omega)) (And.intro (k13.at_ Hg.out.2.2.2.1 (by simp; omega)) (And.intro (k13.row Hg.out.2.2.2.2.1 (fun g hg hm => (H5.out.2.2.2.2.2.2 g hg).1 (by simpa using hm))) (Hg.out.2.2.2.2.2.after k13 (fun x hx => .inr (by simp at hx; have := H2.out.2.2.2; omega)))))))
   clear cn fn ln kS nS k13
   go_wp2_with fail
   go_roundg (2)
   case measure => have := Hg.out.1; omega
   case rel => exact ⟨2, by decide, rfl, (by rw [← Ht1.out]), (by first | rfl | go_num), (by first | rfl | go_num), by rw [HB.out.2.2.2]; exact H3.out.1, H3.out.2.1, H3.out.2.2.1, H3.out.2.2.2.1, H3.out.2.2.2.2⟩
  ·have hnb : wr.heap[nb]? = some (.cells #[.int .i64 (f : Nat), .int .i64 (n : Nat), .int .i64 0, .int .i64 0] 168 (0, 0)) := by rw [HB.out.2.2.2] at hnb; exact hnb
   have Hc := Lib.hid (takeMost_spec wr (restT N R 2) (by have := Hrl.out 2; unfold maxLen; omega) 1099511627776 (by decide))
   rw [show (restT N R 2).data.toList = lebL mn ++ (restT N R 3).data.toList from by rw [HB.out.2.2.2]; simp [restT], takeM_leb (m := mn) _ (by have := HB.out.1; have := HB.out.2.1; have := HB.out.2.2.1; omega) (by decide)] at Hc
   unfold takeMVals at Hc
   dsimp only at Hc
   rw [back_arr] at Hc
   have Hg := Lib.hid (And.intro hgk (And.intro hnb (And.intro hxb (And.intro hrb (And.intro hrow hkr)))))
   obtain ⟨t0, ht0⟩ : ∃ t0, t0 = restT N R 2 := ⟨_, rfl⟩
   obtain ⟨t1, ht1⟩ : ∃ t1, t1 = restT N R 3 := ⟨_, rfl⟩
   rw [← ht0, ← ht1] at Hc
   rw [← ht0]
   have Ht1 := Lib.hid ht1
   clear hgk hnb hxb hrb hrow hkr ht0 ht1
   rw [show ((2 : Nat) : Int) = 2 from rfl]
   have hix := ix4_2
   go_wp2_with fail
   refine Hc.out.mono ?_
   rintro e w2 ⟨rfl, m2, hw2⟩
   have k2 : Keeps [] wr w2 := by rw [hw2]; exact (Keeps.refl [] _).drewN _
   have n2 := k2.at_ Hg.out.2.1 (by simp)
   have cn := cells_at n2
   have fn := free_at n2
   have ln := lt_of_at n2
   have Hk2 := Lib.hid (And.intro n2 k2)
   clear hw2 k2 n2
   go_upto_region 11 with fail
   have kS : Keeps [nb] w2 (w2.setCell ⟨nb, 2, none⟩ (.int .i64 (mn : Nat))) := (Keeps.refl _ w2).setCell (.inl (by simp)) _
   have nS : (w2.setCell ⟨nb, 2, none⟩ (.int .i64 (mn : Nat))).heap[nb]? = some (.cells #[.int .i64 (f : Nat), .int .i64 (n : Nat), .int .i64 (mn : Nat), .int .i64 0] 168 (0, 0)) := by
    have := heap_cell_same (i := 2) Hk2.out.1 (.int .i64 (mn : Nat))
    simpa using this
   generalize w2.setCell ⟨nb, 2, none⟩ (.int .i64 (mn : Nat)) = w3 at kS nS ⊢
   have hnbr := H5.out.2.2.2.2.2.1
   have k13 := (Hk2.out.2.mono (by simp) : Keeps [nb] wr w2).trans kS
   have H3 := Lib.hid (And.intro nS (And.intro (k13.at_ Hg.out.2.2.1 (by simp; omega)) (And.intro (k13.at_ Hg.out.2.2.2.1 (by simp; omega)) (And.intro (k13.row Hg.out.2.2.2.2.1 (fun g hg hm => (H5.out.2.2.2.2.2.2 g hg).1 (by simpa using hm))) (Hg.out.2.2.2.2.2.after k13 (fun x hx => .inr (by simp at hx; have := H2.out.2.2.2; omega)))))))
   clear cn fn ln kS nS k13
   go_wp2_with fail
   go_roundg (1)
   case measure => have := Hg.out.1; omega
   case rel => exact ⟨3, by decide, rfl, (by rw [← Ht1.out]), (by first | rfl | go_num), (by first | rfl | go_num), by rw [HB.out.2.2.2]; exact H3.out.1, H3.out.2.1, H3.out.2.2.1, H3.out.2.2.2.1, H3.out.2.2.2.2⟩
  ·have hnb : wr.heap[nb]? = some (.cells #[.int .i64 (f : Nat), .int .i64 (n : Nat), .int .i64 (mn : Nat), .int .i64 0] 168 (0, 0)) := by rw [HB.out.2.2.2] at hnb; exact hnb
   have Hc := Lib.hid (takeMost_spec wr (restT N R 3) (by have := Hrl.out 3; unfold maxLen; omega) 1099511627776 (by decide))
   rw [show (restT N R 3).data.toList = lebL mx ++ (restT N R 4).data.toList from by rw [HB.out.2.2.2]; simp [restT], takeM_leb (m := mx) _ (by have := HB.out.1; have := HB.out.2.1; have := HB.out.2.2.1; omega) (by decide)] at Hc
   unfold takeMVals at Hc
   dsimp only at Hc
   rw [back_arr] at Hc
   have Hg := Lib.hid (And.intro hgk (And.intro hnb (And.intro hxb (And.intro hrb (And.intro hrow hkr)))))
   obtain ⟨t0, ht0⟩ : ∃ t0, t0 = restT N R 3 := ⟨_, rfl⟩
   obtain ⟨t1, ht1⟩ : ∃ t1, t1 = restT N R 4 := ⟨_, rfl⟩
   rw [← ht0, ← ht1] at Hc
   rw [← ht0]
   have Ht1 := Lib.hid ht1
   clear hgk hnb hxb hrb hrow hkr ht0 ht1
   rw [show ((3 : Nat) : Int) = 3 from rfl]
   have hix := ix4_3
   go_wp2_with fail
   refine Hc.out.mono ?_
   rintro e w2 ⟨rfl, m2, hw2⟩
   have k2 : Keeps [] wr w2 := by rw [hw2]; exact (Keeps.refl [] _).drewN _
   have n2 := k2.at_ Hg.out.2.1 (by simp)
   have cn := cells_at n2
   have fn := free_at n2
   have ln := lt_of_at n2
   have Hk2 := Lib.hid (And.intro n2 k2)
   clear hw2 k2 n2
   go_upto_region 11 with fail
   have kS : Keeps [nb] w2 (w2.setCell ⟨nb, 3, none⟩ (.int .i64 (mx : Nat))) := (Keeps.refl _ w2).setCell (.inl (by simp)) _
   have nS : (w2.setCell ⟨nb, 3, none⟩ (.int .i64 (mx : Nat))).heap[nb]? = some (.cells #[.int .i64 (f : Nat), .int .i64 (n : Nat), .int .i64 (mn : Nat), .int .i64 (mx : Nat)] 168 (0, 0)) := by
    have := heap_cell_same (i := 3) Hk2.out.1 (.int .i64 (mx : Nat))
    simpa using this
   generalize w2.setCell ⟨nb, 3, none⟩ (.int .i64 (mx : Nat)) = w3 at kS nS ⊢
   have hnbr := H5.out.2.2.2.2.2.1
   have k13 := (Hk2.out.2.mono (by simp) : Keeps [nb] wr w2).trans kS
   have H3 := Lib.hid (And.intro nS (And.intro (k13.at_ Hg.out.2.2.1 (by simp; omega)) (And.intro (k13.at_ Hg.out.2.2.2.1 (by simp; omega)) (And.intro (k13.row Hg.out.2.2.2.2.1 (fun g hg hm => (H5.out.2.2.2.2.2.2 g hg).1 (by simpa using hm))) (Hg.out.2.2.2.2.2.after k13 (fun x hx => .inr (by simp at hx; have := H2.out.2.2.2; omega)))))))
   clear cn fn ln kS nS k13
   go_wp2_with fail
   go_roundg (0)
   case measure => have := Hg.out.1; omega
   case rel => exact ⟨4, by decide, rfl, (by rw [← Ht1.out]), (by first | rfl | go_num), (by first | rfl | go_num), by rw [HB.out.2.2.2]; exact H3.out.1, H3.out.2.1, H3.out.2.2.1, H3.out.2.2.2.1, H3.out.2.2.2.2⟩
  ·have hnb : wr.heap[nb]? = some (.cells #[.int .i64 (f : Nat), .int .i64 (n : Nat), .int .i64 (mn : Nat), .int .i64 (mx : Nat)] 168 (0, 0)) := by rw [HB.out.2.2.2] at hnb; exact hnb
   have htR : restT N R 4 = ⟨R.toArray⟩ := by rw [HB.out.2.2.2]; rfl
   rw [htR]
   obtain ⟨tR, htR2⟩ : ∃ tR : ByteArray, tR = ⟨R.toArray⟩ := ⟨_, rfl⟩
   rw [← htR2]
   have HtR := Lib.hid htR2
   have Hg := Lib.hid (And.intro hnb (And.intro hxb (And.intro hrb (And.intro hrow hkr))))
   clear hgk hrow hkr htR htR2
   rw [show ((4 : Nat) : Int) = 4 from rfl]
   have cn := cells_at hnb
   have ln := lt_of_at hnb
   have cx := cells_at hxb
   have fx := free_at hxb
   have lx := lt_of_at hxb
   clear hnb hxb hrb
   have hne : nb ≠ r + 1 := by have := H5.out.2.2.2.2.2.1; omega
   have hne2 : r + 1 ≠ nb := Ne.symm hne
   go_upto_region 14 with fail
   go_region
   have k9 : Keeps [r + 1] wr ((((wr.setCell ⟨r + 1, 1, none⟩ (.int .i64 (f : Nat))).setCell ⟨r + 1, 2, none⟩ (.int .i64 (n : Nat))).setCell ⟨r + 1, 3, none⟩ (.int .i64 (mn : Nat))).setCell ⟨r + 1, 4, none⟩ (.int .i64 (mx : Nat))).drew := (((((Keeps.refl _ wr).setCell (.inl (by simp)) _).setCell (.inl (by simp)) _).setCell (.inl (by simp)) _).setCell (.inl (by simp)) _).drew
   have n9 : ((((wr.setCell ⟨r + 1, 1, none⟩ (.int .i64 (f : Nat))).setCell ⟨r + 1, 2, none⟩ (.int .i64 (n : Nat))).setCell ⟨r + 1, 3, none⟩ (.int .i64 (mn : Nat))).setCell ⟨r + 1, 4, none⟩ (.int .i64 (mx : Nat))).drew.heap[r + 1]? = some (.cells #[.slice av P.length cv, .int .i64 (f : Nat), .int .i64 (n : Nat), .int .i64 (mn : Nat), .int .i64 (mx : Nat)] 122 (0, 0)) := by
    have h1 := heap_cell_same (i := 1) Hg.out.2.1 (.int .i64 (f : Nat))
    have h2 := heap_cell_same (i := 2) h1 (.int .i64 (n : Nat))
    have h3 := heap_cell_same (i := 3) h2 (.int .i64 (mn : Nat))
    have h4 := heap_cell_same (i := 4) h3 (.int .i64 (mx : Nat))
    simp at h4
    exact h4
   generalize ((((wr.setCell ⟨r + 1, 1, none⟩ (.int .i64 (f : Nat))).setCell ⟨r + 1, 2, none⟩ (.int .i64 (n : Nat))).setCell ⟨r + 1, 3, none⟩ (.int .i64 (mn : Nat))).setCell ⟨r + 1, 4, none⟩ (.int .i64 (mx : Nat))).drew = w9 at k9 n9 ⊢
   have nr9 := k9.at_ Hg.out.2.2.1 (by simp)
   have H9 := Lib.hid (And.intro nr9 (And.intro (k9.row Hg.out.2.2.2.1 (fun g hg hm => (H5.out.2.2.2.2.2.2 g hg).2.1 (by simpa using hm))) (Hg.out.2.2.2.2.after k9 (fun x hx => .inr (by simp at hx; have := H2.out.2.2.2; omega)))))
   clear cn ln cx fx lx k9 hne hne2
   have cx := cells_at n9
   have lx := lt_of_at n9
   have cr := cells_at nr9
   have fr := free_at nr9
   have lr := lt_of_at nr9
   clear n9 nr9
   go_wp2_with fail
   obtain ⟨nF, kF⟩ := set5of5 (v0 := .slice av P.length cv) (v1 := .int .i64 (f : Nat)) (v2 := .int .i64 (n : Nat)) (v3 := .int .i64 (mn : Nat)) (v4 := .int .i64 (mx : Nat)) H9.out.1
   generalize ((((w9.setCell ⟨r, 0, none⟩ (.slice av P.length cv)).setCell ⟨r, 1, none⟩ (.int .i64 (f : Nat))).setCell ⟨r, 2, none⟩ (.int .i64 (n : Nat))).setCell ⟨r, 3, none⟩ (.int .i64 (mn : Nat))).setCell ⟨r, 4, none⟩ (.int .i64 (mx : Nat)) = w10 at nF kF ⊢
   clear cx lx cr fr lr
   have cr := cells_at nF
   have lr := lt_of_at nF
   refine bodyPost_ret (v := .tuple #[.agg #[.slice av P.length cv, .int .i64 (f : Nat), .int .i64 (n : Nat), .int .i64 (mn : Nat), .int .i64 (mx : Nat)], .string tR, .int .i64 0]) (by simp [results, Tryz.results116, go_sem, cr, lr]) rfl ?_
   exact ⟨_, by rw [HtR.out], kF.row H9.out.2.1 (fun g hg hm => (H5.out.2.2.2.2.2.2 g hg).2.2 (by simpa using hm)), H9.out.2.2.after kF (fun x hx => .inr (by simp at hx; have := H2.out.2.2.2; omega))⟩
def EsRel (W : World) (EP : List EntP) (gk : Nat) (u6 u7 u8 u9 : Value) (wr : World) : Prop :=
 ∃ j, j ≤ EP.length ∧ gk = EP.length - j ∧ u6 = .int .i64 0 ∧ u7 = .int .i64 ((EP.length - j : Nat) : Int) ∧ u8 = .string ⟨((EP.drop j).flatMap entL).toArray⟩ ∧ (∃ E, EntrAt W.heap.size wr u9 E ∧ E.length = j ∧ E.map (·.2) = EP.take j) ∧ Keeps [] W wr
theorem entL_len {e : EntP} (h : EntT e) : (entL e).length ≤ 1000 := by
 obtain ⟨P, f, n, mn, mx⟩ := e
 have h1 := pairsL_len (P := P) h.set.2.2
 have h2 : (keyP P).data.toList.length ≤ 10 + 100 * P.length := by
  show (keyL P P.length).length ≤ _
  unfold keyL
  rw [List.take_length, List.length_append]
  have := lebL_len10 (v := P.length) (by have := h.set.2.1; dsimp only at this; omega)
  omega
 have h3 := h.set.2.1
 have h4 := h.nums
 dsimp only at h3 h4
 unfold entL
 dsimp only
 have := lebL_len10 (v := f) (by omega)
 have := lebL_len10 (v := n) (by omega)
 have := lebL_len10 (v := mn) (by omega)
 have := lebL_len10 (v := mx) (by omega)
 simp only [List.length_append]
 omega
theorem entsL_len {EP : List EntP} (h : ∀ e ∈ EP, EntT e) : (EP.flatMap entL).length ≤ 1000 * EP.length := by
 induction EP with
 | nil => simp
 | cons e EP ih =>
  have h1 := entL_len (h e (by simp))
  have h2 := ih (fun q hq => h q (by simp [hq]))
  rw [List.flatMap_cons, List.length_append, List.length_cons]
  omega
theorem entriesR_spec (w : World) (s : ByteArray) (EP : List EntP) (hs : s.data.toList = idxL EP) (ht : ∀ e ∈ EP, EntT e) (hp : EP.Pairwise fun a b => ltL a.1 b.1) (hl : EP.length ≤ 50) :
  Calls Tryz.prog 81 #[.string s] w fun e w' => ∃ v E, e = .returned (.tuple #[v, .int .i64 0]) ∧ EntrAt w.heap.size w' v E ∧ E.map (·.2) = EP ∧ Keeps [] w w' := by
 obtain ⟨ie, hie, hz0, hz1, hz2⟩ := info_parts infoEntR
 have hel := entsL_len ht
 obtain ⟨D, hD⟩ : ∃ D : ByteArray, D = ⟨(lebL EP.length ++ EP.flatMap entL).toArray⟩ := ⟨_, rfl⟩
 have hDl : D.data.toList = lebL EP.length ++ EP.flatMap entL := by rw [hD]
 have hDz : D.size ≤ 50010 := by
  rw [← dsize, hDl, List.length_append]
  have := lebL_len10 (v := EP.length) (by omega)
  omega
 have hsz : s.size ≤ 60000 := by
  rw [← dsize, hs]
  unfold idxL
  rw [frameL_len, ← hDl, dsize]
  have := lebL_len10 (v := D.size) (by omega)
  omega
 have Hn := Lib.hid (next_spec w s (by omega))
 have hnx : nextF s.data.toList = (5, D.data.toList, [], 0) := by
  rw [hs, hDl]
  unfold idxL
  have := nextF_frame 5 (lebL EP.length ++ EP.flatMap entL) [] (by rw [← hDl, dsize]; omega)
  rw [List.append_nil] at this
  exact this
 rw [hnx] at Hn
 unfold NextPost nextVals at Hn
 dsimp only at Hn
 rw [back_arr] at Hn
 have hk5 : ((5 : UInt8).toNat : Int) = 5 := rfl
 rw [hk5] at Hn
 have Ht := Lib.hid (fun W : World => takeMost_spec W D (by unfold maxLen; omega) 10000 (by decide))
 rw [hDl, takeM_leb (m := EP.length) _ (by omega) (by decide)] at Ht
 unfold takeMVals at Ht
 dsimp only at Ht
 obtain ⟨s1, hs1⟩ : ∃ s1 : ByteArray, s1 = ⟨(EP.flatMap entL).toArray⟩ := ⟨_, rfl⟩
 rw [← hs1] at Ht
 have H := Lib.hid (And.intro ht (And.intro hp hs1))
 clear hs ht hp hel hD hDl hDz hsz hnx hk5 hs1
 go_enter Tryz.func81, Tryz.ntmps81
 go_wp2_with fail
 refine Hn.out.mono ?_
 rintro e w1 ⟨rfl, hk1⟩
 obtain ⟨r, hr⟩ : ∃ r, r = w1.heap.size := ⟨_, rfl⟩
 obtain ⟨w2, hw2⟩ : ∃ w2, w2 = w1.alloc (.cells #[.int .u8 5, .string D] 166) := ⟨_, rfl⟩
 have k2 : Keeps [] w1 w2 := by rw [hw2]; exact (Keeps.refl [] _).alloc _
 have n2 : w2.heap[r]? = some (.cells #[.int .u8 5, .string D] 166 (0, 0)) := by rw [hw2, hr]; exact heap_new w1 _
 have H2 := Lib.hid (hk1.trans k2)
 clear hk1 k2
 go_upto_region 2 with fail
 rw [← hw2, ← hr]
 clear hw2 hr
 have cr := cells_at n2
 have lr := lt_of_at n2
 clear n2
 go_wp2_with fail
 refine (Ht.out w2).mono ?_
 rintro e W ⟨rfl, m3, hm3⟩
 have k3 : Keeps [] w2 W := by rw [hm3]; exact (Keeps.refl [] _).drewN _
 have H3 := Lib.hid (H2.out.trans k3)
 clear hm3 k3 cr lr
 go_wp2_with fail
 go_loopg [6, 7, 8, 9] EP.length (EsRel W EP)
 case atStart => exact ⟨0, Nat.zero_le _, rfl, rfl, by simp, by rw [H.out.2.2]; rfl, ⟨[], ⟨World.ownsRow_nil _ _ _ 5, by simp⟩, rfl, rfl⟩, Keeps.refl _ _⟩
 case round =>
  obtain ⟨j, hj, hgk, rfl, rfl, rfl, ⟨E, hE, hEl, hEe⟩, hkr⟩ := hrel
  obtain ⟨m, hm⟩ : ∃ m, m = EP.length - j := ⟨_, rfl⟩
  rw [← hm]
  obtain ⟨t0, ht0⟩ : ∃ t0 : ByteArray, t0 = ⟨((EP.drop j).flatMap entL).toArray⟩ := ⟨_, rfl⟩
  rw [← ht0]
  obtain ⟨av, cv, rfl, -, -, -⟩ := row_slice hE.1
  by_cases hlt : j < EP.length
  ·have hm0 : (m : Int) > 0 := by omega
   have hwm := IntWalk.i64_in ((m : Int) - 1) (by omega)
   have hdr : EP.drop j = EP[j] :: EP.drop (j + 1) := List.drop_eq_getElem_cons hlt
   have htk := take_push hlt
   have het := H.out.1 EP[j] (List.getElem_mem hlt)
   have hless : ∀ (h0 : 0 < j) (hi : j - 1 < E.length), ltL (E[j - 1]'hi).2.1 EP[j].1 ∧ (E[j - 1]'hi).2.1.length ≤ 8 := fun h0 hi => by
    have h1 : (E[j - 1]'hi).2 = EP[j - 1]'(by omega) := by
     have h2 : (E.map (·.2))[j - 1]? = (EP.take j)[j - 1]? := by rw [hEe]
     rw [List.getElem?_map, List.getElem?_eq_getElem hi, List.getElem?_take, if_pos (by omega), List.getElem?_eq_getElem (by omega)] at h2
     exact Option.some.inj h2
    rw [h1]
    exact ⟨List.pairwise_iff_getElem.1 H.out.2.1 (j - 1) j (by omega) hlt (by omega), (H.out.1 _ (List.getElem_mem _)).set.2.1⟩
   generalize EP[j] = x at hdr htk het hless
   obtain ⟨P, f, n, mn, mx⟩ := x
   dsimp only at hless
   obtain ⟨t1, ht1⟩ : ∃ t1 : ByteArray, t1 = ⟨((EP.drop (j + 1)).flatMap entL).toArray⟩ := ⟨_, rfl⟩
   have hd1 := entsL_len (EP := EP.drop (j + 1)) (fun q hq => H.out.1 q (List.mem_of_mem_drop hq))
   have Hc := Lib.hid (fun W' : World => entTake_spec W' t0 P f n mn mx ((EP.drop (j + 1)).flatMap entL) (by rw [ht0, hdr]; simp) het (by rw [List.length_drop] at hd1; omega))
   rw [← ht1] at Hc
   have hP8 := het.set.2.1
   have Hg := Lib.hid (And.intro hgk (And.intro hE (And.intro hkr (And.intro htk (And.intro ht1 (And.intro hm (And.intro hlt (And.intro hless (And.intro hEl (And.intro hEe hP8))))))))))
   have hj50 : j ≤ 50 := by omega
   obtain ⟨N, hN⟩ : ∃ N, N = E.length := ⟨_, rfl⟩
   have hN50 : N ≤ 50 := by omega
   rw [← hN]
   have HN := Lib.hid hN
   clear hgk hE hkr htk hdr ht0 ht1 hm hlt hless hEe hd1 het hP8 hEl hN
   obtain ⟨q, hq⟩ : ∃ q, q = wr.heap.size := ⟨_, rfl⟩
   obtain ⟨w4, hw4⟩ : ∃ w4, w4 = wr.alloc (.cells #[.slice none 0 0, .int .i64 0, .int .i64 0, .int .i64 0, .int .i64 0] 122) := ⟨_, rfl⟩
   have k4 : Keeps [] wr w4 := by rw [hw4]; exact (Keeps.refl [] _).alloc _
   have n4 : w4.heap[q]? = some (.cells #[.slice none 0 0, .int .i64 0, .int .i64 0, .int .i64 0, .int .i64 0] 122 (0, 0)) := by rw [hw4, hq]; exact heap_new wr _
   have hqW : W.heap.size ≤ q := by rw [hq]; exact Hg.out.2.2.1.size
   go_upto_region 11 with fail
   rw [← hw4, ← hq]
   have H4 := Lib.hid (And.intro n4 (And.intro k4 (And.intro hqW hq)))
   clear hw4 k4 n4 hqW hq
   go_wp2_with fail
   refine (Hc.out w4).mono ?_
   rintro e w5 ⟨v5, rfl, hr5, hk5⟩
   obtain ⟨a5, c5, rfl, -, -, -⟩ := row_slice hr5
   have n5 := hk5.at_ H4.out.1 (by simp)
   have k45 := H4.out.2.1.trans hk5
   have hE5 : EntrAt W.heap.size w5 (.slice av N cv) E := by
    have := (Hg.out.2.1.keep H4.out.2.1).keep hk5
    rw [HN.out]
    exact this
   have H5 := Lib.hid (And.intro n5 (And.intro hr5 (And.intro hE5 k45)))
   have cx := cells_at n5
   have fx := free_at n5
   have lx := lt_of_at n5
   clear n5 k45 hE5 hr5 hk5
   go_upto_region 12 with fail
   obtain ⟨nF, kF⟩ := set5of5 (v0 := .slice a5 P.length c5) (v1 := .int .i64 (f : Nat)) (v2 := .int .i64 (n : Nat)) (v3 := .int .i64 (mn : Nat)) (v4 := .int .i64 (mx : Nat)) H5.out.1
   generalize ((((w5.setCell ⟨q, 0, none⟩ (.slice a5 P.length c5)).setCell ⟨q, 1, none⟩ (.int .i64 (f : Nat))).setCell ⟨q, 2, none⟩ (.int .i64 (n : Nat))).setCell ⟨q, 3, none⟩ (.int .i64 (mn : Nat))).setCell ⟨q, 4, none⟩ (.int .i64 (mx : Nat)) = w6 at nF kF ⊢
   have hqn : q = wr.heap.size := H4.out.2.2.2
   have hnq1 : ∀ g, (Value.slice av N cv).ownBlock = some g → g ≠ q := fun g hg => by
    have h1 := (World.ownsRow.lt Hg.out.2.1.1 g (by rw [← HN.out]; exact hg)).2
    omega
   have hqne : ∀ e ∈ E, ∀ g, e.1.ownBlock = some g → g ≠ q := fun e he g hg => by
    have h1 := (World.ownsRow.lt (Hg.out.2.1.2 e he) g hg).2
    omega
   have hE6 : EntrAt W.heap.size w6 (.slice av N cv) E := by
    have h5 := H5.out.2.2.1
    refine ⟨kF.row h5.1 (fun g hg hm => hnq1 g hg (by simpa using hm)), fun e he => kF.row (h5.2 e he) (fun g hg hm => hqne e he g hg (by simpa using hm))⟩
   have hr6 := kF.row H5.out.2.1 (fun g hg hm => by
    have h1 := (World.ownsRow.lt H5.out.2.1 g hg).1
    have h2 := lt_of_at H4.out.1
    simp at hm
    omega)
   have hWq := H4.out.2.2.1
   have H6 := Lib.hid (And.intro nF (And.intro hr6 (And.intro hE6 ((Hg.out.2.2.1.trans H5.out.2.2.2).after kF (fun x hx => .inr (by simp at hx; rw [hx]; exact hWq))))))
   clear cx fx lx hE6 hr6 hWq kF hqne hnq1 hqn
   have cx := cells_at nF
   have lx := lt_of_at nF
   clear nF
   go_upto_region 14 with fail
   go_cut [70] from 57 to 69 (fun c wc => c = .bool false ∧ Keeps [] w6 wc)
   case first =>
    by_cases h0 : N = 0
    ·subst h0
     rw [show ((0 : Nat) : Int) = 0 from rfl]
     go_quiet (fail)
     go_wp2_with fail
     go_meet
     case rel => exact ⟨rfl, (Keeps.refl [] _).drewN _⟩
    ·obtain ⟨N1, hN1⟩ : ∃ N1, N = N1 + 1 := ⟨N - 1, by omega⟩
     have hlt1 : N1 < E.length := by have := HN.out; omega
     have hll := Hg.out.2.2.2.2.2.2.2.1
     have hEl := Hg.out.2.2.2.2.2.2.2.2.1
     have hless : ltL (E[N1]'hlt1).2.1 P ∧ (E[N1]'hlt1).2.1.length ≤ 8 := by
      have h1 := hll (by have := HN.out; omega) (by have := HN.out; omega)
      have h2 : j - 1 = N1 := by have := HN.out; omega
      simpa only [h2] using h1
     obtain ⟨X0, hX0⟩ : ∃ X0, X0 = w6.drew := ⟨_, rfl⟩
     have kX : Keeps [] w6 X0 := by rw [hX0]; exact (Keeps.refl [] _).drew
     have hEX := H6.out.2.2.1.keep kX
     obtain ⟨b6, o6, ha6, hb6, d1, -⟩ := ent_at hEX N1 hlt1
     subst ha6
     have hin := hEX.2 _ (List.getElem_mem hlt1)
     unfold EntIn at hin
     generalize E[N1] = y at d1 hin hless
     obtain ⟨yv, yP, yr⟩ := y
     dsimp only at d1 hin hless
     obtain ⟨ya, yc, rfl, -, -, -⟩ := row_slice hin
     have nX := kX.at_ H6.out.1 (by simp)
     have d2 : X0.cell? ⟨q, 0, none⟩ = some (.slice a5 P.length c5) := by rw [cells_at nX]; rfl
     have hidx : (N : Int) - 1 = (N1 : Int) := by omega
     have hwi := IntWalk.i64_in ((N : Int) - 1) (by omega)
     have hN1l : (N1 : Int) < (N : Int) := by omega
     have hgt : decide (0 < N) = true := by simp; omega
     have hy1000 : yP.length ≤ 1000 := by have := hless.2; omega
     have hwn1 := IntWalk.i64_in (N1 : Int) (by omega)
     have HX := Lib.hid (And.intro hX0 (And.intro kX (And.intro hin (And.intro (kX.row H6.out.2.1 (by simp)) hless))))
     have lX := kX.lt lx
     clear hX0 kX hEX hin hll hEl hless nX hN1 h0 cx lx
     refine wp_region_held_drew (S := fun w' => w'.cell? ⟨b6, o6 + N1 * 5, none⟩ = some (.slice ya yP.length yc) ∧ w'.cell? ⟨q, 0, none⟩ = some (.slice a5 P.length c5)) (by kernel_rfl) (by rw [← HX.out.1]; exact ⟨d1, d2⟩) (fun hS => ?_)
     rw [← HX.out.1] at hS ⊢
     refine tk (v := ?_) 0 rfl ?_ ?_; rotate_left
     ·rintro _ ⟨s1, s2⟩; go_simp; (try with_reducible rfl)
     simp only [Act.put, zz]
     refine tk (v := ?_) 1 rfl ?_ ?_; rotate_left
     ·rintro _ ⟨s1, s2⟩; go_simp; (try with_reducible rfl)
     simp only [Act.put, zz]
     refine tk (v := ?_) 2 rfl ?_ ?_; rotate_left
     ·rintro _ ⟨s1, s2⟩; go_simp; (try with_reducible rfl)
     simp only [Act.put, zz]
     refine tk (v := ?_) 3 rfl ?_ ?_; rotate_left
     ·rintro _ ⟨s1, s2⟩; go_simp; (try with_reducible rfl)
     simp only [Act.put, zz]
     refine tk (v := ?_) 4 rfl ?_ ?_; rotate_left
     ·rintro _ ⟨s1, s2⟩; go_simp; (try with_reducible rfl)
     simp only [Act.put, zz]
     refine tk (v := ?_) 5 rfl ?_ ?_; rotate_left
     ·rintro _ ⟨s1, s2⟩; go_simp; (try with_reducible rfl)
     simp only [Act.put, zz]
     refine tk (v := ?_) 6 rfl ?_ ?_; rotate_left
     ·rintro _ ⟨s1, s2⟩; go_simp; (try with_reducible rfl)
     simp only [Act.put, zz]
     refine tk (v := ?_) 7 rfl ?_ ?_; rotate_left
     ·rintro _ ⟨s1, s2⟩; go_simp; (try with_reducible rfl)
     simp only [Act.put, zz]
     refine tk (v := ?_) 8 rfl ?_ ?_; rotate_left
     ·rintro _ ⟨s1, s2⟩; go_simp; (try with_reducible rfl)
     simp only [Act.put, zz]
     refine tk (v := ?_) 9 rfl ?_ ?_; rotate_left
     ·rintro _ ⟨s1, s2⟩; go_simp; (try with_reducible rfl)
     simp only [Act.put, zz]
     refine tk (v := ?_) 10 rfl ?_ ?_; rotate_left
     ·rintro _ ⟨s1, s2⟩; go_simp; (try with_reducible rfl)
     simp only [Act.put, zz]
     refine rd 11 rfl fun K hK => ?_
     go_simp
     go_at_call 30
     refine (labCompare_spec X0 0 _ 91 _ _ yP P HX.out.2.2.1 HX.out.2.2.2.1 hy1000 HX.out.2.2.2.2.1).mono ?_
     rintro e w7 ⟨rfl, hk7⟩
     have hb6' := hb6
     have t1 : w7.cell? ⟨b6, o6 + N1 * 5, none⟩ = some (.slice ya yP.length yc) := (hk7.cell hb6 (by simp)).trans d1
     have t2 : w7.cell? ⟨q, 0, none⟩ = some (.slice a5 P.length c5) := (hk7.cell lX (by simp)).trans d2
     have HK7 := Lib.hid (HX.out.2.1.trans hk7)
     clear hk7
     go_simp
     refine hK.out _ _ ⟨t1, t2⟩ (fun hS => ?_)
     clear hK K
     try simp only [Act.put, zz]
     refine tk (v := ?_) 12 rfl ?_ ?_; rotate_left
     ·rintro _ ⟨s1, s2⟩; go_simp; (try with_reducible rfl)
     simp only [Act.put, zz]
     refine tk (v := ?_) 13 rfl ?_ ?_; rotate_left
     ·rintro _ ⟨s1, s2⟩; go_simp; (try with_reducible rfl)
     simp only [Act.put, zz]
     refine wpAnyH_done (by kernel_rfl) ?_ _
     clear hS d1 d2 t1 t2
     go_wp2_with fail
     go_meet
     case rel => exact ⟨rfl, HK7.out⟩
   case rest =>
    obtain ⟨rfl, hk7⟩ := hcut
    have n7 := hk7.at_ H6.out.1 (by simp)
    have hE7 := H6.out.2.2.1.keep hk7
    have hr7 := hk7.row H6.out.2.1 (by simp)
    have H7 := Lib.hid (And.intro hE7 (And.intro hr7 (H6.out.2.2.2.trans hk7)))
    have hsz7 := H7.out.2.2.size
    clear cx lx hE7 hr7 hk7
    have cx := cells_at n7
    have lx := lt_of_at n7
    clear n7
    have hown7 : wc.ownsRow W.heap.size 122 5 (.slice av N cv) N (E.flatMap encE) := by rw [HN.out] at H7 ⊢; exact H7.out.1.1
    have Hown := Lib.hid hown7
    clear hown7
    go_wp2_with (at_builtin; refine wpList_append_own _ rfl (.tmp 71) (.tmp 73) 118 rfl W.heap.size 122 ie _ 5 56 Tryz.underlying118 hie hz0 hz1 hz2 rfl (by decide) (.slice av N cv) N (E.flatMap encE) rfl (Hown.out.alloc _) ⟨wc.heap.size, 0, none⟩ 1 1 [.slice a5 P.length c5, .int .i64 (f : Nat), .int .i64 (n : Nat), .int .i64 (mn : Nat), .int .i64 (mx : Nat)] rfl rfl (news_of (heap_new wc _)) (by simp [Value.oneCell']) (by simp only [maxLen]; omega) (by omega) (by rw [World.size_alloc]; omega) ?_; intro v9 w9 hown9 hgrow9 hnil9; clear hnil9; obtain ⟨ao9, cp9, rfl, -, -, -⟩ := row_slice hown9; skip)
    have kN : Keeps [] wc (wc.alloc (.cells #[.slice a5 P.length c5, .int .i64 (f : Nat), .int .i64 (n : Nat), .int .i64 (mn : Nat), .int .i64 (mx : Nat)] 122)) := (Keeps.refl [] wc).alloc _
    have hgr := keeps_rowM hgrow9
    have hk9 := keeps_own (H7.out.2.2.trans kN) hgrow9 (fun g hg => (World.ownsRow.lt Hown.out g hg).1)
    have hE9 : EntrAt W.heap.size w9 (.slice ao9 (N + 1) cp9) (E ++ [(.slice a5 P.length c5, (P, f, n, mn, mx))]) := by
     refine ⟨?_, fun e he => ?_⟩
     ·have h1 : (E ++ [((.slice a5 P.length c5 : Value), ((P, f, n, mn, mx) : EntP))]).length = N + 1 := by rw [List.length_append, ← HN.out]; rfl
      have h2 : (E ++ [((.slice a5 P.length c5 : Value), ((P, f, n, mn, mx) : EntP))]).flatMap encE = E.flatMap encE ++ [.slice a5 P.length c5, .int .i64 (f : Nat), .int .i64 (n : Nat), .int .i64 (mn : Nat), .int .i64 (mx : Nat)] := by rw [List.flatMap_append]; rfl
      rw [h1, h2]
      exact hown9
     ·rcases List.mem_append.1 he with he | he
      ·exact hgr.row ((H7.out.1.keep kN).2 e he) (rows_ne2 (Hown.out.alloc _) ((H7.out.1.keep kN).2 e he) (by decide))
      ·obtain rfl : e = _ := by simpa using he
       have h3 := kN.row H7.out.2.1 (by simp)
       exact row_base (hgr.row h3 (rows_ne2 (Hown.out.alloc _) h3 (by decide))) (Nat.zero_le _)
    have H9 := Lib.hid (And.intro hE9 hk9)
    clear hown9 hgrow9 kN hgr hk9 hE9
    go_wp2_with fail
    go_roundg (EP.length - (j + 1))
    case measure => have := Hg.out.1; have := Hg.out.2.2.2.2.2.2.1; omega
    case rel =>
     have hm := Hg.out.2.2.2.2.2.1
     have hlt := Hg.out.2.2.2.2.2.2.1
     refine ⟨j + 1, hlt, rfl, rfl, by congr 1; omega, by rw [Hg.out.2.2.2.2.1], ⟨_, H9.out.1, by rw [List.length_append, Hg.out.2.2.2.2.2.2.2.2.1]; rfl, ?_⟩, H9.out.2⟩
     rw [List.map_append, Hg.out.2.2.2.2.2.2.2.2.2.1, Hg.out.2.2.2.1]
     rfl
  ·have hjn : j = EP.length := by omega
   have hm0 : m = 0 := by omega
   have htR : t0 = ⟨#[]⟩ := by rw [ht0, hjn, List.drop_length]; rfl
   have htk : EP.take j = EP := List.take_of_length_le (by omega)
   rw [htk] at hEe
   rw [htR]
   subst hm0
   have Hr := Lib.hid (And.intro hE (And.intro hkr hEe))
   clear hgk hE hkr ht0 htk htR hm hEe hEl hjn
   rw [show ((0 : Nat) : Int) = 0 from rfl]
   go_wp2_with fail
   go_ret2
   exact ⟨_, E, rfl, ⟨row_base Hr.out.1.1 H3.out.size, Hr.out.1.2⟩, Hr.out.2.2, H3.out.trans Hr.out.2.1⟩
end Go.Proofs.YtgcfkhcogllgfaaGreatDoor
