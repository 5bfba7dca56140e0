/-
  Samples of a chunk's text (package xor): Samples; of the text of samples by rising times it gives these back.
  The package's variable widths holds what its text says (XorVar).
-/
import Derived.Test.YtgcfkhcogllgfaaGreatDoorXorE
import Derived.Test.YtgcfkhcogllgfaaGreatDoorBldS
namespace Go.Proofs.YtgcfkhcogllgfaaGreatDoor
set_option maxRecDepth 100000
set_option maxHeartbeats 4000000
set_option linter.unusedSimpArgs false
open Go Go.RowKit Go.Conc
theorem chunk_rd (L : List SmpB) {k : Nat} (h : k < L.length) : Rd (chunkX L).B (chunkX (L.take k)).B.length (smpBits (chunkX (L.take k)) L[k].1 L[k].2.toNat) := by
 obtain ⟨R, hR⟩ := chunkX_cut L h
 exact ⟨_, R, hR, rfl⟩
theorem eyeNext_spec (w : World) (hX : XorVar w) (q p : Nat) (s : ByteArray) (L : List SmpB) (hqp : q ≠ p) (hxp : 4 ≠ p) (hs : s.data.toList = packB (chunkX L).B) (hok : SmpsOk L) (hL : L.length ≤ 120) (k : Nat) (hk : k < L.length) (x : Int × Int) (hx : x = L[k])
  (h : EyeAt w p s (chunkX L).B.length (chunkX (L.take k)).B.length) (hq : XEyeAt w q p (chunkX (L.take k)).T (chunkX (L.take k)).V (chunkX (L.take k)).st (chunkX (L.take k)).l (chunkX (L.take k)).w) :
  Calls Tryz.prog 119 #[.pointer (some ⟨q, 0, none⟩), .bool (decide (k = 0))] w fun e w' => e = .returned (.tuple #[.agg #[.int .i64 x.1, .int .u64 x.2], .int .i64 0]) ∧ EyeAt w' p s (chunkX L).B.length (chunkX (L.take (k + 1))).B.length ∧ XEyeAt w' q p (chunkX (L.take k)).T (chunkX (L.take k)).V (chunkX (L.take (k + 1))).st (chunkX (L.take (k + 1))).l (chunkX (L.take (k + 1))).w ∧ Keeps [p, q] w w' := by
 have hfc := hok.facts (Nat.le_of_lt hk)
 have hsm := hok.2 L[k] (List.getElem_mem hk)
 have hrd := chunk_rd L hk
 have hlw := (chunkX_ok (L := L) (fun x hx => (hok.2 x hx).2.2) k (Nat.le_of_lt hk)).2.1
 have hBl : (chunkX L).B.length < 900000000 := by
  have := (hok.facts (Nat.le_refl L.length)).2.2.1
  rw [List.take_length] at this
  omega
 have hst := chunkX_st (L := L) hok.1 (fun x hx => ⟨(hok.2 x hx).1, (hok.2 x hx).2.1⟩) k (Nat.le_of_lt hk)
 rw [take_push hk, chunkX_push]
 rw [← hx] at hsm hrd ⊢
 obtain ⟨t, y⟩ := x
 dsimp only at hsm hrd ⊢
 obtain ⟨tn, rfl⟩ : ∃ tn : Nat, t = (tn : Int) := ⟨t.toNat, by have := hsm.1; omega⟩
 obtain ⟨yn, rfl⟩ : ∃ yn : Nat, y = (yn : Int) := ⟨y.toNat, by have := hsm.2.2.1; omega⟩
 rw [show ((yn : Int)).toNat = yn by omega] at hrd ⊢
 have hyl : yn < 18446744073709551616 := by have := hsm.2.2.2; omega
 by_cases h0 : k = 0
 ·rw [decide_eq_true h0]
  have hn0 : (chunkX (L.take k)).n = 0 := by rw [hfc.1, h0]
  have hb : smpBits (chunkX (L.take k)) tn yn = bitsN tn 41 ++ bitsN yn 64 := by
   unfold smpBits
   rw [if_pos hn0]
   rfl
  have hnx : smpNext (chunkX (L.take k)) tn yn = ⟨(chunkX (L.take k)).B ++ smpBits (chunkX (L.take k)) tn yn, 1, tn, yn, (chunkX (L.take k)).st, (chunkX (L.take k)).l, (chunkX (L.take k)).w⟩ := by
   unfold smpNext
   rw [if_pos hn0]
  rw [hb] at hrd
  refine (eyeNext0_spec w q p _ _ _ _ _ tn yn _ _ s (chunkX L).B hqp hs rfl hBl (by have := hsm.2.1; omega) hyl hrd h hq).mono ?_
  rintro e w' ⟨rfl, h1, h2, h3⟩
  rw [hnx]
  refine ⟨rfl, ?_, h2, h3⟩
  show EyeAt w' p s _ ((chunkX (L.take k)).B ++ smpBits (chunkX (L.take k)) tn yn).length
  rw [hb, List.length_append, List.length_append, bitsN_length, bitsN_length, ← Nat.add_assoc]
  exact h1
 ·rw [decide_eq_false h0]
  have hn0 : (chunkX (L.take k)).n ≠ 0 := by rw [hfc.1]; exact h0
  have hT := hfc.2.2.2.2.2 hk (by omega)
  rw [← hx] at hT
  have hb : smpBits (chunkX (L.take k)) tn yn = timeB (zigN (tn - (chunkX (L.take k)).T - (chunkX (L.take k)).st)) ++ valBits (yn ^^^ (chunkX (L.take k)).V) (chunkX (L.take k)).l (chunkX (L.take k)).w := by
   unfold smpBits
   rw [if_neg hn0]
  have hnx : smpNext (chunkX (L.take k)) tn yn = ⟨(chunkX (L.take k)).B ++ smpBits (chunkX (L.take k)) tn yn, (chunkX (L.take k)).n + 1, tn, yn, tn - (chunkX (L.take k)).T, valL (yn ^^^ (chunkX (L.take k)).V) (chunkX (L.take k)).l (chunkX (L.take k)).w, valW (yn ^^^ (chunkX (L.take k)).V) (chunkX (L.take k)).l (chunkX (L.take k)).w⟩ := by
   unfold smpNext
   rw [if_neg hn0]
  rw [hb] at hrd
  refine (eyeNext1_spec w hX q p _ _ _ _ _ yn _ _ (tn : Int) s (chunkX L).B hqp hxp hs rfl hBl ⟨hst.2.2.1, hst.2.2.2.1⟩ ⟨hst.1, hst.2.1⟩ ⟨hsm.1, hsm.2.1⟩ hT.2 hfc.2.1 hyl hlw hrd h hq).mono ?_
  rintro e w' ⟨rfl, h1, h2, h3⟩
  rw [hnx]
  refine ⟨rfl, ?_, h2, h3⟩
  show EyeAt w' p s _ ((chunkX (L.take k)).B ++ smpBits (chunkX (L.take k)) tn yn).length
  rw [hb, List.length_append, List.length_append, ← Nat.add_assoc]
  exact h1
def SmRel (W : World) (q p : Nat) (s : ByteArray) (L : List SmpB) (gk : Nat) (u9 u45 : Value) (wr : World) : Prop :=
 ∃ k, k ≤ L.length ∧ gk = L.length - k ∧ u45 = .int .i64 (k : Nat) ∧ wr.ownsRow W.heap.size 50 2 u9 k ((L.take k).flatMap encSm) ∧ EyeAt wr p s (chunkX L).B.length (chunkX (L.take k)).B.length ∧
  XEyeAt wr q p (chunkX (L.take k)).T (chunkX (L.take k)).V (chunkX (L.take k)).st (chunkX (L.take k)).l (chunkX (L.take k)).w ∧ Keeps [p, q] W wr
def SmpsPost (w : World) (L : List SmpB) (e : Ending) (w' : World) : Prop := ∃ v, e = .returned (.tuple #[v, .int .i64 0]) ∧ w'.ownsRow w.heap.size 50 2 v L.length (L.flatMap encSm) ∧ Keeps [] w w'
theorem samplesX_spec (w : World) (hX : XorVar w) (whole : ByteArray) (L : List SmpB) (hw : whole = ⟨(xorL L).toArray⟩) (hok : SmpsOk L) (hL : L.length ≤ 120) :
  Calls Tryz.prog 86 #[.string whole] w (SmpsPost w L) := by
 obtain ⟨ib, hib, hz0, hz1, hz2⟩ := info_parts infoSmp
 have hBl := (hok.facts (Nat.le_refl L.length)).2.2.1
 rw [List.take_length] at hBl
 have hxl := xorL_len hL hok
 obtain ⟨nB, hnB⟩ : ∃ nB, nB = (chunkX L).B.length := ⟨_, rfl⟩
 rw [← hnB] at hBl
 obtain ⟨s1, hs1⟩ : ∃ s1 : ByteArray, s1 = ⟨(lebL nB ++ packB (chunkX L).B).toArray⟩ := ⟨_, rfl⟩
 obtain ⟨s2, hs2⟩ : ∃ s2 : ByteArray, s2 = ⟨(packB (chunkX L).B).toArray⟩ := ⟨_, rfl⟩
 have hwl : whole.data.toList = lebL L.length ++ (lebL nB ++ packB (chunkX L).B) := by rw [hw, hnB]; unfold xorL; simp
 have hwz : whole.size ≤ 2300 := by rw [hw]; exact hxl
 have h1z : s1.size ≤ 2300 := by
  have : whole.size = (lebL L.length).length + s1.size := by rw [← dsize, hwl, List.length_append, hs1]; rfl
  omega
 have h2z : (s2.size : Int) = ((nB : Int) + 7) / 8 := by
  have : s2.size = bytesN nB := by rw [hs2, hnB]; exact packB_length _
  rw [this]
  unfold bytesN
  omega
 have Ht1 := Lib.hid (takeMost_spec w whole (by unfold maxLen; omega) 120 (by decide))
 rw [hwl, takeM_leb (m := L.length) _ (by omega) (by decide)] at Ht1
 have Ht2 := Lib.hid (fun m => takeMost_spec (w.drewN m) s1 (by unfold maxLen; omega) 1048576 (by decide))
 have h1l : s1.data.toList = lebL nB ++ packB (chunkX L).B := by rw [hs1]
 rw [h1l, takeM_leb (m := nB) _ (by omega) (by decide)] at Ht2
 unfold takeMVals at Ht1 Ht2
 dsimp only at Ht1 Ht2
 rw [← hs1] at Ht1
 rw [← hs2] at Ht2
 have H := Lib.hid (And.intro hok (And.intro hX (And.intro hw (And.intro hnB (And.intro (show s2.data.toList = packB (chunkX L).B by rw [hs2]) (show nB ≤ 8 * s2.size by omega))))))
 clear hok hX hw hwl h1l hs1 hs2 hnB hxl
 go_enter Tryz.func86, Tryz.ntmps86
 go_wp2_with fail
 refine Ht1.out.mono ?_
 rintro e w1 ⟨rfl, m1, rfl⟩
 go_wp2_with fail
 refine (Ht2.out m1).mono ?_
 rintro e w2 ⟨rfl, m2, rfl⟩
 have k2 : Keeps [] w ((w.drewN m1).drewN m2) := ((Keeps.refl [] w).drewN _).drewN _
 generalize (w.drewN m1).drewN m2 = w2 at k2 ⊢
 have hwr7 : IntKind.i64.wrap ((nB : Int) + 7) = (nB : Int) + 7 := IntWalk.i64_in _ (by omega)
 have Hk2 := Lib.hid k2
 clear k2
 go_wp2_with fail
 refine (over_spec w2 s2 nB (by omega) H.out.2.2.2.2.2).mono ?_
 rintro e w3 ⟨p, rfl, hp3, he3, hk3⟩
 obtain ⟨q, hq⟩ : ∃ q, q = w3.heap.size := ⟨_, rfl⟩
 obtain ⟨W, hW⟩ : ∃ W, W = w3.alloc (.cells #[.pointer (some ⟨p, 0, none⟩), .int .i64 0, .int .u64 0, .int .i64 0, .int .i64 0, .int .i64 0] 226) := ⟨_, rfl⟩
 have kW : Keeps [] w3 W := by rw [hW]; exact (Keeps.refl [] _).alloc _
 have nq : W.heap[q]? = some (.cells #[.pointer (some ⟨p, 0, none⟩), .int .i64 0, .int .u64 0, .int .i64 0, .int .i64 0, .int .i64 0] 226 (0, 0)) := by rw [hW, hq]; exact heap_new w3 _
 have hlp := lt_of_at he3
 have hxl2 := H.out.2.1.lt
 have h2s := Hk2.out.size
 have hpq : q ≠ p ∧ 4 ≠ p ∧ 4 ≠ q ∧ w.heap.size ≤ p ∧ w.heap.size ≤ q := by omega
 have HW := Lib.hid (And.intro (kW.at_ he3 (by simp) : EyeAt W p s2 nB 0) (And.intro nq (And.intro ((Hk2.out.trans hk3).trans kW) hpq)))
 clear he3 hk3 kW nq hlp hxl2 h2s hpq hp3
 go_upto_region 10 with fail
 rw [← hW, ← hq]
 clear hW hq
 go_wp2_with fail
 go_loopg [9, 45] L.length (SmRel W q p s2 L)
 case atStart => exact ⟨0, Nat.zero_le _, rfl, rfl, World.ownsRow_nil _ _ _ 2, by rw [← H.out.2.2.2.1]; exact HW.out.1, HW.out.2.1, Keeps.refl _ _⟩
 case round =>
  obtain ⟨k, hk, hgk, rfl, hown, he, hq, hkr⟩ := hrel
  obtain ⟨ak, ck, rfl, -, -, -⟩ := row_slice hown
  by_cases hlt : k < L.length
  ·have hlt1 : (k : Int) < (L.length : Int) := by omega
   obtain ⟨b0, hb0⟩ : ∃ b0, b0 = decide (k = 0) := ⟨_, rfl⟩
   have hkz : ((k : Int) == 0) = b0 := by
    rw [hb0]
    by_cases h : k = 0
    ·subst h; rfl
    ·rw [decide_eq_false h, beq_eq_false_iff_ne]; omega
   obtain ⟨x, hx⟩ : ∃ x, x = L[k] := ⟨_, rfl⟩
   have hXr : XorVar wr := (H.out.2.1.same HW.out.2.2.1).keep hkr (by simp; exact ⟨HW.out.2.2.2.2.1, HW.out.2.2.2.2.2.1⟩)
   have Hn := Lib.hid (eyeNext_spec wr hXr q p s2 L HW.out.2.2.2.1 HW.out.2.2.2.2.1 H.out.2.2.2.2.1 H.out.1 hL k hlt x hx he hq)
   rw [← hb0] at Hn
   have hsm := H.out.1.2 L[k] (List.getElem_mem hlt)
   have htk := take_push hlt
   rw [← hx] at hsm htk
   obtain ⟨t, y⟩ := x
   dsimp only at Hn
   have ht1 : ¬ t > 1099511627776 := by have := hsm.2.1; dsimp only at this; omega
   have ht2 : ¬ t < 0 := by have := hsm.1; dsimp only at this; omega
   have hdis : ∀ g, (Value.slice ak k ck).ownBlock = some g → g ∉ [p, q] := fun g hg hm => by
    simp only [List.mem_cons, List.not_mem_nil, or_false] at hm
    rcases hm with rfl | rfl
    ·exact row_ne_type hown he (by decide) _ hg rfl
    ·exact row_ne_type hown hq (by decide) _ hg rfl
   have Hg := Lib.hid (And.intro hgk (And.intro hown (And.intro hkr (And.intro htk (And.intro hx (And.intro hsm hdis))))))
   clear hgk hown he hq hkr hb0 hXr hx hsm htk hdis
   go_wp2_with fail
   refine Hn.out.mono ?_
   rintro e w5 ⟨rfl, he5, hq5, hk5⟩
   obtain ⟨r, hr⟩ : ∃ r, r = w5.heap.size := ⟨_, rfl⟩
   obtain ⟨w6, hw6⟩ : ∃ w6, w6 = w5.alloc (.cells #[.int .i64 t, .int .u64 y] 50) := ⟨_, rfl⟩
   have k6 : Keeps [] w5 w6 := by rw [hw6]; exact (Keeps.refl [] _).alloc _
   have nr : w6.heap[r]? = some (.cells #[.int .i64 t, .int .u64 y] 50 (0, 0)) := by rw [hw6, hr]; exact heap_new w5 _
   have hrl : r ≠ q ∧ r ≠ p := by have := lt_of_at he5; have := lt_of_at hq5; omega
   have hown6 := k6.row (hk5.row Hg.out.2.1 Hg.out.2.2.2.2.2.2) (by simp)
   have hq6 := k6.at_ hq5 (by simp)
   have H6 := Lib.hid (And.intro (k6.at_ he5 (by simp) : EyeAt w6 p s2 (chunkX L).B.length (chunkX (L.take (k + 1))).B.length) (And.intro hq6 (And.intro hown6 (And.intro (Hg.out.2.2.1.trans (hk5.trans (k6.mono (by simp) : Keeps [p, q] w5 w6))) (And.intro nr hrl)))))
   have hsz := H6.out.2.2.2.1.size
   clear he5 hq5 hk5 k6 hown6 hrl
   go_upto_region 15 with fail
   rw [← hw6, ← hr]
   clear hw6 hr
   have cr := cells_at nr
   have lr := lt_of_at nr
   have cq := cells_at hq6
   have fq := free_at hq6
   have lq := lt_of_at hq6
   clear nr hq6
   go_upto_region 20 with fail
   have n7 : ((w6.setCell ⟨q, 1, none⟩ (.int .i64 t)).setCell ⟨q, 2, none⟩ (.int .u64 y)).heap[q]? = some (.cells #[.pointer (some ⟨p, 0, none⟩), .int .i64 t, .int .u64 y, .int .i64 (chunkX (L.take (k + 1))).st, .int .i64 ((chunkX (L.take (k + 1))).l : Nat), .int .i64 ((chunkX (L.take (k + 1))).w : Nat)] 226 (0, 0)) := by
    have h1 := heap_cell_same (i := 1) H6.out.2.1 (.int .i64 t)
    have h2 := heap_cell_same (i := 2) h1 (.int .u64 y)
    simpa using h2
   have k7 : Keeps [q] w6 ((w6.setCell ⟨q, 1, none⟩ (.int .i64 t)).setCell ⟨q, 2, none⟩ (.int .u64 y)) := ((Keeps.refl _ w6).setCell (.inl (by simp)) _).setCell (.inl (by simp)) _
   generalize (w6.setCell ⟨q, 1, none⟩ (.int .i64 t)).setCell ⟨q, 2, none⟩ (.int .u64 y) = w7 at n7 k7 ⊢
   have nr7 := k7.at_ H6.out.2.2.2.2.1 (by simp; exact H6.out.2.2.2.2.2.1)
   have hown7 := k7.row H6.out.2.2.1 (fun g hg hm => Hg.out.2.2.2.2.2.2 g hg (by simp at hm; simp [hm]))
   have H7 := Lib.hid (And.intro (k7.at_ H6.out.1 (by simp; exact Ne.symm HW.out.2.2.2.1) : EyeAt w7 p s2 (chunkX L).B.length (chunkX (L.take (k + 1))).B.length) (And.intro n7 (And.intro hown7 (H6.out.2.2.2.1.trans (k7.mono (by simp) : Keeps [p, q] w6 w7)))))
   have hsz7 := H7.out.2.2.2.size
   clear cr lr cq fq lq k7 n7 hown7
   have cr := cells_at nr7
   have lr := lt_of_at nr7
   clear nr7
   go_wp2_with (at_builtin; refine wpList_append_own _ rfl (.tmp 70) (.tmp 72) 72 rfl W.heap.size 50 ib _ 2 16 Tryz.underlying72 hib hz0 hz1 hz2 rfl (by decide) (.slice ak k ck) k ((L.take k).flatMap encSm) rfl (H7.out.2.2.1.alloc _) ⟨w7.heap.size, 0, none⟩ 1 1 [.int .i64 t, .int .u64 y] rfl rfl (news_two (heap_new w7 _)) (by simp [Value.oneCell']) (by simp only [maxLen]; omega) (by omega) (by rw [World.size_alloc]; omega) ?_; intro v9 w9 hown9 hgrow9 hnil9; clear hnil9; obtain ⟨ao9, cp9, rfl, -, -, -⟩ := row_slice hown9; skip)
   have kN : Keeps [] w7 (w7.alloc (.cells #[.int .i64 t, .int .u64 y] 50)) := (Keeps.refl [] w7).alloc _
   have hgr := keeps_row hgrow9
   have hk9 := (H7.out.2.2.2.trans (kN.mono (by simp) : Keeps [p, q] w7 _))
   have hfin : (L.take k).flatMap encSm ++ [.int .i64 t, .int .u64 y] = (L.take (k + 1)).flatMap encSm := by
    rw [Hg.out.2.2.2.1, List.flatMap_append]
    rfl
   rw [hfin] at hown9
   have he9 := hgr.at_ (kN.at_ H7.out.1 (by simp)) (fun hm => Hg.out.2.2.2.2.2.2 p (by simpa using hm) (by simp))
   have hq9 := hgr.at_ (kN.at_ H7.out.2.1 (by simp)) (fun hm => Hg.out.2.2.2.2.2.2 q (by simpa using hm) (by simp))
   have hk99 : Keeps [p, q] W w9 := hk9.after hgr (fun x hx => .inr (World.ownsRow.lt H7.out.2.2.1 x (by simpa using hx)).1)
   have H9 := Lib.hid (And.intro hown9 (And.intro he9 (And.intro hq9 hk99)))
   clear hown9 hgrow9 kN hgr hk9 he9 hq9 hk99 hfin
   go_wp2_with fail
   go_roundg (L.length - (k + 1))
   case measure => have := Hg.out.1; omega
   case rel =>
    refine ⟨k + 1, hlt, rfl, by go_num, H9.out.1, H9.out.2.1, ?_, H9.out.2.2.2⟩
    have hT : (chunkX (L.take (k + 1))).T = t ∧ ((chunkX (L.take (k + 1))).V : Int) = y := by
     rw [Hg.out.2.2.2.1, chunkX_push]
     obtain ⟨-, e2, e3, -⟩ := smpNext_n (chunkX (L.take k)) t y.toNat
     have := Hg.out.2.2.2.2.2.1.2.2.1
     exact ⟨e2, by rw [e3]; dsimp only at this; omega⟩
    have h9 := H9.out.2.2.1
    unfold XEyeAt
    rw [hT.1, hT.2]
    exact h9
  ·have hlt1 : ¬ (k : Int) < (L.length : Int) := by omega
   have hkL : L.take k = L := List.take_of_length_le (by omega)
   have hke : k = L.length := by omega
   rw [hkL] at hown
   have Hr := Lib.hid (And.intro hown (And.intro hkr hke))
   have hXr : XorVar wr := (H.out.2.1.same HW.out.2.2.1).keep hkr (by simp; exact ⟨HW.out.2.2.2.2.1, HW.out.2.2.2.2.2.1⟩)
   subst hke
   have Hof := Lib.hid (xorOf_spec wr hXr _ L (by
    obtain ⟨ao, c, e, hl, hc⟩ := (sliceFrom_row (enc := encSm) (fun _ => rfl) hown).arg
    exact ⟨ao, c, e, hl, hc⟩) hL H.out.1)
   rw [← H.out.2.2.1] at Hof
   clear hgk hown he hq hkr hkL hXr
   go_wp2_with fail
   refine Hof.out.mono ?_
   rintro e w9 ⟨rfl, hk9⟩
   have H9 := Lib.hid (And.intro (hk9.row Hr.out.1 (by simp)) (Hr.out.2.1.trans (hk9.mono (by simp) : Keeps [p, q] wr w9)))
   clear hk9
   go_wp2_with fail
   go_ret2
   have hsW := HW.out.2.2.1.size
   refine ⟨_, rfl, row_base H9.out.1 hsW, HW.out.2.2.1.after H9.out.2 (fun x hx => .inr ?_)⟩
   simp only [List.mem_cons, List.not_mem_nil, or_false] at hx
   rcases hx with rfl | rfl
   ·exact HW.out.2.2.2.2.2.2.1
   ·exact HW.out.2.2.2.2.2.2.2
end Go.Proofs.YtgcfkhcogllgfaaGreatDoor
