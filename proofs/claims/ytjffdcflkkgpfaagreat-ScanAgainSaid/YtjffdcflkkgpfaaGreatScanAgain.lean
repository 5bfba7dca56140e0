/-
  ScanAgain answers true for all lists of things and every tick, and leaves all memory that was there as it was.
  No condition: every input that can be read, where the library's variable stands.
-/
import Derived.Test.YtjffdcflkkgpfaaGreatFill19
namespace Go.Proofs.YtjffdcflkkgpfaaGreat
open Go Go.RowKit Go.Conc

theorem put_keys {α : Type} {n : ByteArray} {v : α} : ∀ {m : List (ByteArray × α)}, (m.map (·.1)).Nodup → ((put m n v).map (·.1)).Nodup ∧ ∀ x ∈ (put m n v).map (·.1), x = n ∨ x ∈ m.map (·.1)
  | [], _ => by simp [put]
  | (k, x) :: m, h => by
    rw [List.map_cons, List.nodup_cons] at h
    obtain ⟨i1, i2⟩ := put_keys (n := n) (v := v) h.2
    unfold put
    by_cases e : n = k
    · rw [if_pos e]
      subst e
      refine ⟨?_, fun y hy => ?_⟩
      · rw [List.map_cons, List.nodup_cons]; exact h
      · rw [List.map_cons, List.mem_cons] at hy
        exact hy.imp id (fun h => by simp [h])
    · rw [if_neg e]
      refine ⟨?_, fun y hy => ?_⟩
      · rw [List.map_cons, List.nodup_cons]
        refine ⟨fun hm => ?_, i1⟩
        rcases i2 _ hm with hm | hm
        · exact e hm.symm
        · exact h.1 hm
      · rw [List.map_cons, List.mem_cons] at hy
        rcases hy with hy | hy
        · exact .inr (by simp [hy])
        · rcases i2 _ hy with hy | hy
          · exact .inl hy
          · exact .inr (by simp [hy])

def again (o : BktS) (t : Nat) : BktS := put o indexB (encR o t, (t : Int))

def blkO2 (o : BktS) : List BlkS := ofN (waitsObj o) (waitsObj o).length

def textO (o : BktS) : ByteArray := ⟨(frameL 3 (lstL 0 ((sortT (blkO2 o)).map (·.1)) (marksOf (blkO2 o)))).toArray⟩

theorem blks_end {o : BktS} (h : RunOk o) (t : Int) : blksS (stS o t (waitsOf o).length) = blkO2 o := by
  unfold blksS blkO2
  rw [gotS_end h.nodup t]

theorem lstL_few {at_ : Nat} {L : List MetaS} {M : PartsM} (ok : ListOk at_ L M) : (lstL at_ L M).length ≤ 50020 := by
  have l1 := lebL_len10 (v := at_) (by have := ok.at_; omega)
  have l2 := lebL_len10 (v := L.length) (by have := ok.few; omega)
  have l3 := restL_len ok 0
  have e : lstL at_ L M = lebL at_ ++ (lebL L.length ++ restL L M 0) := rfl
  rw [e]
  simp only [List.length_append]
  omega

theorem encR_size {o : BktS} (h : RunOk o) {t : Nat} (ht : t ≤ 1099511627776) : (encR o t).size ≤ 100000 := by
  have hof := (h.scan t (waitsOf o).length).of (tn := t) ht
  show (frameL 3 (lstL t ((sortT (blksS (stS o t (waitsOf o).length))).map (·.1)) (marksOf (blksS (stS o t (waitsOf o).length))))).length ≤ 100000
  have h1 := lstL_few hof.list
  rw [frameL_len]
  have := lebL_len10 (v := (lstL t ((sortT (blksS (stS o t (waitsOf o).length))).map (·.1)) (marksOf (blksS (stS o t (waitsOf o).length)))).length) (by omega)
  omega

structure AgOk (o : BktS) : Prop where
  run : RunOk o
  big : ∀ n, (obOr (look o n)).1.size ≤ 1000000

theorem AgOk.again {o : BktS} (h : AgOk o) (hl : o.length ≤ 15) {t : Nat} (ht : t ≤ 1099511627776) : AgOk (again o t) ∧ waitsObj (again o t) = waitsObj o := by
  have hk := put_keys (n := indexB) (v := (encR o t, (t : Int))) h.run.nodup
  have hw := waitsObj_put h.run.nodup index_wait (encR o t, (t : Int)) hk.1
  refine ⟨⟨⟨hk.1, ?_, fun p hp => ?_, fun n hn => ?_⟩, fun n => ?_⟩, hw⟩
  · have := put_leF indexB (encR o t, (t : Int)) o
    unfold Go.Proofs.YtjffdcflkkgpfaaGreat.again
    omega
  · rcases mem_put hp with rfl | hp
    · show indexB.size ≤ 40
      decide
    · exact h.run.name p hp
  · have h1 : (n, dataOf (Go.Proofs.YtjffdcflkkgpfaaGreat.again o t) n) ∈ waitsObj (Go.Proofs.YtjffdcflkkgpfaaGreat.again o t) := List.mem_map.2 ⟨n, hn, rfl⟩
    have h2 : (n, dataOf (Go.Proofs.YtjffdcflkkgpfaaGreat.again o t) n) ∈ waitsObj o := by rw [← hw]; exact h1
    obtain ⟨x, hx, he⟩ := List.mem_map.1 h2
    injection he with e1 e2
    rw [← e2]
    exact h.run.data x hx
  · unfold Go.Proofs.YtjffdcflkkgpfaaGreat.again
    rw [look_put]
    split
    · have := encR_size h.run ht
      show (encR o t).size ≤ 1000000
      omega
    · exact h.big n

def oK (o : BktS) (a : Nat) : Nat → BktS
  | 0 => o
  | k + 1 => again (oK o a k) (a + k)

theorem oK_ok {o : BktS} (h : AgOk o) (hl : o.length ≤ 15) {a : Nat} (ha : a ≤ 1000) : ∀ k, k ≤ 1 → AgOk (oK o a k) ∧ waitsObj (oK o a k) = waitsObj o
  | 0, _ => ⟨h, rfl⟩
  | 1, _ => by
    have := h.again hl (t := a + 0) (by omega)
    exact this

theorem textO_of {o p : BktS} (h : waitsObj o = waitsObj p) : textO o = textO p := by
  unfold textO blkO2
  rw [h]

theorem fill_agOk {L : List ObjS} (hl : L.length ≤ 15) (hs : ∀ p ∈ L, p.1.size ≤ 40 ∧ p.2.size ≤ 5000) (hn : ((fillN L L.length).map (·.1)).Nodup) : AgOk (fillN L L.length) where
  run := {
    nodup := hn
    len := (fill_bktOk hl hs).len
    name := (fill_bktOk hl hs).name
    data := fun n hn => by
      have hm := (waitsOf_mem hn).1
      unfold dataOf obOr
      cases hl : look (fillN L L.length) n with
      | none => exact Nat.zero_le _
      | some x => exact (hs _ ((fillN_ok L L.length).2 _ (look_mem hl)).1).2 }
  big := (fill_bktOk hl hs).data

def InRel (w w2 : World) (b f c mb B ub q gb : Nat) (o : BktS) (t k : Nat) (vt : Value) (TX : ByteArray) (gk : Nat) (u10 : Value) (wr : World) : Prop :=
  ∃ j, j ≤ (waitsOf o).length + 2 ∧ gk = (waitsOf o).length + 2 - j ∧ u10 = .int .i64 j ∧ RunAt wr b f c mb B ub q gb o t j ∧ wr.ownsRow w2.heap.size 9 1 vt k ((List.replicate k TX).flatMap encS1m) ∧ Keeps [] w wr ∧ w2.heap.size ≤ wr.heap.size

def AgRel (w w2 : World) (b f c mb : Nat) (o : BktS) (a : Nat) (TX : ByteArray) (gk : Nat) (u7 u8 : Value) (wr : World) : Prop :=
  ∃ k, k ≤ 2 ∧ gk = 2 - k ∧ u8 = .int .i64 k ∧ BucketAt wr b f c mb false [] (oK o a k) ∧ wr.ownsRow w2.heap.size 9 1 u7 k ((List.replicate k TX).flatMap encS1m) ∧ Keeps [] w wr ∧ w2.heap.size ≤ wr.heap.size

theorem rep_snoc (k : Nat) (x : ByteArray) : List.replicate (k + 1) x = List.replicate k x ++ [x] := List.replicate_succ'

set_option linter.unusedSimpArgs false in
set_option maxRecDepth 100000 in
set_option maxHeartbeats 4000000 in
theorem scanAgain_walk (w : World) (hv : LibVar w) (v : Value) (O : List ThingL) (hO : SliceArg 13 encThing w v O) (at_ : Int) :
    Calls Tryz.prog 4 #[v, .int .i64 at_] w fun e w' => e = .returned (.bool true) ∧ Keeps [] w w' := by
  have Hv := Lib.hid hv
  have HO := Lib.hid hO
  have Haw := Lib.hid (awake19_spec w hv)
  obtain ⟨ist, his, hzs0, hzs1, hzs2⟩ := info_parts infoStrM
  obtain ⟨a, ha⟩ : ∃ m : Nat, m = (min (max at_ 0) 1000).toNat := ⟨_, rfl⟩
  have qa : min (max at_ 0) 1000 = (a : Int) := by omega
  have hal : a ≤ 1000 := by omega
  obtain ⟨av, cv, rfl, -, -⟩ := hO
  clear ha hv
  go_enter Tryz.func4, Tryz.ntmps4
  go_wp2_with fail
  refine Haw.out.mono ?_
  rintro e w1 ⟨rfl, hk1⟩
  have Hf := Lib.hid (filled19_spec w1 _ O (HO.out.keep hk1))
  have Hk1 := Lib.hid hk1
  clear hk1 Haw
  go_wp2_with fail
  refine Hf.out.mono ?_
  rintro e w2 ⟨b, f, c, mb, u, rfl, hb2, -, hk2, l1, l2, l3, l4⟩
  obtain ⟨o, ho⟩ : ∃ o, o = fillN (objsL (O.take 15)) (objsL (O.take 15)).length := ⟨_, rfl⟩
  rw [← ho] at hb2
  have hlo := objsL_ok (O.take 15)
  have hl15 : (objsL (O.take 15)).length ≤ 15 := by have := hlo.1; rw [List.length_take] at this; omega
  have hol : o.length ≤ 15 := by rw [ho]; have := (fillN_ok (objsL (O.take 15)) (objsL (O.take 15)).length).1; omega
  have hnd : (o.map (·.1)).Nodup := by have := hb2.map.nodup; rwa [keys_enc] at this
  have hok : AgOk o := by rw [ho] at hnd ⊢; exact fill_agOk hl15 hlo.2.2 hnd
  have Hok := Lib.hid hok
  obtain ⟨TX, hTX⟩ : ∃ T, T = textO o := ⟨_, rfl⟩
  have HTX := Lib.hid hTX
  have hlt2 := hb2.lt
  have n3 := heap_new w2 (.cells #[] 9)
  have k3 : Keeps [] w2 (w2.alloc (.cells #[] 9)) := (Keeps.refl [] w2).alloc _
  have hr3 : (w2.alloc (.cells #[] 9)).ownsRow w2.heap.size 9 1 (.slice (some ⟨w2.heap.size, 0, none⟩) 0 0) 0 [] := ⟨rfl, .inr ⟨w2.heap.size, 0, #[], rfl, Nat.le_refl _, n3, Nat.le_refl _, by simp [maxLen], by simp, by simp⟩⟩
  have hww := Hk1.out.size
  have H3 := Lib.hid (And.intro (k3.keep_bucket hb2) (And.intro hr3 (And.intro ((Hk1.out.trans hk2).trans k3) k3.size)))
  clear ho hlo hl15 hnd hok hTX n3 k3 hr3 hb2 hk2 Hf
  go_upto_region 8 with fail
  generalize hW3 : w2.alloc (.cells #[] 9) = W3 at H3 ⊢
  clear hW3
  go_wp2_with fail
  go_loopg [7, 8] 2 (AgRel w w2 b f c mb o a TX)
  case atStart => exact ⟨0, by decide, rfl, rfl, H3.out.1, H3.out.2.1, H3.out.2.2.1, H3.out.2.2.2⟩
  case round =>
    obtain ⟨k, hk, hgk, rfl, hbk, hrow, hkr, hw2r⟩ := hrel
    have Hg := Lib.hid hgk
    clear H3 hgk
    obtain ⟨an, cn, rfl, -, -, -⟩ := row_slice hrow
    by_cases hlt : k < 2
    · have hlt' : (k : Int) < 2 := by omega
      obtain ⟨hagk, hwk⟩ := oK_ok Hok.out hol hal k (by omega)
      have hnx : oK o a (k + 1) = again (oK o a k) (a + k) := rfl
      obtain ⟨p, hp⟩ : ∃ p, p = oK o a k := ⟨_, rfl⟩
      rw [← hp] at hbk hagk hwk hnx
      obtain ⟨t, ht⟩ : ∃ t, t = a + k := ⟨_, rfl⟩
      rw [← ht] at hnx
      have Hp := Lib.hid (And.intro hagk (And.intro hwk hnx))
      have hn16 : (waitsOf p).length ≤ 16 := Nat.le_trans (waitsOf_len p) hagk.run.len
      have htk : t ≤ 1099511627776 := by omega
      have hws : IntKind.i64.wrap ((a : Int) + (k : Int)) = (t : Int) := by rw [IntWalk.i64_in _ (by omega)]; omega
      clear ht
      have H := Lib.hid (And.intro hbk (And.intro hrow hkr))
      have hgb := World.ownsRow.lt hrow
      have hltb := hbk.lt
      have hwr2 := hkr.size
      have Hw2r := Lib.hid hw2r
      clear hagk hwk hnx hp hbk hrow hkr
      go_wp2_with fail
      refine (newUpdate_spec wr).mono ?_
      rintro e w4 ⟨ub, q, gb, rfl, hu, hS, hk4, hub, hne⟩
      obtain ⟨B, hB⟩ : ∃ n, n = wr.heap.size := ⟨_, rfl⟩
      have hvB : 0 < B := by
        rw [hB]
        exact (Hv.out.same H.out.2.2).lt
      rw [← hB] at hltb hS hub hgb hwr2
      have hrun : RunAt w4 b f c mb B ub q gb p t 0 := by
        refine ⟨?_, ?_, hS⟩
        · rw [show bktJ p t 0 = p from if_neg (by omega)]
          exact hk4.keep_bucket H.out.1
        · rw [decide_eq_false (by omega)]
          exact hu
      have hqB := hS.1
      have hgB := hS.2.1
      have H4 := Lib.hid (And.intro hrun (And.intro (hk4.row H.out.2.1 (by simp)) (And.intro (H.out.2.2.trans hk4) (Nat.le_trans Hw2r.out hk4.size))))
      have Hlow := Lib.hid (fun wz (hk : Keeps [] w wz) => (⟨hltb, ⟨hub, hne⟩, Hv.out.same hk, hvB⟩ : RunLow wz b f c mb B ub q gb))
      have Hgb := Lib.hid hgb
      clear hu hS hk4 hrun hB H hgb
      go_wp2_with fail
      go_loopg [10] ((waitsOf p).length + 2) (InRel w w2 b f c mb B ub q gb p t k (.slice an k cn) TX)
      case atStart => exact ⟨0, Nat.zero_le _, rfl, rfl, H4.out.1, H4.out.2.1, H4.out.2.2.1, H4.out.2.2.2⟩
      case round =>
        obtain ⟨j, hj, hgj, rfl, hrun, hrow, hkr, hw2j⟩ := hrel
        have Hgj := Lib.hid hgj
        clear H4 hgj
        have hj40 : (j : Int) < 40 := by omega
        have Hd := Lib.hid (updDone_spec wr ub q _ hrun.2.1)
        by_cases hltj : j < (waitsOf p).length + 2
        · rw [decide_eq_false (show ¬ (waitsOf p).length + 2 ≤ j by omega)] at Hd
          have Hs := Lib.hid (updRun_spec wr b f c mb B ub q gb p t 5 j hrun (Hlow.out wr hkr) Hp.out.1.run Hp.out.1.big htk (by omega))
          have Hkr := Lib.hid (And.intro hrow hkr)
          clear hrun hrow hkr
          go_wp2_with fail
          refine Hd.out.mono ?_
          rintro e w5 ⟨rfl, rfl⟩
          go_wp2_with fail
          refine Hs.out.mono ?_
          rintro e w6 ⟨rfl, hr6, hk6⟩
          have hrow6 := hk6.row Hkr.out.1 (fun g hg hm => by
            have h1 := (World.ownsRow.lt Hkr.out.1 g hg).1
            have h2 := (Hgb.out g hg).2
            simp only [List.mem_cons, List.not_mem_nil, or_false] at hm
            omega)
          have H6 := Lib.hid (And.intro hr6 (And.intro hrow6 (Hkr.out.2.after hk6 (fun x hx => .inr (by simp only [List.mem_cons, List.not_mem_nil, or_false] at hx; omega)))))
          have hw6 : w2.heap.size ≤ w6.heap.size := Nat.le_trans hw2j hk6.size
          clear hr6 hk6 hrow6 Hd Hs
          go_wp2_with fail
          go_roundg ((waitsOf p).length + 2 - (j + 1))
          case measure => have := Hgj.out; omega
          case rel => exact ⟨j + 1, by omega, rfl, by go_num, H6.out.1, H6.out.2.1, H6.out.2.2, hw6⟩
        · obtain rfl : j = (waitsOf p).length + 2 := by omega
          rw [decide_eq_true (Nat.le_refl _)] at Hd
          obtain ⟨hb, -, -⟩ := hrun
          rw [show bktJ p t ((waitsOf p).length + 2) = again p t from if_pos (Nat.le_refl _)] at hb
          have hlk : look (again p t) indexB = some (encR p t, (t : Int)) := by unfold again; rw [look_put, if_pos rfl]
          have Hpk := Lib.hid (peek_spec wr b f c mb false [] _ hb indexB)
          rw [hlk] at Hpk
          have hof := (Hp.out.1.run.scan (t : Int) (waitsOf p).length).of (tn := t) htk
          obtain ⟨LL, hLL⟩ : ∃ L, L = (sortT (blkO2 p)).map (·.1) := ⟨_, rfl⟩
          obtain ⟨MM, hMM⟩ : ∃ M, M = marksOf (blkO2 p) := ⟨_, rfl⟩
          have hbe := blks_end Hp.out.1.run (t : Int)
          rw [hbe] at hof
          have hlok : ListOk t LL MM := by rw [hLL, hMM]; exact hof.list
          obtain ⟨enc, hen⟩ : ∃ e, e = encR p t := ⟨_, rfl⟩
          have hed : enc.data.toList = frameL 3 (lstL t LL MM) := by
            rw [hen, hLL, hMM, ← hbe]
            rfl
          have htx : (⟨(frameL 3 (lstL 0 LL (tookM MM LL))).toArray⟩ : ByteArray) = TX := by
            rw [lstL_took, HTX.out, ← textO_of Hp.out.2.1, hLL, hMM]
            rfl
          have Hdc := Lib.hid (fun W => listDec_spec W enc t LL MM hed hlok)
          rw [← hen] at Hpk
          have HE := Lib.hid (And.intro hb (And.intro hrow (And.intro hkr (And.intro hlok htx))))
          clear hltj hb hlk hof hbe hLL hMM hlok hen hed htx hrow hkr
          dsimp only [obOr, Option.getD, Option.isSome] at Hpk
          generalize (waitsOf p).length + 2 = nst at hj40 Hgj ⊢
          go_wp2_with fail
          refine Hd.out.mono ?_
          rintro e w5 ⟨rfl, rfl⟩
          go_wp2_with fail
          refine Hpk.out.mono ?_
          rintro e w6 ⟨rfl, hk6⟩
          have Hk6 := Lib.hid hk6
          clear hk6 Hpk Hd
          go_wp2_with fail
          refine (Hdc.out _).mono ?_
          rintro e w7 ⟨vm, mb7, rfl, hm7, hmp7, hk7⟩
          obtain ⟨am, cm, rfl⟩ := hm7.form
          obtain ⟨sl, hsl⟩ : ∃ n, n = LL.length := ⟨_, rfl⟩
          rw [← hsl] at hm7 ⊢
          have ka : Keeps [] w7 (w7.alloc (.cells #[.int .i64 (t : Int), .slice am sl cm, .map (some mb7)] 32)) := (Keeps.refl [] w7).alloc _
          have na := heap_new w7 (.cells #[.int .i64 (t : Int), .slice am sl cm, .map (some mb7)] 32)
          obtain ⟨lb, hlb⟩ : ∃ n, n = w7.heap.size := ⟨_, rfl⟩
          rw [← hlb] at na
          have Hlb := Lib.hid hlb
          have k57 := Hk6.out.trans hk7
          have hz5 := HE.out.2.2.1.size
          have hz7 := k57.size
          have hlbw : w.heap.size ≤ lb ∧ wr.heap.size ≤ lb ∧ w7.heap.size ≤ lb := by omega
          have H7 := Lib.hid (And.intro na (And.intro ka (And.intro hm7 (And.intro hmp7 k57))))
          clear hm7 hmp7 hk7 ka na k57 hlb hsl Hdc Hk6
          go_upto_region 19 with fail
          rw [← Hlb.out]
          generalize w7.alloc (.cells #[.int .i64 (t : Int), .slice am sl cm, .map (some mb7)] 32) = W8 at H7 ⊢
          have cl := cells_at H7.out.1
          have fl := free_at H7.out.1
          have ll := lt_of_at H7.out.1
          have n9 : (W8.setCell ⟨lb, 0, none⟩ (.int .i64 0)).heap[lb]? = some (.cells #[.int .i64 0, .slice am sl cm, .map (some mb7)] 32 (0, 0)) := (heap_cell_same (i := 0) H7.out.1 _).trans (by simp)
          have k89 : Keeps [lb] W8 (W8.setCell ⟨lb, 0, none⟩ (.int .i64 0)) := (Keeps.refl [lb] W8).setCell (.inl (by simp)) _
          have k79 : Keeps [] w7 (W8.setCell ⟨lb, 0, none⟩ (.int .i64 0)) := H7.out.2.1.after k89 (fun x hx => .inr (by simp only [List.mem_singleton] at hx; omega))
          have H9 := Lib.hid (And.intro n9 (And.intro k79 (H7.out.2.2.2.2.trans k79)))
          clear n9 k89 k79
          go_upto_region 22 with fail
          clear cl fl ll
          generalize W8.setCell ⟨lb, 0, none⟩ (.int .i64 0) = W9 at H9 ⊢
          have Hen := Lib.hid (by
            have h := listEnc_spec w6.heap.size W9 (.slice am sl cm) LL 0 mb7 (tookM MM LL) (H7.out.2.2.1.same H9.out.2.1) HE.out.2.2.2.1.ok (H7.out.2.2.2.1.keep H9.out.2.1 (by simp)) (fun id t h => HE.out.2.2.2.1.took.mark h) (by decide) HE.out.2.2.2.1.few
            rw [HE.out.2.2.2.2, show ((0 : Nat) : Int) = 0 from rfl] at h
            exact h)
          have cl := cells_at H9.out.1
          have ll := lt_of_at H9.out.1
          go_wp2_with fail
          clear cl ll
          refine Hen.out.mono ?_
          rintro e w10 ⟨rfl, hk10⟩
          have k510 := H9.out.2.2.trans hk10
          have H10 := Lib.hid (And.intro (k510.keep_bucket HE.out.1) (And.intro (k510.row HE.out.2.1 (by simp)) (HE.out.2.2.1.trans k510)))
          have hw2z := (World.ownsRow.lt HE.out.2.1)
          have hz10 := k510.size
          have hb10 := H10.out.1.lt
          have h2w : w2.heap.size ≤ w10.heap.size := by omega
          have hvl : ∀ g, (Value.slice an k cn).ownBlock = some g → w.heap.size ≤ g := fun g hg => by have := (World.ownsRow.lt H10.out.2.1 g hg).1; omega
          have Hvl := Lib.hid hvl
          clear hk10 k510 hvl hw2z Hen H9 H7
          go_wp2_with (at_builtin; refine wpList_append_own _ rfl (.tmp 70) (.tmp 73) 25 rfl w2.heap.size 9 ist _ 1 16 Tryz.underlying25 his hzs0 hzs1 hzs2 rfl (by decide) (.slice an k cn) k ((List.replicate k TX).flatMap encS1m) rfl (H10.out.2.1.alloc _) ⟨w10.heap.size, 0, none⟩ 1 1 [.string TX] rfl rfl (news_of (heap_new w10 _)) (by simp [Value.oneCell']) (by simp only [maxLen]; omega) (by omega) (by simp; omega) ?_; intro v8 w8 hown8 hgrow8 hnil)
          clear hnil
          have ka : Keeps [] w10 (w10.alloc (.cells #[.string TX] 9)) := (Keeps.refl [] w10).alloc _
          have kg := keeps_rowM hgrow8
          have hrowa := H10.out.2.1.alloc (.cells #[.string TX] 9)
          have hba := ka.keep_bucket H10.out.1
          have hb8 := hba.keep kg (fun hm => by have := (World.ownsRow.lt H10.out.2.1 b (by simpa using hm)).1; omega) (fun hm => by have := (World.ownsRow.lt H10.out.2.1 f (by simpa using hm)).1; omega) (fun hm => by have := (World.ownsRow.lt H10.out.2.1 c (by simpa using hm)).1; omega) (fun hm => by have := (World.ownsRow.lt H10.out.2.1 mb (by simpa using hm)).1; omega)
          have hk8 : Keeps [] w w8 := keeps_grownM (H10.out.2.2.alloc _) hgrow8 Hvl.out
          have hw8 : w2.heap.size ≤ w8.heap.size := Nat.le_trans h2w (Nat.le_trans ka.size kg.size)
          have hown9 : w8.ownsRow w2.heap.size 9 1 v8 (k + 1) ((List.replicate (k + 1) TX).flatMap encS1m) := by
            rw [rep_snoc, List.flatMap_append]
            simpa [encS1m] using hown8
          have HX := Lib.hid (And.intro hb8 (And.intro hown9 hk8))
          clear ka kg hrowa hba hb8 hk8 hown9 hown8 hgrow8 Hvl H10
          go_roundg (2 - (k + 1))
          case measure => have := Hg.out; omega
          case rel => exact ⟨k + 1, by omega, rfl, by go_num, by rw [Hp.out.2.2]; exact HX.out.1, HX.out.2.1, HX.out.2.2, hw8⟩
    · obtain rfl : k = 2 := by omega
      obtain ⟨an2, cn2, e2, -, -, hcl⟩ := row_slice hrow
      injection e2 with e2 _ e3
      subst e2 e3
      obtain ⟨g, rfl, -, hgl, c0⟩ := hcl 0 (by decide)
      obtain ⟨g2, e2, -, -, c1⟩ := hcl 1 (by decide)
      injection e2 with e2
      injection e2 with e2 _ _
      subst e2
      have d0 : wr.cell? ⟨g, 0, none⟩ = some (.string TX) := by rw [c0]; rfl
      have d1 : wr.cell? ⟨g, 1, none⟩ = some (.string TX) := by rw [c1]; rfl
      have hse : (TX.toList == TX.toList) = true := by simp
      have HX := Lib.hid hkr
      clear hcl c0 c1 hrow hbk hkr hlt
      go_upto_region 23 with fail
      go_quiet (fail)
      rename_i nq
      have HF := Lib.hid (HX.out.drewN nq)
      go_wp2_with fail
      go_ret
      exact ⟨rfl, HF.out⟩

theorem scanAgain_law (W : World) (hv : LibVar W) (v : Value) (h : ∃ L : List ThingL, SliceArg 13 encThing W v L ∧ ∀ x ∈ L, True) (a : Int) (_ : (Lit.int .i64 a).wf = true) :
    Calls Tryz.prog 4 #[v, .int .i64 a] W fun e w' => e = .returned (.bool true) ∧ Keeps [] W w' := by
  obtain ⟨L, hs, _⟩ := h
  exact scanAgain_walk W hv v L hs a
end Go.Proofs.YtjffdcflkkgpfaaGreat
