/-
  ListingLive answers true for all lists of blocks, and leaves all memory that was there as it was.
  No condition: every input that can be read.
-/
import Derived.Test.YthlmlneiehijkaaLists
import Derived.Test.YthlmlneiehijkaaLstArg
import Derived.Test.YthlmlneiehijkaaRely
namespace Go.Proofs.Ythlmlneiehijkaa
open Go Go.RowKit Go.Conc
open Go.Op (bytesLess)

def lastO (a : Option Addr) : OneL := ⟨⟨⟨#[]⟩, 0, 0, 0, 0, 0, none, 0, 0, a, 10, 10⟩, 1023, 0, -1⟩

def T2of (O : List OneL) : List BlkS := blkL (O ++ [lastO none])

theorem T2of_eq {O : List OneL} (a : Option Addr) (h : O.length ≤ 9) : blkL ((O ++ [lastO a]).take 10) = T2of O := by
  rw [List.take_of_length_le (by simp; omega)]
  unfold T2of blkL
  rw [List.foldl_append, List.foldl_append]
  rfl

theorem T2of_len (O : List OneL) : (T2of O).length = O.length + 1 := by unfold T2of; rw [blkL_len]; simp

theorem T2of_inv {O : List OneL} (h : O.length ≤ 9) : BlkInv10 (T2of O) := blkInv _ (by simp; omega)

theorem flat11 : ∀ l : List OneL, (l.flatMap encOneL).length = l.length * 11 := fun l => by
  induction l with
  | nil => rfl
  | cons a l ih => simp only [List.flatMap_cons, List.length_append, ih, List.length_cons, encOneL_len]; omega

theorem cells_one {w : World} {b o n c : Nat} {O : List OneL} (h : SliceArg 11 encOneL w (.slice (some ⟨b, o, none⟩) n c) O) : ∀ j u, (O.flatMap encOneL)[j]? = some u → w.cell? ((⟨b, o, none⟩ : Addr).add j) = some u := by
  intro j u hu
  have hjl : j < O.length * 11 := by
    have hq := (List.getElem?_eq_some_iff.1 hu).1
    rwa [flat11] at hq
  have hk : j / 11 < O.length := by omega
  obtain ⟨b', o', e', hlt', hcell⟩ := h.atI (j / 11) hk
  injection e' with e'
  injection e' with e1 e2 _
  subst e1 e2
  have hr := hcell (j % 11) (by omega)
  rw [← flatMap_at encOneL 11 encOneL_len O (j / 11) hk (j % 11) (by omega), show j / 11 * 11 + j % 11 = j from by omega, hu] at hr
  have hadd : (⟨b, o, none⟩ : Addr).add j = ⟨b, o + j, none⟩ := by
    unfold Addr.add
    split <;> simp_all
  rw [hadd]
  exact hr

theorem one_cells (O : List OneL) : ∀ u ∈ O.flatMap encOneL, u.oneCell' = true := by
  intro u hu
  obtain ⟨o, _, hu⟩ := List.mem_flatMap.1 hu
  simp only [encOneL, encRaw, List.cons_append, List.nil_append, List.mem_cons, List.not_mem_nil, or_false] at hu
  rcases hu with rfl | rfl | rfl | rfl | rfl | rfl | rfl | rfl | rfl | rfl | rfl <;> rfl

def M2Cut (w W : World) (T2 : List BlkS) (u : Value) (wc : World) : Prop := ∃ g c, u = .slice (some ⟨g, 0, none⟩) T2.length c ∧ MetasV w.heap.size wc (.slice (some ⟨g, 0, none⟩) T2.length c) (T2.map (·.1)) ∧ Keeps [] W wc

theorem infoOne : (Try.prog.info? 66).map (fun i => (i.zero, i.size, i.bytes)) = some (some (.agg #[.string ⟨#[]⟩, .int .i64 0, .int .i64 0, .int .i64 0, .int .i64 0, .int .i64 0, .slice none 0 0, .slice none 0 0, .int .i64 0, .int .i64 0, .int .i64 0]), 11, 128) := by kernel_rfl

def LvRel (w W : World) (lm : Nat) (Q : List MetaS) (gk : Nat) (u : Value) (wr : World) : Prop :=
  ∃ k, k ≤ Q.length ∧ gk = Q.length - k ∧ u = .int .i64 k ∧ MapAt wr lm (encMap encI (cntM ((Q.take k).map (·.id)))) ∧ Keeps [lm] W wr ∧ Keeps [] w wr

def LvRel2 (W : World) (n gk : Nat) (u : Value) (wr : World) : Prop := ∃ k, k ≤ n ∧ gk = n - k ∧ u = .int .i64 k ∧ Keeps [] W wr

set_option linter.unusedSimpArgs false in
set_option maxRecDepth 100000 in
set_option maxHeartbeats 4000000 in
theorem listingLive_walk (w : World) (v : Value) (O : List OneL) (hO : SliceArg 11 encOneL w v O) (hcap : CapOk v) :
    Calls Try.prog 5 #[v] w fun e w' => e = .returned (.bool true) ∧ Keeps [] w w' := by
  have HO := Lib.hid hO
  have Hb := Lib.hid (blocks_spec w v O hO)
  obtain ⟨T, hT⟩ : ∃ T, T = blkL (O.take 10) := ⟨_, rfl⟩
  have hinv : BlkInv10 T := by rw [hT]; exact blkInv _ (by rw [List.length_take]; omega)
  have hTl : T.length ≤ 10 := by rw [hT, blkL_len, List.length_take]; omega
  have hTO : T.length < 10 → O.length = T.length := fun h => by rw [hT, blkL_len, List.length_take] at h ⊢; omega
  rw [← hT] at Hb
  obtain ⟨av, cv, rfl, -, -⟩ := hO
  obtain ⟨_, _, _, hce, hcap⟩ := hcap
  injection hce with hce0 hce1 hce2
  rw [← hce1, ← hce2] at hcap
  clear hce0 hce1 hce2
  obtain ⟨k, hk⟩ : ∃ k, k = T.length := ⟨_, rfl⟩
  have hnd : (T.map (fun p => p.1.id)).Nodup := hinv.nodup (by omega)
  have hnd1 : ((T.map (·.1)).map (·.id)).Nodup := by rw [List.map_map]; exact hnd
  unfold BlksPost at Hb
  rw [← hk] at Hb hTl hTO
  have HT := Lib.hid (And.intro hinv (And.intro hnd1 (And.intro hk hTO)))
  have hmm := @run_makeMap Try.prog
  clear hk hT hinv hnd hnd1 hTO
  go_enter Try.func5, Try.ntmps5
  go_wp2_with fail
  refine Hb.out.mono ?_
  rintro e w1 ⟨gm, c, mb, vt, rfl, hms, hmp, hmb, hbv, hk1⟩
  have hTk : (T.map (·.1)).length = k := by rw [List.length_map]; exact HT.out.2.2.1.symm
  have Hn := Lib.hid (new_spec w.heap.size w1 0 ⟨gm, 0, none⟩ k c (T.map (·.1)) (some mb) (marksOf T) hms (by rw [hTk]; omega) HT.out.2.1 hk1.size (.inl ⟨mb, rfl, hmp⟩))
  have H1 := Lib.hid (And.intro hms (And.intro hmp (And.intro hk1 hk1.size)))
  clear hms hmp hbv hk1 Hb hTk
  go_wp2_with fail
  refine Hn.out.mono ?_
  rintro e w2 ⟨L, vm, mb2, rfl, hp, hr, hm2, hmp2, hmb2, hk2⟩
  obtain ⟨am, cm, rfl⟩ := hm2.form
  have hLk : L.length = k := by rw [hp.length_eq, List.length_map]; exact HT.out.2.2.1.symm
  have hsr : ∀ m ∈ L, m.sources.length ≤ 10 := fun m hm => by
    obtain ⟨p, hp2, rfl⟩ := List.mem_map.1 (hp.subset hm)
    exact HT.out.1.few p hp2
  have hndL : (L.map (·.id)).Nodup := ((hp.map (·.id)).nodup_iff).2 HT.out.2.1
  have HL := Lib.hid (And.intro hsr (And.intro hndL (And.intro hp hLk)))
  obtain ⟨n, hn⟩ : ∃ n, n = L.length := ⟨_, rfl⟩
  rw [← hn]
  have hnk : n ≤ 10 := by omega
  have Hnl := Lib.hid hn
  rw [← hn] at hm2
  obtain ⟨xb, hxb⟩ : ∃ b, b = w2.heap.size := ⟨_, rfl⟩
  obtain ⟨lm, hlm⟩ : ∃ b, b = xb + 1 := ⟨_, rfl⟩
  have ka : Keeps [] w2 (w2.alloc (.cells #[.int .i64 0, .slice am n cm, .map (some mb2)] 29)) := (Keeps.refl [] w2).alloc _
  have na := heap_new w2 (.cells #[.int .i64 0, .slice am n cm, .map (some mb2)] 29)
  have kb : Keeps [] (w2.alloc (.cells #[.int .i64 0, .slice am n cm, .map (some mb2)] 29)) ((w2.alloc (.cells #[.int .i64 0, .slice am n cm, .map (some mb2)] 29)).alloc (.map #[] 0)) := (Keeps.refl [] _).alloc _
  have nb := mapAt_new (w2.alloc (.cells #[.int .i64 0, .slice am n cm, .map (some mb2)] 29))
  have hz : (w2.alloc (.cells #[.int .i64 0, .slice am n cm, .map (some mb2)] 29)).heap.size = lm := by simp; omega
  rw [hz] at nb
  rw [← hxb] at na
  have H3 := Lib.hid (And.intro (kp (hk2.trans (ka.trans kb)) H1.out) (And.intro (kp (ka.trans kb) (And.intro hm2 hmp2)) (And.intro (kp kb na) nb)))
  have Hlb := Lib.hid (And.intro hxb hlm)
  have hlw : w.heap.size ≤ lm ∧ w.heap.size ≤ xb := by have := Nat.le_trans H1.out.2.2.2 hk2.size; omega
  clear hp hr hm2 hmp2 hk2 ka na kb nb hz hxb hlm Hn hsr hndL hLk hn
  go_upto_region 4 with fail
  rw [← Hlb.out.1, ← Hlb.out.2]
  generalize (w2.alloc (.cells #[.int .i64 0, .slice am n cm, .map (some mb2)] 29)).alloc (.map #[] 0) = W3 at H3 ⊢
  clear Hlb hmm
  have hB3 : w.heap.size ≤ W3.heap.size := H3.out.1.2.2.2
  have hl20 : L.length ≤ 20 := by rw [← Hnl.out]; omega
  have hsr50 : ∀ m ∈ L, m.sources.length ≤ 50 := fun m hm => by have := HL.out.1 m hm; omega
  have hlv := live_spec w.heap.size W3 0 (some mb2) (.slice am n cm) L H3.out.2.1.1 hl20 hsr50 hB3
  have Hlv := Lib.hid hlv
  have cx3 := cells_at H3.out.2.2.1
  have lx3 := lt_of_at H3.out.2.2.1
  have Hl20 := Lib.hid (And.intro hl20 hsr50)
  clear hlv hl20 hsr50
  go_wp2_with fail
  refine Hlv.out.mono ?_
  rintro e w4 ⟨vl, rfl, hml, hk4⟩
  obtain ⟨al, cl, rfl⟩ := hml.form
  have H4 := Lib.hid (And.intro (kp hk4 H3.out) hml)
  have hQl : (liveL L).length ≤ 10 := by have := List.length_filter_le (aliveB L) L; have := Hnl.out; unfold liveL; omega
  obtain ⟨Q, hQ⟩ : ∃ Q, Q = liveL L := ⟨_, rfl⟩
  rw [← hQ] at H4 hQl ⊢
  have HQ := Lib.hid hQ
  have hw4 : w.heap.size ≤ w4.heap.size := by have := hk4.size; omega
  clear hml hk4 Hlv cx3 lx3 H3 hQ
  go_wp2_with fail
  go_loopg [37] Q.length (LvRel w w4 lm Q)
  case atStart => exact ⟨0, Nat.zero_le _, rfl, rfl, H4.out.1.2.2.2, Keeps.refl _ _, H4.out.1.1.2.2.1⟩
  case round =>
    obtain ⟨i, hi, hgi, rfl, hmi, hki, hkw⟩ := hrel
    have Hgi := Lib.hid hgi
    by_cases hlt : i < Q.length
    · have hmq := H4.out.2.keepMap H4.out.1.2.2.2 hki
      have hlt' : (i : Int) < (Q.length : Int) := by omega
      have hcn := cntM_snoc hlt
      have hle := cntM_le ((Q.take i).map (·.id)) Q[i].id
      have hil : ((Q.take i).map (·.id)).length ≤ 10 := by rw [List.length_map, List.length_take]; omega
      have hy : Q[i] ∈ liveL L := by rw [← HQ.out]; exact List.getElem_mem _
      obtain ⟨bq, ofq, afq, cfq, aoq, coq, ea, hbq, hmvq, d0q, d1q, d2q, d3q, d4q, d5q, d6q, d7q⟩ := MetasV.elem hmq i hlt
      subst ea
      obtain ⟨y1, hy1⟩ : ∃ m, m = Q[i] := ⟨_, rfl⟩
      rw [← hy1] at hmvq d0q d1q d2q d3q d4q d5q d6q d7q
      rw [← hy1] at hcn hle hy
      have Hcn := Lib.hid hcn
      have Hy := Lib.hid (mem_live.1 hy).2
      generalize hcc : cntM ((Q.take i).map (·.id)) = C at hmi Hcn hle
      have ka : Keeps [] wr (wr.alloc (.cells #[.string y1.id, .int .i64 y1.mn, .int .i64 y1.mx, .int .i64 y1.level, .int .i64 y1.series, .int .i64 y1.samples, .slice afq y1.files.length cfq, .slice aoq y1.sources.length coq] 56)) := (Keeps.refl [] wr).alloc _
      have na := heap_new wr (.cells #[.string y1.id, .int .i64 y1.mn, .int .i64 y1.mx, .int .i64 y1.level, .int .i64 y1.series, .int .i64 y1.samples, .slice afq y1.files.length cfq, .slice aoq y1.sources.length coq] 56)
      have nx := hki.at_ H4.out.1.2.2.1 (by have := H4.out.1.2.2.2; intro hm; simp only [List.mem_singleton] at hm; exact (this.ne H4.out.1.2.2.1) hm)
      have hmL := H4.out.1.2.1.1.keepMap H4.out.1.2.2.2 hki
      have HA := Lib.hid (And.intro (kp ka (And.intro hmi (And.intro nx (And.intro hmL hkw)))) (And.intro na (hki.trans (ka.mono (by simp)))))
      clear hgi hmi hki hkw hcn hy hy1 hcc ka na nx hmL hmq hmvq
      go_upto_region 7 with fail
      clear d0q d1q d2q d3q d4q d5q d6q d7q
      generalize hWa : wr.alloc (.cells #[.string y1.id, .int .i64 y1.mn, .int .i64 y1.mx, .int .i64 y1.level, .int .i64 y1.series, .int .i64 y1.samples, .slice afq y1.files.length cfq, .slice aoq y1.sources.length coq] 56) = Wa at HA ⊢
      generalize hyb : wr.heap.size = yb at HA ⊢
      clear hWa hyb
      have cy := cells_at HA.out.2.1
      have ly := lt_of_at HA.out.2.1
      have hmap := HA.out.1.1
      have hlo := hmap.run_lookup (P := Try.prog) Try.underlying24 Try.underlying9 (zeroInt _) y1.id false
      rw [lookVal_int] at hlo
      generalize (look C y1.id).getD 0 = c0 at hlo Hcn hle
      have hadd : IntKind.i64.wrap (c0 + 1) = c0 + 1 := IntWalk.i64_in _ (by omega)
      have hyl : yb ≠ lm := hmap.ne HA.out.2.1
      have hxl : xb ≠ lm := hmap.ne HA.out.1.2.1
      go_upto_region 8 with (refine wpList_update_str _ rfl (.tmp 41) (.tmp 43) (.tmp 45) _ _ _ rfl Try.underlying24 Try.underlying9 lm (encMap encI C) y1.id (encI (c0 + 1)) (by rfl) (by rfl) (by rfl) hmap ?_; intro w5 hm5 hk5)
      rw [put_enc] at hm5
      have H5 := Lib.hid (And.intro hm5 (And.intro (hk5.at_ HA.out.1.2.1 (by simp; exact hxl)) (And.intro (HA.out.1.2.2.1.keepMap hmap hk5) (And.intro (HA.out.1.2.2.2.after hk5 (fun x hx => .inr (by simp only [List.mem_singleton] at hx; omega))) (And.intro (hk5.at_ HA.out.2.1 (by simp; exact hyl)) (HA.out.2.2.trans hk5))))))
      clear hm5 hk5 hlo hadd hmap HA cy ly hyl hxl
      have cx := cells_at H5.out.2.1
      have lx := lt_of_at H5.out.2.1
      go_wp2_with fail
      clear cx lx
      go_loopg [49] n (LvRel2 w5 n)
      case atStart => exact ⟨0, Nat.zero_le _, rfl, rfl, Keeps.refl _ _⟩
      case round =>
        obtain ⟨j, hj, hgj, rfl, hkj⟩ := hrel
        have Hgj := Lib.hid hgj
        by_cases hltj : j < n
        · have hmz := kp hkj H5.out.2.2.1
          have hltj' : (j : Int) < (n : Int) := by omega
          have hjL : j < L.length := by have := Hnl.out; omega
          obtain ⟨bz, ofz, afz, cfz, aoz, coz, ea, hbz, hmvz, d0z, d1z, d2z, d3z, d4z, d5z, d6z, d7z⟩ := MetasV.elem hmz j hjL
          subst ea
          obtain ⟨z1, hz1⟩ : ∃ m, m = L[j] := ⟨_, rfl⟩
          rw [← hz1] at hmvz d0z d1z d2z d3z d4z d5z d6z d7z
          have hzn : hasB z1.sources y1.id = false := by
            have h := Hy.out z1 (by rw [hz1]; exact List.getElem_mem _)
            rw [← hasB_iff] at h
            simpa using h
          have ka : Keeps [] wr (wr.alloc (.cells #[.string z1.id, .int .i64 z1.mn, .int .i64 z1.mx, .int .i64 z1.level, .int .i64 z1.series, .int .i64 z1.samples, .slice afz z1.files.length cfz, .slice aoz z1.sources.length coz] 56)) := (Keeps.refl [] wr).alloc _
          have na := heap_new wr (.cells #[.string z1.id, .int .i64 z1.mn, .int .i64 z1.mx, .int .i64 z1.level, .int .i64 z1.series, .int .i64 z1.samples, .slice afz z1.files.length cfz, .slice aoz z1.sources.length coz] 56)
          have ny := kp (hkj.trans ka) H5.out.2.2.2.2.1
          have Hls := Lib.hid (lists_spec w.heap.size _ [.string z1.id, .int .i64 z1.mn, .int .i64 z1.mx, .int .i64 z1.level, .int .i64 z1.series, .int .i64 z1.samples, .slice afz z1.files.length cfz, .slice aoz z1.sources.length coz] z1 y1.id (kp ka hmvz))
          rw [hzn] at Hls
          have Hk := Lib.hid (hkj.trans ka)
          clear hgj hkj hmz hz1 hzn hmvz
          go_upto_region 11 with fail
          clear d0z d1z d2z d3z d4z d5z d6z d7z
          generalize hWb : wr.alloc (.cells #[.string z1.id, .int .i64 z1.mn, .int .i64 z1.mx, .int .i64 z1.level, .int .i64 z1.series, .int .i64 z1.samples, .slice afz z1.files.length cfz, .slice aoz z1.sources.length coz] 56) = Wb at Hls Hk na ny ka ⊢
          generalize hzb : wr.heap.size = zb at na ⊢
          clear hWb hzb ka
          have cz := cells_at na
          have lz := lt_of_at na
          have cy := cells_at ny
          have ly := lt_of_at ny
          clear na ny
          go_wp2_with fail
          refine Hls.out.mono ?_
          rintro e w7 ⟨rfl, hk7⟩
          have Hk7 := Lib.hid (Hk.out.trans hk7)
          clear hk7 cz lz cy ly
          go_wp2_with fail
          go_roundg (n - (j + 1))
          case measure => have := Hgj.out; omega
          case rel => exact ⟨j + 1, by omega, rfl, by go_num, Hk7.out⟩
        · have hge : ¬ (j : Int) < (n : Int) := by omega
          have He := Lib.hid hkj
          clear hgj hkj
          go_wp2_with fail
          go_roundg (Q.length - (i + 1))
          case measure => have := Hgi.out; omega
          case rel => exact ⟨i + 1, by omega, rfl, by go_num, by rw [Hcn.out]; exact kp He.out H5.out.1, H5.out.2.2.2.2.2.trans (He.out.mono (by simp)), H5.out.2.2.2.1.trans He.out⟩
    · have hie : i = Q.length := by omega
      subst hie
      rw [List.take_length] at hmi
      have nx := hki.at_ H4.out.1.2.2.1 (by have := H4.out.1.2.2.2; intro hm; simp only [List.mem_singleton] at hm; exact (this.ne H4.out.1.2.2.1) hm)
      have hmL := H4.out.1.2.1.1.keepMap H4.out.1.2.2.2 hki
      have hm0 := H4.out.1.1.1.keepMap H4.out.1.2.2.2 hki
      have hwr := hkw.size
      have H6 := Lib.hid (And.intro hmi (And.intro nx (And.intro hmL (And.intro hkw hm0))))
      have Hmd := Lib.hid (made_spec w.heap.size wr 0 (some mb2) (.slice am n cm) L hmL Hl20.out.1 Hl20.out.2)
      have cx := cells_at nx
      have lx := lt_of_at nx
      clear hmi hki hkw nx hmL hm0 hgi H4
      go_wp2_with fail
      refine Hmd.out.mono ?_
      rintro e w6 ⟨mo, rfl, hmo, hm6, hk6⟩
      have H7 := Lib.hid (And.intro (kp hk6 H6.out) hm6)
      have nx := hk6.at_ H6.out.2.1 (by simp)
      clear hm6 hk6 H6 Hmd cx lx
      have cx := cells_at nx
      have lx := lt_of_at nx
      clear nx
      go_wp2_with fail
      clear cx lx
      go_loopg [64] n (LvRel2 w6 n)
      case atStart => exact ⟨0, Nat.zero_le _, rfl, rfl, Keeps.refl _ _⟩
      case round =>
        obtain ⟨j, hj, hgj, rfl, hkj⟩ := hrel
        have Hgj := Lib.hid hgj
        by_cases hltj : j < n
        · have hmz := kp hkj H7.out.1.2.2.1
          have hltj' : (j : Int) < (n : Int) := by omega
          have hjL : j < L.length := by have := Hnl.out; omega
          obtain ⟨bt, oft, aft, cft, aot, cot, ea, hbt, hmvt, d0t, d1t, d2t, d3t, d4t, d5t, d6t, d7t⟩ := MetasV.elem hmz j hjL
          subst ea
          obtain ⟨t1, ht1⟩ : ∃ m, m = L[j] := ⟨_, rfl⟩
          rw [← ht1] at hmvt d0t d1t d2t d3t d4t d5t d6t d7t
          have hon := live_once HL.out.2.1 (show t1 ∈ L by rw [ht1]; exact List.getElem_mem _)
          rw [← HQ.out] at hon
          have ka : Keeps [] wr (wr.alloc (.cells #[.string t1.id, .int .i64 t1.mn, .int .i64 t1.mx, .int .i64 t1.level, .int .i64 t1.series, .int .i64 t1.samples, .slice aft t1.files.length cft, .slice aot t1.sources.length cot] 56)) := (Keeps.refl [] wr).alloc _
          have na := heap_new wr (.cells #[.string t1.id, .int .i64 t1.mn, .int .i64 t1.mx, .int .i64 t1.level, .int .i64 t1.series, .int .i64 t1.samples, .slice aft t1.files.length cft, .slice aot t1.sources.length cot] 56)
          have Ha := Lib.hid (And.intro (kp (hkj.trans ka) H7.out) (And.intro na (hkj.trans ka)))
          clear hgj hkj hmz ht1 hmvt ka na
          go_upto_region 19 with fail
          clear d0t d1t d2t d3t d4t d5t d6t d7t
          generalize hWb : wr.alloc (.cells #[.string t1.id, .int .i64 t1.mn, .int .i64 t1.mx, .int .i64 t1.level, .int .i64 t1.series, .int .i64 t1.samples, .slice aft t1.files.length cft, .slice aot t1.sources.length cot] 56) = Wb at Ha ⊢
          generalize htb : wr.heap.size = tb at Ha ⊢
          clear hWb htb
          have ct := cells_at Ha.out.2.1
          have lt := lt_of_at Ha.out.2.1
          have hlo1 := Ha.out.1.1.1.run_lookup (P := Try.prog) Try.underlying24 Try.underlying9 (zeroInt _) t1.id false
          have hlo2 := Ha.out.1.2.run_lookup (P := Try.prog) Try.underlying24 Try.underlying9 (zeroInt _) t1.id false
          rw [lookVal_int] at hlo1 hlo2
          have Hk := Lib.hid Ha.out.2.2
          generalize (look (cntM (Q.map (·.id))) t1.id).getD 0 = c1 at hlo1 hon
          generalize (look (madeM L) t1.id).getD 0 = c2 at hlo2 hon
          clear Ha
          by_cases hc2 : c2 = 0
          · subst hc2
            have hc1 : c1 = 1 := by simpa using hon
            subst hc1
            clear hon
            go_wp2_with fail
            go_roundg (n - (j + 1))
            case measure => have := Hgj.out; omega
            case rel => exact ⟨j + 1, by omega, rfl, by go_num, Hk.out⟩
          · have hc2b : (c2 == (0 : Int)) = false := by rw [beq_eq_false_iff_ne]; exact hc2
            have hc1b : (c1 == (1 : Int)) = false := by rw [hon]; exact hc2b
            have hc1 : ¬ c1 = 1 := by rw [beq_eq_false_iff_ne] at hc1b; exact hc1b
            clear hon
            go_wp2_with fail
            go_roundg (n - (j + 1))
            case measure => have := Hgj.out; omega
            case rel => exact ⟨j + 1, by omega, rfl, by go_num, Hk.out⟩
        · have hge : ¬ (j : Int) < (n : Int) := by omega
          have H8 := Lib.hid (And.intro (kp hkj H7.out.1.2.2.2.2) (kp hkj H7.out.1.2.2.2.1))
          clear hgj hkj H7
          rcases (by omega : k = 0 ∨ k = 10 ∨ (1 ≤ k ∧ k ≤ 9)) with hk0 | hk0 | hk0
          · have hkz : ((k : Int) == 0) = true := by rw [beq_iff_eq]; omega
            have hkz2 : (k : Int) = 0 := by omega
            go_wp2_with fail
            refine (awake10_spec _).mono ?_
            rintro e w9 ⟨rfl, hk9⟩
            have HF := Lib.hid (H8.out.2.trans hk9)
            clear hk9
            go_wp2_with fail
            go_ret
            exact ⟨rfl, HF.out⟩
          · have hkz : ((k : Int) == 0) = false := by rw [beq_eq_false_iff_ne]; omega
            have hkz2 : ¬ (k : Int) = 0 := by omega
            have hky : ((k : Int) == 10) = true := by rw [beq_iff_eq]; omega
            have hky2 : (k : Int) = 10 := by omega
            go_wp2_with fail
            refine (awake10_spec _).mono ?_
            rintro e w9 ⟨rfl, hk9⟩
            have HF := Lib.hid (H8.out.2.trans hk9)
            clear hk9
            go_wp2_with fail
            go_ret
            exact ⟨rfl, HF.out⟩
          · have hkz : ((k : Int) == 0) = false := by rw [beq_eq_false_iff_ne]; omega
            have hkz2 : ¬ (k : Int) = 0 := by omega
            have hky : ((k : Int) == 10) = false := by rw [beq_eq_false_iff_ne]; omega
            have hky2 : ¬ (k : Int) = 10 := by omega
            go_upto_region 24 with fail
            have hOk : O.length = k := HT.out.2.2.2 (by omega)
            obtain ⟨T2, hT2⟩ : ∃ T, T = T2of O := ⟨_, rfl⟩
            have hT2l : T2.length = k + 1 := by rw [hT2, T2of_len, hOk]
            have HT2 := Lib.hid (And.intro hT2 hT2l)
            obtain ⟨io, hio, hzo0, hzo1, hzo2⟩ := info_parts infoOne
            obtain ⟨bo, oo, hao, hbo, -⟩ := HO.out.atI 0 (by omega)
            have Hav := Lib.hid hao
            rw [hao]
            clear hao
            have HOk := Lib.hid hOk
            have hk1 := H8.out.2.size
            clear hT2 hT2l
            go_cut [15] from 89 to 105 (M2Cut w wr T2)
            case first =>
              have hmin : min (O.length : Int) 9 = (k : Int) := by omega
              have hc0 : (0 : Int) ≤ (k : Int) := by omega
              have hc1 : (k : Int) ≤ (cv : Int) := by omega
              have hc2 : ¬ cv = 0 := by omega
              clear hOk
              have kA0 : Keeps [] wr wr.drew := (Keeps.refl [] wr).drew
              refine wp_region_held_drew (S := fun w' => Keeps [] wr w') (by kernel_rfl) kA0 (fun hS => ?_)
              have hsB : w.heap.size ≤ wr.drew.heap.size := hk1
              have hOr : SliceArg 11 encOneL wr (.slice (some ⟨bo, oo, none⟩) O.length cv) O := by rw [← Hav.out]; exact HO.out.keep H8.out.2
              have hmk : ∀ w, (Instr.makeSlice 49 (.int .i64 10) (.int .i64 10)).run Try.prog w = .ok (.slice (some ⟨w.heap.size, 0, none⟩) 10 10) (w.alloc (.cells #[.string ⟨#[]⟩, .string ⟨#[]⟩, .string ⟨#[]⟩, .string ⟨#[]⟩, .string ⟨#[]⟩, .string ⟨#[]⟩, .string ⟨#[]⟩, .string ⟨#[]⟩, .string ⟨#[]⟩, .string ⟨#[]⟩] 9)) := fun _ => by kernel_rfl
              have HFl := Lib.hid flat11
              generalize wr.drew = A0 at kA0 hS hsB ⊢
              refine wpAnyH_take (i := 1) (v := ?_) rfl (by kernel_rfl) (by kernel_rfl) (by kernel_rfl) (fun _ _ _ h => h) (Or.inl ⟨by rfl, ?_⟩) (by assumption) ?_
              rotate_left
              · intro w' s1; go_simp; (try with_reducible rfl)
              simp only [Act.put, List.getElem_toArray, List.getElem_cons_succ, List.getElem_cons_zero, List.setIfInBounds_toArray, List.set_cons_zero, List.set_cons_succ]
              refine wpAnyH_take (i := 2) (v := ?_) rfl (by kernel_rfl) (by kernel_rfl) (by kernel_rfl) (fun _ _ _ h => h) (Or.inl ⟨by rfl, ?_⟩) (by assumption) ?_
              rotate_left
              · intro w' s1; go_simp; (try with_reducible rfl)
              simp only [Act.put, List.getElem_toArray, List.getElem_cons_succ, List.getElem_cons_zero, List.setIfInBounds_toArray, List.set_cons_zero, List.set_cons_succ]
              refine wpAnyH_take (i := 3) (v := ?_) rfl (by kernel_rfl) (by kernel_rfl) (by kernel_rfl) (fun _ _ _ h => h) (Or.inl ⟨by rfl, ?_⟩) (by assumption) ?_
              rotate_left
              · intro w' s1; go_simp; (try with_reducible rfl)
              simp only [Act.put, List.getElem_toArray, List.getElem_cons_succ, List.getElem_cons_zero, List.setIfInBounds_toArray, List.set_cons_zero, List.set_cons_succ]
              refine wpAnyH_take (i := 4) (v := ?_) rfl (by kernel_rfl) (by kernel_rfl) (by kernel_rfl) (fun _ _ _ h => h) (Or.inl ⟨by rfl, ?_⟩) (by assumption) ?_
              rotate_left
              · intro w' s1; go_simp; (try with_reducible rfl)
              simp only [Act.put, List.getElem_toArray, List.getElem_cons_succ, List.getElem_cons_zero, List.setIfInBounds_toArray, List.set_cons_zero, List.set_cons_succ]
              refine wpAnyH_take (i := 5) (v := ?_) rfl (by kernel_rfl) (by kernel_rfl) (by kernel_rfl) (fun _ _ _ h => h) (Or.inl ⟨by rfl, ?_⟩) (by assumption) ?_
              rotate_left
              · intro w' s1; go_simp; (try with_reducible rfl)
              simp only [Act.put, List.getElem_toArray, List.getElem_cons_succ, List.getElem_cons_zero, List.setIfInBounds_toArray, List.set_cons_zero, List.set_cons_succ]
              refine wpAnyH_ready (rs := [0, 7]) (by kernel_rfl) (by simp) ?_
              refine AllReadyH.cons rfl (fun K hK => ?_) ?_
              · go_simp
                have ka := (Keeps.refl [] A0).alloc (.cells #[] 66)
                have kA1 : Keeps [] wr (A0.alloc (.cells #[] 66)) := kA0.alloc _
                have row := ownsRow_made A0 wr.heap.size 66 11 kA0.size
                try (have hne : h10 ≠ A0.heap.size := by have := lt_of_at n10; omega)
                try (replace n10 := kp ka n10)
                generalize A0.heap.size = g0 at *
                generalize A0.alloc (.cells #[] 66) = A1 at *
                clear ka
                refine hK.out _ _ kA1 (fun hS => ?_)
                clear hK K
                try simp only [Act.put, List.getElem_toArray, List.getElem_cons_succ, List.getElem_cons_zero, List.setIfInBounds_toArray, List.set_cons_zero, List.set_cons_succ]
                refine wpAnyH_ready (rs := [6, 7]) (by kernel_rfl) (by simp) ?_
                refine AllReadyH.cons rfl (fun K hK => ?_) ?_
                · refine step_append_ownN rfl (.tmp 90) (.tmp 95) 22 rfl wr.heap.size 66 io _ 11 128 Try.underlying22 hio hzo0 hzo1 hzo2 rfl (by decide) (.slice (some ⟨g0, 0, none⟩) 0 0) 0 [] (by rfl) row ⟨bo, oo, none⟩ k cv (O.flatMap encOneL) (by rfl) ((HFl.out O).trans (by rw [HOk.out])) (cells_one (hOr.keep kA1)) (one_cells O) (by simp only [maxLen]; omega) (by omega) kA1.size ?_
                  intro v6 A2 hown6 hgrow6 hnil6
                  have kA2 := keeps_grownM kA1 hgrow6 (fun g hg => (World.ownsRow.lt row g hg).1)
                  obtain ⟨g6, c6, rfl⟩ := row_some hown6 (fun e => by have := (hnil6.1 e).1; cases this)
                  rw [Nat.zero_add] at hown6 ⊢
                  rw [List.nil_append] at hown6
                  try (replace n10 := (keeps_rowM hgrow6).at_ n10 (by simpa [Value.ownBlock] using hne))
                  clear hgrow6 hnil6 row
                  refine hK.out _ _ kA2 (fun hS => ?_)
                  clear hK K
                  try simp only [Act.put, List.getElem_toArray, List.getElem_cons_succ, List.getElem_cons_zero, List.setIfInBounds_toArray, List.set_cons_zero, List.set_cons_succ]
                  refine wpAnyH_ready (rs := [7]) (by kernel_rfl) (by simp) ?_
                  refine AllReadyH.cons rfl (fun K hK => ?_) AllReadyH.nil
                  go_simp
                  have ka := (Keeps.refl [] A2).alloc (.cells #[.string ⟨#[]⟩, .string ⟨#[]⟩, .string ⟨#[]⟩, .string ⟨#[]⟩, .string ⟨#[]⟩, .string ⟨#[]⟩, .string ⟨#[]⟩, .string ⟨#[]⟩, .string ⟨#[]⟩, .string ⟨#[]⟩] 9)
                  have kA3 : Keeps [] wr (A2.alloc (.cells #[.string ⟨#[]⟩, .string ⟨#[]⟩, .string ⟨#[]⟩, .string ⟨#[]⟩, .string ⟨#[]⟩, .string ⟨#[]⟩, .string ⟨#[]⟩, .string ⟨#[]⟩, .string ⟨#[]⟩, .string ⟨#[]⟩] 9)) := kA2.alloc _
                  try (replace row := kp ka row)
                  try (replace hown6 := kp ka hown6)
                  generalize A2.heap.size = sb at *
                  generalize A2.alloc (.cells #[.string ⟨#[]⟩, .string ⟨#[]⟩, .string ⟨#[]⟩, .string ⟨#[]⟩, .string ⟨#[]⟩, .string ⟨#[]⟩, .string ⟨#[]⟩, .string ⟨#[]⟩, .string ⟨#[]⟩, .string ⟨#[]⟩] 9) = A3 at *
                  clear ka
                  refine hK.out _ _ kA3 (fun hS => ?_)
                  clear hK K
                  try simp only [Act.put, List.getElem_toArray, List.getElem_cons_succ, List.getElem_cons_zero, List.setIfInBounds_toArray, List.set_cons_zero, List.set_cons_succ]
                  refine wpAnyH_take (i := 8) (v := ?_) rfl (by kernel_rfl) (by kernel_rfl) (by kernel_rfl) (fun _ _ _ h => h) (Or.inl ⟨by rfl, ?_⟩) (by assumption) ?_
                  rotate_left
                  · intro w' s1; go_simp; (try with_reducible rfl)
                  simp only [Act.put, List.getElem_toArray, List.getElem_cons_succ, List.getElem_cons_zero, List.setIfInBounds_toArray, List.set_cons_zero, List.set_cons_succ]
                  refine wpAnyH_take (i := 9) (v := ?_) rfl (by kernel_rfl) (by kernel_rfl) (by kernel_rfl) (fun _ _ _ h => h) (Or.inl ⟨by rfl, ?_⟩) (by assumption) ?_
                  rotate_left
                  · intro w' s1; go_simp; (try with_reducible rfl)
                  simp only [Act.put, List.getElem_toArray, List.getElem_cons_succ, List.getElem_cons_zero, List.setIfInBounds_toArray, List.set_cons_zero, List.set_cons_succ]
                  refine wpAnyH_ready (rs := [10]) (by kernel_rfl) (by simp) ?_
                  refine AllReadyH.cons rfl (fun K hK => ?_) AllReadyH.nil
                  go_simp
                  have ka := (Keeps.refl [] A3).alloc (.cells #[.string ⟨#[]⟩, .int .i64 0, .int .i64 0, .int .i64 0, .int .i64 0, .int .i64 0, .slice none 0 0, .slice (some ⟨sb, 0, none⟩) 10 10, .int .i64 1023, .int .i64 0, .int .i64 (-1)] 66)
                  have kA4 : Keeps [] wr (A3.alloc (.cells #[.string ⟨#[]⟩, .int .i64 0, .int .i64 0, .int .i64 0, .int .i64 0, .int .i64 0, .slice none 0 0, .slice (some ⟨sb, 0, none⟩) 10 10, .int .i64 1023, .int .i64 0, .int .i64 (-1)] 66)) := kA3.alloc _
                  have n10 := heap_new A3 (.cells #[.string ⟨#[]⟩, .int .i64 0, .int .i64 0, .int .i64 0, .int .i64 0, .int .i64 0, .slice none 0 0, .slice (some ⟨sb, 0, none⟩) 10 10, .int .i64 1023, .int .i64 0, .int .i64 (-1)] 66)
                  try (have hne : A3.heap.size ≠ g0 := by have := (World.ownsRow.lt row g0 (by simp [Value.ownBlock])).2; omega)
                  try (replace row := kp ka row)
                  try (replace hown6 := kp ka hown6)
                  generalize A3.heap.size = h10 at *
                  generalize A3.alloc (.cells #[.string ⟨#[]⟩, .int .i64 0, .int .i64 0, .int .i64 0, .int .i64 0, .int .i64 0, .slice none 0 0, .slice (some ⟨sb, 0, none⟩) 10 10, .int .i64 1023, .int .i64 0, .int .i64 (-1)] 66) = A4 at *
                  clear ka
                  refine hK.out _ _ kA4 (fun hS => ?_)
                  clear hK K
                  try simp only [Act.put, List.getElem_toArray, List.getElem_cons_succ, List.getElem_cons_zero, List.setIfInBounds_toArray, List.set_cons_zero, List.set_cons_succ]
                  refine wpAnyH_ready (rs := [11]) (by kernel_rfl) (by simp) ?_
                  refine AllReadyH.cons rfl (fun K hK => ?_) AllReadyH.nil
                  refine step_append_ownN rfl (.tmp 96) (.tmp 100) 22 rfl wr.heap.size 66 io _ 11 128 Try.underlying22 hio hzo0 hzo1 hzo2 rfl (by decide) (.slice (some ⟨g6, 0, none⟩) k c6) k (O.flatMap encOneL) (by rfl) hown6 ⟨h10, 0, none⟩ 1 1 [.string ⟨#[]⟩, .int .i64 0, .int .i64 0, .int .i64 0, .int .i64 0, .int .i64 0, .slice none 0 0, .slice (some ⟨sb, 0, none⟩) 10 10, .int .i64 1023, .int .i64 0, .int .i64 (-1)] (by rfl) rfl (news_of n10) (by simp [Value.oneCell']) (by simp only [maxLen]; omega) (by omega) kA4.size ?_
                  intro v11 A5 hown11 hgrow11 hnil11
                  have kA5 := keeps_grownM kA4 hgrow11 (fun g hg => (World.ownsRow.lt hown6 g hg).1)
                  obtain ⟨g11, c11, rfl⟩ := row_some hown11 (fun e => by have := (hnil11.1 e).1; cases this)
                  clear hgrow11 hnil11 hown6 n10
                  refine hK.out _ _ kA5 (fun hS => ?_)
                  clear hK K
                  try simp only [Act.put, List.getElem_toArray, List.getElem_cons_succ, List.getElem_cons_zero, List.setIfInBounds_toArray, List.set_cons_zero, List.set_cons_succ]
                  refine wpAnyH_ready (rs := [12]) (by kernel_rfl) (by simp) ?_
                  refine AllReadyH.cons rfl (fun K hK => ?_) AllReadyH.nil
                  have hrowO : A5.ownsRow wr.heap.size 66 11 (.slice (some ⟨g11, 0, none⟩) (k + 1) c11) (O ++ [lastO (some ⟨sb, 0, none⟩)]).length ((O ++ [lastO (some ⟨sb, 0, none⟩)]).flatMap encOneL) := by
                    rw [List.length_append, HOk.out, List.flatMap_append]
                    simpa [lastO, encOneL, encRaw] using hown11
                  have hb := blocks_spec A5 _ _ (sliceFrom_row (enc := encOneL) encOneL_len hrowO).arg
                  rw [T2of_eq (some ⟨sb, 0, none⟩) (by rw [HOk.out]; omega), ← HT2.out.1] at hb
                  unfold BlksPost at hb
                  have hwW := Nat.le_trans hk1 kA5.size
                  have Hbb := Lib.hid hb
                  clear hb hrowO hown11
                  go_simp
                  go_at_call 6
                  refine Hbb.out.mono ?_
                  rintro e A6 ⟨gm2, cm2, mb3, vt3, rfl, hm3, -, -, -, hkA6⟩
                  have kA6 := kA5.trans hkA6
                  have hm4 := hm3.low hwW
                  clear hkA6 hm3 Hbb
                  go_simp
                  refine hK.out _ _ kA6 (fun hS => ?_)
                  clear hK K
                  try simp only [Act.put, List.getElem_toArray, List.getElem_cons_succ, List.getElem_cons_zero, List.setIfInBounds_toArray, List.set_cons_zero, List.set_cons_succ]
                  refine wpAnyH_take (i := 13) (v := ?_) rfl (by kernel_rfl) (by kernel_rfl) (by kernel_rfl) (fun _ _ _ h => h) (Or.inl ⟨by rfl, ?_⟩) (by assumption) ?_
                  rotate_left
                  · intro w' s1; go_simp; (try with_reducible rfl)
                  simp only [Act.put, List.getElem_toArray, List.getElem_cons_succ, List.getElem_cons_zero, List.setIfInBounds_toArray, List.set_cons_zero, List.set_cons_succ]
                  refine wpAnyH_take (i := 14) (v := ?_) rfl (by kernel_rfl) (by kernel_rfl) (by kernel_rfl) (fun _ _ _ h => h) (Or.inl ⟨by rfl, ?_⟩) (by assumption) ?_
                  rotate_left
                  · intro w' s1; go_simp; (try with_reducible rfl)
                  simp only [Act.put, List.getElem_toArray, List.getElem_cons_succ, List.getElem_cons_zero, List.setIfInBounds_toArray, List.set_cons_zero, List.set_cons_succ]
                  refine wpAnyH_take (i := 15) (v := ?_) rfl (by kernel_rfl) (by kernel_rfl) (by kernel_rfl) (fun _ _ _ h => h) (Or.inl ⟨by rfl, ?_⟩) (by assumption) ?_
                  rotate_left
                  · intro w' s1; go_simp; (try with_reducible rfl)
                  simp only [Act.put, List.getElem_toArray, List.getElem_cons_succ, List.getElem_cons_zero, List.setIfInBounds_toArray, List.set_cons_zero, List.set_cons_succ]
                  refine wpAnyH_take (i := 16) (v := ?_) rfl (by kernel_rfl) (by kernel_rfl) (by kernel_rfl) (fun _ _ _ h => h) (Or.inl ⟨by rfl, ?_⟩) (by assumption) ?_
                  rotate_left
                  · intro w' s1; go_simp; (try with_reducible rfl)
                  simp only [Act.put, List.getElem_toArray, List.getElem_cons_succ, List.getElem_cons_zero, List.setIfInBounds_toArray, List.set_cons_zero, List.set_cons_succ]
                  refine wpAnyH_ready (rs := [17]) (by kernel_rfl) (by simp) ?_
                  refine AllReadyH.cons rfl (fun K hK => ?_) AllReadyH.nil
                  go_simp
                  have kA7 := kA6
                  refine hK.out _ _ kA7 (fun hS => ?_)
                  clear hK K
                  try simp only [Act.put, List.getElem_toArray, List.getElem_cons_succ, List.getElem_cons_zero, List.setIfInBounds_toArray, List.set_cons_zero, List.set_cons_succ]
                  refine wpAnyH_ready (rs := [18]) (by kernel_rfl) (by simp) ?_
                  refine AllReadyH.cons rfl (fun K hK => ?_) AllReadyH.nil
                  go_simp
                  have kA8 := kA7
                  refine hK.out _ _ kA8 (fun hS => ?_)
                  clear hK K
                  try simp only [Act.put, List.getElem_toArray, List.getElem_cons_succ, List.getElem_cons_zero, List.setIfInBounds_toArray, List.set_cons_zero, List.set_cons_succ]
                  refine wpAnyH_ready (rs := [19]) (by kernel_rfl) (by simp) ?_
                  refine AllReadyH.cons rfl (fun K hK => ?_) AllReadyH.nil
                  go_simp
                  have kA9 := kA8
                  refine hK.out _ _ kA9 (fun hS => ?_)
                  clear hK K
                  try simp only [Act.put, List.getElem_toArray, List.getElem_cons_succ, List.getElem_cons_zero, List.setIfInBounds_toArray, List.set_cons_zero, List.set_cons_succ]
                  refine wpAnyH_done (by kernel_rfl) ?_ _
                  have HF := Lib.hid (And.intro hm4 kA9)
                  clear hS hm4
                  go_wp2_with fail
                  go_meet
                  case rel => exact ⟨gm2, cm2, rfl, HF.out⟩
                refine AllReadyH.cons rfl (fun K hK => ?_) AllReadyH.nil
                go_simp
                have ka := (Keeps.refl [] A1).alloc (.cells #[.string ⟨#[]⟩, .string ⟨#[]⟩, .string ⟨#[]⟩, .string ⟨#[]⟩, .string ⟨#[]⟩, .string ⟨#[]⟩, .string ⟨#[]⟩, .string ⟨#[]⟩, .string ⟨#[]⟩, .string ⟨#[]⟩] 9)
                have kA2 : Keeps [] wr (A1.alloc (.cells #[.string ⟨#[]⟩, .string ⟨#[]⟩, .string ⟨#[]⟩, .string ⟨#[]⟩, .string ⟨#[]⟩, .string ⟨#[]⟩, .string ⟨#[]⟩, .string ⟨#[]⟩, .string ⟨#[]⟩, .string ⟨#[]⟩] 9)) := kA1.alloc _
                try (replace row := kp ka row)
                try (replace hown6 := kp ka hown6)
                generalize A1.heap.size = sb at *
                generalize A1.alloc (.cells #[.string ⟨#[]⟩, .string ⟨#[]⟩, .string ⟨#[]⟩, .string ⟨#[]⟩, .string ⟨#[]⟩, .string ⟨#[]⟩, .string ⟨#[]⟩, .string ⟨#[]⟩, .string ⟨#[]⟩, .string ⟨#[]⟩] 9) = A2 at *
                clear ka
                refine hK.out _ _ kA2 (fun hS => ?_)
                clear hK K
                try simp only [Act.put, List.getElem_toArray, List.getElem_cons_succ, List.getElem_cons_zero, List.setIfInBounds_toArray, List.set_cons_zero, List.set_cons_succ]
                refine wpAnyH_take (i := 8) (v := ?_) rfl (by kernel_rfl) (by kernel_rfl) (by kernel_rfl) (fun _ _ _ h => h) (Or.inl ⟨by rfl, ?_⟩) (by assumption) ?_
                rotate_left
                · intro w' s1; go_simp; (try with_reducible rfl)
                simp only [Act.put, List.getElem_toArray, List.getElem_cons_succ, List.getElem_cons_zero, List.setIfInBounds_toArray, List.set_cons_zero, List.set_cons_succ]
                refine wpAnyH_take (i := 9) (v := ?_) rfl (by kernel_rfl) (by kernel_rfl) (by kernel_rfl) (fun _ _ _ h => h) (Or.inl ⟨by rfl, ?_⟩) (by assumption) ?_
                rotate_left
                · intro w' s1; go_simp; (try with_reducible rfl)
                simp only [Act.put, List.getElem_toArray, List.getElem_cons_succ, List.getElem_cons_zero, List.setIfInBounds_toArray, List.set_cons_zero, List.set_cons_succ]
                refine wpAnyH_ready (rs := [6, 10]) (by kernel_rfl) (by simp) ?_
                refine AllReadyH.cons rfl (fun K hK => ?_) ?_
                · refine step_append_ownN rfl (.tmp 90) (.tmp 95) 22 rfl wr.heap.size 66 io _ 11 128 Try.underlying22 hio hzo0 hzo1 hzo2 rfl (by decide) (.slice (some ⟨g0, 0, none⟩) 0 0) 0 [] (by rfl) row ⟨bo, oo, none⟩ k cv (O.flatMap encOneL) (by rfl) ((HFl.out O).trans (by rw [HOk.out])) (cells_one (hOr.keep kA2)) (one_cells O) (by simp only [maxLen]; omega) (by omega) kA2.size ?_
                  intro v6 A3 hown6 hgrow6 hnil6
                  have kA3 := keeps_grownM kA2 hgrow6 (fun g hg => (World.ownsRow.lt row g hg).1)
                  obtain ⟨g6, c6, rfl⟩ := row_some hown6 (fun e => by have := (hnil6.1 e).1; cases this)
                  rw [Nat.zero_add] at hown6 ⊢
                  rw [List.nil_append] at hown6
                  try (replace n10 := (keeps_rowM hgrow6).at_ n10 (by simpa [Value.ownBlock] using hne))
                  clear hgrow6 hnil6 row
                  refine hK.out _ _ kA3 (fun hS => ?_)
                  clear hK K
                  try simp only [Act.put, List.getElem_toArray, List.getElem_cons_succ, List.getElem_cons_zero, List.setIfInBounds_toArray, List.set_cons_zero, List.set_cons_succ]
                  refine wpAnyH_ready (rs := [10]) (by kernel_rfl) (by simp) ?_
                  refine AllReadyH.cons rfl (fun K hK => ?_) AllReadyH.nil
                  go_simp
                  have ka := (Keeps.refl [] A3).alloc (.cells #[.string ⟨#[]⟩, .int .i64 0, .int .i64 0, .int .i64 0, .int .i64 0, .int .i64 0, .slice none 0 0, .slice (some ⟨sb, 0, none⟩) 10 10, .int .i64 1023, .int .i64 0, .int .i64 (-1)] 66)
                  have kA4 : Keeps [] wr (A3.alloc (.cells #[.string ⟨#[]⟩, .int .i64 0, .int .i64 0, .int .i64 0, .int .i64 0, .int .i64 0, .slice none 0 0, .slice (some ⟨sb, 0, none⟩) 10 10, .int .i64 1023, .int .i64 0, .int .i64 (-1)] 66)) := kA3.alloc _
                  have n10 := heap_new A3 (.cells #[.string ⟨#[]⟩, .int .i64 0, .int .i64 0, .int .i64 0, .int .i64 0, .int .i64 0, .slice none 0 0, .slice (some ⟨sb, 0, none⟩) 10 10, .int .i64 1023, .int .i64 0, .int .i64 (-1)] 66)
                  try (have hne : A3.heap.size ≠ g0 := by have := (World.ownsRow.lt row g0 (by simp [Value.ownBlock])).2; omega)
                  try (replace row := kp ka row)
                  try (replace hown6 := kp ka hown6)
                  generalize A3.heap.size = h10 at *
                  generalize A3.alloc (.cells #[.string ⟨#[]⟩, .int .i64 0, .int .i64 0, .int .i64 0, .int .i64 0, .int .i64 0, .slice none 0 0, .slice (some ⟨sb, 0, none⟩) 10 10, .int .i64 1023, .int .i64 0, .int .i64 (-1)] 66) = A4 at *
                  clear ka
                  refine hK.out _ _ kA4 (fun hS => ?_)
                  clear hK K
                  try simp only [Act.put, List.getElem_toArray, List.getElem_cons_succ, List.getElem_cons_zero, List.setIfInBounds_toArray, List.set_cons_zero, List.set_cons_succ]
                  refine wpAnyH_ready (rs := [11]) (by kernel_rfl) (by simp) ?_
                  refine AllReadyH.cons rfl (fun K hK => ?_) AllReadyH.nil
                  refine step_append_ownN rfl (.tmp 96) (.tmp 100) 22 rfl wr.heap.size 66 io _ 11 128 Try.underlying22 hio hzo0 hzo1 hzo2 rfl (by decide) (.slice (some ⟨g6, 0, none⟩) k c6) k (O.flatMap encOneL) (by rfl) hown6 ⟨h10, 0, none⟩ 1 1 [.string ⟨#[]⟩, .int .i64 0, .int .i64 0, .int .i64 0, .int .i64 0, .int .i64 0, .slice none 0 0, .slice (some ⟨sb, 0, none⟩) 10 10, .int .i64 1023, .int .i64 0, .int .i64 (-1)] (by rfl) rfl (news_of n10) (by simp [Value.oneCell']) (by simp only [maxLen]; omega) (by omega) kA4.size ?_
                  intro v11 A5 hown11 hgrow11 hnil11
                  have kA5 := keeps_grownM kA4 hgrow11 (fun g hg => (World.ownsRow.lt hown6 g hg).1)
                  obtain ⟨g11, c11, rfl⟩ := row_some hown11 (fun e => by have := (hnil11.1 e).1; cases this)
                  clear hgrow11 hnil11 hown6 n10
                  refine hK.out _ _ kA5 (fun hS => ?_)
                  clear hK K
                  try simp only [Act.put, List.getElem_toArray, List.getElem_cons_succ, List.getElem_cons_zero, List.setIfInBounds_toArray, List.set_cons_zero, List.set_cons_succ]
                  refine wpAnyH_ready (rs := [12]) (by kernel_rfl) (by simp) ?_
                  refine AllReadyH.cons rfl (fun K hK => ?_) AllReadyH.nil
                  have hrowO : A5.ownsRow wr.heap.size 66 11 (.slice (some ⟨g11, 0, none⟩) (k + 1) c11) (O ++ [lastO (some ⟨sb, 0, none⟩)]).length ((O ++ [lastO (some ⟨sb, 0, none⟩)]).flatMap encOneL) := by
                    rw [List.length_append, HOk.out, List.flatMap_append]
                    simpa [lastO, encOneL, encRaw] using hown11
                  have hb := blocks_spec A5 _ _ (sliceFrom_row (enc := encOneL) encOneL_len hrowO).arg
                  rw [T2of_eq (some ⟨sb, 0, none⟩) (by rw [HOk.out]; omega), ← HT2.out.1] at hb
                  unfold BlksPost at hb
                  have hwW := Nat.le_trans hk1 kA5.size
                  have Hbb := Lib.hid hb
                  clear hb hrowO hown11
                  go_simp
                  go_at_call 6
                  refine Hbb.out.mono ?_
                  rintro e A6 ⟨gm2, cm2, mb3, vt3, rfl, hm3, -, -, -, hkA6⟩
                  have kA6 := kA5.trans hkA6
                  have hm4 := hm3.low hwW
                  clear hkA6 hm3 Hbb
                  go_simp
                  refine hK.out _ _ kA6 (fun hS => ?_)
                  clear hK K
                  try simp only [Act.put, List.getElem_toArray, List.getElem_cons_succ, List.getElem_cons_zero, List.setIfInBounds_toArray, List.set_cons_zero, List.set_cons_succ]
                  refine wpAnyH_take (i := 13) (v := ?_) rfl (by kernel_rfl) (by kernel_rfl) (by kernel_rfl) (fun _ _ _ h => h) (Or.inl ⟨by rfl, ?_⟩) (by assumption) ?_
                  rotate_left
                  · intro w' s1; go_simp; (try with_reducible rfl)
                  simp only [Act.put, List.getElem_toArray, List.getElem_cons_succ, List.getElem_cons_zero, List.setIfInBounds_toArray, List.set_cons_zero, List.set_cons_succ]
                  refine wpAnyH_take (i := 14) (v := ?_) rfl (by kernel_rfl) (by kernel_rfl) (by kernel_rfl) (fun _ _ _ h => h) (Or.inl ⟨by rfl, ?_⟩) (by assumption) ?_
                  rotate_left
                  · intro w' s1; go_simp; (try with_reducible rfl)
                  simp only [Act.put, List.getElem_toArray, List.getElem_cons_succ, List.getElem_cons_zero, List.setIfInBounds_toArray, List.set_cons_zero, List.set_cons_succ]
                  refine wpAnyH_take (i := 15) (v := ?_) rfl (by kernel_rfl) (by kernel_rfl) (by kernel_rfl) (fun _ _ _ h => h) (Or.inl ⟨by rfl, ?_⟩) (by assumption) ?_
                  rotate_left
                  · intro w' s1; go_simp; (try with_reducible rfl)
                  simp only [Act.put, List.getElem_toArray, List.getElem_cons_succ, List.getElem_cons_zero, List.setIfInBounds_toArray, List.set_cons_zero, List.set_cons_succ]
                  refine wpAnyH_take (i := 16) (v := ?_) rfl (by kernel_rfl) (by kernel_rfl) (by kernel_rfl) (fun _ _ _ h => h) (Or.inl ⟨by rfl, ?_⟩) (by assumption) ?_
                  rotate_left
                  · intro w' s1; go_simp; (try with_reducible rfl)
                  simp only [Act.put, List.getElem_toArray, List.getElem_cons_succ, List.getElem_cons_zero, List.setIfInBounds_toArray, List.set_cons_zero, List.set_cons_succ]
                  refine wpAnyH_ready (rs := [17]) (by kernel_rfl) (by simp) ?_
                  refine AllReadyH.cons rfl (fun K hK => ?_) AllReadyH.nil
                  go_simp
                  have kA7 := kA6
                  refine hK.out _ _ kA7 (fun hS => ?_)
                  clear hK K
                  try simp only [Act.put, List.getElem_toArray, List.getElem_cons_succ, List.getElem_cons_zero, List.setIfInBounds_toArray, List.set_cons_zero, List.set_cons_succ]
                  refine wpAnyH_ready (rs := [18]) (by kernel_rfl) (by simp) ?_
                  refine AllReadyH.cons rfl (fun K hK => ?_) AllReadyH.nil
                  go_simp
                  have kA8 := kA7
                  refine hK.out _ _ kA8 (fun hS => ?_)
                  clear hK K
                  try simp only [Act.put, List.getElem_toArray, List.getElem_cons_succ, List.getElem_cons_zero, List.setIfInBounds_toArray, List.set_cons_zero, List.set_cons_succ]
                  refine wpAnyH_ready (rs := [19]) (by kernel_rfl) (by simp) ?_
                  refine AllReadyH.cons rfl (fun K hK => ?_) AllReadyH.nil
                  go_simp
                  have kA9 := kA8
                  refine hK.out _ _ kA9 (fun hS => ?_)
                  clear hK K
                  try simp only [Act.put, List.getElem_toArray, List.getElem_cons_succ, List.getElem_cons_zero, List.setIfInBounds_toArray, List.set_cons_zero, List.set_cons_succ]
                  refine wpAnyH_done (by kernel_rfl) ?_ _
                  have HF := Lib.hid (And.intro hm4 kA9)
                  clear hS hm4
                  go_wp2_with fail
                  go_meet
                  case rel => exact ⟨gm2, cm2, rfl, HF.out⟩
                refine AllReadyH.cons rfl (fun K hK => ?_) AllReadyH.nil
                go_simp
                have ka := (Keeps.refl [] A2).alloc (.cells #[.string ⟨#[]⟩, .int .i64 0, .int .i64 0, .int .i64 0, .int .i64 0, .int .i64 0, .slice none 0 0, .slice (some ⟨sb, 0, none⟩) 10 10, .int .i64 1023, .int .i64 0, .int .i64 (-1)] 66)
                have kA3 : Keeps [] wr (A2.alloc (.cells #[.string ⟨#[]⟩, .int .i64 0, .int .i64 0, .int .i64 0, .int .i64 0, .int .i64 0, .slice none 0 0, .slice (some ⟨sb, 0, none⟩) 10 10, .int .i64 1023, .int .i64 0, .int .i64 (-1)] 66)) := kA2.alloc _
                have n10 := heap_new A2 (.cells #[.string ⟨#[]⟩, .int .i64 0, .int .i64 0, .int .i64 0, .int .i64 0, .int .i64 0, .slice none 0 0, .slice (some ⟨sb, 0, none⟩) 10 10, .int .i64 1023, .int .i64 0, .int .i64 (-1)] 66)
                try (have hne : A2.heap.size ≠ g0 := by have := (World.ownsRow.lt row g0 (by simp [Value.ownBlock])).2; omega)
                try (replace row := kp ka row)
                try (replace hown6 := kp ka hown6)
                generalize A2.heap.size = h10 at *
                generalize A2.alloc (.cells #[.string ⟨#[]⟩, .int .i64 0, .int .i64 0, .int .i64 0, .int .i64 0, .int .i64 0, .slice none 0 0, .slice (some ⟨sb, 0, none⟩) 10 10, .int .i64 1023, .int .i64 0, .int .i64 (-1)] 66) = A3 at *
                clear ka
                refine hK.out _ _ kA3 (fun hS => ?_)
                clear hK K
                try simp only [Act.put, List.getElem_toArray, List.getElem_cons_succ, List.getElem_cons_zero, List.setIfInBounds_toArray, List.set_cons_zero, List.set_cons_succ]
                refine wpAnyH_ready (rs := [6]) (by kernel_rfl) (by simp) ?_
                refine AllReadyH.cons rfl (fun K hK => ?_) AllReadyH.nil
                refine step_append_ownN rfl (.tmp 90) (.tmp 95) 22 rfl wr.heap.size 66 io _ 11 128 Try.underlying22 hio hzo0 hzo1 hzo2 rfl (by decide) (.slice (some ⟨g0, 0, none⟩) 0 0) 0 [] (by rfl) row ⟨bo, oo, none⟩ k cv (O.flatMap encOneL) (by rfl) ((HFl.out O).trans (by rw [HOk.out])) (cells_one (hOr.keep kA3)) (one_cells O) (by simp only [maxLen]; omega) (by omega) kA3.size ?_
                intro v6 A4 hown6 hgrow6 hnil6
                have kA4 := keeps_grownM kA3 hgrow6 (fun g hg => (World.ownsRow.lt row g hg).1)
                obtain ⟨g6, c6, rfl⟩ := row_some hown6 (fun e => by have := (hnil6.1 e).1; cases this)
                rw [Nat.zero_add] at hown6 ⊢
                rw [List.nil_append] at hown6
                try (replace n10 := (keeps_rowM hgrow6).at_ n10 (by simpa [Value.ownBlock] using hne))
                clear hgrow6 hnil6 row
                refine hK.out _ _ kA4 (fun hS => ?_)
                clear hK K
                try simp only [Act.put, List.getElem_toArray, List.getElem_cons_succ, List.getElem_cons_zero, List.setIfInBounds_toArray, List.set_cons_zero, List.set_cons_succ]
                refine wpAnyH_ready (rs := [11]) (by kernel_rfl) (by simp) ?_
                refine AllReadyH.cons rfl (fun K hK => ?_) AllReadyH.nil
                refine step_append_ownN rfl (.tmp 96) (.tmp 100) 22 rfl wr.heap.size 66 io _ 11 128 Try.underlying22 hio hzo0 hzo1 hzo2 rfl (by decide) (.slice (some ⟨g6, 0, none⟩) k c6) k (O.flatMap encOneL) (by rfl) hown6 ⟨h10, 0, none⟩ 1 1 [.string ⟨#[]⟩, .int .i64 0, .int .i64 0, .int .i64 0, .int .i64 0, .int .i64 0, .slice none 0 0, .slice (some ⟨sb, 0, none⟩) 10 10, .int .i64 1023, .int .i64 0, .int .i64 (-1)] (by rfl) rfl (news_of n10) (by simp [Value.oneCell']) (by simp only [maxLen]; omega) (by omega) kA4.size ?_
                intro v11 A5 hown11 hgrow11 hnil11
                have kA5 := keeps_grownM kA4 hgrow11 (fun g hg => (World.ownsRow.lt hown6 g hg).1)
                obtain ⟨g11, c11, rfl⟩ := row_some hown11 (fun e => by have := (hnil11.1 e).1; cases this)
                clear hgrow11 hnil11 hown6 n10
                refine hK.out _ _ kA5 (fun hS => ?_)
                clear hK K
                try simp only [Act.put, List.getElem_toArray, List.getElem_cons_succ, List.getElem_cons_zero, List.setIfInBounds_toArray, List.set_cons_zero, List.set_cons_succ]
                refine wpAnyH_ready (rs := [12]) (by kernel_rfl) (by simp) ?_
                refine AllReadyH.cons rfl (fun K hK => ?_) AllReadyH.nil
                have hrowO : A5.ownsRow wr.heap.size 66 11 (.slice (some ⟨g11, 0, none⟩) (k + 1) c11) (O ++ [lastO (some ⟨sb, 0, none⟩)]).length ((O ++ [lastO (some ⟨sb, 0, none⟩)]).flatMap encOneL) := by
                  rw [List.length_append, HOk.out, List.flatMap_append]
                  simpa [lastO, encOneL, encRaw] using hown11
                have hb := blocks_spec A5 _ _ (sliceFrom_row (enc := encOneL) encOneL_len hrowO).arg
                rw [T2of_eq (some ⟨sb, 0, none⟩) (by rw [HOk.out]; omega), ← HT2.out.1] at hb
                unfold BlksPost at hb
                have hwW := Nat.le_trans hk1 kA5.size
                have Hbb := Lib.hid hb
                clear hb hrowO hown11
                go_simp
                go_at_call 6
                refine Hbb.out.mono ?_
                rintro e A6 ⟨gm2, cm2, mb3, vt3, rfl, hm3, -, -, -, hkA6⟩
                have kA6 := kA5.trans hkA6
                have hm4 := hm3.low hwW
                clear hkA6 hm3 Hbb
                go_simp
                refine hK.out _ _ kA6 (fun hS => ?_)
                clear hK K
                try simp only [Act.put, List.getElem_toArray, List.getElem_cons_succ, List.getElem_cons_zero, List.setIfInBounds_toArray, List.set_cons_zero, List.set_cons_succ]
                refine wpAnyH_take (i := 13) (v := ?_) rfl (by kernel_rfl) (by kernel_rfl) (by kernel_rfl) (fun _ _ _ h => h) (Or.inl ⟨by rfl, ?_⟩) (by assumption) ?_
                rotate_left
                · intro w' s1; go_simp; (try with_reducible rfl)
                simp only [Act.put, List.getElem_toArray, List.getElem_cons_succ, List.getElem_cons_zero, List.setIfInBounds_toArray, List.set_cons_zero, List.set_cons_succ]
                refine wpAnyH_take (i := 14) (v := ?_) rfl (by kernel_rfl) (by kernel_rfl) (by kernel_rfl) (fun _ _ _ h => h) (Or.inl ⟨by rfl, ?_⟩) (by assumption) ?_
                rotate_left
                · intro w' s1; go_simp; (try with_reducible rfl)
                simp only [Act.put, List.getElem_toArray, List.getElem_cons_succ, List.getElem_cons_zero, List.setIfInBounds_toArray, List.set_cons_zero, List.set_cons_succ]
                refine wpAnyH_take (i := 15) (v := ?_) rfl (by kernel_rfl) (by kernel_rfl) (by kernel_rfl) (fun _ _ _ h => h) (Or.inl ⟨by rfl, ?_⟩) (by assumption) ?_
                rotate_left
                · intro w' s1; go_simp; (try with_reducible rfl)
                simp only [Act.put, List.getElem_toArray, List.getElem_cons_succ, List.getElem_cons_zero, List.setIfInBounds_toArray, List.set_cons_zero, List.set_cons_succ]
                refine wpAnyH_take (i := 16) (v := ?_) rfl (by kernel_rfl) (by kernel_rfl) (by kernel_rfl) (fun _ _ _ h => h) (Or.inl ⟨by rfl, ?_⟩) (by assumption) ?_
                rotate_left
                · intro w' s1; go_simp; (try with_reducible rfl)
                simp only [Act.put, List.getElem_toArray, List.getElem_cons_succ, List.getElem_cons_zero, List.setIfInBounds_toArray, List.set_cons_zero, List.set_cons_succ]
                refine wpAnyH_ready (rs := [17]) (by kernel_rfl) (by simp) ?_
                refine AllReadyH.cons rfl (fun K hK => ?_) AllReadyH.nil
                go_simp
                have kA7 := kA6
                refine hK.out _ _ kA7 (fun hS => ?_)
                clear hK K
                try simp only [Act.put, List.getElem_toArray, List.getElem_cons_succ, List.getElem_cons_zero, List.setIfInBounds_toArray, List.set_cons_zero, List.set_cons_succ]
                refine wpAnyH_ready (rs := [18]) (by kernel_rfl) (by simp) ?_
                refine AllReadyH.cons rfl (fun K hK => ?_) AllReadyH.nil
                go_simp
                have kA8 := kA7
                refine hK.out _ _ kA8 (fun hS => ?_)
                clear hK K
                try simp only [Act.put, List.getElem_toArray, List.getElem_cons_succ, List.getElem_cons_zero, List.setIfInBounds_toArray, List.set_cons_zero, List.set_cons_succ]
                refine wpAnyH_ready (rs := [19]) (by kernel_rfl) (by simp) ?_
                refine AllReadyH.cons rfl (fun K hK => ?_) AllReadyH.nil
                go_simp
                have kA9 := kA8
                refine hK.out _ _ kA9 (fun hS => ?_)
                clear hK K
                try simp only [Act.put, List.getElem_toArray, List.getElem_cons_succ, List.getElem_cons_zero, List.setIfInBounds_toArray, List.set_cons_zero, List.set_cons_succ]
                refine wpAnyH_done (by kernel_rfl) ?_ _
                have HF := Lib.hid (And.intro hm4 kA9)
                clear hS hm4
                go_wp2_with fail
                go_meet
                case rel => exact ⟨gm2, cm2, rfl, HF.out⟩
              refine AllReadyH.cons rfl (fun K hK => ?_) AllReadyH.nil
              go_simp
              have ka := (Keeps.refl [] A0).alloc (.cells #[.string ⟨#[]⟩, .string ⟨#[]⟩, .string ⟨#[]⟩, .string ⟨#[]⟩, .string ⟨#[]⟩, .string ⟨#[]⟩, .string ⟨#[]⟩, .string ⟨#[]⟩, .string ⟨#[]⟩, .string ⟨#[]⟩] 9)
              have kA1 : Keeps [] wr (A0.alloc (.cells #[.string ⟨#[]⟩, .string ⟨#[]⟩, .string ⟨#[]⟩, .string ⟨#[]⟩, .string ⟨#[]⟩, .string ⟨#[]⟩, .string ⟨#[]⟩, .string ⟨#[]⟩, .string ⟨#[]⟩, .string ⟨#[]⟩] 9)) := kA0.alloc _
              try (replace row := kp ka row)
              try (replace hown6 := kp ka hown6)
              generalize A0.heap.size = sb at *
              generalize A0.alloc (.cells #[.string ⟨#[]⟩, .string ⟨#[]⟩, .string ⟨#[]⟩, .string ⟨#[]⟩, .string ⟨#[]⟩, .string ⟨#[]⟩, .string ⟨#[]⟩, .string ⟨#[]⟩, .string ⟨#[]⟩, .string ⟨#[]⟩] 9) = A1 at *
              clear ka
              refine hK.out _ _ kA1 (fun hS => ?_)
              clear hK K
              try simp only [Act.put, List.getElem_toArray, List.getElem_cons_succ, List.getElem_cons_zero, List.setIfInBounds_toArray, List.set_cons_zero, List.set_cons_succ]
              refine wpAnyH_take (i := 8) (v := ?_) rfl (by kernel_rfl) (by kernel_rfl) (by kernel_rfl) (fun _ _ _ h => h) (Or.inl ⟨by rfl, ?_⟩) (by assumption) ?_
              rotate_left
              · intro w' s1; go_simp; (try with_reducible rfl)
              simp only [Act.put, List.getElem_toArray, List.getElem_cons_succ, List.getElem_cons_zero, List.setIfInBounds_toArray, List.set_cons_zero, List.set_cons_succ]
              refine wpAnyH_take (i := 9) (v := ?_) rfl (by kernel_rfl) (by kernel_rfl) (by kernel_rfl) (fun _ _ _ h => h) (Or.inl ⟨by rfl, ?_⟩) (by assumption) ?_
              rotate_left
              · intro w' s1; go_simp; (try with_reducible rfl)
              simp only [Act.put, List.getElem_toArray, List.getElem_cons_succ, List.getElem_cons_zero, List.setIfInBounds_toArray, List.set_cons_zero, List.set_cons_succ]
              refine wpAnyH_ready (rs := [0, 10]) (by kernel_rfl) (by simp) ?_
              refine AllReadyH.cons rfl (fun K hK => ?_) ?_
              · go_simp
                have ka := (Keeps.refl [] A1).alloc (.cells #[] 66)
                have kA2 : Keeps [] wr (A1.alloc (.cells #[] 66)) := kA1.alloc _
                have row := ownsRow_made A1 wr.heap.size 66 11 kA1.size
                try (have hne : h10 ≠ A1.heap.size := by have := lt_of_at n10; omega)
                try (replace n10 := kp ka n10)
                generalize A1.heap.size = g0 at *
                generalize A1.alloc (.cells #[] 66) = A2 at *
                clear ka
                refine hK.out _ _ kA2 (fun hS => ?_)
                clear hK K
                try simp only [Act.put, List.getElem_toArray, List.getElem_cons_succ, List.getElem_cons_zero, List.setIfInBounds_toArray, List.set_cons_zero, List.set_cons_succ]
                refine wpAnyH_ready (rs := [6, 10]) (by kernel_rfl) (by simp) ?_
                refine AllReadyH.cons rfl (fun K hK => ?_) ?_
                · refine step_append_ownN rfl (.tmp 90) (.tmp 95) 22 rfl wr.heap.size 66 io _ 11 128 Try.underlying22 hio hzo0 hzo1 hzo2 rfl (by decide) (.slice (some ⟨g0, 0, none⟩) 0 0) 0 [] (by rfl) row ⟨bo, oo, none⟩ k cv (O.flatMap encOneL) (by rfl) ((HFl.out O).trans (by rw [HOk.out])) (cells_one (hOr.keep kA2)) (one_cells O) (by simp only [maxLen]; omega) (by omega) kA2.size ?_
                  intro v6 A3 hown6 hgrow6 hnil6
                  have kA3 := keeps_grownM kA2 hgrow6 (fun g hg => (World.ownsRow.lt row g hg).1)
                  obtain ⟨g6, c6, rfl⟩ := row_some hown6 (fun e => by have := (hnil6.1 e).1; cases this)
                  rw [Nat.zero_add] at hown6 ⊢
                  rw [List.nil_append] at hown6
                  try (replace n10 := (keeps_rowM hgrow6).at_ n10 (by simpa [Value.ownBlock] using hne))
                  clear hgrow6 hnil6 row
                  refine hK.out _ _ kA3 (fun hS => ?_)
                  clear hK K
                  try simp only [Act.put, List.getElem_toArray, List.getElem_cons_succ, List.getElem_cons_zero, List.setIfInBounds_toArray, List.set_cons_zero, List.set_cons_succ]
                  refine wpAnyH_ready (rs := [10]) (by kernel_rfl) (by simp) ?_
                  refine AllReadyH.cons rfl (fun K hK => ?_) AllReadyH.nil
                  go_simp
                  have ka := (Keeps.refl [] A3).alloc (.cells #[.string ⟨#[]⟩, .int .i64 0, .int .i64 0, .int .i64 0, .int .i64 0, .int .i64 0, .slice none 0 0, .slice (some ⟨sb, 0, none⟩) 10 10, .int .i64 1023, .int .i64 0, .int .i64 (-1)] 66)
                  have kA4 : Keeps [] wr (A3.alloc (.cells #[.string ⟨#[]⟩, .int .i64 0, .int .i64 0, .int .i64 0, .int .i64 0, .int .i64 0, .slice none 0 0, .slice (some ⟨sb, 0, none⟩) 10 10, .int .i64 1023, .int .i64 0, .int .i64 (-1)] 66)) := kA3.alloc _
                  have n10 := heap_new A3 (.cells #[.string ⟨#[]⟩, .int .i64 0, .int .i64 0, .int .i64 0, .int .i64 0, .int .i64 0, .slice none 0 0, .slice (some ⟨sb, 0, none⟩) 10 10, .int .i64 1023, .int .i64 0, .int .i64 (-1)] 66)
                  try (have hne : A3.heap.size ≠ g0 := by have := (World.ownsRow.lt row g0 (by simp [Value.ownBlock])).2; omega)
                  try (replace row := kp ka row)
                  try (replace hown6 := kp ka hown6)
                  generalize A3.heap.size = h10 at *
                  generalize A3.alloc (.cells #[.string ⟨#[]⟩, .int .i64 0, .int .i64 0, .int .i64 0, .int .i64 0, .int .i64 0, .slice none 0 0, .slice (some ⟨sb, 0, none⟩) 10 10, .int .i64 1023, .int .i64 0, .int .i64 (-1)] 66) = A4 at *
                  clear ka
                  refine hK.out _ _ kA4 (fun hS => ?_)
                  clear hK K
                  try simp only [Act.put, List.getElem_toArray, List.getElem_cons_succ, List.getElem_cons_zero, List.setIfInBounds_toArray, List.set_cons_zero, List.set_cons_succ]
                  refine wpAnyH_ready (rs := [11]) (by kernel_rfl) (by simp) ?_
                  refine AllReadyH.cons rfl (fun K hK => ?_) AllReadyH.nil
                  refine step_append_ownN rfl (.tmp 96) (.tmp 100) 22 rfl wr.heap.size 66 io _ 11 128 Try.underlying22 hio hzo0 hzo1 hzo2 rfl (by decide) (.slice (some ⟨g6, 0, none⟩) k c6) k (O.flatMap encOneL) (by rfl) hown6 ⟨h10, 0, none⟩ 1 1 [.string ⟨#[]⟩, .int .i64 0, .int .i64 0, .int .i64 0, .int .i64 0, .int .i64 0, .slice none 0 0, .slice (some ⟨sb, 0, none⟩) 10 10, .int .i64 1023, .int .i64 0, .int .i64 (-1)] (by rfl) rfl (news_of n10) (by simp [Value.oneCell']) (by simp only [maxLen]; omega) (by omega) kA4.size ?_
                  intro v11 A5 hown11 hgrow11 hnil11
                  have kA5 := keeps_grownM kA4 hgrow11 (fun g hg => (World.ownsRow.lt hown6 g hg).1)
                  obtain ⟨g11, c11, rfl⟩ := row_some hown11 (fun e => by have := (hnil11.1 e).1; cases this)
                  clear hgrow11 hnil11 hown6 n10
                  refine hK.out _ _ kA5 (fun hS => ?_)
                  clear hK K
                  try simp only [Act.put, List.getElem_toArray, List.getElem_cons_succ, List.getElem_cons_zero, List.setIfInBounds_toArray, List.set_cons_zero, List.set_cons_succ]
                  refine wpAnyH_ready (rs := [12]) (by kernel_rfl) (by simp) ?_
                  refine AllReadyH.cons rfl (fun K hK => ?_) AllReadyH.nil
                  have hrowO : A5.ownsRow wr.heap.size 66 11 (.slice (some ⟨g11, 0, none⟩) (k + 1) c11) (O ++ [lastO (some ⟨sb, 0, none⟩)]).length ((O ++ [lastO (some ⟨sb, 0, none⟩)]).flatMap encOneL) := by
                    rw [List.length_append, HOk.out, List.flatMap_append]
                    simpa [lastO, encOneL, encRaw] using hown11
                  have hb := blocks_spec A5 _ _ (sliceFrom_row (enc := encOneL) encOneL_len hrowO).arg
                  rw [T2of_eq (some ⟨sb, 0, none⟩) (by rw [HOk.out]; omega), ← HT2.out.1] at hb
                  unfold BlksPost at hb
                  have hwW := Nat.le_trans hk1 kA5.size
                  have Hbb := Lib.hid hb
                  clear hb hrowO hown11
                  go_simp
                  go_at_call 6
                  refine Hbb.out.mono ?_
                  rintro e A6 ⟨gm2, cm2, mb3, vt3, rfl, hm3, -, -, -, hkA6⟩
                  have kA6 := kA5.trans hkA6
                  have hm4 := hm3.low hwW
                  clear hkA6 hm3 Hbb
                  go_simp
                  refine hK.out _ _ kA6 (fun hS => ?_)
                  clear hK K
                  try simp only [Act.put, List.getElem_toArray, List.getElem_cons_succ, List.getElem_cons_zero, List.setIfInBounds_toArray, List.set_cons_zero, List.set_cons_succ]
                  refine wpAnyH_take (i := 13) (v := ?_) rfl (by kernel_rfl) (by kernel_rfl) (by kernel_rfl) (fun _ _ _ h => h) (Or.inl ⟨by rfl, ?_⟩) (by assumption) ?_
                  rotate_left
                  · intro w' s1; go_simp; (try with_reducible rfl)
                  simp only [Act.put, List.getElem_toArray, List.getElem_cons_succ, List.getElem_cons_zero, List.setIfInBounds_toArray, List.set_cons_zero, List.set_cons_succ]
                  refine wpAnyH_take (i := 14) (v := ?_) rfl (by kernel_rfl) (by kernel_rfl) (by kernel_rfl) (fun _ _ _ h => h) (Or.inl ⟨by rfl, ?_⟩) (by assumption) ?_
                  rotate_left
                  · intro w' s1; go_simp; (try with_reducible rfl)
                  simp only [Act.put, List.getElem_toArray, List.getElem_cons_succ, List.getElem_cons_zero, List.setIfInBounds_toArray, List.set_cons_zero, List.set_cons_succ]
                  refine wpAnyH_take (i := 15) (v := ?_) rfl (by kernel_rfl) (by kernel_rfl) (by kernel_rfl) (fun _ _ _ h => h) (Or.inl ⟨by rfl, ?_⟩) (by assumption) ?_
                  rotate_left
                  · intro w' s1; go_simp; (try with_reducible rfl)
                  simp only [Act.put, List.getElem_toArray, List.getElem_cons_succ, List.getElem_cons_zero, List.setIfInBounds_toArray, List.set_cons_zero, List.set_cons_succ]
                  refine wpAnyH_take (i := 16) (v := ?_) rfl (by kernel_rfl) (by kernel_rfl) (by kernel_rfl) (fun _ _ _ h => h) (Or.inl ⟨by rfl, ?_⟩) (by assumption) ?_
                  rotate_left
                  · intro w' s1; go_simp; (try with_reducible rfl)
                  simp only [Act.put, List.getElem_toArray, List.getElem_cons_succ, List.getElem_cons_zero, List.setIfInBounds_toArray, List.set_cons_zero, List.set_cons_succ]
                  refine wpAnyH_ready (rs := [17]) (by kernel_rfl) (by simp) ?_
                  refine AllReadyH.cons rfl (fun K hK => ?_) AllReadyH.nil
                  go_simp
                  have kA7 := kA6
                  refine hK.out _ _ kA7 (fun hS => ?_)
                  clear hK K
                  try simp only [Act.put, List.getElem_toArray, List.getElem_cons_succ, List.getElem_cons_zero, List.setIfInBounds_toArray, List.set_cons_zero, List.set_cons_succ]
                  refine wpAnyH_ready (rs := [18]) (by kernel_rfl) (by simp) ?_
                  refine AllReadyH.cons rfl (fun K hK => ?_) AllReadyH.nil
                  go_simp
                  have kA8 := kA7
                  refine hK.out _ _ kA8 (fun hS => ?_)
                  clear hK K
                  try simp only [Act.put, List.getElem_toArray, List.getElem_cons_succ, List.getElem_cons_zero, List.setIfInBounds_toArray, List.set_cons_zero, List.set_cons_succ]
                  refine wpAnyH_ready (rs := [19]) (by kernel_rfl) (by simp) ?_
                  refine AllReadyH.cons rfl (fun K hK => ?_) AllReadyH.nil
                  go_simp
                  have kA9 := kA8
                  refine hK.out _ _ kA9 (fun hS => ?_)
                  clear hK K
                  try simp only [Act.put, List.getElem_toArray, List.getElem_cons_succ, List.getElem_cons_zero, List.setIfInBounds_toArray, List.set_cons_zero, List.set_cons_succ]
                  refine wpAnyH_done (by kernel_rfl) ?_ _
                  have HF := Lib.hid (And.intro hm4 kA9)
                  clear hS hm4
                  go_wp2_with fail
                  go_meet
                  case rel => exact ⟨gm2, cm2, rfl, HF.out⟩
                refine AllReadyH.cons rfl (fun K hK => ?_) AllReadyH.nil
                go_simp
                have ka := (Keeps.refl [] A2).alloc (.cells #[.string ⟨#[]⟩, .int .i64 0, .int .i64 0, .int .i64 0, .int .i64 0, .int .i64 0, .slice none 0 0, .slice (some ⟨sb, 0, none⟩) 10 10, .int .i64 1023, .int .i64 0, .int .i64 (-1)] 66)
                have kA3 : Keeps [] wr (A2.alloc (.cells #[.string ⟨#[]⟩, .int .i64 0, .int .i64 0, .int .i64 0, .int .i64 0, .int .i64 0, .slice none 0 0, .slice (some ⟨sb, 0, none⟩) 10 10, .int .i64 1023, .int .i64 0, .int .i64 (-1)] 66)) := kA2.alloc _
                have n10 := heap_new A2 (.cells #[.string ⟨#[]⟩, .int .i64 0, .int .i64 0, .int .i64 0, .int .i64 0, .int .i64 0, .slice none 0 0, .slice (some ⟨sb, 0, none⟩) 10 10, .int .i64 1023, .int .i64 0, .int .i64 (-1)] 66)
                try (have hne : A2.heap.size ≠ g0 := by have := (World.ownsRow.lt row g0 (by simp [Value.ownBlock])).2; omega)
                try (replace row := kp ka row)
                try (replace hown6 := kp ka hown6)
                generalize A2.heap.size = h10 at *
                generalize A2.alloc (.cells #[.string ⟨#[]⟩, .int .i64 0, .int .i64 0, .int .i64 0, .int .i64 0, .int .i64 0, .slice none 0 0, .slice (some ⟨sb, 0, none⟩) 10 10, .int .i64 1023, .int .i64 0, .int .i64 (-1)] 66) = A3 at *
                clear ka
                refine hK.out _ _ kA3 (fun hS => ?_)
                clear hK K
                try simp only [Act.put, List.getElem_toArray, List.getElem_cons_succ, List.getElem_cons_zero, List.setIfInBounds_toArray, List.set_cons_zero, List.set_cons_succ]
                refine wpAnyH_ready (rs := [6]) (by kernel_rfl) (by simp) ?_
                refine AllReadyH.cons rfl (fun K hK => ?_) AllReadyH.nil
                refine step_append_ownN rfl (.tmp 90) (.tmp 95) 22 rfl wr.heap.size 66 io _ 11 128 Try.underlying22 hio hzo0 hzo1 hzo2 rfl (by decide) (.slice (some ⟨g0, 0, none⟩) 0 0) 0 [] (by rfl) row ⟨bo, oo, none⟩ k cv (O.flatMap encOneL) (by rfl) ((HFl.out O).trans (by rw [HOk.out])) (cells_one (hOr.keep kA3)) (one_cells O) (by simp only [maxLen]; omega) (by omega) kA3.size ?_
                intro v6 A4 hown6 hgrow6 hnil6
                have kA4 := keeps_grownM kA3 hgrow6 (fun g hg => (World.ownsRow.lt row g hg).1)
                obtain ⟨g6, c6, rfl⟩ := row_some hown6 (fun e => by have := (hnil6.1 e).1; cases this)
                rw [Nat.zero_add] at hown6 ⊢
                rw [List.nil_append] at hown6
                try (replace n10 := (keeps_rowM hgrow6).at_ n10 (by simpa [Value.ownBlock] using hne))
                clear hgrow6 hnil6 row
                refine hK.out _ _ kA4 (fun hS => ?_)
                clear hK K
                try simp only [Act.put, List.getElem_toArray, List.getElem_cons_succ, List.getElem_cons_zero, List.setIfInBounds_toArray, List.set_cons_zero, List.set_cons_succ]
                refine wpAnyH_ready (rs := [11]) (by kernel_rfl) (by simp) ?_
                refine AllReadyH.cons rfl (fun K hK => ?_) AllReadyH.nil
                refine step_append_ownN rfl (.tmp 96) (.tmp 100) 22 rfl wr.heap.size 66 io _ 11 128 Try.underlying22 hio hzo0 hzo1 hzo2 rfl (by decide) (.slice (some ⟨g6, 0, none⟩) k c6) k (O.flatMap encOneL) (by rfl) hown6 ⟨h10, 0, none⟩ 1 1 [.string ⟨#[]⟩, .int .i64 0, .int .i64 0, .int .i64 0, .int .i64 0, .int .i64 0, .slice none 0 0, .slice (some ⟨sb, 0, none⟩) 10 10, .int .i64 1023, .int .i64 0, .int .i64 (-1)] (by rfl) rfl (news_of n10) (by simp [Value.oneCell']) (by simp only [maxLen]; omega) (by omega) kA4.size ?_
                intro v11 A5 hown11 hgrow11 hnil11
                have kA5 := keeps_grownM kA4 hgrow11 (fun g hg => (World.ownsRow.lt hown6 g hg).1)
                obtain ⟨g11, c11, rfl⟩ := row_some hown11 (fun e => by have := (hnil11.1 e).1; cases this)
                clear hgrow11 hnil11 hown6 n10
                refine hK.out _ _ kA5 (fun hS => ?_)
                clear hK K
                try simp only [Act.put, List.getElem_toArray, List.getElem_cons_succ, List.getElem_cons_zero, List.setIfInBounds_toArray, List.set_cons_zero, List.set_cons_succ]
                refine wpAnyH_ready (rs := [12]) (by kernel_rfl) (by simp) ?_
                refine AllReadyH.cons rfl (fun K hK => ?_) AllReadyH.nil
                have hrowO : A5.ownsRow wr.heap.size 66 11 (.slice (some ⟨g11, 0, none⟩) (k + 1) c11) (O ++ [lastO (some ⟨sb, 0, none⟩)]).length ((O ++ [lastO (some ⟨sb, 0, none⟩)]).flatMap encOneL) := by
                  rw [List.length_append, HOk.out, List.flatMap_append]
                  simpa [lastO, encOneL, encRaw] using hown11
                have hb := blocks_spec A5 _ _ (sliceFrom_row (enc := encOneL) encOneL_len hrowO).arg
                rw [T2of_eq (some ⟨sb, 0, none⟩) (by rw [HOk.out]; omega), ← HT2.out.1] at hb
                unfold BlksPost at hb
                have hwW := Nat.le_trans hk1 kA5.size
                have Hbb := Lib.hid hb
                clear hb hrowO hown11
                go_simp
                go_at_call 6
                refine Hbb.out.mono ?_
                rintro e A6 ⟨gm2, cm2, mb3, vt3, rfl, hm3, -, -, -, hkA6⟩
                have kA6 := kA5.trans hkA6
                have hm4 := hm3.low hwW
                clear hkA6 hm3 Hbb
                go_simp
                refine hK.out _ _ kA6 (fun hS => ?_)
                clear hK K
                try simp only [Act.put, List.getElem_toArray, List.getElem_cons_succ, List.getElem_cons_zero, List.setIfInBounds_toArray, List.set_cons_zero, List.set_cons_succ]
                refine wpAnyH_take (i := 13) (v := ?_) rfl (by kernel_rfl) (by kernel_rfl) (by kernel_rfl) (fun _ _ _ h => h) (Or.inl ⟨by rfl, ?_⟩) (by assumption) ?_
                rotate_left
                · intro w' s1; go_simp; (try with_reducible rfl)
                simp only [Act.put, List.getElem_toArray, List.getElem_cons_succ, List.getElem_cons_zero, List.setIfInBounds_toArray, List.set_cons_zero, List.set_cons_succ]
                refine wpAnyH_take (i := 14) (v := ?_) rfl (by kernel_rfl) (by kernel_rfl) (by kernel_rfl) (fun _ _ _ h => h) (Or.inl ⟨by rfl, ?_⟩) (by assumption) ?_
                rotate_left
                · intro w' s1; go_simp; (try with_reducible rfl)
                simp only [Act.put, List.getElem_toArray, List.getElem_cons_succ, List.getElem_cons_zero, List.setIfInBounds_toArray, List.set_cons_zero, List.set_cons_succ]
                refine wpAnyH_take (i := 15) (v := ?_) rfl (by kernel_rfl) (by kernel_rfl) (by kernel_rfl) (fun _ _ _ h => h) (Or.inl ⟨by rfl, ?_⟩) (by assumption) ?_
                rotate_left
                · intro w' s1; go_simp; (try with_reducible rfl)
                simp only [Act.put, List.getElem_toArray, List.getElem_cons_succ, List.getElem_cons_zero, List.setIfInBounds_toArray, List.set_cons_zero, List.set_cons_succ]
                refine wpAnyH_take (i := 16) (v := ?_) rfl (by kernel_rfl) (by kernel_rfl) (by kernel_rfl) (fun _ _ _ h => h) (Or.inl ⟨by rfl, ?_⟩) (by assumption) ?_
                rotate_left
                · intro w' s1; go_simp; (try with_reducible rfl)
                simp only [Act.put, List.getElem_toArray, List.getElem_cons_succ, List.getElem_cons_zero, List.setIfInBounds_toArray, List.set_cons_zero, List.set_cons_succ]
                refine wpAnyH_ready (rs := [17]) (by kernel_rfl) (by simp) ?_
                refine AllReadyH.cons rfl (fun K hK => ?_) AllReadyH.nil
                go_simp
                have kA7 := kA6
                refine hK.out _ _ kA7 (fun hS => ?_)
                clear hK K
                try simp only [Act.put, List.getElem_toArray, List.getElem_cons_succ, List.getElem_cons_zero, List.setIfInBounds_toArray, List.set_cons_zero, List.set_cons_succ]
                refine wpAnyH_ready (rs := [18]) (by kernel_rfl) (by simp) ?_
                refine AllReadyH.cons rfl (fun K hK => ?_) AllReadyH.nil
                go_simp
                have kA8 := kA7
                refine hK.out _ _ kA8 (fun hS => ?_)
                clear hK K
                try simp only [Act.put, List.getElem_toArray, List.getElem_cons_succ, List.getElem_cons_zero, List.setIfInBounds_toArray, List.set_cons_zero, List.set_cons_succ]
                refine wpAnyH_ready (rs := [19]) (by kernel_rfl) (by simp) ?_
                refine AllReadyH.cons rfl (fun K hK => ?_) AllReadyH.nil
                go_simp
                have kA9 := kA8
                refine hK.out _ _ kA9 (fun hS => ?_)
                clear hK K
                try simp only [Act.put, List.getElem_toArray, List.getElem_cons_succ, List.getElem_cons_zero, List.setIfInBounds_toArray, List.set_cons_zero, List.set_cons_succ]
                refine wpAnyH_done (by kernel_rfl) ?_ _
                have HF := Lib.hid (And.intro hm4 kA9)
                clear hS hm4
                go_wp2_with fail
                go_meet
                case rel => exact ⟨gm2, cm2, rfl, HF.out⟩
              refine AllReadyH.cons rfl (fun K hK => ?_) AllReadyH.nil
              go_simp
              have ka := (Keeps.refl [] A1).alloc (.cells #[.string ⟨#[]⟩, .int .i64 0, .int .i64 0, .int .i64 0, .int .i64 0, .int .i64 0, .slice none 0 0, .slice (some ⟨sb, 0, none⟩) 10 10, .int .i64 1023, .int .i64 0, .int .i64 (-1)] 66)
              have kA2 : Keeps [] wr (A1.alloc (.cells #[.string ⟨#[]⟩, .int .i64 0, .int .i64 0, .int .i64 0, .int .i64 0, .int .i64 0, .slice none 0 0, .slice (some ⟨sb, 0, none⟩) 10 10, .int .i64 1023, .int .i64 0, .int .i64 (-1)] 66)) := kA1.alloc _
              have n10 := heap_new A1 (.cells #[.string ⟨#[]⟩, .int .i64 0, .int .i64 0, .int .i64 0, .int .i64 0, .int .i64 0, .slice none 0 0, .slice (some ⟨sb, 0, none⟩) 10 10, .int .i64 1023, .int .i64 0, .int .i64 (-1)] 66)
              try (have hne : A1.heap.size ≠ g0 := by have := (World.ownsRow.lt row g0 (by simp [Value.ownBlock])).2; omega)
              try (replace row := kp ka row)
              try (replace hown6 := kp ka hown6)
              generalize A1.heap.size = h10 at *
              generalize A1.alloc (.cells #[.string ⟨#[]⟩, .int .i64 0, .int .i64 0, .int .i64 0, .int .i64 0, .int .i64 0, .slice none 0 0, .slice (some ⟨sb, 0, none⟩) 10 10, .int .i64 1023, .int .i64 0, .int .i64 (-1)] 66) = A2 at *
              clear ka
              refine hK.out _ _ kA2 (fun hS => ?_)
              clear hK K
              try simp only [Act.put, List.getElem_toArray, List.getElem_cons_succ, List.getElem_cons_zero, List.setIfInBounds_toArray, List.set_cons_zero, List.set_cons_succ]
              refine wpAnyH_ready (rs := [0]) (by kernel_rfl) (by simp) ?_
              refine AllReadyH.cons rfl (fun K hK => ?_) AllReadyH.nil
              go_simp
              have ka := (Keeps.refl [] A2).alloc (.cells #[] 66)
              have kA3 : Keeps [] wr (A2.alloc (.cells #[] 66)) := kA2.alloc _
              have row := ownsRow_made A2 wr.heap.size 66 11 kA2.size
              try (have hne : h10 ≠ A2.heap.size := by have := lt_of_at n10; omega)
              try (replace n10 := kp ka n10)
              generalize A2.heap.size = g0 at *
              generalize A2.alloc (.cells #[] 66) = A3 at *
              clear ka
              refine hK.out _ _ kA3 (fun hS => ?_)
              clear hK K
              try simp only [Act.put, List.getElem_toArray, List.getElem_cons_succ, List.getElem_cons_zero, List.setIfInBounds_toArray, List.set_cons_zero, List.set_cons_succ]
              refine wpAnyH_ready (rs := [6]) (by kernel_rfl) (by simp) ?_
              refine AllReadyH.cons rfl (fun K hK => ?_) AllReadyH.nil
              refine step_append_ownN rfl (.tmp 90) (.tmp 95) 22 rfl wr.heap.size 66 io _ 11 128 Try.underlying22 hio hzo0 hzo1 hzo2 rfl (by decide) (.slice (some ⟨g0, 0, none⟩) 0 0) 0 [] (by rfl) row ⟨bo, oo, none⟩ k cv (O.flatMap encOneL) (by rfl) ((HFl.out O).trans (by rw [HOk.out])) (cells_one (hOr.keep kA3)) (one_cells O) (by simp only [maxLen]; omega) (by omega) kA3.size ?_
              intro v6 A4 hown6 hgrow6 hnil6
              have kA4 := keeps_grownM kA3 hgrow6 (fun g hg => (World.ownsRow.lt row g hg).1)
              obtain ⟨g6, c6, rfl⟩ := row_some hown6 (fun e => by have := (hnil6.1 e).1; cases this)
              rw [Nat.zero_add] at hown6 ⊢
              rw [List.nil_append] at hown6
              try (replace n10 := (keeps_rowM hgrow6).at_ n10 (by simpa [Value.ownBlock] using hne))
              clear hgrow6 hnil6 row
              refine hK.out _ _ kA4 (fun hS => ?_)
              clear hK K
              try simp only [Act.put, List.getElem_toArray, List.getElem_cons_succ, List.getElem_cons_zero, List.setIfInBounds_toArray, List.set_cons_zero, List.set_cons_succ]
              refine wpAnyH_ready (rs := [11]) (by kernel_rfl) (by simp) ?_
              refine AllReadyH.cons rfl (fun K hK => ?_) AllReadyH.nil
              refine step_append_ownN rfl (.tmp 96) (.tmp 100) 22 rfl wr.heap.size 66 io _ 11 128 Try.underlying22 hio hzo0 hzo1 hzo2 rfl (by decide) (.slice (some ⟨g6, 0, none⟩) k c6) k (O.flatMap encOneL) (by rfl) hown6 ⟨h10, 0, none⟩ 1 1 [.string ⟨#[]⟩, .int .i64 0, .int .i64 0, .int .i64 0, .int .i64 0, .int .i64 0, .slice none 0 0, .slice (some ⟨sb, 0, none⟩) 10 10, .int .i64 1023, .int .i64 0, .int .i64 (-1)] (by rfl) rfl (news_of n10) (by simp [Value.oneCell']) (by simp only [maxLen]; omega) (by omega) kA4.size ?_
              intro v11 A5 hown11 hgrow11 hnil11
              have kA5 := keeps_grownM kA4 hgrow11 (fun g hg => (World.ownsRow.lt hown6 g hg).1)
              obtain ⟨g11, c11, rfl⟩ := row_some hown11 (fun e => by have := (hnil11.1 e).1; cases this)
              clear hgrow11 hnil11 hown6 n10
              refine hK.out _ _ kA5 (fun hS => ?_)
              clear hK K
              try simp only [Act.put, List.getElem_toArray, List.getElem_cons_succ, List.getElem_cons_zero, List.setIfInBounds_toArray, List.set_cons_zero, List.set_cons_succ]
              refine wpAnyH_ready (rs := [12]) (by kernel_rfl) (by simp) ?_
              refine AllReadyH.cons rfl (fun K hK => ?_) AllReadyH.nil
              have hrowO : A5.ownsRow wr.heap.size 66 11 (.slice (some ⟨g11, 0, none⟩) (k + 1) c11) (O ++ [lastO (some ⟨sb, 0, none⟩)]).length ((O ++ [lastO (some ⟨sb, 0, none⟩)]).flatMap encOneL) := by
                rw [List.length_append, HOk.out, List.flatMap_append]
                simpa [lastO, encOneL, encRaw] using hown11
              have hb := blocks_spec A5 _ _ (sliceFrom_row (enc := encOneL) encOneL_len hrowO).arg
              rw [T2of_eq (some ⟨sb, 0, none⟩) (by rw [HOk.out]; omega), ← HT2.out.1] at hb
              unfold BlksPost at hb
              have hwW := Nat.le_trans hk1 kA5.size
              have Hbb := Lib.hid hb
              clear hb hrowO hown11
              go_simp
              go_at_call 6
              refine Hbb.out.mono ?_
              rintro e A6 ⟨gm2, cm2, mb3, vt3, rfl, hm3, -, -, -, hkA6⟩
              have kA6 := kA5.trans hkA6
              have hm4 := hm3.low hwW
              clear hkA6 hm3 Hbb
              go_simp
              refine hK.out _ _ kA6 (fun hS => ?_)
              clear hK K
              try simp only [Act.put, List.getElem_toArray, List.getElem_cons_succ, List.getElem_cons_zero, List.setIfInBounds_toArray, List.set_cons_zero, List.set_cons_succ]
              refine wpAnyH_take (i := 13) (v := ?_) rfl (by kernel_rfl) (by kernel_rfl) (by kernel_rfl) (fun _ _ _ h => h) (Or.inl ⟨by rfl, ?_⟩) (by assumption) ?_
              rotate_left
              · intro w' s1; go_simp; (try with_reducible rfl)
              simp only [Act.put, List.getElem_toArray, List.getElem_cons_succ, List.getElem_cons_zero, List.setIfInBounds_toArray, List.set_cons_zero, List.set_cons_succ]
              refine wpAnyH_take (i := 14) (v := ?_) rfl (by kernel_rfl) (by kernel_rfl) (by kernel_rfl) (fun _ _ _ h => h) (Or.inl ⟨by rfl, ?_⟩) (by assumption) ?_
              rotate_left
              · intro w' s1; go_simp; (try with_reducible rfl)
              simp only [Act.put, List.getElem_toArray, List.getElem_cons_succ, List.getElem_cons_zero, List.setIfInBounds_toArray, List.set_cons_zero, List.set_cons_succ]
              refine wpAnyH_take (i := 15) (v := ?_) rfl (by kernel_rfl) (by kernel_rfl) (by kernel_rfl) (fun _ _ _ h => h) (Or.inl ⟨by rfl, ?_⟩) (by assumption) ?_
              rotate_left
              · intro w' s1; go_simp; (try with_reducible rfl)
              simp only [Act.put, List.getElem_toArray, List.getElem_cons_succ, List.getElem_cons_zero, List.setIfInBounds_toArray, List.set_cons_zero, List.set_cons_succ]
              refine wpAnyH_take (i := 16) (v := ?_) rfl (by kernel_rfl) (by kernel_rfl) (by kernel_rfl) (fun _ _ _ h => h) (Or.inl ⟨by rfl, ?_⟩) (by assumption) ?_
              rotate_left
              · intro w' s1; go_simp; (try with_reducible rfl)
              simp only [Act.put, List.getElem_toArray, List.getElem_cons_succ, List.getElem_cons_zero, List.setIfInBounds_toArray, List.set_cons_zero, List.set_cons_succ]
              refine wpAnyH_ready (rs := [17]) (by kernel_rfl) (by simp) ?_
              refine AllReadyH.cons rfl (fun K hK => ?_) AllReadyH.nil
              go_simp
              have kA7 := kA6
              refine hK.out _ _ kA7 (fun hS => ?_)
              clear hK K
              try simp only [Act.put, List.getElem_toArray, List.getElem_cons_succ, List.getElem_cons_zero, List.setIfInBounds_toArray, List.set_cons_zero, List.set_cons_succ]
              refine wpAnyH_ready (rs := [18]) (by kernel_rfl) (by simp) ?_
              refine AllReadyH.cons rfl (fun K hK => ?_) AllReadyH.nil
              go_simp
              have kA8 := kA7
              refine hK.out _ _ kA8 (fun hS => ?_)
              clear hK K
              try simp only [Act.put, List.getElem_toArray, List.getElem_cons_succ, List.getElem_cons_zero, List.setIfInBounds_toArray, List.set_cons_zero, List.set_cons_succ]
              refine wpAnyH_ready (rs := [19]) (by kernel_rfl) (by simp) ?_
              refine AllReadyH.cons rfl (fun K hK => ?_) AllReadyH.nil
              go_simp
              have kA9 := kA8
              refine hK.out _ _ kA9 (fun hS => ?_)
              clear hK K
              try simp only [Act.put, List.getElem_toArray, List.getElem_cons_succ, List.getElem_cons_zero, List.setIfInBounds_toArray, List.set_cons_zero, List.set_cons_succ]
              refine wpAnyH_done (by kernel_rfl) ?_ _
              have HF := Lib.hid (And.intro hm4 kA9)
              clear hS hm4
              go_wp2_with fail
              go_meet
              case rel => exact ⟨gm2, cm2, rfl, HF.out⟩
            case rest =>
              obtain ⟨gm2, cm2, rfl, hm2, hk2⟩ := hcut
              obtain ⟨k2, hk2e⟩ : ∃ n, n = T2.length := ⟨_, rfl⟩
              have hk2k : k2 = k + 1 := hk2e.trans HT2.out.2
              have hinv2 : BlkInv10 T2 := by rw [HT2.out.1]; exact T2of_inv (by rw [HOk.out]; omega)
              have hT2k : (T2.map (·.1)).length = k2 := by rw [List.length_map, hk2e]
              rw [← hk2e] at hm2 ⊢
              have hkt : k < (T2.map (·.1)).length := by omega
              have hnd2 : ((T2.map (·.1)).map (·.id)).Nodup := by
                rw [List.map_map]
                exact hinv2.nodup (by omega)
              have hk12 : k2 ≤ 10 := by omega
              have hwc := Nat.le_trans hk1 hk2.size
              have hn2 := new_spec w.heap.size wc 0 ⟨gm2, 0, none⟩ k2 cm2 (T2.map (·.1)) none [] hm2 (by omega) hnd2 hwc (.inr ⟨rfl, rfl⟩)
              have Hn2 := Lib.hid hn2
              have hsub : IntKind.i64.wrap ((k2 : Int) - 1) = (k : Int) := by rw [IntWalk.i64_in _ (by omega)]; omega
              have hkk1 : (0 : Int) ≤ (k : Int) := by omega
              have hkk2 : (k : Int) < (k2 : Int) := by omega
              have H9 := Lib.hid (And.intro hm2 (And.intro (H8.out.2.trans hk2) hwc))
              have HI2 := Lib.hid (And.intro hinv2 (And.intro hnd2 (And.intro hT2k hk2k)))
              clear hm2 hk2 hk2e hk2k hinv2 hnd2 hwc hn2 H8 hk1
              go_wp2_with fail
              refine Hn2.out.mono ?_
              rintro e wn ⟨L2, v2, mb4, rfl, hp2, hr2, hmn, hqn, hln, hkn⟩
              obtain ⟨a2, c2, rfl⟩ := hmn.form
              have hL2k : L2.length = k2 := by rw [hp2.length_eq]; exact HI2.out.2.2.1
              rw [hL2k] at hmn ⊢
              obtain ⟨zb, hzb⟩ : ∃ b, b = wn.heap.size := ⟨_, rfl⟩
              obtain ⟨lb, hlb⟩ : ∃ b, b = zb + 1 := ⟨_, rfl⟩
              have kna := (Keeps.refl [] wn).alloc (.cells #[.int .i64 0, .slice a2 k2 c2, .map (some mb4)] 29)
              have nna := heap_new wn (.cells #[.int .i64 0, .slice a2 k2 c2, .map (some mb4)] 29)
              rw [← hzb] at nna
              have hmt := kp (hkn.trans kna) H9.out.1
              generalize hWn : wn.alloc (.cells #[.int .i64 0, .slice a2 k2 c2, .map (some mb4)] 29) = Wn at kna nna hmt
              have hWs : Wn.heap.size = lb := by rw [← hWn]; simp; omega
              obtain ⟨bl, ofl, afl, cfl, aol, col, ea, hbl, hmvl, d0l, d1l, d2l, d3l, d4l, d5l, d6l, d7l⟩ := MetasV.elem hmt k hkt
              injection ea with ea
              injection ea with e1 e2 _
              subst e1 e2
              simp only [Nat.zero_add] at d0l d1l d2l d3l d4l d5l d6l d7l
              obtain ⟨l1, hl1⟩ : ∃ m, m = (T2.map (·.1))[k] := ⟨_, rfl⟩
              rw [← hl1] at hmvl d0l d1l d2l d3l d4l d5l d6l d7l
              have knb := (Keeps.refl [] Wn).alloc (.cells #[.string l1.id, .int .i64 l1.mn, .int .i64 l1.mx, .int .i64 l1.level, .int .i64 l1.series, .int .i64 l1.samples, .slice afl l1.files.length cfl, .slice aol l1.sources.length col] 56)
              have nnb := heap_new Wn (.cells #[.string l1.id, .int .i64 l1.mn, .int .i64 l1.mx, .int .i64 l1.level, .int .i64 l1.series, .int .i64 l1.samples, .slice afl l1.files.length cfl, .slice aol l1.sources.length col] 56)
              rw [hWs] at nnb
              have hlm : l1 ∈ L2 := hp2.symm.subset (by rw [hl1]; exact List.getElem_mem _)
              have HN := Lib.hid (And.intro (kp (kna.trans knb) hmn) (And.intro (kp ((hkn.trans kna).trans knb) H9.out.2) (And.intro (kp knb nna) (And.intro nnb (kp knb hmvl)))))
              have HL2 := Lib.hid (And.intro hp2 (And.intro hr2 (And.intro hL2k hlm)))
              have Hzl := Lib.hid (And.intro hzb (And.intro hlb (And.intro hWn hWs)))
              clear hp2 hr2 hmn hqn hln hkn hL2k kna nna hmt knb nnb hlm hmvl hzb hlb hWs hl1 H9 Hn2
              go_upto_region 26 with fail
              rw [← Hzl.out.1]
              try rw [Hzl.out.2.2.1]
              clear hWn
              go_upto_region 27 with fail
              try rw [Hzl.out.2.2.2]
              clear d0l d1l d2l d3l d4l d5l d6l d7l
              generalize Wn.alloc (.cells #[.string l1.id, .int .i64 l1.mn, .int .i64 l1.mx, .int .i64 l1.level, .int .i64 l1.series, .int .i64 l1.samples, .slice afl l1.files.length cfl, .slice aol l1.sources.length col] 56) = Wl at HN ⊢
              clear Hzl hsub
              have hsr2 : ∀ m ∈ L2, m.sources.length ≤ 50 := fun m hm => by
                obtain ⟨p, hp, rfl⟩ := List.mem_map.1 (HL2.out.1.subset hm)
                have := HI2.out.1.few p hp
                omega
              have hl20 : L2.length ≤ 20 := by have := HL2.out.2.2.1; omega
              have Hlv2 := Lib.hid (live_spec w.heap.size Wl 0 (some mb4) (.slice a2 k2 c2) L2 HN.out.1 hl20 hsr2 HN.out.2.1.2)
              have cz := cells_at HN.out.2.2.1
              have lz := lt_of_at HN.out.2.2.1
              clear hsr2 hl20
              go_wp2_with fail
              refine Hlv2.out.mono ?_
              rintro e w7 ⟨v7, rfl, hml7, hk7⟩
              obtain ⟨a7, c7, rfl⟩ := hml7.form
              obtain ⟨Q2, hQ2⟩ : ∃ Q, Q = liveL L2 := ⟨_, rfl⟩
              have hQ2l : Q2.length ≤ 10 := by
                have := List.length_filter_le (aliveB L2) L2
                have := HL2.out.2.2.1
                rw [hQ2]
                unfold liveL
                omega
              rw [← hQ2] at hml7 ⊢
              have HQ2 := Lib.hid hQ2
              have H10 := Lib.hid (And.intro (kp hk7 HN.out) hml7)
              clear hml7 hk7 Hlv2 cz lz HN hQ2
              go_wp2_with fail
              go_loopg [117] Q2.length (LvRel2 w7 Q2.length)
              case atStart => exact ⟨0, Nat.zero_le _, rfl, rfl, Keeps.refl _ _⟩
              case round =>
                obtain ⟨j, hj, hgj, rfl, hkj⟩ := hrel
                have Hgj := Lib.hid hgj
                by_cases hltj : j < Q2.length
                · have hmz := kp hkj H10.out.2
                  have hltj' : (j : Int) < (Q2.length : Int) := by omega
                  have hjl : Q2[j] ∈ liveL L2 := by rw [← HQ2.out]; exact List.getElem_mem _
                  obtain ⟨bz, ofz, afz, cfz, aoz, coz, ea, hbz, hmvz, d0z, d1z, d2z, d3z, d4z, d5z, d6z, d7z⟩ := MetasV.elem hmz j hltj
                  subst ea
                  obtain ⟨z1, hz1⟩ : ∃ m, m = Q2[j] := ⟨_, rfl⟩
                  rw [← hz1] at hmvz d0z d1z d2z d3z d4z d5z d6z d7z
                  rw [← hz1] at hjl
                  have hzn : hasB l1.sources z1.id = false := by
                    have h := (mem_live.1 hjl).2 l1 HL2.out.2.2.2
                    rw [← hasB_iff] at h
                    simpa using h
                  have ka : Keeps [] wr (wr.alloc (.cells #[.string z1.id, .int .i64 z1.mn, .int .i64 z1.mx, .int .i64 z1.level, .int .i64 z1.series, .int .i64 z1.samples, .slice afz z1.files.length cfz, .slice aoz z1.sources.length coz] 56)) := (Keeps.refl [] wr).alloc _
                  have na := heap_new wr (.cells #[.string z1.id, .int .i64 z1.mn, .int .i64 z1.mx, .int .i64 z1.level, .int .i64 z1.series, .int .i64 z1.samples, .slice afz z1.files.length cfz, .slice aoz z1.sources.length coz] 56)
                  have nl := kp (hkj.trans ka) H10.out.1.2.2.2
                  have Hls := Lib.hid (lists_spec w.heap.size _ [.string l1.id, .int .i64 l1.mn, .int .i64 l1.mx, .int .i64 l1.level, .int .i64 l1.series, .int .i64 l1.samples, .slice afl l1.files.length cfl, .slice aol l1.sources.length col] l1 z1.id nl.2)
                  rw [hzn] at Hls
                  have Hk := Lib.hid (hkj.trans ka)
                  have nl1 := nl.1
                  clear hgj hkj hmz hz1 hzn hmvz hjl nl
                  go_upto_region 30 with fail
                  clear d0z d1z d2z d3z d4z d5z d6z d7z
                  generalize hWb : wr.alloc (.cells #[.string z1.id, .int .i64 z1.mn, .int .i64 z1.mx, .int .i64 z1.level, .int .i64 z1.series, .int .i64 z1.samples, .slice afz z1.files.length cfz, .slice aoz z1.sources.length coz] 56) = Wb at Hls Hk na nl1 ka ⊢
                  generalize hzbb : wr.heap.size = zb2 at na ⊢
                  clear hWb hzbb ka
                  have cz := cells_at na
                  have lz := lt_of_at na
                  have cl := cells_at nl1
                  have ll := lt_of_at nl1
                  clear na nl1
                  go_wp2_with fail
                  refine Hls.out.mono ?_
                  rintro e w8 ⟨rfl, hk8⟩
                  have Hk8 := Lib.hid (Hk.out.trans hk8)
                  clear hk8 cz lz cl ll
                  go_wp2_with fail
                  go_roundg (Q2.length - (j + 1))
                  case measure => have := Hgj.out; omega
                  case rel => exact ⟨j + 1, by omega, rfl, by go_num, Hk8.out⟩
                · have hge : ¬ (j : Int) < (Q2.length : Int) := by omega
                  have H11 := Lib.hid (kp hkj H10.out.1)
                  have hfs := find_spec w.heap.size wr 0 (.map (some mb4)) (.slice a2 k2 c2) L2 l1.id H11.out.1 (by have := HL2.out.2.2.1; omega) HL2.out.2.1 (some mb4) rfl
                  have Hfs := Lib.hid hfs
                  have cz := cells_at H11.out.2.2.1
                  have lz := lt_of_at H11.out.2.2.1
                  have cl := cells_at H11.out.2.2.2.1
                  have ll := lt_of_at H11.out.2.2.2.1
                  clear hgj hkj H10 hfs
                  go_wp2_with fail
                  refine Hfs.out.mono ?_
                  rintro e w8 ⟨vs, ok, rfl, hok, hmv8, hk8⟩
                  have hok1 : ok = true := hok.2 ⟨l1, HL2.out.2.2.2, rfl⟩
                  subst hok1
                  obtain ⟨mf, -, -, vff, voo, rfl, hff, hoo⟩ := hmv8 rfl
                  obtain ⟨af8, cf8, rfl, -, -, -, -⟩ := hff
                  obtain ⟨ao8, co8, rfl, -, -, -, -⟩ := hoo
                  have H12 := Lib.hid (H11.out.2.1.1.trans (hk8.trans ((Keeps.refl [] w8).alloc (.cells #[.string mf.id, .int .i64 mf.mn, .int .i64 mf.mx, .int .i64 mf.level, .int .i64 mf.series, .int .i64 mf.samples, .slice af8 mf.files.length cf8, .slice ao8 mf.sources.length co8] 56))))
                  clear hok hmv8 hk8 Hfs cz lz cl ll H11
                  go_wp2_with fail
                  refine (awake10_spec _).mono ?_
                  rintro e w9 ⟨rfl, hk9⟩
                  have HF := Lib.hid (H12.out.trans hk9)
                  clear hk9
                  go_wp2_with fail
                  go_ret
                  exact ⟨rfl, HF.out⟩

theorem listingLive_law (W : World) (v : Value) (h : ∃ L : List OneL, SliceArg 11 encOneL W v L ∧ CapOk v) :
    Calls Try.prog 5 #[v] W fun e w' => e = .returned (.bool true) ∧ Keeps [] W w' := by
  obtain ⟨L, hs, hc⟩ := h
  exact listingLive_walk W v L hs hc
end Go.Proofs.Ythlmlneiehijkaa
