/-
  SweepClean answers true for all lists of objects and all configs, and leaves all memory that was there as it was.
  No condition: every input that can be read.
-/
import Derived.Test.YtaccjmdljiignaaSweepHalf
import Derived.OpenShut
namespace Go.Proofs.Ytaccjmdljiignaa
open Go Go.RowKit Go.Conc

/-- What is left behind a round: blocks that have a meta, and aren't marked. -/
theorem clean_left {s : Bkt × PartsM} {k : Nat} (h : FillInv s k) {d g p : Int} (hd : d ≤ 31) (hg : g ≤ 31) {n : ByteArray} (hn : n ∈ (delAll s.1 (victR (d, g, p) 100 s.1)).map (·.1)) :
    ∃ id part : ByteArray, splitL n.data.toList = some (id.data.toList, part.data.toList) ∧ id.size = 16 ∧ look s.2 id = none ∧ (look (delAll s.1 (victR (d, g, p) 100 s.1)) (objectB id metaB)).isSome = true := by
  obtain ⟨h1, h2⟩ := (mem_delAll h.parted.nodup).1 hn
  obtain ⟨id, part, hi, hp, rfl⟩ := h.parted.name h1
  obtain ⟨c1, c2, c3⟩ := victR_clean h.parted hd hg (by decide) hi hp h1 h2
  refine ⟨id, part, object_split hi hp, id_size hi, by rw [h.marks, c1], ?_⟩
  exact isSome_of_mem ((mem_delAll h.parted.nodup).2 ⟨c2, c3 _ (by simp [partsB])⟩)

def CLookRel (w5 : World) (n gk : Nat) (u : Value) (wr : World) : Prop := ∃ i, i ≤ n ∧ gk = n - i ∧ u = .int .i64 i ∧ Keeps [] w5 wr


set_option linter.unusedSimpArgs false in
set_option maxRecDepth 100000 in
set_option maxHeartbeats 1000000 in
theorem sweepClean_walk (w : World) (hv : LibVar w) (v : Value) (L : List OneS) (hL : SliceArg 6 encOne w v L) (c0 c1 c2 : Int) :
    Calls Try.prog 8 #[v, .agg #[.int .i64 c0, .int .i64 c1, .int .i64 c2]] w fun e w' => e = .returned (.bool true) ∧ Keeps [] w w' := by
  have kb : Keeps [] w (w.alloc (.cells #[.int .i64 c0, .int .i64 c1, .int .i64 c2] 92)) := (Keeps.refl [] w).alloc _
  have nb := heap_new w (.cells #[.int .i64 c0, .int .i64 c1, .int .i64 c2] 92)
  have HL := Lib.hid (hL.keep kb)
  have Haw := Lib.hid (awake22_spec _ (hv.same kb))
  have hI := fill15 L
  generalize hS : fillS (L.take 15) = S at hI
  have HS := Lib.hid hS
  have HB := Lib.hid (And.intro kb (And.intro nb (And.intro hI hv)))
  clear hL hS hI hv kb nb
  go_enter Try.func8, Try.ntmps8
  go_wp2_with fail
  refine Haw.out.mono ?_
  rintro e w1 ⟨rfl, hk1⟩
  have Hf := Lib.hid (filled_spec w1 v L (HL.out.keep hk1))
  have H1 := Lib.hid (And.intro (HB.out.1.trans hk1) (hk1.at_ HB.out.2.1 (by simp)))
  clear hk1
  go_wp2_with fail
  refine Hf.out.mono ?_
  rintro e w2 ⟨b, f, c, mb, mm, rfl, hb2, hm2, hk2, l1, l2, l3, l4, l5⟩
  rw [HS.out] at hb2 hm2
  have hw1 : w.heap.size ≤ w1.heap.size := H1.out.1.size
  have n2 := hk2.at_ H1.out.2 (by simp)
  have cb := cells_at n2
  have lb := lt_of_at n2
  have H2 := Lib.hid (And.intro hb2 (And.intro (H1.out.1.trans hk2) hm2))
  have hlt := hb2.lt
  have Hc := Lib.hid (config_spec w2 c0 c1 c2)
  obtain ⟨dn, hdn, hdn1⟩ : ∃ n : Int, n = c0 % 32 ∧ 0 ≤ n ∧ n ≤ 31 := ⟨_, rfl, by omega⟩
  obtain ⟨gn, hgn, hgn1⟩ : ∃ n : Int, n = c1 % 32 ∧ 0 ≤ n ∧ n ≤ 31 := ⟨_, rfl, by omega⟩
  obtain ⟨pn, hpn, hpn1⟩ : ∃ n : Int, n = 1 + c2 % 64 ∧ 0 ≤ n ∧ n ≤ 64 := ⟨_, rfl, by omega⟩
  rw [← hdn, ← hgn, ← hpn] at Hc
  have HV := Lib.hid (victR_again (now' := 101) HB.out.2.2.1.parted (p := pn) hdn1.2 hgn1.2 (show (100 : Int) ≤ 100 from by decide))
  have Hleft := Lib.hid (fun n hn => clean_left HB.out.2.2.1 hdn1.2 hgn1.2 (p := pn) (n := n) hn)
  have HP1 := Lib.hid (HB.out.2.2.1.parted.sub (victR (dn, gn, pn) 100 S.1))
  have hvl := vict_len (cfg := (dn, gn, pn)) (now := 100) HB.out.2.2.1.parted.nodup
  have hol := HB.out.2.2.1.parted.len
  clear hdn hgn hpn hb2 hm2 hk2 H1 Hf n2
  go_wp2_with fail
  refine Hc.out.mono ?_
  rintro e w3 ⟨rfl, hk3⟩
  have H3 := Lib.hid (And.intro (hk3.keep_bucket H2.out.1) (And.intro (H2.out.2.1.trans hk3) (H2.out.2.2.keep hk3 (by simp))))
  have hw3 : w2.heap.size ≤ w3.heap.size := hk3.size
  have Hn := Lib.hid (sweepNew_spec w3 (dn, gn, pn))
  clear hk3 cb lb
  go_wp2_with fail
  refine Hn.out.mono ?_
  rintro e w4 ⟨p, q, gb, rfl, hz4, hk4⟩
  have hlow : b < w3.heap.size ∧ f < w3.heap.size ∧ c < w3.heap.size ∧ mb < w3.heap.size := H3.out.1.lt
  have hbase : w.heap.size ≤ b ∧ w.heap.size ≤ f ∧ w.heap.size ≤ c ∧ w.heap.size ≤ mb ∧ w.heap.size ≤ w3.heap.size := by omega
  have hmmB : w.heap.size ≤ mm := by omega
  have Hr := Lib.hid (round_spec w w4 b f c mb w3.heap.size p q gb 15 S.1 ⟨(dn, gn, pn), scan0, [], false, 0⟩ 100 (hk4.keep_bucket H3.out.1) hz4 hlow hbase (H3.out.2.1.trans hk4) HB.out.2.2.2 HB.out.2.2.1.parted (by decide) (by decide) hpn1.1 (by show (0 : Int) ≤ 0 ∧ (0 : Int) ≤ 1000000; decide))
  have Hm4 := Lib.hid (H3.out.2.2.keep hk4 (by simp))
  clear hz4 hk4 Hn Hc
  go_wp2_with fail
  refine Hr.out.mono ?_
  rintro e w5 ⟨m, rfl, q5, gb5, hz5, hb5, hk5, hk45⟩
  have hpB := hz5.1
  have hmlt := H2.out.2.2.lt
  have hm5 := Hm4.out.keep hk45 (by simp; omega)
  have hm0 : ¬ ((m : Int) < 0) := by omega
  have hgz : (stC (dn, gn, pn) 100 0 S.1 (victR (dn, gn, pn) 100 S.1).length).gone = (((victR (dn, gn, pn) 100 S.1).length : Nat) : Int) := by simp [stC]
  have hcz : (stC (dn, gn, pn) 100 0 S.1 (victR (dn, gn, pn) 100 S.1).length).cfg = (dn, gn, pn) := rfl
  have hbz : BucketAt w5 b f c mb false [] (delAll S.1 (victR (dn, gn, pn) 100 S.1)) := hb5
  have hzz : SweepAt w5 w3.heap.size p q5 gb5 (stC (dn, gn, pn) 100 0 S.1 (victR (dn, gn, pn) 100 S.1).length) := hz5
  generalize stC (dn, gn, pn) 100 0 S.1 (victR (dn, gn, pn) 100 S.1).length = Z5 at hzz hgz hcz
  generalize delAll S.1 (victR (dn, gn, pn) 100 S.1) = o1 at hbz HV Hleft HP1
  generalize (victR (dn, gn, pn) 100 S.1).length = vn at hgz hvl
  have Hz := Lib.hid (And.intro hgz hcz)
  have Hlk := Lib.hid (look_parted hbz HP1.out (by decide))
  have H5 := Lib.hid (And.intro hzz (And.intro hbz (And.intro hk5 hm5)))
  clear hz5 hb5 hbz hzz hk5 hk45 hm5 hgz hcz Hr Hm4
  go_wp2_with fail
  refine Hlk.out.mono ?_
  rintro e w6 ⟨v6, rfl, hs6, hk6⟩
  have hz6 := H5.out.1.keep hk6 (by simp)
  have Hg := Lib.hid (sweepGone_spec w6 w3.heap.size p q5 gb5 Z5 hz6)
  have H6 := Lib.hid (And.intro hz6 (And.intro (hk6.keep_bucket H5.out.2.1) (And.intro (H5.out.2.2.1.trans hk6) (H5.out.2.2.2.keep hk6 (by simp)))))
  obtain ⟨a6, c6, rfl, x61, x62, -, x64⟩ := hs6
  have Hi := Lib.hid x64
  have hll := listing_len o1
  have hlP := HP1.out.len
  have Hll := Lib.hid hll
  have Hlm := Lib.hid (fun x (hx : x ∈ listing o1 ⟨#[]⟩) => HP1.out.key x (listing_of hx))
  have Hlk2 := Lib.hid (fun x (hx : x ∈ listing o1 ⟨#[]⟩) => Hleft.out x.1 (listing_mem.1 (List.mem_map.2 ⟨x, hx, rfl⟩)))
  have hl15 : (listing o1 ⟨#[]⟩).length ≤ 15 := by omega
  generalize listing o1 ⟨#[]⟩ = LL at x61 x62 Hi Hll Hlm Hlk2 hl15 ⊢
  clear hz6 hk6 x64 hll Hlk
  go_wp2_with fail
  refine Hg.out.mono ?_
  rintro e w7 ⟨rfl, rfl⟩
  rw [Hz.out.1]
  go_wp2_with fail
  go_loopg [46] LL.length (CLookRel w6 LL.length)
  case atStart => exact ⟨0, Nat.zero_le _, rfl, rfl, Keeps.refl _ _⟩
  case round =>
    obtain ⟨i, hil, hgk, rfl, hkr⟩ := hrel
    have Hgk := Lib.hid hgk
    clear hgk
    by_cases hit : i < LL.length
    · obtain ⟨b2, of2, rfl, _, hb2, hc2⟩ := Hi.out i hit
      have cell : ∀ j, j < 3 → wr.cell? ⟨b2, of2 + (i * 3 + j), none⟩ = (infoOf LL[i])[j]? := fun j hj => (hkr.cell hb2 (by simp)).trans (hc2 j hj)
      have d0 : wr.cell? ⟨b2, of2 + i * 3, none⟩ = (infoOf LL[i])[0]? := cell 0 (by omega)
      have d1 : wr.cell? ⟨b2, of2 + i * 3 + 1, none⟩ = (infoOf LL[i])[1]? := by rw [Nat.add_assoc]; exact cell 1 (by omega)
      have d2 : wr.cell? ⟨b2, of2 + i * 3 + 2, none⟩ = (infoOf LL[i])[2]? := by rw [Nat.add_assoc]; exact cell 2 (by omega)
      have lb2 := hkr.lt hb2
      clear cell hc2
      have hsm := Hlm.out LL[i] (List.getElem_mem _)
      have hleft := Hlk2.out LL[i] (List.getElem_mem _)
      generalize LL[i] = x at d0 d1 d2 hsm hleft
      obtain ⟨nm, dt, tk⟩ := x
      simp only at hsm hleft
      obtain ⟨id, part, hs1, hs2, hs3, hs4⟩ := hleft
      simp only [infoOf, List.getElem?_cons_zero, List.getElem?_cons_succ] at d0 d1 d2
      obtain ⟨ds, hds⟩ : ∃ n : Int, n = dt.size := ⟨_, rfl⟩
      rw [← hds] at d1
      clear hds
      have hit' : (i : Int) < (LL.length : Int) := by omega
      have ka : Keeps [] wr (wr.alloc (.cells #[.string nm, .int .i64 ds, .int .i64 tk] 87)) := (Keeps.refl [] wr).alloc _
      have Hsp := Lib.hid (split_spec _ (((HB.out.2.2.2.same H6.out.2.2.1).same hkr).same ka) nm (by omega))
      have H := Lib.hid (And.intro hkr (And.intro ka (And.intro hs3 hs4)))
      rw [hs1] at Hsp
      clear hkr ka hs1 hs3 hs4
      go_wp2_with fail
      refine Hsp.out.mono ?_
      rintro e w8 ⟨rfl, hk8⟩
      simp only [splitVals, ba_mk]
      have hk68 := (H.out.1.trans H.out.2.1).trans hk8
      have Hob := Lib.hid (object_spec w8 id metaB (by omega) (by decide))
      have Hpk := Lib.hid (peek_spec w8 b f c mb false [] o1 (hk68.keep_bucket H6.out.2.1) (objectB id metaB))
      rw [H.out.2.2.2] at Hpk
      have H8 := Lib.hid hk68
      clear hk8 hk68 d0 d1 d2
      unfold metaB at Hob
      go_wp2_with fail
      refine Hob.out.mono ?_
      rintro e w9 ⟨rfl, rfl⟩
      go_wp2_with fail
      refine Hpk.out.mono ?_
      rintro e w9 ⟨rfl, hk9⟩
      have hk69 := H8.out.trans hk9
      have hrl := (H6.out.2.2.2.keep hk69 (by simp)).run_lookup (P := Try.prog) Try.underlying24 Try.underlying9 (zeroInt _) id true
      rw [lookVal_int2, H.out.2.2.1] at hrl
      simp only [Option.getD_none, Option.isSome_none] at hrl
      have H9 := Lib.hid hk69
      clear hk9 hk69
      go_wp2_with fail
      go_roundg (LL.length - (i + 1))
      case measure => have := Hgk.out; omega
      case rel => exact ⟨i + 1, by omega, rfl, by go_num, H9.out⟩
    · obtain rfl : i = LL.length := by omega
      have hbr := hkr.keep_bucket H6.out.2.1
      have hzr := H6.out.1.keep hkr (by simp)
      have hkw := H6.out.2.2.1.trans hkr
      have Hr2 := Lib.hid (round_spec w wr b f c mb w3.heap.size p q5 gb5 15 o1 Z5 101 hbr hzr hlow hbase hkw HB.out.2.2.2 HP1.out (by decide) (by decide) (by rw [Hz.out.2]; exact hpn1.1) (by rw [Hz.out.1]; omega))
      rw [Hz.out.2, Hz.out.1] at Hr2
      clear hbr hzr hkw hkr
      go_wp2_with fail
      refine Hr2.out.mono ?_
      rintro e wA ⟨m2, rfl, q6, gb6, hzA, hbA, hkA, -⟩
      rw [HV.out] at hzA hbA
      have hbA' : BucketAt wA b f c mb false [] o1 := hbA
      have Hlk3 := Lib.hid (look_parted hbA' HP1.out (by decide))
      have hm2 : ¬ ((m2 : Int) < 0) := by omega
      have HA := Lib.hid (And.intro hzA hkA)
      clear hzA hbA hbA' hkA Hr2
      go_wp2_with fail
      refine Hlk3.out.mono ?_
      rintro e wB ⟨vB, rfl, hsB, hkB⟩
      obtain ⟨aB, cB, rfl, -, -, -, -⟩ := hsB
      rw [listing_len o1, ← Hll.out]
      have Hg2 := Lib.hid (sweepGone_spec wB w3.heap.size p q6 gb6 _ (HA.out.1.keep hkB (by simp)))
      have HB2 := Lib.hid (HA.out.2.trans hkB)
      clear hkB
      go_wp2_with fail
      refine Hg2.out.mono ?_
      rintro e wC ⟨rfl, rfl⟩
      rw [show (stC (dn, gn, pn) 101 (vn : Int) o1 ([] : List ByteArray).length).gone = (vn : Int) from by simp [stC]]
      go_wp2_with fail
      go_ret
      exact ⟨rfl, HB2.out⟩


set_option maxRecDepth 100000 in
theorem open_int3 {H : Type} {e0 : TypeId × Value → H} {W : World} {r : Reach} {b0 : Nat} {v : Value} {d : DataW H} {p : List MemPlace} (hok : Value.okWide Try.prog W r b0 92 v) (h : DataW.Trod e0 Try.prog W 0 (fun _ => true) true 92 v d p) :
    ∃ c0 c1 c2 : Int, v = .agg #[.int .i64 c0, .int .i64 c1, .int .i64 c2] := by
  simp only [Value.okWide, Try.underlying92] at hok
  obtain ⟨cs, rfl, h2, -⟩ := hok
  obtain ⟨fuel, hf⟩ := h
  obtain ⟨xs, m, -, -, hl, hx, hi⟩ := DataW.trod_array Try.underlying92 hf
  have hc : Try.prog.cellsOf 3 = 1 := by kernel_rfl
  have hl3 : Try.prog.cellsOf 92 = 3 := by kernel_rfl
  rw [hl3] at hl
  have key : ∀ i, i < 3 → ∃ n : Int, ((Value.cells (.agg cs)).toList.drop i).take 1 = [.int .i64 n] := by
    intro i hi3
    have h0 := hi i hi3
    rw [hc, Nat.mul_one] at h0
    rw [List.getElem?_eq_getElem (by omega)] at h0
    obtain ⟨n, e, _, _⟩ := DataW.trod_int Try.underlying3 h0
    exact ⟨n, e⟩
  obtain ⟨c0, e0'⟩ := key 0 (by omega)
  obtain ⟨c1, e1⟩ := key 1 (by omega)
  obtain ⟨c2, e2⟩ := key 2 (by omega)
  refine ⟨c0, c1, c2, ?_⟩
  have hcs : (Value.cells (.agg cs)).toList = cs.toList := rfl
  rw [hcs] at e0' e1 e2 hl
  obtain ⟨l⟩ := cs
  match l, hl with
  | [a, b, c], _ =>
    simp only [List.drop_zero, List.take_succ_cons, List.take_zero, List.drop_succ_cons, List.cons.injEq, and_true] at e0' e1 e2
    rw [e0', e1, e2]


theorem sweepClean_law (W : World) (hv : LibVar W) (v0 : Value) (h0 : ∃ L : List OneS, SliceArg 6 encOne W v0 L ∧ ∀ x ∈ L, True) (v1 : Value) (h1 : ∃ c0 c1 c2 : Int, v1 = .agg #[.int .i64 c0, .int .i64 c1, .int .i64 c2]) :
    Calls Try.prog 8 #[v0, v1] W fun e w' => e = .returned (.bool true) ∧ Keeps [] W w' := by
  obtain ⟨L, hs, _⟩ := h0
  obtain ⟨c0, c1, c2, rfl⟩ := h1
  exact sweepClean_walk W hv v0 L hs c0 c1 c2

end Go.Proofs.Ytaccjmdljiignaa
