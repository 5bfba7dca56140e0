/-
  ScanFinds answers true for all lists of things and of numbers, every tick, and leaves all memory that was there as it was.
  No condition: every input that can be read, where the library's variable stands.
-/
import Derived.Test.YtjffdcflkkgpfaaGreatFindsP
namespace Go.Proofs.YtjffdcflkkgpfaaGreat
open Go Go.RowKit Go.Conc

def ArmRelF (w : World) (b f c mb ob : Nat) (o0 : BktS) (n : Nat) (vo : Value) (m : Nat) (xs : List Value) (gk : Nat) (u : Value) (wr : World) : Prop :=
  ∃ k Q, k ≤ n ∧ k ≤ 8 ∧ gk = 8 - k ∧ u = .int .i64 k ∧ Q.length = k ∧ BucketAt wr b f c mb false Q o0 ∧ wr.ownsRow ob 28 2 vo m xs ∧ Keeps [] w wr

def FindRel (w : World) (b f c mb B q gb ob : Nat) (o0 : BktS) (vo : Value) (n : Nat) (xs : List Value) (gk : Nat) (u11 u14 u15 u16 : Value) (wr : World) : Prop :=
  ∃ (i now t m : Nat) (armed : Bool) (Q : List (Int × Bool)), i ≤ 60 ∧ gk = 60 - i ∧ u16 = .int .i64 i ∧ u11 = .int .i64 now ∧ u14 = .int .i64 m ∧ u15 = .int .i64 (begunM t m) ∧ now ≤ 1000 + 3 * i ∧ t ≤ now ∧ m ≤ (waitsOf o0).length + 1 ∧ ((waitsOf o0).length + 1 - m) + Q.length + i ≤ (waitsOf o0).length + 9 ∧
    BucketAt wr b f c mb armed Q o0 ∧ ScanAt 0 wr B q gb (stM o0 t m) ∧ wr.ownsRow ob 28 2 vo n xs ∧ Keeps [] w wr

def RangeF (W0 : World) (mo r : Nat) (M : List (ByteArray × ByteArray)) (gk : Nat) (wr : World) : Prop :=
  ∃ D : List (ByteArray × ByteArray), Ranging Tryz.prog 9 wr mo r (encMap Value.string M) (encMap Value.string D) gk ∧ Keeps [] W0 wr

theorem got_peek {o : BktS} {k : Nat} {x d : ByteArray} (h : (x, d) ∈ gotK o k) : (obOr (look o x)).1 = d ∧ (look o x).isSome = true := by
  unfold gotK at h
  obtain ⟨n, hn, he⟩ := List.mem_map.1 h
  injection he with e1 e2
  subst e1
  refine ⟨e2, ?_⟩
  have hm := (waitsOf_mem (List.mem_of_mem_take hn)).1
  cases hl : look o n with
  | none => exact absurd hm ((look_none_iff _ _).1 hl)
  | some y => rfl

set_option linter.unusedSimpArgs false in
set_option maxRecDepth 100000 in
set_option maxHeartbeats 4000000 in
theorem scanFinds_walk (w : World) (hv : LibVar w) (v : Value) (O : List ThingL) (hO : SliceArg 13 encThing w v O) (pa : Int) (vt : Value) (T : List Int) (hT : SliceArg 1 (fun n => [Value.int .i64 n]) w vt T) (vf : Value) (F : List Int) (hF : SliceArg 1 (fun n => [Value.int .i64 n]) w vf F) :
    Calls Tryz.prog 7 #[v, .int .i64 pa, vt, vf] w fun e w' => e = .returned (.bool true) ∧ Keeps [] w w' := by
  have Hv := Lib.hid hv
  have HO := Lib.hid hO
  have Haw := Lib.hid (awake19_spec w hv)
  obtain ⟨A, hA⟩ : ∃ m : Nat, m = (min (max pa 0) 1000).toNat := ⟨_, rfl⟩
  have qa : min (max pa 0) 1000 = (A : Int) := by omega
  have hA1000 : A ≤ 1000 := by omega
  obtain ⟨av, cv, rfl, -, -⟩ := hO
  obtain ⟨tv, tc, htv, htl, -⟩ := id hT
  rw [htv] at hT
  have HT := Lib.hid hT
  subst htv
  obtain ⟨fv, fc, hfv, hfl, -⟩ := id hF
  rw [hfv] at hF
  have HF := Lib.hid hF
  subst hfv
  clear hv hT hF hA
  go_enter Tryz.func7, Tryz.ntmps7
  go_wp2_with fail
  refine Haw.out.mono ?_
  rintro e w1 ⟨rfl, hk1⟩
  have Hf := Lib.hid (filled19_spec w1 _ O (HO.out.keep hk1))
  have Hk1 := Lib.hid hk1
  clear hk1 Haw
  go_wp2_with fail
  refine Hf.out.mono ?_
  rintro e w2 ⟨b, f, c, mb, vo, rfl, hb2, hrow2, hk2, l1, l2, l3, l4⟩
  obtain ⟨o0, ho⟩ : ∃ o, o = fillN (objsL (O.take 15)) (objsL (O.take 15)).length := ⟨_, rfl⟩
  rw [← ho] at hb2 hrow2
  have hlo := objsL_ok (O.take 15)
  have hl15 : (objsL (O.take 15)).length ≤ 15 := by have := hlo.1; rw [List.length_take] at this; omega
  have hnd : (o0.map (·.1)).Nodup := by have := hb2.map.nodup; rwa [keys_enc] at this
  have hok : MovOk o0 := by rw [ho] at hnd ⊢; exact fill_movOk hl15 hlo.2.2 hnd
  have Hok := Lib.hid hok
  have hn15 : (waitsOf o0).length ≤ 15 := Nat.le_trans (waitsOf_len o0) hok.len
  have hw1 := Hk1.out.size
  have hlt2 := hb2.lt
  obtain ⟨OB, hOB⟩ : ∃ L, L = objsOf o0 := ⟨_, rfl⟩
  rw [← hOB] at hrow2
  have HOB := Lib.hid hOB
  obtain ⟨ob, hob⟩ : ∃ n, n = w1.heap.size := ⟨_, rfl⟩
  rw [← hob] at hrow2
  have hobw : w.heap.size ≤ ob := by omega
  obtain ⟨ao, co, rfl, -, -, -⟩ := row_slice hrow2
  have H2 := Lib.hid (And.intro hb2 (And.intro hrow2 (Hk1.out.trans hk2)))
  clear ho hlo hl15 hnd hok hb2 hrow2 hk2 Hf hOB hob
  obtain ⟨ON, hON⟩ : ∃ n, n = OB.length := ⟨_, rfl⟩
  have HON := Lib.hid hON
  have hON15 : ON ≤ 15 := by rw [hON, HOB.out]; exact Hok.out.objLen
  rw [← hON]
  clear hON
  have H3 : Hid (BucketAt w2 b f c mb false [] o0 ∧ w2.ownsRow ob 28 2 (.slice ao ON co) OB.length (OB.flatMap encObj) ∧ Keeps [] w w2) := Lib.hid (by rw [HON.out]; exact H2.out)
  clear H2
  go_upto_block 0 with fail
  go_cut [12] from 35 (fun _ wc => ∃ Q, Q.length ≤ 8 ∧ BucketAt wc b f c mb false Q o0 ∧ wc.ownsRow ob 28 2 (.slice ao ON co) OB.length (OB.flatMap encObj) ∧ Keeps [] w wc)
  case first =>
    go_wp2_with fail
    go_loopg [12] 8 (ArmRelF w b f c mb ob o0 F.length (.slice ao ON co) OB.length (OB.flatMap encObj))
    case atStart => exact ⟨0, [], Nat.zero_le _, by decide, rfl, rfl, rfl, H3.out.1, H3.out.2.1, H3.out.2.2⟩
    case round =>
      obtain ⟨j, Q, hjF, hj8, hgj, rfl, hQ, hbj, hrj, hkj⟩ := hrel
      have Hgj := Lib.hid hgj
      clear hgj
      by_cases hlt : j < F.length ∧ j < 8
      · obtain ⟨hj1, hj2⟩ := hlt
        have hj1' : (j : Int) < (F.length : Int) := by omega
        have hj2' : (j : Int) < 8 := by omega
        obtain ⟨bg, og, eg, hbg, hcg⟩ := SliceArg.atI (kp hkj HF.out) j hj1
        subst eg
        have cg0 : wr.cell? ⟨bg, og + j, none⟩ = some (.int .i64 F[j]) := by simpa using hcg 0 (by decide)
        generalize F[j] = y at cg0
        have h3 := i64_and3 y
        have h4 := i64_and4P y
        have hy1 : y % 4 ≤ 9223372036854775807 := by omega
        have cb := cells_at hbj.cells
        have lb := hbj.lt.1
        have Hj := Lib.hid (And.intro hbj (And.intro hrj hkj))
        have Hneb := Lib.hid (bkt_row hbj hrj)
        clear hcg hbj hrj hkj
        by_cases hm : y % 8 < 4
        · rw [if_pos hm] at h4
          go_upto_region 10 with fail
          go_still_tail 15, (by kernel_rfl)
          repeat still_step
          (try refine wpStill_nil ?_)
          change wpList _ _ _ _ _ wr.drew
          go_wp2_with fail
          have kd : Keeps [] wr wr.drew := (Keeps.refl [] wr).drew
          refine (arm_ok wr.drew f c false Q (y % 4) true hy1 (kp kd Hj.out.1).fuse (by simp only [Bool.toNat_false]; omega)).mono ?_
          rintro e w4 ⟨rfl, hf4, hk4⟩
          have hb4 := (kp kd Hj.out.1).tried hk4 hf4
          have hr4 := hk4.row (kp kd Hj.out.2.1) (fun g hg hm => by
            obtain ⟨h1, h2, h3⟩ := Hneb.out g hg
            simp only [List.mem_cons, List.not_mem_nil, or_false] at hm
            omega)
          have hkw4 : Keeps [] w w4 := (kp kd Hj.out.2.2).after hk4 (fun x hx => .inr (by simp only [List.mem_cons, List.not_mem_nil, or_false] at hx; omega))
          have H4 := Lib.hid (And.intro hb4 (And.intro hr4 hkw4))
          clear hb4 hr4 hkw4 hf4 hk4 cb cg0 Hj
          go_wp2_with fail
          go_roundg (8 - (j + 1))
          case measure => have := Hgj.out; omega
          case rel => exact ⟨j + 1, _, by omega, by omega, rfl, by go_num, by rw [List.length_append, hQ]; rfl, H4.out.1, H4.out.2.1, H4.out.2.2⟩
        · rw [if_neg hm] at h4
          go_upto_region 10 with fail
          go_still_tail 15, (by kernel_rfl)
          repeat still_step
          (try refine wpStill_nil ?_)
          change wpList _ _ _ _ _ wr.drew
          go_wp2_with fail
          have kd : Keeps [] wr wr.drew := (Keeps.refl [] wr).drew
          refine (arm_ok wr.drew f c false Q (y % 4) false hy1 (kp kd Hj.out.1).fuse (by simp only [Bool.toNat_false]; omega)).mono ?_
          rintro e w4 ⟨rfl, hf4, hk4⟩
          have hb4 := (kp kd Hj.out.1).tried hk4 hf4
          have hr4 := hk4.row (kp kd Hj.out.2.1) (fun g hg hm => by
            obtain ⟨h1, h2, h3⟩ := Hneb.out g hg
            simp only [List.mem_cons, List.not_mem_nil, or_false] at hm
            omega)
          have hkw4 : Keeps [] w w4 := (kp kd Hj.out.2.2).after hk4 (fun x hx => .inr (by simp only [List.mem_cons, List.not_mem_nil, or_false] at hx; omega))
          have H4 := Lib.hid (And.intro hb4 (And.intro hr4 hkw4))
          clear hb4 hr4 hkw4 hf4 hk4 cb cg0 Hj
          go_wp2_with fail
          go_roundg (8 - (j + 1))
          case measure => have := Hgj.out; omega
          case rel => exact ⟨j + 1, _, by omega, by omega, rfl, by go_num, by rw [List.length_append, hQ]; rfl, H4.out.1, H4.out.2.1, H4.out.2.2⟩
      · have hexit : ((j : Int) < (F.length : Int) ∧ ¬ (j : Int) < 8) ∨ ¬ (j : Int) < (F.length : Int) := by omega
        have H4 := Lib.hid (And.intro hbj (And.intro hrj hkj))
        have hQ8 : Q.length ≤ 8 := by omega
        clear hbj hrj hkj Hgj hlt
        rcases hexit with ⟨h1, h2⟩ | h1
        · go_wp2_with fail
          go_meet
          case rel => exact ⟨Q, hQ8, H4.out⟩
        · go_wp2_with fail
          go_meet
          case rel => exact ⟨Q, hQ8, H4.out⟩
  case rest =>
    obtain ⟨Q, hQ8, hb4, hr4, hk4⟩ := hcut
    have hltj := hb4.lt
    have H4 := Lib.hid (And.intro hb4 (And.intro hr4 hk4))
    have Hnu := Lib.hid (scanNew_spec wc)
    clear hb4 hr4 hk4 H3
    go_wp2_with fail
    refine Hnu.out.mono ?_
    rintro e w5 ⟨q, gb, rfl, hS, hk5⟩
    obtain ⟨B, hB⟩ : ∃ n, n = wc.heap.size := ⟨_, rfl⟩
    have hvB : 0 < B := by
      rw [hB]
      exact (Hv.out.same H4.out.2.2).lt
    have hwB : w.heap.size ≤ B := by rw [hB]; exact H4.out.2.2.size
    have hgB : ∀ g, (Value.slice ao ON co).ownBlock = some g → g < B := fun g hg => by rw [hB]; exact (World.ownsRow.lt H4.out.2.1 g hg).2
    rw [← hB] at hltj hS
    have HgB := Lib.hid hgB
    have hqB := hS.1
    have hgB2 := hS.2.1
    have H5 := Lib.hid (And.intro (kp hk5 H4.out.1) (And.intro hS (And.intro (kp hk5 H4.out.2.1) (H4.out.2.2.trans hk5))))
    clear hS hk5 hB hgB H4 Hnu
    go_upto_block 2 with fail
    go_cut [11, 14, 15, 16, 17] from 62 (fun u11 u14 u15 _ _ wd => ∃ (t now : Nat) (armed : Bool) (Q : List (Int × Bool)), u11 = .int .i64 now ∧ now ≤ 2000 ∧ u14 = .int .i64 ((waitsOf o0).length + 1 : Nat) ∧ u15 = .int .i64 t ∧ t ≤ 2000 ∧ BucketAt wd b f c mb armed Q o0 ∧ ScanAt 0 wd B q gb (stS o0 t (waitsOf o0).length) ∧ wd.ownsRow ob 28 2 (.slice ao ON co) OB.length (OB.flatMap encObj) ∧ Keeps [] w wd)
    case first =>
      go_wp2_with fail
      go_loopg [11, 14, 15, 16] 60 (FindRel w b f c mb B q gb ob o0 (.slice ao ON co) OB.length (OB.flatMap encObj))
      case atStart => exact ⟨0, A, 0, 0, false, Q, Nat.zero_le _, rfl, rfl, rfl, rfl, rfl, by omega, Nat.zero_le _, Nat.zero_le _, by omega, H5.out.1, H5.out.2.1, H5.out.2.2.1, H5.out.2.2.2⟩
      case round =>
        clear H5
        obtain ⟨i, now, t, m, armed, Q2, hi, hgi, rfl, rfl, rfl, rfl, hnow, htn, hm, hmu, hb, hS, hrow, hkr⟩ := hrel
        have Hgi := Lib.hid hgi
        clear hgi
        have Hd := Lib.hid (scanDone_spec wr B q gb _ hS)
        rw [stM_done o0 t hm] at Hd
        by_cases hmn : m ≤ (waitsOf o0).length
        · rw [decide_eq_false (show ¬ (waitsOf o0).length < m by omega)] at Hd
          have hi60 : (i : Int) < 60 := by omega
          have HA := Lib.hid (And.intro hb (And.intro hS (And.intro hrow hkr)))
          clear hb hS hrow hkr
          go_wp2_with fail
          refine Hd.out.mono ?_
          rintro e w6 ⟨rfl, rfl⟩
          clear Hd
          go_upto_if 74 with fail
          go_cut [11] from 62 to 98 (fun u11 wx => (∃ n2 : Nat, u11 = .int .i64 n2 ∧ now ≤ n2 ∧ n2 ≤ now + 3) ∧ wx = wr)
          case first =>
            by_cases hiT : i < T.length
            · have hiT' : (i : Int) < (T.length : Int) := by omega
              obtain ⟨bg, og, eg, hbg, hcg⟩ := SliceArg.atI (kp HA.out.2.2.2 HT.out) i hiT
              subst eg
              have cg0 : wr.cell? ⟨bg, og + i, none⟩ = some (.int .i64 T[i]) := by simpa using hcg 0 (by decide)
              generalize T[i] = y at cg0
              have h3 := i64_and3 y
              obtain ⟨n2, hn2⟩ : ∃ n : Nat, (now : Int) + y % 4 = (n : Int) := ⟨((now : Int) + y % 4).toNat, by omega⟩
              have hwn : IntKind.i64.wrap ((now : Int) + y % 4) = (n2 : Int) := by rw [IntWalk.i64_in _ (by omega)]; exact hn2
              have hle : now ≤ n2 ∧ n2 ≤ now + 3 := by omega
              clear hcg hn2
              go_wp2_with fail
              go_meet
              case rel => exact ⟨⟨n2, rfl, hle.1, hle.2⟩, rfl⟩
            · have hiT' : ¬ (i : Int) < (T.length : Int) := by omega
              go_wp2_with fail
              go_meet
              case rel => exact ⟨⟨now, rfl, Nat.le_refl _, by omega⟩, rfl⟩
          case rest =>
            obtain ⟨⟨n2, rfl, hle, hle3⟩, rfl⟩ := hcut
            obtain ⟨hb, hS, hrow, hkr⟩ := HA.out
            have Hs := Lib.hid (findStep_spec wc b f c mb B q gb o0 armed Q2 t m n2 hb hS hmn hltj (Hv.out.same hkr) hvB Hok.out)
            have HK := Lib.hid (fun w7 (hk : Keeps [f, c, q, gb] wc w7) => (⟨hk.row hrow (fun g hg hm => by
              obtain ⟨h1, h2, h3⟩ := bkt_row hb hrow g hg
              have h4 := HgB.out g hg
              simp only [List.mem_cons, List.not_mem_nil, or_false] at hm
              omega), hkr.after hk (fun x hx => .inr (by simp only [List.mem_cons, List.not_mem_nil, or_false] at hx; omega))⟩ : w7.ownsRow ob 28 2 (.slice ao ON co) OB.length (OB.flatMap encObj) ∧ Keeps [] w w7))
            clear hb hS hrow hkr HA
            have hm1 : (m : Int) + 1 = ((m + 1 : Nat) : Int) := by omega
            go_wp2_with fail
            refine Hs.out.mono ?_
            rintro e w7 ⟨armed', Q', hb7, hk7, (⟨rfl, hS7, hQ7⟩ | ⟨rfl, hS7, hQ7⟩)⟩
            · have Hat := Lib.hid (scanAt_spec w7 B q gb _ hS7)
              rw [stM_at] at Hat
              have H7 := Lib.hid (And.intro hb7 (And.intro hS7 (HK.out w7 hk7)))
              clear hb7 hS7 hk7 Hs HK
              match m, hm, hmu, hmn, hm1, Hat, H7 with
              | 0, hm, hmu, hmn, hm1, Hat, H7 =>
                have Hat2 : Hid (Calls Tryz.prog 31 #[.pointer (some ⟨q, 0, none⟩)] w7 fun e w' => e = .returned (.int .i64 n2) ∧ w7 = w') := Hat
                simp only [begunM]
                go_wp2_with fail
                refine Hat2.out.mono ?_
                rintro e w8 ⟨rfl, rfl⟩
                go_wp2_with fail
                go_roundg (60 - (i + 1))
                case measure => have := Hgi.out; omega
                case rel => exact ⟨i + 1, n2, n2, 1, armed', Q', by omega, rfl, by go_num, rfl, rfl, rfl, by omega, Nat.le_refl _, by omega, by omega, H7.out.1, H7.out.2.1, H7.out.2.2.1, H7.out.2.2.2⟩
              | k + 1, hm, hmu, hmn, hm1, Hat, H7 =>
                have Hat2 : Hid (Calls Tryz.prog 31 #[.pointer (some ⟨q, 0, none⟩)] w7 fun e w' => e = .returned (.int .i64 t) ∧ w7 = w') := Hat
                have ht0 : ¬ (t : Int) < 0 := by omega
                obtain ⟨m1, hme⟩ : ∃ m, m = k + 1 := ⟨_, rfl⟩
                have H8 : Hid (BucketAt w7 b f c mb armed' Q' o0 ∧ ScanAt 0 w7 B q gb (stM o0 t (m1 + 1)) ∧ w7.ownsRow ob 28 2 (.slice ao ON co) OB.length (OB.flatMap encObj) ∧ Keeps [] w w7) := by
                  rw [hme]
                  exact H7
                simp only [begunM]
                rw [← hme]
                have hmm : m1 ≤ (waitsOf o0).length := by omega
                have hmu2 : ((waitsOf o0).length + 1 - (m1 + 1)) + Q'.length + (i + 1) ≤ (waitsOf o0).length + 9 := by omega
                clear Hat H7 hme hm hmu hmn hm1
                go_wp2_with fail
                refine Hat2.out.mono ?_
                rintro e w8 ⟨rfl, rfl⟩
                go_wp2_with fail
                go_roundg (60 - (i + 1))
                case measure => have := Hgi.out; omega
                case rel => exact ⟨i + 1, n2, t, m1 + 1, armed', Q', by omega, rfl, by go_num, rfl, by go_num, rfl, by omega, by omega, by omega, hmu2, H8.out.1, H8.out.2.1, H8.out.2.2.1, H8.out.2.2.2⟩
            · have Hat := Lib.hid (scanAt_spec w7 B q gb _ hS7)
              rw [stM_at] at Hat
              have H7 := Lib.hid (And.intro hb7 (And.intro hS7 (HK.out w7 hk7)))
              clear hb7 hS7 hk7 Hs HK
              generalize hbg : begunM t m = bg at Hat ⊢
              go_wp2_with fail
              refine Hat.out.mono ?_
              rintro e w8 ⟨rfl, rfl⟩
              go_wp2_with fail
              go_roundg (60 - (i + 1))
              case measure => have := Hgi.out; omega
              case rel => exact ⟨i + 1, n2, t, m, armed', Q', by omega, rfl, by go_num, rfl, rfl, by rw [hbg], by omega, by omega, hm, by omega, H7.out.1, H7.out.2.1, H7.out.2.2.1, H7.out.2.2.2⟩
        · obtain rfl : m = (waitsOf o0).length + 1 := by omega
          rw [decide_eq_true (Nat.lt_succ_self _)] at Hd
          have HE : Hid (BucketAt wr b f c mb armed Q2 o0 ∧ ScanAt 0 wr B q gb (stS o0 t (waitsOf o0).length) ∧ wr.ownsRow ob 28 2 (.slice ao ON co) OB.length (OB.flatMap encObj) ∧ Keeps [] w wr) := Lib.hid (And.intro hb (And.intro hS (And.intro hrow hkr)))
          obtain ⟨n1, hn1⟩ : ∃ n, n = (waitsOf o0).length + 1 := ⟨_, rfl⟩
          have Hn1 := Lib.hid hn1
          have hi60 : (i : Int) < 60 := by omega
          simp only [begunM]
          rw [← hn1]
          clear hb hS hrow hkr hmn hn1 hm hmu
          go_wp2_with fail
          refine Hd.out.mono ?_
          rintro e w6 ⟨rfl, rfl⟩
          go_wp2_with fail
          go_meet
          case rel => exact ⟨t, now, armed, Q2, rfl, by omega, by rw [Hn1.out], rfl, by omega, HE.out⟩
    case rest =>
      obtain ⟨t, now, armed, Q2, rfl, hn2000, rfl, rfl, ht2000, hb, hS, hrow, hkr⟩ := hcut
      have hSr := Hok.out.run.scan (t : Int) (waitsOf o0).length
      have hbr := blks_ref Hok.out.run (o0 := o0) rfl (t : Int)
      have hof := hSr.of (tn := t) (by omega)
      have Hls : Hid (∀ W, ScanAt 0 W B q gb (stS o0 t (waitsOf o0).length) → LibVar W → Calls Tryz.prog 27 #[.pointer (some ⟨q, 0, none⟩)] W (NewLPost W.heap.size W (t : Int) ((ofN (objsOf o0) (objsOf o0).length).map (·.1)) (marksOf (ofN (objsOf o0) (objsOf o0).length)))) := Lib.hid (fun W h hv => by
        have h1 := scanLst_spec W B q gb (stS o0 t (waitsOf o0).length) h hSr hv t (by show max (t : Int) 0 = (t : Int); omega)
        rw [← hbr]
        exact h1)
      rw [hbr] at hof
      have Hro : Hid (∀ W, W.ownsRow ob 28 2 (.slice ao ON co) OB.length (OB.flatMap encObj) → Calls Tryz.prog 13 #[.int .i64 t, .slice ao ON co] W fun e w' => ∃ u, e = .returned (.agg #[.int .i64 t, u]) ∧ BlksV W.heap.size w' u (sortT (ofN (objsOf o0) (objsOf o0).length)) ∧ Keeps [] W w') := Lib.hid (fun W h => by
        have h1 := rOf_spec W t (.slice ao ON co) OB (sliceFrom_row (enc := encObj) encObj_len h).arg (by rw [HOB.out]; exact Hok.out.objs) (by rw [HOB.out]; exact Hok.out.objLen)
        rw [HOB.out] at h1
        exact h1)
      have hTl : (ofN (objsOf o0) (objsOf o0).length).length ≤ 15 := Nat.le_trans (ofN_len _ _) Hok.out.objLen
      have hil : (listing o0 ⟨#[]⟩).length = ON := by rw [HON.out, HOB.out, objsOf_len]
      have Hin : Hid (∀ W, ScanAt 0 W B q gb (stS o0 t (waitsOf o0).length) → Calls Tryz.prog 32 #[.pointer (some ⟨q, 0, none⟩)] W fun e w' => ∃ a c, e = .returned (.slice a ON c) ∧ Keeps [] W w') := Lib.hid (fun W h => (scanInfos_spec W B q gb _ h (by show (listing o0 ⟨#[]⟩).length ≤ 1000000000; omega)).mono (by
        rintro e w' ⟨v, rfl, hs, hk⟩
        obtain ⟨a, c, rfl, -⟩ := hs
        refine ⟨a, c, ?_, hk⟩
        rw [← hil]
        rfl))
      obtain ⟨GK, hGK⟩ : ∃ G, G = gotK o0 (waitsOf o0).length := ⟨_, rfl⟩
      have Hgp := Lib.hid (fun x d (h : (x, d) ∈ GK) => got_peek (o := o0) (k := (waitsOf o0).length) (x := x) (d := d) (by rw [← hGK]; exact h))
      have hGl : GK.length = (waitsOf o0).length := by rw [hGK]; simp [gotK]
      have Hgo : Hid (∀ W, ScanAt 0 W B q gb (stS o0 t (waitsOf o0).length) → Calls Tryz.prog 33 #[.pointer (some ⟨q, 0, none⟩)] W fun e w' => ∃ mo, e = .returned (.map (some mo)) ∧ MapAt w' mo (encMap Value.string GK) ∧ Keeps [] W w') := Lib.hid (fun W h => (scanGot_spec W B q gb _ h).mono (by
        rintro e w' ⟨rfl, hm, hk⟩
        rw [hGK]
        exact ⟨_, rfl, hm, hk⟩))
      have Hdn : Hid (∀ W, ScanAt 0 W B q gb (stS o0 t (waitsOf o0).length) → Calls Tryz.prog 24 #[.pointer (some ⟨q, 0, none⟩)] W fun e w' => e = .returned (.bool true) ∧ W = w') := Lib.hid (fun W h => by
        have h1 := scanDone_spec W B q gb _ h
        rw [show ((stS o0 (t : Int) (waitsOf o0).length).begun && (stS o0 (t : Int) (waitsOf o0).length).wait.isEmpty) = true from by rw [stS_end]; rfl] at h1
        exact h1)
      have Hsd := Lib.hid (fun W (hb : BucketAt W b f c mb armed Q2 o0) (h : ScanAt 0 W B q gb (stS o0 t (waitsOf o0).length)) => scanStep_done W b f c mb B q gb armed Q2 o0 _ (now : Int) hb h rfl (stS_end o0 t))
      have Hge : Hid (∀ W, W.ownsRow ob 28 2 (.slice ao ON co) OB.length (OB.flatMap encObj) → Calls Tryz.prog 34 #[.slice ao ON co] W fun e w' => e = .returned (.int .i64 ((waitsOf o0).length : Nat)) ∧ Keeps [] W w') := Lib.hid (fun W h => by
        have h1 := gets_spec W (.slice ao ON co) OB (sliceFrom_row (enc := encObj) encObj_len h).arg (by rw [← HON.out]; omega)
        rw [HOB.out, gets_waits] at h1
        exact h1)
      have z3 : ∀ x ∈ encMap Value.string GK, x.1.size ≤ maxLen := by
        rintro ⟨x, c⟩ hx
        obtain ⟨d, _, hn⟩ := mem_enc hx
        have h1 := (Hgp.out x d hn).2
        obtain ⟨y, hy⟩ := Option.isSome_iff_exists.1 h1
        have := (Hok.out.small _ (look_mem hy)).1
        simp only at this ⊢
        unfold maxLen; omega
      have z4 : (encMap Value.string GK).length ≤ maxLen := by simp only [encMap, List.length_map, maxLen]; omega
      have hml : (encMap Value.string GK).length = (waitsOf o0).length := by rw [← hGl]; simp [encMap]
      obtain ⟨SC, hSC⟩ : ∃ S, S = stS o0 t (waitsOf o0).length := ⟨_, rfl⟩
      rw [← hSC] at Hls Hin Hgo Hdn Hsd hS
      obtain ⟨nw, hnw⟩ : ∃ n, n = (waitsOf o0).length := ⟨_, rfl⟩
      rw [← hnw] at Hge hml hn15 ⊢
      obtain ⟨n1, hn1⟩ : ∃ n, n = nw + 1 := ⟨_, rfl⟩
      have hadd : IntKind.i64.wrap (1 + (nw : Int)) = (n1 : Int) := by rw [IntWalk.i64_in _ (by omega)]; omega
      rw [← hn1]
      obtain ⟨TT, hTT⟩ : ∃ T, T = ofN (objsOf o0) (objsOf o0).length := ⟨_, rfl⟩
      obtain ⟨SS, hSS⟩ : ∃ S, S = sortT TT := ⟨_, rfl⟩
      rw [← hTT] at hof hTl Hls Hro
      rw [← hSS] at hof Hro
      have hSl : SS.length ≤ 15 := by have := hof.perm.length_eq; omega
      have Hof := Lib.hid (And.intro hof hSl)
      have H5 := Lib.hid (And.intro hb (And.intro hS (And.intro hrow hkr)))
      clear hSr hbr hof hTl hil hGK hGl hSC hnw hn1 hTT hSS hSl hb hS hrow hkr
      go_wp2_with fail
      refine (Hin.out _ H5.out.2.1).mono ?_
      rintro e w6 ⟨ai, ci, rfl, hk6⟩
      have H6 := Lib.hid (kp hk6 H5.out)
      clear hk6 H5
      go_wp2_with fail
      refine (Hgo.out _ H6.out.2.1).mono ?_
      rintro e w7 ⟨mo, rfl, hm7, hk7⟩
      have H7 := Lib.hid (kp hk7 H6.out)
      have hmr := hm7
      clear hk7 H6 hm7
      go_wp2_with (at_range; refine wpList_range_map rfl _ _ rfl 9 Tryz.underlying26 Tryz.underlying9 mo _ rfl hmr z3 z4 ?_; intro w0 cnt hrg0 hk0)
      clear z3 z4 hmr
      try go_frame
      obtain ⟨r, hr⟩ : ∃ n, n = w7.heap.size := ⟨_, rfl⟩
      have hrW : w7.heap.size ≤ r := by omega
      rw [← hr] at hrg0 ⊢
      have H8 := Lib.hid (And.intro hrg0 hk0)
      clear hrg0 hk0 hr
      go_loopg [] cnt (RangeF w7 mo r GK)
      case atStart => exact ⟨[], H8.out.1, H8.out.2⟩
      case round =>
        obtain ⟨D, hrg, hkr⟩ := hrel
        clear H8
        have Hkr := Lib.hid hkr
        clear hkr
        go_wp2_with (at_next; refine wpList_next_map rfl _ rfl Tryz.underlying9 mo r _ _ _ rfl hrg ?_ ?_)
        · intro hperm
          clear hperm hrg
          have H9 := Lib.hid (kp Hkr.out H7.out)
          clear H7 Hkr hrW
          go_wp2_with fail
          refine (Hgo.out _ H9.out.2.1).mono ?_
          rintro e w10 ⟨mo2, rfl, hm10, hk10⟩
          have H10 := Lib.hid (kp hk10 H9.out)
          have hrl := hm10.run_lenK (P := Tryz.prog) Tryz.underlying26 3
          rw [hml] at hrl
          clear hm10 hk10 H9
          go_wp2_with fail
          refine (Hge.out _ H10.out.2.2.1).mono ?_
          rintro e w11 ⟨rfl, hk11⟩
          have H11 := Lib.hid (kp hk11 H10.out)
          clear hk11 hrl H10
          go_wp2_with fail
          refine (Hdn.out _ H11.out.2.1).mono ?_
          rintro e w12 ⟨rfl, rfl⟩
          go_wp2_with fail
          refine (Hsd.out _ H11.out.1 H11.out.2.1).mono ?_
          rintro e w13 ⟨rfl, hS13, hb13, hk13⟩
          have hrow13 := hk13.row H11.out.2.2.1 (fun g hg hm => by
            obtain ⟨h1, h2, h3⟩ := bkt_row H11.out.1 H11.out.2.2.1 g hg
            have h4 := HgB.out g hg
            simp only [List.mem_cons, List.not_mem_nil, or_false] at hm
            omega)
          have hkw13 : Keeps [] w w13 := H11.out.2.2.2.after hk13 (fun x hx => .inr (by simp only [List.mem_cons, List.not_mem_nil, or_false] at hx; omega))
          have H13 := Lib.hid (And.intro hb13 (And.intro hS13 (And.intro hrow13 hkw13)))
          clear hS13 hb13 hk13 hrow13 hkw13 H11
          go_wp2_with fail
          refine (Hge.out _ H13.out.2.2.1).mono ?_
          rintro e w14 ⟨rfl, hk14⟩
          have H14 := Lib.hid (kp hk14 H13.out)
          clear hk14 H13
          go_wp2_with fail
          refine (Hls.out _ H14.out.2.1 (Hv.out.same H14.out.2.2.2)).mono ?_
          rintro e w15 ⟨L', vm, mb5, rfl, hp, hr2, hm15, hmp15, -, hk15⟩
          obtain rfl : L' = SS.map (·.1) := rise_eq (fun m : MetaS => m.id.data.toList) (hp.trans (Hof.out.1.perm.map _).symm) hr2 Hof.out.1.rise
          obtain ⟨am, cm, rfl⟩ := hm15.form
          obtain ⟨sl, hsl⟩ : ∃ n, n = (SS.map (·.1)).length := ⟨_, rfl⟩
          rw [← hsl] at hm15 ⊢
          have H15 := Lib.hid (And.intro (And.intro hm15 hmp15) (And.intro (kp hk15 H14.out) hk15.size))
          clear hp hr2 hm15 hmp15 hk15 hsl H14
          go_wp2_with fail
          refine (Hro.out _ H15.out.2.1.2.2.1).mono ?_
          rintro e w16 ⟨u, rfl, hu, hk16⟩
          have His := Lib.hid (is_spec _ _ w16 t (.slice am sl cm) u mb5 (marksOf TT) SS (kp hk16 H15.out.1.1) hu (kp hk16 H15.out.1.2) (Nat.le_trans Hof.out.2 (by decide)) Hof.out.1.files (Nat.le_trans H15.out.2.2 hk16.size) Hof.out.1.look Hof.out.1.len)
          have H16 := Lib.hid (H15.out.2.1.2.2.2.trans hk16)
          clear hu hk16 H15
          go_wp2_with fail
          refine His.out.mono ?_
          rintro e w17 ⟨rfl, hk17⟩
          have H17 := Lib.hid (H16.out.trans hk17)
          clear hk17 His H16
          go_wp2_with fail
          go_ret
          exact ⟨rfl, H17.out⟩
        · intro x c w1 cnt1 hmem hnin hxs hrg1 hltc hk1 hen
          obtain ⟨d, rfl, hdm⟩ := mem_enc hmem
          rw [enc_snocM] at hrg1
          obtain ⟨hp1, hp2⟩ := Hgp.out x d hdm
          have k1 : Keeps [] w7 w1 := Hkr.out.after hk1 (fun q hq => .inr (by simp only [List.mem_singleton] at hq; omega))
          have Hpk := Lib.hid (peek_spec w1 b f c mb armed Q2 o0 (kp k1 H7.out.1) x)
          rw [hp1, hp2] at Hpk
          have hse : (d.toList != d.toList) = false := by simp
          have H1 := Lib.hid (And.intro hrg1 (And.intro k1 hltc))
          clear hmem hnin hxs hrg1 hltc hk1 hrg hdm hp1 hp2 k1
          go_wp2_with fail
          refine Hpk.out.mono ?_
          rintro e w5 ⟨rfl, hk5⟩
          have H5 := Lib.hid (And.intro (H1.out.1.keep hk5 (by simp) (by simp)) (H1.out.2.1.trans hk5))
          clear hk5 hen Hpk
          go_wp2_with fail
          go_roundg cnt1
          case measure => exact H1.out.2.2
          case rel => exact ⟨D ++ [(x, d)], H5.out.1, H5.out.2⟩

theorem scanFinds_law (W : World) (hv : LibVar W) (v : Value) (h : ∃ L : List ThingL, SliceArg 13 encThing W v L ∧ ∀ x ∈ L, True) (a : Int) (_ : (Lit.int .i64 a).wf = true) (u : Value) (hu : ∃ zs : List Int, SliceArg 1 (fun n => [Value.int .i64 n]) W u zs ∧ ∀ n ∈ zs, -9223372036854775808 ≤ n ∧ n ≤ 9223372036854775807) (u2 : Value) (hu2 : ∃ zs : List Int, SliceArg 1 (fun n => [Value.int .i64 n]) W u2 zs ∧ ∀ n ∈ zs, -9223372036854775808 ≤ n ∧ n ≤ 9223372036854775807) :
    Calls Tryz.prog 7 #[v, .int .i64 a, u, u2] W fun e w' => e = .returned (.bool true) ∧ Keeps [] W w' := by
  obtain ⟨L, hs, _⟩ := h
  obtain ⟨G, hG, _⟩ := hu
  obtain ⟨F, hF, _⟩ := hu2
  exact scanFinds_walk W hv v L hs a u G hG u2 F hF
end Go.Proofs.YtjffdcflkkgpfaaGreat
