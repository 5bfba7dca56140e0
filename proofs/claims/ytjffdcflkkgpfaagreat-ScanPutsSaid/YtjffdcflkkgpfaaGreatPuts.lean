/-
  ScanPuts answers true for all lists of things and of numbers, every patience, and leaves all memory that was there as it was.
  No condition: every input that can be read, where the library's variable stands.
-/
import Derived.Test.YtjffdcflkkgpfaaGreatPutsP
import Derived.Test.YtjffdcflkkgpfaaGreatRSplitG
namespace Go.Proofs.YtjffdcflkkgpfaaGreat
open Go Go.RowKit Go.Conc

def HadRel (w : World) (n : Nat) (gk : Nat) (u11 u35 : Value) (wr : World) : Prop := ∃ k h, k ≤ n ∧ h ≤ k ∧ gk = n - k ∧ u35 = .int .i64 k ∧ u11 = .int .i64 (h : Nat) ∧ Keeps [] w wr

def ArmRelP (w : World) (b f c mb ob : Nat) (o0 : BktS) (n : Nat) (vo : Value) (m : Nat) (xs : List Value) (gk : Nat) (u : Value) (wr : World) : Prop :=
  ∃ k Q, k ≤ n ∧ k ≤ 8 ∧ gk = 8 - k ∧ u = .int .i64 k ∧ Q.length = k ∧ BucketAt wr b f c mb false Q o0 ∧ wr.ownsRow ob 28 2 vo m xs ∧ Keeps [] w wr

def PutRelP (w : World) (b f c mb B ub ob : Nat) (o0 : BktS) (pat : Nat) (T : List Int) (vo : Value) (m : Nat) (xs : List Value) (gk : Nat) (u16 u17 : Value) (wr : World) : Prop :=
  ∃ (i now : Nat) (armed : Bool) (Q : List (Int × Bool)) (X : Option Ob) (S : ScanS) (p : Bool) (q gb : Nat), i ≤ 60 ∧ gk = 60 - i ∧ u17 = .int .i64 i ∧ u16 = .int .i64 now ∧ now ≤ 7 * i ∧ UpSt wr b f c mb B ub o0 now armed Q X S p q gb ∧ wr.ownsRow ob 28 2 vo m xs ∧ Keeps [] w wr ∧
    (T = [] → now = 0 ∧ (if p then 0 else far (waitsOf o0).length S) + Q.length + i ≤ (waitsOf o0).length + 10) ∧ (p = true → PutOk o0 X S now pat)

theorem ScanP.later {o0 : BktS} {X : Option Ob} {S : ScanS} {a b : Int} (h : ScanP o0 X S a) (hab : a ≤ b) : ScanP o0 X S b := by
  rcases h with h | ⟨Y, t, k, h1, h2, h3, h4⟩
  · exact .inl h
  · exact .inr ⟨Y, t, k, h1, h2, by omega, h4⟩

/-- A scan that has begun tells when, another tells -1. -/
def atS (S : ScanS) : Int := if S.begun then S.tick else -1

theorem ScanP.at_ {o0 : BktS} {X : Option Ob} {S : ScanS} {now : Int} (h : ScanP o0 X S now) : (S.begun = false ∧ atS S = -1) ∨ (S.begun = true ∧ 0 ≤ S.tick ∧ S.tick ≤ now ∧ atS S = S.tick) := by
  rcases h with rfl | ⟨Y, t, k, rfl, h2, h3, h4⟩
  · exact .inl ⟨rfl, rfl⟩
  · exact .inr ⟨rfl, by show (0 : Int) ≤ (t : Int); omega, h3, rfl⟩

set_option linter.unusedSimpArgs false in
set_option maxRecDepth 100000 in
set_option maxHeartbeats 4000000 in
theorem scanPuts_walk (w : World) (hv : LibVar w) (v : Value) (O : List ThingL) (hO : SliceArg 13 encThing w v O) (vt : Value) (T : List Int) (hT : SliceArg 1 (fun n => [Value.int .i64 n]) w vt T) (vf : Value) (F : List Int) (hF : SliceArg 1 (fun n => [Value.int .i64 n]) w vf F) (pa : Int) :
    Calls Tryz.prog 6 #[v, vt, vf, .int .i64 pa] w fun e w' => e = .returned (.bool true) ∧ Keeps [] w w' := by
  have Hv := Lib.hid hv
  have HO := Lib.hid hO
  have Haw := Lib.hid (awake19_spec w hv)
  obtain ⟨pat, hpt⟩ : ∃ m : Nat, m = (min (max pa 0) 100).toNat := ⟨_, rfl⟩
  have qa : min (max pa 0) 100 = (pat : Int) := by omega
  have hp100 : pat ≤ 100 := by omega
  obtain ⟨av, cv, rfl, -, -⟩ := hO
  obtain ⟨tv, tc, htv, htl, -⟩ := id hT
  rw [htv] at hT
  have HT := Lib.hid hT
  subst htv
  obtain ⟨fv, fc, hfv, hfl, -⟩ := id hF
  rw [hfv] at hF
  have HF := Lib.hid hF
  subst hfv
  clear hv hT hF hpt
  go_enter Tryz.func6, Tryz.ntmps6
  go_wp2_with fail
  refine Haw.out.mono ?_
  rintro e w1 ⟨rfl, hk1⟩
  have Hf := Lib.hid (filled19_spec w1 _ O (HO.out.keep hk1))
  have Hk1 := Lib.hid hk1
  clear hk1 Haw
  go_wp2_with fail
  refine Hf.out.mono ?_
  rintro e w2 ⟨b, f, c, mb, vo, rfl, hb2, hrow2, hk2, l1, l2, l3, l4⟩
  obtain ⟨o0, ho⟩ : ∃ o, o = fillN (objsL (O.take 15)) (objsL (O.take 15)).length := ⟨_, rfl⟩
  rw [← ho] at hb2 hrow2
  have hlo := objsL_ok (O.take 15)
  have hl15 : (objsL (O.take 15)).length ≤ 15 := by have := hlo.1; rw [List.length_take] at this; omega
  have hnd : (o0.map (·.1)).Nodup := by have := hb2.map.nodup; rwa [keys_enc] at this
  have hok : MovOk o0 := by rw [ho] at hnd ⊢; exact fill_movOk hl15 hlo.2.2 hnd
  have Hok := Lib.hid hok
  have hn15 : (waitsOf o0).length ≤ 15 := Nat.le_trans (waitsOf_len o0) hok.len
  have hw1 := Hk1.out.size
  have hlt2 := hb2.lt
  obtain ⟨OB, hOB⟩ : ∃ L, L = objsOf o0 := ⟨_, rfl⟩
  rw [← hOB] at hrow2
  have HOB := Lib.hid hOB
  obtain ⟨ob, hob⟩ : ∃ n, n = w1.heap.size := ⟨_, rfl⟩
  rw [← hob] at hrow2
  have hobw : w.heap.size ≤ ob := by omega
  obtain ⟨ao, co, rfl, -, -, -⟩ := row_slice hrow2
  have H2 := Lib.hid (And.intro hb2 (And.intro hrow2 (Hk1.out.trans hk2)))
  clear ho hlo hl15 hnd hok hb2 hrow2 hk2 Hf hOB hob
  obtain ⟨ON, hON⟩ : ∃ n, n = OB.length := ⟨_, rfl⟩
  have HON := Lib.hid hON
  have hON15 : ON ≤ 15 := by rw [hON, HOB.out]; exact Hok.out.objLen
  rw [← hON]
  clear hON
  go_wp2_with fail
  go_loopg [11, 35] ON (HadRel w2 ON)
  case atStart => exact ⟨0, 0, Nat.zero_le _, Nat.le_refl _, rfl, rfl, rfl, Keeps.refl _ _⟩
  case round =>
    obtain ⟨k, h, hk, hhk, hgk, rfl, rfl, hkr⟩ := hrel
    have Hg := Lib.hid hgk
    clear hgk
    by_cases hlt : k < ON
    · have hlt' : (k : Int) < (ON : Int) := by omega
      have hko : k < OB.length := by rw [← HON.out]; exact hlt
      obtain ⟨b6, of6, ea, hb6, hbl, hc6⟩ := (sliceFrom_row (enc := encObj) encObj_len (kp hkr H2.out.2.1)).atI k hko
      have c0 : wr.cell? ⟨b6, of6 + k * 2, none⟩ = some (.string OB[k].1) := by simpa [encObj] using hc6 0 (by decide)
      have c1 : wr.cell? ⟨b6, of6 + k * 2 + 1, none⟩ = some (.string OB[k].2) := by rw [Nat.add_assoc]; simpa [encObj] using hc6 1 (by decide)
      generalize OB[k].1 = nm at c0
      generalize OB[k].2 = dt at c1
      subst ea
      clear hc6
      have ka : Keeps [] wr (wr.alloc (.cells #[.string nm, .string dt] 28)) := (Keeps.refl [] wr).alloc _
      have HK := Lib.hid (hkr.trans ka)
      clear hkr ka
      rcases Bool.eq_false_or_eq_true (nm.toList == [105, 110, 100, 101, 120]) with he | he
      · go_wp2_with fail
        go_roundg (ON - (k + 1))
        case measure => have := Hg.out; omega
        case rel => exact ⟨k + 1, h + 1, by omega, by omega, rfl, by go_num, by go_num, HK.out⟩
      · go_wp2_with fail
        go_roundg (ON - (k + 1))
        case measure => have := Hg.out; omega
        case rel => exact ⟨k + 1, h, by omega, by omega, rfl, by go_num, rfl, HK.out⟩
    · have hge : ¬ (k : Int) < (ON : Int) := by omega
      have H3 := Lib.hid (kp hkr H2.out)
      clear hkr H2 hlt
      have hrow3 : wr.ownsRow ob 28 2 (.slice ao ON co) OB.length (OB.flatMap encObj) := by rw [HON.out]; exact H3.out.2.1
      have Hr3 := Lib.hid hrow3
      clear hrow3
      go_upto_block 2 with fail
      go_cut [14] from 48 (fun _ wc => ∃ Q, Q.length ≤ 8 ∧ BucketAt wc b f c mb false Q o0 ∧ wc.ownsRow ob 28 2 (.slice ao ON co) OB.length (OB.flatMap encObj) ∧ Keeps [] w wc)
      case first =>
        go_wp2_with fail
        go_loopg [14] 8 (ArmRelP w b f c mb ob o0 F.length (.slice ao ON co) OB.length (OB.flatMap encObj))
        case atStart => exact ⟨0, [], Nat.zero_le _, by decide, rfl, rfl, rfl, H3.out.1, Hr3.out, H3.out.2.2⟩
        case round =>
          obtain ⟨j, Q, hjF, hj8, hgj, rfl, hQ, hbj, hrj, hkj⟩ := hrel
          have Hgj := Lib.hid hgj
          clear hgj
          by_cases hlt : j < F.length ∧ j < 8
          · obtain ⟨hj1, hj2⟩ := hlt
            have hj1' : (j : Int) < (F.length : Int) := by omega
            have hj2' : (j : Int) < 8 := by omega
            obtain ⟨bg, og, eg, hbg, hcg⟩ := SliceArg.atI (kp hkj HF.out) j hj1
            subst eg
            have cg0 : wr.cell? ⟨bg, og + j, none⟩ = some (.int .i64 F[j]) := by simpa using hcg 0 (by decide)
            generalize F[j] = y at cg0
            have h3 := i64_and3 y
            have h4 := i64_and4P y
            have hy1 : y % 4 ≤ 9223372036854775807 := by omega
            have cb := cells_at hbj.cells
            have lb := hbj.lt.1
            have Hj := Lib.hid (And.intro hbj (And.intro hrj hkj))
            have Hneb := Lib.hid (bkt_row hbj hrj)
            clear hcg hbj hrj hkj
            by_cases hm : y % 8 < 4
            · rw [if_pos hm] at h4
              go_upto_region 17 with fail
              go_still_tail 15, (by kernel_rfl)
              repeat still_step
              (try refine wpStill_nil ?_)
              change wpList _ _ _ _ _ wr.drew
              go_wp2_with fail
              have kd : Keeps [] wr wr.drew := (Keeps.refl [] wr).drew
              refine (arm_ok wr.drew f c false Q (y % 4) true hy1 (kp kd Hj.out.1).fuse (by simp only [Bool.toNat_false]; omega)).mono ?_
              rintro e w4 ⟨rfl, hf4, hk4⟩
              have hb4 := (kp kd Hj.out.1).tried hk4 hf4
              have hr4 := hk4.row (kp kd Hj.out.2.1) (fun g hg hm => by
                obtain ⟨h1, h2, h3⟩ := Hneb.out g hg
                simp only [List.mem_cons, List.not_mem_nil, or_false] at hm
                omega)
              have hkw4 : Keeps [] w w4 := (kp kd Hj.out.2.2).after hk4 (fun x hx => .inr (by simp only [List.mem_cons, List.not_mem_nil, or_false] at hx; omega))
              have H4 := Lib.hid (And.intro hb4 (And.intro hr4 hkw4))
              clear hb4 hr4 hkw4 hf4 hk4 cb cg0 Hj
              go_wp2_with fail
              go_roundg (8 - (j + 1))
              case measure => have := Hgj.out; omega
              case rel => exact ⟨j + 1, _, by omega, by omega, rfl, by go_num, by rw [List.length_append, hQ]; rfl, H4.out.1, H4.out.2.1, H4.out.2.2⟩
            · rw [if_neg hm] at h4
              go_upto_region 17 with fail
              go_still_tail 15, (by kernel_rfl)
              repeat still_step
              (try refine wpStill_nil ?_)
              change wpList _ _ _ _ _ wr.drew
              go_wp2_with fail
              have kd : Keeps [] wr wr.drew := (Keeps.refl [] wr).drew
              refine (arm_ok wr.drew f c false Q (y % 4) false hy1 (kp kd Hj.out.1).fuse (by simp only [Bool.toNat_false]; omega)).mono ?_
              rintro e w4 ⟨rfl, hf4, hk4⟩
              have hb4 := (kp kd Hj.out.1).tried hk4 hf4
              have hr4 := hk4.row (kp kd Hj.out.2.1) (fun g hg hm => by
                obtain ⟨h1, h2, h3⟩ := Hneb.out g hg
                simp only [List.mem_cons, List.not_mem_nil, or_false] at hm
                omega)
              have hkw4 : Keeps [] w w4 := (kp kd Hj.out.2.2).after hk4 (fun x hx => .inr (by simp only [List.mem_cons, List.not_mem_nil, or_false] at hx; omega))
              have H4 := Lib.hid (And.intro hb4 (And.intro hr4 hkw4))
              clear hb4 hr4 hkw4 hf4 hk4 cb cg0 Hj
              go_wp2_with fail
              go_roundg (8 - (j + 1))
              case measure => have := Hgj.out; omega
              case rel => exact ⟨j + 1, _, by omega, by omega, rfl, by go_num, by rw [List.length_append, hQ]; rfl, H4.out.1, H4.out.2.1, H4.out.2.2⟩
          · have hexit : ((j : Int) < (F.length : Int) ∧ ¬ (j : Int) < 8) ∨ ¬ (j : Int) < (F.length : Int) := by omega
            have H4 := Lib.hid (And.intro hbj (And.intro hrj hkj))
            have hQ8 : Q.length ≤ 8 := by omega
            clear hbj hrj hkj Hgj hlt
            rcases hexit with ⟨h1, h2⟩ | h1
            · go_wp2_with fail
              go_meet
              case rel => exact ⟨Q, hQ8, H4.out⟩
            · go_wp2_with fail
              go_meet
              case rel => exact ⟨Q, hQ8, H4.out⟩
      case rest =>
        obtain ⟨Q, hQ8, hb4, hr4, hk4⟩ := hcut
        have hltj := hb4.lt
        have H4 := Lib.hid (And.intro hb4 (And.intro hr4 hk4))
        have Hnu := Lib.hid (newUpdate_spec wc)
        clear hb4 hr4 hk4 H3 Hr3
        go_wp2_with fail
        refine Hnu.out.mono ?_
        rintro e w5 ⟨ub, q, gb, rfl, hu, hS, hk5, hub, hne⟩
        obtain ⟨B, hB⟩ : ∃ n, n = wc.heap.size := ⟨_, rfl⟩
        have hvB : 0 < B := by
          rw [hB]
          exact (Hv.out.same H4.out.2.2).lt
        have hwB : w.heap.size ≤ B := by rw [hB]; exact H4.out.2.2.size
        have hgB : ∀ g, (Value.slice ao ON co).ownBlock = some g → g < B := fun g hg => by rw [hB]; exact (World.ownsRow.lt H4.out.2.1 g hg).2
        rw [← hB] at hltj hS hub
        have HgB := Lib.hid hgB
        have hst : UpSt w5 b f c mb B ub o0 0 false Q none scan0 false q gb := ⟨kp hk5 H4.out.1, hu, hS, hne, .inl rfl, fun x hx => by cases hx⟩
        have H5 := Lib.hid (And.intro hst (And.intro (kp hk5 H4.out.2.1) (H4.out.2.2.trans hk5)))
        have Hlow := Lib.hid (fun wz (hk : Keeps [] w wz) => (⟨hltj, hub, Hv.out.same hk, hvB⟩ : UpLow wz b f c mb B ub))
        clear hu hS hk5 hst hB hgB H4 Hnu hne
        go_upto_block 4 with fail
        go_cut [16, 17, 18, 19] from 75 (fun u16 _ _ _ wc => (∃ (now : Nat) (armed : Bool) (Q2 : List (Int × Bool)) (X : Option Ob) (S : ScanS) (q2 gb2 : Nat) (Y : Option Ob) (t : Nat) (x : Int), u16 = .int .i64 now ∧ now ≤ 1000 ∧ UpSt wc b f c mb B ub o0 now armed Q2 X S true q2 gb2 ∧ wc.ownsRow ob 28 2 (.slice ao ON co) OB.length (OB.flatMap encObj) ∧ Keeps [] w wc ∧ S = stS (bk o0 Y) t (waitsOf (bk o0 Y)).length ∧ XOk Y ∧ X = some (encR (bk o0 Y) t, x) ∧ (t : Int) ≤ now ∧ (now : Int) - t ≤ pat) ∨ ((T.length : Int) > 0 ∧ ∃ q2, UpdAt wc ub q2 false ∧ Keeps [] w wc))
        case first =>
          go_wp2_with fail
          go_loopg [16, 17] 60 (PutRelP w b f c mb B ub ob o0 pat T (.slice ao ON co) OB.length (OB.flatMap encObj))
          case atStart => exact ⟨0, 0, false, Q, none, scan0, false, q, gb, Nat.zero_le _, rfl, rfl, rfl, Nat.zero_le _, H5.out.1, H5.out.2.1, H5.out.2.2, fun _ => ⟨rfl, by show (if false = true then 0 else 2 + (waitsOf o0).length) + Q.length + 0 ≤ _; simp only [Bool.false_eq_true, if_false]; omega⟩, fun h => by cases h⟩
          case round =>
            obtain ⟨i, now, armed, Q2, X, S, p, q2, gb2, hi, hgi, rfl, rfl, hnow, hup, hrow, hkr, hTe, hpo⟩ := hrel
            have Hgi := Lib.hid hgi
            clear hgi H5
            have Hd := Lib.hid (updDone_spec wr ub q2 p hup.2.1)
            rcases Bool.eq_false_or_eq_true p with hpp | hpp
            · subst hpp
              obtain ⟨Y, t, x, hSe, hY, hXe, htn, hpt⟩ := hpo rfl
              have HE := Lib.hid (And.intro hup (And.intro hrow (And.intro hkr (And.intro hSe (And.intro hY (And.intro hXe (And.intro htn hpt)))))))
              have hn1000 : now ≤ 1000 := by omega
              clear hup hrow hkr hTe hpo hSe hY hXe htn hpt
              by_cases hi60 : (i : Int) < 60
              · go_wp2_with fail
                refine Hd.out.mono ?_
                rintro e w6 ⟨rfl, rfl⟩
                go_wp2_with fail
                go_meet
                case rel => exact .inl ⟨now, armed, Q2, X, S, q2, gb2, Y, t, x, rfl, hn1000, HE.out⟩
              · go_wp2_with fail
                go_meet
                case rel => exact .inl ⟨now, armed, Q2, X, S, q2, gb2, Y, t, x, rfl, hn1000, HE.out⟩
            · subst hpp
              by_cases hi60 : i < 60
              · have hi60' : (i : Int) < 60 := by omega
                go_wp2_with fail
                refine Hd.out.mono ?_
                rintro e w6 ⟨rfl, rfl⟩
                clear Hd
                go_upto_if 87 with fail
                go_cut [16] from 75 to 132 (fun u16 wc => (∃ n2 : Nat, u16 = .int .i64 n2 ∧ now ≤ n2 ∧ n2 ≤ 7 * (i + 1) ∧ (T = [] → n2 = 0 ∧ far (waitsOf o0).length S + Q2.length + i ≤ (waitsOf o0).length + 10)) ∧ wc = wr)
                case first =>
                  by_cases hiT : i < T.length
                  · have hiT' : (i : Int) < (T.length : Int) := by omega
                    obtain ⟨bg, og, eg, hbg, hcg⟩ := SliceArg.atI (kp hkr HT.out) i hiT
                    subst eg
                    have cg0 : wr.cell? ⟨bg, og + i, none⟩ = some (.int .i64 T[i]) := by simpa using hcg 0 (by decide)
                    have hTn : T = [] → False := fun h => by rw [h] at hiT; simp at hiT
                    generalize T[i] = y at cg0
                    have h7 := i64_and7 y
                    obtain ⟨n2, hn2⟩ : ∃ n : Nat, (now : Int) + y % 8 = (n : Int) := ⟨((now : Int) + y % 8).toNat, by omega⟩
                    have hwn : IntKind.i64.wrap ((now : Int) + y % 8) = (n2 : Int) := by rw [IntWalk.i64_in _ (by omega)]; exact hn2
                    have hle : now ≤ n2 ∧ n2 ≤ 7 * (i + 1) := by omega
                    clear hcg hn2 hpo hTe hup hrow hkr
                    go_wp2_with fail
                    go_meet
                    case rel => exact ⟨⟨n2, rfl, hle.1, hle.2, fun h => (hTn h).elim⟩, rfl⟩
                  · have hiT' : ¬ (i : Int) < (T.length : Int) := by omega
                    have hle : now ≤ 7 * (i + 1) := by omega
                    have HTe : Hid (T = [] → now = 0 ∧ far (waitsOf o0).length S + Q2.length + i ≤ (waitsOf o0).length + 10) := Lib.hid (fun h => by
                      obtain ⟨h1, h2⟩ := hTe h
                      simp only [Bool.false_eq_true, if_false] at h2
                      exact ⟨h1, h2⟩)
                    clear hpo hTe hup hrow hkr
                    go_wp2_with fail
                    go_meet
                    case rel => exact ⟨⟨now, rfl, Nat.le_refl _, hle, HTe.out⟩, rfl⟩
                case rest =>
                  obtain ⟨⟨n2, rfl, hle, hle7, hTe2⟩, rfl⟩ := hcut
                  have HTe := Lib.hid hTe2
                  clear hpo hTe hTe2
                  have hup2 : UpSt wc b f c mb B ub o0 n2 armed Q2 X S false q2 gb2 := ⟨hup.1, hup.2.1, hup.2.2.1, hup.2.2.2.1, hup.2.2.2.2.1.later (by omega), hup.2.2.2.2.2⟩
                  have hqB := hup.2.2.1.1
                  have hgB2 := hup.2.2.1.2.1
                  have Hus := Lib.hid (updStep_spec wc b f c mb B ub q2 gb2 o0 armed Q2 X S n2 pat hup2 (Hlow.out wc hkr) Hok.out (by omega) (by omega))
                  have Hat : Hid (Calls Tryz.prog 31 #[.pointer (some ⟨q2, 0, none⟩)] wc fun e w' => e = .returned (.int .i64 (atS S)) ∧ wc = w') := Lib.hid (scanAt_spec wc B q2 gb2 S hup.2.2.1)
                  have cu := cells_at hup.2.1
                  have lu := lt_of_at hup.2.1
                  have hpa := hup2.2.2.2.2.1.at_
                  have HK := Lib.hid (fun w7 (hk : Keeps [f, c, mb, ub, q2, gb2] wc w7) => (⟨hk.row hrow (fun g hg hm => by
                    obtain ⟨h1, h2, h3⟩ := bkt_row hup.1 hrow g hg
                    have h4 := HgB.out g hg
                    simp only [List.mem_cons, List.not_mem_nil, or_false] at hm
                    omega), hkr.after hk (fun x hx => .inr (by simp only [List.mem_cons, List.not_mem_nil, or_false] at hx; omega))⟩ : w7.ownsRow ob 28 2 (.slice ao ON co) OB.length (OB.flatMap encObj) ∧ Keeps [] w w7))
                  clear hup hup2 hrow hkr
                  rcases hpa with ⟨hbg, ha⟩ | ⟨hbg, ht0, htn, ha⟩
                  · rw [ha] at Hat
                    have hns : ¬ Stale S n2 pat := fun h => by rw [h.1] at hbg; cases hbg
                    go_wp2_with fail
                    refine Hat.out.mono ?_
                    rintro e w6 ⟨rfl, rfl⟩
                    go_wp2_with fail
                    refine Hus.out.mono ?_
                    rintro e w7 ⟨err, armed', Q', X', S', p', q', gb', rfl, hu7, hk7, hvd⟩
                    rcases hvd with ⟨h, -⟩ | ⟨-, herr, hmu, hpo7⟩
                    · exact absurd h hns
                    · have H7 := Lib.hid (And.intro hu7 (And.intro (HK.out w7 hk7) hpo7))
                      clear hu7 hk7 hpo7 cu Hus Hat
                      have hTe7 : T = [] → n2 = 0 ∧ (if p' then 0 else far (waitsOf o0).length S') + Q'.length + (i + 1) ≤ (waitsOf o0).length + 10 := fun h => by
                        obtain ⟨h1, h2⟩ := HTe.out h
                        exact ⟨h1, by omega⟩
                      have HT7 := Lib.hid hTe7
                      clear hTe7 hmu
                      rcases herr with rfl | rfl
                      · go_wp2_with fail
                        go_roundg (60 - (i + 1))
                        case measure => have := Hgi.out; omega
                        case rel => exact ⟨i + 1, n2, armed', Q', X', S', p', q', gb', by omega, rfl, by go_num, rfl, hle7, H7.out.1, H7.out.2.1.1, H7.out.2.1.2, HT7.out, H7.out.2.2⟩
                      · go_wp2_with fail
                        go_roundg (60 - (i + 1))
                        case measure => have := Hgi.out; omega
                        case rel => exact ⟨i + 1, n2, armed', Q', X', S', p', q', gb', by omega, rfl, by go_num, rfl, hle7, H7.out.1, H7.out.2.1.1, H7.out.2.1.2, HT7.out, H7.out.2.2⟩
                  · rw [ha] at Hat
                    obtain ⟨tn, htk⟩ := Int.eq_ofNat_of_zero_le ht0
                    rw [htk] at Hat htn
                    have hwd : IntKind.i64.wrap ((n2 : Int) - (tn : Int)) = (n2 : Int) - (tn : Int) := IntWalk.i64_in _ (by omega)
                    have hge : (tn : Int) ≥ 0 := by omega
                    by_cases hst : (n2 : Int) - (tn : Int) > (pat : Int)
                    · have hS1 : Stale S n2 pat := ⟨hbg, by rw [htk]; omega⟩
                      go_wp2_with fail
                      refine Hat.out.mono ?_
                      rintro e w6 ⟨rfl, rfl⟩
                      go_wp2_with fail
                      refine Hat.out.mono ?_
                      rintro e w6 ⟨rfl, rfl⟩
                      go_wp2_with fail
                      refine Hus.out.mono ?_
                      rintro e w7 ⟨err, armed', Q', X', S', p', q', gb', rfl, hu7, hk7, hvd⟩
                      rcases hvd with ⟨-, rfl, rfl⟩ | ⟨h, -⟩
                      · have H7 := Lib.hid (And.intro hu7 (HK.out w7 hk7))
                        clear hu7 hk7 cu Hus Hat
                        go_wp2_with fail
                        go_roundg (60 - (i + 1))
                        case measure => have := Hgi.out; omega
                        case rel => exact ⟨i + 1, n2, armed', Q', X', S', false, q', gb', by omega, rfl, by go_num, rfl, hle7, H7.out.1, H7.out.2.1, H7.out.2.2, fun h => by have := (HTe.out h).1; omega, fun h => by cases h⟩
                      · exact absurd hS1 h
                    · have hns : ¬ Stale S n2 pat := fun h => by have := h.2; rw [htk] at this; omega
                      go_wp2_with fail
                      refine Hat.out.mono ?_
                      rintro e w6 ⟨rfl, rfl⟩
                      go_wp2_with fail
                      refine Hat.out.mono ?_
                      rintro e w6 ⟨rfl, rfl⟩
                      go_wp2_with fail
                      refine Hus.out.mono ?_
                      rintro e w7 ⟨err, armed', Q', X', S', p', q', gb', rfl, hu7, hk7, hvd⟩
                      rcases hvd with ⟨h, -⟩ | ⟨-, herr, hmu, hpo7⟩
                      · exact absurd h hns
                      · have H7 := Lib.hid (And.intro hu7 (And.intro (HK.out w7 hk7) hpo7))
                        clear hu7 hk7 hpo7 cu Hus Hat
                        have hTe7 : T = [] → n2 = 0 ∧ (if p' then 0 else far (waitsOf o0).length S') + Q'.length + (i + 1) ≤ (waitsOf o0).length + 10 := fun h => by
                          obtain ⟨h1, h2⟩ := HTe.out h
                          exact ⟨h1, by omega⟩
                        have HT7 := Lib.hid hTe7
                        clear hTe7 hmu
                        rcases herr with rfl | rfl
                        · go_wp2_with fail
                          go_roundg (60 - (i + 1))
                          case measure => have := Hgi.out; omega
                          case rel => exact ⟨i + 1, n2, armed', Q', X', S', p', q', gb', by omega, rfl, by go_num, rfl, hle7, H7.out.1, H7.out.2.1.1, H7.out.2.1.2, HT7.out, H7.out.2.2⟩
                        · go_wp2_with fail
                          go_roundg (60 - (i + 1))
                          case measure => have := Hgi.out; omega
                          case rel => exact ⟨i + 1, n2, armed', Q', X', S', p', q', gb', by omega, rfl, by go_num, rfl, hle7, H7.out.1, H7.out.2.1.1, H7.out.2.1.2, HT7.out, H7.out.2.2⟩
              · have hi60' : ¬ (i : Int) < 60 := by omega
                have hTn : (T.length : Int) > 0 := by
                  rcases Nat.eq_zero_or_pos T.length with h | h
                  · obtain ⟨-, h2⟩ := hTe (List.eq_nil_of_length_eq_zero h)
                    simp only [Bool.false_eq_true, if_false] at h2
                    omega
                  · omega
                have HX := Lib.hid (And.intro hTn (And.intro hup.2.1 hkr))
                clear hup hrow hkr hTe hpo
                go_wp2_with fail
                go_meet
                case rel => exact .inr ⟨HX.out.1, q2, HX.out.2⟩
        case rest =>
          rcases hcut with ⟨now, armed, Q2, X, S, q2, gb2, Y, t, x, rfl, hn1000, hup, hrow, hkr, hSe, hY, hXe, htn, hpt⟩ | ⟨hTn, q2, hu2, hk2⟩
          · have Hd := Lib.hid (updDone_spec wc ub q2 true hup.2.1)
            subst hSe hXe
            have hbY := bk_ok Hok.out hY
            have hlk : look (bk o0 (some (encR (bk o0 Y) t, x))) indexB = some (encR (bk o0 Y) t, x) := by
              show look (put o0 indexB (encR (bk o0 Y) t, x)) indexB = _
              rw [look_put, if_pos rfl]
            have Hpk := Lib.hid (peek_spec wc b f c mb armed Q2 _ hup.1 indexB)
            rw [hlk] at Hpk
            have hbr := blks_ref hbY.run hbY.waits (t : Int)
            have hof := (hbY.run.scan t (waitsOf (bk o0 Y)).length).of (tn := t) (by omega)
            rw [hbr] at hof
            have hed : (encR (bk o0 Y) t).data.toList = frameL 3 (lstL t ((sortT (ofN (objsOf o0) (objsOf o0).length)).map (·.1)) (marksOf (ofN (objsOf o0) (objsOf o0).length))) := by rw [← hbr]; rfl
            have hidn : ((ofN (objsOf o0) (objsOf o0).length).map fun p => p.1.id).Nodup := ofN_nodup (by rw [show (objsOf o0).map (·.1) = (listing o0 ⟨#[]⟩).map (·.1) from by simp [objsOf, List.map_map, Function.comp_def]]; exact listing_nodupR Hok.out.nodup) _
            have hTl : (ofN (objsOf o0) (objsOf o0).length).length ≤ 15 := Nat.le_trans (ofN_len _ _) Hok.out.objLen
            have Hro : Hid (∀ W, W.ownsRow ob 28 2 (.slice ao ON co) OB.length (OB.flatMap encObj) → Calls Tryz.prog 13 #[.int .i64 t, .slice ao ON co] W fun e w' => ∃ u, e = .returned (.agg #[.int .i64 t, u]) ∧ BlksV W.heap.size w' u (sortT (ofN (objsOf o0) (objsOf o0).length)) ∧ Keeps [] W w') := Lib.hid (fun W h => by
              have h1 := rOf_spec W t (.slice ao ON co) OB (sliceFrom_row (enc := encObj) encObj_len h).arg (by rw [HOB.out]; exact Hok.out.objs) (by rw [HOB.out]; exact Hok.out.objLen)
              rw [HOB.out] at h1
              exact h1)
            have Hat : Hid (∀ W, ScanAt (ub + 1) W B q2 gb2 (stS (bk o0 Y) t (waitsOf (bk o0 Y)).length) → Calls Tryz.prog 31 #[.pointer (some ⟨q2, 0, none⟩)] W fun e w' => e = .returned (.int .i64 t) ∧ W = w') := Lib.hid (fun W h => scanAt_spec W B q2 gb2 _ h)
            obtain ⟨SC, hSC⟩ : ∃ S, S = stS (bk o0 Y) t (waitsOf (bk o0 Y)).length := ⟨_, rfl⟩
            obtain ⟨TT, hTT⟩ : ∃ T, T = ofN (objsOf o0) (objsOf o0).length := ⟨_, rfl⟩
            obtain ⟨SS, hSS⟩ : ∃ S, S = sortT TT := ⟨_, rfl⟩
            rw [← hTT] at hof hed hidn hTl Hro
            rw [← hSS] at hof hed Hro
            rw [← hSC] at Hat hup
            have hSn : (SS.map fun p => p.1.id).Nodup := (hof.perm.map _).nodup_iff.2 hidn
            have htm := took_marked hSn hof.look
            have hSl : SS.length ≤ 15 := by have := hof.perm.length_eq; omega
            obtain ⟨enc, hen⟩ : ∃ e, e = encR (bk o0 Y) t := ⟨_, rfl⟩
            rw [← hen] at hed Hpk
            have Hdc := Lib.hid (fun W => listDec_spec W enc t (SS.map (·.1)) (marksOf TT) hed hof.list)
            have Hof := Lib.hid (And.intro hof (And.intro htm hSl))
            have HX := Lib.hid (And.intro hup.2.1 (And.intro hup.2.2.1 (And.intro hrow hkr)))
            have hwd : IntKind.i64.wrap ((now : Int) - (t : Int)) = (now : Int) - (t : Int) := IntWalk.i64_in _ (by omega)
            have hdp : decide ((now : Int) - (t : Int) > (pat : Int)) = false := by rw [decide_eq_false_iff_not]; omega
            have hdp2 : decide ((pat : Int) < (now : Int) - (t : Int)) = false := by rw [decide_eq_false_iff_not]; omega
            have hww := hkr.size
            have hBw : B ≤ wc.heap.size := by have := lt_of_at hup.2.1; have := Hlow.out wc hkr; have := this.up; omega
            clear hSC hTT hSS hbY hlk hbr hof hed hidn hTl hSn htm hen hup hrow hkr hY
            dsimp only [obOr, Option.getD, Option.isSome] at Hpk
            go_wp2_with fail
            refine Hd.out.mono ?_
            rintro e w6 ⟨rfl, rfl⟩
            go_wp2_with fail
            refine Hpk.out.mono ?_
            rintro e w7 ⟨rfl, hk7⟩
            have H7 := Lib.hid (kp hk7 HX.out)
            clear hk7 Hpk HX Hd
            go_wp2_with fail
            refine (Hdc.out _).mono ?_
            rintro e w8 ⟨vm, mb8, rfl, hm8, hmp8, hk8⟩
            obtain ⟨am, cm, rfl⟩ := hm8.form
            obtain ⟨sl, hsl⟩ : ∃ n, n = (SS.map (·.1)).length := ⟨_, rfl⟩
            rw [← hsl] at hm8 ⊢
            have ka : Keeps [] w8 (w8.alloc (.cells #[.int .i64 t, .slice am sl cm, .map (some mb8)] 32)) := (Keeps.refl [] w8).alloc _
            have na := heap_new w8 (.cells #[.int .i64 t, .slice am sl cm, .map (some mb8)] 32)
            obtain ⟨lb, hlb⟩ : ∃ n, n = w8.heap.size := ⟨_, rfl⟩
            rw [← hlb] at na
            have Hlb := Lib.hid hlb
            have H9 := Lib.hid (And.intro na (And.intro (kp ka (And.intro hm8 hmp8)) (And.intro (kp (hk8.trans ka) H7.out) (hk8.trans ka).size)))
            clear hm8 hmp8 hk8 ka na hlb hsl Hdc H7
            go_upto_region 33 with fail
            rw [← Hlb.out]
            clear Hlb
            generalize w8.alloc (.cells #[.int .i64 t, .slice am sl cm, .map (some mb8)] 32) = W3 at H9 ⊢
            have cL := cells_at H9.out.1
            have lL := lt_of_at H9.out.1
            have cU := cells_at H9.out.2.2.1.1
            have lU := lt_of_at H9.out.2.2.1.1
            go_quiet ((go_at_call 31; exact quiet_stayO (Hat.out _ (kp ((Keeps.refl [] W3).drewN _) H9.out.2.2.1.2.1))))
            rename_i nq
            obtain ⟨W4, hW4⟩ : ∃ W, W = W3.drewN nq := ⟨_, rfl⟩
            have kd : Keeps [] W3 W4 := by rw [hW4]; exact (Keeps.refl [] W3).drewN nq
            have H4' := Lib.hid (And.intro (kd.at_ H9.out.1 (by simp)) (And.intro (kp kd H9.out.2.1) (And.intro (kp kd H9.out.2.2.1.2) (Nat.le_trans H9.out.2.2.2 kd.size))))
            rw [← hW4]
            clear cL lL cU lU H9 hW4 kd Hat
            rcases Nat.eq_zero_or_pos h with hh | hh
            · have hd0 : decide ((h : Int) > 0) = false := by rw [decide_eq_false_iff_not]; omega
              have hd1 : ¬ (h : Int) > 0 := by omega
              go_upto_region 35 with fail
              obtain ⟨W5, hW5⟩ : ∃ W, W = W4.drew := ⟨_, rfl⟩
              have kd5 : Keeps [] W4 W5 := by rw [hW5]; exact (Keeps.refl [] W4).drew
              have H6 := Lib.hid (kp kd5 H4'.out)
              have HW5 := Lib.hid hW5
              clear hW5 kd5 H4'
              have cL : ∀ (s : Kept W5) i, s.val.cell? ⟨lb, i, none⟩ = (#[Value.int .i64 t, .slice am sl cm, .map (some mb8)] : Array Value)[i]? := fun s i => (s.property.cell (lt_of_at H6.out.1) (by simp)).trans (cells_at H6.out.1 i)
              have lL : ∀ s : Kept W5, lb < s.val.heap.size := fun s => s.property.lt (lt_of_at H6.out.1)
              refine wp_region_held_drew (S := KeptS W5) (by kernel_rfl) (by rw [← HW5.out]; exact keptS (Keeps.refl _ _)) (fun hS => ?_)
              rw [← HW5.out] at hS ⊢
              clear HW5
              refine wpAnyH_take (i := 0) (v := ?_) rfl (by kernel_rfl) (by kernel_rfl) (by kernel_rfl) (fun _ _ _ h => h) (Or.inl ⟨by rfl, ?_⟩) (by assumption) ?_
              rotate_left
              · intro w' s1; obtain ⟨s, rfl⟩ := s1; go_simp; (try with_reducible rfl)
              simp only [Act.put, List.getElem_toArray, List.getElem_cons_succ, List.getElem_cons_zero, List.setIfInBounds_toArray, List.set_cons_zero, List.set_cons_succ]
              refine wpAnyH_take (i := 1) (v := ?_) rfl (by kernel_rfl) (by kernel_rfl) (by kernel_rfl) (fun _ _ _ h => h) (Or.inl ⟨by rfl, ?_⟩) (by assumption) ?_
              rotate_left
              · intro w' s1; obtain ⟨s, rfl⟩ := s1; go_simp; (try with_reducible rfl)
              simp only [Act.put, List.getElem_toArray, List.getElem_cons_succ, List.getElem_cons_zero, List.setIfInBounds_toArray, List.set_cons_zero, List.set_cons_succ]
              refine wpAnyH_take (i := 2) (v := ?_) rfl (by kernel_rfl) (by kernel_rfl) (by kernel_rfl) (fun _ _ _ h => h) (Or.inl ⟨by rfl, ?_⟩) (by assumption) ?_
              rotate_left
              · intro w' s1; obtain ⟨s, rfl⟩ := s1; go_simp; (try with_reducible rfl)
              simp only [Act.put, List.getElem_toArray, List.getElem_cons_succ, List.getElem_cons_zero, List.setIfInBounds_toArray, List.set_cons_zero, List.set_cons_succ]
              refine wpAnyH_take (i := 3) (v := ?_) rfl (by kernel_rfl) (by kernel_rfl) (by kernel_rfl) (fun _ _ _ h => h) (Or.inl ⟨by rfl, ?_⟩) (by assumption) ?_
              rotate_left
              · intro w' s1; obtain ⟨s, rfl⟩ := s1; go_simp; (try with_reducible rfl)
              simp only [Act.put, List.getElem_toArray, List.getElem_cons_succ, List.getElem_cons_zero, List.setIfInBounds_toArray, List.set_cons_zero, List.set_cons_succ]
              refine wpAnyH_take (i := 4) (v := ?_) rfl (by kernel_rfl) (by kernel_rfl) (by kernel_rfl) (fun _ _ _ h => h) (Or.inl ⟨by rfl, ?_⟩) (by assumption) ?_
              rotate_left
              · intro w' s1; obtain ⟨s, rfl⟩ := s1; go_simp; (try with_reducible rfl)
              simp only [Act.put, List.getElem_toArray, List.getElem_cons_succ, List.getElem_cons_zero, List.setIfInBounds_toArray, List.set_cons_zero, List.set_cons_succ]
              refine wpAnyH_take (i := 5) (v := ?_) rfl (by kernel_rfl) (by kernel_rfl) (by kernel_rfl) (fun _ _ _ h => h) (Or.inl ⟨by rfl, ?_⟩) (by assumption) ?_
              rotate_left
              · intro w' s1; obtain ⟨s, rfl⟩ := s1; go_simp; (try with_reducible rfl)
              simp only [Act.put, List.getElem_toArray, List.getElem_cons_succ, List.getElem_cons_zero, List.setIfInBounds_toArray, List.set_cons_zero, List.set_cons_succ]
              refine wpAnyH_take (i := 6) (v := ?_) rfl (by kernel_rfl) (by kernel_rfl) (by kernel_rfl) (fun _ _ _ h => h) (Or.inl ⟨by rfl, ?_⟩) (by assumption) ?_
              rotate_left
              · intro w' s1; obtain ⟨s, rfl⟩ := s1; go_simp; (try with_reducible rfl)
              simp only [Act.put, List.getElem_toArray, List.getElem_cons_succ, List.getElem_cons_zero, List.setIfInBounds_toArray, List.set_cons_zero, List.set_cons_succ]
              refine wpAnyH_ready (rs := [7]) (by kernel_rfl) (by simp) ?_
              refine AllReadyH.cons rfl (fun K hK => ?_) AllReadyH.nil
              go_simp
              go_at_call 13
              refine (Hro.out W5 H6.out.2.2.1.2.1).mono ?_
              rintro e A1 ⟨u, rfl, hu, kA1⟩
              have Hu := Lib.hid hu
              clear hu
              go_simp
              refine hK.out _ _ (keptS kA1) (fun hS => ?_)
              clear hK K
              try simp only [Act.put, List.getElem_toArray, List.getElem_cons_succ, List.getElem_cons_zero, List.setIfInBounds_toArray, List.set_cons_zero, List.set_cons_succ]
              refine wpAnyH_ready (rs := [8]) (by kernel_rfl) (by simp) ?_
              refine AllReadyH.cons rfl (fun K hK => ?_) AllReadyH.nil
              go_simp
              go_at_call 12
              refine (is_spec _ _ A1 t (.slice am sl cm) u mb8 (tookM (marksOf TT) (SS.map (·.1))) SS (kp kA1 H6.out.2.1.1) Hu.out (kp kA1 H6.out.2.1.2) (Nat.le_trans Hof.out.2.2 (by decide)) Hof.out.1.files (Nat.le_trans H6.out.2.2.2 kA1.size) (fun p hp => by rw [look_tookM ⟨p.1, List.mem_map.2 ⟨p, hp, rfl⟩, rfl⟩]; exact Hof.out.1.look p hp) Hof.out.2.1).mono ?_
              rintro e A2 ⟨rfl, kB2⟩
              have kA2 := kA1.trans kB2
              go_simp
              refine hK.out _ _ (keptS kA2) (fun hS => ?_)
              clear hK K
              try simp only [Act.put, List.getElem_toArray, List.getElem_cons_succ, List.getElem_cons_zero, List.setIfInBounds_toArray, List.set_cons_zero, List.set_cons_succ]
              refine wpAnyH_take (i := 9) (v := ?_) rfl (by kernel_rfl) (by kernel_rfl) (by kernel_rfl) (fun _ _ _ h => h) (Or.inl ⟨by rfl, ?_⟩) (by assumption) ?_
              rotate_left
              · intro w' s1; obtain ⟨s, rfl⟩ := s1; go_simp; (try with_reducible rfl)
              simp only [Act.put, List.getElem_toArray, List.getElem_cons_succ, List.getElem_cons_zero, List.setIfInBounds_toArray, List.set_cons_zero, List.set_cons_succ]
              refine wpAnyH_take (i := 10) (v := ?_) rfl (by kernel_rfl) (by kernel_rfl) (by kernel_rfl) (fun _ _ _ h => h) (Or.inl ⟨by rfl, ?_⟩) (by assumption) ?_
              rotate_left
              · intro w' s1; obtain ⟨s, rfl⟩ := s1; go_simp; (try with_reducible rfl)
              simp only [Act.put, List.getElem_toArray, List.getElem_cons_succ, List.getElem_cons_zero, List.setIfInBounds_toArray, List.set_cons_zero, List.set_cons_succ]
              refine wpAnyH_take (i := 11) (v := ?_) rfl (by kernel_rfl) (by kernel_rfl) (by kernel_rfl) (fun _ _ _ h => h) (Or.inl ⟨by rfl, ?_⟩) (by assumption) ?_
              rotate_left
              · intro w' s1; obtain ⟨s, rfl⟩ := s1; go_simp; (try with_reducible rfl)
              simp only [Act.put, List.getElem_toArray, List.getElem_cons_succ, List.getElem_cons_zero, List.setIfInBounds_toArray, List.set_cons_zero, List.set_cons_succ]
              refine wpAnyH_done (by kernel_rfl) ?_ _
              have HZ := Lib.hid (H6.out.2.2.1.2.2.trans kA2)
              clear hS kA1 kA2 kB2 cL lL Hu Hro H6
              go_wp2_with fail
              go_ret
              exact ⟨rfl, HZ.out⟩
            · have hd0 : decide ((h : Int) > 0) = true := decide_eq_true (by omega)
              have hd1 : (h : Int) > 0 := by omega
              have HZ := Lib.hid H4'.out.2.2.1.2.2
              go_upto_region 35 with fail
              go_quiet (fail)
              have HF2 := Lib.hid (fun n => HZ.out.drewN n)
              go_wp2_with fail
              go_ret
              exact ⟨rfl, HF2.out _⟩
          · have Hd := Lib.hid (updDone_spec wc ub q2 false hu2)
            have HX := Lib.hid hk2
            clear hu2 hk2
            go_wp2_with fail
            refine Hd.out.mono ?_
            rintro e w6 ⟨rfl, rfl⟩
            go_wp2_with fail
            go_ret
            exact ⟨(by show Ending.returned (.bool (decide (0 < T.length))) = _; rw [decide_eq_true (by omega)]), HX.out⟩

theorem scanPuts_law (W : World) (hv : LibVar W) (v : Value) (h : ∃ L : List ThingL, SliceArg 13 encThing W v L ∧ ∀ x ∈ L, True) (u : Value) (hu : ∃ zs : List Int, SliceArg 1 (fun n => [Value.int .i64 n]) W u zs ∧ ∀ n ∈ zs, -9223372036854775808 ≤ n ∧ n ≤ 9223372036854775807) (u2 : Value) (hu2 : ∃ zs : List Int, SliceArg 1 (fun n => [Value.int .i64 n]) W u2 zs ∧ ∀ n ∈ zs, -9223372036854775808 ≤ n ∧ n ≤ 9223372036854775807) (a : Int) (_ : (Lit.int .i64 a).wf = true) :
    Calls Tryz.prog 6 #[v, u, u2, .int .i64 a] W fun e w' => e = .returned (.bool true) ∧ Keeps [] W w' := by
  obtain ⟨L, hs, _⟩ := h
  obtain ⟨G, hG, _⟩ := hu
  obtain ⟨F, hF, _⟩ := hu2
  exact scanPuts_walk W hv v L hs u G hG u2 F hF a
end Go.Proofs.YtjffdcflkkgpfaaGreat
