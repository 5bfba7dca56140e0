/-
  FetchReads: of any block the rows that are asked for; walked.
  No condition: every input that can be read.
-/
import Derived.Test.YtkffpcmminlndaaGreatDoorFetO
import Derived.Test.YtkffpcmminlndaaGreatDoorTabSame
import Derived.Test.YtkffpcmminlndaaGreatDoorSignsL
namespace Go.Proofs.YtkffpcmminlndaaGreatDoor
open Go Go.RowKit Go.Conc

theorem i64_and4R (n : Int) : bits .and .i64 n 4 = if n % 8 < 4 then 0 else 4 := by
  have h3 : (BitVec.ofInt 64 4).toNat = 4 := by decide
  have key : (BitVec.ofInt 64 n &&& BitVec.ofInt 64 4).toNat = (n % ((2 ^ 64 : Nat) : Int)).toNat &&& 4 := by
    rw [BitVec.toNat_and, BitVec.toNat_ofInt, h3]
  have k2 : ∀ m : Nat, m &&& 4 = if m % 8 < 4 then 0 else 4 := by
    intro m
    have e : m &&& 4 = (m % 8) &&& 4 := by
      have := Nat.and_two_pow_sub_one_eq_mod m 3
      rw [show m % 8 = m &&& 7 from this.symm, Nat.and_assoc]
      rfl
    rw [e]
    have : m % 8 < 8 := Nat.mod_lt _ (by omega)
    generalize m % 8 = r at *
    match r, this with
    | 0, _ | 1, _ | 2, _ | 3, _ | 4, _ | 5, _ | 6, _ | 7, _ => rfl
  show IntKind.i64.wrap ((BitVec.ofInt 64 n &&& BitVec.ofInt 64 4).toNat : Nat) = _
  rw [key, k2]
  have e8 : (n % ((2 ^ 64 : Nat) : Int)).toNat % 8 < 4 ↔ n % 8 < 4 := by omega
  simp only [e8]
  split <;> rfl

theorem i64_and3R (n : Int) : bits .and .i64 n 3 = n % 4 := by
  have h3 : (BitVec.ofInt 64 3).toNat = 2 ^ 2 - 1 := by decide
  have key : (BitVec.ofInt 64 n &&& BitVec.ofInt 64 3).toNat = (n % ((2 ^ 64 : Nat) : Int)).toNat % 2 ^ 2 := by
    rw [BitVec.toNat_and, BitVec.toNat_ofInt, h3, Nat.and_two_pow_sub_one_eq_mod]
  show IntKind.i64.wrap ((BitVec.ofInt 64 n &&& BitVec.ofInt 64 3).toNat : Nat) = n % 4
  rw [key, IntKind.wrap_i64]
  omega


theorem try_len (Q : List (Int × Bool)) : (tryWorks Q = true ∧ (tryQ Q).length = Q.length) ∨ (tryWorks Q = false ∧ (tryQ Q).length + 1 = Q.length) := by
  cases Q with
  | nil => exact .inl ⟨rfl, rfl⟩
  | cons x r =>
    obtain ⟨n, d⟩ := x
    by_cases h : 0 < n
    · exact .inl ⟨by simp [tryWorks, tryS, h], by simp [tryQ, tryS, h]⟩
    · exact .inr ⟨by simp [tryWorks, tryS, h], by simp [tryQ, tryS, h]⟩

theorem code_storedQ (A : TabT) (Q : List (Int × Bool)) (j : Nat) : codeR Q (storedO A) (objectB (storedM A).id (partO j)) = if tryWorks Q then 0 else 8 := by
  have h := code_stored A j
  unfold codeR at h ⊢
  rw [if_pos (show tryWorks [] = true from rfl)] at h
  rw [h]

theorem wantP_wantT (fr up : Int) (L : List MatB) (A : TabT) : (wantP fr up L A).length = (wantT fr up L A).length := by
  have := congrArg List.length (wantP_snd fr up L A)
  simpa using this

theorem reads_all {A : TabT} {fr0 up0 : Nat} (h : BlkOk A fr0 up0) (fr up : Int) (L : List MatB) : betT fr up (readT fr up L A ((wantP fr up L A).length + 1)) = (betT fr up A).filter (fitR L) := by
  unfold readT
  rw [wantP_wantT, List.take_of_length_le (by omega), want_bet h.pw]

theorem sliceArg_atR {α : Type} {size : Nat} {enc : α → List Value} {w : World} {a : Option Addr} {n c : Nat} {L : List α} (h : SliceArg size enc w (.slice a n c) L) (i : Nat) (hi : i < L.length) :
    ∃ b off, a = some ⟨b, off, none⟩ ∧ b < w.heap.size ∧ ∀ j, j < size → w.cell? ⟨b, off + (i * size + j), none⟩ = (enc L[i])[j]? := by
  obtain ⟨ao, cap, e, hl, h⟩ := h
  injection e with e _ _
  subst e
  exact h i hi

theorem few_filter {A : TabT} (h : FewT A) (q : RowT → Bool) : FewT (A.filter q) := ⟨Nat.le_trans (List.length_filter_le _ _) h.1, fun r hr => h.2 r (List.mem_filter.1 hr).1⟩

def ArmRelR (W : World) (b f c mb : Nat) (o : List (ByteArray × Ob)) (n : Nat) (gk : Nat) (u : Value) (wr : World) : Prop :=
  ∃ k Q, k ≤ n ∧ k ≤ 6 ∧ gk = 6 - k ∧ u = .int .i64 k ∧ Q.length = k ∧ BucketAt wr b f c mb false Q o ∧ Keeps [f, c] W wr

def ReadRel (w4 : World) (p Y : Nat) (M : MetaS) (A : TabT) (vf vo vm : Value) (L : List MatB) (fr up : Int) (b f c mb : Nat) (o : List (ByteArray × Ob)) (N : Nat) (gk : Nat) (us ui : Value) (wr : World) : Prop :=
  ∃ i j armed Q, i ≤ 60 ∧ gk = 60 - i ∧ ui = .int .i64 (i : Nat) ∧ us = .int .i64 (j : Nat) ∧ j ≤ N + 1 ∧ i + Q.length ≤ j + 6 ∧ FetSt w4 p Y M A vf vo vm L fr up b f c mb armed Q o wr j

set_option linter.unusedSimpArgs false in
set_option maxRecDepth 100000 in
set_option maxHeartbeats 4000000 in
theorem fetchReads_walk (w : World) (hv : LibVar w) (hsg : SignsAt w) (hX : XorVar w) (v : Value) (LO : List One14) (h : SliceArg 3 encO14 w v LO) (hpos : ∀ x ∈ LO, 0 ≤ x.1 ∧ 0 ≤ x.2.2 ∧ x.2.2 < 18446744073709551616) (fr up : Int) (vm : Value) (MM : List MatB) (hm : MatsAt w vm MM) (vt : Value) (F : List Int) (hF : SliceArg 1 (fun n => [Value.int .i64 n]) w vt F) :
    Calls Tryz.prog 3 #[v, .int .i64 fr, .int .i64 up, vm, vt] w fun e w' => e = .returned (.bool true) ∧ Keeps [] w w' := by
  have hok : BlkOk (tblL (LO.take 40)) 0 1000 := blkOk_tbl (by rw [List.length_take]; omega) (fun x hx => hpos x (List.mem_of_mem_take hx))
  have Hf := Lib.hid (And.intro h (And.intro (show ∀ x ∈ LO, 0 ≤ x.1 from fun x hx => (hpos x hx).1) (And.intro hv (And.intro hsg (And.intro hX hm)))))
  obtain ⟨av, cv, rfl, -, -⟩ := h
  obtain ⟨am, cm, rfl, -⟩ := hm.form
  obtain ⟨tv, tc, htv, htl, -⟩ := id hF
  unfold maxLen at htl
  rw [htv] at hF
  have HF := Lib.hid hF
  rw [htv]
  clear hpos hv hsg hX hm hF htv
  go_enter Tryz.func3, Tryz.ntmps3
  go_wp2_with fail
  refine (table_spec w Hf.out.2.2.1 _ LO Hf.out.1 Hf.out.2.1).mono ?_
  rintro e w1 ⟨va, vb, rfl, hTa, hTb, k1⟩
  obtain ⟨A, hA⟩ : ∃ A, A = tblL (LO.take 40) := ⟨_, rfl⟩
  rw [← hA] at hTa hTb hok
  have H1 := Lib.hid (And.intro hTa (And.intro (hTb.base (Nat.zero_le _)) (And.intro hok k1)))
  obtain ⟨aa, ca, rfl⟩ := hTa.form
  obtain ⟨ab, cb, rfl⟩ := hTb.form
  have hA40 := hok.few.1
  clear hok hA hTa hTb k1
  go_wp2_with fail
  refine (few13_spec w1 _ MM (go1 H1.out.2.2.2 Hf.out.2.2.2.2.2)).mono ?_
  rintro e wM ⟨vma, vmb, L, rfl, hma, hmb, hchk, hL4, kM⟩
  have HM := Lib.hid (And.intro hma (And.intro hmb (And.intro (show ∀ m ∈ L, mayK m from fun m hm => chkB_may (hchk m hm)) (H1.out.2.2.2.trans kM))))
  obtain ⟨ma, mc, rfl, -⟩ := hma.form
  obtain ⟨mb2, mc2, rfl, -⟩ := hmb.form
  have H1 := Lib.hid (And.intro (H1.out.1.keep kM) (And.intro (H1.out.2.1.keep kM) H1.out.2.2.1))
  clear hma hmb hchk kM
  go_wp2_with fail
  refine (awake17_spec wM (Hf.out.2.2.1.keep HM.out.2.2.2 (by simp)) (go1 HM.out.2.2.2 Hf.out.2.2.2.1) (Hf.out.2.2.2.2.1.same HM.out.2.2.2)).mono ?_
  rintro e w2 ⟨rfl, k2⟩
  have H2 := Lib.hid (And.intro (H1.out.1.keep k2) (And.intro (H1.out.2.1.keep k2) (And.intro (HM.out.2.2.2.trans k2) (And.intro (go1 k2 HM.out.1) (go1 k2 HM.out.2.1)))))
  clear k2
  go_wp2_with fail
  refine (stored_spec w2 (Hf.out.2.2.2.2.1.same H2.out.2.2.1) _ _ A H2.out.1 H1.out.2.2).mono ?_
  rintro e w3 ⟨b, f, c, mb, vf, vo, rfl, hb, ⟨z1, z2, z3, z4⟩, hf, hisz, ⟨ao, no, co, rfl⟩, k3⟩
  unfold metaCs
  have hO := objG_stored A
  have hC := fun Q j => code_storedQ A Q j
  have hid : (storedM A).id.size ≤ 1000 := by show idS.size ≤ 1000; rw [identL_size]; omega
  generalize storedM A = M at hO hC hid ⊢
  generalize storedO A = o at hb hO hC
  obtain ⟨af, cf, rfl, -, -, -⟩ := row_slice hf
  have H3 := Lib.hid (And.intro hb (And.intro hf (And.intro hisz (And.intro hO (And.intro hC (And.intro hid (And.intro k3 (And.intro z1 (And.intro z2 (And.intro z3 z4))))))))))
  have hlt3 := hb.lt
  clear hb hf hisz hO hC hid k3 z1 z2 z3 z4
  have k4 : Keeps [] w3 (w3.alloc (.cells #[.string M.id, .int .i64 M.mn, .int .i64 M.mx, .int .i64 M.level, .int .i64 M.series, .int .i64 M.samples, .slice af 2 cf, .slice ao no co] 37)) := (Keeps.refl [] w3).alloc _
  have n4 := heap_new w3 (.cells #[.string M.id, .int .i64 M.mn, .int .i64 M.mx, .int .i64 M.level, .int .i64 M.series, .int .i64 M.samples, .slice af 2 cf, .slice ao no co] 37)
  go_upto_region 8 with fail
  have Hq := Lib.hid (show w3.heap.size ≠ f ∧ w3.heap.size ≠ c ∧ w3.heap.size ≠ mb by omega)
  clear hlt3
  generalize w3.alloc (.cells #[.string M.id, .int .i64 M.mn, .int .i64 M.mx, .int .i64 M.level, .int .i64 M.series, .int .i64 M.samples, .slice af 2 cf, .slice ao no co] 37) = W4 at k4 n4 ⊢
  generalize w3.heap.size = q at n4 Hq ⊢
  have k24 := H3.out.2.2.2.2.2.2.1.trans k4
  have H4 := Lib.hid (And.intro n4 (And.intro k4 (And.intro k24 (And.intro (H2.out.2.2.1.trans k24) (And.intro (H3.out.1.keep k4 (by simp) (by simp) (by simp) (by simp)) H2.out.2.2.1.size)))))
  clear n4 k4 k24
  go_upto_block 0 with fail
  go_cut [18] from 43 (fun _ wc => ∃ Q, Q.length ≤ 6 ∧ BucketAt wc b f c mb false Q o ∧ Keeps [f, c] W4 wc)
  case first =>
    go_wp2_with fail
    go_loopg [18] 6 (ArmRelR W4 b f c mb o F.length)
    case atStart => exact ⟨0, [], Nat.zero_le _, by decide, rfl, rfl, rfl, H4.out.2.2.2.2.1, Keeps.refl _ _⟩
    case round =>
      obtain ⟨j, Q, hjF, hj6, hgj, rfl, hQ, hbj, hkj⟩ := hrel
      have Hgj := Lib.hid hgj
      have hkw : Keeps [] w wr := H4.out.2.2.2.1.after hkj (fun x hx => .inr (by have := H4.out.2.2.2.2.2; have := H3.out.2.2.2.2.2.2.2; simp at hx; omega))
      clear hgj
      by_cases hlt : j < F.length ∧ j < 6
      · obtain ⟨hj1, hj2⟩ := hlt
        have hj1' : (j : Int) < (F.length : Int) := by omega
        have hj2' : (j : Int) < 6 := by omega
        obtain ⟨bg, og, eg, hbg, hcg⟩ := sliceArg_atR (HF.out.keep hkw) j hj1
        subst eg
        have cg0 : wr.cell? ⟨bg, og + j, none⟩ = some (.int .i64 F[j]) := by simpa using hcg 0 (by decide)
        generalize F[j] = y at cg0
        have h3 := i64_and3R y
        have h4 := i64_and4R y
        have hy1 : y % 4 ≤ 9223372036854775807 := by omega
        have cb := cells_at hbj.cells
        have lb := hbj.lt.1
        have Hj := Lib.hid (And.intro hbj hkj)
        clear hcg hbj hkj hkw
        by_cases hm : y % 8 < 4
        · rw [if_pos hm] at h4
          go_upto_region 11 with fail
          go_still_tail 15, (by kernel_rfl)
          repeat still_step
          (try refine wpStill_nil ?_)
          change wpList _ _ _ _ _ wr.drew
          go_wp2_with fail
          have kd : Keeps [] wr wr.drew := (Keeps.refl [] wr).drew
          have hbd := Hj.out.1.keep kd (by simp) (by simp) (by simp) (by simp)
          refine (arm_ok wr.drew f c false Q (y % 4) true hy1 hbd.fuse (by simp only [Bool.toNat_false]; omega)).mono ?_
          rintro e w4 ⟨rfl, hf4, hk4⟩
          have hb4 := hbd.tried hk4 hf4
          have H5 := Lib.hid (And.intro hb4 ((Hj.out.2.trans (kd.mono (by simp))).trans hk4))
          clear hb4 hbd hf4 hk4 cb cg0 Hj
          go_wp2_with fail
          go_roundg (6 - (j + 1))
          case measure => have := Hgj.out; omega
          case rel => exact ⟨j + 1, _, by omega, by omega, rfl, by go_num, by rw [List.length_append, hQ]; rfl, H5.out.1, H5.out.2⟩
        · rw [if_neg hm] at h4
          go_upto_region 11 with fail
          go_still_tail 15, (by kernel_rfl)
          repeat still_step
          (try refine wpStill_nil ?_)
          change wpList _ _ _ _ _ wr.drew
          go_wp2_with fail
          have kd : Keeps [] wr wr.drew := (Keeps.refl [] wr).drew
          have hbd := Hj.out.1.keep kd (by simp) (by simp) (by simp) (by simp)
          refine (arm_ok wr.drew f c false Q (y % 4) false hy1 hbd.fuse (by simp only [Bool.toNat_false]; omega)).mono ?_
          rintro e w4 ⟨rfl, hf4, hk4⟩
          have hb4 := hbd.tried hk4 hf4
          have H5 := Lib.hid (And.intro hb4 ((Hj.out.2.trans (kd.mono (by simp))).trans hk4))
          clear hb4 hbd hf4 hk4 cb cg0 Hj
          go_wp2_with fail
          go_roundg (6 - (j + 1))
          case measure => have := Hgj.out; omega
          case rel => exact ⟨j + 1, _, by omega, by omega, rfl, by go_num, by rw [List.length_append, hQ]; rfl, H5.out.1, H5.out.2⟩
      · have hexit : ((j : Int) < (F.length : Int) ∧ ¬ (j : Int) < 6) ∨ ¬ (j : Int) < (F.length : Int) := by omega
        have H5 := Lib.hid (And.intro hbj hkj)
        have hQ8 : Q.length ≤ 6 := by omega
        clear hbj hkj Hgj hlt hkw
        rcases hexit with ⟨h1, h2⟩ | h1
        · go_wp2_with fail
          go_meet
          case rel => exact ⟨Q, hQ8, H5.out⟩
        · go_wp2_with fail
          go_meet
          case rel => exact ⟨Q, hQ8, H5.out⟩
  case rest =>
    obtain ⟨Q0, hQ6, hb5, hk5⟩ := hcut
    obtain ⟨w4, rfl⟩ : ∃ W : World, W = wc := ⟨_, rfl⟩
    have n5 := hk5.at_ H4.out.1 (by have := Hq.out; simp; omega)
    have kfar : ∀ x ∈ [f, c], x ∈ ([] : List Nat) ∨ w2.heap.size ≤ x := fun x hx => .inr (by have := H3.out.2.2.2.2.2.2.2; simp at hx; omega)
    have k25 : Keeps [] w2 w4 := H4.out.2.2.1.after hk5 kfar
    have hfile := file_far (H4.out.2.1.row H3.out.2.1 (by simp)) H4.out.2.2.2.2.1 (S := [f, c]) (fun x hx => by simp at hx; omega) hk5
    have H5 := Lib.hid (And.intro n5 (And.intro hb5 (And.intro k25 (And.intro (H2.out.2.2.1.trans k25) (And.intro hfile hQ6)))))
    have cq := cells_at n5
    have lq := lt_of_at n5
    clear n5 hb5 hk5 k25 hfile hQ6 kfar
    go_wp2_with fail
    refine (fetBegin_spec w4 (Hf.out.2.2.2.2.1.same H5.out.2.2.2.1) M H3.out.2.2.2.2.2.1 A H1.out.2.2 b f c mb false Q0 o H5.out.2.1 _ _ _ H3.out.2.2.1 H5.out.2.2.2.2.1 _ L (go1 H5.out.2.2.1 H2.out.2.2.2.1) HM.out.2.2.1 fr up).mono ?_
    rintro e w5 ⟨p, Y, rfl, hG, hS⟩
    have HG := Lib.hid (And.intro hG hS)
    clear cq lq hG hS
    obtain ⟨N, hN⟩ : ∃ N, N = (wantP fr up L A).length := ⟨_, rfl⟩
    have hN40 : N ≤ 40 := by have := wantP_len fr up L A; omega
    have HN := Lib.hid hN
    clear hN
    go_upto_block 2 with fail
    go_cut [20, 21] from 74 (fun cs ci wc => ∃ armed Q, cs = .int .i64 ((N + 1 : Nat) : Int) ∧ FetSt w4 p Y M A (.slice af 2 cf) (.slice ao no co) (.slice ma L.length mc) L fr up b f c mb armed Q o wc (N + 1))
    case first =>
      go_wp2_with fail
      go_loopg [20, 21] 60 (ReadRel w4 p Y M A (.slice af 2 cf) (.slice ao no co) (.slice ma L.length mc) L fr up b f c mb o N)
      case atStart => exact ⟨0, 0, false, Q0, Nat.zero_le _, rfl, rfl, rfl, Nat.zero_le _, by have := H5.out.2.2.2.2.2; omega, HG.out.2⟩
      case round =>
        obtain ⟨i, j, armed, Q, hi, hgk, rfl, rfl, hjN, hiQ, hS⟩ := hrel
        have HS := Lib.hid (And.intro hS (And.intro hgk hiQ))
        clear hS hgk hiQ
        go_upto_region 15 with fail
        go_cut [80] from 74 to 79 (fun cc wc => cc = .bool (decide (i < 60) && !decide (j = N + 1)) ∧ wc = wr)
        case first =>
          by_cases hlt : i < 60
          · have hlt1 : (i : Int) < 60 := by omega
            have hd := Lib.hid (decide_eq_true hlt)
            go_wp2_with fail
            refine (fetSt_done w4 wr p Y M A _ _ _ L fr up b f c mb armed Q o j HS.out.1).mono ?_
            rintro e w6 ⟨rfl, rfl⟩
            rw [← HN.out]
            go_wp2_with fail
            go_meet
            case rel => exact ⟨by rw [hd.out]; rfl, rfl⟩
          · have hlt1 : ¬ (i : Int) < 60 := by omega
            have hd := Lib.hid (decide_eq_false hlt)
            go_wp2_with fail
            go_meet
            case rel => exact ⟨by rw [hd.out]; rfl, rfl⟩
        case rest =>
          obtain ⟨rfl, rfl⟩ := hcut
          by_cases hc : i < 60 ∧ ¬ j = N + 1
          · have HT := Lib.hid (show (decide (i < 60) && !decide (j = N + 1)) = true by rw [decide_eq_true hc.1, decide_eq_false hc.2]; rfl)
            have Hc := Lib.hid hc
            have Hjl := Lib.hid (show j ≤ (wantP fr up L A).length by have := HN.out; omega)
            rw [HT.out]
            clear hc
            go_wp2_with fail
            refine (fetSt_step w4 wc p Y M A _ _ _ L fr up b f c mb armed Q o j HG.out.1 H3.out.2.2.2.1 HS.out.1 Hjl.out).mono ?_
            have Htl := Lib.hid (And.intro (try_len Q) (H3.out.2.2.2.2.1 Q j))
            have hi2 := IntWalk.i64_in ((i : Int) + 1) (by have := Hc.out.1; omega)
            have hj2 := IntWalk.i64_in ((j : Int) + 1) (by omega)
            rintro e w7 (⟨hr, rfl, h7⟩ | ⟨hr, rfl, h7⟩ | ⟨hr, rfl, h7⟩)
            · have H7 := Lib.hid (And.intro hr h7)
              clear hr h7
              go_wp2_with fail
              go_roundg (60 - (i + 1))
              case measure => have := HS.out.2.1; have := Hc.out.1; omega
              case rel =>
                refine ⟨i + 1, j, _, _, by have := Hc.out.1; omega, rfl, by go_num, rfl, hjN, ?_, H7.out.2⟩
                have h1 := HS.out.2.2
                rcases Htl.out.1 with ⟨t1, t2⟩ | ⟨t1, t2⟩
                · have h2 := Htl.out.2
                  rw [H7.out.1, if_pos t1] at h2
                  cases h2
                · omega
            · exfalso
              have h2 := Htl.out.2
              rw [hr] at h2
              split at h2 <;> cases h2
            · have H7 := Lib.hid (And.intro hr h7)
              clear hr h7
              go_wp2_with fail
              go_roundg (60 - (i + 1))
              case measure => have := HS.out.2.1; have := Hc.out.1; omega
              case rel =>
                refine ⟨i + 1, j + 1, _, _, by have := Hc.out.1; omega, rfl, by go_num, by go_num, by have := Hc.out.2; omega, ?_, H7.out.2⟩
                have h1 := HS.out.2.2
                rcases Htl.out.1 with ⟨t1, t2⟩ | ⟨t1, t2⟩ <;> omega
          · have HT := Lib.hid (show (decide (i < 60) && !decide (j = N + 1)) = false by
              by_cases h1 : i < 60
              · rw [show j = N + 1 by omega]; simp
              · rw [decide_eq_false h1]; rfl)
            have hj1 : j = N + 1 := by have := HS.out.2.2; omega
            subst hj1
            rw [HT.out]
            clear hc
            go_wp2_with fail
            go_meet
            case rel => exact ⟨armed, Q, by go_num, HS.out.1⟩
    case rest =>
      obtain ⟨armed, Q, rfl, hS⟩ := hcut
      obtain ⟨wD, rfl⟩ : ∃ W : World, W = wc := ⟨_, rfl⟩
      have hz := H3.out.2.2.2.2.2.2.2
      have hk2D : Keeps [] w2 wD := hS.low H5.out.2.2.1 hz.2.1 hz.2.2.1 hz.2.2.2
      have HS := Lib.hid (And.intro hS hk2D)
      clear hS hk2D hz
      go_wp2_with fail
      refine (fetSt_done w4 wD p Y M A _ _ _ L fr up b f c mb armed Q o (N + 1) HS.out.1).mono ?_
      rintro e w6 ⟨rfl, rfl⟩
      rw [show decide (N + 1 = (wantP fr up L A).length + 1) = true from by rw [HN.out]; simp]
      have Hst := Lib.hid (show ((1 + (wantT fr up L A).length : Nat) : Int) = ((N + 1 : Nat) : Int) by rw [HN.out, wantP_wantT]; omega)
      go_wp2_with fail
      refine (stepsR_spec w6 _ A fr up _ L (H2.out.2.1.keep HS.out.2) 0 1000 H1.out.2.2 (go1 HS.out.2 H2.out.2.2.2.2) HM.out.2.2.1).mono ?_
      rintro e w7 ⟨rfl, k7⟩
      rw [Hst.out]
      have H7 := Lib.hid (And.intro (HS.out.1.same k7) (HS.out.2.trans k7))
      clear k7
      go_wp2_with fail
      refine (fetSt_rows w4 w7 p Y M A _ _ _ L fr up b f c mb armed Q o (N + 1) H7.out.1 ⟨_, _, H1.out.2.2⟩).mono ?_
      rintro e w8 ⟨v8, rfl, hT8, k8⟩
      rw [show betT fr up (readT fr up L A (N + 1)) = (betT fr up A).filter (fitR L) by rw [HN.out]; exact reads_all H1.out.2.2 fr up L] at hT8
      have H8 := Lib.hid (And.intro (hT8.base (Nat.zero_le _)) (H7.out.2.trans k8))
      clear hT8 k8
      go_wp2_with fail
      refine (told14_spec w8 _ _ H8.out.1 (few_filter (betT_few H1.out.2.2.fewT) _)).mono ?_
      rintro e w9 ⟨v9, rfl, hT9, k9⟩
      have H9 := Lib.hid (And.intro (hT9.base (Nat.zero_le _)) (H8.out.2.trans k9))
      clear hT9 k9
      go_wp2_with fail
      refine (rowsR_spec w9 _ A fr up _ L (H2.out.2.1.keep H9.out.2) 0 1000 H1.out.2.2 (go1 H9.out.2 H2.out.2.2.2.2) HM.out.2.2.1).mono ?_
      rintro e w10 ⟨v10, rfl, hT10, k10⟩
      have H10 := Lib.hid (And.intro (hT10.base (Nat.zero_le _)) (And.intro (H9.out.1.keep k10) (H9.out.2.trans k10)))
      clear hT10 k10
      go_wp2_with fail
      refine (same14_spec w10 _ _ _ H10.out.2.1 H10.out.1 (few_filter (betT_few H1.out.2.2.fewT) _)).mono ?_
      rintro e w11 ⟨rfl, k11⟩
      have H11 := Lib.hid ((H2.out.2.2.1.trans H10.out.2.2).trans k11)
      clear k11
      go_wp2_with fail
      go_ret
      exact ⟨rfl, H11.out⟩

theorem fetchReads_law (w : World) (hv : LibVar w) (hsg : SignsAt w) (hX : XorVar w) (v0 : Value) (h0 : O14W w v0) (fr : Int) (_w1 : (Lit.int .i64 fr).wf = true) (up : Int) (_w2 : (Lit.int .i64 up).wf = true) (v3 : Value) (h3 : ∃ M : List MatB, MatsAt w v3 M) (v4 : Value) (h4 : ∃ zs : List Int, SliceArg 1 (fun n => [Value.int .i64 n]) w v4 zs ∧ ∀ z ∈ zs, -9223372036854775808 ≤ z ∧ z ≤ 9223372036854775807) :
    Calls Tryz.prog 3 #[v0, .int .i64 fr, .int .i64 up, v3, v4] w fun e w' => e = .returned (.bool true) ∧ Keeps [] w w' := by
  obtain ⟨L, hL, hb⟩ := h0
  obtain ⟨M, hM⟩ := h3
  obtain ⟨F, hF, -⟩ := h4
  exact fetchReads_walk w hv hsg hX v0 L hL hb fr up v3 M hM v4 F hF
end Go.Proofs.YtkffpcmminlndaaGreatDoor
