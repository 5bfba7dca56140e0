/-
  ShipSaves: a block is saved, and erased, with any faults and crashes between; walked.
  The package's variable xor.widths holds what its text says (XorVar); the library's variable holds some number.
-/
import Derived.Test.YtaebpbkiaihhdaaGreatDoorSaveLaw
namespace Go.Proofs.YtaebpbkiaihhdaaGreatDoor
open Go Go.RowKit

theorem i64_and15U (n : Int) : bits .and .i64 n 15 = n % 16 := by
  have h3 : (BitVec.ofInt 64 15).toNat = 2 ^ 4 - 1 := by decide
  have key : (BitVec.ofInt 64 n &&& BitVec.ofInt 64 15).toNat = (n % ((2 ^ 64 : Nat) : Int)).toNat % 2 ^ 4 := by
    rw [BitVec.toNat_and, BitVec.toNat_ofInt, h3, Nat.and_two_pow_sub_one_eq_mod]
  show IntKind.i64.wrap ((BitVec.ofInt 64 n &&& BitVec.ofInt 64 15).toNat : Nat) = n % 16
  rw [key, IntKind.wrap_i64]
  omega

theorem sliceArg_atV {α : Type} {size : Nat} {enc : α → List Value} {w : World} {a : Option Addr} {n c : Nat} {L : List α} (h : SliceArg size enc w (.slice a n c) L) (i : Nat) (hi : i < L.length) :
    ∃ b off, a = some ⟨b, off, none⟩ ∧ b < w.heap.size ∧ ∀ j, j < size → w.cell? ⟨b, off + (i * size + j), none⟩ = (enc L[i])[j]? := by
  obtain ⟨ao, cap, e, hl, h⟩ := h
  injection e with e _ _
  subst e
  exact h i hi

theorem meta_name (id : ByteArray) : ((⟨#[98, 108, 107, 45]⟩ : ByteArray) ++ id) ++ (⟨#[45, 109, 101, 116, 97]⟩ : ByteArray) = fileB id metaB := by
  unfold fileB
  rw [ByteArray.append_assoc (b := (⟨#[45]⟩ : ByteArray))]
  rfl

def SvRel (W : World) (d f c mb : Nat) (M : MetaS) (cb ib : ByteArray) (N : Nat) (gk : Nat) (u12 : Value) (wr : World) : Prop :=
  ∃ i a o, i ≤ N ∧ i ≤ 8 ∧ gk = 8 - i ∧ u12 = .int .i64 (i : Nat) ∧ SvInv M cb ib o ∧ DiskAt wr d f c mb a [] 1048576 o ∧ Keeps [f, c, mb, d] W wr

set_option linter.unusedSimpArgs false in
set_option maxRecDepth 100000 in
set_option maxHeartbeats 8000000 in
theorem shipSaves_walk (w : World) (hv : LibVar w) (hX : XorVar w) (v : Value) (L : List One14) (h : SliceArg 3 encO14 w v L) (hb : ∀ x ∈ L, 0 ≤ x.1 ∧ 0 ≤ x.2.2 ∧ x.2.2 < 18446744073709551616) (vf : Value) (F : List Int) (hF : SliceArg 1 (fun n => [Value.int .i64 n]) w vf F) (vc : Value) (C : List Int) (hC : SliceArg 1 encN w vc C) (hCi : ∀ x ∈ C, -9223372036854775808 ≤ x ∧ x ≤ 9223372036854775807) (er : Bool) :
    Calls Tryz.prog 6 #[v, vf, vc, .bool er] w fun e w' => e = .returned (.bool true) ∧ Keeps [] w w' := by
  have H := Lib.hid (And.intro h (And.intro hv (And.intro hX hb)))
  obtain ⟨av, cv, rfl, -, -⟩ := h
  obtain ⟨tv, tc, htv, -, -⟩ := id hC
  rw [htv] at hC
  have HC := Lib.hid (And.intro hC hCi)
  subst htv
  obtain ⟨fv, fc, hfv, -, -⟩ := id hF
  rw [hfv] at hF
  have HF := Lib.hid hF
  subst hfv
  clear hv hX hb hC hCi hF
  go_enter Tryz.func6, Tryz.ntmps6
  go_wp2_with fail
  refine (newDisk_spec w 1048576 (by decide)).mono ?_
  rintro e W0 ⟨d, f, c, mb, rfl, hD0, k0, q1, q2, q3, q4⟩
  rw [show (max (1048576 : Int) 0).toNat = 1048576 from rfl] at hD0
  have H0 := Lib.hid (And.intro hD0 (And.intro k0 (And.intro q1 (And.intro q2 (And.intro q3 q4)))))
  have Hbl := Lib.hid (block_spec W0 (H.out.2.1.same k0) (H.out.2.2.1.same k0) _ L (H.out.1.keep k0) H.out.2.2.2 3 9 (by decide) (by decide))
  clear hD0 k0 q1 q2 q3 q4
  go_wp2_with fail
  refine Hbl.out.mono ?_
  rintro e W1 ⟨fv2, M, cb, ib, rfl, ⟨vs, rfl, ⟨vf, vo, rfl, r1, r2⟩, hMO, hfl, hcz, hiz⟩, -, k1⟩
  obtain ⟨af, cf, rfl, -, -, -⟩ := row_slice r1
  obtain ⟨ao, co, rfl, -, -, -⟩ := row_slice r2
  have H1 := Lib.hid (And.intro r1 (And.intro r2 (And.intro hMO (And.intro (H0.out.1.same k1) (And.intro (H0.out.2.1.trans k1) (And.intro hfl (And.intro hcz hiz)))))))
  have hsz1 := k1.size
  clear r1 r2 hMO k1 Hbl hfl hcz hiz
  have kW := (Keeps.refl [] W1).alloc (.cells #[.string M.id, .int .i64 M.mn, .int .i64 M.mx, .int .i64 M.level, .int .i64 M.series, .int .i64 M.samples, .slice af M.files.length cf, .slice ao M.sources.length co, .string cb, .string ib] 28)
  have nW := heap_new W1 (.cells #[.string M.id, .int .i64 M.mn, .int .i64 M.mx, .int .i64 M.level, .int .i64 M.series, .int .i64 M.samples, .slice af M.files.length cf, .slice ao M.sources.length co, .string cb, .string ib] 28)
  go_wp2_with fail
  generalize W1.alloc (.cells #[.string M.id, .int .i64 M.mn, .int .i64 M.mx, .int .i64 M.level, .int .i64 M.series, .int .i64 M.samples, .slice af M.files.length cf, .slice ao M.sources.length co, .string cb, .string ib] 28) = W2 at kW nW ⊢
  obtain ⟨pf, hpf⟩ : ∃ pf, pf = W1.heap.size := ⟨_, rfl⟩
  rw [← hpf] at nW ⊢
  have hlt := H0.out.1.lt
  have hlow : w.heap.size ≤ W0.heap.size := H0.out.2.1.size
  have hord : (pf ≠ d ∧ pf ≠ f ∧ pf ≠ c ∧ pf ≠ mb) ∧ (d < W1.heap.size ∧ f < W1.heap.size ∧ c < W1.heap.size ∧ mb < W1.heap.size) ∧ w.heap.size ≤ d ∧ w.heap.size ≤ f ∧ w.heap.size ≤ c ∧ w.heap.size ≤ mb := by
    have := H0.out.2.2
    omega
  have hrows : ∀ x, W0.heap.size ≤ x ∨ x < W0.heap.size := fun x => by omega
  have hdl : d < W0.heap.size ∧ f < W0.heap.size ∧ c < W0.heap.size ∧ mb < W0.heap.size := hlt
  have H2 := Lib.hid (And.intro nW (And.intro kW (And.intro hord hdl)))
  clear nW kW hpf hlt hord hsz1 hrows hdl hlow
  refine (awake18_spec W2).mono ?_
  rintro e W4 ⟨rfl, k4⟩
  have k14 := H2.out.2.1.trans k4
  have n4 := k4.at_ H2.out.1 (by simp)
  have H4 := Lib.hid (And.intro n4 (And.intro k14 (And.intro (H1.out.2.2.2.1.same k14) (H1.out.2.2.2.2.1.trans k14))))
  have c4 := cells_at n4
  have l4 := lt_of_at n4
  -- what stays while the disk turns
  have HK := Lib.hid (fun W (hk : Keeps [f, c, mb, d] W4 W) => (⟨hk.at_ H4.out.1 (by have := H2.out.2.2.1.1; simp; omega), H4.out.2.2.2.after hk (fun x hx => .inr (by have := H2.out.2.2.1.2.2; simp at hx; omega)),
    (show MetaR W0.heap.size W (metaCs M (.slice af M.files.length cf) (.slice ao M.sources.length co)) M from ⟨_, _, rfl, hk.row (H4.out.2.1.row H1.out.1 (by simp)) (fun g hg hm => by
      have h1 := (World.ownsRow.lt H1.out.1 g hg).1
      have h2 := H2.out.2.2.2
      simp at hm
      omega), hk.row (H4.out.2.1.row H1.out.2.1 (by simp)) (fun g hg hm => by
      have h1 := (World.ownsRow.lt H1.out.2.1 g hg).1
      have h2 := H2.out.2.2.2
      simp at hm
      omega)⟩).metaV⟩ : W.heap[pf]? = some (.cells #[.string M.id, .int .i64 M.mn, .int .i64 M.mx, .int .i64 M.level, .int .i64 M.series, .int .i64 M.samples, .slice af M.files.length cf, .slice ao M.sources.length co, .string cb, .string ib] 28 (0, 0)) ∧ Keeps [] w W ∧ MetaV W0.heap.size W (metaCs M (.slice af M.files.length cf) (.slice ao M.sources.length co)) M))
  clear n4 k14 k4
  go_upto_region 5 with fail
  go_cut [39] from 33 to 38 (fun cv wx => cv = .bool false ∧ ∃ a o, SvInv M cb ib o ∧ DiskAt wx d f c mb a [] 1048576 o ∧ Keeps [f, c, mb, d] W4 wx)
  case first =>
    cases er
    · go_wp2_with fail
      go_meet
      exact ⟨rfl, false, [], svInv_nil, H4.out.2.2.1, Keeps.refl _ _⟩
    · have Hs := Lib.hid (save_spec W4 d f c mb _ false [] 1048576 [] H4.out.2.2.1 M af ao _ cf _ co cb ib (HK.out W4 (Keeps.refl _ _)).2.2 H1.out.2.2.1 H1.out.2.2.2.2.2.2.1 H1.out.2.2.2.2.2.2.2)
      go_wp2_with fail
      refine Hs.out.mono ?_
      rintro e W5 ⟨rfl, a5, hD5, k5⟩
      have hq : (saveS 1048576 [] [] M cb ib).2.1 = [] ∧ (saveS 1048576 [] [] M cb ib).1 = 0 := step_quiet2 (room := 1048576) (by decide) false H1.out.2.2.1 H1.out.2.2.2.2.2.2.1 H1.out.2.2.2.2.2.2.2 svInv_nil
      have hI : SvInv M cb ib (saveS 1048576 [] [] M cb ib).2.2 := (step_law (room := 1048576) (by decide) false [] H1.out.2.2.1 H1.out.2.2.2.2.2.2.1 H1.out.2.2.2.2.2.2.2 svInv_nil).1
      rw [hq.2]
      rw [hq.1] at hD5
      have H5 := Lib.hid (And.intro hI (And.intro hD5 k5))
      clear hq hI hD5 k5
      go_wp2_with fail
      go_meet
      exact ⟨rfl, a5, _, H5.out⟩
  case rest =>
    obtain ⟨rfl, a5, o5, hI5, hD5, hk5⟩ := hcut
    obtain ⟨W5, rfl⟩ : ∃ W : World, W = wc := ⟨_, rfl⟩
    have H5 := Lib.hid (And.intro hI5 (And.intro hD5 hk5))
    clear hI5 hD5 hk5 c4 l4
    go_upto_block 0 with fail
    go_cut [12] from 40 (fun _ wx => ∃ a o, SvInv M cb ib o ∧ DiskAt wx d f c mb a [] 1048576 o ∧ Keeps [f, c, mb, d] W4 wx)
    case first =>
      go_wp2_with fail
      go_loopg [12] 8 (SvRel W4 d f c mb M cb ib F.length)
      case atStart => exact ⟨0, a5, o5, Nat.zero_le _, Nat.zero_le _, rfl, rfl, H5.out⟩
      case round =>
        obtain ⟨i, a, o, hiN, hi8, hgi, rfl, hI, hD, hkr⟩ := hrel
        obtain ⟨wo, rfl⟩ : ∃ W : World, W = wr := ⟨_, rfl⟩
        have Hg := Lib.hid hgi
        have Hr := Lib.hid (And.intro hI (And.intro hD hkr))
        by_cases hlt : i < F.length ∧ i < 8
        · obtain ⟨hj1, hj2⟩ := hlt
          have hj1' : (i : Int) < (F.length : Int) := by omega
          have hj2' : (i : Int) < 8 := by omega
          obtain ⟨bg, og, eg, hbg, hcg⟩ := sliceArg_atV (HF.out.keep (HK.out wo hkr).2.1) i hj1
          subst eg
          have cg0 : wo.cell? ⟨bg, og + i, none⟩ = some (.int .i64 F[i]) := by simpa using hcg 0 (by decide)
          generalize F[i] = y at cg0
          have h15 := i64_and15U y
          have hy1 : y % 16 ≤ 9223372036854775807 := by omega
          have cdd := cells_at hD.cells
          have ldd := hD.lt.1
          clear hcg hgi hI hD hkr
          go_upto_region 10 with fail
          go_still_tail 15, (by kernel_rfl)
          repeat still_step
          (try refine wpStill_nil ?_)
          change wpList _ _ _ _ _ wo.drew
          go_wp2_with fail
          have kd : Keeps [] wo wo.drew := (Keeps.refl [] wo).drew
          have hDd := Hr.out.2.1.same kd
          refine (arm_ok wo.drew f c a [] (y % 16) _ hy1 hDd.fuse (by show 0 < 16 + a.toNat; omega)).mono ?_
          rintro e W6 ⟨rfl, hf6, hk6⟩
          have hD6 := hDd.tried hk6 hf6
          have hk06 : Keeps [f, c, mb, d] W4 W6 := (Hr.out.2.2.trans (kd.mono (by simp))).trans (hk6.mono (by simp))
          rw [List.nil_append] at hD6
          generalize [(max (y % 16) 0, bits .and .i64 y 16 == 0)] = Q6 at hD6
          obtain ⟨S, hS⟩ : ∃ S, S = svStep er 1048576 Q6 o M cb ib := ⟨_, rfl⟩
          have hlaw := step_law (room := 1048576) (by decide) er Q6 H1.out.2.2.1 H1.out.2.2.2.2.2.2.1 H1.out.2.2.2.2.2.2.2 Hr.out.1
          rw [← hS] at hlaw
          have H6 := Lib.hid (And.intro hD6 (And.intro hk06 (And.intro hS hlaw)))
          have hpc := (HK.out W6 hk06).1
          have c6 := cells_at hpc
          have l6 := lt_of_at hpc
          clear hDd kd hf6 hk6 hD6 hk06 hlaw hpc cdd ldd cg0 h15 hy1 hS
          go_upto_if 66 with fail
          go_cut [13] from 67 to 74 (fun e13 wx => ∃ a' Q', e13 = .int .i64 S.1 ∧ DiskAt wx d f c mb a' Q' 1048576 S.2.2 ∧ Keeps [f, c, mb, d] W6 wx)
          case first =>
            cases er
            · have Hs := Lib.hid (save_spec W6 d f c mb _ a Q6 1048576 o H6.out.1 M af ao _ cf _ co cb ib (HK.out W6 H6.out.2.1).2.2 H1.out.2.2.1 H1.out.2.2.2.2.2.2.1 H1.out.2.2.2.2.2.2.2)
              have hSe : saveS 1048576 Q6 o M cb ib = S := H6.out.2.2.1.symm
              rw [hSe] at Hs
              clear hSe
              go_wp2_with fail
              refine Hs.out.mono ?_
              rintro e W7 ⟨rfl, a7, hD7, hk7⟩
              have H7 := Lib.hid (And.intro hD7 hk7)
              clear hD7 hk7 c6 l6
              go_wp2_with fail
              go_meet
              exact ⟨a7, _, rfl, H7.out⟩
            · have Hs := Lib.hid (erase_spec W6 d f c mb a Q6 1048576 o H6.out.1 M.id (by have := id16 H1.out.2.2.1.id; omega))
              have hSe : eraseK Q6 o M.id 3 = S := H6.out.2.2.1.symm
              rw [hSe] at Hs
              clear hSe
              go_wp2_with fail
              refine Hs.out.mono ?_
              rintro e W7 ⟨rfl, a7, hD7, hk7⟩
              have H7 := Lib.hid (And.intro hD7 hk7)
              clear hD7 hk7 c6 l6
              go_wp2_with fail
              go_meet
              exact ⟨a7, _, rfl, H7.out⟩
          case rest =>
            obtain ⟨a7, Q7, rfl, hD7, hk7⟩ := hcut
            obtain ⟨W7, rfl⟩ : ∃ W : World, W = wc := ⟨_, rfl⟩
            have hk07 := H6.out.2.1.trans hk7
            obtain ⟨ec, hec⟩ : ∃ ec, ec = S.1 := ⟨_, rfl⟩
            have hlaw := H6.out.2.2.2
            rw [← hec] at hlaw ⊢
            have H7 := Lib.hid (And.intro hD7 (And.intro hk07 hlaw))
            clear hD7 hk7 hk07 hlaw hec c6 l6
            go_upto_region 15 with fail
            go_cut [80] from 75 to 79 (fun cv wx => cv = .bool false ∧ wx = W7)
            case first =>
              rcases H7.out.2.2.2.1 with rfl | rfl
              · go_wp2_with fail
                go_meet
                exact ⟨rfl, rfl⟩
              · go_wp2_with fail
                go_meet
                exact ⟨rfl, rfl⟩
            case rest =>
              obtain ⟨rfl, rfl⟩ := hcut
              obtain ⟨W7, rfl⟩ : ∃ W : World, W = wc := ⟨_, rfl⟩
              have hz7 := H7.out.2.2.1.sizes H1.out.2.2.1
              have hu7 := H7.out.2.2.1.size H1.out.2.2.1 H1.out.2.2.2.2.2.2.1 H1.out.2.2.2.2.2.2.2
              have Hcr := Lib.hid (crash_spec W7 d f c mb a7 Q7 1048576 S.2.2 H7.out.1 (.slice tv C.length tc) C (fun w' k' => HC.out.1.keep (HK.out w' (H7.out.2.1.trans k')).2.1) HC.out.2 hz7.1 hz7.2 (by omega))
              clear hz7 hu7
              go_wp2_with fail
              refine Hcr.out.mono ?_
              rintro e W8 ⟨rfl, hD8, hk8⟩
              obtain ⟨o8, ho8⟩ : ∃ o8, o8 = crashO C S.2.2 := ⟨_, rfl⟩
              have hI8 := H7.out.2.2.1.crash C
              have hp8 := H7.out.2.2.1.crash_part C 2 (by decide)
              rw [← ho8] at hD8 hI8 hp8
              have hk08 := H7.out.2.1.trans hk8
              have H8 := Lib.hid (And.intro hI8 (And.intro hD8 (And.intro hk08 hp8)))
              have hpc8 := (HK.out W8 hk08).1
              have c8 := cells_at hpc8
              have l8 := lt_of_at hpc8
              have hid16 := id16 H1.out.2.2.1.id
              have Hrd := Lib.hid (read_spec W8 d f c mb false [] 1048576 o8 hD8 (fileB M.id metaB))
              have z1 : ((⟨#[98, 108, 107, 45]⟩ : ByteArray) ++ M.id).size ≤ 1000 := by rw [ByteArray.size_append, hid16]; decide
              have z2 : (((⟨#[98, 108, 107, 45]⟩ : ByteArray) ++ M.id) ++ (⟨#[45, 109, 101, 116, 97]⟩ : ByteArray)).size ≤ 1005 := by rw [ByteArray.size_append]; show _ + 5 ≤ _; omega
              clear hI8 hD8 hk08 hp8 ho8 hk8 hpc8
              by_cases hm : look o8 (fileB M.id metaB) = none
              · rw [hm] at Hrd
                have Her : Hid (ec = 0 → er = true) := Lib.hid (fun h0 => by
                  have h1 := H7.out.2.2.2.2 h0
                  cases er
                  · exact absurd (H8.out.2.2.2.symm.trans hm) h1
                  · rfl)
                have Hm := Lib.hid hm
                clear hm
                go_wp2_with fail
                rw [meta_name]
                refine Hrd.out.mono ?_
                rintro e W9 ⟨rfl, hk9⟩
                rw [show (if (none : Option Ob).isSome = true then (0 : Int) else 5) = 5 from rfl]
                have hpc9 := hk9.at_ (HK.out W8 H8.out.2.2.1).1 (by simp)
                have H9 := Lib.hid hk9
                clear c8 l8 hk9
                have c9 := cells_at hpc9
                have l9 := lt_of_at hpc9
                clear hpc9
                go_wp2_with fail
                clear c9 l9
                refine (load_none W9 d f c mb false [] 1048576 o8 (H8.out.2.1.same H9.out) M.id (by omega) Hm.out).mono ?_
                rintro e W10 ⟨rfl, hk10⟩
                unfold filesZ
                obtain ⟨q10, hq10⟩ : ∃ q, q = W10.heap.size := ⟨_, rfl⟩
                obtain ⟨W11, hW11⟩ : ∃ W, W = W10.alloc (.cells #[.string ⟨#[]⟩, .int .i64 0, .int .i64 0, .int .i64 0, .int .i64 0, .int .i64 0, .slice none 0 0, .slice none 0 0, .string ⟨#[]⟩, .string ⟨#[]⟩] 28) := ⟨_, rfl⟩
                have ka : Keeps [] W10 W11 := by rw [hW11]; exact (Keeps.refl [] _).alloc _
                have H11 := Lib.hid (And.intro (H8.out.2.1.same ((H9.out.trans hk10).trans ka)) (H8.out.2.2.1.trans (((H9.out.trans hk10).trans ka).mono (by simp))))
                clear hk10 ka
                go_upto_region 20 with fail
                rw [← hW11, ← hq10]
                clear hW11 hq10
                rcases H7.out.2.2.2.1 with rfl | rfl
                · obtain rfl : er = true := Her.out rfl
                  go_wp2_with fail
                  go_roundg (8 - (i + 1))
                  case measure => have := Hg.out; omega
                  case rel => exact ⟨i + 1, false, o8, by omega, by omega, rfl, by go_num, H8.out.1, H11.out⟩
                · go_wp2_with fail
                  go_roundg (8 - (i + 1))
                  case measure => have := Hg.out; omega
                  case rel => exact ⟨i + 1, false, o8, by omega, by omega, rfl, by go_num, H8.out.1, H11.out⟩
              · obtain ⟨x, hx⟩ : ∃ x, look o8 (fileB M.id metaB) = some x := Option.ne_none_iff_exists'.1 hm
                rw [hx] at Hrd
                have Her : Hid (ec = 0 → er = false) := Lib.hid (fun h0 => by
                  have h1 := H7.out.2.2.2.2 h0
                  cases er
                  · rfl
                  · exact absurd (H8.out.2.2.2.trans h1) hm)
                have Hm := Lib.hid hm
                clear hm hx
                go_wp2_with fail
                rw [meta_name]
                refine Hrd.out.mono ?_
                rintro e W9 ⟨rfl, hk9⟩
                rw [show (if (some x).isSome = true then (0 : Int) else 5) = 0 from rfl]
                have hpc9 := hk9.at_ (HK.out W8 H8.out.2.2.1).1 (by simp)
                have H9 := Lib.hid hk9
                clear c8 l8 hk9
                have c9 := cells_at hpc9
                have l9 := lt_of_at hpc9
                clear hpc9
                go_wp2_with fail
                clear c9 l9
                obtain ⟨x0, x1, x2, b0, b1, b2⟩ := H8.out.1.whole Hm.out
                refine (load_some W9 d f c mb false [] 1048576 o8 (H8.out.2.1.same H9.out) M H1.out.2.2.1 cb ib H1.out.2.2.2.2.2.1 H1.out.2.2.2.2.2.2.1 H1.out.2.2.2.2.2.2.2 x2 x0 x1 b2 b0 b1).mono ?_
                clear b0 b1 b2
                rintro e W10 ⟨af2, ao2, nf2, cf2, no2, co2, rfl, hk10⟩
                obtain ⟨q10, hq10⟩ : ∃ q, q = W10.heap.size := ⟨_, rfl⟩
                obtain ⟨W11, hW11⟩ : ∃ W, W = W10.alloc (.cells #[.string M.id, .int .i64 M.mn, .int .i64 M.mx, .int .i64 M.level, .int .i64 M.series, .int .i64 M.samples, .slice af2 nf2 cf2, .slice ao2 no2 co2, .string cb, .string ib] 28) := ⟨_, rfl⟩
                have ka : Keeps [] W10 W11 := by rw [hW11]; exact (Keeps.refl [] _).alloc _
                have H11 := Lib.hid (And.intro (H8.out.2.1.same ((H9.out.trans hk10).trans ka)) (H8.out.2.2.1.trans (((H9.out.trans hk10).trans ka).mono (by simp))))
                clear hk10 ka
                go_upto_region 20 with fail
                rw [← hW11, ← hq10]
                clear hW11 hq10
                rcases H7.out.2.2.2.1 with rfl | rfl
                · obtain rfl : er = false := Her.out rfl
                  go_wp2_with fail
                  go_roundg (8 - (i + 1))
                  case measure => have := Hg.out; omega
                  case rel => exact ⟨i + 1, false, o8, by omega, by omega, rfl, by go_num, H8.out.1, H11.out⟩
                · go_wp2_with fail
                  go_roundg (8 - (i + 1))
                  case measure => have := Hg.out; omega
                  case rel => exact ⟨i + 1, false, o8, by omega, by omega, rfl, by go_num, H8.out.1, H11.out⟩
        · have hexit : ((i : Int) < (F.length : Int) ∧ ¬ (i : Int) < 8) ∨ ¬ (i : Int) < (F.length : Int) := by omega
          clear hgi hI hD hkr hlt
          rcases hexit with ⟨g1, g2⟩ | g1
          · go_wp2_with fail
            go_meet
            case rel => exact ⟨a, o, Hr.out⟩
          · go_wp2_with fail
            go_meet
            case rel => exact ⟨a, o, Hr.out⟩
    case rest =>
      obtain ⟨a9, o9, hI9, hD9, hk9⟩ := hcut
      obtain ⟨W9, rfl⟩ : ∃ W : World, W = wc := ⟨_, rfl⟩
      have H9 := Lib.hid (And.intro hI9 (And.intro hD9 hk9))
      have hpc9 := (HK.out W9 hk9).1
      have c9 := cells_at hpc9
      have l9 := lt_of_at hpc9
      clear hI9 hD9 hk9 hpc9
      have hid16 := id16 H1.out.2.2.1.id
      cases er
      · have Hs := Lib.hid (save_spec W9 d f c mb _ a9 [] 1048576 o9 H9.out.2.1 M af ao _ cf _ co cb ib (HK.out W9 H9.out.2.2).2.2 H1.out.2.2.1 H1.out.2.2.2.2.2.2.1 H1.out.2.2.2.2.2.2.2)
        have hq : (saveS 1048576 [] o9 M cb ib).2.1 = [] ∧ (saveS 1048576 [] o9 M cb ib).1 = 0 := step_quiet2 (room := 1048576) (by decide) false H1.out.2.2.1 H1.out.2.2.2.2.2.2.1 H1.out.2.2.2.2.2.2.2 H9.out.1
        have hlaw := step_law (room := 1048576) (by decide) false [] H1.out.2.2.1 H1.out.2.2.2.2.2.2.1 H1.out.2.2.2.2.2.2.2 H9.out.1
        obtain ⟨S, hS⟩ : ∃ S, S = saveS 1048576 [] o9 M cb ib := ⟨_, rfl⟩
        rw [show svStep false 1048576 [] o9 M cb ib = S from hS.symm] at hlaw
        rw [← hS] at hq Hs
        have hne : look S.2.2 (fileB M.id (partN 2)) ≠ none := hlaw.2.2 hq.2
        have HS := Lib.hid (And.intro hlaw.1 hne)
        have Hq := Lib.hid hq
        clear hq hlaw hne hS
        go_wp2_with fail
        clear c9 l9
        refine Hs.out.mono ?_
        rintro e W10 ⟨rfl, a10, hD10, hk10⟩
        rw [Hq.out.2]
        rw [Hq.out.1] at hD10
        have hk010 := H9.out.2.2.trans hk10
        have hpc10 := (HK.out W10 hk010).1
        have c10 := cells_at hpc10
        have l10 := lt_of_at hpc10
        have H10 := Lib.hid (And.intro hD10 hk010)
        clear hD10 hk10 hk010
        go_wp2_with fail
        obtain ⟨x0, x1, x2, b0, b1, b2⟩ := HS.out.1.whole HS.out.2
        refine (load_some W10 d f c mb a10 [] 1048576 S.2.2 H10.out.1 M H1.out.2.2.1 cb ib H1.out.2.2.2.2.2.1 H1.out.2.2.2.2.2.2.1 H1.out.2.2.2.2.2.2.2 x2 x0 x1 b2 b0 b1).mono ?_
        clear b0 b1 b2
        rintro e W11 ⟨af2, ao2, nf2, cf2, no2, co2, rfl, hk11⟩
        obtain ⟨q12, hq12⟩ : ∃ q, q = W11.heap.size := ⟨_, rfl⟩
        obtain ⟨W12, hW12⟩ : ∃ W, W = W11.alloc (.cells #[.string M.id, .int .i64 M.mn, .int .i64 M.mx, .int .i64 M.level, .int .i64 M.series, .int .i64 M.samples, .slice af2 nf2 cf2, .slice ao2 no2 co2, .string cb, .string ib] 28) := ⟨_, rfl⟩
        have ka : Keeps [] W11 W12 := by rw [hW12]; exact (Keeps.refl [] _).alloc _
        have na : W12.heap[q12]? = some (.cells #[.string M.id, .int .i64 M.mn, .int .i64 M.mx, .int .i64 M.level, .int .i64 M.series, .int .i64 M.samples, .slice af2 nf2 cf2, .slice ao2 no2 co2, .string cb, .string ib] 28 (0, 0)) := by rw [hW12, hq12]; exact heap_new _ _
        have hpc12 := (hk11.trans ka).at_ hpc10 (by simp)
        have H12 := Lib.hid (And.intro (H10.out.1.same (hk11.trans ka)) (H10.out.2.trans ((hk11.trans ka).mono (by simp))))
        clear c10 l10 hpc10 hk11 ka
        have c12 := cells_at hpc12
        have l12 := lt_of_at hpc12
        have d12 := cells_at na
        have m12 := lt_of_at na
        clear hpc12 na
        go_upto_region 27 with fail
        rw [← hW12, ← hq12]
        clear hW12 hq12
        go_wp2_with fail
        clear c12 l12 d12 m12
        have hz12 := HS.out.1.sizes H1.out.2.2.1
        have hfew : (names S.2.2 blkB).length ≤ 1000 := by
          have h1 := few_keys (svK M) (names S.2.2 blkB) (names_nodup HS.out.1.keys.nodup) (fun n hn => HS.out.1.keys.mem n (mem_names hn))
          have h2 : (svK M).length = 4 := rfl
          omega
        refine (locals_spec W12 d f c mb a10 [] 1048576 S.2.2 H12.out.1 hz12.1 hz12.2 M H1.out.2.2.1 cb ib H1.out.2.2.2.2.2.1 H1.out.2.2.2.2.2.2.1 H1.out.2.2.2.2.2.2.2 HS.out.1.names (.inr (HS.out.1.whole HS.out.2)) hfew).mono ?_
        rintro e W13 ⟨al, cl, rfl, hk13⟩
        rw [meta_one HS.out.1.keys.nodup HS.out.2]
        have HF2 := Lib.hid ((HK.out _ (H12.out.2.trans (hk13.mono (by simp)))).2.1)
        clear hk13 hz12 hfew
        go_wp2_with fail
        go_ret
        exact ⟨rfl, HF2.out⟩
      · have Hs := Lib.hid (erase_spec W9 d f c mb a9 [] 1048576 o9 H9.out.2.1 M.id (by omega))
        have hq : (eraseK [] o9 M.id 3).2.1 = [] ∧ (eraseK [] o9 M.id 3).1 = 0 := step_quiet2 (room := 1048576) (by decide) true H1.out.2.2.1 H1.out.2.2.2.2.2.2.1 H1.out.2.2.2.2.2.2.2 H9.out.1
        have hlaw := step_law (room := 1048576) (by decide) true [] H1.out.2.2.1 H1.out.2.2.2.2.2.2.1 H1.out.2.2.2.2.2.2.2 H9.out.1
        have hnn := erase_none (room := 1048576) (by decide) H1.out.2.2.1 H1.out.2.2.2.2.2.2.1 H1.out.2.2.2.2.2.2.2 H9.out.1
        obtain ⟨S, hS⟩ : ∃ S, S = eraseK [] o9 M.id 3 := ⟨_, rfl⟩
        rw [show svStep true 1048576 [] o9 M cb ib = S from hS.symm] at hlaw
        rw [← hS] at hq Hs hnn
        have hz10 := hlaw.1.sizes H1.out.2.2.1
        have HS := Lib.hid (And.intro hz10 hnn)
        have Hq := Lib.hid hq
        clear hq hlaw hnn hz10 hS
        go_wp2_with fail
        clear c9 l9
        refine Hs.out.mono ?_
        rintro e W10 ⟨rfl, a10, hD10, hk10⟩
        rw [Hq.out.2]
        have Hl := Lib.hid (listD_spec W10 d f c mb a10 _ 1048576 S.2.2 hD10 blkB HS.out.1.1 HS.out.1.2)
        rw [HS.out.2] at Hl
        have H10 := Lib.hid (H9.out.2.2.trans hk10)
        clear hD10 hk10
        go_wp2_with fail
        refine Hl.out.mono ?_
        rintro e W11 ⟨v11, rfl, hrow, hk11⟩
        obtain ⟨a11, c11, rfl, -, -, -⟩ := row_slice hrow
        rw [show (([] : List ByteArray).length) = 0 from rfl]
        have HF2 := Lib.hid ((HK.out _ (H10.out.trans (hk11.mono (by simp)))).2.1)
        clear hrow hk11
        go_wp2_with fail
        go_ret
        exact ⟨rfl, HF2.out⟩

theorem shipSaves_law (w : World) (hv : LibVar w) (hX : XorVar w) (v0 : Value) (h0 : O14W w v0) (v1 : Value) (h1 : ∃ zs : List Int, SliceArg 1 (fun n => [Value.int .i64 n]) w v1 zs ∧ ∀ n ∈ zs, -9223372036854775808 ≤ n ∧ n ≤ 9223372036854775807) (v2 : Value) (h2 : ∃ zs : List Int, SliceArg 1 (fun n => [Value.int .i64 n]) w v2 zs ∧ ∀ n ∈ zs, -9223372036854775808 ≤ n ∧ n ≤ 9223372036854775807) (er : Bool) :
    Calls Tryz.prog 6 #[v0, v1, v2, .bool er] w fun e w' => e = .returned (.bool true) ∧ Keeps [] w w' := by
  obtain ⟨L, hL, hb⟩ := h0
  obtain ⟨F, hF, -⟩ := h1
  obtain ⟨C, hC, hCi⟩ := h2
  exact shipSaves_walk w hv hX v0 L hL hb v1 F hF v2 C hC hCi er
end Go.Proofs.YtaebpbkiaihhdaaGreatDoor
