/-
  ShipUploads: a block goes up by any steps, with faults between; walked.
  The package's variable xor.widths holds what its text says (XorVar); the library's variable holds some number.
-/
import Derived.Test.YtaebpbkiaihhdaaGreatDoorUpInv
namespace Go.Proofs.YtaebpbkiaihhdaaGreatDoor
open Go Go.RowKit

theorem i64_and4U (n : Int) : bits .and .i64 n 4 = if n % 8 < 4 then 0 else 4 := by
  have h3 : (BitVec.ofInt 64 4).toNat = 4 := by decide
  have key : (BitVec.ofInt 64 n &&& BitVec.ofInt 64 4).toNat = (n % ((2 ^ 64 : Nat) : Int)).toNat &&& 4 := by
    rw [BitVec.toNat_and, BitVec.toNat_ofInt, h3]
  have k2 : ∀ m : Nat, m &&& 4 = if m % 8 < 4 then 0 else 4 := by
    intro m
    have e : m &&& 4 = (m % 8) &&& 4 := by
      have := Nat.and_two_pow_sub_one_eq_mod m 3
      rw [show m % 8 = m &&& 7 from this.symm, Nat.and_assoc]
      rfl
    rw [e]
    have : m % 8 < 8 := Nat.mod_lt _ (by omega)
    generalize m % 8 = r at *
    match r, this with
    | 0, _ | 1, _ | 2, _ | 3, _ | 4, _ | 5, _ | 6, _ | 7, _ => rfl
  show IntKind.i64.wrap ((BitVec.ofInt 64 n &&& BitVec.ofInt 64 4).toNat : Nat) = _
  rw [key, k2]
  have e8 : (n % ((2 ^ 64 : Nat) : Int)).toNat % 8 < 4 ↔ n % 8 < 4 := by omega
  simp only [e8]
  split <;> rfl

theorem sliceArg_atU {α : Type} {size : Nat} {enc : α → List Value} {w : World} {a : Option Addr} {n c : Nat} {L : List α} (h : SliceArg size enc w (.slice a n c) L) (i : Nat) (hi : i < L.length) :
    ∃ b off, a = some ⟨b, off, none⟩ ∧ b < w.heap.size ∧ ∀ j, j < size → w.cell? ⟨b, off + (i * size + j), none⟩ = (enc L[i])[j]? := by
  obtain ⟨ao, cap, e, hl, h⟩ := h
  injection e with e _ _
  subst e
  exact h i hi

/-- What a listing tells is there. -/
theorem listing_from {o : List (ByteArray × Ob)} {pre : ByteArray} {p : ByteArray × Ob} (h : p ∈ listing o pre) : p ∈ o := by
  unfold listing at h
  obtain ⟨n, hn, rfl⟩ := List.mem_map.1 h
  have hn1 : n ∈ o.map (·.1) := (sortB_perm _).mem_iff.1 (show n ∈ sortB (o.map (·.1)) from (List.mem_filter.1 hn).1)
  cases hx : look o n with
  | none => exact absurd hn1 ((look_none_iff n o).1 hx)
  | some x => exact look_mem hx

set_option linter.unusedSimpArgs false in
set_option maxRecDepth 100000 in
theorem upBlock_spec (w : World) (u : Nat) (M : MetaS) (af ao : Option Addr) (nf cf no co : Nat) (cb ib : ByteArray) (n : Int) (h : UpAt w u M (.slice af nf cf) (.slice ao no co) cb ib n) :
    Calls Tryz.prog 18 #[.pointer (some ⟨u, 0, none⟩)] w fun e w' => e = .returned (.agg #[.string M.id, .int .i64 M.mn, .int .i64 M.mx, .int .i64 M.level, .int .i64 M.series, .int .i64 M.samples, .slice af nf cf, .slice ao no co, .string cb, .string ib]) ∧ Keeps [] w w' := by
  obtain ⟨q, hq⟩ : ∃ q, q = w.heap.size := ⟨_, rfl⟩
  obtain ⟨W1, hW1⟩ : ∃ W1, W1 = w.alloc (.cells zeroF 28) := ⟨_, rfl⟩
  have k1 : Keeps [] w W1 := by rw [hW1]; exact (Keeps.refl [] w).alloc _
  have n1 : W1.heap[q]? = some (.cells zeroF 28 (0, 0)) := by rw [hW1, hq]; exact heap_new w _
  unfold zeroF at hW1 n1
  have hU1 : UpAt W1 u M (.slice af nf cf) (.slice ao no co) cb ib n := k1.at_ h (by simp)
  have cu := hU1.cells
  have lu := lt_of_at hU1
  have c1 := cells_at n1
  have f1 := free_at n1
  have l1 := lt_of_at n1
  have hlt := lt_of_at h
  have H := Lib.hid (And.intro k1 (And.intro n1 hq))
  clear h hU1 k1 n1 hlt
  go_enter Tryz.func18, Tryz.ntmps18
  go_upto_region 1 with fail
  rw [← hq, ← hW1]
  clear hq hW1
  go_wp2_with fail
  obtain ⟨W9, hW9, n9, k9⟩ := set10of10 (v0 := .string M.id) (v1 := .int .i64 M.mn) (v2 := .int .i64 M.mx) (v3 := .int .i64 M.level) (v4 := .int .i64 M.series) (v5 := .int .i64 M.samples) (v6 := .slice af nf cf) (v7 := .slice ao no co) (v8 := .string cb) (v9 := .string ib) H.out.2.1
  rw [← hW9]
  have e9 := cells_at n9
  have l9 := lt_of_at n9
  refine bodyPost_ret (v := .agg #[.string M.id, .int .i64 M.mn, .int .i64 M.mx, .int .i64 M.level, .int .i64 M.series, .int .i64 M.samples, .slice af nf cf, .slice ao no co, .string cb, .string ib]) (by simp [results, Tryz.results18, go_sem, e9, l9]) rfl ?_
  exact ⟨rfl, H.out.1.after k9 (fun x hx => .inr (by have := H.out.2.2; simp at hx; omega))⟩

/-- What a step of an upload says: it was done; it is too late; it worked or failed. -/
def StepSays (k gr n : Nat) (bn : Nat) (T T' : List Int) (e : Int) : Prop :=
  (k = 3 ∧ e = 17 ∧ T' = T) ∨ (k ≠ 3 ∧ (gr : Int) ≤ (n : Int) - bn ∧ e = 14 ∧ T' = T) ∨ (k ≠ 3 ∧ ¬ (gr : Int) ≤ (n : Int) - bn ∧ (e = 0 ∨ e = 8))

theorem wp_region_keptU {P : Program} {id : Nat} {Q : Exit → Act → World → Prop} {a : Act} {w : World} {l : List Oper} (W : World) (hm : P.follows .mixedOrders = true) (hB : Region.lexB .any l.toArray = true) (hW : Keeps [] W w.drew)
    (h : wpQuiet P l.toArray (fun w' => ∃ s : Kept W, w' = s.val) (fun a' => ∀ w', (∃ s : Kept W, w' = s.val) → Q .normal a' w') l a) : (Code.region id l.toArray true).wp P Q a w :=
  wp_region_quiet (C := fun w' => ∃ s : Kept W, w' = s.val) hm hB ⟨⟨_, hW⟩, rfl⟩ h

theorem Calls.keptU {P : Program} {f : FuncId} {args : Array Value} {W : World} {s : Kept W} {v : Value} (h : ∀ w, Keeps [] W w → Calls P f args w fun e w' => e = .returned v ∧ Keeps [] w w') :
    Calls P f args s.val fun e w'' => e = .returned v ∧ ∃ s' : Kept W, w'' = s'.val :=
  (h s.val s.property).mono fun _ w'' ⟨he, hk⟩ => ⟨he, ⟨w'', s.property.trans hk⟩, rfl⟩

theorem fieldF (x0 x1 x2 x3 x4 x5 x6 x7 x8 x9 : Value) (w : World) : (Instr.field 28 (.agg #[x0, x1, x2, x3, x4, x5, x6, x7, x8, x9]) 0).run Tryz.prog w = .ok (.agg #[x0, x1, x2, x3, x4, x5, x6, x7]) w := by kernel_rfl

theorem fieldM (x0 x1 x2 x3 x4 x5 x6 x7 : Value) (w : World) : (Instr.field 26 (.agg #[x0, x1, x2, x3, x4, x5, x6, x7]) 0).run Tryz.prog w = .ok x0 w := by kernel_rfl

theorem up_after {T : List Int} {k : Nat} {bn now gr : Int} {cb ib : ByteArray} (M : MetaS) (Q : List (Int × Bool)) (h : UpInv T k bn now gr) (hk : k < 3) (hb : bn ≤ now) (hg : now - bn < gr) :
    ∃ k' T', chg Q (upO M cb ib 0 T) (put (upO M cb ib 0 T) (objectB M.id (partN k)) (dataN M cb ib k, now)) = upO M cb ib 0 T' ∧ (if ioErr Q = 0 then (k : Int) + 1 else k) = ((k' : Nat) : Int) ∧ UpInv T' k' bn now gr ∧ (ioErr Q = 0 ∨ ioErr Q = 8) := by
  obtain ⟨T', h1, h2, h3⟩ := upInv_put (M := M) (cb := cb) (ib := ib) h hk hb hg
  unfold chg ioErr
  by_cases hw : tryWorks Q = true
  · rw [tryDone_of Q hw, hw]
    exact ⟨k + 1, T', h1, by simp, h2, .inl rfl⟩
  · rw [Bool.not_eq_true] at hw
    rw [hw]
    by_cases hd : tryDone Q = true
    · rw [hd]
      exact ⟨k, T', h1, by simp, h3, .inr rfl⟩
    · rw [Bool.not_eq_true] at hd
      rw [hd]
      exact ⟨k, T, rfl, by simp, h, .inr rfl⟩

def UpRel (W : World) (b f c mb u : Nat) (M : MetaS) (vf vo : Value) (cb ib : ByteArray) (bn gr N : Nat) (gk : Nat) (u16 u17 : Value) (wr : World) : Prop :=
  ∃ (i k now : Nat) (armed : Bool) (Q : List (Int × Bool)) (T : List Int), i ≤ 20 ∧ i ≤ N ∧ gk = 20 - i ∧ u17 = .int .i64 i ∧ u16 = .int .i64 now ∧ bn ≤ now ∧ now ≤ bn + 7 * i ∧ UpInv T k bn now gr ∧ BucketAt wr b f c mb armed Q (upO M cb ib 0 T) ∧ UpAt wr u M vf vo cb ib k ∧ Keeps [f, c, mb, u] W wr

def ArmRelU (W : World) (b f c mb : Nat) (n : Nat) (gk : Nat) (u : Value) (wr : World) : Prop :=
  ∃ k Q, k ≤ n ∧ k ≤ 8 ∧ gk = 8 - k ∧ u = .int .i64 k ∧ Q.length = k ∧ BucketAt wr b f c mb false Q [] ∧ Keeps [f, c] W wr

def InRelU (W : World) (n : Nat) (gk : Nat) (u : Value) (wr : World) : Prop := ∃ k, k ≤ n ∧ gk = n - k ∧ u = .int .i64 k ∧ Keeps [] W wr

set_option linter.unusedSimpArgs false in
set_option maxRecDepth 100000 in
set_option maxHeartbeats 4000000 in
theorem shipUploads_walk (w : World) (hv : LibVar w) (hX : XorVar w) (v : Value) (L : List One14) (h : SliceArg 3 encO14 w v L) (hb : ∀ x ∈ L, 0 ≤ x.1 ∧ 0 ≤ x.2.2 ∧ x.2.2 < 18446744073709551616) (born grace : Int) (vt : Value) (TT : List Int) (hT : SliceArg 1 (fun n => [Value.int .i64 n]) w vt TT) (vf : Value) (F : List Int) (hF : SliceArg 1 (fun n => [Value.int .i64 n]) w vf F) :
    Calls Tryz.prog 4 #[v, .int .i64 born, .int .i64 grace, vt, vf] w fun e w' => e = .returned (.bool true) ∧ Keeps [] w w' := by
  have H := Lib.hid (And.intro h (And.intro hv (And.intro hX hb)))
  obtain ⟨av, cv, rfl, -, -⟩ := h
  obtain ⟨tv, tc, htv, htl, -⟩ := id hT
  rw [htv] at hT
  have HT := Lib.hid hT
  subst htv
  obtain ⟨fv, fc, hfv, hfl, -⟩ := id hF
  rw [hfv] at hF
  have HF := Lib.hid hF
  subst hfv
  obtain ⟨bn, hbn⟩ : ∃ bn : Nat, (bn : Int) = min (max born 0) 1000 := ⟨(min (max born 0) 1000).toNat, by omega⟩
  obtain ⟨gr, hgr⟩ : ∃ gr : Nat, (gr : Int) = min (max grace 0) 1000 := ⟨(min (max grace 0) 1000).toNat, by omega⟩
  have hbn1 : bn ≤ 1000 := by omega
  have hgr1 : gr ≤ 1000 := by omega
  have Hbl := Lib.hid (block_spec w hv hX _ L H.out.1 hb bn 1 (by omega) (by decide))
  clear hv hX hb hT hF
  go_enter Tryz.func4, Tryz.ntmps4
  go_wp2_with fail
  rw [← hbn, ← hgr]
  clear hbn hgr
  refine Hbl.out.mono ?_
  rintro e W1 ⟨fv2, M, cb, ib, rfl, ⟨vs, rfl, ⟨vf, vo, rfl, r1, r2⟩, hMO, hfl2, hcz, hiz⟩, hMid, k1⟩
  obtain ⟨af, cf, rfl, -, -, -⟩ := row_slice r1
  obtain ⟨ao, co, rfl, -, -, -⟩ := row_slice r2
  have H1 := Lib.hid (And.intro r1 (And.intro r2 (And.intro hMO (And.intro hMid (And.intro k1 (And.intro hcz hiz))))))
  clear r1 r2 hMO hfl2 hcz hiz hMid k1 Hbl
  have kW := (Keeps.refl [] W1).alloc (.cells #[.string M.id, .int .i64 M.mn, .int .i64 M.mx, .int .i64 M.level, .int .i64 M.series, .int .i64 M.samples, .slice af M.files.length cf, .slice ao M.sources.length co, .string cb, .string ib] 28)
  have nW := heap_new W1 (.cells #[.string M.id, .int .i64 M.mn, .int .i64 M.mx, .int .i64 M.level, .int .i64 M.series, .int .i64 M.samples, .slice af M.files.length cf, .slice ao M.sources.length co, .string cb, .string ib] 28)
  go_wp2_with fail
  generalize W1.alloc (.cells #[.string M.id, .int .i64 M.mn, .int .i64 M.mx, .int .i64 M.level, .int .i64 M.series, .int .i64 M.samples, .slice af M.files.length cf, .slice ao M.sources.length co, .string cb, .string ib] 28) = W2 at kW nW ⊢
  obtain ⟨pf, hpf⟩ : ∃ pf, pf = W1.heap.size := ⟨_, rfl⟩
  rw [← hpf] at nW ⊢
  have H2 := Lib.hid (And.intro nW (And.intro kW hpf))
  clear nW kW hpf
  refine (newBucket_spec W2).mono ?_
  rintro e W3 ⟨b, f, c, mb, rfl, hB3, k3, q1, q2, q3, q4⟩
  have H3 := Lib.hid (And.intro hB3 (And.intro k3 (And.intro q1 (And.intro q2 (And.intro q3 q4)))))
  clear hB3 k3 q1 q2 q3 q4
  go_wp2_with fail
  refine (awake18_spec W3).mono ?_
  rintro e W4 ⟨rfl, k4⟩
  have k24 := H3.out.2.1.trans k4
  have n4 := k24.at_ H2.out.1 (by simp)
  have hB4 := H3.out.1.keep k4 (by simp) (by simp) (by simp) (by simp)
  have k14 : Keeps [] W1 W4 := H2.out.2.1.trans k24
  have k04 : Keeps [] w W4 := H1.out.2.2.2.2.1.trans k14
  have hord : w.heap.size ≤ W1.heap.size ∧ W1.heap.size ≤ pf ∧ pf < b ∧ pf < f ∧ pf < c ∧ pf < mb := by
    have := H1.out.2.2.2.2.1.size
    have := H2.out.2.2
    have := lt_of_at H2.out.1
    have := H3.out.2.2.1
    have := H3.out.2.2.2.1
    have := H3.out.2.2.2.2.1
    have := H3.out.2.2.2.2.2
    omega
  have H4 := Lib.hid (And.intro n4 (And.intro hB4 (And.intro k14 (And.intro k04 hord))))
  have cb4 := cells_at hB4.cells
  have lb4 := hB4.lt.1
  clear k4 k24 n4 hB4 k14 k04 hord
  go_upto_block 0 with fail
  go_cut [14] from 54 (fun _ wc => ∃ Q, Q.length ≤ 8 ∧ BucketAt wc b f c mb false Q [] ∧ Keeps [f, c] W4 wc)
  case first =>
    go_wp2_with fail
    go_loopg [14] 8 (ArmRelU W4 b f c mb F.length)
    case atStart => exact ⟨0, [], Nat.zero_le _, by decide, rfl, rfl, rfl, H4.out.2.1, Keeps.refl _ _⟩
    case round =>
      obtain ⟨j, Q, hjF, hj8, hgj, rfl, hQ, hbj, hkj⟩ := hrel
      have Hgj := Lib.hid hgj
      have hkw : Keeps [] w wr := H4.out.2.2.2.1.after hkj (fun x hx => .inr (by have := H4.out.2.2.2.2; simp at hx; omega))
      clear hgj
      by_cases hlt : j < F.length ∧ j < 8
      · obtain ⟨hj1, hj2⟩ := hlt
        have hj1' : (j : Int) < (F.length : Int) := by omega
        have hj2' : (j : Int) < 8 := by omega
        obtain ⟨bg, og, eg, hbg, hcg⟩ := sliceArg_atU (HF.out.keep hkw) j hj1
        subst eg
        have cg0 : wr.cell? ⟨bg, og + j, none⟩ = some (.int .i64 F[j]) := by simpa using hcg 0 (by decide)
        generalize F[j] = y at cg0
        have h3 := i64_and3 y
        have h4 := i64_and4U y
        have hy1 : y % 4 ≤ 9223372036854775807 := by omega
        have cb := cells_at hbj.cells
        have lb := hbj.lt.1
        have Hj := Lib.hid (And.intro hbj hkj)
        clear hcg hbj hkj hkw
        by_cases hm : y % 8 < 4
        · rw [if_pos hm] at h4
          go_upto_region 9 with fail
          go_still_tail 15, (by kernel_rfl)
          repeat still_step
          (try refine wpStill_nil ?_)
          change wpList _ _ _ _ _ wr.drew
          go_wp2_with fail
          have kd : Keeps [] wr wr.drew := (Keeps.refl [] wr).drew
          have hbd := Hj.out.1.keep kd (by simp) (by simp) (by simp) (by simp)
          refine (arm_ok wr.drew f c false Q (y % 4) true hy1 hbd.fuse (by simp only [Bool.toNat_false]; omega)).mono ?_
          rintro e w4 ⟨rfl, hf4, hk4⟩
          have hb4 := hbd.tried hk4 hf4
          have H5 := Lib.hid (And.intro hb4 ((Hj.out.2.trans (kd.mono (by simp))).trans hk4))
          clear hb4 hbd hf4 hk4 cb cg0 Hj
          go_wp2_with fail
          go_roundg (8 - (j + 1))
          case measure => have := Hgj.out; omega
          case rel => exact ⟨j + 1, _, by omega, by omega, rfl, by go_num, by rw [List.length_append, hQ]; rfl, H5.out.1, H5.out.2⟩
        · rw [if_neg hm] at h4
          go_upto_region 9 with fail
          go_still_tail 15, (by kernel_rfl)
          repeat still_step
          (try refine wpStill_nil ?_)
          change wpList _ _ _ _ _ wr.drew
          go_wp2_with fail
          have kd : Keeps [] wr wr.drew := (Keeps.refl [] wr).drew
          have hbd := Hj.out.1.keep kd (by simp) (by simp) (by simp) (by simp)
          refine (arm_ok wr.drew f c false Q (y % 4) false hy1 hbd.fuse (by simp only [Bool.toNat_false]; omega)).mono ?_
          rintro e w4 ⟨rfl, hf4, hk4⟩
          have hb4 := hbd.tried hk4 hf4
          have H5 := Lib.hid (And.intro hb4 ((Hj.out.2.trans (kd.mono (by simp))).trans hk4))
          clear hb4 hbd hf4 hk4 cb cg0 Hj
          go_wp2_with fail
          go_roundg (8 - (j + 1))
          case measure => have := Hgj.out; omega
          case rel => exact ⟨j + 1, _, by omega, by omega, rfl, by go_num, by rw [List.length_append, hQ]; rfl, H5.out.1, H5.out.2⟩
      · have hexit : ((j : Int) < (F.length : Int) ∧ ¬ (j : Int) < 8) ∨ ¬ (j : Int) < (F.length : Int) := by omega
        have H5 := Lib.hid (And.intro hbj hkj)
        have hQ8 : Q.length ≤ 8 := by omega
        clear hbj hkj Hgj hlt hkw
        rcases hexit with ⟨h1, h2⟩ | h1
        · go_wp2_with fail
          go_meet
          case rel => exact ⟨Q, hQ8, H5.out⟩
        · go_wp2_with fail
          go_meet
          case rel => exact ⟨Q, hQ8, H5.out⟩
  case rest =>
    obtain ⟨Q0, hQ8, hb5, hk5⟩ := hcut
    obtain ⟨W5, rfl⟩ : ∃ W : World, W = wc := ⟨_, rfl⟩
    have n5 := hk5.at_ H4.out.1 (by have := H4.out.2.2.2.2; simp; omega)
    have k15 : Keeps [] W1 W5 := H4.out.2.2.1.after hk5 (fun x hx => .inr (by have := H4.out.2.2.2.2; simp at hx; omega))
    have hlt5 := hb5.lt
    have H5 := Lib.hid (And.intro n5 (And.intro hb5 (And.intro k15 hlt5)))
    have c5 := cells_at n5
    have l5 := lt_of_at n5
    have HQ8 := Lib.hid hQ8
    clear n5 hb5 hk5 k15 cb4 lb4 hlt5 hQ8
    go_wp2_with fail
    refine (newUpload_spec W5 M af ao _ cf _ co cb ib).mono ?_
    rintro e W6 ⟨u, rfl, hU6, k6, hu6⟩
    have hB6 := H5.out.2.1.keep k6 (by simp) (by simp) (by simp) (by simp)
    have n6 := k6.at_ H5.out.1 (by simp)
    have k16 := H5.out.2.2.1.trans k6
    have hord6 : b < u ∧ f < u ∧ c < u ∧ mb < u ∧ pf < b ∧ pf < f ∧ pf < c ∧ pf < mb ∧ W1.heap.size ≤ pf := by
      have h1 := H5.out.2.2.2
      have h2 := H4.out.2.2.2.2
      omega
    have H6 := Lib.hid (And.intro hU6 (And.intro hB6 (And.intro n6 (And.intro k16 hord6))))
    clear hU6 k6 hu6 hB6 n6 k16 hord6 c5 l5
    go_wp2_with fail
    go_loopg [16, 17] 20 (UpRel W6 b f c mb u M (.slice af M.files.length cf) (.slice ao M.sources.length co) cb ib bn gr TT.length)
    case atStart => exact ⟨0, 0, bn, false, Q0, [], Nat.zero_le _, Nat.zero_le _, rfl, rfl, rfl, Nat.le_refl _, by omega, ⟨by decide, .inl rfl, fun t ht => by cases ht⟩, H6.out.2.1, H6.out.1, Keeps.refl _ _⟩
    case round =>
      obtain ⟨i, k, now, armed, Q, T, hi20, hiN, hgi, rfl, rfl, hn1, hn2, hI, hBr, hUr, hkr⟩ := hrel
      obtain ⟨wo, rfl⟩ : ∃ W : World, W = wr := ⟨_, rfl⟩
      have Hgi := Lib.hid hgi
      clear hgi
      have k1r : Keeps [] W1 wo := H6.out.2.2.2.1.after hkr (fun x hx => .inr (by have := H6.out.2.2.2.2; simp at hx; omega))
      have kwr : Keeps [] w wo := H1.out.2.2.2.2.1.trans k1r
      have npf := hkr.at_ H6.out.2.2.1 (by have := H6.out.2.2.2.2; simp; omega)
      have Hr := Lib.hid (And.intro hI (And.intro hBr (And.intro hUr (And.intro hkr (And.intro k1r npf)))))
      by_cases hlt : i < TT.length ∧ i < 20
      · obtain ⟨hj1, hj2⟩ := hlt
        have hj1' : (i : Int) < (TT.length : Int) := by omega
        have hj2' : (i : Int) < 20 := by omega
        obtain ⟨bg, og, eg, hbg, hcg⟩ := sliceArg_atU (HT.out.keep kwr) i hj1
        subst eg
        have cg0 : wo.cell? ⟨bg, og + i, none⟩ = some (.int .i64 TT[i]) := by simpa using hcg 0 (by decide)
        generalize TT[i] = y at cg0
        have h7 := i64_and7R y
        obtain ⟨n2, hn⟩ : ∃ n : Nat, (now : Int) + y % 8 = (n : Int) := ⟨((now : Int) + y % 8).toNat, by omega⟩
        have hwn : IntKind.i64.wrap ((now : Int) + y % 8) = (n2 : Int) := by rw [IntWalk.i64_in _ (by omega)]; exact hn
        have hle : now ≤ n2 ∧ n2 ≤ now + 7 := by omega
        have hI2 := hI.later (now' := n2) (by omega)
        have hsz := upO_sizes (M := M) (cb := cb) (ib := ib) H1.out.2.2.1 H1.out.2.2.2.2.2.1 H1.out.2.2.2.2.2.2 hI.le3
        have HL := Lib.hid (look_spec wo b f c mb armed Q _ hBr ⟨#[]⟩ hsz.1 hsz.2.1 hsz.2.2)
        have Hhi := Lib.hid (And.intro hle (And.intro hI2 (And.intro hn1 hn2)))
        have hn2k : n2 ≤ 2000 ∧ bn ≤ n2 := by omega
        clear hcg hn hI hBr hUr hkr k1r kwr npf hsz hI2 hle hn1 hn2
        go_wp2_with fail
        refine HL.out.mono ?_
        rintro e A1 ⟨vl, rfl, hrl, hk1⟩
        rw [list_lenE, upO_len] at hrl
        obtain ⟨tl, htl⟩ : ∃ tl, tl = T.length := ⟨_, rfl⟩
        rw [← htl] at hrl
        obtain ⟨al, cl, rfl, -, -, -⟩ := row_slice hrl
        have hU1 : UpAt A1 u M (.slice af M.files.length cf) (.slice ao M.sources.length co) cb ib (k : Nat) := hk1.at_ Hr.out.2.2.1 (by simp)
        have H7 := Lib.hid (And.intro (Hr.out.2.1.keep hk1 (by simp) (by simp) (by simp) (by simp)) (And.intro hU1 (And.intro (Hr.out.2.2.2.1.trans (hk1.mono (by simp))) (And.intro (Hr.out.2.2.2.2.1.trans hk1) (hk1.at_ Hr.out.2.2.2.2.2 (by simp))))))
        have Hd := upDone_spec2 A1 u M _ _ cb ib _ hU1
        obtain ⟨dn, hdn⟩ : ∃ dn : Bool, dn = (((k : Nat) : Int) == 3) := ⟨_, rfl⟩
        rw [← hdn] at Hd
        have HD := Lib.hid Hd
        have Hdn := Lib.hid hdn
        have Htl := Lib.hid htl
        clear Hd hdn htl hrl hk1 hU1 cg0 HL
        go_wp2_with fail
        refine HD.out.mono ?_
        rintro e A2 ⟨rfl, rfl⟩
        go_upto_region 18 with fail
        go_cut [20] from 105 to 109 (fun e wx => ∃ (ec : Int) (k' : Nat) (armed' : Bool) (Q' : List (Int × Bool)) (T' : List Int), e = .int .i64 ec ∧ StepSays k gr n2 bn T T' ec ∧ UpInv T' k' bn n2 gr ∧ BucketAt wx b f c mb armed' Q' (upO M cb ib 0 T') ∧ UpAt wx u M (.slice af M.files.length cf) (.slice ao M.sources.length co) cb ib (k' : Nat) ∧ Keeps [f, c, mb, u] A1 wx)
        case first =>
          have hMV : MetaV w.heap.size A1 (metaCs M (.slice af M.files.length cf) (.slice ao M.sources.length co)) M := (show MetaR w.heap.size A1 (metaCs M (.slice af M.files.length cf) (.slice ao M.sources.length co)) M from ⟨_, _, rfl, H7.out.2.2.2.1.row H1.out.1 (by simp), H7.out.2.2.2.1.row H1.out.2.1 (by simp)⟩).metaV
          have hlate : lateB (parseL M.id.data.toList) n2 gr = decide ((gr : Int) ≤ (n2 : Int) - (bn : Int)) := by
            rw [H1.out.2.2.2.1]
            show lateB (parseL (identL bn 1)) n2 gr = _
            rw [parseL_ident (by omega) (by decide)]
            rfl
          by_cases hk3 : k = 3
          · have hU3 : UpAt A1 u M (.slice af M.files.length cf) (.slice ao M.sources.length co) cb ib 3 := by have := H7.out.2.1; rw [hk3] at this; exact this
            have Hi := Lib.hid (upIdle_spec A1 u b M _ _ cb ib n2 gr hU3)
            have HK := Lib.hid hk3
            clear hMV hlate hk3 hU3
            go_wp2_with fail
            refine Hi.out.mono ?_
            rintro e A3 ⟨rfl, rfl⟩
            go_wp2_with fail
            go_meet
            exact ⟨17, k, armed, Q, T, rfl, .inl ⟨HK.out, rfl, rfl⟩, Hhi.out.2.1, H7.out.1, H7.out.2.1, Keeps.refl _ _⟩
          · have hkl : k < 3 := by have := Hr.out.1.le; omega
            by_cases hgl : (gr : Int) ≤ (n2 : Int) - (bn : Int)
            · rw [decide_eq_true hgl] at hlate
              have Hi := Lib.hid (upLate_spec A1 u b M _ _ cb ib _ (by rw [beq_eq_false_iff_ne]; omega) n2 gr (by omega) hlate H7.out.2.1)
              have HK := Lib.hid (And.intro hk3 hgl)
              clear hMV hlate hk3 hgl
              go_wp2_with fail
              refine Hi.out.mono ?_
              rintro e A3 ⟨rfl, rfl⟩
              go_wp2_with fail
              go_meet
              exact ⟨14, k, armed, Q, T, rfl, .inr (.inl ⟨HK.out.1, HK.out.2, rfl, rfl⟩), Hhi.out.2.1, H7.out.1, H7.out.2.1, Keeps.refl _ _⟩
            · rw [decide_eq_false hgl] at hlate
              have Hs := Lib.hid (upStep_spec A1 u b f c mb _ M af ao _ cf _ co cb ib n2 gr (by omega) hlate armed Q _ H7.out.1 (by have := H6.out.2.2.2.2; simp; omega) hMV H1.out.2.2.1 k hkl H7.out.2.1)
              have HK := Lib.hid (And.intro hk3 (And.intro (Int.not_le.1 hgl) hkl))
              clear hMV hlate hk3 hgl hkl
              go_wp2_with fail
              refine Hs.out.mono ?_
              rintro e A3 ⟨rfl, hB3, hU3, hk3⟩
              go_wp2_with fail
              go_meet
              obtain ⟨k', T', hT', hkk, hI', hio⟩ := up_after (cb := cb) (ib := ib) M Q Hhi.out.2.1 HK.out.2.2 (show (bn : Int) ≤ (n2 : Int) by omega) (show (n2 : Int) - (bn : Int) < (gr : Int) from HK.out.2.1)
              rw [hT'] at hB3
              rw [hkk] at hU3
              exact ⟨ioErr Q, k', _, _, T', rfl, .inr (.inr ⟨HK.out.1, Int.not_le.2 HK.out.2.1, hio⟩), hI', hB3, hU3, hk3⟩
        case rest =>
          obtain ⟨ec, k', armed', Q', T', rfl, hS, hI', hB', hU', hk'⟩ := hcut
          obtain ⟨W8, rfl⟩ : ∃ W : World, W = wc := ⟨_, rfl⟩
          have k18 : Keeps [] W1 W8 := H7.out.2.2.2.1.after hk' (fun x hx => .inr (by have := H6.out.2.2.2.2; simp at hx; omega))
          have n8 := hk'.at_ H7.out.2.2.2.2 (by have := H6.out.2.2.2.2; simp; omega)
          have hsz := upO_sizes (M := M) (cb := cb) (ib := ib) H1.out.2.2.1 H1.out.2.2.2.2.2.1 H1.out.2.2.2.2.2.2 hI'.le3
          have HL8 := Lib.hid (look_spec W8 b f c mb armed' Q' _ hB' ⟨#[]⟩ hsz.1 hsz.2.1 hsz.2.2)
          have HSz := Lib.hid hsz
          have HS := Lib.hid hS
          have H8 := Lib.hid (And.intro hI' (And.intro hB' (And.intro hU' (And.intro (H7.out.2.2.1.trans hk') (And.intro k18 n8)))))
          clear hS hI' hB' hU' hk' k18 n8 hsz
          go_upto_region 19 with fail
          go_cut [127] from 110 to 126 (fun c wx => c = .bool false ∧ wx = W8)
          case first =>
            rcases HS.out with ⟨hk3, rfl, -⟩ | ⟨hk3, hgl, rfl, -⟩ | ⟨hk3, hgl, rfl | rfl⟩
            · obtain rfl : dn = true := by rw [Hdn.out, hk3]; rfl
              clear hk3
              go_wp2_with fail
              go_meet
              exact ⟨rfl, rfl⟩
            all_goals
              obtain rfl : dn = false := by rw [Hdn.out, beq_eq_false_iff_ne]; omega
              have hwb : IntKind.i64.wrap ((n2 : Int) - (bn : Int)) = (n2 : Int) - (bn : Int) := IntWalk.i64_in _ (by omega)
              clear hk3
              go_wp2_with fail
              go_meet
              exact ⟨rfl, rfl⟩
          case rest =>
            obtain ⟨rfl, rfl⟩ := hcut
            obtain ⟨W8, rfl⟩ : ∃ W : World, W = wc := ⟨_, rfl⟩
            go_upto_region 21 with fail
            go_cut [140] from 128 to 139 (fun c wx => c = .bool false ∧ Keeps [] W8 wx)
            case first =>
              rcases HS.out with ⟨hk3, rfl, hTT⟩ | ⟨hk3, hgl, rfl, hTT⟩ | ⟨hk3, hgl, rfl | rfl⟩
              iterate 2
                rotate_left
              · clear hk3 hgl
                go_wp2_with fail
                go_meet
                exact ⟨rfl, Keeps.refl _ _⟩
              · clear hk3 hgl
                go_wp2_with fail
                go_meet
                exact ⟨rfl, Keeps.refl _ _⟩
              all_goals
                have HTT := Lib.hid hTT
                have HK3 := Lib.hid hk3
                clear hTT hk3
                go_wp2_with fail
                refine HL8.out.mono ?_
                rintro e A5 ⟨vl2, rfl, hrl2, hk5⟩
                rw [list_lenE, upO_len, HTT.out, ← Htl.out] at hrl2
                obtain ⟨al2, cl2, rfl, -, -, -⟩ := row_slice hrl2
                have HK5 := Lib.hid hk5
                clear hrl2 hk5
                go_wp2_with fail
                go_meet
                exact ⟨rfl, HK5.out⟩
            case rest =>
              obtain ⟨rfl, hk9⟩ := hcut
              obtain ⟨W9, rfl⟩ : ∃ W : World, W = wc := ⟨_, rfl⟩
              have hB9 := H8.out.2.1.keep hk9 (by simp) (by simp) (by simp) (by simp)
              have hU9 : UpAt W9 u M (.slice af M.files.length cf) (.slice ao M.sources.length co) cb ib (k' : Nat) := hk9.at_ H8.out.2.2.1 (by simp)
              have k19 := H8.out.2.2.2.2.1.trans hk9
              have n9 := hk9.at_ H8.out.2.2.2.2.2 (by simp)
              have hMV : MetaV w.heap.size W9 (metaCs M (.slice af M.files.length cf) (.slice ao M.sources.length co)) M := (show MetaR w.heap.size W9 (metaCs M (.slice af M.files.length cf) (.slice ao M.sources.length co)) M from ⟨_, _, rfl, k19.row H1.out.1 (by simp), k19.row H1.out.2.1 (by simp)⟩).metaV
              have HC := Lib.hid (complete_spec W9 b f c mb w.heap.size armed' Q' M af ao _ cf _ co cb ib T' H8.out.1.le3 hB9 hMV H1.out.2.2.1)
              have H9 := Lib.hid (And.intro hB9 (And.intro hU9 (And.intro (H8.out.2.2.2.1.trans (hk9.mono (by simp))) (And.intro k19 n9))))
              have c9 := cells_at n9
              have l9 := lt_of_at n9
              clear hB9 hU9 k19 n9 hMV hk9 HL8
              go_upto_region 23 with fail
              go_cut [154] from 141 to 153 (fun c wx => c = .bool false ∧ Keeps [] W9 wx)
              case first =>
                go_wp2_with fail
                refine HC.out.mono ?_
                rintro e A6 ⟨rfl, hk6⟩
                have hB10 := H9.out.1.keep hk6 (by simp) (by simp) (by simp) (by simp)
                have hU10 : UpAt A6 u M (.slice af M.files.length cf) (.slice ao M.sources.length co) cb ib (k' : Nat) := hk6.at_ H9.out.2.1 (by simp)
                have Hd6 := upDone_spec2 A6 u M _ _ cb ib _ hU10
                have HL6 := Lib.hid (look_spec A6 b f c mb armed' Q' _ hB10 ⟨#[]⟩ HSz.out.1 HSz.out.2.1 HSz.out.2.2)
                have HK6 := Lib.hid hk6
                by_cases hk3 : k' = 3
                · have hb3 : (((k' : Nat) : Int) == 3) = true := by rw [hk3]; rfl
                  rw [hb3] at Hd6
                  have HD6 := Lib.hid Hd6
                  have HT3 : Hid (T'.length = 3) := Lib.hid (by have := H8.out.1; rw [hk3] at this; exact this.done)
                  clear hb3 Hd6 hB10 hU10 hk6 hk3 c9 l9
                  go_wp2_with fail
                  refine HD6.out.mono ?_
                  rintro e A7 ⟨rfl, rfl⟩
                  go_wp2_with fail
                  refine HL6.out.mono ?_
                  rintro e A8 ⟨vl3, rfl, hrl3, hk8⟩
                  rw [list_lenE, upO_len, HT3.out] at hrl3
                  obtain ⟨al3, cl3, rfl, -, -, -⟩ := row_slice hrl3
                  have HK8 := Lib.hid (HK6.out.trans hk8)
                  clear hrl3 hk8
                  go_wp2_with fail
                  go_meet
                  exact ⟨rfl, HK8.out⟩
                · have hb3 : (((k' : Nat) : Int) == 3) = false := by rw [beq_eq_false_iff_ne]; omega
                  rw [hb3] at Hd6
                  have HD6 := Lib.hid Hd6
                  clear hb3 Hd6 hB10 hU10 hk6 hk3 c9 l9
                  go_wp2_with fail
                  refine HD6.out.mono ?_
                  rintro e A7 ⟨rfl, rfl⟩
                  go_wp2_with fail
                  go_meet
                  exact ⟨rfl, HK6.out⟩
              case rest =>
                obtain ⟨rfl, hk10⟩ := hcut
                obtain ⟨W10, rfl⟩ : ∃ W : World, W = wc := ⟨_, rfl⟩
                have hB10 := H9.out.1.keep hk10 (by simp) (by simp) (by simp) (by simp)
                have hU10 : UpAt W10 u M (.slice af M.files.length cf) (.slice ao M.sources.length co) cb ib (k' : Nat) := hk10.at_ H9.out.2.1 (by simp)
                have HL10 := Lib.hid (look_spec W10 b f c mb armed' Q' _ hB10 ⟨#[]⟩ HSz.out.1 HSz.out.2.1 HSz.out.2.2)
                have H10 := Lib.hid (And.intro hB10 (And.intro hU10 (H9.out.2.2.1.trans (hk10.mono (by simp)))))
                clear hB10 hU10 hk10 c9 l9
                go_wp2_with fail
                refine HL10.out.mono ?_
                rintro e A9 ⟨vl4, rfl, hrl4, hk11⟩
                have hmem : ∀ p ∈ listing (upO M cb ib 0 T') ⟨#[]⟩, bn ≤ p.2.2 ∧ p.2.2 ≤ n2 ∧ p.2.2 - bn < gr := fun p hp => by
                  obtain ⟨x, t, ht, e⟩ := upO_mem T' 0 p (listing_from hp)
                  rw [e]
                  exact H8.out.1.at_ t ht
                obtain ⟨LL, hLL⟩ : ∃ LL, LL = listing (upO M cb ib 0 T') ⟨#[]⟩ := ⟨_, rfl⟩
                rw [← hLL] at hrl4 hmem
                have hl3 : LL.length ≤ 3 := by rw [hLL, list_lenE, upO_len]; exact H8.out.1.le3
                clear hLL
                obtain ⟨al4, cl4, rfl, -, -, -⟩ := row_slice hrl4
                obtain ⟨tn, htn⟩ : ∃ tn, tn = LL.length := ⟨_, rfl⟩
                have H11 := Lib.hid (And.intro hrl4 (And.intro hmem (And.intro (H10.out.1.keep hk11 (by simp) (by simp) (by simp) (by simp)) (And.intro (show UpAt A9 u M (.slice af M.files.length cf) (.slice ao M.sources.length co) cb ib (k' : Nat) from hk11.at_ H10.out.2.1 (by simp)) (H10.out.2.2.trans (hk11.mono (by simp)))))))
                rw [← htn]
                have Htn := Lib.hid htn
                have htn3 : tn ≤ 3 := by omega
                clear hrl4 hmem hk11 htn hl3
                go_wp2_with fail
                go_loopg [158] tn (InRelU A9 tn)
                case atStart => exact ⟨0, Nat.zero_le _, rfl, rfl, Keeps.refl _ _⟩
                case round =>
                  obtain ⟨j, hj, hgj, rfl, hkj⟩ := hrel
                  have Hgj := Lib.hid hgj
                  clear hgj
                  by_cases hlt : j < tn
                  · have hlt' : (j : Int) < (tn : Int) := by omega
                    have hjL : j < LL.length := by rw [← Htn.out]; exact hlt
                    obtain ⟨b6, of6, ea, hb6, hbl, hc6⟩ := (sliceFrom_row (enc := infoOf) (fun _ => rfl) (hkj.row H11.out.1 (by simp))).atI j hjL
                    have d0 : wr.cell? ⟨b6, of6 + j * 3, none⟩ = (infoOf LL[j])[0]? := hc6 0 (by omega)
                    have d1 : wr.cell? ⟨b6, of6 + j * 3 + 1, none⟩ = (infoOf LL[j])[1]? := by rw [Nat.add_assoc]; exact hc6 1 (by omega)
                    have d2 : wr.cell? ⟨b6, of6 + j * 3 + 2, none⟩ = (infoOf LL[j])[2]? := by rw [Nat.add_assoc]; exact hc6 2 (by omega)
                    have hat := H11.out.2.1 LL[j] (List.getElem_mem _)
                    generalize LL[j] = p at d0 d1 d2 hat
                    subst ea
                    simp only [infoOf, List.getElem?_cons_zero, List.getElem?_cons_succ] at d0 d1 d2
                    generalize p.1 = p1 at d0
                    generalize (p.2.1.size : Int) = p2 at d1
                    generalize p.2.2 = t at d2 hat
                    have g1 : ¬ t < (bn : Int) := by omega
                    have g2 : ¬ t > (n2 : Int) := by omega
                    have g3 : ¬ t - (bn : Int) ≥ (gr : Int) := by omega
                    have hwt : IntKind.i64.wrap (t - (bn : Int)) = t - (bn : Int) := IntWalk.i64_in _ (by omega)
                    have kz : Keeps [] wr (wr.alloc (.cells #[.string p1, .int .i64 p2, .int .i64 t] 51)) := (Keeps.refl [] wr).alloc _
                    have HKz := Lib.hid (hkj.trans kz)
                    have Hlt := Lib.hid hlt
                    clear hc6 hkj kz hat hlt
                    go_wp2_with fail
                    go_roundg (tn - (j + 1))
                    case measure => have := Hgj.out; omega
                    case rel => exact ⟨j + 1, Hlt.out, rfl, by go_num, HKz.out⟩
                  · have hnl : ¬ (j : Int) < (tn : Int) := by omega
                    have HKz := Lib.hid hkj
                    clear hkj hlt
                    go_wp2_with fail
                    go_roundg (20 - (i + 1))
                    case measure => have := Hgi.out; omega
                    case rel => exact ⟨i + 1, k', n2, armed', Q', T', by omega, by omega, rfl, by go_num, rfl, hn2k.2, by have := Hhi.out.1; have := Hhi.out.2.2.2; omega, H8.out.1, H11.out.2.2.1.keep HKz.out (by simp) (by simp) (by simp) (by simp), HKz.out.at_ H11.out.2.2.2.1 (by simp), H11.out.2.2.2.2.trans (HKz.out.mono (by simp))⟩
      · have hexit : ((i : Int) < (TT.length : Int) ∧ ¬ (i : Int) < 20) ∨ ¬ (i : Int) < (TT.length : Int) := by omega
        have HB := Lib.hid (fun W (hk : Keeps [] wo W) => upBlock_spec W u M af ao _ cf _ co cb ib _ (show UpAt W u M _ _ cb ib _ from hk.at_ hUr (by simp)))
        have cpf : ∀ s : Kept wo, s.val.cell? ⟨pf, 0, none⟩ = some (.string M.id) := keptCell (by rw [cells_at npf]; rfl)
        have lpf : ∀ s : Kept wo, pf < s.val.heap.size := fun s => s.property.lt (lt_of_at npf)
        have HW := Lib.hid kwr
        clear hlt hI hBr hUr hkr k1r npf kwr
        have hf1 := fieldF
        have hf2 := fieldM
        rcases hexit with ⟨g1, g2⟩ | g1
        all_goals
          go_upto_region 31 with fail
          refine wp_region_keptU wo (by kernel_rfl) (by kernel_rfl) ((Keeps.refl [] wo).drew) ?_
          repeat (go_big_quiet_step (first | (go_at_call 18; exact Calls.keptU HB.out)))
          refine wpQuiet_nil ?_
          rintro _ ⟨⟨w9, hk9⟩, rfl⟩
          have HF := Lib.hid (HW.out.trans hk9)
          clear hk9
          go_wp2_with fail
          go_ret
          exact ⟨rfl, HF.out⟩

theorem shipUploads_law (w : World) (hv : LibVar w) (hX : XorVar w) (v0 : Value) (h0 : O14W w v0) (a1 : Int) (_ : (Lit.int .i64 a1).wf = true) (a2 : Int) (_ : (Lit.int .i64 a2).wf = true) (v3 : Value) (h3 : ∃ zs : List Int, SliceArg 1 (fun n => [Value.int .i64 n]) w v3 zs ∧ ∀ n ∈ zs, -9223372036854775808 ≤ n ∧ n ≤ 9223372036854775807) (v4 : Value) (h4 : ∃ zs : List Int, SliceArg 1 (fun n => [Value.int .i64 n]) w v4 zs ∧ ∀ n ∈ zs, -9223372036854775808 ≤ n ∧ n ≤ 9223372036854775807) :
    Calls Tryz.prog 4 #[v0, .int .i64 a1, .int .i64 a2, v3, v4] w fun e w' => e = .returned (.bool true) ∧ Keeps [] w w' := by
  obtain ⟨L, hL, hb⟩ := h0
  obtain ⟨T, hT, -⟩ := h3
  obtain ⟨F, hF, -⟩ := h4
  exact shipUploads_walk w hv hX v0 L hL hb a1 a2 v3 T hT v4 F hF
end Go.Proofs.YtaebpbkiaihhdaaGreatDoor
