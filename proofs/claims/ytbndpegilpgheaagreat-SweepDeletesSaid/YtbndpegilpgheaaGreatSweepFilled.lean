/-
  The buckets that the statements on sweeping look at (barographlaw22.Filled, Config).
  Filled is asked of a slice that came in, or that was made.
-/
import Derived.Test.YtbndpegilpgheaaGreatSweepFill
import Derived.Test.YtbndpegilpgheaaGreatRegion
namespace Go.Proofs.YtbndpegilpgheaaGreat
open Go Go.RowKit Go.Conc

theorem i64_and31 (n : Int) : bits .and .i64 n 31 = n % 32 := by
  have h3 : (BitVec.ofInt 64 31).toNat = 2 ^ 5 - 1 := by decide
  have key : (BitVec.ofInt 64 n &&& BitVec.ofInt 64 31).toNat = (n % ((2 ^ 64 : Nat) : Int)).toNat % 2 ^ 5 := by
    rw [BitVec.toNat_and, BitVec.toNat_ofInt, h3, Nat.and_two_pow_sub_one_eq_mod]
  show IntKind.i64.wrap ((BitVec.ofInt 64 n &&& BitVec.ofInt 64 31).toNat : Nat) = n % 32
  rw [key, IntKind.wrap_i64]
  omega

theorem i64_and63 (n : Int) : bits .and .i64 n 63 = n % 64 := by
  have h3 : (BitVec.ofInt 64 63).toNat = 2 ^ 6 - 1 := by decide
  have key : (BitVec.ofInt 64 n &&& BitVec.ofInt 64 63).toNat = (n % ((2 ^ 64 : Nat) : Int)).toNat % 2 ^ 6 := by
    rw [BitVec.toNat_and, BitVec.toNat_ofInt, h3, Nat.and_two_pow_sub_one_eq_mod]
  show IntKind.i64.wrap ((BitVec.ofInt 64 n &&& BitVec.ofInt 64 63).toNat : Nat) = n % 64
  rw [key, IntKind.wrap_i64]
  omega


def FilledPost (w : World) (s : Bkt × PartsM) (e : Ending) (w' : World) : Prop :=
  ∃ b f c mb mm, e = .returned (.tuple #[.pointer (some ⟨b, 0, none⟩), .map (some mm)]) ∧ BucketAt w' b f c mb false [] s.1 ∧ MapAt w' mm (encMap encI s.2) ∧ Keeps [] w w' ∧ w.heap.size ≤ b ∧ w.heap.size ≤ f ∧ w.heap.size ≤ c ∧ w.heap.size ≤ mb ∧ (w.heap.size ≤ mm ∧ b < mm ∧ f < mm ∧ c < mm ∧ mb < mm)

def FillRel (w : World) (b f c mb mm : Nat) (L : List OneS) (gk : Nat) (u6 : Value) (wr : World) : Prop :=
  ∃ k, k ≤ L.length ∧ k ≤ 15 ∧ gk = 15 - k ∧ u6 = .int .i64 k ∧ BucketAt wr b f c mb false [] (fillS (L.take k)).1 ∧ MapAt wr mm (encMap encI (fillS (L.take k)).2) ∧ Keeps [] w wr

theorem partN_cells {w : World} {pb : Nat} {t : TypeId} {z : Nat × Nat} (h : w.heap[pb]? = some (.cells #[.string chunksB, .string indexB, .string metaB, .string markB] t z)) {pn : Nat} (hp : pn ≤ 3) : w.cell? ⟨pb, pn, none⟩ = some (.string (partN pn)) := by
  rw [cells_at h]
  rcases pn with _ | _ | _ | _ | pn
  · rfl
  · rfl
  · rfl
  · rfl
  · omega

theorem fill_step_other {s : Bkt × PartsM} {x : OneS} (h : ((partS x).toList == [109, 97, 114, 107]) = false) : fillStep s x = (put s.1 (objectB (idS x) (partS x)) (askB, x.at_ % 32), s.2) := by
  have hne : partS x ≠ markB := fun e => by rw [e, ByteArray.toList_eq] at h; exact absurd h (by decide)
  unfold fillStep dataS marksS
  rw [if_neg (fun hc => hne hc.1), if_neg hne]

theorem part_is_mark {p : ByteArray} (h : (p.toList == [109, 97, 114, 107]) = true) : p = markB := by
  have h1 := eq_of_beq h
  rw [ByteArray.toList_eq] at h1
  exact ba_ext h1

theorem fill_step_wrong {s : Bkt × PartsM} {x : OneS} (h : ((partS x).toList == [109, 97, 114, 107]) = true) (hr : x.right = false) : fillStep s x = (put s.1 (objectB (idS x) (partS x)) (askB, x.at_ % 32), del s.2 (idS x)) := by
  unfold fillStep dataS marksS
  rw [if_neg (fun hc => by rw [hr] at hc; cases hc.2), if_pos (part_is_mark h), if_neg (by rw [hr]; simp)]

theorem fill_step_right {s : Bkt × PartsM} {x : OneS} (h : ((partS x).toList == [109, 97, 114, 107]) = true) (hr : x.right = true) : fillStep s x = (put s.1 (objectB (idS x) (partS x)) (markBytes (idS x) (x.when_ % 32).toNat, x.at_ % 32), put (del s.2 (idS x)) (idS x) (x.when_ % 32)) := by
  unfold fillStep dataS marksS
  rw [if_pos ⟨part_is_mark h, hr⟩, if_pos (part_is_mark h), if_pos hr]


set_option linter.unusedSimpArgs false in
set_option maxRecDepth 100000 in
set_option maxHeartbeats 1000000 in
theorem filled_spec (w : World) (v : Value) (L : List OneS) (hL : SliceArg 6 encOne w v L) : Calls Tryz.prog 14 #[v] w (FilledPost w (fillS (L.take 15))) := by
  obtain ⟨ai, ci, rfl, hil, hic⟩ := hL
  unfold maxLen at hil
  have Hi := Lib.hid hic
  clear hic
  have hmm := @run_makeMap Tryz.prog
  go_enter Tryz.func14, Tryz.ntmps14
  go_wp2_with fail
  refine (newBucket_spec w).mono ?_
  rintro e w1 ⟨b, f, c, mb, rfl, hb1, hk1, l1, l2, l3, l4⟩
  have hlt1 := hb1.lt
  have m2 := mapAt_new w1
  have k2 : Keeps [] w1 (w1.alloc (.map #[] 0)) := (Keeps.refl [] w1).alloc _
  have hb2 := k2.keep_bucket hb1
  have cb := cells_at hb2.cells
  have lb := hb2.lt.1
  have H2 := Lib.hid (And.intro hb2 (And.intro m2 (hk1.trans k2)))
  have hm1 : w.heap.size ≤ w1.heap.size := hk1.size
  clear hb1 hb2 m2 hk1 k2
  go_upto_region 5 with fail
  generalize w1.alloc (.map #[] 0) = W2 at H2 cb lb ⊢
  generalize w1.heap.size = mm at H2 hlt1 hm1 ⊢
  clear hmm cb lb
  go_wp2_with fail
  go_loopg [6] 15 (FillRel w b f c mb mm L)
  case atStart => exact ⟨0, Nat.zero_le _, by decide, rfl, rfl, H2.out.1, H2.out.2.1, H2.out.2.2⟩
  case round =>
    obtain ⟨k, hkl, hk15, hgk, rfl, hb, hm, hkr⟩ := hrel
    have Hg := Lib.hid hgk
    clear hgk H2
    by_cases hlt : k < L.length ∧ k < 15
    · obtain ⟨hlt, hlt15⟩ := hlt
      obtain ⟨b2, of2, rfl, hb2, hc2⟩ := Hi.out k hlt
      have cell : ∀ j, j < 6 → wr.cell? ⟨b2, of2 + (k * 6 + j), none⟩ = (encOne L[k])[j]? := fun j hj => (hkr.cell hb2 (by simp)).trans (hc2 j hj)
      have d0 : wr.cell? ⟨b2, of2 + k * 6, none⟩ = (encOne L[k])[0]? := cell 0 (by omega)
      have d1 : wr.cell? ⟨b2, of2 + k * 6 + 1, none⟩ = (encOne L[k])[1]? := by rw [Nat.add_assoc]; exact cell 1 (by omega)
      have d2 : wr.cell? ⟨b2, of2 + k * 6 + 2, none⟩ = (encOne L[k])[2]? := by rw [Nat.add_assoc]; exact cell 2 (by omega)
      have d3 : wr.cell? ⟨b2, of2 + k * 6 + 3, none⟩ = (encOne L[k])[3]? := by rw [Nat.add_assoc]; exact cell 3 (by omega)
      have d4 : wr.cell? ⟨b2, of2 + k * 6 + 4, none⟩ = (encOne L[k])[4]? := by rw [Nat.add_assoc]; exact cell 4 (by omega)
      have d5 : wr.cell? ⟨b2, of2 + k * 6 + 5, none⟩ = (encOne L[k])[5]? := by rw [Nat.add_assoc]; exact cell 5 (by omega)
      have lb2 := hkr.lt hb2
      have Hnx := Lib.hid (fill_next hlt)
      clear cell hc2
      generalize L[k] = x at d0 d1 d2 d3 d4 d5 Hnx
      generalize fillS (L.take k) = s at hb hm Hnx
      simp only [encOne, List.getElem?_cons_zero, List.getElem?_cons_succ] at d0 d1 d2 d3 d4 d5
      have hlt' : (k : Int) < (L.length : Int) := by omega
      have hlt2 : (k : Int) < 15 := by omega
      have q1 := i64_and3 x.tick
      have q2 := i64_and3 x.seq
      have q3 := i64_and3 x.part
      have q4 := i64_and31 x.when_
      have q5 := i64_and31 x.at_
      obtain ⟨tn, htn, htn3⟩ : ∃ n : Nat, x.tick % 4 = (n : Int) ∧ n ≤ 3 := ⟨(x.tick % 4).toNat, by omega, by omega⟩
      obtain ⟨sn, hsn, hsn3⟩ : ∃ n : Nat, x.seq % 4 = (n : Int) ∧ n ≤ 3 := ⟨(x.seq % 4).toNat, by omega, by omega⟩
      obtain ⟨pn, hpn, hpn3⟩ : ∃ n : Nat, x.part % 4 = (n : Int) ∧ n ≤ 3 := ⟨(x.part % 4).toNat, by omega, by omega⟩
      obtain ⟨wn, hwn, hwn3⟩ : ∃ n : Nat, x.when_ % 32 = (n : Int) ∧ n ≤ 31 := ⟨(x.when_ % 32).toNat, by omega, by omega⟩
      obtain ⟨an, han, han3⟩ : ∃ n : Nat, x.at_ % 32 = (n : Int) ∧ n ≤ 31 := ⟨(x.at_ % 32).toNat, by omega, by omega⟩
      have hidS : idS x = idN tn sn := by unfold idS; rw [htn, hsn]; rfl
      have hpS : partS x = partN pn := by unfold partS; rw [hpn]; rfl
      have e1 := @fill_step_other s x
      have e2 := @fill_step_wrong s x
      have e3 := @fill_step_right s x
      rw [hidS, hpS, han] at e1 e2 e3
      rw [hwn] at e3
      rw [htn] at q1
      rw [hsn] at q2
      rw [hpn] at q3
      rw [hwn] at q4
      rw [han] at q5
      have hidok : isIDB (idN tn sn).data.toList = true := idN_ok (by omega) (by omega)
      have hids := id_size hidok
      have hosz := object_size hidok (partN_mem pn)
      have Hx := Lib.hid (And.intro e1 (And.intro e2 (And.intro e3 (And.intro hidok (And.intro hids hosz)))))
      clear e1 e2 e3 htn hsn hpn hwn han hidS hpS hidok hids hosz
      have Hmk := Lib.hid (fun W => make_spec W tn sn (by omega) (by omega))
      have hfold : (⟨(identL tn sn).toArray⟩ : ByteArray) = idN tn sn := rfl
      rw [hfold] at Hmk
      clear hfold
      have H := Lib.hid (And.intro hb (And.intro hm hkr))
      have hltb := hb.lt
      have hltm := hm.lt
      clear hb hm hkr
      obtain ⟨xt, xs, xp, xa, xw, xr⟩ := x
      simp only at d0 d1 d2 d3 d4 d5 q1 q2 q3 q4 q5
      have ka : Keeps [] wr (wr.alloc (.cells #[.int .i64 xt, .int .i64 xs, .int .i64 xp, .int .i64 xa, .int .i64 xw, .bool xr] 125)) := (Keeps.refl [] wr).alloc _
      have na := heap_new wr (.cells #[.int .i64 xt, .int .i64 xs, .int .i64 xp, .int .i64 xa, .int .i64 xw, .bool xr] 125)
      have Ha := Lib.hid (And.intro na ka)
      clear na ka
      go_upto_region 9 with fail
      clear d0 d1 d2 d3 d4 d5
      generalize wr.alloc (.cells #[.int .i64 xt, .int .i64 xs, .int .i64 xp, .int .i64 xa, .int .i64 xw, .bool xr] 125) = W3 at Ha ⊢
      have hbx : b < wr.heap.size ∧ f < wr.heap.size ∧ c < wr.heap.size ∧ mb < wr.heap.size ∧ mm < wr.heap.size := by omega
      have hwx : w.heap.size ≤ wr.heap.size := H.out.2.2.size
      generalize wr.heap.size = bx at Ha hbx hwx ⊢
      have c3 := cells_at Ha.out.1
      have l3 := lt_of_at Ha.out.1
      go_wp2_with fail
      refine (Hmk.out W3).mono ?_
      rintro e W4 ⟨rfl, hk4⟩
      generalize hid0 : idN tn sn = id at Hx ⊢
      have n4 := hk4.at_ Ha.out.1 (by simp)
      have k04 : Keeps [] wr W4 := Ha.out.2.trans hk4
      have np := heap_new W4 (.cells #[.string chunksB, .string indexB, .string metaB, .string markB] 9)
      have kp : Keeps [] W4 (W4.alloc (.cells #[.string chunksB, .string indexB, .string metaB, .string markB] 9)) := (Keeps.refl [] W4).alloc _
      have dp := partN_cells np hpn3
      have n5 := kp.at_ n4 (by simp)
      have c4 := cells_at n4
      have c5 := cells_at n5
      have l5 := lt_of_at n5
      have lp := lt_of_at np
      have H5 := Lib.hid (And.intro n5 (And.intro (k04.trans kp) hid0))
      clear hk4 n4 k04 np kp c3 l3 hid0 Hmk
      unfold chunksB indexB metaB markB at dp c5 l5 lp
      have hpn4 : (pn : Int) < 4 := by omega
      have hpsz := (part_size (partN_mem pn)).2
      generalize partN pn = pt at Hx dp hpsz
      go_upto_region 12 with fail
      have hb5 := H5.out.2.1.keep_bucket H.out.1
      have hm5 := H.out.2.1.keep H5.out.2.1 (by simp)
      have hk5 := H.out.2.2.trans H5.out.2.1
      have n5 := H5.out.1
      unfold chunksB indexB metaB markB at n5 hb5 hm5 hk5
      have H6 := Lib.hid (And.intro n5 (And.intro hb5 (And.intro hm5 hk5)))
      clear n5 hb5 hm5 hk5 H5 dp lp c4
      generalize W4.alloc _ = W5 at H6 c5 l5 ⊢
      have hmf : mm ∉ [f, c, mb] ∧ bx ∉ [mm] ∧ b ∉ [mm] ∧ f ∉ [mm] ∧ c ∉ [mm] ∧ mb ∉ [mm] := by simp; omega
      cases hpm : (pt.toList == [109, 97, 114, 107]) with
      | false =>
        have Hq := Lib.hid (Hx.out.1 hpm)
        go_upto_region 17 with fail
        have dat : W5.cell? ⟨bx, 3, none⟩ = some (.int .i64 xa) := by rw [cells_at H6.out.1]; rfl
        have lW := lt_of_at H6.out.1
        have hBW : BucketAt W5.drew b f c mb false [] s.1 := ((Keeps.refl [] W5).drew).keep_bucket H6.out.2.1
        have Hput := Lib.hid (put_spec W5.drew b f c mb false [] s.1 hBW (objectB id pt) askB an Hx.out.2.2.2.2.2.2 (by have := Hx.out.2.2.2.2.2.1; omega))
        have hos := Hx.out.2.2.2.2.1
        have HE := Lib.hid (And.intro (H6.out.2.2.1) (H6.out.2.2.2))
        clear hBW
        refine wp_region_held_drew (S := fun w' => w'.cell? ⟨bx, 3, none⟩ = some (.int .i64 xa)) (by kernel_rfl) dat (fun hS => ?_)
        refine wpAnyH_take (i := 0) (v := ?_) rfl (by kernel_rfl) (by kernel_rfl) (by kernel_rfl) (fun _ _ _ h => h) (Or.inl ⟨by rfl, ?_⟩) (by assumption) ?_
        rotate_left
        · intro w' s1; go_simp; (try with_reducible rfl)
        simp only [Act.put, List.getElem_toArray, List.getElem_cons_succ, List.getElem_cons_zero, List.setIfInBounds_toArray, List.set_cons_zero, List.set_cons_succ]
        refine wpAnyH_take (i := 1) (v := ?_) rfl (by kernel_rfl) (by kernel_rfl) (by kernel_rfl) (fun _ _ _ h => h) (Or.inl ⟨by rfl, ?_⟩) (by assumption) ?_
        rotate_left
        · intro w' s1; go_simp; (try with_reducible rfl)
        simp only [Act.put, List.getElem_toArray, List.getElem_cons_succ, List.getElem_cons_zero, List.setIfInBounds_toArray, List.set_cons_zero, List.set_cons_succ]
        refine wpAnyH_take (i := 2) (v := ?_) rfl (by kernel_rfl) (by kernel_rfl) (by kernel_rfl) (fun _ _ _ h => h) (Or.inl ⟨by rfl, ?_⟩) (by assumption) ?_
        rotate_left
        · intro w' s1; go_simp; (try with_reducible rfl)
        simp only [Act.put, List.getElem_toArray, List.getElem_cons_succ, List.getElem_cons_zero, List.setIfInBounds_toArray, List.set_cons_zero, List.set_cons_succ]
        refine wpAnyH_take (i := 4) (v := ?_) rfl (by kernel_rfl) (by kernel_rfl) (by kernel_rfl) (fun _ _ _ h => h) (Or.inl ⟨by rfl, ?_⟩) (by assumption) ?_
        rotate_left
        · intro w' s1; go_simp; (try with_reducible rfl)
        simp only [Act.put, List.getElem_toArray, List.getElem_cons_succ, List.getElem_cons_zero, List.setIfInBounds_toArray, List.set_cons_zero, List.set_cons_succ]
        refine wpAnyH_take (i := 5) (v := ?_) rfl (by kernel_rfl) (by kernel_rfl) (by kernel_rfl) (fun _ _ _ h => h) (Or.inl ⟨by rfl, ?_⟩) (by assumption) ?_
        rotate_left
        · intro w' s1; go_simp; (try with_reducible rfl)
        simp only [Act.put, List.getElem_toArray, List.getElem_cons_succ, List.getElem_cons_zero, List.setIfInBounds_toArray, List.set_cons_zero, List.set_cons_succ]
        refine wpAnyH_take (i := 6) (v := ?_) rfl (by kernel_rfl) (by kernel_rfl) (by kernel_rfl) (fun _ _ _ h => h) (Or.inl ⟨by rfl, ?_⟩) (by assumption) ?_
        rotate_left
        · intro w' s1; go_simp; (try with_reducible rfl)
        simp only [Act.put, List.getElem_toArray, List.getElem_cons_succ, List.getElem_cons_zero, List.setIfInBounds_toArray, List.set_cons_zero, List.set_cons_succ]
        refine wpAnyH_take (i := 7) (v := ?_) rfl (by kernel_rfl) (by kernel_rfl) (by kernel_rfl) (fun _ _ _ h => h) (Or.inl ⟨by rfl, ?_⟩) (by assumption) ?_
        rotate_left
        · intro w' s1; go_simp; (try with_reducible rfl)
        simp only [Act.put, List.getElem_toArray, List.getElem_cons_succ, List.getElem_cons_zero, List.setIfInBounds_toArray, List.set_cons_zero, List.set_cons_succ]
        refine wpAnyH_ready (rs := [3]) (by kernel_rfl) (by simp) ?_
        refine AllReadyH.cons rfl (fun K hK => ?_) AllReadyH.nil
        go_simp
        go_at_call 30
        refine (object_spec _ id pt (by omega) (by omega)).mono ?_
        rintro e W' ⟨rfl, rfl⟩
        go_simp
        refine hK.out _ _ hS (fun hS => ?_)
        clear hK K
        try simp only [Act.put, List.getElem_toArray, List.getElem_cons_succ, List.getElem_cons_zero, List.setIfInBounds_toArray, List.set_cons_zero, List.set_cons_succ]
        refine wpAnyH_ready (rs := [8]) (by kernel_rfl) (by simp) ?_
        refine AllReadyH.cons rfl (fun K hK => ?_) AllReadyH.nil
        go_simp
        go_at_call 29
        refine Hput.out.mono ?_
        rintro e W9 ⟨rfl, hb9', hk9'⟩
        have hb9 : BucketAt W9 b f c mb false [] (put s.1 (objectB id pt) (askB, (an : Int))) := hb9'
        have hk9 : Keeps [f, c, mb] W5 W9 := ((Keeps.refl _ W5).drew).trans hk9'
        have d9 := (hk9.cell lW (by simp; omega)).trans dat
        have HF := Lib.hid (And.intro hb9 hk9)
        clear hb9' hk9' hb9
        go_simp
        refine hK.out _ _ d9 (fun hS => ?_)
        clear hK K hS
        refine wpAnyH_done (by kernel_rfl) ?_ _
        go_wp2_with fail
        go_roundg (15 - (k + 1))
        case measure => have := Hg.out; omega
        case rel =>
          have hfs := Hnx.out.trans (Hq.out)
          exact ⟨k + 1, by omega, by omega, rfl, by go_num, by rw [hfs]; exact HF.out.1, by rw [hfs]; exact HE.out.1.keep HF.out.2 (by have := H.out.1.neF; have := H.out.1.neC; simp; omega), HE.out.2.after HF.out.2 (by simp; omega)⟩
      | true =>
        go_upto_region 14 with (refine wpList_delete_str _ rfl (.tmp 55) (.tmp 56) _ _ 3 rfl Tryz.underlying30 Tryz.underlying9 mm (encMap encI s.2) id (by rfl) (by rfl) H6.out.2.2.1 ?_; intro W6 hm6 hk6; rw [del_enc] at hm6)
        have n6 := hk6.at_ H6.out.1 hmf.2.1
        have hb6 := H6.out.2.1.keep hk6 hmf.2.2.1 hmf.2.2.2.1 hmf.2.2.2.2.1 hmf.2.2.2.2.2
        have hkw6 : Keeps [] w W6 := H6.out.2.2.2.after hk6 (by simp; omega)
        have H7 := Lib.hid (And.intro n6 (And.intro hb6 (And.intro hm6 hkw6)))
        have c6 := cells_at n6
        have l6 := lt_of_at n6
        clear n6 hb6 hm6 hkw6 hk6 c5 l5
        cases xr with
        | false =>
          have Hq := Lib.hid (Hx.out.2.1 hpm rfl)
          go_upto_region 17 with fail
          have dat : W6.cell? ⟨bx, 3, none⟩ = some (.int .i64 xa) := by rw [cells_at H7.out.1]; rfl
          have lW := lt_of_at H7.out.1
          have hBW : BucketAt W6.drew b f c mb false [] s.1 := ((Keeps.refl [] W6).drew).keep_bucket H7.out.2.1
          have Hput := Lib.hid (put_spec W6.drew b f c mb false [] s.1 hBW (objectB id pt) askB an Hx.out.2.2.2.2.2.2 (by have := Hx.out.2.2.2.2.2.1; omega))
          have hos := Hx.out.2.2.2.2.1
          have HE := Lib.hid (And.intro (H7.out.2.2.1) (H7.out.2.2.2))
          clear hBW
          refine wp_region_held_drew (S := fun w' => w'.cell? ⟨bx, 3, none⟩ = some (.int .i64 xa)) (by kernel_rfl) dat (fun hS => ?_)
          refine wpAnyH_take (i := 0) (v := ?_) rfl (by kernel_rfl) (by kernel_rfl) (by kernel_rfl) (fun _ _ _ h => h) (Or.inl ⟨by rfl, ?_⟩) (by assumption) ?_
          rotate_left
          · intro w' s1; go_simp; (try with_reducible rfl)
          simp only [Act.put, List.getElem_toArray, List.getElem_cons_succ, List.getElem_cons_zero, List.setIfInBounds_toArray, List.set_cons_zero, List.set_cons_succ]
          refine wpAnyH_take (i := 1) (v := ?_) rfl (by kernel_rfl) (by kernel_rfl) (by kernel_rfl) (fun _ _ _ h => h) (Or.inl ⟨by rfl, ?_⟩) (by assumption) ?_
          rotate_left
          · intro w' s1; go_simp; (try with_reducible rfl)
          simp only [Act.put, List.getElem_toArray, List.getElem_cons_succ, List.getElem_cons_zero, List.setIfInBounds_toArray, List.set_cons_zero, List.set_cons_succ]
          refine wpAnyH_take (i := 2) (v := ?_) rfl (by kernel_rfl) (by kernel_rfl) (by kernel_rfl) (fun _ _ _ h => h) (Or.inl ⟨by rfl, ?_⟩) (by assumption) ?_
          rotate_left
          · intro w' s1; go_simp; (try with_reducible rfl)
          simp only [Act.put, List.getElem_toArray, List.getElem_cons_succ, List.getElem_cons_zero, List.setIfInBounds_toArray, List.set_cons_zero, List.set_cons_succ]
          refine wpAnyH_take (i := 4) (v := ?_) rfl (by kernel_rfl) (by kernel_rfl) (by kernel_rfl) (fun _ _ _ h => h) (Or.inl ⟨by rfl, ?_⟩) (by assumption) ?_
          rotate_left
          · intro w' s1; go_simp; (try with_reducible rfl)
          simp only [Act.put, List.getElem_toArray, List.getElem_cons_succ, List.getElem_cons_zero, List.setIfInBounds_toArray, List.set_cons_zero, List.set_cons_succ]
          refine wpAnyH_take (i := 5) (v := ?_) rfl (by kernel_rfl) (by kernel_rfl) (by kernel_rfl) (fun _ _ _ h => h) (Or.inl ⟨by rfl, ?_⟩) (by assumption) ?_
          rotate_left
          · intro w' s1; go_simp; (try with_reducible rfl)
          simp only [Act.put, List.getElem_toArray, List.getElem_cons_succ, List.getElem_cons_zero, List.setIfInBounds_toArray, List.set_cons_zero, List.set_cons_succ]
          refine wpAnyH_take (i := 6) (v := ?_) rfl (by kernel_rfl) (by kernel_rfl) (by kernel_rfl) (fun _ _ _ h => h) (Or.inl ⟨by rfl, ?_⟩) (by assumption) ?_
          rotate_left
          · intro w' s1; go_simp; (try with_reducible rfl)
          simp only [Act.put, List.getElem_toArray, List.getElem_cons_succ, List.getElem_cons_zero, List.setIfInBounds_toArray, List.set_cons_zero, List.set_cons_succ]
          refine wpAnyH_take (i := 7) (v := ?_) rfl (by kernel_rfl) (by kernel_rfl) (by kernel_rfl) (fun _ _ _ h => h) (Or.inl ⟨by rfl, ?_⟩) (by assumption) ?_
          rotate_left
          · intro w' s1; go_simp; (try with_reducible rfl)
          simp only [Act.put, List.getElem_toArray, List.getElem_cons_succ, List.getElem_cons_zero, List.setIfInBounds_toArray, List.set_cons_zero, List.set_cons_succ]
          refine wpAnyH_ready (rs := [3]) (by kernel_rfl) (by simp) ?_
          refine AllReadyH.cons rfl (fun K hK => ?_) AllReadyH.nil
          go_simp
          go_at_call 30
          refine (object_spec _ id pt (by omega) (by omega)).mono ?_
          rintro e W' ⟨rfl, rfl⟩
          go_simp
          refine hK.out _ _ hS (fun hS => ?_)
          clear hK K
          try simp only [Act.put, List.getElem_toArray, List.getElem_cons_succ, List.getElem_cons_zero, List.setIfInBounds_toArray, List.set_cons_zero, List.set_cons_succ]
          refine wpAnyH_ready (rs := [8]) (by kernel_rfl) (by simp) ?_
          refine AllReadyH.cons rfl (fun K hK => ?_) AllReadyH.nil
          go_simp
          go_at_call 29
          refine Hput.out.mono ?_
          rintro e W9 ⟨rfl, hb9', hk9'⟩
          have hb9 : BucketAt W9 b f c mb false [] (put s.1 (objectB id pt) (askB, (an : Int))) := hb9'
          have hk9 : Keeps [f, c, mb] W6 W9 := ((Keeps.refl _ W6).drew).trans hk9'
          have d9 := (hk9.cell lW (by simp; omega)).trans dat
          have HF := Lib.hid (And.intro hb9 hk9)
          clear hb9' hk9' hb9
          go_simp
          refine hK.out _ _ d9 (fun hS => ?_)
          clear hK K hS
          refine wpAnyH_done (by kernel_rfl) ?_ _
          go_wp2_with fail
          go_roundg (15 - (k + 1))
          case measure => have := Hg.out; omega
          case rel =>
            have hfs := Hnx.out.trans (Hq.out)
            exact ⟨k + 1, by omega, by omega, rfl, by go_num, by rw [hfs]; exact HF.out.1, by rw [hfs]; exact HE.out.1.keep HF.out.2 (by have := H.out.1.neF; have := H.out.1.neC; simp; omega), HE.out.2.after HF.out.2 (by simp; omega)⟩
        | true =>
          have Hq := Lib.hid (Hx.out.2.2.1 hpm rfl)
          have Hem := Lib.hid (encodeMark_spec W6 id (by have := Hx.out.2.2.2.2.1; omega) (wn : Int) wn (by omega) (by omega))
          have hfold : (⟨(markL id.data.toList wn).toArray⟩ : ByteArray) = markBytes id wn := rfl
          rw [hfold] at Hem
          have hcast : ((wn : Int)).toNat = wn := by omega
          rw [hcast] at Hq
          generalize hmbd : markBytes id wn = md at Hem Hq
          clear hfold hcast hmbd
          go_wp2_with fail
          refine Hem.out.mono ?_
          rintro e W7 ⟨rfl, hk7⟩
          have n7 := hk7.at_ H7.out.1 (by simp)
          have c7 := cells_at n7
          have l7 := lt_of_at n7
          have hm7 := H7.out.2.2.1.keep hk7 (by simp)
          have H8 := Lib.hid (And.intro n7 (And.intro (hk7.keep_bucket H7.out.2.1) (H7.out.2.2.2.trans hk7)))
          clear n7 hk7 c6 l6
          go_upto_region 17 with (refine wpList_update_str _ rfl (.tmp 64) (.tmp 65) (.tmp 68) _ _ _ rfl Tryz.underlying30 Tryz.underlying9 mm (encMap encI (del s.2 id)) id (encI wn) (by rfl) (by rfl) (by rfl) hm7 ?_; intro W8 hm8 hk8; rw [put_enc] at hm8)
          have n8 := hk8.at_ H8.out.1 hmf.2.1
          have hb8 := H8.out.2.1.keep hk8 hmf.2.2.1 hmf.2.2.2.1 hmf.2.2.2.2.1 hmf.2.2.2.2.2
          have hkw8 : Keeps [] w W8 := H8.out.2.2.after hk8 (by simp; omega)
          have H9 := Lib.hid (And.intro n8 (And.intro hb8 (And.intro hm8 hkw8)))
          clear n8 hb8 hm8 hkw8 hk8 c7 l7 hm7
          have dat : W8.cell? ⟨bx, 3, none⟩ = some (.int .i64 xa) := by rw [cells_at H9.out.1]; rfl
          have lW := lt_of_at H9.out.1
          have hBW : BucketAt W8.drew b f c mb false [] s.1 := ((Keeps.refl [] W8).drew).keep_bucket H9.out.2.1
          have Hput := Lib.hid (put_spec W8.drew b f c mb false [] s.1 hBW (objectB id pt) md an Hx.out.2.2.2.2.2.2 (by have := Hx.out.2.2.2.2.2.1; omega))
          have hos := Hx.out.2.2.2.2.1
          have HE := Lib.hid (And.intro (H9.out.2.2.1) (H9.out.2.2.2))
          clear hBW
          refine wp_region_held_drew (S := fun w' => w'.cell? ⟨bx, 3, none⟩ = some (.int .i64 xa)) (by kernel_rfl) dat (fun hS => ?_)
          refine wpAnyH_take (i := 0) (v := ?_) rfl (by kernel_rfl) (by kernel_rfl) (by kernel_rfl) (fun _ _ _ h => h) (Or.inl ⟨by rfl, ?_⟩) (by assumption) ?_
          rotate_left
          · intro w' s1; go_simp; (try with_reducible rfl)
          simp only [Act.put, List.getElem_toArray, List.getElem_cons_succ, List.getElem_cons_zero, List.setIfInBounds_toArray, List.set_cons_zero, List.set_cons_succ]
          refine wpAnyH_take (i := 1) (v := ?_) rfl (by kernel_rfl) (by kernel_rfl) (by kernel_rfl) (fun _ _ _ h => h) (Or.inl ⟨by rfl, ?_⟩) (by assumption) ?_
          rotate_left
          · intro w' s1; go_simp; (try with_reducible rfl)
          simp only [Act.put, List.getElem_toArray, List.getElem_cons_succ, List.getElem_cons_zero, List.setIfInBounds_toArray, List.set_cons_zero, List.set_cons_succ]
          refine wpAnyH_take (i := 2) (v := ?_) rfl (by kernel_rfl) (by kernel_rfl) (by kernel_rfl) (fun _ _ _ h => h) (Or.inl ⟨by rfl, ?_⟩) (by assumption) ?_
          rotate_left
          · intro w' s1; go_simp; (try with_reducible rfl)
          simp only [Act.put, List.getElem_toArray, List.getElem_cons_succ, List.getElem_cons_zero, List.setIfInBounds_toArray, List.set_cons_zero, List.set_cons_succ]
          refine wpAnyH_take (i := 4) (v := ?_) rfl (by kernel_rfl) (by kernel_rfl) (by kernel_rfl) (fun _ _ _ h => h) (Or.inl ⟨by rfl, ?_⟩) (by assumption) ?_
          rotate_left
          · intro w' s1; go_simp; (try with_reducible rfl)
          simp only [Act.put, List.getElem_toArray, List.getElem_cons_succ, List.getElem_cons_zero, List.setIfInBounds_toArray, List.set_cons_zero, List.set_cons_succ]
          refine wpAnyH_take (i := 5) (v := ?_) rfl (by kernel_rfl) (by kernel_rfl) (by kernel_rfl) (fun _ _ _ h => h) (Or.inl ⟨by rfl, ?_⟩) (by assumption) ?_
          rotate_left
          · intro w' s1; go_simp; (try with_reducible rfl)
          simp only [Act.put, List.getElem_toArray, List.getElem_cons_succ, List.getElem_cons_zero, List.setIfInBounds_toArray, List.set_cons_zero, List.set_cons_succ]
          refine wpAnyH_take (i := 6) (v := ?_) rfl (by kernel_rfl) (by kernel_rfl) (by kernel_rfl) (fun _ _ _ h => h) (Or.inl ⟨by rfl, ?_⟩) (by assumption) ?_
          rotate_left
          · intro w' s1; go_simp; (try with_reducible rfl)
          simp only [Act.put, List.getElem_toArray, List.getElem_cons_succ, List.getElem_cons_zero, List.setIfInBounds_toArray, List.set_cons_zero, List.set_cons_succ]
          refine wpAnyH_take (i := 7) (v := ?_) rfl (by kernel_rfl) (by kernel_rfl) (by kernel_rfl) (fun _ _ _ h => h) (Or.inl ⟨by rfl, ?_⟩) (by assumption) ?_
          rotate_left
          · intro w' s1; go_simp; (try with_reducible rfl)
          simp only [Act.put, List.getElem_toArray, List.getElem_cons_succ, List.getElem_cons_zero, List.setIfInBounds_toArray, List.set_cons_zero, List.set_cons_succ]
          refine wpAnyH_ready (rs := [3]) (by kernel_rfl) (by simp) ?_
          refine AllReadyH.cons rfl (fun K hK => ?_) AllReadyH.nil
          go_simp
          go_at_call 30
          refine (object_spec _ id pt (by omega) (by omega)).mono ?_
          rintro e W' ⟨rfl, rfl⟩
          go_simp
          refine hK.out _ _ hS (fun hS => ?_)
          clear hK K
          try simp only [Act.put, List.getElem_toArray, List.getElem_cons_succ, List.getElem_cons_zero, List.setIfInBounds_toArray, List.set_cons_zero, List.set_cons_succ]
          refine wpAnyH_ready (rs := [8]) (by kernel_rfl) (by simp) ?_
          refine AllReadyH.cons rfl (fun K hK => ?_) AllReadyH.nil
          go_simp
          go_at_call 29
          refine Hput.out.mono ?_
          rintro e W9 ⟨rfl, hb9', hk9'⟩
          have hb9 : BucketAt W9 b f c mb false [] (put s.1 (objectB id pt) (md, (an : Int))) := hb9'
          have hk9 : Keeps [f, c, mb] W8 W9 := ((Keeps.refl _ W8).drew).trans hk9'
          have d9 := (hk9.cell lW (by simp; omega)).trans dat
          have HF := Lib.hid (And.intro hb9 hk9)
          clear hb9' hk9' hb9
          go_simp
          refine hK.out _ _ d9 (fun hS => ?_)
          clear hK K hS
          refine wpAnyH_done (by kernel_rfl) ?_ _
          go_wp2_with fail
          go_roundg (15 - (k + 1))
          case measure => have := Hg.out; omega
          case rel =>
            have hfs := Hnx.out.trans (Hq.out)
            exact ⟨k + 1, by omega, by omega, rfl, by go_num, by rw [hfs]; exact HF.out.1, by rw [hfs]; exact HE.out.1.keep HF.out.2 (by have := H.out.1.neF; have := H.out.1.neC; simp; omega), HE.out.2.after HF.out.2 (by simp; omega)⟩
    · have hend : L.take k = L.take 15 := by
        by_cases h15 : k = 15
        · rw [h15]
        · have : k = L.length := by omega
          rw [this, List.take_length, List.take_of_length_le (by omega)]
      have H := Lib.hid (And.intro hb (And.intro hm hkr))
      clear hb hm hkr
      have hcase : (¬ k < L.length) ∨ (k < L.length ∧ k = 15) := by omega
      rcases hcase with h1 | ⟨h1, rfl⟩
      · have h2 : k = L.length := by omega
        have h3 : decide ((k : Int) < (L.length : Int)) = false := by rw [decide_eq_false_iff_not]; omega
        have h4 : ¬ ((k : Int) < (L.length : Int)) := by omega
        clear h2
        go_wp2_with fail
        go_ret2
        exact ⟨b, f, c, mb, mm, rfl, by rw [← hend]; exact H.out.1, by rw [← hend]; exact H.out.2.1, H.out.2.2, l1, l2, l3, l4, hm1, hlt1⟩
      · go_wp2_with fail
        go_ret2
        exact ⟨b, f, c, mb, mm, rfl, H.out.1, H.out.2.1, H.out.2.2, l1, l2, l3, l4, hm1, hlt1⟩
end Go.Proofs.YtbndpegilpgheaaGreat
