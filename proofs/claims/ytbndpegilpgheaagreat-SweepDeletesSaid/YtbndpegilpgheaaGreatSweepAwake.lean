/-
  The answers that the document fixes for layer 22 (barographlaw22.awake): true.
  The library's variable is laid.
-/
import Derived.Test.YtbndpegilpgheaaGreatSweepRoundW
import Derived.Test.YtbndpegilpgheaaGreatSweepFilled
namespace Go.Proofs.YtbndpegilpgheaaGreat
open Go Go.RowKit Go.Conc

def oneA : OneS := ⟨0, 0, 2, 1, 0, false⟩

def oneB : OneS := ⟨0, 0, 3, 3, 3, true⟩

def awL : List OneS := [oneA, oneB]

def idZ : ByteArray := idN 0 0

def awO : Bkt := (fillS awL).1

theorem idZ_ok : isIDB idZ.data.toList = true := idN_ok (by decide) (by decide)

theorem awO_eq : awO = [(objectB idZ metaB, (askB, 1)), (objectB idZ markB, (markBytes idZ 3, 3))] := by
  have e1 : partS oneA = metaB := rfl
  have e2 : partS oneB = markB := rfl
  have e3 : idS oneA = idZ := rfl
  have e4 : idS oneB = idZ := rfl
  have hne : objectB idZ markB ≠ objectB idZ metaB := fun e => by
    have := (object_inj idZ_ok mark_part idZ_ok (by simp [partsB] : metaB ∈ partsB) e).2
    exact absurd this (by decide)
  have d1 : dataS oneA = askB := by unfold dataS; rw [e1, if_neg (by rintro ⟨h, _⟩; exact absurd h (by decide))]
  have d2 : dataS oneB = markBytes idZ 3 := by unfold dataS; rw [e2, e4, if_pos ⟨rfl, rfl⟩]; rfl
  show (put (put [] (objectB (idS oneA) (partS oneA)) (dataS oneA, oneA.at_ % 32)) (objectB (idS oneB) (partS oneB)) (dataS oneB, oneB.at_ % 32)) = _
  rw [e1, e2, e3, e4, d1, d2]
  simp only [put, if_neg hne]
  rfl

theorem aw_parted : Parted awO 2 := by
  have := (fillInv awL 2 (by decide)).parted
  exact this

theorem aw_keys {n : ByteArray} : n ∈ awO.map (·.1) ↔ n = objectB idZ metaB ∨ n = objectB idZ markB := by
  rw [awO_eq]
  simp

theorem aw_vict {now : Int} {n : ByteArray} : n ∈ victimsL 5 100 now (listing awO ⟨#[]⟩) (look [(idZ, (3 : Int))]) ↔ 5 < now - 3 ∧ (n = objectB idZ metaB ∨ n = objectB idZ markB) := by
  rw [mem_victims (listing_nodup aw_parted.nodup)]
  constructor
  · rintro ⟨id, part, h1, h2, rfl, h4, h5⟩
    rw [listing_look aw_parted.nodup] at h4
    have hm := aw_keys.1 (mem_of_isSome h4)
    have hid : id = idZ := by
      rcases hm with e | e
      · exact (object_inj h1 h2 idZ_ok (by simp [partsB]) e).1
      · exact (object_inj h1 h2 idZ_ok mark_part e).1
    subst hid
    simp only [look, if_true, goesB, decide_eq_true_eq] at h5
    exact ⟨h5, hm⟩
  · rintro ⟨h1, h2⟩
    have hl : (look (listing awO ⟨#[]⟩) n).isSome = true := by
      rw [listing_look aw_parted.nodup]
      exact isSome_of_mem (aw_keys.2 h2)
    have hg : goesB 5 100 now (blkOf (listing awO ⟨#[]⟩) idZ) (look [(idZ, (3 : Int))] idZ) = true := by
      simp only [look, if_true, goesB, decide_eq_true_eq]
      exact h1
    rcases h2 with e | e
    · exact ⟨idZ, metaB, idZ_ok, by simp [partsB], e, hl, hg⟩
    · exact ⟨idZ, markB, idZ_ok, mark_part, e, hl, hg⟩

theorem aw8 : victimsL 5 100 8 (listing awO ⟨#[]⟩) (look [(idZ, (3 : Int))]) = [] := by
  rw [List.eq_nil_iff_forall_not_mem]
  intro n hn
  have := (aw_vict.1 hn).1
  omega

theorem aw9 : victimsL 5 100 9 (listing awO ⟨#[]⟩) (look [(idZ, (3 : Int))]) = [objectB idZ metaB, objectB idZ markB] := by
  have hnd := victims_nodup (d := 5) (g := 100) (now := 9) (mk := look [(idZ, (3 : Int))]) (listing_nodup aw_parted.nodup)
  have hord := victims_order (d := 5) (g := 100) (now := 9) (mk := look [(idZ, (3 : Int))]) (listing_nodup aw_parted.nodup)
  have hmem : ∀ n, n ∈ victimsL 5 100 9 (listing awO ⟨#[]⟩) (look [(idZ, (3 : Int))]) ↔ (n = objectB idZ metaB ∨ n = objectB idZ markB) := fun n => by rw [aw_vict]; exact ⟨fun h => h.2, fun h => ⟨by decide, h⟩⟩
  have hne : objectB idZ metaB ≠ objectB idZ markB := fun e => absurd (object_inj idZ_ok (by simp [partsB] : metaB ∈ partsB) idZ_ok mark_part e).2 (by decide)
  generalize victimsL 5 100 9 (listing awO ⟨#[]⟩) (look [(idZ, (3 : Int))]) = V at hnd hord hmem
  match V, hnd, hord, hmem with
  | [], _, _, hmem => exact absurd ((hmem _).2 (.inl rfl)) (by simp)
  | [x], _, _, hmem =>
    have h1 := (hmem _).2 (.inl rfl)
    have h2 := (hmem _).2 (.inr rfl)
    simp only [List.mem_singleton] at h1 h2
    exact absurd (h1.trans h2.symm) hne
  | [x, y], hnd, hord, hmem =>
    have hx := (hmem x).1 (by simp)
    have hy := (hmem y).1 (by simp)
    simp only [List.nodup_cons, List.mem_singleton] at hnd
    rcases hx with rfl | rfl <;> rcases hy with rfl | rfl
    · exact absurd rfl hnd.1
    · rfl
    · simp only [List.pairwise_cons, List.mem_singleton] at hord
      have := hord.1 _ rfl idZ markB metaB idZ_ok mark_part (by simp [partsB]) rfl rfl
      exact absurd this (by decide)
    · exact absurd rfl hnd.1
  | x :: y :: z :: V, hnd, _, hmem =>
    have hx := (hmem x).1 (by simp)
    have hy := (hmem y).1 (by simp)
    have hz := (hmem z).1 (by simp)
    simp only [List.nodup_cons, List.mem_cons, not_or] at hnd
    obtain ⟨⟨h1, h2, _⟩, ⟨h3, _⟩, _⟩ := hnd
    rcases hx with rfl | rfl <;> rcases hy with rfl | rfl <;> rcases hz with rfl | rfl <;> simp_all


def AwCut (w5 : World) (u8 u9 : Value) (wc : World) : Prop :=
  (∃ a c, u8 = .slice a 0 c) ∧ SliceFrom w5.heap.size 1 encS1 wc u9 [objectB idZ metaB, objectB idZ markB] ∧ Keeps [] w5 wc

theorem step_makeMap {P : Program} {o : Oper} {a : Act} {w : World} {K : Act → World → Prop} {Q : Exit → Act → World → Prop} {E : Prop} {ops : Nat → Option Bool} {t : TypeId} (hg : o.guard = none) (hop : o.op = Op.makeMap t none)
    (hK : K (a.put o.dst (.map (some w.heap.size))) (w.alloc (.map #[] 0))) : if Region.wanted o ops = true then Oper.wp P o a w K Q else E := by
  simp only [Region.wanted, hg, if_true]
  unfold Oper.wp
  simp [execOp, hop, run_makeMap, Result.andThen]
  exact hK

theorem step_insert {P : Program} {o : Oper} {a : Act} {w : World} {K : Act → World → Prop} {Q : Exit → Act → World → Prop} {E : Prop} {ops : Nat → Option Bool} {kt et : TypeId} (hg : o.guard = none) (m x v : Operand) (t : TypeId) (hop : o.op = Op.insert t m x v) (ht : P.underlying t = some (.map kt et)) (hk : P.underlying kt = some .string)
    (b : Nat) (M : KV) (key : ByteArray) (val : Value) (hm : a.eval m = .map (some b)) (hx : a.eval x = .string key) (hv : a.eval v = val) (h : MapAt w b M)
    (hK : ∀ w', MapAt w' b (put M key val) → Keeps [b] w w' → K (a.put o.dst undef) w') : if Region.wanted o ops = true then Oper.wp P o a w K Q else E := by
  obtain ⟨ob, hrun, r1⟩ := h.run_update ht hk key val
  simp only [Region.wanted, hg, if_true]
  unfold Oper.wp
  simp [execOp, hop, hm, hx, hv, hrun, Result.andThen]
  exact hK _ r1 (keeps_setIf ob)


theorem slice_awL (w : World) : SliceArg 6 encOne (w.alloc (.cells #[.int .i64 0, .int .i64 0, .int .i64 2, .int .i64 1, .int .i64 0, .bool false, .int .i64 0, .int .i64 0, .int .i64 3, .int .i64 3, .int .i64 3, .bool true] 125)) (.slice (some ⟨w.heap.size, 0, none⟩) 2 2) awL := by
  have n := heap_new w (.cells #[.int .i64 0, .int .i64 0, .int .i64 2, .int .i64 1, .int .i64 0, .bool false, .int .i64 0, .int .i64 0, .int .i64 3, .int .i64 3, .int .i64 3, .bool true] 125)
  refine ⟨_, 2, rfl, by simp [awL, maxLen], fun i hi => ⟨w.heap.size, 0, rfl, lt_of_at n, fun j hj => ?_⟩⟩
  rw [cells_at n]
  simp only [awL, List.length_cons, List.length_nil] at hi
  rcases i with _ | _ | i
  · rcases j with _ | _ | _ | _ | _ | _ | j <;> first | rfl | omega
  · rcases j with _ | _ | _ | _ | _ | _ | j <;> first | rfl | omega
  · omega


set_option linter.unusedSimpArgs false in
set_option maxRecDepth 100000 in
set_option maxHeartbeats 1000000 in
theorem awake22_spec (w : World) (hv : LibVar w) : Calls Tryz.prog 13 #[] w fun e w' => e = .returned (.bool true) ∧ Keeps [] w w' := by
  have hsl := slice_awL w
  have hkA : Keeps [] w (w.alloc (.cells #[.int .i64 0, .int .i64 0, .int .i64 2, .int .i64 1, .int .i64 0, .bool false, .int .i64 0, .int .i64 0, .int .i64 3, .int .i64 3, .int .i64 3, .bool true] 125)) := (Keeps.refl [] w).alloc _
  have Hf := Lib.hid (filled_spec _ _ awL hsl)
  have HA := Lib.hid (And.intro hkA hv)
  have Hmk := Lib.hid (fun W => make_spec W 0 0 (by decide) (by decide))
  rw [show (⟨(identL 0 0).toArray⟩ : ByteArray) = idZ from rfl] at Hmk
  have Hids := Lib.hid (id_size idZ_ok)
  have hids : idZ.size ≤ 16 := by rw [Hids.out]; omega
  clear hsl hkA hv
  go_enter Tryz.func13, Tryz.ntmps13
  go_wp2_with fail
  refine Hf.out.mono ?_
  rintro e w1 ⟨b, f, c, mb, mm, rfl, hb1, hm1, hk1, l1, l2, l3, l4, l5⟩
  have hb1' : BucketAt w1 b f c mb false [] awO := hb1
  have hk01 := HA.out.1.trans hk1
  have n2 := heap_new w1 (.cells #[.int .i64 5, .int .i64 100, .int .i64 9] 50)
  have k2 : Keeps [] w1 (w1.alloc (.cells #[.int .i64 5, .int .i64 100, .int .i64 9] 50)) := (Keeps.refl [] w1).alloc _
  have hb2 := k2.keep_bucket hb1'
  have Hl := Lib.hid (look_spec _ b f c mb false [] awO hb2 ⟨#[]⟩ (fun p hp => by have := aw_parted.key p hp; unfold maxLen; omega) (fun n => by have := aw_parted.data n; omega) (by have := aw_parted.len; omega))
  have H2 := Lib.hid (And.intro n2 (And.intro (hk01.trans k2) hb2))
  have hlt := hb1'.lt
  have hw1 : w.heap.size ≤ w1.heap.size := hk01.size
  have l1' : w.heap.size ≤ b ∧ w.heap.size ≤ f ∧ w.heap.size ≤ c ∧ w.heap.size ≤ mb := by simp at l1 l2 l3 l4; omega
  clear hb1 hb1' hm1 hk1 hk01 n2 k2 hb2 l1 l2 l3 l4 l5 Hf
  go_wp2_with fail
  refine Hl.out.mono ?_
  rintro e w3 ⟨v4, rfl, hrow3, hk3⟩
  have hs3 : SliceFrom (w1.heap.size + 1) 3 infoOf w3 v4 (listing awO ⟨#[]⟩) := sliceFrom_row (e := 128) (fun _ => rfl) (by simpa using hrow3)
  have n3 := hk3.at_ H2.out.1 (by simp)
  have H3 := Lib.hid (And.intro n3 (And.intro (H2.out.2.1.trans hk3) (And.intro (hk3.keep_bucket H2.out.2.2) hs3)))
  clear hrow3 hk3 hs3 n3
  go_wp2_with fail
  refine (Hmk.out w3).mono ?_
  rintro e w4 ⟨rfl, hk4⟩
  have n4 := hk4.at_ H3.out.1 (by simp)
  have c4 := cells_at n4
  have l4 := lt_of_at n4
  have H4 := Lib.hid (And.intro n4 (And.intro (H3.out.2.1.trans hk4) (And.intro (hk4.keep_bucket H3.out.2.2.1) (H3.out.2.2.2.keep hk4 (by simp)))))
  have Hn := Lib.hid (sweepNew_spec w4 (5, 100, 9))
  clear n4 hk4
  go_wp2_with fail
  refine Hn.out.mono ?_
  rintro e w5 ⟨p, q, gb, rfl, hz5, hk5⟩
  have n5 := hk5.at_ H4.out.1 (by simp)
  have H5 := Lib.hid (And.intro n5 (And.intro (H4.out.2.1.trans hk5) (And.intro (hk5.keep_bucket H4.out.2.2.1) (And.intro (H4.out.2.2.2.keep hk5 (by simp)) hz5))))
  have c5 := cells_at n5
  have l5 := lt_of_at n5
  clear n5 hk5 hz5 c4 l4
  go_upto_region 10 with fail
  have hvic : ∀ (W : World) (now : Int) (m : Nat), Keeps [] w5 W → MapAt W m (encMap encI (put [] idZ 3)) → (0 ≤ now ∧ now ≤ 100) →
      Calls Tryz.prog 17 #[.agg #[.int .i64 5, .int .i64 100, .int .i64 9], .int .i64 now, v4, .map (some m)] W (VictPost W (victimsL 5 100 now (listing awO ⟨#[]⟩) (look [(idZ, (3 : Int))]))) := by
    intro W now m hk hm hn
    exact victims_spec W 5 100 9 now v4 (listing awO ⟨#[]⟩) m [(idZ, 3)] ((H5.out.2.2.2.1.keep hk (by simp)).arg) hm ((HA.out.2.same H5.out.2.1).same hk) (fun x hx => by
      have hx := listing_of hx
      have h1 := aw_parted.key x hx
      have h2 := aw_parted.obj x hx
      omega) (by rw [listing_len]; have := aw_parted.len; omega) (fun id t h => by
      simp only [look] at h
      split at h
      · injection h with h; omega
      · cases h) (by omega) (listing_nodup aw_parted.nodup)
  have e0 : w5.cell? ⟨w1.heap.size, 0, none⟩ = some (.int .i64 5) := by rw [c5]; rfl
  have e1 : w5.cell? ⟨w1.heap.size, 1, none⟩ = some (.int .i64 100) := by rw [c5]; rfl
  have e2 : w5.cell? ⟨w1.heap.size, 2, none⟩ = some (.int .i64 9) := by rw [c5]; rfl
  generalize w1.heap.size = cb at *
  go_cut [8, 9] from 30 to 41 (AwCut w5)
  case first =>
    have kA0 : Keeps [] w5 w5.drew := (Keeps.refl [] w5).drew
    refine wp_region_held_drew (S := fun w' => w'.cell? ⟨cb, 0, none⟩ = some (.int .i64 5) ∧ w'.cell? ⟨cb, 1, none⟩ = some (.int .i64 100) ∧ w'.cell? ⟨cb, 2, none⟩ = some (.int .i64 9)) (by kernel_rfl) ⟨e0, e1, e2⟩ (fun hS => ?_)
    generalize w5.drew = A0 at *
    refine wpAnyH_take (i := 0) (v := ?_) rfl (by kernel_rfl) (by kernel_rfl) (by kernel_rfl) (fun _ _ _ h => h) (Or.inl ⟨by rfl, ?_⟩) (by assumption) ?_
    rotate_left
    · intro w' hSw; obtain ⟨s1, s2, s3⟩ := hSw; go_simp; (try with_reducible rfl)
    simp only [Act.put, List.getElem_toArray, List.getElem_cons_succ, List.getElem_cons_zero, List.setIfInBounds_toArray, List.set_cons_zero, List.set_cons_succ]
    refine wpAnyH_take (i := 1) (v := ?_) rfl (by kernel_rfl) (by kernel_rfl) (by kernel_rfl) (fun _ _ _ h => h) (Or.inl ⟨by rfl, ?_⟩) (by assumption) ?_
    rotate_left
    · intro w' hSw; obtain ⟨s1, s2, s3⟩ := hSw; go_simp; (try with_reducible rfl)
    simp only [Act.put, List.getElem_toArray, List.getElem_cons_succ, List.getElem_cons_zero, List.setIfInBounds_toArray, List.set_cons_zero, List.set_cons_succ]
    refine wpAnyH_take (i := 3) (v := ?_) rfl (by kernel_rfl) (by kernel_rfl) (by kernel_rfl) (fun _ _ _ h => h) (Or.inl ⟨by rfl, ?_⟩) (by assumption) ?_
    rotate_left
    · intro w' hSw; obtain ⟨s1, s2, s3⟩ := hSw; go_simp; (try with_reducible rfl)
    simp only [Act.put, List.getElem_toArray, List.getElem_cons_succ, List.getElem_cons_zero, List.setIfInBounds_toArray, List.set_cons_zero, List.set_cons_succ]
    refine wpAnyH_take (i := 7) (v := ?_) rfl (by kernel_rfl) (by kernel_rfl) (by kernel_rfl) (fun _ _ _ h => h) (Or.inl ⟨by rfl, ?_⟩) (by assumption) ?_
    rotate_left
    · intro w' hSw; obtain ⟨s1, s2, s3⟩ := hSw; go_simp; (try with_reducible rfl)
    simp only [Act.put, List.getElem_toArray, List.getElem_cons_succ, List.getElem_cons_zero, List.setIfInBounds_toArray, List.set_cons_zero, List.set_cons_succ]
    refine wpAnyH_take (i := 8) (v := ?_) rfl (by kernel_rfl) (by kernel_rfl) (by kernel_rfl) (fun _ _ _ h => h) (Or.inl ⟨by rfl, ?_⟩) (by assumption) ?_
    rotate_left
    · intro w' hSw; obtain ⟨s1, s2, s3⟩ := hSw; go_simp; (try with_reducible rfl)
    simp only [Act.put, List.getElem_toArray, List.getElem_cons_succ, List.getElem_cons_zero, List.setIfInBounds_toArray, List.set_cons_zero, List.set_cons_succ]
    refine wpAnyH_take (i := 10) (v := ?_) rfl (by kernel_rfl) (by kernel_rfl) (by kernel_rfl) (fun _ _ _ h => h) (Or.inl ⟨by rfl, ?_⟩) (by assumption) ?_
    rotate_left
    · intro w' hSw; obtain ⟨s1, s2, s3⟩ := hSw; go_simp; (try with_reducible rfl)
    simp only [Act.put, List.getElem_toArray, List.getElem_cons_succ, List.getElem_cons_zero, List.setIfInBounds_toArray, List.set_cons_zero, List.set_cons_succ]
    --REGION
    refine wpAnyH_ready (rs := [2, 9]) (by kernel_rfl) (by simp) ?_
    refine AllReadyH.cons rfl (fun K hK => ?_) ?_
    · refine step_makeMap rfl rfl ?_
      have kA1 : Keeps [] w5 (A0.alloc (.map #[] 0)) := kA0.alloc _
      have hm1 := mapAt_new A0
      have lm1 : w5.heap.size ≤ A0.heap.size := kA0.size
      generalize hgm : A0.heap.size = m1 at hm1 lm1 ⊢
      clear hgm
      generalize A0.alloc (.map #[] 0) = A1 at *
      refine hK.out _ _ ⟨(kA1.cell l5 (by simp)).trans e0, (kA1.cell l5 (by simp)).trans e1, (kA1.cell l5 (by simp)).trans e2⟩ (fun hS => ?_)
      clear hK K
      try simp only [Act.put, List.getElem_toArray, List.getElem_cons_succ, List.getElem_cons_zero, List.setIfInBounds_toArray, List.set_cons_zero, List.set_cons_succ]
      refine wpAnyH_ready (rs := [4, 9]) (by kernel_rfl) (by simp) ?_
      refine AllReadyH.cons rfl (fun K hK => ?_) ?_
      · refine step_insert rfl (.tmp 32) (.tmp 33) (.const (.int .i64 3)) 30 rfl Tryz.underlying30 Tryz.underlying9 m1 (encMap encI []) idZ (encI 3) rfl rfl rfl hm1 ?_
        intro A2 hn1 hkk
        rw [put_enc] at hn1
        have kA2 : Keeps [] w5 A2 := kA1.after hkk (fun y hy => .inr (by simp only [List.mem_singleton] at hy; omega))
        replace hm1 := hn1
        clear hn1 hkk
        refine hK.out _ _ ⟨(kA2.cell l5 (by simp)).trans e0, (kA2.cell l5 (by simp)).trans e1, (kA2.cell l5 (by simp)).trans e2⟩ (fun hS => ?_)
        clear hK K
        try simp only [Act.put, List.getElem_toArray, List.getElem_cons_succ, List.getElem_cons_zero, List.setIfInBounds_toArray, List.set_cons_zero, List.set_cons_succ]
        refine wpAnyH_take (i := 5) (v := ?_) rfl (by kernel_rfl) (by kernel_rfl) (by kernel_rfl) (fun _ _ _ h => h) (Or.inl ⟨by rfl, ?_⟩) (by assumption) ?_
        rotate_left
        · intro w' hSw; obtain ⟨s1, s2, s3⟩ := hSw; go_simp; (try with_reducible rfl)
        simp only [Act.put, List.getElem_toArray, List.getElem_cons_succ, List.getElem_cons_zero, List.setIfInBounds_toArray, List.set_cons_zero, List.set_cons_succ]
        refine wpAnyH_ready (rs := [6, 9]) (by kernel_rfl) (by simp) ?_
        refine AllReadyH.cons rfl (fun K hK => ?_) ?_
        · go_simp
          go_at_call 17
          refine (hvic A2 8 m1 kA2 hm1 (by decide)).mono ?_
          rintro e A3 ⟨v6, rfl, hs6, hk6⟩
          rw [aw8] at hs6
          obtain ⟨a6, q6, rfl, x61, x62, x63, -⟩ := hs6
          have kA3 : Keeps [] w5 A3 := kA2.trans hk6
          go_simp
          refine hK.out _ _ ⟨(kA3.cell l5 (by simp)).trans e0, (kA3.cell l5 (by simp)).trans e1, (kA3.cell l5 (by simp)).trans e2⟩ (fun hS => ?_)
          clear hK K
          try simp only [Act.put, List.getElem_toArray, List.getElem_cons_succ, List.getElem_cons_zero, List.setIfInBounds_toArray, List.set_cons_zero, List.set_cons_succ]
          refine wpAnyH_ready (rs := [9]) (by kernel_rfl) (by simp) ?_
          refine AllReadyH.cons rfl (fun K hK => ?_) AllReadyH.nil
          refine step_makeMap rfl rfl ?_
          have kA4 : Keeps [] w5 (A3.alloc (.map #[] 0)) := kA3.alloc _
          have hm2 := mapAt_new A3
          have lm2 : w5.heap.size ≤ A3.heap.size := kA3.size
          have hne12 := hm1.lt
          generalize hgm : A3.heap.size = m2 at hm2 lm2 hne12 ⊢
          clear hgm
          generalize A3.alloc (.map #[] 0) = A4 at *
          refine hK.out _ _ ⟨(kA4.cell l5 (by simp)).trans e0, (kA4.cell l5 (by simp)).trans e1, (kA4.cell l5 (by simp)).trans e2⟩ (fun hS => ?_)
          clear hK K
          try simp only [Act.put, List.getElem_toArray, List.getElem_cons_succ, List.getElem_cons_zero, List.setIfInBounds_toArray, List.set_cons_zero, List.set_cons_succ]
          refine wpAnyH_ready (rs := [11]) (by kernel_rfl) (by simp) ?_
          refine AllReadyH.cons rfl (fun K hK => ?_) AllReadyH.nil
          refine step_insert rfl (.tmp 38) (.tmp 39) (.const (.int .i64 3)) 30 rfl Tryz.underlying30 Tryz.underlying9 m2 (encMap encI []) idZ (encI 3) rfl rfl rfl hm2 ?_
          intro A5 hn2 hkk
          rw [put_enc] at hn2
          have kA5 : Keeps [] w5 A5 := kA4.after hkk (fun y hy => .inr (by simp only [List.mem_singleton] at hy; omega))
          replace hm2 := hn2
          clear hn2 hkk
          refine hK.out _ _ ⟨(kA5.cell l5 (by simp)).trans e0, (kA5.cell l5 (by simp)).trans e1, (kA5.cell l5 (by simp)).trans e2⟩ (fun hS => ?_)
          clear hK K
          try simp only [Act.put, List.getElem_toArray, List.getElem_cons_succ, List.getElem_cons_zero, List.setIfInBounds_toArray, List.set_cons_zero, List.set_cons_succ]
          refine wpAnyH_take (i := 12) (v := ?_) rfl (by kernel_rfl) (by kernel_rfl) (by kernel_rfl) (fun _ _ _ h => h) (Or.inl ⟨by rfl, ?_⟩) (by assumption) ?_
          rotate_left
          · intro w' hSw; obtain ⟨s1, s2, s3⟩ := hSw; go_simp; (try with_reducible rfl)
          simp only [Act.put, List.getElem_toArray, List.getElem_cons_succ, List.getElem_cons_zero, List.setIfInBounds_toArray, List.set_cons_zero, List.set_cons_succ]
          refine wpAnyH_ready (rs := [13]) (by kernel_rfl) (by simp) ?_
          refine AllReadyH.cons rfl (fun K hK => ?_) AllReadyH.nil
          go_simp
          go_at_call 17
          refine (hvic A5 9 m2 kA5 hm2 (by decide)).mono ?_
          rintro e A6 ⟨v13, rfl, hs13, hk13⟩
          rw [aw9] at hs13
          have kA6 : Keeps [] w5 A6 := kA5.trans hk13
          go_simp
          refine hK.out _ _ ⟨(kA6.cell l5 (by simp)).trans e0, (kA6.cell l5 (by simp)).trans e1, (kA6.cell l5 (by simp)).trans e2⟩ (fun hS => ?_)
          clear hK K
          try simp only [Act.put, List.getElem_toArray, List.getElem_cons_succ, List.getElem_cons_zero, List.setIfInBounds_toArray, List.set_cons_zero, List.set_cons_succ]
          refine wpAnyH_ready (rs := [14]) (by kernel_rfl) (by simp) ?_
          refine AllReadyH.cons rfl (fun K hK => ?_) AllReadyH.nil
          go_simp
          refine hK.out _ _ hS (fun hS => ?_)
          clear hK K
          try simp only [Act.put, List.getElem_toArray, List.getElem_cons_succ, List.getElem_cons_zero, List.setIfInBounds_toArray, List.set_cons_zero, List.set_cons_succ]
          refine wpAnyH_ready (rs := [15]) (by kernel_rfl) (by simp) ?_
          refine AllReadyH.cons rfl (fun K hK => ?_) AllReadyH.nil
          go_simp
          refine hK.out _ _ hS (fun hS => ?_)
          clear hK K
          try simp only [Act.put, List.getElem_toArray, List.getElem_cons_succ, List.getElem_cons_zero, List.setIfInBounds_toArray, List.set_cons_zero, List.set_cons_succ]
          refine wpAnyH_done (by kernel_rfl) ?_ _
          go_wp2_with fail
          go_meet
          case rel => exact ⟨⟨a6, q6, rfl⟩, hs13.low (by have := kA5.size; omega), kA6⟩
        refine AllReadyH.cons rfl (fun K hK => ?_) AllReadyH.nil
        refine step_makeMap rfl rfl ?_
        have kA3 : Keeps [] w5 (A2.alloc (.map #[] 0)) := kA2.alloc _
        have hm2 := mapAt_new A2
        have lm2 : w5.heap.size ≤ A2.heap.size := kA2.size
        have hne12 := hm1.lt
        generalize hgm : A2.heap.size = m2 at hm2 lm2 hne12 ⊢
        clear hgm
        replace hm1 := hm1.keep ((Keeps.refl [] A2).alloc (.map #[] 0)) (by simp)
        generalize A2.alloc (.map #[] 0) = A3 at *
        refine hK.out _ _ ⟨(kA3.cell l5 (by simp)).trans e0, (kA3.cell l5 (by simp)).trans e1, (kA3.cell l5 (by simp)).trans e2⟩ (fun hS => ?_)
        clear hK K
        try simp only [Act.put, List.getElem_toArray, List.getElem_cons_succ, List.getElem_cons_zero, List.setIfInBounds_toArray, List.set_cons_zero, List.set_cons_succ]
        refine wpAnyH_ready (rs := [6, 11]) (by kernel_rfl) (by simp) ?_
        refine AllReadyH.cons rfl (fun K hK => ?_) ?_
        · go_simp
          go_at_call 17
          refine (hvic A3 8 m1 kA3 hm1 (by decide)).mono ?_
          rintro e A4 ⟨v6, rfl, hs6, hk6⟩
          rw [aw8] at hs6
          obtain ⟨a6, q6, rfl, x61, x62, x63, -⟩ := hs6
          have kA4 : Keeps [] w5 A4 := kA3.trans hk6
          replace hm2 := hm2.keep hk6 (by simp)
          go_simp
          refine hK.out _ _ ⟨(kA4.cell l5 (by simp)).trans e0, (kA4.cell l5 (by simp)).trans e1, (kA4.cell l5 (by simp)).trans e2⟩ (fun hS => ?_)
          clear hK K
          try simp only [Act.put, List.getElem_toArray, List.getElem_cons_succ, List.getElem_cons_zero, List.setIfInBounds_toArray, List.set_cons_zero, List.set_cons_succ]
          refine wpAnyH_ready (rs := [11]) (by kernel_rfl) (by simp) ?_
          refine AllReadyH.cons rfl (fun K hK => ?_) AllReadyH.nil
          refine step_insert rfl (.tmp 38) (.tmp 39) (.const (.int .i64 3)) 30 rfl Tryz.underlying30 Tryz.underlying9 m2 (encMap encI []) idZ (encI 3) rfl rfl rfl hm2 ?_
          intro A5 hn2 hkk
          rw [put_enc] at hn2
          have kA5 : Keeps [] w5 A5 := kA4.after hkk (fun y hy => .inr (by simp only [List.mem_singleton] at hy; omega))
          replace hm2 := hn2
          clear hn2 hkk
          refine hK.out _ _ ⟨(kA5.cell l5 (by simp)).trans e0, (kA5.cell l5 (by simp)).trans e1, (kA5.cell l5 (by simp)).trans e2⟩ (fun hS => ?_)
          clear hK K
          try simp only [Act.put, List.getElem_toArray, List.getElem_cons_succ, List.getElem_cons_zero, List.setIfInBounds_toArray, List.set_cons_zero, List.set_cons_succ]
          refine wpAnyH_take (i := 12) (v := ?_) rfl (by kernel_rfl) (by kernel_rfl) (by kernel_rfl) (fun _ _ _ h => h) (Or.inl ⟨by rfl, ?_⟩) (by assumption) ?_
          rotate_left
          · intro w' hSw; obtain ⟨s1, s2, s3⟩ := hSw; go_simp; (try with_reducible rfl)
          simp only [Act.put, List.getElem_toArray, List.getElem_cons_succ, List.getElem_cons_zero, List.setIfInBounds_toArray, List.set_cons_zero, List.set_cons_succ]
          refine wpAnyH_ready (rs := [13]) (by kernel_rfl) (by simp) ?_
          refine AllReadyH.cons rfl (fun K hK => ?_) AllReadyH.nil
          go_simp
          go_at_call 17
          refine (hvic A5 9 m2 kA5 hm2 (by decide)).mono ?_
          rintro e A6 ⟨v13, rfl, hs13, hk13⟩
          rw [aw9] at hs13
          have kA6 : Keeps [] w5 A6 := kA5.trans hk13
          go_simp
          refine hK.out _ _ ⟨(kA6.cell l5 (by simp)).trans e0, (kA6.cell l5 (by simp)).trans e1, (kA6.cell l5 (by simp)).trans e2⟩ (fun hS => ?_)
          clear hK K
          try simp only [Act.put, List.getElem_toArray, List.getElem_cons_succ, List.getElem_cons_zero, List.setIfInBounds_toArray, List.set_cons_zero, List.set_cons_succ]
          refine wpAnyH_ready (rs := [14]) (by kernel_rfl) (by simp) ?_
          refine AllReadyH.cons rfl (fun K hK => ?_) AllReadyH.nil
          go_simp
          refine hK.out _ _ hS (fun hS => ?_)
          clear hK K
          try simp only [Act.put, List.getElem_toArray, List.getElem_cons_succ, List.getElem_cons_zero, List.setIfInBounds_toArray, List.set_cons_zero, List.set_cons_succ]
          refine wpAnyH_ready (rs := [15]) (by kernel_rfl) (by simp) ?_
          refine AllReadyH.cons rfl (fun K hK => ?_) AllReadyH.nil
          go_simp
          refine hK.out _ _ hS (fun hS => ?_)
          clear hK K
          try simp only [Act.put, List.getElem_toArray, List.getElem_cons_succ, List.getElem_cons_zero, List.setIfInBounds_toArray, List.set_cons_zero, List.set_cons_succ]
          refine wpAnyH_done (by kernel_rfl) ?_ _
          go_wp2_with fail
          go_meet
          case rel => exact ⟨⟨a6, q6, rfl⟩, hs13.low (by have := kA5.size; omega), kA6⟩
        refine AllReadyH.cons rfl (fun K hK => ?_) AllReadyH.nil
        refine step_insert rfl (.tmp 38) (.tmp 39) (.const (.int .i64 3)) 30 rfl Tryz.underlying30 Tryz.underlying9 m2 (encMap encI []) idZ (encI 3) rfl rfl rfl hm2 ?_
        intro A4 hn2 hkk
        rw [put_enc] at hn2
        have kA4 : Keeps [] w5 A4 := kA3.after hkk (fun y hy => .inr (by simp only [List.mem_singleton] at hy; omega))
        replace hm1 := hm1.keep hkk (by simp only [List.mem_singleton]; omega)
        replace hm2 := hn2
        clear hn2 hkk
        refine hK.out _ _ ⟨(kA4.cell l5 (by simp)).trans e0, (kA4.cell l5 (by simp)).trans e1, (kA4.cell l5 (by simp)).trans e2⟩ (fun hS => ?_)
        clear hK K
        try simp only [Act.put, List.getElem_toArray, List.getElem_cons_succ, List.getElem_cons_zero, List.setIfInBounds_toArray, List.set_cons_zero, List.set_cons_succ]
        refine wpAnyH_take (i := 12) (v := ?_) rfl (by kernel_rfl) (by kernel_rfl) (by kernel_rfl) (fun _ _ _ h => h) (Or.inl ⟨by rfl, ?_⟩) (by assumption) ?_
        rotate_left
        · intro w' hSw; obtain ⟨s1, s2, s3⟩ := hSw; go_simp; (try with_reducible rfl)
        simp only [Act.put, List.getElem_toArray, List.getElem_cons_succ, List.getElem_cons_zero, List.setIfInBounds_toArray, List.set_cons_zero, List.set_cons_succ]
        refine wpAnyH_ready (rs := [6]) (by kernel_rfl) (by simp) ?_
        refine AllReadyH.cons rfl (fun K hK => ?_) AllReadyH.nil
        go_simp
        go_at_call 17
        refine (hvic A4 8 m1 kA4 hm1 (by decide)).mono ?_
        rintro e A5 ⟨v6, rfl, hs6, hk6⟩
        rw [aw8] at hs6
        obtain ⟨a6, q6, rfl, x61, x62, x63, -⟩ := hs6
        have kA5 : Keeps [] w5 A5 := kA4.trans hk6
        replace hm2 := hm2.keep hk6 (by simp)
        go_simp
        refine hK.out _ _ ⟨(kA5.cell l5 (by simp)).trans e0, (kA5.cell l5 (by simp)).trans e1, (kA5.cell l5 (by simp)).trans e2⟩ (fun hS => ?_)
        clear hK K
        try simp only [Act.put, List.getElem_toArray, List.getElem_cons_succ, List.getElem_cons_zero, List.setIfInBounds_toArray, List.set_cons_zero, List.set_cons_succ]
        refine wpAnyH_ready (rs := [13]) (by kernel_rfl) (by simp) ?_
        refine AllReadyH.cons rfl (fun K hK => ?_) AllReadyH.nil
        go_simp
        go_at_call 17
        refine (hvic A5 9 m2 kA5 hm2 (by decide)).mono ?_
        rintro e A6 ⟨v13, rfl, hs13, hk13⟩
        rw [aw9] at hs13
        have kA6 : Keeps [] w5 A6 := kA5.trans hk13
        go_simp
        refine hK.out _ _ ⟨(kA6.cell l5 (by simp)).trans e0, (kA6.cell l5 (by simp)).trans e1, (kA6.cell l5 (by simp)).trans e2⟩ (fun hS => ?_)
        clear hK K
        try simp only [Act.put, List.getElem_toArray, List.getElem_cons_succ, List.getElem_cons_zero, List.setIfInBounds_toArray, List.set_cons_zero, List.set_cons_succ]
        refine wpAnyH_ready (rs := [14]) (by kernel_rfl) (by simp) ?_
        refine AllReadyH.cons rfl (fun K hK => ?_) AllReadyH.nil
        go_simp
        refine hK.out _ _ hS (fun hS => ?_)
        clear hK K
        try simp only [Act.put, List.getElem_toArray, List.getElem_cons_succ, List.getElem_cons_zero, List.setIfInBounds_toArray, List.set_cons_zero, List.set_cons_succ]
        refine wpAnyH_ready (rs := [15]) (by kernel_rfl) (by simp) ?_
        refine AllReadyH.cons rfl (fun K hK => ?_) AllReadyH.nil
        go_simp
        refine hK.out _ _ hS (fun hS => ?_)
        clear hK K
        try simp only [Act.put, List.getElem_toArray, List.getElem_cons_succ, List.getElem_cons_zero, List.setIfInBounds_toArray, List.set_cons_zero, List.set_cons_succ]
        refine wpAnyH_done (by kernel_rfl) ?_ _
        go_wp2_with fail
        go_meet
        case rel => exact ⟨⟨a6, q6, rfl⟩, hs13.low (by have := kA5.size; omega), kA6⟩
      refine AllReadyH.cons rfl (fun K hK => ?_) AllReadyH.nil
      refine step_makeMap rfl rfl ?_
      have kA2 : Keeps [] w5 (A1.alloc (.map #[] 0)) := kA1.alloc _
      have hm2 := mapAt_new A1
      have lm2 : w5.heap.size ≤ A1.heap.size := kA1.size
      have hne12 := hm1.lt
      generalize hgm : A1.heap.size = m2 at hm2 lm2 hne12 ⊢
      clear hgm
      replace hm1 := hm1.keep ((Keeps.refl [] A1).alloc (.map #[] 0)) (by simp)
      generalize A1.alloc (.map #[] 0) = A2 at *
      refine hK.out _ _ ⟨(kA2.cell l5 (by simp)).trans e0, (kA2.cell l5 (by simp)).trans e1, (kA2.cell l5 (by simp)).trans e2⟩ (fun hS => ?_)
      clear hK K
      try simp only [Act.put, List.getElem_toArray, List.getElem_cons_succ, List.getElem_cons_zero, List.setIfInBounds_toArray, List.set_cons_zero, List.set_cons_succ]
      refine wpAnyH_ready (rs := [4, 11]) (by kernel_rfl) (by simp) ?_
      refine AllReadyH.cons rfl (fun K hK => ?_) ?_
      · refine step_insert rfl (.tmp 32) (.tmp 33) (.const (.int .i64 3)) 30 rfl Tryz.underlying30 Tryz.underlying9 m1 (encMap encI []) idZ (encI 3) rfl rfl rfl hm1 ?_
        intro A3 hn1 hkk
        rw [put_enc] at hn1
        have kA3 : Keeps [] w5 A3 := kA2.after hkk (fun y hy => .inr (by simp only [List.mem_singleton] at hy; omega))
        replace hm2 := hm2.keep hkk (by simp only [List.mem_singleton]; omega)
        replace hm1 := hn1
        clear hn1 hkk
        refine hK.out _ _ ⟨(kA3.cell l5 (by simp)).trans e0, (kA3.cell l5 (by simp)).trans e1, (kA3.cell l5 (by simp)).trans e2⟩ (fun hS => ?_)
        clear hK K
        try simp only [Act.put, List.getElem_toArray, List.getElem_cons_succ, List.getElem_cons_zero, List.setIfInBounds_toArray, List.set_cons_zero, List.set_cons_succ]
        refine wpAnyH_take (i := 5) (v := ?_) rfl (by kernel_rfl) (by kernel_rfl) (by kernel_rfl) (fun _ _ _ h => h) (Or.inl ⟨by rfl, ?_⟩) (by assumption) ?_
        rotate_left
        · intro w' hSw; obtain ⟨s1, s2, s3⟩ := hSw; go_simp; (try with_reducible rfl)
        simp only [Act.put, List.getElem_toArray, List.getElem_cons_succ, List.getElem_cons_zero, List.setIfInBounds_toArray, List.set_cons_zero, List.set_cons_succ]
        refine wpAnyH_ready (rs := [6, 11]) (by kernel_rfl) (by simp) ?_
        refine AllReadyH.cons rfl (fun K hK => ?_) ?_
        · go_simp
          go_at_call 17
          refine (hvic A3 8 m1 kA3 hm1 (by decide)).mono ?_
          rintro e A4 ⟨v6, rfl, hs6, hk6⟩
          rw [aw8] at hs6
          obtain ⟨a6, q6, rfl, x61, x62, x63, -⟩ := hs6
          have kA4 : Keeps [] w5 A4 := kA3.trans hk6
          replace hm2 := hm2.keep hk6 (by simp)
          go_simp
          refine hK.out _ _ ⟨(kA4.cell l5 (by simp)).trans e0, (kA4.cell l5 (by simp)).trans e1, (kA4.cell l5 (by simp)).trans e2⟩ (fun hS => ?_)
          clear hK K
          try simp only [Act.put, List.getElem_toArray, List.getElem_cons_succ, List.getElem_cons_zero, List.setIfInBounds_toArray, List.set_cons_zero, List.set_cons_succ]
          refine wpAnyH_ready (rs := [11]) (by kernel_rfl) (by simp) ?_
          refine AllReadyH.cons rfl (fun K hK => ?_) AllReadyH.nil
          refine step_insert rfl (.tmp 38) (.tmp 39) (.const (.int .i64 3)) 30 rfl Tryz.underlying30 Tryz.underlying9 m2 (encMap encI []) idZ (encI 3) rfl rfl rfl hm2 ?_
          intro A5 hn2 hkk
          rw [put_enc] at hn2
          have kA5 : Keeps [] w5 A5 := kA4.after hkk (fun y hy => .inr (by simp only [List.mem_singleton] at hy; omega))
          replace hm2 := hn2
          clear hn2 hkk
          refine hK.out _ _ ⟨(kA5.cell l5 (by simp)).trans e0, (kA5.cell l5 (by simp)).trans e1, (kA5.cell l5 (by simp)).trans e2⟩ (fun hS => ?_)
          clear hK K
          try simp only [Act.put, List.getElem_toArray, List.getElem_cons_succ, List.getElem_cons_zero, List.setIfInBounds_toArray, List.set_cons_zero, List.set_cons_succ]
          refine wpAnyH_take (i := 12) (v := ?_) rfl (by kernel_rfl) (by kernel_rfl) (by kernel_rfl) (fun _ _ _ h => h) (Or.inl ⟨by rfl, ?_⟩) (by assumption) ?_
          rotate_left
          · intro w' hSw; obtain ⟨s1, s2, s3⟩ := hSw; go_simp; (try with_reducible rfl)
          simp only [Act.put, List.getElem_toArray, List.getElem_cons_succ, List.getElem_cons_zero, List.setIfInBounds_toArray, List.set_cons_zero, List.set_cons_succ]
          refine wpAnyH_ready (rs := [13]) (by kernel_rfl) (by simp) ?_
          refine AllReadyH.cons rfl (fun K hK => ?_) AllReadyH.nil
          go_simp
          go_at_call 17
          refine (hvic A5 9 m2 kA5 hm2 (by decide)).mono ?_
          rintro e A6 ⟨v13, rfl, hs13, hk13⟩
          rw [aw9] at hs13
          have kA6 : Keeps [] w5 A6 := kA5.trans hk13
          go_simp
          refine hK.out _ _ ⟨(kA6.cell l5 (by simp)).trans e0, (kA6.cell l5 (by simp)).trans e1, (kA6.cell l5 (by simp)).trans e2⟩ (fun hS => ?_)
          clear hK K
          try simp only [Act.put, List.getElem_toArray, List.getElem_cons_succ, List.getElem_cons_zero, List.setIfInBounds_toArray, List.set_cons_zero, List.set_cons_succ]
          refine wpAnyH_ready (rs := [14]) (by kernel_rfl) (by simp) ?_
          refine AllReadyH.cons rfl (fun K hK => ?_) AllReadyH.nil
          go_simp
          refine hK.out _ _ hS (fun hS => ?_)
          clear hK K
          try simp only [Act.put, List.getElem_toArray, List.getElem_cons_succ, List.getElem_cons_zero, List.setIfInBounds_toArray, List.set_cons_zero, List.set_cons_succ]
          refine wpAnyH_ready (rs := [15]) (by kernel_rfl) (by simp) ?_
          refine AllReadyH.cons rfl (fun K hK => ?_) AllReadyH.nil
          go_simp
          refine hK.out _ _ hS (fun hS => ?_)
          clear hK K
          try simp only [Act.put, List.getElem_toArray, List.getElem_cons_succ, List.getElem_cons_zero, List.setIfInBounds_toArray, List.set_cons_zero, List.set_cons_succ]
          refine wpAnyH_done (by kernel_rfl) ?_ _
          go_wp2_with fail
          go_meet
          case rel => exact ⟨⟨a6, q6, rfl⟩, hs13.low (by have := kA5.size; omega), kA6⟩
        refine AllReadyH.cons rfl (fun K hK => ?_) AllReadyH.nil
        refine step_insert rfl (.tmp 38) (.tmp 39) (.const (.int .i64 3)) 30 rfl Tryz.underlying30 Tryz.underlying9 m2 (encMap encI []) idZ (encI 3) rfl rfl rfl hm2 ?_
        intro A4 hn2 hkk
        rw [put_enc] at hn2
        have kA4 : Keeps [] w5 A4 := kA3.after hkk (fun y hy => .inr (by simp only [List.mem_singleton] at hy; omega))
        replace hm1 := hm1.keep hkk (by simp only [List.mem_singleton]; omega)
        replace hm2 := hn2
        clear hn2 hkk
        refine hK.out _ _ ⟨(kA4.cell l5 (by simp)).trans e0, (kA4.cell l5 (by simp)).trans e1, (kA4.cell l5 (by simp)).trans e2⟩ (fun hS => ?_)
        clear hK K
        try simp only [Act.put, List.getElem_toArray, List.getElem_cons_succ, List.getElem_cons_zero, List.setIfInBounds_toArray, List.set_cons_zero, List.set_cons_succ]
        refine wpAnyH_take (i := 12) (v := ?_) rfl (by kernel_rfl) (by kernel_rfl) (by kernel_rfl) (fun _ _ _ h => h) (Or.inl ⟨by rfl, ?_⟩) (by assumption) ?_
        rotate_left
        · intro w' hSw; obtain ⟨s1, s2, s3⟩ := hSw; go_simp; (try with_reducible rfl)
        simp only [Act.put, List.getElem_toArray, List.getElem_cons_succ, List.getElem_cons_zero, List.setIfInBounds_toArray, List.set_cons_zero, List.set_cons_succ]
        refine wpAnyH_ready (rs := [6]) (by kernel_rfl) (by simp) ?_
        refine AllReadyH.cons rfl (fun K hK => ?_) AllReadyH.nil
        go_simp
        go_at_call 17
        refine (hvic A4 8 m1 kA4 hm1 (by decide)).mono ?_
        rintro e A5 ⟨v6, rfl, hs6, hk6⟩
        rw [aw8] at hs6
        obtain ⟨a6, q6, rfl, x61, x62, x63, -⟩ := hs6
        have kA5 : Keeps [] w5 A5 := kA4.trans hk6
        replace hm2 := hm2.keep hk6 (by simp)
        go_simp
        refine hK.out _ _ ⟨(kA5.cell l5 (by simp)).trans e0, (kA5.cell l5 (by simp)).trans e1, (kA5.cell l5 (by simp)).trans e2⟩ (fun hS => ?_)
        clear hK K
        try simp only [Act.put, List.getElem_toArray, List.getElem_cons_succ, List.getElem_cons_zero, List.setIfInBounds_toArray, List.set_cons_zero, List.set_cons_succ]
        refine wpAnyH_ready (rs := [13]) (by kernel_rfl) (by simp) ?_
        refine AllReadyH.cons rfl (fun K hK => ?_) AllReadyH.nil
        go_simp
        go_at_call 17
        refine (hvic A5 9 m2 kA5 hm2 (by decide)).mono ?_
        rintro e A6 ⟨v13, rfl, hs13, hk13⟩
        rw [aw9] at hs13
        have kA6 : Keeps [] w5 A6 := kA5.trans hk13
        go_simp
        refine hK.out _ _ ⟨(kA6.cell l5 (by simp)).trans e0, (kA6.cell l5 (by simp)).trans e1, (kA6.cell l5 (by simp)).trans e2⟩ (fun hS => ?_)
        clear hK K
        try simp only [Act.put, List.getElem_toArray, List.getElem_cons_succ, List.getElem_cons_zero, List.setIfInBounds_toArray, List.set_cons_zero, List.set_cons_succ]
        refine wpAnyH_ready (rs := [14]) (by kernel_rfl) (by simp) ?_
        refine AllReadyH.cons rfl (fun K hK => ?_) AllReadyH.nil
        go_simp
        refine hK.out _ _ hS (fun hS => ?_)
        clear hK K
        try simp only [Act.put, List.getElem_toArray, List.getElem_cons_succ, List.getElem_cons_zero, List.setIfInBounds_toArray, List.set_cons_zero, List.set_cons_succ]
        refine wpAnyH_ready (rs := [15]) (by kernel_rfl) (by simp) ?_
        refine AllReadyH.cons rfl (fun K hK => ?_) AllReadyH.nil
        go_simp
        refine hK.out _ _ hS (fun hS => ?_)
        clear hK K
        try simp only [Act.put, List.getElem_toArray, List.getElem_cons_succ, List.getElem_cons_zero, List.setIfInBounds_toArray, List.set_cons_zero, List.set_cons_succ]
        refine wpAnyH_done (by kernel_rfl) ?_ _
        go_wp2_with fail
        go_meet
        case rel => exact ⟨⟨a6, q6, rfl⟩, hs13.low (by have := kA5.size; omega), kA6⟩
      refine AllReadyH.cons rfl (fun K hK => ?_) AllReadyH.nil
      refine step_insert rfl (.tmp 38) (.tmp 39) (.const (.int .i64 3)) 30 rfl Tryz.underlying30 Tryz.underlying9 m2 (encMap encI []) idZ (encI 3) rfl rfl rfl hm2 ?_
      intro A3 hn2 hkk
      rw [put_enc] at hn2
      have kA3 : Keeps [] w5 A3 := kA2.after hkk (fun y hy => .inr (by simp only [List.mem_singleton] at hy; omega))
      replace hm1 := hm1.keep hkk (by simp only [List.mem_singleton]; omega)
      replace hm2 := hn2
      clear hn2 hkk
      refine hK.out _ _ ⟨(kA3.cell l5 (by simp)).trans e0, (kA3.cell l5 (by simp)).trans e1, (kA3.cell l5 (by simp)).trans e2⟩ (fun hS => ?_)
      clear hK K
      try simp only [Act.put, List.getElem_toArray, List.getElem_cons_succ, List.getElem_cons_zero, List.setIfInBounds_toArray, List.set_cons_zero, List.set_cons_succ]
      refine wpAnyH_take (i := 12) (v := ?_) rfl (by kernel_rfl) (by kernel_rfl) (by kernel_rfl) (fun _ _ _ h => h) (Or.inl ⟨by rfl, ?_⟩) (by assumption) ?_
      rotate_left
      · intro w' hSw; obtain ⟨s1, s2, s3⟩ := hSw; go_simp; (try with_reducible rfl)
      simp only [Act.put, List.getElem_toArray, List.getElem_cons_succ, List.getElem_cons_zero, List.setIfInBounds_toArray, List.set_cons_zero, List.set_cons_succ]
      refine wpAnyH_ready (rs := [4]) (by kernel_rfl) (by simp) ?_
      refine AllReadyH.cons rfl (fun K hK => ?_) AllReadyH.nil
      refine step_insert rfl (.tmp 32) (.tmp 33) (.const (.int .i64 3)) 30 rfl Tryz.underlying30 Tryz.underlying9 m1 (encMap encI []) idZ (encI 3) rfl rfl rfl hm1 ?_
      intro A4 hn1 hkk
      rw [put_enc] at hn1
      have kA4 : Keeps [] w5 A4 := kA3.after hkk (fun y hy => .inr (by simp only [List.mem_singleton] at hy; omega))
      replace hm2 := hm2.keep hkk (by simp only [List.mem_singleton]; omega)
      replace hm1 := hn1
      clear hn1 hkk
      refine hK.out _ _ ⟨(kA4.cell l5 (by simp)).trans e0, (kA4.cell l5 (by simp)).trans e1, (kA4.cell l5 (by simp)).trans e2⟩ (fun hS => ?_)
      clear hK K
      try simp only [Act.put, List.getElem_toArray, List.getElem_cons_succ, List.getElem_cons_zero, List.setIfInBounds_toArray, List.set_cons_zero, List.set_cons_succ]
      refine wpAnyH_take (i := 5) (v := ?_) rfl (by kernel_rfl) (by kernel_rfl) (by kernel_rfl) (fun _ _ _ h => h) (Or.inl ⟨by rfl, ?_⟩) (by assumption) ?_
      rotate_left
      · intro w' hSw; obtain ⟨s1, s2, s3⟩ := hSw; go_simp; (try with_reducible rfl)
      simp only [Act.put, List.getElem_toArray, List.getElem_cons_succ, List.getElem_cons_zero, List.setIfInBounds_toArray, List.set_cons_zero, List.set_cons_succ]
      refine wpAnyH_ready (rs := [6]) (by kernel_rfl) (by simp) ?_
      refine AllReadyH.cons rfl (fun K hK => ?_) AllReadyH.nil
      go_simp
      go_at_call 17
      refine (hvic A4 8 m1 kA4 hm1 (by decide)).mono ?_
      rintro e A5 ⟨v6, rfl, hs6, hk6⟩
      rw [aw8] at hs6
      obtain ⟨a6, q6, rfl, x61, x62, x63, -⟩ := hs6
      have kA5 : Keeps [] w5 A5 := kA4.trans hk6
      replace hm2 := hm2.keep hk6 (by simp)
      go_simp
      refine hK.out _ _ ⟨(kA5.cell l5 (by simp)).trans e0, (kA5.cell l5 (by simp)).trans e1, (kA5.cell l5 (by simp)).trans e2⟩ (fun hS => ?_)
      clear hK K
      try simp only [Act.put, List.getElem_toArray, List.getElem_cons_succ, List.getElem_cons_zero, List.setIfInBounds_toArray, List.set_cons_zero, List.set_cons_succ]
      refine wpAnyH_ready (rs := [13]) (by kernel_rfl) (by simp) ?_
      refine AllReadyH.cons rfl (fun K hK => ?_) AllReadyH.nil
      go_simp
      go_at_call 17
      refine (hvic A5 9 m2 kA5 hm2 (by decide)).mono ?_
      rintro e A6 ⟨v13, rfl, hs13, hk13⟩
      rw [aw9] at hs13
      have kA6 : Keeps [] w5 A6 := kA5.trans hk13
      go_simp
      refine hK.out _ _ ⟨(kA6.cell l5 (by simp)).trans e0, (kA6.cell l5 (by simp)).trans e1, (kA6.cell l5 (by simp)).trans e2⟩ (fun hS => ?_)
      clear hK K
      try simp only [Act.put, List.getElem_toArray, List.getElem_cons_succ, List.getElem_cons_zero, List.setIfInBounds_toArray, List.set_cons_zero, List.set_cons_succ]
      refine wpAnyH_ready (rs := [14]) (by kernel_rfl) (by simp) ?_
      refine AllReadyH.cons rfl (fun K hK => ?_) AllReadyH.nil
      go_simp
      refine hK.out _ _ hS (fun hS => ?_)
      clear hK K
      try simp only [Act.put, List.getElem_toArray, List.getElem_cons_succ, List.getElem_cons_zero, List.setIfInBounds_toArray, List.set_cons_zero, List.set_cons_succ]
      refine wpAnyH_ready (rs := [15]) (by kernel_rfl) (by simp) ?_
      refine AllReadyH.cons rfl (fun K hK => ?_) AllReadyH.nil
      go_simp
      refine hK.out _ _ hS (fun hS => ?_)
      clear hK K
      try simp only [Act.put, List.getElem_toArray, List.getElem_cons_succ, List.getElem_cons_zero, List.setIfInBounds_toArray, List.set_cons_zero, List.set_cons_succ]
      refine wpAnyH_done (by kernel_rfl) ?_ _
      go_wp2_with fail
      go_meet
      case rel => exact ⟨⟨a6, q6, rfl⟩, hs13.low (by have := kA5.size; omega), kA6⟩
    refine AllReadyH.cons rfl (fun K hK => ?_) AllReadyH.nil
    refine step_makeMap rfl rfl ?_
    have kA1 : Keeps [] w5 (A0.alloc (.map #[] 0)) := kA0.alloc _
    have hm2 := mapAt_new A0
    have lm2 : w5.heap.size ≤ A0.heap.size := kA0.size
    generalize hgm : A0.heap.size = m2 at hm2 lm2 ⊢
    clear hgm
    generalize A0.alloc (.map #[] 0) = A1 at *
    refine hK.out _ _ ⟨(kA1.cell l5 (by simp)).trans e0, (kA1.cell l5 (by simp)).trans e1, (kA1.cell l5 (by simp)).trans e2⟩ (fun hS => ?_)
    clear hK K
    try simp only [Act.put, List.getElem_toArray, List.getElem_cons_succ, List.getElem_cons_zero, List.setIfInBounds_toArray, List.set_cons_zero, List.set_cons_succ]
    refine wpAnyH_ready (rs := [2, 11]) (by kernel_rfl) (by simp) ?_
    refine AllReadyH.cons rfl (fun K hK => ?_) ?_
    · refine step_makeMap rfl rfl ?_
      have kA2 : Keeps [] w5 (A1.alloc (.map #[] 0)) := kA1.alloc _
      have hm1 := mapAt_new A1
      have lm1 : w5.heap.size ≤ A1.heap.size := kA1.size
      have hne12 := hm2.lt
      generalize hgm : A1.heap.size = m1 at hm1 lm1 hne12 ⊢
      clear hgm
      replace hm2 := hm2.keep ((Keeps.refl [] A1).alloc (.map #[] 0)) (by simp)
      generalize A1.alloc (.map #[] 0) = A2 at *
      refine hK.out _ _ ⟨(kA2.cell l5 (by simp)).trans e0, (kA2.cell l5 (by simp)).trans e1, (kA2.cell l5 (by simp)).trans e2⟩ (fun hS => ?_)
      clear hK K
      try simp only [Act.put, List.getElem_toArray, List.getElem_cons_succ, List.getElem_cons_zero, List.setIfInBounds_toArray, List.set_cons_zero, List.set_cons_succ]
      refine wpAnyH_ready (rs := [4, 11]) (by kernel_rfl) (by simp) ?_
      refine AllReadyH.cons rfl (fun K hK => ?_) ?_
      · refine step_insert rfl (.tmp 32) (.tmp 33) (.const (.int .i64 3)) 30 rfl Tryz.underlying30 Tryz.underlying9 m1 (encMap encI []) idZ (encI 3) rfl rfl rfl hm1 ?_
        intro A3 hn1 hkk
        rw [put_enc] at hn1
        have kA3 : Keeps [] w5 A3 := kA2.after hkk (fun y hy => .inr (by simp only [List.mem_singleton] at hy; omega))
        replace hm2 := hm2.keep hkk (by simp only [List.mem_singleton]; omega)
        replace hm1 := hn1
        clear hn1 hkk
        refine hK.out _ _ ⟨(kA3.cell l5 (by simp)).trans e0, (kA3.cell l5 (by simp)).trans e1, (kA3.cell l5 (by simp)).trans e2⟩ (fun hS => ?_)
        clear hK K
        try simp only [Act.put, List.getElem_toArray, List.getElem_cons_succ, List.getElem_cons_zero, List.setIfInBounds_toArray, List.set_cons_zero, List.set_cons_succ]
        refine wpAnyH_take (i := 5) (v := ?_) rfl (by kernel_rfl) (by kernel_rfl) (by kernel_rfl) (fun _ _ _ h => h) (Or.inl ⟨by rfl, ?_⟩) (by assumption) ?_
        rotate_left
        · intro w' hSw; obtain ⟨s1, s2, s3⟩ := hSw; go_simp; (try with_reducible rfl)
        simp only [Act.put, List.getElem_toArray, List.getElem_cons_succ, List.getElem_cons_zero, List.setIfInBounds_toArray, List.set_cons_zero, List.set_cons_succ]
        refine wpAnyH_ready (rs := [6, 11]) (by kernel_rfl) (by simp) ?_
        refine AllReadyH.cons rfl (fun K hK => ?_) ?_
        · go_simp
          go_at_call 17
          refine (hvic A3 8 m1 kA3 hm1 (by decide)).mono ?_
          rintro e A4 ⟨v6, rfl, hs6, hk6⟩
          rw [aw8] at hs6
          obtain ⟨a6, q6, rfl, x61, x62, x63, -⟩ := hs6
          have kA4 : Keeps [] w5 A4 := kA3.trans hk6
          replace hm2 := hm2.keep hk6 (by simp)
          go_simp
          refine hK.out _ _ ⟨(kA4.cell l5 (by simp)).trans e0, (kA4.cell l5 (by simp)).trans e1, (kA4.cell l5 (by simp)).trans e2⟩ (fun hS => ?_)
          clear hK K
          try simp only [Act.put, List.getElem_toArray, List.getElem_cons_succ, List.getElem_cons_zero, List.setIfInBounds_toArray, List.set_cons_zero, List.set_cons_succ]
          refine wpAnyH_ready (rs := [11]) (by kernel_rfl) (by simp) ?_
          refine AllReadyH.cons rfl (fun K hK => ?_) AllReadyH.nil
          refine step_insert rfl (.tmp 38) (.tmp 39) (.const (.int .i64 3)) 30 rfl Tryz.underlying30 Tryz.underlying9 m2 (encMap encI []) idZ (encI 3) rfl rfl rfl hm2 ?_
          intro A5 hn2 hkk
          rw [put_enc] at hn2
          have kA5 : Keeps [] w5 A5 := kA4.after hkk (fun y hy => .inr (by simp only [List.mem_singleton] at hy; omega))
          replace hm2 := hn2
          clear hn2 hkk
          refine hK.out _ _ ⟨(kA5.cell l5 (by simp)).trans e0, (kA5.cell l5 (by simp)).trans e1, (kA5.cell l5 (by simp)).trans e2⟩ (fun hS => ?_)
          clear hK K
          try simp only [Act.put, List.getElem_toArray, List.getElem_cons_succ, List.getElem_cons_zero, List.setIfInBounds_toArray, List.set_cons_zero, List.set_cons_succ]
          refine wpAnyH_take (i := 12) (v := ?_) rfl (by kernel_rfl) (by kernel_rfl) (by kernel_rfl) (fun _ _ _ h => h) (Or.inl ⟨by rfl, ?_⟩) (by assumption) ?_
          rotate_left
          · intro w' hSw; obtain ⟨s1, s2, s3⟩ := hSw; go_simp; (try with_reducible rfl)
          simp only [Act.put, List.getElem_toArray, List.getElem_cons_succ, List.getElem_cons_zero, List.setIfInBounds_toArray, List.set_cons_zero, List.set_cons_succ]
          refine wpAnyH_ready (rs := [13]) (by kernel_rfl) (by simp) ?_
          refine AllReadyH.cons rfl (fun K hK => ?_) AllReadyH.nil
          go_simp
          go_at_call 17
          refine (hvic A5 9 m2 kA5 hm2 (by decide)).mono ?_
          rintro e A6 ⟨v13, rfl, hs13, hk13⟩
          rw [aw9] at hs13
          have kA6 : Keeps [] w5 A6 := kA5.trans hk13
          go_simp
          refine hK.out _ _ ⟨(kA6.cell l5 (by simp)).trans e0, (kA6.cell l5 (by simp)).trans e1, (kA6.cell l5 (by simp)).trans e2⟩ (fun hS => ?_)
          clear hK K
          try simp only [Act.put, List.getElem_toArray, List.getElem_cons_succ, List.getElem_cons_zero, List.setIfInBounds_toArray, List.set_cons_zero, List.set_cons_succ]
          refine wpAnyH_ready (rs := [14]) (by kernel_rfl) (by simp) ?_
          refine AllReadyH.cons rfl (fun K hK => ?_) AllReadyH.nil
          go_simp
          refine hK.out _ _ hS (fun hS => ?_)
          clear hK K
          try simp only [Act.put, List.getElem_toArray, List.getElem_cons_succ, List.getElem_cons_zero, List.setIfInBounds_toArray, List.set_cons_zero, List.set_cons_succ]
          refine wpAnyH_ready (rs := [15]) (by kernel_rfl) (by simp) ?_
          refine AllReadyH.cons rfl (fun K hK => ?_) AllReadyH.nil
          go_simp
          refine hK.out _ _ hS (fun hS => ?_)
          clear hK K
          try simp only [Act.put, List.getElem_toArray, List.getElem_cons_succ, List.getElem_cons_zero, List.setIfInBounds_toArray, List.set_cons_zero, List.set_cons_succ]
          refine wpAnyH_done (by kernel_rfl) ?_ _
          go_wp2_with fail
          go_meet
          case rel => exact ⟨⟨a6, q6, rfl⟩, hs13.low (by have := kA5.size; omega), kA6⟩
        refine AllReadyH.cons rfl (fun K hK => ?_) AllReadyH.nil
        refine step_insert rfl (.tmp 38) (.tmp 39) (.const (.int .i64 3)) 30 rfl Tryz.underlying30 Tryz.underlying9 m2 (encMap encI []) idZ (encI 3) rfl rfl rfl hm2 ?_
        intro A4 hn2 hkk
        rw [put_enc] at hn2
        have kA4 : Keeps [] w5 A4 := kA3.after hkk (fun y hy => .inr (by simp only [List.mem_singleton] at hy; omega))
        replace hm1 := hm1.keep hkk (by simp only [List.mem_singleton]; omega)
        replace hm2 := hn2
        clear hn2 hkk
        refine hK.out _ _ ⟨(kA4.cell l5 (by simp)).trans e0, (kA4.cell l5 (by simp)).trans e1, (kA4.cell l5 (by simp)).trans e2⟩ (fun hS => ?_)
        clear hK K
        try simp only [Act.put, List.getElem_toArray, List.getElem_cons_succ, List.getElem_cons_zero, List.setIfInBounds_toArray, List.set_cons_zero, List.set_cons_succ]
        refine wpAnyH_take (i := 12) (v := ?_) rfl (by kernel_rfl) (by kernel_rfl) (by kernel_rfl) (fun _ _ _ h => h) (Or.inl ⟨by rfl, ?_⟩) (by assumption) ?_
        rotate_left
        · intro w' hSw; obtain ⟨s1, s2, s3⟩ := hSw; go_simp; (try with_reducible rfl)
        simp only [Act.put, List.getElem_toArray, List.getElem_cons_succ, List.getElem_cons_zero, List.setIfInBounds_toArray, List.set_cons_zero, List.set_cons_succ]
        refine wpAnyH_ready (rs := [6]) (by kernel_rfl) (by simp) ?_
        refine AllReadyH.cons rfl (fun K hK => ?_) AllReadyH.nil
        go_simp
        go_at_call 17
        refine (hvic A4 8 m1 kA4 hm1 (by decide)).mono ?_
        rintro e A5 ⟨v6, rfl, hs6, hk6⟩
        rw [aw8] at hs6
        obtain ⟨a6, q6, rfl, x61, x62, x63, -⟩ := hs6
        have kA5 : Keeps [] w5 A5 := kA4.trans hk6
        replace hm2 := hm2.keep hk6 (by simp)
        go_simp
        refine hK.out _ _ ⟨(kA5.cell l5 (by simp)).trans e0, (kA5.cell l5 (by simp)).trans e1, (kA5.cell l5 (by simp)).trans e2⟩ (fun hS => ?_)
        clear hK K
        try simp only [Act.put, List.getElem_toArray, List.getElem_cons_succ, List.getElem_cons_zero, List.setIfInBounds_toArray, List.set_cons_zero, List.set_cons_succ]
        refine wpAnyH_ready (rs := [13]) (by kernel_rfl) (by simp) ?_
        refine AllReadyH.cons rfl (fun K hK => ?_) AllReadyH.nil
        go_simp
        go_at_call 17
        refine (hvic A5 9 m2 kA5 hm2 (by decide)).mono ?_
        rintro e A6 ⟨v13, rfl, hs13, hk13⟩
        rw [aw9] at hs13
        have kA6 : Keeps [] w5 A6 := kA5.trans hk13
        go_simp
        refine hK.out _ _ ⟨(kA6.cell l5 (by simp)).trans e0, (kA6.cell l5 (by simp)).trans e1, (kA6.cell l5 (by simp)).trans e2⟩ (fun hS => ?_)
        clear hK K
        try simp only [Act.put, List.getElem_toArray, List.getElem_cons_succ, List.getElem_cons_zero, List.setIfInBounds_toArray, List.set_cons_zero, List.set_cons_succ]
        refine wpAnyH_ready (rs := [14]) (by kernel_rfl) (by simp) ?_
        refine AllReadyH.cons rfl (fun K hK => ?_) AllReadyH.nil
        go_simp
        refine hK.out _ _ hS (fun hS => ?_)
        clear hK K
        try simp only [Act.put, List.getElem_toArray, List.getElem_cons_succ, List.getElem_cons_zero, List.setIfInBounds_toArray, List.set_cons_zero, List.set_cons_succ]
        refine wpAnyH_ready (rs := [15]) (by kernel_rfl) (by simp) ?_
        refine AllReadyH.cons rfl (fun K hK => ?_) AllReadyH.nil
        go_simp
        refine hK.out _ _ hS (fun hS => ?_)
        clear hK K
        try simp only [Act.put, List.getElem_toArray, List.getElem_cons_succ, List.getElem_cons_zero, List.setIfInBounds_toArray, List.set_cons_zero, List.set_cons_succ]
        refine wpAnyH_done (by kernel_rfl) ?_ _
        go_wp2_with fail
        go_meet
        case rel => exact ⟨⟨a6, q6, rfl⟩, hs13.low (by have := kA5.size; omega), kA6⟩
      refine AllReadyH.cons rfl (fun K hK => ?_) AllReadyH.nil
      refine step_insert rfl (.tmp 38) (.tmp 39) (.const (.int .i64 3)) 30 rfl Tryz.underlying30 Tryz.underlying9 m2 (encMap encI []) idZ (encI 3) rfl rfl rfl hm2 ?_
      intro A3 hn2 hkk
      rw [put_enc] at hn2
      have kA3 : Keeps [] w5 A3 := kA2.after hkk (fun y hy => .inr (by simp only [List.mem_singleton] at hy; omega))
      replace hm1 := hm1.keep hkk (by simp only [List.mem_singleton]; omega)
      replace hm2 := hn2
      clear hn2 hkk
      refine hK.out _ _ ⟨(kA3.cell l5 (by simp)).trans e0, (kA3.cell l5 (by simp)).trans e1, (kA3.cell l5 (by simp)).trans e2⟩ (fun hS => ?_)
      clear hK K
      try simp only [Act.put, List.getElem_toArray, List.getElem_cons_succ, List.getElem_cons_zero, List.setIfInBounds_toArray, List.set_cons_zero, List.set_cons_succ]
      refine wpAnyH_take (i := 12) (v := ?_) rfl (by kernel_rfl) (by kernel_rfl) (by kernel_rfl) (fun _ _ _ h => h) (Or.inl ⟨by rfl, ?_⟩) (by assumption) ?_
      rotate_left
      · intro w' hSw; obtain ⟨s1, s2, s3⟩ := hSw; go_simp; (try with_reducible rfl)
      simp only [Act.put, List.getElem_toArray, List.getElem_cons_succ, List.getElem_cons_zero, List.setIfInBounds_toArray, List.set_cons_zero, List.set_cons_succ]
      refine wpAnyH_ready (rs := [4]) (by kernel_rfl) (by simp) ?_
      refine AllReadyH.cons rfl (fun K hK => ?_) AllReadyH.nil
      refine step_insert rfl (.tmp 32) (.tmp 33) (.const (.int .i64 3)) 30 rfl Tryz.underlying30 Tryz.underlying9 m1 (encMap encI []) idZ (encI 3) rfl rfl rfl hm1 ?_
      intro A4 hn1 hkk
      rw [put_enc] at hn1
      have kA4 : Keeps [] w5 A4 := kA3.after hkk (fun y hy => .inr (by simp only [List.mem_singleton] at hy; omega))
      replace hm2 := hm2.keep hkk (by simp only [List.mem_singleton]; omega)
      replace hm1 := hn1
      clear hn1 hkk
      refine hK.out _ _ ⟨(kA4.cell l5 (by simp)).trans e0, (kA4.cell l5 (by simp)).trans e1, (kA4.cell l5 (by simp)).trans e2⟩ (fun hS => ?_)
      clear hK K
      try simp only [Act.put, List.getElem_toArray, List.getElem_cons_succ, List.getElem_cons_zero, List.setIfInBounds_toArray, List.set_cons_zero, List.set_cons_succ]
      refine wpAnyH_take (i := 5) (v := ?_) rfl (by kernel_rfl) (by kernel_rfl) (by kernel_rfl) (fun _ _ _ h => h) (Or.inl ⟨by rfl, ?_⟩) (by assumption) ?_
      rotate_left
      · intro w' hSw; obtain ⟨s1, s2, s3⟩ := hSw; go_simp; (try with_reducible rfl)
      simp only [Act.put, List.getElem_toArray, List.getElem_cons_succ, List.getElem_cons_zero, List.setIfInBounds_toArray, List.set_cons_zero, List.set_cons_succ]
      refine wpAnyH_ready (rs := [6]) (by kernel_rfl) (by simp) ?_
      refine AllReadyH.cons rfl (fun K hK => ?_) AllReadyH.nil
      go_simp
      go_at_call 17
      refine (hvic A4 8 m1 kA4 hm1 (by decide)).mono ?_
      rintro e A5 ⟨v6, rfl, hs6, hk6⟩
      rw [aw8] at hs6
      obtain ⟨a6, q6, rfl, x61, x62, x63, -⟩ := hs6
      have kA5 : Keeps [] w5 A5 := kA4.trans hk6
      replace hm2 := hm2.keep hk6 (by simp)
      go_simp
      refine hK.out _ _ ⟨(kA5.cell l5 (by simp)).trans e0, (kA5.cell l5 (by simp)).trans e1, (kA5.cell l5 (by simp)).trans e2⟩ (fun hS => ?_)
      clear hK K
      try simp only [Act.put, List.getElem_toArray, List.getElem_cons_succ, List.getElem_cons_zero, List.setIfInBounds_toArray, List.set_cons_zero, List.set_cons_succ]
      refine wpAnyH_ready (rs := [13]) (by kernel_rfl) (by simp) ?_
      refine AllReadyH.cons rfl (fun K hK => ?_) AllReadyH.nil
      go_simp
      go_at_call 17
      refine (hvic A5 9 m2 kA5 hm2 (by decide)).mono ?_
      rintro e A6 ⟨v13, rfl, hs13, hk13⟩
      rw [aw9] at hs13
      have kA6 : Keeps [] w5 A6 := kA5.trans hk13
      go_simp
      refine hK.out _ _ ⟨(kA6.cell l5 (by simp)).trans e0, (kA6.cell l5 (by simp)).trans e1, (kA6.cell l5 (by simp)).trans e2⟩ (fun hS => ?_)
      clear hK K
      try simp only [Act.put, List.getElem_toArray, List.getElem_cons_succ, List.getElem_cons_zero, List.setIfInBounds_toArray, List.set_cons_zero, List.set_cons_succ]
      refine wpAnyH_ready (rs := [14]) (by kernel_rfl) (by simp) ?_
      refine AllReadyH.cons rfl (fun K hK => ?_) AllReadyH.nil
      go_simp
      refine hK.out _ _ hS (fun hS => ?_)
      clear hK K
      try simp only [Act.put, List.getElem_toArray, List.getElem_cons_succ, List.getElem_cons_zero, List.setIfInBounds_toArray, List.set_cons_zero, List.set_cons_succ]
      refine wpAnyH_ready (rs := [15]) (by kernel_rfl) (by simp) ?_
      refine AllReadyH.cons rfl (fun K hK => ?_) AllReadyH.nil
      go_simp
      refine hK.out _ _ hS (fun hS => ?_)
      clear hK K
      try simp only [Act.put, List.getElem_toArray, List.getElem_cons_succ, List.getElem_cons_zero, List.setIfInBounds_toArray, List.set_cons_zero, List.set_cons_succ]
      refine wpAnyH_done (by kernel_rfl) ?_ _
      go_wp2_with fail
      go_meet
      case rel => exact ⟨⟨a6, q6, rfl⟩, hs13.low (by have := kA5.size; omega), kA6⟩
    refine AllReadyH.cons rfl (fun K hK => ?_) AllReadyH.nil
    refine step_insert rfl (.tmp 38) (.tmp 39) (.const (.int .i64 3)) 30 rfl Tryz.underlying30 Tryz.underlying9 m2 (encMap encI []) idZ (encI 3) rfl rfl rfl hm2 ?_
    intro A2 hn2 hkk
    rw [put_enc] at hn2
    have kA2 : Keeps [] w5 A2 := kA1.after hkk (fun y hy => .inr (by simp only [List.mem_singleton] at hy; omega))
    replace hm2 := hn2
    clear hn2 hkk
    refine hK.out _ _ ⟨(kA2.cell l5 (by simp)).trans e0, (kA2.cell l5 (by simp)).trans e1, (kA2.cell l5 (by simp)).trans e2⟩ (fun hS => ?_)
    clear hK K
    try simp only [Act.put, List.getElem_toArray, List.getElem_cons_succ, List.getElem_cons_zero, List.setIfInBounds_toArray, List.set_cons_zero, List.set_cons_succ]
    refine wpAnyH_take (i := 12) (v := ?_) rfl (by kernel_rfl) (by kernel_rfl) (by kernel_rfl) (fun _ _ _ h => h) (Or.inl ⟨by rfl, ?_⟩) (by assumption) ?_
    rotate_left
    · intro w' hSw; obtain ⟨s1, s2, s3⟩ := hSw; go_simp; (try with_reducible rfl)
    simp only [Act.put, List.getElem_toArray, List.getElem_cons_succ, List.getElem_cons_zero, List.setIfInBounds_toArray, List.set_cons_zero, List.set_cons_succ]
    refine wpAnyH_ready (rs := [2]) (by kernel_rfl) (by simp) ?_
    refine AllReadyH.cons rfl (fun K hK => ?_) AllReadyH.nil
    refine step_makeMap rfl rfl ?_
    have kA3 : Keeps [] w5 (A2.alloc (.map #[] 0)) := kA2.alloc _
    have hm1 := mapAt_new A2
    have lm1 : w5.heap.size ≤ A2.heap.size := kA2.size
    have hne12 := hm2.lt
    generalize hgm : A2.heap.size = m1 at hm1 lm1 hne12 ⊢
    clear hgm
    replace hm2 := hm2.keep ((Keeps.refl [] A2).alloc (.map #[] 0)) (by simp)
    generalize A2.alloc (.map #[] 0) = A3 at *
    refine hK.out _ _ ⟨(kA3.cell l5 (by simp)).trans e0, (kA3.cell l5 (by simp)).trans e1, (kA3.cell l5 (by simp)).trans e2⟩ (fun hS => ?_)
    clear hK K
    try simp only [Act.put, List.getElem_toArray, List.getElem_cons_succ, List.getElem_cons_zero, List.setIfInBounds_toArray, List.set_cons_zero, List.set_cons_succ]
    refine wpAnyH_ready (rs := [4]) (by kernel_rfl) (by simp) ?_
    refine AllReadyH.cons rfl (fun K hK => ?_) AllReadyH.nil
    refine step_insert rfl (.tmp 32) (.tmp 33) (.const (.int .i64 3)) 30 rfl Tryz.underlying30 Tryz.underlying9 m1 (encMap encI []) idZ (encI 3) rfl rfl rfl hm1 ?_
    intro A4 hn1 hkk
    rw [put_enc] at hn1
    have kA4 : Keeps [] w5 A4 := kA3.after hkk (fun y hy => .inr (by simp only [List.mem_singleton] at hy; omega))
    replace hm2 := hm2.keep hkk (by simp only [List.mem_singleton]; omega)
    replace hm1 := hn1
    clear hn1 hkk
    refine hK.out _ _ ⟨(kA4.cell l5 (by simp)).trans e0, (kA4.cell l5 (by simp)).trans e1, (kA4.cell l5 (by simp)).trans e2⟩ (fun hS => ?_)
    clear hK K
    try simp only [Act.put, List.getElem_toArray, List.getElem_cons_succ, List.getElem_cons_zero, List.setIfInBounds_toArray, List.set_cons_zero, List.set_cons_succ]
    refine wpAnyH_take (i := 5) (v := ?_) rfl (by kernel_rfl) (by kernel_rfl) (by kernel_rfl) (fun _ _ _ h => h) (Or.inl ⟨by rfl, ?_⟩) (by assumption) ?_
    rotate_left
    · intro w' hSw; obtain ⟨s1, s2, s3⟩ := hSw; go_simp; (try with_reducible rfl)
    simp only [Act.put, List.getElem_toArray, List.getElem_cons_succ, List.getElem_cons_zero, List.setIfInBounds_toArray, List.set_cons_zero, List.set_cons_succ]
    refine wpAnyH_ready (rs := [6]) (by kernel_rfl) (by simp) ?_
    refine AllReadyH.cons rfl (fun K hK => ?_) AllReadyH.nil
    go_simp
    go_at_call 17
    refine (hvic A4 8 m1 kA4 hm1 (by decide)).mono ?_
    rintro e A5 ⟨v6, rfl, hs6, hk6⟩
    rw [aw8] at hs6
    obtain ⟨a6, q6, rfl, x61, x62, x63, -⟩ := hs6
    have kA5 : Keeps [] w5 A5 := kA4.trans hk6
    replace hm2 := hm2.keep hk6 (by simp)
    go_simp
    refine hK.out _ _ ⟨(kA5.cell l5 (by simp)).trans e0, (kA5.cell l5 (by simp)).trans e1, (kA5.cell l5 (by simp)).trans e2⟩ (fun hS => ?_)
    clear hK K
    try simp only [Act.put, List.getElem_toArray, List.getElem_cons_succ, List.getElem_cons_zero, List.setIfInBounds_toArray, List.set_cons_zero, List.set_cons_succ]
    refine wpAnyH_ready (rs := [13]) (by kernel_rfl) (by simp) ?_
    refine AllReadyH.cons rfl (fun K hK => ?_) AllReadyH.nil
    go_simp
    go_at_call 17
    refine (hvic A5 9 m2 kA5 hm2 (by decide)).mono ?_
    rintro e A6 ⟨v13, rfl, hs13, hk13⟩
    rw [aw9] at hs13
    have kA6 : Keeps [] w5 A6 := kA5.trans hk13
    go_simp
    refine hK.out _ _ ⟨(kA6.cell l5 (by simp)).trans e0, (kA6.cell l5 (by simp)).trans e1, (kA6.cell l5 (by simp)).trans e2⟩ (fun hS => ?_)
    clear hK K
    try simp only [Act.put, List.getElem_toArray, List.getElem_cons_succ, List.getElem_cons_zero, List.setIfInBounds_toArray, List.set_cons_zero, List.set_cons_succ]
    refine wpAnyH_ready (rs := [14]) (by kernel_rfl) (by simp) ?_
    refine AllReadyH.cons rfl (fun K hK => ?_) AllReadyH.nil
    go_simp
    refine hK.out _ _ hS (fun hS => ?_)
    clear hK K
    try simp only [Act.put, List.getElem_toArray, List.getElem_cons_succ, List.getElem_cons_zero, List.setIfInBounds_toArray, List.set_cons_zero, List.set_cons_succ]
    refine wpAnyH_ready (rs := [15]) (by kernel_rfl) (by simp) ?_
    refine AllReadyH.cons rfl (fun K hK => ?_) AllReadyH.nil
    go_simp
    refine hK.out _ _ hS (fun hS => ?_)
    clear hK K
    try simp only [Act.put, List.getElem_toArray, List.getElem_cons_succ, List.getElem_cons_zero, List.setIfInBounds_toArray, List.set_cons_zero, List.set_cons_succ]
    refine wpAnyH_done (by kernel_rfl) ?_ _
    go_wp2_with fail
    go_meet
    case rel => exact ⟨⟨a6, q6, rfl⟩, hs13.low (by have := kA5.size; omega), kA6⟩
    --END
  case rest =>
    obtain ⟨⟨a8, c8, rfl⟩, hs9, hkc⟩ := hcut
    obtain ⟨a9, c9, rfl, x1, x2, x3, hx⟩ := hs9
    obtain ⟨g9, of9, rfl, hg9, hgl9, hc90⟩ := hx 0 (by simp)
    obtain ⟨g9', of9', hga, _, _, hc91⟩ := hx 1 (by simp)
    injection hga with hga
    injection hga with hg1 hg2 _
    subst hg1 hg2
    have d0 : wc.cell? ⟨g9, of9, none⟩ = some (.string (objectB idZ metaB)) := by simpa [encS1] using hc90 0 (by decide)
    have d1 : wc.cell? ⟨g9, of9 + 1, none⟩ = some (.string (objectB idZ markB)) := by simpa [encS1] using hc91 0 (by decide)
    have q0 : ((objectB idZ metaB).toList == (idZ ++ (⟨#[47, 109, 101, 116, 97]⟩ : ByteArray)).toList) = true := by
      rw [toList_beq, decide_eq_true_iff]
      exact ba_ext (by rw [object_data]; simp [ByteArray.data_append]; rfl)
    have q1 : ((objectB idZ markB).toList == (idZ ++ (⟨#[47, 109, 97, 114, 107]⟩ : ByteArray)).toList) = true := by
      rw [toList_beq, decide_eq_true_iff]
      exact ba_ext (by rw [object_data]; simp [ByteArray.data_append]; rfl)
    have hzc := H5.out.2.2.2.2.keep hkc (by simp)
    have hbc := hkc.keep_bucket H5.out.2.2.1
    have hltb := H4.out.2.2.1.lt
    have Hd := Lib.hid (sweepDone_spec wc _ p q gb _ hzc)
    have Hst := Lib.hid (rnd_step wc b f c mb w4.heap.size p q gb (5, 100, 9) 9 0 awO awO 0 2 (stA (5, 100, 9) 0) Rnd.a rfl hbc hzc hltb ((HA.out.2.same H5.out.2.1).same hkc) (by have := HA.out.2.lt; have := H4.out.2.1.size; omega) aw_parted (by decide) (by decide) (by decide) (by decide))
    have hpq : w4.heap.size ≤ p ∧ w4.heap.size ≤ q ∧ w4.heap.size ≤ gb := by
      obtain ⟨h1, _, _, _, _, _, _, _, _, _, h8⟩ := hzc
      exact ⟨h1, h8.1, h8.2.1⟩
    have hsz4 : w.heap.size ≤ w4.heap.size := H4.out.2.1.size
    have HK := Lib.hid (H5.out.2.1.trans hkc)
    generalize hnm0 : objectB idZ metaB = nm0 at d0 q0
    generalize hnm1 : objectB idZ markB = nm1 at d1 q1
    simp only [List.length_cons, List.length_nil, Nat.zero_add, Nat.reduceAdd] at x1 x2
    clear hc90 hc91 hx hzc hbc hvic e0 e1 e2 c5 hnm0 hnm1 hkc
    go_wp2_with fail
    refine Hd.out.mono ?_
    rintro e w6 ⟨rfl, rfl⟩
    simp only [Bool.false_and]
    go_wp2_with fail
    refine Hst.out.mono ?_
    rintro e w7 ⟨Z2, o2, ⟨rfl, -, -, hk7⟩, -⟩
    have HE := Lib.hid (show Keeps [] w w7 from HK.out.after hk7 (fun y hy => .inr (by
      simp only [List.mem_cons, List.not_mem_nil, or_false] at hy
      omega)))
    clear hk7
    go_wp2_with fail
    go_ret
    exact ⟨rfl, HE.out⟩
end Go.Proofs.YtbndpegilpgheaaGreat
