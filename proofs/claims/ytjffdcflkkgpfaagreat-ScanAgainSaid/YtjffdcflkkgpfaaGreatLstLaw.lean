/-
  Listings in plain words: what a listing's bytes say again, which blocks are the same.
  No condition beyond those that each theorem states.

  The statements on listings are awake (package barographlaw10): awake answers true.
  No condition.
-/
import Derived.Test.YtjffdcflkkgpfaaGreatBlocks
import Derived.Test.YtjffdcflkkgpfaaGreatStb
namespace Go.Proofs.YtjffdcflkkgpfaaGreat
open Go Go.RowKit Go.Conc
open Go.Op (bytesLess)

/-- Two lists of the same that rise are one. -/
theorem rise_eq {α : Type} (key : α → List UInt8) : ∀ {A B : List α}, A.Perm B → A.Pairwise (fun x y => bytesLess (key x) (key y) = true) → B.Pairwise (fun x y => bytesLess (key x) (key y) = true) → A = B
  | [], B, hp, _, _ => (List.Perm.nil_eq hp)
  | a :: A, [], hp, _, _ => by have := hp.length_eq; simp at this
  | a :: A, b :: B, hp, ha, hb => by
    rw [List.pairwise_cons] at ha hb
    have hab : a = b := by
      rcases List.mem_cons.1 (hp.subset (by simp : a ∈ a :: A)) with h | h
      · exact h
      · rcases List.mem_cons.1 (hp.symm.subset (by simp : b ∈ b :: B)) with h2 | h2
        · exact h2.symm
        · have h3 := less_transM (ha.1 b h2) (hb.1 a h)
          rw [less_irr] at h3
          cases h3
    subst hab
    rw [rise_eq key (List.Perm.cons_inv hp) ha.2 hb.2]

theorem look_marksOf : ∀ {T : List BlkS}, (T.map (fun p => p.1.id)).Nodup → ∀ id, look (marksOf T) id = ((T.find? fun p => decide (p.1.id = id)).bind fun p => if 0 ≤ p.2 then some p.2 else none) := by
  have key : ∀ (T : List BlkS) (M : PartsM), (T.map (fun p => p.1.id)).Nodup → (∀ p ∈ T, look M p.1.id = none) → ∀ id, look (T.foldl markStep M) id = ((T.find? fun p => decide (p.1.id = id)).bind fun p => if 0 ≤ p.2 then some p.2 else none).orElse (fun _ => look M id) := by
    intro T
    induction T with
    | nil => intro M _ _ id; rfl
    | cons p T ih =>
      intro M hn hM id
      rw [List.map_cons, List.nodup_cons] at hn
      have hM' : ∀ q ∈ T, look (markStep M p) q.1.id = none := fun q hq => by
        unfold markStep
        split
        · rw [look_put, if_neg]
          · exact hM q (by simp [hq])
          · intro e
            exact hn.1 (List.mem_map.2 ⟨q, hq, e⟩)
        · exact hM q (by simp [hq])
      rw [List.foldl_cons, ih _ hn.2 hM' id]
      by_cases he : p.1.id = id
      · subst he
        have hf : T.find? (fun q => decide (q.1.id = p.1.id)) = none := by
          rw [List.find?_eq_none]
          intro q hq e
          simp only [decide_eq_true_eq] at e
          exact hn.1 (List.mem_map.2 ⟨q, hq, e⟩)
        rw [hf, List.find?_cons_of_pos (by simp)]
        unfold markStep
        by_cases h0 : 0 ≤ p.2
        · simp [h0, look_put]
        · simp [h0]
      · rw [List.find?_cons_of_neg (by simpa using he)]
        unfold markStep
        by_cases h0 : 0 ≤ p.2
        · have : ¬ id = p.1.id := fun e => he e.symm
          simp [h0, look_put, this]
        · simp [h0]
  intro T hn id
  have := key T [] hn (by simp [look]) id
  simpa [marksOf, look] using this

theorem marksOf_mem {T : List BlkS} {p : ByteArray × Int} (h : p ∈ marksOf T) : ∃ q ∈ T, q.1.id = p.1 ∧ q.2 = p.2 ∧ 0 ≤ p.2 := by
  have key : ∀ (T : List BlkS) (M : PartsM), p ∈ T.foldl markStep M → p ∈ M ∨ ∃ q ∈ T, q.1.id = p.1 ∧ q.2 = p.2 ∧ 0 ≤ p.2 := by
    intro T
    induction T with
    | nil => intro M h; exact .inl h
    | cons q T ih =>
      intro M h
      rw [List.foldl_cons] at h
      rcases ih _ h with h | ⟨r, hr, h⟩
      · unfold markStep at h
        split at h
        · rcases mem_put h with h | h
          · exact .inr ⟨q, by simp, by rw [h], by rw [h], by rw [h]; assumption⟩
          · exact .inl h
        · exact .inl h
      · exact .inr ⟨r, by simp [hr], h⟩
  rcases key T [] h with h | h
  · simp at h
  · exact h

theorem marksOf_len (T : List BlkS) : (marksOf T).length ≤ T.length := by
  have key : ∀ (T : List BlkS) (M : PartsM), (T.foldl markStep M).length ≤ M.length + T.length := by
    intro T
    induction T with
    | nil => intro M; simp
    | cons q T ih =>
      intro M
      rw [List.foldl_cons]
      have := ih (markStep M q)
      have h2 : (markStep M q).length ≤ M.length + 1 := by
        unfold markStep
        split
        · exact put_len_le _ _ _
        · omega
      simp only [List.length_cons]
      omega
  simpa [marksOf] using key T []

/-- The blocks' listing may be. -/
theorem listOk_of {T : List BlkS} (h : BlkInv10 T) (hl : T.length ≤ 10) {L : List MetaS} (hp : L.Perm (T.map (·.1))) (hr : L.Pairwise fun a b => bytesLess a.id.data.toList b.id.data.toList = true) {at_ : Nat} (ha : at_ ≤ 1099511627776) : ListOk at_ L (marksOf T) where
  at_ := ha
  few := by have := hp.length_eq; rw [List.length_map] at this; omega
  ok := fun m hm => by
    obtain ⟨p, hp2, rfl⟩ := List.mem_map.1 (hp.subset hm)
    exact h.ok p hp2
  rise := hr
  marks := fun p hpm => by
    obtain ⟨q, hq, e1, e2, e3⟩ := marksOf_mem hpm
    refine ⟨⟨q.1, hp.symm.subset (List.mem_map.2 ⟨q, hq, rfl⟩), e1⟩, e3, ?_⟩
    have := (h.mark q hq).2
    omega
  mfew := by have := marksOf_len T; omega

theorem lstL_took {at_ : Nat} (L : List MetaS) (M : PartsM) : lstL at_ L (tookM M L) = lstL at_ L M := by
  have hb : ∀ m ∈ L, blockL (tookM M L) m = blockL M m := fun m hm => by
    unfold blockL markN
    rw [look_tookM ⟨m, hm, rfl⟩]
  have : ∀ (Q : List MetaS), (∀ m ∈ Q, m ∈ L) → Q.flatMap (blockL (tookM M L)) = Q.flatMap (blockL M) := by
    intro Q
    induction Q with
    | nil => intro _; rfl
    | cons q Q ih =>
      intro h
      rw [List.flatMap_cons, List.flatMap_cons, ih fun m hm => h m (by simp [hm]), hb q (h q (by simp))]
  unfold lstL
  rw [this L fun _ h => h]
end Go.Proofs.YtjffdcflkkgpfaaGreat

namespace Go.Proofs.YtjffdcflkkgpfaaGreat
open Go Go.RowKit Go.Conc
open Go.Op (bytesLess)

theorem encOneL_len (x : OneL) : (encOneL x).length = 11 := rfl

def awRaw (a : Option Addr) (n : Nat) : RawM := ⟨⟨#[]⟩, 0, 0, 0, 0, 0, none, 0, 0, a, n, n⟩

def awO10 (a : Option Addr) : List OneL := [⟨awRaw none 0, 0, 0, -1⟩, ⟨awRaw none 0, 1, 0, 5⟩, ⟨awRaw a 2, 2, 0, -1⟩]

def awT10 : List BlkS := blkL (awO10 none)

theorem awT10_eq (a : Option Addr) : blkL ((awO10 a).take 10) = awT10 := rfl

theorem awT10_len : awT10.length = 3 := rfl

theorem awT10_inv : BlkInv10 awT10 := blkInv (awO10 none) (by decide)

theorem awT10_rise : (awT10.map (·.1)).Pairwise fun a b => bytesLess a.id.data.toList b.id.data.toList = true := by
  have h : ((awT10.map (·.1)).map (fun m : MetaS => m.id.data.toList)).Pairwise fun a b => bytesLess a b = true := by decide +kernel
  rw [List.pairwise_map] at h
  exact h

theorem awT10_live : (liveL (awT10.map (·.1))).map (·.id) = [identB 3 2] := by decide +kernel

theorem awT10_id : ((awT10.map (·.1)).map (·.id))[2]? = some (identB 3 2) := by decide +kernel

theorem awT10_took : (tookM (marksOf awT10) (awT10.map (·.1))).length = 1 := by decide +kernel

theorem MetasV.form {B : Nat} {w : World} {v : Value} {L : List MetaS} (h : MetasV B w v L) : ∃ a c, v = .slice a L.length c := by
  obtain ⟨VS, ⟨a, c, e, -⟩, hl, -⟩ := h
  exact ⟨a, c, by rw [e, hl]⟩

theorem MetasV.id_at {B : Nat} {w : World} {a : Option Addr} {n c : Nat} {L : List MetaS} (h : MetasV B w (.slice a n c) L) (i : Nat) (hi : i < L.length) : ∃ b off, a = some ⟨b, off, none⟩ ∧ b < w.heap.size ∧ w.cell? ⟨b, off + i * 8, none⟩ = some (.string L[i].id) := by
  obtain ⟨VS, h1, h2, h3⟩ := h
  obtain ⟨b, off, e, -, hlt, hc⟩ := h1.atI i (by omega)
  obtain ⟨vf, vo, hvs, -⟩ := h3 i (by omega) hi
  have := hc 0 (by decide)
  rw [hvs] at this
  exact ⟨b, off, e, hlt, this⟩

theorem sliceArg_block {α : Type} {size : Nat} {enc : α → List Value} (henc : ∀ x, (enc x).length = size) {w : World} {b : Nat} {t : TypeId} {f : Nat × Nat} {O : List α} {n c : Nat} (h : w.heap[b]? = some (.cells (O.flatMap enc).toArray t f)) (hn : n = O.length) (hl : O.length ≤ maxLen) : SliceArg size enc w (.slice (some ⟨b, 0, none⟩) n c) O := by
  subst hn
  refine ⟨_, c, rfl, hl, fun i hi => ⟨b, 0, rfl, lt_of_at h, fun j hj => ?_⟩⟩
  rw [cells_at h, Nat.zero_add]
  simpa using flatMap_at enc size henc O i hi j hj

set_option linter.unusedSimpArgs false in
set_option maxRecDepth 100000 in
set_option maxHeartbeats 4000000 in
theorem awake10_spec (w : World) : Calls Tryz.prog 11 #[] w fun e w' => e = .returned (.bool true) ∧ Keeps [] w w' := by
  obtain ⟨sb, hsb⟩ : ∃ n, n = w.heap.size := ⟨_, rfl⟩
  obtain ⟨ob, hob⟩ : ∃ n, n = sb + 1 := ⟨_, rfl⟩
  have n0 := new2 w (.cells #[.string ⟨#[]⟩, .string ⟨#[]⟩] 9) (.cells ((awO10 (some ⟨sb, 0, none⟩)).flatMap encOneL).toArray 103)
  have k0 : Keeps [] w ((w.alloc (.cells #[.string ⟨#[]⟩, .string ⟨#[]⟩] 9)).alloc (.cells ((awO10 (some ⟨sb, 0, none⟩)).flatMap encOneL).toArray 103)) := ((Keeps.refl [] w).alloc _).alloc _
  rw [← hsb, ← hob] at n0
  have hO : SliceArg 11 encOneL ((w.alloc (.cells #[.string ⟨#[]⟩, .string ⟨#[]⟩] 9)).alloc (.cells ((awO10 (some ⟨sb, 0, none⟩)).flatMap encOneL).toArray 103)) (.slice (some ⟨ob, 0, none⟩) 3 3) (awO10 (some ⟨sb, 0, none⟩)) :=
    sliceArg_block (size := 11) (enc := encOneL) encOneL_len n0.2 rfl (by simp [awO10, maxLen])
  have hb := blocks_spec _ _ _ hO
  rw [awT10_eq] at hb
  unfold BlksPost at hb
  rw [awT10_len] at hb
  generalize hW0 : (w.alloc (.cells #[.string ⟨#[]⟩, .string ⟨#[]⟩] 9)).alloc (.cells ((awO10 (some ⟨sb, 0, none⟩)).flatMap encOneL).toArray 103) = W0 at hb k0
  have HB := Lib.hid (And.intro hsb hob)
  have H0 := Lib.hid (And.intro k0 hb)
  have HW0 := Lib.hid hW0
  have hnd : ((awT10.map (·.1)).map (·.id)).Nodup := by have := awT10_inv.nodup (by decide); rw [List.map_map]; exact this
  have hmm := @run_makeMap Tryz.prog
  have Hnd := Lib.hid hnd
  clear n0 k0 hO hsb hob hb hW0 hnd hmm
  go_enter Tryz.func11, Tryz.ntmps11
  go_wp2_with fail
  rw [← HB.out.1, ← HB.out.2]
  have hb := H0.out.2
  rw [← HW0.out] at hb
  refine hb.mono ?_
  rw [HW0.out]
  rintro e w1 ⟨g, c, mb, vt, rfl, hms, hmp, hmb, hbv, hk1⟩
  obtain ⟨a, ha⟩ : ∃ a : Addr, a = ⟨g, 0, none⟩ := ⟨_, rfl⟩
  rw [← ha] at hms ⊢
  clear ha
  have hn := new_spec W0.heap.size w1 7 a 3 c (awT10.map (·.1)) (some mb) (marksOf awT10) hms (by rw [List.length_map, awT10_len]; decide) Hnd.out hk1.size (.inl ⟨mb, rfl, hmp⟩)
  have Hn := Lib.hid hn
  have H1 := Lib.hid (And.intro hms (And.intro (H0.out.1.trans hk1) hk1.size))
  clear hms hmp hbv hk1 hn hb H0 HW0
  go_wp2_with fail
  refine Hn.out.mono ?_
  rintro e w2 ⟨L', vm, mb2, rfl, hp, hr, hm2, hmp2, hmb2, hk2⟩
  obtain rfl : L' = awT10.map (·.1) := rise_eq (fun m : MetaS => m.id.data.toList) hp hr awT10_rise
  obtain ⟨am, cm, rfl⟩ := hm2.form
  have hL3 : (awT10.map (·.1)).length = 3 := by rw [List.length_map, awT10_len]
  rw [hL3] at hm2 ⊢
  obtain ⟨lb, hlb⟩ : ∃ n, n = w2.heap.size := ⟨_, rfl⟩
  have ka : Keeps [] w2 (w2.alloc (.cells #[.int .i64 7, .slice am 3 cm, .map (some mb2)] 32)) := (Keeps.refl [] w2).alloc _
  have na := heap_new w2 (.cells #[.int .i64 7, .slice am 3 cm, .map (some mb2)] 32)
  rw [← hlb] at na
  have H2 := Lib.hid (And.intro (kp (hk2.trans ka) H1.out) (And.intro (kp ka (And.intro hm2 hmp2)) na))
  have Hlb := Lib.hid hlb
  have Hlen := Lib.hid hL3
  clear hp hr hm2 hmp2 hk2 ka na hlb hL3 H1 Hn
  go_upto_region 3 with fail
  rw [← Hlb.out]
  generalize w2.alloc (.cells #[.int .i64 7, .slice am 3 cm, .map (some mb2)] 32) = W3 at H2 ⊢
  clear Hlb
  have hsz3 : W0.heap.size ≤ W3.heap.size := H2.out.1.2.2
  have hlv := live_spec W0.heap.size W3 7 (some mb2) _ (awT10.map (·.1)) H2.out.2.1.1 (by rw [Hlen.out]; decide) (fun m hm => by
    obtain ⟨p, hp, rfl⟩ := List.mem_map.1 hm
    have := awT10_inv.few p hp
    omega) hsz3
  have Hlv := Lib.hid hlv
  have cb3 := cells_at H2.out.2.2
  have lb3 := lt_of_at H2.out.2.2
  clear hlv
  go_wp2_with fail
  refine Hlv.out.mono ?_
  rintro e w4 ⟨vl, rfl, hml, hk4⟩
  obtain ⟨al, cl, rfl⟩ := hml.form
  have hl1 : (liveL (awT10.map (·.1))).length = 1 := by have := congrArg List.length awT10_live; simpa using this
  have hlid : (liveL (awT10.map (·.1)))[0]'(by omega) = (liveL (awT10.map (·.1)))[0]'(by omega) := rfl
  obtain ⟨bl, ofl, hal, hbl, hcl⟩ := hml.id_at 0 (by omega)
  have hidl : ((liveL (awT10.map (·.1)))[0]'(by omega)).id = identB 3 2 := by
    have h2 := awT10_live
    have : ((liveL (awT10.map (·.1))).map (·.id))[0]? = some (identB 3 2) := by rw [h2]; rfl
    rw [List.getElem?_map, List.getElem?_eq_getElem (by omega)] at this
    simpa using this
  rw [hidl] at hcl
  rw [hl1]
  subst hal
  clear hlid hidl
  have H4 := Lib.hid (And.intro (kp hk4 H2.out) (And.intro hbl hcl))
  have n4 := hk4.at_ H2.out.2.2 (by simp)
  have hlok := listOk_of awT10_inv (by decide) (List.Perm.refl _) awT10_rise (at_ := 7) (by decide)
  have hmk : ∀ id t, look (marksOf awT10) id = some t → 0 ≤ t ∧ t ≤ 1099511627776 := fun id t h => (hlok.marks _ (look_mem h)).2
  have Henc := Lib.hid (listEnc_spec W0.heap.size w4 (.slice am 3 cm) (awT10.map (·.1)) 7 mb2 (marksOf awT10) (kp hk4 H2.out.2.1.1) hlok.ok (kp hk4 H2.out.2.1.2) hmk (by decide) (by rw [Hlen.out]; decide))
  have Hdec := Lib.hid (fun W => listDec_spec W ⟨(frameL 3 (lstL 7 (awT10.map (·.1)) (marksOf awT10))).toArray⟩ 7 (awT10.map (·.1)) (marksOf awT10) (by simp) hlok)
  have cb4 := cells_at n4
  have lb4 := lt_of_at n4
  clear n4 hk4 hml hbl hcl hlok hmk cb3 lb3 H2
  generalize (⟨(frameL 3 (lstL 7 (awT10.map (·.1)) (marksOf awT10))).toArray⟩ : ByteArray) = enc at Henc Hdec
  go_wp2_with fail
  refine Henc.out.mono ?_
  rintro e w5 ⟨rfl, hk5⟩
  go_wp2_with fail
  refine (Hdec.out _).mono ?_
  rintro e w6 ⟨vd, md, rfl, hmd, hpd, hk6⟩
  obtain ⟨ad, cd, rfl⟩ := hmd.form
  obtain ⟨qb, hqb⟩ : ∃ n, n = w6.heap.size := ⟨_, rfl⟩
  have ka : Keeps [] w6 (w6.alloc (.cells #[.int .i64 7, .slice ad (awT10.map (·.1)).length cd, .map (some md)] 32)) := (Keeps.refl [] w6).alloc _
  have na := heap_new w6 (.cells #[.int .i64 7, .slice ad (awT10.map (·.1)).length cd, .map (some md)] 32)
  rw [← hqb] at na
  rw [Hlen.out] at ka na ⊢
  have H7 := Lib.hid (And.intro (kp ((hk5.trans hk6).trans ka) H4.out.1) (And.intro na (kp ka hpd)))
  have cl7 : (w6.alloc (.cells #[.int .i64 7, .slice ad 3 cd, .map (some md)] 32)).cell? ⟨bl, ofl, none⟩ = some (.string (identB 3 2)) := by
    have := (((hk5.trans hk6).trans ka).cell H4.out.2.1 (by simp)).trans H4.out.2.2
    simpa using this
  have ll7 := ((hk5.trans hk6).trans ka).lt H4.out.2.1
  have Hqb := Lib.hid hqb
  clear ka na hqb hk5 hk6 hmd hpd H4 cb4 lb4 Henc Hdec
  go_upto_region 5 with fail
  rw [← Hqb.out]
  generalize w6.alloc (.cells #[.int .i64 7, .slice ad 3 cd, .map (some md)] 32) = W7 at H7 cl7 ll7 ⊢
  clear Hqb
  have cq := cells_at H7.out.2.1
  have lq := lt_of_at H7.out.2.1
  have cb := cells_at H7.out.1.2.2
  have lb := lt_of_at H7.out.1.2.2
  obtain ⟨bm, ofm, ham, hbm, hcm⟩ := H7.out.1.1.1.id_at 2 (by rw [Hlen.out]; decide)
  have hidm : ((awT10.map (·.1))[2]'(by rw [Hlen.out]; decide)).id = identB 3 2 := by
    have h2 := awT10_id
    rw [List.getElem?_map, List.getElem?_eq_getElem (by rw [Hlen.out]; decide)] at h2
    simpa using h2
  rw [hidm] at hcm
  injection ham with ham
  subst ham
  have cm7 : W7.cell? ⟨bm, ofm + 16, none⟩ = some (.string (identB 3 2)) := hcm
  have hrl : ∀ n, (Builtin.len_ #[30] 3 #[.map (some md)]).run Tryz.prog (W7.drewN n) = .ok (.int .i64 1) (W7.drewN n) := fun n => by
    have := (H7.out.2.2.drewN n).run_lenK (P := Tryz.prog) Tryz.underlying30 3
    rw [show (encMap encI (tookM (marksOf awT10) (awT10.map (·.1)))).length = 1 from by simp only [encMap, List.length_map]; exact awT10_took] at this
    exact this
  generalize identB 3 2 = idx at cl7 cm7
  have hse : (idx.toList == idx.toList) = true := by simp
  have hk := H7.out.1.1.2.1
  have HK := Lib.hid hk
  clear hcm hidm hk H7 hl1
  go_quiet (fail)
  rename_i nq
  have HF := Lib.hid (HK.out.drewN nq)
  go_wp2_with fail
  go_ret
  exact ⟨rfl, HF.out⟩
end Go.Proofs.YtjffdcflkkgpfaaGreat
