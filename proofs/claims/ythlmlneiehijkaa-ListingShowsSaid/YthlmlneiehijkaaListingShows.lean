/-
  ListingShows answers true for every tick, all lists of blocks, all times and every name, and leaves all memory that was there as it was.
  No condition: every input that can be read.
-/
import Derived.Test.YthlmlneiehijkaaLOver
import Derived.Test.YthlmlneiehijkaaLstArg
namespace Go.Proofs.Ythlmlneiehijkaa
open Go Go.RowKit Go.Conc
open Go.Op (bytesLess)

/-- What is known of the blocks, sorted. -/
structure ShowOk (atn : Nat) (T S : List BlkS) : Prop where
  perm : S.Perm T
  rise : (S.map (·.1)).Pairwise fun a b => bytesLess a.id.data.toList b.id.data.toList = true
  nodup : (S.map (fun p => p.1.id)).Nodup
  ok : ∀ p ∈ S, MetaOk p.1
  few : ∀ p ∈ S, p.1.sources.length ≤ 50
  files : ∀ p ∈ S, p.1.files.length ≤ 10
  mark : ∀ p ∈ S, -1 ≤ p.2 ∧ p.2 ≤ 65535
  list : ListOk atn (S.map (·.1)) (marksOf T)
  look : ∀ p ∈ S, look (marksOf T) p.1.id = markO p
  len : (marksOf T).length = marked S

theorem showOk {T : List BlkS} (h : BlkInv10 T) (hl : T.length ≤ 10) {atn : Nat} (ha : atn ≤ 1099511627776) : ShowOk atn T (sortT T) := by
  have hn := h.nodup (by omega)
  obtain ⟨hp, hr⟩ := sortT_ok hn
  have hin : ∀ p ∈ sortT T, p ∈ T := fun p hq => hp.subset hq
  have hr2 : ((sortT T).map (·.1)).Pairwise fun a b => bytesLess a.id.data.toList b.id.data.toList = true := by
    rw [List.pairwise_map]; exact hr
  have hn2 : ((sortT T).map (fun p => p.1.id)).Nodup := (hp.map _).nodup_iff.2 hn
  refine ⟨hp, hr2, hn2, fun p hq => h.ok p (hin p hq), fun p hq => by have := h.few p (hin p hq); omega, fun p hq => ?_, fun p hq => h.mark p (hin p hq), listOk_of h hl (hp.map _) hr2 ha, fun p hq => look_markO hn (hin p hq), by rw [marksOf_marked hn, marked_perm hp]⟩
  obtain ⟨s1, c1, s2, c2, e, -⟩ := (h.ok p (hin p hq)).files
  rw [e]
  exact Nat.le_of_ble_eq_true rfl

set_option linter.unusedSimpArgs false in
set_option maxRecDepth 100000 in
set_option maxHeartbeats 4000000 in
theorem listingShows_walk (w : World) (at_ : Int) (v : Value) (O : List OneL) (hO : SliceArg 11 encOneL w v O) (fr to_ : Int) (id : ByteArray) :
    Calls Try.prog 4 #[.int .i64 at_, v, .int .i64 fr, .int .i64 to_, .string id] w fun e w' => e = .returned (.bool true) ∧ Keeps [] w w' := by
  have Hb := Lib.hid (blocks_spec w v O hO)
  obtain ⟨T, hT⟩ : ∃ T, T = blkL (O.take 10) := ⟨_, rfl⟩
  have hinv : BlkInv10 T := by rw [hT]; exact blkInv _ (by rw [List.length_take]; omega)
  have hTl : T.length ≤ 10 := by rw [hT, blkL_len, List.length_take]; omega
  rw [← hT] at Hb
  obtain ⟨av, cv, rfl, -, -⟩ := hO
  obtain ⟨atn, hat⟩ : ∃ m : Nat, m = (min (max at_ 0) 1099511627776).toNat := ⟨_, rfl⟩
  have qa : min (max at_ 0) 1099511627776 = (atn : Int) := by omega
  have hatl : atn ≤ 1099511627776 := by omega
  have hnd : ((T.map (·.1)).map (·.id)).Nodup := by have := hinv.nodup (by omega); rw [List.map_map]; exact this
  have Hso := Lib.hid (And.intro (showOk hinv hTl hatl) hnd)
  obtain ⟨S, hS⟩ : ∃ S, S = sortT T := ⟨_, rfl⟩
  unfold BlksPost at Hb
  rw [← hS] at Hb Hso
  obtain ⟨k, hk⟩ : ∃ k, k = T.length := ⟨_, rfl⟩
  have hSk : S.length = k := by rw [Hso.out.1.perm.length_eq, hk]
  rw [← hk] at Hb hTl
  have Hk := Lib.hid (And.intro hk hSk)
  clear hat hk hT hinv hS hSk hnd
  go_enter Try.func4, Try.ntmps4
  go_wp2_with fail
  refine Hb.out.mono ?_
  rintro e w1 ⟨gm, c, mb, vt, rfl, hms, hmp, hmb, hbv, hk1⟩
  obtain ⟨a, ha⟩ : ∃ a : Addr, a = ⟨gm, 0, none⟩ := ⟨_, rfl⟩
  rw [← ha] at hms ⊢
  obtain ⟨bt, ct, hvt⟩ := hbv.form
  rw [Hk.out.2] at hvt
  subst hvt
  have hn := new_spec w.heap.size w1 atn a k c (T.map (·.1)) (some mb) (marksOf T) hms (by rw [List.length_map, ← Hk.out.1]; omega) Hso.out.2 hk1.size (.inl ⟨mb, rfl, hmp⟩)
  have Hn := Lib.hid hn
  have H1 := Lib.hid (And.intro hbv (And.intro hk1 hk1.size))
  clear ha hms hmp hmb hbv hk1 Hb hn
  go_wp2_with fail
  refine Hn.out.mono ?_
  rintro e w2 ⟨L', vm, mb2, rfl, hp, hr, hm2, hmp2, hmb2, hk2⟩
  obtain rfl : L' = S.map (·.1) := rise_eq (fun m : MetaS => m.id.data.toList) (hp.trans (Hso.out.1.perm.map _).symm) hr Hso.out.1.rise
  obtain ⟨am, cm, rfl⟩ := hm2.form
  rw [List.length_map, Hk.out.2] at hm2 ⊢
  obtain ⟨lb, hlb⟩ : ∃ n, n = w2.heap.size := ⟨_, rfl⟩
  obtain ⟨yb, hyb⟩ : ∃ n, n = lb + 1 := ⟨_, rfl⟩
  have n0 := new2 w2 (.cells #[.int .i64 atn, .slice am k cm, .map (some mb2)] 29) (.cells #[.int .i64 atn, .slice bt k ct] 38)
  have k0 : Keeps [] w2 ((w2.alloc (.cells #[.int .i64 atn, .slice am k cm, .map (some mb2)] 29)).alloc (.cells #[.int .i64 atn, .slice bt k ct] 38)) := ((Keeps.refl [] w2).alloc _).alloc _
  rw [← hlb, ← hyb] at n0
  have H3 := Lib.hid (And.intro (kp (hk2.trans k0) H1.out) (And.intro (kp k0 (And.intro hm2 hmp2)) n0))
  have Hlb := Lib.hid (And.intro hlb hyb)
  clear hp hr hm2 hmp2 hmb2 hk2 n0 k0 hlb hyb H1 Hn
  go_upto_region 5 with fail
  rw [← Hlb.out.1, ← Hlb.out.2]
  generalize (w2.alloc (.cells #[.int .i64 atn, .slice am k cm, .map (some mb2)] 29)).alloc (.cells #[.int .i64 atn, .slice bt k ct] 38) = W3 at H3 ⊢
  clear Hlb
  obtain ⟨W4, hW4⟩ : ∃ W, W = W3.drew := ⟨_, rfl⟩
  have kd : Keeps [] W3 W4 := by rw [hW4]; exact (Keeps.refl [] W3).drew
  have H4 := Lib.hid (kp kd H3.out)
  have HW := Lib.hid hW4
  clear H3 hW4 kd
  have cL : ∀ (s : Kept W4) i, s.val.cell? ⟨lb, i, none⟩ = (#[Value.int .i64 atn, .slice am k cm, .map (some mb2)] : Array Value)[i]? := fun s i => (s.property.cell (lt_of_at H4.out.2.2.1) (by simp)).trans (cells_at H4.out.2.2.1 i)
  have lL : ∀ s : Kept W4, lb < s.val.heap.size := fun s => s.property.lt (lt_of_at H4.out.2.2.1)
  have cY : ∀ (s : Kept W4) i, s.val.cell? ⟨yb, i, none⟩ = (#[Value.int .i64 atn, .slice bt k ct] : Array Value)[i]? := fun s i => (s.property.cell (lt_of_at H4.out.2.2.2) (by simp)).trans (cells_at H4.out.2.2.2 i)
  have lY : ∀ s : Kept W4, yb < s.val.heap.size := fun s => s.property.lt (lt_of_at H4.out.2.2.2)
  obtain ⟨enc, henc⟩ : ∃ e : ByteArray, e = ⟨(frameL 3 (lstL atn (S.map (·.1)) (marksOf T))).toArray⟩ := ⟨_, rfl⟩
  have hse : (enc.toList == enc.toList) = true := by simp
  have hSl : S.length ≤ 10 := by rw [Hk.out.2]; exact hTl
  have hmk : ∀ id t, look (marksOf T) id = some t → 0 ≤ t ∧ t ≤ 1099511627776 := fun id t h => (Hso.out.1.list.marks _ (look_mem h)).2
  have hml20 : (S.map (·.1)).length ≤ 20 := by rw [List.length_map]; omega
  have hmsr : ∀ m ∈ S.map (·.1), m.sources.length ≤ 50 := fun m hm => by obtain ⟨p, hp, rfl⟩ := List.mem_map.1 hm; exact Hso.out.1.few p hp
  have hmfl : ∀ m ∈ S.map (·.1), m.files.length ≤ 10 := fun m hm => by obtain ⟨p, hp, rfl⟩ := List.mem_map.1 hm; exact Hso.out.1.files p hp
  have Hsr := Lib.hid (And.intro hml20 (And.intro hmsr hmfl))
  have Haw := Lib.hid (fun W (_ : Keeps [] W4 W) => awake10_spec W)
  have His := Lib.hid (fun W (hk : Keeps [] W4 W) => is_spec w.heap.size w.heap.size W atn (.slice am k cm) (.slice bt k ct) mb2 (marksOf T) S (kp hk H4.out.2.1.1) (kp hk H4.out.1.1) (kp hk H4.out.2.1.2) (by omega) Hso.out.1.files (kp hk H4.out.1.2.2) Hso.out.1.look Hso.out.1.len)
  have Hck := Lib.hid (fun W (hk : Keeps [] W4 W) => listCheck_spec w.heap.size W atn mb2 (.slice am k cm) (S.map (·.1)) (marksOf T) (kp hk H4.out.2.1.1) (kp hk H4.out.2.1.2) Hso.out.1.list)
  have Hea := Lib.hid (fun W (hk : Keeps [] W4 W) => by
    have h := listEnc_spec w.heap.size W (.slice am k cm) (S.map (·.1)) atn mb2 (marksOf T) (kp hk H4.out.2.1.1) Hso.out.1.list.ok (kp hk H4.out.2.1.2) hmk hatl hml20
    rw [← henc] at h
    exact h)
  have Heb := Lib.hid (fun W (hk : Keeps [] W4 W) => by
    have h := enc10_spec w.heap.size W atn (.slice bt k ct) S (kp hk H4.out.1.1) hatl (by omega) (fun p hp => ⟨Hso.out.1.ok p hp, Hso.out.1.mark p hp⟩)
    rw [lstT_eq Hso.out.1.look (fun p hp => (Hso.out.1.mark p hp).1), show strB (frameL 3 (lstL atn (S.map (·.1)) (marksOf T))) = enc from henc.symm] at h
    exact h)
  have Hoa := Lib.hid (fun W (hk : Keeps [] W4 W) => lover_spec w.heap.size W atn (some mb2) (.slice am k cm) (S.map (·.1)) fr to_ (kp hk H4.out.2.1.1) hml20 hmsr (kp hk H4.out.1.2.2))
  have Hob := Lib.hid (fun W (hk : Keeps [] W4 W) fr to_ => over10_spec w.heap.size W atn fr to_ (.slice bt k ct) S (kp hk H4.out.1.1) (by omega) Hso.out.1.few (kp hk H4.out.1.2.2))
  have Hlv := Lib.hid (fun W (hk : Keeps [] W4 W) => live_spec w.heap.size W atn (some mb2) (.slice am k cm) (S.map (·.1)) (kp hk H4.out.2.1.1) hml20 hmsr (kp hk H4.out.1.2.2))
  have Hme := Lib.hid (fun W (hk : Keeps [] W4 W) u v Q h1 h2 (hq : ∀ m ∈ Q, m ∈ S.map (·.1)) (hql : Q.length ≤ 1000) => metas_yes w.heap.size w.heap.size W u v Q h1 h2 hql (fun m hm => hmfl m (hq m hm)) (kp hk H4.out.1.2.2))
  clear henc hmk hml20 hmsr hmfl
  refine wp_region_held_drew (S := KeptS W4) (by kernel_rfl) (by rw [← HW.out]; exact keptS (Keeps.refl _ _)) (fun hS => ?_)
  rw [← HW.out] at hS ⊢
  clear HW
  refine wpAnyH_ready (rs := [0]) (by kernel_rfl) (by simp) ?_
  refine AllReadyH.cons rfl (fun K hK => ?_) AllReadyH.nil
  go_simp
  go_at_call 10
  refine (Haw.out _ (Keeps.refl _ _)).mono ?_
  rintro e A1 ⟨rfl, kA1⟩
  go_simp
  refine hK.out _ _ (keptS kA1) (fun hS => ?_)
  clear hK K
  try simp only [Act.put, List.getElem_toArray, List.getElem_cons_succ, List.getElem_cons_zero, List.setIfInBounds_toArray, List.set_cons_zero, List.set_cons_succ]
  refine wpAnyH_take (i := 1) (v := ?_) rfl (by kernel_rfl) (by kernel_rfl) (by kernel_rfl) (fun _ _ _ h => h) (Or.inl ⟨by rfl, ?_⟩) (by assumption) ?_
  rotate_left
  · intro w' s1; obtain ⟨s, rfl⟩ := s1; go_simp; (try with_reducible rfl)
  simp only [Act.put, List.getElem_toArray, List.getElem_cons_succ, List.getElem_cons_zero, List.setIfInBounds_toArray, List.set_cons_zero, List.set_cons_succ]
  refine wpAnyH_take (i := 2) (v := ?_) rfl (by kernel_rfl) (by kernel_rfl) (by kernel_rfl) (fun _ _ _ h => h) (Or.inl ⟨by rfl, ?_⟩) (by assumption) ?_
  rotate_left
  · intro w' s1; obtain ⟨s, rfl⟩ := s1; go_simp; (try with_reducible rfl)
  simp only [Act.put, List.getElem_toArray, List.getElem_cons_succ, List.getElem_cons_zero, List.setIfInBounds_toArray, List.set_cons_zero, List.set_cons_succ]
  refine wpAnyH_take (i := 3) (v := ?_) rfl (by kernel_rfl) (by kernel_rfl) (by kernel_rfl) (fun _ _ _ h => h) (Or.inl ⟨by rfl, ?_⟩) (by assumption) ?_
  rotate_left
  · intro w' s1; obtain ⟨s, rfl⟩ := s1; go_simp; (try with_reducible rfl)
  simp only [Act.put, List.getElem_toArray, List.getElem_cons_succ, List.getElem_cons_zero, List.setIfInBounds_toArray, List.set_cons_zero, List.set_cons_succ]
  refine wpAnyH_take (i := 4) (v := ?_) rfl (by kernel_rfl) (by kernel_rfl) (by kernel_rfl) (fun _ _ _ h => h) (Or.inl ⟨by rfl, ?_⟩) (by assumption) ?_
  rotate_left
  · intro w' s1; obtain ⟨s, rfl⟩ := s1; go_simp; (try with_reducible rfl)
  simp only [Act.put, List.getElem_toArray, List.getElem_cons_succ, List.getElem_cons_zero, List.setIfInBounds_toArray, List.set_cons_zero, List.set_cons_succ]
  refine wpAnyH_ready (rs := [5]) (by kernel_rfl) (by simp) ?_
  refine AllReadyH.cons rfl (fun K hK => ?_) AllReadyH.nil
  go_simp
  go_at_call 11
  refine (His.out _ kA1).mono ?_
  rintro e A2 ⟨rfl, kB2⟩
  have kA2 := kA1.trans kB2
  go_simp
  refine hK.out _ _ (keptS kA2) (fun hS => ?_)
  clear hK K
  try simp only [Act.put, List.getElem_toArray, List.getElem_cons_succ, List.getElem_cons_zero, List.setIfInBounds_toArray, List.set_cons_zero, List.set_cons_succ]
  refine wpAnyH_take (i := 6) (v := ?_) rfl (by kernel_rfl) (by kernel_rfl) (by kernel_rfl) (fun _ _ _ h => h) (Or.inl ⟨by rfl, ?_⟩) (by assumption) ?_
  rotate_left
  · intro w' s1; obtain ⟨s, rfl⟩ := s1; go_simp; (try with_reducible rfl)
  simp only [Act.put, List.getElem_toArray, List.getElem_cons_succ, List.getElem_cons_zero, List.setIfInBounds_toArray, List.set_cons_zero, List.set_cons_succ]
  refine wpAnyH_take (i := 7) (v := ?_) rfl (by kernel_rfl) (by kernel_rfl) (by kernel_rfl) (fun _ _ _ h => h) (Or.inl ⟨by rfl, ?_⟩) (by assumption) ?_
  rotate_left
  · intro w' s1; obtain ⟨s, rfl⟩ := s1; go_simp; (try with_reducible rfl)
  simp only [Act.put, List.getElem_toArray, List.getElem_cons_succ, List.getElem_cons_zero, List.setIfInBounds_toArray, List.set_cons_zero, List.set_cons_succ]
  refine wpAnyH_take (i := 8) (v := ?_) rfl (by kernel_rfl) (by kernel_rfl) (by kernel_rfl) (fun _ _ _ h => h) (Or.inl ⟨by rfl, ?_⟩) (by assumption) ?_
  rotate_left
  · intro w' s1; obtain ⟨s, rfl⟩ := s1; go_simp; (try with_reducible rfl)
  simp only [Act.put, List.getElem_toArray, List.getElem_cons_succ, List.getElem_cons_zero, List.setIfInBounds_toArray, List.set_cons_zero, List.set_cons_succ]
  refine wpAnyH_take (i := 9) (v := ?_) rfl (by kernel_rfl) (by kernel_rfl) (by kernel_rfl) (fun _ _ _ h => h) (Or.inl ⟨by rfl, ?_⟩) (by assumption) ?_
  rotate_left
  · intro w' s1; obtain ⟨s, rfl⟩ := s1; go_simp; (try with_reducible rfl)
  simp only [Act.put, List.getElem_toArray, List.getElem_cons_succ, List.getElem_cons_zero, List.setIfInBounds_toArray, List.set_cons_zero, List.set_cons_succ]
  refine wpAnyH_ready (rs := [10]) (by kernel_rfl) (by simp) ?_
  refine AllReadyH.cons rfl (fun K hK => ?_) AllReadyH.nil
  go_simp
  go_at_call 12
  refine (Hck.out _ kA2).mono ?_
  rintro e A3 ⟨rfl, kB3⟩
  have kA3 := kA2.trans kB3
  go_simp
  refine hK.out _ _ (keptS kA3) (fun hS => ?_)
  clear hK K
  try simp only [Act.put, List.getElem_toArray, List.getElem_cons_succ, List.getElem_cons_zero, List.setIfInBounds_toArray, List.set_cons_zero, List.set_cons_succ]
  refine wpAnyH_take (i := 11) (v := ?_) rfl (by kernel_rfl) (by kernel_rfl) (by kernel_rfl) (fun _ _ _ h => h) (Or.inl ⟨by rfl, ?_⟩) (by assumption) ?_
  rotate_left
  · intro w' s1; obtain ⟨s, rfl⟩ := s1; go_simp; (try with_reducible rfl)
  simp only [Act.put, List.getElem_toArray, List.getElem_cons_succ, List.getElem_cons_zero, List.setIfInBounds_toArray, List.set_cons_zero, List.set_cons_succ]
  refine wpAnyH_take (i := 12) (v := ?_) rfl (by kernel_rfl) (by kernel_rfl) (by kernel_rfl) (fun _ _ _ h => h) (Or.inl ⟨by rfl, ?_⟩) (by assumption) ?_
  rotate_left
  · intro w' s1; obtain ⟨s, rfl⟩ := s1; go_simp; (try with_reducible rfl)
  simp only [Act.put, List.getElem_toArray, List.getElem_cons_succ, List.getElem_cons_zero, List.setIfInBounds_toArray, List.set_cons_zero, List.set_cons_succ]
  refine wpAnyH_take (i := 13) (v := ?_) rfl (by kernel_rfl) (by kernel_rfl) (by kernel_rfl) (fun _ _ _ h => h) (Or.inl ⟨by rfl, ?_⟩) (by assumption) ?_
  rotate_left
  · intro w' s1; obtain ⟨s, rfl⟩ := s1; go_simp; (try with_reducible rfl)
  simp only [Act.put, List.getElem_toArray, List.getElem_cons_succ, List.getElem_cons_zero, List.setIfInBounds_toArray, List.set_cons_zero, List.set_cons_succ]
  refine wpAnyH_take (i := 14) (v := ?_) rfl (by kernel_rfl) (by kernel_rfl) (by kernel_rfl) (fun _ _ _ h => h) (Or.inl ⟨by rfl, ?_⟩) (by assumption) ?_
  rotate_left
  · intro w' s1; obtain ⟨s, rfl⟩ := s1; go_simp; (try with_reducible rfl)
  simp only [Act.put, List.getElem_toArray, List.getElem_cons_succ, List.getElem_cons_zero, List.setIfInBounds_toArray, List.set_cons_zero, List.set_cons_succ]
  refine wpAnyH_take (i := 16) (v := ?_) rfl (by kernel_rfl) (by kernel_rfl) (by kernel_rfl) (fun _ _ _ h => h) (Or.inl ⟨by rfl, ?_⟩) (by assumption) ?_
  rotate_left
  · intro w' s1; obtain ⟨s, rfl⟩ := s1; go_simp; (try with_reducible rfl)
  simp only [Act.put, List.getElem_toArray, List.getElem_cons_succ, List.getElem_cons_zero, List.setIfInBounds_toArray, List.set_cons_zero, List.set_cons_succ]
  refine wpAnyH_ready (rs := [15]) (by kernel_rfl) (by simp) ?_
  refine AllReadyH.cons rfl (fun K hK => ?_) AllReadyH.nil
  go_simp
  go_at_call 9
  refine (Hea.out _ kA3).mono ?_
  rintro e A4 ⟨rfl, kB4⟩
  have kA4 := kA3.trans kB4
  go_simp
  refine hK.out _ _ (keptS kA4) (fun hS => ?_)
  clear hK K
  try simp only [Act.put, List.getElem_toArray, List.getElem_cons_succ, List.getElem_cons_zero, List.setIfInBounds_toArray, List.set_cons_zero, List.set_cons_succ]
  refine wpAnyH_ready (rs := [17]) (by kernel_rfl) (by simp) ?_
  refine AllReadyH.cons rfl (fun K hK => ?_) AllReadyH.nil
  go_simp
  go_at_call 13
  refine (Heb.out _ kA4).mono ?_
  rintro e A5 ⟨rfl, kB5⟩
  have kA5 := kA4.trans kB5
  go_simp
  refine hK.out _ _ (keptS kA5) (fun hS => ?_)
  clear hK K
  try simp only [Act.put, List.getElem_toArray, List.getElem_cons_succ, List.getElem_cons_zero, List.setIfInBounds_toArray, List.set_cons_zero, List.set_cons_succ]
  refine wpAnyH_take (i := 18) (v := ?_) rfl (by kernel_rfl) (by kernel_rfl) (by kernel_rfl) (fun _ _ _ h => h) (Or.inl ⟨by rfl, ?_⟩) (by assumption) ?_
  rotate_left
  · intro w' s1; obtain ⟨s, rfl⟩ := s1; go_simp; (try with_reducible rfl)
  simp only [Act.put, List.getElem_toArray, List.getElem_cons_succ, List.getElem_cons_zero, List.setIfInBounds_toArray, List.set_cons_zero, List.set_cons_succ]
  refine wpAnyH_take (i := 19) (v := ?_) rfl (by kernel_rfl) (by kernel_rfl) (by kernel_rfl) (fun _ _ _ h => h) (Or.inl ⟨by rfl, ?_⟩) (by assumption) ?_
  rotate_left
  · intro w' s1; obtain ⟨s, rfl⟩ := s1; go_simp; (try with_reducible rfl)
  simp only [Act.put, List.getElem_toArray, List.getElem_cons_succ, List.getElem_cons_zero, List.setIfInBounds_toArray, List.set_cons_zero, List.set_cons_succ]
  refine wpAnyH_take (i := 20) (v := ?_) rfl (by kernel_rfl) (by kernel_rfl) (by kernel_rfl) (fun _ _ _ h => h) (Or.inl ⟨by rfl, ?_⟩) (by assumption) ?_
  rotate_left
  · intro w' s1; obtain ⟨s, rfl⟩ := s1; go_simp; (try with_reducible rfl)
  simp only [Act.put, List.getElem_toArray, List.getElem_cons_succ, List.getElem_cons_zero, List.setIfInBounds_toArray, List.set_cons_zero, List.set_cons_succ]
  refine wpAnyH_take (i := 21) (v := ?_) rfl (by kernel_rfl) (by kernel_rfl) (by kernel_rfl) (fun _ _ _ h => h) (Or.inl ⟨by rfl, ?_⟩) (by assumption) ?_
  rotate_left
  · intro w' s1; obtain ⟨s, rfl⟩ := s1; go_simp; (try with_reducible rfl)
  simp only [Act.put, List.getElem_toArray, List.getElem_cons_succ, List.getElem_cons_zero, List.setIfInBounds_toArray, List.set_cons_zero, List.set_cons_succ]
  refine wpAnyH_take (i := 22) (v := ?_) rfl (by kernel_rfl) (by kernel_rfl) (by kernel_rfl) (fun _ _ _ h => h) (Or.inl ⟨by rfl, ?_⟩) (by assumption) ?_
  rotate_left
  · intro w' s1; obtain ⟨s, rfl⟩ := s1; go_simp; (try with_reducible rfl)
  simp only [Act.put, List.getElem_toArray, List.getElem_cons_succ, List.getElem_cons_zero, List.setIfInBounds_toArray, List.set_cons_zero, List.set_cons_succ]
  refine wpAnyH_take (i := 23) (v := ?_) rfl (by kernel_rfl) (by kernel_rfl) (by kernel_rfl) (fun _ _ _ h => h) (Or.inl ⟨by rfl, ?_⟩) (by assumption) ?_
  rotate_left
  · intro w' s1; obtain ⟨s, rfl⟩ := s1; go_simp; (try with_reducible rfl)
  simp only [Act.put, List.getElem_toArray, List.getElem_cons_succ, List.getElem_cons_zero, List.setIfInBounds_toArray, List.set_cons_zero, List.set_cons_succ]
  refine wpAnyH_take (i := 25) (v := ?_) rfl (by kernel_rfl) (by kernel_rfl) (by kernel_rfl) (fun _ _ _ h => h) (Or.inl ⟨by rfl, ?_⟩) (by assumption) ?_
  rotate_left
  · intro w' s1; obtain ⟨s, rfl⟩ := s1; go_simp; (try with_reducible rfl)
  simp only [Act.put, List.getElem_toArray, List.getElem_cons_succ, List.getElem_cons_zero, List.setIfInBounds_toArray, List.set_cons_zero, List.set_cons_succ]
  refine wpAnyH_take (i := 26) (v := ?_) rfl (by kernel_rfl) (by kernel_rfl) (by kernel_rfl) (fun _ _ _ h => h) (Or.inl ⟨by rfl, ?_⟩) (by assumption) ?_
  rotate_left
  · intro w' s1; obtain ⟨s, rfl⟩ := s1; go_simp; (try with_reducible rfl)
  simp only [Act.put, List.getElem_toArray, List.getElem_cons_succ, List.getElem_cons_zero, List.setIfInBounds_toArray, List.set_cons_zero, List.set_cons_succ]
  refine wpAnyH_take (i := 27) (v := ?_) rfl (by kernel_rfl) (by kernel_rfl) (by kernel_rfl) (fun _ _ _ h => h) (Or.inl ⟨by rfl, ?_⟩) (by assumption) ?_
  rotate_left
  · intro w' s1; obtain ⟨s, rfl⟩ := s1; go_simp; (try with_reducible rfl)
  simp only [Act.put, List.getElem_toArray, List.getElem_cons_succ, List.getElem_cons_zero, List.setIfInBounds_toArray, List.set_cons_zero, List.set_cons_succ]
  refine wpAnyH_ready (rs := [24]) (by kernel_rfl) (by simp) ?_
  refine AllReadyH.cons rfl (fun K hK => ?_) AllReadyH.nil
  go_simp
  go_at_call 15
  refine (Hoa.out _ kA5).mono ?_
  rintro e A6 ⟨voa, rfl, hoa, kB6⟩
  have kA6 := kA5.trans kB6
  have Hva := Lib.hid hoa
  clear hoa
  go_simp
  refine hK.out _ _ (keptS kA6) (fun hS => ?_)
  clear hK K
  try simp only [Act.put, List.getElem_toArray, List.getElem_cons_succ, List.getElem_cons_zero, List.setIfInBounds_toArray, List.set_cons_zero, List.set_cons_succ]
  refine wpAnyH_ready (rs := [28]) (by kernel_rfl) (by simp) ?_
  refine AllReadyH.cons rfl (fun K hK => ?_) AllReadyH.nil
  go_simp
  go_at_call 16
  refine (Hob.out _ kA6 fr to_).mono ?_
  rintro e A7 ⟨vob, rfl, hob, kB7⟩
  have kA7 := kA6.trans kB7
  rw [over_eq] at hob
  have Hvb := Lib.hid (And.intro hob (kp kB7 Hva.out))
  clear hob
  go_simp
  refine hK.out _ _ (keptS kA7) (fun hS => ?_)
  clear hK K
  try simp only [Act.put, List.getElem_toArray, List.getElem_cons_succ, List.getElem_cons_zero, List.setIfInBounds_toArray, List.set_cons_zero, List.set_cons_succ]
  refine wpAnyH_ready (rs := [29]) (by kernel_rfl) (by simp) ?_
  refine AllReadyH.cons rfl (fun K hK => ?_) AllReadyH.nil
  go_simp
  go_at_call 14
  refine (Hme.out _ kA7 _ _ _ Hvb.out.2 Hvb.out.1 (fun m hm => (List.mem_filter.1 (List.mem_filter.1 hm).1).1) (Nat.le_trans (Nat.le_trans (List.length_filter_le _ _) (List.length_filter_le _ _)) (Nat.le_trans Hsr.out.1 (by decide)))).mono ?_
  rintro e A8 ⟨rfl, kB8⟩
  have kA8 := kA7.trans kB8
  go_simp
  refine hK.out _ _ (keptS kA8) (fun hS => ?_)
  clear hK K
  try simp only [Act.put, List.getElem_toArray, List.getElem_cons_succ, List.getElem_cons_zero, List.setIfInBounds_toArray, List.set_cons_zero, List.set_cons_succ]
  refine wpAnyH_take (i := 30) (v := ?_) rfl (by kernel_rfl) (by kernel_rfl) (by kernel_rfl) (fun _ _ _ h => h) (Or.inl ⟨by rfl, ?_⟩) (by assumption) ?_
  rotate_left
  · intro w' s1; obtain ⟨s, rfl⟩ := s1; go_simp; (try with_reducible rfl)
  simp only [Act.put, List.getElem_toArray, List.getElem_cons_succ, List.getElem_cons_zero, List.setIfInBounds_toArray, List.set_cons_zero, List.set_cons_succ]
  refine wpAnyH_take (i := 31) (v := ?_) rfl (by kernel_rfl) (by kernel_rfl) (by kernel_rfl) (fun _ _ _ h => h) (Or.inl ⟨by rfl, ?_⟩) (by assumption) ?_
  rotate_left
  · intro w' s1; obtain ⟨s, rfl⟩ := s1; go_simp; (try with_reducible rfl)
  simp only [Act.put, List.getElem_toArray, List.getElem_cons_succ, List.getElem_cons_zero, List.setIfInBounds_toArray, List.set_cons_zero, List.set_cons_succ]
  refine wpAnyH_take (i := 32) (v := ?_) rfl (by kernel_rfl) (by kernel_rfl) (by kernel_rfl) (fun _ _ _ h => h) (Or.inl ⟨by rfl, ?_⟩) (by assumption) ?_
  rotate_left
  · intro w' s1; obtain ⟨s, rfl⟩ := s1; go_simp; (try with_reducible rfl)
  simp only [Act.put, List.getElem_toArray, List.getElem_cons_succ, List.getElem_cons_zero, List.setIfInBounds_toArray, List.set_cons_zero, List.set_cons_succ]
  refine wpAnyH_take (i := 33) (v := ?_) rfl (by kernel_rfl) (by kernel_rfl) (by kernel_rfl) (fun _ _ _ h => h) (Or.inl ⟨by rfl, ?_⟩) (by assumption) ?_
  rotate_left
  · intro w' s1; obtain ⟨s, rfl⟩ := s1; go_simp; (try with_reducible rfl)
  simp only [Act.put, List.getElem_toArray, List.getElem_cons_succ, List.getElem_cons_zero, List.setIfInBounds_toArray, List.set_cons_zero, List.set_cons_succ]
  refine wpAnyH_take (i := 35) (v := ?_) rfl (by kernel_rfl) (by kernel_rfl) (by kernel_rfl) (fun _ _ _ h => h) (Or.inl ⟨by rfl, ?_⟩) (by assumption) ?_
  rotate_left
  · intro w' s1; obtain ⟨s, rfl⟩ := s1; go_simp; (try with_reducible rfl)
  simp only [Act.put, List.getElem_toArray, List.getElem_cons_succ, List.getElem_cons_zero, List.setIfInBounds_toArray, List.set_cons_zero, List.set_cons_succ]
  refine wpAnyH_ready (rs := [34]) (by kernel_rfl) (by simp) ?_
  refine AllReadyH.cons rfl (fun K hK => ?_) AllReadyH.nil
  go_simp
  go_at_call 17
  refine (Hlv.out _ kA8).mono ?_
  rintro e A9 ⟨vla, rfl, hla, kB9⟩
  have kA9 := kA8.trans kB9
  have Hwa := Lib.hid hla
  clear hla
  go_simp
  refine hK.out _ _ (keptS kA9) (fun hS => ?_)
  clear hK K
  try simp only [Act.put, List.getElem_toArray, List.getElem_cons_succ, List.getElem_cons_zero, List.setIfInBounds_toArray, List.set_cons_zero, List.set_cons_succ]
  refine wpAnyH_ready (rs := [36]) (by kernel_rfl) (by simp) ?_
  refine AllReadyH.cons rfl (fun K hK => ?_) AllReadyH.nil
  go_simp
  go_at_call 16
  refine (Hob.out _ kA9 0 1125899906842624).mono ?_
  rintro e A10 ⟨vlb, rfl, hlb, kB10⟩
  have kA10 := kA9.trans kB10
  rw [all_eq Hso.out.1.ok] at hlb
  have Hwb := Lib.hid (And.intro hlb (kp kB10 Hwa.out))
  clear hlb
  go_simp
  refine hK.out _ _ (keptS kA10) (fun hS => ?_)
  clear hK K
  try simp only [Act.put, List.getElem_toArray, List.getElem_cons_succ, List.getElem_cons_zero, List.setIfInBounds_toArray, List.set_cons_zero, List.set_cons_succ]
  refine wpAnyH_ready (rs := [37]) (by kernel_rfl) (by simp) ?_
  refine AllReadyH.cons rfl (fun K hK => ?_) AllReadyH.nil
  go_simp
  go_at_call 14
  refine (Hme.out _ kA10 _ _ _ Hwb.out.2 Hwb.out.1 (fun m hm => (List.mem_filter.1 hm).1) (Nat.le_trans (List.length_filter_le _ _) (Nat.le_trans Hsr.out.1 (by decide)))).mono ?_
  rintro e A11 ⟨rfl, kB11⟩
  have kA11 := kA10.trans kB11
  go_simp
  refine hK.out _ _ (keptS kA11) (fun hS => ?_)
  clear hK K
  try simp only [Act.put, List.getElem_toArray, List.getElem_cons_succ, List.getElem_cons_zero, List.setIfInBounds_toArray, List.set_cons_zero, List.set_cons_succ]
  refine wpAnyH_take (i := 38) (v := ?_) rfl (by kernel_rfl) (by kernel_rfl) (by kernel_rfl) (fun _ _ _ h => h) (Or.inl ⟨by rfl, ?_⟩) (by assumption) ?_
  rotate_left
  · intro w' s1; obtain ⟨s, rfl⟩ := s1; go_simp; (try with_reducible rfl)
  simp only [Act.put, List.getElem_toArray, List.getElem_cons_succ, List.getElem_cons_zero, List.setIfInBounds_toArray, List.set_cons_zero, List.set_cons_succ]
  refine wpAnyH_take (i := 39) (v := ?_) rfl (by kernel_rfl) (by kernel_rfl) (by kernel_rfl) (fun _ _ _ h => h) (Or.inl ⟨by rfl, ?_⟩) (by assumption) ?_
  rotate_left
  · intro w' s1; obtain ⟨s, rfl⟩ := s1; go_simp; (try with_reducible rfl)
  simp only [Act.put, List.getElem_toArray, List.getElem_cons_succ, List.getElem_cons_zero, List.setIfInBounds_toArray, List.set_cons_zero, List.set_cons_succ]
  refine wpAnyH_done (by kernel_rfl) ?_ _
  have H5 := Lib.hid (kp kA11 H4.out)
  have c5 := cells_at H5.out.2.2.1
  have l5 := lt_of_at H5.out.2.2.1
  clear kA2 kB2 kA3 kB3 kA4 kB4 kA5 kB5 kA6 kB6 kA7 kB7 kA8 kB8 kA9 kB9 kA10 kB10 kA11 kB11 kA1
  clear cL lL cY lY hse Haw His Hck Hea Heb Hoa Hob Hlv Hme hS H4 Hva Hvb Hwa Hwb
  generalize A11 = W5 at H5 c5 l5 ⊢
  have Hmd := Lib.hid (made_spec w.heap.size W5 atn (some mb2) (.slice am k cm) (S.map (·.1)) H5.out.2.1.1 Hsr.out.1 Hsr.out.2.1)
  go_wp2_with fail
  refine Hmd.out.mono ?_
  rintro e w6 ⟨mo, rfl, hmw, hmo, hk6⟩
  have H6 := Lib.hid (And.intro (kp hk6 H5.out) hmo)
  clear hmo hk6 Hmd H5 c5 l5
  go_wp2_with fail
  go_loopg [83] k (SameRel w6 k)
  case atStart => exact ⟨0, Nat.zero_le _, rfl, rfl, Keeps.refl _ _⟩
  case round =>
    obtain ⟨i, hi, hgi, rfl, hkr⟩ := hrel
    have Hg := Lib.hid hgi
    have Hr := Lib.hid (And.intro hkr (kp hkr H6.out))
    clear hgi
    by_cases hlt : i < S.length
    · obtain ⟨b2, o2, f2, g2, p2, q2, e2, hb2, hm2, d0, d1, d2, d3, d4, d5, d6, d7, d8⟩ := BlksV.elem Hr.out.2.1.1.1 i hlt
      subst e2
      have hone := fun (m : MetaS) hm h => id_one Hso.out.1.nodup hlt (m := m) hm h
      have hmem : S[i].1 ∈ S.map (·.1) := List.mem_map.2 ⟨S[i], List.getElem_mem _, rfl⟩
      obtain ⟨⟨m, mk⟩, hme⟩ : ∃ m, m = S[i] := ⟨_, rfl⟩
      rw [← hme] at d0 d1 d2 d3 d4 d5 d6 d7 d8 hm2 hone hmem
      simp only at d0 d1 d2 d3 d4 d5 d6 d7 d8 hm2 hone hmem
      have hlt' : (i : Int) < (k : Int) := by have := Hk.out.2; omega
      have ka : Keeps [] wr (wr.alloc (.cells #[.string m.id, .int .i64 m.mn, .int .i64 m.mx, .int .i64 m.level, .int .i64 m.series, .int .i64 m.samples, .slice f2 m.files.length g2, .slice p2 m.sources.length q2, .int .i64 mk] 53)) := (Keeps.refl [] wr).alloc _
      have na := heap_new wr (.cells #[.string m.id, .int .i64 m.mn, .int .i64 m.mx, .int .i64 m.level, .int .i64 m.series, .int .i64 m.samples, .slice f2 m.files.length g2, .slice p2 m.sources.length q2, .int .i64 mk] 53)
      have HA := Lib.hid (And.intro na (And.intro (hkr.trans ka) (And.intro (kp ka Hr.out.2) (kp ka hm2))))
      have Hone := Lib.hid (And.intro hone hmem)
      clear hkr hme ka na hm2 Hr hone hmem
      go_upto_region 11 with fail
      clear d0 d1 d2 d3 d4 d5 d6 d7 d8
      generalize hWa : wr.alloc (.cells #[.string m.id, .int .i64 m.mn, .int .i64 m.mx, .int .i64 m.level, .int .i64 m.series, .int .i64 m.samples, .slice f2 m.files.length g2, .slice p2 m.sources.length q2, .int .i64 mk] 53) = Wa at HA ⊢
      generalize hzb : wr.heap.size = zb at HA ⊢
      clear hWa hzb
      have cz := cells_at HA.out.1
      have lz := lt_of_at HA.out.1
      have cl := cells_at HA.out.2.2.1.1.2.2.1
      have ll := lt_of_at HA.out.2.2.1.1.2.2.1
      have Hfd := Lib.hid (find_spec w.heap.size Wa atn (.map (some mb2)) (.slice am k cm) (S.map (·.1)) m.id HA.out.2.2.1.1.2.1.1 (Nat.le_trans Hsr.out.1 (by decide)) Hso.out.1.rise (some mb2) rfl)
      go_wp2_with fail
      refine Hfd.out.mono ?_
      rintro e w7 ⟨vs, okb, rfl, hfo, hfm, hk7⟩
      have hok : okb = true := hfo.2 ⟨m, Hone.out.2, rfl⟩
      subst hok
      obtain ⟨m', hm', hid', hmv⟩ := hfm rfl
      have hmm : m = m' := (Hone.out.1 m' hm' hid').symm
      subst hmm
      have hmv2 := hmv
      obtain ⟨vf, vo, rfl, hff, hoo⟩ := hmv2
      obtain ⟨f3, g3, rfl, -, -, -, -⟩ := hff
      obtain ⟨p3, q3, rfl, -, -, -, -⟩ := hoo
      have kb : Keeps [] w7 (w7.alloc (.cells #[.string m.id, .int .i64 m.mn, .int .i64 m.mx, .int .i64 m.level, .int .i64 m.series, .int .i64 m.samples, .slice f3 m.files.length g3, .slice p3 m.sources.length q3] 56)) := (Keeps.refl [] w7).alloc _
      have nb := heap_new w7 (.cells #[.string m.id, .int .i64 m.mn, .int .i64 m.mx, .int .i64 m.level, .int .i64 m.series, .int .i64 m.samples, .slice f3 m.files.length g3, .slice p3 m.sources.length q3] 56)
      have H8 := Lib.hid (And.intro nb (And.intro (kp (hk7.trans kb) HA.out) (kp kb hmv)))
      clear hfo hfm hm' hid' hmv hk7 kb nb cz lz cl ll Hfd HA
      go_upto_region 12 with fail
      generalize hW8 : w7.alloc (.cells #[.string m.id, .int .i64 m.mn, .int .i64 m.mx, .int .i64 m.level, .int .i64 m.series, .int .i64 m.samples, .slice f3 m.files.length g3, .slice p3 m.sources.length q3] 56) = W8 at H8 ⊢
      generalize hzz : w7.heap.size = zz at H8 ⊢
      clear hW8 hzz
      obtain ⟨W9, hW9⟩ : ∃ W, W = W8.drew := ⟨_, rfl⟩
      have kd : Keeps [] W8 W9 := by rw [hW9]; exact (Keeps.refl [] W8).drew
      obtain ⟨nz, ⟨nb, hk9, ⟨hx9, hmo9⟩, hm2⟩, hmv⟩ := kp kd H8.out
      have cZ : ∀ (s : Kept W9) i, s.val.cell? ⟨zz, i, none⟩ = (#[.string m.id, .int .i64 m.mn, .int .i64 m.mx, .int .i64 m.level, .int .i64 m.series, .int .i64 m.samples, .slice f3 m.files.length g3, .slice p3 m.sources.length q3] : Array Value)[i]? := fun s i => (s.property.cell (lt_of_at nz) (by simp)).trans (cells_at nz i)
      have lZ : ∀ s : Kept W9, zz < s.val.heap.size := fun s => s.property.lt (lt_of_at nz)
      have cB : ∀ (s : Kept W9) i, s.val.cell? ⟨zb, i, none⟩ = (#[.string m.id, .int .i64 m.mn, .int .i64 m.mx, .int .i64 m.level, .int .i64 m.series, .int .i64 m.samples, .slice f2 m.files.length g2, .slice p2 m.sources.length q2, .int .i64 mk] : Array Value)[i]? := fun s i => (s.property.cell (lt_of_at nb) (by simp)).trans (cells_at nb i)
      have lB : ∀ s : Kept W9, zb < s.val.heap.size := fun s => s.property.lt (lt_of_at nb)
      have cY : ∀ (s : Kept W9) i, s.val.cell? ⟨yb, i, none⟩ = (#[Value.int .i64 atn, .slice (some ⟨b2, o2, none⟩) k ct] : Array Value)[i]? := fun s i => (s.property.cell (lt_of_at hx9.2.2.2) (by simp)).trans (cells_at hx9.2.2.2 i)
      have lY : ∀ s : Kept W9, yb < s.val.heap.size := fun s => s.property.lt (lt_of_at hx9.2.2.2)
      have hrl : ∀ s : Kept W9, (Instr.lookup 24 (.map (some mo)) (.string m.id) false).run Try.prog s.val = .ok (.int .i64 (cntL (srcsT S) m.id)) s.val := fun s => by
        have h := (kp s.property hmo9).run_lookup (P := Try.prog) Try.underlying24 Try.underlying9 (zeroInt _) m.id false
        rw [lookVal_int, cnt_made] at h
        exact h
      have H9 := Lib.hid (And.intro hm2 (And.intro hmv (And.intro hk9 hx9)))
      have HW := Lib.hid hW9
      have hSl : S.length ≤ 20 := by have := Hk.out.2; omega
      clear nz nb hk9 hx9 hmo9 hm2 hmv H8 hW9 kd
      refine wp_region_held_drew (S := KeptS W9) (by kernel_rfl) (by rw [← HW.out]; exact keptS (Keeps.refl _ _)) (fun hS => ?_)
      rw [← HW.out] at hS ⊢
      clear HW
      refine wpAnyH_take (i := 0) (v := ?_) rfl (by kernel_rfl) (by kernel_rfl) (by kernel_rfl) (fun _ _ _ h => h) (Or.inl ⟨by rfl, ?_⟩) (by assumption) ?_
      rotate_left
      · intro w' s1; obtain ⟨s, rfl⟩ := s1; go_simp; (try with_reducible rfl)
      simp only [Act.put, List.getElem_toArray, List.getElem_cons_succ, List.getElem_cons_zero, List.setIfInBounds_toArray, List.set_cons_zero, List.set_cons_succ]
      refine wpAnyH_take (i := 1) (v := ?_) rfl (by kernel_rfl) (by kernel_rfl) (by kernel_rfl) (fun _ _ _ h => h) (Or.inl ⟨by rfl, ?_⟩) (by assumption) ?_
      rotate_left
      · intro w' s1; obtain ⟨s, rfl⟩ := s1; go_simp; (try with_reducible rfl)
      simp only [Act.put, List.getElem_toArray, List.getElem_cons_succ, List.getElem_cons_zero, List.setIfInBounds_toArray, List.set_cons_zero, List.set_cons_succ]
      refine wpAnyH_take (i := 2) (v := ?_) rfl (by kernel_rfl) (by kernel_rfl) (by kernel_rfl) (fun _ _ _ h => h) (Or.inl ⟨by rfl, ?_⟩) (by assumption) ?_
      rotate_left
      · intro w' s1; obtain ⟨s, rfl⟩ := s1; go_simp; (try with_reducible rfl)
      simp only [Act.put, List.getElem_toArray, List.getElem_cons_succ, List.getElem_cons_zero, List.setIfInBounds_toArray, List.set_cons_zero, List.set_cons_succ]
      refine wpAnyH_take (i := 3) (v := ?_) rfl (by kernel_rfl) (by kernel_rfl) (by kernel_rfl) (fun _ _ _ h => h) (Or.inl ⟨by rfl, ?_⟩) (by assumption) ?_
      rotate_left
      · intro w' s1; obtain ⟨s, rfl⟩ := s1; go_simp; (try with_reducible rfl)
      simp only [Act.put, List.getElem_toArray, List.getElem_cons_succ, List.getElem_cons_zero, List.setIfInBounds_toArray, List.set_cons_zero, List.set_cons_succ]
      refine wpAnyH_take (i := 5) (v := ?_) rfl (by kernel_rfl) (by kernel_rfl) (by kernel_rfl) (fun _ _ _ h => h) (Or.inl ⟨by rfl, ?_⟩) (by assumption) ?_
      rotate_left
      · intro w' s1; obtain ⟨s, rfl⟩ := s1; go_simp; (try with_reducible rfl)
      simp only [Act.put, List.getElem_toArray, List.getElem_cons_succ, List.getElem_cons_zero, List.setIfInBounds_toArray, List.set_cons_zero, List.set_cons_succ]
      refine wpAnyH_take (i := 6) (v := ?_) rfl (by kernel_rfl) (by kernel_rfl) (by kernel_rfl) (fun _ _ _ h => h) (Or.inl ⟨by rfl, ?_⟩) (by assumption) ?_
      rotate_left
      · intro w' s1; obtain ⟨s, rfl⟩ := s1; go_simp; (try with_reducible rfl)
      simp only [Act.put, List.getElem_toArray, List.getElem_cons_succ, List.getElem_cons_zero, List.setIfInBounds_toArray, List.set_cons_zero, List.set_cons_succ]
      refine wpAnyH_ready (rs := [4]) (by kernel_rfl) (by simp) ?_
      refine AllReadyH.cons rfl (fun K hK => ?_) AllReadyH.nil
      go_simp
      go_at_call 21
      refine (told9_meta w.heap.size w.heap.size W9 _ m H9.out.2.1 (Nat.le_refl _) H9.out.2.2.2.1.2.2 (Hsr.out.2.2 m Hone.out.2)).mono ?_
      rintro e A1 ⟨ts, rfl, ht, kA1⟩
      have HT := Lib.hid (And.intro ht (kp kA1 H9.out))
      clear ht
      go_simp
      refine hK.out _ _ (keptS kA1) (fun hS => ?_)
      clear hK K
      try simp only [Act.put, List.getElem_toArray, List.getElem_cons_succ, List.getElem_cons_zero, List.setIfInBounds_toArray, List.set_cons_zero, List.set_cons_succ]
      refine wpAnyH_ready (rs := [7]) (by kernel_rfl) (by simp) ?_
      refine AllReadyH.cons rfl (fun K hK => ?_) AllReadyH.nil
      go_simp
      go_at_call 20
      refine (same_spec _ w.heap.size A1 ts.toList _ m HT.out.1 HT.out.2.1).mono ?_
      rintro e A2 ⟨rfl, kB2⟩
      have kA2 := kA1.trans kB2
      go_simp
      refine hK.out _ _ (keptS kA2) (fun hS => ?_)
      clear hK K
      try simp only [Act.put, List.getElem_toArray, List.getElem_cons_succ, List.getElem_cons_zero, List.setIfInBounds_toArray, List.set_cons_zero, List.set_cons_succ]
      refine wpAnyH_take (i := 8) (v := ?_) rfl (by kernel_rfl) (by kernel_rfl) (by kernel_rfl) (fun _ _ _ h => h) (Or.inl ⟨by rfl, ?_⟩) (by assumption) ?_
      rotate_left
      · intro w' s1; obtain ⟨s, rfl⟩ := s1; go_simp; (try with_reducible rfl)
      simp only [Act.put, List.getElem_toArray, List.getElem_cons_succ, List.getElem_cons_zero, List.setIfInBounds_toArray, List.set_cons_zero, List.set_cons_succ]
      refine wpAnyH_take (i := 9) (v := ?_) rfl (by kernel_rfl) (by kernel_rfl) (by kernel_rfl) (fun _ _ _ h => h) (Or.inl ⟨by rfl, ?_⟩) (by assumption) ?_
      rotate_left
      · intro w' s1; obtain ⟨s, rfl⟩ := s1; go_simp; (try with_reducible rfl)
      simp only [Act.put, List.getElem_toArray, List.getElem_cons_succ, List.getElem_cons_zero, List.setIfInBounds_toArray, List.set_cons_zero, List.set_cons_succ]
      refine wpAnyH_take (i := 10) (v := ?_) rfl (by kernel_rfl) (by kernel_rfl) (by kernel_rfl) (fun _ _ _ h => h) (Or.inl ⟨by rfl, ?_⟩) (by assumption) ?_
      rotate_left
      · intro w' s1; obtain ⟨s, rfl⟩ := s1; go_simp; (try with_reducible rfl)
      simp only [Act.put, List.getElem_toArray, List.getElem_cons_succ, List.getElem_cons_zero, List.setIfInBounds_toArray, List.set_cons_zero, List.set_cons_succ]
      refine wpAnyH_take (i := 11) (v := ?_) rfl (by kernel_rfl) (by kernel_rfl) (by kernel_rfl) (fun _ _ _ h => h) (Or.inl ⟨by rfl, ?_⟩) (by assumption) ?_
      rotate_left
      · intro w' s1; obtain ⟨s, rfl⟩ := s1; go_simp; (try with_reducible rfl)
      simp only [Act.put, List.getElem_toArray, List.getElem_cons_succ, List.getElem_cons_zero, List.setIfInBounds_toArray, List.set_cons_zero, List.set_cons_succ]
      refine wpAnyH_take (i := 12) (v := ?_) rfl (by kernel_rfl) (by kernel_rfl) (by kernel_rfl) (fun _ _ _ h => h) (Or.inl ⟨by rfl, ?_⟩) (by assumption) ?_
      rotate_left
      · intro w' s1; obtain ⟨s, rfl⟩ := s1; go_simp; (try with_reducible rfl)
      simp only [Act.put, List.getElem_toArray, List.getElem_cons_succ, List.getElem_cons_zero, List.setIfInBounds_toArray, List.set_cons_zero, List.set_cons_succ]
      refine wpAnyH_take (i := 13) (v := ?_) rfl (by kernel_rfl) (by kernel_rfl) (by kernel_rfl) (fun _ _ _ h => h) (Or.inl ⟨by rfl, ?_⟩) (by assumption) ?_
      rotate_left
      · intro w' s1; obtain ⟨s, rfl⟩ := s1; go_simp; (try with_reducible rfl)
      simp only [Act.put, List.getElem_toArray, List.getElem_cons_succ, List.getElem_cons_zero, List.setIfInBounds_toArray, List.set_cons_zero, List.set_cons_succ]
      refine wpAnyH_take (i := 14) (v := ?_) rfl (by kernel_rfl) (by kernel_rfl) (by kernel_rfl) (fun _ _ _ h => h) (Or.inl ⟨by rfl, ?_⟩) (by assumption) ?_
      rotate_left
      · intro w' s1; obtain ⟨s, rfl⟩ := s1; go_simp; (try with_reducible rfl)
      simp only [Act.put, List.getElem_toArray, List.getElem_cons_succ, List.getElem_cons_zero, List.setIfInBounds_toArray, List.set_cons_zero, List.set_cons_succ]
      refine wpAnyH_take (i := 15) (v := ?_) rfl (by kernel_rfl) (by kernel_rfl) (by kernel_rfl) (fun _ _ _ h => h) (Or.inl ⟨by rfl, ?_⟩) (by assumption) ?_
      rotate_left
      · intro w' s1; obtain ⟨s, rfl⟩ := s1; go_simp; (try with_reducible rfl)
      simp only [Act.put, List.getElem_toArray, List.getElem_cons_succ, List.getElem_cons_zero, List.setIfInBounds_toArray, List.set_cons_zero, List.set_cons_succ]
      refine wpAnyH_take (i := 16) (v := ?_) rfl (by kernel_rfl) (by kernel_rfl) (by kernel_rfl) (fun _ _ _ h => h) (Or.inl ⟨by rfl, ?_⟩) (by assumption) ?_
      rotate_left
      · intro w' s1; obtain ⟨s, rfl⟩ := s1; go_simp; (try with_reducible rfl)
      simp only [Act.put, List.getElem_toArray, List.getElem_cons_succ, List.getElem_cons_zero, List.setIfInBounds_toArray, List.set_cons_zero, List.set_cons_succ]
      refine wpAnyH_take (i := 17) (v := ?_) rfl (by kernel_rfl) (by kernel_rfl) (by kernel_rfl) (fun _ _ _ h => h) (Or.inl ⟨by rfl, ?_⟩) (by assumption) ?_
      rotate_left
      · intro w' s1; obtain ⟨s, rfl⟩ := s1; go_simp; (try with_reducible rfl)
      simp only [Act.put, List.getElem_toArray, List.getElem_cons_succ, List.getElem_cons_zero, List.setIfInBounds_toArray, List.set_cons_zero, List.set_cons_succ]
      refine wpAnyH_take (i := 18) (v := ?_) rfl (by kernel_rfl) (by kernel_rfl) (by kernel_rfl) (fun _ _ _ h => h) (Or.inl ⟨by rfl, ?_⟩) (by assumption) ?_
      rotate_left
      · intro w' s1; obtain ⟨s, rfl⟩ := s1; go_simp; (try with_reducible rfl)
      simp only [Act.put, List.getElem_toArray, List.getElem_cons_succ, List.getElem_cons_zero, List.setIfInBounds_toArray, List.set_cons_zero, List.set_cons_succ]
      refine wpAnyH_take (i := 19) (v := ?_) rfl (by kernel_rfl) (by kernel_rfl) (by kernel_rfl) (fun _ _ _ h => h) (Or.inl ⟨by rfl, ?_⟩) (by assumption) ?_
      rotate_left
      · intro w' s1; obtain ⟨s, rfl⟩ := s1; go_simp; (try with_reducible rfl)
      simp only [Act.put, List.getElem_toArray, List.getElem_cons_succ, List.getElem_cons_zero, List.setIfInBounds_toArray, List.set_cons_zero, List.set_cons_succ]
      refine wpAnyH_ready (rs := [20]) (by kernel_rfl) (by simp) ?_
      refine AllReadyH.cons rfl (fun K hK => ?_) AllReadyH.nil
      go_simp
      go_at_call 22
      refine (made10_spec w.heap.size A2 atn (.slice (some ⟨b2, o2, none⟩) k ct) S m.id (kp kA2 H9.out.2.2.2.1.1) hSl Hso.out.1.few).mono ?_
      rintro e A3 ⟨rfl, kB3⟩
      have kA3 := kA2.trans kB3
      go_simp
      refine hK.out _ _ (keptS kA3) (fun hS => ?_)
      clear hK K
      try simp only [Act.put, List.getElem_toArray, List.getElem_cons_succ, List.getElem_cons_zero, List.setIfInBounds_toArray, List.set_cons_zero, List.set_cons_succ]
      refine wpAnyH_take (i := 21) (v := ?_) rfl (by kernel_rfl) (by kernel_rfl) (by kernel_rfl) (fun _ _ _ h => h) (Or.inl ⟨by rfl, ?_⟩) (by assumption) ?_
      rotate_left
      · intro w' s1; obtain ⟨s, rfl⟩ := s1; go_simp; (try with_reducible rfl)
      simp only [Act.put, List.getElem_toArray, List.getElem_cons_succ, List.getElem_cons_zero, List.setIfInBounds_toArray, List.set_cons_zero, List.set_cons_succ]
      refine wpAnyH_take (i := 22) (v := ?_) rfl (by kernel_rfl) (by kernel_rfl) (by kernel_rfl) (fun _ _ _ h => h) (Or.inl ⟨by rfl, ?_⟩) (by assumption) ?_
      rotate_left
      · intro w' s1; obtain ⟨s, rfl⟩ := s1; go_simp; (try with_reducible rfl)
      simp only [Act.put, List.getElem_toArray, List.getElem_cons_succ, List.getElem_cons_zero, List.setIfInBounds_toArray, List.set_cons_zero, List.set_cons_succ]
      refine wpAnyH_done (by kernel_rfl) ?_ _
      have HR := Lib.hid (H9.out.2.2.1.trans kA3)
      clear kA1 kA2 kA3 kB2 kB3 cZ lZ cB lB cY lY hrl hS HT H9
      go_wp2_with fail
      go_roundg (k - (i + 1))
      case measure => have := Hg.out; have := Hk.out.2; omega
      case rel => exact ⟨i + 1, by have := Hk.out.2; omega, rfl, by go_num, HR.out⟩
    · have hge : ¬ (i : Int) < (k : Int) := by have := Hk.out.2; omega
      have cl := cells_at Hr.out.2.1.2.2.1
      have ll := lt_of_at Hr.out.2.1.2.2.1
      have hSl : S.length ≤ 1000 := by have := Hk.out.2; omega
      have Hwk := Lib.hid Hr.out.2.1.1.2.1
      by_cases hin : id ∈ S.map (·.1.id)
      · obtain ⟨p, hp, hpid⟩ := List.mem_map.1 hin
        have h16 := id16 (Hso.out.1.ok p hp).id
        rw [hpid] at h16
        have hb16 : ((id.size : Int) == 16) = true := by rw [h16]; rfl
        have hhb : hasB (S.map (·.1.id)) id = true := hasB_iff.2 hin
        have Hfd := Lib.hid (find_spec w.heap.size wr atn (.map (some mb2)) (.slice am k cm) (S.map (·.1)) id Hr.out.2.1.2.1.1 (Nat.le_trans Hsr.out.1 (by decide)) Hso.out.1.rise (some mb2) rfl)
        have Hmem := Lib.hid (show ∃ m ∈ S.map (·.1), m.id = id from ⟨p.1, List.mem_map.2 ⟨p, hp, rfl⟩, hpid⟩)
        have Hh := Lib.hid (fun W (hk : Keeps [] wr W) => has_spec w.heap.size W (.slice bt k ct) S id (kp hk Hr.out.2.1.1.1) hSl)
        rw [hhb] at Hh
        clear hin hp hpid hhb hkr h16
        go_wp2_with fail
        refine Hfd.out.mono ?_
        rintro e w7 ⟨vs, okb, rfl, hfo, hfm, hk7⟩
        have hok : okb = true := hfo.2 Hmem.out
        subst hok
        obtain ⟨m, hm, -, vf, vo, rfl, hff, hoo⟩ := hfm rfl
        obtain ⟨f3, g3, rfl, -, -, -, -⟩ := hff
        obtain ⟨p3, q3, rfl, -, -, -, -⟩ := hoo
        have kb : Keeps [] w7 (w7.alloc (.cells #[.string m.id, .int .i64 m.mn, .int .i64 m.mx, .int .i64 m.level, .int .i64 m.series, .int .i64 m.samples, .slice f3 m.files.length g3, .slice p3 m.sources.length q3] 56)) := (Keeps.refl [] w7).alloc _
        have Hk8 := Lib.hid (hk7.trans kb)
        clear hfo hfm hm hk7 kb cl ll Hfd
        go_wp2_with fail
        refine (Hh.out _ Hk8.out).mono ?_
        rintro e w9 ⟨rfl, hk9⟩
        have HX := Lib.hid (Hwk.out.trans (Hk8.out.trans hk9))
        clear hk9
        go_wp2_with fail
        go_ret
        exact ⟨rfl, HX.out⟩
      · have hno : ∀ m ∈ S.map (·.1), m.id ≠ id := fun m hm e => by
          obtain ⟨p, hp, rfl⟩ := List.mem_map.1 hm
          exact hin (List.mem_map.2 ⟨p, hp, e⟩)
        have hhb : hasB (S.map (·.1.id)) id = false := by rw [Bool.eq_false_iff]; intro h; exact hin (hasB_iff.1 h)
        have Hfd := Lib.hid (findNone_spec w.heap.size wr atn (.map (some mb2)) (.slice am k cm) (S.map (·.1)) id Hr.out.2.1.2.1.1 (Nat.le_trans Hsr.out.1 (by decide)) Hso.out.1.rise (some mb2) rfl hno)
        have Hh := Lib.hid (fun W (hk : Keeps [] wr W) => has_spec w.heap.size W (.slice bt k ct) S id (kp hk Hr.out.2.1.1.1) hSl)
        rw [hhb] at Hh
        clear hin hno hhb hkr
        go_wp2_with fail
        refine Hfd.out.mono ?_
        rintro e w7 ⟨rfl, hk7⟩
        have kb : Keeps [] w7 (w7.alloc (.cells #[.string ⟨#[]⟩, .int .i64 0, .int .i64 0, .int .i64 0, .int .i64 0, .int .i64 0, .slice none 0 0, .slice none 0 0] 56)) := (Keeps.refl [] w7).alloc _
        have Hk8 := Lib.hid (hk7.trans kb)
        clear hk7 kb cl ll Hfd
        by_cases h16 : id.size = 16
        · have hb16 : ((id.size : Int) == 16) = true := by rw [h16]; rfl
          clear h16
          go_wp2_with fail
          refine (Hh.out _ Hk8.out).mono ?_
          rintro e w9 ⟨rfl, hk9⟩
          have HX := Lib.hid (Hwk.out.trans (Hk8.out.trans hk9))
          clear hk9
          go_wp2_with fail
          go_ret
          exact ⟨rfl, HX.out⟩
        · have hb16 : ((id.size : Int) == 16) = false := by rw [beq_eq_false_iff_ne]; omega
          clear h16
          have HX := Lib.hid (Hwk.out.trans Hk8.out)
          go_wp2_with fail
          go_ret
          exact ⟨rfl, HX.out⟩

theorem listingShows_law (W : World) (a : Int) (_ : (Lit.int .i64 a).wf = true) (v : Value) (h : ∃ L : List OneL, SliceArg 11 encOneL W v L ∧ ∀ x ∈ L, True) (f : Int) (_ : (Lit.int .i64 f).wf = true) (t : Int) (_ : (Lit.int .i64 t).wf = true) (id : ByteArray) (_ : id.size ≤ maxLen) :
    Calls Try.prog 4 #[.int .i64 a, v, .int .i64 f, .int .i64 t, .string id] W fun e w' => e = .returned (.bool true) ∧ Keeps [] W w' := by
  obtain ⟨L, hs, _⟩ := h
  exact listingShows_walk W a v L hs f t id
end Go.Proofs.Ythlmlneiehijkaa
