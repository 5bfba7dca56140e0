/-
  ListingOf answers true for every tick and all lists of things, and leaves all memory that was there as it was.
  No condition: every input that can be read, where the library's variable stands.
-/
import Derived.Test.YtjffdcflkkgpfaaGreatOfArg
import Derived.Test.YtjffdcflkkgpfaaGreatListNil
import Derived.Test.YtjffdcflkkgpfaaGreatRSplitG
import Derived.Test.YtjffdcflkkgpfaaGreatLists
import Derived.Test.YtjffdcflkkgpfaaGreatAwake10
namespace Go.Proofs.YtjffdcflkkgpfaaGreat
open Go Go.RowKit Go.Conc
open Go.Op (bytesLess)

theorem put_lastO {L : List ObjS} (h : (L.map (fun o : ObjS => o.1)).Nodup) {k : Nat} (hk : k < L.length) : put (L.take k) L[k].1 L[k].2 = L.take (k + 1) := by
  have hno : L[k].1 ∉ (L.take k).map (fun o : ObjS => o.1) := fun hm => by
    obtain ⟨o, ho, he⟩ := List.mem_map.1 hm
    obtain ⟨j, hj, hjo⟩ := List.getElem_of_mem ho
    rw [List.length_take] at hj
    rw [List.getElem_take] at hjo
    rw [← hjo] at he
    rw [List.Nodup, List.pairwise_iff_getElem] at h
    exact h j k (by simp; omega) (by simpa using hk) (by omega) (by simpa using he)
  rw [List.take_succ_eq_append_getElem hk]
  have key : ∀ M : List ObjS, L[k].1 ∉ M.map (fun o : ObjS => o.1) → put M L[k].1 L[k].2 = M ++ [L[k]] := by
    intro M
    induction M with
    | nil => intro _; rfl
    | cons a M ih =>
      obtain ⟨x, y⟩ := a
      intro hn
      simp only [List.map_cons, List.mem_cons, not_or] at hn
      unfold put
      rw [if_neg hn.1, ih hn.2]
      rfl
  exact key _ hno

def LawRel (w : World) (L : List ObjS) (g c bb mb : Nat) (gk : Nat) (u6 u20 : Value) (wr : World) : Prop :=
  ∃ k, k ≤ L.length ∧ gk = L.length - k ∧ u20 = .int .i64 k ∧ wr.ownsRow w.heap.size 9 1 u6 k (((L.take k).map (·.1)).flatMap encS1m) ∧ wr.ownsRow w.heap.size 28 2 (.slice (some ⟨g, 0, none⟩) L.length c) L.length (L.flatMap encObj) ∧ LookAt wr bb mb (L.take k) ∧ w.heap.size ≤ bb ∧ w.heap.size ≤ mb ∧ Keeps [] w wr

set_option linter.unusedSimpArgs false in
set_option maxRecDepth 100000 in
set_option maxHeartbeats 4000000 in
theorem listingOf_walk (w : World) (hv : LibVar w) (at_ : Int) (v : Value) (O : List ThingL) (hO : SliceArg 13 encThing w v O) :
    Calls Tryz.prog 3 #[.int .i64 at_, v] w fun e w' => e = .returned (.bool true) ∧ Keeps [] w w' := by
  have Hob := Lib.hid (objects_spec w v O hO)
  have Hv := Lib.hid hv
  obtain ⟨av, cv, rfl, -, -⟩ := hO
  obtain ⟨ist, his, hzs0, hzs1, hzs2⟩ := info_parts infoStrM
  obtain ⟨atn, hat⟩ : ∃ m : Nat, m = (min (max at_ 0) 1099511627776).toNat := ⟨_, rfl⟩
  have qa : min (max at_ 0) 1099511627776 = (atn : Int) := by omega
  have hatl : atn ≤ 1099511627776 := by omega
  have hmm := @run_makeMap Tryz.prog
  clear hat hv
  go_enter Tryz.func3, Tryz.ntmps3
  go_wp2_with fail
  refine Hob.out.mono ?_
  rintro e w1 ⟨g, c, L, rfl, hobj, hl, hnd, hsz, hk1⟩
  have HL := Lib.hid (And.intro hnd hsz)
  obtain ⟨gb, hgb⟩ : ∃ n, n = w1.heap.size := ⟨_, rfl⟩
  obtain ⟨mb, hmb⟩ : ∃ n, n = gb + 1 := ⟨_, rfl⟩
  obtain ⟨bb, hbb⟩ : ∃ n, n = mb + 1 := ⟨_, rfl⟩
  have n0 := new3 w1 (.cells #[] 9) (.map #[] 0) (.cells #[.map (some mb)] 26)
  have k0 : Keeps [] w1 (((w1.alloc (.cells #[] 9)).alloc (.map #[] 0)).alloc (.cells #[.map (some mb)] 26)) := (((Keeps.refl [] w1).alloc _).alloc _).alloc _
  rw [← hgb, ← hmb, ← hbb] at n0
  have hbn : w.heap.size ≤ gb ∧ w.heap.size ≤ mb ∧ w.heap.size ≤ bb ∧ bb ≠ mb ∧ bb ≠ gb := by have := hk1.size; omega
  have HB := Lib.hid (And.intro hgb (And.intro hmb hbb))
  have H0 := Lib.hid (And.intro n0 (And.intro (k0.row hobj (by simp)) (hk1.trans k0)))
  clear n0 k0 hgb hmb hbb hobj hk1 hnd hsz Hob
  go_upto_region 5 with fail
  clear hmm
  rw [← HB.out.1, ← HB.out.2.1, ← HB.out.2.2]
  generalize ((w1.alloc (.cells #[] 9)).alloc (.map #[] 0)).alloc (.cells #[.map (some mb)] 26) = W0 at H0 ⊢
  have hr0 : W0.ownsRow w.heap.size 9 1 (.slice (some ⟨gb, 0, none⟩) 0 0) 0 [] := ⟨rfl, .inr ⟨gb, 0, #[], rfl, hbn.1, H0.out.1.1, Nat.le_refl _, by simp [maxLen], by simp, by simp⟩⟩
  have hm0 : MapAt W0 mb (encMap encS []) := ⟨[], 0, H0.out.1.2.1, ⟨by simp, by simp, by simp⟩, rfl⟩
  have H1 := Lib.hid (And.intro hr0 (And.intro H0.out.2.1 (And.intro (show LookAt W0 bb mb (L.take 0) from ⟨H0.out.1.2.2, hm0⟩) H0.out.2.2)))
  clear hr0 hm0 H0 HB
  go_wp2_with fail
  go_loopg [6, 20] L.length (LawRel w L g c bb mb)
  case atStart => exact ⟨0, Nat.zero_le _, rfl, rfl, H1.out.1, H1.out.2.1, H1.out.2.2.1, hbn.2.2.1, hbn.2.1, H1.out.2.2.2⟩
  case round =>
    obtain ⟨k, hk, hgk, rfl, hrow, hobj, hlk, hbb, hmb, hkr⟩ := hrel
    have Hg := Lib.hid hgk
    clear H1 hgk
    by_cases hlt : k < L.length
    · have hlt' : (k : Int) < (L.length : Int) := by omega
      obtain ⟨an, cn, rfl, -, -, -⟩ := row_slice hrow
      have c0 : wr.cell? ⟨g, k * 2, none⟩ = some (.string L[k].1) := by
        have h1 := World.ownsRow.cellAt hobj (k * 2) (by omega)
        rw [h1]
        have := flatMap_at encObj 2 encObj_len L k hlt 0 (by decide)
        simpa [encObj] using this
      have c1 : wr.cell? ⟨g, k * 2 + 1, none⟩ = some (.string L[k].2) := by
        have h1 := World.ownsRow.cellAt hobj (k * 2 + 1) (by omega)
        rw [h1]
        have := flatMap_at encObj 2 encObj_len L k hlt 1 (by decide)
        simpa [encObj] using this
      have hglt : g < wr.heap.size := (World.ownsRow.lt hobj g (by simp [Value.ownBlock])).2
      have hput := put_lastO HL.out.1 hlt
      have htk : L.take (k + 1) = L.take k ++ [L[k]] := List.take_succ_eq_append_getElem hlt
      obtain ⟨o, hoe⟩ : ∃ o, o = L[k] := ⟨_, rfl⟩
      rw [← hoe] at c0 c1 hput htk
      clear hoe
      obtain ⟨nm, dt⟩ := o
      dsimp only at c0 c1 hput
      have Hst := Lib.hid (And.intro hput htk)
      have ka : Keeps [] wr (wr.alloc (.cells #[.string nm, .string dt] 28)) := (Keeps.refl [] wr).alloc _
      have na := heap_new wr (.cells #[.string nm, .string dt] 28)
      obtain ⟨tb, htb⟩ : ∃ n, n = wr.heap.size := ⟨_, rfl⟩
      have htw : w.heap.size ≤ tb ∧ bb ≠ tb := by have := hkr.size; have := lt_of_at hlk.1; omega
      rw [← htb] at na
      have Htb := Lib.hid htb
      have H := Lib.hid (And.intro (ka.row hrow (by simp)) (And.intro (ka.row hobj (by simp)) (And.intro (hlk.same ka) (And.intro na (hkr.trans ka)))))
      clear hput htk ka na htb hrow hobj hlk hkr
      go_upto_region 8 with fail
      clear c0 c1
      rw [← Htb.out]
      clear Htb
      generalize wr.alloc (.cells #[.string nm, .string dt] 28) = W1 at H ⊢
      have ct := cells_at H.out.2.2.2.1
      have lt := lt_of_at H.out.2.2.2.1
      have hwz := H.out.2.2.2.2.size
      have hvl : ∀ g, (Value.slice an k cn).ownBlock = some g → w.heap.size ≤ g := fun g hg => (World.ownsRow.lt H.out.1 g hg).1
      have Hvl := Lib.hid hvl
      clear hvl
      go_upto_region 9 with (at_builtin; refine wpList_append_own _ rfl (.tmp 24) (.tmp 27) 25 rfl w.heap.size 9 ist _ 1 16 Tryz.underlying25 his hzs0 hzs1 hzs2 rfl (by decide) (.slice an k cn) k (((L.take k).map (·.1)).flatMap encS1m) rfl (H.out.1.alloc _) ⟨W1.heap.size, 0, none⟩ 1 1 [.string nm] rfl rfl (news_of (heap_new W1 _)) (by simp [Value.oneCell']) (by simp only [maxLen]; omega) (by omega) (by simp; omega) ?_; intro v8 w8 hown8 hgrow8 hnil)
      clear hnil ct lt
      have ka : Keeps [] W1 (W1.alloc (.cells #[.string nm] 9)) := (Keeps.refl [] W1).alloc _
      have kg := keeps_rowM hgrow8
      have hrowa := H.out.1.alloc (.cells #[.string nm] 9)
      have hobja := H.out.2.1.alloc (.cells #[.string nm] 9)
      have hobj8 := kg.row hobja (rows_neM hrowa hobja (by decide))
      have hlka := H.out.2.2.1.same ka
      have hlk8 : LookAt w8 bb mb (L.take k) := ⟨kg.at_ hlka.1 (row_ne_typeM hrowa hlka.1 (by decide)), hlka.2.keep kg (row_ne_map hrowa hlka.2)⟩
      have hta := ka.at_ H.out.2.2.2.1 (by simp)
      have nt8 := kg.at_ hta (row_ne_typeM hrowa hta (by decide))
      have hk8 : Keeps [] w w8 := keeps_grownM (H.out.2.2.2.2.alloc _) hgrow8 Hvl.out
      have hown9 : w8.ownsRow w.heap.size 9 1 v8 (k + 1) (((L.take (k + 1)).map (·.1)).flatMap encS1m) := by
        rw [Hst.out.2, List.map_append, List.flatMap_append]
        simpa [encS1m] using hown8
      have H8 := Lib.hid (And.intro hown9 (And.intro hobj8 (And.intro hlk8 (And.intro nt8 hk8))))
      have ct := cells_at nt8
      have lt := lt_of_at nt8
      have cb := cells_at hlk8.1
      have lb := lt_of_at hlk8.1
      have hmp8 := hlk8.2
      clear ka kg hrowa hobja hobj8 hlka hlk8 hta nt8 hk8 hown9 hown8 hgrow8 Hvl H
      go_wp2_with (refine wpList_update_str _ rfl (.tmp 29) (.tmp 31) (.tmp 33) _ _ _ rfl Tryz.underlying26 Tryz.underlying9 mb (encMap encS (L.take k)) nm (encS dt) (by rfl) (by rfl) (by rfl) hmp8 ?_; intro w9 hm9 hk9)
      rw [put_enc, Hst.out.1] at hm9
      have hb9 := hk9.at_ H8.out.2.2.1.1 (by simp; exact hbn.2.2.2.1)
      have H9 := Lib.hid (And.intro (hk9.row H8.out.1 (fun g hg hm => row_ne_map H8.out.1 H8.out.2.2.1.2 (by simp only [List.mem_singleton] at hm; subst hm; rw [hg]; simp))) (And.intro (hk9.row H8.out.2.1 (fun g hg hm => row_ne_map H8.out.2.1 H8.out.2.2.1.2 (by simp only [List.mem_singleton] at hm; subst hm; rw [hg]; simp))) (And.intro (show LookAt w9 bb mb (L.take (k + 1)) from ⟨hb9, hm9⟩) (H8.out.2.2.2.2.after hk9 (fun x hx => .inr (by simp only [List.mem_singleton] at hx; omega))))))
      clear hm9 hk9 hb9 hmp8 ct lt cb lb H8
      go_wp2_with fail
      go_roundg (L.length - (k + 1))
      case measure => have := Hg.out; omega
      case rel => exact ⟨k + 1, by omega, rfl, by go_num, H9.out.1, H9.out.2.1, H9.out.2.2.1, hbn.2.2.1, hbn.2.1, H9.out.2.2.2⟩
    · obtain rfl : k = L.length := by omega
      have hge : ¬ (L.length : Int) < (L.length : Int) := by omega
      rw [List.take_length] at hrow hlk
      obtain ⟨an, cn, rfl, -, -, -⟩ := row_slice hrow
      have hns : SliceArg 1 encS1m wr (.slice an L.length cn) (L.map (·.1)) := by
        have h1 : wr.ownsRow w.heap.size 9 1 (.slice an L.length cn) (L.map (·.1)).length ((L.map (·.1)).flatMap encS1m) := by
          rw [List.length_map]; exact hrow
        have h2 := sliceFrom_row (enc := encS1m) (fun _ => rfl) h1
        exact h2.arg
      have hos : SliceArg 2 encObj wr (.slice (some ⟨g, 0, none⟩) L.length c) L := (sliceFrom_row (enc := encObj) encObj_len hobj).arg
      have Hof := Lib.hid (listOf_spec wr atn (.slice an L.length cn) L bb mb (Hv.out.same hkr) hns hlk HL.out.2 hl HL.out.1)
      have hok := ofOk HL.out.1 hl hatl
      have hTn : ((((ofN L L.length).map (·.1))).map (·.id)).Nodup := by rw [List.map_map]; exact ofN_nodup HL.out.1 L.length
      have hTl := ofN_len L L.length
      obtain ⟨TT, hTT⟩ : ∃ T, T = ofN L L.length := ⟨_, rfl⟩
      have Hro := Lib.hid (fun W (hk : Keeps [] wr W) => rOf_spec W atn _ L (hos.keep hk) HL.out.2 hl)
      rw [← hTT] at Hof hok hTn hTl Hro
      obtain ⟨S, hS⟩ : ∃ S, S = sortT TT := ⟨_, rfl⟩
      rw [← hS] at hok Hro
      have HE := Lib.hid (And.intro hok (And.intro hkr hTl))
      have hSl : S.length ≤ 15 := by have := hok.perm.length_eq; omega
      clear hlt hrow hobj hlk hkr hns hos hok hTn hTl hTT hS
      go_wp2_with fail
      refine Hof.out.mono ?_
      rintro e w2 ⟨L', vm, mb2, rfl, hp, hr, hm2, hmp2, hmb2, hk2⟩
      obtain rfl : L' = S.map (·.1) := rise_eq (fun m : MetaS => m.id.data.toList) (hp.trans (HE.out.1.perm.map _).symm) hr HE.out.1.rise
      obtain ⟨am, cm, rfl⟩ := hm2.form
      obtain ⟨sl, hsl⟩ : ∃ n, n = (S.map (·.1)).length := ⟨_, rfl⟩
      rw [← hsl] at hm2 ⊢
      have ka : Keeps [] w2 (w2.alloc (.cells #[.int .i64 atn, .slice am sl cm, .map (some mb2)] 32)) := (Keeps.refl [] w2).alloc _
      have na := heap_new w2 (.cells #[.int .i64 atn, .slice am sl cm, .map (some mb2)] 32)
      obtain ⟨lb, hlb⟩ : ∃ n, n = w2.heap.size := ⟨_, rfl⟩
      rw [← hlb] at na
      have Hlb := Lib.hid hlb
      have H3 := Lib.hid (And.intro (kp ka (And.intro hm2 hmp2)) (And.intro na (And.intro (hk2.trans ka) (Nat.le_trans hk2.size ka.size))))
      clear hp hr hm2 hmp2 hmb2 hk2 ka na hlb hsl Hof
      go_upto_region 12 with fail
      rw [← Hlb.out]
      clear Hlb
      generalize w2.alloc (.cells #[.int .i64 atn, .slice am sl cm, .map (some mb2)] 32) = W3 at H3 ⊢
      obtain ⟨W4, hW4⟩ : ∃ W, W = W3.drew := ⟨_, rfl⟩
      have kd : Keeps [] W3 W4 := by rw [hW4]; exact (Keeps.refl [] W3).drew
      have H4 := Lib.hid (And.intro (kp kd H3.out.1) (And.intro (kd.at_ H3.out.2.1 (by simp)) (And.intro (H3.out.2.2.1.trans kd) (Nat.le_trans H3.out.2.2.2 kd.size))))
      have HW := Lib.hid hW4
      clear H3 hW4 kd
      have cL : ∀ (s : Kept W4) i, s.val.cell? ⟨lb, i, none⟩ = (#[Value.int .i64 atn, .slice am sl cm, .map (some mb2)] : Array Value)[i]? := fun s i => (s.property.cell (lt_of_at H4.out.2.1) (by simp)).trans (cells_at H4.out.2.1 i)
      have lL : ∀ s : Kept W4, lb < s.val.heap.size := fun s => s.property.lt (lt_of_at H4.out.2.1)
      have Haw := Lib.hid (fun W (_ : Keeps [] W4 W) => awake10_spec W)
      have His := Lib.hid (fun B W (hk : Keeps [] W4 W) u (hu : BlksV B W u S) (hB : wr.heap.size ≤ W.heap.size) => is_spec wr.heap.size B W atn (.slice am sl cm) u mb2 (marksOf TT) S (kp hk H4.out.1.1) hu (kp hk H4.out.1.2) (by omega) HE.out.1.files hB HE.out.1.look HE.out.1.len)
      have Hck := Lib.hid (fun W (hk : Keeps [] W4 W) => listCheck_spec wr.heap.size W atn mb2 (.slice am sl cm) (S.map (·.1)) (marksOf TT) (kp hk H4.out.1.1) (kp hk H4.out.1.2) HE.out.1.list)
      refine wp_region_held_drew (S := KeptS W4) (by kernel_rfl) (by rw [← HW.out]; exact keptS (Keeps.refl _ _)) (fun hS => ?_)
      rw [← HW.out] at hS ⊢
      clear HW
      refine wpAnyH_ready (rs := [0]) (by kernel_rfl) (by simp) ?_
      refine AllReadyH.cons rfl (fun K hK => ?_) AllReadyH.nil
      go_simp
      go_at_call 11
      refine (Haw.out _ (Keeps.refl _ _)).mono ?_
      rintro e A1 ⟨rfl, kA1⟩
      go_simp
      refine hK.out _ _ (keptS kA1) (fun hS => ?_)
      clear hK K
      try simp only [Act.put, List.getElem_toArray, List.getElem_cons_succ, List.getElem_cons_zero, List.setIfInBounds_toArray, List.set_cons_zero, List.set_cons_succ]
      refine wpAnyH_take (i := 1) (v := ?_) rfl (by kernel_rfl) (by kernel_rfl) (by kernel_rfl) (fun _ _ _ h => h) (Or.inl ⟨by rfl, ?_⟩) (by assumption) ?_
      rotate_left
      · intro w' s1; obtain ⟨s, rfl⟩ := s1; go_simp; (try with_reducible rfl)
      simp only [Act.put, List.getElem_toArray, List.getElem_cons_succ, List.getElem_cons_zero, List.setIfInBounds_toArray, List.set_cons_zero, List.set_cons_succ]
      refine wpAnyH_take (i := 2) (v := ?_) rfl (by kernel_rfl) (by kernel_rfl) (by kernel_rfl) (fun _ _ _ h => h) (Or.inl ⟨by rfl, ?_⟩) (by assumption) ?_
      rotate_left
      · intro w' s1; obtain ⟨s, rfl⟩ := s1; go_simp; (try with_reducible rfl)
      simp only [Act.put, List.getElem_toArray, List.getElem_cons_succ, List.getElem_cons_zero, List.setIfInBounds_toArray, List.set_cons_zero, List.set_cons_succ]
      refine wpAnyH_take (i := 3) (v := ?_) rfl (by kernel_rfl) (by kernel_rfl) (by kernel_rfl) (fun _ _ _ h => h) (Or.inl ⟨by rfl, ?_⟩) (by assumption) ?_
      rotate_left
      · intro w' s1; obtain ⟨s, rfl⟩ := s1; go_simp; (try with_reducible rfl)
      simp only [Act.put, List.getElem_toArray, List.getElem_cons_succ, List.getElem_cons_zero, List.setIfInBounds_toArray, List.set_cons_zero, List.set_cons_succ]
      refine wpAnyH_take (i := 4) (v := ?_) rfl (by kernel_rfl) (by kernel_rfl) (by kernel_rfl) (fun _ _ _ h => h) (Or.inl ⟨by rfl, ?_⟩) (by assumption) ?_
      rotate_left
      · intro w' s1; obtain ⟨s, rfl⟩ := s1; go_simp; (try with_reducible rfl)
      simp only [Act.put, List.getElem_toArray, List.getElem_cons_succ, List.getElem_cons_zero, List.setIfInBounds_toArray, List.set_cons_zero, List.set_cons_succ]
      refine wpAnyH_ready (rs := [5]) (by kernel_rfl) (by simp) ?_
      refine AllReadyH.cons rfl (fun K hK => ?_) AllReadyH.nil
      go_simp
      go_at_call 13
      refine (Hro.out _ (H4.out.2.2.1.trans kA1)).mono ?_
      rintro e A2 ⟨u, rfl, hu, kB2⟩
      have kA2 := kA1.trans kB2
      have Hu := Lib.hid hu
      clear hu
      go_simp
      refine hK.out _ _ (keptS kA2) (fun hS => ?_)
      clear hK K
      try simp only [Act.put, List.getElem_toArray, List.getElem_cons_succ, List.getElem_cons_zero, List.setIfInBounds_toArray, List.set_cons_zero, List.set_cons_succ]
      refine wpAnyH_ready (rs := [6]) (by kernel_rfl) (by simp) ?_
      refine AllReadyH.cons rfl (fun K hK => ?_) AllReadyH.nil
      go_simp
      go_at_call 12
      refine (His.out _ _ kA2 u Hu.out (Nat.le_trans H4.out.2.2.2 kA2.size)).mono ?_
      rintro e A3 ⟨rfl, kB3⟩
      have kA3 := kA2.trans kB3
      go_simp
      refine hK.out _ _ (keptS kA3) (fun hS => ?_)
      clear hK K
      try simp only [Act.put, List.getElem_toArray, List.getElem_cons_succ, List.getElem_cons_zero, List.setIfInBounds_toArray, List.set_cons_zero, List.set_cons_succ]
      refine wpAnyH_take (i := 7) (v := ?_) rfl (by kernel_rfl) (by kernel_rfl) (by kernel_rfl) (fun _ _ _ h => h) (Or.inl ⟨by rfl, ?_⟩) (by assumption) ?_
      rotate_left
      · intro w' s1; obtain ⟨s, rfl⟩ := s1; go_simp; (try with_reducible rfl)
      simp only [Act.put, List.getElem_toArray, List.getElem_cons_succ, List.getElem_cons_zero, List.setIfInBounds_toArray, List.set_cons_zero, List.set_cons_succ]
      refine wpAnyH_take (i := 8) (v := ?_) rfl (by kernel_rfl) (by kernel_rfl) (by kernel_rfl) (fun _ _ _ h => h) (Or.inl ⟨by rfl, ?_⟩) (by assumption) ?_
      rotate_left
      · intro w' s1; obtain ⟨s, rfl⟩ := s1; go_simp; (try with_reducible rfl)
      simp only [Act.put, List.getElem_toArray, List.getElem_cons_succ, List.getElem_cons_zero, List.setIfInBounds_toArray, List.set_cons_zero, List.set_cons_succ]
      refine wpAnyH_take (i := 9) (v := ?_) rfl (by kernel_rfl) (by kernel_rfl) (by kernel_rfl) (fun _ _ _ h => h) (Or.inl ⟨by rfl, ?_⟩) (by assumption) ?_
      rotate_left
      · intro w' s1; obtain ⟨s, rfl⟩ := s1; go_simp; (try with_reducible rfl)
      simp only [Act.put, List.getElem_toArray, List.getElem_cons_succ, List.getElem_cons_zero, List.setIfInBounds_toArray, List.set_cons_zero, List.set_cons_succ]
      refine wpAnyH_take (i := 10) (v := ?_) rfl (by kernel_rfl) (by kernel_rfl) (by kernel_rfl) (fun _ _ _ h => h) (Or.inl ⟨by rfl, ?_⟩) (by assumption) ?_
      rotate_left
      · intro w' s1; obtain ⟨s, rfl⟩ := s1; go_simp; (try with_reducible rfl)
      simp only [Act.put, List.getElem_toArray, List.getElem_cons_succ, List.getElem_cons_zero, List.setIfInBounds_toArray, List.set_cons_zero, List.set_cons_succ]
      refine wpAnyH_ready (rs := [11]) (by kernel_rfl) (by simp) ?_
      refine AllReadyH.cons rfl (fun K hK => ?_) AllReadyH.nil
      go_simp
      go_at_call 14
      refine (Hck.out _ kA3).mono ?_
      rintro e A4 ⟨rfl, kB4⟩
      have kA4 := kA3.trans kB4
      go_simp
      refine hK.out _ _ (keptS kA4) (fun hS => ?_)
      clear hK K
      try simp only [Act.put, List.getElem_toArray, List.getElem_cons_succ, List.getElem_cons_zero, List.setIfInBounds_toArray, List.set_cons_zero, List.set_cons_succ]
      refine wpAnyH_take (i := 12) (v := ?_) rfl (by kernel_rfl) (by kernel_rfl) (by kernel_rfl) (fun _ _ _ h => h) (Or.inl ⟨by rfl, ?_⟩) (by assumption) ?_
      rotate_left
      · intro w' s1; obtain ⟨s, rfl⟩ := s1; go_simp; (try with_reducible rfl)
      simp only [Act.put, List.getElem_toArray, List.getElem_cons_succ, List.getElem_cons_zero, List.setIfInBounds_toArray, List.set_cons_zero, List.set_cons_succ]
      refine wpAnyH_take (i := 13) (v := ?_) rfl (by kernel_rfl) (by kernel_rfl) (by kernel_rfl) (fun _ _ _ h => h) (Or.inl ⟨by rfl, ?_⟩) (by assumption) ?_
      rotate_left
      · intro w' s1; obtain ⟨s, rfl⟩ := s1; go_simp; (try with_reducible rfl)
      simp only [Act.put, List.getElem_toArray, List.getElem_cons_succ, List.getElem_cons_zero, List.setIfInBounds_toArray, List.set_cons_zero, List.set_cons_succ]
      refine wpAnyH_ready (rs := [14]) (by kernel_rfl) (by simp) ?_
      refine AllReadyH.cons rfl (fun K hK => ?_) AllReadyH.nil
      go_simp
      refine hK.out _ _ (keptS kA4) (fun hS => ?_)
      clear hK K
      refine wpAnyH_done (by kernel_rfl) ?_ _
      have HX := Lib.hid (HE.out.2.1.trans (H4.out.2.2.1.trans kA4))
      clear hS kA1 kA2 kA3 kA4 kB2 kB3 kB4 cL lL Hu Haw His Hck Hro H4
      go_wp2_with fail
      go_ret
      exact ⟨rfl, HX.out⟩

theorem listingOf_law (W : World) (hv : LibVar W) (a : Int) (_ : (Lit.int .i64 a).wf = true) (v : Value) (h : ∃ L : List ThingL, SliceArg 13 encThing W v L ∧ ∀ x ∈ L, True) :
    Calls Tryz.prog 3 #[.int .i64 a, v] W fun e w' => e = .returned (.bool true) ∧ Keeps [] W w' := by
  obtain ⟨L, hs, _⟩ := h
  exact listingOf_walk W hv a v L hs
end Go.Proofs.YtjffdcflkkgpfaaGreat
