/-
  Package head: (*Head).Drop, in general, walked: of each series what is left behind the time; the series that are empty then are gone.
  The series are fewer than 12, of small labels.
-/
import Derived.Test.YtgdkceeonnfejaaGreatDoorHeadTab
import Derived.Test.YtgdkceeonnfejaaGreatDoorHeadKeys
import Derived.Test.YtgdkceeonnfejaaGreatDoorHeadSel
import Derived.Test.YtgdkceeonnfejaaGreatDoorHeadAddG
namespace Go.Proofs.YtgdkceeonnfejaaGreatDoor
set_option maxRecDepth 100000
set_option maxHeartbeats 4000000
set_option linter.unusedSimpArgs false
open Go Go.RowKit Go.Maps
theorem filt_mid {A C : List SerH} {s : SerH} (h : ∀ t ∈ A ++ C, t.ref ≠ s.ref) : ((A ++ s :: C).map serT).filter (fun q => decide (q.1 ≠ s.ref)) = (A ++ C).map serT := by
 have key : ∀ D : List SerH, (∀ t ∈ D, t.ref ≠ s.ref) → (D.map serT).filter (fun q => decide (q.1 ≠ s.ref)) = D.map serT := fun D hD => List.filter_eq_self.2 fun q hq => by
  obtain ⟨t, ht, rfl⟩ := List.mem_map.1 hq
  exact decide_eq_true (hD t ht)
 rw [List.map_append, List.map_cons, List.filter_append, List.filter_cons_of_neg (by simp [serT]), key A (fun t ht => h t (List.mem_append_left _ ht)), key C (fun t ht => h t (List.mem_append_right _ ht)), List.map_append]
theorem flat_dropSm (k : Nat) : ∀ L : List SmpB, (L.drop k).flatMap encSm = (L.flatMap encSm).drop (k * 2) := by
 induction k with
 | zero => intro L; simp
 | succ k ih =>
  intro L
  cases L with
  | nil => simp
  | cons x L =>
   rw [List.drop_succ_cons, ih, List.flatMap_cons]
   show _ = List.drop ((k + 1) * 2) (Value.int .i64 x.1 :: Value.int .u64 x.2 :: L.flatMap encSm)
   rw [show (k + 1) * 2 = k * 2 + 1 + 1 from by omega]
   rfl
theorem drop_news {w : World} {g : Nat} {L : List SmpB} (h : ∀ j u, (L.flatMap encSm)[j]? = some u → w.cell? ((⟨g, 0, none⟩ : Addr).add j) = some u) (k j : Nat) (u : Value) (hu : ((L.drop k).flatMap encSm)[j]? = some u) : w.cell? ((⟨g, k * 2, none⟩ : Addr).add j) = some u := by
 rw [flat_dropSm, List.getElem?_drop] at hu
 have h1 := h _ _ hu
 have e1 : ∀ o j, (⟨g, o, none⟩ : Addr).add j = ⟨g, o + j, none⟩ := fun o j => by unfold Addr.add; split <;> simp_all
 rw [e1] at h1 ⊢
 rwa [Nat.zero_add] at h1
theorem cloneSm2 (w : World) (g off c : Nat) (L : List SmpB) (m : Nat) (hm : L.length = m) (hg : g < w.heap.size) (hc : ∀ j u, (L.flatMap encSm)[j]? = some u → w.cell? ((⟨g, off, none⟩ : Addr).add j) = some u) (hl : L.length ≤ 1000000) :
  Calls Tryz.prog 47 #[.slice (some ⟨g, off, none⟩) m c] w fun e w' => ∃ v', e = .returned v' ∧ w'.ownsRow w.heap.size 42 2 v' L.length (L.flatMap encSm) ∧ Keeps [] w w' := by
 subst hm
 exact cloneSm_spec w g off c L hg hc hl
def DropHPost (B : Nat) (X : List Nat) (w0 w : World) (h : Nat) (a b c : Int) (S : List SerH) (next n f top : Int) (e : Ending) (w' : World) : Prop :=
 ∃ S' n', e = .returned (.tuple #[]) ∧ HeadAt B X w' h a b c S' next n' f top ∧ HFr X w0 w w' ∧ S'.map coreS = (S.map coreS).filterMap (cutOne f) ∧ n' - cntS S' = n - cntS S
def DropHRel (B : Nat) (X : List Nat) (w0 w2 : World) (h : Nat) (a b c : Int) (S : List SerH) (next n f top : Int) (L : List Int) (gk : Nat) (u24 : Value) (wr : World) : Prop :=
 ∃ i S1 n1, i ≤ L.length ∧ gk = L.length - i ∧ u24 = .int .i64 (i : Nat) ∧ HeadAt B X wr h a b c S1 next n1 f top ∧ HFr X w0 w2 wr ∧ CutTo f (L.take i) S S1 ∧ n1 - cntS S1 = n - cntS S ∧ cntS S1 ≤ cntS S
def DropIn (wr : World) (l : List SmpB) (f : Int) (gk : Nat) (u7 : Value) (W : World) : Prop :=
 ∃ k, k ≤ l.length ∧ gk = l.length - k ∧ u7 = .int .i64 (k : Nat) ∧ (∀ j, ∀ h : j < l.length, j < k → l[j].1 < f) ∧ Keeps [] wr W
structure DropOk (S : List SerH) : Prop where
 ne : ∀ s ∈ S, s.l ≠ []
 lab : ∀ s ∈ S, SmallP s.lab
 smp : ∀ s ∈ S, s.l.length ≤ 100000
 ref : ∀ s ∈ S, 0 ≤ s.ref ∧ s.ref ≤ 1000000000
theorem DropOk.core {S S' : List SerH} {f : Int} {done : List Int} (h : DropOk S) (hc : CutTo f done S S') : DropOk S' := by
 have key : ∀ t ∈ S', ∃ s ∈ S, t.ref = s.ref ∧ t.lab = s.lab ∧ t.l.length ≤ s.l.length ∧ t.l ≠ [] := fun t ht => by
  have h1 : coreS t ∈ S'.map coreS := List.mem_map.2 ⟨t, ht, rfl⟩
  rw [hc] at h1
  obtain ⟨c, hcm, e⟩ := List.mem_filterMap.1 h1
  obtain ⟨s, hs, rfl⟩ := List.mem_map.1 hcm
  refine ⟨s, hs, ?_⟩
  unfold cutC at e
  split at e
  ·unfold cutOne at e
   split at e
   ·cases e
   ·rename_i hne
    injection e with e
    unfold coreS at e hne
    injection e with e1 e
    injection e with e2 e
    injection e with e3 _
    exact ⟨e1.symm, e2.symm, by rw [← e3]; exact cut_len _, by rw [← e3]; exact hne⟩
  ·injection e with e
   unfold coreS at e
   injection e with e1 e
   injection e with e2 e
   injection e with e3 _
   exact ⟨e1.symm, e2.symm, by rw [e3]; exact Nat.le_refl _, by rw [← e3]; exact h.ne s hs⟩
 refine ⟨fun t ht => ?_, fun t ht => ?_, fun t ht => ?_, fun t ht => ?_⟩
 ·obtain ⟨s, hs, _, _, _, e⟩ := key t ht
  exact e
 ·obtain ⟨s, hs, _, e, _⟩ := key t ht
  rw [e]
  exact h.lab s hs
 ·obtain ⟨s, hs, _, _, e, _⟩ := key t ht
  exact Nat.le_trans e (h.smp s hs)
 ·obtain ⟨s, hs, e, _⟩ := key t ht
  rw [e]
  exact h.ref s hs
theorem cnt_le {S : List SerH} (h : ∀ s ∈ S, s.l.length ≤ 100000) : cntS S ≤ S.length * 100000 := by
 unfold cntS
 induction S with
 | nil => simp
 | cons s S ih =>
  have h1 := h s List.mem_cons_self
  have h2 := ih fun t ht => h t (List.mem_cons_of_mem _ ht)
  rw [List.map_cons, List.sum_cons, List.length_cons]
  omega
theorem delN_mid {A C : List SerH} {s : SerH} (hn : ((A ++ s :: C).map ofE |>.map (·.1)).Nodup) : delN ((A ++ s :: C).map ofE) s.ref = (A ++ C).map ofE := by
 rw [List.map_append, List.map_cons, List.map_append, List.map_cons, List.nodup_append] at hn
 rw [List.map_append, List.map_cons, del_appendN (A.map ofE) (ofE s :: C.map ofE) s.ref (fun hm => hn.2.2 _ hm _ List.mem_cons_self rfl), List.map_append]
 show _ ++ (if s.ref = s.ref then _ else _) = _
 rw [if_pos rfl]
theorem del_mid {A C : List SerH} {s : SerH} (hn : ((A ++ s :: C).map refE |>.map (·.1)).Nodup) : del ((A ++ s :: C).map refE) (keyP s.lab) = (A ++ C).map refE := by
 rw [List.map_append, List.map_cons, List.map_append, List.map_cons, List.nodup_append] at hn
 rw [List.map_append, List.map_cons, del_append (A.map refE) (refE s :: C.map refE) (keyP s.lab) (fun hm => hn.2.2 _ hm _ List.mem_cons_self rfl), List.map_append]
 show _ ++ (if keyP s.lab = keyP s.lab then _ else _) = _
 rw [if_pos rfl]
theorem dropH_spec (B : Nat) (X : List Nat) (w0 w : World) (h : Nat) (a b c : Int) (S : List SerH) (next n floor top to_ : Int) (hH : HeadAt B X w h a b c S next n floor top) (k0 : Keeps [] w0 w) (hB0 : w0.heap.size ≤ B) (hok : DropOk S) (hn : 0 ≤ n ∧ n ≤ 1000000000) :
  Calls Tryz.prog 17 #[.pointer (some ⟨h, 0, none⟩), .int .i64 to_] w (DropHPost B X w0 w h a b c S next n (max floor to_) top) := by
 obtain ⟨f, hf⟩ : ∃ f, f = max floor to_ := ⟨_, rfl⟩
 obtain ⟨rb, ob, x, mb, va, E, all, HP, HX, HI, HL⟩ := hH
 have hlen : S.length ≤ 12 := by have := HI.len; simpa using this
 have H0 := Lib.hid (And.intro HP (And.intro HX (And.intro HI (And.intro HL hok))))
 have c8 : w.cell? ⟨h, 8, none⟩ = some (.int .i64 floor) := cells_at HP.hc 8
 have f8 := free_at HP.hc
 have l8 := lt_of_at HP.hc
 clear HP HX HI HL hok
 go_enter Tryz.func17, Tryz.ntmps17
 rw [← hf]
 go_upto_region 1 with fail
 clear c8 f8 l8
 have Hf := Lib.hid hf
 have kH : Keeps [h] w (w.setCell ⟨h, 8, none⟩ (.int .i64 (max floor to_))) := (Keeps.refl _ w).setCell (.inl (by simp)) _
 have n5 : HeadC (w.setCell ⟨h, 8, none⟩ (.int .i64 (max floor to_))) h a b c rb ob x next n f top := (heap_cell_same (i := 8) H0.out.1.hc _).trans (by simp [← hf])
 have H1 := Lib.hid (And.intro (H0.out.1.head kH n5) ((HFr.refl k0).one kH H0.out.1.hc (Nat.le_trans hB0 H0.out.2.1.base.2.2.2.2) (fun hm => (H0.out.2.1.apX h hm).2.2 rfl) (fun cs t z e => by cases e; decide)))
 have hsz1 : w.heap.size ≤ (w.setCell ⟨h, 8, none⟩ (.int .i64 (max floor to_))).heap.size := kH.size
 clear kH n5 hf
 generalize w.setCell ⟨h, 8, none⟩ (.int .i64 (max floor to_)) = w1 at H1 hsz1 ⊢
 have c4 : w1.cell? ⟨h, 4, none⟩ = some (.map (some ob)) := cells_at H1.out.1.hc 4
 have l8 := lt_of_at H1.out.1.hc
 go_wp2_with fail
 refine (keysI_call w1 (some ob)).mono ?_
 rintro e w2 ⟨rfl, rfl⟩
 go_wp2_with fail
 refine (sortedI_call w1 ob _ H1.out.1.of_ (fun p hp => by
  obtain ⟨s, hs, rfl⟩ := List.mem_map.1 hp
  have := H0.out.2.2.2.2.ref s hs
  show (Lit.int .i64 s.ref).wf = true
  simp only [Lit.wf, IntKind.min, IntKind.max, Bool.and_eq_true, decide_eq_true_eq]
  constructor <;> (simp [IntKind.signed, IntKind.bits]; omega)) (by rw [List.length_map]; omega)).mono ?_
 rintro e w2 ⟨v, L, rfl, hv, hperm, hris, hk2⟩
 obtain ⟨av, cv, rfl, -, -, -⟩ := row_slice hv
 obtain ⟨X', hX'⟩ : ∃ X', X' = (Value.slice av L.length cv).ownBlock.toList ++ X := ⟨_, rfl⟩
 have hH1 : HeadAt B X w1 h a b c S next n f top := ⟨rb, ob, x, mb, va, E, all, H1.out.1, H0.out.2.1, H0.out.2.2.1, fun d hd => by have := H0.out.2.2.2.1 d hd; omega⟩
 have hH2 : HeadAt B X' w2 h a b c S next n f top := hH1.other hk2 (fun d hd => by
  rw [hX'] at hd
  rcases List.mem_append.1 hd with hd | hd
  ·exact (World.ownsRow.lt hv d (by simpa using hd)).2
  ·have := H0.out.2.2.2.1 d hd
   have := hk2.size
   omega) (fun d hd => by
  rw [hX'] at hd
  rcases List.mem_append.1 hd with hd | hd
  ·have := (World.ownsRow.lt hv d (by simpa using hd)).1
   exact .inr (by omega)
  ·exact .inl hd)
 have hmemL : ∀ r, r ∈ L ↔ r ∈ S.map (·.ref) := fun r => by
  rw [hperm.mem_iff, List.map_map]
  rfl
 have hLl : L.length ≤ 12 := by
  have h1 := hperm.length_eq
  rw [List.length_map, List.length_map] at h1
  omega
 have hf2 : HFr X w0 w w2 := H1.out.2.keep hk2
 have H2 := Lib.hid (And.intro hH2 (And.intro hf2 (And.intro hv (And.intro hmemL (And.intro hris (And.intro hX' H0.out.2.2.2.2))))))
 have hcS := cnt_le H0.out.2.2.2.2.smp
 clear hv hperm hris hk2 hH1 hH2 hmemL hf2 hX' c4 l8 H1 H0 hsz1
 have HXlt : Hid (∀ d ∈ X', d < w2.heap.size) := Lib.hid (by
  obtain ⟨_, _, _, _, _, _, _, _, _, _, hL⟩ := H2.out.1
  exact hL)
 go_wp2_with fail
 go_loopg [24] L.length (DropHRel B X' w0 w2 h a b c S next n f top L)
 case atStart => exact ⟨0, S, n, Nat.zero_le _, rfl, rfl, H2.out.1, HFr.refl H2.out.2.1.keeps, CutTo.start f S, rfl, Nat.le_refl _⟩
 case round =>
  obtain ⟨i, S1, n1, hi, hgk, rfl, hHr, hfr, hcut, hcnt, hcle⟩ := hrel
  have Hg := Lib.hid hgk
  clear hgk
  by_cases hlt : i < L.length
  ·have hlt' : (i : Int) < (L.length : Int) := by omega
   have hrow : Own 0 wr (.slice av L.length cv) L := by
    have := H2.out.2.2.1
    obtain ⟨h0, h1 | ⟨g', cap, cur, h1, h2, h3, h4⟩⟩ := this
    ·exact ⟨h0, .inl h1⟩
    ·exact ⟨h0, .inr ⟨g', cap, cur, h1, Nat.zero_le _, hfr.x g' (by rw [H2.out.2.2.2.2.2.1, h1]; simp [Value.ownBlock]) _ h3, h4⟩⟩
   obtain ⟨b0, off0, ea, hb0, d0⟩ := sf_at1 (Own.ints hrow) i hlt
   subst ea
   have hnd : L.Nodup := rises_nodup H2.out.2.2.2.2.1
   have hdone : L[i] ∉ L.take i := fun hm => by
    have h1 := hnd
    rw [← List.take_append_drop i L, List.nodup_append] at h1
    exact h1.2.2 _ hm _ (by rw [List.drop_eq_getElem_cons hlt]; exact List.mem_cons_self) rfl
   obtain ⟨x1, cx5, hIx, hlh, hrn, hl12⟩ := hHr.idx
   obtain ⟨A, s, C, rfl, hsr, hne, -⟩ := hcut.at_ hrn ((H2.out.2.2.2.1 _).1 (List.getElem_mem hlt)) hdone
   have Htk := Lib.hid (show L.take (i + 1) = L.take i ++ [s.ref] from by rw [hsr]; exact List.take_succ_eq_append_getElem hlt)
   rw [← hsr] at hdone d0 hne
   have hok1 := H2.out.2.2.2.2.2.2.core hcut
   have hss := hok1.smp s (by simp)
   have hsl := hok1.lab s (by simp)
   obtain ⟨rb, ob, x, mb, va, E, all, HP, HX, HI, HL⟩ := hHr
   have hsA := HP.ser s (by simp)
   have hs0 : 0 < s.l.length := List.length_pos_iff.2 (hok1.ne s (by simp))
   obtain ⟨a5, c5, e5, hc5, -, -⟩ := row_slice hsA.smp
   have hsm0 := hsA.smp
   rw [e5] at hsm0
   obtain ⟨g5, rfl, -, -⟩ := own_news hsm0 hs0
   have hcm := cntS_mid A C s
   have q1 : (Instr.lookup 79 (.map (some ob)) (.int .i64 s.ref) false).run Tryz.prog wr = .ok (.pointer (some ⟨s.sb, 0, none⟩)) wr := (HP.of_.run_lookup Tryz.underlying79 Tryz.underlying3 (zeroSerH wr) s.ref false).trans (by
    show Result.ok ((lookN _ _).getD _) wr = _
    rw [look_of HP.of_]
    rfl)
   have c4 : wr.cell? ⟨h, 4, none⟩ = some (.map (some ob)) := cells_at HP.hc 4
   have lh := lt_of_at HP.hc
   have HR := Lib.hid (And.intro HP (And.intro HX (And.intro HI (And.intro HL (And.intro hfr (And.intro hcut (And.intro hne (And.intro hdone (And.intro e5 hsr)))))))))
   have Hcnt := Lib.hid (And.intro hcm (And.intro hcnt hcle))
   have hn1 : -10000000 ≤ n1 ∧ n1 ≤ 2000000000 := by omega
   clear HP HX HI HL hfr hcut hne hdone hrow hsA hrn hIx cx5 hnd hok1 hsm0 hsr e5 hcm hcnt hcle
   go_wp2_with fail
   clear q1 c4 d0 hb0
   go_loopg [7] s.l.length (DropIn wr s.l f)
   case atStart => exact ⟨0, Nat.zero_le _, rfl, rfl, fun j _ h => absurd h (by omega), Keeps.refl _ _⟩
   case round =>
    obtain ⟨k, hk, hgk2, rfl, hall, hki⟩ := hrel
    have Hg2 := Lib.hid hgk2
    clear hgk2
    have hp := go1 hki HR.out.1
    have hat := (hp.ser s (by simp)).at_
    have hsm := (hp.ser s (by simp)).smp
    rw [HR.out.2.2.2.2.2.2.2.2.1] at hat hsm
    have c1 : wr.cell? ⟨s.sb, 1, none⟩ = some (.slice (some ⟨g5, 0, none⟩) s.l.length c5) := cells_at hat 1
    have ls := lt_of_at hat
    have c8 : wr.cell? ⟨h, 8, none⟩ = some (.int .i64 f) := cells_at hp.hc 8
    have lh := lt_of_at hp.hc
    by_cases hgo : k < s.l.length
    ·have hgo' : (k : Int) < (s.l.length : Int) := by omega
     have hd1 : decide ((k : Int) < (s.l.length : Int)) = true := decide_eq_true hgo'
     obtain ⟨g6, o6, ea6, hg6, d1, -⟩ := smp_at hsm k hgo
     injection ea6 with ea6
     injection ea6 with ea6 eo6 _
     subst ea6 eo6
     rw [Nat.zero_add] at d1
     by_cases hT : s.l[k].1 < f
     ·have hd2 : decide (s.l[k].1 < f) = true := decide_eq_true hT
      have Hk := Lib.hid (And.intro hki (And.intro hall hT))
      clear hki hall hp hat hsm
      go_wp2_with fail
      go_quiet (fail)
      go_wp2_with fail
      go_roundg (s.l.length - (k + 1))
      case measure => have := Hg2.out; omega
      case rel => exact ⟨k + 1, hgo, rfl, by go_num, fun j hj hjk => by
       by_cases e : j = k
       ·subst e
        exact Hk.out.2.2
       ·exact Hk.out.2.1 j hj (by omega), Hk.out.1.drewN _⟩
     ·have hd2 : decide (s.l[k].1 < f) = false := decide_eq_false hT
      have hkc := drop_cut hk hall (fun _ => hT)
      have HK := Lib.hid (And.intro hkc (And.intro hp hki))
      clear hkc hp hki hall hat hsm
      go_wp2_with fail
      go_quiet (fail)
--A
      have kq : Keeps [] wr (wr.drewN nq) := (Keeps.refl [] wr).drewN nq
      obtain ⟨wd, hwd⟩ : ∃ wd, wd = wr.drewN nq := ⟨_, rfl⟩
      rw [← hwd] at kq ⊢
      clear hwd
      have HQ := Lib.hid (And.intro (go1 kq HK.out.2.1) (And.intro (HR.out.2.2.2.2.1.keep (HK.out.2.2.trans kq)) HK.out.1))
      clear HK kq c1 ls c8 lh
      have c7 : wd.cell? ⟨h, 7, none⟩ = some (.int .i64 n1) := cells_at HQ.out.1.hc 7
      have f7 := free_at HQ.out.1.hc
      have l7 := lt_of_at HQ.out.1.hc
      have hwn : IntKind.i64.wrap (n1 - (k : Int)) = n1 - (k : Int) := IntWalk.i64_in _ (by omega)
      go_upto_region 9 with fail
      clear c7 f7 l7
      have kH : Keeps [h] wd (wd.setCell ⟨h, 7, none⟩ (.int .i64 (n1 - (k : Int)))) := (Keeps.refl _ wd).setCell (.inl (by simp)) _
      have n5 : HeadC (wd.setCell ⟨h, 7, none⟩ (.int .i64 (n1 - (k : Int)))) h a b c rb ob x next (n1 - (k : Int)) f top := (heap_cell_same (i := 7) HQ.out.1.hc _).trans (by simp)
      have H3 := Lib.hid (And.intro (HQ.out.1.head kH n5) (HQ.out.2.1.one kH HQ.out.1.hc (Nat.le_trans hB0 HR.out.2.1.base.2.2.2.2) (fun hm => (HR.out.2.1.apX h hm).2.2 rfl) (fun cs t z e => by cases e; decide)))
      have Hkc := Lib.hid HQ.out.2.2
      clear kH n5 HQ
      generalize wd.setCell ⟨h, 7, none⟩ (.int .i64 (n1 - (k : Int))) = w3 at H3 ⊢
      have hat3 := (H3.out.1.ser s (by simp)).at_
      have hsm3 := (H3.out.1.ser s (by simp)).smp
      rw [HR.out.2.2.2.2.2.2.2.2.1] at hat3 hsm3
      obtain ⟨g7, e7, hg7, hn7⟩ := own_news hsm3 hs0
      injection e7 with e7
      injection e7 with e7 _ _
      subst e7
      have Hn7 := Lib.hid (And.intro hat3 hn7)
      have c1 : w3.cell? ⟨s.sb, 1, none⟩ = some (.slice (some ⟨g5, 0, none⟩) s.l.length c5) := cells_at hat3 1
      have ls := lt_of_at hat3
      clear hat3 hsm3 hn7
      have hck : ¬ c5 = k := by omega
      have hcne : cutS f s.l ≠ [] := by
       rw [← Hkc.out]
       intro e
       have := congrArg List.length e
       rw [List.length_drop, List.length_nil] at this
       omega
      have hclen : ¬ ((cutS f s.l).length : Int) = 0 := by
       have := List.length_pos_iff.2 hcne
       omega
      go_wp2_with fail
      refine (cloneSm2 w3 g5 (k * 2) (c5 - k) (s.l.drop k) (s.l.length - k) (by rw [List.length_drop]) hg7 (fun j u hu => drop_news Hn7.out.2 k j u hu) (by rw [List.length_drop]; omega)).mono ?_
      rintro e w4 ⟨v4, rfl, hv4, hk4⟩
      rw [Hkc.out] at hv4
      have hdl : (s.l.drop k).length = (cutS f s.l).length := by rw [Hkc.out]
      obtain ⟨a4, c4, rfl, -, -, -⟩ := row_slice hv4
      have H4 := Lib.hid (And.intro (go1 hk4 H3.out.1) (And.intro (H3.out.2.keep hk4) (And.intro (hk4.at_ Hn7.out.1 (by simp)) hv4)))
      clear hv4 hk4 c1 ls hdl
      have c1 : w4.cell? ⟨s.sb, 1, none⟩ = some (.slice (some ⟨g5, 0, none⟩) s.l.length c5) := cells_at H4.out.2.2.1 1
      have f1 := free_at H4.out.2.2.1
      have l1 := lt_of_at H4.out.2.2.1
      go_upto_region 10 with fail
      clear c1 f1 l1
      have kS : Keeps [s.sb] w4 (w4.setCell ⟨s.sb, 1, none⟩ (.slice a4 (cutS f s.l).length c4)) := (Keeps.refl _ w4).setCell (.inl (by simp)) _
      have n6 : (w4.setCell ⟨s.sb, 1, none⟩ (.slice a4 (cutS f s.l).length c4)).heap[s.sb]? = some (.cells #[s.lv, .slice a4 (cutS f s.l).length c4, .int .i64 s.last] 102 (0, 0)) := (heap_cell_same (i := 1) H4.out.2.2.1 _).trans (by simp)
      have hless : ∀ t ∈ A ++ C, t ∈ A ++ s :: C := fun t ht => by
       rcases List.mem_append.1 ht with ht | ht
       ·exact List.mem_append_left _ ht
       ·exact List.mem_append_right _ (List.mem_cons_of_mem _ ht)
      have hsA4 := H4.out.1.ser s (by simp)
      have H5 := Lib.hid (And.intro ((H4.out.1.less hless).serCell HR.out.2.1 H4.out.2.2.1 kS) (And.intro (H4.out.2.1.serOne HR.out.2.1 H4.out.2.2.1 (Nat.le_trans hB0 hsA4.base) kS) (And.intro n6 (And.intro (kS.row hsA4.lab (fun q hq => by simpa using row_ne_cells hsA4.lab H4.out.2.2.1 (by decide) q hq)) (kS.row H4.out.2.2.2 (fun q hq => by simpa using row_ne_cells H4.out.2.2.2 H4.out.2.2.1 (by decide) q hq))))))
      have hsB := hsA4.base
      clear kS n6 hsA4 H4
      generalize w4.setCell ⟨s.sb, 1, none⟩ (.slice a4 (cutS f s.l).length c4) = w5 at H5 ⊢
      have c1 : w5.cell? ⟨s.sb, 1, none⟩ = some (.slice a4 (cutS f s.l).length c4) := cells_at H5.out.2.2.1 1
      have ls := lt_of_at H5.out.2.2.1
      have Hn := Lib.hid hcne
      clear hcne
      go_wp2_with fail
      obtain ⟨s', hs'⟩ : ∃ s' : SerH, s' = { s with va := .slice a4 (cutS f s.l).length c4, l := cutS f s.l } := ⟨_, rfl⟩
      have hA' : SerAt B w5 s' := by
       rw [hs']
       exact ⟨H5.out.2.2.1, H5.out.2.2.2.1, row_base H5.out.2.2.2.2 (by have := lt_of_at H3.out.1.hc; have := HR.out.2.1.base; have := H3.out.1.ix.map.lt; omega), hsB⟩
      have hN := Lib.hid (show HeadAt B X' w5 h a b c (A ++ s' :: C) next (n1 - (k : Int)) f top from by
       refine ⟨rb, ob, x, mb, va, E, all, ?_, ?_, ?_, fun d hd => ?_⟩
       ·have e1 : (A ++ s' :: C).map refE = (A ++ s :: C).map refE := by simp [hs', refE]
        have e2 : (A ++ s' :: C).map ofE = (A ++ s :: C).map ofE := by simp [hs', ofE]
        rw [e1, e2]
        exact H5.out.1.more hA'
       ·exact HR.out.2.1.turn (w := w3) (fun t ht => H3.out.1.ser t (hless t ht)) (fun d hd => by
         have h1 := HXlt.out d hd
         have h2 := H3.out.2.size
         omega) (by rw [hs']) (fun g hg => .inr (by
         rw [hs'] at hg
         exact (World.ownsRow.lt H5.out.2.2.2.2 g hg).1))
       ·have e1 : (A ++ s' :: C).map (·.ref) = (A ++ s :: C).map (·.ref) := by simp [hs']
        have e2 : (A ++ s' :: C).map serT = (A ++ s :: C).map serT := by simp [hs', serT]
        rw [e1, e2]
        exact HR.out.2.2.1
       ·have h1 := HXlt.out d hd
        have h2 := H5.out.2.1.size
        omega)
      have hcl : (cutS f s.l).length + k = s.l.length := by
       have h1 := congrArg List.length Hkc.out
       rw [List.length_drop] at h1
       omega
      have hcnt2 := Hcnt.out
      have hcm' : cntS (A ++ s' :: C) = cntS (A ++ C) + (cutS f s.l).length := by rw [cntS_mid, hs']
      have Hfin := Lib.hid (And.intro H5.out.2.1 (And.intro (HR.out.2.2.2.2.2.1.left HR.out.2.2.2.2.2.2.1 HR.out.2.2.2.2.2.2.2.1 Hn.out (s' := s') (by rw [hs']; rfl)) (And.intro (show n1 - (k : Int) - cntS (A ++ s' :: C) = n - cntS S from by omega) (show cntS (A ++ s' :: C) ≤ cntS S from by omega))))
      clear hcl hcm' hA' hs'
      go_roundg (L.length - (i + 1))
      case measure => have := Hg.out; omega
      case rel => exact ⟨i + 1, A ++ s' :: C, n1 - (k : Int), hlt, rfl, by go_num, hN.out, Hfin.out.1, by rw [Htk.out]; exact Hfin.out.2.1, Hfin.out.2.2.1, Hfin.out.2.2.2⟩
--Z
    ·have hkl : k = s.l.length := by omega
     have hgo' : ¬ (k : Int) < (s.l.length : Int) := by omega
     have hd1 : decide ((k : Int) < (s.l.length : Int)) = false := decide_eq_false hgo'
     have hkc := drop_cut hk hall (fun hh => absurd hh hgo)
     have HK := Lib.hid (And.intro hkc (And.intro hp (And.intro hki trivial)))
     have Hkl := Lib.hid hkl
     clear hkc hp hki hall hat hsm hkl
     go_wp2_with fail
     go_quiet (fail)
     have hkl := Hkl.out
--B
     subst hkl
     have kq : Keeps [] wr (wr.drewN nq) := (Keeps.refl [] wr).drewN nq
     obtain ⟨wd, hwd⟩ : ∃ wd, wd = wr.drewN nq := ⟨_, rfl⟩
     rw [← hwd] at kq ⊢
     clear hwd
     have HQ := Lib.hid (And.intro (go1 kq HK.out.2.1) (And.intro (HR.out.2.2.2.2.1.keep (HK.out.2.2.1.trans kq)) HK.out.1))
     clear HK kq c1 ls c8 lh
     have c7 : wd.cell? ⟨h, 7, none⟩ = some (.int .i64 n1) := cells_at HQ.out.1.hc 7
     have f7 := free_at HQ.out.1.hc
     have l7 := lt_of_at HQ.out.1.hc
     have hwn : IntKind.i64.wrap (n1 - (s.l.length : Int)) = n1 - (s.l.length : Int) := IntWalk.i64_in _ (by omega)
     go_upto_region 9 with fail
     clear c7 f7 l7
     have kH : Keeps [h] wd (wd.setCell ⟨h, 7, none⟩ (.int .i64 (n1 - (s.l.length : Int)))) := (Keeps.refl _ wd).setCell (.inl (by simp)) _
     have n5 : HeadC (wd.setCell ⟨h, 7, none⟩ (.int .i64 (n1 - (s.l.length : Int)))) h a b c rb ob x next (n1 - (s.l.length : Int)) f top := (heap_cell_same (i := 7) HQ.out.1.hc _).trans (by simp)
     have H3 := Lib.hid (And.intro (HQ.out.1.head kH n5) (HQ.out.2.1.one kH HQ.out.1.hc (Nat.le_trans hB0 HR.out.2.1.base.2.2.2.2) (fun hm => (HR.out.2.1.apX h hm).2.2 rfl) (fun cs t z e => by cases e; decide)))
     have Hkc := Lib.hid HQ.out.2.2
     clear kH n5 HQ
     generalize wd.setCell ⟨h, 7, none⟩ (.int .i64 (n1 - (s.l.length : Int))) = w3 at H3 ⊢
     have hat3 := (H3.out.1.ser s (by simp)).at_
     have hsm3 := (H3.out.1.ser s (by simp)).smp
     rw [HR.out.2.2.2.2.2.2.2.2.1] at hat3 hsm3
     obtain ⟨g7, e7, hg7, hn7⟩ := own_news hsm3 hs0
     injection e7 with e7
     injection e7 with e7 _ _
     subst e7
     have Hn7 := Lib.hid (And.intro hat3 hn7)
     have c1 : w3.cell? ⟨s.sb, 1, none⟩ = some (.slice (some ⟨g5, 0, none⟩) s.l.length c5) := cells_at hat3 1
     have ls := lt_of_at hat3
     clear hat3 hsm3 hn7
     have Hnil := Lib.hid (show cutS f s.l = [] from by rw [← Hkc.out]; exact List.drop_of_length_le (by omega))
     rcases Decidable.em (c5 = s.l.length) with hck | hck
     all_goals
      go_wp2_with fail
      first
       | refine (cloneSm2 w3 g5 0 0 (s.l.drop s.l.length) 0 (by rw [List.length_drop]; omega) hg7 (fun j u hu => by rw [List.drop_of_length_le (Nat.le_refl _)] at hu; simp at hu) (by rw [List.length_drop]; omega)).mono ?_
       | refine (cloneSm2 w3 g5 (s.l.length * 2) (c5 - s.l.length) (s.l.drop s.l.length) 0 (by rw [List.length_drop]; omega) hg7 (fun j u hu => by rw [List.drop_of_length_le (Nat.le_refl _)] at hu; simp at hu) (by rw [List.length_drop]; omega)).mono ?_
      rintro e w4 ⟨v4, rfl, hv4, hk4⟩
      rw [Hkc.out] at hv4
      have hdl : (s.l.drop s.l.length).length = (cutS f s.l).length := by rw [Hkc.out]
      obtain ⟨a4, c4, rfl, -, -, -⟩ := row_slice hv4
      have H4 := Lib.hid (And.intro (go1 hk4 H3.out.1) (And.intro (H3.out.2.keep hk4) (And.intro (hk4.at_ Hn7.out.1 (by simp)) hv4)))
      clear hv4 hk4 c1 ls hdl
      have c1 : w4.cell? ⟨s.sb, 1, none⟩ = some (.slice (some ⟨g5, 0, none⟩) s.l.length c5) := cells_at H4.out.2.2.1 1
      have f1 := free_at H4.out.2.2.1
      have l1 := lt_of_at H4.out.2.2.1
      go_upto_region 10 with fail
      clear c1 f1 l1
      have kS : Keeps [s.sb] w4 (w4.setCell ⟨s.sb, 1, none⟩ (.slice a4 (cutS f s.l).length c4)) := (Keeps.refl _ w4).setCell (.inl (by simp)) _
      have n6 : (w4.setCell ⟨s.sb, 1, none⟩ (.slice a4 (cutS f s.l).length c4)).heap[s.sb]? = some (.cells #[s.lv, .slice a4 (cutS f s.l).length c4, .int .i64 s.last] 102 (0, 0)) := (heap_cell_same (i := 1) H4.out.2.2.1 _).trans (by simp)
      have hless : ∀ t ∈ A ++ C, t ∈ A ++ s :: C := fun t ht => by
       rcases List.mem_append.1 ht with ht | ht
       ·exact List.mem_append_left _ ht
       ·exact List.mem_append_right _ (List.mem_cons_of_mem _ ht)
      have hsA4 := H4.out.1.ser s (by simp)
      have H5 := Lib.hid (And.intro ((H4.out.1.less hless).serCell HR.out.2.1 H4.out.2.2.1 kS) (And.intro (H4.out.2.1.serOne HR.out.2.1 H4.out.2.2.1 (Nat.le_trans hB0 hsA4.base) kS) (And.intro n6 (And.intro (kS.row hsA4.lab (fun q hq => by simpa using row_ne_cells hsA4.lab H4.out.2.2.1 (by decide) q hq)) (kS.row H4.out.2.2.2 (fun q hq => by simpa using row_ne_cells H4.out.2.2.2 H4.out.2.2.1 (by decide) q hq))))))
      have hsB := hsA4.base
      clear kS n6 hsA4 H4
      generalize w4.setCell ⟨s.sb, 1, none⟩ (.slice a4 (cutS f s.l).length c4) = w5 at H5 ⊢
      have c1 : w5.cell? ⟨s.sb, 1, none⟩ = some (.slice a4 (cutS f s.l).length c4) := cells_at H5.out.2.2.1 1
      have ls := lt_of_at H5.out.2.2.1
      have hclen : ((cutS f s.l).length : Int) = 0 := by rw [Hnil.out]; rfl
      go_upto_region 11 with fail
      have c4 : w5.cell? ⟨h, 4, none⟩ = some (.map (some ob)) := cells_at H5.out.1.hc 4
      have lh := lt_of_at H5.out.1.hc
      go_upto_region 12 with (refine wpList_delete_int _ rfl (.tmp 85) (.tmp 86) _ _ 103 rfl Tryz.underlying79 Tryz.underlying3 ob ((A ++ s :: C).map ofE) s.ref (by rfl) (by rfl) H5.out.1.of_ ?_; intro w6 hm6 hk6)
      clear c4 lh c1 ls
      rw [delN_mid H5.out.1.of_.nodup] at hm6
      obtain ⟨_, _, hob, -⟩ := H5.out.1.of_
      have hXd := HR.out.2.1.drop
      have hbx := HR.out.2.1.base
      have H6 := Lib.hid (And.intro (H5.out.1.putOf hXd hk6 hm6) (And.intro (H5.out.2.1.one hk6 hob (Nat.le_trans hB0 hbx.2.1) (fun hm => (HR.out.2.1.apX ob hm).2.1 rfl) (fun cs t z e => by cases e)) (And.intro (hk6.at_ H5.out.2.2.1 (by simpa using ne_of_at H5.out.2.2.1 hob (by simp))) (hk6.row H5.out.2.2.2.1 (row_off_map H5.out.2.2.2.1 hob)))))
      clear hm6 hk6 hob H5
      obtain ⟨W7, hW7⟩ : ∃ W7, W7 = w6.drew := ⟨_, rfl⟩
      have k7 : Keeps [] w6 W7 := by rw [hW7]; exact (Keeps.refl [] w6).drew
      obtain ⟨al, cl, el, -, -, -⟩ := row_slice H6.out.2.2.2
      have H7 := Lib.hid (And.intro (go1 k7 H6.out.1) (And.intro (H6.out.2.1.keep k7) (And.intro (k7.at_ H6.out.2.2.1 (by simp)) (go1 k7 H6.out.2.2.2))))
      rw [el] at H7
      have HW := Lib.hid hW7
      clear hW7 k7 H6 el
      have s1 : W7.cell? ⟨h, 3, none⟩ = some (.map (some rb)) := cells_at H7.out.1.hc 3
      have s2 : W7.cell? ⟨s.sb, 0, none⟩ = some (.slice al s.lab.length cl) := cells_at H7.out.2.2.1 0
      refine wp_region_held_drew (S := fun w' => w'.cell? ⟨h, 3, none⟩ = some (.map (some rb)) ∧ w'.cell? ⟨s.sb, 0, none⟩ = some (.slice al s.lab.length cl)) (by kernel_rfl) (by rw [← HW.out]; exact ⟨s1, s2⟩) (fun hS => ?_)
      rw [← HW.out] at hS ⊢
      clear HW s1 s2
      refine tk (v := ?_) 0 rfl ?_ ?_; rotate_left
      ·rintro _ ⟨s1, s2⟩; go_simp; (try with_reducible rfl)
      simp only [Act.put, zz]
      refine tk (v := ?_) 1 rfl ?_ ?_; rotate_left
      ·rintro _ ⟨s1, s2⟩; go_simp; (try with_reducible rfl)
      simp only [Act.put, zz]
      refine tk (v := ?_) 2 rfl ?_ ?_; rotate_left
      ·rintro _ ⟨s1, s2⟩; go_simp; (try with_reducible rfl)
      simp only [Act.put, zz]
      refine tk (v := ?_) 3 rfl ?_ ?_; rotate_left
      ·rintro _ ⟨s1, s2⟩; go_simp; (try with_reducible rfl)
      simp only [Act.put, zz]
      refine tk (v := ?_) 4 rfl ?_ ?_; rotate_left
      ·rintro _ ⟨s1, s2⟩; go_simp; (try with_reducible rfl)
      simp only [Act.put, zz]
      refine tk (v := ?_) 5 rfl ?_ ?_; rotate_left
      ·rintro _ ⟨s1, s2⟩; go_simp; (try with_reducible rfl)
      simp only [Act.put, zz]
      refine tk (v := ?_) 6 rfl ?_ ?_; rotate_left
      ·rintro _ ⟨s1, s2⟩; go_simp; (try with_reducible rfl)
      simp only [Act.put, zz]
      refine tk (v := ?_) 7 rfl ?_ ?_; rotate_left
      ·rintro _ ⟨s1, s2⟩; go_simp; (try with_reducible rfl)
      simp only [Act.put, zz]
      refine rd 8 rfl fun K hK => ?_
      go_simp
      go_at_call 38
      refine (keyG_spec W7 _ s.lab (rowP H7.out.2.2.2) hsl).mono ?_
      rintro e A1 ⟨rfl, kA1⟩
      have H8 := Lib.hid (And.intro (go1 kA1 H7.out.1) (And.intro (H7.out.2.1.keep kA1) (And.intro (kA1.at_ H7.out.2.2.1 (by simp)) (go1 kA1 H7.out.2.2.2))))
      clear kA1 H7
      go_simp
      refine hK.out _ _ ⟨cells_at H8.out.1.hc 3, cells_at H8.out.2.2.1 0⟩ (fun hS => ?_)
      clear hK K
      try simp only [Act.put, zz]
      refine rd 9 rfl fun K hK => ?_
      refine step_delete_str rfl (.tmp 90) (.tmp 95) _ _ _ rfl Tryz.underlying78 Tryz.underlying9 rb ((A ++ s :: C).map refE) (keyP s.lab) rfl rfl H8.out.1.refs ?_
      intro w8 hm8 hk8
      rw [del_mid H8.out.1.refs.nodup] at hm8
      obtain ⟨_, _, hrb, -⟩ := H8.out.1.refs
      have H9 := Lib.hid (And.intro (H8.out.1.putRefs hXd hk8 hm8) (And.intro (H8.out.2.1.one hk8 hrb (Nat.le_trans hB0 hbx.1) (fun hm => (HR.out.2.1.apX rb hm).1 rfl) (fun cs t z e => by cases e)) (And.intro (hk8.at_ H8.out.2.2.1 (by simpa using ne_of_at H8.out.2.2.1 hrb (by simp))) (hk8.row H8.out.2.2.2 (row_off_map H8.out.2.2.2 hrb)))))
      clear hm8 hk8 hrb H8
      refine hK.out _ _ ⟨cells_at H9.out.1.hc 3, cells_at H9.out.2.2.1 0⟩ (fun hS => ?_)
      clear hK K
      try simp only [Act.put, zz]
      refine wpAnyH_done (by kernel_rfl) ?_ _
      clear hS
      obtain ⟨Wx, hWx⟩ : ∃ Wx, Wx = w8.drew := ⟨_, rfl⟩
      have kx : Keeps [] w8 Wx := by rw [hWx]; exact (Keeps.refl [] w8).drew
      have Hx := Lib.hid (And.intro (go1 kx H9.out.1) (And.intro (H9.out.2.1.keep kx) (And.intro (kx.at_ H9.out.2.2.1 (by simp)) (go1 kx H9.out.2.2.2))))
      have HW := Lib.hid hWx
      clear hWx kx H9
      go_upto_region 13 with fail
      have s1 : Wx.cell? ⟨h, 5, none⟩ = some (.pointer (some ⟨x, 0, none⟩)) := cells_at Hx.out.1.hc 5
      have s2 : Wx.cell? ⟨s.sb, 0, none⟩ = some (.slice al s.lab.length cl) := cells_at Hx.out.2.2.1 0
      refine wp_region_held_drew (S := fun w' => w'.cell? ⟨h, 5, none⟩ = some (.pointer (some ⟨x, 0, none⟩)) ∧ w'.cell? ⟨s.sb, 0, none⟩ = some (.slice al s.lab.length cl)) (by kernel_rfl) (by rw [← HW.out]; exact ⟨s1, s2⟩) (fun hS => ?_)
      rw [← HW.out] at hS ⊢
      clear HW s1 s2
      refine tk (v := ?_) 0 rfl ?_ ?_; rotate_left
      ·rintro _ ⟨s1, s2⟩; go_simp; (try with_reducible rfl)
      simp only [Act.put, zz]
      refine tk (v := ?_) 1 rfl ?_ ?_; rotate_left
      ·rintro _ ⟨s1, s2⟩; go_simp; (try with_reducible rfl)
      simp only [Act.put, zz]
      refine tk (v := ?_) 2 rfl ?_ ?_; rotate_left
      ·rintro _ ⟨s1, s2⟩; go_simp; (try with_reducible rfl)
      simp only [Act.put, zz]
      refine tk (v := ?_) 3 rfl ?_ ?_; rotate_left
      ·rintro _ ⟨s1, s2⟩; go_simp; (try with_reducible rfl)
      simp only [Act.put, zz]
      refine tk (v := ?_) 4 rfl ?_ ?_; rotate_left
      ·rintro _ ⟨s1, s2⟩; go_simp; (try with_reducible rfl)
      simp only [Act.put, zz]
      refine tk (v := ?_) 5 rfl ?_ ?_; rotate_left
      ·rintro _ ⟨s1, s2⟩; go_simp; (try with_reducible rfl)
      simp only [Act.put, zz]
      refine tk (v := ?_) 6 rfl ?_ ?_; rotate_left
      ·rintro _ ⟨s1, s2⟩; go_simp; (try with_reducible rfl)
      simp only [Act.put, zz]
      refine tk (v := ?_) 7 rfl ?_ ?_; rotate_left
      ·rintro _ ⟨s1, s2⟩; go_simp; (try with_reducible rfl)
      simp only [Act.put, zz]
      refine tk (v := ?_) 8 rfl ?_ ?_; rotate_left
      ·rintro _ ⟨s1, s2⟩; go_simp; (try with_reducible rfl)
      simp only [Act.put, zz]
      refine rd 9 rfl fun K hK => ?_
      go_simp
      go_at_call 48
      have hmT : serT s ∈ (A ++ s :: C).map serT := List.mem_map.2 ⟨s, by simp, rfl⟩
      have hI := HR.out.2.2.1
      have hXb : ∀ d ∈ rb :: ob :: X', d < Wx.heap.size := fun d hd => by
       rcases List.mem_cons.1 hd with rfl | hd
       ·exact Hx.out.1.refs.lt
       ·rcases List.mem_cons.1 hd with rfl | hd
        ·exact Hx.out.1.of_.lt
        ·have h1 := HXlt.out d hd
         have h2 := Hx.out.2.1.size
         omega
      refine (dropG_spec ((A ++ s :: C).map (·.ref)) (rb :: ob :: X') B w0 Wx x mb s.ref va _ E all s.lab Hx.out.2.1.keeps hB0 hbx.2.2.1 hbx.2.2.2.1 Hx.out.1.ix hI.allOk ⟨hI.rows Hx.out.1.ix.nodupG hI.rlen hI.range, HR.out.2.1.ap⟩ hXb (hI.ser _ hmT).nod (fun q hq => hI.pair (mem_allP.2 ⟨serT s, hmT, hq⟩)) (row_base Hx.out.2.2.2 (Nat.zero_le _)) hsl.1).mono ?_
      rintro e w10 ⟨va', E', rfl, hix, habs, hrows', hk10⟩
      have hI10 := (hI.drop Hx.out.1.ix.nodupG (n := s.ref) (P := s.lab) hmT habs)
      rw [filt_mid HR.out.2.2.2.2.2.2.1] at hI10
      have hI11 := hI10.other (R' := (A ++ C).map (·.ref)) (by simp only [List.length_map, List.length_append, List.length_cons] at hl12 ⊢; omega) (fun q hq => by
       obtain ⟨t, ht, rfl⟩ := List.mem_map.1 hq
       exact List.mem_map.2 ⟨t, ht, rfl⟩)
      have hp10 := Hx.out.1.index hk10 List.mem_cons_self (List.mem_cons_of_mem _ List.mem_cons_self) hix
      have f10 := Hx.out.2.1.k2 hk10 (fun d hd => List.mem_cons_of_mem _ (List.mem_cons_of_mem _ hd))
      have hat10 := hk10.2.1 _ _ _ (by decide) (by decide) Hx.out.2.2.1
      have hN := Lib.hid (show HeadAt B X' w10 h a b c (A ++ C) next (n1 - (s.l.length : Int)) f top from ⟨rb, ob, x, mb, va', E', _, hp10, hXd.ix hrows'.2, hI11, fun d hd => by
       have h1 := HXlt.out d hd
       have h2 := f10.size
       omega⟩)
      have Hfin := Lib.hid (And.intro f10 (And.intro (HR.out.2.2.2.2.2.1.gone HR.out.2.2.2.2.2.2.1 HR.out.2.2.2.2.2.2.2.1 Hnil.out) (And.intro (show n1 - (s.l.length : Int) - cntS (A ++ C) = n - cntS S from by have := Hcnt.out; omega) (show cntS (A ++ C) ≤ cntS S from by have := Hcnt.out; omega))))
      go_simp
      refine hK.out _ _ ⟨cells_at hp10.hc 5, cells_at hat10 0⟩ (fun hS => ?_)
      clear hK K
      try simp only [Act.put, zz]
      refine wpAnyH_done (by kernel_rfl) ?_ _
      clear hS hix habs hrows' hk10 hI10 hI11 hp10 f10 hat10 hI hmT hXb Hx
      go_wp2_with fail
      go_roundg (L.length - (i + 1))
      case measure => have := Hg.out; omega
      case rel => exact ⟨i + 1, A ++ C, n1 - (s.l.length : Int), hlt, rfl, by go_num, hN.out, Hfin.out.1, by rw [Htk.out]; exact Hfin.out.2.1, Hfin.out.2.2.1, Hfin.out.2.2.2⟩
--Z
  ·have hge : ¬ (i : Int) < (L.length : Int) := by omega
   have hall := hcut.all (fun s hs => by
    rw [List.take_of_length_le (by omega)]
    exact (H2.out.2.2.2.1 _).2 (List.mem_map.2 ⟨s, hs, rfl⟩))
   have hXs : ∀ d ∈ X, d ∈ X' := fun d hd => by rw [H2.out.2.2.2.2.2.1]; exact List.mem_append_right _ hd
   have hH' : HeadAt B X wr h a b c S1 next n1 f top := by
    have hl := hfr.size
    obtain ⟨_, _, _, _, _, _, _, _, _, _, hL⟩ := id hHr
    exact hHr.other (Keeps.refl [] wr) (fun d hd => hL d (hXs d hd)) (fun d hd => .inl (hXs d hd))
   have Hr := Lib.hid (And.intro hH' (And.intro (H2.out.2.1.trans (hfr.less hXs)) (And.intro hall hcnt)))
   clear hH' hall hcut hHr hfr
   go_wp2_with fail
   go_end0
   exact ⟨S1, n1, rfl, Hr.out.1, Hr.out.2.1, Hr.out.2.2.1, Hr.out.2.2.2⟩
end Go.Proofs.YtgdkceeonnfejaaGreatDoor
