/-
  Package head: rows and Select, walked: the table of the series that the matchers fit, between two times.
  The series are fewer than 12, none without samples.

  Package head: Select, walked: the table of the series that the matchers fit, between two times.
  The series are fewer than 12, none without samples.
-/
import Derived.Test.YtgdkceeonnfejaaGreatDoorHeadTab
import Derived.Test.YtgdkceeonnfejaaGreatDoorLabCmpS
import Derived.Test.YtgdkceeonnfejaaGreatDoorLabelN
import Derived.Test.YtgdkceeonnfejaaGreatDoorIdxD
import Derived.Test.YtgdkceeonnfejaaGreatDoorTabQ
namespace Go.Proofs.YtgdkceeonnfejaaGreatDoor
set_option maxRecDepth 100000
set_option maxHeartbeats 2000000
set_option linter.unusedSimpArgs false
open Go Go.RowKit
theorem infoSampC : (Tryz.prog.info? 42).map (fun i => (i.zero, i.size, i.bytes)) = some (some (.agg #[.int .i64 0, .int .u64 0]), 2, 16) := by kernel_rfl
theorem infoRowMH : (Tryz.prog.info? 110).map (fun i => (i.zero, i.size, i.bytes)) = some (some (.agg #[.slice none 0 0, .slice none 0 0]), 2, 48) := by kernel_rfl
theorem cloneSm_spec (w : World) (g off c : Nat) (L : List SmpB) (hg : g < w.heap.size) (hc : ∀ j u, (L.flatMap encSm)[j]? = some u → w.cell? ((⟨g, off, none⟩ : Addr).add j) = some u) (hl : L.length ≤ 1000000) :
  Calls Tryz.prog 47 #[.slice (some ⟨g, off, none⟩) L.length c] w fun e w' => ∃ v', e = .returned v' ∧ w'.ownsRow w.heap.size 42 2 v' L.length (L.flatMap encSm) ∧ Keeps [] w w' := by
 have qT : ∀ (w : World) (a : Option Addr) (n c : Nat), (binOp .eql 100 (.slice a n c) (.slice none 0 0)).run Tryz.prog w = .ok (.bool a.isNone) w := fun w a n c => run_eql_slice_nilP w _ _ a n c Tryz.underlying100
 obtain ⟨ip, hip, hz0, hz1, hz2⟩ := info_parts infoSampC
 have k0 : Keeps [] w (w.alloc (.cells #[] 42)) := (Keeps.refl [] w).alloc _
 have hxl : (L.flatMap encSm).length = L.length * 2 := by
  clear hc hl
  induction L with
  | nil => rfl
  | cons a L ih =>
   rw [List.flatMap_cons, List.length_append, ih, List.length_cons]
   show 2 + _ = _
   omega
 have hnews : ∀ j u, (L.flatMap encSm)[j]? = some u → (w.alloc (.cells #[] 42)).cell? ((⟨g, off, none⟩ : Addr).add j) = some u := fun j u hu => by
  have h1 := hc j u hu
  have hadd : (⟨g, off, none⟩ : Addr).add j = ⟨g, off + j, none⟩ := by unfold Addr.add; split <;> simp_all
  rw [hadd] at h1 ⊢
  exact (k0.cell hg (by simp)).trans h1
 have hone : ∀ u ∈ L.flatMap encSm, u.oneCell' = true := fun u hu => by
  obtain ⟨p, -, hp⟩ := List.mem_flatMap.1 hu
  simp [encSm] at hp
  rcases hp with rfl | rfl <;> rfl
 have H0 := Lib.hid (And.intro (own_made w w.heap.size 42 2 (Nat.le_refl _)) (And.intro k0 (And.intro hnews (And.intro hone hxl))))
 clear k0 hnews hone hxl hc hg
 go_enter Tryz.func47, Tryz.ntmps47
 go_wp2_with (at_builtin; refine wpList_append_own _ rfl (.tmp 5) (.tmp 6) 100 rfl w.heap.size 42 ip _ 2 16 Tryz.underlying100 hip hz0 hz1 hz2 rfl (by decide) (.slice (some ⟨w.heap.size, 0, none⟩) 0 0) 0 [] rfl H0.out.1 ⟨g, off, none⟩ L.length c (L.flatMap encSm) rfl H0.out.2.2.2.2 H0.out.2.2.1 H0.out.2.2.2.1 (by simp only [maxLen]; omega) (by omega) (by rw [World.size_alloc]; omega) ?_; intro v8 w8 hown8 hgrow8 hnil; clear hnil)
 go_ret
 exact ⟨_, rfl, by simpa using hown8, keeps_own H0.out.2.1 hgrow8 (fun q hq => (World.ownsRow.lt H0.out.1 q hq).1)⟩
theorem zeroSerR (w : World) : (zeroValue 103).run Tryz.prog w = .ok (.pointer none) w := by kernel_rfl
theorem own_news {w : World} {B : Nat} {T : TypeId} {a : Option Addr} {n c : Nat} {xs : List Value} (h : w.ownsRow B T 2 (.slice a n c) n xs) (h0 : 0 < n) : ∃ g, a = some ⟨g, 0, none⟩ ∧ g < w.heap.size ∧ ∀ j u, xs[j]? = some u → w.cell? ((⟨g, 0, none⟩ : Addr).add j) = some u := by
 have hlt := fun q hq => (World.ownsRow.lt h q hq).2
 obtain ⟨hxl, ⟨-, hn⟩ | ⟨g, c', cur, e, hbase, hg, h1, h2, h3, h4⟩⟩ := h
 ·omega
 ·injection e with e _ _
  subst e
  refine ⟨g, rfl, hlt g rfl, fun j u hu => ?_⟩
  have hadd : (⟨g, 0, none⟩ : Addr).add j = ⟨g, j, none⟩ := by unfold Addr.add; split <;> simp_all
  have hj : j < n * 2 := by rw [← hxl]; exact (List.getElem?_eq_some_iff.1 hu).1
  rw [hadd, cells_at hg, ← Array.getElem?_toList, ← List.getElem?_take_of_lt hj, h4]
  exact hu
def rowS (s : SerH) : RowT := (s.lab, s.l)
def RowsHRel (w : World) (D : List SerH) (gk : Nat) (u5 u11 : Value) (wr : World) : Prop :=
 ∃ k, k ≤ D.length ∧ gk = D.length - k ∧ u11 = .int .i64 (k : Nat) ∧ TabAt 110 149 w.heap.size wr u5 ((D.take k).map rowS) ∧ Keeps [] w wr
def RowsHPost (w : World) (D : List SerH) (e : Ending) (w' : World) : Prop :=
 ∃ v' A, e = .returned v' ∧ A.Perm (D.map rowS) ∧ (A.Pairwise fun a b => ltL a.1 b.1) ∧ TabAt 110 149 w.heap.size w' v' A ∧ Keeps [] w w'
structure SelOk (S : List SerH) : Prop where
 labs : (S.map (·.lab)).Nodup
 lab : ∀ s ∈ S, s.lab ≠ [] ∧ s.lab.length ≤ 10
 smp : ∀ s ∈ S, s.l ≠ [] ∧ s.l.length ≤ 500
theorem rowsH_spec (B : Nat) (X : List Nat) (w : World) (h : Nat) (a b c : Int) (S : List SerH) (next n floor top : Int) (D : List SerH) (v : Value) (hH : HeadAt B X w h a b c S next n floor top) (hD : ∀ s ∈ D, s ∈ S) (hok : SelOk S) (hdl : D.length ≤ 100) (hdd : (D.map (·.lab)).Nodup) (hv : Own 0 w v (D.map (·.ref))) :
  Calls Tryz.prog 43 #[.pointer (some ⟨h, 0, none⟩), v] w (RowsHPost w D) := by
 obtain ⟨ir, hir, hy0, hy1, hy2⟩ := info_parts infoRowMH
 have Hok := Lib.hid (And.intro hok (And.intro hD hdd))
 obtain ⟨rb, ob, x, mb, va, E0, all, HP, -, -, -⟩ := hH
 have hlm : (D.map (·.ref)).length = D.length := List.length_map _
 obtain ⟨av, cv, hve, -, -, -⟩ := row_slice hv
 rw [hlm] at hve
 subst hve
 have HF := Lib.hid (And.intro HP hv)
 clear hok hD hdd HP hv hlm
 go_enter Tryz.func43, Tryz.ntmps43
 go_wp2_with fail
 go_loopg [5, 11] D.length (RowsHRel w D)
 case atStart => exact ⟨0, Nat.zero_le _, rfl, rfl, tab_nil _ _ _ _, Keeps.refl _ _⟩
 case round =>
  obtain ⟨k, hk, hgk, rfl, hrow, hkw⟩ := hrel
  have Hg := Lib.hid hgk
  clear hgk
  have hpw := go1 hkw HF.out.1
  have hvw := go1 hkw HF.out.2
  obtain ⟨E, hE1, hE2⟩ := hrow
  have hEl : E.length ≤ 100 := by have := hE2.1; rw [List.length_map, List.length_take] at this; omega
  obtain ⟨ax, cx, rfl, -, -, -⟩ := row_slice hE1
  by_cases hlt : k < D.length
  ·have hlt' : (k : Int) < (D.length : Int) := by omega
   obtain ⟨b0, off0, ea, hb0, d0⟩ := sf_at1 (Own.ints hvw) k (by simpa using hlt)
   subst ea
   have hsD : D[k] ∈ S := Hok.out.2.1 _ (List.getElem_mem hlt)
   have Htk := Lib.hid (show (D.take (k + 1)).map rowS = (D.take k).map rowS ++ [rowS D[k]] from by rw [List.take_succ_eq_append_getElem hlt, List.map_append]; rfl)
   rw [List.getElem_map] at d0
   generalize D[k] = s at d0 hsD Htk
   have hsA := hpw.ser s hsD
   have hl0 : 0 < s.lab.length := List.length_pos_iff.2 (Hok.out.1.lab s hsD).1
   have hl10 := (Hok.out.1.lab s hsD).2
   have hs0 : 0 < s.l.length := List.length_pos_iff.2 (Hok.out.1.smp s hsD).1
   have hs5 := (Hok.out.1.smp s hsD).2
   obtain ⟨S1, S2, hS12⟩ := List.append_of_mem hsD
   have q1 : (Instr.lookup 79 (.map (some ob)) (.int .i64 s.ref) false).run Tryz.prog wr = .ok (.pointer (some ⟨s.sb, 0, none⟩)) wr := (hpw.of_.run_lookup Tryz.underlying79 Tryz.underlying3 (zeroSerR wr) s.ref false).trans (by
    have := hpw.of_
    rw [hS12] at this ⊢
    show Result.ok ((lookN _ _).getD _) wr = _
    rw [look_of this]
    rfl)
   have c4 : wr.cell? ⟨h, 4, none⟩ = some (.map (some ob)) := cells_at hpw.hc 4
   have l0 := lt_of_at hpw.hc
   clear hS12
   obtain ⟨W0, hW0⟩ : ∃ W0, W0 = wr.drew := ⟨_, rfl⟩
   have kW : Keeps [] wr W0 := by rw [hW0]; exact (Keeps.refl [] wr).drew
   have hlab := hsA.lab
   have hsmp := hsA.smp
   have hat := hsA.at_
   obtain ⟨a1, c1, e1, -, -, -⟩ := row_slice hlab
   obtain ⟨a2, c2, e2, -, -, -⟩ := row_slice hsmp
   rw [e1] at hlab hat
   rw [e2] at hsmp hat
   have H1 := Lib.hid (And.intro (go1 kW (And.intro hE1 (And.intro hE2 (And.intro hlab hsmp)))) (And.intro (hkw.trans kW) (kW.at_ hat (by simp))))
   have HW := Lib.hid hW0
   clear hkw kW hW0 hE1 hE2 hlab hsmp hat hpw hvw hsA e1 e2
   go_upto_region 6 with fail
   clear d0 hb0 q1 c4 l0
   have s1 : W0.cell? ⟨s.sb, 0, none⟩ = some (.slice a1 s.lab.length c1) := by rw [cells_at H1.out.2.2]; rfl
   have s2 : W0.cell? ⟨s.sb, 1, none⟩ = some (.slice a2 s.l.length c2) := by rw [cells_at H1.out.2.2]; rfl
   refine wp_region_held_drew (S := fun w' => w'.cell? ⟨s.sb, 0, none⟩ = some (.slice a1 s.lab.length c1) ∧ w'.cell? ⟨s.sb, 1, none⟩ = some (.slice a2 s.l.length c2)) (by kernel_rfl) (by rw [← HW.out]; exact ⟨s1, s2⟩) (fun hS => ?_)
   rw [← HW.out] at hS ⊢
   clear HW s1 s2
   refine tk (v := ?_) 0 rfl ?_ ?_; rotate_left
   ·rintro _ ⟨s1, s2⟩; go_simp; (try with_reducible rfl)
   simp only [Act.put, zz]
   refine tk (v := ?_) 1 rfl ?_ ?_; rotate_left
   ·rintro _ ⟨s1, s2⟩; go_simp; (try with_reducible rfl)
   simp only [Act.put, zz]
   refine tk (v := ?_) 2 rfl ?_ ?_; rotate_left
   ·rintro _ ⟨s1, s2⟩; go_simp; (try with_reducible rfl)
   simp only [Act.put, zz]
   refine tk (v := ?_) 3 rfl ?_ ?_; rotate_left
   ·rintro _ ⟨s1, s2⟩; go_simp; (try with_reducible rfl)
   simp only [Act.put, zz]
   refine tk (v := ?_) 4 rfl ?_ ?_; rotate_left
   ·rintro _ ⟨s1, s2⟩; go_simp; (try with_reducible rfl)
   simp only [Act.put, zz]
   refine tk (v := ?_) 6 rfl ?_ ?_; rotate_left
   ·rintro _ ⟨s1, s2⟩; go_simp; (try with_reducible rfl)
   simp only [Act.put, zz]
   refine tk (v := ?_) 7 rfl ?_ ?_; rotate_left
   ·rintro _ ⟨s1, s2⟩; go_simp; (try with_reducible rfl)
   simp only [Act.put, zz]
   refine tk (v := ?_) 8 rfl ?_ ?_; rotate_left
   ·rintro _ ⟨s1, s2⟩; go_simp; (try with_reducible rfl)
   simp only [Act.put, zz]
   refine tk (v := ?_) 9 rfl ?_ ?_; rotate_left
   ·rintro _ ⟨s1, s2⟩; go_simp; (try with_reducible rfl)
   simp only [Act.put, zz]
   refine rd 5 rfl fun K hK => ?_
   go_simp
   go_at_call 67
   refine (cloneT_spec W0 0 _ s.lab (row_base H1.out.1.2.2.1 (Nat.zero_le _)) hl0 (by omega)).mono ?_
   rintro e A1 ⟨v1, rfl, hrow1, q1⟩
   have h1 := row_base (b' := 0) hrow1 (Nat.zero_le _)
   obtain ⟨al, cl, rfl, -, -, -⟩ := row_slice hrow1
   have H2 := Lib.hid (And.intro (go1 q1 H1.out.1) (And.intro (H1.out.2.1.trans q1) (And.intro (q1.at_ H1.out.2.2 (by simp)) h1)))
   clear hrow1 q1 h1 H1
   go_simp
   refine hK.out _ _ ⟨by rw [cells_at H2.out.2.2.1]; rfl, by rw [cells_at H2.out.2.2.1]; rfl⟩ (fun hS => ?_)
   clear hK K
   try simp only [Act.put, zz]
   refine rd 10 rfl fun K hK => ?_
   go_simp
   go_at_call 47
   obtain ⟨g2, rfl, hg2, hn2⟩ := own_news H2.out.1.2.2.2 hs0
   refine (cloneSm_spec A1 g2 0 c2 s.l hg2 hn2 (by omega)).mono ?_
   rintro e A4 ⟨v4, rfl, hrow4, q4⟩
   have h4 := row_base (b' := 0) hrow4 (Nat.zero_le _)
   obtain ⟨am, cm, rfl, -, -, -⟩ := row_slice hrow4
   have H4 := Lib.hid (And.intro (go1 q4 H2.out.1) (And.intro (H2.out.2.1.trans q4) (And.intro (q4.at_ H2.out.2.2.1 (by simp)) (And.intro (go1 q4 H2.out.2.2.2) h4))))
   clear hrow4 q4 h4 H2 hg2 hn2
   go_simp
   refine hK.out _ _ ⟨by rw [cells_at H4.out.2.2.1]; rfl, by rw [cells_at H4.out.2.2.1]; rfl⟩ (fun hS => ?_)
   clear hK K
   try simp only [Act.put, zz]
   refine rd 11 rfl fun K hK => ?_
   go_simp
   go_simp
   refine hK.out _ _ ⟨by rw [cells_at H4.out.2.2.1]; rfl, by rw [cells_at H4.out.2.2.1]; rfl⟩ (fun hS => ?_)
   clear hK K
   try simp only [Act.put, zz]
   refine rd 12 rfl fun K hK => ?_
   go_simp
   have kA : Keeps [] A4 (A4.alloc (.cells #[.slice al s.lab.length cl, .slice am s.l.length cm] 110)) := (Keeps.refl [] A4).alloc _
   have H3 := Lib.hid (And.intro (heap_new A4 (.cells #[.slice al s.lab.length cl, .slice am s.l.length cm] 110)) (And.intro (go1 kA H4.out.1) (And.intro (H4.out.2.1.trans kA) (And.intro (kA.at_ H4.out.2.2.1 (by simp)) (go1 kA H4.out.2.2.2)))))
   clear kA H4
   generalize A4.heap.size = nb at H3 ⊢
   generalize A4.alloc (.cells #[.slice al s.lab.length cl, .slice am s.l.length cm] 110) = A2 at H3 ⊢
   go_simp
   refine hK.out _ _ ⟨by rw [cells_at H3.out.2.2.2.1]; rfl, by rw [cells_at H3.out.2.2.2.1]; rfl⟩ (fun hS => ?_)
   clear hK K
   try simp only [Act.put, zz]
   refine rd 13 rfl fun K hK => ?_
   refine step_appP rfl (.tmp 21) (.tmp 33) 47 rfl w.heap.size 110 ir _ 2 48 Tryz.underlying47 hir hy0 hy1 hy2 rfl (by decide) (.slice ax E.length cx) E.length (E.flatMap encRV) rfl H3.out.2.1.1 ⟨nb, 0, none⟩ 1 1 [.slice al s.lab.length cl, .slice am s.l.length cm] rfl rfl (news_two H3.out.1) (by simp [Value.oneCell']) (by simp only [maxLen]; omega) (by omega) H3.out.2.2.1.size ?_
   intro v5 A3 hown5 hgrow5
   obtain ⟨ao5, cp5, rfl, -, -, -⟩ := row_slice hown5
   have k5 := keeps_row hgrow5
   have n5 := k5.at_ H3.out.2.2.2.1 (fun hm => row_ne_cells H3.out.2.1.1 H3.out.2.2.2.1 (by decide) _ (by simpa using hm) rfl)
   have t5 : A3.cell? ⟨s.sb, 0, none⟩ = some (.slice a1 s.lab.length c1) ∧ A3.cell? ⟨s.sb, 1, none⟩ = some (.slice (some ⟨g2, 0, none⟩) s.l.length c2) := ⟨by rw [cells_at n5]; rfl, by rw [cells_at n5]; rfl⟩
   have hel := (H3.out.2.1.2.1.snoc (r := rowS s) H3.out.2.2.2.2.1 H3.out.2.2.2.2.2).grown H3.out.2.1.1 k5 (by decide) (by decide)
   have hk5 := keeps_own H3.out.2.2.1 hgrow5 (fun q hq => (World.ownsRow.lt H3.out.2.1.1 q hq).1)
   have H5 := Lib.hid (And.intro (rv_snoc hown5) (And.intro hel hk5))
   have T5 := Lib.hid t5
   clear hown5 hgrow5 k5 n5 hel hk5 t5 H3
   refine hK.out _ _ T5.out (fun hS => ?_)
   clear hK K
   try simp only [Act.put, zz]
   refine rd 14 rfl fun K hK => ?_
   go_simp
   go_simp
   refine hK.out _ _ T5.out (fun hS => ?_)
   clear hK K
   try simp only [Act.put, zz]
   refine wpAnyH_done (by kernel_rfl) ?_ _
   clear hS T5
   go_wp2_with fail
   go_roundg (D.length - (k + 1))
   case measure => have := Hg.out; omega
   case rel => exact ⟨k + 1, hlt, rfl, by go_num, by rw [Htk.out]; exact ⟨_, H5.out.1, H5.out.2.1⟩, H5.out.2.2⟩
  ·have hge : ¬ (k : Int) < (D.length : Int) := by omega
   have hkn : D.take k = D := List.take_of_length_le (by omega)
   rw [hkn] at hE2
   have ht : TabAt 110 149 w.heap.size wr (.slice ax E.length cx) (D.map rowS) := ⟨E, hE1, hE2⟩
   have hlabs : (D.map rowS).map (·.1) = D.map (·.lab) := by rw [List.map_map]; rfl
   have Hs := Lib.hid (sortRows_spec wr w.heap.size _ (D.map rowS) ht (by rw [hlabs]; exact Hok.out.2.2) (by rw [List.length_map]; omega) (fun r hr => by
    obtain ⟨s, hs, rfl⟩ := List.mem_map.1 hr
    have := (Hok.out.1.lab s (Hok.out.2.1 s hs)).2
    show s.lab.length ≤ 1000
    omega))
   have Hr := Lib.hid (And.intro hE1 hkw)
   clear hE1 hE2 hkw hpw hvw hkn ht hlabs
   go_wp2_with fail
   refine Hs.out.mono ?_
   rintro e w2 ⟨A', rfl, hp, hso, hta, hg⟩
   have k2 := keeps_own Hr.out.2 hg (fun q hq => (World.ownsRow.lt Hr.out.1 q hq).1)
   have H2 := Lib.hid (And.intro hp (And.intro hso (And.intro hta k2)))
   clear hp hso hta hg k2
   go_wp2_with fail
   go_ret
   exact ⟨_, A', rfl, H2.out⟩
theorem pick_refs {S : List SerH} : ∀ {L : List Int}, (∀ r ∈ L, ∃ s ∈ S, s.ref = r) → ∃ D : List SerH, D.map (·.ref) = L ∧ ∀ s ∈ D, s ∈ S
 | [], _ => ⟨[], rfl, by simp⟩
 | r :: L, h => by
  obtain ⟨s, hs, e⟩ := h r List.mem_cons_self
  obtain ⟨D, h1, h2⟩ := pick_refs (L := L) fun q hq => h q (List.mem_cons_of_mem _ hq)
  refine ⟨s :: D, by rw [List.map_cons, h1, e], fun t ht => ?_⟩
  rcases List.mem_cons.1 ht with rfl | ht
  ·exact hs
  ·exact h2 t ht
theorem map_one {α β : Type} {f : α → β} : ∀ {S : List α}, (S.map f).Nodup → ∀ {s t : α}, s ∈ S → t ∈ S → f s = f t → s = t
 | a :: S, hn, s, t, hs, ht, e => by
  rw [List.map_cons, List.nodup_cons] at hn
  rcases List.mem_cons.1 hs with h1 | h1
  ·rcases List.mem_cons.1 ht with h2 | h2
   ·rw [h1, h2]
   ·exact (hn.1 (List.mem_map.2 ⟨t, h2, by rw [← e, h1]⟩)).elim
  ·rcases List.mem_cons.1 ht with h2 | h2
   ·exact (hn.1 (List.mem_map.2 ⟨s, h1, by rw [e, h2]⟩)).elim
   ·exact map_one hn.2 h1 h2 e
def SelHPost (w : World) (S : List SerH) (L : List MatB) (from_ upt : Int) (e : Ending) (w' : World) : Prop :=
 ∃ v' A, e = .returned v' ∧ TabOf (S.filter fun s => L.all (fitsM s.lab)) A ∧ TabAt 110 149 w.heap.size w' v' (betT from_ upt A) ∧ Keeps [] w w'
theorem HeadAt.idx {B : Nat} {X : List Nat} {w : World} {h : Nat} {a b c next n floor top : Int} {S : List SerH} (H : HeadAt B X w h a b c S next n floor top) : ∃ x, w.cell? ⟨h, 5, none⟩ = some (.pointer (some ⟨x, 0, none⟩)) ∧ Idx w x (S.map serT) ∧ h < w.heap.size ∧ (S.map (·.ref)).Nodup ∧ S.length ≤ 12 := by
 obtain ⟨rb, ob, x, mb, va, E0, all, HP, HX, HI, -⟩ := H
 refine ⟨x, cells_at HP.hc 5, ⟨S.map (·.ref), B, mb, va, E0, all, HP.ix, HI.rows HP.ix.nodupG HI.rlen HI.range, HI⟩, lt_of_at HP.hc, ?_, by have := HI.len; simpa using this⟩
 have := HI.nod
 rw [List.map_map] at this
 exact this
theorem sel_series {w : World} {x : Nat} {S : List SerH} {L : List MatB} (hI : Idx w x (S.map serT)) (hok : SelOk S) (hnd : (S.map (·.ref)).Nodup) (hlen : S.length ≤ 12) : ∃ D : List SerH, D.map (·.ref) = selL (S.map serT) L ∧ (∀ s ∈ D, s ∈ S) ∧ (D.map (·.lab)).Nodup ∧ D.length ≤ 12 ∧ ∀ s, s ∈ D ↔ s ∈ S.filter fun s => L.all (fitsM s.lab) := by
 have hd := hI.dist.1
 have hmem : ∀ r ∈ selL (S.map serT) L, ∃ s ∈ S, s.ref = r := fun r hr => by
  have h1 := (mem_selL.1 hr).1
  unfold allL at h1
  have h2 := ((putAll_good _).2 r).1 h1
  obtain ⟨t, ht, rfl⟩ := List.mem_map.1 h2
  obtain ⟨s, hs, rfl⟩ := List.mem_map.1 ht
  exact ⟨s, hs, rfl⟩
 obtain ⟨D, hD1, hD2⟩ := pick_refs hmem
 have hDn : (D.map (·.ref)).Nodup := by rw [hD1]; exact rises_nodup (selL_rises _ L)
 have hDl : D.length ≤ 12 := by
  have h1 : (D.map (·.ref)).length ≤ (S.map (·.ref)).length := nodup_le hDn fun r hr => by
   obtain ⟨s, hs, rfl⟩ := List.mem_map.1 hr
   exact List.mem_map.2 ⟨s, hD2 s hs, rfl⟩
  simp only [List.length_map] at h1
  omega
 have hDd : (D.map (·.lab)).Nodup := by
  rw [List.nodup_iff_pairwise_ne, List.pairwise_map]
  rw [List.nodup_iff_pairwise_ne, List.pairwise_map] at hDn
  exact hDn.imp_of_mem fun {s t} hs ht hne e => hne (by rw [map_one hok.labs (hD2 s hs) (hD2 t ht) e])
 have hDS : ∀ s, s ∈ D ↔ s ∈ S.filter fun s => L.all (fitsM s.lab) := fun s => by
  have hsel := selL_is hd L
  have hin : ∀ n, n ∈ selL (S.map serT) L ↔ ∃ t ∈ S, L.all (fitsM t.lab) = true ∧ t.ref = n := fun n => by
   rw [hsel, (putAll_good _).2]
   constructor
   ·intro h1
    obtain ⟨t, ht, rfl⟩ := List.mem_map.1 h1
    obtain ⟨ht, h2⟩ := List.mem_filter.1 ht
    obtain ⟨u, hu, rfl⟩ := List.mem_map.1 ht
    exact ⟨u, hu, h2, rfl⟩
   ·rintro ⟨t, ht, h2, rfl⟩
    exact List.mem_map.2 ⟨serT t, List.mem_filter.2 ⟨List.mem_map.2 ⟨t, ht, rfl⟩, h2⟩, rfl⟩
  constructor
  ·intro hs
   obtain ⟨t, ht, h2, e⟩ := (hin s.ref).1 (by rw [← hD1]; exact List.mem_map.2 ⟨s, hs, rfl⟩)
   have : t = s := map_one hnd ht (hD2 s hs) e
   subst this
   exact List.mem_filter.2 ⟨ht, h2⟩
  ·intro hs
   obtain ⟨hs, h2⟩ := List.mem_filter.1 hs
   have h3 := (hin s.ref).2 ⟨s, hs, h2, rfl⟩
   rw [← hD1] at h3
   obtain ⟨t, ht, e⟩ := List.mem_map.1 h3
   have : t = s := map_one hnd (hD2 t ht) hs e
   exact this ▸ ht
 exact ⟨D, hD1, hD2, hDd, hDl, hDS⟩
theorem selectH_spec (B : Nat) (X : List Nat) (w : World) (h : Nat) (a b c : Int) (S : List SerH) (next n floor top from_ upt : Int) (vm : Value) (L : List MatB) (hH : HeadAt B X w h a b c S next n floor top) (hok : SelOk S) (hm : MatsAt w vm L) (hmay : ∀ m ∈ L, mayK m) :
  Calls Tryz.prog 16 #[.pointer (some ⟨h, 0, none⟩), .int .i64 from_, .int .i64 upt, vm] w (SelHPost w S L from_ upt) := by
 obtain ⟨x, c5, hI, hl, hnd, hlen⟩ := hH.idx
 obtain ⟨D, hD1, hD2, hDd, hDl, hDS⟩ := sel_series (L := L) hI hok hnd hlen
 have hsel := select_spec w x _ hI vm L hm hmay
 rw [← hD1] at hsel
 clear hD1
 have Hsel := Lib.hid hsel
 have HF := Lib.hid (And.intro hH (And.intro hok (And.intro hD2 (And.intro hDd hDS))))
 obtain ⟨ao, cap, rfl, -⟩ := hm.form
 clear hI hH hok hD2 hDd hDS hm hsel hnd hlen hmay
 go_enter Tryz.func16, Tryz.ntmps16
 go_wp2_with fail
 refine Hsel.out.mono ?_
 rintro e w1 ⟨v1, rfl, ho1, hk1⟩
 have ho1' := row_base (b' := 0) ho1 (Nat.zero_le _)
 have Hr := Lib.hid (rowsH_spec B X w1 h a b c S next n floor top D v1 (HF.out.1.keep hk1) HF.out.2.2.1 HF.out.2.1 (by omega) HF.out.2.2.2.1 ho1')
 obtain ⟨a1, c1, hve, -, -, -⟩ := row_slice ho1
 rw [show (D.map (·.ref)).length = D.length from List.length_map _] at hve
 subst hve
 have H1 := Lib.hid hk1
 clear ho1 ho1' hk1 c5 hl Hsel
 go_wp2_with fail
 refine Hr.out.mono ?_
 rintro e w2 ⟨v2, A, rfl, hp, hso, hta, hk2⟩
 have htab : TabOf (S.filter fun s => L.all (fitsM s.lab)) A := ⟨hso, fun r => by
  rw [hp.mem_iff, List.mem_map]
  constructor
  ·rintro ⟨s, hs, rfl⟩
   exact ⟨s, (HF.out.2.2.2.2 s).1 hs, rfl⟩
  ·rintro ⟨s, hs, rfl⟩
   exact ⟨s, (HF.out.2.2.2.2 s).2 hs, rfl⟩⟩
 have hrow : ∀ r ∈ A, ∃ s ∈ S, r = (s.lab, s.l) := fun r hr => by
  obtain ⟨s, hs, e⟩ := (htab.mem r).1 hr
  exact ⟨s, (List.mem_filter.1 hs).1, e⟩
 have hfew : FewT A := ⟨by rw [hp.length_eq, List.length_map]; omega, fun r hr => by
  obtain ⟨s, hs, rfl⟩ := hrow r hr
  have h1 := (HF.out.2.1.lab s hs).2
  have h2 := (HF.out.2.1.smp s hs).2
  show s.lab.length ≤ 1000 ∧ s.l.length ≤ 500
  omega⟩
 have Hb := Lib.hid (between14_spec w2 v2 A from_ upt (hta.base (Nat.zero_le _)) hfew (fun r hr => by
  obtain ⟨s, hs, rfl⟩ := hrow r hr
  exact (HF.out.2.1.lab s hs).1))
 obtain ⟨a2, c2, rfl⟩ := hta.form
 have H2 := Lib.hid (And.intro htab (H1.out.trans hk2))
 clear hp hso hta hk2 htab hrow hfew Hr
 go_wp2_with fail
 refine Hb.out.mono ?_
 rintro e w3 ⟨v3, rfl, hta, hk3⟩
 have H3 := Lib.hid (And.intro (hta.base (Nat.le_trans (Nat.le_refl _) H2.out.2.size)) (H2.out.2.trans hk3))
 obtain ⟨a3, c3, rfl⟩ := hta.form
 clear hta hk3 Hb
 go_wp2_with fail
 go_ret
 exact ⟨_, A, rfl, H2.out.1, H3.out.1, H3.out.2⟩
end Go.Proofs.YtgdkceeonnfejaaGreatDoor
