/-
  A listing of some metas, in any order, and marks (package listing): New.
  At most 1,000 metas, each block once.
-/
import Derived.Test.YtjffdcflkkgpfaaGreatSortMetas
namespace Go.Proofs.YtjffdcflkkgpfaaGreat
open Go Go.RowKit Go.Sort Go.Conc
open Go.Op (bytesLess)

def NewLPost (B : Nat) (w : World) (at_ : Int) (L : List MetaS) (M : PartsM) (e : Ending) (w' : World) : Prop :=
  ∃ L' vm mb, e = .returned (.agg #[.int .i64 at_, vm, .map (some mb)]) ∧ L'.Perm L ∧ L'.Pairwise (fun a b => bytesLess a.id.data.toList b.id.data.toList = true) ∧ MetasV B w' vm L' ∧ MapAt w' mb (encMap encI M) ∧ w.heap.size ≤ mb ∧ Keeps [] w w'

theorem sorted_ids {D D' : List MetaC} {L : List MetaS} (hL : D.map (·.1) = L) (hn : (L.map (·.id)).Nodup) (hp : D'.Perm D) (hs : D'.Pairwise (fun a b => bytesLess b.1.id.data.toList a.1.id.data.toList = false)) : (D'.map (·.1)).Perm L ∧ (D'.map (·.1)).Pairwise (fun a b => bytesLess a.id.data.toList b.id.data.toList = true) := by
  subst hL
  refine ⟨hp.map _, ?_⟩
  have hn' : (D'.map (fun c => c.1.id)).Nodup := by
    have h1 := (hp.map (fun c : MetaC => c.1.id)).nodup_iff.2 (by simpa [Function.comp_def] using hn)
    exact h1
  rw [List.pairwise_map]
  rw [List.Nodup, List.pairwise_map] at hn'
  refine (hs.and hn').imp ?_
  rintro a b ⟨h1, h2⟩
  cases h3 : bytesLess a.1.id.data.toList b.1.id.data.toList with
  | true => rfl
  | false => exact absurd (ba_ext (less_tri h3 h1)) h2

set_option linter.unusedSimpArgs false in
set_option maxRecDepth 100000 in
set_option maxHeartbeats 4000000 in
theorem new_spec (B : Nat) (w : World) (at_ : Int) (a : Addr) (n c : Nat) (L : List MetaS) (mo : Option Nat) (M : PartsM) (hL : MetasV B w (.slice (some a) n c) L) (hl : L.length ≤ 1000) (hn : (L.map (·.id)).Nodup) (hB : B ≤ w.heap.size)
    (hM : (∃ mb, mo = some mb ∧ MapAt w mb (encMap encI M)) ∨ (mo = none ∧ M = [])) :
    Calls Tryz.prog 43 #[.int .i64 at_, .slice (some a) n c, .map mo] w (NewLPost B w at_ L M) := by
  obtain ⟨D, hD, hDs, hDm⟩ := hL.reps
  have hDl : D.length ≤ 1000 := by rw [← hD, List.length_map] at hl; exact hl
  have Hsi := Lib.hid (fun D' => @sorted_ids D D' L hD hn)
  have hmm := @run_makeMap Tryz.prog
  have qM : ∀ (w : World) (r : Option Nat), (binOp .eql 30 (.map r) (.map none)).run Tryz.prog w = .ok (.bool r.isNone) w := fun w r => run_eql_map_nil w _ _ _ r Tryz.underlying30
  obtain ⟨rb, hrb⟩ : ∃ n, n = w.heap.size := ⟨_, rfl⟩
  have n0 := heap_new w (.cells #[.int .i64 0, .slice none 0 0, .map none] 32)
  have k0 : Keeps [] w (w.alloc (.cells #[.int .i64 0, .slice none 0 0, .map none] 32)) := (Keeps.refl [] w).alloc _
  rw [← hrb] at n0
  have hrw : w.heap.size ≤ rb := by omega
  have HB := Lib.hid hrb
  have hM0 : (∃ mb, mo = some mb ∧ MapAt (w.alloc (.cells #[.int .i64 0, .slice none 0 0, .map none] 32)) mb (encMap encI M)) ∨ (mo = none ∧ M = []) := by
    rcases hM with ⟨mb, e, h⟩ | h
    · exact .inl ⟨mb, e, h.keep k0 (by simp)⟩
    · exact .inr h
  have hz0 : (w.alloc (.cells #[.int .i64 0, .slice none 0 0, .map none] 32)).heap.size = w.heap.size + 1 := by simp
  have hcl := cloneM_spec (B := B) (w.alloc (.cells #[.int .i64 0, .slice none 0 0, .map none] 32)) a n c D (hDs.keep k0 (by simp)) (by omega)
  have Hcl := Lib.hid hcl
  have H0 := Lib.hid (And.intro n0 (And.intro k0 (And.intro hM0 hz0)))
  have Hdm := Lib.hid hDm
  clear hL hD hDs hDm hn hl hrb n0 k0 hM hM0 hz0 hcl
  go_enter Tryz.func43, Tryz.ntmps43
  go_wp2_with fail
  rw [← HB.out]
  generalize w.alloc (.cells #[.int .i64 0, .slice none 0 0, .map none] 32) = W0 at H0 Hcl ⊢
  refine Hcl.out.mono ?_
  rintro e w1 ⟨g, cap, rfl, hrow, hk1⟩
  have hM1 : (∃ mb, mo = some mb ∧ MapAt w1 mb (encMap encI M)) ∨ (mo = none ∧ M = []) := by
    rcases H0.out.2.2.1 with ⟨mb, e, h⟩ | h
    · exact .inl ⟨mb, e, h.keep hk1 (by simp)⟩
    · exact .inr h
  have H1 := Lib.hid (And.intro (hk1.at_ H0.out.1 (by simp)) (And.intro hrow (H0.out.2.1.trans hk1)))
  have hw01 : w.heap.size + 1 ≤ W0.heap.size := by rw [H0.out.2.2.2]; omega
  have hw1 := hk1.size
  have hrlt := lt_of_at H1.out.1
  clear hrow hk1 H0 Hcl
  rcases hM1 with ⟨mb, rfl, hmb⟩ | ⟨rfl, rfl⟩
  · obtain ⟨E, clock, hm, hr, hpp⟩ := hmb
    have Hc := Lib.hid (AnyW.maps_Clone Tryz.cloneSI mb (E.map entry).toArray clock w1 hm)
    have Hm := Lib.hid (And.intro hr hpp)
    clear hm hr hpp
    go_wp2_with fail
    refine Hc.out.mono ?_
    rintro e w2 ⟨rfl, rfl⟩
    obtain ⟨mb2, hmb2⟩ : ∃ n, n = w1.heap.size := ⟨_, rfl⟩
    obtain ⟨lb, hlb⟩ : ∃ n, n = w1.heap.size + 1 := ⟨_, rfl⟩
    have hne : w.heap.size ≤ mb2 ∧ w.heap.size ≤ lb ∧ lb ≠ rb ∧ lb ≠ mb2 ∧ rb ≠ mb2 := by omega
    have hz2 : (w1.alloc (.map (E.map entry).toArray clock)).heap.size = w1.heap.size + 1 := by simp
    have k12 : Keeps [] w1 ((w1.alloc (.map (E.map entry).toArray clock)).alloc (.cells #[.int .i64 at_, .slice (some ⟨g, 0, none⟩) D.length cap, .map (some w1.heap.size)] 32)) := ((Keeps.refl [] w1).alloc _).alloc _
    have m1 : MapAt (w1.alloc (.map (E.map entry).toArray clock)) w1.heap.size (encMap encI M) := ⟨E, clock, heap_new w1 _, Hm.out.1, Hm.out.2⟩
    have m2 : MapAt ((w1.alloc (.map (E.map entry).toArray clock)).alloc (.cells #[.int .i64 at_, .slice (some ⟨g, 0, none⟩) D.length cap, .map (some w1.heap.size)] 32)) w1.heap.size (encMap encI M) := m1.keep ((Keeps.refl [] (w1.alloc (.map (E.map entry).toArray clock))).alloc _) (by simp)
    have nl2 := heap_new (w1.alloc (.map (E.map entry).toArray clock)) (.cells #[.int .i64 at_, .slice (some ⟨g, 0, none⟩) D.length cap, .map (some w1.heap.size)] 32)
    rw [hz2] at nl2
    have HL := Lib.hid (And.intro hlb hmb2)
    have H2 := Lib.hid (And.intro nl2 (And.intro (k12.at_ H1.out.1 (by simp)) (And.intro m2 (And.intro (k12.row H1.out.2.1 (by simp)) (H1.out.2.2.trans k12)))))
    clear hz2 k12 m1 m2 nl2 H1 Hc hlb hmb2
    go_upto_region 2 with fail
    rw [← HL.out.1, ← HL.out.2] at H2 ⊢
    generalize (w1.alloc (.map (E.map entry).toArray clock)).alloc (.cells #[.int .i64 at_, .slice (some ⟨g, 0, none⟩) D.length cap, .map (some mb2)] 32) = W2 at H2 ⊢
    clear Hm
    have c2 := cells_at H2.out.1
    have l2 := lt_of_at H2.out.1
    have Hso := Lib.hid (sortM_spec W2 W0.heap.size g cap D H2.out.2.2.2.1 hDl)
    go_wp2_with fail
    refine Hso.out.mono ?_
    rintro e w3 ⟨D', rfl, hp, hs, hrow3, hg3⟩
    have hk3 := keeps_rowM hg3
    have hrw2 := H2.out.2.2.2.1
    have nl3 := hk3.at_ H2.out.1 (row_ne_typeM hrw2 H2.out.1 (by decide))
    have nr3 := hk3.at_ H2.out.2.1 (row_ne_typeM hrw2 H2.out.2.1 (by decide))
    have mm3 := H2.out.2.2.1.keep hk3 (row_ne_map hrw2 H2.out.2.2.1)
    have hgw : ∀ x ∈ (Value.slice (some ⟨g, 0, none⟩) D.length cap).ownBlock.toList, W0.heap.size ≤ x := fun x hx => (World.ownsRow.lt hrw2 x (by simpa using hx)).1
    have kw3 : Keeps [] w w3 := H2.out.2.2.2.2.after hk3 (fun x hx => .inr (by have := hgw x hx; omega))
    obtain ⟨hp2, hs2⟩ := Hsi.out D' hp hs
    have hlen : D'.length = D.length := hp.length_eq
    rw [← hlen] at hrow3
    have H3 := Lib.hid (And.intro nr3 (And.intro hrow3 (And.intro mm3 (And.intro kw3 (And.intro hp2 (And.intro hs2 (And.intro hp hlen)))))))
    have c3 := cells_at nl3
    have l3 := lt_of_at nl3
    have cr3 := cells_at nr3
    have fr3 := free_at nr3
    have lr3 := lt_of_at nr3
    clear hp hs hrow3 hg3 hk3 hrw2 nl3 nr3 mm3 hgw kw3 hp2 hs2 hlen c2 l2 Hso H2
    go_wp2_with fail
    have se := set3 (v0 := .int .i64 at_) (v1 := .slice (some ⟨g, 0, none⟩) D.length cap) (v2 := .map (some mb2)) H3.out.1
    have hbr := HB.out
    have kwF : Keeps [] w _ := H3.out.2.2.2.1.after se.2 (fun x hx => .inr (by simp only [List.mem_singleton] at hx; omega))
    have hrowF := se.2.row H3.out.2.1 (fun x hx hm => by
      have := (World.ownsRow.lt H3.out.2.1 x hx).1
      simp only [List.mem_singleton] at hm
      omega)
    have hms : MetasV B _ (.slice (some ⟨g, 0, none⟩) D'.length cap) (D'.map (·.1)) := metasV_of ((sliceFrom_row (fun c => encMC_len c) hrowF).low (by omega)) (fun c hc => (Hdm.out c (H3.out.2.2.2.2.2.2.1.subset hc)).same kwF)
    rw [H3.out.2.2.2.2.2.2.2] at hms
    have hc := cells_at se.1
    have hlr := lt_of_at se.1
    refine bodyPost_ret (v := .agg #[.int .i64 at_, .slice (some ⟨g, 0, none⟩) D.length cap, .map (some mb2)]) ?_ rfl ⟨D'.map (·.1), .slice (some ⟨g, 0, none⟩) D.length cap, mb2, rfl, H3.out.2.2.2.2.1, H3.out.2.2.2.2.2.1, hms, H3.out.2.2.1.keep se.2 (by simp; omega), hne.1, kwF⟩
    simp [results, Tryz.results43, go_sem, hc, hlr]
  · have Hc := Lib.hid (fun W => AnyW.maps_Clone_nil Tryz.cloneSI W)
    go_wp2_with fail
    refine (Hc.out _).mono ?_
    rintro e w2 ⟨rfl, rfl⟩
    obtain ⟨lb, hlb⟩ : ∃ n, n = w2.heap.size := ⟨_, rfl⟩
    obtain ⟨mb2, hmb2⟩ : ∃ n, n = w2.heap.size + 1 := ⟨_, rfl⟩
    have hne : w.heap.size ≤ mb2 ∧ w.heap.size ≤ lb ∧ lb ≠ rb ∧ lb ≠ mb2 ∧ rb ≠ mb2 := by omega
    have k12 : Keeps [] w2 (w2.alloc (.cells #[.int .i64 at_, .slice (some ⟨g, 0, none⟩) D.length cap, .map none] 32)) := (Keeps.refl [] w2).alloc _
    have nl2 := heap_new w2 (.cells #[.int .i64 at_, .slice (some ⟨g, 0, none⟩) D.length cap, .map none] 32)
    have hz2 : (w2.alloc (.cells #[.int .i64 at_, .slice (some ⟨g, 0, none⟩) D.length cap, .map none] 32)).heap.size = w2.heap.size + 1 := by simp
    have H2 := Lib.hid (And.intro nl2 (And.intro (k12.at_ H1.out.1 (by simp)) (And.intro (k12.row H1.out.2.1 (by simp)) (And.intro (H1.out.2.2.trans k12) hz2))))
    have HL := Lib.hid (And.intro hlb hmb2)
    clear hz2 k12 nl2 H1 Hc hlb hmb2
    go_upto_region 2 with fail
    rw [← HL.out.1] at H2 ⊢
    generalize w2.alloc (.cells #[.int .i64 at_, .slice (some ⟨g, 0, none⟩) D.length cap, .map none] 32) = W1 at H2 ⊢
    have c1 := cells_at H2.out.1
    have l1 := lt_of_at H2.out.1
    have fl1 := free_at H2.out.1
    have nl3 : (W1.setCell ⟨lb, 2, none⟩ (.map (some W1.heap.size))).heap[lb]? = some (.cells #[.int .i64 at_, .slice (some ⟨g, 0, none⟩) D.length cap, .map (some W1.heap.size)] 32 (0, 0)) := (heap_cell_same (i := 2) H2.out.1 _).trans (by simp)
    have k3 : Keeps [lb] W1 (W1.setCell ⟨lb, 2, none⟩ (.map (some W1.heap.size))) := (Keeps.refl [lb] _).setCell (.inl (by simp)) _
    have k4 : Keeps [] (W1.setCell ⟨lb, 2, none⟩ (.map (some W1.heap.size))) ((W1.setCell ⟨lb, 2, none⟩ (.map (some W1.heap.size))).alloc (.map #[] 0)) := (Keeps.refl [] _).alloc _
    have m4 := mapAt_new (W1.setCell ⟨lb, 2, none⟩ (.map (some W1.heap.size)))
    have hzs : (W1.setCell ⟨lb, 2, none⟩ (.map (some W1.heap.size))).heap.size = W1.heap.size := by simp
    rw [hzs] at m4
    have hz1 := H2.out.2.2.2.2
    have hrow2 := H2.out.2.2.1
    have H3 := Lib.hid (And.intro (k4.at_ nl3 (by simp)) (And.intro (k4.at_ (k3.at_ H2.out.2.1 (by simp; omega)) (by simp)) (And.intro (m4 : MapAt _ W1.heap.size (encMap encI [])) (And.intro (k4.row (k3.row hrow2 (fun g hg => by have := row_ne_type hrow2 H2.out.1 (by decide) g hg; simpa using this)) (by simp)) ((H2.out.2.2.2.1.after k3 (fun x hx => .inr (by simp only [List.mem_singleton] at hx; omega))).trans k4)))))
    have hzm : mb2 = W1.heap.size := by have := HL.out.1; have := HL.out.2; omega
    have Hzm := Lib.hid hzm
    clear m4 k3 nl3 hzs k4 hrow2 hz1 H2 hzm
    go_upto_region 4 with fail
    clear c1 l1 fl1
    rw [← Hzm.out] at H3 ⊢
    generalize (W1.setCell ⟨lb, 2, none⟩ (.map (some mb2))).alloc (.map #[] 0) = W2 at H3 ⊢
    have H2 := H3
    clear H3
    have c2 := cells_at H2.out.1
    have l2 := lt_of_at H2.out.1
    have Hso := Lib.hid (sortM_spec W2 W0.heap.size g cap D H2.out.2.2.2.1 hDl)
    go_wp2_with fail
    refine Hso.out.mono ?_
    rintro e w3 ⟨D', rfl, hp, hs, hrow3, hg3⟩
    have hk3 := keeps_rowM hg3
    have hrw2 := H2.out.2.2.2.1
    have nl3 := hk3.at_ H2.out.1 (row_ne_typeM hrw2 H2.out.1 (by decide))
    have nr3 := hk3.at_ H2.out.2.1 (row_ne_typeM hrw2 H2.out.2.1 (by decide))
    have mm3 := H2.out.2.2.1.keep hk3 (row_ne_map hrw2 H2.out.2.2.1)
    have hgw : ∀ x ∈ (Value.slice (some ⟨g, 0, none⟩) D.length cap).ownBlock.toList, W0.heap.size ≤ x := fun x hx => (World.ownsRow.lt hrw2 x (by simpa using hx)).1
    have kw3 : Keeps [] w w3 := H2.out.2.2.2.2.after hk3 (fun x hx => .inr (by have := hgw x hx; omega))
    obtain ⟨hp2, hs2⟩ := Hsi.out D' hp hs
    have hlen : D'.length = D.length := hp.length_eq
    rw [← hlen] at hrow3
    have H3 := Lib.hid (And.intro nr3 (And.intro hrow3 (And.intro mm3 (And.intro kw3 (And.intro hp2 (And.intro hs2 (And.intro hp hlen)))))))
    have c3 := cells_at nl3
    have l3 := lt_of_at nl3
    have cr3 := cells_at nr3
    have fr3 := free_at nr3
    have lr3 := lt_of_at nr3
    clear hp hs hrow3 hg3 hk3 hrw2 nl3 nr3 mm3 hgw kw3 hp2 hs2 hlen c2 l2 Hso H2
    go_wp2_with fail
    have se := set3 (v0 := .int .i64 at_) (v1 := .slice (some ⟨g, 0, none⟩) D.length cap) (v2 := .map (some mb2)) H3.out.1
    have hbr := HB.out
    have kwF : Keeps [] w _ := H3.out.2.2.2.1.after se.2 (fun x hx => .inr (by simp only [List.mem_singleton] at hx; omega))
    have hrowF := se.2.row H3.out.2.1 (fun x hx hm => by
      have := (World.ownsRow.lt H3.out.2.1 x hx).1
      simp only [List.mem_singleton] at hm
      omega)
    have hms : MetasV B _ (.slice (some ⟨g, 0, none⟩) D'.length cap) (D'.map (·.1)) := metasV_of ((sliceFrom_row (fun c => encMC_len c) hrowF).low (by omega)) (fun c hc => (Hdm.out c (H3.out.2.2.2.2.2.2.1.subset hc)).same kwF)
    rw [H3.out.2.2.2.2.2.2.2] at hms
    have hc := cells_at se.1
    have hlr := lt_of_at se.1
    refine bodyPost_ret (v := .agg #[.int .i64 at_, .slice (some ⟨g, 0, none⟩) D.length cap, .map (some mb2)]) ?_ rfl ⟨D'.map (·.1), .slice (some ⟨g, 0, none⟩) D.length cap, mb2, rfl, H3.out.2.2.2.2.1, H3.out.2.2.2.2.2.1, hms, H3.out.2.2.1.keep se.2 (by simp; omega), hne.1, kwF⟩
    simp [results, Tryz.results43, go_sem, hc, hlr]
end Go.Proofs.YtjffdcflkkgpfaaGreat
