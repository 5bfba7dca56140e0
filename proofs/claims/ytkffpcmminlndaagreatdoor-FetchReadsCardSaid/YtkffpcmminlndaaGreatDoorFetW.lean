/-
  What a fetch wants of a block's entries (package fetch): wanted.
  The matchers may be.
-/
import Derived.Test.YtkffpcmminlndaaGreatDoorBlkF
import Derived.Test.YtkffpcmminlndaaGreatDoorFetLaw
import Derived.Test.YtkffpcmminlndaaGreatDoorMCheck
namespace Go.Proofs.YtkffpcmminlndaaGreatDoor
open Go Go.RowKit Go.Conc

/-- A fetch in block p. -/
def FetAt (w : World) (p : Nat) (M : MetaS) (vf vo : Value) (fr up : Int) (vm : Value) (ls : Bool) (vl vr : Value) : Prop := w.heap[p]? = some (.cells #[.string M.id, .int .i64 (M.mn : Nat), .int .i64 (M.mx : Nat), .int .i64 (M.level : Nat), .int .i64 (M.series : Nat), .int .i64 (M.samples : Nat), vf, vo, .int .i64 fr, .int .i64 up, vm, .bool ls, vl, vr] 99 (0, 0))

def wantE (fr up : Int) (L : List MatB) (e : EntP) : Bool := (decide ((e.2.2.2.1 : Int) < up) && decide (fr ≤ (e.2.2.2.2 : Int))) && L.all (fitsM e.1)

def WtRel (W : World) (E : List EntV) (fr up : Int) (L : List MatB) (gk : Nat) (u5 u10 : Value) (wr : World) : Prop :=
  ∃ k, k ≤ E.length ∧ gk = E.length - k ∧ u10 = .int .i64 (k : Nat) ∧ (∃ E', EntrAt W.heap.size wr u5 E' ∧ E'.length ≤ k ∧ E'.map (·.2) = ((E.take k).map (·.2)).filter (wantE fr up L)) ∧ Keeps [] W wr

set_option linter.unusedSimpArgs false in
set_option maxRecDepth 100000 in
set_option maxHeartbeats 4000000 in
theorem wanted_spec (w : World) (p : Nat) (M : MetaS) (vf vo : Value) (fr up : Int) (vm : Value) (ls : Bool) (vl vr v : Value) (L : List MatB) (E : List EntV) (hp : FetAt w p M vf vo fr up vm ls vl vr) (hm : MatsAt w vm L) (hmay : ∀ m ∈ L, mayK m) (hE : EntrAt 0 w v E) (hEl : E.length ≤ 50) :
    Calls Tryz.prog 74 #[.pointer (some ⟨p, 0, none⟩), v] w fun e w' => ∃ v' E', e = .returned v' ∧ EntrAt w.heap.size w' v' E' ∧ E'.map (·.2) = (E.map (·.2)).filter (wantE fr up L) ∧ E'.length ≤ E.length ∧ Keeps [] w w' := by
  obtain ⟨ie, hie, hz0, hz1, hz2⟩ := info_parts infoEntR
  obtain ⟨am, cm, rfl, hlm⟩ := hm.form
  unfold maxLen at hlm
  obtain ⟨a0, c0, rfl, -, -, -⟩ := row_slice hE.1
  have H := Lib.hid (And.intro hp (And.intro hm (And.intro hmay hE)))
  clear hp hm hmay hE
  go_enter Tryz.func74, Tryz.ntmps74
  go_wp2_with fail
  go_loopg [5, 10] E.length (WtRel w E fr up L)
  case atStart => exact ⟨0, Nat.zero_le _, rfl, rfl, ⟨[], ⟨World.ownsRow_nil _ _ _ 5, by simp⟩, Nat.le_refl _, rfl⟩, Keeps.refl _ _⟩
  case round =>
    obtain ⟨k, hk, hgk, rfl, ⟨E', hE', hEl', hEe'⟩, hkr⟩ := hrel
    obtain ⟨N, hN⟩ : ∃ N, N = E'.length := ⟨_, rfl⟩
    obtain ⟨av, cv, rfl, -, -, -⟩ := row_slice hE'.1
    have hN50 : N ≤ 50 := by omega
    rw [← hN]
    by_cases hlt : k < E.length
    · have hlt1 : (k : Int) < (E.length : Int) := by omega
      have hEr := H.out.2.2.2.keep hkr
      obtain ⟨b, off, ea, hb, c1, c2, c3, c4, c5⟩ := ent_at hEr k hlt
      subst ea
      have hin := hEr.2 _ (List.getElem_mem hlt)
      have htk := take_push hlt
      unfold EntIn at hin
      generalize E[k] = x at c1 c2 c3 c4 c5 hin htk
      obtain ⟨xv, P, f, n, mn, mx⟩ := x
      dsimp only at c1 c2 c3 c4 c5 hin
      obtain ⟨xa, xc, rfl, -, -, -⟩ := row_slice hin
      have Hg := Lib.hid (And.intro hgk (And.intro hE' (And.intro hkr (And.intro htk (And.intro hN (And.intro hEl' hEe'))))))
      obtain ⟨q, hq⟩ : ∃ q, q = wr.heap.size := ⟨_, rfl⟩
      obtain ⟨w2, hw2⟩ : ∃ w2, w2 = wr.alloc (.cells #[.slice xa P.length xc, .int .i64 (f : Nat), .int .i64 (n : Nat), .int .i64 (mn : Nat), .int .i64 (mx : Nat)] 101) := ⟨_, rfl⟩
      have k2 : Keeps [] wr w2 := by rw [hw2]; exact (Keeps.refl [] _).alloc _
      have n2 : w2.heap[q]? = some (.cells #[.slice xa P.length xc, .int .i64 (f : Nat), .int .i64 (n : Nat), .int .i64 (mn : Nat), .int .i64 (mx : Nat)] 101 (0, 0)) := by rw [hw2, hq]; exact heap_new wr _
      have hE2 : EntrAt w.heap.size w2 (.slice av N cv) E' := by rw [hN]; exact hE'.keep k2
      have H2 := Lib.hid (And.intro n2 (And.intro hE2 (And.intro (k2.row hin (by simp)) (And.intro ((hkr.trans k2).at_ H.out.1 (by simp)) (And.intro (go1 (hkr.trans k2) H.out.2.1) (hkr.trans k2))))))
      clear hgk hE' hkr htk hN hEl' hEe' hEr hin k2 hE2
      go_upto_region 5 with fail
      rw [← hw2, ← hq]
      clear hw2 hq c1 c2 c3 c4 c5 hb
      have cq := cells_at n2
      have lq := lt_of_at n2
      have cp := cells_at H2.out.2.2.2.1
      have lp := lt_of_at H2.out.2.2.2.1
      clear n2
      go_cut [38] from 14 to 37 (fun c wc => c = .bool (wantE fr up L (P, f, n, mn, mx)) ∧ Keeps [] w2 wc)
      case first =>
        have hways : (¬ (mn : Int) < up) ∨ ((mn : Int) < up ∧ ¬ fr ≤ (mx : Int)) ∨ ((mn : Int) < up ∧ fr ≤ (mx : Int)) := by omega
        rcases hways with h1 | ⟨h1, h2⟩ | ⟨h1, h2⟩
        · have Hw := Lib.hid (show wantE fr up L (P, f, n, mn, mx) = false by unfold wantE; dsimp only; rw [decide_eq_false h1]; rfl)
          have h1d : decide ((mn : Int) < up) = false := decide_eq_false h1
          go_quiet (fail)
          go_wp2_with fail
          go_meet
          case rel => exact ⟨by rw [Hw.out], (Keeps.refl [] _).drewN _⟩
        · have Hw := Lib.hid (show wantE fr up L (P, f, n, mn, mx) = false by unfold wantE; dsimp only; rw [decide_eq_true h1, decide_eq_false h2]; rfl)
          have h1d : decide ((mn : Int) < up) = true := decide_eq_true h1
          have h2d : decide (fr ≤ (mx : Int)) = false := decide_eq_false h2
          go_quiet (fail)
          go_wp2_with fail
          go_meet
          case rel => exact ⟨by rw [Hw.out], (Keeps.refl [] _).drewN _⟩
        · have Hw := Lib.hid (show wantE fr up L (P, f, n, mn, mx) = L.all (fitsM P) by unfold wantE; dsimp only; rw [decide_eq_true h1, decide_eq_true h2]; rfl)
          have h1d : decide ((mn : Int) < up) = true := decide_eq_true h1
          have h2d : decide (fr ≤ (mx : Int)) = true := decide_eq_true h2
          obtain ⟨X0, hX0⟩ : ∃ X0, X0 = w2.drew := ⟨_, rfl⟩
          have kX : Keeps [] w2 X0 := by rw [hX0]; exact (Keeps.refl [] _).drew
          have nX := kX.at_ H2.out.1 (by simp)
          have pX := kX.at_ H2.out.2.2.2.1 (by simp)
          have d1 : X0.cell? ⟨q, 0, none⟩ = some (.slice xa P.length xc) := by rw [cells_at nX]; rfl
          have d2 : X0.cell? ⟨q, 3, none⟩ = some (.int .i64 (mn : Nat)) := by rw [cells_at nX]; rfl
          have d3 : X0.cell? ⟨q, 4, none⟩ = some (.int .i64 (mx : Nat)) := by rw [cells_at nX]; rfl
          have d4 : X0.cell? ⟨p, 8, none⟩ = some (.int .i64 fr) := by rw [cells_at pX]; rfl
          have d5 : X0.cell? ⟨p, 9, none⟩ = some (.int .i64 up) := by rw [cells_at pX]; rfl
          have d6 : X0.cell? ⟨p, 10, none⟩ = some (.slice am L.length cm) := by rw [cells_at pX]; rfl
          have HX := Lib.hid (And.intro hX0 (And.intro kX (And.intro (kX.row H2.out.2.2.1 (by simp)) (And.intro (go1 kX H2.out.2.2.2.2.1) (And.intro nX pX)))))
          clear hX0 kX nX pX cq lq cp lp
          refine wp_region_held_drew (S := fun w' => w'.cell? ⟨q, 0, none⟩ = some (.slice xa P.length xc) ∧ w'.cell? ⟨q, 3, none⟩ = some (.int .i64 (mn : Nat)) ∧ w'.cell? ⟨q, 4, none⟩ = some (.int .i64 (mx : Nat)) ∧ w'.cell? ⟨p, 8, none⟩ = some (.int .i64 fr) ∧ w'.cell? ⟨p, 9, none⟩ = some (.int .i64 up) ∧ w'.cell? ⟨p, 10, none⟩ = some (.slice am L.length cm)) (by kernel_rfl) (by rw [← HX.out.1]; exact ⟨d1, d2, d3, d4, d5, d6⟩) (fun hS => ?_)
          rw [← HX.out.1] at hS ⊢
          refine wpAnyH_take (i := 0) (v := ?_) rfl (by kernel_rfl) (by kernel_rfl) (by kernel_rfl) (fun _ _ _ h => h) (Or.inl ⟨by rfl, ?_⟩) (by assumption) ?_
          rotate_left
          · intro w' hSw; obtain ⟨s1, s2, s3, s4, s5, s6⟩ := hSw; go_simp; (try with_reducible rfl)
          simp only [Act.put, List.getElem_toArray, List.getElem_cons_succ, List.getElem_cons_zero, List.setIfInBounds_toArray, List.set_cons_zero, List.set_cons_succ]
          refine wpAnyH_take (i := 1) (v := ?_) rfl (by kernel_rfl) (by kernel_rfl) (by kernel_rfl) (fun _ _ _ h => h) (Or.inl ⟨by rfl, ?_⟩) (by assumption) ?_
          rotate_left
          · intro w' hSw; obtain ⟨s1, s2, s3, s4, s5, s6⟩ := hSw; go_simp; (try with_reducible rfl)
          simp only [Act.put, List.getElem_toArray, List.getElem_cons_succ, List.getElem_cons_zero, List.setIfInBounds_toArray, List.set_cons_zero, List.set_cons_succ]
          refine wpAnyH_take (i := 2) (v := ?_) rfl (by kernel_rfl) (by kernel_rfl) (by kernel_rfl) (fun _ _ _ h => h) (Or.inl ⟨by rfl, ?_⟩) (by assumption) ?_
          rotate_left
          · intro w' hSw; obtain ⟨s1, s2, s3, s4, s5, s6⟩ := hSw; go_simp; (try with_reducible rfl)
          simp only [Act.put, List.getElem_toArray, List.getElem_cons_succ, List.getElem_cons_zero, List.setIfInBounds_toArray, List.set_cons_zero, List.set_cons_succ]
          refine wpAnyH_take (i := 3) (v := ?_) rfl (by kernel_rfl) (by kernel_rfl) (by kernel_rfl) (fun _ _ _ h => h) (Or.inl ⟨by rfl, ?_⟩) (by assumption) ?_
          rotate_left
          · intro w' hSw; obtain ⟨s1, s2, s3, s4, s5, s6⟩ := hSw; go_simp; (try with_reducible rfl)
          simp only [Act.put, List.getElem_toArray, List.getElem_cons_succ, List.getElem_cons_zero, List.setIfInBounds_toArray, List.set_cons_zero, List.set_cons_succ]
          refine wpAnyH_take (i := 4) (v := ?_) rfl (by kernel_rfl) (by kernel_rfl) (by kernel_rfl) (fun _ _ _ h => h) (Or.inl ⟨by rfl, ?_⟩) (by assumption) ?_
          rotate_left
          · intro w' hSw; obtain ⟨s1, s2, s3, s4, s5, s6⟩ := hSw; go_simp; (try with_reducible rfl)
          simp only [Act.put, List.getElem_toArray, List.getElem_cons_succ, List.getElem_cons_zero, List.setIfInBounds_toArray, List.set_cons_zero, List.set_cons_succ]
          refine wpAnyH_take (i := 5) (v := ?_) rfl (by kernel_rfl) (by kernel_rfl) (by kernel_rfl) (fun _ _ _ h => h) (Or.inl ⟨by rfl, ?_⟩) (by assumption) ?_
          rotate_left
          · intro w' hSw; obtain ⟨s1, s2, s3, s4, s5, s6⟩ := hSw; go_simp; (try with_reducible rfl)
          simp only [Act.put, List.getElem_toArray, List.getElem_cons_succ, List.getElem_cons_zero, List.setIfInBounds_toArray, List.set_cons_zero, List.set_cons_succ]
          refine wpAnyH_take (i := 6) (v := ?_) rfl (by kernel_rfl) (by kernel_rfl) (by kernel_rfl) (fun _ _ _ h => h) (Or.inl ⟨by rfl, ?_⟩) (by assumption) ?_
          rotate_left
          · intro w' hSw; obtain ⟨s1, s2, s3, s4, s5, s6⟩ := hSw; go_simp; (try with_reducible rfl)
          simp only [Act.put, List.getElem_toArray, List.getElem_cons_succ, List.getElem_cons_zero, List.setIfInBounds_toArray, List.set_cons_zero, List.set_cons_succ]
          refine wpAnyH_take (i := 7) (v := ?_) rfl (by kernel_rfl) (by kernel_rfl) (by kernel_rfl) (fun _ _ _ h => h) (Or.inl ⟨by rfl, ?_⟩) (by assumption) ?_
          rotate_left
          · intro w' hSw; obtain ⟨s1, s2, s3, s4, s5, s6⟩ := hSw; go_simp; (try with_reducible rfl)
          simp only [Act.put, List.getElem_toArray, List.getElem_cons_succ, List.getElem_cons_zero, List.setIfInBounds_toArray, List.set_cons_zero, List.set_cons_succ]
          refine wpAnyH_take (i := 8) (v := ?_) rfl (by kernel_rfl) (by kernel_rfl) (by kernel_rfl) (fun _ _ _ h => h) (Or.inl ⟨by rfl, ?_⟩) (by assumption) ?_
          rotate_left
          · intro w' hSw; obtain ⟨s1, s2, s3, s4, s5, s6⟩ := hSw; go_simp; (try with_reducible rfl)
          simp only [Act.put, List.getElem_toArray, List.getElem_cons_succ, List.getElem_cons_zero, List.setIfInBounds_toArray, List.set_cons_zero, List.set_cons_succ]
          refine wpAnyH_take (i := 9) (v := ?_) rfl (by kernel_rfl) (by kernel_rfl) (by kernel_rfl) (fun _ _ _ h => h) (Or.inl ⟨by rfl, ?_⟩) (by assumption) ?_
          rotate_left
          · intro w' hSw; obtain ⟨s1, s2, s3, s4, s5, s6⟩ := hSw; go_simp; (try with_reducible rfl)
          simp only [Act.put, List.getElem_toArray, List.getElem_cons_succ, List.getElem_cons_zero, List.setIfInBounds_toArray, List.set_cons_zero, List.set_cons_succ]
          refine wpAnyH_take (i := 10) (v := ?_) rfl (by kernel_rfl) (by kernel_rfl) (by kernel_rfl) (fun _ _ _ h => h) (Or.inl ⟨by rfl, ?_⟩) (by assumption) ?_
          rotate_left
          · intro w' hSw; obtain ⟨s1, s2, s3, s4, s5, s6⟩ := hSw; go_simp; (try with_reducible rfl)
          simp only [Act.put, List.getElem_toArray, List.getElem_cons_succ, List.getElem_cons_zero, List.setIfInBounds_toArray, List.set_cons_zero, List.set_cons_succ]
          refine wpAnyH_take (i := 11) (v := ?_) rfl (by kernel_rfl) (by kernel_rfl) (by kernel_rfl) (fun _ _ _ h => h) (Or.inl ⟨by rfl, ?_⟩) (by assumption) ?_
          rotate_left
          · intro w' hSw; obtain ⟨s1, s2, s3, s4, s5, s6⟩ := hSw; go_simp; (try with_reducible rfl)
          simp only [Act.put, List.getElem_toArray, List.getElem_cons_succ, List.getElem_cons_zero, List.setIfInBounds_toArray, List.set_cons_zero, List.set_cons_succ]
          refine wpAnyH_take (i := 12) (v := ?_) rfl (by kernel_rfl) (by kernel_rfl) (by kernel_rfl) (fun _ _ _ h => h) (Or.inl ⟨by rfl, ?_⟩) (by assumption) ?_
          rotate_left
          · intro w' hSw; obtain ⟨s1, s2, s3, s4, s5, s6⟩ := hSw; go_simp; (try with_reducible rfl)
          simp only [Act.put, List.getElem_toArray, List.getElem_cons_succ, List.getElem_cons_zero, List.setIfInBounds_toArray, List.set_cons_zero, List.set_cons_succ]
          refine wpAnyH_take (i := 13) (v := ?_) rfl (by kernel_rfl) (by kernel_rfl) (by kernel_rfl) (fun _ _ _ h => h) (Or.inl ⟨by rfl, ?_⟩) (by assumption) ?_
          rotate_left
          · intro w' hSw; obtain ⟨s1, s2, s3, s4, s5, s6⟩ := hSw; go_simp; (try with_reducible rfl)
          simp only [Act.put, List.getElem_toArray, List.getElem_cons_succ, List.getElem_cons_zero, List.setIfInBounds_toArray, List.set_cons_zero, List.set_cons_succ]
          refine wpAnyH_take (i := 14) (v := ?_) rfl (by kernel_rfl) (by kernel_rfl) (by kernel_rfl) (fun _ _ _ h => h) (Or.inl ⟨by rfl, ?_⟩) (by assumption) ?_
          rotate_left
          · intro w' hSw; obtain ⟨s1, s2, s3, s4, s5, s6⟩ := hSw; go_simp; (try with_reducible rfl)
          simp only [Act.put, List.getElem_toArray, List.getElem_cons_succ, List.getElem_cons_zero, List.setIfInBounds_toArray, List.set_cons_zero, List.set_cons_succ]
          refine wpAnyH_take (i := 15) (v := ?_) rfl (by kernel_rfl) (by kernel_rfl) (by kernel_rfl) (fun _ _ _ h => h) (Or.inl ⟨by rfl, ?_⟩) (by assumption) ?_
          rotate_left
          · intro w' hSw; obtain ⟨s1, s2, s3, s4, s5, s6⟩ := hSw; go_simp; (try with_reducible rfl)
          simp only [Act.put, List.getElem_toArray, List.getElem_cons_succ, List.getElem_cons_zero, List.setIfInBounds_toArray, List.set_cons_zero, List.set_cons_succ]
          refine wpAnyH_take (i := 16) (v := ?_) rfl (by kernel_rfl) (by kernel_rfl) (by kernel_rfl) (fun _ _ _ h => h) (Or.inl ⟨by rfl, ?_⟩) (by assumption) ?_
          rotate_left
          · intro w' hSw; obtain ⟨s1, s2, s3, s4, s5, s6⟩ := hSw; go_simp; (try with_reducible rfl)
          simp only [Act.put, List.getElem_toArray, List.getElem_cons_succ, List.getElem_cons_zero, List.setIfInBounds_toArray, List.set_cons_zero, List.set_cons_succ]
          refine wpAnyH_take (i := 17) (v := ?_) rfl (by kernel_rfl) (by kernel_rfl) (by kernel_rfl) (fun _ _ _ h => h) (Or.inl ⟨by rfl, ?_⟩) (by assumption) ?_
          rotate_left
          · intro w' hSw; obtain ⟨s1, s2, s3, s4, s5, s6⟩ := hSw; go_simp; (try with_reducible rfl)
          simp only [Act.put, List.getElem_toArray, List.getElem_cons_succ, List.getElem_cons_zero, List.setIfInBounds_toArray, List.set_cons_zero, List.set_cons_succ]
          refine wpAnyH_take (i := 18) (v := ?_) rfl (by kernel_rfl) (by kernel_rfl) (by kernel_rfl) (fun _ _ _ h => h) (Or.inl ⟨by rfl, ?_⟩) (by assumption) ?_
          rotate_left
          · intro w' hSw; obtain ⟨s1, s2, s3, s4, s5, s6⟩ := hSw; go_simp; (try with_reducible rfl)
          simp only [Act.put, List.getElem_toArray, List.getElem_cons_succ, List.getElem_cons_zero, List.setIfInBounds_toArray, List.set_cons_zero, List.set_cons_succ]
          refine wpAnyH_take (i := 19) (v := ?_) rfl (by kernel_rfl) (by kernel_rfl) (by kernel_rfl) (fun _ _ _ h => h) (Or.inl ⟨by rfl, ?_⟩) (by assumption) ?_
          rotate_left
          · intro w' hSw; obtain ⟨s1, s2, s3, s4, s5, s6⟩ := hSw; go_simp; (try with_reducible rfl)
          simp only [Act.put, List.getElem_toArray, List.getElem_cons_succ, List.getElem_cons_zero, List.setIfInBounds_toArray, List.set_cons_zero, List.set_cons_succ]
          refine wpAnyH_take (i := 20) (v := ?_) rfl (by kernel_rfl) (by kernel_rfl) (by kernel_rfl) (fun _ _ _ h => h) (Or.inl ⟨by rfl, ?_⟩) (by assumption) ?_
          rotate_left
          · intro w' hSw; obtain ⟨s1, s2, s3, s4, s5, s6⟩ := hSw; go_simp; (try with_reducible rfl)
          simp only [Act.put, List.getElem_toArray, List.getElem_cons_succ, List.getElem_cons_zero, List.setIfInBounds_toArray, List.set_cons_zero, List.set_cons_succ]
          refine wpAnyH_take (i := 21) (v := ?_) rfl (by kernel_rfl) (by kernel_rfl) (by kernel_rfl) (fun _ _ _ h => h) (Or.inl ⟨by rfl, ?_⟩) (by assumption) ?_
          rotate_left
          · intro w' hSw; obtain ⟨s1, s2, s3, s4, s5, s6⟩ := hSw; go_simp; (try with_reducible rfl)
          simp only [Act.put, List.getElem_toArray, List.getElem_cons_succ, List.getElem_cons_zero, List.setIfInBounds_toArray, List.set_cons_zero, List.set_cons_succ]
          refine wpAnyH_take (i := 22) (v := ?_) rfl (by kernel_rfl) (by kernel_rfl) (by kernel_rfl) (fun _ _ _ h => h) (Or.inl ⟨by rfl, ?_⟩) (by assumption) ?_
          rotate_left
          · intro w' hSw; obtain ⟨s1, s2, s3, s4, s5, s6⟩ := hSw; go_simp; (try with_reducible rfl)
          simp only [Act.put, List.getElem_toArray, List.getElem_cons_succ, List.getElem_cons_zero, List.setIfInBounds_toArray, List.set_cons_zero, List.set_cons_succ]
          refine wpAnyH_ready (rs := [23]) (by kernel_rfl) (by simp) ?_
          refine AllReadyH.cons rfl (fun K hK => ?_) AllReadyH.nil
          go_simp
          go_at_call 111
          refine (match_spec X0 _ _ P L (rowP HX.out.2.2.1) HX.out.2.2.2.1 H.out.2.2.1).mono ?_
          rintro e w7 ⟨rfl, hk7⟩
          have n7 := hk7.at_ HX.out.2.2.2.2.1 (by simp)
          have p7 := hk7.at_ HX.out.2.2.2.2.2 (by simp)
          have HK7 := Lib.hid (HX.out.2.1.trans hk7)
          go_simp
          refine hK.out _ _ ⟨by rw [cells_at n7]; rfl, by rw [cells_at n7]; rfl, by rw [cells_at n7]; rfl, by rw [cells_at p7]; rfl, by rw [cells_at p7]; rfl, by rw [cells_at p7]; rfl⟩ (fun hS => ?_)
          clear hK K
          try simp only [Act.put, List.getElem_toArray, List.getElem_cons_succ, List.getElem_cons_zero, List.setIfInBounds_toArray, List.set_cons_zero, List.set_cons_succ]
          refine wpAnyH_take (i := 24) (v := ?_) rfl (by kernel_rfl) (by kernel_rfl) (by kernel_rfl) (fun _ _ _ h => h) (Or.inl ⟨by rfl, ?_⟩) (by assumption) ?_
          rotate_left
          · intro w' hSw; obtain ⟨s1, s2, s3, s4, s5, s6⟩ := hSw; go_simp; (try with_reducible rfl)
          simp only [Act.put, List.getElem_toArray, List.getElem_cons_succ, List.getElem_cons_zero, List.setIfInBounds_toArray, List.set_cons_zero, List.set_cons_succ]
          refine wpAnyH_done (by kernel_rfl) ?_ _
          clear hS d1 d2 d3 d4 d5 d6 n7 p7 hk7
          go_wp2_with fail
          go_meet
          case rel => exact ⟨by rw [Hw.out], HK7.out⟩
      case rest =>
        obtain ⟨rfl, hk7⟩ := hcut
        have n7 := hk7.at_ H2.out.1 (by simp)
        have H7 := Lib.hid (And.intro n7 (And.intro (H2.out.2.1.keep hk7) (And.intro (hk7.row H2.out.2.2.1 (by simp)) (H2.out.2.2.2.2.2.trans hk7))))
        have hsz7 := H7.out.2.2.2.size
        clear cq lq cp lp hk7
        have cq := cells_at n7
        have lq := lt_of_at n7
        clear n7
        have hmap : ((E.take (k + 1)).map (·.2)).filter (wantE fr up L) = ((E.take k).map (·.2)).filter (wantE fr up L) ++ [((P, f, n, mn, mx) : EntP)].filter (wantE fr up L) := by
          rw [Hg.out.2.2.2.1, List.map_append, List.filter_append]
          rfl
        cases hw : wantE fr up L (P, f, n, mn, mx) with
        | false =>
          have Hm := Lib.hid (And.intro hmap (show [((P, f, n, mn, mx) : EntP)].filter (wantE fr up L) = [] by simp [hw]))
          clear hmap hw
          go_wp2_with fail
          go_roundg (E.length - (k + 1))
          case measure => have := Hg.out.1; omega
          case rel => exact ⟨k + 1, hlt, rfl, by go_num, ⟨E', H7.out.2.1, by have := Hg.out.2.2.2.2.2.1; omega, by rw [Hm.out.1, Hm.out.2, List.append_nil]; exact Hg.out.2.2.2.2.2.2⟩, H7.out.2.2.2⟩
        | true =>
          have Hm := Lib.hid (And.intro hmap (show [((P, f, n, mn, mx) : EntP)].filter (wantE fr up L) = [(P, f, n, mn, mx)] by simp [hw]))
          clear hmap hw
          have hown7 : wc.ownsRow w.heap.size 101 5 (.slice av N cv) N (E'.flatMap encE) := by have h := H7.out.2.1.1; rw [← Hg.out.2.2.2.2.1] at h; exact h
          have Hown := Lib.hid hown7
          clear hown7
          go_wp2_with (at_builtin; refine wpList_append_own _ rfl (.tmp 39) (.tmp 41) 97 rfl w.heap.size 101 ie _ 5 56 Tryz.underlying97 hie hz0 hz1 hz2 rfl (by decide) (.slice av N cv) N (E'.flatMap encE) rfl (Hown.out.alloc _) ⟨wc.heap.size, 0, none⟩ 1 1 [.slice xa P.length xc, .int .i64 (f : Nat), .int .i64 (n : Nat), .int .i64 (mn : Nat), .int .i64 (mx : Nat)] rfl rfl (news_of (heap_new wc _)) (by simp [Value.oneCell']) (by simp only [maxLen]; omega) (by omega) (by rw [World.size_alloc]; omega) ?_; intro v9 w9 hown9 hgrow9 hnil9; clear hnil9; obtain ⟨ao9, cp9, rfl, -, -, -⟩ := row_slice hown9; skip)
          have kN : Keeps [] wc (wc.alloc (.cells #[.slice xa P.length xc, .int .i64 (f : Nat), .int .i64 (n : Nat), .int .i64 (mn : Nat), .int .i64 (mx : Nat)] 101)) := (Keeps.refl [] wc).alloc _
          have hgr := keeps_rowM hgrow9
          have hk9 := keeps_own (H7.out.2.2.2.trans kN) hgrow9 (fun g hg => (World.ownsRow.lt Hown.out g hg).1)
          have hE9 : EntrAt w.heap.size w9 (.slice ao9 (N + 1) cp9) (E' ++ [(.slice xa P.length xc, (P, f, n, mn, mx))]) := by
            refine ⟨?_, fun e he => ?_⟩
            · have h1 : (E' ++ [((.slice xa P.length xc : Value), ((P, f, n, mn, mx) : EntP))]).length = N + 1 := by rw [List.length_append, ← Hg.out.2.2.2.2.1]; rfl
              have h2 : (E' ++ [((.slice xa P.length xc : Value), ((P, f, n, mn, mx) : EntP))]).flatMap encE = E'.flatMap encE ++ [.slice xa P.length xc, .int .i64 (f : Nat), .int .i64 (n : Nat), .int .i64 (mn : Nat), .int .i64 (mx : Nat)] := by rw [List.flatMap_append]; rfl
              rw [h1, h2]
              exact hown9
            · rcases List.mem_append.1 he with he | he
              · exact hgr.row ((H7.out.2.1.keep kN).2 e he) (rows_ne2 (Hown.out.alloc _) ((H7.out.2.1.keep kN).2 e he) (by decide))
              · obtain rfl : e = _ := by simpa using he
                have h3 := kN.row H7.out.2.2.1 (by simp)
                exact row_base (hgr.row h3 (rows_ne2 (Hown.out.alloc _) h3 (by decide))) (Nat.zero_le _)
          have H9 := Lib.hid (And.intro hE9 hk9)
          clear hown9 hgrow9 kN hgr hk9 hE9
          go_wp2_with fail
          go_roundg (E.length - (k + 1))
          case measure => have := Hg.out.1; omega
          case rel =>
            refine ⟨k + 1, hlt, rfl, by go_num, ⟨_, H9.out.1, by rw [List.length_append]; have := Hg.out.2.2.2.2.2.1; show _ + 1 ≤ _; omega, ?_⟩, H9.out.2⟩
            rw [Hm.out.1, Hm.out.2, List.map_append, Hg.out.2.2.2.2.2.2]
            rfl
    · have hge : ¬ (k : Int) < (E.length : Int) := by omega
      have hkn : E.take k = E := List.take_of_length_le (by omega)
      rw [hkn] at hEe'
      have Hr := Lib.hid (And.intro hE' (And.intro hEe' (And.intro hkr (And.intro hN (by omega : E'.length ≤ E.length)))))
      clear hgk hE' hEe' hkr hN hkn hEl'
      go_wp2_with fail
      go_ret
      have hE2 := Hr.out.1
      rw [← Hr.out.2.2.2.1] at hE2
      exact ⟨_, rfl, E', hE2, Hr.out.2.1, Hr.out.2.2.2.2, Hr.out.2.2.1⟩
end Go.Proofs.YtkffpcmminlndaaGreatDoor
