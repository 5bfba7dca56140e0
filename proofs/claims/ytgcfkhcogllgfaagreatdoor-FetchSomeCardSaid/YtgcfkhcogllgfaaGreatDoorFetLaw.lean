/-
  What a fetch reads of a table, in plain words: the rows that fit and meet the times; between two times they are the table's rows between them that fit.
  No condition beyond those that each theorem states.

  What a fetch wants of a block's entries (package fetch): wanted.
  The matchers may be.

  A fetch's first step (package fetch): list; an error of the bucket's: lost; a file that holds a text: meta.File.Holds.
  The matchers may be.

  A table's rows and its block's entries, side by side, in plain words.
  No condition beyond those that each theorem states.

  A fetch's steps behind its first one (package fetch): Step, where entries are left; where none is.
  The package's variable xor.widths holds what its text says (XorVar).
-/
import Derived.Test.YtgcfkhcogllgfaaGreatDoorTabQ
import Derived.Test.YtgcfkhcogllgfaaGreatDoorBldS
import Derived.Test.YtgcfkhcogllgfaaGreatDoorBlkR
import Derived.Test.YtgcfkhcogllgfaaGreatDoorMCheck
import Derived.Test.YtgcfkhcogllgfaaGreatDoorFuse
import Derived.Test.YtgcfkhcogllgfaaGreatDoorTaker
namespace Go.Proofs.YtgcfkhcogllgfaaGreatDoor
set_option maxRecDepth 100000
set_option maxHeartbeats 4000000
set_option linter.unusedSimpArgs false
open Go Go.RowKit
def meetsR (fr up : Int) (r : RowT) : Bool := decide ((firstT r.2 : Int) < up) && decide (fr ≤ (lastT r.2 : Int))
def wantR (fr up : Int) (L : List MatB) (r : RowT) : Bool := meetsR fr up r && fitR L r
def wantT (fr up : Int) (L : List MatB) (A : TabT) : TabT := A.filter (wantR fr up L)
theorem betS_none {fr up : Int} {l : List SmpB} (h : ∀ s ∈ l, ¬ (fr ≤ s.1 ∧ s.1 < up)) : betS fr up l = [] := by
 unfold betS
 rw [List.filter_eq_nil_iff]
 intro s hs
 simpa using h s hs
theorem first_le {l : List SmpB} (hp : l.Pairwise ltS) (hb : ∀ s ∈ l, 0 ≤ s.1) : ∀ s ∈ l, (firstT l : Int) ≤ s.1 ∧ s.1 ≤ (lastT l : Int) := by
 intro s hs
 obtain ⟨i, hi, rfl⟩ := List.mem_iff_getElem.1 hs
 have h0 : 0 < l.length := by omega
 have e1 : firstT l = (l[0].1).toNat := by
  unfold firstT
  rw [List.headD_eq_head?_getD, List.head?_eq_getElem?, List.getElem?_eq_getElem h0]
  rfl
 have e2 : lastT l = ((l[l.length - 1]'(by omega)).1).toNat := by
  unfold lastT
  rw [List.getLastD_eq_getLast?, List.getLast?_eq_getElem?, List.getElem?_eq_getElem (by omega)]
  rfl
 have b0 := hb l[0] (List.getElem_mem h0)
 have b1 := hb (l[l.length - 1]'(by omega)) (List.getElem_mem _)
 have hlt : ∀ a b (ha : a < l.length) (hb : b < l.length), a < b → l[a].1 < l[b].1 := fun a b ha hb hab => List.pairwise_iff_getElem.1 hp a b ha hb hab
 constructor
 ·rcases Nat.eq_zero_or_pos i with rfl | hp'
  ·omega
  ·have := hlt 0 i h0 hi hp'
   omega
 ·rcases Nat.lt_or_ge i (l.length - 1) with h | h
  ·have := hlt i (l.length - 1) hi (by omega) h
   omega
  ·have : i = l.length - 1 := by omega
   subst this
   omega
theorem meets_none {fr up : Int} {r : RowT} (hp : r.2.Pairwise ltS) (hb : ∀ s ∈ r.2, 0 ≤ s.1) (h : meetsR fr up r = false) : betS fr up r.2 = [] := betS_none fun s hs hc => by
 have h1 := first_le hp hb s hs
 unfold meetsR at h
 rw [Bool.and_eq_false_iff, decide_eq_false_iff_not, decide_eq_false_iff_not] at h
 omega
theorem betT_drop {fr up : Int} {q : RowT → Bool} {A : TabT} (h : ∀ r ∈ A, q r = false → betS fr up r.2 = []) : betT fr up (A.filter q) = betT fr up A := by
 induction A with
 | nil => rfl
 | cons r A ih =>
  have ih := ih (fun x hx => h x (by simp [hx]))
  rw [List.filter_cons]
  have e : ∀ C : TabT, betT fr up (r :: C) = betT fr up [r] ++ betT fr up C := fun C => betT_app fr up [r] C
  split
  ·rw [e (A.filter q), e A, ih]
  ·rename_i hq
   have hb := h r (by simp) (by simpa using hq)
   rw [ih, e A]
   have : betT fr up [r] = [] := by simp [betT, hb]
   rw [this]
   rfl
theorem want_bet {fr up : Int} {L : List MatB} {A : TabT} (h : ∀ r ∈ A, r.2.Pairwise ltS ∧ ∀ s ∈ r.2, 0 ≤ s.1) : betT fr up (wantT fr up L A) = (betT fr up A).filter (fitR L) := by
 have e : wantT fr up L A = (A.filter (fitR L)).filter (meetsR fr up) := by
  unfold wantT wantR
  rw [List.filter_filter]
 rw [e, betT_drop]
 ·exact (betT_filter fr up A (fun l => L.all (fitsM l))).symm
 ·intro r hr hq
  have hr := (List.mem_filter.1 hr).1
  exact meets_none (h r hr).1 (h r hr).2 hq
open Go Go.RowKit Go.Conc
def FetAt (w : World) (p : Nat) (M : MetaS) (vf vo : Value) (fr up : Int) (vm : Value) (ls : Bool) (vl vr : Value) : Prop := w.heap[p]? = some (.cells #[.string M.id, .int .i64 (M.mn : Nat), .int .i64 (M.mx : Nat), .int .i64 (M.level : Nat), .int .i64 (M.series : Nat), .int .i64 (M.samples : Nat), vf, vo, .int .i64 fr, .int .i64 up, vm, .bool ls, vl, vr] 120 (0, 0))
def wantE (fr up : Int) (L : List MatB) (e : EntP) : Bool := (decide ((e.2.2.2.1 : Int) < up) && decide (fr ≤ (e.2.2.2.2 : Int))) && L.all (fitsM e.1)
def WtRel (W : World) (E : List EntV) (fr up : Int) (L : List MatB) (gk : Nat) (u5 u10 : Value) (wr : World) : Prop :=
 ∃ k, k ≤ E.length ∧ gk = E.length - k ∧ u10 = .int .i64 (k : Nat) ∧ (∃ E', EntrAt W.heap.size wr u5 E' ∧ E'.length ≤ k ∧ E'.map (·.2) = ((E.take k).map (·.2)).filter (wantE fr up L)) ∧ Keeps [] W wr
theorem wanted_spec (w : World) (p : Nat) (M : MetaS) (vf vo : Value) (fr up : Int) (vm : Value) (ls : Bool) (vl vr v : Value) (L : List MatB) (E : List EntV) (hp : FetAt w p M vf vo fr up vm ls vl vr) (hm : MatsAt w vm L) (hmay : ∀ m ∈ L, mayK m) (hE : EntrAt 0 w v E) (hEl : E.length ≤ 50) :
  Calls Tryz.prog 82 #[.pointer (some ⟨p, 0, none⟩), v] w fun e w' => ∃ v' E', e = .returned v' ∧ EntrAt w.heap.size w' v' E' ∧ E'.map (·.2) = (E.map (·.2)).filter (wantE fr up L) ∧ E'.length ≤ E.length ∧ Keeps [] w w' := by
 obtain ⟨ie, hie, hz0, hz1, hz2⟩ := info_parts infoEntR
 obtain ⟨am, cm, rfl, hlm⟩ := hm.form
 unfold maxLen at hlm
 obtain ⟨a0, c0, rfl, -, -, -⟩ := row_slice hE.1
 have H := Lib.hid (And.intro hp (And.intro hm (And.intro hmay hE)))
 clear hp hm hmay hE
 go_enter Tryz.func82, Tryz.ntmps82
 go_wp2_with fail
 go_loopg [5, 10] E.length (WtRel w E fr up L)
 case atStart => exact ⟨0, Nat.zero_le _, rfl, rfl, ⟨[], ⟨World.ownsRow_nil _ _ _ 5, by simp⟩, Nat.le_refl _, rfl⟩, Keeps.refl _ _⟩
 case round =>
  obtain ⟨k, hk, hgk, rfl, ⟨E', hE', hEl', hEe'⟩, hkr⟩ := hrel
  obtain ⟨N, hN⟩ : ∃ N, N = E'.length := ⟨_, rfl⟩
  obtain ⟨av, cv, rfl, -, -, -⟩ := row_slice hE'.1
  have hN50 : N ≤ 50 := by omega
  rw [← hN]
  by_cases hlt : k < E.length
  ·have hlt1 : (k : Int) < (E.length : Int) := by omega
   have hEr := H.out.2.2.2.keep hkr
   obtain ⟨b, off, ea, hb, c1, c2, c3, c4, c5⟩ := ent_at hEr k hlt
   subst ea
   have hin := hEr.2 _ (List.getElem_mem hlt)
   have htk := take_push hlt
   unfold EntIn at hin
   generalize E[k] = x at c1 c2 c3 c4 c5 hin htk
   obtain ⟨xv, P, f, n, mn, mx⟩ := x
   dsimp only at c1 c2 c3 c4 c5 hin
   obtain ⟨xa, xc, rfl, -, -, -⟩ := row_slice hin
   have Hg := Lib.hid (And.intro hgk (And.intro hE' (And.intro hkr (And.intro htk (And.intro hN (And.intro hEl' hEe'))))))
   obtain ⟨q, hq⟩ : ∃ q, q = wr.heap.size := ⟨_, rfl⟩
   obtain ⟨w2, hw2⟩ : ∃ w2, w2 = wr.alloc (.cells #[.slice xa P.length xc, .int .i64 (f : Nat), .int .i64 (n : Nat), .int .i64 (mn : Nat), .int .i64 (mx : Nat)] 122) := ⟨_, rfl⟩
   have k2 : Keeps [] wr w2 := by rw [hw2]; exact (Keeps.refl [] _).alloc _
   have n2 : w2.heap[q]? = some (.cells #[.slice xa P.length xc, .int .i64 (f : Nat), .int .i64 (n : Nat), .int .i64 (mn : Nat), .int .i64 (mx : Nat)] 122 (0, 0)) := by rw [hw2, hq]; exact heap_new wr _
   have hE2 : EntrAt w.heap.size w2 (.slice av N cv) E' := by rw [hN]; exact hE'.keep k2
   have H2 := Lib.hid (And.intro n2 (And.intro hE2 (And.intro (k2.row hin (by simp)) (And.intro ((hkr.trans k2).at_ H.out.1 (by simp)) (And.intro (go1 (hkr.trans k2) H.out.2.1) (hkr.trans k2))))))
   clear hgk hE' hkr htk hN hEl' hEe' hEr hin k2 hE2
   go_upto_region 5 with fail
   rw [← hw2, ← hq]
   clear hw2 hq c1 c2 c3 c4 c5 hb
   have cq := cells_at n2
   have lq := lt_of_at n2
   have cp := cells_at H2.out.2.2.2.1
   have lp := lt_of_at H2.out.2.2.2.1
   clear n2
   go_cut [38] from 14 to 37 (fun c wc => c = .bool (wantE fr up L (P, f, n, mn, mx)) ∧ Keeps [] w2 wc)
   case first =>
    have hways : (¬ (mn : Int) < up) ∨ ((mn : Int) < up ∧ ¬ fr ≤ (mx : Int)) ∨ ((mn : Int) < up ∧ fr ≤ (mx : Int)) := by omega
    rcases hways with h1 | ⟨h1, h2⟩ | ⟨h1, h2⟩
    ·have Hw := Lib.hid (show wantE fr up L (P, f, n, mn, mx) = false by unfold wantE; dsimp only; rw [decide_eq_false h1]; rfl)
     have h1d : decide ((mn : Int) < up) = false := decide_eq_false h1
     go_quiet (fail)
     go_wp2_with fail
     go_meet
     case rel => exact ⟨by rw [Hw.out], (Keeps.refl [] _).drewN _⟩
    ·have Hw := Lib.hid (show wantE fr up L (P, f, n, mn, mx) = false by unfold wantE; dsimp only; rw [decide_eq_true h1, decide_eq_false h2]; rfl)
     have h1d : decide ((mn : Int) < up) = true := decide_eq_true h1
     have h2d : decide (fr ≤ (mx : Int)) = false := decide_eq_false h2
     go_quiet (fail)
     go_wp2_with fail
     go_meet
     case rel => exact ⟨by rw [Hw.out], (Keeps.refl [] _).drewN _⟩
    ·have Hw := Lib.hid (show wantE fr up L (P, f, n, mn, mx) = L.all (fitsM P) by unfold wantE; dsimp only; rw [decide_eq_true h1, decide_eq_true h2]; rfl)
     have h1d : decide ((mn : Int) < up) = true := decide_eq_true h1
     have h2d : decide (fr ≤ (mx : Int)) = true := decide_eq_true h2
     obtain ⟨X0, hX0⟩ : ∃ X0, X0 = w2.drew := ⟨_, rfl⟩
     have kX : Keeps [] w2 X0 := by rw [hX0]; exact (Keeps.refl [] _).drew
     have nX := kX.at_ H2.out.1 (by simp)
     have pX := kX.at_ H2.out.2.2.2.1 (by simp)
     have d1 : X0.cell? ⟨q, 0, none⟩ = some (.slice xa P.length xc) := by rw [cells_at nX]; rfl
     have d2 : X0.cell? ⟨q, 3, none⟩ = some (.int .i64 (mn : Nat)) := by rw [cells_at nX]; rfl
     have d3 : X0.cell? ⟨q, 4, none⟩ = some (.int .i64 (mx : Nat)) := by rw [cells_at nX]; rfl
     have d4 : X0.cell? ⟨p, 8, none⟩ = some (.int .i64 fr) := by rw [cells_at pX]; rfl
     have d5 : X0.cell? ⟨p, 9, none⟩ = some (.int .i64 up) := by rw [cells_at pX]; rfl
     have d6 : X0.cell? ⟨p, 10, none⟩ = some (.slice am L.length cm) := by rw [cells_at pX]; rfl
     have HX := Lib.hid (And.intro hX0 (And.intro kX (And.intro (kX.row H2.out.2.2.1 (by simp)) (And.intro (go1 kX H2.out.2.2.2.2.1) (And.intro nX pX)))))
     clear hX0 kX nX pX cq lq cp lp
     refine wp_region_held_drew (S := fun w' => w'.cell? ⟨q, 0, none⟩ = some (.slice xa P.length xc) ∧ w'.cell? ⟨q, 3, none⟩ = some (.int .i64 (mn : Nat)) ∧ w'.cell? ⟨q, 4, none⟩ = some (.int .i64 (mx : Nat)) ∧ w'.cell? ⟨p, 8, none⟩ = some (.int .i64 fr) ∧ w'.cell? ⟨p, 9, none⟩ = some (.int .i64 up) ∧ w'.cell? ⟨p, 10, none⟩ = some (.slice am L.length cm)) (by kernel_rfl) (by rw [← HX.out.1]; exact ⟨d1, d2, d3, d4, d5, d6⟩) (fun hS => ?_)
     rw [← HX.out.1] at hS ⊢
     refine tk (v := ?_) 0 rfl ?_ ?_; rotate_left
     ·rintro _ ⟨s1, s2, s3, s4, s5, s6⟩; go_simp; (try with_reducible rfl)
     simp only [Act.put, zz]
     refine tk (v := ?_) 1 rfl ?_ ?_; rotate_left
     ·rintro _ ⟨s1, s2, s3, s4, s5, s6⟩; go_simp; (try with_reducible rfl)
     simp only [Act.put, zz]
     refine tk (v := ?_) 2 rfl ?_ ?_; rotate_left
     ·rintro _ ⟨s1, s2, s3, s4, s5, s6⟩; go_simp; (try with_reducible rfl)
     simp only [Act.put, zz]
     refine tk (v := ?_) 3 rfl ?_ ?_; rotate_left
     ·rintro _ ⟨s1, s2, s3, s4, s5, s6⟩; go_simp; (try with_reducible rfl)
     simp only [Act.put, zz]
     refine tk (v := ?_) 4 rfl ?_ ?_; rotate_left
     ·rintro _ ⟨s1, s2, s3, s4, s5, s6⟩; go_simp; (try with_reducible rfl)
     simp only [Act.put, zz]
     refine tk (v := ?_) 5 rfl ?_ ?_; rotate_left
     ·rintro _ ⟨s1, s2, s3, s4, s5, s6⟩; go_simp; (try with_reducible rfl)
     simp only [Act.put, zz]
     refine tk (v := ?_) 6 rfl ?_ ?_; rotate_left
     ·rintro _ ⟨s1, s2, s3, s4, s5, s6⟩; go_simp; (try with_reducible rfl)
     simp only [Act.put, zz]
     refine tk (v := ?_) 7 rfl ?_ ?_; rotate_left
     ·rintro _ ⟨s1, s2, s3, s4, s5, s6⟩; go_simp; (try with_reducible rfl)
     simp only [Act.put, zz]
     refine tk (v := ?_) 8 rfl ?_ ?_; rotate_left
     ·rintro _ ⟨s1, s2, s3, s4, s5, s6⟩; go_simp; (try with_reducible rfl)
     simp only [Act.put, zz]
     refine tk (v := ?_) 9 rfl ?_ ?_; rotate_left
     ·rintro _ ⟨s1, s2, s3, s4, s5, s6⟩; go_simp; (try with_reducible rfl)
     simp only [Act.put, zz]
     refine tk (v := ?_) 10 rfl ?_ ?_; rotate_left
     ·rintro _ ⟨s1, s2, s3, s4, s5, s6⟩; go_simp; (try with_reducible rfl)
     simp only [Act.put, zz]
     refine tk (v := ?_) 11 rfl ?_ ?_; rotate_left
     ·rintro _ ⟨s1, s2, s3, s4, s5, s6⟩; go_simp; (try with_reducible rfl)
     simp only [Act.put, zz]
     refine tk (v := ?_) 12 rfl ?_ ?_; rotate_left
     ·rintro _ ⟨s1, s2, s3, s4, s5, s6⟩; go_simp; (try with_reducible rfl)
     simp only [Act.put, zz]
     refine tk (v := ?_) 13 rfl ?_ ?_; rotate_left
     ·rintro _ ⟨s1, s2, s3, s4, s5, s6⟩; go_simp; (try with_reducible rfl)
     simp only [Act.put, zz]
     refine tk (v := ?_) 14 rfl ?_ ?_; rotate_left
     ·rintro _ ⟨s1, s2, s3, s4, s5, s6⟩; go_simp; (try with_reducible rfl)
     simp only [Act.put, zz]
     refine tk (v := ?_) 15 rfl ?_ ?_; rotate_left
     ·rintro _ ⟨s1, s2, s3, s4, s5, s6⟩; go_simp; (try with_reducible rfl)
     simp only [Act.put, zz]
     refine tk (v := ?_) 16 rfl ?_ ?_; rotate_left
     ·rintro _ ⟨s1, s2, s3, s4, s5, s6⟩; go_simp; (try with_reducible rfl)
     simp only [Act.put, zz]
     refine tk (v := ?_) 17 rfl ?_ ?_; rotate_left
     ·rintro _ ⟨s1, s2, s3, s4, s5, s6⟩; go_simp; (try with_reducible rfl)
     simp only [Act.put, zz]
     refine tk (v := ?_) 18 rfl ?_ ?_; rotate_left
     ·rintro _ ⟨s1, s2, s3, s4, s5, s6⟩; go_simp; (try with_reducible rfl)
     simp only [Act.put, zz]
     refine tk (v := ?_) 19 rfl ?_ ?_; rotate_left
     ·rintro _ ⟨s1, s2, s3, s4, s5, s6⟩; go_simp; (try with_reducible rfl)
     simp only [Act.put, zz]
     refine tk (v := ?_) 20 rfl ?_ ?_; rotate_left
     ·rintro _ ⟨s1, s2, s3, s4, s5, s6⟩; go_simp; (try with_reducible rfl)
     simp only [Act.put, zz]
     refine tk (v := ?_) 21 rfl ?_ ?_; rotate_left
     ·rintro _ ⟨s1, s2, s3, s4, s5, s6⟩; go_simp; (try with_reducible rfl)
     simp only [Act.put, zz]
     refine tk (v := ?_) 22 rfl ?_ ?_; rotate_left
     ·rintro _ ⟨s1, s2, s3, s4, s5, s6⟩; go_simp; (try with_reducible rfl)
     simp only [Act.put, zz]
     refine rd 23 rfl fun K hK => ?_
     go_simp
     go_at_call 117
     refine (match_spec X0 _ _ P L (rowP HX.out.2.2.1) HX.out.2.2.2.1 H.out.2.2.1).mono ?_
     rintro e w7 ⟨rfl, hk7⟩
     have n7 := hk7.at_ HX.out.2.2.2.2.1 (by simp)
     have p7 := hk7.at_ HX.out.2.2.2.2.2 (by simp)
     have HK7 := Lib.hid (HX.out.2.1.trans hk7)
     go_simp
     refine hK.out _ _ ⟨by rw [cells_at n7]; rfl, by rw [cells_at n7]; rfl, by rw [cells_at n7]; rfl, by rw [cells_at p7]; rfl, by rw [cells_at p7]; rfl, by rw [cells_at p7]; rfl⟩ (fun hS => ?_)
     clear hK K
     try simp only [Act.put, zz]
     refine tk (v := ?_) 24 rfl ?_ ?_; rotate_left
     ·rintro _ ⟨s1, s2, s3, s4, s5, s6⟩; go_simp; (try with_reducible rfl)
     simp only [Act.put, zz]
     refine wpAnyH_done (by kernel_rfl) ?_ _
     clear hS d1 d2 d3 d4 d5 d6 n7 p7 hk7
     go_wp2_with fail
     go_meet
     case rel => exact ⟨by rw [Hw.out], HK7.out⟩
   case rest =>
    obtain ⟨rfl, hk7⟩ := hcut
    have n7 := hk7.at_ H2.out.1 (by simp)
    have H7 := Lib.hid (And.intro n7 (And.intro (H2.out.2.1.keep hk7) (And.intro (hk7.row H2.out.2.2.1 (by simp)) (H2.out.2.2.2.2.2.trans hk7))))
    have hsz7 := H7.out.2.2.2.size
    clear cq lq cp lp hk7
    have cq := cells_at n7
    have lq := lt_of_at n7
    clear n7
    have hmap : ((E.take (k + 1)).map (·.2)).filter (wantE fr up L) = ((E.take k).map (·.2)).filter (wantE fr up L) ++ [((P, f, n, mn, mx) : EntP)].filter (wantE fr up L) := by
     rw [Hg.out.2.2.2.1, List.map_append, List.filter_append]
     rfl
    cases hw : wantE fr up L (P, f, n, mn, mx) with
    | false =>
     have Hm := Lib.hid (And.intro hmap (show [((P, f, n, mn, mx) : EntP)].filter (wantE fr up L) = [] by simp [hw]))
     clear hmap hw
     go_wp2_with fail
     go_roundg (E.length - (k + 1))
     case measure => have := Hg.out.1; omega
     case rel => exact ⟨k + 1, hlt, rfl, by go_num, ⟨E', H7.out.2.1, by have := Hg.out.2.2.2.2.2.1; omega, by rw [Hm.out.1, Hm.out.2, List.append_nil]; exact Hg.out.2.2.2.2.2.2⟩, H7.out.2.2.2⟩
    | true =>
     have Hm := Lib.hid (And.intro hmap (show [((P, f, n, mn, mx) : EntP)].filter (wantE fr up L) = [(P, f, n, mn, mx)] by simp [hw]))
     clear hmap hw
     have hown7 : wc.ownsRow w.heap.size 122 5 (.slice av N cv) N (E'.flatMap encE) := by have h := H7.out.2.1.1; rw [← Hg.out.2.2.2.2.1] at h; exact h
     have Hown := Lib.hid hown7
     clear hown7
     go_wp2_with (at_builtin; refine wpList_append_own _ rfl (.tmp 39) (.tmp 41) 118 rfl w.heap.size 122 ie _ 5 56 Tryz.underlying118 hie hz0 hz1 hz2 rfl (by decide) (.slice av N cv) N (E'.flatMap encE) rfl (Hown.out.alloc _) ⟨wc.heap.size, 0, none⟩ 1 1 [.slice xa P.length xc, .int .i64 (f : Nat), .int .i64 (n : Nat), .int .i64 (mn : Nat), .int .i64 (mx : Nat)] rfl rfl (news_of (heap_new wc _)) (by simp [Value.oneCell']) (by simp only [maxLen]; omega) (by omega) (by rw [World.size_alloc]; omega) ?_; intro v9 w9 hown9 hgrow9 hnil9; clear hnil9; obtain ⟨ao9, cp9, rfl, -, -, -⟩ := row_slice hown9; skip)
     have kN : Keeps [] wc (wc.alloc (.cells #[.slice xa P.length xc, .int .i64 (f : Nat), .int .i64 (n : Nat), .int .i64 (mn : Nat), .int .i64 (mx : Nat)] 122)) := (Keeps.refl [] wc).alloc _
     have hgr := keeps_rowM hgrow9
     have hk9 := keeps_own (H7.out.2.2.2.trans kN) hgrow9 (fun g hg => (World.ownsRow.lt Hown.out g hg).1)
     have hE9 : EntrAt w.heap.size w9 (.slice ao9 (N + 1) cp9) (E' ++ [(.slice xa P.length xc, (P, f, n, mn, mx))]) := by
      refine ⟨?_, fun e he => ?_⟩
      ·have h1 : (E' ++ [((.slice xa P.length xc : Value), ((P, f, n, mn, mx) : EntP))]).length = N + 1 := by rw [List.length_append, ← Hg.out.2.2.2.2.1]; rfl
       have h2 : (E' ++ [((.slice xa P.length xc : Value), ((P, f, n, mn, mx) : EntP))]).flatMap encE = E'.flatMap encE ++ [.slice xa P.length xc, .int .i64 (f : Nat), .int .i64 (n : Nat), .int .i64 (mn : Nat), .int .i64 (mx : Nat)] := by rw [List.flatMap_append]; rfl
       rw [h1, h2]
       exact hown9
      ·rcases List.mem_append.1 he with he | he
       ·exact hgr.row ((H7.out.2.1.keep kN).2 e he) (rows_ne2 (Hown.out.alloc _) ((H7.out.2.1.keep kN).2 e he) (by decide))
       ·obtain rfl : e = _ := by simpa using he
        have h3 := kN.row H7.out.2.2.1 (by simp)
        exact row_base (hgr.row h3 (rows_ne2 (Hown.out.alloc _) h3 (by decide))) (Nat.zero_le _)
     have H9 := Lib.hid (And.intro hE9 hk9)
     clear hown9 hgrow9 kN hgr hk9 hE9
     go_wp2_with fail
     go_roundg (E.length - (k + 1))
     case measure => have := Hg.out.1; omega
     case rel =>
      refine ⟨k + 1, hlt, rfl, by go_num, ⟨_, H9.out.1, by rw [List.length_append]; have := Hg.out.2.2.2.2.2.1; show _ + 1 ≤ _; omega, ?_⟩, H9.out.2⟩
      rw [Hm.out.1, Hm.out.2, List.map_append, Hg.out.2.2.2.2.2.2]
      rfl
  ·have hge : ¬ (k : Int) < (E.length : Int) := by omega
   have hkn : E.take k = E := List.take_of_length_le (by omega)
   rw [hkn] at hEe'
   have Hr := Lib.hid (And.intro hE' (And.intro hEe' (And.intro hkr (And.intro hN (by omega : E'.length ≤ E.length)))))
   clear hgk hE' hEe' hkr hN hkn hEl'
   go_wp2_with fail
   go_ret
   have hE2 := Hr.out.1
   rw [← Hr.out.2.2.2.1] at hE2
   exact ⟨_, rfl, E', hE2, Hr.out.2.1, Hr.out.2.2.2.2, Hr.out.2.2.1⟩
open Go Go.RowKit Go.Conc
theorem holdsF_spec (w : World) (nm s : ByteArray) (hs : s.size ≤ maxLen) :
  Calls Tryz.prog 80 #[.agg #[.string nm, .int .i64 s.size, .int .u32 (moreN 0 s.data.toList)], .string s] w fun e w' => e = .returned (.bool true) ∧ Keeps [] w w' := by
 obtain ⟨q, hq⟩ : ∃ q, q = w.heap.size := ⟨_, rfl⟩
 obtain ⟨cr, hcr⟩ : ∃ cr, cr = moreN 0 s.data.toList := ⟨_, rfl⟩
 have Hsum := Lib.hid (fun W => sum_spec W s hs)
 rw [← hcr] at Hsum ⊢
 obtain ⟨W1, hW1⟩ : ∃ W1, W1 = w.alloc (.cells #[.string nm, .int .i64 s.size, .int .u32 cr] 157) := ⟨_, rfl⟩
 have k1 : Keeps [] w W1 := by rw [hW1]; exact (Keeps.refl [] w).alloc _
 have n1 : W1.heap[q]? = some (.cells #[.string nm, .int .i64 s.size, .int .u32 cr] 157 (0, 0)) := by rw [hW1, hq]; exact heap_new w _
 have H := Lib.hid k1
 have c1 := cells_at n1
 have l1 := lt_of_at n1
 have hb : ((s.size : Int) == (s.size : Int)) = true := by simp
 clear hcr k1 n1
 go_enter Tryz.func80, Tryz.ntmps80
 go_upto_region 1 with fail
 rw [← hq, ← hW1]
 clear hq hW1
 go_quiet ((go_at_call 99; exact Calls.quiet_of_same ((Hsum.out _).mono (fun _ _ h => ⟨h.1, h.2.symm⟩))))
 rename_i nq
 have HF := Lib.hid (H.out.drewN nq)
 go_wp2_with fail
 go_ret
 exact ⟨rfl, HF.out⟩
theorem lost_spec (w : World) (e : Int) (he : e = 8 ∨ e = 5) : Calls Tryz.prog 47 #[.int .i64 e] w fun r w' => r = .returned (.int .i64 (if e = 5 then 14 else 8)) ∧ w' = w := by
 rcases he with rfl | rfl
 ·go_enter Tryz.func47, Tryz.ntmps47
  go_wp2_with fail
  go_ret
  exact ⟨rfl, rfl⟩
 ·go_enter Tryz.func47, Tryz.ntmps47
  go_wp2_with fail
  go_ret
  exact ⟨rfl, rfl⟩
theorem file_two {w : World} {X : Nat} {v : Value} {n1 n2 : ByteArray} {s1 s2 c1 c2 : Nat} (h : w.ownsRow X 157 3 v 2 [.string n1, .int .i64 (s1 : Nat), .int .u32 (c1 : Nat), .string n2, .int .i64 (s2 : Nat), .int .u32 (c2 : Nat)]) :
  ∃ g c, v = .slice (some ⟨g, 0, none⟩) 2 c ∧ g < w.heap.size ∧ w.cell? ⟨g, 3, none⟩ = some (.string n2) ∧ w.cell? ⟨g, 4, none⟩ = some (.int .i64 (s2 : Nat)) ∧ w.cell? ⟨g, 5, none⟩ = some (.int .u32 (c2 : Nat)) := by
 obtain ⟨g, c, rfl⟩ := row_some h (by decide)
 have hn := row_news h
 exact ⟨g, c, rfl, (World.ownsRow.lt h g rfl).2, hn 3 _ rfl, hn 4 _ rfl, hn 5 _ rfl⟩
def ListOut (w : World) (p : Nat) (M : MetaS) (vf vo : Value) (fr up : Int) (vm : Value) (L : List MatB) (EP : List EntP) (b f c mb : Nat) (Q : List (Int × Bool)) (o : List (ByteArray × Ob)) (r : Int) (e : Ending) (w' : World) : Prop :=
 BucketAt w' b f c mb (tryArmed Q) (tryQ Q) o ∧ Keeps [f, c, p] w w' ∧
  ((r = 8 ∧ e = .returned (.int .i64 8) ∧ FetAt w' p M vf vo fr up vm false (.slice none 0 0) (.slice none 0 0)) ∨ (r = 5 ∧ e = .returned (.int .i64 14) ∧ FetAt w' p M vf vo fr up vm false (.slice none 0 0) (.slice none 0 0)) ∨
   (r = 0 ∧ e = .returned (.int .i64 0) ∧ ∃ v' E', FetAt w' p M vf vo fr up vm true v' (.slice none 0 0) ∧ EntrAt w.heap.size w' v' E' ∧ E'.map (·.2) = EP.filter (wantE fr up L) ∧ E'.length ≤ EP.length))
theorem fetList_spec (w : World) (p X : Nat) (M : MetaS) (vf vo : Value) (fr up : Int) (vm : Value) (L : List MatB) (EP : List EntP) (ib n1 : ByteArray) (s1 c1 : Nat) (b f c mb : Nat) (armed : Bool) (Q : List (Int × Bool)) (o : List (ByteArray × Ob)) (r : ByteArray × Int)
  (hp : FetAt w p M vf vo fr up vm false (.slice none 0 0) (.slice none 0 0)) (hf : w.ownsRow X 157 3 vf 2 [.string n1, .int .i64 (s1 : Nat), .int .u32 (c1 : Nat), .string indexB, .int .i64 (ib.size : Nat), .int .u32 (moreN 0 ib.data.toList : Nat)])
  (hm : ∀ W, Keeps [f, c, p] w W → MatsAt W vm L) (hmay : ∀ m ∈ L, mayK m) (hb : BucketAt w b f c mb armed Q o) (hpb : p ≠ f ∧ p ≠ c ∧ p ≠ b ∧ p ≠ mb) (hid : M.id.size ≤ 1000) (hib : ib.data.toList = idxL EP) (hsz : ∀ x, look o (objectB M.id indexB) = some x → x.1.size ≤ maxLen)
  (ht : ∀ e ∈ EP, EntT e) (hpw : EP.Pairwise fun a b => ltL a.1 b.1) (hl : EP.length ≤ 50) (hr : rangeVal Q o (objectB M.id indexB) 0 ib.size = r) (hrr : r.2 = 8 ∨ r.2 = 5 ∨ r = (ib, 0)) (hz : ib.size ≤ 60000) :
  Calls Tryz.prog 45 #[.pointer (some ⟨p, 0, none⟩), .pointer (some ⟨b, 0, none⟩)] w (ListOut w p M vf vo fr up vm L EP b f c mb Q o r.2) := by
 obtain ⟨g, cg, rfl, hgl, d3, d4, d5⟩ := file_two hf
 have hbl := hb.lt
 have H := Lib.hid (And.intro hp (And.intro hm (And.intro hmay (And.intro hb (And.intro hib (And.intro hsz (And.intro ht (And.intro hpw (And.intro hr (And.intro hpb hbl))))))))))
 have cp := cells_at hp
 have lp := lt_of_at hp
 obtain ⟨q, hq⟩ : ∃ q, q = w.heap.size := ⟨_, rfl⟩
 obtain ⟨cr, hcr⟩ : ∃ cr, cr = moreN 0 ib.data.toList := ⟨_, rfl⟩
 rw [← hcr] at d5
 obtain ⟨W1, hW1⟩ : ∃ W1, W1 = w.alloc (.cells #[.string indexB, .int .i64 (ib.size : Nat), .int .u32 (cr : Nat)] 157) := ⟨_, rfl⟩
 have k1 : Keeps [] w W1 := by rw [hW1]; exact (Keeps.refl [] w).alloc _
 have nq : W1.heap[q]? = some (.cells #[.string indexB, .int .i64 (ib.size : Nat), .int .u32 (cr : Nat)] 157 (0, 0)) := by rw [hW1, hq]; exact heap_new w _
 have HC := Lib.hid hcr
 clear hp hf hm hmay hb hib hsz ht hpw hr hcr hpb hbl
 go_enter Tryz.func45, Tryz.ntmps45
 go_upto_region 2 with fail
 rw [← hq, ← hW1]
 have hqb : q ≠ f ∧ q ≠ c ∧ q ≠ p := by have := H.out.2.2.2.2.2.2.2.2.2.2; omega
 have H1 := Lib.hid (And.intro nq (And.intro k1 (And.intro (k1.at_ H.out.1 (by simp)) (And.intro (H.out.2.2.2.1.keep k1 (by simp) (by simp) (by simp) (by simp)) (And.intro hqb (show w.heap.size ≤ q by omega))))))
 clear hq hW1 nq k1 hqb cp lp d3 d4 d5 hgl
 obtain ⟨X0, hX0⟩ : ∃ X0, X0 = W1.drew := ⟨_, rfl⟩
 have kX : Keeps [] W1 X0 := by rw [hX0]; exact (Keeps.refl [] _).drew
 have nX := kX.at_ H1.out.1 (by simp)
 have pX := kX.at_ H1.out.2.2.1 (by simp)
 have e1 : X0.cell? ⟨p, 0, none⟩ = some (.string M.id) := by rw [cells_at pX]; rfl
 have e2 : X0.cell? ⟨q, 1, none⟩ = some (.int .i64 (ib.size : Nat)) := by rw [cells_at nX]; rfl
 have HX := Lib.hid (And.intro hX0 (And.intro kX (And.intro nX (And.intro pX (H1.out.2.2.2.1.keep kX (by simp) (by simp) (by simp) (by simp))))))
 clear hX0 kX nX pX
 refine wp_region_held_drew (S := fun w' => w'.cell? ⟨p, 0, none⟩ = some (.string M.id) ∧ w'.cell? ⟨q, 1, none⟩ = some (.int .i64 (ib.size : Nat))) (by kernel_rfl) (by rw [← HX.out.1]; exact ⟨e1, e2⟩) (fun hS => ?_)
 rw [← HX.out.1] at hS ⊢
 refine tk (v := ?_) 0 rfl ?_ ?_; rotate_left
 ·rintro _ ⟨s1, s2⟩; go_simp; (try with_reducible rfl)
 simp only [Act.put, zz]
 refine tk (v := ?_) 1 rfl ?_ ?_; rotate_left
 ·rintro _ ⟨s1, s2⟩; go_simp; (try with_reducible rfl)
 simp only [Act.put, zz]
 refine tk (v := ?_) 2 rfl ?_ ?_; rotate_left
 ·rintro _ ⟨s1, s2⟩; go_simp; (try with_reducible rfl)
 simp only [Act.put, zz]
 refine tk (v := ?_) 3 rfl ?_ ?_; rotate_left
 ·rintro _ ⟨s1, s2⟩; go_simp; (try with_reducible rfl)
 simp only [Act.put, zz]
 refine tk (v := ?_) 4 rfl ?_ ?_; rotate_left
 ·rintro _ ⟨s1, s2⟩; go_simp; (try with_reducible rfl)
 simp only [Act.put, zz]
 refine tk (v := ?_) 5 rfl ?_ ?_; rotate_left
 ·rintro _ ⟨s1, s2⟩; go_simp; (try with_reducible rfl)
 simp only [Act.put, zz]
 refine tk (v := ?_) 7 rfl ?_ ?_; rotate_left
 ·rintro _ ⟨s1, s2⟩; go_simp; (try with_reducible rfl)
 simp only [Act.put, zz]
 refine tk (v := ?_) 8 rfl ?_ ?_; rotate_left
 ·rintro _ ⟨s1, s2⟩; go_simp; (try with_reducible rfl)
 simp only [Act.put, zz]
 refine rd 6 rfl fun K hK => ?_
 go_simp
 go_at_call 41
 refine (object_spec X0 M.id indexB (by omega) (by decide)).mono ?_
 rintro e w3 ⟨rfl, rfl⟩
 go_simp
 refine hK.out _ _ ⟨e1, e2⟩ (fun hS => ?_)
 clear hK K
 try simp only [Act.put, zz]
 refine rd 9 rfl fun K hK => ?_
 go_simp
 go_at_call 46
 refine (range_spec X0 b f c mb armed Q o HX.out.2.2.2.2 (objectB M.id indexB) 0 ib.size (by omega) (by omega) H.out.2.2.2.2.2.1).mono ?_
 rintro e w4 ⟨rfl, hb4, hk4⟩
 rw [H.out.2.2.2.2.2.2.2.2.1]
 have n4 := hk4.at_ HX.out.2.2.1 (by simp; exact ⟨H1.out.2.2.2.2.1.1, H1.out.2.2.2.2.1.2.1⟩)
 have p4 := hk4.at_ HX.out.2.2.2.1 (by simp; exact ⟨H.out.2.2.2.2.2.2.2.2.2.1.1, H.out.2.2.2.2.2.2.2.2.2.1.2.1⟩)
 have hk04 : Keeps [f, c, p] w w4 := ((H1.out.2.1.trans HX.out.2.1).mono (by simp) : Keeps [f, c, p] w X0).trans (hk4.mono (by simp))
 have H4 := Lib.hid (And.intro hb4 (And.intro n4 (And.intro p4 hk04)))
 have t1 : w4.cell? ⟨p, 0, none⟩ = some (.string M.id) := by rw [cells_at p4]; rfl
 have t2 : w4.cell? ⟨q, 1, none⟩ = some (.int .i64 (ib.size : Nat)) := by rw [cells_at n4]; rfl
 clear hb4 hk4 n4 p4 hk04 e1 e2
 obtain ⟨rs, re⟩ := r
 dsimp only at hrr
 go_simp
 refine hK.out _ _ ⟨t1, t2⟩ (fun hS => ?_)
 clear hK K
 try simp only [Act.put, zz]
 refine tk (v := ?_) 10 rfl ?_ ?_; rotate_left
 ·rintro _ ⟨s1, s2⟩; go_simp; (try with_reducible rfl)
 simp only [Act.put, zz]
 refine tk (v := ?_) 11 rfl ?_ ?_; rotate_left
 ·rintro _ ⟨s1, s2⟩; go_simp; (try with_reducible rfl)
 simp only [Act.put, zz]
 refine tk (v := ?_) 12 rfl ?_ ?_; rotate_left
 ·rintro _ ⟨s1, s2⟩; go_simp; (try with_reducible rfl)
 simp only [Act.put, zz]
 refine rd 13 rfl fun K hK => ?_
 go_simp
 go_simp
 refine hK.out _ _ ⟨t1, t2⟩ (fun hS => ?_)
 clear hK K
 try simp only [Act.put, zz]
 refine rd 14 rfl fun K hK => ?_
 go_simp
 go_simp
 refine hK.out _ _ ⟨t1, t2⟩ (fun hS => ?_)
 clear hK K
 try simp only [Act.put, zz]
 refine wpAnyH_done (by kernel_rfl) ?_ _
 clear hS t1 t2
 obtain ⟨am, cm, hvm, -⟩ := (H.out.2.1 w (Keeps.refl _ _)).form
 subst hvm
 rcases hrr with rfl | rfl | hrr
 ·go_wp2_with fail
  refine (lost_spec w4 8 (.inl rfl)).mono ?_
  rintro e w5 ⟨rfl, rfl⟩
  rw [if_neg (by decide)]
  go_wp2_with fail
  go_ret
  exact ⟨H4.out.1, H4.out.2.2.2, .inl ⟨rfl, rfl, H4.out.2.2.1⟩⟩
 ·go_wp2_with fail
  refine (lost_spec w4 5 (.inr rfl)).mono ?_
  rintro e w5 ⟨rfl, rfl⟩
  rw [if_pos rfl]
  go_wp2_with fail
  go_ret
  exact ⟨H4.out.1, H4.out.2.2.2, .inr (.inl ⟨rfl, rfl, H4.out.2.2.1⟩)⟩
 ·injection hrr with e1 e2
  subst e1 e2
  have cq := cells_at H4.out.2.1
  have lq := lt_of_at H4.out.2.1
  go_wp2_with fail
  rw [HC.out]
  refine (holdsF_spec w4 indexB rs (by unfold maxLen; omega)).mono ?_
  rintro e w5 ⟨rfl, hk5⟩
  rw [← HC.out]
  have H5 := Lib.hid (And.intro (hk5.at_ H4.out.2.2.1 (by simp)) (And.intro (H4.out.1.keep hk5 (by simp) (by simp) (by simp) (by simp)) (H4.out.2.2.2.trans (hk5.mono (by simp)))))
  clear cq lq hk5
  go_wp2_with fail
  refine (entriesR_spec w5 rs EP H.out.2.2.2.2.1 H.out.2.2.2.2.2.2.1 H.out.2.2.2.2.2.2.2.1 hl).mono ?_
  rintro e w6 ⟨v6, E, rfl, hE, hEm, hk6⟩
  have hEl : E.length = EP.length := by rw [← hEm, List.length_map]
  obtain ⟨a6, c6, rfl, -, -, -⟩ := row_slice hE.1
  have H6 := Lib.hid (And.intro (hk6.at_ H5.out.1 (by simp)) (And.intro (H5.out.2.1.keep hk6 (by simp) (by simp) (by simp) (by simp)) (And.intro (H5.out.2.2.trans (hk6.mono (by simp))) (And.intro hE hEm))))
  have Hw := Lib.hid (wanted_spec w6 p M _ vo fr up _ false (.slice none 0 0) (.slice none 0 0) (.slice a6 E.length c6) L E H6.out.1 (H.out.2.1 w6 H6.out.2.2.1) H.out.2.2.1 ⟨row_base hE.1 (Nat.zero_le _), hE.2⟩ (by omega))
  have HEl := Lib.hid hEl
  clear hE hEm hk6 hEl
  go_wp2_with fail
  refine Hw.out.mono ?_
  rintro e w7 ⟨v7, E7, rfl, hE7, hEm7, hEl7, hk7⟩
  obtain ⟨a7, c7, rfl, -, -, -⟩ := row_slice hE7.1
  have p7 := hk7.at_ H6.out.1 (by simp)
  have H7 := Lib.hid (And.intro p7 (And.intro (H6.out.2.1.keep hk7 (by simp) (by simp) (by simp) (by simp)) (And.intro (H6.out.2.2.1.trans (hk7.mono (by simp))) (And.intro hE7 (And.intro (show E7.map (·.2) = EP.filter (wantE fr up L) by rw [hEm7, H6.out.2.2.2.2]) (by have := HEl.out; omega : E7.length ≤ EP.length))))))
  have hpn : p < w.heap.size := lt_of_at H.out.1
  have hsz6 : w.heap.size ≤ w6.heap.size := H6.out.2.2.1.size
  have cp := cells_at p7
  have fp := free_at p7
  have lp := lt_of_at p7
  clear hE7 hEm7 hEl7 hk7 p7
  go_wp2_with fail
  go_ret
  have n9 : ((w7.setCell ⟨p, 11, none⟩ (.bool true)).setCell ⟨p, 12, none⟩ (.slice a7 E7.length c7)).heap[p]? = some (.cells #[.string M.id, .int .i64 (M.mn : Nat), .int .i64 (M.mx : Nat), .int .i64 (M.level : Nat), .int .i64 (M.series : Nat), .int .i64 (M.samples : Nat), .slice (some ⟨g, 0, none⟩) 2 cg, vo, .int .i64 fr, .int .i64 up, .slice am L.length cm, .bool true, .slice a7 E7.length c7, .slice none 0 0] 120 (0, 0)) := by
   have h1 := heap_cell_same (i := 11) H7.out.1 (.bool true)
   have h2 := heap_cell_same (i := 12) h1 (.slice a7 E7.length c7)
   simpa using h2
  have k9 : Keeps [p] w7 ((w7.setCell ⟨p, 11, none⟩ (.bool true)).setCell ⟨p, 12, none⟩ (.slice a7 E7.length c7)) := ((Keeps.refl _ w7).setCell (.inl (by simp)) _).setCell (.inl (by simp)) _
  have hne := H.out.2.2.2.2.2.2.2.2.2.1
  refine ⟨H7.out.2.1.keep k9 (by simp; exact Ne.symm hne.2.2.1) (by simp; exact Ne.symm hne.1) (by simp; exact Ne.symm hne.2.1) (by simp; exact Ne.symm hne.2.2.2), H7.out.2.2.1.trans (k9.mono (by simp)), .inr (.inr ⟨rfl, rfl, _, E7, n9, ⟨k9.row (row_base H7.out.2.2.2.1.1 hsz6) (fun x hx hm => ?_), fun e he => k9.row (H7.out.2.2.2.1.2 e he) (fun x hx hm => ?_)⟩, H7.out.2.2.2.2.1, H7.out.2.2.2.2.2⟩)⟩
  ·obtain rfl : x = p := by simpa using hm
   exact row_ne_type H7.out.2.2.2.1.1 H7.out.1 (by decide) _ hx rfl
  ·obtain rfl : x = p := by simpa using hm
   exact row_ne_type (H7.out.2.2.2.1.2 e he) H7.out.1 (by decide) _ hx rfl
def entsR : Nat → TabT → List (EntP × RowT)
 | _, [] => []
 | at_, r :: A => ((r.1, at_, (chunkF r.2).length, firstT r.2, lastT r.2), r) :: entsR (at_ + (chunkF r.2).length) A
theorem entsR_fst : ∀ (at_ : Nat) (A : TabT), (entsR at_ A).map (·.1) = entsF at_ A
 | _, [] => rfl
 | at_, r :: A => by rw [entsR, List.map_cons, entsR_fst _ A, entsF]
theorem entsR_snd : ∀ (at_ : Nat) (A : TabT), (entsR at_ A).map (·.2) = A
 | _, [] => rfl
 | at_, r :: A => by rw [entsR, List.map_cons, entsR_snd _ A]
theorem entsR_at : ∀ {A : TabT} {at_ : Nat} {x : EntP × RowT}, x ∈ entsR at_ A → x.2 ∈ A ∧ x.1.1 = x.2.1 ∧ x.1.2.2.1 = (chunkF x.2.2).length ∧ x.1.2.2.2.1 = firstT x.2.2 ∧ x.1.2.2.2.2 = lastT x.2.2 ∧ ∃ C D, chunksL A = C ++ (chunkF x.2.2 ++ D) ∧ at_ + C.length = x.1.2.1
 | [], _, _, h => by cases h
 | r :: A, at_, x, h => by
  rw [entsR] at h
  rcases List.mem_cons.1 h with rfl | h
  ·exact ⟨by simp, rfl, rfl, rfl, rfl, [], chunksL A, by simp [chunksL], by simp⟩
  ·obtain ⟨h1, h2, h3, h4, h5, C, D, h6, h7⟩ := entsR_at h
   refine ⟨by simp [h1], h2, h3, h4, h5, chunkF r.2 ++ C, D, ?_, by rw [List.length_append]; omega⟩
   unfold chunksL at h6 ⊢
   rw [List.flatMap_cons, h6, List.append_assoc]
def wantP (fr up : Int) (L : List MatB) (A : TabT) : List (EntP × RowT) := (entsR 0 A).filter fun x => wantE fr up L x.1
theorem wantP_fst (fr up : Int) (L : List MatB) (A : TabT) : (wantP fr up L A).map (·.1) = (entsF 0 A).filter (wantE fr up L) := by
 unfold wantP
 rw [← entsR_fst 0 A, List.filter_map]
 rfl
theorem wantP_snd (fr up : Int) (L : List MatB) (A : TabT) : (wantP fr up L A).map (·.2) = wantT fr up L A := by
 unfold wantP wantT
 conv => rhs; rw [← entsR_snd 0 A]
 rw [List.filter_map]
 congr 1
 refine List.filter_congr fun x hx => ?_
 obtain ⟨-, h1, -, h2, h3, -⟩ := entsR_at hx
 show wantE fr up L x.1 = wantR fr up L x.2
 unfold wantE wantR meetsR fitR
 rw [h1, h2, h3]
theorem extract_mid (a b c : List UInt8) : (⟨(a ++ (b ++ c)).toArray⟩ : ByteArray).extract a.length (a.length + b.length) = ⟨b.toArray⟩ := by
 apply ByteArray.ext
 apply Array.ext'
 simp [ByteArray.data_extract]
theorem BlkOk.wantAt {A : TabT} {fr0 up0 : Nat} (h : BlkOk A fr0 up0) {fr up : Int} {L : List MatB} {x : EntP × RowT} (hx : x ∈ wantP fr up L A) :
  x.1.1 = x.2.1 ∧ SmpsOk x.2.2 ∧ 0 < x.2.2.length ∧ x.2.2.length ≤ 110 ∧ 0 < x.2.1.length ∧ x.2.1.length ≤ 8 ∧ x.1.2.2.2.1 = firstT x.2.2 ∧ x.1.2.2.2.2 = lastT x.2.2 ∧ x.1.2.1 ≤ 200000 ∧ x.1.2.2.1 ≤ 3000 ∧ x.1.2.2.1 = (chunkF x.2.2).length ∧
   cutVal (chunksT A, 0) x.1.2.1 x.1.2.2.1 = (⟨(chunkF x.2.2).toArray⟩, 0) ∧ x.2.2[0]?.map (·.1) = some ((firstT x.2.2 : Nat) : Int) ∧ x.2.2[x.2.2.length - 1]?.map (·.1) = some ((lastT x.2.2 : Nat) : Int) := by
 obtain ⟨hA, h1, h2, h3, h4, C, D, h5, h6⟩ := entsR_at (List.mem_filter.1 hx).1
 obtain ⟨hl, -, -, -, -, g5, g6⟩ := h.row hA
 have hs := h.smps hA
 have hf := h.few.2 _ hA
 have hcl := chunkF_len (L := x.2.2) (by omega) hs
 have hlen := chunksL_len h.chunks
 have hA40 := h.few.1
 obtain ⟨⟨nl, hnl⟩, -⟩ := h.vals _ hA
 have hlab := labN_small nl
 rw [← hnl] at hlab
 have hCl : C.length + (chunkF x.2.2).length ≤ (chunksL A).length := by rw [h5, List.length_append, List.length_append]; omega
 refine ⟨h1, hs, hl, hf.2, hlab.2.2.2, by omega, h3, h4, by omega, by omega, h2, ?_, g5, g6⟩
 rw [Nat.zero_add] at h6
 unfold cutVal
 have hsz : (chunksT A).size = (chunksL A).length := rfl
 rw [if_neg (by dsimp only; omega)]
 dsimp only
 rw [show ((x.1.2.1 : Nat) : Int).toNat = C.length by omega, show ((x.1.2.1 : Int) + min (x.1.2.2.1 : Int) (((chunksT A).size : Int) - (x.1.2.1 : Int))).toNat = C.length + (chunkF x.2.2).length by omega]
 have e : chunksT A = ⟨(C ++ (chunkF x.2.2 ++ D)).toArray⟩ := by unfold chunksT; rw [h5]
 rw [e, extract_mid]
theorem cutVal_any (s : ByteArray) (x : Int) (a n : Int) : cutVal (s, x) a n = cutVal (s, 0) a n := rfl
theorem BlkOk.entT {A : TabT} {fr up : Nat} (h : BlkOk A fr up) : ∀ e ∈ entsF 0 A, EntT e := fun e he => by
 rw [← entsR_fst] at he
 obtain ⟨x, hx, rfl⟩ := List.mem_map.1 he
 obtain ⟨hA, h1, h2, h3, h4, C, D, h5, h6⟩ := entsR_at hx
 obtain ⟨hl, g1, g2, g3, g4, -, -⟩ := h.row hA
 have hs := h.smps hA
 have hf := h.few.2 _ hA
 have hcl := chunkF_len (L := x.2.2) (by omega) hs
 have hlen := chunksL_len h.chunks
 have hA40 := h.few.1
 have ht := h.time
 obtain ⟨⟨nl, hnl⟩, hv⟩ := h.vals _ hA
 have hlab := labN_small nl
 rw [← hnl] at hlab
 have hCl : C.length + (chunkF x.2.2).length ≤ (chunksL A).length := by rw [h5, List.length_append, List.length_append]; omega
 have hpos : 0 < (chunkF x.2.2).length := by
  unfold chunkF
  rw [frameL_len]
  omega
 refine ⟨⟨by rw [h1]; exact hlab.2.2.1, by rw [h1]; omega, fun p hp => ?_⟩, by omega, by omega, by omega, ?_, by omega⟩
 ·rw [h1] at hp
  obtain ⟨i, hi, rfl⟩ := List.mem_iff_getElem.1 hp
  have h8 := chkSet_at hlab.2.2.1 i hi
  refine ⟨?_, h8.2.2.1⟩
  have h9 := h8.1
  unfold goodB at h9
  simp only [Bool.and_eq_true, decide_eq_true_eq] at h9
  exact h9.1.2
 ·rw [h3, h4]
  have hp := first_le hs.1 (fun s hs' => (hs.2 s hs').1) x.2.2[0] (List.getElem_mem hl)
  omega
theorem BlkOk.entP {A : TabT} {fr up : Nat} (h : BlkOk A fr up) : (entsF 0 A).Pairwise fun a b => ltL a.1 b.1 := by
 have hg := h.good.rows
 suffices hs : ∀ (at_ : Nat) (A : TabT), (A.Pairwise fun a b => ltL a.1 b.1) → (entsF at_ A).Pairwise (fun a b => ltL a.1 b.1) ∧ ∀ e ∈ entsF at_ A, ∃ r ∈ A, e.1 = r.1 from (hs 0 A hg).1
 intro at_ A
 induction A generalizing at_ with
 | nil => exact fun _ => ⟨List.Pairwise.nil, fun e he => by cases he⟩
 | cons r A ih =>
  intro hp
  obtain ⟨h1, h2⟩ := List.pairwise_cons.1 hp
  obtain ⟨i1, i2⟩ := ih (at_ + (chunkF r.2).length) h2
  rw [entsF]
  refine ⟨List.pairwise_cons.2 ⟨fun e he => ?_, i1⟩, fun e he => ?_⟩
  ·obtain ⟨q, hq, e1⟩ := i2 e he
   show ltL r.1 e.1
   rw [e1]
   exact h1 q hq
  ·rcases List.mem_cons.1 he with rfl | he
   ·exact ⟨r, by simp, rfl⟩
   ·obtain ⟨q, hq, e1⟩ := i2 e he
    exact ⟨q, by simp [hq], e1⟩
open Go Go.RowKit Go.Conc
def LeftV (v0 : Value) (n k : Nat) (vl : Value) : Prop := (∃ g c, v0 = .slice (some ⟨g, 0, none⟩) n c ∧ k < n ∧ n ≤ c ∧ vl = .slice (some ⟨g, k * 5, none⟩) (n - k) (c - k)) ∨ (n ≤ k ∧ ∃ a c, vl = .slice a 0 c)
structure FetOn (w : World) (p Y : Nat) (M : MetaS) (vf vo : Value) (fr up : Int) (vm : Value) (PR : List (EntP × RowT)) (k : Nat) : Prop where
 ex : ∃ v0 E vl vr, FetAt w p M vf vo fr up vm true vl vr ∧ EntrAt Y w v0 E ∧ E.map (·.2) = PR.map (·.1) ∧ LeftV v0 PR.length k vl ∧ TabAt 76 91 Y w vr ((PR.take k).map (·.2))
 le : k ≤ PR.length
theorem fetDone_spec (w : World) (p Y : Nat) (M : MetaS) (vf vo : Value) (fr up : Int) (vm : Value) (PR : List (EntP × RowT)) (k : Nat) (h : FetOn w p Y M vf vo fr up vm PR k) :
  Calls Tryz.prog 23 #[.pointer (some ⟨p, 0, none⟩)] w fun e w' => e = .returned (.bool (decide (k = PR.length))) ∧ w' = w := by
 obtain ⟨v0, E, vl, vr, hp, hE, hm, hl, hr⟩ := h.ex
 have hle := h.le
 rcases hl with ⟨g, c, rfl, hk, hc, rfl⟩ | ⟨hk, a, c, rfl⟩
 ·have hz : ¬ ((PR.length - k : Nat) : Int) = 0 := by omega
  obtain ⟨m, hm2⟩ : ∃ m, m = PR.length - k := ⟨_, rfl⟩
  rw [← hm2] at hp hz
  have hzb : ((m : Int) == 0) = false := by rw [beq_eq_false_iff_ne]; exact hz
  have Hd := Lib.hid (show decide (k = PR.length) = false by rw [decide_eq_false_iff_not]; omega)
  have cp := cells_at hp
  have lp := lt_of_at hp
  clear hp hE hm hr hm2 hk hc
  go_enter Tryz.func23, Tryz.ntmps23
  go_wp2_with fail
  go_ret
  exact ⟨by rw [Hd.out]; rfl, rfl⟩
 ·have Hd := Lib.hid (show decide (k = PR.length) = true by rw [decide_eq_true_eq]; omega)
  have cp := cells_at hp
  have lp := lt_of_at hp
  clear hp hE hm hr hk
  go_enter Tryz.func23, Tryz.ntmps23
  go_wp2_with fail
  go_ret
  exact ⟨by rw [Hd.out]; rfl, rfl⟩
theorem fetIdle_spec (w : World) (p Y b : Nat) (M : MetaS) (vf vo : Value) (fr up : Int) (vm : Value) (PR : List (EntP × RowT)) (h : FetOn w p Y M vf vo fr up vm PR PR.length) :
  Calls Tryz.prog 22 #[.pointer (some ⟨p, 0, none⟩), .pointer (some ⟨b, 0, none⟩)] w fun e w' => e = .returned (.int .i64 17) ∧ w' = w := by
 obtain ⟨v0, E, vl, vr, hp, hE, hm, hl, hr⟩ := h.ex
 rcases hl with ⟨g, c, rfl, hk, hc, rfl⟩ | ⟨hk, a, c, rfl⟩
 ·omega
 ·have cp := cells_at hp
  have lp := lt_of_at hp
  clear hp hE hm hr hk
  go_enter Tryz.func22, Tryz.ntmps22
  go_wp2_with fail
  go_ret
  exact ⟨rfl, rfl⟩
def StepOut (w : World) (p Y : Nat) (M : MetaS) (vf vo : Value) (fr up : Int) (vm : Value) (PR : List (EntP × RowT)) (k : Nat) (b f c mb : Nat) (Q : List (Int × Bool)) (o : List (ByteArray × Ob)) (r : Int) (e : Ending) (w' : World) : Prop :=
 BucketAt w' b f c mb (tryArmed Q) (tryQ Q) o ∧ (∃ S, (∀ x ∈ S, x = f ∨ x = c ∨ x = p ∨ Y ≤ x) ∧ Keeps S w w') ∧
  ((r = 8 ∧ e = .returned (.int .i64 8) ∧ FetOn w' p Y M vf vo fr up vm PR k) ∨ (r = 5 ∧ e = .returned (.int .i64 14) ∧ FetOn w' p Y M vf vo fr up vm PR k) ∨
   (r = 0 ∧ e = .returned (.int .i64 0) ∧ FetOn w' p Y M vf vo fr up vm PR (k + 1)))
theorem bucket_row {w : World} {b f c mb X s n : Nat} {armed : Bool} {Q : List (Int × Bool)} {o : List (ByteArray × Ob)} {T : TypeId} {v : Value} {xs : List Value} (h : BucketAt w b f c mb armed Q o) (hr : w.ownsRow X T s v n xs) (hT : 198 ≠ T) : ∀ g, v.ownBlock = some g → g ∉ [f, c] := fun g hg hm => by
 obtain ⟨now, wait, hf, -⟩ := h.fuse
 obtain ⟨s', r', hc⟩ := hf.chan
 simp only [List.mem_cons, List.not_mem_nil, or_false] at hm
 rcases hm with rfl | rfl
 ·exact row_ne_type hr hf.cells hT _ hg rfl
 ·obtain ⟨-, ob, ho, hcell⟩ := own_block_cells hr g hg
  rw [hc] at ho
  cases ho
  cases hcell
theorem EntrAt.bk {w w' : World} {b f c mb Y : Nat} {armed : Bool} {Q : List (Int × Bool)} {o : List (ByteArray × Ob)} {v : Value} {E : List EntV} (h : EntrAt Y w v E) (hb : BucketAt w b f c mb armed Q o) (K : Keeps [f, c] w w') : EntrAt Y w' v E :=
 ⟨K.row h.1 (bucket_row hb h.1 (by decide)), fun e he => K.row (h.2 e he) (bucket_row hb (h.2 e he) (by decide))⟩
theorem TabAt.bk {w w' : World} {b f c mb Y : Nat} {armed : Bool} {Q : List (Int × Bool)} {o : List (ByteArray × Ob)} {v : Value} {A : TabT} (h : TabAt 76 91 Y w v A) (hb : BucketAt w b f c mb armed Q o) (K : Keeps [f, c] w w') : TabAt 76 91 Y w' v A := by
 obtain ⟨E, h1, h2, h3⟩ := h
 exact ⟨E, K.row h1 (bucket_row hb h1 (by decide)), h2, fun i hi hi' => ⟨K.row (h3 i hi hi').1 (bucket_row hb (h3 i hi hi').1 (by decide)), K.row (h3 i hi hi').2 (bucket_row hb (h3 i hi hi').2 (by decide))⟩⟩
theorem EntrAt.pt {w w' : World} {p Y : Nat} {cs : Array Value} {T0 : TypeId} {z : Nat × Nat} {v : Value} {E : List EntV} (h : EntrAt Y w v E) (hp : w.heap[p]? = some (.cells cs T0 z)) (h1 : T0 ≠ 122) (h2 : T0 ≠ 91) (K : Keeps [p] w w') : EntrAt Y w' v E :=
 ⟨K.row h.1 (fun g hg hm => row_ne_type h.1 hp h1 g hg (by simpa using hm)), fun e he => K.row (h.2 e he) (fun g hg hm => row_ne_type (h.2 e he) hp h2 g hg (by simpa using hm))⟩
theorem ElemsAt.pt {w w' : World} {p : Nat} {cs : Array Value} {T0 : TypeId} {z : Nat × Nat} {E : List RowV} {A : TabT} (h : ElemsAt 91 w E A) (hp : w.heap[p]? = some (.cells cs T0 z)) (h2 : T0 ≠ 91) (h3 : T0 ≠ 50) (K : Keeps [p] w w') : ElemsAt 91 w' E A :=
 ⟨h.1, fun i hi hi' => ⟨K.row (h.2 i hi hi').1 (fun g hg hm => row_ne_type (h.2 i hi hi').1 hp h2 g hg (by simpa using hm)), K.row (h.2 i hi hi').2 (fun g hg hm => row_ne_type (h.2 i hi hi').2 hp h3 g hg (by simpa using hm))⟩⟩
theorem FetOn.bk {w w' : World} {p Y b f c mb : Nat} {armed : Bool} {Q : List (Int × Bool)} {o : List (ByteArray × Ob)} {M : MetaS} {vf vo : Value} {fr up : Int} {vm : Value} {PR : List (EntP × RowT)} {k : Nat} (h : FetOn w p Y M vf vo fr up vm PR k) (hb : BucketAt w b f c mb armed Q o) (K : Keeps [f, c] w w') (hp : p ≠ f ∧ p ≠ c) : FetOn w' p Y M vf vo fr up vm PR k := by
 obtain ⟨v0, E, vl, vr, h1, h2, h3, h4, h5⟩ := h.ex
 exact ⟨⟨v0, E, vl, vr, K.at_ h1 (by simp; exact hp), h2.bk hb K, h3, h4, h5.bk hb K⟩, h.le⟩
theorem FetOn.kp {w w' : World} {p Y : Nat} {M : MetaS} {vf vo : Value} {fr up : Int} {vm : Value} {PR : List (EntP × RowT)} {k : Nat} (h : FetOn w p Y M vf vo fr up vm PR k) (K : Keeps [] w w') : FetOn w' p Y M vf vo fr up vm PR k := by
 obtain ⟨v0, E, vl, vr, h1, h2, h3, h4, h5⟩ := h.ex
 exact ⟨⟨v0, E, vl, vr, K.at_ h1 (by simp), h2.keep K, h3, h4, h5.keep K⟩, h.le⟩
theorem fetStep_spec (w : World) (p Y : Nat) (M : MetaS) (vf vo : Value) (fr up : Int) (vm : Value) (PR : List (EntP × RowT)) (k : Nat) (b f c mb : Nat) (armed : Bool) (Q : List (Int × Bool)) (o : List (ByteArray × Ob)) (r : ByteArray × Int)
  (h : FetOn w p Y M vf vo fr up vm PR k) (hk : k < PR.length) (hPR : PR.length ≤ 50) (hX : ∀ W, Keeps [f, c, p] w W → XorVar W) (hb : BucketAt w b f c mb armed Q o) (hpb : p ≠ f ∧ p ≠ c ∧ p ≠ b ∧ p ≠ mb) (hY : b < Y ∧ f < Y ∧ c < Y ∧ mb < Y ∧ p < Y) (hYw : Y ≤ w.heap.size) (hid : M.id.size ≤ 1000)
  (hsz : ∀ x, look o (objectB M.id chunksB) = some x → x.1.size ≤ maxLen) (x : EntP × RowT) (hx : x = PR[k])
  (h1 : x.1.1 = x.2.1) (h2 : SmpsOk x.2.2) (h3 : 0 < x.2.2.length ∧ x.2.2.length ≤ 110) (h4 : 0 < x.2.1.length ∧ x.2.1.length ≤ 8) (h5 : x.1.2.1 ≤ 200000 ∧ x.1.2.2.1 ≤ 3000 ∧ x.1.2.2.1 = (chunkF x.2.2).length)
  (h6 : x.2.2[0]?.map (·.1) = some ((x.1.2.2.2.1 : Nat) : Int)) (h7 : x.2.2[x.2.2.length - 1]?.map (·.1) = some ((x.1.2.2.2.2 : Nat) : Int)) (hr : rangeVal Q o (objectB M.id chunksB) x.1.2.1 x.1.2.2.1 = r) (hrr : r.2 = 8 ∨ r.2 = 5 ∨ r = (⟨(chunkF x.2.2).toArray⟩, 0)) :
  Calls Tryz.prog 22 #[.pointer (some ⟨p, 0, none⟩), .pointer (some ⟨b, 0, none⟩)] w (StepOut w p Y M vf vo fr up vm PR k b f c mb Q o r.2) := by
 obtain ⟨v0, E, vl, vr, hp, hE, hm, hl, hT⟩ := h.ex
 have HOn := Lib.hid h
 have hEl : E.length = PR.length := by
  have := congrArg List.length hm
  simpa using this
 rcases hl with ⟨g, cv, rfl, hkn, hcv, rfl⟩ | ⟨hkn, a, cv, rfl⟩
 ·have hkE : k < E.length := by omega
  obtain ⟨b0, off, ea, hb0, d1, d2, d3, d4, d5⟩ := ent_at hE k hkE
  injection ea with ea
  injection ea with ea1 ea2 _
  subst ea1 ea2
  rw [Nat.zero_add] at d1 d2 d3 d4 d5
  have hin := hE.2 _ (List.getElem_mem hkE)
  have hEk : E[k].2 = x.1 := by
   have h8 : (E.map (·.2))[k]? = (PR.map (·.1))[k]? := by rw [hm]
   rw [List.getElem?_map, List.getElem?_map, List.getElem?_eq_getElem hkE, List.getElem?_eq_getElem hk] at h8
   rw [hx]
   exact Option.some.inj h8
  unfold EntIn at hin
  rw [hEk] at hin d2 d3 d4 d5
  generalize E[k].1 = xv at d1 hin
  obtain ⟨⟨P, fo, n, mn, mx⟩, P2, L⟩ := x
  dsimp only at h1 h2 h3 h4 h5 h6 h7 hr hrr hin d2 d3 d4 d5
  subst h1
  obtain ⟨xa, xc, rfl, -, -, -⟩ := row_slice hin
  obtain ⟨q, hq⟩ : ∃ q, q = w.heap.size := ⟨_, rfl⟩
  obtain ⟨W1, hW1⟩ : ∃ W1, W1 = w.alloc (.cells #[.slice xa P.length xc, .int .i64 (fo : Nat), .int .i64 (n : Nat), .int .i64 (mn : Nat), .int .i64 (mx : Nat)] 122) := ⟨_, rfl⟩
  have k1 : Keeps [] w W1 := by rw [hW1]; exact (Keeps.refl [] w).alloc _
  have nq : W1.heap[q]? = some (.cells #[.slice xa P.length xc, .int .i64 (fo : Nat), .int .i64 (n : Nat), .int .i64 (mn : Nat), .int .i64 (mx : Nat)] 122 (0, 0)) := by rw [hW1, hq]; exact heap_new w _
  have hbl := hb.lt
  have hpl := lt_of_at hp
  have hqb : q ≠ f ∧ q ≠ c ∧ q ≠ p := by omega
  obtain ⟨m, hm2⟩ : ∃ m, m = PR.length - k := ⟨_, rfl⟩
  rw [← hm2] at hp
  have hmz : ¬ (m : Int) = 0 := by omega
  have hmzb : ((m : Int) == 0) = false := by rw [beq_eq_false_iff_ne]; exact hmz
  have hm0 : (0 : Int) < (m : Int) := by omega
  have cp := cells_at hp
  have lp := hpl
  have H := Lib.hid (And.intro hp (And.intro hE (And.intro hm (And.intro hT (And.intro hX (And.intro hb (And.intro hpb (And.intro hY (And.intro hsz (And.intro hr hin))))))))))
  have HR := Lib.hid (And.intro hx (And.intro h2 (And.intro h3 (And.intro h4 (And.intro h5 (And.intro h6 (And.intro h7 (And.intro hm2 (And.intro hEk (And.intro hkn hcv))))))))))
  have H1 := Lib.hid (And.intro nq (And.intro k1 (And.intro (k1.at_ hp (by simp)) (And.intro (hb.keep k1 (by simp) (by simp) (by simp) (by simp)) hqb))))
  clear hE hm hT hX hb hpb hsz hr hx h2 h3 h4 h5 h6 h7 hp nq k1 hbl hqb hm2 hEk hEl hkn hcv hin h
  go_enter Tryz.func22, Tryz.ntmps22
  go_upto_region 6 with fail
  rw [← hq, ← hW1]
  clear hq hW1 cp lp d1 d2 d3 d4 d5 hb0
  obtain ⟨X0, hX0⟩ : ∃ X0, X0 = W1.drew := ⟨_, rfl⟩
  have kX : Keeps [] W1 X0 := by rw [hX0]; exact (Keeps.refl [] _).drew
  have nX := kX.at_ H1.out.1 (by simp)
  have pX := kX.at_ H1.out.2.2.1 (by simp)
  have e1 : X0.cell? ⟨p, 0, none⟩ = some (.string M.id) := by rw [cells_at pX]; rfl
  have e2 : X0.cell? ⟨q, 1, none⟩ = some (.int .i64 (fo : Nat)) := by rw [cells_at nX]; rfl
  have e3 : X0.cell? ⟨q, 2, none⟩ = some (.int .i64 (n : Nat)) := by rw [cells_at nX]; rfl
  have HX := Lib.hid (And.intro hX0 (And.intro kX (And.intro nX (And.intro pX (H1.out.2.2.2.1.keep kX (by simp) (by simp) (by simp) (by simp))))))
  clear hX0 kX nX pX
  refine wp_region_held_drew (S := fun w' => w'.cell? ⟨p, 0, none⟩ = some (.string M.id) ∧ w'.cell? ⟨q, 1, none⟩ = some (.int .i64 (fo : Nat)) ∧ w'.cell? ⟨q, 2, none⟩ = some (.int .i64 (n : Nat))) (by kernel_rfl) (by rw [← HX.out.1]; exact ⟨e1, e2, e3⟩) (fun hS => ?_)
  rw [← HX.out.1] at hS ⊢
  refine tk (v := ?_) 0 rfl ?_ ?_; rotate_left
  ·rintro _ ⟨s1, s2, s3⟩; go_simp; (try with_reducible rfl)
  simp only [Act.put, zz]
  refine tk (v := ?_) 1 rfl ?_ ?_; rotate_left
  ·rintro _ ⟨s1, s2, s3⟩; go_simp; (try with_reducible rfl)
  simp only [Act.put, zz]
  refine tk (v := ?_) 2 rfl ?_ ?_; rotate_left
  ·rintro _ ⟨s1, s2, s3⟩; go_simp; (try with_reducible rfl)
  simp only [Act.put, zz]
  refine tk (v := ?_) 3 rfl ?_ ?_; rotate_left
  ·rintro _ ⟨s1, s2, s3⟩; go_simp; (try with_reducible rfl)
  simp only [Act.put, zz]
  refine tk (v := ?_) 4 rfl ?_ ?_; rotate_left
  ·rintro _ ⟨s1, s2, s3⟩; go_simp; (try with_reducible rfl)
  simp only [Act.put, zz]
  refine tk (v := ?_) 5 rfl ?_ ?_; rotate_left
  ·rintro _ ⟨s1, s2, s3⟩; go_simp; (try with_reducible rfl)
  simp only [Act.put, zz]
  refine tk (v := ?_) 7 rfl ?_ ?_; rotate_left
  ·rintro _ ⟨s1, s2, s3⟩; go_simp; (try with_reducible rfl)
  simp only [Act.put, zz]
  refine tk (v := ?_) 8 rfl ?_ ?_; rotate_left
  ·rintro _ ⟨s1, s2, s3⟩; go_simp; (try with_reducible rfl)
  simp only [Act.put, zz]
  refine tk (v := ?_) 9 rfl ?_ ?_; rotate_left
  ·rintro _ ⟨s1, s2, s3⟩; go_simp; (try with_reducible rfl)
  simp only [Act.put, zz]
  refine tk (v := ?_) 10 rfl ?_ ?_; rotate_left
  ·rintro _ ⟨s1, s2, s3⟩; go_simp; (try with_reducible rfl)
  simp only [Act.put, zz]
  refine rd 6 rfl fun K hK => ?_
  go_simp
  go_at_call 41
  refine (object_spec X0 M.id chunksB (by omega) (by decide)).mono ?_
  rintro e w3 ⟨rfl, rfl⟩
  go_simp
  refine hK.out _ _ ⟨e1, e2, e3⟩ (fun hS => ?_)
  clear hK K
  try simp only [Act.put, zz]
  refine rd 11 rfl fun K hK => ?_
  go_simp
  go_at_call 46
  refine (range_spec X0 b f c mb armed Q o HX.out.2.2.2.2 (objectB M.id chunksB) fo n (by have := HR.out.2.2.2.2.1; omega) (by have := HR.out.2.2.2.2.1; omega) H.out.2.2.2.2.2.2.2.2.1).mono ?_
  rintro e w4 ⟨rfl, hb4, hk4⟩
  rw [H.out.2.2.2.2.2.2.2.2.2.1]
  have hXb : BucketAt X0 b f c mb armed Q o := HX.out.2.2.2.2
  have n4 := hk4.at_ HX.out.2.2.1 (by simp; exact ⟨H1.out.2.2.2.2.1, H1.out.2.2.2.2.2.1⟩)
  have p4 := hk4.at_ HX.out.2.2.2.1 (by simp; exact ⟨H.out.2.2.2.2.2.2.1.1, H.out.2.2.2.2.2.2.1.2.1⟩)
  have hk0X := H1.out.2.1.trans HX.out.2.1
  have hk04 : Keeps [f, c] w w4 := (hk0X.mono (by simp) : Keeps [f, c] w X0).trans hk4
  have hOn4 : FetOn w4 p Y M vf vo fr up vm PR k := (HOn.out.kp hk0X).bk hXb hk4 ⟨H.out.2.2.2.2.2.2.1.1, H.out.2.2.2.2.2.2.1.2.1⟩
  have hin4 := hk4.row (hk0X.row H.out.2.2.2.2.2.2.2.2.2.2 (by simp)) (bucket_row hXb (hk0X.row H.out.2.2.2.2.2.2.2.2.2.2 (by simp)) (by decide))
  have hE4 : EntrAt Y w4 _ E := (H.out.2.1.keep hk0X).bk hXb hk4
  have hT4 := (H.out.2.2.2.1.keep hk0X).bk hXb hk4
  have H4 := Lib.hid (And.intro hb4 (And.intro n4 (And.intro p4 (And.intro hk04 (And.intro hOn4 (And.intro hin4 (And.intro hE4 hT4)))))))
  have t1 : w4.cell? ⟨p, 0, none⟩ = some (.string M.id) := by rw [cells_at p4]; rfl
  have t2 : w4.cell? ⟨q, 1, none⟩ = some (.int .i64 (fo : Nat)) := by rw [cells_at n4]; rfl
  have t3 : w4.cell? ⟨q, 2, none⟩ = some (.int .i64 (n : Nat)) := by rw [cells_at n4]; rfl
  clear hb4 hk4 n4 p4 hk04 e1 e2 e3 hXb hk0X hOn4 hin4 hE4 hT4
  obtain ⟨rs, re⟩ := r
  dsimp only at hrr
  go_simp
  refine hK.out _ _ ⟨t1, t2, t3⟩ (fun hS => ?_)
  clear hK K
  try simp only [Act.put, zz]
  refine tk (v := ?_) 12 rfl ?_ ?_; rotate_left
  ·rintro _ ⟨s1, s2, s3⟩; go_simp; (try with_reducible rfl)
  simp only [Act.put, zz]
  refine tk (v := ?_) 13 rfl ?_ ?_; rotate_left
  ·rintro _ ⟨s1, s2, s3⟩; go_simp; (try with_reducible rfl)
  simp only [Act.put, zz]
  refine tk (v := ?_) 14 rfl ?_ ?_; rotate_left
  ·rintro _ ⟨s1, s2, s3⟩; go_simp; (try with_reducible rfl)
  simp only [Act.put, zz]
  refine rd 15 rfl fun K hK => ?_
  go_simp
  go_simp
  refine hK.out _ _ ⟨t1, t2, t3⟩ (fun hS => ?_)
  clear hK K
  try simp only [Act.put, zz]
  refine rd 16 rfl fun K hK => ?_
  go_simp
  go_simp
  refine hK.out _ _ ⟨t1, t2, t3⟩ (fun hS => ?_)
  clear hK K
  try simp only [Act.put, zz]
  refine wpAnyH_done (by kernel_rfl) ?_ _
  clear hS t1 t2 t3
  have hkS : ∃ S, (∀ x ∈ S, x = f ∨ x = c ∨ x = p ∨ Y ≤ x) ∧ Keeps S w w4 := ⟨[f, c], fun x hx => by simp at hx; rcases hx with h | h <;> simp [h], H4.out.2.2.2.1⟩
  have HkS := Lib.hid hkS
  clear hkS
  rcases hrr with rfl | rfl | hrr
  ·go_wp2_with fail
   refine (lost_spec w4 8 (.inl rfl)).mono ?_
   rintro e w5 ⟨rfl, rfl⟩
   rw [if_neg (by decide)]
   go_wp2_with fail
   go_ret
   exact ⟨H4.out.1, HkS.out, .inl ⟨rfl, rfl, H4.out.2.2.2.2.1⟩⟩
  ·go_wp2_with fail
   refine (lost_spec w4 5 (.inr rfl)).mono ?_
   rintro e w5 ⟨rfl, rfl⟩
   rw [if_pos rfl]
   go_wp2_with fail
   go_ret
   exact ⟨H4.out.1, HkS.out, .inr (.inl ⟨rfl, rfl, H4.out.2.2.2.2.1⟩)⟩
  ·injection hrr with e1 e2
   have He1 := Lib.hid e1
   clear e1
   subst e2
   have hXv := H.out.2.2.2.2.1 w4 (H4.out.2.2.2.1.mono (by simp : ∀ x ∈ [f, c], x ∈ [f, c, p]))
   have Hck := Lib.hid (chunksR_spec w4 hXv rs L (by rw [He1.out]) HR.out.2.1 ⟨HR.out.2.2.1.1, by have := HR.out.2.2.1.2; omega⟩)
   clear hXv
   go_wp2_with fail
   refine Hck.out.mono ?_
   rintro e w5 ⟨v5, rfl, hr5, hk5⟩
   obtain ⟨g5, c5, rfl⟩ := row_some hr5 HR.out.2.2.1.1
   have hnr : n = rs.size := by rw [HR.out.2.2.2.2.1.2.2, He1.out]; rfl
   subst hnr
   obtain ⟨ba, oa, ea, hba, da, -⟩ := smp_at hr5 0 HR.out.2.2.1.1
   injection ea with ea
   injection ea with ea1 ea2 _
   subst ea1 ea2
   obtain ⟨N1, hN1⟩ : ∃ N1, L.length = N1 + 1 := ⟨L.length - 1, by have := HR.out.2.2.1.1; omega⟩
   obtain ⟨bz, oz, ez, -, dz, -⟩ := smp_at hr5 N1 (by omega)
   injection ez with ez
   injection ez with ez1 ez2 _
   subst ez1 ez2
   have hL0 : L[0]'HR.out.2.2.1.1 = L[0]'HR.out.2.2.1.1 := rfl
   have em : (L[0]'HR.out.2.2.1.1).1 = (mn : Int) := by
    have := HR.out.2.2.2.2.2.1
    rw [List.getElem?_eq_getElem HR.out.2.2.1.1, Option.map_some] at this
    exact Option.some.inj this
   have ex : (L[N1]'(by omega)).1 = (mx : Int) := by
    have := HR.out.2.2.2.2.2.2.1
    rw [show L.length - 1 = N1 by omega, List.getElem?_eq_getElem (by omega), Option.map_some] at this
    exact Option.some.inj this
   rw [em, Nat.zero_add, Nat.zero_mul] at da
   rw [ex, Nat.zero_add] at dz
   have n5 := hk5.at_ H4.out.2.1 (by simp)
   have p5 := hk5.at_ H4.out.2.2.1 (by simp)
   have H5 := Lib.hid (And.intro n5 (And.intro p5 (And.intro (H4.out.1.keep hk5 (by simp) (by simp) (by simp) (by simp)) (And.intro hr5 (And.intro (hk5.row H4.out.2.2.2.2.2.1 (by simp)) (And.intro (H4.out.2.2.2.2.2.2.1.keep hk5) (And.intro (H4.out.2.2.2.2.2.2.2.keep hk5) (H4.out.2.2.2.1.trans (hk5.mono (by simp))))))))))
   obtain ⟨Ln, hLn⟩ : ∃ Ln, Ln = L.length := ⟨_, rfl⟩
   rw [← hLn] at hN1 ⊢
   have hlz : ¬ (Ln : Int) = 0 := by omega
   have hlzb : ((Ln : Int) == 0) = false := by rw [beq_eq_false_iff_ne]; exact hlz
   have hl0 : (0 : Int) < (Ln : Int) := by omega
   have hl1 : (Ln : Int) - 1 = (N1 : Int) := by omega
   have hl2 := IntWalk.i64_in (N1 : Int) (by have := HR.out.2.2.1.2; omega)
   have hl3 : (N1 : Int) < (Ln : Int) := by omega
   have HLn := Lib.hid hLn
   have cq := cells_at n5
   have lq := lt_of_at n5
   clear hr5 hk5 n5 p5 hN1 hLn hL0 em ex
   go_upto_region 12 with fail
   go_quiet (fail)
   obtain ⟨w6, hw6⟩ : ∃ w6, w6 = w5.drewN nq := ⟨_, rfl⟩
   rw [← hw6]
   have k6 : Keeps [] w5 w6 := by rw [hw6]; exact (Keeps.refl [] _).drewN _
   have n6 := k6.at_ H5.out.1 (by simp)
   have p6 := k6.at_ H5.out.2.1 (by simp)
   have H6 := Lib.hid (And.intro n6 (And.intro p6 (And.intro (H5.out.2.2.1.keep k6 (by simp) (by simp) (by simp) (by simp)) (And.intro (k6.row H5.out.2.2.2.1 (by simp)) (And.intro (k6.row H5.out.2.2.2.2.1 (by simp)) (And.intro (H5.out.2.2.2.2.2.1.keep k6) (And.intro (H5.out.2.2.2.2.2.2.1.keep k6) (H5.out.2.2.2.2.2.2.2.trans (k6.mono (by simp))))))))))
   clear hw6 k6 cq lq da dz hba hl1 hl2 hl3 n6
   have cp := cells_at p6
   have fp := free_at p6
   have lp := lt_of_at p6
   clear p6
   obtain ⟨cw, hcw⟩ : ∃ cw, cw = cv - k := ⟨_, rfl⟩
   rw [← hcw] at cp
   have hcm : m ≤ cw := by have := HR.out.2.2.2.2.2.2.2; omega
   have hcm1 : (1 : Int) ≤ (m : Int) := by omega
   go_upto_region 15 with fail
   rw [← hcw]
   have Hcw := Lib.hid (And.intro hcw hcm)
   clear hcw hcm hcm1
   obtain ⟨al, hal⟩ : ∃ al : Option Addr, al = (if cw = 1 then some ⟨g, k * 5, none⟩ else some ⟨g, k * 5 + 5, none⟩) := ⟨_, rfl⟩
   rw [← hal]
   obtain ⟨vl2, hvl2⟩ : ∃ vl2, vl2 = Value.slice al (m - 1) (cw - 1) := ⟨_, rfl⟩
   rw [← hvl2]
   have HL2 := Lib.hid (And.intro hal hvl2)
   clear hal hvl2
   have n7 : (w6.setCell ⟨p, 12, none⟩ vl2).heap[p]? = some (.cells #[.string M.id, .int .i64 (M.mn : Nat), .int .i64 (M.mx : Nat), .int .i64 (M.level : Nat), .int .i64 (M.series : Nat), .int .i64 (M.samples : Nat), vf, vo, .int .i64 fr, .int .i64 up, vm, .bool true, vl2, vr] 120 (0, 0)) := by
    have h1 := heap_cell_same (i := 12) H6.out.2.1 vl2
    simpa using h1
   have k7 : Keeps [p] w6 (w6.setCell ⟨p, 12, none⟩ vl2) := (Keeps.refl _ w6).setCell (.inl (by simp)) _
   generalize w6.setCell ⟨p, 12, none⟩ vl2 = w7 at n7 k7 ⊢
   have hpb := H.out.2.2.2.2.2.2.1
   have q7 := k7.at_ H6.out.1 (by simp; exact H1.out.2.2.2.2.2.2)
   obtain ⟨E7, hE71, hE72⟩ := H6.out.2.2.2.2.2.2.1
   have hE7k : w7.ownsRow Y 76 2 vr E7.length (E7.flatMap encRV) := k7.row hE71 (fun x hx hm => row_ne_type hE71 H6.out.2.1 (by decide) x hx (by simpa using hm))
   have H7 := Lib.hid (And.intro q7 (And.intro n7 (And.intro (H6.out.2.2.1.keep k7 (by simp; exact Ne.symm hpb.2.2.1) (by simp; exact Ne.symm hpb.1) (by simp; exact Ne.symm hpb.2.1) (by simp; exact Ne.symm hpb.2.2.2)) (And.intro (k7.row H6.out.2.2.2.1 (fun x hx hm => row_ne_type H6.out.2.2.2.1 H6.out.2.1 (by decide) x hx (by simpa using hm))) (And.intro (k7.row H6.out.2.2.2.2.1 (fun x hx hm => row_ne_type H6.out.2.2.2.2.1 H6.out.2.1 (by decide) x hx (by simpa using hm))) (And.intro (H6.out.2.2.2.2.2.1.pt H6.out.2.1 (by decide) (by decide) k7) (And.intro hE7k (And.intro (hE72.pt H6.out.2.1 (by decide) (by decide) k7) k7))))))))
   have hE7l : E7.length ≤ 50 := by have := hE72.1; rw [List.length_map, List.length_take] at this; omega
   obtain ⟨ar, cr, rfl, -, -, -⟩ := row_slice hE71
   clear cp fp lp n7 k7 hpb q7 hE71 hE72 hE7k
   obtain ⟨ir, hir, hy0, hy1, hy2⟩ := info_parts infoRowM
   obtain ⟨X7, hX7⟩ : ∃ X7, X7 = w7.drew := ⟨_, rfl⟩
   have kX7 : Keeps [] w7 X7 := by rw [hX7]; exact (Keeps.refl [] _).drew
   have nX7 := kX7.at_ H7.out.1 (by simp)
   have pX7 := kX7.at_ H7.out.2.1 (by simp)
   have s1 : X7.cell? ⟨p, 13, none⟩ = some (.slice ar E7.length cr) := by rw [cells_at pX7]; rfl
   have s2 : X7.cell? ⟨q, 0, none⟩ = some (.slice xa P.length xc) := by rw [cells_at nX7]; rfl
   have HX7 := Lib.hid (And.intro hX7 (And.intro kX7 (And.intro nX7 pX7)))
   clear hX7 kX7 nX7 pX7
   refine wp_region_last_n 13 (fun w' => w'.cell? ⟨p, 13, none⟩ = some (.slice ar E7.length cr) ∧ w'.cell? ⟨q, 0, none⟩ = some (.slice xa P.length xc)) (by kernel_rfl) (by kernel_rfl) (by kernel_rfl) ?_
   have hS : (fun w' : World => w'.cell? ⟨p, 13, none⟩ = some (.slice ar E7.length cr) ∧ w'.cell? ⟨q, 0, none⟩ = some (.slice xa P.length xc)) X7 := ⟨s1, s2⟩
   rw [← HX7.out.1]
   simp only [List.take_succ_cons, List.take_zero]
   refine tk (v := ?_) 0 rfl ?_ ?_; rotate_left
   ·rintro _ ⟨s1, s2⟩; go_simp; (try with_reducible rfl)
   simp only [Act.put, zz]
   refine tk (v := ?_) 1 rfl ?_ ?_; rotate_left
   ·rintro _ ⟨s1, s2⟩; go_simp; (try with_reducible rfl)
   simp only [Act.put, zz]
   refine tk (v := ?_) 2 rfl ?_ ?_; rotate_left
   ·rintro _ ⟨s1, s2⟩; go_simp; (try with_reducible rfl)
   simp only [Act.put, zz]
   refine tk (v := ?_) 3 rfl ?_ ?_; rotate_left
   ·rintro _ ⟨s1, s2⟩; go_simp; (try with_reducible rfl)
   simp only [Act.put, zz]
   refine tk (v := ?_) 4 rfl ?_ ?_; rotate_left
   ·rintro _ ⟨s1, s2⟩; go_simp; (try with_reducible rfl)
   simp only [Act.put, zz]
   refine tk (v := ?_) 5 rfl ?_ ?_; rotate_left
   ·rintro _ ⟨s1, s2⟩; go_simp; (try with_reducible rfl)
   simp only [Act.put, zz]
   refine tk (v := ?_) 6 rfl ?_ ?_; rotate_left
   ·rintro _ ⟨s1, s2⟩; go_simp; (try with_reducible rfl)
   simp only [Act.put, zz]
   refine tk (v := ?_) 7 rfl ?_ ?_; rotate_left
   ·rintro _ ⟨s1, s2⟩; go_simp; (try with_reducible rfl)
   simp only [Act.put, zz]
   refine tk (v := ?_) 8 rfl ?_ ?_; rotate_left
   ·rintro _ ⟨s1, s2⟩; go_simp; (try with_reducible rfl)
   simp only [Act.put, zz]
   refine rd 9 rfl fun K hK => ?_
   go_simp
   have kB : Keeps [] X7 (X7.alloc (.cells #[.slice xa P.length xc, .slice (some ⟨g5, 0, none⟩) Ln c5] 76)) := (Keeps.refl [] _).alloc _
   have nB := heap_new X7 (.cells #[.slice xa P.length xc, .slice (some ⟨g5, 0, none⟩) Ln c5] 76)
   generalize X7.alloc (.cells #[.slice xa P.length xc, .slice (some ⟨g5, 0, none⟩) Ln c5] 76) = B1 at kB nB ⊢
   have k7B := HX7.out.2.1.trans kB
   have hownB := k7B.row H7.out.2.2.2.2.2.2.1 (by simp)
   have nqB := k7B.at_ H7.out.1 (by simp)
   have npB := k7B.at_ H7.out.2.1 (by simp)
   have z1 : B1.cell? ⟨p, 13, none⟩ = some (.slice ar E7.length cr) := by rw [cells_at npB]; rfl
   have z2 : B1.cell? ⟨q, 0, none⟩ = some (.slice xa P.length xc) := by rw [cells_at nqB]; rfl
   have HB := Lib.hid (And.intro k7B (And.intro nB (And.intro hownB (And.intro nqB npB))))
   clear kB nB k7B hownB nqB npB
   refine hK.out _ _ ⟨z1, z2⟩ (fun hS => ?_)
   clear hK K
   try simp only [Act.put, zz]
   refine rd 10 rfl fun K hK => ?_
   refine step_append_own rfl (.tmp 99) (.tmp 104) 24 rfl Y 76 ir _ 2 48 Tryz.underlying24 hir hy0 hy1 hy2 rfl (by decide) (.slice ar E7.length cr) E7.length (E7.flatMap encRV) (by rfl) HB.out.2.2.1 ⟨X7.heap.size, 0, none⟩ 1 1 [.slice xa P.length xc, .slice (some ⟨g5, 0, none⟩) Ln c5] (by rfl) rfl (news_of HB.out.2.1) (by simp [Value.oneCell']) (by simp only [maxLen]; omega) (by omega) (by have a1 := H6.out.2.2.2.2.2.2.2.size; have a2 := H7.out.2.2.2.2.2.2.2.2.size; have a3 := HB.out.1.size; omega) ?_
   intro v8 w8 hown8 hgrow8
   have k8 := keeps_rowM hgrow8
   have hYB : ∀ x, (Value.slice ar E7.length cr).ownBlock = some x → Y ≤ x := fun x hx => (World.ownsRow.lt HB.out.2.2.1 x hx).1
   have p8 := k8.at_ HB.out.2.2.2.2 (fun hm => row_ne_type HB.out.2.2.1 HB.out.2.2.2.2 (by decide) p (by simpa using hm) rfl)
   have q8 := k8.at_ HB.out.2.2.2.1 (fun hm => row_ne_type HB.out.2.2.1 HB.out.2.2.2.1 (by decide) q (by simpa using hm) rfl)
   have hsm : B1.ownsRow 0 50 2 (.slice (some ⟨g5, 0, none⟩) Ln c5) L.length (L.flatMap encSm) := by
    rw [HLn.out]
    exact row_base (HB.out.1.row H7.out.2.2.2.1 (by simp)) (Nat.zero_le _)
   have hel := ((ElemsAt.keep H7.out.2.2.2.2.2.2.2.1 HB.out.1).snoc (r := (P, L)) (HB.out.1.row H7.out.2.2.2.2.1 (by simp)) hsm).grown HB.out.2.2.1 k8 (by decide) (by decide)
   have hE8 : EntrAt Y w8 (.slice (some ⟨g, 0, none⟩) PR.length cv) E := by
    have h1 := H7.out.2.2.2.2.2.1.keep HB.out.1
    exact ⟨k8.row h1.1 (rows_ne2 HB.out.2.2.1 h1.1 (by decide)), fun e he => k8.row (h1.2 e he) (rows_ne2 HB.out.2.2.1 (h1.2 e he) (by decide))⟩
   have hb8 : BucketAt w8 b f c mb (tryArmed Q) (tryQ Q) o := (H7.out.2.2.1.keep HB.out.1 (by simp) (by simp) (by simp) (by simp)).keep k8 (fun hm => by have := hYB b (by simpa using hm); omega) (fun hm => by have := hYB f (by simpa using hm); omega) (fun hm => by have := hYB c (by simpa using hm); omega) (fun hm => by have := hYB mb (by simpa using hm); omega)
   obtain ⟨a8, c8, hv8, -, -, -⟩ := row_slice hown8
   have H8 := Lib.hid (And.intro p8 (And.intro (rv_snoc hown8) (And.intro hel (And.intro hE8 (And.intro hb8 (And.intro k8 hYB))))))
   have y1 : w8.cell? ⟨p, 13, none⟩ = some (.slice ar E7.length cr) := by rw [cells_at p8]; rfl
   have y2 : w8.cell? ⟨q, 0, none⟩ = some (.slice xa P.length xc) := by rw [cells_at q8]; rfl
   have cp := cells_at p8
   have fp := free_at p8
   have lp := lt_of_at p8
   subst hv8
   clear hown8 hgrow8 k8 hYB p8 q8 hel hE8 hb8
   go_simp
   refine hK.out _ _ ⟨y1, y2⟩ (fun hS => ?_)
   clear hK K
   try simp only [Act.put, zz]
   refine tk (v := ?_) 11 rfl ?_ ?_; rotate_left
   ·rintro _ ⟨s1, s2⟩; go_simp; (try with_reducible rfl)
   simp only [Act.put, zz]
   refine tk (v := ?_) 12 rfl ?_ ?_; rotate_left
   ·rintro _ ⟨s1, s2⟩; go_simp; (try with_reducible rfl)
   simp only [Act.put, zz]
   refine wpAnyH_done (by kernel_rfl) ?_ _
   refine lastQ_step rfl (fun K hK => ?_)
   go_simp
   refine hK _ _ ?_
   clear hK K
   have n9 : (w8.setCell ⟨p, 13, none⟩ (.slice a8 (E7.length + 1) c8)).heap[p]? = some (.cells #[.string M.id, .int .i64 (M.mn : Nat), .int .i64 (M.mx : Nat), .int .i64 (M.level : Nat), .int .i64 (M.series : Nat), .int .i64 (M.samples : Nat), vf, vo, .int .i64 fr, .int .i64 up, vm, .bool true, vl2, .slice a8 (E7.length + 1) c8] 120 (0, 0)) := by
    have h1 := heap_cell_same (i := 13) H8.out.1 (.slice a8 (E7.length + 1) c8)
    simpa using h1
   have k9 : Keeps [p] w8 (w8.setCell ⟨p, 13, none⟩ (.slice a8 (E7.length + 1) c8)) := (Keeps.refl _ w8).setCell (.inl (by simp)) _
   generalize w8.setCell ⟨p, 13, none⟩ (.slice a8 (E7.length + 1) c8) = w9 at n9 k9 ⊢
   clear cp fp lp y1 y2 z1 z2 s1 s2
   go_wp2_with fail
   go_ret
   have hpb := H.out.2.2.2.2.2.2.1
   have hP8 := H8.out.1
   refine ⟨H8.out.2.2.2.2.1.keep k9 (by simp; exact Ne.symm hpb.2.2.1) (by simp; exact Ne.symm hpb.1) (by simp; exact Ne.symm hpb.2.1) (by simp; exact Ne.symm hpb.2.2.2), ?_, .inr (.inr ⟨rfl, rfl, ⟨⟨_, E, vl2, _, n9, H8.out.2.2.2.1.pt hP8 (by decide) (by decide) k9, H.out.2.2.1, ?_, ?_⟩, hk⟩⟩)⟩
   ·refine ⟨[f, c] ++ ([p] ++ ((Value.slice ar E7.length cr).ownBlock.toList ++ [p])), fun y hy => ?_, ?_⟩
    ·simp only [List.mem_append, List.mem_cons, List.not_mem_nil, or_false] at hy
     rcases hy with (hy | hy) | hy | hy | hy
     ·exact .inl hy
     ·exact .inr (.inl hy)
     ·exact .inr (.inr (.inl hy))
     ·exact .inr (.inr (.inr (H8.out.2.2.2.2.2.2 y (by simpa using hy))))
     ·exact .inr (.inr (.inl hy))
    ·refine (H6.out.2.2.2.2.2.2.2.mono (fun y hy => List.mem_append_left _ hy)).trans ((H7.out.2.2.2.2.2.2.2.2.mono (fun y hy => List.mem_append_right _ (List.mem_append_left _ hy))).trans ((HB.out.1.mono (by simp)).trans ((H8.out.2.2.2.2.2.1.mono (fun y hy => List.mem_append_right _ (List.mem_append_right _ (List.mem_append_left _ hy)))).trans (k9.mono (fun y hy => List.mem_append_right _ (List.mem_append_right _ (List.mem_append_right _ hy)))))))
   ·have hm2 := HR.out.2.2.2.2.2.2.2.1
    have hcv := HR.out.2.2.2.2.2.2.2.2.2.2
    have hcw := Hcw.out.1
    rw [HL2.out.2]
    by_cases hlast : k + 1 < PR.length
    ·refine .inl ⟨g, cv, rfl, hlast, hcv, ?_⟩
     rw [HL2.out.1, if_neg (by omega), show k * 5 + 5 = (k + 1) * 5 by omega, show m - 1 = PR.length - (k + 1) by omega, show cw - 1 = cv - (k + 1) by omega]
    ·exact .inr ⟨by omega, al, cw - 1, by rw [show m - 1 = 0 by omega]⟩
   ·have htk : (PR.take (k + 1)).map (·.2) = (PR.take k).map (·.2) ++ [(P, L)] := by
     rw [take_push hk, List.map_append, ← HR.out.1]
     rfl
    rw [htk]
    refine ⟨E7 ++ [(.slice xa P.length xc, .slice (some ⟨g5, 0, none⟩) Ln c5)], ?_, H8.out.2.2.1.pt hP8 (by decide) (by decide) k9⟩
    have h1 := H8.out.2.1
    have h2 := k9.row h1 (fun x hx hm => row_ne_type h1 hP8 (by decide) x hx (by simpa using hm))
    simpa using h2
 ·omega
end Go.Proofs.YtgcfkhcogllgfaaGreatDoor
