/-
  DiskFuses answers true for all faults and all calls, and leaves all memory that was there as it was.
  No condition: every input that can be read.
-/
import Derived.Test.YthcdodjdlgeeoaaFusesAct
import Derived.Deep.CutBlock
import Derived.Deep.CutRange
namespace Go.Proofs.Ythcdodjdlgeeoaa
open Go Go.RowKit Go.Conc Go.Deep

def encBo (b : Bool) : List Value := [.bool b]
/-- The blocks of the slice itself. -/
def rowOf (v : Value) : List Nat := v.ownBlock.toList

section
variable {w w4 w6 : World} {f c px po : Nat} {Q Q' : List (Int × Bool)} {v v6 u : Value} {o : Obj} {n : Int} {d : Bool}
theorem row_other {wx : World} {e : TypeId} {B size m : Nat} {xs : List Value} {vx : Value} (h : wx.ownsRow B e size vx m xs) {q : Nat} {ob : Obj} (hq : wx.heap[q]? = some ob) (ho : ∀ cs z, ob ≠ .cells cs e z) : q ∉ rowOf vx := by
  intro hm
  simp only [rowOf, Option.mem_toList] at hm
  obtain ⟨cs, z, hc⟩ := Go.Lib.ownsRow_kind h q hm
  rw [hq] at hc
  injection hc with hc
  exact ho _ _ hc
theorem fuses_mid (hpx : w4.heap[px]? = some (.cells #[v] 58 (0, 0)))
    (hrow : w4.ownsRow w.heap.size 72 2 v Q.length (Q.flatMap encFo)) (hgrow : (w4.drew.alloc o).grownBy w6 v.ownBlock) (hw : w.heap.size ≤ w4.heap.size) :
    w6.heap[px]? = some (.cells #[v] 58 (0, 0)) ∧ (∀ b i, b < w.heap.size → w6.cell? ⟨b, i, none⟩ = w4.cell? ⟨b, i, none⟩) ∧ Keeps (rowOf v) w4 w6 := by
  have hk : Keeps (rowOf v) w4 w6 := (((Keeps.refl _ w4).drew).alloc o).grown hgrow (fun q hq => .inl (by simp [rowOf, hq]))
  refine ⟨hk.at_ hpx (row_other hrow hpx (by intro cs z e; injection e with _ e; exact absurd e (by decide))), fun b i hb => hk.cell (by omega) ?_, hk⟩
  intro hm
  simp only [rowOf, Option.mem_toList] at hm
  have := (hrow.lt b hm).1
  omega
theorem fuses_arm (hpw : w.heap.size ≤ px) (hpx : w4.heap[px]? = some (.cells #[v] 58 (0, 0)))
    (hrow : w4.ownsRow w.heap.size 72 2 v Q.length (Q.flatMap encFo)) (hgrow : (w4.drew.alloc o).grownBy w6 v.ownBlock) (hk04 : Keeps [] w w4)
    (hq : FuseQ w4 f c false Q') (hpo : w4.heap[po]? = some (.cells #[u] 67 (0, 0)))
    (hown : w6.ownsRow w.heap.size 72 2 v6 (Q.length + 1) (Q.flatMap encFo ++ [.int .i64 n, .bool d])) :
    FuseQ (w6.setCell ⟨px, 0, none⟩ v6) f c false Q' ∧ (w6.setCell ⟨px, 0, none⟩ v6).heap[px]? = some (.cells #[v6] 58 (0, 0)) ∧ (w6.setCell ⟨px, 0, none⟩ v6).heap[po]? = some (.cells #[u] 67 (0, 0)) ∧
    (w6.setCell ⟨px, 0, none⟩ v6).ownsRow w.heap.size 72 2 v6 (Q ++ [(n, d)]).length ((Q ++ [(n, d)]).flatMap encFo) ∧ Keeps [] w (w6.setCell ⟨px, 0, none⟩ v6) := by
  obtain ⟨q6, _, hk6⟩ := fuses_mid hpx hrow hgrow hk04.size
  have hkw : Keeps [px] w6 (w6.setCell ⟨px, 0, none⟩ v6) := (Keeps.refl [px] w6).setCell (.inl (by simp)) _
  obtain ⟨now, wait, hf0, _⟩ := hq
  obtain ⟨s, r, hc0⟩ := hf0.chan
  have x1 : f ≠ px := ne_of_at hf0.cells hpx (by simp)
  have x2 : c ≠ px := ne_of_at hc0 hpx (by simp)
  have x3 : po ≠ px := ne_of_at hpo hpx (by simp)
  have y1 := row_other hrow hf0.cells (by intro cs z e; injection e with _ e; exact absurd e (by decide))
  have y2 := row_other hrow hc0 (by intro cs z e; injection e)
  have y3 := row_other hrow hpo (by intro cs z e; injection e with _ e; exact absurd e (by decide))
  refine ⟨(FuseQ.keep ⟨now, wait, hf0, ‹_›⟩ hk6 y1 y2).keep hkw (by simpa using x1) (by simpa using x2), heap_cell_same (i := 0) q6 v6, hkw.at_ (hk6.at_ hpo y3) (by simpa using x3), ?_, ?_⟩
  · have hne : v6.ownBlock ≠ some px := by
      intro e
      exact row_other hown q6 (by intro cs z e; injection e with _ e; exact absurd e (by decide)) (by simp [rowOf, e])
    have := ownsRow_setCell_other hown (a := ⟨px, 0, none⟩) hne v6
    simpa [encFo] using this
  · refine Keeps.setCell (hk04.after hk6 ?_) (.inr hpw) _
    intro q hm
    simp only [rowOf, Option.mem_toList] at hm
    exact .inr (hrow.lt q hm).1
end

theorem fuses_call {w wr w4 : World} {f c px po : Nat} {Q : List (Int × Bool)} {v u : Value} (hq : FuseQ wr f c false Q) (hpx : wr.heap[px]? = some (.cells #[v] 58 (0, 0))) (hpo : wr.heap[po]? = some (.cells #[u] 67 (0, 0)))
    (hrow : wr.ownsRow w.heap.size 72 2 v Q.length (Q.flatMap encFo)) (hk4 : Keeps [f, c] wr w4) :
    w4.heap[px]? = some (.cells #[v] 58 (0, 0)) ∧ w4.heap[po]? = some (.cells #[u] 67 (0, 0)) ∧ w4.ownsRow w.heap.size 72 2 v Q.length (Q.flatMap encFo) := by
  have nb : ∀ q cs t z, wr.heap[q]? = some (.cells cs t z) → t ≠ 109 → q ∉ [f, c] := by
    intro q cs t z hqq ht
    obtain ⟨now, wait, hf0, _⟩ := hq
    obtain ⟨s, r, hc0⟩ := hf0.chan
    have h1 : q ≠ f := ne_of_at hqq hf0.cells (by intro e; injection e with _ e; exact ht e)
    have h2 : q ≠ c := ne_of_at hqq hc0 (by intro e; injection e)
    simp [h1, h2]
  refine ⟨hk4.at_ hpx (nb _ _ _ _ hpx (by decide)), hk4.at_ hpo (nb _ _ _ _ hpo (by decide)), hk4.row hrow fun g hg => ?_⟩
  obtain ⟨cs, z, hh⟩ := Go.Lib.ownsRow_kind hrow g hg
  exact nb _ _ _ _ hh (by decide)

def FArmRel (w : World) (f c px po n : Nat) (u : Value) (gk : Nat) (i : Value) (wr : World) : Prop :=
  ∃ k Q v, k ≤ n ∧ k ≤ 20 ∧ gk = 20 - k ∧ i = .int .i64 k ∧ FuseQ wr f c false Q ∧ wr.heap[px]? = some (.cells #[v] 58 (0, 0)) ∧ wr.heap[po]? = some (.cells #[u] 67 (0, 0)) ∧
    wr.ownsRow w.heap.size 72 2 v Q.length (Q.flatMap encFo) ∧ Q.length = min k 16 ∧ Keeps [] w wr

theorem FuseQ.neCells {w : World} {f c : Nat} {armed : Bool} {Q : List (Int × Bool)} (h : FuseQ w f c armed Q) {q : Nat} {cs : Array Value} {t : TypeId} {z : Nat × Nat} (hq : w.heap[q]? = some (.cells cs t z)) (ht : t ≠ 109) : q ≠ f ∧ q ≠ c := by
  obtain ⟨now, wait, hf0, _⟩ := h
  obtain ⟨s, r, hc0⟩ := hf0.chan
  exact ⟨ne_of_at hq hf0.cells (by intro e; injection e with _ e; exact ht e), ne_of_at hq hc0 (by intro e; injection e)⟩
theorem FuseQ.noFault {w : World} {f c : Nat} {armed : Bool} {Q : List (Int × Bool)} (h : FuseQ w f c armed Q) {q : Nat} (hq : q = f ∨ q = c) (cs : Array Value) (fz : Nat × Nat) : w.heap[q]? ≠ some (.cells cs 72 fz) := by
  intro e
  obtain ⟨h1, h2⟩ := h.neCells e (by decide)
  rcases hq with rfl | rfl
  · exact h1 rfl
  · exact h2 rfl
theorem fuses_do {w wr w6 : World} {f c px po p : Nat} {armed : Bool} {Q : List (Int × Bool)} {s u i : Value} (hq : FuseQ wr f c armed Q) (hp : wr.heap[p]? = some (.cells #[i] 3 (0, 0))) (hpx : wr.heap[px]? = some (.cells #[s] 58 (0, 0))) (hpo : wr.heap[po]? = some (.cells #[u] 67 (0, 0)))
    (hfa : FArg wr s Q) (hk : Keeps [] w wr) (k6 : Keeps [wr.heap.size, f, c] (wr.alloc (.cells #[.bool false] 4)) w6) (hfw : w.heap.size ≤ f) (hcw : w.heap.size ≤ c) :
    w6.heap[p]? = some (.cells #[i] 3 (0, 0)) ∧ w6.heap[px]? = some (.cells #[s] 58 (0, 0)) ∧ w6.heap[po]? = some (.cells #[u] 67 (0, 0)) ∧ FArg w6 s Q ∧ Keeps [] w w6 := by
  have ka : Keeps [wr.heap.size, f, c] wr w6 := Keeps.trans (((Keeps.refl [] wr).alloc (Obj.cells #[.bool false] 4)).mono (by simp)) k6
  have at6 : ∀ (q : Nat) (cs : Array Value) (t : TypeId) (z : Nat × Nat), wr.heap[q]? = some (.cells cs t z) → t ≠ 109 → w6.heap[q]? = some (.cells cs t z) := by
    intro q cs t z h ht
    have h1 := lt_of_at h
    obtain ⟨h2, h3⟩ := hq.neCells h ht
    exact ka.at_ h (by simp; omega)
  have hwr := hk.size
  refine ⟨at6 _ _ _ _ hp (by decide), at6 _ _ _ _ hpx (by decide), at6 _ _ _ _ hpo (by decide), faults_keepS hfa ka ?_, hk.after ka (by simp; omega)⟩
  intro q hm cs fz
  simp only [List.mem_cons, List.not_mem_nil, or_false] at hm
  rcases hm with rfl | hm
  · simp
  · exact hq.noFault hm cs fz
theorem fuses_next {w w7 : World} {f c px po p pr : Nat} {armed : Bool} {Q : List (Int × Bool)} {s s' u i d : Value} (hq : FuseQ w7 f c armed Q) (hp : w7.heap[p]? = some (.cells #[i] 3 (0, 0))) (hpx : w7.heap[px]? = some (.cells #[s] 58 (0, 0))) (hpo : w7.heap[po]? = some (.cells #[u] 67 (0, 0)))
    (hpr : w7.heap[pr]? = some (.cells #[d] 4 (0, 0))) (hfa : FArg w7 s' Q) (hk : Keeps [] w w7) (hpw : w.heap.size ≤ px) :
    let W := (w7.setCell ⟨px, 0, none⟩ s').alloc (.cells #[s'] 58)
    FuseQ W f c armed Q ∧ W.heap[p]? = some (.cells #[i] 3 (0, 0)) ∧ W.heap[px]? = some (.cells #[s'] 58 (0, 0)) ∧ W.heap[po]? = some (.cells #[u] 67 (0, 0)) ∧ W.heap[pr]? = some (.cells #[d] 4 (0, 0)) ∧ FArg W s' Q ∧ Keeps [] w W := by
  intro W
  have k1 : Keeps [px] w7 (w7.setCell ⟨px, 0, none⟩ s') := (Keeps.refl [px] w7).setCell (.inl (by simp)) _
  have k0 : Keeps [] (w7.setCell ⟨px, 0, none⟩ s') W := (Keeps.refl [] _).alloc _
  obtain ⟨x1, x2⟩ := hq.neCells hpx (by decide)
  have y1 : p ≠ px := ne_of_at hp hpx (by intro e; injection e with _ e; exact absurd e (by decide))
  have y2 : po ≠ px := ne_of_at hpo hpx (by intro e; injection e with _ e; exact absurd e (by decide))
  have y3 : pr ≠ px := ne_of_at hpr hpx (by intro e; injection e with _ e; exact absurd e (by decide))
  have hpx0 := heap_cell_same (i := 0) hpx s'
  refine ⟨(hq.keep k1 (by simpa using Ne.symm x1) (by simpa using Ne.symm x2)).keep k0 (by simp) (by simp), k0.at_ (k1.at_ hp (by simpa using y1)) (by simp), k0.at_ hpx0 (by simp), k0.at_ (k1.at_ hpo (by simpa using y2)) (by simp), k0.at_ (k1.at_ hpr (by simpa using y3)) (by simp), (faults_keepS hfa k1 ?_).keep k0, (hk.setCell (.inr hpw) _).trans k0⟩
  intro q hm cs fz
  simp only [List.mem_singleton] at hm
  subst hm
  rw [hpx]
  intro e
  injection e with e
  injection e with _ e
  exact absurd e (by decide)

def FTryRel (w : World) (f c px po n : Nat) (u : Value) (gk : Nat) (i : Value) (wr : World) : Prop :=
  ∃ k Q armed s p, k ≤ n ∧ k ≤ 40 ∧ gk = 40 - k ∧ i = .pointer (some ⟨p, 0, none⟩) ∧ wr.heap[p]? = some (.cells #[.int .i64 k] 3 (0, 0)) ∧ w.heap.size ≤ p ∧ FuseQ wr f c armed Q ∧ wr.heap[px]? = some (.cells #[s] 58 (0, 0)) ∧ SlOk s ∧ FArg wr s Q ∧
    wr.heap[po]? = some (.cells #[u] 67 (0, 0)) ∧ Keeps [] w wr

set_option linter.unusedSimpArgs false in
set_option maxRecDepth 100000 in
set_option maxHeartbeats 1000000 in
theorem diskFuses_walk (w : World) (v : Value) (L : List ActD) (hs : SliceArg 6 encActD w v L) (hok : ∀ x ∈ L, okActD w x) (u : Value) (B : List Bool) (hsb : SliceArg 1 encBo w u B) :
    Calls Try.prog 8 #[v, u] w fun e w' => e = .returned (.bool true) ∧ Keeps [] w w' := by
  obtain ⟨al, cl, rfl, hl, hc⟩ := hs
  obtain ⟨ab, cb, rfl, hlb, hcb⟩ := hsb
  unfold maxLen at hl hlb
  have Hc := Lib.hid hc
  have Hok := Lib.hid hok
  have Hcb := Lib.hid hcb
  obtain ⟨ii, hii, hz0, hz1, hz2⟩ := info_parts infoFault
  clear hc hok hcb
  go_enter Try.func8, Try.ntmps8
  go_wp2_with fail
  have hk0 : Keeps [] w (w.alloc (.cells #[.slice ab B.length cb] 67)) := (Keeps.refl [] w).alloc _
  have po0 := heap_new w (.cells #[.slice ab B.length cb] 67)
  generalize w.alloc (.cells #[.slice ab B.length cb] 67) = W0 at hk0 po0 ⊢
  refine (awakeD_spec W0).mono ?_
  rintro e w1 ⟨rfl, hk1⟩
  go_wp2_with fail
  refine (newFuse_spec w1).mono ?_
  rintro e w2 ⟨rfl, hq2, hk2, -⟩
  have hk02 := (hk0.trans hk1).trans hk2
  have po2 := hk2.at_ (hk1.at_ po0 (by simp)) (by simp)
  have hw1 := (hk0.trans hk1).size
  have hfw : w.heap.size ≤ w1.heap.size + 1 := by omega
  generalize w1.heap.size + 1 = f at hq2 hfw ⊢
  generalize w1.heap.size = c at hq2 hw1 ⊢
  generalize w.heap.size = po at po2 ⊢
  clear po0 hk0 hk1 hk2
  go_wp2_with fail
  have hkx := hk02.alloc (.cells #[.slice none 0 0] 58)
  have hqx := hq2.keep ((Keeps.refl [] w2).alloc (.cells #[.slice none 0 0] 58)) (by simp) (by simp)
  have hpx := heap_new w2 (.cells #[.slice none 0 0] 58)
  have hpo := heap_old po2 (.cells #[.slice none 0 0] 58)
  have hpw : w.heap.size ≤ w2.heap.size := hk02.size
  generalize w2.heap.size = px at hpx hpw ⊢
  generalize w2.alloc (.cells #[.slice none 0 0] 58) = W3 at hkx hqx hpx hpo ⊢
  clear hk02 hq2 po2
  go_loopg [7] 20 (FArmRel w f c px po L.length (.slice ab B.length cb))
  case atStart => exact ⟨0, [], .slice none 0 0, Nat.zero_le _, by omega, rfl, rfl, hqx, hpx, hpo, ⟨rfl, .inl ⟨rfl, rfl⟩⟩, rfl, hkx⟩
  case round =>
    obtain ⟨k, Q, vx, hkl, hk20, hgk, rfl, hq, hpx, hpo, hrow, hQ, hk⟩ := hrel
    have Hg := Lib.hid hgk
    clear hgk hqx hkx
    have HQ := Lib.hid hQ
    have hQ16 : Q.length ≤ 16 := by omega
    clear hQ
    obtain ⟨ao, cap, rfl, _⟩ := row_slice hrow
    by_cases hlt : k < L.length ∧ k < 20
    · obtain ⟨hlt, hlt20⟩ := hlt
      obtain ⟨b1, o1, rfl, hb1, hc1⟩ := Hc.out k hlt
      have hokx := Hok.out L[k] (List.getElem_mem _)
      generalize hx : L[k] = x at hc1 hokx
      clear hx
      obtain ⟨⟨ok1, ok2⟩, ⟨ok3, ok4⟩, oka, okb, okc, okd⟩ := hokx
      clear okc okd
      have d1 : wr.cell? ⟨b1, o1 + k * 6 + 1, none⟩ = some (.int .i64 x.n) := by rw [hk.cell hb1 (by simp)]; rw [Nat.add_assoc]; simpa [encActD] using hc1 1 (by omega)
      have d4 : wr.cell? ⟨b1, o1 + k * 6 + 4, none⟩ = some (.bool x.done) := by rw [hk.cell hb1 (by simp)]; rw [Nat.add_assoc]; simpa [encActD] using hc1 4 (by omega)
      clear hc1
      have hlt' : (k : Int) < (L.length : Int) := by omega
      have hlt2 : (k : Int) < 20 := by omega
      have hwr := hk.size
      have lb1 : b1 < wr.heap.size := by omega
      have Hr0 := Lib.hid (And.intro hq (And.intro hpx (And.intro hpo (And.intro hrow hk))))
      clear hq hpx hpo hrow hk
      go_upto_region 8 with fail
      go_still_tail 11, (by kernel_rfl)
      repeat still_step
      (try refine wpStill_nil ?_)
      change wpList _ _ _ _ _ wr.drew
      go_wp2_with fail
      refine (arm_spec wr.drew f c false Q x.n x.done ok4 (Hr0.out.1.keep (Keeps.refl [] wr).drew (by simp) (by simp))).mono ?_
      rintro e w4 (⟨hfull, rfl, hf4, hk4⟩ | ⟨hfull, rfl, rfl⟩)
      · have hfull' : Q.length < 16 := by simpa using hfull
        obtain ⟨hpx4, hpo4, hrow4⟩ := fuses_call (w := w) (Hr0.out.1.keep (Keeps.refl [] wr).drew (by simp) (by simp)) Hr0.out.2.1 Hr0.out.2.2.1 Hr0.out.2.2.2.1 hk4
        have hk04 : Keeps [] w w4 := Hr0.out.2.2.2.2.drew.after hk4 (by simp; omega)
        have e0 := cells_at hpx4
        have e1 := (hk4.cell (w := wr.drew) (i := o1 + k * 6 + 1) lb1 (by simp; omega)).trans d1
        have e4 := (hk4.cell (w := wr.drew) (i := o1 + k * 6 + 4) lb1 (by simp; omega)).trans d4
        have Hr := Lib.hid hrow4
        have H4 := Lib.hid (And.intro hpx4 (And.intro hf4 (And.intro hpo4 hk04)))
        have hw4 := hk04.size
        have lb4 : b1 < w4.heap.size := by omega
        have lpx4 := lt_of_at hpx4
        clear hpx4 hpo4 hrow4 hk04 hk4 hf4 d1 d4
        go_wp2_with fail
        replace e0 : w4.cell? ⟨px, 0, none⟩ = some (.slice ao Q.length cap) := by rw [e0]; rfl
        refine wp_region_last_n 17 (fun w' => w'.cell? ⟨px, 0, none⟩ = some (.slice ao Q.length cap) ∧ w'.cell? ⟨b1, o1 + k * 6 + 1, none⟩ = some (.int .i64 x.n) ∧ w'.cell? ⟨b1, o1 + k * 6 + 4, none⟩ = some (.bool x.done)) (by kernel_rfl) (by kernel_rfl) (by kernel_rfl) ?_
        have hS : (fun w' => w'.cell? ⟨px, 0, none⟩ = some (.slice ao Q.length cap) ∧ w'.cell? ⟨b1, o1 + k * 6 + 1, none⟩ = some (.int .i64 x.n) ∧ w'.cell? ⟨b1, o1 + k * 6 + 4, none⟩ = some (.bool x.done)) w4.drew := ⟨e0, e1, e4⟩
        simp only [List.take_succ_cons, List.take_zero]
        refine wpAnyH_take (i := 0) (v := ?_) rfl (by kernel_rfl) (by kernel_rfl) (by kernel_rfl) (fun _ _ _ h => h) (Or.inl ⟨by rfl, ?_⟩) (by assumption) ?_
        rotate_left
        · intro w' hSw; obtain ⟨s1, s2, s3⟩ := hSw; go_simp; (try with_reducible rfl)
        try simp only [Act.put, List.getElem_toArray, List.getElem_cons_succ, List.getElem_cons_zero, List.setIfInBounds_toArray, List.set_cons_zero, List.set_cons_succ]
        refine wpAnyH_take (i := 1) (v := ?_) rfl (by kernel_rfl) (by kernel_rfl) (by kernel_rfl) (fun _ _ _ h => h) (Or.inl ⟨by rfl, ?_⟩) (by assumption) ?_
        rotate_left
        · intro w' hSw; obtain ⟨s1, s2, s3⟩ := hSw; go_simp; (try with_reducible rfl)
        try simp only [Act.put, List.getElem_toArray, List.getElem_cons_succ, List.getElem_cons_zero, List.setIfInBounds_toArray, List.set_cons_zero, List.set_cons_succ]
        refine wpAnyH_take (i := 2) (v := ?_) rfl (by kernel_rfl) (by kernel_rfl) (by kernel_rfl) (fun _ _ _ h => h) (Or.inl ⟨by rfl, ?_⟩) (by assumption) ?_
        rotate_left
        · intro w' hSw; obtain ⟨s1, s2, s3⟩ := hSw; go_simp; (try with_reducible rfl)
        try simp only [Act.put, List.getElem_toArray, List.getElem_cons_succ, List.getElem_cons_zero, List.setIfInBounds_toArray, List.set_cons_zero, List.set_cons_succ]
        refine wpAnyH_take (i := 3) (v := ?_) rfl (by kernel_rfl) (by kernel_rfl) (by kernel_rfl) (fun _ _ _ h => h) (Or.inl ⟨by rfl, ?_⟩) (by assumption) ?_
        rotate_left
        · intro w' hSw; obtain ⟨s1, s2, s3⟩ := hSw; go_simp; (try with_reducible rfl)
        try simp only [Act.put, List.getElem_toArray, List.getElem_cons_succ, List.getElem_cons_zero, List.setIfInBounds_toArray, List.set_cons_zero, List.set_cons_succ]
        refine wpAnyH_take (i := 4) (v := ?_) rfl (by kernel_rfl) (by kernel_rfl) (by kernel_rfl) (fun _ _ _ h => h) (Or.inl ⟨by rfl, ?_⟩) (by assumption) ?_
        rotate_left
        · intro w' hSw; obtain ⟨s1, s2, s3⟩ := hSw; go_simp; (try with_reducible rfl)
        try simp only [Act.put, List.getElem_toArray, List.getElem_cons_succ, List.getElem_cons_zero, List.setIfInBounds_toArray, List.set_cons_zero, List.set_cons_succ]
        refine wpAnyH_take (i := 5) (v := ?_) rfl (by kernel_rfl) (by kernel_rfl) (by kernel_rfl) (fun _ _ _ h => h) (Or.inl ⟨by rfl, ?_⟩) (by assumption) ?_
        rotate_left
        · intro w' hSw; obtain ⟨s1, s2, s3⟩ := hSw; go_simp; (try with_reducible rfl)
        try simp only [Act.put, List.getElem_toArray, List.getElem_cons_succ, List.getElem_cons_zero, List.setIfInBounds_toArray, List.set_cons_zero, List.set_cons_succ]
        refine wpAnyH_take (i := 6) (v := ?_) rfl (by kernel_rfl) (by kernel_rfl) (by kernel_rfl) (fun _ _ _ h => h) (Or.inl ⟨by rfl, ?_⟩) (by assumption) ?_
        rotate_left
        · intro w' hSw; obtain ⟨s1, s2, s3⟩ := hSw; go_simp; (try with_reducible rfl)
        try simp only [Act.put, List.getElem_toArray, List.getElem_cons_succ, List.getElem_cons_zero, List.setIfInBounds_toArray, List.set_cons_zero, List.set_cons_succ]
        refine wpAnyH_take (i := 7) (v := ?_) rfl (by kernel_rfl) (by kernel_rfl) (by kernel_rfl) (fun _ _ _ h => h) (Or.inl ⟨by rfl, ?_⟩) (by assumption) ?_
        rotate_left
        · intro w' hSw; obtain ⟨s1, s2, s3⟩ := hSw; go_simp; (try with_reducible rfl)
        try simp only [Act.put, List.getElem_toArray, List.getElem_cons_succ, List.getElem_cons_zero, List.setIfInBounds_toArray, List.set_cons_zero, List.set_cons_succ]
        refine wpAnyH_take (i := 8) (v := ?_) rfl (by kernel_rfl) (by kernel_rfl) (by kernel_rfl) (fun _ _ _ h => h) (Or.inl ⟨by rfl, ?_⟩) (by assumption) ?_
        rotate_left
        · intro w' hSw; obtain ⟨s1, s2, s3⟩ := hSw; go_simp; (try with_reducible rfl)
        try simp only [Act.put, List.getElem_toArray, List.getElem_cons_succ, List.getElem_cons_zero, List.setIfInBounds_toArray, List.set_cons_zero, List.set_cons_succ]
        refine wpAnyH_take (i := 9) (v := ?_) rfl (by kernel_rfl) (by kernel_rfl) (by kernel_rfl) (fun _ _ _ h => h) (Or.inl ⟨by rfl, ?_⟩) (by assumption) ?_
        rotate_left
        · intro w' hSw; obtain ⟨s1, s2, s3⟩ := hSw; go_simp; (try with_reducible rfl)
        try simp only [Act.put, List.getElem_toArray, List.getElem_cons_succ, List.getElem_cons_zero, List.setIfInBounds_toArray, List.set_cons_zero, List.set_cons_succ]
        refine wpAnyH_take (i := 10) (v := ?_) rfl (by kernel_rfl) (by kernel_rfl) (by kernel_rfl) (fun _ _ _ h => h) (Or.inl ⟨by rfl, ?_⟩) (by assumption) ?_
        rotate_left
        · intro w' hSw; obtain ⟨s1, s2, s3⟩ := hSw; go_simp; (try with_reducible rfl)
        try simp only [Act.put, List.getElem_toArray, List.getElem_cons_succ, List.getElem_cons_zero, List.setIfInBounds_toArray, List.set_cons_zero, List.set_cons_succ]
        refine wpAnyH_take (i := 11) (v := ?_) rfl (by kernel_rfl) (by kernel_rfl) (by kernel_rfl) (fun _ _ _ h => h) (Or.inl ⟨by rfl, ?_⟩) (by assumption) ?_
        rotate_left
        · intro w' hSw; obtain ⟨s1, s2, s3⟩ := hSw; go_simp; (try with_reducible rfl)
        try simp only [Act.put, List.getElem_toArray, List.getElem_cons_succ, List.getElem_cons_zero, List.setIfInBounds_toArray, List.set_cons_zero, List.set_cons_succ]
        refine wpAnyH_take (i := 12) (v := ?_) rfl (by kernel_rfl) (by kernel_rfl) (by kernel_rfl) (fun _ _ _ h => h) (Or.inl ⟨by rfl, ?_⟩) (by assumption) ?_
        rotate_left
        · intro w' hSw; obtain ⟨s1, s2, s3⟩ := hSw; go_simp; (try with_reducible rfl)
        try simp only [Act.put, List.getElem_toArray, List.getElem_cons_succ, List.getElem_cons_zero, List.setIfInBounds_toArray, List.set_cons_zero, List.set_cons_succ]
        refine wpAnyH_take (i := 13) (v := ?_) rfl (by kernel_rfl) (by kernel_rfl) (by kernel_rfl) (fun _ _ _ h => h) (Or.inl ⟨by rfl, ?_⟩) (by assumption) ?_
        rotate_left
        · intro w' hSw; obtain ⟨s1, s2, s3⟩ := hSw; go_simp; (try with_reducible rfl)
        try simp only [Act.put, List.getElem_toArray, List.getElem_cons_succ, List.getElem_cons_zero, List.setIfInBounds_toArray, List.set_cons_zero, List.set_cons_succ]
        refine wpAnyH_ready (rs := [14]) (by kernel_rfl) (by simp) ?_
        refine AllReadyH.cons rfl (fun K hK => ?_) AllReadyH.nil
        go_simp
        refine hK.out _ _ ⟨by go_keep, by go_keep, by go_keep⟩ (fun hS => ?_)
        clear hK K
        try simp only [Act.put, List.getElem_toArray, List.getElem_cons_succ, List.getElem_cons_zero, List.setIfInBounds_toArray, List.set_cons_zero, List.set_cons_succ]
        refine wpAnyH_ready (rs := [15]) (by kernel_rfl) (by simp) ?_
        refine AllReadyH.cons rfl (fun K hK => ?_) AllReadyH.nil
        refine step_append_own rfl (.tmp 45) (.tmp 58) 56 rfl w.heap.size 72 ii _ 2 16 Try.underlying56 hii hz0 hz1 hz2 rfl (by decide) (.slice ao Q.length cap) Q.length (Q.flatMap encFo) (by rfl) (Hr.out.alloc _) ⟨w4.heap.size, 0, none⟩ 1 1 [.int .i64 (max x.n 0), .bool x.done] (by rfl) rfl (news_of (heap_new w4.drew _)) (by simp [Value.oneCell']) (by simp only [maxLen]; omega) (by omega) (by simp; omega) ?_
        intro v6 w6 hown6 hgrow6
        obtain ⟨ao6, cp6, rfl, _⟩ := row_slice hown6
        obtain ⟨q6, m6, k6⟩ := fuses_mid H4.out.1 Hr.out hgrow6 H4.out.2.2.2.size
        have e0 : w6.cell? ⟨px, 0, none⟩ = some (.slice ao Q.length cap) := by rw [cells_at q6]; rfl
        replace e1 := (m6 b1 _ hb1).trans e1
        replace e4 := (m6 b1 _ hb1).trans e4
        refine hK.out _ _ ⟨e0, e1, e4⟩ (fun hS => ?_)
        clear hK K
        try simp only [Act.put, List.getElem_toArray, List.getElem_cons_succ, List.getElem_cons_zero, List.setIfInBounds_toArray, List.set_cons_zero, List.set_cons_succ]
        refine wpAnyH_take (i := 16) (v := ?_) rfl (by kernel_rfl) (by kernel_rfl) (by kernel_rfl) (fun _ _ _ h => h) (Or.inl ⟨by rfl, ?_⟩) (by assumption) ?_
        rotate_left
        · intro w' hSw; obtain ⟨s1, s2, s3⟩ := hSw; go_simp; (try with_reducible rfl)
        try simp only [Act.put, List.getElem_toArray, List.getElem_cons_succ, List.getElem_cons_zero, List.setIfInBounds_toArray, List.set_cons_zero, List.set_cons_succ]
        have f6 := free_at q6
        have l6 := lt_of_at q6
        have c6 := cells_at q6
        refine wpAnyH_done (by kernel_rfl) ?_ _
        refine lastQ_step rfl (fun K hK => ?_)
        go_simp
        refine hK _ _ ?_
        clear hK K
        have Hend := Lib.hid (fuses_arm hpw H4.out.1 Hr.out hgrow6 H4.out.2.2.2 H4.out.2.1 H4.out.2.2.1 hown6)
        clear hS e0 e1 e4 q6 m6 k6 f6 l6 c6 hgrow6 hown6
        generalize w6.setCell ⟨px, 0, none⟩ (.slice ao6 (Q.length + 1) cp6) = W7 at Hend ⊢
        go_wp2_with fail
        go_roundg (20 - (k + 1))
        case measure => have := Hg.out; omega
        case rel => exact ⟨k + 1, Q ++ [(max x.n 0, x.done)], _, by omega, by omega, rfl, by go_num, Hend.out.1, Hend.out.2.1, Hend.out.2.2.1, Hend.out.2.2.2.1, by have := HQ.out; simp; omega, Hend.out.2.2.2.2⟩
      · have hfull' : 16 ≤ Q.length := by simpa using hfull
        go_wp2_with fail
        go_roundg (20 - (k + 1))
        case measure => have := Hg.out; omega
        case rel => exact ⟨k + 1, Q, _, by omega, by omega, rfl, by go_num, Hr0.out.1.keep (Keeps.refl [] wr).drew (by simp) (by simp), Hr0.out.2.1, Hr0.out.2.2.1, Hr0.out.2.2.2.1, by have := HQ.out; omega, Hr0.out.2.2.2.2.drew⟩
    · have hmn : min (L.length : Int) 16 = (Q.length : Int) := by have := HQ.out; omega
      have c0 : wr.cell? ⟨px, 0, none⟩ = some (.slice ao Q.length cap) := by rw [cells_at hpx]; rfl
      have hrow' : FArg wr (.slice ao Q.length cap) Q := ⟨arg_of_row (fun _ => rfl) hrow, typed_row hrow⟩
      have hok' := slOk_row hrow
      have hl0 := heap_new wr (.cells #[.int .i64 0] 3)
      have hk1 := hk.alloc (.cells #[.int .i64 0] 3)
      have ka : Keeps [] wr (wr.alloc (.cells #[.int .i64 0] 3)) := (Keeps.refl [] wr).alloc _
      have hq1 := hq.keep ka (by simp) (by simp)
      have hpx1 := ka.at_ hpx (by simp)
      have hpo1 := ka.at_ hpo (by simp)
      have hf1 := hrow'.keep ka
      have hwr := hk.size
      have Ha := Lib.hid (And.intro hl0 (And.intro hk1 (And.intro hq1 (And.intro hpx1 (And.intro hpo1 (And.intro hf1 hok'))))))
      clear hl0 hk1 hq1 hpx1 hpo1 hf1 hok' hrow' hpx hpo hrow hk hq ka
      go_wp2_with fail
      all_goals
        go_loopg [8] 40 (FTryRel w f c px po B.length (.slice ab B.length cb))
        case atStart => exact ⟨0, Q, false, _, _, Nat.zero_le _, by omega, rfl, rfl, Ha.out.1, hwr, Ha.out.2.2.1, Ha.out.2.2.2.1, Ha.out.2.2.2.2.2.2, Ha.out.2.2.2.2.2.1, Ha.out.2.2.2.2.1, Ha.out.2.1⟩
        case round =>
          obtain ⟨k, Q, armed, s, p, hkl, hk40, hgk, rfl, hp, hpl, hq, hpx, hok, hfa, hpo, hk⟩ := hrel
          have Hg := Lib.hid hgk
          clear hgk Ha hmn c0
          have cp := cells_at hp
          have co := cells_at hpo
          by_cases hlt : k < B.length ∧ k < 40
          · obtain ⟨hlt, hlt40⟩ := hlt
            obtain ⟨b1, o1, rfl, hb1, hc1⟩ := Hcb.out k hlt
            have d0 : wr.cell? ⟨b1, o1 + k, none⟩ = some (.bool B[k]) := by rw [hk.cell hb1 (by simp)]; simpa [encBo] using hc1 0 (by omega)
            have d00 : w.cell? ⟨b1, o1 + k, none⟩ = some (.bool B[k]) := by simpa [encBo] using hc1 0 (by omega)
            generalize B[k] = x at d0 d00
            clear hc1
            have hlt' : (k : Int) < (B.length : Int) := by omega
            have hlt2 : (k : Int) < 40 := by omega
            have hwr := hk.size
            obtain ⟨hQ, hQk⟩ := hq.bounds
            obtain ⟨ao, nn, cap, rfl, hnc, hnil⟩ := hok
            have Hok := Lib.hid (show SlOk (.slice ao nn cap) from ⟨ao, nn, cap, rfl, hnc, hnil⟩)
            have hpr5 := heap_new wr (.cells #[.bool false] 4)
            have ka : Keeps [] wr (wr.alloc (.cells #[.bool false] 4)) := (Keeps.refl [] wr).alloc _
            have hdo := fusesDo _ f c armed Q (hq.keep ka (by simp) (by simp)) wr.heap.size po p b1 o1 k B.length cb x hlt hpr5 (ka.at_ hpo (by simp)) (ka.at_ hp (by simp)) ((ka.cell (by omega) (by simp)).trans d0) (by omega) (by omega) (by omega)
            have Hdo := Lib.hid hdo
            have H := Lib.hid (And.intro hq (And.intro hp (And.intro hpx (And.intro hpo (And.intro hfa hk)))))
            clear hdo hpr5 hq hp hpx hpo hfa hk ka hnc hnil
            go_wp2_with fail
            refine Hdo.out.mono ?_
            rintro e w6 ⟨rfl, hq6, hpr6, hk6⟩
            obtain ⟨hp6, hpx6, hpo6, hfa6, hk06⟩ := fuses_do H.out.1 H.out.2.1 H.out.2.2.1 H.out.2.2.2.1 H.out.2.2.2.2.1 H.out.2.2.2.2.2 hk6 hfw hw1
            have cx6 := cells_at hpx6
            have H6 := Lib.hid (And.intro hp6 (And.intro hpx6 (And.intro hpo6 (And.intro hfa6 (And.intro hk06 (And.intro hq6 hpr6))))))
            have hb6 := hk06.size
            clear hp6 hpx6 hpo6 hfa6 hk06 hk6 hq6 hpr6 Hdo d0 cp co
            have d6 : w6.cell? ⟨b1, o1 + k, none⟩ = some (.bool x) := (H6.out.2.2.2.2.1.cell hb1 (by simp)).trans d00
            go_wp2_with fail
            refine (refTry_spec w6 _ Q hQ hQk ⟨_, rfl, Hok.out, H6.out.2.2.2.1⟩).mono ?_
            rintro e w7 ⟨v7, rfl, ⟨s7, rfl, hok7, hfa7⟩, hk7⟩
            obtain ⟨ao7, n7, cap7, rfl, hnc7, hnil7⟩ := hok7
            have Hok7 := Lib.hid (show SlOk (.slice ao7 n7 cap7) from ⟨ao7, n7, cap7, rfl, hnc7, hnil7⟩)
            obtain ⟨r1, r2, r3, r4, r5, r6, r7⟩ := fuses_next (H6.out.2.2.2.2.2.1.keep hk7 (by simp) (by simp)) (hk7.at_ H6.out.1 (by simp)) (hk7.at_ H6.out.2.1 (by simp)) (hk7.at_ H6.out.2.2.1 (by simp)) (hk7.at_ H6.out.2.2.2.2.2.2 (by simp)) hfa7 (H6.out.2.2.2.2.1.trans hk7) hpw
            have q7 := hk7.at_ H6.out.2.1 (by simp)
            have cx7 := cells_at q7
            have fx7 := free_at q7
            have lx7 := lt_of_at q7
            have R := Lib.hid (And.intro r1 (And.intro r2 (And.intro r3 (And.intro r4 (And.intro r5 (And.intro r6 r7))))))
            clear r1 r2 r3 r4 r5 r6 r7 q7 hk7 hfa7 H6 cx6 d6 hnc7 hnil7
            go_upto_region 19 with fail
            generalize (w7.setCell ⟨px, 0, none⟩ (.slice ao7 n7 cap7)).alloc (.cells #[.slice ao7 n7 cap7] 58) = W9 at R ⊢
            clear cx7 fx7 lx7
            have cp9 := cells_at R.out.2.1
            have co9 := cells_at R.out.2.2.2.1
            have cr9 := cells_at R.out.2.2.2.2.1
            have d9 := (R.out.2.2.2.2.2.2.cell (i := o1 + k) hb1 (by simp)).trans d00
            have hn9 : Hid (∀ i : Int, FTryRel w f c px po B.length (.slice (some ⟨b1, o1, none⟩) B.length cb) (40 - (k + 1)) (.pointer (some ⟨W9.heap.size, 0, none⟩)) (W9.alloc (.cells #[.int .i64 i] 3)) ∨ i ≠ k + 1) := by
              apply Lib.hid
              intro i
              by_cases hi : i = k + 1
              · subst hi
                have kn : Keeps [] W9 (W9.alloc (.cells #[.int .i64 ((k : Int) + 1)] 3)) := (Keeps.refl [] W9).alloc _
                exact .inl ⟨k + 1, tryQ Q, tryArmed Q, _, _, by omega, by omega, rfl, rfl, by simpa using heap_new W9 (.cells #[.int .i64 ((k : Int) + 1)] 3), R.out.2.2.2.2.2.2.size, R.out.1.keep kn (by simp) (by simp), kn.at_ R.out.2.2.1 (by simp), Hok7.out, R.out.2.2.2.2.2.1.keep kn, kn.at_ R.out.2.2.2.1 (by simp), R.out.2.2.2.2.2.2.trans kn⟩
              · exact .inr hi
            have hwd := tryDone_of Q
            unfold wantOf
            generalize tryWorks Q = tw at hwd cr9 ⊢
            generalize tryDone Q = td at hwd cr9 ⊢
            clear R
            cases tw <;> cases td <;> cases x
            all_goals
              first
              | (exfalso; simp at hwd; done)
              | skip
            all_goals
              clear hwd
              go_wp2_with fail
              go_roundg (40 - (k + 1))
              case measure => have := Hg.out; omega
              case rel => exact (hn9.out _).resolve_right (by simp)
          · have H := Lib.hid (And.intro hq hk)
            clear hp hq hpx hok hfa hpo hk
            go_wp2_with fail
            all_goals
              refine (clear_spec wr f c armed Q H.out.1).mono ?_
              rintro e w5 ⟨rfl, hq5, hk5⟩
              go_wp2_with fail
              refine (try_spec w5 f c false [] hq5).mono ?_
              rintro e w6 ⟨rfl, hq6, hk6⟩
              have hk06 : Keeps [] w w6 := (H.out.2.after hk5 (by simp; omega)).after hk6 (by simp; omega)
              simp only [show tryWorks [] = true from rfl, show tryDone [] = true from rfl]
              clear hk5 hk6 hq5 hq6
              go_wp2_with fail
              go_ret
              exact ⟨rfl, hk06⟩

theorem diskFuses_law (W : World) (v : Value) (h : ∃ L : List ActD, SliceArg 6 encActD W v L ∧ ∀ x ∈ L, okActD W x) (u : Value) (hu : ∃ B : List Bool, SliceArg 1 (fun n => [Value.bool n]) W u B ∧ ∀ n ∈ B, True) :
    Calls Try.prog 8 #[v, u] W fun e w' => e = .returned (.bool true) ∧ Keeps [] W w' := by
  obtain ⟨L, h1, h2⟩ := h
  obtain ⟨B, h3, _⟩ := hu
  exact diskFuses_walk W v L h1 h2 u B h3

end Go.Proofs.Ythcdodjdlgeeoaa
