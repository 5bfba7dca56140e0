/-
  What is taken of any bytes as a meta (package meta, Take): where there is one that may be.
  The text has at most 1,000,000,000 bytes.

  The meta of any bytes (package meta, Decode): which one it is, or none.
  The text has at most 1,000,000 bytes.
-/
import Derived.Test.YtjffdcflkkgpfaaGreatMetaGen
import Derived.Test.YtjffdcflkkgpfaaGreatMetaTake
import Derived.Test.YtjffdcflkkgpfaaGreatListFind
namespace Go.Proofs.YtjffdcflkkgpfaaGreat
open Go Go.RowKit

theorem MetaRT.keep {B : Nat} {w w' : World} {vs : List Value} {m : MetaT} {S : List Nat} (h : MetaRT B w vs m) (k : Keeps S w w') (hS : ∀ x ∈ S, x < B) : MetaRT B w' vs m := by
  obtain ⟨vf, vo, e, h1, h2⟩ := h
  exact ⟨vf, vo, e, k.row h1 (fun g hg hm => by have := (World.ownsRow.lt h1 g hg).1; have := hS g hm; omega), k.row h2 (fun g hg hm => by have := (World.ownsRow.lt h2 g hg).1; have := hS g hm; omega)⟩

theorem MetaRT.same {B : Nat} {w w' : World} {vs : List Value} {m : MetaT} (h : MetaRT B w vs m) (k : Keeps [] w w') : MetaRT B w' vs m := h.keep k (by simp)

theorem MetaRT.low {B B' : Nat} {w : World} {vs : List Value} {m : MetaT} (h : MetaRT B w vs m) (hB : B' ≤ B) : MetaRT B' w vs m := by
  obtain ⟨vf, vo, e, h1, h2⟩ := h
  exact ⟨vf, vo, e, row_base h1 hB, row_base h2 hB⟩

def TakeTPost (w : World) (m : MetaT) (l : List UInt8) (e : Ending) (w' : World) : Prop :=
  ∃ vs, e = .returned (.tuple #[.agg vs.toArray, .string ⟨l.toArray⟩, .int .i64 0]) ∧ MetaRT w.heap.size w' vs m ∧ Keeps [] w w'

set_option linter.unusedSimpArgs false in
set_option maxRecDepth 100000 in
set_option maxHeartbeats 4000000 in
theorem takeYes_spec (w : World) (s : ByteArray) (m : MetaT) (l : List UInt8) (hf : fieldsT (s.data.toList, 0) = (m, (l, 0))) (hok : okT m = true) (hz : s.size ≤ 1000000000) :
    Calls Tryz.prog 78 #[.string s] w (TakeTPost w m l) := by
  have Hok := Lib.hid (show chkV m = 0 from by unfold chkV; rw [hok]; rfl)
  have hl : s.data.toList.length ≤ 1000000000 := by rw [dsize]; exact hz
  have Hl := Lib.hid hl
  obtain ⟨rb, hrb⟩ : ∃ n, n = w.heap.size := ⟨_, rfl⟩
  obtain ⟨q, hq⟩ : ∃ n, n = w.heap.size + 1 := ⟨_, rfl⟩
  have n0 := new2 w (.cells #[.string ⟨#[]⟩, .int .i64 0, .int .i64 0, .int .i64 0, .int .i64 0, .int .i64 0, .slice none 0 0, .slice none 0 0] 63) (.cells #[.string s, .int .i64 0] 161)
  have k0 : Keeps [] w ((w.alloc (.cells #[.string ⟨#[]⟩, .int .i64 0, .int .i64 0, .int .i64 0, .int .i64 0, .int .i64 0, .slice none 0 0, .slice none 0 0] 63)).alloc (.cells #[.string s, .int .i64 0] 161)) := ((Keeps.refl [] w).alloc _).alloc _
  have hsz : ((w.alloc (.cells #[.string ⟨#[]⟩, .int .i64 0, .int .i64 0, .int .i64 0, .int .i64 0, .int .i64 0, .slice none 0 0, .slice none 0 0] 63)).alloc (.cells #[.string s, .int .i64 0] 161)).heap.size = w.heap.size + 2 := by simp
  have hse : s = ⟨s.data.toList.toArray⟩ := ba_ext rfl
  have ht0 : TakerAt ((w.alloc (.cells #[.string ⟨#[]⟩, .int .i64 0, .int .i64 0, .int .i64 0, .int .i64 0, .int .i64 0, .slice none 0 0, .slice none 0 0] 63)).alloc (.cells #[.string s, .int .i64 0] 161)) (w.heap.size + 1) (s.data.toList, 0) := n0.2
  have hw0 : w.heap.size ≤ rb ∧ w.heap.size ≤ q ∧ rb ≠ q ∧ rb < w.heap.size + 2 ∧ q < w.heap.size + 2 := by omega
  have HB := Lib.hid (And.intro hrb hq)
  have H0 := Lib.hid (And.intro ht0 (And.intro n0.1 (And.intro k0 hsz)))
  clear hrb hq n0 k0 hsz ht0 hse hl hok
  go_enter Tryz.func78, Tryz.ntmps78
  go_wp2_with fail
  rw [← HB.out.2] at H0 ⊢
  rw [← HB.out.1] at H0 ⊢
  generalize (w.alloc (.cells #[.string ⟨#[]⟩, .int .i64 0, .int .i64 0, .int .i64 0, .int .i64 0, .int .i64 0, .slice none 0 0, .slice none 0 0] 63)).alloc (.cells #[.string s, .int .i64 0] 161) = W at H0 ⊢
  refine (takeG_spec W q (s.data.toList, 0) H0.out.1 Hl.out).mono ?_
  rintro e w1 ⟨vs, rfl, hm1, hq1, hk1⟩
  rw [hf] at hm1 hq1
  dsimp only at hm1 hq1
  clear hf
  have hvs := hm1
  obtain ⟨vf, vo, rfl, hsf, hso⟩ := hvs
  obtain ⟨af, cf, rfl, -, -, -⟩ := row_slice hsf
  obtain ⟨ao, co, rfl, -, -, -⟩ := row_slice hso
  clear hsf hso
  have hWq : q < W.heap.size ∧ rb < W.heap.size := by have := H0.out.2.2.2; omega
  have hbz : w.heap.size ≤ W.heap.size := H0.out.2.2.1.size
  have k1w : Keeps [] w w1 := H0.out.2.2.1.after hk1 (fun x hx => .inr (by simp only [List.mem_singleton] at hx; omega))
  have nr1 := hk1.at_ H0.out.2.1 (by simp; omega)
  have nq1 : w1.heap[q]? = some (.cells #[.string ⟨l.toArray⟩, .int .i64 0] 161 (0, 0)) := hq1
  have hm1' := hm1
  have ka : Keeps [] w1 (w1.alloc (.cells #[.string ⟨m.id.toArray⟩, .int .i64 m.mn, .int .i64 m.mx, .int .i64 m.level, .int .i64 m.series, .int .i64 m.samples, .slice af m.files.length cf, .slice ao m.sources.length co] 63)) := (Keeps.refl [] w1).alloc _
  have na := heap_new w1 (.cells #[.string ⟨m.id.toArray⟩, .int .i64 m.mn, .int .i64 m.mx, .int .i64 m.level, .int .i64 m.series, .int .i64 m.samples, .slice af m.files.length cf, .slice ao m.sources.length co] 63)
  have hlr := lt_of_at nr1
  have hlq := lt_of_at nq1
  have H1 := Lib.hid (And.intro (hm1'.same ka) (And.intro (ka.at_ nr1 (by simp)) (And.intro (ka.at_ nq1 (by simp)) (And.intro na (k1w.trans ka)))))
  obtain ⟨tb, htb⟩ : ∃ n, n = w1.heap.size := ⟨_, rfl⟩
  have htn : tb ≠ rb ∧ tb ≠ q ∧ w.heap.size ≤ tb := by have := k1w.size; omega
  have Htb := Lib.hid htb
  clear hm1 hq1 hk1 nr1 nq1 ka na k1w hm1' htb
  have cq := cells_at H1.out.2.2.1
  have lq := lt_of_at H1.out.2.2.1
  go_upto_region 4 with fail
  rw [← Htb.out] at H1 ⊢
  generalize w1.alloc (.cells #[.string ⟨m.id.toArray⟩, .int .i64 m.mn, .int .i64 m.mx, .int .i64 m.level, .int .i64 m.series, .int .i64 m.samples, .slice af m.files.length cf, .slice ao m.sources.length co] 63) = W2 at H1 cq lq ⊢
  have ct := cells_at H1.out.2.2.2.1
  have lt := lt_of_at H1.out.2.2.2.1
  go_wp2_with fail
  refine (metaCheckG_spec W.heap.size _ _ m H1.out.1).mono ?_
  rintro e w3 ⟨rfl, hk3⟩
  rw [Hok.out]
  have nq3 := hk3.at_ H1.out.2.2.1 (by simp)
  have cq3 := cells_at nq3
  have fq3 := free_at nq3
  have lq3 := lt_of_at nq3
  have nq4 : (w3.setCell ⟨q, 1, none⟩ (.int .i64 0)).heap[q]? = some (.cells #[.string ⟨l.toArray⟩, .int .i64 0] 161 (0, 0)) := (heap_cell_same (i := 1) nq3 _).trans (by simp)
  have k34 : Keeps [q] w3 (w3.setCell ⟨q, 1, none⟩ (.int .i64 0)) := (Keeps.refl [q] w3).setCell (.inl (by simp)) _
  have kd : Keeps [] w3 w3 := Keeps.refl _ _
  have k4w := ((H1.out.2.2.2.2.trans hk3).after k34 (fun x hx => .inr (by simp only [List.mem_singleton] at hx; omega)) : Keeps [] w _)
  have H3 := Lib.hid (And.intro nq4 (And.intro (k34.at_ (hk3.at_ H1.out.2.1 (by simp)) (by simp; omega)) (And.intro (k34.at_ (hk3.at_ H1.out.2.2.2.1 (by simp)) (by simp; omega)) (And.intro ((H1.out.1.same hk3).keep k34 (S := [q]) (by simp only [List.mem_singleton]; rintro x rfl; exact hWq.1)) k4w))))
  clear nq3 nq4 k34 hk3 kd k4w
  go_upto_region 7 with fail
  clear cq3 fq3 lq3 ct lt cq lq
  generalize w3.setCell ⟨q, 1, none⟩ (.int .i64 0) = W5 at H3 ⊢
  obtain ⟨ls, hls⟩ : ∃ s : ByteArray, s = ⟨l.toArray⟩ := ⟨_, rfl⟩
  rw [← hls] at H3
  have Hls := Lib.hid hls
  clear hls
  have c5 := cells_at H3.out.2.2.1
  have g5 := cells_at H3.out.1
  have l5 := lt_of_at H3.out.2.2.1
  have l5q := lt_of_at H3.out.1
  have d0 : W5.cell? ⟨tb, 0, none⟩ = some (.string ⟨m.id.toArray⟩) := by rw [c5]; rfl
  have d1 : W5.cell? ⟨tb, 1, none⟩ = some (.int .i64 m.mn) := by rw [c5]; rfl
  have d2 : W5.cell? ⟨tb, 2, none⟩ = some (.int .i64 m.mx) := by rw [c5]; rfl
  have d3 : W5.cell? ⟨tb, 3, none⟩ = some (.int .i64 m.level) := by rw [c5]; rfl
  have d4 : W5.cell? ⟨tb, 4, none⟩ = some (.int .i64 m.series) := by rw [c5]; rfl
  have d5 : W5.cell? ⟨tb, 5, none⟩ = some (.int .i64 m.samples) := by rw [c5]; rfl
  have d6 : W5.cell? ⟨tb, 6, none⟩ = some (.slice af m.files.length cf) := by rw [c5]; rfl
  have d7 : W5.cell? ⟨tb, 7, none⟩ = some (.slice ao m.sources.length co) := by rw [c5]; rfl
  have d8 : W5.cell? ⟨q, 0, none⟩ = some (.string ls) := by rw [g5]; rfl
  refine wp_region_held_drew (S := fun w' => w'.cell? ⟨tb, 0, none⟩ = some (.string ⟨m.id.toArray⟩) ∧ w'.cell? ⟨tb, 1, none⟩ = some (.int .i64 m.mn) ∧ w'.cell? ⟨tb, 2, none⟩ = some (.int .i64 m.mx) ∧ w'.cell? ⟨tb, 3, none⟩ = some (.int .i64 m.level) ∧ w'.cell? ⟨tb, 4, none⟩ = some (.int .i64 m.series) ∧ w'.cell? ⟨tb, 5, none⟩ = some (.int .i64 m.samples) ∧ w'.cell? ⟨tb, 6, none⟩ = some (.slice af m.files.length cf) ∧ w'.cell? ⟨tb, 7, none⟩ = some (.slice ao m.sources.length co) ∧ w'.cell? ⟨q, 0, none⟩ = some (.string ls)) (by kernel_rfl) ⟨d0, d1, d2, d3, d4, d5, d6, d7, d8⟩ (fun hS => ?_)
  refine wpAnyH_take (i := 0) (v := ?_) rfl (by kernel_rfl) (by kernel_rfl) (by kernel_rfl) (fun _ _ _ h => h) (Or.inl ⟨by rfl, ?_⟩) (by assumption) ?_
  rotate_left
  · intro w' hSw; obtain ⟨s1, s2, s3, s4, s5, s6, s7, s8, s9⟩ := hSw; go_simp; (try with_reducible rfl)
  simp only [Act.put, List.getElem_toArray, List.getElem_cons_succ, List.getElem_cons_zero, List.setIfInBounds_toArray, List.set_cons_zero, List.set_cons_succ]
  refine wpAnyH_take (i := 1) (v := ?_) rfl (by kernel_rfl) (by kernel_rfl) (by kernel_rfl) (fun _ _ _ h => h) (Or.inl ⟨by rfl, ?_⟩) (by assumption) ?_
  rotate_left
  · intro w' hSw; obtain ⟨s1, s2, s3, s4, s5, s6, s7, s8, s9⟩ := hSw; go_simp; (try with_reducible rfl)
  simp only [Act.put, List.getElem_toArray, List.getElem_cons_succ, List.getElem_cons_zero, List.setIfInBounds_toArray, List.set_cons_zero, List.set_cons_succ]
  refine wpAnyH_take (i := 2) (v := ?_) rfl (by kernel_rfl) (by kernel_rfl) (by kernel_rfl) (fun _ _ _ h => h) (Or.inl ⟨by rfl, ?_⟩) (by assumption) ?_
  rotate_left
  · intro w' hSw; obtain ⟨s1, s2, s3, s4, s5, s6, s7, s8, s9⟩ := hSw; go_simp; (try with_reducible rfl)
  simp only [Act.put, List.getElem_toArray, List.getElem_cons_succ, List.getElem_cons_zero, List.setIfInBounds_toArray, List.set_cons_zero, List.set_cons_succ]
  refine wpAnyH_take (i := 3) (v := ?_) rfl (by kernel_rfl) (by kernel_rfl) (by kernel_rfl) (fun _ _ _ h => h) (Or.inl ⟨by rfl, ?_⟩) (by assumption) ?_
  rotate_left
  · intro w' hSw; obtain ⟨s1, s2, s3, s4, s5, s6, s7, s8, s9⟩ := hSw; go_simp; (try with_reducible rfl)
  simp only [Act.put, List.getElem_toArray, List.getElem_cons_succ, List.getElem_cons_zero, List.setIfInBounds_toArray, List.set_cons_zero, List.set_cons_succ]
  refine wpAnyH_take (i := 4) (v := ?_) rfl (by kernel_rfl) (by kernel_rfl) (by kernel_rfl) (fun _ _ _ h => h) (Or.inl ⟨by rfl, ?_⟩) (by assumption) ?_
  rotate_left
  · intro w' hSw; obtain ⟨s1, s2, s3, s4, s5, s6, s7, s8, s9⟩ := hSw; go_simp; (try with_reducible rfl)
  simp only [Act.put, List.getElem_toArray, List.getElem_cons_succ, List.getElem_cons_zero, List.setIfInBounds_toArray, List.set_cons_zero, List.set_cons_succ]
  have se := set8 (v0 := .string ⟨m.id.toArray⟩) (v1 := .int .i64 m.mn) (v2 := .int .i64 m.mx) (v3 := .int .i64 m.level) (v4 := .int .i64 m.series) (v5 := .int .i64 m.samples) (v6 := .slice af m.files.length cf) (v7 := .slice ao m.sources.length co) H3.out.2.1
  have hch : ((((((((W5.setCell ⟨rb, 0, none⟩ (.string ⟨m.id.toArray⟩)).setCell ⟨rb, 1, none⟩ (.int .i64 m.mn)).setCell ⟨rb, 2, none⟩ (.int .i64 m.mx)).setCell ⟨rb, 3, none⟩ (.int .i64 m.level)).setCell ⟨rb, 4, none⟩ (.int .i64 m.series)).setCell ⟨rb, 5, none⟩ (.int .i64 m.samples)).setCell ⟨rb, 6, none⟩ (.slice af m.files.length cf)).setCell ⟨rb, 7, none⟩ (.slice ao m.sources.length co)).drew.heap[rb]? = some (.cells #[.string ⟨m.id.toArray⟩, .int .i64 m.mn, .int .i64 m.mx, .int .i64 m.level, .int .i64 m.series, .int .i64 m.samples, .slice af m.files.length cf, .slice ao m.sources.length co] 63 (0, 0)) := (drew_heapM _ _).trans se.1
  have HE := Lib.hid (And.intro (And.intro hch se.2.drew) (And.intro H3.out.2.2.2.1 H3.out.2.2.2.2))
  have cr5 := cells_at H3.out.2.1
  have fr5 := free_at H3.out.2.1
  have lr5 := lt_of_at H3.out.2.1
  clear se hch
  refine wpAnyH_ready (rs := [5]) (by kernel_rfl) (by simp) ?_
  refine AllReadyH.cons rfl (fun K hK => ?_) AllReadyH.nil
  go_simp
  generalize ((((((((W5.setCell ⟨rb, 0, none⟩ (.string ⟨m.id.toArray⟩)).setCell ⟨rb, 1, none⟩ (.int .i64 m.mn)).setCell ⟨rb, 2, none⟩ (.int .i64 m.mx)).setCell ⟨rb, 3, none⟩ (.int .i64 m.level)).setCell ⟨rb, 4, none⟩ (.int .i64 m.series)).setCell ⟨rb, 5, none⟩ (.int .i64 m.samples)).setCell ⟨rb, 6, none⟩ (.slice af m.files.length cf)).setCell ⟨rb, 7, none⟩ (.slice ao m.sources.length co)).drew = W6 at HE ⊢
  have tcell : ∀ i, W6.cell? ⟨tb, i, none⟩ = W5.cell? ⟨tb, i, none⟩ := fun i => HE.out.1.2.cell l5 (by simp; omega)
  have qcell : W6.cell? ⟨q, 0, none⟩ = W5.cell? ⟨q, 0, none⟩ := HE.out.1.2.cell l5q (by simp; omega)
  have x0 := (tcell 0).trans d0
  have x1 := (tcell 1).trans d1
  have x2 := (tcell 2).trans d2
  have x3 := (tcell 3).trans d3
  have x4 := (tcell 4).trans d4
  have x5 := (tcell 5).trans d5
  have x6 := (tcell 6).trans d6
  have x7 := (tcell 7).trans d7
  have x8 := qcell.trans d8
  refine hK.out _ _ ⟨x0, x1, x2, x3, x4, x5, x6, x7, x8⟩ (fun hS => ?_)
  clear hK K
  try simp only [Act.put, List.getElem_toArray, List.getElem_cons_succ, List.getElem_cons_zero, List.setIfInBounds_toArray, List.set_cons_zero, List.set_cons_succ]
  refine wpAnyH_ready (rs := [6]) (by kernel_rfl) (by simp) ?_
  refine AllReadyH.cons rfl (fun K hK => ?_) AllReadyH.nil
  go_simp
  refine hK.out _ _ ⟨x0, x1, x2, x3, x4, x5, x6, x7, x8⟩ (fun hS => ?_)
  clear hK K
  try simp only [Act.put, List.getElem_toArray, List.getElem_cons_succ, List.getElem_cons_zero, List.setIfInBounds_toArray, List.set_cons_zero, List.set_cons_succ]
  refine wpAnyH_ready (rs := [7]) (by kernel_rfl) (by simp) ?_
  refine AllReadyH.cons rfl (fun K hK => ?_) AllReadyH.nil
  go_simp
  refine hK.out _ _ ⟨x0, x1, x2, x3, x4, x5, x6, x7, x8⟩ (fun hS => ?_)
  clear hK K
  refine wpAnyH_done (by kernel_rfl) ?_ _
  clear hS x0 x1 x2 x3 x4 x5 x6 x7 x8 d0 d1 d2 d3 d4 d5 d6 d7 d8 c5 g5 cr5 fr5 lr5
  have hc := cells_at HE.out.1.1
  have hlr6 := lt_of_at HE.out.1.1
  go_wp2_with fail
  refine bodyPost_ret (v := .tuple #[.agg #[.string ⟨m.id.toArray⟩, .int .i64 m.mn, .int .i64 m.mx, .int .i64 m.level, .int .i64 m.series, .int .i64 m.samples, .slice af m.files.length cf, .slice ao m.sources.length co], .string ls, .int .i64 0]) ?_ rfl ⟨[.string ⟨m.id.toArray⟩, .int .i64 m.mn, .int .i64 m.mx, .int .i64 m.level, .int .i64 m.series, .int .i64 m.samples, .slice af m.files.length cf, .slice ao m.sources.length co], by rw [Hls.out], ?_, ?_⟩
  · simp [results, Tryz.results78, go_sem, hc, hlr6]
  · exact (HE.out.2.1.keep HE.out.1.2 (by simp only [List.mem_singleton]; rintro x rfl; exact hWq.2)).low hbz
  · exact HE.out.2.2.after HE.out.1.2 (fun x hx => .inr (by simp only [List.mem_singleton] at hx; omega))


set_option linter.unusedSimpArgs false in
set_option maxRecDepth 100000 in
set_option maxHeartbeats 4000000 in
theorem takeNo_spec (w : World) (s : ByteArray) (m : MetaT) (l : List UInt8) (er : Int) (hf : fieldsT (s.data.toList, 0) = (m, (l, er))) (hno : er ≠ 0 ∨ okT m = false) (hz : s.size ≤ 1000000000) :
    Calls Tryz.prog 78 #[.string s] w fun e w' => ∃ c : Int, c ≠ 0 ∧ e = .returned (.tuple #[.agg #[.string ⟨#[]⟩, .int .i64 0, .int .i64 0, .int .i64 0, .int .i64 0, .int .i64 0, .slice none 0 0, .slice none 0 0], .string ⟨#[]⟩, .int .i64 c]) ∧ Keeps [] w w' := by
  have hl : s.data.toList.length ≤ 1000000000 := by rw [dsize]; exact hz
  have Hl := Lib.hid hl
  obtain ⟨rb, hrb⟩ : ∃ n, n = w.heap.size := ⟨_, rfl⟩
  obtain ⟨q, hq⟩ : ∃ n, n = w.heap.size + 1 := ⟨_, rfl⟩
  have n0 := new2 w (.cells #[.string ⟨#[]⟩, .int .i64 0, .int .i64 0, .int .i64 0, .int .i64 0, .int .i64 0, .slice none 0 0, .slice none 0 0] 63) (.cells #[.string s, .int .i64 0] 161)
  have k0 : Keeps [] w ((w.alloc (.cells #[.string ⟨#[]⟩, .int .i64 0, .int .i64 0, .int .i64 0, .int .i64 0, .int .i64 0, .slice none 0 0, .slice none 0 0] 63)).alloc (.cells #[.string s, .int .i64 0] 161)) := ((Keeps.refl [] w).alloc _).alloc _
  have hsz : ((w.alloc (.cells #[.string ⟨#[]⟩, .int .i64 0, .int .i64 0, .int .i64 0, .int .i64 0, .int .i64 0, .slice none 0 0, .slice none 0 0] 63)).alloc (.cells #[.string s, .int .i64 0] 161)).heap.size = w.heap.size + 2 := by simp
  have ht0 : TakerAt ((w.alloc (.cells #[.string ⟨#[]⟩, .int .i64 0, .int .i64 0, .int .i64 0, .int .i64 0, .int .i64 0, .slice none 0 0, .slice none 0 0] 63)).alloc (.cells #[.string s, .int .i64 0] 161)) (w.heap.size + 1) (s.data.toList, 0) := n0.2
  have hw0 : w.heap.size ≤ rb ∧ w.heap.size ≤ q ∧ rb ≠ q ∧ rb < w.heap.size + 2 ∧ q < w.heap.size + 2 := by omega
  have HB := Lib.hid (And.intro hrb hq)
  have H0 := Lib.hid (And.intro ht0 (And.intro n0.1 (And.intro k0 hsz)))
  have Hno := Lib.hid hno
  clear hrb hq n0 k0 hsz ht0 hl hno
  go_enter Tryz.func78, Tryz.ntmps78
  go_wp2_with fail
  rw [← HB.out.2] at H0 ⊢
  rw [← HB.out.1] at H0 ⊢
  generalize (w.alloc (.cells #[.string ⟨#[]⟩, .int .i64 0, .int .i64 0, .int .i64 0, .int .i64 0, .int .i64 0, .slice none 0 0, .slice none 0 0] 63)).alloc (.cells #[.string s, .int .i64 0] 161) = W at H0 ⊢
  refine (takeG_spec W q (s.data.toList, 0) H0.out.1 Hl.out).mono ?_
  rintro e w1 ⟨vs, rfl, hm1, hq1, hk1⟩
  rw [hf] at hm1 hq1
  dsimp only at hm1 hq1
  clear hf
  have hvs := hm1
  obtain ⟨vf, vo, rfl, hsf, hso⟩ := hvs
  obtain ⟨af, cf, rfl, -, -, -⟩ := row_slice hsf
  obtain ⟨ao, co, rfl, -, -, -⟩ := row_slice hso
  clear hsf hso
  have hWq : q < W.heap.size ∧ rb < W.heap.size := by have := H0.out.2.2.2; omega
  have hbz : w.heap.size ≤ W.heap.size := H0.out.2.2.1.size
  have k1w : Keeps [] w w1 := H0.out.2.2.1.after hk1 (fun x hx => .inr (by simp only [List.mem_singleton] at hx; omega))
  have nr1 := hk1.at_ H0.out.2.1 (by simp; omega)
  have nq1 : w1.heap[q]? = some (.cells #[.string ⟨l.toArray⟩, .int .i64 er] 161 (0, 0)) := hq1
  have ka : Keeps [] w1 (w1.alloc (.cells #[.string ⟨m.id.toArray⟩, .int .i64 m.mn, .int .i64 m.mx, .int .i64 m.level, .int .i64 m.series, .int .i64 m.samples, .slice af m.files.length cf, .slice ao m.sources.length co] 63)) := (Keeps.refl [] w1).alloc _
  have na := heap_new w1 (.cells #[.string ⟨m.id.toArray⟩, .int .i64 m.mn, .int .i64 m.mx, .int .i64 m.level, .int .i64 m.series, .int .i64 m.samples, .slice af m.files.length cf, .slice ao m.sources.length co] 63)
  obtain ⟨lb, hlb⟩ : ∃ b : ByteArray, b = ⟨l.toArray⟩ := ⟨_, rfl⟩
  rw [← hlb] at nq1
  have H1 := Lib.hid (And.intro (hm1.same ka) (And.intro (ka.at_ nr1 (by simp)) (And.intro (ka.at_ nq1 (by simp)) (And.intro na (k1w.trans ka)))))
  obtain ⟨tb, htb⟩ : ∃ n, n = w1.heap.size := ⟨_, rfl⟩
  have Htb := Lib.hid htb
  clear hm1 hq1 hk1 nr1 nq1 ka na k1w htb hlb
  -- the end: the error is handed back, with nothing
  have hend : ∀ (wq : World) (c : Int), wq.heap[q]? = some (.cells #[.string lb, .int .i64 c] 161 (0, 0)) → wq.heap[rb]? = some (.cells #[.string ⟨#[]⟩, .int .i64 0, .int .i64 0, .int .i64 0, .int .i64 0, .int .i64 0, .slice none 0 0, .slice none 0 0] 63 (0, 0)) → Keeps [] w wq → True := fun _ _ _ _ _ => trivial
  clear hend
  by_cases he : er = 0
  · subst he
    have hok : okT m = false := Hno.out.resolve_left (fun h => h rfl)
    have Hc := Lib.hid (chkV_no hok)
    clear hok
    have cq := cells_at H1.out.2.2.1
    have lq := lt_of_at H1.out.2.2.1
    go_upto_region 4 with fail
    rw [← Htb.out] at H1 ⊢
    generalize w1.alloc (.cells #[.string ⟨m.id.toArray⟩, .int .i64 m.mn, .int .i64 m.mx, .int .i64 m.level, .int .i64 m.series, .int .i64 m.samples, .slice af m.files.length cf, .slice ao m.sources.length co] 63) = W2 at H1 cq lq ⊢
    have ct := cells_at H1.out.2.2.2.1
    have lt := lt_of_at H1.out.2.2.2.1
    go_wp2_with fail
    refine (metaCheckG_spec W.heap.size _ _ m H1.out.1).mono ?_
    rintro e w3 ⟨rfl, hk3⟩
    rw [Hc.out]
    have nq3 := hk3.at_ H1.out.2.2.1 (by simp)
    have cq3 := cells_at nq3
    have fq3 := free_at nq3
    have lq3 := lt_of_at nq3
    have nq4 : (w3.setCell ⟨q, 1, none⟩ (.int .i64 3)).heap[q]? = some (.cells #[.string lb, .int .i64 3] 161 (0, 0)) := (heap_cell_same (i := 1) nq3 _).trans (by simp)
    have k34 : Keeps [q] w3 (w3.setCell ⟨q, 1, none⟩ (.int .i64 3)) := (Keeps.refl [q] w3).setCell (.inl (by simp)) _
    have k4w := ((H1.out.2.2.2.2.trans hk3).after k34 (fun x hx => .inr (by simp only [List.mem_singleton] at hx; omega)) : Keeps [] w _)
    have H3 := Lib.hid (And.intro nq4 (And.intro (k34.at_ (hk3.at_ H1.out.2.1 (by simp)) (by simp; omega)) k4w))
    clear nq3 nq4 k34 hk3 k4w
    go_upto_region 6 with fail
    clear cq3 fq3 lq3 ct lt cq lq
    generalize w3.setCell ⟨q, 1, none⟩ (.int .i64 3) = W5 at H3 ⊢
    have g5 := cells_at H3.out.1
    have l5 := lt_of_at H3.out.1
    have cr5 := cells_at H3.out.2.1
    have fr5 := free_at H3.out.2.1
    have lr5 := lt_of_at H3.out.2.1
    have d0 : W5.cell? ⟨q, 1, none⟩ = some (.int .i64 3) := by rw [g5]; rfl
    have hqr : q ≠ rb := fun h => hw0.2.2.1 h.symm
    refine wp_region_held_drew (S := fun w' => w'.cell? ⟨q, 1, none⟩ = some (.int .i64 3) ∧ w'.cell? ⟨q, 1, none⟩ = some (.int .i64 3)) (by kernel_rfl) ⟨d0, d0⟩ (fun hS => ?_)
    refine wpAnyH_take (i := 0) (v := ?_) rfl (by kernel_rfl) (by kernel_rfl) (by kernel_rfl) (fun _ _ _ h => h) (Or.inl ⟨by rfl, ?_⟩) (by assumption) ?_
    rotate_left
    · intro w' hSw; obtain ⟨s1, s2⟩ := hSw; go_simp; (try with_reducible rfl)
    simp only [Act.put, List.getElem_toArray, List.getElem_cons_succ, List.getElem_cons_zero, List.setIfInBounds_toArray, List.set_cons_zero, List.set_cons_succ]
    refine wpAnyH_take (i := 1) (v := ?_) rfl (by kernel_rfl) (by kernel_rfl) (by kernel_rfl) (fun _ _ _ h => h) (Or.inl ⟨by rfl, ?_⟩) (by assumption) ?_
    rotate_left
    · intro w' hSw; obtain ⟨s1, s2⟩ := hSw; go_simp; (try with_reducible rfl)
    simp only [Act.put, List.getElem_toArray, List.getElem_cons_succ, List.getElem_cons_zero, List.setIfInBounds_toArray, List.set_cons_zero, List.set_cons_succ]
    refine wpAnyH_take (i := 2) (v := ?_) rfl (by kernel_rfl) (by kernel_rfl) (by kernel_rfl) (fun _ _ _ h => h) (Or.inl ⟨by rfl, ?_⟩) (by assumption) ?_
    rotate_left
    · intro w' hSw; obtain ⟨s1, s2⟩ := hSw; go_simp; (try with_reducible rfl)
    simp only [Act.put, List.getElem_toArray, List.getElem_cons_succ, List.getElem_cons_zero, List.setIfInBounds_toArray, List.set_cons_zero, List.set_cons_succ]
    refine wpAnyH_take (i := 3) (v := ?_) rfl (by kernel_rfl) (by kernel_rfl) (by kernel_rfl) (fun _ _ _ h => h) (Or.inl ⟨by rfl, ?_⟩) (by assumption) ?_
    rotate_left
    · intro w' hSw; obtain ⟨s1, s2⟩ := hSw; go_simp; (try with_reducible rfl)
    simp only [Act.put, List.getElem_toArray, List.getElem_cons_succ, List.getElem_cons_zero, List.setIfInBounds_toArray, List.set_cons_zero, List.set_cons_succ]
    refine wpAnyH_take (i := 4) (v := ?_) rfl (by kernel_rfl) (by kernel_rfl) (by kernel_rfl) (fun _ _ _ h => h) (Or.inl ⟨by rfl, ?_⟩) (by assumption) ?_
    rotate_left
    · intro w' hSw; obtain ⟨s1, s2⟩ := hSw; go_simp; (try with_reducible rfl)
    simp only [Act.put, List.getElem_toArray, List.getElem_cons_succ, List.getElem_cons_zero, List.setIfInBounds_toArray, List.set_cons_zero, List.set_cons_succ]
    have se := set8 (v0 := .string ⟨#[]⟩) (v1 := .int .i64 0) (v2 := .int .i64 0) (v3 := .int .i64 0) (v4 := .int .i64 0) (v5 := .int .i64 0) (v6 := .slice none 0 0) (v7 := .slice none 0 0) H3.out.2.1
    have hch : ((((((((W5.setCell ⟨rb, 0, none⟩ (.string ⟨#[]⟩)).setCell ⟨rb, 1, none⟩ (.int .i64 0)).setCell ⟨rb, 2, none⟩ (.int .i64 0)).setCell ⟨rb, 3, none⟩ (.int .i64 0)).setCell ⟨rb, 4, none⟩ (.int .i64 0)).setCell ⟨rb, 5, none⟩ (.int .i64 0)).setCell ⟨rb, 6, none⟩ (.slice none 0 0)).setCell ⟨rb, 7, none⟩ (.slice none 0 0)).drew.heap[rb]? = some (.cells #[.string ⟨#[]⟩, .int .i64 0, .int .i64 0, .int .i64 0, .int .i64 0, .int .i64 0, .slice none 0 0, .slice none 0 0] 63 (0, 0)) := (drew_heapM _ _).trans se.1
    have HE := Lib.hid (And.intro (And.intro hch se.2.drew) H3.out.2.2)
    clear se hch
    refine wpAnyH_ready (rs := [5]) (by kernel_rfl) (by simp) ?_
    refine AllReadyH.cons rfl (fun K hK => ?_) AllReadyH.nil
    go_simp
    generalize ((((((((W5.setCell ⟨rb, 0, none⟩ (.string ⟨#[]⟩)).setCell ⟨rb, 1, none⟩ (.int .i64 0)).setCell ⟨rb, 2, none⟩ (.int .i64 0)).setCell ⟨rb, 3, none⟩ (.int .i64 0)).setCell ⟨rb, 4, none⟩ (.int .i64 0)).setCell ⟨rb, 5, none⟩ (.int .i64 0)).setCell ⟨rb, 6, none⟩ (.slice none 0 0)).setCell ⟨rb, 7, none⟩ (.slice none 0 0)).drew = W6 at HE ⊢
    have x0 : W6.cell? ⟨q, 1, none⟩ = some (.int .i64 3) := (HE.out.1.2.cell l5 (by simp; omega)).trans d0
    refine hK.out _ _ ⟨x0, x0⟩ (fun hS => ?_)
    clear hK K
    try simp only [Act.put, List.getElem_toArray, List.getElem_cons_succ, List.getElem_cons_zero, List.setIfInBounds_toArray, List.set_cons_zero, List.set_cons_succ]
    refine wpAnyH_ready (rs := [6]) (by kernel_rfl) (by simp) ?_
    refine AllReadyH.cons rfl (fun K hK => ?_) AllReadyH.nil
    go_simp
    refine hK.out _ _ ⟨x0, x0⟩ (fun hS => ?_)
    clear hK K
    try simp only [Act.put, List.getElem_toArray, List.getElem_cons_succ, List.getElem_cons_zero, List.setIfInBounds_toArray, List.set_cons_zero, List.set_cons_succ]
    refine wpAnyH_ready (rs := [7]) (by kernel_rfl) (by simp) ?_
    refine AllReadyH.cons rfl (fun K hK => ?_) AllReadyH.nil
    go_simp
    refine hK.out _ _ ⟨x0, x0⟩ (fun hS => ?_)
    clear hK K
    refine wpAnyH_done (by kernel_rfl) ?_ _
    clear hS x0 d0 g5 cr5 fr5 lr5
    have hc := cells_at HE.out.1.1
    have hlr6 := lt_of_at HE.out.1.1
    go_wp2_with fail
    refine bodyPost_ret (v := .tuple #[.agg #[.string ⟨#[]⟩, .int .i64 0, .int .i64 0, .int .i64 0, .int .i64 0, .int .i64 0, .slice none 0 0, .slice none 0 0], .string ⟨#[]⟩, .int .i64 3]) ?_ rfl ⟨3, by decide, rfl, ?_⟩
    · simp [results, Tryz.results78, go_sem, hc, hlr6]
    · exact HE.out.2.after HE.out.1.2 (fun x hx => .inr (by simp only [List.mem_singleton] at hx; omega))
  · have he3 : (er == 0) = false := by simp [he]
    have he4 : (er != 0) = true := by simp [he]
    have He := Lib.hid he
    have cq := cells_at H1.out.2.2.1
    have lq := lt_of_at H1.out.2.2.1
    clear he
    go_upto_region 6 with fail
    rw [← Htb.out] at H1 ⊢
    generalize w1.alloc (.cells #[.string ⟨m.id.toArray⟩, .int .i64 m.mn, .int .i64 m.mx, .int .i64 m.level, .int .i64 m.series, .int .i64 m.samples, .slice af m.files.length cf, .slice ao m.sources.length co] 63) = W5 at H1 cq lq ⊢
    clear cq lq he3 he4
    have H3 := Lib.hid (And.intro H1.out.2.2.1 (And.intro H1.out.2.1 H1.out.2.2.2.2))
    have g5 := cells_at H3.out.1
    have l5 := lt_of_at H3.out.1
    have cr5 := cells_at H3.out.2.1
    have fr5 := free_at H3.out.2.1
    have lr5 := lt_of_at H3.out.2.1
    have d0 : W5.cell? ⟨q, 1, none⟩ = some (.int .i64 er) := by rw [g5]; rfl
    have hqr : q ≠ rb := fun h => hw0.2.2.1 h.symm
    refine wp_region_held_drew (S := fun w' => w'.cell? ⟨q, 1, none⟩ = some (.int .i64 er) ∧ w'.cell? ⟨q, 1, none⟩ = some (.int .i64 er)) (by kernel_rfl) ⟨d0, d0⟩ (fun hS => ?_)
    refine wpAnyH_take (i := 0) (v := ?_) rfl (by kernel_rfl) (by kernel_rfl) (by kernel_rfl) (fun _ _ _ h => h) (Or.inl ⟨by rfl, ?_⟩) (by assumption) ?_
    rotate_left
    · intro w' hSw; obtain ⟨s1, s2⟩ := hSw; go_simp; (try with_reducible rfl)
    simp only [Act.put, List.getElem_toArray, List.getElem_cons_succ, List.getElem_cons_zero, List.setIfInBounds_toArray, List.set_cons_zero, List.set_cons_succ]
    refine wpAnyH_take (i := 1) (v := ?_) rfl (by kernel_rfl) (by kernel_rfl) (by kernel_rfl) (fun _ _ _ h => h) (Or.inl ⟨by rfl, ?_⟩) (by assumption) ?_
    rotate_left
    · intro w' hSw; obtain ⟨s1, s2⟩ := hSw; go_simp; (try with_reducible rfl)
    simp only [Act.put, List.getElem_toArray, List.getElem_cons_succ, List.getElem_cons_zero, List.setIfInBounds_toArray, List.set_cons_zero, List.set_cons_succ]
    refine wpAnyH_take (i := 2) (v := ?_) rfl (by kernel_rfl) (by kernel_rfl) (by kernel_rfl) (fun _ _ _ h => h) (Or.inl ⟨by rfl, ?_⟩) (by assumption) ?_
    rotate_left
    · intro w' hSw; obtain ⟨s1, s2⟩ := hSw; go_simp; (try with_reducible rfl)
    simp only [Act.put, List.getElem_toArray, List.getElem_cons_succ, List.getElem_cons_zero, List.setIfInBounds_toArray, List.set_cons_zero, List.set_cons_succ]
    refine wpAnyH_take (i := 3) (v := ?_) rfl (by kernel_rfl) (by kernel_rfl) (by kernel_rfl) (fun _ _ _ h => h) (Or.inl ⟨by rfl, ?_⟩) (by assumption) ?_
    rotate_left
    · intro w' hSw; obtain ⟨s1, s2⟩ := hSw; go_simp; (try with_reducible rfl)
    simp only [Act.put, List.getElem_toArray, List.getElem_cons_succ, List.getElem_cons_zero, List.setIfInBounds_toArray, List.set_cons_zero, List.set_cons_succ]
    refine wpAnyH_take (i := 4) (v := ?_) rfl (by kernel_rfl) (by kernel_rfl) (by kernel_rfl) (fun _ _ _ h => h) (Or.inl ⟨by rfl, ?_⟩) (by assumption) ?_
    rotate_left
    · intro w' hSw; obtain ⟨s1, s2⟩ := hSw; go_simp; (try with_reducible rfl)
    simp only [Act.put, List.getElem_toArray, List.getElem_cons_succ, List.getElem_cons_zero, List.setIfInBounds_toArray, List.set_cons_zero, List.set_cons_succ]
    have se := set8 (v0 := .string ⟨#[]⟩) (v1 := .int .i64 0) (v2 := .int .i64 0) (v3 := .int .i64 0) (v4 := .int .i64 0) (v5 := .int .i64 0) (v6 := .slice none 0 0) (v7 := .slice none 0 0) H3.out.2.1
    have hch : ((((((((W5.setCell ⟨rb, 0, none⟩ (.string ⟨#[]⟩)).setCell ⟨rb, 1, none⟩ (.int .i64 0)).setCell ⟨rb, 2, none⟩ (.int .i64 0)).setCell ⟨rb, 3, none⟩ (.int .i64 0)).setCell ⟨rb, 4, none⟩ (.int .i64 0)).setCell ⟨rb, 5, none⟩ (.int .i64 0)).setCell ⟨rb, 6, none⟩ (.slice none 0 0)).setCell ⟨rb, 7, none⟩ (.slice none 0 0)).drew.heap[rb]? = some (.cells #[.string ⟨#[]⟩, .int .i64 0, .int .i64 0, .int .i64 0, .int .i64 0, .int .i64 0, .slice none 0 0, .slice none 0 0] 63 (0, 0)) := (drew_heapM _ _).trans se.1
    have HE := Lib.hid (And.intro (And.intro hch se.2.drew) H3.out.2.2)
    clear se hch
    refine wpAnyH_ready (rs := [5]) (by kernel_rfl) (by simp) ?_
    refine AllReadyH.cons rfl (fun K hK => ?_) AllReadyH.nil
    go_simp
    generalize ((((((((W5.setCell ⟨rb, 0, none⟩ (.string ⟨#[]⟩)).setCell ⟨rb, 1, none⟩ (.int .i64 0)).setCell ⟨rb, 2, none⟩ (.int .i64 0)).setCell ⟨rb, 3, none⟩ (.int .i64 0)).setCell ⟨rb, 4, none⟩ (.int .i64 0)).setCell ⟨rb, 5, none⟩ (.int .i64 0)).setCell ⟨rb, 6, none⟩ (.slice none 0 0)).setCell ⟨rb, 7, none⟩ (.slice none 0 0)).drew = W6 at HE ⊢
    have x0 : W6.cell? ⟨q, 1, none⟩ = some (.int .i64 er) := (HE.out.1.2.cell l5 (by simp; omega)).trans d0
    refine hK.out _ _ ⟨x0, x0⟩ (fun hS => ?_)
    clear hK K
    try simp only [Act.put, List.getElem_toArray, List.getElem_cons_succ, List.getElem_cons_zero, List.setIfInBounds_toArray, List.set_cons_zero, List.set_cons_succ]
    refine wpAnyH_ready (rs := [6]) (by kernel_rfl) (by simp) ?_
    refine AllReadyH.cons rfl (fun K hK => ?_) AllReadyH.nil
    go_simp
    refine hK.out _ _ ⟨x0, x0⟩ (fun hS => ?_)
    clear hK K
    try simp only [Act.put, List.getElem_toArray, List.getElem_cons_succ, List.getElem_cons_zero, List.setIfInBounds_toArray, List.set_cons_zero, List.set_cons_succ]
    refine wpAnyH_ready (rs := [7]) (by kernel_rfl) (by simp) ?_
    refine AllReadyH.cons rfl (fun K hK => ?_) AllReadyH.nil
    go_simp
    refine hK.out _ _ ⟨x0, x0⟩ (fun hS => ?_)
    clear hK K
    refine wpAnyH_done (by kernel_rfl) ?_ _
    clear hS x0 d0 g5 cr5 fr5 lr5
    have hc := cells_at HE.out.1.1
    have hlr6 := lt_of_at HE.out.1.1
    go_wp2_with fail
    refine bodyPost_ret (v := .tuple #[.agg #[.string ⟨#[]⟩, .int .i64 0, .int .i64 0, .int .i64 0, .int .i64 0, .int .i64 0, .slice none 0 0, .slice none 0 0], .string ⟨#[]⟩, .int .i64 er]) ?_ rfl ⟨er, He.out, rfl, ?_⟩
    · simp [results, Tryz.results78, go_sem, hc, hlr6]
    · exact HE.out.2.after HE.out.1.2 (fun x hx => .inr (by simp only [List.mem_singleton] at hx; omega))
end Go.Proofs.YtjffdcflkkgpfaaGreat

namespace Go.Proofs.YtjffdcflkkgpfaaGreat
open Go Go.RowKit
open Go.Op (bytesLess)

def fromT (m : MetaT) : MetaS := ⟨⟨m.id.toArray⟩, m.mn.toNat, m.mx.toNat, m.level.toNat, m.series.toNat, m.samples.toNat, m.files.map (fun f => (⟨f.1.toArray⟩, f.2.1.toNat, f.2.2.toNat)), m.sources.map (fun s => ⟨s.toArray⟩)⟩

/-- Its numbers are none below 0. -/
def PosT (m : MetaT) : Prop := 0 ≤ m.mn ∧ 0 ≤ m.mx ∧ 0 ≤ m.level ∧ 0 ≤ m.series ∧ 0 ≤ m.samples ∧ ∀ f ∈ m.files, 0 ≤ f.2.1 ∧ 0 ≤ f.2.2 ∧ f.2.2 ≤ 4294967295

theorem fileSt_pos (st : Tk) : ∀ k, ∀ f ∈ (fileSt st k).1, 0 ≤ f.2.1 ∧ 0 ≤ f.2.2 ∧ f.2.2 ≤ 4294967295
  | 0 => by intro f hf; cases hf
  | k + 1 => by
    intro f hf
    rw [fileSt_next, List.mem_append] at hf
    rcases hf with hf | hf
    · exact fileSt_pos st k f hf
    · simp only [List.mem_singleton] at hf
      subst hf
      have h1 := tkN_bounds (tkT (fileSt st k).2 40).2 (most := 1048576) (by decide) (by decide)
      have h2 := tkN_bounds (tkN (tkT (fileSt st k).2 40).2 1048576).2 (most := 4294967295) (by decide) (by decide)
      exact ⟨h1.1, h2⟩

theorem fieldsT_pos (st : Tk) : PosT (fieldsT st).1 := by
  have b1 := tkN_bounds (tkT st 16).2 (most := 1099511627776) (by decide) (by decide)
  have b2 := tkN_bounds (tkN (tkT st 16).2 1099511627776).2 (most := 1099511627776) (by decide) (by decide)
  have b3 := tkN_bounds (tkN (tkN (tkT st 16).2 1099511627776).2 1099511627776).2 (most := 9) (by decide) (by decide)
  have b4 := tkN_bounds (tkN (tkN (tkN (tkT st 16).2 1099511627776).2 1099511627776).2 9).2 (most := 1073741824) (by decide) (by decide)
  have b5 := tkN_bounds (tkN (tkN (tkN (tkN (tkT st 16).2 1099511627776).2 1099511627776).2 9).2 1073741824).2 (most := 1073741824) (by decide) (by decide)
  exact ⟨b1.1, b2.1, b3.1, b4.1, b5.1, fileSt_pos _ 2⟩

theorem encFile_from {f : List UInt8 × Int × Int} (h : 0 ≤ f.2.1 ∧ 0 ≤ f.2.2) : encFile (⟨f.1.toArray⟩, f.2.1.toNat, f.2.2.toNat) = encFileT f := by
  unfold encFile encFileT
  simp only [Int.toNat_of_nonneg h.1, Int.toNat_of_nonneg h.2]

theorem flatFile_from : ∀ (L : List (List UInt8 × Int × Int)), (∀ f ∈ L, 0 ≤ f.2.1 ∧ 0 ≤ f.2.2) → (L.map (fun f => ((⟨f.1.toArray⟩ : ByteArray), f.2.1.toNat, f.2.2.toNat))).flatMap encFile = L.flatMap encFileT
  | [], _ => rfl
  | f :: L, h => by
    simp only [List.map_cons, List.flatMap_cons]
    rw [encFile_from (h f (by simp)), flatFile_from L (fun g hg => h g (List.mem_cons_of_mem _ hg))]

theorem flatSrc_from : ∀ (L : List (List UInt8)), (L.map (fun s => (⟨s.toArray⟩ : ByteArray))).flatMap encS1m = L.flatMap encS1T
  | [] => rfl
  | s :: L => by
    simp only [List.map_cons, List.flatMap_cons]
    rw [flatSrc_from L]
    rfl

theorem MetaRT.metaR {B : Nat} {w : World} {vs : List Value} {m : MetaT} (h : MetaRT B w vs m) (hp : PosT m) : MetaR B w vs (fromT m) := by
  obtain ⟨vf, vo, e, h1, h2⟩ := h
  obtain ⟨p1, p2, p3, p4, p5, p6⟩ := hp
  refine ⟨vf, vo, ?_, ?_, ?_⟩
  · rw [e]
    unfold fromT
    simp only [Int.toNat_of_nonneg p1, Int.toNat_of_nonneg p2, Int.toNat_of_nonneg p3, Int.toNat_of_nonneg p4, Int.toNat_of_nonneg p5]
  · show World.ownsRow w B _ 3 vf (m.files.map _).length ((m.files.map _).flatMap encFile)
    rw [List.length_map, flatFile_from m.files (fun f hf => ⟨(p6 f hf).1, (p6 f hf).2.1⟩)]
    exact h1
  · show World.ownsRow w B _ 1 vo (m.sources.map _).length ((m.sources.map _).flatMap encS1m)
    rw [List.length_map, flatSrc_from]
    exact h2

theorem risesT_pair : ∀ (L : List (List UInt8)), risesT L = true → L.Pairwise fun a b => bytesLess a b = true
  | [], _ => .nil
  | [a], _ => by simp
  | a :: b :: L, h => by
    unfold risesT at h
    rw [Bool.and_eq_true] at h
    have ih := risesT_pair (b :: L) h.2
    refine List.Pairwise.cons ?_ ih
    intro x hx
    rcases List.mem_cons.mp hx with rfl | hx
    · exact h.1
    · exact less_transM h.1 ((List.pairwise_cons.mp ih).1 x hx)

theorem ba_list (l : List UInt8) : (⟨l.toArray⟩ : ByteArray).data.toList = l := rfl

theorem okT_from {m : MetaT} (h : okT m = true) (hp : PosT m) : MetaOk (fromT m) := by
  obtain ⟨p1, p2, p3, p4, p5, p6⟩ := hp
  unfold okT at h
  simp only [Bool.and_eq_true, decide_eq_true_eq, List.all_eq_true] at h
  obtain ⟨⟨⟨⟨⟨⟨⟨⟨⟨⟨⟨⟨h1, h2⟩, h3⟩, h4⟩, h5⟩, h6⟩, h7⟩, h8⟩, h9⟩, hf⟩, hn⟩, hs⟩, hr⟩ := h
  constructor
  · exact h1
  · unfold fromT; simp only; omega
  · unfold fromT; simp only; omega
  · unfold fromT; simp only; omega
  · rcases hL : m.files with _ | ⟨⟨n1, s1, c1⟩, _ | ⟨⟨n2, s2, c2⟩, _ | ⟨f, L⟩⟩⟩
    · rw [hL] at hf; cases hf
    · rw [hL] at hf; cases hf
    · rw [hL] at hf
      simp only [Bool.and_eq_true, decide_eq_true_eq] at hf
      obtain ⟨⟨⟨⟨⟨e1, e2⟩, f1⟩, f2⟩, f3⟩, f4⟩ := hf
      subst e1 e2
      have q1 := (p6 (chunksB.data.toList, s1, c1) (by rw [hL]; simp)).2
      have q2 := (p6 (indexB.data.toList, s2, c2) (by rw [hL]; simp)).2
      simp only at q1 q2
      refine ⟨s1.toNat, c1.toNat, s2.toNat, c2.toNat, ?_, by omega, by omega, by omega, by omega⟩
      unfold fromT
      rw [hL]
      rfl
    · rw [hL] at hf; cases hf
  · unfold fromT; simp only [List.length_map]; exact hn
  · intro s hs'
    unfold fromT at hs'
    simp only [List.mem_map] at hs'
    obtain ⟨t, ht, rfl⟩ := hs'
    refine ⟨(hs t ht).1, ?_⟩
    intro e
    exact (hs t ht).2 (congrArg (fun b : ByteArray => b.data.toList) e)
  · have := risesT_pair m.sources hr
    unfold fromT
    simp only [List.pairwise_map]
    exact this

/-- The meta that bytes are. -/
def decS (l : List UInt8) : Option MetaS := (decodeT l).map fromT

theorem decS_only {l : List UInt8} (h : (onlyL l 1).2 ≠ 0) : decS l = none := by unfold decS decodeT; rw [if_pos h]; rfl

theorem decS_no {l l' : List UInt8} {m : MetaT} {er : Int} (hf : fieldsT ((onlyL l 1).1, 0) = (m, (l', er))) (h : er ≠ 0 ∨ okT m = false) : decS l = none := by
  unfold decS decodeT
  rw [hf]
  split
  · rfl
  · by_cases he : er = 0
    · subst he
      rw [if_neg (by simp), if_pos (h.resolve_left (fun h => h rfl))]
      rfl
    · rw [if_pos he]
      rfl

theorem decS_rest {l l' : List UInt8} {m : MetaT} {er : Int} (hf : fieldsT ((onlyL l 1).1, 0) = (m, (l', er))) (h : l' ≠ []) : decS l = none := by
  unfold decS decodeT
  rw [hf]
  split
  · rfl
  · split
    · rfl
    · split
      · rfl
      · rfl

theorem decS_yes {l : List UInt8} {m : MetaT} (ho : (onlyL l 1).2 = 0) (hf : fieldsT ((onlyL l 1).1, 0) = (m, ([], 0))) (h : okT m = true) : decS l = some (fromT m) := by
  unfold decS decodeT
  rw [hf, if_neg (by simp [ho]), if_neg (by simp), if_neg (by simp [h]), if_neg (by simp)]
  rfl

theorem decS_ok {l : List UInt8} {M : MetaS} (h : decS l = some M) : MetaOk M := by
  unfold decS decodeT at h
  split at h
  · cases h
  · split at h
    · cases h
    · split at h
      · cases h
      · split at h
        · cases h
        · rename_i hk _
          simp only [Option.map_some, Option.some.injEq] at h
          subst h
          exact okT_from (by simpa using hk) (fieldsT_pos _)

def zeroM : Value := .agg #[.string ⟨#[]⟩, .int .i64 0, .int .i64 0, .int .i64 0, .int .i64 0, .int .i64 0, .slice none 0 0, .slice none 0 0]

def DecNo (w : World) (e : Ending) (w' : World) : Prop := ∃ c : Int, c ≠ 0 ∧ e = .returned (.tuple #[zeroM, .int .i64 c]) ∧ Keeps [] w w'

def DecYes (w : World) (M : MetaS) (e : Ending) (w' : World) : Prop := ∃ vs, e = .returned (.tuple #[.agg vs.toArray, .int .i64 0]) ∧ MetaR w.heap.size w' vs M ∧ Keeps [] w w'

def DecGPost (w : World) (r : Option MetaS) (e : Ending) (w' : World) : Prop := match r with
  | some M => DecYes w M e w'
  | none => DecNo w e w'

theorem onlyL_len (l : List UInt8) (k : UInt8) : (onlyL l k).1.length ≤ l.length := nextF_len l


set_option linter.unusedSimpArgs false in
set_option maxRecDepth 100000 in
set_option maxHeartbeats 4000000 in
theorem decodeM_spec (w : World) (s : ByteArray) (hs : s.size ≤ 1000000) :
    Calls Tryz.prog 40 #[.string s] w (DecGPost w (decS s.data.toList)) := by
  obtain ⟨R, hR⟩ : ∃ R, R = decS s.data.toList := ⟨_, rfl⟩
  obtain ⟨D, hD⟩ : ∃ D : List UInt8 × Int, D = onlyL s.data.toList 1 := ⟨_, rfl⟩
  have hsl : s.data.toList.length ≤ 1000000 := by rw [dsize]; exact hs
  have hDl : D.1.length ≤ 1000000 := by rw [hD]; exact Nat.le_trans (onlyL_len _ _) hsl
  have Ho := Lib.hid (fun W => only_spec W s (by omega) 1)
  rw [← hD] at Ho
  have HR := Lib.hid hR
  have HD := Lib.hid hD
  rw [← hR]
  obtain ⟨d, er⟩ := D
  obtain ⟨ds, hds⟩ : ∃ b : ByteArray, b = ⟨d.toArray⟩ := ⟨_, rfl⟩
  have hdd : ds.data.toList = d := by rw [hds]
  have hdz : ds.size ≤ 1000000 := by rw [hds]; exact hDl
  dsimp only at Ho hDl
  rw [← hds] at Ho
  have Hds := Lib.hid (And.intro hdd hdz)
  obtain ⟨rb, hrb⟩ : ∃ n, n = w.heap.size := ⟨_, rfl⟩
  have HB := Lib.hid hrb
  have hwr : w.heap.size ≤ rb := by omega
  have n0 := heap_new w (.cells #[.string ⟨#[]⟩, .int .i64 0, .int .i64 0, .int .i64 0, .int .i64 0, .int .i64 0, .slice none 0 0, .slice none 0 0] 63)
  have k0 : Keeps [] w (w.alloc (.cells #[.string ⟨#[]⟩, .int .i64 0, .int .i64 0, .int .i64 0, .int .i64 0, .int .i64 0, .slice none 0 0, .slice none 0 0] 63)) := (Keeps.refl [] w).alloc _
  have hsz : rb < (w.alloc (.cells #[.string ⟨#[]⟩, .int .i64 0, .int .i64 0, .int .i64 0, .int .i64 0, .int .i64 0, .slice none 0 0, .slice none 0 0] 63)).heap.size := by simp; omega
  rw [← hrb] at n0
  have H0 := Lib.hid (And.intro n0 k0)
  clear hR hD hsl hDl hds hdd hdz hs hrb n0 k0
  go_enter Tryz.func40, Tryz.ntmps40
  go_wp2_with fail
  rw [← HB.out]
  generalize w.alloc (.cells #[.string ⟨#[]⟩, .int .i64 0, .int .i64 0, .int .i64 0, .int .i64 0, .int .i64 0, .slice none 0 0, .slice none 0 0] 63) = W at H0 hsz ⊢
  refine (Ho.out W).mono ?_
  rintro e w1 ⟨rfl, hk1⟩
  have nr1 := hk1.at_ H0.out.1 (by simp)
  have cr1 := cells_at nr1
  have fr1 := free_at nr1
  have lr1 := lt_of_at nr1
  have H1 := Lib.hid (And.intro nr1 (H0.out.2.trans hk1))
  clear nr1 hk1 H0
  by_cases he : er = 0
  · subst he
    obtain ⟨⟨m, l, ef⟩, hF⟩ : ∃ F, fieldsT (d, 0) = F := ⟨_, rfl⟩
    have hF2 : fieldsT (ds.data.toList, 0) = (m, (l, ef)) := by rw [Hds.out.1]; exact hF
    by_cases hno : ef ≠ 0 ∨ okT m = false
    · have hRn : R = none := by rw [HR.out]; exact decS_no (by rw [← HD.out]; exact hF) hno
      subst hRn
      have Hno := Lib.hid (And.intro hF2 hno)
      clear hF hF2 hno
      go_wp2_with fail
      clear cr1 fr1 lr1
      refine (takeNo_spec w1 ds m l ef Hno.out.1 Hno.out.2 (by have := Hds.out.2; omega)).mono ?_
      rintro e w3 ⟨c, hc, rfl, hk3⟩
      have nr3 := hk3.at_ H1.out.1 (by simp)
      have ka : Keeps [] w3 (w3.alloc (.cells #[.string ⟨#[]⟩, .int .i64 0, .int .i64 0, .int .i64 0, .int .i64 0, .int .i64 0, .slice none 0 0, .slice none 0 0] 63)) := (Keeps.refl [] w3).alloc _
      have nr4 := ka.at_ nr3 (by simp)
      have k4 := (H1.out.2.trans hk3).trans ka
      have H4 := Lib.hid (And.intro nr4 (And.intro hc k4))
      have hc1 : (c == 0) = false := by simp [hc]
      have hc2 : (c != 0) = true := by simp [hc]
      have cr := cells_at nr4
      have fr := free_at nr4
      have lr := lt_of_at nr4
      clear nr3 ka nr4 k4 hk3 hc
      go_wp2_with fail
      clear cr fr lr
      have se := set8 (v0 := .string ⟨#[]⟩) (v1 := .int .i64 0) (v2 := .int .i64 0) (v3 := .int .i64 0) (v4 := .int .i64 0) (v5 := .int .i64 0) (v6 := .slice none 0 0) (v7 := .slice none 0 0) H4.out.1
      have hc := cells_at se.1
      have hlr := lt_of_at se.1
      refine bodyPost_ret (v := .tuple #[.agg #[.string ⟨#[]⟩, .int .i64 0, .int .i64 0, .int .i64 0, .int .i64 0, .int .i64 0, .slice none 0 0, .slice none 0 0], .int .i64 c]) ?_ rfl ⟨c, H4.out.2.1, rfl, (H4.out.2.2).after se.2 (fun x hx => .inr (by simp only [List.mem_singleton] at hx; omega))⟩
      simp [results, Tryz.results40, go_sem, hc, hlr]
    · have hef : ef = 0 := Classical.byContradiction fun h => hno (.inl h)
      subst hef
      have hok : okT m = true := by
        cases h : okT m with
        | true => rfl
        | false => exact absurd (.inr h) hno
      have hpos : PosT m := by have := fieldsT_pos (d, 0); rw [hF] at this; exact this
      obtain ⟨ls, hls⟩ : ∃ b : ByteArray, b = ⟨l.toArray⟩ := ⟨_, rfl⟩
      have Hno := Lib.hid (And.intro hF2 (And.intro hok hpos))
      have Hls := Lib.hid hls
      by_cases hl : l = []
      · have hRn : R = some (fromT m) := by rw [HR.out]; exact decS_yes (by rw [← HD.out]) (by rw [← HD.out, ← hl]; exact hF) hok
        subst hRn
        obtain ⟨z1, z2⟩ := is_empty (s := ls) (by rw [hls, hl]; rfl)
        clear hF hF2 hno hok hpos hls hl
        go_wp2_with fail
        have hl1 := Lib.hid lr1
        clear cr1 fr1 lr1
        refine (takeYes_spec w1 ds m l Hno.out.1 Hno.out.2.1 (by have := Hds.out.2; omega)).mono ?_
        rintro e w3 ⟨vs, rfl, hm3, hk3⟩
        rw [← Hls.out]
        have hvs := hm3
        obtain ⟨vf, vo, rfl, hsf, hso⟩ := hvs
        obtain ⟨af, cf, rfl, -, -, -⟩ := row_slice hsf
        obtain ⟨ao, co, rfl, -, -, -⟩ := row_slice hso
        clear hsf hso
        have nr3 := hk3.at_ H1.out.1 (by simp)
        have ka : Keeps [] w3 (w3.alloc (.cells #[.string ⟨m.id.toArray⟩, .int .i64 m.mn, .int .i64 m.mx, .int .i64 m.level, .int .i64 m.series, .int .i64 m.samples, .slice af m.files.length cf, .slice ao m.sources.length co] 63)) := (Keeps.refl [] w3).alloc _
        have na := heap_new w3 (.cells #[.string ⟨m.id.toArray⟩, .int .i64 m.mn, .int .i64 m.mx, .int .i64 m.level, .int .i64 m.series, .int .i64 m.samples, .slice af m.files.length cf, .slice ao m.sources.length co] 63)
        have nr4 := ka.at_ nr3 (by simp)
        have k4 := (H1.out.2.trans hk3).trans ka
        have hw1 := H1.out.2.size
        have H4 := Lib.hid (And.intro nr4 (And.intro ((hm3.same ka).metaR Hno.out.2.2) k4))
        have cr := cells_at nr4
        have fr := free_at nr4
        have lr := lt_of_at nr4
        have ca := cells_at na
        have la := lt_of_at na
        clear nr3 ka nr4 k4 hk3 na hm3
        go_wp2_with fail
        clear cr fr lr ca la
        have se := set8 (v0 := .string ⟨m.id.toArray⟩) (v1 := .int .i64 m.mn) (v2 := .int .i64 m.mx) (v3 := .int .i64 m.level) (v4 := .int .i64 m.series) (v5 := .int .i64 m.samples) (v6 := .slice af m.files.length cf) (v7 := .slice ao m.sources.length co) H4.out.1
        have hc := cells_at se.1
        have hlr := lt_of_at se.1
        refine bodyPost_ret (v := .tuple #[.agg #[.string ⟨m.id.toArray⟩, .int .i64 m.mn, .int .i64 m.mx, .int .i64 m.level, .int .i64 m.series, .int .i64 m.samples, .slice af m.files.length cf, .slice ao m.sources.length co], .int .i64 0]) ?_ rfl ⟨[.string ⟨m.id.toArray⟩, .int .i64 m.mn, .int .i64 m.mx, .int .i64 m.level, .int .i64 m.series, .int .i64 m.samples, .slice af m.files.length cf, .slice ao m.sources.length co], rfl, ?_, ?_⟩
        · simp [results, Tryz.results40, go_sem, hc, hlr]
        · exact (H4.out.2.1.keep se.2 (by simp only [List.mem_singleton]; rintro x rfl; exact hl1.out)).low hw1
        · exact H4.out.2.2.after se.2 (fun x hx => .inr (by simp only [List.mem_singleton] at hx; omega))
      · have hRn : R = none := by rw [HR.out]; exact decS_rest (by rw [← HD.out]; exact hF) hl
        subst hRn
        obtain ⟨z1, z2⟩ := ne_empty (s := ls) (by rw [hls]; intro e; exact hl (List.eq_nil_of_length_eq_zero e))
        clear hF hF2 hno hok hpos hls hl
        go_wp2_with fail
        clear cr1 fr1 lr1
        refine (takeYes_spec w1 ds m l Hno.out.1 Hno.out.2.1 (by have := Hds.out.2; omega)).mono ?_
        rintro e w3 ⟨vs, rfl, hm3, hk3⟩
        rw [← Hls.out]
        obtain ⟨vf, vo, rfl, hsf, hso⟩ := hm3
        obtain ⟨af, cf, rfl, -, -, -⟩ := row_slice hsf
        obtain ⟨ao, co, rfl, -, -, -⟩ := row_slice hso
        clear hsf hso
        have nr3 := hk3.at_ H1.out.1 (by simp)
        have ka : Keeps [] w3 (w3.alloc (.cells #[.string ⟨m.id.toArray⟩, .int .i64 m.mn, .int .i64 m.mx, .int .i64 m.level, .int .i64 m.series, .int .i64 m.samples, .slice af m.files.length cf, .slice ao m.sources.length co] 63)) := (Keeps.refl [] w3).alloc _
        have nr4 := ka.at_ nr3 (by simp)
        have k4 := (H1.out.2.trans hk3).trans ka
        have H4 := Lib.hid (And.intro nr4 k4)
        have cr := cells_at nr4
        have fr := free_at nr4
        have lr := lt_of_at nr4
        clear nr3 ka nr4 k4 hk3
        go_wp2_with fail
        clear cr fr lr
        have se := set8 (v0 := .string ⟨#[]⟩) (v1 := .int .i64 0) (v2 := .int .i64 0) (v3 := .int .i64 0) (v4 := .int .i64 0) (v5 := .int .i64 0) (v6 := .slice none 0 0) (v7 := .slice none 0 0) H4.out.1
        have hc := cells_at se.1
        have hlr := lt_of_at se.1
        refine bodyPost_ret (v := .tuple #[.agg #[.string ⟨#[]⟩, .int .i64 0, .int .i64 0, .int .i64 0, .int .i64 0, .int .i64 0, .slice none 0 0, .slice none 0 0], .int .i64 3]) ?_ rfl ⟨3, by decide, rfl, (H4.out.2).after se.2 (fun x hx => .inr (by simp only [List.mem_singleton] at hx; omega))⟩
        simp [results, Tryz.results40, go_sem, hc, hlr]
  · have hRn : R = none := by rw [HR.out]; exact decS_only (by rw [← HD.out]; exact he)
    subst hRn
    have hc1 : (er == 0) = false := by simp [he]
    have hc2 : (er != 0) = true := by simp [he]
    have He := Lib.hid he
    clear he
    have cr := cr1
    have fr := fr1
    have lr := lr1
    clear cr1 fr1 lr1
    go_wp2_with fail
    clear cr fr lr
    have se := set8 (v0 := .string ⟨#[]⟩) (v1 := .int .i64 0) (v2 := .int .i64 0) (v3 := .int .i64 0) (v4 := .int .i64 0) (v5 := .int .i64 0) (v6 := .slice none 0 0) (v7 := .slice none 0 0) H1.out.1
    have hc := cells_at se.1
    have hlr := lt_of_at se.1
    refine bodyPost_ret (v := .tuple #[.agg #[.string ⟨#[]⟩, .int .i64 0, .int .i64 0, .int .i64 0, .int .i64 0, .int .i64 0, .slice none 0 0, .slice none 0 0], .int .i64 er]) ?_ rfl ⟨er, He.out, rfl, (H1.out.2).after se.2 (fun x hx => .inr (by simp only [List.mem_singleton] at hx; omega))⟩
    simp [results, Tryz.results40, go_sem, hc, hlr]
end Go.Proofs.YtjffdcflkkgpfaaGreat
