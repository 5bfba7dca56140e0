/-
  What is taken of a meta's bytes (package meta): Take, where the bytes are a meta's that may be, and more behind.
  The bytes are not too many.
-/
import Derived.Test.YtjffdcflkkgpfaaGreatMetaTake
namespace Go.Proofs.YtjffdcflkkgpfaaGreat
open Go Go.RowKit Go.Conc

theorem drew_heapM (w : World) (b : Nat) : w.drew.heap[b]? = w.heap[b]? := rfl

def TakeMPost (w : World) (m : MetaS) (l : List UInt8) (e : Ending) (w' : World) : Prop :=
  ∃ vs, e = .returned (.tuple #[.agg vs.toArray, .string ⟨l.toArray⟩, .int .i64 0]) ∧ MetaR w.heap.size w' vs m ∧ Keeps [] w w'

set_option linter.unusedSimpArgs false in
set_option maxRecDepth 100000 in
set_option maxHeartbeats 4000000 in
theorem take_spec (w : World) (s : ByteArray) (m : MetaS) (l : List UInt8) (hs : s.data.toList = metaL m ++ l) (ok : MetaOk m) (hz : s.size ≤ 1000000000) :
    Calls Tryz.prog 78 #[.string s] w (TakeMPost w m l) := by
  have Hok := Lib.hid ok
  have hl : (metaL m ++ l).length ≤ 1000000000 := by rw [← hs, dsize]; exact hz
  have Hl := Lib.hid hl
  obtain ⟨rb, hrb⟩ : ∃ n, n = w.heap.size := ⟨_, rfl⟩
  obtain ⟨q, hq⟩ : ∃ n, n = w.heap.size + 1 := ⟨_, rfl⟩
  have n0 := new2 w (.cells #[.string ⟨#[]⟩, .int .i64 0, .int .i64 0, .int .i64 0, .int .i64 0, .int .i64 0, .slice none 0 0, .slice none 0 0] 63) (.cells #[.string s, .int .i64 0] 161)
  have k0 : Keeps [] w ((w.alloc (.cells #[.string ⟨#[]⟩, .int .i64 0, .int .i64 0, .int .i64 0, .int .i64 0, .int .i64 0, .slice none 0 0, .slice none 0 0] 63)).alloc (.cells #[.string s, .int .i64 0] 161)) := ((Keeps.refl [] w).alloc _).alloc _
  have hsz : ((w.alloc (.cells #[.string ⟨#[]⟩, .int .i64 0, .int .i64 0, .int .i64 0, .int .i64 0, .int .i64 0, .slice none 0 0, .slice none 0 0] 63)).alloc (.cells #[.string s, .int .i64 0] 161)).heap.size = w.heap.size + 2 := by simp
  have hse : s = ⟨(metaL m ++ l).toArray⟩ := ba_ext (by rw [hs])
  have ht0 : TakerAt ((w.alloc (.cells #[.string ⟨#[]⟩, .int .i64 0, .int .i64 0, .int .i64 0, .int .i64 0, .int .i64 0, .slice none 0 0, .slice none 0 0] 63)).alloc (.cells #[.string s, .int .i64 0] 161)) (w.heap.size + 1) (metaL m ++ l, 0) := by
    unfold TakerAt
    rw [← hse]
    exact n0.2
  have hw0 : w.heap.size ≤ rb ∧ w.heap.size ≤ q ∧ rb ≠ q ∧ rb < w.heap.size + 2 ∧ q < w.heap.size + 2 := by omega
  have HB := Lib.hid (And.intro hrb hq)
  have H0 := Lib.hid (And.intro ht0 (And.intro n0.1 (And.intro k0 hsz)))
  clear hrb hq n0 k0 hsz ht0 hse hs hl ok
  go_enter Tryz.func78, Tryz.ntmps78
  go_wp2_with fail
  rw [← HB.out.2] at H0 ⊢
  rw [← HB.out.1] at H0 ⊢
  generalize (w.alloc (.cells #[.string ⟨#[]⟩, .int .i64 0, .int .i64 0, .int .i64 0, .int .i64 0, .int .i64 0, .slice none 0 0, .slice none 0 0] 63)).alloc (.cells #[.string s, .int .i64 0] 161) = W at H0 ⊢
  refine (takeFields_spec W q m l H0.out.1 Hok.out Hl.out).mono ?_
  rintro e w1 ⟨vs, rfl, hm1, hq1, hk1⟩
  have hvs := hm1.metaV
  obtain ⟨vf, vo, rfl, hsf, hso⟩ := hvs
  obtain ⟨af, cf, rfl, -, -, -, -⟩ := hsf
  obtain ⟨ao, co, rfl, -, -, -, -⟩ := hso
  have hWq : q < W.heap.size ∧ rb < W.heap.size := by have := H0.out.2.2.2; omega
  have hbz : w.heap.size ≤ W.heap.size := H0.out.2.2.1.size
  have k1w : Keeps [] w w1 := H0.out.2.2.1.after hk1 (fun x hx => .inr (by simp only [List.mem_singleton] at hx; omega))
  have nr1 := hk1.at_ H0.out.2.1 (by simp; omega)
  have nq1 : w1.heap[q]? = some (.cells #[.string ⟨l.toArray⟩, .int .i64 0] 161 (0, 0)) := hq1
  have hm1' := hm1
  have ka : Keeps [] w1 (w1.alloc (.cells #[.string m.id, .int .i64 m.mn, .int .i64 m.mx, .int .i64 m.level, .int .i64 m.series, .int .i64 m.samples, .slice af m.files.length cf, .slice ao m.sources.length co] 63)) := (Keeps.refl [] w1).alloc _
  have na := heap_new w1 (.cells #[.string m.id, .int .i64 m.mn, .int .i64 m.mx, .int .i64 m.level, .int .i64 m.series, .int .i64 m.samples, .slice af m.files.length cf, .slice ao m.sources.length co] 63)
  have hlr := lt_of_at nr1
  have hlq := lt_of_at nq1
  have H1 := Lib.hid (And.intro (hm1'.same ka) (And.intro (ka.at_ nr1 (by simp)) (And.intro (ka.at_ nq1 (by simp)) (And.intro na (k1w.trans ka)))))
  obtain ⟨tb, htb⟩ : ∃ n, n = w1.heap.size := ⟨_, rfl⟩
  have htn : tb ≠ rb ∧ tb ≠ q ∧ w.heap.size ≤ tb := by have := k1w.size; omega
  have Htb := Lib.hid htb
  clear hm1 hq1 hk1 nr1 nq1 ka na k1w hm1' htb
  have cq := cells_at H1.out.2.2.1
  have lq := lt_of_at H1.out.2.2.1
  go_upto_region 4 with fail
  rw [← Htb.out] at H1 ⊢
  generalize w1.alloc (.cells #[.string m.id, .int .i64 m.mn, .int .i64 m.mx, .int .i64 m.level, .int .i64 m.series, .int .i64 m.samples, .slice af m.files.length cf, .slice ao m.sources.length co] 63) = W2 at H1 cq lq ⊢
  have ct := cells_at H1.out.2.2.2.1
  have lt := lt_of_at H1.out.2.2.2.1
  go_wp2_with fail
  refine (metaCheck_spec W.heap.size _ _ m H1.out.1.metaV Hok.out).mono ?_
  rintro e w3 ⟨rfl, hk3⟩
  have nq3 := hk3.at_ H1.out.2.2.1 (by simp)
  have cq3 := cells_at nq3
  have fq3 := free_at nq3
  have lq3 := lt_of_at nq3
  have nq4 : (w3.setCell ⟨q, 1, none⟩ (.int .i64 0)).heap[q]? = some (.cells #[.string ⟨l.toArray⟩, .int .i64 0] 161 (0, 0)) := (heap_cell_same (i := 1) nq3 _).trans (by simp)
  have k34 : Keeps [q] w3 (w3.setCell ⟨q, 1, none⟩ (.int .i64 0)) := (Keeps.refl [q] w3).setCell (.inl (by simp)) _
  have kd : Keeps [] w3 w3 := Keeps.refl _ _
  have k4w := ((H1.out.2.2.2.2.trans hk3).after k34 (fun x hx => .inr (by simp only [List.mem_singleton] at hx; omega)) : Keeps [] w _)
  have H3 := Lib.hid (And.intro nq4 (And.intro (k34.at_ (hk3.at_ H1.out.2.1 (by simp)) (by simp; omega)) (And.intro (k34.at_ (hk3.at_ H1.out.2.2.2.1 (by simp)) (by simp; omega)) (And.intro ((H1.out.1.same hk3).keep k34 (S := [q]) (by simp only [List.mem_singleton]; rintro x rfl; exact hWq.1)) k4w))))
  clear nq3 nq4 k34 hk3 kd k4w
  go_upto_region 7 with fail
  clear cq3 fq3 lq3 ct lt cq lq
  generalize w3.setCell ⟨q, 1, none⟩ (.int .i64 0) = W5 at H3 ⊢
  obtain ⟨ls, hls⟩ : ∃ s : ByteArray, s = ⟨l.toArray⟩ := ⟨_, rfl⟩
  rw [← hls] at H3
  have Hls := Lib.hid hls
  clear hls
  have c5 := cells_at H3.out.2.2.1
  have g5 := cells_at H3.out.1
  have l5 := lt_of_at H3.out.2.2.1
  have l5q := lt_of_at H3.out.1
  have d0 : W5.cell? ⟨tb, 0, none⟩ = some (.string m.id) := by rw [c5]; rfl
  have d1 : W5.cell? ⟨tb, 1, none⟩ = some (.int .i64 m.mn) := by rw [c5]; rfl
  have d2 : W5.cell? ⟨tb, 2, none⟩ = some (.int .i64 m.mx) := by rw [c5]; rfl
  have d3 : W5.cell? ⟨tb, 3, none⟩ = some (.int .i64 m.level) := by rw [c5]; rfl
  have d4 : W5.cell? ⟨tb, 4, none⟩ = some (.int .i64 m.series) := by rw [c5]; rfl
  have d5 : W5.cell? ⟨tb, 5, none⟩ = some (.int .i64 m.samples) := by rw [c5]; rfl
  have d6 : W5.cell? ⟨tb, 6, none⟩ = some (.slice af m.files.length cf) := by rw [c5]; rfl
  have d7 : W5.cell? ⟨tb, 7, none⟩ = some (.slice ao m.sources.length co) := by rw [c5]; rfl
  have d8 : W5.cell? ⟨q, 0, none⟩ = some (.string ls) := by rw [g5]; rfl
  refine wp_region_held_drew (S := fun w' => w'.cell? ⟨tb, 0, none⟩ = some (.string m.id) ∧ w'.cell? ⟨tb, 1, none⟩ = some (.int .i64 m.mn) ∧ w'.cell? ⟨tb, 2, none⟩ = some (.int .i64 m.mx) ∧ w'.cell? ⟨tb, 3, none⟩ = some (.int .i64 m.level) ∧ w'.cell? ⟨tb, 4, none⟩ = some (.int .i64 m.series) ∧ w'.cell? ⟨tb, 5, none⟩ = some (.int .i64 m.samples) ∧ w'.cell? ⟨tb, 6, none⟩ = some (.slice af m.files.length cf) ∧ w'.cell? ⟨tb, 7, none⟩ = some (.slice ao m.sources.length co) ∧ w'.cell? ⟨q, 0, none⟩ = some (.string ls)) (by kernel_rfl) ⟨d0, d1, d2, d3, d4, d5, d6, d7, d8⟩ (fun hS => ?_)
  refine wpAnyH_take (i := 0) (v := ?_) rfl (by kernel_rfl) (by kernel_rfl) (by kernel_rfl) (fun _ _ _ h => h) (Or.inl ⟨by rfl, ?_⟩) (by assumption) ?_
  rotate_left
  · intro w' hSw; obtain ⟨s1, s2, s3, s4, s5, s6, s7, s8, s9⟩ := hSw; go_simp; (try with_reducible rfl)
  simp only [Act.put, List.getElem_toArray, List.getElem_cons_succ, List.getElem_cons_zero, List.setIfInBounds_toArray, List.set_cons_zero, List.set_cons_succ]
  refine wpAnyH_take (i := 1) (v := ?_) rfl (by kernel_rfl) (by kernel_rfl) (by kernel_rfl) (fun _ _ _ h => h) (Or.inl ⟨by rfl, ?_⟩) (by assumption) ?_
  rotate_left
  · intro w' hSw; obtain ⟨s1, s2, s3, s4, s5, s6, s7, s8, s9⟩ := hSw; go_simp; (try with_reducible rfl)
  simp only [Act.put, List.getElem_toArray, List.getElem_cons_succ, List.getElem_cons_zero, List.setIfInBounds_toArray, List.set_cons_zero, List.set_cons_succ]
  refine wpAnyH_take (i := 2) (v := ?_) rfl (by kernel_rfl) (by kernel_rfl) (by kernel_rfl) (fun _ _ _ h => h) (Or.inl ⟨by rfl, ?_⟩) (by assumption) ?_
  rotate_left
  · intro w' hSw; obtain ⟨s1, s2, s3, s4, s5, s6, s7, s8, s9⟩ := hSw; go_simp; (try with_reducible rfl)
  simp only [Act.put, List.getElem_toArray, List.getElem_cons_succ, List.getElem_cons_zero, List.setIfInBounds_toArray, List.set_cons_zero, List.set_cons_succ]
  refine wpAnyH_take (i := 3) (v := ?_) rfl (by kernel_rfl) (by kernel_rfl) (by kernel_rfl) (fun _ _ _ h => h) (Or.inl ⟨by rfl, ?_⟩) (by assumption) ?_
  rotate_left
  · intro w' hSw; obtain ⟨s1, s2, s3, s4, s5, s6, s7, s8, s9⟩ := hSw; go_simp; (try with_reducible rfl)
  simp only [Act.put, List.getElem_toArray, List.getElem_cons_succ, List.getElem_cons_zero, List.setIfInBounds_toArray, List.set_cons_zero, List.set_cons_succ]
  refine wpAnyH_take (i := 4) (v := ?_) rfl (by kernel_rfl) (by kernel_rfl) (by kernel_rfl) (fun _ _ _ h => h) (Or.inl ⟨by rfl, ?_⟩) (by assumption) ?_
  rotate_left
  · intro w' hSw; obtain ⟨s1, s2, s3, s4, s5, s6, s7, s8, s9⟩ := hSw; go_simp; (try with_reducible rfl)
  simp only [Act.put, List.getElem_toArray, List.getElem_cons_succ, List.getElem_cons_zero, List.setIfInBounds_toArray, List.set_cons_zero, List.set_cons_succ]
  have se := set8 (v0 := .string m.id) (v1 := .int .i64 m.mn) (v2 := .int .i64 m.mx) (v3 := .int .i64 m.level) (v4 := .int .i64 m.series) (v5 := .int .i64 m.samples) (v6 := .slice af m.files.length cf) (v7 := .slice ao m.sources.length co) H3.out.2.1
  have hch : ((((((((W5.setCell ⟨rb, 0, none⟩ (.string m.id)).setCell ⟨rb, 1, none⟩ (.int .i64 m.mn)).setCell ⟨rb, 2, none⟩ (.int .i64 m.mx)).setCell ⟨rb, 3, none⟩ (.int .i64 m.level)).setCell ⟨rb, 4, none⟩ (.int .i64 m.series)).setCell ⟨rb, 5, none⟩ (.int .i64 m.samples)).setCell ⟨rb, 6, none⟩ (.slice af m.files.length cf)).setCell ⟨rb, 7, none⟩ (.slice ao m.sources.length co)).drew.heap[rb]? = some (.cells #[.string m.id, .int .i64 m.mn, .int .i64 m.mx, .int .i64 m.level, .int .i64 m.series, .int .i64 m.samples, .slice af m.files.length cf, .slice ao m.sources.length co] 63 (0, 0)) := (drew_heapM _ _).trans se.1
  have HE := Lib.hid (And.intro (And.intro hch se.2.drew) (And.intro H3.out.2.2.2.1 H3.out.2.2.2.2))
  have cr5 := cells_at H3.out.2.1
  have fr5 := free_at H3.out.2.1
  have lr5 := lt_of_at H3.out.2.1
  clear se hch
  refine wpAnyH_ready (rs := [5]) (by kernel_rfl) (by simp) ?_
  refine AllReadyH.cons rfl (fun K hK => ?_) AllReadyH.nil
  go_simp
  generalize ((((((((W5.setCell ⟨rb, 0, none⟩ (.string m.id)).setCell ⟨rb, 1, none⟩ (.int .i64 m.mn)).setCell ⟨rb, 2, none⟩ (.int .i64 m.mx)).setCell ⟨rb, 3, none⟩ (.int .i64 m.level)).setCell ⟨rb, 4, none⟩ (.int .i64 m.series)).setCell ⟨rb, 5, none⟩ (.int .i64 m.samples)).setCell ⟨rb, 6, none⟩ (.slice af m.files.length cf)).setCell ⟨rb, 7, none⟩ (.slice ao m.sources.length co)).drew = W6 at HE ⊢
  have tcell : ∀ i, W6.cell? ⟨tb, i, none⟩ = W5.cell? ⟨tb, i, none⟩ := fun i => HE.out.1.2.cell l5 (by simp; omega)
  have qcell : W6.cell? ⟨q, 0, none⟩ = W5.cell? ⟨q, 0, none⟩ := HE.out.1.2.cell l5q (by simp; omega)
  have x0 := (tcell 0).trans d0
  have x1 := (tcell 1).trans d1
  have x2 := (tcell 2).trans d2
  have x3 := (tcell 3).trans d3
  have x4 := (tcell 4).trans d4
  have x5 := (tcell 5).trans d5
  have x6 := (tcell 6).trans d6
  have x7 := (tcell 7).trans d7
  have x8 := qcell.trans d8
  refine hK.out _ _ ⟨x0, x1, x2, x3, x4, x5, x6, x7, x8⟩ (fun hS => ?_)
  clear hK K
  try simp only [Act.put, List.getElem_toArray, List.getElem_cons_succ, List.getElem_cons_zero, List.setIfInBounds_toArray, List.set_cons_zero, List.set_cons_succ]
  refine wpAnyH_ready (rs := [6]) (by kernel_rfl) (by simp) ?_
  refine AllReadyH.cons rfl (fun K hK => ?_) AllReadyH.nil
  go_simp
  refine hK.out _ _ ⟨x0, x1, x2, x3, x4, x5, x6, x7, x8⟩ (fun hS => ?_)
  clear hK K
  try simp only [Act.put, List.getElem_toArray, List.getElem_cons_succ, List.getElem_cons_zero, List.setIfInBounds_toArray, List.set_cons_zero, List.set_cons_succ]
  refine wpAnyH_ready (rs := [7]) (by kernel_rfl) (by simp) ?_
  refine AllReadyH.cons rfl (fun K hK => ?_) AllReadyH.nil
  go_simp
  refine hK.out _ _ ⟨x0, x1, x2, x3, x4, x5, x6, x7, x8⟩ (fun hS => ?_)
  clear hK K
  refine wpAnyH_done (by kernel_rfl) ?_ _
  clear hS x0 x1 x2 x3 x4 x5 x6 x7 x8 d0 d1 d2 d3 d4 d5 d6 d7 d8 c5 g5 cr5 fr5 lr5
  have hc := cells_at HE.out.1.1
  have hlr6 := lt_of_at HE.out.1.1
  go_wp2_with fail
  refine bodyPost_ret (v := .tuple #[.agg #[.string m.id, .int .i64 m.mn, .int .i64 m.mx, .int .i64 m.level, .int .i64 m.series, .int .i64 m.samples, .slice af m.files.length cf, .slice ao m.sources.length co], .string ls, .int .i64 0]) ?_ rfl ⟨[.string m.id, .int .i64 m.mn, .int .i64 m.mx, .int .i64 m.level, .int .i64 m.series, .int .i64 m.samples, .slice af m.files.length cf, .slice ao m.sources.length co], by rw [Hls.out], ?_, ?_⟩
  · simp [results, Tryz.results78, go_sem, hc, hlr6]
  · exact (HE.out.2.1.keep HE.out.1.2 (by simp only [List.mem_singleton]; rintro x rfl; exact hWq.2)).low hbz
  · exact HE.out.2.2.after HE.out.1.2 (fun x hx => .inr (by simp only [List.mem_singleton] at hx; omega))
end Go.Proofs.YtjffdcflkkgpfaaGreat
