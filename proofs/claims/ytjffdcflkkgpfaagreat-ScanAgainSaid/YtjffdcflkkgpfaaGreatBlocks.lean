/-
  The blocks of a statement on listings (package barographlaw10): Blocks.
  No condition: every list of blocks.
-/
import Derived.Test.YtjffdcflkkgpfaaGreatBlkLaw
namespace Go.Proofs.YtjffdcflkkgpfaaGreat
open Go Go.RowKit Go.Conc
open Go.Op (bytesLess)

/-- A block told, with its lists' values: the metas', the documents'. -/
abbrev BlkD := BlkS × (Value × Value × Value)

def cellsM (d : BlkD) : List Value := (metaVs d.1.1 d.2.1 d.2.2.1).toList

def cellsT (d : BlkD) : List Value := (metaVs d.1.1 d.2.2.2 d.2.2.1).toList ++ [.int .i64 d.1.2]

structure DOk (base : Nat) (w : World) (d : BlkD) : Prop where
  f : w.ownsRow base 149 3 d.2.1 d.1.1.files.length (d.1.1.files.flatMap encFile)
  s : w.ownsRow base 9 1 d.2.2.1 d.1.1.sources.length (d.1.1.sources.flatMap encS1m)
  g : w.ownsRow base 170 3 d.2.2.2 d.1.1.files.length (d.1.1.files.flatMap encFile)

theorem DOk.same {base : Nat} {w w' : World} {d : BlkD} (h : DOk base w d) (k : Keeps [] w w') : DOk base w' d := ⟨kp k h.f, kp k h.s, kp k h.g⟩

/-- What turns is a map, or cells of another type. -/
def Other (w : World) (b : Nat) : Prop := (∃ kv, MapAt w b kv) ∨ ∃ cs t z, w.heap[b]? = some (.cells cs t z) ∧ t ≠ 149 ∧ t ≠ 9 ∧ t ≠ 170

theorem DOk.out {base : Nat} {w w' : World} {d : BlkD} {S : List Nat} (h : DOk base w d) (k : Keeps S w w') (hS : ∀ b ∈ S, Other w b) : DOk base w' d := by
  refine ⟨k.row h.f fun g hg hm => ?_, k.row h.s fun g hg hm => ?_, k.row h.g fun g hg hm => ?_⟩ <;> rcases hS g hm with ⟨kv, hkv⟩ | ⟨cs, t, z, hb, h1, h2, h3⟩
  · exact row_ne_map h.f hkv (by rw [hg]; simp)
  · exact row_ne_type h.f hb h1 g hg rfl
  · exact row_ne_map h.s hkv (by rw [hg]; simp)
  · exact row_ne_type h.s hb h2 g hg rfl
  · exact row_ne_map h.g hkv (by rw [hg]; simp)
  · exact row_ne_type h.g hb h3 g hg rfl

def BlksPost (w : World) (T : List BlkS) (e : Ending) (w' : World) : Prop :=
  ∃ g c mb vt, e = .returned (.tuple #[.slice (some ⟨g, 0, none⟩) T.length c, .map (some mb), vt]) ∧ MetasV w.heap.size w' (.slice (some ⟨g, 0, none⟩) T.length c) (T.map (·.1)) ∧ MapAt w' mb (encMap encI (marksOf T)) ∧ w.heap.size ≤ mb ∧ BlksV w.heap.size w' vt (sortT T) ∧ Keeps [] w w'

theorem cellsM_len (d : BlkD) : (cellsM d).length = 8 := rfl

theorem cellsT_len (d : BlkD) : (cellsT d).length = 9 := rfl

theorem DOk.metaV {base : Nat} {w : World} {d : BlkD} (h : DOk base w d) : MetaV base w (cellsM d) d.1.1 :=
  ⟨d.2.1, d.2.2.1, rfl, sliceFrom_row (fun _ => rfl) h.f, sliceFrom_row (fun _ => rfl) h.s⟩

theorem DOk.blkV {base : Nat} {w : World} {d : BlkD} (h : DOk base w d) : BlkV base w (cellsT d) d.1 :=
  ⟨_, rfl, d.2.2.2, d.2.2.1, rfl, sliceFrom_row (fun _ => rfl) h.g, sliceFrom_row (fun _ => rfl) h.s⟩

instance mvDs {w w' : World} (base : Nat) (D : List BlkD) : Mv w w' (∀ d ∈ D, DOk base w d) (∀ d ∈ D, DOk base w' d) := ⟨fun k h d hd => (h d hd).same k⟩

theorem SliceArg.atI {α : Type} {size : Nat} {enc : α → List Value} {w : World} {a : Option Addr} {n c : Nat} {L : List α} (h : SliceArg size enc w (.slice a n c) L) (i : Nat) (hi : i < L.length) :
    ∃ b off, a = some ⟨b, off, none⟩ ∧ b < w.heap.size ∧ ∀ j, j < size → w.cell? ⟨b, off + (i * size + j), none⟩ = (enc L[i])[j]? := by
  obtain ⟨ao, cap, e, hl, h⟩ := h
  injection e with e _ _
  subst e
  exact h i hi

def BlkRel (w : World) (O : List OneL) (mb n gk : Nat) (u5 u7 u8 : Value) (wr : World) : Prop :=
  ∃ (k gm cm gt ct : Nat) (D : List BlkD), k ≤ n ∧ gk = n - k ∧ u8 = .int .i64 k ∧ u5 = .slice (some ⟨gm, 0, none⟩) k cm ∧ u7 = .slice (some ⟨gt, 0, none⟩) k ct ∧ D.map (·.1) = blkL (O.take k) ∧
    wr.ownsRow w.heap.size 63 8 (.slice (some ⟨gm, 0, none⟩) k cm) k (D.flatMap cellsM) ∧ wr.ownsRow w.heap.size 68 9 (.slice (some ⟨gt, 0, none⟩) k ct) k (D.flatMap cellsT) ∧
    MapAt wr mb (encMap encI (marksOf (blkL (O.take k)))) ∧ (∀ d ∈ D, DOk w.heap.size wr d) ∧ Keeps [] w wr

theorem DOk.keepRow {base b s n : Nat} {e : TypeId} {w w' : World} {d : BlkD} {v : Value} {xs : List Value} (h : DOk base w d) (hr : w.ownsRow b e s v n xs) (k : Keeps v.ownBlock.toList w w') (he : e ≠ 149 ∧ e ≠ 9 ∧ e ≠ 170) : DOk base w' d :=
  ⟨k.row h.f (rows_neM hr h.f he.1), k.row h.s (rows_neM hr h.s he.2.1), k.row h.g (rows_neM hr h.g he.2.2)⟩

theorem row_some {w : World} {base size n : Nat} {e : TypeId} {v : Value} {xs : List Value} (h : w.ownsRow base e size v n xs) (hne : v ≠ .slice none 0 0) : ∃ g cap, v = .slice (some ⟨g, 0, none⟩) n cap := by
  obtain ⟨_, ⟨e, _⟩ | ⟨g, cp, cur, rfl, _⟩⟩ := h
  · exact absurd e hne
  · exact ⟨g, cp, rfl⟩

theorem blksV_D {base : Nat} {w : World} {D : List BlkD} {v : Value} (h : w.ownsRow base 68 9 v D.length (D.flatMap cellsT)) (hd : ∀ d ∈ D, DOk base w d) : BlksV base w v (D.map (·.1)) := by
  refine ⟨D.map cellsT, SliceFrom.to_map (enc := id) (f := cellsT) (sliceFrom_row (fun x => cellsT_len x) h), by simp, fun i hi hi' => ?_⟩
  simp only [List.getElem_map]
  exact (hd _ (List.getElem_mem _)).blkV

theorem metasV_D {base : Nat} {w : World} {D : List BlkD} {v : Value} (h : w.ownsRow base 63 8 v D.length (D.flatMap cellsM)) (hd : ∀ d ∈ D, DOk base w d) : MetasV base w v ((D.map (·.1)).map (·.1)) := by
  refine ⟨D.map cellsM, SliceFrom.to_map (enc := id) (f := cellsM) (sliceFrom_row (fun x => cellsM_len x) h), by simp, fun i hi hi' => ?_⟩
  simp only [List.getElem_map]
  exact (hd _ (List.getElem_mem _)).metaV

theorem take_min {α : Type} (l : List α) (k n : Nat) (h : l.length = k) : l.take (min k n) = l.take n := by
  by_cases e : k ≤ n
  · rw [Nat.min_eq_left e, List.take_of_length_le (by omega), List.take_of_length_le (by omega)]
  · rw [Nat.min_eq_right (by omega)]

def MarkMid (W : World) (bb mb : Nat) (m0 : MetaS) (vg vo : Value) (M : PartsM) (M1 : MetaS) (mkv : Int) (wc : World) : Prop :=
  wc.heap[bb]? = some (.cells #[.string m0.id, .int .i64 m0.mn, .int .i64 m0.mx, .int .i64 m0.level, .int .i64 m0.series, .int .i64 m0.samples, vg, vo, .int .i64 mkv] 68 (0, 0)) ∧ MapAt wc mb (encMap encI (markStep M (M1, mkv))) ∧ Keeps [mb, bb] W wc

def SrcRel10 (w wo : World) (m0 : MetaS) (ids : List ByteArray) (xb : Nat) (vf : Value) (n gk : Nat) (u : Value) (wr : World) : Prop :=
  ∃ (j : Nat) (vo : Value), j ≤ n ∧ gk = n - j ∧ u = .int .i64 j ∧ wr.ownsRow wo.heap.size 9 1 vo (srcL m0.id (ids.take j)).length ((srcL m0.id (ids.take j)).flatMap encS1m) ∧
    wr.heap[xb]? = some (.cells (madeVs m0 vf vo) 63 (0, 0)) ∧ wr.ownsRow w.heap.size 149 3 vf 2 (m0.files.flatMap encFile) ∧ Keeps [] wo wr

def MidB (w wr : World) (m0 : MetaS) (u9 : Value) (wc : World) : Prop :=
  ∃ xb vf va vn vc, u9 = .pointer (some ⟨xb, 0, none⟩) ∧ wr.heap.size ≤ xb ∧ wc.heap[xb]? = some (.cells (madeVs m0 vf (.slice va vn vc)) 63 (0, 0)) ∧ wc.ownsRow w.heap.size 149 3 vf 2 (m0.files.flatMap encFile) ∧ Keeps [] wr wc

set_option linter.unusedSimpArgs false in
set_option maxRecDepth 100000 in
set_option maxHeartbeats 4000000 in
theorem blocks_spec (w : World) (v : Value) (O : List OneL) (hO : SliceArg 11 encOneL w v O) :
    Calls Tryz.prog 44 #[v] w (BlksPost w (blkL (O.take 10))) := by
  have HO := Lib.hid hO
  obtain ⟨TF, hTF⟩ : ∃ T, T = blkL (O.take 10) := ⟨_, rfl⟩
  rw [← hTF]
  have HTF := Lib.hid hTF
  clear hTF
  obtain ⟨av, cv, rfl, hvm, -⟩ := hO
  unfold maxLen at hvm
  obtain ⟨im, him, hzm0, hzm1, hzm2⟩ := info_parts infoMeta
  obtain ⟨ib, hib, hzb0, hzb1, hzb2⟩ := info_parts infoBlk
  obtain ⟨is, his, hzs0, hzs1, hzs2⟩ := info_parts infoStrM
  have hmm := @run_makeMap Tryz.prog
  obtain ⟨gm0, hgm0⟩ : ∃ n, n = w.heap.size := ⟨_, rfl⟩
  obtain ⟨mb, hmb⟩ : ∃ n, n = gm0 + 1 := ⟨_, rfl⟩
  obtain ⟨gt0, hgt0⟩ : ∃ n, n = mb + 1 := ⟨_, rfl⟩
  have n0 := new3 w (.cells #[] 63) (.map #[] 0) (.cells #[] 68)
  have k0 : Keeps [] w (((w.alloc (.cells #[] 63)).alloc (.map #[] 0)).alloc (.cells #[] 68)) := (((Keeps.refl [] w).alloc _).alloc _).alloc _
  rw [← hgm0, ← hmb, ← hgt0] at n0
  have H0 := Lib.hid (And.intro n0 k0)
  have HB := Lib.hid (And.intro hgm0 (And.intro hmb hgt0))
  have hbb : w.heap.size ≤ gm0 ∧ w.heap.size ≤ mb ∧ w.heap.size ≤ gt0 := by omega
  obtain ⟨n, hn⟩ : ∃ n, n = min O.length 10 := ⟨_, rfl⟩
  clear n0 k0 hgm0 hmb hgt0
  go_enter Tryz.func44, Tryz.ntmps44
  go_upto_region 4 with fail
  rw [← HB.out.1, ← HB.out.2.1, ← HB.out.2.2]
  clear hmm
  generalize (((w.alloc (.cells #[] 63)).alloc (.map #[] 0)).alloc (.cells #[] 68)) = W0 at H0 ⊢
  go_wp2_with fail
  have hr0 : W0.ownsRow w.heap.size 63 8 (.slice (some ⟨gm0, 0, none⟩) 0 0) 0 [] := ⟨rfl, .inr ⟨gm0, 0, #[], rfl, hbb.1, H0.out.1.1, Nat.le_refl _, by simp [maxLen], by simp, by simp⟩⟩
  have hr1 : W0.ownsRow w.heap.size 68 9 (.slice (some ⟨gt0, 0, none⟩) 0 0) 0 [] := ⟨rfl, .inr ⟨gt0, 0, #[], rfl, hbb.2.2, H0.out.1.2.2, Nat.le_refl _, by simp [maxLen], by simp, by simp⟩⟩
  have hm0 : MapAt W0 mb (encMap encI []) := ⟨[], 0, H0.out.1.2.1, ⟨by simp, by simp, by simp⟩, rfl⟩
  have H1 := Lib.hid (And.intro hr0 (And.intro hr1 (And.intro hm0 H0.out.2)))
  clear hr0 hr1 hm0 H0 HB
  go_loopg [5, 7, 8] n (BlkRel w O mb n)
  case atStart => exact ⟨0, gm0, 0, gt0, 0, [], Nat.zero_le _, rfl, rfl, rfl, rfl, rfl, H1.out.1, H1.out.2.1, H1.out.2.2.1, by simp, H1.out.2.2.2⟩
  case round =>
    obtain ⟨k, gm, cm, gt, ct, D, hk, hgk, rfl, rfl, rfl, hD, hrm, hrt, hmp, hds, hkw⟩ := hrel
    have Hg := Lib.hid hgk
    by_cases hlt : k < n
    · have hkO : k < O.length := by omega
      have g1 : (k : Int) < (O.length : Int) := by omega
      have g2 : (k : Int) < 10 := by omega
      have hk9 : k ≤ 9 := by omega
      have hsn := blkL_snoc hkO
      have hTl : (blkL (O.take k)).length = k := by rw [blkL_len, List.length_take]; omega
      obtain ⟨T, hT⟩ : ∃ T, T = blkL (O.take k) := ⟨_, rfl⟩
      rw [← hT] at hD hmp hsn hTl
      obtain ⟨b6, of6, ea, hb6w, hc6w⟩ := HO.out.atI k hkO
      subst ea
      have hb6 := hkw.lt hb6w
      have hc6 : ∀ j, j < 11 → wr.cell? ⟨b6, of6 + (k * 11 + j), none⟩ = (encOneL O[k])[j]? := fun j hj => (hkw.cell hb6w (by simp)).trans (hc6w j hj)
      obtain ⟨o, hoe⟩ : ∃ o, o = O[k] := ⟨_, rfl⟩
      rw [← hoe] at hc6 hsn hc6w
      have d10w : w.cell? ⟨b6, of6 + k * 11 + 10, none⟩ = some (.int .i64 o.mark) := hc6w 10 (by decide)
      have Hd10 := Lib.hid (And.intro d10w hb6w)
      clear d10w hc6w hb6w
      have d0 : wr.cell? ⟨b6, of6 + k * 11, none⟩ = some (.string o.m.id) := hc6 0 (by decide)
      have d1 : wr.cell? ⟨b6, of6 + k * 11 + 1, none⟩ = some (.int .i64 o.m.mn) := hc6 1 (by decide)
      have d2 : wr.cell? ⟨b6, of6 + k * 11 + 2, none⟩ = some (.int .i64 o.m.mx) := hc6 2 (by decide)
      have d3 : wr.cell? ⟨b6, of6 + k * 11 + 3, none⟩ = some (.int .i64 o.m.level) := hc6 3 (by decide)
      have d4 : wr.cell? ⟨b6, of6 + k * 11 + 4, none⟩ = some (.int .i64 o.m.series) := hc6 4 (by decide)
      have d5 : wr.cell? ⟨b6, of6 + k * 11 + 5, none⟩ = some (.int .i64 o.m.samples) := hc6 5 (by decide)
      have d6 : wr.cell? ⟨b6, of6 + k * 11 + 6, none⟩ = some (.slice o.m.fa o.m.fn o.m.fc) := hc6 6 (by decide)
      have d7 : wr.cell? ⟨b6, of6 + k * 11 + 7, none⟩ = some (.slice o.m.sa o.m.sn o.m.sc) := hc6 7 (by decide)
      have d8 : wr.cell? ⟨b6, of6 + k * 11 + 8, none⟩ = some (.int .i64 o.tick) := hc6 8 (by decide)
      --ROUND
      obtain ⟨m0, hm0⟩ : ∃ m, m = madeS o.m o.tick k := ⟨_, rfl⟩
      have hmade := fun W => made9_spec W o.m o.tick k
      rw [← hm0] at hmade
      have Hmade := Lib.hid hmade
      have Hm0 := Lib.hid hm0
      have lb6 := hb6
      have H := Lib.hid (And.intro hrm (And.intro hrt (And.intro hmp (And.intro hds hkw))))
      have HD := Lib.hid (And.intro hD (And.intro hsn (And.intro hT hTl)))
      have hwr := hkw.size
      clear hrm hrt hmp hds hkw hD hsn hT hTl hoe hc6 hb6 hgk hmade hm0 hn
      go_upto_region 7 with fail
      go_cut [9] from 26 to 37 (MidB w wr m0)
      case first =>
        have kA0 : Keeps [] wr wr.drew := (Keeps.refl [] wr).drew
        have hk0 : (0 : Int) ≤ (k : Int) := by omega
        refine wp_region_held_drew (S := fun w' => w'.cell? ⟨b6, of6 + k * 11, none⟩ = some (.string o.m.id) ∧ w'.cell? ⟨b6, of6 + k * 11 + 1, none⟩ = some (.int .i64 o.m.mn) ∧ w'.cell? ⟨b6, of6 + k * 11 + 2, none⟩ = some (.int .i64 o.m.mx) ∧ w'.cell? ⟨b6, of6 + k * 11 + 3, none⟩ = some (.int .i64 o.m.level) ∧ w'.cell? ⟨b6, of6 + k * 11 + 4, none⟩ = some (.int .i64 o.m.series) ∧ w'.cell? ⟨b6, of6 + k * 11 + 5, none⟩ = some (.int .i64 o.m.samples) ∧ w'.cell? ⟨b6, of6 + k * 11 + 6, none⟩ = some (.slice o.m.fa o.m.fn o.m.fc) ∧ w'.cell? ⟨b6, of6 + k * 11 + 7, none⟩ = some (.slice o.m.sa o.m.sn o.m.sc) ∧ w'.cell? ⟨b6, of6 + k * 11 + 8, none⟩ = some (.int .i64 o.tick)) (by kernel_rfl) ⟨d0, d1, d2, d3, d4, d5, d6, d7, d8⟩ (fun hS => ?_)
        generalize wr.drew = A0 at kA0 hS ⊢
        refine wpAnyH_take (i := 0) (v := ?_) rfl (by kernel_rfl) (by kernel_rfl) (by kernel_rfl) (fun _ _ _ h => h) (Or.inl ⟨by rfl, ?_⟩) (by assumption) ?_
        rotate_left
        · intro w' hSw; obtain ⟨s1, s2, s3, s4, s5, s6, s7, s8, s9⟩ := hSw; go_simp; (try with_reducible rfl)
        simp only [Act.put, List.getElem_toArray, List.getElem_cons_succ, List.getElem_cons_zero, List.setIfInBounds_toArray, List.set_cons_zero, List.set_cons_succ]
        refine wpAnyH_take (i := 1) (v := ?_) rfl (by kernel_rfl) (by kernel_rfl) (by kernel_rfl) (fun _ _ _ h => h) (Or.inl ⟨by rfl, ?_⟩) (by assumption) ?_
        rotate_left
        · intro w' hSw; obtain ⟨s1, s2, s3, s4, s5, s6, s7, s8, s9⟩ := hSw; go_simp; (try with_reducible rfl)
        simp only [Act.put, List.getElem_toArray, List.getElem_cons_succ, List.getElem_cons_zero, List.setIfInBounds_toArray, List.set_cons_zero, List.set_cons_succ]
        refine wpAnyH_take (i := 2) (v := ?_) rfl (by kernel_rfl) (by kernel_rfl) (by kernel_rfl) (fun _ _ _ h => h) (Or.inl ⟨by rfl, ?_⟩) (by assumption) ?_
        rotate_left
        · intro w' hSw; obtain ⟨s1, s2, s3, s4, s5, s6, s7, s8, s9⟩ := hSw; go_simp; (try with_reducible rfl)
        simp only [Act.put, List.getElem_toArray, List.getElem_cons_succ, List.getElem_cons_zero, List.setIfInBounds_toArray, List.set_cons_zero, List.set_cons_succ]
        refine wpAnyH_take (i := 3) (v := ?_) rfl (by kernel_rfl) (by kernel_rfl) (by kernel_rfl) (fun _ _ _ h => h) (Or.inl ⟨by rfl, ?_⟩) (by assumption) ?_
        rotate_left
        · intro w' hSw; obtain ⟨s1, s2, s3, s4, s5, s6, s7, s8, s9⟩ := hSw; go_simp; (try with_reducible rfl)
        simp only [Act.put, List.getElem_toArray, List.getElem_cons_succ, List.getElem_cons_zero, List.setIfInBounds_toArray, List.set_cons_zero, List.set_cons_succ]
        refine wpAnyH_take (i := 4) (v := ?_) rfl (by kernel_rfl) (by kernel_rfl) (by kernel_rfl) (fun _ _ _ h => h) (Or.inl ⟨by rfl, ?_⟩) (by assumption) ?_
        rotate_left
        · intro w' hSw; obtain ⟨s1, s2, s3, s4, s5, s6, s7, s8, s9⟩ := hSw; go_simp; (try with_reducible rfl)
        simp only [Act.put, List.getElem_toArray, List.getElem_cons_succ, List.getElem_cons_zero, List.setIfInBounds_toArray, List.set_cons_zero, List.set_cons_succ]
        refine wpAnyH_take (i := 5) (v := ?_) rfl (by kernel_rfl) (by kernel_rfl) (by kernel_rfl) (fun _ _ _ h => h) (Or.inl ⟨by rfl, ?_⟩) (by assumption) ?_
        rotate_left
        · intro w' hSw; obtain ⟨s1, s2, s3, s4, s5, s6, s7, s8, s9⟩ := hSw; go_simp; (try with_reducible rfl)
        simp only [Act.put, List.getElem_toArray, List.getElem_cons_succ, List.getElem_cons_zero, List.setIfInBounds_toArray, List.set_cons_zero, List.set_cons_succ]
        refine wpAnyH_take (i := 6) (v := ?_) rfl (by kernel_rfl) (by kernel_rfl) (by kernel_rfl) (fun _ _ _ h => h) (Or.inl ⟨by rfl, ?_⟩) (by assumption) ?_
        rotate_left
        · intro w' hSw; obtain ⟨s1, s2, s3, s4, s5, s6, s7, s8, s9⟩ := hSw; go_simp; (try with_reducible rfl)
        simp only [Act.put, List.getElem_toArray, List.getElem_cons_succ, List.getElem_cons_zero, List.setIfInBounds_toArray, List.set_cons_zero, List.set_cons_succ]
        refine wpAnyH_take (i := 7) (v := ?_) rfl (by kernel_rfl) (by kernel_rfl) (by kernel_rfl) (fun _ _ _ h => h) (Or.inl ⟨by rfl, ?_⟩) (by assumption) ?_
        rotate_left
        · intro w' hSw; obtain ⟨s1, s2, s3, s4, s5, s6, s7, s8, s9⟩ := hSw; go_simp; (try with_reducible rfl)
        simp only [Act.put, List.getElem_toArray, List.getElem_cons_succ, List.getElem_cons_zero, List.setIfInBounds_toArray, List.set_cons_zero, List.set_cons_succ]
        refine wpAnyH_take (i := 8) (v := ?_) rfl (by kernel_rfl) (by kernel_rfl) (by kernel_rfl) (fun _ _ _ h => h) (Or.inl ⟨by rfl, ?_⟩) (by assumption) ?_
        rotate_left
        · intro w' hSw; obtain ⟨s1, s2, s3, s4, s5, s6, s7, s8, s9⟩ := hSw; go_simp; (try with_reducible rfl)
        simp only [Act.put, List.getElem_toArray, List.getElem_cons_succ, List.getElem_cons_zero, List.setIfInBounds_toArray, List.set_cons_zero, List.set_cons_succ]
        refine wpAnyH_take (i := 9) (v := ?_) rfl (by kernel_rfl) (by kernel_rfl) (by kernel_rfl) (fun _ _ _ h => h) (Or.inl ⟨by rfl, ?_⟩) (by assumption) ?_
        rotate_left
        · intro w' hSw; obtain ⟨s1, s2, s3, s4, s5, s6, s7, s8, s9⟩ := hSw; go_simp; (try with_reducible rfl)
        simp only [Act.put, List.getElem_toArray, List.getElem_cons_succ, List.getElem_cons_zero, List.setIfInBounds_toArray, List.set_cons_zero, List.set_cons_succ]
        refine wpAnyH_take (i := 10) (v := ?_) rfl (by kernel_rfl) (by kernel_rfl) (by kernel_rfl) (fun _ _ _ h => h) (Or.inl ⟨by rfl, ?_⟩) (by assumption) ?_
        rotate_left
        · intro w' hSw; obtain ⟨s1, s2, s3, s4, s5, s6, s7, s8, s9⟩ := hSw; go_simp; (try with_reducible rfl)
        simp only [Act.put, List.getElem_toArray, List.getElem_cons_succ, List.getElem_cons_zero, List.setIfInBounds_toArray, List.set_cons_zero, List.set_cons_succ]
        refine wpAnyH_ready (rs := [11, 12]) (by kernel_rfl) (by simp) ?_
        refine AllReadyH.cons rfl (fun K hK => ?_) ?_
        · go_simp
          go_at_call 35
          refine (Hmade.out _).mono ?_
          rintro e A1 ⟨vf, va, vn, vc, rfl, hrow, hkA1⟩
          have kA1 : Keeps [] wr A1 := kA0.trans hkA1
          try (replace nx := kp hkA1 nx)
          replace hrow := row_base hrow (show w.heap.size ≤ A0.heap.size by have := kA0.size; omega)
          obtain ⟨af, cf, rfl, -, -, -⟩ := row_slice hrow
          clear hkA1
          unfold madeVs
          go_simp
          refine hK.out _ _ ⟨(kA1.cell lb6 (by simp)).trans d0, (kA1.cell lb6 (by simp)).trans d1, (kA1.cell lb6 (by simp)).trans d2, (kA1.cell lb6 (by simp)).trans d3, (kA1.cell lb6 (by simp)).trans d4, (kA1.cell lb6 (by simp)).trans d5, (kA1.cell lb6 (by simp)).trans d6, (kA1.cell lb6 (by simp)).trans d7, (kA1.cell lb6 (by simp)).trans d8⟩ (fun hS => ?_)
          clear hK K
          try simp only [Act.put, List.getElem_toArray, List.getElem_cons_succ, List.getElem_cons_zero, List.setIfInBounds_toArray, List.set_cons_zero, List.set_cons_succ]
          refine wpAnyH_ready (rs := [12]) (by kernel_rfl) (by simp) ?_
          refine AllReadyH.cons rfl (fun K hK => ?_) AllReadyH.nil
          go_simp
          have kA2 : Keeps [] wr (A1.alloc (.cells #[.string ⟨#[]⟩, .int .i64 0, .int .i64 0, .int .i64 0, .int .i64 0, .int .i64 0, .slice none 0 0, .slice none 0 0] 63)) := kA1.alloc _
          have nx := heap_new A1 (.cells #[.string ⟨#[]⟩, .int .i64 0, .int .i64 0, .int .i64 0, .int .i64 0, .int .i64 0, .slice none 0 0, .slice none 0 0] 63)
          have hxb := kA1.size
          try (replace hrow := kp ((Keeps.refl [] A1).alloc (.cells #[.string ⟨#[]⟩, .int .i64 0, .int .i64 0, .int .i64 0, .int .i64 0, .int .i64 0, .slice none 0 0, .slice none 0 0] 63)) hrow)
          generalize hgx : A1.heap.size = xb at nx hxb ⊢
          generalize A1.alloc (.cells #[.string ⟨#[]⟩, .int .i64 0, .int .i64 0, .int .i64 0, .int .i64 0, .int .i64 0, .slice none 0 0, .slice none 0 0] 63) = A2 at *
          clear hgx
          refine hK.out _ _ ⟨(kA2.cell lb6 (by simp)).trans d0, (kA2.cell lb6 (by simp)).trans d1, (kA2.cell lb6 (by simp)).trans d2, (kA2.cell lb6 (by simp)).trans d3, (kA2.cell lb6 (by simp)).trans d4, (kA2.cell lb6 (by simp)).trans d5, (kA2.cell lb6 (by simp)).trans d6, (kA2.cell lb6 (by simp)).trans d7, (kA2.cell lb6 (by simp)).trans d8⟩ (fun hS => ?_)
          clear hK K
          try simp only [Act.put, List.getElem_toArray, List.getElem_cons_succ, List.getElem_cons_zero, List.setIfInBounds_toArray, List.set_cons_zero, List.set_cons_succ]
          refine wpAnyH_ready (rs := [13]) (by kernel_rfl) (by simp) ?_
          refine AllReadyH.cons rfl (fun K hK => ?_) AllReadyH.nil
          have cx := cells_at nx
          have fx := free_at nx
          have lx := lt_of_at nx
          have se := set8 (v0 := .string m0.id) (v1 := .int .i64 m0.mn) (v2 := .int .i64 m0.mx) (v3 := .int .i64 m0.level) (v4 := .int .i64 m0.series) (v5 := .int .i64 m0.samples) (v6 := .slice af 2 cf) (v7 := .slice va vn vc) nx
          have hne : b6 ∉ [xb] := by simp; omega
          have Hse := Lib.hid se
          clear se
          go_simp
          refine hK.out _ _ ⟨(Hse.out.2.cell (kA2.lt lb6) hne).trans ((kA2.cell lb6 (by simp)).trans d0), (Hse.out.2.cell (kA2.lt lb6) hne).trans ((kA2.cell lb6 (by simp)).trans d1), (Hse.out.2.cell (kA2.lt lb6) hne).trans ((kA2.cell lb6 (by simp)).trans d2), (Hse.out.2.cell (kA2.lt lb6) hne).trans ((kA2.cell lb6 (by simp)).trans d3), (Hse.out.2.cell (kA2.lt lb6) hne).trans ((kA2.cell lb6 (by simp)).trans d4), (Hse.out.2.cell (kA2.lt lb6) hne).trans ((kA2.cell lb6 (by simp)).trans d5), (Hse.out.2.cell (kA2.lt lb6) hne).trans ((kA2.cell lb6 (by simp)).trans d6), (Hse.out.2.cell (kA2.lt lb6) hne).trans ((kA2.cell lb6 (by simp)).trans d7), (Hse.out.2.cell (kA2.lt lb6) hne).trans ((kA2.cell lb6 (by simp)).trans d8)⟩ (fun hS => ?_)
          clear hK K
          try simp only [Act.put, List.getElem_toArray, List.getElem_cons_succ, List.getElem_cons_zero, List.setIfInBounds_toArray, List.set_cons_zero, List.set_cons_succ]
          refine wpAnyH_done (by kernel_rfl) ?_ _
          have hrF := Hse.out.2.row hrow (fun g hg => by have := row_ne_type hrow nx (by decide) g hg; simpa using this)
          have hkF := kA2.after Hse.out.2 (fun x hx => .inr (by simp only [List.mem_singleton] at hx; omega))
          have HF := Lib.hid (And.intro Hse.out.1 (And.intro hrF hkF))
          clear hS hrF hkF Hse cx fx lx nx hrow
          go_wp2_with fail
          go_meet
          case rel => exact ⟨xb, .slice af 2 cf, va, vn, vc, rfl, hxb, HF.out⟩
        refine AllReadyH.cons rfl (fun K hK => ?_) AllReadyH.nil
        go_simp
        have kA1 : Keeps [] wr (A0.alloc (.cells #[.string ⟨#[]⟩, .int .i64 0, .int .i64 0, .int .i64 0, .int .i64 0, .int .i64 0, .slice none 0 0, .slice none 0 0] 63)) := kA0.alloc _
        have nx := heap_new A0 (.cells #[.string ⟨#[]⟩, .int .i64 0, .int .i64 0, .int .i64 0, .int .i64 0, .int .i64 0, .slice none 0 0, .slice none 0 0] 63)
        have hxb := kA0.size
        try (replace hrow := kp ((Keeps.refl [] A0).alloc (.cells #[.string ⟨#[]⟩, .int .i64 0, .int .i64 0, .int .i64 0, .int .i64 0, .int .i64 0, .slice none 0 0, .slice none 0 0] 63)) hrow)
        generalize hgx : A0.heap.size = xb at nx hxb ⊢
        generalize A0.alloc (.cells #[.string ⟨#[]⟩, .int .i64 0, .int .i64 0, .int .i64 0, .int .i64 0, .int .i64 0, .slice none 0 0, .slice none 0 0] 63) = A1 at *
        clear hgx
        refine hK.out _ _ ⟨(kA1.cell lb6 (by simp)).trans d0, (kA1.cell lb6 (by simp)).trans d1, (kA1.cell lb6 (by simp)).trans d2, (kA1.cell lb6 (by simp)).trans d3, (kA1.cell lb6 (by simp)).trans d4, (kA1.cell lb6 (by simp)).trans d5, (kA1.cell lb6 (by simp)).trans d6, (kA1.cell lb6 (by simp)).trans d7, (kA1.cell lb6 (by simp)).trans d8⟩ (fun hS => ?_)
        clear hK K
        try simp only [Act.put, List.getElem_toArray, List.getElem_cons_succ, List.getElem_cons_zero, List.setIfInBounds_toArray, List.set_cons_zero, List.set_cons_succ]
        refine wpAnyH_ready (rs := [11]) (by kernel_rfl) (by simp) ?_
        refine AllReadyH.cons rfl (fun K hK => ?_) AllReadyH.nil
        go_simp
        go_at_call 35
        refine (Hmade.out _).mono ?_
        rintro e A2 ⟨vf, va, vn, vc, rfl, hrow, hkA2⟩
        have kA2 : Keeps [] wr A2 := kA1.trans hkA2
        try (replace nx := kp hkA2 nx)
        replace hrow := row_base hrow (show w.heap.size ≤ A1.heap.size by have := kA1.size; omega)
        obtain ⟨af, cf, rfl, -, -, -⟩ := row_slice hrow
        clear hkA2
        unfold madeVs
        go_simp
        refine hK.out _ _ ⟨(kA2.cell lb6 (by simp)).trans d0, (kA2.cell lb6 (by simp)).trans d1, (kA2.cell lb6 (by simp)).trans d2, (kA2.cell lb6 (by simp)).trans d3, (kA2.cell lb6 (by simp)).trans d4, (kA2.cell lb6 (by simp)).trans d5, (kA2.cell lb6 (by simp)).trans d6, (kA2.cell lb6 (by simp)).trans d7, (kA2.cell lb6 (by simp)).trans d8⟩ (fun hS => ?_)
        clear hK K
        try simp only [Act.put, List.getElem_toArray, List.getElem_cons_succ, List.getElem_cons_zero, List.setIfInBounds_toArray, List.set_cons_zero, List.set_cons_succ]
        refine wpAnyH_ready (rs := [13]) (by kernel_rfl) (by simp) ?_
        refine AllReadyH.cons rfl (fun K hK => ?_) AllReadyH.nil
        have cx := cells_at nx
        have fx := free_at nx
        have lx := lt_of_at nx
        have se := set8 (v0 := .string m0.id) (v1 := .int .i64 m0.mn) (v2 := .int .i64 m0.mx) (v3 := .int .i64 m0.level) (v4 := .int .i64 m0.series) (v5 := .int .i64 m0.samples) (v6 := .slice af 2 cf) (v7 := .slice va vn vc) nx
        have hne : b6 ∉ [xb] := by simp; omega
        have Hse := Lib.hid se
        clear se
        go_simp
        refine hK.out _ _ ⟨(Hse.out.2.cell (kA2.lt lb6) hne).trans ((kA2.cell lb6 (by simp)).trans d0), (Hse.out.2.cell (kA2.lt lb6) hne).trans ((kA2.cell lb6 (by simp)).trans d1), (Hse.out.2.cell (kA2.lt lb6) hne).trans ((kA2.cell lb6 (by simp)).trans d2), (Hse.out.2.cell (kA2.lt lb6) hne).trans ((kA2.cell lb6 (by simp)).trans d3), (Hse.out.2.cell (kA2.lt lb6) hne).trans ((kA2.cell lb6 (by simp)).trans d4), (Hse.out.2.cell (kA2.lt lb6) hne).trans ((kA2.cell lb6 (by simp)).trans d5), (Hse.out.2.cell (kA2.lt lb6) hne).trans ((kA2.cell lb6 (by simp)).trans d6), (Hse.out.2.cell (kA2.lt lb6) hne).trans ((kA2.cell lb6 (by simp)).trans d7), (Hse.out.2.cell (kA2.lt lb6) hne).trans ((kA2.cell lb6 (by simp)).trans d8)⟩ (fun hS => ?_)
        clear hK K
        try simp only [Act.put, List.getElem_toArray, List.getElem_cons_succ, List.getElem_cons_zero, List.setIfInBounds_toArray, List.set_cons_zero, List.set_cons_succ]
        refine wpAnyH_done (by kernel_rfl) ?_ _
        have hrF := Hse.out.2.row hrow (fun g hg => by have := row_ne_type hrow nx (by decide) g hg; simpa using this)
        have hkF := kA2.after Hse.out.2 (fun x hx => .inr (by simp only [List.mem_singleton] at hx; omega))
        have HF := Lib.hid (And.intro Hse.out.1 (And.intro hrF hkF))
        clear hS hrF hkF Hse cx fx lx nx hrow
        go_wp2_with fail
        go_meet
        case rel => exact ⟨xb, .slice af 2 cf, va, vn, vc, rfl, hxb, HF.out⟩
      case rest =>
        obtain ⟨xb, vf, va, vn, vc, rfl, hxb, nx, hrf, hkc⟩ := hcut
        obtain ⟨af, cf, rfl, -, -, -⟩ := row_slice hrf
        obtain ⟨wo, rfl⟩ : ∃ wo : World, wo = wr := ⟨_, rfl⟩
        have nx2 : wc.heap[xb]? = some (.cells #[.string m0.id, .int .i64 m0.mn, .int .i64 m0.mx, .int .i64 m0.level, .int .i64 m0.series, .int .i64 m0.samples, .slice af 2 cf, .slice va vn vc] 63 (0, 0)) := nx
        have cx := cells_at nx2
        have fx := free_at nx2
        have lx := lt_of_at nx2
        have k1 : Keeps [xb] wc (wc.setCell ⟨xb, 7, none⟩ (.slice none 0 0)) := (Keeps.refl [xb] wc).setCell (.inl (by simp)) _
        have n1 : (wc.setCell ⟨xb, 7, none⟩ (.slice none 0 0)).heap[xb]? = some (.cells (madeVs m0 (.slice af 2 cf) (.slice none 0 0)) 63 (0, 0)) := (heap_cell_same (i := 7) nx2 (.slice none 0 0)).trans (by simp [madeVs])
        have hrf1 := k1.row hrf (fun g hg => by have := row_ne_type hrf nx2 (by decide) g hg; simpa using this)
        have hk1 := hkc.after k1 (fun x hx => .inr (by simp only [List.mem_singleton] at hx; omega))
        have H1 := Lib.hid (And.intro n1 (And.intro hrf1 hk1))
        obtain ⟨ids, hids⟩ : ∃ l, l = D.map (fun d => d.1.1.id) := ⟨_, rfl⟩
        have hDl : D.length = k := by have := congrArg List.length HD.out.1; rw [List.length_map, HD.out.2.2.2] at this; exact this
        have hil : ids.length = k := by rw [hids, List.length_map]; exact hDl
        have Hids := Lib.hid (And.intro hids (And.intro hDl hil))
        obtain ⟨n2, hn2⟩ : ∃ n, n = min k o.m.sn := ⟨_, rfl⟩
        have Hn2 := Lib.hid hn2
        have hn2k : n2 ≤ k ∧ n2 ≤ o.m.sn := by omega
        have lgm : gm < wo.heap.size := (World.ownsRow.lt H.out.1 gm (by simp [Value.ownBlock])).2
        clear nx nx2 hrf hkc k1 n1 hrf1 hk1 hids hDl hil hn2
        go_wp2_with fail
        clear cx fx lx
        go_loopg [10] n2 (SrcRel10 w wo m0 ids xb (.slice af 2 cf) n2)
        case atStart => exact ⟨0, .slice none 0 0, Nat.zero_le _, rfl, rfl, World.ownsRow_nil _ _ _ 1, H1.out⟩
        case round =>
          obtain ⟨j, vo, hj, hgj, rfl, hso, nx, hrf, hkj⟩ := hrel
          have Hgj := Lib.hid hgj
          obtain ⟨ao, co, rfl, hoc, hom, hcl⟩ := row_slice hso
          have hSl : (srcL m0.id (ids.take j)).length ≤ 10 := by have := (srcL_ok m0.id (ids.take j)).2.2; rw [List.length_take] at this; omega
          have nx2 : wr.heap[xb]? = some (.cells #[.string m0.id, .int .i64 m0.mn, .int .i64 m0.mx, .int .i64 m0.level, .int .i64 m0.series, .int .i64 m0.samples, .slice af 2 cf, .slice ao (srcL m0.id (ids.take j)).length co] 63 (0, 0)) := nx
          have e7 : wr.cell? ⟨b6, of6 + k * 11 + 7, none⟩ = some (.slice o.m.sa o.m.sn o.m.sc) := (hkj.cell lb6 (by simp)).trans d7
          have lb6' := hkj.lt lb6
          have cx := cells_at nx2
          have lx := lt_of_at nx2
          have hwj := hkj.size
          by_cases hltj : j < n2
          · have g3 : (j : Int) < (k : Int) := by omega
            have g4 : (j : Int) < (o.m.sn : Int) := by omega
            have hji : j < ids.length := by have := Hids.out.2.2; omega
            have hDj : j < D.length := by have := Hids.out.2.1; omega
            have hsn := srcL_snoc (me := m0.id) hji
            have em : wr.cell? ⟨gm, j * 8, none⟩ = some (.string ids[j]) := by
              rw [hkj.cell lgm (by simp), World.ownsRow.cellAt H.out.1 (j * 8) (by omega)]
              have h2 := flatMap_at cellsM 8 cellsM_len D j hDj 0 (by decide)
              rw [Nat.add_zero] at h2
              rw [h2]
              have e : ids[j] = D[j].1.1.id := by simp [Hids.out.1]
              rw [e]
              rfl
            have lgm' := hkj.lt lgm
            generalize ids[j] = s at em hsn
            have Hsn := Lib.hid hsn
            generalize srcL m0.id (ids.take j) = S at *
            have Hi := Lib.hid (And.intro nx2 (And.intro hrf (And.intro hso hkj)))
            have Hcl := Lib.hid hcl
            clear hgj hso nx nx2 hrf hkj hcl hsn
            go_upto_region 13 with fail
            clear em
            go_cut [82] from 61 to 81 (fun c wc => c = .bool (takeB m0.id S s) ∧ wc = wr)
            case first =>
              by_cases hme : s = m0.id
              · have f0 : (s.toList == m0.id.toList) = true := by rw [toList_beq]; exact decide_eq_true hme
                have hb := takeB_me S hme
                clear hme
                go_wp2_with fail
                go_meet
                exact ⟨by rw [hb], rfl⟩
              · have f0 : (s.toList == m0.id.toList) = false := by rw [toList_beq]; exact decide_eq_false hme
                rcases List.eq_nil_or_concat S with hS | ⟨S', x, hS⟩
                · subst hS
                  have hb := takeB_nil hme
                  clear hme
                  go_wp2_with fail
                  go_meet
                  exact ⟨by rw [hb], rfl⟩
                · have hS2 : S = S' ++ [x] := by simpa using hS
                  have hSn : S.length = S'.length + 1 := by rw [hS2]; simp
                  have hz1 : ((S.length : Int) == 0) = false := by rw [beq_eq_false_iff_ne]; omega
                  have hz2 : ¬ (S.length : Int) = 0 := by omega
                  obtain ⟨g, hg, -, hgl, hgc⟩ := Hcl.out S'.length (by omega)
                  subst hg
                  have ex : wr.cell? ⟨g, S'.length, none⟩ = some (.string x) := by
                    have h2 := flatMap_at encS1m 1 (fun _ => rfl) S S'.length (by omega) 0 (by decide)
                    rw [Nat.mul_one, Nat.add_zero] at h2
                    rw [hgc, h2]
                    have hx : S[S'.length]'(by omega) = x := by simp [hS2]
                    rw [hx]
                    rfl
                  have hsub : IntKind.i64.wrap ((S.length : Int) - 1) = ((S'.length : Nat) : Int) := by rw [IntWalk.i64_in _ (by omega)]; omega
                  have hl1 : ((S'.length : Nat) : Int) < (S.length : Int) := by omega
                  have hl2 : (0 : Int) ≤ ((S'.length : Nat) : Int) := by omega
                  have hb := takeB_last S' x hme
                  rw [← hS2] at hb
                  generalize S'.length = pl at ex hsub hl1 hl2
                  clear hS hS2 hSn hme hgc
                  cases hls : bytesLess x.data.toList s.data.toList
                  all_goals
                    rw [hls] at hb
                    have hls2 := hls
                    rw [← ByteArray.toList_eq, ← ByteArray.toList_eq] at hls2
                    clear hls
                    go_wp2_with fail
                    go_meet
                    exact ⟨by rw [hb], rfl⟩
            case rest =>
              obtain ⟨rfl, rfl⟩ := hcut
              cases ht : takeB m0.id S s with
              | false =>
                have hS1 := Hsn.out
                rw [ht] at hS1
                have HS1 := Lib.hid hS1
                clear hS1 ht cx lx
                go_wp2_with fail
                go_roundg (n2 - (j + 1))
                case measure => have := Hgj.out; omega
                case rel => exact ⟨j + 1, .slice ao S.length co, by omega, rfl, by go_num, by rw [HS1.out]; exact Hi.out.2.2.1, Hi.out.1, Hi.out.2.1, Hi.out.2.2.2⟩
              | true =>
                have hS1 := Hsn.out
                rw [ht] at hS1
                have HS1 := Lib.hid hS1
                clear hS1 ht
                go_upto_region 11 with (at_builtin; refine wpList_append_own _ rfl (.tmp 84) (.tmp 86) 25 rfl wo.heap.size 9 is _ 1 16 Tryz.underlying25 his hzs0 hzs1 hzs2 rfl (by decide) (.slice ao S.length co) S.length (S.flatMap encS1m) rfl (Hi.out.2.2.1.alloc _) ⟨wc.heap.size, 0, none⟩ 1 1 [.string s] rfl rfl (news_of (heap_new wc _)) (by simp [Value.oneCell']) (by simp only [maxLen]; omega) (by omega) (by simp; omega) ?_; intro v8 w8 hown8 hgrow8 hnil; clear hnil; obtain ⟨ao8, cp8, hv8, -, -, -⟩ := row_slice hown8; subst hv8; have nx8 := (keeps_rowM hgrow8).at_ (heap_old Hi.out.1 _) (row_ne_typeM Hi.out.2.2.1 Hi.out.1 (by decide)); have cx8 := cells_at nx8; have fx8 := free_at nx8; have lx8 := lt_of_at nx8; have H8 := Lib.hid (And.intro hown8 hgrow8); clear hown8 hgrow8 nx8 cx lx)
                clear cx8 fx8 lx8
                rw [if_pos rfl] at HS1
                have ha := app_field (i := 7) Hi.out.1 Hi.out.2.2.1 (by decide) H8.out.1 H8.out.2
                have hst := Hi.out.2.2.1
                have hfl := Hi.out.2.1
                have hrf9 := ha.2.2.row hfl (fun g hg hm => by
                  rcases List.mem_cons.1 hm with e | hm
                  · exact row_ne_type hfl Hi.out.1 (by decide) g hg e
                  · exact rows_neM hst hfl (by decide) g hg hm)
                have kw9 := Hi.out.2.2.2.after ha.2.2 (fun x hx => .inr (by
                  rcases List.mem_cons.1 hx with e | hx
                  · omega
                  · exact (World.ownsRow.lt hst x (by simpa using hx)).1))
                have H9 := Lib.hid (And.intro ha.2.1 (And.intro ha.1 (And.intro hrf9 kw9)))
                clear ha hst hfl hrf9 kw9 H8 Hi
                generalize w8.setCell ⟨xb, 7, none⟩ (.slice ao8 (S.length + 1) cp8) = W9 at H9 ⊢
                go_wp2_with fail
                go_roundg (n2 - (j + 1))
                case measure => have := Hgj.out; omega
                case rel => exact ⟨j + 1, .slice ao8 (S.length + 1) cp8, by omega, rfl, by go_num, by rw [HS1.out]; simpa [encS1m] using H9.out.1, by simpa [madeVs] using H9.out.2.1, H9.out.2.2⟩
          · have hjn : j = n2 := by omega
            subst hjn
            obtain ⟨W3, rfl⟩ : ∃ W, W = wr := ⟨_, rfl⟩
            obtain ⟨Sf, hSf⟩ : ∃ S, S = srcL m0.id (ids.take j) := ⟨_, rfl⟩
            rw [← hSf] at hso hSl nx2
            replace cx := cells_at nx2
            have HSf := Lib.hid hSf
            have hor : (¬ (j : Int) < (k : Int)) ∨ ((j : Int) < (k : Int) ∧ ¬ (j : Int) < (o.m.sn : Int)) := by have := Hn2.out; omega
            have H3 := Lib.hid (And.intro nx2 (And.intro hrf (And.intro (row_base hso hwr) (kp hkj H.out))))
            have Hk3 := Lib.hid hkj
            have lgm3 := hkj.lt lgm
            have Hout := Lib.hid hcl
            clear hgj hso nx nx2 hrf hkj hSf Hout hcl hoc hom
            go_upto_region 10 with fail
            go_cut [53] from 39 to 52 (fun c wc => c = .bool false ∧ wc = W3)
            case first =>
              rcases hor with h1 | ⟨h1, h2⟩
              all_goals
                go_wp2_with fail
                go_meet
                exact ⟨rfl, rfl⟩
            case rest =>
              obtain ⟨rfl, rfl⟩ := hcut
              obtain ⟨W3, rfl⟩ : ∃ W, W = wc := ⟨_, rfl⟩
              clear hor e7 lb6'
              have hw3 := H3.out.2.2.2.2.2.2.2.size
              go_upto_region 16 with (at_builtin; refine wpList_append_own _ rfl (.tmp 89) (.tmp 91) 29 rfl w.heap.size 63 im _ 8 104 Tryz.underlying29 him hzm0 hzm1 hzm2 rfl (by decide) (.slice (some ⟨gm, 0, none⟩) k cm) k (D.flatMap cellsM) rfl (H3.out.2.2.2.1.alloc _) ⟨W3.heap.size, 0, none⟩ 1 1 [.string m0.id, .int .i64 m0.mn, .int .i64 m0.mx, .int .i64 m0.level, .int .i64 m0.series, .int .i64 m0.samples, .slice af 2 cf, .slice ao Sf.length co] rfl rfl (news_of (heap_new W3 _)) (by simp [Value.oneCell']) (by simp only [maxLen]; omega) (by omega) (by simp; omega) ?_; intro v8 w8 hown8 hgrow8 hnil; obtain ⟨gm8, cm8, hv8⟩ := row_some hown8 (fun e => by have := (hnil.1 e).1; cases this); clear hnil; subst hv8)
              have kb := keeps_rowM hgrow8
              have hr0 := H3.out.2.2.2.1
              have ka : Keeps [] W3 (W3.alloc (.cells #[.string m0.id, .int .i64 m0.mn, .int .i64 m0.mx, .int .i64 m0.level, .int .i64 m0.series, .int .i64 m0.samples, .slice af 2 cf, .slice ao Sf.length co] 63)) := (Keeps.refl [] W3).alloc _
              have hra := kp ka hr0
              have nx8 := kb.at_ (heap_old H3.out.1 _) (by
                intro hm
                have h1 : (Value.slice (some ⟨gm, 0, none⟩) k cm).ownBlock = some xb := by simpa using hm
                simp [Value.ownBlock] at h1
                omega)
              have hrf8 := kb.row (kp ka H3.out.2.1) (rows_neM hra (kp ka H3.out.2.1) (by decide))
              have hso8 := kb.row (kp ka H3.out.2.2.1) (rows_neM hra (kp ka H3.out.2.2.1) (by decide))
              have hrt8 := kb.row (kp ka H3.out.2.2.2.2.1) (rows_neM hra (kp ka H3.out.2.2.2.2.1) (by decide))
              have hmp8 := (kp ka H3.out.2.2.2.2.2.1).keep kb (row_ne_map hra (kp ka H3.out.2.2.2.2.2.1))
              have hds8 : ∀ d ∈ D, DOk w.heap.size w8 d := fun d hd => ((H3.out.2.2.2.2.2.2.1 d hd).same ka).keepRow hra kb ⟨by decide, by decide, by decide⟩
              have hkw8 := keeps_grownM (H3.out.2.2.2.2.2.2.2.alloc (.cells #[.string m0.id, .int .i64 m0.mn, .int .i64 m0.mx, .int .i64 m0.level, .int .i64 m0.series, .int .i64 m0.samples, .slice af 2 cf, .slice ao Sf.length co] 63)) hgrow8 (fun g hg => (World.ownsRow.lt hr0 g hg).1)
              have hko8 := keeps_grownM (Hk3.out.alloc (.cells #[.string m0.id, .int .i64 m0.mn, .int .i64 m0.mx, .int .i64 m0.level, .int .i64 m0.series, .int .i64 m0.samples, .slice af 2 cf, .slice ao Sf.length co] 63)) hgrow8
              have H8 := Lib.hid (And.intro nx8 (And.intro hrf8 (And.intro hso8 (And.intro hown8 (And.intro hrt8 (And.intro hmp8 (And.intro hds8 hkw8)))))))
              clear hown8 hgrow8 kb hr0 ka hra nx8 hrf8 hso8 hrt8 hmp8 hds8 hkw8 hko8 cx lx H3 Hk3 lgm3
              obtain ⟨M1, hM1⟩ : ∃ M : MetaS, M = { m0 with sources := Sf } := ⟨_, rfl⟩
              have hMf : M1.id = m0.id ∧ M1.mn = m0.mn ∧ M1.mx = m0.mx ∧ M1.level = m0.level ∧ M1.series = m0.series ∧ M1.samples = m0.samples ∧ M1.files = m0.files ∧ M1.sources = Sf := by rw [hM1]; exact ⟨rfl, rfl, rfl, rfl, rfl, rfl, rfl, rfl⟩
              have hfl2 : M1.files.length = 2 := by rw [hMf.2.2.2.2.2.2.1, Hm0.out]; rfl
              have hrfM : w8.ownsRow w.heap.size 149 3 (.slice af 2 cf) M1.files.length (M1.files.flatMap encFile) := by rw [hfl2, hMf.2.2.2.2.2.2.1]; exact H8.out.2.1
              have htold := told9_spec w.heap.size w8 (.slice af 2 cf) (.slice ao Sf.length co) M1 (sliceFrom_row (fun _ => rfl) hrfM) ⟨ao, Sf.length, co, rfl⟩ (by omega)
              unfold Told9Post metaVs at htold
              rw [hMf.1, hMf.2.1, hMf.2.2.1, hMf.2.2.2.1, hMf.2.2.2.2.1, hMf.2.2.2.2.2.1, hfl2] at htold
              have Htold := Lib.hid htold
              have HM1 := Lib.hid (And.intro hM1 (And.intro hMf hfl2))
              have cx := cells_at H8.out.1
              have lx := lt_of_at H8.out.1
              clear hM1 hMf hfl2 hrfM htold
              go_wp2_with fail
              refine Htold.out.mono ?_
              rintro e w9 ⟨vg, rfl, hrg, hk9⟩
              have hw8 := H8.out.2.2.2.2.2.2.2.size
              have H9 := Lib.hid (And.intro (kp hk9 H8.out) (row_base hrg hw8))
              obtain ⟨ag, cg, rfl, -, -, -⟩ := row_slice hrg
              clear hrg hk9 Htold H8 cx lx
              obtain ⟨bb, hbb9⟩ : ∃ n, n = w9.heap.size := ⟨_, rfl⟩
              have ka : Keeps [] w9 (w9.alloc (.cells #[.string m0.id, .int .i64 m0.mn, .int .i64 m0.mx, .int .i64 m0.level, .int .i64 m0.series, .int .i64 m0.samples, .slice ag 2 cg, .slice ao Sf.length co, .int .i64 (-1)] 68)) := (Keeps.refl [] w9).alloc _
              have na := heap_new w9 (.cells #[.string m0.id, .int .i64 m0.mn, .int .i64 m0.mx, .int .i64 m0.level, .int .i64 m0.series, .int .i64 m0.samples, .slice ag 2 cg, .slice ao Sf.length co, .int .i64 (-1)] 68)
              rw [← hbb9] at na
              have hgt : gt ≠ bb := by have := (World.ownsRow.lt H9.out.1.2.2.2.2.1 gt (by simp [Value.ownBlock])).2; omega
              have hxbb : xb ≠ bb := by have := lt_of_at H9.out.1.1; omega
              have hwbb : w.heap.size ≤ bb := by have := H9.out.1.2.2.2.2.2.2.2.size; omega
              have HA := Lib.hid (And.intro (kp ka H9.out) na)
              have Hbb := Lib.hid hbb9
              clear ka na hbb9 H9
              go_upto_region 17 with fail
              rw [← Hbb.out]
              generalize w9.alloc (.cells #[.string m0.id, .int .i64 m0.mn, .int .i64 m0.mx, .int .i64 m0.level, .int .i64 m0.series, .int .i64 m0.samples, .slice ag 2 cg, .slice ao Sf.length co, .int .i64 (-1)] 68) = W10 at HA ⊢
              clear Hbb
              have e10 : W10.cell? ⟨b6, of6 + k * 11 + 10, none⟩ = some (.int .i64 o.mark) := (HA.out.1.1.2.2.2.2.2.2.2.cell Hd10.out.2 (by simp)).trans Hd10.out.1
              have lb10 : b6 < W10.heap.size := HA.out.1.1.2.2.2.2.2.2.2.lt Hd10.out.2
              obtain ⟨Mk, hMk⟩ : ∃ M, M = marksOf T := ⟨_, rfl⟩
              have hmap := HA.out.1.1.2.2.2.2.2.1
              rw [← hMk] at hmap
              have HMk := Lib.hid hMk
              have Hmap := Lib.hid hmap
              obtain ⟨mkv, hmkv⟩ : ∃ n, n = markV o.mark := ⟨_, rfl⟩
              have Hmkv := Lib.hid hmkv
              have nb := HA.out.2
              have cb := cells_at nb
              have fb := free_at nb
              have lb := lt_of_at nb
              have nx := HA.out.1.1.1
              have cx := cells_at nx
              have lx := lt_of_at nx
              clear hMk hmap hmkv nb nx
              have hk0' : (0 : Int) ≤ (k : Int) := by omega
              go_upto_if 101 with fail
              go_cut [] from 102 to 113 (MarkMid W10 bb mb m0 (.slice ag 2 cg) (.slice ao Sf.length co) Mk M1 mkv)
              case first =>
                by_cases hmk : 0 ≤ o.mark
                · have q := i64_and16 o.mark
                  obtain ⟨mk, hmkn⟩ : ∃ n : Nat, n = (o.mark % 65536).toNat := ⟨_, rfl⟩
                  rw [show o.mark % 65536 = (mk : Int) from by omega] at q
                  have hmv : mkv = (mk : Int) := by rw [Hmkv.out]; unfold markV; rw [if_pos hmk]; omega
                  have Hmv := Lib.hid hmv
                  have hge : o.mark ≥ 0 := hmk
                  have n11 : (W10.setCell ⟨bb, 8, none⟩ (.int .i64 mk)).heap[bb]? = some (.cells #[.string m0.id, .int .i64 m0.mn, .int .i64 m0.mx, .int .i64 m0.level, .int .i64 m0.series, .int .i64 m0.samples, .slice ag 2 cg, .slice ao Sf.length co, .int .i64 mk] 68 (0, 0)) := (heap_cell_same (i := 8) HA.out.2 (.int .i64 mk)).trans (by simp)
                  have k11 : Keeps [bb] W10 (W10.setCell ⟨bb, 8, none⟩ (.int .i64 mk)) := (Keeps.refl [bb] W10).setCell (.inl (by simp)) _
                  have hbm : mb ≠ bb := fun e => by have := Hmap.out; rw [e] at this; obtain ⟨E, c, hh, -⟩ := this; rw [HA.out.2] at hh; cases hh
                  have H11 := Lib.hid (And.intro n11 (And.intro (k11.at_ HA.out.1.1.1 (by simp; exact hxbb)) (And.intro (Hmap.out.keep k11 (by simp; exact hbm)) k11)))
                  clear hmkn hmv n11 k11 hmk
                  go_upto_region 19 with fail
                  clear cb fb lb cx lx
                  generalize W10.setCell ⟨bb, 8, none⟩ (.int .i64 mk) = W11 at H11 ⊢
                  have cb := cells_at H11.out.1
                  have lb := lt_of_at H11.out.1
                  have cx := cells_at H11.out.2.1
                  have lx := lt_of_at H11.out.2.1
                  have hmap11 := H11.out.2.2.1
                  go_wp2_with (refine wpList_update_str _ rfl (.tmp 109) (.tmp 111) (.tmp 113) _ _ _ rfl Tryz.underlying30 Tryz.underlying9 mb (encMap encI Mk) m0.id (encI mk) (by rfl) (by rfl) (by rfl) hmap11 ?_; intro w12 hm12 hk12)
                  rw [put_enc] at hm12
                  have n12 := hk12.at_ H11.out.1 (by simp; exact fun e => hbm e.symm)
                  have kk : Keeps [mb, bb] W10 w12 := (H11.out.2.2.2.mono (by simp)).trans (hk12.mono (by simp))
                  have HE := Lib.hid (And.intro n12 (And.intro hm12 kk))
                  clear n12 hm12 kk hk12 hmap11 cb lb cx lx
                  go_wp2_with fail
                  go_meet
                  case rel =>
                    have e1 := Hmv.out
                    refine ⟨by rw [e1]; exact HE.out.1, ?_, HE.out.2.2⟩
                    have e2 : markStep Mk (M1, mkv) = put Mk m0.id (mk : Int) := by
                      unfold markStep
                      simp only
                      rw [if_pos (by omega), HM1.out.2.1.1, e1]
                    rw [e2]
                    exact HE.out.2.1
                · have hlt0 : ¬ o.mark ≥ 0 := by omega
                  have hmv : mkv = -1 := by rw [Hmkv.out]; unfold markV; rw [if_neg hmk]
                  have Hmv := Lib.hid hmv
                  clear hmv hmk
                  go_wp2_with fail
                  go_meet
                  case rel =>
                    have e1 := Hmv.out
                    refine ⟨by rw [e1]; exact HA.out.2, ?_, Keeps.refl _ _⟩
                    have e2 : markStep Mk (M1, mkv) = Mk := by
                      unfold markStep
                      simp only
                      rw [if_neg (by omega)]
                    rw [e2]
                    exact Hmap.out
              case rest =>
                obtain ⟨nb, hmapc, hkc⟩ := hcut
                clear cb fb lb cx lx e10 lb10
                have hoth : ∀ b ∈ [mb, bb], Other W10 b := fun b hb => by
                  simp only [List.mem_cons, List.not_mem_nil, or_false] at hb
                  rcases hb with rfl | rfl
                  · exact .inl ⟨_, Hmap.out⟩
                  · exact .inr ⟨_, _, _, HA.out.2, by decide, by decide, by decide⟩
                obtain ⟨dn, hdn⟩ : ∃ d : BlkD, d = ((M1, mkv), (.slice af 2 cf, .slice ao Sf.length co, .slice ag 2 cg)) := ⟨_, rfl⟩
                have hdnew : DOk w.heap.size W10 dn := by
                  rw [hdn]
                  refine ⟨?_, ?_, ?_⟩
                  · simp only
                    rw [HM1.out.2.2, HM1.out.2.1.2.2.2.2.2.2.1]
                    exact HA.out.1.1.2.1
                  · simp only
                    rw [HM1.out.2.1.2.2.2.2.2.2.2]
                    exact HA.out.1.1.2.2.1
                  · simp only
                    rw [HM1.out.2.2]
                    exact HA.out.1.2
                have hdsC : ∀ d ∈ D ++ [dn], DOk w.heap.size wc d := fun d hd => by
                  rcases List.mem_append.1 hd with hd | hd
                  · exact (HA.out.1.1.2.2.2.2.2.2.1 d hd).out hkc hoth
                  · simp only [List.mem_singleton] at hd
                    subst hd
                    exact hdnew.out hkc hoth
                have hrm10 := HA.out.1.1.2.2.2.1
                have hrt10 := HA.out.1.1.2.2.2.2.1
                have hrmC := hkc.row hrm10 (fun g hg hm => by
                  simp only [List.mem_cons, List.not_mem_nil, or_false] at hm
                  rcases hm with rfl | rfl
                  · exact row_ne_map hrm10 Hmap.out (by rw [hg]; simp)
                  · exact row_ne_type hrm10 HA.out.2 (by decide) g hg rfl)
                have hrtC := hkc.row hrt10 (fun g hg hm => by
                  simp only [List.mem_cons, List.not_mem_nil, or_false] at hm
                  rcases hm with rfl | rfl
                  · exact row_ne_map hrt10 Hmap.out (by rw [hg]; simp)
                  · simp [Value.ownBlock] at hg; omega)
                have hkwC := HA.out.1.1.2.2.2.2.2.2.2.after hkc (fun x hx => .inr (by
                  simp only [List.mem_cons, List.not_mem_nil, or_false] at hx
                  rcases hx with rfl | rfl
                  · omega
                  · omega))
                have cb := cells_at nb
                have lb := lt_of_at nb
                have hwc := hkwC.size
                have HC := Lib.hid (And.intro hrmC (And.intro hrtC (And.intro hmapc (And.intro hdsC hkwC))))
                have Hdn := Lib.hid hdn
                clear hrm10 hrt10 hrmC hrtC hdsC hdnew hoth hkwC hmapc hdn nb HA Hmap hkc
                go_upto_region 6 with (at_builtin; refine wpList_append_own _ rfl (.tmp 114) (.tmp 116) 38 rfl w.heap.size 68 ib _ 9 112 Tryz.underlying38 hib hzb0 hzb1 hzb2 rfl (by decide) (.slice (some ⟨gt, 0, none⟩) k ct) k (D.flatMap cellsT) rfl (HC.out.2.1.alloc _) ⟨wc.heap.size, 0, none⟩ 1 1 [.string m0.id, .int .i64 m0.mn, .int .i64 m0.mx, .int .i64 m0.level, .int .i64 m0.series, .int .i64 m0.samples, .slice ag 2 cg, .slice ao Sf.length co, .int .i64 mkv] rfl rfl (news_of (heap_new wc _)) (by simp [Value.oneCell']) (by simp only [maxLen]; omega) (by omega) (by simp; omega) ?_; intro v9 w9 hown9 hgrow9 hnil; obtain ⟨gt9, ct9, hv9⟩ := row_some hown9 (fun e => by have := (hnil.1 e).1; cases this); clear hnil; subst hv9)
                have kb := keeps_rowM hgrow9
                have hr0 := HC.out.2.1
                have ka : Keeps [] wc (wc.alloc (.cells #[.string m0.id, .int .i64 m0.mn, .int .i64 m0.mx, .int .i64 m0.level, .int .i64 m0.series, .int .i64 m0.samples, .slice ag 2 cg, .slice ao Sf.length co, .int .i64 mkv] 68)) := (Keeps.refl [] wc).alloc _
                have hra := kp ka hr0
                have hrm9 := kb.row (kp ka HC.out.1) (rows_neM hra (kp ka HC.out.1) (by decide))
                have hmp9 := (kp ka HC.out.2.2.1).keep kb (row_ne_map hra (kp ka HC.out.2.2.1))
                have hds9 : ∀ d ∈ D ++ [dn], DOk w.heap.size w9 d := fun d hd => ((HC.out.2.2.2.1 d hd).same ka).keepRow hra kb ⟨by decide, by decide, by decide⟩
                have hkw9 := keeps_grownM (HC.out.2.2.2.2.alloc (.cells #[.string m0.id, .int .i64 m0.mn, .int .i64 m0.mx, .int .i64 m0.level, .int .i64 m0.series, .int .i64 m0.samples, .slice ag 2 cg, .slice ao Sf.length co, .int .i64 mkv] 68)) hgrow9 (fun g hg => (World.ownsRow.lt hr0 g hg).1)
                have hcM : cellsM dn = [.string m0.id, .int .i64 m0.mn, .int .i64 m0.mx, .int .i64 m0.level, .int .i64 m0.series, .int .i64 m0.samples, .slice af 2 cf, .slice ao Sf.length co] := by rw [Hdn.out, HM1.out.1]; rfl
                have hcT : cellsT dn = [.string m0.id, .int .i64 m0.mn, .int .i64 m0.mx, .int .i64 m0.level, .int .i64 m0.series, .int .i64 m0.samples, .slice ag 2 cg, .slice ao Sf.length co, .int .i64 mkv] := by rw [Hdn.out, HM1.out.1]; rfl
                have hrmF : w9.ownsRow w.heap.size 63 8 (.slice (some ⟨gm8, 0, none⟩) (k + 1) cm8) (k + 1) ((D ++ [dn]).flatMap cellsM) := by
                  rw [List.flatMap_append, List.flatMap_singleton, hcM]
                  exact hrm9
                have hrtF : w9.ownsRow w.heap.size 68 9 (.slice (some ⟨gt9, 0, none⟩) (k + 1) ct9) (k + 1) ((D ++ [dn]).flatMap cellsT) := by
                  rw [List.flatMap_append, List.flatMap_singleton, hcT]
                  exact hown9
                have hnm : (M1, mkv) = (nextM (T.map (·.1)) o, markV o.mark) := by
                  rw [HM1.out.1, Hmkv.out]
                  unfold nextM
                  have e1 : (T.map (·.1)).length = k := by rw [List.length_map]; exact HD.out.2.2.2
                  have e2 : (T.map (·.1)).map (·.id) = ids := by rw [Hids.out.1, ← HD.out.1, List.map_map, List.map_map]; rfl
                  rw [e1, e2, ← Hm0.out, HSf.out, Hn2.out, take_min ids k o.m.sn Hids.out.2.2]
                have hstep : blkL (O.take (k + 1)) = T ++ [(M1, mkv)] := by
                  rw [HD.out.2.1, hnm]
                  rfl
                have hmpF : MapAt w9 mb (encMap encI (marksOf (blkL (O.take (k + 1))))) := by
                  rw [hstep, marksOf_snoc, ← HMk.out]
                  exact hmp9
                have hmapF : (D ++ [dn]).map (·.1) = blkL (O.take (k + 1)) := by
                  rw [hstep, List.map_append, HD.out.1, Hdn.out]
                  rfl
                have HF := Lib.hid (And.intro hmapF (And.intro hrmF (And.intro hrtF (And.intro hmpF (And.intro hds9 hkw9)))))
                clear kb hr0 ka hra hrm9 hmp9 hds9 hkw9 hcM hcT hrmF hrtF hnm hstep hmpF hmapF hown9 hgrow9 HC cb lb
                go_wp2_with fail
                go_roundg (n - (k + 1))
                case measure => have := Hg.out; omega
                case rel => exact ⟨k + 1, gm8, cm8, gt9, ct9, D ++ [dn], by omega, rfl, by go_num, rfl, rfl, HF.out⟩
    · have hkn : k = n := by omega
      have hDl : D.length = k := by
        have := congrArg List.length hD
        rw [List.length_map, blkL_len, List.length_take] at this
        omega
      have hTFD : TF = D.map (·.1) := by
        rw [HTF.out, hD, hkn, hn, take_min O O.length 10 rfl]
      have hmk : marksOf (blkL (O.take k)) = marksOf TF := by rw [hTFD, hD]
      rw [hmk] at hmp
      rw [← hDl] at hrm hrt
      have hbv := blksV_D hrt hds
      have hmv := metasV_D hrm hds
      rw [← hTFD] at hbv hmv
      have hTl : TF.length = k := by rw [hTFD, List.length_map]; exact hDl
      have hTl10 : TF.length ≤ 20 := by omega
      rw [hDl] at hbv hmv
      have hso := sortedR_spec w.heap.size wr _ TF hbv hTl10 hkw.size
      have Hso := Lib.hid hso
      have HE := Lib.hid (And.intro hmv (And.intro hmp (And.intro hkw hTl)))
      have hor : (¬ (k : Int) < (O.length : Int)) ∨ ((k : Int) < (O.length : Int) ∧ ¬ (k : Int) < 10) := by omega
      clear hbv hmv hso hTl hTl10 hmk hTFD hrm hrt hds hmp hkw hD hkn hDl hgk hn
      go_upto_region 5 with fail
      go_cut [23] from 16 to 22 (fun c wc => c = .bool false ∧ wc = wr)
      case first =>
        rcases hor with h1 | ⟨h1, h2⟩
        all_goals
          go_wp2_with fail
          go_meet
          exact ⟨rfl, rfl⟩
      case rest =>
        obtain ⟨rfl, rfl⟩ := hcut
        go_wp2_with fail
        refine Hso.out.mono ?_
        rintro e w9 ⟨vt, rfl, hbv, hk9⟩
        have H9 := Lib.hid (And.intro (kp hk9 HE.out) hbv)
        clear hbv hk9 Hso HE
        go_wp2_with fail
        go_ret3
        have hTl := H9.out.1.2.2.2
        exact ⟨gm, cm, mb, vt, by rw [hTl]; rfl, by rw [hTl]; exact H9.out.1.1, H9.out.1.2.1, hbb.2.1, H9.out.2, H9.out.1.2.2.1⟩
end Go.Proofs.YtjffdcflkkgpfaaGreat
