/-
  What the document takes of any bytes as a meta (package barographref09, Take): fieldsT, where okT says that it may be.
  The bytes are not too many.

  What the document takes of any bytes as a meta's object (package barographref09, Decode): decS.
  The text has at most 1,000,000 bytes.
-/
import Derived.Test.YtjffdcflkkgpfaaGreatRChk
import Derived.Test.YtjffdcflkkgpfaaGreatRTake
import Derived.Test.YtjffdcflkkgpfaaGreatTold9
import Derived.Test.YtjffdcflkkgpfaaGreatSortMetas
namespace Go.Proofs.YtjffdcflkkgpfaaGreat
open Go Go.RowKit

def rTakeR (F : MetaT × Tk) : Option (MetaT × List UInt8) := if F.2.2 ≠ 0 ∨ okT F.1 = false then none else some (F.1, F.2.1)

def zeroT : Value := .agg #[.string ⟨#[]⟩, .int .i64 0, .int .i64 0, .int .i64 0, .int .i64 0, .int .i64 0, .slice none 0 0, .slice none 0 0]

def MetaQT (base : Nat) (w : World) (vs : List Value) (m : MetaT) : Prop :=
  ∃ vf vo, vs = [.string ⟨m.id.toArray⟩, .int .i64 m.mn, .int .i64 m.mx, .int .i64 m.level, .int .i64 m.series, .int .i64 m.samples, vf, vo] ∧ w.ownsRow base 170 3 vf m.files.length (m.files.flatMap encFileT) ∧ w.ownsRow base 9 1 vo m.sources.length (m.sources.flatMap encS1T)

theorem MetaQT.same {base : Nat} {w w' : World} {vs : List Value} {m : MetaT} (h : MetaQT base w vs m) (k : Keeps [] w w') : MetaQT base w' vs m := by
  obtain ⟨vf, vo, e, h1, h2⟩ := h
  exact ⟨vf, vo, e, k.row h1 (by simp), k.row h2 (by simp)⟩

theorem MetaQT.low {B B' : Nat} {w : World} {vs : List Value} {m : MetaT} (h : MetaQT B w vs m) (hB : B' ≤ B) : MetaQT B' w vs m := by
  obtain ⟨vf, vo, e, h1, h2⟩ := h
  exact ⟨vf, vo, e, row_base h1 hB, row_base h2 hB⟩

theorem MetaQT.out {base b : Nat} {w w' : World} {vs : List Value} {m : MetaT} {cs : Array Value} {z : Nat × Nat} (h : MetaQT base w vs m) (k : Keeps [b] w w') (hb : w.heap[b]? = some (.cells cs 66 z)) : MetaQT base w' vs m := by
  obtain ⟨vf, vo, e, h1, h2⟩ := h
  exact ⟨vf, vo, e, k.row h1 (fun g hg => by have := row_ne_type h1 hb (by decide) g hg; simpa using this), k.row h2 (fun g hg => by have := row_ne_type h2 hb (by decide) g hg; simpa using this)⟩

def RTakeNo (w : World) (e : Ending) (w' : World) : Prop := ∃ c : Int, c ≠ 0 ∧ e = .returned (.tuple #[zeroT, .string ⟨#[]⟩, .int .i64 c]) ∧ Keeps [] w w'

def RTakeYes (w : World) (m : MetaT) (l : List UInt8) (e : Ending) (w' : World) : Prop := ∃ vs, e = .returned (.tuple #[.agg vs.toArray, .string ⟨l.toArray⟩, .int .i64 0]) ∧ MetaQT w.heap.size w' vs m ∧ Keeps [] w w'

def RTakePost (w : World) (r : Option (MetaT × List UInt8)) (e : Ending) (w' : World) : Prop := match r with
  | none => RTakeNo w e w'
  | some p => RTakeYes w p.1 p.2 e w'

theorem set2c {w : World} {p : Nat} {t : TypeId} {a0 a1 v0 v1 : Value} {z : Nat × Nat} (h : w.heap[p]? = some (.cells #[a0, a1] t z)) :
    ((w.setCell ⟨p, 0, none⟩ v0).setCell ⟨p, 1, none⟩ v1).heap[p]? = some (.cells #[v0, v1] t z) ∧ Keeps [p] w ((w.setCell ⟨p, 0, none⟩ v0).setCell ⟨p, 1, none⟩ v1) := by
  have h0 := heap_cell_same (i := 0) h v0
  have h1 := heap_cell_same (i := 1) h0 v1
  exact ⟨h1.trans (by simp), ((Keeps.refl [p] w).setCell (.inl (by simp)) v0).setCell (.inl (by simp)) v1⟩

def RkT1 (w : World) (rb mb cb : Nat) (x0 : List UInt8) (x1 x2 x3 x4 x5 : Int) (s6 : Tk) (gk : Nat) (u : Value) (wr : World) : Prop :=
  ∃ k vf, k ≤ 2 ∧ gk = 2 - k ∧ u = .int .i64 k ∧ wr.heap[cb]? = some (.cells #[.string ⟨(fileSt s6 k).2.1.toArray⟩, .int .i64 (fileSt s6 k).2.2] 178 (0, 0)) ∧ wr.heap[rb]? = some (.cells #[.string ⟨#[]⟩, .int .i64 0, .int .i64 0, .int .i64 0, .int .i64 0, .int .i64 0, .slice none 0 0, .slice none 0 0] 66 (0, 0)) ∧ wr.heap[mb]? = some (.cells #[.string ⟨x0.toArray⟩, .int .i64 x1, .int .i64 x2, .int .i64 x3, .int .i64 x4, .int .i64 x5, vf, .slice none 0 0] 66 (0, 0)) ∧ wr.ownsRow (w.heap.size + 2) 170 3 vf k ((fileSt s6 k).1.flatMap encFileT) ∧ Keeps [] w wr

def RkT2 (w : World) (rb mb cb : Nat) (x0 : List UInt8) (x1 x2 x3 x4 x5 : Int) (vf : Value) (FL : List (List UInt8 × Int × Int)) (s8 : Tk) (n : Nat) (gk : Nat) (u : Value) (wr : World) : Prop :=
  ∃ k vo, k ≤ n ∧ gk = n - k ∧ u = .int .i64 k ∧ wr.heap[cb]? = some (.cells #[.string ⟨(srcSt s8 k).2.1.toArray⟩, .int .i64 (srcSt s8 k).2.2] 178 (0, 0)) ∧ wr.heap[rb]? = some (.cells #[.string ⟨#[]⟩, .int .i64 0, .int .i64 0, .int .i64 0, .int .i64 0, .int .i64 0, .slice none 0 0, .slice none 0 0] 66 (0, 0)) ∧ wr.heap[mb]? = some (.cells #[.string ⟨x0.toArray⟩, .int .i64 x1, .int .i64 x2, .int .i64 x3, .int .i64 x4, .int .i64 x5, vf, vo] 66 (0, 0)) ∧ wr.ownsRow (w.heap.size + 2) 170 3 vf 2 (FL.flatMap encFileT) ∧
    wr.ownsRow (w.heap.size + 2) 9 1 vo (srcSt s8 k).1.length ((srcSt s8 k).1.flatMap encS1T) ∧ Keeps [] w wr


set_option linter.unusedSimpArgs false in
set_option maxRecDepth 100000 in
set_option maxHeartbeats 4000000 in
theorem rTake_spec (w : World) (s : ByteArray) (hz : s.size ≤ 1000000000) :
    Calls Tryz.prog 89 #[.string s] w (RTakePost w (rTakeR (fieldsT (s.data.toList, 0)))) := by
  obtain ⟨ifl, hif, hzf0, hzf1, hzf2⟩ := info_parts infoFile9
  obtain ⟨ist, his, hzs0, hzs1, hzs2⟩ := info_parts infoStrM
  obtain ⟨R, hR⟩ : ∃ R, R = rTakeR (fieldsT (s.data.toList, 0)) := ⟨_, rfl⟩
  have HR := Lib.hid hR
  rw [← hR]
  clear hR
  have hl0 : s.data.toList.length ≤ 1000000000 := by rw [dsize]; exact hz
  have hse : s = ⟨s.data.toList.toArray⟩ := ba_ext rfl
  obtain ⟨l0, hl⟩ : ∃ l, l = s.data.toList := ⟨_, rfl⟩
  rw [← hl] at hse hl0
  have Ht := Lib.hid (fun W => by
    have h := rText_spec W (l0, 0) (by unfold maxLen; simp only; omega) 16 (by decide)
    rw [show curV (l0, 0) = .agg #[.string s, .int .i64 0] from by rw [hse]; rfl] at h
    exact h)
  have HL := Lib.hid hl
  obtain ⟨rb, hrb⟩ : ∃ n, n = w.heap.size := ⟨_, rfl⟩
  obtain ⟨mb, hmb⟩ : ∃ n, n = w.heap.size + 1 := ⟨_, rfl⟩
  have n0 := new2 w (.cells #[.string ⟨#[]⟩, .int .i64 0, .int .i64 0, .int .i64 0, .int .i64 0, .int .i64 0, .slice none 0 0, .slice none 0 0] 66) (.cells #[.string ⟨#[]⟩, .int .i64 0, .int .i64 0, .int .i64 0, .int .i64 0, .int .i64 0, .slice none 0 0, .slice none 0 0] 66)
  have k0 : Keeps [] w ((w.alloc (.cells #[.string ⟨#[]⟩, .int .i64 0, .int .i64 0, .int .i64 0, .int .i64 0, .int .i64 0, .slice none 0 0, .slice none 0 0] 66)).alloc (.cells #[.string ⟨#[]⟩, .int .i64 0, .int .i64 0, .int .i64 0, .int .i64 0, .int .i64 0, .slice none 0 0, .slice none 0 0] 66)) := ((Keeps.refl [] w).alloc _).alloc _
  have hz0 : ((w.alloc (.cells #[.string ⟨#[]⟩, .int .i64 0, .int .i64 0, .int .i64 0, .int .i64 0, .int .i64 0, .slice none 0 0, .slice none 0 0] 66)).alloc (.cells #[.string ⟨#[]⟩, .int .i64 0, .int .i64 0, .int .i64 0, .int .i64 0, .int .i64 0, .slice none 0 0, .slice none 0 0] 66)).heap.size = w.heap.size + 2 := by simp
  have hw0 : w.heap.size ≤ rb ∧ w.heap.size ≤ mb ∧ w.heap.size + 1 ≤ mb ∧ rb ≠ mb ∧ rb < w.heap.size + 2 ∧ mb < w.heap.size + 2 := by omega
  have HB := Lib.hid (And.intro hrb hmb)
  have H0 := Lib.hid (And.intro n0.1 (And.intro n0.2 (And.intro k0 hz0)))
  clear hrb hmb n0 k0 hse hl hz hz0
  go_enter Tryz.func89, Tryz.ntmps89
  go_wp2_with fail
  rw [← HB.out.2] at H0 ⊢
  rw [← HB.out.1] at H0 ⊢
  generalize (w.alloc (.cells #[.string ⟨#[]⟩, .int .i64 0, .int .i64 0, .int .i64 0, .int .i64 0, .int .i64 0, .slice none 0 0, .slice none 0 0] 66)).alloc (.cells #[.string ⟨#[]⟩, .int .i64 0, .int .i64 0, .int .i64 0, .int .i64 0, .int .i64 0, .slice none 0 0, .slice none 0 0] 66) = W at H0 ⊢
  refine (Ht.out _).mono ?_
  rintro e wa0 ⟨rfl, hk⟩
  have hleft := tkT_left (l0, 0) 16
  obtain ⟨A0, hA⟩ : ∃ A, A = tkT (l0, 0) 16 := ⟨_, rfl⟩
  rw [← hA] at hleft ⊢
  have HA0 := Lib.hid hA
  clear hA
  obtain ⟨x0, l1, e1⟩ := A0
  dsimp only at hleft ⊢
  have hl1 : l1.length ≤ 1000000000 := by omega
  simp only [curV]
  have ka : Keeps [] wa0 (wa0.alloc (.cells #[.string ⟨l1.toArray⟩, .int .i64 e1] 178)) := (Keeps.refl [] wa0).alloc _
  have na := heap_new wa0 (.cells #[.string ⟨l1.toArray⟩, .int .i64 e1] 178)
  obtain ⟨cb, hcb⟩ : ∃ n, n = wa0.heap.size := ⟨_, rfl⟩
  have hcn : cb ≠ rb ∧ cb ≠ mb ∧ w.heap.size ≤ cb := by have := hk.size; have := H0.out.2.2.2; omega
  rw [← hcb] at na
  have HC := Lib.hid hcb
  have H1 := Lib.hid (And.intro na (And.intro (ka.at_ (hk.at_ H0.out.1 (by simp)) (by simp)) (And.intro (ka.at_ (hk.at_ H0.out.2.1 (by simp)) (by simp)) ((H0.out.2.2.1.trans hk).trans ka))))
  clear hk ka na hcb hleft H0 Ht
  go_upto_region 3 with fail
  rw [← HC.out]
  clear HC
  generalize wa0.alloc (.cells #[.string ⟨l1.toArray⟩, .int .i64 e1] 178) = wb0 at H1 ⊢
  have cm := cells_at H1.out.2.2.1
  have fm := free_at H1.out.2.2.1
  have lm := lt_of_at H1.out.2.2.1
  have nm2 : (wb0.setCell ⟨mb, 0, none⟩ (.string ⟨x0.toArray⟩)).heap[mb]? = some (.cells #[.string ⟨x0.toArray⟩, .int .i64 0, .int .i64 0, .int .i64 0, .int .i64 0, .int .i64 0, .slice none 0 0, .slice none 0 0] 66 (0, 0)) := (heap_cell_same (i := 0) (H1.out.2.2.1) (.string ⟨x0.toArray⟩)).trans (by simp)
  have k2 : Keeps [mb] wb0 (wb0.setCell ⟨mb, 0, none⟩ (.string ⟨x0.toArray⟩)) := (((Keeps.refl [mb] wb0)).setCell (.inl (by simp)) (.string ⟨x0.toArray⟩))
  have H2 := Lib.hid (And.intro (k2.at_ H1.out.1 (by simp; omega)) (And.intro (k2.at_ H1.out.2.1 (by simp; omega)) (And.intro nm2 (H1.out.2.2.2.after k2 (fun x hx => .inr (by simp only [List.mem_singleton] at hx; omega))))))
  clear nm2 k2
  go_upto_region 4 with fail
  clear cm fm lm H1
  generalize wb0.setCell ⟨mb, 0, none⟩ (.string ⟨x0.toArray⟩) = W2 at H2 ⊢
  have cc := cells_at H2.out.1
  have lc := lt_of_at H2.out.1
  go_wp2_with fail
  clear cc lc
  refine (rNum_spec W2 (l1, e1) (by unfold maxLen; simp only; omega) 1099511627776 (by decide)).mono ?_
  rintro e wa1 ⟨rfl, hk⟩
  have hleft := tkN_left (l1, e1) 1099511627776
  obtain ⟨A1, hA⟩ : ∃ A, A = tkN (l1, e1) 1099511627776 := ⟨_, rfl⟩
  rw [← hA] at hleft ⊢
  have HA1 := Lib.hid hA
  clear hA
  obtain ⟨x1, l2, e2⟩ := A1
  dsimp only at hleft ⊢
  have hl2 : l2.length ≤ 1000000000 := by omega
  simp only [curV]
  have nc := hk.at_ H2.out.1 (by simp)
  have cc := cells_at nc
  have fc := free_at nc
  have lc := lt_of_at nc
  have se := set2c (v0 := .string ⟨l2.toArray⟩) (v1 := .int .i64 e2) nc
  have H3 := Lib.hid (And.intro se.1 (And.intro (se.2.at_ (hk.at_ H2.out.2.1 (by simp)) (by simp; omega)) (And.intro (se.2.at_ (hk.at_ H2.out.2.2.1 (by simp)) (by simp; omega)) ((H2.out.2.2.2.trans hk).after se.2 (fun x hx => .inr (by simp only [List.mem_singleton] at hx; omega))))))
  clear hk nc se hleft
  go_upto_region 5 with fail
  clear cc fc lc H2
  generalize (wa1.setCell ⟨cb, 0, none⟩ (.string ⟨l2.toArray⟩)).setCell ⟨cb, 1, none⟩ (.int .i64 e2) = W3 at H3 ⊢
  have cc := cells_at H3.out.1
  have lc := lt_of_at H3.out.1
  go_wp2_with fail
  clear cc lc
  refine (rNum_spec W3 (l2, e2) (by unfold maxLen; simp only; omega) 1099511627776 (by decide)).mono ?_
  rintro e wa2 ⟨rfl, hk⟩
  have hleft := tkN_left (l2, e2) 1099511627776
  obtain ⟨A2, hA⟩ : ∃ A, A = tkN (l2, e2) 1099511627776 := ⟨_, rfl⟩
  rw [← hA] at hleft ⊢
  have HA2 := Lib.hid hA
  clear hA
  obtain ⟨x2, l3, e3⟩ := A2
  dsimp only at hleft ⊢
  have hl3 : l3.length ≤ 1000000000 := by omega
  simp only [curV]
  have nc := hk.at_ H3.out.1 (by simp)
  have cc := cells_at nc
  have fc := free_at nc
  have lc := lt_of_at nc
  have se := set2c (v0 := .string ⟨l3.toArray⟩) (v1 := .int .i64 e3) nc
  have H4 := Lib.hid (And.intro se.1 (And.intro (se.2.at_ (hk.at_ H3.out.2.1 (by simp)) (by simp; omega)) (And.intro (se.2.at_ (hk.at_ H3.out.2.2.1 (by simp)) (by simp; omega)) ((H3.out.2.2.2.trans hk).after se.2 (fun x hx => .inr (by simp only [List.mem_singleton] at hx; omega))))))
  clear hk nc se hleft
  go_upto_region 6 with fail
  clear cc fc lc H3
  generalize (wa2.setCell ⟨cb, 0, none⟩ (.string ⟨l3.toArray⟩)).setCell ⟨cb, 1, none⟩ (.int .i64 e3) = W4 at H4 ⊢
  have cm := cells_at H4.out.2.2.1
  have fm := free_at H4.out.2.2.1
  have lm := lt_of_at H4.out.2.2.1
  have nm2 : ((W4.setCell ⟨mb, 1, none⟩ (.int .i64 x1)).setCell ⟨mb, 2, none⟩ (.int .i64 x2)).heap[mb]? = some (.cells #[.string ⟨x0.toArray⟩, .int .i64 x1, .int .i64 x2, .int .i64 0, .int .i64 0, .int .i64 0, .slice none 0 0, .slice none 0 0] 66 (0, 0)) := (heap_cell_same (i := 2) (heap_cell_same (i := 1) (H4.out.2.2.1) (.int .i64 x1)) (.int .i64 x2)).trans (by simp)
  have k2 : Keeps [mb] W4 ((W4.setCell ⟨mb, 1, none⟩ (.int .i64 x1)).setCell ⟨mb, 2, none⟩ (.int .i64 x2)) := (((((Keeps.refl [mb] W4)).setCell (.inl (by simp)) (.int .i64 x1))).setCell (.inl (by simp)) (.int .i64 x2))
  have H5 := Lib.hid (And.intro (k2.at_ H4.out.1 (by simp; omega)) (And.intro (k2.at_ H4.out.2.1 (by simp; omega)) (And.intro nm2 (H4.out.2.2.2.after k2 (fun x hx => .inr (by simp only [List.mem_singleton] at hx; omega))))))
  clear nm2 k2
  go_upto_region 8 with fail
  clear cm fm lm H4
  generalize (W4.setCell ⟨mb, 1, none⟩ (.int .i64 x1)).setCell ⟨mb, 2, none⟩ (.int .i64 x2) = W5 at H5 ⊢
  have cc := cells_at H5.out.1
  have lc := lt_of_at H5.out.1
  go_wp2_with fail
  clear cc lc
  refine (rNum_spec W5 (l3, e3) (by unfold maxLen; simp only; omega) 9 (by decide)).mono ?_
  rintro e wa3 ⟨rfl, hk⟩
  have hleft := tkN_left (l3, e3) 9
  obtain ⟨A3, hA⟩ : ∃ A, A = tkN (l3, e3) 9 := ⟨_, rfl⟩
  rw [← hA] at hleft ⊢
  have HA3 := Lib.hid hA
  clear hA
  obtain ⟨x3, l4, e4⟩ := A3
  dsimp only at hleft ⊢
  have hl4 : l4.length ≤ 1000000000 := by omega
  simp only [curV]
  have nc := hk.at_ H5.out.1 (by simp)
  have cc := cells_at nc
  have fc := free_at nc
  have lc := lt_of_at nc
  have se := set2c (v0 := .string ⟨l4.toArray⟩) (v1 := .int .i64 e4) nc
  have H6 := Lib.hid (And.intro se.1 (And.intro (se.2.at_ (hk.at_ H5.out.2.1 (by simp)) (by simp; omega)) (And.intro (se.2.at_ (hk.at_ H5.out.2.2.1 (by simp)) (by simp; omega)) ((H5.out.2.2.2.trans hk).after se.2 (fun x hx => .inr (by simp only [List.mem_singleton] at hx; omega))))))
  clear hk nc se hleft
  go_upto_region 9 with fail
  clear cc fc lc H5
  generalize (wa3.setCell ⟨cb, 0, none⟩ (.string ⟨l4.toArray⟩)).setCell ⟨cb, 1, none⟩ (.int .i64 e4) = W6 at H6 ⊢
  have cc := cells_at H6.out.1
  have lc := lt_of_at H6.out.1
  go_wp2_with fail
  clear cc lc
  refine (rNum_spec W6 (l4, e4) (by unfold maxLen; simp only; omega) 1073741824 (by decide)).mono ?_
  rintro e wa4 ⟨rfl, hk⟩
  have hleft := tkN_left (l4, e4) 1073741824
  obtain ⟨A4, hA⟩ : ∃ A, A = tkN (l4, e4) 1073741824 := ⟨_, rfl⟩
  rw [← hA] at hleft ⊢
  have HA4 := Lib.hid hA
  clear hA
  obtain ⟨x4, l5, e5⟩ := A4
  dsimp only at hleft ⊢
  have hl5 : l5.length ≤ 1000000000 := by omega
  simp only [curV]
  have nc := hk.at_ H6.out.1 (by simp)
  have cc := cells_at nc
  have fc := free_at nc
  have lc := lt_of_at nc
  have se := set2c (v0 := .string ⟨l5.toArray⟩) (v1 := .int .i64 e5) nc
  have H7 := Lib.hid (And.intro se.1 (And.intro (se.2.at_ (hk.at_ H6.out.2.1 (by simp)) (by simp; omega)) (And.intro (se.2.at_ (hk.at_ H6.out.2.2.1 (by simp)) (by simp; omega)) ((H6.out.2.2.2.trans hk).after se.2 (fun x hx => .inr (by simp only [List.mem_singleton] at hx; omega))))))
  clear hk nc se hleft
  go_upto_region 10 with fail
  clear cc fc lc H6
  generalize (wa4.setCell ⟨cb, 0, none⟩ (.string ⟨l5.toArray⟩)).setCell ⟨cb, 1, none⟩ (.int .i64 e5) = W7 at H7 ⊢
  have cc := cells_at H7.out.1
  have lc := lt_of_at H7.out.1
  go_wp2_with fail
  clear cc lc
  refine (rNum_spec W7 (l5, e5) (by unfold maxLen; simp only; omega) 1073741824 (by decide)).mono ?_
  rintro e wa5 ⟨rfl, hk⟩
  have hleft := tkN_left (l5, e5) 1073741824
  obtain ⟨A5, hA⟩ : ∃ A, A = tkN (l5, e5) 1073741824 := ⟨_, rfl⟩
  rw [← hA] at hleft ⊢
  have HA5 := Lib.hid hA
  clear hA
  obtain ⟨x5, l6, e6⟩ := A5
  dsimp only at hleft ⊢
  have hl6 : l6.length ≤ 1000000000 := by omega
  simp only [curV]
  have nc := hk.at_ H7.out.1 (by simp)
  have cc := cells_at nc
  have fc := free_at nc
  have lc := lt_of_at nc
  have se := set2c (v0 := .string ⟨l6.toArray⟩) (v1 := .int .i64 e6) nc
  have H8 := Lib.hid (And.intro se.1 (And.intro (se.2.at_ (hk.at_ H7.out.2.1 (by simp)) (by simp; omega)) (And.intro (se.2.at_ (hk.at_ H7.out.2.2.1 (by simp)) (by simp; omega)) ((H7.out.2.2.2.trans hk).after se.2 (fun x hx => .inr (by simp only [List.mem_singleton] at hx; omega))))))
  clear hk nc se hleft
  go_upto_region 11 with fail
  clear cc fc lc H7
  generalize (wa5.setCell ⟨cb, 0, none⟩ (.string ⟨l6.toArray⟩)).setCell ⟨cb, 1, none⟩ (.int .i64 e6) = W8 at H8 ⊢
  have cm := cells_at H8.out.2.2.1
  have fm := free_at H8.out.2.2.1
  have lm := lt_of_at H8.out.2.2.1
  have nm2 : (((W8.setCell ⟨mb, 3, none⟩ (.int .i64 x3)).setCell ⟨mb, 4, none⟩ (.int .i64 x4)).setCell ⟨mb, 5, none⟩ (.int .i64 x5)).heap[mb]? = some (.cells #[.string ⟨x0.toArray⟩, .int .i64 x1, .int .i64 x2, .int .i64 x3, .int .i64 x4, .int .i64 x5, .slice none 0 0, .slice none 0 0] 66 (0, 0)) := (heap_cell_same (i := 5) (heap_cell_same (i := 4) (heap_cell_same (i := 3) (H8.out.2.2.1) (.int .i64 x3)) (.int .i64 x4)) (.int .i64 x5)).trans (by simp)
  have k2 : Keeps [mb] W8 (((W8.setCell ⟨mb, 3, none⟩ (.int .i64 x3)).setCell ⟨mb, 4, none⟩ (.int .i64 x4)).setCell ⟨mb, 5, none⟩ (.int .i64 x5)) := (((((((Keeps.refl [mb] W8)).setCell (.inl (by simp)) (.int .i64 x3))).setCell (.inl (by simp)) (.int .i64 x4))).setCell (.inl (by simp)) (.int .i64 x5))
  have H9 := Lib.hid (And.intro (k2.at_ H8.out.1 (by simp; omega)) (And.intro (k2.at_ H8.out.2.1 (by simp; omega)) (And.intro nm2 (H8.out.2.2.2.after k2 (fun x hx => .inr (by simp only [List.mem_singleton] at hx; omega))))))
  clear nm2 k2
  go_upto_region 14 with fail
  clear cm fm lm H8
  generalize ((W8.setCell ⟨mb, 3, none⟩ (.int .i64 x3)).setCell ⟨mb, 4, none⟩ (.int .i64 x4)).setCell ⟨mb, 5, none⟩ (.int .i64 x5) = W9 at H9 ⊢
  go_wp2_with fail
  go_loopg [13] 2 (RkT1 w rb mb cb x0 x1 x2 x3 x4 x5 (l6, e6))
  case atStart => exact ⟨0, .slice none 0 0, by decide, rfl, rfl, H9.out.1, H9.out.2.1, H9.out.2.2.1, by simpa [fileSt] using World.ownsRow_nil W9 (w.heap.size + 2) _ 3, H9.out.2.2.2⟩
  case round =>
    obtain ⟨k, vf, hk, hgk, rfl, hcb, hrb, hmb, hrow, hkr⟩ := hrel
    clear H9
    have Hg := Lib.hid hgk
    clear hgk
    have hwr := hkr.size
    have hfl := fileSt_len (l6, e6) k
    have hfleft := fileSt_left (l6, e6) k
    by_cases hlt : k < 2
    · have hlt' : (k : Int) < 2 := by omega
      have hnx := fileSt_next (l6, e6) k
      obtain ⟨S, hS⟩ : ∃ S, S = fileSt (l6, e6) k := ⟨_, rfl⟩
      rw [← hS] at hrow hcb hfl hfleft hnx
      clear hS
      obtain ⟨F, u0, g0⟩ := S
      dsimp only at hrow hcb hfl hfleft hnx
      have hu0 : u0.length ≤ 1000000000 := by omega
      have Hn0 := Lib.hid hnx
      clear hnx hfleft
      have HF := Lib.hid (And.intro hcb (And.intro hrb (And.intro hmb (And.intro hrow hkr))))
      have cc := cells_at hcb
      have lc := lt_of_at hcb
      clear hcb hrb hmb hrow hkr
      go_wp2_with fail
      clear cc lc
      refine (rText_spec wr (u0, g0) (by unfold maxLen; simp only; omega) 40 (by decide)).mono ?_
      rintro e wc0 ⟨rfl, hk1⟩
      have hleft := tkT_left (u0, g0) 40
      have hbnd := tkT_len (u0, g0) (most := 40) (by decide) (by decide)
      have hn := Hn0.out
      obtain ⟨B0, hB⟩ : ∃ B, B = tkT (u0, g0) 40 := ⟨_, rfl⟩
      rw [← hB] at hleft hn hbnd ⊢
      clear hB
      obtain ⟨y0, u1, g1⟩ := B0
      dsimp only at hleft hn hbnd ⊢
      have hu1 : u1.length ≤ 1000000000 := by omega
      have Hn1 := Lib.hid hn
      clear hn hleft
      simp only [curV]
      have ka : Keeps [] wc0 (wc0.alloc (.cells #[.string ⟨u1.toArray⟩, .int .i64 g1] 178)) := (Keeps.refl [] wc0).alloc _
      have na := heap_new wc0 (.cells #[.string ⟨u1.toArray⟩, .int .i64 g1] 178)
      have hw1 := hk1.size
      obtain ⟨db, hdb⟩ : ∃ n, n = wc0.heap.size := ⟨_, rfl⟩
      have hclt := lt_of_at HF.out.1
      have hrlt := lt_of_at HF.out.2.1
      have hmlt := lt_of_at HF.out.2.2.1
      have hdn : db ≠ rb ∧ db ≠ mb ∧ db ≠ cb ∧ w.heap.size ≤ db := by omega
      rw [← hdb] at na
      have HD := Lib.hid hdb
      have kt := hk1.trans ka
      have HE0 := Lib.hid (And.intro na (And.intro (kt.at_ HF.out.1 (by simp)) (And.intro (kt.at_ HF.out.2.1 (by simp)) (And.intro (kt.at_ HF.out.2.2.1 (by simp)) (And.intro (kt.row HF.out.2.2.2.1 (by simp)) (HF.out.2.2.2.2.trans kt))))))
      clear hk1 ka na hdb kt hw1 hclt hrlt hmlt HF
      go_upto_region 18 with fail
      rw [← HD.out]
      clear HD
      generalize wc0.alloc (.cells #[.string ⟨u1.toArray⟩, .int .i64 g1] 178) = wd0 at HE0 ⊢
      have cc := cells_at HE0.out.1
      have lc := lt_of_at HE0.out.1
      go_wp2_with fail
      clear cc lc
      refine (rNum_spec wd0 (u1, g1) (by unfold maxLen; simp only; omega) 1048576 (by decide)).mono ?_
      rintro e wc1 ⟨rfl, hk1⟩
      have hleft := tkN_left (u1, g1) 1048576
      have hbnd := tkN_bounds (u1, g1) (most := 1048576) (by decide) (by decide)
      have hn := Hn1.out
      obtain ⟨B1, hB⟩ : ∃ B, B = tkN (u1, g1) 1048576 := ⟨_, rfl⟩
      rw [← hB] at hleft hn hbnd ⊢
      clear hB
      obtain ⟨y1, u2, g2⟩ := B1
      dsimp only at hleft hn hbnd ⊢
      have hu2 : u2.length ≤ 1000000000 := by omega
      have Hn2 := Lib.hid hn
      clear hn hleft
      clear hbnd
      simp only [curV]
      have nc := hk1.at_ HE0.out.1 (by simp)
      have cc := cells_at nc
      have fc := free_at nc
      have lc := lt_of_at nc
      have se := set2c (v0 := .string ⟨u2.toArray⟩) (v1 := .int .i64 g2) nc
      have hdr : ∀ g, vf.ownBlock = some g → g ∉ [db] := fun g hg => by have := row_ne_type (hk1.row HE0.out.2.2.2.2.1 (by simp)) nc (by decide) g hg; simpa using this
      have HE1 := Lib.hid (And.intro se.1 (And.intro (se.2.at_ (hk1.at_ HE0.out.2.1 (by simp)) (by simp; omega)) (And.intro (se.2.at_ (hk1.at_ HE0.out.2.2.1 (by simp)) (by simp; omega)) (And.intro (se.2.at_ (hk1.at_ HE0.out.2.2.2.1 (by simp)) (by simp; omega)) (And.intro (se.2.row (hk1.row HE0.out.2.2.2.2.1 (by simp)) hdr) ((HE0.out.2.2.2.2.2.trans hk1).after se.2 (fun x hx => .inr (by simp only [List.mem_singleton] at hx; omega))))))))
      clear hk1 nc se hdr
      go_upto_region 19 with fail
      clear cc fc lc HE0
      generalize (wc1.setCell ⟨db, 0, none⟩ (.string ⟨u2.toArray⟩)).setCell ⟨db, 1, none⟩ (.int .i64 g2) = wd1 at HE1 ⊢
      have cc := cells_at HE1.out.1
      have lc := lt_of_at HE1.out.1
      go_wp2_with fail
      clear cc lc
      refine (rNum_spec wd1 (u2, g2) (by unfold maxLen; simp only; omega) 4294967295 (by decide)).mono ?_
      rintro e wc2 ⟨rfl, hk1⟩
      have hleft := tkN_left (u2, g2) 4294967295
      have hbnd := tkN_bounds (u2, g2) (most := 4294967295) (by decide) (by decide)
      have hn := Hn2.out
      obtain ⟨B2, hB⟩ : ∃ B, B = tkN (u2, g2) 4294967295 := ⟨_, rfl⟩
      rw [← hB] at hleft hn hbnd ⊢
      clear hB
      obtain ⟨y2, u3, g3⟩ := B2
      dsimp only at hleft hn hbnd ⊢
      have hu3 : u3.length ≤ 1000000000 := by omega
      have Hn3 := Lib.hid hn
      clear hn hleft
      have z2 : IntKind.u32.wrap y2 = y2 := IntWalk.u32_in _ (by omega)
      simp only [curV]
      have nc := hk1.at_ HE1.out.1 (by simp)
      have cc := cells_at nc
      have fc := free_at nc
      have lc := lt_of_at nc
      have se := set2c (v0 := .string ⟨u3.toArray⟩) (v1 := .int .i64 g3) nc
      have hdr : ∀ g, vf.ownBlock = some g → g ∉ [db] := fun g hg => by have := row_ne_type (hk1.row HE1.out.2.2.2.2.1 (by simp)) nc (by decide) g hg; simpa using this
      have HE2 := Lib.hid (And.intro se.1 (And.intro (se.2.at_ (hk1.at_ HE1.out.2.1 (by simp)) (by simp; omega)) (And.intro (se.2.at_ (hk1.at_ HE1.out.2.2.1 (by simp)) (by simp; omega)) (And.intro (se.2.at_ (hk1.at_ HE1.out.2.2.2.1 (by simp)) (by simp; omega)) (And.intro (se.2.row (hk1.row HE1.out.2.2.2.2.1 (by simp)) hdr) ((HE1.out.2.2.2.2.2.trans hk1).after se.2 (fun x hx => .inr (by simp only [List.mem_singleton] at hx; omega))))))))
      clear hk1 nc se hdr
      go_upto_region 20 with fail
      clear cc fc lc HE1
      generalize (wc2.setCell ⟨db, 0, none⟩ (.string ⟨u3.toArray⟩)).setCell ⟨db, 1, none⟩ (.int .i64 g3) = wd2 at HE2 ⊢
      have cc := cells_at HE2.out.1
      have lc := lt_of_at HE2.out.1
      have cq := cells_at HE2.out.2.1
      have fq := free_at HE2.out.2.1
      have lq := lt_of_at HE2.out.2.1
      have se := set2c (v0 := .string ⟨u3.toArray⟩) (v1 := .int .i64 g3) HE2.out.2.1
      have hdr : ∀ g, vf.ownBlock = some g → g ∉ [cb] := fun g hg => by have := row_ne_type HE2.out.2.2.2.2.1 HE2.out.2.1 (by decide) g hg; simpa using this
      have HE3 := Lib.hid (And.intro se.1 (And.intro (se.2.at_ HE2.out.2.2.1 (by simp; omega)) (And.intro (se.2.at_ HE2.out.2.2.2.1 (by simp; omega)) (And.intro (se.2.row HE2.out.2.2.2.2.1 hdr) (HE2.out.2.2.2.2.2.after se.2 (fun x hx => .inr (by simp only [List.mem_singleton] at hx; omega)))))))
      clear se hdr
      go_upto_region 21 with fail
      clear cc lc cq fq lq HE2
      generalize (wd2.setCell ⟨cb, 0, none⟩ (.string ⟨u3.toArray⟩)).setCell ⟨cb, 1, none⟩ (.int .i64 g3) = wd3 at HE3 ⊢
      have cm4 := cells_at HE3.out.2.2.1
      have lm4 := lt_of_at HE3.out.2.2.1
      have hwz := HE3.out.2.2.2.2.size
      go_wp2_with (at_builtin; refine wpList_append_own _ rfl (.tmp 87) (.tmp 93) 64 rfl (w.heap.size + 2) 170 ifl _ 3 32 Tryz.underlying64 hif hzf0 hzf1 hzf2 rfl (by decide) vf k (F.flatMap encFileT) rfl (HE3.out.2.2.2.1.alloc _) ⟨wd3.heap.size, 0, none⟩ 1 1 [.string ⟨y0.toArray⟩, .int .i64 y1, .int .u32 y2] rfl rfl (news_of (heap_new wd3 _)) (by simp [Value.oneCell']) (by simp only [maxLen]; omega) (by omega) (by simp; omega) ?_; intro v8 w8 hown8 hgrow8 hnil; clear hnil; obtain ⟨ao8, cp8, hv8, -, -, -⟩ := row_slice hown8; subst hv8; have nm8 := (hgrow8.block mb (by simp; omega) (fun e => row_ne_type HE3.out.2.2.2.1 HE3.out.2.2.1 (by decide) _ e.symm rfl)).trans (heap_old HE3.out.2.2.1 _); have cm8 := cells_at nm8; have fm8 := free_at nm8; have lm8 := lt_of_at nm8)
      have hown9 : w8.ownsRow (w.heap.size + 2) 170 3 (.slice ao8 (k + 1) cp8) (k + 1) ((fileSt (l6, e6) (k + 1)).1.flatMap encFileT) := by
        rw [Hn3.out, List.flatMap_append]
        simpa [encFileT] using hown8
      have k89 : Keeps [mb] w8 (w8.setCell ⟨mb, 6, none⟩ (.slice ao8 (k + 1) cp8)) := (Keeps.refl [mb] w8).setCell (.inl (by simp)) _
      have nm9 : (w8.setCell ⟨mb, 6, none⟩ (.slice ao8 (k + 1) cp8)).heap[mb]? = some (.cells #[.string ⟨x0.toArray⟩, .int .i64 x1, .int .i64 x2, .int .i64 x3, .int .i64 x4, .int .i64 x5, .slice ao8 (k + 1) cp8, .slice none 0 0] 66 (0, 0)) := (heap_cell_same (i := 6) nm8 _).trans (by simp)
      have hvl : ∀ g, vf.ownBlock = some g → w.heap.size ≤ g := fun g hg => by have := (World.ownsRow.lt HE3.out.2.2.2.1 g hg).1; omega
      have hk8 : Keeps [] w w8 := keeps_grownM (HE3.out.2.2.2.2.alloc _) hgrow8 hvl
      have nr8 : w8.heap[rb]? = some (.cells #[.string ⟨#[]⟩, .int .i64 0, .int .i64 0, .int .i64 0, .int .i64 0, .int .i64 0, .slice none 0 0, .slice none 0 0] 66 (0, 0)) := (hgrow8.block rb (by have := lt_of_at HE3.out.2.1; simp; omega) (fun e => row_ne_type HE3.out.2.2.2.1 HE3.out.2.1 (by decide) _ e.symm rfl)).trans (heap_old HE3.out.2.1 _)
      have nc8 : w8.heap[cb]? = some (.cells #[.string ⟨u3.toArray⟩, .int .i64 g3] 178 (0, 0)) := (hgrow8.block cb (by have := lt_of_at HE3.out.1; simp; omega) (fun e => row_ne_type HE3.out.2.2.2.1 HE3.out.1 (by decide) _ e.symm rfl)).trans (heap_old HE3.out.1 _)
      have HX := Lib.hid (And.intro nm9 (And.intro (k89.at_ nr8 (by simp; omega)) (And.intro (k89.row hown9 (fun g hg => by have := row_ne_type hown9 nm8 (by decide) g hg; simpa using this)) (And.intro (k89.at_ nc8 (by simp; omega)) (hk8.after k89 (fun x hx => .inr (by simp only [List.mem_singleton] at hx; omega)))))))
      clear hown8 hown9 hgrow8 k89 nm9 hvl hk8 nr8 nc8
      go_roundg (2 - (k + 1))
      case measure => have := Hg.out; omega
      case rel => exact ⟨k + 1, .slice ao8 (k + 1) cp8, by omega, rfl, by go_num, by rw [Hn3.out]; exact HX.out.2.2.2.1, HX.out.2.1, HX.out.1, HX.out.2.2.1, HX.out.2.2.2.2⟩
    · obtain rfl : k = 2 := by omega
      clear hlt
      obtain ⟨S, hS⟩ : ∃ S, S = fileSt (l6, e6) 2 := ⟨_, rfl⟩
      rw [← hS] at hrow hcb hfl hfleft
      have HS := Lib.hid hS
      clear hS
      obtain ⟨FL, l7, e7⟩ := S
      dsimp only at hrow hcb hfl hfleft
      have hl7 : l7.length ≤ 1000000000 := by omega
      have HE := Lib.hid (And.intro hcb (And.intro hrb (And.intro hmb (And.intro hrow hkr))))
      have cc := cells_at hcb
      have lc := lt_of_at hcb
      clear hcb hrb hmb hrow hkr hfleft
      go_wp2_with fail
      clear cc lc
      refine (rNum_spec wr (l7, e7) (by unfold maxLen; simp only; omega) 50 (by decide)).mono ?_
      rintro e w6 ⟨rfl, hk6⟩
      have hleft := tkN_left (l7, e7) 50
      have hbnd := tkN_bounds (l7, e7) (most := 50) (by decide) (by decide)
      obtain ⟨B, hB⟩ : ∃ B, B = tkN (l7, e7) 50 := ⟨_, rfl⟩
      rw [← hB] at hleft hbnd ⊢
      have HN := Lib.hid hB
      clear hB
      obtain ⟨n0, l8, e8⟩ := B
      dsimp only at hleft hbnd HN ⊢
      obtain ⟨n, rfl⟩ : ∃ n : Nat, n0 = n := ⟨n0.toNat, by omega⟩
      have hl8 : l8.length ≤ 1000000000 := by omega
      have hn50 : n ≤ 50 := by omega
      simp only [curV]
      have nc := hk6.at_ HE.out.1 (by simp)
      have cc := cells_at nc
      have fc := free_at nc
      have lc := lt_of_at nc
      have se := set2c (v0 := .string ⟨l8.toArray⟩) (v1 := .int .i64 e8) nc
      have hrow6 := hk6.row HE.out.2.2.2.1 (by simp)
      have HF := Lib.hid (And.intro se.1 (And.intro (se.2.at_ (hk6.at_ HE.out.2.1 (by simp)) (by simp; omega)) (And.intro (se.2.at_ (hk6.at_ HE.out.2.2.1 (by simp)) (by simp; omega)) (And.intro (se.2.row hrow6 (fun g hg => by have := row_ne_type hrow6 nc (by decide) g hg; simpa using this)) ((HE.out.2.2.2.2.trans hk6).after se.2 (fun x hx => .inr (by simp only [List.mem_singleton] at hx; omega)))))))
      clear hk6 nc se hrow6 hleft hbnd HE
      go_upto_region 23 with fail
      clear cc fc lc
      generalize (w6.setCell ⟨cb, 0, none⟩ (.string ⟨l8.toArray⟩)).setCell ⟨cb, 1, none⟩ (.int .i64 e8) = w7 at HF ⊢
      go_wp2_with fail
      go_loopg [19] n (RkT2 w rb mb cb x0 x1 x2 x3 x4 x5 vf FL (l8, e8) n)
      case atStart => exact ⟨0, .slice none 0 0, Nat.zero_le _, rfl, rfl, HF.out.1, HF.out.2.1, HF.out.2.2.1, HF.out.2.2.2.1, by simpa [srcSt] using World.ownsRow_nil w7 (w.heap.size + 2) _ 1, HF.out.2.2.2.2⟩
      case round =>
        obtain ⟨j, vo, hj, hgj, rfl, hcb, hrb, hmb, hrf, hro, hkr⟩ := hrel
        clear HF
        have Hgj := Lib.hid hgj
        clear hgj
        have hwr := hkr.size
        have hsl := srcSt_len (l8, e8) j
        have hsleft := srcSt_left (l8, e8) j
        have hgo := srcSt_go (l8, e8) j
        have hend : (j = n ∨ (srcSt (l8, e8) j).2.2 ≠ 0) → srcSt (l8, e8) n = srcSt (l8, e8) j := by
          rintro (rfl | h)
          · rfl
          · have := srcSt_stop (l8, e8) j h (n - j)
            rwa [show j + (n - j) = n from by omega] at this
        obtain ⟨S, hS⟩ : ∃ S, S = srcSt (l8, e8) j := ⟨_, rfl⟩
        rw [← hS] at hro hcb hsl hsleft hgo hend
        clear hS
        obtain ⟨SL, u0, g0⟩ := S
        dsimp only at hro hcb hsl hsleft hgo hend
        have hu0 : u0.length ≤ 1000000000 := by omega
        by_cases hcont : j < n ∧ g0 = 0
        · obtain ⟨hlt, rfl⟩ := hcont
          have hgo2 := hgo rfl
          clear hgo hend
          have hlt' : (j : Int) < (n : Int) := by omega
          have HJ := Lib.hid (And.intro hcb (And.intro hrb (And.intro hmb (And.intro hrf (And.intro hro hkr)))))
          have Hgo := Lib.hid hgo2
          have cc := cells_at hcb
          have lc := lt_of_at hcb
          have hclt := lt_of_at hcb
          have hrlt := lt_of_at hrb
          have hmlt := lt_of_at hmb
          clear hcb hrb hmb hrf hro hkr hgo2
          go_wp2_with fail
          clear cc lc
          refine (rText_spec wr (u0, 0) (by unfold maxLen; simp only; omega) 16 (by decide)).mono ?_
          rintro e wc0 ⟨rfl, hk1⟩
          have hleft := tkT_left (u0, 0) 16
          have hn := Hgo.out
          obtain ⟨B0, hB⟩ : ∃ B, B = tkT (u0, 0) 16 := ⟨_, rfl⟩
          rw [← hB] at hleft hn ⊢
          clear hB
          obtain ⟨y0, u1, g1⟩ := B0
          dsimp only at hleft hn ⊢
          have hu1 : u1.length ≤ 1000000000 := by omega
          have Hn1 := Lib.hid hn
          clear hn hleft Hgo
          simp only [curV]
          have ka : Keeps [] wc0 (wc0.alloc (.cells #[.string ⟨u1.toArray⟩, .int .i64 g1] 178)) := (Keeps.refl [] wc0).alloc _
          have na := heap_new wc0 (.cells #[.string ⟨u1.toArray⟩, .int .i64 g1] 178)
          have hw1 := hk1.size
          obtain ⟨db, hdb⟩ : ∃ n, n = wc0.heap.size := ⟨_, rfl⟩
          have hdn : db ≠ rb ∧ db ≠ mb ∧ db ≠ cb ∧ w.heap.size ≤ db := by omega
          rw [← hdb] at na
          have HD := Lib.hid hdb
          have kt := hk1.trans ka
          have HE0 := Lib.hid (And.intro na (And.intro (kt.at_ HJ.out.1 (by simp)) (And.intro (kt.at_ HJ.out.2.1 (by simp)) (And.intro (kt.at_ HJ.out.2.2.1 (by simp)) (And.intro (kt.row HJ.out.2.2.2.1 (by simp)) (And.intro (kt.row HJ.out.2.2.2.2.1 (by simp)) (HJ.out.2.2.2.2.2.trans kt)))))))
          clear hk1 ka na hdb kt hw1 hclt hrlt hmlt HJ
          go_upto_region 27 with fail
          rw [← HD.out]
          clear HD
          generalize wc0.alloc (.cells #[.string ⟨u1.toArray⟩, .int .i64 g1] 178) = wd0 at HE0 ⊢
          have cc := cells_at HE0.out.1
          have lc := lt_of_at HE0.out.1
          have cq := cells_at HE0.out.2.1
          have fq := free_at HE0.out.2.1
          have lq := lt_of_at HE0.out.2.1
          have se := set2c (v0 := .string ⟨u1.toArray⟩) (v1 := .int .i64 g1) HE0.out.2.1
          have hdr : ∀ g, vf.ownBlock = some g → g ∉ [cb] := fun g hg => by have := row_ne_type HE0.out.2.2.2.2.1 HE0.out.2.1 (by decide) g hg; simpa using this
          have hds : ∀ g, vo.ownBlock = some g → g ∉ [cb] := fun g hg => by have := row_ne_type HE0.out.2.2.2.2.2.1 HE0.out.2.1 (by decide) g hg; simpa using this
          have HE3 := Lib.hid (And.intro se.1 (And.intro (se.2.at_ HE0.out.2.2.1 (by simp; omega)) (And.intro (se.2.at_ HE0.out.2.2.2.1 (by simp; omega)) (And.intro (se.2.row HE0.out.2.2.2.2.1 hdr) (And.intro (se.2.row HE0.out.2.2.2.2.2.1 hds) (HE0.out.2.2.2.2.2.2.after se.2 (fun x hx => .inr (by simp only [List.mem_singleton] at hx; omega))))))))
          clear se hdr hds
          go_upto_region 28 with fail
          clear cc lc cq fq lq HE0
          generalize (wd0.setCell ⟨cb, 0, none⟩ (.string ⟨u1.toArray⟩)).setCell ⟨cb, 1, none⟩ (.int .i64 g1) = wd3 at HE3 ⊢
          have cm4 := cells_at HE3.out.2.2.1
          have lm4 := lt_of_at HE3.out.2.2.1
          have hwz := HE3.out.2.2.2.2.2.size
          go_wp2_with (at_builtin; refine wpList_append_own _ rfl (.tmp 118) (.tmp 120) 25 rfl (w.heap.size + 2) 9 ist _ 1 16 Tryz.underlying25 his hzs0 hzs1 hzs2 rfl (by decide) vo SL.length (SL.flatMap encS1T) rfl (HE3.out.2.2.2.2.1.alloc _) ⟨wd3.heap.size, 0, none⟩ 1 1 [.string ⟨y0.toArray⟩] rfl rfl (news_of (heap_new wd3 _)) (by simp [Value.oneCell']) (by simp only [maxLen]; omega) (by omega) (by simp; omega) ?_; intro v8 w8 hown8 hgrow8 hnil; clear hnil; obtain ⟨ao8, cp8, hv8, -, -, -⟩ := row_slice hown8; subst hv8; have nm8 := (hgrow8.block mb (by simp; omega) (fun e => row_ne_type HE3.out.2.2.2.2.1 HE3.out.2.2.1 (by decide) _ e.symm rfl)).trans (heap_old HE3.out.2.2.1 _); have cm8 := cells_at nm8; have fm8 := free_at nm8; have lm8 := lt_of_at nm8)
          have hown9 : w8.ownsRow (w.heap.size + 2) 9 1 (.slice ao8 (SL.length + 1) cp8) (srcSt (l8, e8) (j + 1)).1.length ((srcSt (l8, e8) (j + 1)).1.flatMap encS1T) := by
            rw [Hn1.out, List.flatMap_append, List.length_append]
            simpa [encS1T] using hown8
          have k89 : Keeps [mb] w8 (w8.setCell ⟨mb, 7, none⟩ (.slice ao8 (SL.length + 1) cp8)) := (Keeps.refl [mb] w8).setCell (.inl (by simp)) _
          have nm9 : (w8.setCell ⟨mb, 7, none⟩ (.slice ao8 (SL.length + 1) cp8)).heap[mb]? = some (.cells #[.string ⟨x0.toArray⟩, .int .i64 x1, .int .i64 x2, .int .i64 x3, .int .i64 x4, .int .i64 x5, vf, .slice ao8 (SL.length + 1) cp8] 66 (0, 0)) := (heap_cell_same (i := 7) nm8 _).trans (by simp)
          have hvl : ∀ g, vo.ownBlock = some g → w.heap.size ≤ g := fun g hg => by have := (World.ownsRow.lt HE3.out.2.2.2.2.1 g hg).1; omega
          have hk8 : Keeps [] w w8 := keeps_grownM (HE3.out.2.2.2.2.2.alloc _) hgrow8 hvl
          have nr8 : w8.heap[rb]? = some (.cells #[.string ⟨#[]⟩, .int .i64 0, .int .i64 0, .int .i64 0, .int .i64 0, .int .i64 0, .slice none 0 0, .slice none 0 0] 66 (0, 0)) := (hgrow8.block rb (by have := lt_of_at HE3.out.2.1; simp; omega) (fun e => row_ne_type HE3.out.2.2.2.2.1 HE3.out.2.1 (by decide) _ e.symm rfl)).trans (heap_old HE3.out.2.1 _)
          have nc8 : w8.heap[cb]? = some (.cells #[.string ⟨u1.toArray⟩, .int .i64 g1] 178 (0, 0)) := (hgrow8.block cb (by have := lt_of_at HE3.out.1; simp; omega) (fun e => row_ne_type HE3.out.2.2.2.2.1 HE3.out.1 (by decide) _ e.symm rfl)).trans (heap_old HE3.out.1 _)
          have kg8 := keeps_rowM hgrow8
          have hrf8 := kg8.row (HE3.out.2.2.2.1.alloc (.cells #[.string ⟨y0.toArray⟩] 9)) (rows_neM (HE3.out.2.2.2.2.1.alloc (.cells #[.string ⟨y0.toArray⟩] 9)) (HE3.out.2.2.2.1.alloc (.cells #[.string ⟨y0.toArray⟩] 9)) (by decide))
          have HX := Lib.hid (And.intro (k89.at_ nc8 (by simp; omega)) (And.intro (k89.at_ nr8 (by simp; omega)) (And.intro nm9 (And.intro (k89.row hrf8 (fun g hg => by have := row_ne_type hrf8 nm8 (by decide) g hg; simpa using this)) (And.intro (k89.row hown9 (fun g hg => by have := row_ne_type hown9 nm8 (by decide) g hg; simpa using this)) (hk8.after k89 (fun x hx => .inr (by simp only [List.mem_singleton] at hx; omega))))))))
          clear hown8 hown9 hgrow8 k89 nm9 hvl hk8 nr8 nc8 kg8 hrf8
          go_roundg (n - (j + 1))
          case measure => have := Hgj.out; omega
          case rel => exact ⟨j + 1, .slice ao8 (SL.length + 1) cp8, by omega, rfl, by go_num, by rw [Hn1.out]; exact HX.out.1, HX.out.2.1, HX.out.2.2.1, HX.out.2.2.2.1, HX.out.2.2.2.2.1, HX.out.2.2.2.2.2⟩
        · have hfin : fieldsT (s.data.toList, 0) = (⟨x0, x1, x2, x3, x4, x5, FL, SL⟩, (u0, g0)) := by
            have h1 := hend (by omega)
            unfold fieldsT
            simp only [← HL.out, ← HA0.out, ← HA1.out, ← HA2.out, ← HA3.out, ← HA4.out, ← HA5.out, ← HS.out, ← HN.out, Int.toNat_natCast, h1]
          obtain ⟨m, hm⟩ : ∃ m : MetaT, m = ⟨x0, x1, x2, x3, x4, x5, FL, SL⟩ := ⟨_, rfl⟩
          have HRF := HR.out
          rw [hfin, ← hm] at HRF
          have Hm := Lib.hid hm
          clear hfin hend hgo HR
          obtain ⟨ao6, cp6, hvf, -, -, -⟩ := row_slice hrf
          obtain ⟨ao7, cp7, hvo, -, -, -⟩ := row_slice hro
          subst hvf hvo
          have hmv : MetaVT (w.heap.size + 2) wr [.string ⟨x0.toArray⟩, .int .i64 x1, .int .i64 x2, .int .i64 x3, .int .i64 x4, .int .i64 x5, .slice ao6 2 cp6, .slice ao7 SL.length cp7] m := by
            rw [hm]
            refine ⟨_, _, rfl, ?_, ?_⟩
            · have h2 : FL.length = 2 := hfl
              rw [← h2] at hrf
              have h3 := sliceFrom_row (enc := encFileT) (fun _ => rfl) hrf
              rw [h2] at h3
              exact h3
            · exact sliceFrom_row (enc := encS1T) (fun _ => rfl) hro
          have hmq : MetaQT (w.heap.size + 2) wr [.string ⟨x0.toArray⟩, .int .i64 x1, .int .i64 x2, .int .i64 x3, .int .i64 x4, .int .i64 x5, .slice ao6 2 cp6, .slice ao7 SL.length cp7] m := by
            rw [hm]
            refine ⟨_, _, rfl, ?_, hro⟩
            have h2 : FL.length = 2 := hfl
            show wr.ownsRow (w.heap.size + 2) 170 3 _ FL.length _
            rw [h2]
            exact hrf
          have HE := Lib.hid (And.intro hcb (And.intro hrb (And.intro hmb (And.intro (And.intro hmv hmq) hkr))))
          have hways : (j = n) ∨ (j < n ∧ (g0 == 0) = false) := by
            by_cases hj0 : j = n
            · exact .inl hj0
            · exact .inr ⟨by omega, by rw [beq_eq_false_iff_ne]; omega⟩
          have cc := cells_at hcb
          have lc := lt_of_at hcb
          have fc := free_at hcb
          have cm := cells_at hmb
          have lm := lt_of_at hmb
          obtain ⟨us, hus⟩ : ∃ b : ByteArray, b = ⟨u0.toArray⟩ := ⟨_, rfl⟩
          have Hus := Lib.hid hus
          rw [← hus] at cc
          clear hcb hrb hmb hrf hro hkr hcont hm hmv hmq hus
          have HRx := Lib.hid HRF
          clear HRF
          by_cases hg : g0 = 0
          · subst hg
            have hjn : j = n := by
              rcases hways with h | h
              · exact h
              · exact absurd h.2 (by simp)
            subst hjn
            clear hways
            go_wp2_with fail
            refine (rMetaCheck_spec (w.heap.size + 2) wr _ m HE.out.2.2.2.1.1).mono ?_
            rintro e w9 ⟨rfl, hk9⟩
            clear cc lc fc cm lm
            have H9 := Lib.hid (And.intro (hk9.at_ HE.out.1 (by simp)) (And.intro (hk9.at_ HE.out.2.1 (by simp)) (And.intro (hk9.at_ HE.out.2.2.1 (by simp)) (And.intro (HE.out.2.2.2.1.2.same hk9) (HE.out.2.2.2.2.trans hk9)))))
            clear hk9 HE
            have cc := cells_at H9.out.1
            have lc := lt_of_at H9.out.1
            have fc := free_at H9.out.1
            rw [← Hus.out] at cc
            cases hok : okT m with
            | false =>
              have hRn : R = none := by rw [HRx.out]; unfold rTakeR; exact if_pos (.inr hok)
              subst hRn
              have nq4 : (w9.setCell ⟨cb, 1, none⟩ (.int .i64 3)).heap[cb]? = some (.cells #[.string ⟨u0.toArray⟩, .int .i64 3] 178 (0, 0)) := (heap_cell_same (i := 1) H9.out.1 _).trans (by simp)
              have k34 : Keeps [cb] w9 (w9.setCell ⟨cb, 1, none⟩ (.int .i64 3)) := (Keeps.refl [cb] w9).setCell (.inl (by simp)) _
              have H3 := Lib.hid (And.intro nq4 (And.intro (k34.at_ H9.out.2.1 (by simp; omega)) (H9.out.2.2.2.2.after k34 (fun x hx => .inr (by simp only [List.mem_singleton] at hx; omega)))))
              clear nq4 k34 H9
              go_upto_region 32 with fail
              clear cc lc fc
              generalize w9.setCell ⟨cb, 1, none⟩ (.int .i64 3) = W5 at H3 ⊢
              have g5 := cells_at H3.out.1
              have l5 := lt_of_at H3.out.1
              have cr5 := cells_at H3.out.2.1
              have fr5 := free_at H3.out.2.1
              have lr5 := lt_of_at H3.out.2.1
              have d0 : W5.cell? ⟨cb, 1, none⟩ = some (.int .i64 3) := by rw [g5]; rfl
              refine wp_region_held_drew (S := fun w' => w'.cell? ⟨cb, 1, none⟩ = some (.int .i64 3) ∧ w'.cell? ⟨cb, 1, none⟩ = some (.int .i64 3)) (by kernel_rfl) ⟨d0, d0⟩ (fun hS => ?_)
              refine wpAnyH_take (i := 0) (v := ?_) rfl (by kernel_rfl) (by kernel_rfl) (by kernel_rfl) (fun _ _ _ h => h) (Or.inl ⟨by rfl, ?_⟩) (by assumption) ?_
              rotate_left
              · intro w' hSw; obtain ⟨s1, s2⟩ := hSw; go_simp; (try with_reducible rfl)
              simp only [Act.put, List.getElem_toArray, List.getElem_cons_succ, List.getElem_cons_zero, List.setIfInBounds_toArray, List.set_cons_zero, List.set_cons_succ]
              refine wpAnyH_take (i := 1) (v := ?_) rfl (by kernel_rfl) (by kernel_rfl) (by kernel_rfl) (fun _ _ _ h => h) (Or.inl ⟨by rfl, ?_⟩) (by assumption) ?_
              rotate_left
              · intro w' hSw; obtain ⟨s1, s2⟩ := hSw; go_simp; (try with_reducible rfl)
              simp only [Act.put, List.getElem_toArray, List.getElem_cons_succ, List.getElem_cons_zero, List.setIfInBounds_toArray, List.set_cons_zero, List.set_cons_succ]
              refine wpAnyH_take (i := 2) (v := ?_) rfl (by kernel_rfl) (by kernel_rfl) (by kernel_rfl) (fun _ _ _ h => h) (Or.inl ⟨by rfl, ?_⟩) (by assumption) ?_
              rotate_left
              · intro w' hSw; obtain ⟨s1, s2⟩ := hSw; go_simp; (try with_reducible rfl)
              simp only [Act.put, List.getElem_toArray, List.getElem_cons_succ, List.getElem_cons_zero, List.setIfInBounds_toArray, List.set_cons_zero, List.set_cons_succ]
              have se := set8 (v0 := .string ⟨#[]⟩) (v1 := .int .i64 0) (v2 := .int .i64 0) (v3 := .int .i64 0) (v4 := .int .i64 0) (v5 := .int .i64 0) (v6 := .slice none 0 0) (v7 := .slice none 0 0) H3.out.2.1
              have hch : ((((((((W5.setCell ⟨rb, 0, none⟩ (.string ⟨#[]⟩)).setCell ⟨rb, 1, none⟩ (.int .i64 0)).setCell ⟨rb, 2, none⟩ (.int .i64 0)).setCell ⟨rb, 3, none⟩ (.int .i64 0)).setCell ⟨rb, 4, none⟩ (.int .i64 0)).setCell ⟨rb, 5, none⟩ (.int .i64 0)).setCell ⟨rb, 6, none⟩ (.slice none 0 0)).setCell ⟨rb, 7, none⟩ (.slice none 0 0)).drew.heap[rb]? = some (.cells #[.string ⟨#[]⟩, .int .i64 0, .int .i64 0, .int .i64 0, .int .i64 0, .int .i64 0, .slice none 0 0, .slice none 0 0] 66 (0, 0)) := (drew_heapM _ _).trans se.1
              have HE := Lib.hid (And.intro (And.intro hch se.2.drew) H3.out.2.2)
              clear se hch
              refine wpAnyH_ready (rs := [3]) (by kernel_rfl) (by simp) ?_
              refine AllReadyH.cons rfl (fun K hK => ?_) AllReadyH.nil
              go_simp
              generalize ((((((((W5.setCell ⟨rb, 0, none⟩ (.string ⟨#[]⟩)).setCell ⟨rb, 1, none⟩ (.int .i64 0)).setCell ⟨rb, 2, none⟩ (.int .i64 0)).setCell ⟨rb, 3, none⟩ (.int .i64 0)).setCell ⟨rb, 4, none⟩ (.int .i64 0)).setCell ⟨rb, 5, none⟩ (.int .i64 0)).setCell ⟨rb, 6, none⟩ (.slice none 0 0)).setCell ⟨rb, 7, none⟩ (.slice none 0 0)).drew = W6 at HE ⊢
              have x0 : W6.cell? ⟨cb, 1, none⟩ = some (.int .i64 3) := (HE.out.1.2.cell l5 (by simp; omega)).trans d0
              refine hK.out _ _ ⟨x0, x0⟩ (fun hS => ?_)
              clear hK K
              try simp only [Act.put, List.getElem_toArray, List.getElem_cons_succ, List.getElem_cons_zero, List.setIfInBounds_toArray, List.set_cons_zero, List.set_cons_succ]
              refine wpAnyH_ready (rs := [4]) (by kernel_rfl) (by simp) ?_
              refine AllReadyH.cons rfl (fun K hK => ?_) AllReadyH.nil
              go_simp
              refine hK.out _ _ ⟨x0, x0⟩ (fun hS => ?_)
              clear hK K
              try simp only [Act.put, List.getElem_toArray, List.getElem_cons_succ, List.getElem_cons_zero, List.setIfInBounds_toArray, List.set_cons_zero, List.set_cons_succ]
              refine wpAnyH_ready (rs := [5]) (by kernel_rfl) (by simp) ?_
              refine AllReadyH.cons rfl (fun K hK => ?_) AllReadyH.nil
              go_simp
              refine hK.out _ _ ⟨x0, x0⟩ (fun hS => ?_)
              clear hK K
              refine wpAnyH_done (by kernel_rfl) ?_ _
              clear hS x0 d0 g5 cr5 fr5 lr5
              have hc := cells_at HE.out.1.1
              have hlr6 := lt_of_at HE.out.1.1
              go_wp2_with fail
              refine bodyPost_ret (v := .tuple #[.agg #[.string ⟨#[]⟩, .int .i64 0, .int .i64 0, .int .i64 0, .int .i64 0, .int .i64 0, .slice none 0 0, .slice none 0 0], .string ⟨#[]⟩, .int .i64 3]) ?_ rfl (show RTakeNo w _ _ from ⟨3, by decide, rfl, ?_⟩)
              · simp [results, Tryz.results89, go_sem, hc, hlr6]
              · exact HE.out.2.after HE.out.1.2 (fun x hx => .inr (by simp only [List.mem_singleton] at hx; omega))
            | true =>
              have hRn : R = some (m, u0) := by rw [HRx.out]; unfold rTakeR; exact if_neg (by simp [hok])
              subst hRn
              go_upto_region 33 with fail
              clear cc lc fc
              have c5 := cells_at H9.out.2.2.1
              have g5 := cells_at H9.out.1
              have l5 := lt_of_at H9.out.2.2.1
              have l5q := lt_of_at H9.out.1
              rw [← Hus.out] at g5
              have d0 : w9.cell? ⟨mb, 0, none⟩ = some (.string ⟨x0.toArray⟩) := by rw [c5]; rfl
              have d1 : w9.cell? ⟨mb, 1, none⟩ = some (.int .i64 x1) := by rw [c5]; rfl
              have d2 : w9.cell? ⟨mb, 2, none⟩ = some (.int .i64 x2) := by rw [c5]; rfl
              have d3 : w9.cell? ⟨mb, 3, none⟩ = some (.int .i64 x3) := by rw [c5]; rfl
              have d4 : w9.cell? ⟨mb, 4, none⟩ = some (.int .i64 x4) := by rw [c5]; rfl
              have d5 : w9.cell? ⟨mb, 5, none⟩ = some (.int .i64 x5) := by rw [c5]; rfl
              have d6 : w9.cell? ⟨mb, 6, none⟩ = some (.slice ao6 2 cp6) := by rw [c5]; rfl
              have d7 : w9.cell? ⟨mb, 7, none⟩ = some (.slice ao7 SL.length cp7) := by rw [c5]; rfl
              have d8 : w9.cell? ⟨cb, 0, none⟩ = some (.string us) := by rw [g5]; rfl
              refine wp_region_held_drew (S := fun w' => w'.cell? ⟨mb, 0, none⟩ = some (.string ⟨x0.toArray⟩) ∧ w'.cell? ⟨mb, 1, none⟩ = some (.int .i64 x1) ∧ w'.cell? ⟨mb, 2, none⟩ = some (.int .i64 x2) ∧ w'.cell? ⟨mb, 3, none⟩ = some (.int .i64 x3) ∧ w'.cell? ⟨mb, 4, none⟩ = some (.int .i64 x4) ∧ w'.cell? ⟨mb, 5, none⟩ = some (.int .i64 x5) ∧ w'.cell? ⟨mb, 6, none⟩ = some (.slice ao6 2 cp6) ∧ w'.cell? ⟨mb, 7, none⟩ = some (.slice ao7 SL.length cp7) ∧ w'.cell? ⟨cb, 0, none⟩ = some (.string us)) (by kernel_rfl) ⟨d0, d1, d2, d3, d4, d5, d6, d7, d8⟩ (fun hS => ?_)
              refine wpAnyH_take (i := 0) (v := ?_) rfl (by kernel_rfl) (by kernel_rfl) (by kernel_rfl) (fun _ _ _ h => h) (Or.inl ⟨by rfl, ?_⟩) (by assumption) ?_
              rotate_left
              · intro w' hSw; obtain ⟨s1, s2, s3, s4, s5, s6, s7, s8, s9⟩ := hSw; go_simp; (try with_reducible rfl)
              simp only [Act.put, List.getElem_toArray, List.getElem_cons_succ, List.getElem_cons_zero, List.setIfInBounds_toArray, List.set_cons_zero, List.set_cons_succ]
              refine wpAnyH_take (i := 1) (v := ?_) rfl (by kernel_rfl) (by kernel_rfl) (by kernel_rfl) (fun _ _ _ h => h) (Or.inl ⟨by rfl, ?_⟩) (by assumption) ?_
              rotate_left
              · intro w' hSw; obtain ⟨s1, s2, s3, s4, s5, s6, s7, s8, s9⟩ := hSw; go_simp; (try with_reducible rfl)
              simp only [Act.put, List.getElem_toArray, List.getElem_cons_succ, List.getElem_cons_zero, List.setIfInBounds_toArray, List.set_cons_zero, List.set_cons_succ]
              refine wpAnyH_take (i := 2) (v := ?_) rfl (by kernel_rfl) (by kernel_rfl) (by kernel_rfl) (fun _ _ _ h => h) (Or.inl ⟨by rfl, ?_⟩) (by assumption) ?_
              rotate_left
              · intro w' hSw; obtain ⟨s1, s2, s3, s4, s5, s6, s7, s8, s9⟩ := hSw; go_simp; (try with_reducible rfl)
              simp only [Act.put, List.getElem_toArray, List.getElem_cons_succ, List.getElem_cons_zero, List.setIfInBounds_toArray, List.set_cons_zero, List.set_cons_succ]
              have se := set8 (v0 := .string ⟨x0.toArray⟩) (v1 := .int .i64 x1) (v2 := .int .i64 x2) (v3 := .int .i64 x3) (v4 := .int .i64 x4) (v5 := .int .i64 x5) (v6 := .slice ao6 2 cp6) (v7 := .slice ao7 SL.length cp7) H9.out.2.1
              have hch : ((((((((w9.setCell ⟨rb, 0, none⟩ (.string ⟨x0.toArray⟩)).setCell ⟨rb, 1, none⟩ (.int .i64 x1)).setCell ⟨rb, 2, none⟩ (.int .i64 x2)).setCell ⟨rb, 3, none⟩ (.int .i64 x3)).setCell ⟨rb, 4, none⟩ (.int .i64 x4)).setCell ⟨rb, 5, none⟩ (.int .i64 x5)).setCell ⟨rb, 6, none⟩ (.slice ao6 2 cp6)).setCell ⟨rb, 7, none⟩ (.slice ao7 SL.length cp7)).drew.heap[rb]? = some (.cells #[.string ⟨x0.toArray⟩, .int .i64 x1, .int .i64 x2, .int .i64 x3, .int .i64 x4, .int .i64 x5, .slice ao6 2 cp6, .slice ao7 SL.length cp7] 66 (0, 0)) := (drew_heapM _ _).trans se.1
              have HE := Lib.hid (And.intro (And.intro hch se.2.drew) (And.intro H9.out.2.2.2.1 H9.out.2.2.2.2))
              have cr5 := cells_at H9.out.2.1
              have fr5 := free_at H9.out.2.1
              have lr5 := lt_of_at H9.out.2.1
              clear se hch
              refine wpAnyH_ready (rs := [3]) (by kernel_rfl) (by simp) ?_
              refine AllReadyH.cons rfl (fun K hK => ?_) AllReadyH.nil
              go_simp
              generalize ((((((((w9.setCell ⟨rb, 0, none⟩ (.string ⟨x0.toArray⟩)).setCell ⟨rb, 1, none⟩ (.int .i64 x1)).setCell ⟨rb, 2, none⟩ (.int .i64 x2)).setCell ⟨rb, 3, none⟩ (.int .i64 x3)).setCell ⟨rb, 4, none⟩ (.int .i64 x4)).setCell ⟨rb, 5, none⟩ (.int .i64 x5)).setCell ⟨rb, 6, none⟩ (.slice ao6 2 cp6)).setCell ⟨rb, 7, none⟩ (.slice ao7 SL.length cp7)).drew = W6 at HE ⊢
              have tcell : ∀ i, W6.cell? ⟨mb, i, none⟩ = w9.cell? ⟨mb, i, none⟩ := fun i => HE.out.1.2.cell l5 (by simp; omega)
              have qcell : W6.cell? ⟨cb, 0, none⟩ = w9.cell? ⟨cb, 0, none⟩ := HE.out.1.2.cell l5q (by simp; omega)
              have x8 := qcell.trans d8
              refine hK.out _ _ ⟨(tcell 0).trans d0, (tcell 1).trans d1, (tcell 2).trans d2, (tcell 3).trans d3, (tcell 4).trans d4, (tcell 5).trans d5, (tcell 6).trans d6, (tcell 7).trans d7, x8⟩ (fun hS => ?_)
              clear hK K
              try simp only [Act.put, List.getElem_toArray, List.getElem_cons_succ, List.getElem_cons_zero, List.setIfInBounds_toArray, List.set_cons_zero, List.set_cons_succ]
              refine wpAnyH_ready (rs := [4]) (by kernel_rfl) (by simp) ?_
              refine AllReadyH.cons rfl (fun K hK => ?_) AllReadyH.nil
              go_simp
              refine hK.out _ _ ⟨(tcell 0).trans d0, (tcell 1).trans d1, (tcell 2).trans d2, (tcell 3).trans d3, (tcell 4).trans d4, (tcell 5).trans d5, (tcell 6).trans d6, (tcell 7).trans d7, x8⟩ (fun hS => ?_)
              clear hK K
              try simp only [Act.put, List.getElem_toArray, List.getElem_cons_succ, List.getElem_cons_zero, List.setIfInBounds_toArray, List.set_cons_zero, List.set_cons_succ]
              refine wpAnyH_ready (rs := [5]) (by kernel_rfl) (by simp) ?_
              refine AllReadyH.cons rfl (fun K hK => ?_) AllReadyH.nil
              go_simp
              refine hK.out _ _ ⟨(tcell 0).trans d0, (tcell 1).trans d1, (tcell 2).trans d2, (tcell 3).trans d3, (tcell 4).trans d4, (tcell 5).trans d5, (tcell 6).trans d6, (tcell 7).trans d7, x8⟩ (fun hS => ?_)
              clear hK K
              refine wpAnyH_done (by kernel_rfl) ?_ _
              clear hS x8 d0 d1 d2 d3 d4 d5 d6 d7 d8 c5 g5 cr5 fr5 lr5 tcell qcell
              have hc := cells_at HE.out.1.1
              have hlr6 := lt_of_at HE.out.1.1
              have hwq := H9.out.2.2.2.2.size
              go_wp2_with fail
              refine bodyPost_ret (v := .tuple #[.agg #[.string ⟨x0.toArray⟩, .int .i64 x1, .int .i64 x2, .int .i64 x3, .int .i64 x4, .int .i64 x5, .slice ao6 2 cp6, .slice ao7 SL.length cp7], .string us, .int .i64 0]) ?_ rfl (show RTakeYes w m u0 _ _ from ⟨[.string ⟨x0.toArray⟩, .int .i64 x1, .int .i64 x2, .int .i64 x3, .int .i64 x4, .int .i64 x5, .slice ao6 2 cp6, .slice ao7 SL.length cp7], by rw [Hus.out], ?_, ?_⟩)
              · simp [results, Tryz.results89, go_sem, hc, hlr6]
              · exact (HE.out.2.1.out HE.out.1.2 H9.out.2.1).low (by omega)
              · exact HE.out.2.2.after HE.out.1.2 (fun x hx => .inr (by simp only [List.mem_singleton] at hx; omega))
          · have hRn : R = none := by rw [HRx.out]; unfold rTakeR; exact if_pos (.inl hg)
            subst hRn
            have he3 : (g0 == 0) = false := by simp [hg]
            have he4 : (g0 != 0) = true := by simp [hg]
            have Hgz := Lib.hid hg
            have H3 := Lib.hid (And.intro HE.out.1 (And.intro HE.out.2.1 HE.out.2.2.2.2))
            clear hg
            rcases hways with rfl | ⟨hlt, _⟩
            · go_upto_region 32 with fail
              clear cc lc fc cm lm he3 he4 HE
              obtain ⟨W5, hW5⟩ : ∃ W, W = wr := ⟨_, rfl⟩
              rw [← hW5] at H3 ⊢
              clear hW5
              have g5 := cells_at H3.out.1
              have l5 := lt_of_at H3.out.1
              have cr5 := cells_at H3.out.2.1
              have fr5 := free_at H3.out.2.1
              have lr5 := lt_of_at H3.out.2.1
              have d0 : W5.cell? ⟨cb, 1, none⟩ = some (.int .i64 g0) := by rw [g5]; rfl
              refine wp_region_held_drew (S := fun w' => w'.cell? ⟨cb, 1, none⟩ = some (.int .i64 g0) ∧ w'.cell? ⟨cb, 1, none⟩ = some (.int .i64 g0)) (by kernel_rfl) ⟨d0, d0⟩ (fun hS => ?_)
              refine wpAnyH_take (i := 0) (v := ?_) rfl (by kernel_rfl) (by kernel_rfl) (by kernel_rfl) (fun _ _ _ h => h) (Or.inl ⟨by rfl, ?_⟩) (by assumption) ?_
              rotate_left
              · intro w' hSw; obtain ⟨s1, s2⟩ := hSw; go_simp; (try with_reducible rfl)
              simp only [Act.put, List.getElem_toArray, List.getElem_cons_succ, List.getElem_cons_zero, List.setIfInBounds_toArray, List.set_cons_zero, List.set_cons_succ]
              refine wpAnyH_take (i := 1) (v := ?_) rfl (by kernel_rfl) (by kernel_rfl) (by kernel_rfl) (fun _ _ _ h => h) (Or.inl ⟨by rfl, ?_⟩) (by assumption) ?_
              rotate_left
              · intro w' hSw; obtain ⟨s1, s2⟩ := hSw; go_simp; (try with_reducible rfl)
              simp only [Act.put, List.getElem_toArray, List.getElem_cons_succ, List.getElem_cons_zero, List.setIfInBounds_toArray, List.set_cons_zero, List.set_cons_succ]
              refine wpAnyH_take (i := 2) (v := ?_) rfl (by kernel_rfl) (by kernel_rfl) (by kernel_rfl) (fun _ _ _ h => h) (Or.inl ⟨by rfl, ?_⟩) (by assumption) ?_
              rotate_left
              · intro w' hSw; obtain ⟨s1, s2⟩ := hSw; go_simp; (try with_reducible rfl)
              simp only [Act.put, List.getElem_toArray, List.getElem_cons_succ, List.getElem_cons_zero, List.setIfInBounds_toArray, List.set_cons_zero, List.set_cons_succ]
              have se := set8 (v0 := .string ⟨#[]⟩) (v1 := .int .i64 0) (v2 := .int .i64 0) (v3 := .int .i64 0) (v4 := .int .i64 0) (v5 := .int .i64 0) (v6 := .slice none 0 0) (v7 := .slice none 0 0) H3.out.2.1
              have hch : ((((((((W5.setCell ⟨rb, 0, none⟩ (.string ⟨#[]⟩)).setCell ⟨rb, 1, none⟩ (.int .i64 0)).setCell ⟨rb, 2, none⟩ (.int .i64 0)).setCell ⟨rb, 3, none⟩ (.int .i64 0)).setCell ⟨rb, 4, none⟩ (.int .i64 0)).setCell ⟨rb, 5, none⟩ (.int .i64 0)).setCell ⟨rb, 6, none⟩ (.slice none 0 0)).setCell ⟨rb, 7, none⟩ (.slice none 0 0)).drew.heap[rb]? = some (.cells #[.string ⟨#[]⟩, .int .i64 0, .int .i64 0, .int .i64 0, .int .i64 0, .int .i64 0, .slice none 0 0, .slice none 0 0] 66 (0, 0)) := (drew_heapM _ _).trans se.1
              have HE := Lib.hid (And.intro (And.intro hch se.2.drew) H3.out.2.2)
              clear se hch
              refine wpAnyH_ready (rs := [3]) (by kernel_rfl) (by simp) ?_
              refine AllReadyH.cons rfl (fun K hK => ?_) AllReadyH.nil
              go_simp
              generalize ((((((((W5.setCell ⟨rb, 0, none⟩ (.string ⟨#[]⟩)).setCell ⟨rb, 1, none⟩ (.int .i64 0)).setCell ⟨rb, 2, none⟩ (.int .i64 0)).setCell ⟨rb, 3, none⟩ (.int .i64 0)).setCell ⟨rb, 4, none⟩ (.int .i64 0)).setCell ⟨rb, 5, none⟩ (.int .i64 0)).setCell ⟨rb, 6, none⟩ (.slice none 0 0)).setCell ⟨rb, 7, none⟩ (.slice none 0 0)).drew = W6 at HE ⊢
              have x0 : W6.cell? ⟨cb, 1, none⟩ = some (.int .i64 g0) := (HE.out.1.2.cell l5 (by simp; omega)).trans d0
              refine hK.out _ _ ⟨x0, x0⟩ (fun hS => ?_)
              clear hK K
              try simp only [Act.put, List.getElem_toArray, List.getElem_cons_succ, List.getElem_cons_zero, List.setIfInBounds_toArray, List.set_cons_zero, List.set_cons_succ]
              refine wpAnyH_ready (rs := [4]) (by kernel_rfl) (by simp) ?_
              refine AllReadyH.cons rfl (fun K hK => ?_) AllReadyH.nil
              go_simp
              refine hK.out _ _ ⟨x0, x0⟩ (fun hS => ?_)
              clear hK K
              try simp only [Act.put, List.getElem_toArray, List.getElem_cons_succ, List.getElem_cons_zero, List.setIfInBounds_toArray, List.set_cons_zero, List.set_cons_succ]
              refine wpAnyH_ready (rs := [5]) (by kernel_rfl) (by simp) ?_
              refine AllReadyH.cons rfl (fun K hK => ?_) AllReadyH.nil
              go_simp
              refine hK.out _ _ ⟨x0, x0⟩ (fun hS => ?_)
              clear hK K
              refine wpAnyH_done (by kernel_rfl) ?_ _
              clear hS x0 d0 g5 cr5 fr5 lr5
              have hc := cells_at HE.out.1.1
              have hlr6 := lt_of_at HE.out.1.1
              go_wp2_with fail
              refine bodyPost_ret (v := .tuple #[.agg #[.string ⟨#[]⟩, .int .i64 0, .int .i64 0, .int .i64 0, .int .i64 0, .int .i64 0, .slice none 0 0, .slice none 0 0], .string ⟨#[]⟩, .int .i64 g0]) ?_ rfl (show RTakeNo w _ _ from ⟨g0, Hgz.out, rfl, ?_⟩)
              · simp [results, Tryz.results89, go_sem, hc, hlr6]
              · exact HE.out.2.after HE.out.1.2 (fun x hx => .inr (by simp only [List.mem_singleton] at hx; omega))
            · have hlt' : (j : Int) < (n : Int) := by omega
              go_upto_region 32 with fail
              clear cc lc fc cm lm he3 he4 HE
              obtain ⟨W5, hW5⟩ : ∃ W, W = wr := ⟨_, rfl⟩
              rw [← hW5] at H3 ⊢
              clear hW5
              have g5 := cells_at H3.out.1
              have l5 := lt_of_at H3.out.1
              have cr5 := cells_at H3.out.2.1
              have fr5 := free_at H3.out.2.1
              have lr5 := lt_of_at H3.out.2.1
              have d0 : W5.cell? ⟨cb, 1, none⟩ = some (.int .i64 g0) := by rw [g5]; rfl
              refine wp_region_held_drew (S := fun w' => w'.cell? ⟨cb, 1, none⟩ = some (.int .i64 g0) ∧ w'.cell? ⟨cb, 1, none⟩ = some (.int .i64 g0)) (by kernel_rfl) ⟨d0, d0⟩ (fun hS => ?_)
              refine wpAnyH_take (i := 0) (v := ?_) rfl (by kernel_rfl) (by kernel_rfl) (by kernel_rfl) (fun _ _ _ h => h) (Or.inl ⟨by rfl, ?_⟩) (by assumption) ?_
              rotate_left
              · intro w' hSw; obtain ⟨s1, s2⟩ := hSw; go_simp; (try with_reducible rfl)
              simp only [Act.put, List.getElem_toArray, List.getElem_cons_succ, List.getElem_cons_zero, List.setIfInBounds_toArray, List.set_cons_zero, List.set_cons_succ]
              refine wpAnyH_take (i := 1) (v := ?_) rfl (by kernel_rfl) (by kernel_rfl) (by kernel_rfl) (fun _ _ _ h => h) (Or.inl ⟨by rfl, ?_⟩) (by assumption) ?_
              rotate_left
              · intro w' hSw; obtain ⟨s1, s2⟩ := hSw; go_simp; (try with_reducible rfl)
              simp only [Act.put, List.getElem_toArray, List.getElem_cons_succ, List.getElem_cons_zero, List.setIfInBounds_toArray, List.set_cons_zero, List.set_cons_succ]
              refine wpAnyH_take (i := 2) (v := ?_) rfl (by kernel_rfl) (by kernel_rfl) (by kernel_rfl) (fun _ _ _ h => h) (Or.inl ⟨by rfl, ?_⟩) (by assumption) ?_
              rotate_left
              · intro w' hSw; obtain ⟨s1, s2⟩ := hSw; go_simp; (try with_reducible rfl)
              simp only [Act.put, List.getElem_toArray, List.getElem_cons_succ, List.getElem_cons_zero, List.setIfInBounds_toArray, List.set_cons_zero, List.set_cons_succ]
              have se := set8 (v0 := .string ⟨#[]⟩) (v1 := .int .i64 0) (v2 := .int .i64 0) (v3 := .int .i64 0) (v4 := .int .i64 0) (v5 := .int .i64 0) (v6 := .slice none 0 0) (v7 := .slice none 0 0) H3.out.2.1
              have hch : ((((((((W5.setCell ⟨rb, 0, none⟩ (.string ⟨#[]⟩)).setCell ⟨rb, 1, none⟩ (.int .i64 0)).setCell ⟨rb, 2, none⟩ (.int .i64 0)).setCell ⟨rb, 3, none⟩ (.int .i64 0)).setCell ⟨rb, 4, none⟩ (.int .i64 0)).setCell ⟨rb, 5, none⟩ (.int .i64 0)).setCell ⟨rb, 6, none⟩ (.slice none 0 0)).setCell ⟨rb, 7, none⟩ (.slice none 0 0)).drew.heap[rb]? = some (.cells #[.string ⟨#[]⟩, .int .i64 0, .int .i64 0, .int .i64 0, .int .i64 0, .int .i64 0, .slice none 0 0, .slice none 0 0] 66 (0, 0)) := (drew_heapM _ _).trans se.1
              have HE := Lib.hid (And.intro (And.intro hch se.2.drew) H3.out.2.2)
              clear se hch
              refine wpAnyH_ready (rs := [3]) (by kernel_rfl) (by simp) ?_
              refine AllReadyH.cons rfl (fun K hK => ?_) AllReadyH.nil
              go_simp
              generalize ((((((((W5.setCell ⟨rb, 0, none⟩ (.string ⟨#[]⟩)).setCell ⟨rb, 1, none⟩ (.int .i64 0)).setCell ⟨rb, 2, none⟩ (.int .i64 0)).setCell ⟨rb, 3, none⟩ (.int .i64 0)).setCell ⟨rb, 4, none⟩ (.int .i64 0)).setCell ⟨rb, 5, none⟩ (.int .i64 0)).setCell ⟨rb, 6, none⟩ (.slice none 0 0)).setCell ⟨rb, 7, none⟩ (.slice none 0 0)).drew = W6 at HE ⊢
              have x0 : W6.cell? ⟨cb, 1, none⟩ = some (.int .i64 g0) := (HE.out.1.2.cell l5 (by simp; omega)).trans d0
              refine hK.out _ _ ⟨x0, x0⟩ (fun hS => ?_)
              clear hK K
              try simp only [Act.put, List.getElem_toArray, List.getElem_cons_succ, List.getElem_cons_zero, List.setIfInBounds_toArray, List.set_cons_zero, List.set_cons_succ]
              refine wpAnyH_ready (rs := [4]) (by kernel_rfl) (by simp) ?_
              refine AllReadyH.cons rfl (fun K hK => ?_) AllReadyH.nil
              go_simp
              refine hK.out _ _ ⟨x0, x0⟩ (fun hS => ?_)
              clear hK K
              try simp only [Act.put, List.getElem_toArray, List.getElem_cons_succ, List.getElem_cons_zero, List.setIfInBounds_toArray, List.set_cons_zero, List.set_cons_succ]
              refine wpAnyH_ready (rs := [5]) (by kernel_rfl) (by simp) ?_
              refine AllReadyH.cons rfl (fun K hK => ?_) AllReadyH.nil
              go_simp
              refine hK.out _ _ ⟨x0, x0⟩ (fun hS => ?_)
              clear hK K
              refine wpAnyH_done (by kernel_rfl) ?_ _
              clear hS x0 d0 g5 cr5 fr5 lr5
              have hc := cells_at HE.out.1.1
              have hlr6 := lt_of_at HE.out.1.1
              go_wp2_with fail
              refine bodyPost_ret (v := .tuple #[.agg #[.string ⟨#[]⟩, .int .i64 0, .int .i64 0, .int .i64 0, .int .i64 0, .int .i64 0, .slice none 0 0, .slice none 0 0], .string ⟨#[]⟩, .int .i64 g0]) ?_ rfl (show RTakeNo w _ _ from ⟨g0, Hgz.out, rfl, ?_⟩)
              · simp [results, Tryz.results89, go_sem, hc, hlr6]
              · exact HE.out.2.after HE.out.1.2 (fun x hx => .inr (by simp only [List.mem_singleton] at hx; omega))
end Go.Proofs.YtjffdcflkkgpfaaGreat

namespace Go.Proofs.YtjffdcflkkgpfaaGreat
open Go Go.RowKit

/-- The document's meta: its values, its rows in memory of the walk's own. -/
def MetaQ (base : Nat) (w : World) (vs : List Value) (m : MetaS) : Prop :=
  ∃ vf vo, vs = [.string m.id, .int .i64 m.mn, .int .i64 m.mx, .int .i64 m.level, .int .i64 m.series, .int .i64 m.samples, vf, vo] ∧ w.ownsRow base 170 3 vf m.files.length (m.files.flatMap encFile) ∧ w.ownsRow base 9 1 vo m.sources.length (m.sources.flatMap encS1m)

theorem MetaQ.same {base : Nat} {w w' : World} {vs : List Value} {m : MetaS} (h : MetaQ base w vs m) (k : Keeps [] w w') : MetaQ base w' vs m := by
  obtain ⟨vf, vo, e, h1, h2⟩ := h
  exact ⟨vf, vo, e, k.row h1 (by simp), k.row h2 (by simp)⟩

theorem MetaQ.low {B B' : Nat} {w : World} {vs : List Value} {m : MetaS} (h : MetaQ B w vs m) (hB : B' ≤ B) : MetaQ B' w vs m := by
  obtain ⟨vf, vo, e, h1, h2⟩ := h
  exact ⟨vf, vo, e, row_base h1 hB, row_base h2 hB⟩

theorem MetaQ.out {base b : Nat} {w w' : World} {vs : List Value} {m : MetaS} {cs : Array Value} {t : TypeId} {z : Nat × Nat} (h : MetaQ base w vs m) (k : Keeps [b] w w') (hb : w.heap[b]? = some (.cells cs t z)) (h1 : t ≠ 170) (h2 : t ≠ 9) : MetaQ base w' vs m := by
  obtain ⟨vf, vo, e, r1, r2⟩ := h
  exact ⟨vf, vo, e, k.row r1 (fun g hg => by have := row_ne_type r1 hb h1 g hg; simpa using this), k.row r2 (fun g hg => by have := row_ne_type r2 hb h2 g hg; simpa using this)⟩

theorem MetaQ.keepRow {b base s n : Nat} {e : TypeId} {w w' : World} {vs xs : List Value} {v : Value} {m : MetaS} (h : MetaQ base w vs m) (hr : w.ownsRow b e s v n xs) (k : Keeps v.ownBlock.toList w w') (h1 : e ≠ 170) (h2 : e ≠ 9) : MetaQ base w' vs m := by
  obtain ⟨vf, vo, e, r1, r2⟩ := h
  exact ⟨vf, vo, e, k.row r1 (rows_neM hr r1 h1), k.row r2 (rows_neM hr r2 h2)⟩

theorem MetaQ.metaV {B : Nat} {w : World} {vs : List Value} {m : MetaS} (h : MetaQ B w vs m) : MetaV B w vs m := by
  obtain ⟨vf, vo, e, r1, r2⟩ := h
  exact ⟨vf, vo, e, sliceFrom_row (fun _ => rfl) r1, sliceFrom_row (fun _ => rfl) r2⟩

theorem MetaQT.metaQ {B : Nat} {w : World} {vs : List Value} {m : MetaT} (h : MetaQT B w vs m) (hp : PosT m) : MetaQ B w vs (fromT m) := by
  obtain ⟨vf, vo, e, h1, h2⟩ := h
  obtain ⟨p1, p2, p3, p4, p5, p6⟩ := hp
  refine ⟨vf, vo, ?_, ?_, ?_⟩
  · rw [e]
    unfold fromT
    simp only [Int.toNat_of_nonneg p1, Int.toNat_of_nonneg p2, Int.toNat_of_nonneg p3, Int.toNat_of_nonneg p4, Int.toNat_of_nonneg p5]
  · show World.ownsRow w B _ 3 vf (m.files.map _).length ((m.files.map _).flatMap encFile)
    rw [List.length_map, flatFile_from m.files (fun f hf => ⟨(p6 f hf).1, (p6 f hf).2.1⟩)]
    exact h1
  · show World.ownsRow w B _ 1 vo (m.sources.map _).length ((m.sources.map _).flatMap encS1m)
    rw [List.length_map, flatSrc_from]
    exact h2

theorem rTakeR_some {F : MetaT × Tk} {m : MetaT} {l : List UInt8} (h : rTakeR F = some (m, l)) : F = (m, (l, 0)) ∧ okT m = true := by
  unfold rTakeR at h
  split at h
  · cases h
  · rename_i hn
    simp only [Option.some.injEq, Prod.mk.injEq] at h
    obtain ⟨rfl, rfl⟩ := h
    refine ⟨?_, ?_⟩
    · obtain ⟨m, l, e⟩ := F
      have : e = 0 := Classical.byContradiction fun h => hn (.inl h)
      rw [this]
    · cases h : okT F.1 with
      | true => rfl
      | false => exact absurd (.inr h) hn

theorem rTakeR_none {F : MetaT × Tk} (h : rTakeR F = none) : F.2.2 ≠ 0 ∨ okT F.1 = false := by
  unfold rTakeR at h
  split at h
  · assumption
  · cases h

def RDecNo (w : World) (e : Ending) (w' : World) : Prop := ∃ c : Int, c ≠ 0 ∧ e = .returned (.tuple #[zeroT, .int .i64 c]) ∧ Keeps [] w w'

def RDecYes (w : World) (M : MetaS) (e : Ending) (w' : World) : Prop := ∃ vs, e = .returned (.tuple #[.agg vs.toArray, .int .i64 0]) ∧ MetaQ w.heap.size w' vs M ∧ Keeps [] w w'

def RDecPost (w : World) (r : Option MetaS) (e : Ending) (w' : World) : Prop := match r with
  | some M => RDecYes w M e w'
  | none => RDecNo w e w'


set_option linter.unusedSimpArgs false in
set_option maxRecDepth 100000 in
set_option maxHeartbeats 4000000 in
theorem rDecode_spec (w : World) (s : ByteArray) (hs : s.size ≤ 1000000) :
    Calls Tryz.prog 49 #[.string s] w (RDecPost w (decS s.data.toList)) := by
  obtain ⟨R, hR⟩ : ∃ R, R = decS s.data.toList := ⟨_, rfl⟩
  obtain ⟨D, hD⟩ : ∃ D : List UInt8 × Int, D = onlyL s.data.toList 1 := ⟨_, rfl⟩
  have hsl : s.data.toList.length ≤ 1000000 := by rw [dsize]; exact hs
  have hDl : D.1.length ≤ 1000000 := by rw [hD]; exact Nat.le_trans (onlyL_len _ _) hsl
  have Ho := Lib.hid (fun W => rOnly_spec W s hs 1)
  rw [← hD] at Ho
  have HR := Lib.hid hR
  have HD := Lib.hid hD
  rw [← hR]
  obtain ⟨d, er⟩ := D
  dsimp only at Ho hDl
  obtain ⟨rb, hrb⟩ : ∃ n, n = w.heap.size := ⟨_, rfl⟩
  have HB := Lib.hid hrb
  have hwr : w.heap.size ≤ rb := by omega
  have n0 := heap_new w (.cells #[.string ⟨#[]⟩, .int .i64 0, .int .i64 0, .int .i64 0, .int .i64 0, .int .i64 0, .slice none 0 0, .slice none 0 0] 66)
  have k0 : Keeps [] w (w.alloc (.cells #[.string ⟨#[]⟩, .int .i64 0, .int .i64 0, .int .i64 0, .int .i64 0, .int .i64 0, .slice none 0 0, .slice none 0 0] 66)) := (Keeps.refl [] w).alloc _
  rw [← hrb] at n0
  have H0 := Lib.hid (And.intro n0 k0)
  clear hR hD hsl hs hrb n0 k0
  go_enter Tryz.func49, Tryz.ntmps49
  go_wp2_with fail
  rw [← HB.out]
  generalize w.alloc (.cells #[.string ⟨#[]⟩, .int .i64 0, .int .i64 0, .int .i64 0, .int .i64 0, .int .i64 0, .slice none 0 0, .slice none 0 0] 66) = W at H0 ⊢
  refine (Ho.out W).mono ?_
  rintro e w1 ⟨x, rfl, hx, hk1⟩
  have nr1 := hk1.at_ H0.out.1 (by simp)
  have cr1 := cells_at nr1
  have fr1 := free_at nr1
  have lr1 := lt_of_at nr1
  have H1 := Lib.hid (And.intro nr1 (H0.out.2.trans hk1))
  clear nr1 hk1 H0 Ho
  dsimp only at hx ⊢
  by_cases he : er = 0
  · subst he
    have hxd : x.data.toList = d := by rw [hx rfl]
    have hxz : x.size ≤ 1000000 := by rw [← dsize, hxd]; exact hDl
    have Ht := Lib.hid (fun W => by
      have h := rTake_spec W x (by omega)
      rw [hxd] at h
      exact h)
    obtain ⟨F, hF⟩ : ∃ F, F = fieldsT (d, 0) := ⟨_, rfl⟩
    rw [← hF] at Ht
    have HF0 := Lib.hid hF
    have hpos : PosT F.1 := by rw [hF]; exact fieldsT_pos (d, 0)
    have Hpos := Lib.hid hpos
    clear hx hxd hxz hDl hF hpos cr1 fr1 lr1
    cases hr : rTakeR F with
    | none =>
      rw [hr] at Ht
      have hno := rTakeR_none hr
      have hRn : R = none := by
        rw [HR.out]
        exact decS_no (m := F.1) (l' := F.2.1) (er := F.2.2) (by rw [← HD.out]; exact HF0.out.symm) hno
      subst hRn
      clear hr hno
      go_wp2_with fail
      refine (Ht.out _).mono ?_
      rintro e w3 ⟨c, hc, rfl, hk3⟩
      have nr3 := hk3.at_ H1.out.1 (by simp)
      have ka : Keeps [] w3 (w3.alloc (.cells #[.string ⟨#[]⟩, .int .i64 0, .int .i64 0, .int .i64 0, .int .i64 0, .int .i64 0, .slice none 0 0, .slice none 0 0] 66)) := (Keeps.refl [] w3).alloc _
      have na := heap_new w3 (.cells #[.string ⟨#[]⟩, .int .i64 0, .int .i64 0, .int .i64 0, .int .i64 0, .int .i64 0, .slice none 0 0, .slice none 0 0] 66)
      have HF := Lib.hid (And.intro (ka.at_ nr3 (by simp)) (And.intro hc ((H1.out.2.trans hk3).trans ka)))
      have hc1 : (c == 0) = false := by simp [hc]
      have hc2 : (c != 0) = true := by simp [hc]
      have ca := cells_at na
      have la := lt_of_at na
      have cr := cells_at HF.out.1
      have fr := free_at HF.out.1
      have lr := lt_of_at HF.out.1
      clear nr3 ka na hk3 hc H1
      unfold zeroT
      go_wp2_with fail
      clear cr fr lr ca la
      have se := set8 (v0 := .string ⟨#[]⟩) (v1 := .int .i64 0) (v2 := .int .i64 0) (v3 := .int .i64 0) (v4 := .int .i64 0) (v5 := .int .i64 0) (v6 := .slice none 0 0) (v7 := .slice none 0 0) HF.out.1
      have hc := cells_at se.1
      have hlr := lt_of_at se.1
      refine bodyPost_ret (v := .tuple #[.agg #[.string ⟨#[]⟩, .int .i64 0, .int .i64 0, .int .i64 0, .int .i64 0, .int .i64 0, .slice none 0 0, .slice none 0 0], .int .i64 c]) ?_ rfl (show RDecNo w _ _ from ⟨c, HF.out.2.1, rfl, HF.out.2.2.after se.2 (fun x hx => .inr (by simp only [List.mem_singleton] at hx; omega))⟩)
      simp [results, Tryz.results49, go_sem, hc, hlr]
    | some p =>
      obtain ⟨m, l⟩ := p
      rw [hr] at Ht
      obtain ⟨hFe, hok⟩ := rTakeR_some hr
      have hfd : fieldsT ((onlyL s.data.toList 1).1, 0) = (m, (l, 0)) := by rw [← HD.out, ← hFe]; exact HF0.out.symm
      have hpm : PosT m := by have := Hpos.out; rw [hFe] at this; exact this
      have Hm := Lib.hid (And.intro hok hpm)
      obtain ⟨ls, hls⟩ : ∃ b : ByteArray, b = ⟨l.toArray⟩ := ⟨_, rfl⟩
      have Hls := Lib.hid hls
      clear hr hFe hok hpm Hpos HF0
      by_cases hl : l = []
      · have hRn : R = some (fromT m) := by
          rw [HR.out]
          exact decS_yes (by rw [← HD.out]) (by rw [hfd, hl]) Hm.out.1
        subst hRn
        obtain ⟨z1, z2⟩ := is_empty (s := ls) (by rw [hls, hl]; rfl)
        clear hfd hls hl
        go_wp2_with fail
        refine (Ht.out _).mono ?_
        rintro e w3 ⟨vs, rfl, hm3, hk3⟩
        rw [← Hls.out]
        have hvs := hm3
        obtain ⟨vf, vo, rfl, hsf, hso⟩ := hvs
        obtain ⟨af, cf, rfl, -, -, -⟩ := row_slice hsf
        obtain ⟨ao, co, rfl, -, -, -⟩ := row_slice hso
        have nr3 := hk3.at_ H1.out.1 (by simp)
        have ka : Keeps [] w3 (w3.alloc (.cells #[.string ⟨m.id.toArray⟩, .int .i64 m.mn, .int .i64 m.mx, .int .i64 m.level, .int .i64 m.series, .int .i64 m.samples, .slice af m.files.length cf, .slice ao m.sources.length co] 66)) := (Keeps.refl [] w3).alloc _
        have na := heap_new w3 (.cells #[.string ⟨m.id.toArray⟩, .int .i64 m.mn, .int .i64 m.mx, .int .i64 m.level, .int .i64 m.series, .int .i64 m.samples, .slice af m.files.length cf, .slice ao m.sources.length co] 66)
        have hw1 := H1.out.2.size
        have hrl := lt_of_at H1.out.1
        have HF := Lib.hid (And.intro (ka.at_ nr3 (by simp)) (And.intro ((hm3.same ka).metaQ Hm.out.2) ((H1.out.2.trans hk3).trans ka)))
        have ca := cells_at na
        have la := lt_of_at na
        have cr := cells_at HF.out.1
        have fr := free_at HF.out.1
        have lr := lt_of_at HF.out.1
        clear nr3 ka na hk3 hm3 H1
        go_wp2_with fail
        clear cr fr lr ca la
        have se := set8 (v0 := .string ⟨m.id.toArray⟩) (v1 := .int .i64 m.mn) (v2 := .int .i64 m.mx) (v3 := .int .i64 m.level) (v4 := .int .i64 m.series) (v5 := .int .i64 m.samples) (v6 := .slice af m.files.length cf) (v7 := .slice ao m.sources.length co) HF.out.1
        have hc := cells_at se.1
        have hlr := lt_of_at se.1
        refine bodyPost_ret (v := .tuple #[.agg #[.string ⟨m.id.toArray⟩, .int .i64 m.mn, .int .i64 m.mx, .int .i64 m.level, .int .i64 m.series, .int .i64 m.samples, .slice af m.files.length cf, .slice ao m.sources.length co], .int .i64 0]) ?_ rfl (show RDecYes w _ _ _ from ⟨[.string ⟨m.id.toArray⟩, .int .i64 m.mn, .int .i64 m.mx, .int .i64 m.level, .int .i64 m.series, .int .i64 m.samples, .slice af m.files.length cf, .slice ao m.sources.length co], rfl, (HF.out.2.1.out se.2 HF.out.1 (by decide) (by decide)).low hw1, HF.out.2.2.after se.2 (fun x hx => .inr (by simp only [List.mem_singleton] at hx; omega))⟩)
        simp [results, Tryz.results49, go_sem, hc, hlr]
      · have hRn : R = none := by rw [HR.out]; exact decS_rest hfd hl
        subst hRn
        obtain ⟨z1, z2⟩ := ne_empty (s := ls) (by rw [hls]; intro e; exact hl (List.eq_nil_of_length_eq_zero e))
        clear hfd hls hl
        go_wp2_with fail
        refine (Ht.out _).mono ?_
        rintro e w3 ⟨vs, rfl, hm3, hk3⟩
        rw [← Hls.out]
        obtain ⟨vf, vo, rfl, hsf, hso⟩ := hm3
        obtain ⟨af, cf, rfl, -, -, -⟩ := row_slice hsf
        obtain ⟨ao, co, rfl, -, -, -⟩ := row_slice hso
        have nr3 := hk3.at_ H1.out.1 (by simp)
        have ka : Keeps [] w3 (w3.alloc (.cells #[.string ⟨m.id.toArray⟩, .int .i64 m.mn, .int .i64 m.mx, .int .i64 m.level, .int .i64 m.series, .int .i64 m.samples, .slice af m.files.length cf, .slice ao m.sources.length co] 66)) := (Keeps.refl [] w3).alloc _
        have HF := Lib.hid (And.intro (ka.at_ nr3 (by simp)) ((H1.out.2.trans hk3).trans ka))
        have cr := cells_at HF.out.1
        have fr := free_at HF.out.1
        have lr := lt_of_at HF.out.1
        clear nr3 ka hk3 H1
        go_wp2_with fail
        clear cr fr lr
        have se := set8 (v0 := .string ⟨#[]⟩) (v1 := .int .i64 0) (v2 := .int .i64 0) (v3 := .int .i64 0) (v4 := .int .i64 0) (v5 := .int .i64 0) (v6 := .slice none 0 0) (v7 := .slice none 0 0) HF.out.1
        have hc := cells_at se.1
        have hlr := lt_of_at se.1
        refine bodyPost_ret (v := .tuple #[.agg #[.string ⟨#[]⟩, .int .i64 0, .int .i64 0, .int .i64 0, .int .i64 0, .int .i64 0, .slice none 0 0, .slice none 0 0], .int .i64 3]) ?_ rfl (show RDecNo w _ _ from ⟨3, by decide, rfl, HF.out.2.after se.2 (fun x hx => .inr (by simp only [List.mem_singleton] at hx; omega))⟩)
        simp [results, Tryz.results49, go_sem, hc, hlr]
  · have hRn : R = none := by rw [HR.out]; exact decS_only (by rw [← HD.out]; exact he)
    subst hRn
    have hc1 : (er == 0) = false := by simp [he]
    have hc2 : (er != 0) = true := by simp [he]
    have He := Lib.hid he
    have HF := H1
    clear he hx H1
    go_wp2_with fail
    clear cr1 fr1 lr1
    have se := set8 (v0 := .string ⟨#[]⟩) (v1 := .int .i64 0) (v2 := .int .i64 0) (v3 := .int .i64 0) (v4 := .int .i64 0) (v5 := .int .i64 0) (v6 := .slice none 0 0) (v7 := .slice none 0 0) HF.out.1
    have hc := cells_at se.1
    have hlr := lt_of_at se.1
    refine bodyPost_ret (v := .tuple #[.agg #[.string ⟨#[]⟩, .int .i64 0, .int .i64 0, .int .i64 0, .int .i64 0, .int .i64 0, .slice none 0 0, .slice none 0 0], .int .i64 er]) ?_ rfl (show RDecNo w _ _ from ⟨er, He.out, rfl, HF.out.2.after se.2 (fun x hx => .inr (by simp only [List.mem_singleton] at hx; omega))⟩)
    simp [results, Tryz.results49, go_sem, hc, hlr]
end Go.Proofs.YtjffdcflkkgpfaaGreat
