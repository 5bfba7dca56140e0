/-
  What is taken of a meta's bytes (package meta): taker.fields, Take, where the bytes are a meta's that may be, and more behind.
  The bytes are not too many.

  What is taken of a meta's bytes (package meta): Take, where the bytes are a meta's that may be, and more behind.
  The bytes are not too many.
-/
import Derived.Test.YtaebpbkiaihhdaaGreatDoorMetaPut
namespace Go.Proofs.YtaebpbkiaihhdaaGreatDoor
open Go Go.RowKit

theorem metaL_app (m : MetaS) (l : List UInt8) : metaL m ++ l = textL m.id.data.toList ++ (lebL m.mn ++ (lebL m.mx ++ (lebL m.level ++ (lebL m.series ++ (lebL m.samples ++ (m.files.flatMap fileL ++ (lebL m.sources.length ++ (m.sources.flatMap textB ++ l)))))))) := by
  unfold metaL textB
  simp [List.append_assoc]

theorem set8 {w : World} {p : Nat} {t : TypeId} {a0 a1 a2 a3 a4 a5 a6 a7 v0 v1 v2 v3 v4 v5 v6 v7 : Value} {z : Nat × Nat} (h : w.heap[p]? = some (.cells #[a0, a1, a2, a3, a4, a5, a6, a7] t z)) :
    ((((((((w.setCell ⟨p, 0, none⟩ v0).setCell ⟨p, 1, none⟩ v1).setCell ⟨p, 2, none⟩ v2).setCell ⟨p, 3, none⟩ v3).setCell ⟨p, 4, none⟩ v4).setCell ⟨p, 5, none⟩ v5).setCell ⟨p, 6, none⟩ v6).setCell ⟨p, 7, none⟩ v7).heap[p]? = some (.cells #[v0, v1, v2, v3, v4, v5, v6, v7] t z) ∧
      Keeps [p] w ((((((((w.setCell ⟨p, 0, none⟩ v0).setCell ⟨p, 1, none⟩ v1).setCell ⟨p, 2, none⟩ v2).setCell ⟨p, 3, none⟩ v3).setCell ⟨p, 4, none⟩ v4).setCell ⟨p, 5, none⟩ v5).setCell ⟨p, 6, none⟩ v6).setCell ⟨p, 7, none⟩ v7) := by
  have h0 := heap_cell_same (i := 0) h v0
  have h1 := heap_cell_same (i := 1) h0 v1
  have h2 := heap_cell_same (i := 2) h1 v2
  have h3 := heap_cell_same (i := 3) h2 v3
  have h4 := heap_cell_same (i := 4) h3 v4
  have h5 := heap_cell_same (i := 5) h4 v5
  have h6 := heap_cell_same (i := 6) h5 v6
  have h7 := heap_cell_same (i := 7) h6 v7
  exact ⟨h7.trans (by simp), ((((((((Keeps.refl [p] w).setCell (.inl (by simp)) v0).setCell (.inl (by simp)) v1).setCell (.inl (by simp)) v2).setCell (.inl (by simp)) v3).setCell (.inl (by simp)) v4).setCell (.inl (by simp)) v5).setCell (.inl (by simp)) v6).setCell (.inl (by simp)) v7⟩

theorem TakerAt.keep {w w' : World} {q : Nat} {st : Tk} {S : List Nat} (h : TakerAt w q st) (k : Keeps S w w') (hq : q ∉ S) : TakerAt w' q st := k.at_ h hq

theorem row_ne_type {w : World} {base s n b : Nat} {e t : TypeId} {v : Value} {xs : List Value} {cs : Array Value} {z : Nat × Nat} (h : w.ownsRow base e s v n xs) (hb : w.heap[b]? = some (.cells cs t z)) (ht : t ≠ e) : ∀ g, v.ownBlock = some g → g ≠ b := by
  rintro g hg rfl
  obtain ⟨_, ⟨rfl, _⟩ | ⟨g2, c2, r2, rfl, _, hb2, _⟩⟩ := h
  · simp [Value.ownBlock] at hg
  · simp [Value.ownBlock] at hg
    subst hg
    rw [hb] at hb2
    injection hb2 with hb2
    injection hb2 with _ hb2 _
    exact ht hb2

theorem keeps_grownM {S : List Nat} {a w w' : World} {row : Option Nat} (h : Keeps S a w) (hg : w.grownBy w' row) (hr : ∀ q, row = some q → a.heap.size ≤ q) : Keeps S a w' :=
  ⟨hg.os.trans h.os, hg.tape.trans h.tape, hg.output.trans h.output, Nat.le_trans h.size hg.size, fun k hk hn => (hg.block k (Nat.lt_of_lt_of_le hk h.size) (fun e => by
    have := hr k e.symm
    omega)).trans (h.block k hk hn)⟩

theorem keeps_rowM {w w' : World} {v : Value} (hg : w.grownBy w' v.ownBlock) : Keeps v.ownBlock.toList w w' := Keeps.of_grown hg (fun k hk => .inl (by simp [hk]))

theorem rows_neM {w : World} {b1 b2 s1 s2 n1 n2 : Nat} {e1 e2 : TypeId} {v1 v2 : Value} {x1 x2 : List Value} (h1 : w.ownsRow b1 e1 s1 v1 n1 x1) (h2 : w.ownsRow b2 e2 s2 v2 n2 x2) (he : e1 ≠ e2) : ∀ g, v2.ownBlock = some g → g ∉ v1.ownBlock.toList := by
  intro g hg hm
  obtain ⟨_, ⟨rfl, _⟩ | ⟨g2, c2, r2, rfl, _, hb2, _⟩⟩ := h2
  · simp [Value.ownBlock] at hg
  · simp [Value.ownBlock] at hg
    subst hg
    exact row_ne_type h1 hb2 (fun e => he e.symm) _ (by simpa using hm) rfl

theorem flat_next1 (L : List ByteArray) {k : Nat} (hk : k < L.length) : (L.take (k + 1)).flatMap encS1m = (L.take k).flatMap encS1m ++ [.string L[k]] := by
  rw [List.take_succ_eq_append_getElem hk, List.flatMap_append]
  simp [encS1m]

theorem infoStrM : (Tryz.prog.info? 9).map (fun i => (i.zero, i.size, i.bytes)) = some (some (.string ⟨#[]⟩), 1, 16) := by kernel_rfl

theorem infoFile : (Tryz.prog.info? 127).map (fun i => (i.zero, i.size, i.bytes)) = some (some (.agg #[.string ⟨#[]⟩, .int .i64 0, .int .u32 0]), 3, 32) := by kernel_rfl


def TakePost (w : World) (q : Nat) (m : MetaS) (l : List UInt8) (e : Ending) (w' : World) : Prop :=
  ∃ vs, e = .returned (.agg vs.toArray) ∧ MetaR w.heap.size w' vs m ∧ TakerAt w' q (l, 0) ∧ Keeps [q] w w'

def TkRel1 (w : World) (q rb mb : Nat) (m : MetaS) (R : Nat → List UInt8) (gk : Nat) (u : Value) (wr : World) : Prop :=
  ∃ k vf, k ≤ 2 ∧ gk = 2 - k ∧ u = .int .i64 k ∧ wr.heap[mb]? = some (.cells #[.string m.id, .int .i64 m.mn, .int .i64 m.mx, .int .i64 m.level, .int .i64 m.series, .int .i64 m.samples, vf, .slice none 0 0] 26 (0, 0)) ∧ wr.heap[rb]? = some (.cells #[.string ⟨#[]⟩, .int .i64 0, .int .i64 0, .int .i64 0, .int .i64 0, .int .i64 0, .slice none 0 0, .slice none 0 0] 26 (0, 0)) ∧ wr.ownsRow w.heap.size 127 3 vf k ((m.files.take k).flatMap encFile) ∧ TakerAt wr q (R k, 0) ∧ Keeps [q] w wr

def TkRel2 (w : World) (q rb mb : Nat) (m : MetaS) (vf : Value) (R : Nat → List UInt8) (gk : Nat) (u : Value) (wr : World) : Prop :=
  ∃ k vo, k ≤ m.sources.length ∧ gk = m.sources.length - k ∧ u = .int .i64 ((m.sources.length - k : Nat) : Int) ∧ wr.heap[mb]? = some (.cells #[.string m.id, .int .i64 m.mn, .int .i64 m.mx, .int .i64 m.level, .int .i64 m.series, .int .i64 m.samples, vf, vo] 26 (0, 0)) ∧ wr.heap[rb]? = some (.cells #[.string ⟨#[]⟩, .int .i64 0, .int .i64 0, .int .i64 0, .int .i64 0, .int .i64 0, .slice none 0 0, .slice none 0 0] 26 (0, 0)) ∧ wr.ownsRow w.heap.size 127 3 vf 2 (m.files.flatMap encFile) ∧
    wr.ownsRow w.heap.size 9 1 vo k ((m.sources.take k).flatMap encS1m) ∧ TakerAt wr q (R k, 0) ∧ Keeps [q] w wr


set_option linter.unusedSimpArgs false in
set_option maxRecDepth 100000 in
set_option maxHeartbeats 4000000 in
theorem takeFields_spec (w : World) (q : Nat) (m : MetaS) (l : List UInt8) (h : TakerAt w q (metaL m ++ l, 0)) (ok : MetaOk m) (hl : (metaL m ++ l).length ≤ 1000000000) :
    Calls Tryz.prog 115 #[.pointer (some ⟨q, 0, none⟩)] w (TakePost w q m l) := by
  have Hok := Lib.hid ok
  obtain ⟨s1, c1, s2, c2, hfs, b1, b2, b3, b4⟩ := ok.files
  have hidz := id16 ok.id
  obtain ⟨t1, t2⟩ := ok.time
  obtain ⟨t3, t4⟩ := ok.level
  obtain ⟨t5, t6⟩ := ok.samples
  have t7 := ok.few
  obtain ⟨ifl, hif, hzf0, hzf1, hzf2⟩ := info_parts infoFile
  obtain ⟨ist, his, hzs0, hzs1, hzs2⟩ := info_parts infoStrM
  rw [metaL_app] at h hl
  obtain ⟨RS, hRS⟩ : ∃ R, R = m.sources.flatMap textB ++ l := ⟨_, rfl⟩
  obtain ⟨RF, hRF⟩ : ∃ R, R = m.files.flatMap fileL ++ (lebL m.sources.length ++ RS) := ⟨_, rfl⟩
  rw [← hRS, ← hRF] at h hl
  simp only [List.length_append] at hl
  have HR := Lib.hid (And.intro hRS (And.intro hRF hfs))
  clear hRS hRF ok hfs
  have hqlt : q < w.heap.size := lt_of_at h
  obtain ⟨rb, hrb⟩ : ∃ n, n = w.heap.size := ⟨_, rfl⟩
  obtain ⟨mb, hmb⟩ : ∃ n, n = w.heap.size + 1 := ⟨_, rfl⟩
  have n0 := new2 w (.cells #[.string ⟨#[]⟩, .int .i64 0, .int .i64 0, .int .i64 0, .int .i64 0, .int .i64 0, .slice none 0 0, .slice none 0 0] 26) (.cells #[.string ⟨#[]⟩, .int .i64 0, .int .i64 0, .int .i64 0, .int .i64 0, .int .i64 0, .slice none 0 0, .slice none 0 0] 26)
  have k0 : Keeps [] w ((w.alloc (.cells #[.string ⟨#[]⟩, .int .i64 0, .int .i64 0, .int .i64 0, .int .i64 0, .int .i64 0, .slice none 0 0, .slice none 0 0] 26)).alloc (.cells #[.string ⟨#[]⟩, .int .i64 0, .int .i64 0, .int .i64 0, .int .i64 0, .int .i64 0, .slice none 0 0, .slice none 0 0] 26)) := ((Keeps.refl [] w).alloc _).alloc _
  have hw0 : w.heap.size ≤ rb ∧ w.heap.size ≤ mb ∧ rb ≠ mb ∧ q ≠ rb ∧ q ≠ mb := by omega
  have HB := Lib.hid (And.intro hrb hmb)
  have H0 := Lib.hid (And.intro (h.keep k0 (by simp)) (And.intro n0.1 (And.intro n0.2 k0)))
  clear hrb hmb n0 k0 h
  go_enter Tryz.func115, Tryz.ntmps115
  go_wp2_with fail
  rw [← HB.out.2] at H0 ⊢
  rw [← HB.out.1] at H0 ⊢
  generalize (w.alloc (.cells #[.string ⟨#[]⟩, .int .i64 0, .int .i64 0, .int .i64 0, .int .i64 0, .int .i64 0, .slice none 0 0, .slice none 0 0] 26)).alloc (.cells #[.string ⟨#[]⟩, .int .i64 0, .int .i64 0, .int .i64 0, .int .i64 0, .int .i64 0, .slice none 0 0, .slice none 0 0] 26) = W at H0 ⊢
  refine (tkText_spec W q (textL m.id.data.toList ++ (lebL m.mn ++ (lebL m.mx ++ (lebL m.level ++ (lebL m.series ++ (lebL m.samples ++ RF))))), 0) H0.out.1 (by simp only [List.length_append, maxLen]; omega) 16 (by decide)).mono ?_
  rintro e wa0 ⟨rfl, hq, hk⟩
  rw [tkT_text (by rw [dsize]; omega) (by decide)] at hq ⊢
  simp only [ba_mk] at hq ⊢
  have nm := hk.at_ H0.out.2.2.1 (by simp; omega)
  have nr := hk.at_ H0.out.2.1 (by simp; omega)
  have cm := cells_at nm
  have fm := free_at nm
  have lm := lt_of_at nm
  have nm2 : (wa0.setCell ⟨mb, 0, none⟩ (.string m.id)).heap[mb]? = some (.cells #[.string m.id, .int .i64 0, .int .i64 0, .int .i64 0, .int .i64 0, .int .i64 0, .slice none 0 0, .slice none 0 0] 26 (0, 0)) := (heap_cell_same (i := 0) nm (.string m.id)).trans (by simp)
  have k2 : Keeps [mb] wa0 (wa0.setCell ⟨mb, 0, none⟩ (.string m.id)) := (Keeps.refl [mb] wa0).setCell (.inl (by simp)) _
  have HH0 := Lib.hid (And.intro (hq.keep k2 (by simp; omega)) (And.intro (k2.at_ nr (by simp; omega)) (And.intro nm2 ((H0.out.2.2.2.mono (by simp) : Keeps [q] w W).trans hk |>.after k2 (fun x hx => .inr (by simp only [List.mem_singleton] at hx; omega))))))
  clear hq hk nr nm nm2 k2
  go_wp2_with fail
  clear cm fm lm
  generalize wa0.setCell ⟨mb, 0, none⟩ (.string m.id) = wb0 at HH0 ⊢
  refine (tkNum_spec wb0 q (lebL m.mn ++ (lebL m.mx ++ (lebL m.level ++ (lebL m.series ++ (lebL m.samples ++ RF)))), 0) HH0.out.1 (by simp only [List.length_append, maxLen]; omega) 1099511627776 (by decide)).mono ?_
  rintro e wa1 ⟨rfl, hq, hk⟩
  rw [tkN_leb (by omega) (by decide)] at hq ⊢
  simp only at hq ⊢
  have nm := hk.at_ HH0.out.2.2.1 (by simp; omega)
  have nr := hk.at_ HH0.out.2.1 (by simp; omega)
  have cm := cells_at nm
  have fm := free_at nm
  have lm := lt_of_at nm
  have nm2 : (wa1.setCell ⟨mb, 1, none⟩ (.int .i64 m.mn)).heap[mb]? = some (.cells #[.string m.id, .int .i64 m.mn, .int .i64 0, .int .i64 0, .int .i64 0, .int .i64 0, .slice none 0 0, .slice none 0 0] 26 (0, 0)) := (heap_cell_same (i := 1) nm (.int .i64 m.mn)).trans (by simp)
  have k2 : Keeps [mb] wa1 (wa1.setCell ⟨mb, 1, none⟩ (.int .i64 m.mn)) := (Keeps.refl [mb] wa1).setCell (.inl (by simp)) _
  have HH1 := Lib.hid (And.intro (hq.keep k2 (by simp; omega)) (And.intro (k2.at_ nr (by simp; omega)) (And.intro nm2 ((HH0.out.2.2.2.mono (by simp) : Keeps [q] w wb0).trans hk |>.after k2 (fun x hx => .inr (by simp only [List.mem_singleton] at hx; omega))))))
  clear hq hk nr nm nm2 k2
  go_wp2_with fail
  clear cm fm lm
  generalize wa1.setCell ⟨mb, 1, none⟩ (.int .i64 m.mn) = wb1 at HH1 ⊢
  refine (tkNum_spec wb1 q (lebL m.mx ++ (lebL m.level ++ (lebL m.series ++ (lebL m.samples ++ RF))), 0) HH1.out.1 (by simp only [List.length_append, maxLen]; omega) 1099511627776 (by decide)).mono ?_
  rintro e wa2 ⟨rfl, hq, hk⟩
  rw [tkN_leb (by omega) (by decide)] at hq ⊢
  simp only at hq ⊢
  have nm := hk.at_ HH1.out.2.2.1 (by simp; omega)
  have nr := hk.at_ HH1.out.2.1 (by simp; omega)
  have cm := cells_at nm
  have fm := free_at nm
  have lm := lt_of_at nm
  have nm2 : (wa2.setCell ⟨mb, 2, none⟩ (.int .i64 m.mx)).heap[mb]? = some (.cells #[.string m.id, .int .i64 m.mn, .int .i64 m.mx, .int .i64 0, .int .i64 0, .int .i64 0, .slice none 0 0, .slice none 0 0] 26 (0, 0)) := (heap_cell_same (i := 2) nm (.int .i64 m.mx)).trans (by simp)
  have k2 : Keeps [mb] wa2 (wa2.setCell ⟨mb, 2, none⟩ (.int .i64 m.mx)) := (Keeps.refl [mb] wa2).setCell (.inl (by simp)) _
  have HH2 := Lib.hid (And.intro (hq.keep k2 (by simp; omega)) (And.intro (k2.at_ nr (by simp; omega)) (And.intro nm2 ((HH1.out.2.2.2.mono (by simp) : Keeps [q] w wb1).trans hk |>.after k2 (fun x hx => .inr (by simp only [List.mem_singleton] at hx; omega))))))
  clear hq hk nr nm nm2 k2
  go_wp2_with fail
  clear cm fm lm
  generalize wa2.setCell ⟨mb, 2, none⟩ (.int .i64 m.mx) = wb2 at HH2 ⊢
  refine (tkNum_spec wb2 q (lebL m.level ++ (lebL m.series ++ (lebL m.samples ++ RF)), 0) HH2.out.1 (by simp only [List.length_append, maxLen]; omega) 9 (by decide)).mono ?_
  rintro e wa3 ⟨rfl, hq, hk⟩
  rw [tkN_leb (by omega) (by decide)] at hq ⊢
  simp only at hq ⊢
  have nm := hk.at_ HH2.out.2.2.1 (by simp; omega)
  have nr := hk.at_ HH2.out.2.1 (by simp; omega)
  have cm := cells_at nm
  have fm := free_at nm
  have lm := lt_of_at nm
  have nm2 : (wa3.setCell ⟨mb, 3, none⟩ (.int .i64 m.level)).heap[mb]? = some (.cells #[.string m.id, .int .i64 m.mn, .int .i64 m.mx, .int .i64 m.level, .int .i64 0, .int .i64 0, .slice none 0 0, .slice none 0 0] 26 (0, 0)) := (heap_cell_same (i := 3) nm (.int .i64 m.level)).trans (by simp)
  have k2 : Keeps [mb] wa3 (wa3.setCell ⟨mb, 3, none⟩ (.int .i64 m.level)) := (Keeps.refl [mb] wa3).setCell (.inl (by simp)) _
  have HH3 := Lib.hid (And.intro (hq.keep k2 (by simp; omega)) (And.intro (k2.at_ nr (by simp; omega)) (And.intro nm2 ((HH2.out.2.2.2.mono (by simp) : Keeps [q] w wb2).trans hk |>.after k2 (fun x hx => .inr (by simp only [List.mem_singleton] at hx; omega))))))
  clear hq hk nr nm nm2 k2
  go_wp2_with fail
  clear cm fm lm
  generalize wa3.setCell ⟨mb, 3, none⟩ (.int .i64 m.level) = wb3 at HH3 ⊢
  refine (tkNum_spec wb3 q (lebL m.series ++ (lebL m.samples ++ RF), 0) HH3.out.1 (by simp only [List.length_append, maxLen]; omega) 1073741824 (by decide)).mono ?_
  rintro e wa4 ⟨rfl, hq, hk⟩
  rw [tkN_leb (by omega) (by decide)] at hq ⊢
  simp only at hq ⊢
  have nm := hk.at_ HH3.out.2.2.1 (by simp; omega)
  have nr := hk.at_ HH3.out.2.1 (by simp; omega)
  have cm := cells_at nm
  have fm := free_at nm
  have lm := lt_of_at nm
  have nm2 : (wa4.setCell ⟨mb, 4, none⟩ (.int .i64 m.series)).heap[mb]? = some (.cells #[.string m.id, .int .i64 m.mn, .int .i64 m.mx, .int .i64 m.level, .int .i64 m.series, .int .i64 0, .slice none 0 0, .slice none 0 0] 26 (0, 0)) := (heap_cell_same (i := 4) nm (.int .i64 m.series)).trans (by simp)
  have k2 : Keeps [mb] wa4 (wa4.setCell ⟨mb, 4, none⟩ (.int .i64 m.series)) := (Keeps.refl [mb] wa4).setCell (.inl (by simp)) _
  have HH4 := Lib.hid (And.intro (hq.keep k2 (by simp; omega)) (And.intro (k2.at_ nr (by simp; omega)) (And.intro nm2 ((HH3.out.2.2.2.mono (by simp) : Keeps [q] w wb3).trans hk |>.after k2 (fun x hx => .inr (by simp only [List.mem_singleton] at hx; omega))))))
  clear hq hk nr nm nm2 k2
  go_wp2_with fail
  clear cm fm lm
  generalize wa4.setCell ⟨mb, 4, none⟩ (.int .i64 m.series) = wb4 at HH4 ⊢
  refine (tkNum_spec wb4 q (lebL m.samples ++ RF, 0) HH4.out.1 (by simp only [List.length_append, maxLen]; omega) 1073741824 (by decide)).mono ?_
  rintro e wa5 ⟨rfl, hq, hk⟩
  rw [tkN_leb (by omega) (by decide)] at hq ⊢
  simp only at hq ⊢
  have nm := hk.at_ HH4.out.2.2.1 (by simp; omega)
  have nr := hk.at_ HH4.out.2.1 (by simp; omega)
  have cm := cells_at nm
  have fm := free_at nm
  have lm := lt_of_at nm
  have nm2 : (wa5.setCell ⟨mb, 5, none⟩ (.int .i64 m.samples)).heap[mb]? = some (.cells #[.string m.id, .int .i64 m.mn, .int .i64 m.mx, .int .i64 m.level, .int .i64 m.series, .int .i64 m.samples, .slice none 0 0, .slice none 0 0] 26 (0, 0)) := (heap_cell_same (i := 5) nm (.int .i64 m.samples)).trans (by simp)
  have k2 : Keeps [mb] wa5 (wa5.setCell ⟨mb, 5, none⟩ (.int .i64 m.samples)) := (Keeps.refl [mb] wa5).setCell (.inl (by simp)) _
  have HH5 := Lib.hid (And.intro (hq.keep k2 (by simp; omega)) (And.intro (k2.at_ nr (by simp; omega)) (And.intro nm2 ((HH4.out.2.2.2.mono (by simp) : Keeps [q] w wb4).trans hk |>.after k2 (fun x hx => .inr (by simp only [List.mem_singleton] at hx; omega))))))
  clear hq hk nr nm nm2 k2
  go_wp2_with fail
  clear cm fm lm
  generalize wa5.setCell ⟨mb, 5, none⟩ (.int .i64 m.samples) = wb5 at HH5 ⊢
  have hR0 : TakerAt wb5 q ((fun k => (([(chunksB, s1, c1), (indexB, s2, c2)] : List FileS).drop k).flatMap fileL ++ (lebL m.sources.length ++ RS)) 0, 0) := by
    have hh := HH5.out.1
    rw [HR.out.2.1, HR.out.2.2] at hh
    exact hh
  have HA := Lib.hid (And.intro hR0 (And.intro HH5.out.2.1 (And.intro HH5.out.2.2.1 HH5.out.2.2.2)))
  clear hR0 HH0 HH1 HH2 HH3 HH4 HH5 H0
  go_wp2_with fail
  go_loopg [24] 2 (TkRel1 w q rb mb m (fun k => (([(chunksB, s1, c1), (indexB, s2, c2)] : List FileS).drop k).flatMap fileL ++ (lebL m.sources.length ++ RS)))
  case atStart => exact ⟨0, .slice none 0 0, by decide, rfl, rfl, HA.out.2.2.1, HA.out.2.1, by simpa using World.ownsRow_nil wb5 w.heap.size _ 3, HA.out.1, HA.out.2.2.2⟩
  case round =>
    obtain ⟨k, vf, hk, hgk, rfl, hmb, hrb, hrow, hq, hkr⟩ := hrel
    clear HA
    have Hg := Lib.hid hgk
    clear hgk
    have hwr := hkr.size
    have hmlt := lt_of_at hmb
    have hrlt := lt_of_at hrb
    have hqlt2 := lt_of_at hq
    rcases (by omega : k = 0 ∨ k = 1 ∨ k = 2) with rfl | rfl | rfl
    · have HrowA := Lib.hid hrow
      have hq' : TakerAt wr q (textL chunksB.data.toList ++ (lebL s1 ++ (lebL c1 ++ ((fun k => (([(chunksB, s1, c1), (indexB, s2, c2)] : List FileS).drop k).flatMap fileL ++ (lebL m.sources.length ++ RS)) 1))), 0) := by
        have hh := hq
        simpa [fileL, List.append_assoc] using hh
      have hRl : (textL chunksB.data.toList).length + ((lebL s1).length + ((lebL c1).length + ((fun k => (([(chunksB, s1, c1), (indexB, s2, c2)] : List FileS).drop k).flatMap fileL ++ (lebL m.sources.length ++ RS)) 1).length)) ≤ 1000000000 := by
        have h1 := congrArg List.length HR.out.2.1
        rw [HR.out.2.2] at h1
        simp only [List.flatMap_cons, List.flatMap_nil, fileL, List.length_append, List.length_nil, List.drop, List.drop_succ_cons, List.drop_zero] at h1 ⊢
        omega
      obtain ⟨RN, hRN⟩ : ∃ R, R = ((fun k => (([(chunksB, s1, c1), (indexB, s2, c2)] : List FileS).drop k).flatMap fileL ++ (lebL m.sources.length ++ RS)) 1) := ⟨_, rfl⟩
      rw [← hRN] at hq' hRl
      have HRN := Lib.hid hRN
      have kf : Keeps [] wr (wr.alloc (.cells #[.string ⟨#[]⟩, .int .i64 0, .int .u32 0] 127)) := (Keeps.refl [] wr).alloc _
      have nf := heap_new wr (.cells #[.string ⟨#[]⟩, .int .i64 0, .int .u32 0] 127)
      obtain ⟨fb, hfb⟩ : ∃ n, n = wr.heap.size := ⟨_, rfl⟩
      have hfn : fb ≠ mb ∧ fb ≠ rb ∧ fb ≠ q ∧ w.heap.size ≤ fb ∧ wr.heap.size ≤ fb := by omega
      rw [← hfb] at nf
      have HF := Lib.hid (And.intro (hq'.keep kf (by simp)) (And.intro (kf.at_ hrb (by simp)) (And.intro (kf.at_ hmb (by simp)) (And.intro nf (And.intro (kf.row hrow (by simp)) (hkr.trans (kf.mono (by simp))))))))
      have Hfb := Lib.hid hfb
      clear hq hq' hmb hrb hrow hkr kf nf hRN hfb
      go_wp2_with fail
      rw [← Hfb.out]
      clear Hfb
      generalize wr.alloc (.cells #[.string ⟨#[]⟩, .int .i64 0, .int .u32 0] 127) = W3 at HF ⊢
      refine (tkText_spec W3 q (textL chunksB.data.toList ++ (lebL s1 ++ (lebL c1 ++ RN)), 0) HF.out.1 (by simp only [List.length_append, maxLen]; omega) 40 (by decide)).mono ?_
      rintro e wc0 ⟨rfl, hq, hk1⟩
      rw [tkT_text (by rw [dsize]; decide) (by decide)] at hq ⊢
      simp only [ba_mk] at hq ⊢
      have nm := hk1.at_ HF.out.2.2.2.1 (by simp; omega)
      have cm := cells_at nm
      have fm := free_at nm
      have lm := lt_of_at nm
      have nm2 : (wc0.setCell ⟨fb, 0, none⟩ (.string chunksB)).heap[fb]? = some (.cells #[.string chunksB, .int .i64 0, .int .u32 0] 127 (0, 0)) := (heap_cell_same (i := 0) nm (.string chunksB)).trans (by simp)
      have k2 : Keeps [fb] wc0 (wc0.setCell ⟨fb, 0, none⟩ (.string chunksB)) := (Keeps.refl [fb] wc0).setCell (.inl (by simp)) _
      have hrow1 := hk1.row HF.out.2.2.2.2.1 (fun g hg => by have := (World.ownsRow.lt HF.out.2.2.2.2.1 g hg).1; simp; omega)
      have hrowne := hrow1
      have hfbn : ∀ g, vf.ownBlock = some g → g ≠ fb := fun g hg => by have := (World.ownsRow.lt HrowA.out g hg).2; omega
      have HE0 := Lib.hid (And.intro (hq.keep k2 (by simp; omega)) (And.intro (k2.at_ (hk1.at_ HF.out.2.1 (by simp; omega)) (by simp; omega)) (And.intro (k2.at_ (hk1.at_ HF.out.2.2.1 (by simp; omega)) (by simp; omega)) (And.intro nm2 (And.intro (k2.row hrow1 (fun g hg => by have := hfbn g hg; simpa using this)) ((HF.out.2.2.2.2.2.trans hk1).after k2 (fun x hx => .inr (by simp only [List.mem_singleton] at hx; omega))))))))
      clear hq hk1 nm nm2 k2 hrow1 hrowne hfbn
      go_wp2_with fail
      clear cm fm lm
      generalize wc0.setCell ⟨fb, 0, none⟩ (.string chunksB) = wd0 at HE0 ⊢
      refine (tkNum_spec wd0 q (lebL s1 ++ (lebL c1 ++ RN), 0) HE0.out.1 (by simp only [List.length_append, maxLen]; omega) 1048576 (by decide)).mono ?_
      rintro e wc1 ⟨rfl, hq, hk1⟩
      rw [tkN_leb (by omega) (by decide)] at hq ⊢
      simp only at hq ⊢
      have nm := hk1.at_ HE0.out.2.2.2.1 (by simp; omega)
      have cm := cells_at nm
      have fm := free_at nm
      have lm := lt_of_at nm
      have nm2 : (wc1.setCell ⟨fb, 1, none⟩ (.int .i64 (s1 : Nat))).heap[fb]? = some (.cells #[.string chunksB, .int .i64 (s1 : Nat), .int .u32 0] 127 (0, 0)) := (heap_cell_same (i := 1) nm (.int .i64 (s1 : Nat))).trans (by simp)
      have k2 : Keeps [fb] wc1 (wc1.setCell ⟨fb, 1, none⟩ (.int .i64 (s1 : Nat))) := (Keeps.refl [fb] wc1).setCell (.inl (by simp)) _
      have hrow1 := hk1.row HE0.out.2.2.2.2.1 (fun g hg => by have := (World.ownsRow.lt HE0.out.2.2.2.2.1 g hg).1; simp; omega)
      have hrowne := hrow1
      have hfbn : ∀ g, vf.ownBlock = some g → g ≠ fb := fun g hg => by have := (World.ownsRow.lt HrowA.out g hg).2; omega
      have HE1 := Lib.hid (And.intro (hq.keep k2 (by simp; omega)) (And.intro (k2.at_ (hk1.at_ HE0.out.2.1 (by simp; omega)) (by simp; omega)) (And.intro (k2.at_ (hk1.at_ HE0.out.2.2.1 (by simp; omega)) (by simp; omega)) (And.intro nm2 (And.intro (k2.row hrow1 (fun g hg => by have := hfbn g hg; simpa using this)) ((HE0.out.2.2.2.2.2.trans hk1).after k2 (fun x hx => .inr (by simp only [List.mem_singleton] at hx; omega))))))))
      clear hq hk1 nm nm2 k2 hrow1 hrowne hfbn
      go_wp2_with fail
      clear cm fm lm
      generalize wc1.setCell ⟨fb, 1, none⟩ (.int .i64 (s1 : Nat)) = wd1 at HE1 ⊢
      refine (tkNum_spec wd1 q (lebL c1 ++ RN, 0) HE1.out.1 (by simp only [List.length_append, maxLen]; omega) 4294967295 (by decide)).mono ?_
      rintro e wc2 ⟨rfl, hq, hk1⟩
      rw [tkN_leb (by omega) (by decide)] at hq ⊢
      simp only at hq ⊢
      have z2 : IntKind.u32.wrap ((c1 : Nat) : Int) = ((c1 : Nat) : Int) := IntWalk.u32_in _ (by omega)
      have nm := hk1.at_ HE1.out.2.2.2.1 (by simp; omega)
      have cm := cells_at nm
      have fm := free_at nm
      have lm := lt_of_at nm
      have nm2 : (wc2.setCell ⟨fb, 2, none⟩ (.int .u32 (c1 : Nat))).heap[fb]? = some (.cells #[.string chunksB, .int .i64 (s1 : Nat), .int .u32 (c1 : Nat)] 127 (0, 0)) := (heap_cell_same (i := 2) nm (.int .u32 (c1 : Nat))).trans (by simp)
      have k2 : Keeps [fb] wc2 (wc2.setCell ⟨fb, 2, none⟩ (.int .u32 (c1 : Nat))) := (Keeps.refl [fb] wc2).setCell (.inl (by simp)) _
      have hrow1 := hk1.row HE1.out.2.2.2.2.1 (fun g hg => by have := (World.ownsRow.lt HE1.out.2.2.2.2.1 g hg).1; simp; omega)
      have hrowne := hrow1
      have hfbn : ∀ g, vf.ownBlock = some g → g ≠ fb := fun g hg => by have := (World.ownsRow.lt HrowA.out g hg).2; omega
      have HE2 := Lib.hid (And.intro (hq.keep k2 (by simp; omega)) (And.intro (k2.at_ (hk1.at_ HE1.out.2.1 (by simp; omega)) (by simp; omega)) (And.intro (k2.at_ (hk1.at_ HE1.out.2.2.1 (by simp; omega)) (by simp; omega)) (And.intro nm2 (And.intro (k2.row hrow1 (fun g hg => by have := hfbn g hg; simpa using this)) ((HE1.out.2.2.2.2.2.trans hk1).after k2 (fun x hx => .inr (by simp only [List.mem_singleton] at hx; omega))))))))
      clear hq hk1 nm nm2 k2 hrow1 hrowne hfbn
      go_upto_region 14 with fail
      clear cm fm lm
      generalize wc2.setCell ⟨fb, 2, none⟩ (.int .u32 (c1 : Nat)) = wd2 at HE2 ⊢
      have cf4 := cells_at HE2.out.2.2.2.1
      have lf4 := lt_of_at HE2.out.2.2.2.1
      have cm4 := cells_at HE2.out.2.2.1
      have lm4 := lt_of_at HE2.out.2.2.1
      have hwz := HE2.out.2.2.2.2.2.size
      go_wp2_with (at_builtin; refine wpList_append_own _ rfl (.tmp 37) (.tmp 39) 23 rfl w.heap.size 127 ifl _ 3 32 Tryz.underlying23 hif hzf0 hzf1 hzf2 rfl (by decide) vf 0 ((m.files.take 0).flatMap encFile) rfl (HE2.out.2.2.2.2.1.alloc _) ⟨wd2.heap.size, 0, none⟩ 1 1 [.string chunksB, .int .i64 (s1 : Nat), .int .u32 (c1 : Nat)] rfl rfl (news_of (heap_new wd2 _)) (by simp [Value.oneCell']) (by simp only [maxLen]; omega) (by omega) (by simp; omega) ?_; intro v8 w8 hown8 hgrow8 hnil; clear hnil; obtain ⟨ao8, cp8, hv8, -, -, -⟩ := row_slice hown8; subst hv8; have nm8 := (hgrow8.block mb (by simp; omega) (fun e => row_ne_type HE2.out.2.2.2.2.1 HE2.out.2.2.1 (by decide) _ e.symm rfl)).trans (heap_old HE2.out.2.2.1 _); have cm8 := cells_at nm8; have fm8 := free_at nm8; have lm8 := lt_of_at nm8)
      have hown9 : w8.ownsRow w.heap.size 127 3 (.slice ao8 (0 + 1) cp8) 1 ((m.files.take 1).flatMap encFile) := by
        have hh := hown8
        rw [HR.out.2.2] at hh ⊢
        simpa [encFile] using hh
      have k89 : Keeps [mb] w8 (w8.setCell ⟨mb, 6, none⟩ (.slice ao8 (0 + 1) cp8)) := (Keeps.refl [mb] w8).setCell (.inl (by simp)) _
      have nm9 : (w8.setCell ⟨mb, 6, none⟩ (.slice ao8 (0 + 1) cp8)).heap[mb]? = some (.cells #[.string m.id, .int .i64 m.mn, .int .i64 m.mx, .int .i64 m.level, .int .i64 m.series, .int .i64 m.samples, .slice ao8 (0 + 1) cp8, .slice none 0 0] 26 (0, 0)) := (heap_cell_same (i := 6) nm8 _).trans (by simp)
      have hvl : ∀ g, vf.ownBlock = some g → w.heap.size ≤ g := fun g hg => (World.ownsRow.lt HE2.out.2.2.2.2.1 g hg).1
      have hk8 : Keeps [q] w w8 := keeps_grownM (HE2.out.2.2.2.2.2.alloc _) hgrow8 hvl
      have nr8 : w8.heap[rb]? = some (.cells #[.string ⟨#[]⟩, .int .i64 0, .int .i64 0, .int .i64 0, .int .i64 0, .int .i64 0, .slice none 0 0, .slice none 0 0] 26 (0, 0)) := (hgrow8.block rb (by have := lt_of_at HE2.out.2.1; simp; omega) (fun e => row_ne_type HE2.out.2.2.2.2.1 HE2.out.2.1 (by decide) _ e.symm rfl)).trans (heap_old HE2.out.2.1 _)
      have hq8 : TakerAt w8 q (RN, 0) := (hgrow8.block q (by have := lt_of_at HE2.out.1; simp; omega) (fun e => row_ne_type HE2.out.2.2.2.2.1 HE2.out.1 (by decide) _ e.symm rfl)).trans (heap_old HE2.out.1 _)
      have HX := Lib.hid (And.intro nm9 (And.intro (k89.at_ nr8 (by simp; omega)) (And.intro (k89.row hown9 (fun g hg => by have := row_ne_type hown9 nm8 (by decide) g hg; simpa using this)) (And.intro (hq8.keep k89 (by simp; omega)) (hk8.after k89 (fun x hx => .inr (by simp only [List.mem_singleton] at hx; omega)))))))
      go_roundg (2 - 1)
      case measure => have := Hg.out; omega
      case rel => exact ⟨1, .slice ao8 (0 + 1) cp8, by decide, rfl, rfl, HX.out.1, HX.out.2.1, HX.out.2.2.1, by have hh := HX.out.2.2.2.1; rw [HRN.out] at hh; exact hh, HX.out.2.2.2.2⟩
    · have HrowA := Lib.hid hrow
      have hq' : TakerAt wr q (textL indexB.data.toList ++ (lebL s2 ++ (lebL c2 ++ ((fun k => (([(chunksB, s1, c1), (indexB, s2, c2)] : List FileS).drop k).flatMap fileL ++ (lebL m.sources.length ++ RS)) 2))), 0) := by
        have hh := hq
        simpa [fileL, List.append_assoc] using hh
      have hRl : (textL indexB.data.toList).length + ((lebL s2).length + ((lebL c2).length + ((fun k => (([(chunksB, s1, c1), (indexB, s2, c2)] : List FileS).drop k).flatMap fileL ++ (lebL m.sources.length ++ RS)) 2).length)) ≤ 1000000000 := by
        have h1 := congrArg List.length HR.out.2.1
        rw [HR.out.2.2] at h1
        simp only [List.flatMap_cons, List.flatMap_nil, fileL, List.length_append, List.length_nil, List.drop, List.drop_succ_cons, List.drop_zero] at h1 ⊢
        omega
      obtain ⟨RN, hRN⟩ : ∃ R, R = ((fun k => (([(chunksB, s1, c1), (indexB, s2, c2)] : List FileS).drop k).flatMap fileL ++ (lebL m.sources.length ++ RS)) 2) := ⟨_, rfl⟩
      rw [← hRN] at hq' hRl
      have HRN := Lib.hid hRN
      have kf : Keeps [] wr (wr.alloc (.cells #[.string ⟨#[]⟩, .int .i64 0, .int .u32 0] 127)) := (Keeps.refl [] wr).alloc _
      have nf := heap_new wr (.cells #[.string ⟨#[]⟩, .int .i64 0, .int .u32 0] 127)
      obtain ⟨fb, hfb⟩ : ∃ n, n = wr.heap.size := ⟨_, rfl⟩
      have hfn : fb ≠ mb ∧ fb ≠ rb ∧ fb ≠ q ∧ w.heap.size ≤ fb ∧ wr.heap.size ≤ fb := by omega
      rw [← hfb] at nf
      have HF := Lib.hid (And.intro (hq'.keep kf (by simp)) (And.intro (kf.at_ hrb (by simp)) (And.intro (kf.at_ hmb (by simp)) (And.intro nf (And.intro (kf.row hrow (by simp)) (hkr.trans (kf.mono (by simp))))))))
      have Hfb := Lib.hid hfb
      clear hq hq' hmb hrb hrow hkr kf nf hRN hfb
      go_wp2_with fail
      rw [← Hfb.out]
      clear Hfb
      generalize wr.alloc (.cells #[.string ⟨#[]⟩, .int .i64 0, .int .u32 0] 127) = W3 at HF ⊢
      refine (tkText_spec W3 q (textL indexB.data.toList ++ (lebL s2 ++ (lebL c2 ++ RN)), 0) HF.out.1 (by simp only [List.length_append, maxLen]; omega) 40 (by decide)).mono ?_
      rintro e wc0 ⟨rfl, hq, hk1⟩
      rw [tkT_text (by rw [dsize]; decide) (by decide)] at hq ⊢
      simp only [ba_mk] at hq ⊢
      have nm := hk1.at_ HF.out.2.2.2.1 (by simp; omega)
      have cm := cells_at nm
      have fm := free_at nm
      have lm := lt_of_at nm
      have nm2 : (wc0.setCell ⟨fb, 0, none⟩ (.string indexB)).heap[fb]? = some (.cells #[.string indexB, .int .i64 0, .int .u32 0] 127 (0, 0)) := (heap_cell_same (i := 0) nm (.string indexB)).trans (by simp)
      have k2 : Keeps [fb] wc0 (wc0.setCell ⟨fb, 0, none⟩ (.string indexB)) := (Keeps.refl [fb] wc0).setCell (.inl (by simp)) _
      have hrow1 := hk1.row HF.out.2.2.2.2.1 (fun g hg => by have := (World.ownsRow.lt HF.out.2.2.2.2.1 g hg).1; simp; omega)
      have hrowne := hrow1
      have hfbn : ∀ g, vf.ownBlock = some g → g ≠ fb := fun g hg => by have := (World.ownsRow.lt HrowA.out g hg).2; omega
      have HE0 := Lib.hid (And.intro (hq.keep k2 (by simp; omega)) (And.intro (k2.at_ (hk1.at_ HF.out.2.1 (by simp; omega)) (by simp; omega)) (And.intro (k2.at_ (hk1.at_ HF.out.2.2.1 (by simp; omega)) (by simp; omega)) (And.intro nm2 (And.intro (k2.row hrow1 (fun g hg => by have := hfbn g hg; simpa using this)) ((HF.out.2.2.2.2.2.trans hk1).after k2 (fun x hx => .inr (by simp only [List.mem_singleton] at hx; omega))))))))
      clear hq hk1 nm nm2 k2 hrow1 hrowne hfbn
      go_wp2_with fail
      clear cm fm lm
      generalize wc0.setCell ⟨fb, 0, none⟩ (.string indexB) = wd0 at HE0 ⊢
      refine (tkNum_spec wd0 q (lebL s2 ++ (lebL c2 ++ RN), 0) HE0.out.1 (by simp only [List.length_append, maxLen]; omega) 1048576 (by decide)).mono ?_
      rintro e wc1 ⟨rfl, hq, hk1⟩
      rw [tkN_leb (by omega) (by decide)] at hq ⊢
      simp only at hq ⊢
      have nm := hk1.at_ HE0.out.2.2.2.1 (by simp; omega)
      have cm := cells_at nm
      have fm := free_at nm
      have lm := lt_of_at nm
      have nm2 : (wc1.setCell ⟨fb, 1, none⟩ (.int .i64 (s2 : Nat))).heap[fb]? = some (.cells #[.string indexB, .int .i64 (s2 : Nat), .int .u32 0] 127 (0, 0)) := (heap_cell_same (i := 1) nm (.int .i64 (s2 : Nat))).trans (by simp)
      have k2 : Keeps [fb] wc1 (wc1.setCell ⟨fb, 1, none⟩ (.int .i64 (s2 : Nat))) := (Keeps.refl [fb] wc1).setCell (.inl (by simp)) _
      have hrow1 := hk1.row HE0.out.2.2.2.2.1 (fun g hg => by have := (World.ownsRow.lt HE0.out.2.2.2.2.1 g hg).1; simp; omega)
      have hrowne := hrow1
      have hfbn : ∀ g, vf.ownBlock = some g → g ≠ fb := fun g hg => by have := (World.ownsRow.lt HrowA.out g hg).2; omega
      have HE1 := Lib.hid (And.intro (hq.keep k2 (by simp; omega)) (And.intro (k2.at_ (hk1.at_ HE0.out.2.1 (by simp; omega)) (by simp; omega)) (And.intro (k2.at_ (hk1.at_ HE0.out.2.2.1 (by simp; omega)) (by simp; omega)) (And.intro nm2 (And.intro (k2.row hrow1 (fun g hg => by have := hfbn g hg; simpa using this)) ((HE0.out.2.2.2.2.2.trans hk1).after k2 (fun x hx => .inr (by simp only [List.mem_singleton] at hx; omega))))))))
      clear hq hk1 nm nm2 k2 hrow1 hrowne hfbn
      go_wp2_with fail
      clear cm fm lm
      generalize wc1.setCell ⟨fb, 1, none⟩ (.int .i64 (s2 : Nat)) = wd1 at HE1 ⊢
      refine (tkNum_spec wd1 q (lebL c2 ++ RN, 0) HE1.out.1 (by simp only [List.length_append, maxLen]; omega) 4294967295 (by decide)).mono ?_
      rintro e wc2 ⟨rfl, hq, hk1⟩
      rw [tkN_leb (by omega) (by decide)] at hq ⊢
      simp only at hq ⊢
      have z2 : IntKind.u32.wrap ((c2 : Nat) : Int) = ((c2 : Nat) : Int) := IntWalk.u32_in _ (by omega)
      have nm := hk1.at_ HE1.out.2.2.2.1 (by simp; omega)
      have cm := cells_at nm
      have fm := free_at nm
      have lm := lt_of_at nm
      have nm2 : (wc2.setCell ⟨fb, 2, none⟩ (.int .u32 (c2 : Nat))).heap[fb]? = some (.cells #[.string indexB, .int .i64 (s2 : Nat), .int .u32 (c2 : Nat)] 127 (0, 0)) := (heap_cell_same (i := 2) nm (.int .u32 (c2 : Nat))).trans (by simp)
      have k2 : Keeps [fb] wc2 (wc2.setCell ⟨fb, 2, none⟩ (.int .u32 (c2 : Nat))) := (Keeps.refl [fb] wc2).setCell (.inl (by simp)) _
      have hrow1 := hk1.row HE1.out.2.2.2.2.1 (fun g hg => by have := (World.ownsRow.lt HE1.out.2.2.2.2.1 g hg).1; simp; omega)
      have hrowne := hrow1
      have hfbn : ∀ g, vf.ownBlock = some g → g ≠ fb := fun g hg => by have := (World.ownsRow.lt HrowA.out g hg).2; omega
      have HE2 := Lib.hid (And.intro (hq.keep k2 (by simp; omega)) (And.intro (k2.at_ (hk1.at_ HE1.out.2.1 (by simp; omega)) (by simp; omega)) (And.intro (k2.at_ (hk1.at_ HE1.out.2.2.1 (by simp; omega)) (by simp; omega)) (And.intro nm2 (And.intro (k2.row hrow1 (fun g hg => by have := hfbn g hg; simpa using this)) ((HE1.out.2.2.2.2.2.trans hk1).after k2 (fun x hx => .inr (by simp only [List.mem_singleton] at hx; omega))))))))
      clear hq hk1 nm nm2 k2 hrow1 hrowne hfbn
      go_upto_region 14 with fail
      clear cm fm lm
      generalize wc2.setCell ⟨fb, 2, none⟩ (.int .u32 (c2 : Nat)) = wd2 at HE2 ⊢
      have cf4 := cells_at HE2.out.2.2.2.1
      have lf4 := lt_of_at HE2.out.2.2.2.1
      have cm4 := cells_at HE2.out.2.2.1
      have lm4 := lt_of_at HE2.out.2.2.1
      have hwz := HE2.out.2.2.2.2.2.size
      go_wp2_with (at_builtin; refine wpList_append_own _ rfl (.tmp 37) (.tmp 39) 23 rfl w.heap.size 127 ifl _ 3 32 Tryz.underlying23 hif hzf0 hzf1 hzf2 rfl (by decide) vf 1 ((m.files.take 1).flatMap encFile) rfl (HE2.out.2.2.2.2.1.alloc _) ⟨wd2.heap.size, 0, none⟩ 1 1 [.string indexB, .int .i64 (s2 : Nat), .int .u32 (c2 : Nat)] rfl rfl (news_of (heap_new wd2 _)) (by simp [Value.oneCell']) (by simp only [maxLen]; omega) (by omega) (by simp; omega) ?_; intro v8 w8 hown8 hgrow8 hnil; clear hnil; obtain ⟨ao8, cp8, hv8, -, -, -⟩ := row_slice hown8; subst hv8; have nm8 := (hgrow8.block mb (by simp; omega) (fun e => row_ne_type HE2.out.2.2.2.2.1 HE2.out.2.2.1 (by decide) _ e.symm rfl)).trans (heap_old HE2.out.2.2.1 _); have cm8 := cells_at nm8; have fm8 := free_at nm8; have lm8 := lt_of_at nm8)
      have hown9 : w8.ownsRow w.heap.size 127 3 (.slice ao8 (1 + 1) cp8) 2 ((m.files.take 2).flatMap encFile) := by
        have hh := hown8
        rw [HR.out.2.2] at hh ⊢
        simpa [encFile] using hh
      have k89 : Keeps [mb] w8 (w8.setCell ⟨mb, 6, none⟩ (.slice ao8 (1 + 1) cp8)) := (Keeps.refl [mb] w8).setCell (.inl (by simp)) _
      have nm9 : (w8.setCell ⟨mb, 6, none⟩ (.slice ao8 (1 + 1) cp8)).heap[mb]? = some (.cells #[.string m.id, .int .i64 m.mn, .int .i64 m.mx, .int .i64 m.level, .int .i64 m.series, .int .i64 m.samples, .slice ao8 (1 + 1) cp8, .slice none 0 0] 26 (0, 0)) := (heap_cell_same (i := 6) nm8 _).trans (by simp)
      have hvl : ∀ g, vf.ownBlock = some g → w.heap.size ≤ g := fun g hg => (World.ownsRow.lt HE2.out.2.2.2.2.1 g hg).1
      have hk8 : Keeps [q] w w8 := keeps_grownM (HE2.out.2.2.2.2.2.alloc _) hgrow8 hvl
      have nr8 : w8.heap[rb]? = some (.cells #[.string ⟨#[]⟩, .int .i64 0, .int .i64 0, .int .i64 0, .int .i64 0, .int .i64 0, .slice none 0 0, .slice none 0 0] 26 (0, 0)) := (hgrow8.block rb (by have := lt_of_at HE2.out.2.1; simp; omega) (fun e => row_ne_type HE2.out.2.2.2.2.1 HE2.out.2.1 (by decide) _ e.symm rfl)).trans (heap_old HE2.out.2.1 _)
      have hq8 : TakerAt w8 q (RN, 0) := (hgrow8.block q (by have := lt_of_at HE2.out.1; simp; omega) (fun e => row_ne_type HE2.out.2.2.2.2.1 HE2.out.1 (by decide) _ e.symm rfl)).trans (heap_old HE2.out.1 _)
      have HX := Lib.hid (And.intro nm9 (And.intro (k89.at_ nr8 (by simp; omega)) (And.intro (k89.row hown9 (fun g hg => by have := row_ne_type hown9 nm8 (by decide) g hg; simpa using this)) (And.intro (hq8.keep k89 (by simp; omega)) (hk8.after k89 (fun x hx => .inr (by simp only [List.mem_singleton] at hx; omega)))))))
      go_roundg (2 - 2)
      case measure => have := Hg.out; omega
      case rel => exact ⟨2, .slice ao8 (1 + 1) cp8, by decide, rfl, rfl, HX.out.1, HX.out.2.1, HX.out.2.2.1, by have hh := HX.out.2.2.2.1; rw [HRN.out] at hh; exact hh, HX.out.2.2.2.2⟩
    · have hq1 : TakerAt wr q (lebL m.sources.length ++ RS, 0) := by
        have hh := hq
        simpa using hh
      have hrow1 : wr.ownsRow w.heap.size 127 3 vf 2 (m.files.flatMap encFile) := by
        have hh := hrow
        rw [HR.out.2.2] at hh ⊢
        exact hh
      have hRSl : (lebL m.sources.length ++ RS).length ≤ 1000000000 := by
        have h1 := congrArg List.length HR.out.2.1
        simp only [List.length_append] at h1 ⊢
        omega
      have HE := Lib.hid (And.intro hmb (And.intro hrb (And.intro hrow1 hkr)))
      clear hmb hrb hrow hrow1 hq hkr
      go_wp2_with fail
      refine (tkNum_spec wr q (lebL m.sources.length ++ RS, 0) hq1 (by unfold maxLen; simp only; omega) 50 (by decide)).mono ?_
      rintro e w6 ⟨rfl, hq, hk6⟩
      rw [tkN_leb (by omega) (by decide)] at hq ⊢
      simp only at hq ⊢
      rw [HR.out.1] at hq
      have HF := Lib.hid (And.intro (hk6.at_ HE.out.1 (by simp; omega)) (And.intro (hk6.at_ HE.out.2.1 (by simp; omega)) (And.intro (hk6.row HE.out.2.2.1 (fun g hg => by have := (World.ownsRow.lt HE.out.2.2.1 g hg).1; simp; omega)) (And.intro hq (HE.out.2.2.2.trans hk6)))))
      clear hq hk6 hq1 HE
      go_wp2_with fail
      go_loopg [5] m.sources.length (TkRel2 w q rb mb m vf (fun k => (m.sources.drop k).flatMap textB ++ l))
      case atStart => exact ⟨0, .slice none 0 0, Nat.zero_le _, rfl, by simp, HF.out.1, HF.out.2.1, HF.out.2.2.1, by simpa using World.ownsRow_nil w6 w.heap.size _ 1, by simpa using HF.out.2.2.2.1, HF.out.2.2.2.2⟩
      case round =>
        obtain ⟨j, vo, hj, hgj, rfl, hmb, hrb, hrf, hro, hq0, hkr⟩ := hrel
        have hq : TakerAt wr q ((m.sources.drop j).flatMap textB ++ l, 0) := hq0
        clear hq0 HF
        have Hgj := Lib.hid hgj
        clear hgj
        have hwr := hkr.size
        have hmlt := lt_of_at hmb
        have hrlt := lt_of_at hrb
        have hqlt2 := lt_of_at hq
        by_cases hlt : j < m.sources.length
        · have hsok := Hok.out.src m.sources[j] (List.getElem_mem _)
          have hsz := id16 hsok.1
          have hdrop : (m.sources.drop j).flatMap textB ++ l = textL m.sources[j].data.toList ++ ((m.sources.drop (j + 1)).flatMap textB ++ l) := by
            rw [List.drop_eq_getElem_cons hlt, List.flatMap_cons, List.append_assoc]
            rfl
          have hjl : ((m.sources.drop j).flatMap textB ++ l).length ≤ 1000000000 := by
            have h1 := congrArg List.length HR.out.1
            have h2 := congrArg List.length (List.take_append_drop j m.sources)
            have h3 : m.sources.flatMap textB = (m.sources.take j).flatMap textB ++ (m.sources.drop j).flatMap textB := by rw [← List.flatMap_append, List.take_append_drop]
            rw [h3] at h1
            simp only [List.length_append] at h1 hRSl ⊢
            omega
          rw [hdrop] at hq hjl
          have Htk := Lib.hid (flat_next1 m.sources hlt)
          have hgt : ((m.sources.length - j : Nat) : Int) > 0 := by omega
          have hsb : IntKind.i64.wrap (((m.sources.length - j : Nat) : Int) - 1) = ((m.sources.length - (j + 1) : Nat) : Int) := by rw [IntWalk.i64_in _ (by omega)]; omega
          generalize m.sources[j] = sj at hq hjl hsz Htk
          obtain ⟨RJ, hRJ⟩ : ∃ R, R = (m.sources.drop (j + 1)).flatMap textB ++ l := ⟨_, rfl⟩
          rw [← hRJ] at hq hjl
          have HRJ := Lib.hid hRJ
          obtain ⟨ao7, cp7, hvo, -, -, -⟩ := row_slice hro
          subst hvo
          have nq : wr.heap[q]? = some (.cells #[.string ⟨(textL sj.data.toList ++ RJ).toArray⟩, .int .i64 0] 181 (0, 0)) := hq
          obtain ⟨sq, hsq⟩ : ∃ s : ByteArray, s = ⟨(textL sj.data.toList ++ RJ).toArray⟩ := ⟨_, rfl⟩
          rw [← hsq] at nq
          have cq := cells_at nq
          have d3 : wr.cell? ⟨mb, 7, none⟩ = some (.slice ao7 j cp7) := by rw [cells_at hmb]; rfl
          have kd : Keeps [] wr wr.drew := (Keeps.refl [] wr).drew
          have Htx := Lib.hid (tkText_spec wr.drew q (textL sj.data.toList ++ RJ, 0) (hq.keep kd (by simp)) (by unfold maxLen; simp only; omega) 16 (by decide))
          have HJ := Lib.hid (And.intro hmb (And.intro hrb (And.intro hrf (And.intro hro hkr))))
          clear hmb hrb hrf hro hq hkr hRJ hdrop nq hsq
          generalize m.sources.length - j = nj at hgt hsb ⊢
          go_wp2_with fail
          clear cq
          refine wp_region_last_n 7 (fun w' => w'.cell? ⟨mb, 7, none⟩ = some (.slice ao7 j cp7)) (by kernel_rfl) (by kernel_rfl) (by kernel_rfl) ?_
          have hS : (fun w' : World => w'.cell? ⟨mb, 7, none⟩ = some (.slice ao7 j cp7)) wr.drew := d3
          simp only [List.take_succ_cons, List.take_zero, List.toList_toArray]
          refine wpAnyH_take (i := 0) (v := ?_) rfl (by kernel_rfl) (by kernel_rfl) (by kernel_rfl) (fun _ _ _ h => h) (Or.inl ⟨by rfl, ?_⟩) (by assumption) ?_
          rotate_left
          · intro w' s1; go_simp; (try with_reducible rfl)
          simp only [Act.put, List.getElem_toArray, List.getElem_cons_succ, List.getElem_cons_zero, List.setIfInBounds_toArray, List.set_cons_zero, List.set_cons_succ]
          refine wpAnyH_take (i := 1) (v := ?_) rfl (by kernel_rfl) (by kernel_rfl) (by kernel_rfl) (fun _ _ _ h => h) (Or.inl ⟨by rfl, ?_⟩) (by assumption) ?_
          rotate_left
          · intro w' s1; go_simp; (try with_reducible rfl)
          simp only [Act.put, List.getElem_toArray, List.getElem_cons_succ, List.getElem_cons_zero, List.setIfInBounds_toArray, List.set_cons_zero, List.set_cons_succ]
          refine wpAnyH_take (i := 2) (v := ?_) rfl (by kernel_rfl) (by kernel_rfl) (by kernel_rfl) (fun _ _ _ h => h) (Or.inl ⟨by rfl, ?_⟩) (by assumption) ?_
          rotate_left
          · intro w' s1; go_simp; (try with_reducible rfl)
          simp only [Act.put, List.getElem_toArray, List.getElem_cons_succ, List.getElem_cons_zero, List.setIfInBounds_toArray, List.set_cons_zero, List.set_cons_succ]
          refine wpAnyH_ready (rs := [3]) (by kernel_rfl) (by simp) ?_
          refine AllReadyH.cons rfl (fun K hK => ?_) AllReadyH.nil
          go_simp
          go_at_call 90
          refine Htx.out.mono ?_
          rintro e w5 ⟨rfl, hq5, hk5⟩
          rw [tkT_text (by rw [dsize]; omega) (by decide)] at hq5 ⊢
          simp only [ba_mk] at hq5 ⊢
          have k5 : Keeps [q] wr w5 := (kd.mono (by simp)).trans hk5
          have nm5 := k5.at_ HJ.out.1 (by simp; omega)
          have hro5 := k5.row HJ.out.2.2.2.1 (fun g hg => by have := (World.ownsRow.lt HJ.out.2.2.2.1 g hg).1; simp; omega)
          have e0 : w5.cell? ⟨mb, 7, none⟩ = some (.slice ao7 j cp7) := by rw [cells_at nm5]; rfl
          have H5 := Lib.hid (And.intro nm5 (And.intro (k5.at_ HJ.out.2.1 (by simp; omega)) (And.intro (k5.row HJ.out.2.2.1 (fun g hg => by have := (World.ownsRow.lt HJ.out.2.2.1 g hg).1; simp; omega)) (And.intro hro5 (And.intro hq5 (HJ.out.2.2.2.2.trans k5))))))
          go_simp
          refine hK.out _ _ e0 (fun hS => ?_)
          clear hK K hq5 hk5 k5 nm5 hro5
          try simp only [Act.put, List.getElem_toArray, List.getElem_cons_succ, List.getElem_cons_zero, List.setIfInBounds_toArray, List.set_cons_zero, List.set_cons_succ]
          have hw5 := H5.out.2.2.2.2.2.size
          refine wpAnyH_ready (rs := [4]) (by kernel_rfl) (by simp) ?_
          refine AllReadyH.cons rfl (fun K hK => ?_) AllReadyH.nil
          go_simp
          refine hK.out _ _ (by go_keep) (fun hS => ?_)
          clear hK K
          try simp only [Act.put, List.getElem_toArray, List.getElem_cons_succ, List.getElem_cons_zero, List.setIfInBounds_toArray, List.set_cons_zero, List.set_cons_succ]
          refine wpAnyH_ready (rs := [5]) (by kernel_rfl) (by simp) ?_
          refine AllReadyH.cons rfl (fun K hK => ?_) AllReadyH.nil
          refine step_append_own rfl (.tmp 57) (.tmp 60) 24 rfl w.heap.size 9 ist _ 1 16 Tryz.underlying24 his hzs0 hzs1 hzs2 rfl (by decide) (.slice ao7 j cp7) j ((m.sources.take j).flatMap encS1m) (by rfl) (H5.out.2.2.2.1.alloc _) ⟨w5.heap.size, 0, none⟩ 1 1 [.string sj] (by rfl) rfl (news_of (heap_new w5 _)) (by simp [Value.oneCell']) (by simp only [maxLen]; omega) (by omega) (by simp; omega) ?_
          intro v8 w8 hown8 hgrow8
          obtain ⟨ao8, cp8, rfl, -, -, -⟩ := row_slice hown8
          have nm8 := (hgrow8.block mb (by have := lt_of_at H5.out.1; simp; omega) (fun e => row_ne_type H5.out.2.2.2.1 H5.out.1 (by decide) _ e.symm rfl)).trans (heap_old H5.out.1 _)
          have nr8 := (hgrow8.block rb (by have := lt_of_at H5.out.2.1; simp; omega) (fun e => row_ne_type H5.out.2.2.2.1 H5.out.2.1 (by decide) _ e.symm rfl)).trans (heap_old H5.out.2.1 _)
          have nq8 : TakerAt w8 q (RJ, 0) := (hgrow8.block q (by have := lt_of_at H5.out.2.2.2.2.1; simp; omega) (fun e => row_ne_type H5.out.2.2.2.1 H5.out.2.2.2.2.1 (by decide) _ e.symm rfl)).trans (heap_old H5.out.2.2.2.2.1 _)
          have kg8 := keeps_rowM hgrow8
          have hrf8 := kg8.row (H5.out.2.2.1.alloc (.cells #[.string sj] 9)) (rows_neM H5.out.2.2.2.1 H5.out.2.2.1 (by decide))
          have hk8 : Keeps [q] w w8 := keeps_grownM (H5.out.2.2.2.2.2.alloc _) hgrow8 (fun g hg => (World.ownsRow.lt H5.out.2.2.2.1 g hg).1)
          have e1 : w8.cell? ⟨mb, 7, none⟩ = some (.slice ao7 j cp7) := by rw [cells_at nm8]; rfl
          have H8 := Lib.hid (And.intro nm8 (And.intro nr8 (And.intro nq8 (And.intro hrf8 (And.intro hk8 hown8)))))
          refine hK.out _ _ e1 (fun hS => ?_)
          clear hK K nr8 nq8 kg8 hrf8 hk8 hgrow8 hown8
          try simp only [Act.put, List.getElem_toArray, List.getElem_cons_succ, List.getElem_cons_zero, List.setIfInBounds_toArray, List.set_cons_zero, List.set_cons_succ]
          refine wpAnyH_take (i := 6) (v := ?_) rfl (by kernel_rfl) (by kernel_rfl) (by kernel_rfl) (fun _ _ _ h => h) (Or.inl ⟨by rfl, ?_⟩) (by assumption) ?_
          rotate_left
          · intro w' s1; go_simp; (try with_reducible rfl)
          simp only [Act.put, List.getElem_toArray, List.getElem_cons_succ, List.getElem_cons_zero, List.setIfInBounds_toArray, List.set_cons_zero, List.set_cons_succ]
          have f8 := free_at nm8
          have l8 := lt_of_at nm8
          have c8 := cells_at nm8
          refine wpAnyH_done (by kernel_rfl) ?_ _
          refine lastQ_step rfl (fun K hK => ?_)
          go_simp
          refine hK _ _ ?_
          clear hK K
          clear hS e0 e1 d3 f8 l8 c8
          have k89 : Keeps [mb] w8 (w8.setCell ⟨mb, 7, none⟩ (.slice ao8 (j + 1) cp8)) := (Keeps.refl [mb] w8).setCell (.inl (by simp)) _
          have nm9 : (w8.setCell ⟨mb, 7, none⟩ (.slice ao8 (j + 1) cp8)).heap[mb]? = some (.cells #[.string m.id, .int .i64 m.mn, .int .i64 m.mx, .int .i64 m.level, .int .i64 m.series, .int .i64 m.samples, vf, .slice ao8 (j + 1) cp8] 26 (0, 0)) := (heap_cell_same (i := 7) nm8 _).trans (by simp)
          have hown9 : w8.ownsRow w.heap.size 9 1 (.slice ao8 (j + 1) cp8) (j + 1) ((m.sources.take (j + 1)).flatMap encS1m) := by
            rw [Htk.out]
            exact H8.out.2.2.2.2.2
          have HX := Lib.hid (And.intro nm9 (And.intro (k89.at_ H8.out.2.1 (by simp; omega)) (And.intro (k89.row H8.out.2.2.2.1 (fun g hg => by have := row_ne_type H8.out.2.2.2.1 nm8 (by decide) g hg; simpa using this)) (And.intro (k89.row hown9 (fun g hg => by have := row_ne_type hown9 nm8 (by decide) g hg; simpa using this)) (And.intro (H8.out.2.2.1.keep k89 (by simp; omega)) (H8.out.2.2.2.2.1.after k89 (fun x hx => .inr (by simp only [List.mem_singleton] at hx; omega))))))))
          clear nm9 k89 hown9 nm8 H8
          generalize w8.setCell ⟨mb, 7, none⟩ (.slice ao8 (j + 1) cp8) = W9 at HX ⊢
          go_wp2_with fail
          go_roundg (m.sources.length - (j + 1))
          case measure => have := Hgj.out; omega
          case rel => exact ⟨j + 1, .slice ao8 (j + 1) cp8, by omega, rfl, rfl, HX.out.1, HX.out.2.1, HX.out.2.2.1, HX.out.2.2.2.1, by have hh := HX.out.2.2.2.2.1; rw [HRJ.out] at hh; exact hh, HX.out.2.2.2.2.2⟩
        · obtain rfl : j = m.sources.length := by omega
          have hq1 : TakerAt wr q (l, 0) := by simpa using hq
          rw [List.take_length] at hro
          rw [Nat.sub_self]
          obtain ⟨ao6, cp6, hvf, -, -, -⟩ := row_slice hrf
          obtain ⟨ao7, cp7, hvo, -, -, -⟩ := row_slice hro
          subst hvf hvo
          have hse := set8 (v0 := .string m.id) (v1 := .int .i64 m.mn) (v2 := .int .i64 m.mx) (v3 := .int .i64 m.level) (v4 := .int .i64 m.series) (v5 := .int .i64 m.samples) (v6 := .slice ao6 2 cp6) (v7 := .slice ao7 m.sources.length cp7) hrb
          have cm := cells_at hmb
          have lm := lt_of_at hmb
          have cr := cells_at hrb
          have fr := free_at hrb
          have lr := lt_of_at hrb
          have hsf := sliceFrom_row (enc := encFile) (size := 3) (fun _ => rfl) (L := m.files) (B := w.heap.size) (w := wr) (v := .slice ao6 2 cp6) (e := 127) (by rw [HR.out.2.2] at hrf ⊢; exact hrf)
          have hso := sliceFrom_row (enc := encS1m) (size := 1) (fun _ => rfl) (L := m.sources) (B := w.heap.size) (w := wr) hro
          have HE := Lib.hid (And.intro hse (And.intro hsf (And.intro hso (And.intro hq1 (And.intro hkr (And.intro hrb (And.intro hrf hro)))))))
          clear hse hsf hso hq hq1 hkr hrb hrf hro hmb
          go_wp2_with fail
          have hc := cells_at HE.out.1.1
          refine bodyPost_ret (v := .agg #[.string m.id, .int .i64 m.mn, .int .i64 m.mx, .int .i64 m.level, .int .i64 m.series, .int .i64 m.samples, .slice ao6 2 cp6, .slice ao7 m.sources.length cp7]) ?_ rfl ?_
          · simp [results, Tryz.results115, go_sem, hc, lr]
          · have kf := HE.out.1.2
            have hrl6 : ∀ x ∈ [rb], x < w.heap.size + 1 := by intro x hx; have := HB.out.1; simp only [List.mem_singleton] at hx; omega
            refine ⟨_, rfl, ⟨_, _, rfl, by have hh := kf.row HE.out.2.2.2.2.2.2.1 (fun g hg => by have := row_ne_type HE.out.2.2.2.2.2.2.1 HE.out.2.2.2.2.2.1 (by decide) g hg; simpa using this); rw [HR.out.2.2] at hh ⊢; exact hh, kf.row HE.out.2.2.2.2.2.2.2 (fun g hg => by have := row_ne_type HE.out.2.2.2.2.2.2.2 HE.out.2.2.2.2.2.1 (by decide) g hg; simpa using this)⟩, HE.out.2.2.2.1.keep kf (by simp; omega), HE.out.2.2.2.2.1.after kf (fun x hx => .inr (by simp only [List.mem_singleton] at hx; omega))⟩
end Go.Proofs.YtaebpbkiaihhdaaGreatDoor

namespace Go.Proofs.YtaebpbkiaihhdaaGreatDoor
open Go Go.RowKit Go.Conc

theorem drew_heapM (w : World) (b : Nat) : w.drew.heap[b]? = w.heap[b]? := rfl

def TakeMPost (w : World) (m : MetaS) (l : List UInt8) (e : Ending) (w' : World) : Prop :=
  ∃ vs, e = .returned (.tuple #[.agg vs.toArray, .string ⟨l.toArray⟩, .int .i64 0]) ∧ MetaR w.heap.size w' vs m ∧ Keeps [] w w'

set_option linter.unusedSimpArgs false in
set_option maxRecDepth 100000 in
set_option maxHeartbeats 4000000 in
theorem take_spec (w : World) (s : ByteArray) (m : MetaS) (l : List UInt8) (hs : s.data.toList = metaL m ++ l) (ok : MetaOk m) (hz : s.size ≤ 1000000000) :
    Calls Tryz.prog 89 #[.string s] w (TakeMPost w m l) := by
  have Hok := Lib.hid ok
  have hl : (metaL m ++ l).length ≤ 1000000000 := by rw [← hs, dsize]; exact hz
  have Hl := Lib.hid hl
  obtain ⟨rb, hrb⟩ : ∃ n, n = w.heap.size := ⟨_, rfl⟩
  obtain ⟨q, hq⟩ : ∃ n, n = w.heap.size + 1 := ⟨_, rfl⟩
  have n0 := new2 w (.cells #[.string ⟨#[]⟩, .int .i64 0, .int .i64 0, .int .i64 0, .int .i64 0, .int .i64 0, .slice none 0 0, .slice none 0 0] 26) (.cells #[.string s, .int .i64 0] 181)
  have k0 : Keeps [] w ((w.alloc (.cells #[.string ⟨#[]⟩, .int .i64 0, .int .i64 0, .int .i64 0, .int .i64 0, .int .i64 0, .slice none 0 0, .slice none 0 0] 26)).alloc (.cells #[.string s, .int .i64 0] 181)) := ((Keeps.refl [] w).alloc _).alloc _
  have hsz : ((w.alloc (.cells #[.string ⟨#[]⟩, .int .i64 0, .int .i64 0, .int .i64 0, .int .i64 0, .int .i64 0, .slice none 0 0, .slice none 0 0] 26)).alloc (.cells #[.string s, .int .i64 0] 181)).heap.size = w.heap.size + 2 := by simp
  have hse : s = ⟨(metaL m ++ l).toArray⟩ := ba_ext (by rw [hs])
  have ht0 : TakerAt ((w.alloc (.cells #[.string ⟨#[]⟩, .int .i64 0, .int .i64 0, .int .i64 0, .int .i64 0, .int .i64 0, .slice none 0 0, .slice none 0 0] 26)).alloc (.cells #[.string s, .int .i64 0] 181)) (w.heap.size + 1) (metaL m ++ l, 0) := by
    unfold TakerAt
    rw [← hse]
    exact n0.2
  have hw0 : w.heap.size ≤ rb ∧ w.heap.size ≤ q ∧ rb ≠ q ∧ rb < w.heap.size + 2 ∧ q < w.heap.size + 2 := by omega
  have HB := Lib.hid (And.intro hrb hq)
  have H0 := Lib.hid (And.intro ht0 (And.intro n0.1 (And.intro k0 hsz)))
  clear hrb hq n0 k0 hsz ht0 hse hs hl ok
  go_enter Tryz.func89, Tryz.ntmps89
  go_wp2_with fail
  rw [← HB.out.2] at H0 ⊢
  rw [← HB.out.1] at H0 ⊢
  generalize (w.alloc (.cells #[.string ⟨#[]⟩, .int .i64 0, .int .i64 0, .int .i64 0, .int .i64 0, .int .i64 0, .slice none 0 0, .slice none 0 0] 26)).alloc (.cells #[.string s, .int .i64 0] 181) = W at H0 ⊢
  refine (takeFields_spec W q m l H0.out.1 Hok.out Hl.out).mono ?_
  rintro e w1 ⟨vs, rfl, hm1, hq1, hk1⟩
  have hvs := hm1.metaV
  obtain ⟨vf, vo, rfl, hsf, hso⟩ := hvs
  obtain ⟨af, cf, rfl, -, -, -, -⟩ := hsf
  obtain ⟨ao, co, rfl, -, -, -, -⟩ := hso
  have hWq : q < W.heap.size ∧ rb < W.heap.size := by have := H0.out.2.2.2; omega
  have hbz : w.heap.size ≤ W.heap.size := H0.out.2.2.1.size
  have k1w : Keeps [] w w1 := H0.out.2.2.1.after hk1 (fun x hx => .inr (by simp only [List.mem_singleton] at hx; omega))
  have nr1 := hk1.at_ H0.out.2.1 (by simp; omega)
  have nq1 : w1.heap[q]? = some (.cells #[.string ⟨l.toArray⟩, .int .i64 0] 181 (0, 0)) := hq1
  have hm1' := hm1
  have ka : Keeps [] w1 (w1.alloc (.cells #[.string m.id, .int .i64 m.mn, .int .i64 m.mx, .int .i64 m.level, .int .i64 m.series, .int .i64 m.samples, .slice af m.files.length cf, .slice ao m.sources.length co] 26)) := (Keeps.refl [] w1).alloc _
  have na := heap_new w1 (.cells #[.string m.id, .int .i64 m.mn, .int .i64 m.mx, .int .i64 m.level, .int .i64 m.series, .int .i64 m.samples, .slice af m.files.length cf, .slice ao m.sources.length co] 26)
  have hlr := lt_of_at nr1
  have hlq := lt_of_at nq1
  have H1 := Lib.hid (And.intro (hm1'.same ka) (And.intro (ka.at_ nr1 (by simp)) (And.intro (ka.at_ nq1 (by simp)) (And.intro na (k1w.trans ka)))))
  obtain ⟨tb, htb⟩ : ∃ n, n = w1.heap.size := ⟨_, rfl⟩
  have htn : tb ≠ rb ∧ tb ≠ q ∧ w.heap.size ≤ tb := by have := k1w.size; omega
  have Htb := Lib.hid htb
  clear hm1 hq1 hk1 nr1 nq1 ka na k1w hm1' htb
  have cq := cells_at H1.out.2.2.1
  have lq := lt_of_at H1.out.2.2.1
  go_upto_region 4 with fail
  rw [← Htb.out] at H1 ⊢
  generalize w1.alloc (.cells #[.string m.id, .int .i64 m.mn, .int .i64 m.mx, .int .i64 m.level, .int .i64 m.series, .int .i64 m.samples, .slice af m.files.length cf, .slice ao m.sources.length co] 26) = W2 at H1 cq lq ⊢
  have ct := cells_at H1.out.2.2.2.1
  have lt := lt_of_at H1.out.2.2.2.1
  go_wp2_with fail
  refine (metaCheck_spec W.heap.size _ _ m H1.out.1.metaV Hok.out).mono ?_
  rintro e w3 ⟨rfl, hk3⟩
  have nq3 := hk3.at_ H1.out.2.2.1 (by simp)
  have cq3 := cells_at nq3
  have fq3 := free_at nq3
  have lq3 := lt_of_at nq3
  have nq4 : (w3.setCell ⟨q, 1, none⟩ (.int .i64 0)).heap[q]? = some (.cells #[.string ⟨l.toArray⟩, .int .i64 0] 181 (0, 0)) := (heap_cell_same (i := 1) nq3 _).trans (by simp)
  have k34 : Keeps [q] w3 (w3.setCell ⟨q, 1, none⟩ (.int .i64 0)) := (Keeps.refl [q] w3).setCell (.inl (by simp)) _
  have kd : Keeps [] w3 w3 := Keeps.refl _ _
  have k4w := ((H1.out.2.2.2.2.trans hk3).after k34 (fun x hx => .inr (by simp only [List.mem_singleton] at hx; omega)) : Keeps [] w _)
  have H3 := Lib.hid (And.intro nq4 (And.intro (k34.at_ (hk3.at_ H1.out.2.1 (by simp)) (by simp; omega)) (And.intro (k34.at_ (hk3.at_ H1.out.2.2.2.1 (by simp)) (by simp; omega)) (And.intro ((H1.out.1.same hk3).keep k34 (S := [q]) (by simp only [List.mem_singleton]; rintro x rfl; exact hWq.1)) k4w))))
  clear nq3 nq4 k34 hk3 kd k4w
  go_upto_region 7 with fail
  clear cq3 fq3 lq3 ct lt cq lq
  generalize w3.setCell ⟨q, 1, none⟩ (.int .i64 0) = W5 at H3 ⊢
  obtain ⟨ls, hls⟩ : ∃ s : ByteArray, s = ⟨l.toArray⟩ := ⟨_, rfl⟩
  rw [← hls] at H3
  have Hls := Lib.hid hls
  clear hls
  have c5 := cells_at H3.out.2.2.1
  have g5 := cells_at H3.out.1
  have l5 := lt_of_at H3.out.2.2.1
  have l5q := lt_of_at H3.out.1
  have d0 : W5.cell? ⟨tb, 0, none⟩ = some (.string m.id) := by rw [c5]; rfl
  have d1 : W5.cell? ⟨tb, 1, none⟩ = some (.int .i64 m.mn) := by rw [c5]; rfl
  have d2 : W5.cell? ⟨tb, 2, none⟩ = some (.int .i64 m.mx) := by rw [c5]; rfl
  have d3 : W5.cell? ⟨tb, 3, none⟩ = some (.int .i64 m.level) := by rw [c5]; rfl
  have d4 : W5.cell? ⟨tb, 4, none⟩ = some (.int .i64 m.series) := by rw [c5]; rfl
  have d5 : W5.cell? ⟨tb, 5, none⟩ = some (.int .i64 m.samples) := by rw [c5]; rfl
  have d6 : W5.cell? ⟨tb, 6, none⟩ = some (.slice af m.files.length cf) := by rw [c5]; rfl
  have d7 : W5.cell? ⟨tb, 7, none⟩ = some (.slice ao m.sources.length co) := by rw [c5]; rfl
  have d8 : W5.cell? ⟨q, 0, none⟩ = some (.string ls) := by rw [g5]; rfl
  refine wp_region_held_drew (S := fun w' => w'.cell? ⟨tb, 0, none⟩ = some (.string m.id) ∧ w'.cell? ⟨tb, 1, none⟩ = some (.int .i64 m.mn) ∧ w'.cell? ⟨tb, 2, none⟩ = some (.int .i64 m.mx) ∧ w'.cell? ⟨tb, 3, none⟩ = some (.int .i64 m.level) ∧ w'.cell? ⟨tb, 4, none⟩ = some (.int .i64 m.series) ∧ w'.cell? ⟨tb, 5, none⟩ = some (.int .i64 m.samples) ∧ w'.cell? ⟨tb, 6, none⟩ = some (.slice af m.files.length cf) ∧ w'.cell? ⟨tb, 7, none⟩ = some (.slice ao m.sources.length co) ∧ w'.cell? ⟨q, 0, none⟩ = some (.string ls)) (by kernel_rfl) ⟨d0, d1, d2, d3, d4, d5, d6, d7, d8⟩ (fun hS => ?_)
  refine wpAnyH_take (i := 0) (v := ?_) rfl (by kernel_rfl) (by kernel_rfl) (by kernel_rfl) (fun _ _ _ h => h) (Or.inl ⟨by rfl, ?_⟩) (by assumption) ?_
  rotate_left
  · intro w' hSw; obtain ⟨s1, s2, s3, s4, s5, s6, s7, s8, s9⟩ := hSw; go_simp; (try with_reducible rfl)
  simp only [Act.put, List.getElem_toArray, List.getElem_cons_succ, List.getElem_cons_zero, List.setIfInBounds_toArray, List.set_cons_zero, List.set_cons_succ]
  refine wpAnyH_take (i := 1) (v := ?_) rfl (by kernel_rfl) (by kernel_rfl) (by kernel_rfl) (fun _ _ _ h => h) (Or.inl ⟨by rfl, ?_⟩) (by assumption) ?_
  rotate_left
  · intro w' hSw; obtain ⟨s1, s2, s3, s4, s5, s6, s7, s8, s9⟩ := hSw; go_simp; (try with_reducible rfl)
  simp only [Act.put, List.getElem_toArray, List.getElem_cons_succ, List.getElem_cons_zero, List.setIfInBounds_toArray, List.set_cons_zero, List.set_cons_succ]
  refine wpAnyH_take (i := 2) (v := ?_) rfl (by kernel_rfl) (by kernel_rfl) (by kernel_rfl) (fun _ _ _ h => h) (Or.inl ⟨by rfl, ?_⟩) (by assumption) ?_
  rotate_left
  · intro w' hSw; obtain ⟨s1, s2, s3, s4, s5, s6, s7, s8, s9⟩ := hSw; go_simp; (try with_reducible rfl)
  simp only [Act.put, List.getElem_toArray, List.getElem_cons_succ, List.getElem_cons_zero, List.setIfInBounds_toArray, List.set_cons_zero, List.set_cons_succ]
  refine wpAnyH_take (i := 3) (v := ?_) rfl (by kernel_rfl) (by kernel_rfl) (by kernel_rfl) (fun _ _ _ h => h) (Or.inl ⟨by rfl, ?_⟩) (by assumption) ?_
  rotate_left
  · intro w' hSw; obtain ⟨s1, s2, s3, s4, s5, s6, s7, s8, s9⟩ := hSw; go_simp; (try with_reducible rfl)
  simp only [Act.put, List.getElem_toArray, List.getElem_cons_succ, List.getElem_cons_zero, List.setIfInBounds_toArray, List.set_cons_zero, List.set_cons_succ]
  refine wpAnyH_take (i := 4) (v := ?_) rfl (by kernel_rfl) (by kernel_rfl) (by kernel_rfl) (fun _ _ _ h => h) (Or.inl ⟨by rfl, ?_⟩) (by assumption) ?_
  rotate_left
  · intro w' hSw; obtain ⟨s1, s2, s3, s4, s5, s6, s7, s8, s9⟩ := hSw; go_simp; (try with_reducible rfl)
  simp only [Act.put, List.getElem_toArray, List.getElem_cons_succ, List.getElem_cons_zero, List.setIfInBounds_toArray, List.set_cons_zero, List.set_cons_succ]
  have se := set8 (v0 := .string m.id) (v1 := .int .i64 m.mn) (v2 := .int .i64 m.mx) (v3 := .int .i64 m.level) (v4 := .int .i64 m.series) (v5 := .int .i64 m.samples) (v6 := .slice af m.files.length cf) (v7 := .slice ao m.sources.length co) H3.out.2.1
  have hch : ((((((((W5.setCell ⟨rb, 0, none⟩ (.string m.id)).setCell ⟨rb, 1, none⟩ (.int .i64 m.mn)).setCell ⟨rb, 2, none⟩ (.int .i64 m.mx)).setCell ⟨rb, 3, none⟩ (.int .i64 m.level)).setCell ⟨rb, 4, none⟩ (.int .i64 m.series)).setCell ⟨rb, 5, none⟩ (.int .i64 m.samples)).setCell ⟨rb, 6, none⟩ (.slice af m.files.length cf)).setCell ⟨rb, 7, none⟩ (.slice ao m.sources.length co)).drew.heap[rb]? = some (.cells #[.string m.id, .int .i64 m.mn, .int .i64 m.mx, .int .i64 m.level, .int .i64 m.series, .int .i64 m.samples, .slice af m.files.length cf, .slice ao m.sources.length co] 26 (0, 0)) := (drew_heapM _ _).trans se.1
  have HE := Lib.hid (And.intro (And.intro hch se.2.drew) (And.intro H3.out.2.2.2.1 H3.out.2.2.2.2))
  have cr5 := cells_at H3.out.2.1
  have fr5 := free_at H3.out.2.1
  have lr5 := lt_of_at H3.out.2.1
  clear se hch
  refine wpAnyH_ready (rs := [5]) (by kernel_rfl) (by simp) ?_
  refine AllReadyH.cons rfl (fun K hK => ?_) AllReadyH.nil
  go_simp
  generalize ((((((((W5.setCell ⟨rb, 0, none⟩ (.string m.id)).setCell ⟨rb, 1, none⟩ (.int .i64 m.mn)).setCell ⟨rb, 2, none⟩ (.int .i64 m.mx)).setCell ⟨rb, 3, none⟩ (.int .i64 m.level)).setCell ⟨rb, 4, none⟩ (.int .i64 m.series)).setCell ⟨rb, 5, none⟩ (.int .i64 m.samples)).setCell ⟨rb, 6, none⟩ (.slice af m.files.length cf)).setCell ⟨rb, 7, none⟩ (.slice ao m.sources.length co)).drew = W6 at HE ⊢
  have tcell : ∀ i, W6.cell? ⟨tb, i, none⟩ = W5.cell? ⟨tb, i, none⟩ := fun i => HE.out.1.2.cell l5 (by simp; omega)
  have qcell : W6.cell? ⟨q, 0, none⟩ = W5.cell? ⟨q, 0, none⟩ := HE.out.1.2.cell l5q (by simp; omega)
  have x0 := (tcell 0).trans d0
  have x1 := (tcell 1).trans d1
  have x2 := (tcell 2).trans d2
  have x3 := (tcell 3).trans d3
  have x4 := (tcell 4).trans d4
  have x5 := (tcell 5).trans d5
  have x6 := (tcell 6).trans d6
  have x7 := (tcell 7).trans d7
  have x8 := qcell.trans d8
  refine hK.out _ _ ⟨x0, x1, x2, x3, x4, x5, x6, x7, x8⟩ (fun hS => ?_)
  clear hK K
  try simp only [Act.put, List.getElem_toArray, List.getElem_cons_succ, List.getElem_cons_zero, List.setIfInBounds_toArray, List.set_cons_zero, List.set_cons_succ]
  refine wpAnyH_ready (rs := [6]) (by kernel_rfl) (by simp) ?_
  refine AllReadyH.cons rfl (fun K hK => ?_) AllReadyH.nil
  go_simp
  refine hK.out _ _ ⟨x0, x1, x2, x3, x4, x5, x6, x7, x8⟩ (fun hS => ?_)
  clear hK K
  try simp only [Act.put, List.getElem_toArray, List.getElem_cons_succ, List.getElem_cons_zero, List.setIfInBounds_toArray, List.set_cons_zero, List.set_cons_succ]
  refine wpAnyH_ready (rs := [7]) (by kernel_rfl) (by simp) ?_
  refine AllReadyH.cons rfl (fun K hK => ?_) AllReadyH.nil
  go_simp
  refine hK.out _ _ ⟨x0, x1, x2, x3, x4, x5, x6, x7, x8⟩ (fun hS => ?_)
  clear hK K
  refine wpAnyH_done (by kernel_rfl) ?_ _
  clear hS x0 x1 x2 x3 x4 x5 x6 x7 x8 d0 d1 d2 d3 d4 d5 d6 d7 d8 c5 g5 cr5 fr5 lr5
  have hc := cells_at HE.out.1.1
  have hlr6 := lt_of_at HE.out.1.1
  go_wp2_with fail
  refine bodyPost_ret (v := .tuple #[.agg #[.string m.id, .int .i64 m.mn, .int .i64 m.mx, .int .i64 m.level, .int .i64 m.series, .int .i64 m.samples, .slice af m.files.length cf, .slice ao m.sources.length co], .string ls, .int .i64 0]) ?_ rfl ⟨[.string m.id, .int .i64 m.mn, .int .i64 m.mx, .int .i64 m.level, .int .i64 m.series, .int .i64 m.samples, .slice af m.files.length cf, .slice ao m.sources.length co], by rw [Hls.out], ?_, ?_⟩
  · simp [results, Tryz.results89, go_sem, hc, hlr6]
  · exact (HE.out.2.1.keep HE.out.1.2 (by simp only [List.mem_singleton]; rintro x rfl; exact hWq.2)).low hbz
  · exact HE.out.2.2.after HE.out.1.2 (fun x hx => .inr (by simp only [List.mem_singleton] at hx; omega))
end Go.Proofs.YtaebpbkiaihhdaaGreatDoor
