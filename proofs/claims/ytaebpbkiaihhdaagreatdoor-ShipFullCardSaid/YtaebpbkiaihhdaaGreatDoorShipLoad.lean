/-
  ship.Load: where there is no meta, and where the block is whole; meta.File.Holds where it does.
  The meta is one that may be.
-/
import Derived.Test.YtaebpbkiaihhdaaGreatDoorShipDisk
import Derived.Test.YtaebpbkiaihhdaaGreatDoorDecY
import Derived.BigQuiet
namespace Go.Proofs.YtaebpbkiaihhdaaGreatDoor
open Go Go.RowKit

set_option linter.unusedSimpArgs false in
set_option maxRecDepth 100000 in
theorem holds_spec (w : World) (nm s : ByteArray) (hs : s.size ≤ maxLen) :
    Calls Tryz.prog 53 #[.agg #[.string nm, .int .i64 s.size, .int .u32 (moreN 0 s.data.toList)], .string s] w fun e w' => e = .returned (.bool true) ∧ Keeps [] w w' := by
  obtain ⟨q, hq⟩ : ∃ q, q = w.heap.size := ⟨_, rfl⟩
  obtain ⟨cr, hcr⟩ : ∃ cr, cr = moreN 0 s.data.toList := ⟨_, rfl⟩
  have Hsum := Lib.hid (fun W => sum_spec W s hs)
  rw [← hcr] at Hsum ⊢
  obtain ⟨W1, hW1⟩ : ∃ W1, W1 = w.alloc (.cells #[.string nm, .int .i64 s.size, .int .u32 cr] 127) := ⟨_, rfl⟩
  have k1 : Keeps [] w W1 := by rw [hW1]; exact (Keeps.refl [] w).alloc _
  have n1 : W1.heap[q]? = some (.cells #[.string nm, .int .i64 s.size, .int .u32 cr] 127 (0, 0)) := by rw [hW1, hq]; exact heap_new w _
  have H := Lib.hid k1
  have c1 := cells_at n1
  have l1 := lt_of_at n1
  have hb : ((s.size : Int) == (s.size : Int)) = true := by simp
  clear hcr k1 n1
  go_enter Tryz.func53, Tryz.ntmps53
  go_upto_region 1 with fail
  rw [← hq, ← hW1]
  clear hq hW1
  go_quiet ((go_at_call 87; exact Calls.quiet_of_same ((Hsum.out _).mono (fun _ _ h => ⟨h.1, h.2.symm⟩))))
  rename_i nq
  have HF := Lib.hid (H.out.drewN nq)
  go_wp2_with fail
  go_ret
  exact ⟨rfl, HF.out⟩

def filesZ : Value := .agg #[.string ⟨#[]⟩, .int .i64 0, .int .i64 0, .int .i64 0, .int .i64 0, .int .i64 0, .slice none 0 0, .slice none 0 0, .string ⟨#[]⟩, .string ⟨#[]⟩]

set_option linter.unusedSimpArgs false in
set_option maxRecDepth 100000 in
set_option maxHeartbeats 1000000 in
theorem load_none (w : World) (d f c mb : Nat) (armed : Bool) (Q : List (Int × Bool)) (room : Nat) (o : List (ByteArray × Ob)) (h : DiskAt w d f c mb armed Q room o) (id : ByteArray) (hid : id.size ≤ 1000) (hx : look o (fileB id metaB) = none) :
    Calls Tryz.prog 27 #[.pointer (some ⟨d, 0, none⟩), .string id] w fun e w' => e = .returned (.tuple #[filesZ, .int .i64 5]) ∧ Keeps [] w w' := by
  obtain ⟨q0, hq0⟩ : ∃ n, n = w.heap.size := ⟨_, rfl⟩
  obtain ⟨q1, hq1⟩ : ∃ n, n = w.heap.size + 1 := ⟨_, rfl⟩
  obtain ⟨W, hW⟩ : ∃ W, W = (w.alloc (.cells #[.string ⟨#[]⟩, .int .i64 0, .int .i64 0, .int .i64 0, .int .i64 0, .int .i64 0, .slice none 0 0, .slice none 0 0, .string ⟨#[]⟩, .string ⟨#[]⟩] 28)).alloc (.cells #[.string ⟨#[]⟩, .int .i64 0, .int .i64 0, .int .i64 0, .int .i64 0, .int .i64 0, .slice none 0 0, .slice none 0 0, .string ⟨#[]⟩, .string ⟨#[]⟩] 28) := ⟨_, rfl⟩
  have n0 := new2 w (.cells #[.string ⟨#[]⟩, .int .i64 0, .int .i64 0, .int .i64 0, .int .i64 0, .int .i64 0, .slice none 0 0, .slice none 0 0, .string ⟨#[]⟩, .string ⟨#[]⟩] 28) (.cells #[.string ⟨#[]⟩, .int .i64 0, .int .i64 0, .int .i64 0, .int .i64 0, .int .i64 0, .slice none 0 0, .slice none 0 0, .string ⟨#[]⟩, .string ⟨#[]⟩] 28)
  have k0 : Keeps [] w W := by rw [hW]; exact ((Keeps.refl [] w).alloc _).alloc _
  rw [← hW, ← hq1, ← hq0] at n0
  have hb := Lib.hid hq0
  have Hr := Lib.hid (read_spec W d f c mb armed Q room o (h.same k0) (fileB id metaB))
  rw [hx] at Hr
  have H0 := Lib.hid (And.intro n0.1 (And.intro n0.2 k0))
  clear h hx n0 k0
  go_enter Tryz.func27, Tryz.ntmps27
  go_upto_region 2 with fail
  rw [← hq1, ← hW, ← hq0]
  clear hq0 hq1 hW
  go_wp2_with fail
  refine (file_spec W id metaB (by omega) (by decide)).mono ?_
  rintro e W2 ⟨rfl, rfl⟩
  go_wp2_with fail
  refine Hr.out.mono ?_
  rintro e W3 ⟨rfl, k3⟩
  rw [show (if (none : Option Ob).isSome = true then (0 : Int) else 5) = 5 from rfl]
  have n3 := k3.at_ H0.out.1 (by simp)
  have n4 := k3.at_ H0.out.2.1 (by simp)
  have H3 := Lib.hid (And.intro n3 (H0.out.2.2.trans k3))
  have c3 := cells_at n3
  have f3 := free_at n3
  have l3 := lt_of_at n3
  have c4 := cells_at n4
  have l4 := lt_of_at n4
  clear n3 n4 k3
  go_wp2_with fail
  clear c3 f3 l3 c4 l4
  obtain ⟨W9, hW9, n9, k9⟩ := set10of10 (v0 := .string ⟨#[]⟩) (v1 := .int .i64 0) (v2 := .int .i64 0) (v3 := .int .i64 0) (v4 := .int .i64 0) (v5 := .int .i64 0) (v6 := .slice none 0 0) (v7 := .slice none 0 0) (v8 := .string ⟨#[]⟩) (v9 := .string ⟨#[]⟩) H3.out.1
  rw [← hW9]
  have e9 := cells_at n9
  have l9 := lt_of_at n9
  refine bodyPost_ret (v := .tuple #[filesZ, .int .i64 5]) (by simp [results, Tryz.results27, go_sem, e9, l9, filesZ]) rfl ?_
  exact ⟨rfl, H3.out.2.after k9 (fun x hx => .inr (by have := hb.out; simp at hx; omega))⟩

theorem set8E {w : World} {p : Nat} {t : TypeId} {a0 a1 a2 a3 a4 a5 a6 a7 a8 a9 v0 v1 v2 v3 v4 v5 v6 v7 : Value} {z : Nat × Nat} (h : w.heap[p]? = some (.cells #[a0, a1, a2, a3, a4, a5, a6, a7, a8, a9] t z)) :
    ∃ W, W = (((((((w.setCell ⟨p, 0, none⟩ v0).setCell ⟨p, 1, none⟩ v1).setCell ⟨p, 2, none⟩ v2).setCell ⟨p, 3, none⟩ v3).setCell ⟨p, 4, none⟩ v4).setCell ⟨p, 5, none⟩ v5).setCell ⟨p, 6, none⟩ v6).setCell ⟨p, 7, none⟩ v7 ∧ W.heap[p]? = some (.cells #[v0, v1, v2, v3, v4, v5, v6, v7, a8, a9] t z) ∧ Keeps [p] w W :=
  ⟨_, rfl, (set8of10 h).1, (set8of10 h).2⟩

theorem set89 {w : World} {p : Nat} {t : TypeId} {a0 a1 a2 a3 a4 a5 a6 a7 a8 a9 v8 v9 : Value} {z : Nat × Nat} (h : w.heap[p]? = some (.cells #[a0, a1, a2, a3, a4, a5, a6, a7, a8, a9] t z)) :
    ∃ W, W = (w.setCell ⟨p, 8, none⟩ v8).setCell ⟨p, 9, none⟩ v9 ∧ W.heap[p]? = some (.cells #[a0, a1, a2, a3, a4, a5, a6, a7, v8, v9] t z) ∧ Keeps [p] w W := by
  have h8 := heap_cell_same (i := 8) h v8
  have h9 := heap_cell_same (i := 9) h8 v9
  exact ⟨_, rfl, h9.trans (by simp), ((Keeps.refl [p] w).setCell (.inl (by simp)) v8).setCell (.inl (by simp)) v9⟩

def LoadPost (w : World) (M : MetaS) (cb ib : ByteArray) (e : Ending) (w' : World) : Prop := ∃ (af ao : Option Addr) (nf cf no co : Nat), e = .returned (.tuple #[.agg #[.string M.id, .int .i64 M.mn, .int .i64 M.mx, .int .i64 M.level, .int .i64 M.series, .int .i64 M.samples, .slice af nf cf, .slice ao no co, .string cb, .string ib], .int .i64 0]) ∧ Keeps [] w w'

set_option linter.unusedSimpArgs false in
set_option maxRecDepth 100000 in
set_option maxHeartbeats 4000000 in
theorem load_some (w : World) (d f c mb : Nat) (armed : Bool) (Q : List (Int × Bool)) (room : Nat) (o : List (ByteArray × Ob)) (h : DiskAt w d f c mb armed Q room o) (M : MetaS) (hok : MetaOk M) (cb ib : ByteArray) (hfl : M.files = [(chunksB, cb.size, moreN 0 cb.data.toList), (indexB, ib.size, moreN 0 ib.data.toList)]) (hcz : cb.size ≤ 160000) (hiz : ib.size ≤ 14000) (x1 x2 x3 : Int) (h1 : look o (fileB M.id metaB) = some (encM M, x1)) (h2 : look o (fileB M.id chunksB) = some (cb, x2)) (h3 : look o (fileB M.id indexB) = some (ib, x3)) :
    Calls Tryz.prog 27 #[.pointer (some ⟨d, 0, none⟩), .string M.id] w (LoadPost w M cb ib) := by
  obtain ⟨q0, hq0⟩ : ∃ n, n = w.heap.size := ⟨_, rfl⟩
  obtain ⟨q1, hq1⟩ : ∃ n, n = w.heap.size + 1 := ⟨_, rfl⟩
  obtain ⟨W, hW⟩ : ∃ W, W = (w.alloc (.cells #[.string ⟨#[]⟩, .int .i64 0, .int .i64 0, .int .i64 0, .int .i64 0, .int .i64 0, .slice none 0 0, .slice none 0 0, .string ⟨#[]⟩, .string ⟨#[]⟩] 28)).alloc (.cells #[.string ⟨#[]⟩, .int .i64 0, .int .i64 0, .int .i64 0, .int .i64 0, .int .i64 0, .slice none 0 0, .slice none 0 0, .string ⟨#[]⟩, .string ⟨#[]⟩] 28) := ⟨_, rfl⟩
  have n0 := new2 w (.cells #[.string ⟨#[]⟩, .int .i64 0, .int .i64 0, .int .i64 0, .int .i64 0, .int .i64 0, .slice none 0 0, .slice none 0 0, .string ⟨#[]⟩, .string ⟨#[]⟩] 28) (.cells #[.string ⟨#[]⟩, .int .i64 0, .int .i64 0, .int .i64 0, .int .i64 0, .int .i64 0, .slice none 0 0, .slice none 0 0, .string ⟨#[]⟩, .string ⟨#[]⟩] 28)
  have k0 : Keeps [] w W := by rw [hW]; exact ((Keeps.refl [] w).alloc _).alloc _
  have hWz : W.heap.size = w.heap.size + 2 := by rw [hW]; simp
  rw [← hW, ← hq1, ← hq0] at n0
  have hqs : q0 ≠ q1 ∧ q0 < W.heap.size ∧ q1 < W.heap.size := by omega
  have hb := Lib.hid (And.intro hq0 (And.intro hq1 (And.intro hqs h.lt)))
  have hid16 := id16 hok.id
  have hrd := fun V (hk : Keeps [q0, q1] W V) (n : ByteArray) => read_spec V d f c mb armed Q room o ((h.same k0).keep hk (by have := h.lt; simp; omega) (by have := h.lt; simp; omega) (by have := h.lt; simp; omega) (by have := h.lt; simp; omega)) n
  have HR := Lib.hid hrd
  have H0 := Lib.hid (And.intro n0.1 (And.intro n0.2 k0))
  have HL := Lib.hid (And.intro h1 (And.intro h2 h3))
  have Hok := Lib.hid (And.intro hok hfl)
  clear h n0 k0 hrd h1 h2 h3 hok hfl hqs hWz
  go_enter Tryz.func27, Tryz.ntmps27
  go_upto_region 2 with fail
  rw [← hq1, ← hW, ← hq0]
  clear hq0 hq1 hW
  go_wp2_with fail
  refine (file_spec W M.id metaB (by omega) (by decide)).mono ?_
  rintro e W2 ⟨rfl, rfl⟩
  go_wp2_with fail
  refine (HR.out W (Keeps.refl _ _) (fileB M.id metaB)).mono ?_
  rw [HL.out.1]
  rintro e W3 ⟨rfl, k3⟩
  rw [show (obOr (some (encM M, x1))).1 = ⟨(frameL 1 (metaL M)).toArray⟩ from rfl, show (if (some (encM M, x1)).isSome = true then (0 : Int) else 5) = 0 from rfl]
  have H3 := Lib.hid k3
  clear k3
  go_wp2_with fail
  refine (decodeY_spec W3 M Hok.out.1).mono ?_
  rintro e W4 ⟨vs, rfl, ⟨vf, vo, rfl, r1, r2⟩, k4⟩
  obtain ⟨af, cf, rfl, -, -, -⟩ := row_slice r1
  obtain ⟨ao, co, rfl, -, -, -⟩ := row_slice r2
  have k34 := H3.out.trans k4
  have n4 := k34.at_ H0.out.2.1 (by simp)
  have H4 := Lib.hid (And.intro (k34.at_ H0.out.1 (by simp)) (And.intro n4 (And.intro k34 (row_base r1 H3.out.size))))
  have c4 := cells_at n4
  have f4 := free_at n4
  have l4 := lt_of_at n4
  clear k34 n4 r1 r2 k4
  go_wp2_with fail
  clear c4 f4 l4
  obtain ⟨W5, hW5, n5, k5⟩ := set8E (v0 := .string M.id) (v1 := .int .i64 M.mn) (v2 := .int .i64 M.mx) (v3 := .int .i64 M.level) (v4 := .int .i64 M.series) (v5 := .int .i64 M.samples) (v6 := .slice af M.files.length cf) (v7 := .slice ao M.sources.length co) H4.out.2.1
  rw [← hW5]
  have hqn : q0 ≠ q1 := hb.out.2.2.1.1
  have H5 := Lib.hid (And.intro (k5.at_ H4.out.1 (by simpa using hqn)) (And.intro n5 (And.intro ((H4.out.2.2.1.mono (by simp)).trans (k5.mono (by simp)) : Keeps [q0, q1] W W5) (k5.row H4.out.2.2.2 (fun g hg hm => by
    have h1 := (World.ownsRow.lt H4.out.2.2.2 g hg).1
    have h2 := hb.out.2.2.1
    simp only [List.mem_singleton] at hm
    omega)))))
  clear hW5 n5 k5
  refine (file_spec W5 M.id chunksB (by omega) (by decide)).mono ?_
  rintro e W5' ⟨rfl, rfl⟩
  go_wp2_with fail
  refine (HR.out W5 H5.out.2.2.1 (fileB M.id chunksB)).mono ?_
  rw [HL.out.2.1]
  rintro e W6 ⟨rfl, k6⟩
  rw [show (obOr (some (cb, x2))).1 = cb from rfl, show (if (some (cb, x2)).isSome = true then (0 : Int) else 5) = 0 from rfl]
  have H6 := Lib.hid k6
  clear k6
  go_wp2_with fail
  refine (file_spec W6 M.id indexB (by omega) (by decide)).mono ?_
  rintro e W6' ⟨rfl, rfl⟩
  go_wp2_with fail
  refine (HR.out W6 (H5.out.2.2.1.trans (H6.out.mono (by simp))) (fileB M.id indexB)).mono ?_
  rw [HL.out.2.2]
  rintro e W7 ⟨rfl, k7⟩
  rw [show (obOr (some (ib, x3))).1 = ib from rfl, show (if (some (ib, x3)).isSome = true then (0 : Int) else 5) = 0 from rfl]
  have k57 := H6.out.trans k7
  have n7 := k57.at_ H5.out.2.1 (by simp)
  have H7 := Lib.hid (And.intro (k57.at_ H5.out.1 (by simp)) (And.intro n7 (And.intro (H5.out.2.2.1.trans (k57.mono (by simp))) (k57.row H5.out.2.2.2 (by simp)))))
  have c7 := cells_at n7
  have f7 := free_at n7
  have l7 := lt_of_at n7
  clear k57 n7 k7
  go_upto_region 13 with fail
  clear c7 f7 l7
  obtain ⟨W8, hW8, n8, k8⟩ := set89 (v8 := .string cb) (v9 := .string ib) H7.out.2.1
  rw [← hW8]
  have hr8 := k8.row H7.out.2.2.2 (fun g hg hm => by
    have h1 := (World.ownsRow.lt H7.out.2.2.2 g hg).1
    have h2 := hb.out.2.2.1
    simp only [List.mem_singleton] at hm
    omega)
  have hf2 : M.files.length = 2 := by rw [Hok.out.2]; rfl
  rw [hf2] at n8 hr8 ⊢
  rw [Hok.out.2] at hr8
  have hg8 : ∃ g, af = some ⟨g, 0, none⟩ ∧ g < W8.heap.size ∧ ∀ j, j < 6 → W8.cell? ⟨g, j, none⟩ = ([.string chunksB, .int .i64 cb.size, .int .u32 (moreN 0 cb.data.toList), .string indexB, .int .i64 ib.size, .int .u32 (moreN 0 ib.data.toList)] : List Value)[j]? := by
    obtain ⟨-, ⟨e, _⟩ | ⟨g, cp, cur, e, -⟩⟩ := id hr8
    · cases e
    · injection e with e _ _
      subst e
      exact ⟨g, rfl, (World.ownsRow.lt hr8 g rfl).2, fun j hj => by rw [World.ownsRow.cellAt hr8 j hj]; rfl⟩
  obtain ⟨g, rfl, lg, cg⟩ := hg8
  have H8 := Lib.hid (And.intro (k8.at_ H7.out.1 (by simpa using hqn)) (And.intro n8 (And.intro (H7.out.2.2.1.trans (k8.mono (by simp))) (And.intro cg lg))))
  have c8 := cells_at n8
  have l8 := lt_of_at n8
  have g0 : W8.cell? ⟨g, 0, none⟩ = some (.string chunksB) := cg 0 (by decide)
  have g1 : W8.cell? ⟨g, 1, none⟩ = some (.int .i64 cb.size) := cg 1 (by decide)
  have g2 : W8.cell? ⟨g, 2, none⟩ = some (.int .u32 (moreN 0 cb.data.toList)) := cg 2 (by decide)
  clear cg hW8 n8 k8 hr8
  go_wp2_with fail
  refine (holds_spec W8 chunksB cb (by simp only [maxLen]; omega)).mono ?_
  rintro e W9 ⟨rfl, k9⟩
  clear c8 l8 g0 g1 g2
  have n9 := k9.at_ H8.out.2.1 (by simp)
  have c9 := cells_at n9
  have l9 := lt_of_at n9
  have g3 : W9.cell? ⟨g, 3, none⟩ = some (.string indexB) := (k9.cell lg (by simp)).trans (H8.out.2.2.2.1 3 (by decide))
  have g4 : W9.cell? ⟨g, 4, none⟩ = some (.int .i64 ib.size) := (k9.cell lg (by simp)).trans (H8.out.2.2.2.1 4 (by decide))
  have g5 : W9.cell? ⟨g, 5, none⟩ = some (.int .u32 (moreN 0 ib.data.toList)) := (k9.cell lg (by simp)).trans (H8.out.2.2.2.1 5 (by decide))
  have lg9 := k9.lt lg
  have H9 := Lib.hid (And.intro (k9.at_ H8.out.1 (by simp)) (And.intro n9 (H8.out.2.2.1.trans (k9.mono (by simp)))))
  clear n9 k9 lg
  go_wp2_with fail
  refine (holds_spec W9 indexB ib (by simp only [maxLen]; omega)).mono ?_
  rintro e W10 ⟨rfl, k10⟩
  clear c9 l9 g3 g4 g5 lg9
  have n10 := k10.at_ H9.out.2.1 (by simp)
  have m10 := k10.at_ H9.out.1 (by simp)
  have c10 := cells_at n10
  have l10 := lt_of_at n10
  have d10 := cells_at m10
  have e10 := free_at m10
  have m10l := lt_of_at m10
  have H10 := Lib.hid (And.intro m10 (H9.out.2.2.trans (k10.mono (by simp))))
  clear n10 m10 k10
  go_wp2_with fail
  clear c10 l10 d10 e10 m10l
  obtain ⟨W11, hW11, n11, k11⟩ := set10of10 (v0 := .string M.id) (v1 := .int .i64 M.mn) (v2 := .int .i64 M.mx) (v3 := .int .i64 M.level) (v4 := .int .i64 M.series) (v5 := .int .i64 M.samples) (v6 := .slice (some ⟨g, 0, none⟩) 2 cf) (v7 := .slice ao M.sources.length co) (v8 := .string cb) (v9 := .string ib) H10.out.1
  rw [← hW11]
  have e11 := cells_at n11
  have l11 := lt_of_at n11
  refine bodyPost_ret (v := .tuple #[.agg #[.string M.id, .int .i64 M.mn, .int .i64 M.mx, .int .i64 M.level, .int .i64 M.series, .int .i64 M.samples, .slice (some ⟨g, 0, none⟩) 2 cf, .slice ao M.sources.length co, .string cb, .string ib], .int .i64 0]) (by simp [results, Tryz.results27, go_sem, e11, l11]) rfl ?_
  exact ⟨_, _, _, _, _, _, rfl, (H0.out.2.2.after H10.out.2 (fun x hx => .inr (by have h1 := hb.out.1; have h2 := hb.out.2.1; simp at hx; omega))).after k11 (fun x hx => .inr (by have h1 := hb.out.1; simp at hx; omega))⟩
end Go.Proofs.YtaebpbkiaihhdaaGreatDoor
