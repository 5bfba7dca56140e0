/-
  A block on its way into a bucket (package ship): NewUpload, Done, Step.
  The meta is one that may be; its lists lie in other blocks than the bucket's.
-/
import Derived.Test.YtaebpbkiaihhdaaGreatDoorXorOf
import Derived.Test.YtaebpbkiaihhdaaGreatDoorMetaPut
import Derived.Test.YtaebpbkiaihhdaaGreatDoorKeys
import Derived.Test.YtaebpbkiaihhdaaGreatDoorTaker
import Derived.BigQuiet
namespace Go.Proofs.YtaebpbkiaihhdaaGreatDoor
open Go Go.RowKit

def upCells (M : MetaS) (vf vo : Value) (cb ib : ByteArray) (n : Int) : Array Value := #[.string M.id, .int .i64 M.mn, .int .i64 M.mx, .int .i64 M.level, .int .i64 M.series, .int .i64 M.samples, vf, vo, .string cb, .string ib, .int .i64 n]

def metaCs (M : MetaS) (vf vo : Value) : List Value := [.string M.id, .int .i64 M.mn, .int .i64 M.mx, .int .i64 M.level, .int .i64 M.series, .int .i64 M.samples, vf, vo]

def UpAt (w : World) (u : Nat) (M : MetaS) (vf vo : Value) (cb ib : ByteArray) (n : Int) : Prop := w.heap[u]? = some (.cells (upCells M vf vo cb ib n) 88 (0, 0))

set_option linter.unusedSimpArgs false in
set_option maxRecDepth 100000 in
theorem newUpload_spec (w : World) (M : MetaS) (af ao : Option Addr) (nf cf no co : Nat) (cb ib : ByteArray) :
    Calls Tryz.prog 11 #[.agg #[.string M.id, .int .i64 M.mn, .int .i64 M.mx, .int .i64 M.level, .int .i64 M.series, .int .i64 M.samples, .slice af nf cf, .slice ao no co, .string cb, .string ib]] w fun e w' => ∃ u, e = .returned (.pointer (some ⟨u, 0, none⟩)) ∧ UpAt w' u M (.slice af nf cf) (.slice ao no co) cb ib 0 ∧ Keeps [] w w' ∧ w.heap.size < u := by
  obtain ⟨W1, hW1⟩ : ∃ W1, W1 = w.alloc (.cells #[.string M.id, .int .i64 M.mn, .int .i64 M.mx, .int .i64 M.level, .int .i64 M.series, .int .i64 M.samples, .slice af nf cf, .slice ao no co, .string cb, .string ib] 28) := ⟨_, rfl⟩
  have k1 : Keeps [] w W1 := by rw [hW1]; exact (Keeps.refl [] w).alloc _
  have hs : W1.heap.size = w.heap.size + 1 := by rw [hW1]; simp
  have H := Lib.hid (And.intro k1 hs)
  clear k1 hs
  go_enter Tryz.func11, Tryz.ntmps11
  go_wp2_with fail
  rw [← hW1]
  go_ret
  refine ⟨_, rfl, ?_, H.out.1.trans ((Keeps.refl [] _).alloc _), Nat.lt_succ_self _⟩
  have hn := heap_new W1 (.cells (upCells M (.slice af nf cf) (.slice ao no co) cb ib 0) 88)
  rw [H.out.2] at hn
  exact hn

theorem UpAt.cells {w : World} {u : Nat} {M : MetaS} {vf vo : Value} {cb ib : ByteArray} {n : Int} (h : UpAt w u M vf vo cb ib n) : ∀ i, w.cell? ⟨u, i, none⟩ = (#[.string M.id, .int .i64 M.mn, .int .i64 M.mx, .int .i64 M.level, .int .i64 M.series, .int .i64 M.samples, vf, vo, .string cb, .string ib, .int .i64 n] : Array Value)[i]? := cells_at h

set_option linter.unusedSimpArgs false in
set_option maxRecDepth 100000 in
theorem upDone_spec2 (w : World) (u : Nat) (M : MetaS) (vf vo : Value) (cb ib : ByteArray) (n : Int) (h : UpAt w u M vf vo cb ib n) :
    Calls Tryz.prog 12 #[.pointer (some ⟨u, 0, none⟩)] w fun e w' => e = .returned (.bool (n == 3)) ∧ w = w' := by
  have cu := h.cells
  have lu := lt_of_at h
  clear h
  go_enter Tryz.func12, Tryz.ntmps12
  go_wp2_with fail
  go_ret
  exact ⟨rfl, rfl⟩

set_option linter.unusedSimpArgs false in
set_option maxRecDepth 100000 in
theorem upIdle_spec (w : World) (u b : Nat) (M : MetaS) (vf vo : Value) (cb ib : ByteArray) (now grace : Int) (h : UpAt w u M vf vo cb ib 3) :
    Calls Tryz.prog 13 #[.pointer (some ⟨u, 0, none⟩), .pointer (some ⟨b, 0, none⟩), .int .i64 now, .int .i64 grace] w fun e w' => e = .returned (.int .i64 17) ∧ w = w' := by
  have cu := h.cells
  have lu := lt_of_at h
  have Hd := Lib.hid (upDone_spec2 w u M vf vo cb ib 3 h)
  clear h
  go_enter Tryz.func13, Tryz.ntmps13
  go_wp2_with fail
  refine Hd.out.mono ?_
  rintro e w2 ⟨rfl, rfl⟩
  go_wp2_with fail
  go_ret
  exact ⟨rfl, rfl⟩

set_option linter.unusedSimpArgs false in
set_option maxRecDepth 100000 in
theorem upLate_spec (w : World) (u b : Nat) (M : MetaS) (vf vo : Value) (cb ib : ByteArray) (n : Int) (hn : (n == 3) = false) (now grace : Int) (hnow : -1000000000000000 ≤ now ∧ now ≤ 1000000000000000) (hl : lateB (parseL M.id.data.toList) now grace = true) (h : UpAt w u M vf vo cb ib n) :
    Calls Tryz.prog 13 #[.pointer (some ⟨u, 0, none⟩), .pointer (some ⟨b, 0, none⟩), .int .i64 now, .int .i64 grace] w fun e w' => e = .returned (.int .i64 14) ∧ w = w' := by
  have cu := h.cells
  have lu := lt_of_at h
  have Hd := Lib.hid (upDone_spec2 w u M vf vo cb ib n h)
  have Hl := late_spec w M.id now grace hnow
  rw [hl] at Hl
  have HL := Lib.hid Hl
  clear h Hl hl
  go_enter Tryz.func13, Tryz.ntmps13
  go_wp2_with fail
  refine Hd.out.mono ?_
  rintro e w2 ⟨rfl, rfl⟩
  go_wp2_with fail
  refine HL.out.mono ?_
  rintro e w2 ⟨rfl, rfl⟩
  go_wp2_with fail
  go_ret
  exact ⟨rfl, rfl⟩

def encM (M : MetaS) : ByteArray := ⟨(frameL 1 (metaL M)).toArray⟩

def partN : Nat → ByteArray
  | 0 => chunksB
  | 1 => indexB
  | _ => metaB

def dataN (M : MetaS) (cb ib : ByteArray) : Nat → ByteArray
  | 0 => cb
  | 1 => ib
  | _ => encM M

theorem ix3_0 (a b c : ByteArray) (w : World) : (Instr.index 89 (.agg #[.string a, .string b, .string c]) (.int .i64 0)).run Tryz.prog w = .ok (.string a) w := by kernel_rfl

theorem ix3_1 (a b c : ByteArray) (w : World) : (Instr.index 89 (.agg #[.string a, .string b, .string c]) (.int .i64 1)).run Tryz.prog w = .ok (.string b) w := by kernel_rfl

theorem ix3_2 (a b c : ByteArray) (w : World) : (Instr.index 89 (.agg #[.string a, .string b, .string c]) (.int .i64 2)).run Tryz.prog w = .ok (.string c) w := by kernel_rfl

def UpPost (w : World) (u b f c mb : Nat) (M : MetaS) (vf vo : Value) (cb ib : ByteArray) (n : Nat) (now : Int) (Q : List (Int × Bool)) (o : List (ByteArray × Ob)) (e : Ending) (w' : World) : Prop :=
  e = .returned (.int .i64 (ioErr Q)) ∧ BucketAt w' b f c mb (tryArmed Q) (tryQ Q) (chg Q o (put o (objectB M.id (partN n)) (dataN M cb ib n, now))) ∧ UpAt w' u M vf vo cb ib (if ioErr Q = 0 then (n : Int) + 1 else n) ∧ Keeps [f, c, mb, u] w w'

set_option linter.unusedSimpArgs false in
set_option maxRecDepth 100000 in
set_option maxHeartbeats 2000000 in
theorem upStep0_spec (w : World) (u b f c mb B : Nat) (M : MetaS) (af ao : Option Addr) (nf cf no co : Nat) (cb ib : ByteArray) (now grace : Int) (hnow : -1000000000000000 ≤ now ∧ now ≤ 1000000000000000) (hl : lateB (parseL M.id.data.toList) now grace = false) (armed : Bool) (Q : List (Int × Bool)) (o : List (ByteArray × Ob)) (hb : BucketAt w b f c mb armed Q o) (hu : u ∉ [f, c, mb, b]) (hM : MetaV B w (metaCs M (.slice af nf cf) (.slice ao no co)) M) (hok : MetaOk M) (h : UpAt w u M (.slice af nf cf) (.slice ao no co) cb ib 0) :
    Calls Tryz.prog 13 #[.pointer (some ⟨u, 0, none⟩), .pointer (some ⟨b, 0, none⟩), .int .i64 now, .int .i64 grace] w (UpPost w u b f c mb M (.slice af nf cf) (.slice ao no co) cb ib 0 now Q o) := by
  have cu := h.cells
  have lu := lt_of_at h
  have Hd := Lib.hid (upDone_spec2 w u M _ _ cb ib 0 h)
  have Hl := late_spec w M.id now grace hnow
  rw [hl] at Hl
  have HL := Lib.hid Hl
  have H := Lib.hid (And.intro h (And.intro hb (And.intro hM (And.intro hok hu))))
  have hx0 := ix3_0
  have hx1 := ix3_1
  have hx2 := ix3_2
  clear h Hl hl hb hM hok hu
  go_enter Tryz.func13, Tryz.ntmps13
  go_wp2_with fail
  refine Hd.out.mono ?_
  rintro e w2 ⟨rfl, rfl⟩
  go_wp2_with fail
  refine HL.out.mono ?_
  rintro e w3 ⟨rfl, rfl⟩
  go_upto_region 7 with fail
  obtain ⟨X0, hX0⟩ : ∃ X0, X0 = w.drew := ⟨_, rfl⟩
  have kX : Keeps [] w X0 := by rw [hX0]; exact (Keeps.refl [] _).drew
  have hUX : UpAt X0 u M (.slice af nf cf) (.slice ao no co) cb ib 0 := kX.at_ H.out.1 (by simp)
  have cX := hUX.cells
  have D0 : ∀ s : Kept X0, s.val.cell? ⟨u, 0, none⟩ = some (.string M.id) := keptCell (by rw [cX]; rfl)
  have D1 : ∀ s : Kept X0, s.val.cell? ⟨u, 1, none⟩ = some (.int .i64 M.mn) := keptCell (by rw [cX]; rfl)
  have D2 : ∀ s : Kept X0, s.val.cell? ⟨u, 2, none⟩ = some (.int .i64 M.mx) := keptCell (by rw [cX]; rfl)
  have D3 : ∀ s : Kept X0, s.val.cell? ⟨u, 3, none⟩ = some (.int .i64 M.level) := keptCell (by rw [cX]; rfl)
  have D4 : ∀ s : Kept X0, s.val.cell? ⟨u, 4, none⟩ = some (.int .i64 M.series) := keptCell (by rw [cX]; rfl)
  have D5 : ∀ s : Kept X0, s.val.cell? ⟨u, 5, none⟩ = some (.int .i64 M.samples) := keptCell (by rw [cX]; rfl)
  have D6 : ∀ s : Kept X0, s.val.cell? ⟨u, 6, none⟩ = some (.slice af nf cf) := keptCell (by rw [cX]; rfl)
  have D7 : ∀ s : Kept X0, s.val.cell? ⟨u, 7, none⟩ = some (.slice ao no co) := keptCell (by rw [cX]; rfl)
  have D8 : ∀ s : Kept X0, s.val.cell? ⟨u, 8, none⟩ = some (.string cb) := keptCell (by rw [cX]; rfl)
  have D9 : ∀ s : Kept X0, s.val.cell? ⟨u, 9, none⟩ = some (.string ib) := keptCell (by rw [cX]; rfl)
  have D10 : ∀ s : Kept X0, s.val.cell? ⟨u, 10, none⟩ = some (.int .i64 0) := keptCell (by rw [cX]; rfl)
  have HX := Lib.hid (And.intro hX0 kX)
  have HE := Lib.hid (metaEnc_spec B X0 _ M (H.out.2.2.1.same kX) H.out.2.2.2.1)
  clear cu lu cX hUX kX hX0
  refine wp_region_held_drew (S := KeptS X0) (by kernel_rfl) (by rw [← HX.out.1]; exact keptS (Keeps.refl _ _)) (fun hS => ?_)
  rw [← HX.out.1] at hS ⊢
  refine wpAnyH_take (i := 0) (v := ?_) rfl (by kernel_rfl) (by kernel_rfl) (by kernel_rfl) (fun _ _ _ h => h) (Or.inl ⟨by rfl, ?_⟩) (by assumption) ?_
  rotate_left
  · intro w' s1; obtain ⟨s, rfl⟩ := s1; go_simp; (try with_reducible rfl)
  simp only [Act.put, List.getElem_toArray, List.getElem_cons_succ, List.getElem_cons_zero, List.setIfInBounds_toArray, List.set_cons_zero, List.set_cons_succ]
  refine wpAnyH_take (i := 1) (v := ?_) rfl (by kernel_rfl) (by kernel_rfl) (by kernel_rfl) (fun _ _ _ h => h) (Or.inl ⟨by rfl, ?_⟩) (by assumption) ?_
  rotate_left
  · intro w' s1; obtain ⟨s, rfl⟩ := s1; go_simp; (try with_reducible rfl)
  simp only [Act.put, List.getElem_toArray, List.getElem_cons_succ, List.getElem_cons_zero, List.setIfInBounds_toArray, List.set_cons_zero, List.set_cons_succ]
  refine wpAnyH_take (i := 2) (v := ?_) rfl (by kernel_rfl) (by kernel_rfl) (by kernel_rfl) (fun _ _ _ h => h) (Or.inl ⟨by rfl, ?_⟩) (by assumption) ?_
  rotate_left
  · intro w' s1; obtain ⟨s, rfl⟩ := s1; go_simp; (try with_reducible rfl)
  simp only [Act.put, List.getElem_toArray, List.getElem_cons_succ, List.getElem_cons_zero, List.setIfInBounds_toArray, List.set_cons_zero, List.set_cons_succ]
  refine wpAnyH_take (i := 3) (v := ?_) rfl (by kernel_rfl) (by kernel_rfl) (by kernel_rfl) (fun _ _ _ h => h) (Or.inl ⟨by rfl, ?_⟩) (by assumption) ?_
  rotate_left
  · intro w' s1; obtain ⟨s, rfl⟩ := s1; go_simp; (try with_reducible rfl)
  simp only [Act.put, List.getElem_toArray, List.getElem_cons_succ, List.getElem_cons_zero, List.setIfInBounds_toArray, List.set_cons_zero, List.set_cons_succ]
  refine wpAnyH_take (i := 4) (v := ?_) rfl (by kernel_rfl) (by kernel_rfl) (by kernel_rfl) (fun _ _ _ h => h) (Or.inl ⟨by rfl, ?_⟩) (by assumption) ?_
  rotate_left
  · intro w' s1; obtain ⟨s, rfl⟩ := s1; go_simp; (try with_reducible rfl)
  simp only [Act.put, List.getElem_toArray, List.getElem_cons_succ, List.getElem_cons_zero, List.setIfInBounds_toArray, List.set_cons_zero, List.set_cons_succ]
  refine wpAnyH_take (i := 5) (v := ?_) rfl (by kernel_rfl) (by kernel_rfl) (by kernel_rfl) (fun _ _ _ h => h) (Or.inl ⟨by rfl, ?_⟩) (by assumption) ?_
  rotate_left
  · intro w' s1; obtain ⟨s, rfl⟩ := s1; go_simp; (try with_reducible rfl)
  simp only [Act.put, List.getElem_toArray, List.getElem_cons_succ, List.getElem_cons_zero, List.setIfInBounds_toArray, List.set_cons_zero, List.set_cons_succ]
  refine wpAnyH_take (i := 6) (v := ?_) rfl (by kernel_rfl) (by kernel_rfl) (by kernel_rfl) (fun _ _ _ h => h) (Or.inl ⟨by rfl, ?_⟩) (by assumption) ?_
  rotate_left
  · intro w' s1; obtain ⟨s, rfl⟩ := s1; go_simp; (try with_reducible rfl)
  simp only [Act.put, List.getElem_toArray, List.getElem_cons_succ, List.getElem_cons_zero, List.setIfInBounds_toArray, List.set_cons_zero, List.set_cons_succ]
  refine wpAnyH_take (i := 7) (v := ?_) rfl (by kernel_rfl) (by kernel_rfl) (by kernel_rfl) (fun _ _ _ h => h) (Or.inl ⟨by rfl, ?_⟩) (by assumption) ?_
  rotate_left
  · intro w' s1; obtain ⟨s, rfl⟩ := s1; go_simp; (try with_reducible rfl)
  simp only [Act.put, List.getElem_toArray, List.getElem_cons_succ, List.getElem_cons_zero, List.setIfInBounds_toArray, List.set_cons_zero, List.set_cons_succ]
  refine wpAnyH_take (i := 8) (v := ?_) rfl (by kernel_rfl) (by kernel_rfl) (by kernel_rfl) (fun _ _ _ h => h) (Or.inl ⟨by rfl, ?_⟩) (by assumption) ?_
  rotate_left
  · intro w' s1; obtain ⟨s, rfl⟩ := s1; go_simp; (try with_reducible rfl)
  simp only [Act.put, List.getElem_toArray, List.getElem_cons_succ, List.getElem_cons_zero, List.setIfInBounds_toArray, List.set_cons_zero, List.set_cons_succ]
  refine wpAnyH_take (i := 9) (v := ?_) rfl (by kernel_rfl) (by kernel_rfl) (by kernel_rfl) (fun _ _ _ h => h) (Or.inl ⟨by rfl, ?_⟩) (by assumption) ?_
  rotate_left
  · intro w' s1; obtain ⟨s, rfl⟩ := s1; go_simp; (try with_reducible rfl)
  simp only [Act.put, List.getElem_toArray, List.getElem_cons_succ, List.getElem_cons_zero, List.setIfInBounds_toArray, List.set_cons_zero, List.set_cons_succ]
  refine wpAnyH_take (i := 10) (v := ?_) rfl (by kernel_rfl) (by kernel_rfl) (by kernel_rfl) (fun _ _ _ h => h) (Or.inl ⟨by rfl, ?_⟩) (by assumption) ?_
  rotate_left
  · intro w' s1; obtain ⟨s, rfl⟩ := s1; go_simp; (try with_reducible rfl)
  simp only [Act.put, List.getElem_toArray, List.getElem_cons_succ, List.getElem_cons_zero, List.setIfInBounds_toArray, List.set_cons_zero, List.set_cons_succ]
  refine wpAnyH_take (i := 11) (v := ?_) rfl (by kernel_rfl) (by kernel_rfl) (by kernel_rfl) (fun _ _ _ h => h) (Or.inl ⟨by rfl, ?_⟩) (by assumption) ?_
  rotate_left
  · intro w' s1; obtain ⟨s, rfl⟩ := s1; go_simp; (try with_reducible rfl)
  simp only [Act.put, List.getElem_toArray, List.getElem_cons_succ, List.getElem_cons_zero, List.setIfInBounds_toArray, List.set_cons_zero, List.set_cons_succ]
  refine wpAnyH_take (i := 12) (v := ?_) rfl (by kernel_rfl) (by kernel_rfl) (by kernel_rfl) (fun _ _ _ h => h) (Or.inl ⟨by rfl, ?_⟩) (by assumption) ?_
  rotate_left
  · intro w' s1; obtain ⟨s, rfl⟩ := s1; go_simp; (try with_reducible rfl)
  simp only [Act.put, List.getElem_toArray, List.getElem_cons_succ, List.getElem_cons_zero, List.setIfInBounds_toArray, List.set_cons_zero, List.set_cons_succ]
  refine wpAnyH_take (i := 13) (v := ?_) rfl (by kernel_rfl) (by kernel_rfl) (by kernel_rfl) (fun _ _ _ h => h) (Or.inl ⟨by rfl, ?_⟩) (by assumption) ?_
  rotate_left
  · intro w' s1; obtain ⟨s, rfl⟩ := s1; go_simp; (try with_reducible rfl)
  simp only [Act.put, List.getElem_toArray, List.getElem_cons_succ, List.getElem_cons_zero, List.setIfInBounds_toArray, List.set_cons_zero, List.set_cons_succ]
  refine wpAnyH_take (i := 14) (v := ?_) rfl (by kernel_rfl) (by kernel_rfl) (by kernel_rfl) (fun _ _ _ h => h) (Or.inl ⟨by rfl, ?_⟩) (by assumption) ?_
  rotate_left
  · intro w' s1; obtain ⟨s, rfl⟩ := s1; go_simp; (try with_reducible rfl)
  simp only [Act.put, List.getElem_toArray, List.getElem_cons_succ, List.getElem_cons_zero, List.setIfInBounds_toArray, List.set_cons_zero, List.set_cons_succ]
  refine wpAnyH_take (i := 17) (v := ?_) rfl (by kernel_rfl) (by kernel_rfl) (by kernel_rfl) (fun _ _ _ h => h) (Or.inl ⟨by rfl, ?_⟩) (by assumption) ?_
  rotate_left
  · intro w' s1; obtain ⟨s, rfl⟩ := s1; go_simp; (try with_reducible rfl)
  simp only [Act.put, List.getElem_toArray, List.getElem_cons_succ, List.getElem_cons_zero, List.setIfInBounds_toArray, List.set_cons_zero, List.set_cons_succ]
  refine wpAnyH_take (i := 18) (v := ?_) rfl (by kernel_rfl) (by kernel_rfl) (by kernel_rfl) (fun _ _ _ h => h) (Or.inl ⟨by rfl, ?_⟩) (by assumption) ?_
  rotate_left
  · intro w' s1; obtain ⟨s, rfl⟩ := s1; go_simp; (try with_reducible rfl)
  simp only [Act.put, List.getElem_toArray, List.getElem_cons_succ, List.getElem_cons_zero, List.setIfInBounds_toArray, List.set_cons_zero, List.set_cons_succ]
  refine wpAnyH_take (i := 19) (v := ?_) rfl (by kernel_rfl) (by kernel_rfl) (by kernel_rfl) (fun _ _ _ h => h) (Or.inl ⟨by rfl, ?_⟩) (by assumption) ?_
  rotate_left
  · intro w' s1; obtain ⟨s, rfl⟩ := s1; go_simp; (try with_reducible rfl)
  simp only [Act.put, List.getElem_toArray, List.getElem_cons_succ, List.getElem_cons_zero, List.setIfInBounds_toArray, List.set_cons_zero, List.set_cons_succ]
  refine wpAnyH_take (i := 20) (v := ?_) rfl (by kernel_rfl) (by kernel_rfl) (by kernel_rfl) (fun _ _ _ h => h) (Or.inl ⟨by rfl, ?_⟩) (by assumption) ?_
  rotate_left
  · intro w' s1; obtain ⟨s, rfl⟩ := s1; go_simp; (try with_reducible rfl)
  simp only [Act.put, List.getElem_toArray, List.getElem_cons_succ, List.getElem_cons_zero, List.setIfInBounds_toArray, List.set_cons_zero, List.set_cons_succ]
  refine wpAnyH_ready (rs := [15]) (by kernel_rfl) (by simp) ?_
  refine AllReadyH.cons rfl (fun K hK => ?_) AllReadyH.nil
  go_simp
  go_at_call 37
  refine HE.out.mono ?_
  rintro e A1 ⟨rfl, kA⟩
  rw [show (⟨(frameL 1 (metaL M)).toArray⟩ : ByteArray) = encM M from rfl]
  have HA := Lib.hid (HX.out.2.trans kA)
  have HkA := Lib.hid kA
  clear kA
  go_simp
  refine hK.out _ _ (keptS HkA.out) (fun hS => ?_)
  clear hK K
  try simp only [Act.put, List.getElem_toArray, List.getElem_cons_succ, List.getElem_cons_zero, List.setIfInBounds_toArray, List.set_cons_zero, List.set_cons_succ]
  generalize hem : encM M = em
  have Hem := Lib.hid hem
  clear hem
  refine wpAnyH_take (i := 16) (v := ?_) rfl (by kernel_rfl) (by kernel_rfl) (by kernel_rfl) (fun _ _ _ h => h) (Or.inl ⟨by rfl, ?_⟩) (by assumption) ?_
  rotate_left
  · intro w' s1; obtain ⟨s, rfl⟩ := s1; go_simp; (try with_reducible rfl)
  simp only [Act.put, List.getElem_toArray, List.getElem_cons_succ, List.getElem_cons_zero, List.setIfInBounds_toArray, List.set_cons_zero, List.set_cons_succ]
  refine wpAnyH_take (i := 21) (v := ?_) rfl (by kernel_rfl) (by kernel_rfl) (by kernel_rfl) (fun _ _ _ h => h) (Or.inl ⟨by rfl, ?_⟩) (by assumption) ?_
  rotate_left
  · intro w' s1; obtain ⟨s, rfl⟩ := s1; go_simp; (try with_reducible rfl)
  simp only [Act.put, List.getElem_toArray, List.getElem_cons_succ, List.getElem_cons_zero, List.setIfInBounds_toArray, List.set_cons_zero, List.set_cons_succ]
  refine wpAnyH_ready (rs := [22]) (by kernel_rfl) (by simp) ?_
  refine AllReadyH.cons rfl (fun K hK => ?_) AllReadyH.nil
  go_simp
  go_simp
  refine hK.out _ _ (keptS HkA.out) (fun hS => ?_)
  clear hK K
  try simp only [Act.put, List.getElem_toArray, List.getElem_cons_succ, List.getElem_cons_zero, List.setIfInBounds_toArray, List.set_cons_zero, List.set_cons_succ]
  refine wpAnyH_done (by kernel_rfl) ?_ _
  clear D0 D1 D2 D3 D4 D5 D6 D7 D8 D9 D10 hS
  have hid16 := id16 H.out.2.2.2.1.id
  go_wp2_with fail
  refine (object_spec A1 M.id (partN 0) (by omega) (by decide)).mono ?_
  rintro e A2 ⟨rfl, rfl⟩
  have hnz : (objectB M.id (partN 0)).size = 17 + (partN 0).size := by
    unfold objectB
    rw [ByteArray.size_append, ByteArray.size_append, hid16]
    rfl
  have hnz2 : (partN 0).size ≤ 6 := by decide
  have hUA : UpAt A1 u M (.slice af nf cf) (.slice ao no co) cb ib 0 := HA.out.at_ H.out.1 (by simp)
  have hbA := H.out.2.1.keep HA.out (by simp) (by simp) (by simp) (by simp)
  have HB := Lib.hid (And.intro hUA hbA)
  generalize hnm : objectB M.id (partN 0) = nm at hnz ⊢
  have Hnm := Lib.hid hnm
  clear hUA hbA hnm hx0 hx1 hx2
  go_wp2_with fail
  refine (put_spec A1 b f c mb armed Q o HB.out.2 nm cb now (by omega) (by omega)).mono ?_
  rintro e A3 ⟨rfl, hb3, k3⟩
  have hU3 : UpAt A3 u M (.slice af nf cf) (.slice ao no co) cb ib 0 := k3.at_ HB.out.1 (by have := H.out.2.2.2.2; simp only [List.mem_cons, not_or] at this ⊢; exact ⟨this.1, this.2.1, this.2.2.1, by simp⟩)
  have H3 := Lib.hid (And.intro hb3 (And.intro hU3 ((HA.out.mono (by simp)).trans k3)))
  have cu := hU3.cells
  have fu := free_at hU3
  have lu := lt_of_at hU3
  clear hb3 k3 hU3
  by_cases hio : ioErr Q = 0
  · have HIO := Lib.hid hio
    rw [hio]
    clear hio
    go_wp2_with fail
    go_ret
    have hst := heap_cell_same (i := 10) H3.out.2.1 (.int .i64 (0 + 1))
    have kst : Keeps [f, c, mb, u] A3 (A3.setCell ⟨u, 10, none⟩ (.int .i64 (0 + 1))) := (Keeps.refl _ _).setCell (.inl (by simp)) _
    have kst1 : Keeps [u] A3 (A3.setCell ⟨u, 10, none⟩ (.int .i64 (0 + 1))) := (Keeps.refl _ _).setCell (.inl (by simp)) _
    have hu := H.out.2.2.2.2
    simp only [List.mem_cons, not_or] at hu
    refine ⟨by rw [HIO.out]; rfl, ?_, ?_, (H3.out.2.2.mono (by simp)).trans kst⟩
    · have hb9 := H3.out.1.keep kst1 (by simp; exact Ne.symm hu.2.2.2.1) (by simp; exact Ne.symm hu.1) (by simp; exact Ne.symm hu.2.1) (by simp; exact Ne.symm hu.2.2.1)
      rw [← Hnm.out] at hb9
      exact hb9
    · rw [if_pos HIO.out]
      exact hst
  · have HIO := Lib.hid hio
    go_wp2_with fail
    go_ret
    refine ⟨rfl, ?_, ?_, H3.out.2.2.mono (by simp)⟩
    · have hb9 := H3.out.1
      rw [← Hnm.out] at hb9
      exact hb9
    · rw [if_neg HIO.out]
      exact H3.out.2.1

set_option linter.unusedSimpArgs false in
set_option maxRecDepth 100000 in
set_option maxHeartbeats 2000000 in
theorem upStep1_spec (w : World) (u b f c mb B : Nat) (M : MetaS) (af ao : Option Addr) (nf cf no co : Nat) (cb ib : ByteArray) (now grace : Int) (hnow : -1000000000000000 ≤ now ∧ now ≤ 1000000000000000) (hl : lateB (parseL M.id.data.toList) now grace = false) (armed : Bool) (Q : List (Int × Bool)) (o : List (ByteArray × Ob)) (hb : BucketAt w b f c mb armed Q o) (hu : u ∉ [f, c, mb, b]) (hM : MetaV B w (metaCs M (.slice af nf cf) (.slice ao no co)) M) (hok : MetaOk M) (h : UpAt w u M (.slice af nf cf) (.slice ao no co) cb ib 1) :
    Calls Tryz.prog 13 #[.pointer (some ⟨u, 0, none⟩), .pointer (some ⟨b, 0, none⟩), .int .i64 now, .int .i64 grace] w (UpPost w u b f c mb M (.slice af nf cf) (.slice ao no co) cb ib 1 now Q o) := by
  have cu := h.cells
  have lu := lt_of_at h
  have Hd := Lib.hid (upDone_spec2 w u M _ _ cb ib 1 h)
  have Hl := late_spec w M.id now grace hnow
  rw [hl] at Hl
  have HL := Lib.hid Hl
  have H := Lib.hid (And.intro h (And.intro hb (And.intro hM (And.intro hok hu))))
  have hx0 := ix3_0
  have hx1 := ix3_1
  have hx2 := ix3_2
  clear h Hl hl hb hM hok hu
  go_enter Tryz.func13, Tryz.ntmps13
  go_wp2_with fail
  refine Hd.out.mono ?_
  rintro e w2 ⟨rfl, rfl⟩
  go_wp2_with fail
  refine HL.out.mono ?_
  rintro e w3 ⟨rfl, rfl⟩
  go_upto_region 7 with fail
  obtain ⟨X0, hX0⟩ : ∃ X0, X0 = w.drew := ⟨_, rfl⟩
  have kX : Keeps [] w X0 := by rw [hX0]; exact (Keeps.refl [] _).drew
  have hUX : UpAt X0 u M (.slice af nf cf) (.slice ao no co) cb ib 1 := kX.at_ H.out.1 (by simp)
  have cX := hUX.cells
  have D0 : ∀ s : Kept X0, s.val.cell? ⟨u, 0, none⟩ = some (.string M.id) := keptCell (by rw [cX]; rfl)
  have D1 : ∀ s : Kept X0, s.val.cell? ⟨u, 1, none⟩ = some (.int .i64 M.mn) := keptCell (by rw [cX]; rfl)
  have D2 : ∀ s : Kept X0, s.val.cell? ⟨u, 2, none⟩ = some (.int .i64 M.mx) := keptCell (by rw [cX]; rfl)
  have D3 : ∀ s : Kept X0, s.val.cell? ⟨u, 3, none⟩ = some (.int .i64 M.level) := keptCell (by rw [cX]; rfl)
  have D4 : ∀ s : Kept X0, s.val.cell? ⟨u, 4, none⟩ = some (.int .i64 M.series) := keptCell (by rw [cX]; rfl)
  have D5 : ∀ s : Kept X0, s.val.cell? ⟨u, 5, none⟩ = some (.int .i64 M.samples) := keptCell (by rw [cX]; rfl)
  have D6 : ∀ s : Kept X0, s.val.cell? ⟨u, 6, none⟩ = some (.slice af nf cf) := keptCell (by rw [cX]; rfl)
  have D7 : ∀ s : Kept X0, s.val.cell? ⟨u, 7, none⟩ = some (.slice ao no co) := keptCell (by rw [cX]; rfl)
  have D8 : ∀ s : Kept X0, s.val.cell? ⟨u, 8, none⟩ = some (.string cb) := keptCell (by rw [cX]; rfl)
  have D9 : ∀ s : Kept X0, s.val.cell? ⟨u, 9, none⟩ = some (.string ib) := keptCell (by rw [cX]; rfl)
  have D10 : ∀ s : Kept X0, s.val.cell? ⟨u, 10, none⟩ = some (.int .i64 1) := keptCell (by rw [cX]; rfl)
  have HX := Lib.hid (And.intro hX0 kX)
  have HE := Lib.hid (metaEnc_spec B X0 _ M (H.out.2.2.1.same kX) H.out.2.2.2.1)
  clear cu lu cX hUX kX hX0
  refine wp_region_held_drew (S := KeptS X0) (by kernel_rfl) (by rw [← HX.out.1]; exact keptS (Keeps.refl _ _)) (fun hS => ?_)
  rw [← HX.out.1] at hS ⊢
  refine wpAnyH_take (i := 0) (v := ?_) rfl (by kernel_rfl) (by kernel_rfl) (by kernel_rfl) (fun _ _ _ h => h) (Or.inl ⟨by rfl, ?_⟩) (by assumption) ?_
  rotate_left
  · intro w' s1; obtain ⟨s, rfl⟩ := s1; go_simp; (try with_reducible rfl)
  simp only [Act.put, List.getElem_toArray, List.getElem_cons_succ, List.getElem_cons_zero, List.setIfInBounds_toArray, List.set_cons_zero, List.set_cons_succ]
  refine wpAnyH_take (i := 1) (v := ?_) rfl (by kernel_rfl) (by kernel_rfl) (by kernel_rfl) (fun _ _ _ h => h) (Or.inl ⟨by rfl, ?_⟩) (by assumption) ?_
  rotate_left
  · intro w' s1; obtain ⟨s, rfl⟩ := s1; go_simp; (try with_reducible rfl)
  simp only [Act.put, List.getElem_toArray, List.getElem_cons_succ, List.getElem_cons_zero, List.setIfInBounds_toArray, List.set_cons_zero, List.set_cons_succ]
  refine wpAnyH_take (i := 2) (v := ?_) rfl (by kernel_rfl) (by kernel_rfl) (by kernel_rfl) (fun _ _ _ h => h) (Or.inl ⟨by rfl, ?_⟩) (by assumption) ?_
  rotate_left
  · intro w' s1; obtain ⟨s, rfl⟩ := s1; go_simp; (try with_reducible rfl)
  simp only [Act.put, List.getElem_toArray, List.getElem_cons_succ, List.getElem_cons_zero, List.setIfInBounds_toArray, List.set_cons_zero, List.set_cons_succ]
  refine wpAnyH_take (i := 3) (v := ?_) rfl (by kernel_rfl) (by kernel_rfl) (by kernel_rfl) (fun _ _ _ h => h) (Or.inl ⟨by rfl, ?_⟩) (by assumption) ?_
  rotate_left
  · intro w' s1; obtain ⟨s, rfl⟩ := s1; go_simp; (try with_reducible rfl)
  simp only [Act.put, List.getElem_toArray, List.getElem_cons_succ, List.getElem_cons_zero, List.setIfInBounds_toArray, List.set_cons_zero, List.set_cons_succ]
  refine wpAnyH_take (i := 4) (v := ?_) rfl (by kernel_rfl) (by kernel_rfl) (by kernel_rfl) (fun _ _ _ h => h) (Or.inl ⟨by rfl, ?_⟩) (by assumption) ?_
  rotate_left
  · intro w' s1; obtain ⟨s, rfl⟩ := s1; go_simp; (try with_reducible rfl)
  simp only [Act.put, List.getElem_toArray, List.getElem_cons_succ, List.getElem_cons_zero, List.setIfInBounds_toArray, List.set_cons_zero, List.set_cons_succ]
  refine wpAnyH_take (i := 5) (v := ?_) rfl (by kernel_rfl) (by kernel_rfl) (by kernel_rfl) (fun _ _ _ h => h) (Or.inl ⟨by rfl, ?_⟩) (by assumption) ?_
  rotate_left
  · intro w' s1; obtain ⟨s, rfl⟩ := s1; go_simp; (try with_reducible rfl)
  simp only [Act.put, List.getElem_toArray, List.getElem_cons_succ, List.getElem_cons_zero, List.setIfInBounds_toArray, List.set_cons_zero, List.set_cons_succ]
  refine wpAnyH_take (i := 6) (v := ?_) rfl (by kernel_rfl) (by kernel_rfl) (by kernel_rfl) (fun _ _ _ h => h) (Or.inl ⟨by rfl, ?_⟩) (by assumption) ?_
  rotate_left
  · intro w' s1; obtain ⟨s, rfl⟩ := s1; go_simp; (try with_reducible rfl)
  simp only [Act.put, List.getElem_toArray, List.getElem_cons_succ, List.getElem_cons_zero, List.setIfInBounds_toArray, List.set_cons_zero, List.set_cons_succ]
  refine wpAnyH_take (i := 7) (v := ?_) rfl (by kernel_rfl) (by kernel_rfl) (by kernel_rfl) (fun _ _ _ h => h) (Or.inl ⟨by rfl, ?_⟩) (by assumption) ?_
  rotate_left
  · intro w' s1; obtain ⟨s, rfl⟩ := s1; go_simp; (try with_reducible rfl)
  simp only [Act.put, List.getElem_toArray, List.getElem_cons_succ, List.getElem_cons_zero, List.setIfInBounds_toArray, List.set_cons_zero, List.set_cons_succ]
  refine wpAnyH_take (i := 8) (v := ?_) rfl (by kernel_rfl) (by kernel_rfl) (by kernel_rfl) (fun _ _ _ h => h) (Or.inl ⟨by rfl, ?_⟩) (by assumption) ?_
  rotate_left
  · intro w' s1; obtain ⟨s, rfl⟩ := s1; go_simp; (try with_reducible rfl)
  simp only [Act.put, List.getElem_toArray, List.getElem_cons_succ, List.getElem_cons_zero, List.setIfInBounds_toArray, List.set_cons_zero, List.set_cons_succ]
  refine wpAnyH_take (i := 9) (v := ?_) rfl (by kernel_rfl) (by kernel_rfl) (by kernel_rfl) (fun _ _ _ h => h) (Or.inl ⟨by rfl, ?_⟩) (by assumption) ?_
  rotate_left
  · intro w' s1; obtain ⟨s, rfl⟩ := s1; go_simp; (try with_reducible rfl)
  simp only [Act.put, List.getElem_toArray, List.getElem_cons_succ, List.getElem_cons_zero, List.setIfInBounds_toArray, List.set_cons_zero, List.set_cons_succ]
  refine wpAnyH_take (i := 10) (v := ?_) rfl (by kernel_rfl) (by kernel_rfl) (by kernel_rfl) (fun _ _ _ h => h) (Or.inl ⟨by rfl, ?_⟩) (by assumption) ?_
  rotate_left
  · intro w' s1; obtain ⟨s, rfl⟩ := s1; go_simp; (try with_reducible rfl)
  simp only [Act.put, List.getElem_toArray, List.getElem_cons_succ, List.getElem_cons_zero, List.setIfInBounds_toArray, List.set_cons_zero, List.set_cons_succ]
  refine wpAnyH_take (i := 11) (v := ?_) rfl (by kernel_rfl) (by kernel_rfl) (by kernel_rfl) (fun _ _ _ h => h) (Or.inl ⟨by rfl, ?_⟩) (by assumption) ?_
  rotate_left
  · intro w' s1; obtain ⟨s, rfl⟩ := s1; go_simp; (try with_reducible rfl)
  simp only [Act.put, List.getElem_toArray, List.getElem_cons_succ, List.getElem_cons_zero, List.setIfInBounds_toArray, List.set_cons_zero, List.set_cons_succ]
  refine wpAnyH_take (i := 12) (v := ?_) rfl (by kernel_rfl) (by kernel_rfl) (by kernel_rfl) (fun _ _ _ h => h) (Or.inl ⟨by rfl, ?_⟩) (by assumption) ?_
  rotate_left
  · intro w' s1; obtain ⟨s, rfl⟩ := s1; go_simp; (try with_reducible rfl)
  simp only [Act.put, List.getElem_toArray, List.getElem_cons_succ, List.getElem_cons_zero, List.setIfInBounds_toArray, List.set_cons_zero, List.set_cons_succ]
  refine wpAnyH_take (i := 13) (v := ?_) rfl (by kernel_rfl) (by kernel_rfl) (by kernel_rfl) (fun _ _ _ h => h) (Or.inl ⟨by rfl, ?_⟩) (by assumption) ?_
  rotate_left
  · intro w' s1; obtain ⟨s, rfl⟩ := s1; go_simp; (try with_reducible rfl)
  simp only [Act.put, List.getElem_toArray, List.getElem_cons_succ, List.getElem_cons_zero, List.setIfInBounds_toArray, List.set_cons_zero, List.set_cons_succ]
  refine wpAnyH_take (i := 14) (v := ?_) rfl (by kernel_rfl) (by kernel_rfl) (by kernel_rfl) (fun _ _ _ h => h) (Or.inl ⟨by rfl, ?_⟩) (by assumption) ?_
  rotate_left
  · intro w' s1; obtain ⟨s, rfl⟩ := s1; go_simp; (try with_reducible rfl)
  simp only [Act.put, List.getElem_toArray, List.getElem_cons_succ, List.getElem_cons_zero, List.setIfInBounds_toArray, List.set_cons_zero, List.set_cons_succ]
  refine wpAnyH_take (i := 17) (v := ?_) rfl (by kernel_rfl) (by kernel_rfl) (by kernel_rfl) (fun _ _ _ h => h) (Or.inl ⟨by rfl, ?_⟩) (by assumption) ?_
  rotate_left
  · intro w' s1; obtain ⟨s, rfl⟩ := s1; go_simp; (try with_reducible rfl)
  simp only [Act.put, List.getElem_toArray, List.getElem_cons_succ, List.getElem_cons_zero, List.setIfInBounds_toArray, List.set_cons_zero, List.set_cons_succ]
  refine wpAnyH_take (i := 18) (v := ?_) rfl (by kernel_rfl) (by kernel_rfl) (by kernel_rfl) (fun _ _ _ h => h) (Or.inl ⟨by rfl, ?_⟩) (by assumption) ?_
  rotate_left
  · intro w' s1; obtain ⟨s, rfl⟩ := s1; go_simp; (try with_reducible rfl)
  simp only [Act.put, List.getElem_toArray, List.getElem_cons_succ, List.getElem_cons_zero, List.setIfInBounds_toArray, List.set_cons_zero, List.set_cons_succ]
  refine wpAnyH_take (i := 19) (v := ?_) rfl (by kernel_rfl) (by kernel_rfl) (by kernel_rfl) (fun _ _ _ h => h) (Or.inl ⟨by rfl, ?_⟩) (by assumption) ?_
  rotate_left
  · intro w' s1; obtain ⟨s, rfl⟩ := s1; go_simp; (try with_reducible rfl)
  simp only [Act.put, List.getElem_toArray, List.getElem_cons_succ, List.getElem_cons_zero, List.setIfInBounds_toArray, List.set_cons_zero, List.set_cons_succ]
  refine wpAnyH_take (i := 20) (v := ?_) rfl (by kernel_rfl) (by kernel_rfl) (by kernel_rfl) (fun _ _ _ h => h) (Or.inl ⟨by rfl, ?_⟩) (by assumption) ?_
  rotate_left
  · intro w' s1; obtain ⟨s, rfl⟩ := s1; go_simp; (try with_reducible rfl)
  simp only [Act.put, List.getElem_toArray, List.getElem_cons_succ, List.getElem_cons_zero, List.setIfInBounds_toArray, List.set_cons_zero, List.set_cons_succ]
  refine wpAnyH_ready (rs := [15]) (by kernel_rfl) (by simp) ?_
  refine AllReadyH.cons rfl (fun K hK => ?_) AllReadyH.nil
  go_simp
  go_at_call 37
  refine HE.out.mono ?_
  rintro e A1 ⟨rfl, kA⟩
  rw [show (⟨(frameL 1 (metaL M)).toArray⟩ : ByteArray) = encM M from rfl]
  have HA := Lib.hid (HX.out.2.trans kA)
  have HkA := Lib.hid kA
  clear kA
  go_simp
  refine hK.out _ _ (keptS HkA.out) (fun hS => ?_)
  clear hK K
  try simp only [Act.put, List.getElem_toArray, List.getElem_cons_succ, List.getElem_cons_zero, List.setIfInBounds_toArray, List.set_cons_zero, List.set_cons_succ]
  generalize hem : encM M = em
  have Hem := Lib.hid hem
  clear hem
  refine wpAnyH_take (i := 16) (v := ?_) rfl (by kernel_rfl) (by kernel_rfl) (by kernel_rfl) (fun _ _ _ h => h) (Or.inl ⟨by rfl, ?_⟩) (by assumption) ?_
  rotate_left
  · intro w' s1; obtain ⟨s, rfl⟩ := s1; go_simp; (try with_reducible rfl)
  simp only [Act.put, List.getElem_toArray, List.getElem_cons_succ, List.getElem_cons_zero, List.setIfInBounds_toArray, List.set_cons_zero, List.set_cons_succ]
  refine wpAnyH_take (i := 21) (v := ?_) rfl (by kernel_rfl) (by kernel_rfl) (by kernel_rfl) (fun _ _ _ h => h) (Or.inl ⟨by rfl, ?_⟩) (by assumption) ?_
  rotate_left
  · intro w' s1; obtain ⟨s, rfl⟩ := s1; go_simp; (try with_reducible rfl)
  simp only [Act.put, List.getElem_toArray, List.getElem_cons_succ, List.getElem_cons_zero, List.setIfInBounds_toArray, List.set_cons_zero, List.set_cons_succ]
  refine wpAnyH_ready (rs := [22]) (by kernel_rfl) (by simp) ?_
  refine AllReadyH.cons rfl (fun K hK => ?_) AllReadyH.nil
  go_simp
  go_simp
  refine hK.out _ _ (keptS HkA.out) (fun hS => ?_)
  clear hK K
  try simp only [Act.put, List.getElem_toArray, List.getElem_cons_succ, List.getElem_cons_zero, List.setIfInBounds_toArray, List.set_cons_zero, List.set_cons_succ]
  refine wpAnyH_done (by kernel_rfl) ?_ _
  clear D0 D1 D2 D3 D4 D5 D6 D7 D8 D9 D10 hS
  have hid16 := id16 H.out.2.2.2.1.id
  go_wp2_with fail
  refine (object_spec A1 M.id (partN 1) (by omega) (by decide)).mono ?_
  rintro e A2 ⟨rfl, rfl⟩
  have hnz : (objectB M.id (partN 1)).size = 17 + (partN 1).size := by
    unfold objectB
    rw [ByteArray.size_append, ByteArray.size_append, hid16]
    rfl
  have hnz2 : (partN 1).size ≤ 6 := by decide
  have hUA : UpAt A1 u M (.slice af nf cf) (.slice ao no co) cb ib 1 := HA.out.at_ H.out.1 (by simp)
  have hbA := H.out.2.1.keep HA.out (by simp) (by simp) (by simp) (by simp)
  have HB := Lib.hid (And.intro hUA hbA)
  generalize hnm : objectB M.id (partN 1) = nm at hnz ⊢
  have Hnm := Lib.hid hnm
  clear hUA hbA hnm hx0 hx1 hx2
  go_wp2_with fail
  refine (put_spec A1 b f c mb armed Q o HB.out.2 nm ib now (by omega) (by omega)).mono ?_
  rintro e A3 ⟨rfl, hb3, k3⟩
  have hU3 : UpAt A3 u M (.slice af nf cf) (.slice ao no co) cb ib 1 := k3.at_ HB.out.1 (by have := H.out.2.2.2.2; simp only [List.mem_cons, not_or] at this ⊢; exact ⟨this.1, this.2.1, this.2.2.1, by simp⟩)
  have H3 := Lib.hid (And.intro hb3 (And.intro hU3 ((HA.out.mono (by simp)).trans k3)))
  have cu := hU3.cells
  have fu := free_at hU3
  have lu := lt_of_at hU3
  clear hb3 k3 hU3
  by_cases hio : ioErr Q = 0
  · have HIO := Lib.hid hio
    rw [hio]
    clear hio
    go_wp2_with fail
    go_ret
    have hst := heap_cell_same (i := 10) H3.out.2.1 (.int .i64 (1 + 1))
    have kst : Keeps [f, c, mb, u] A3 (A3.setCell ⟨u, 10, none⟩ (.int .i64 (1 + 1))) := (Keeps.refl _ _).setCell (.inl (by simp)) _
    have kst1 : Keeps [u] A3 (A3.setCell ⟨u, 10, none⟩ (.int .i64 (1 + 1))) := (Keeps.refl _ _).setCell (.inl (by simp)) _
    have hu := H.out.2.2.2.2
    simp only [List.mem_cons, not_or] at hu
    refine ⟨by rw [HIO.out]; rfl, ?_, ?_, (H3.out.2.2.mono (by simp)).trans kst⟩
    · have hb9 := H3.out.1.keep kst1 (by simp; exact Ne.symm hu.2.2.2.1) (by simp; exact Ne.symm hu.1) (by simp; exact Ne.symm hu.2.1) (by simp; exact Ne.symm hu.2.2.1)
      rw [← Hnm.out] at hb9
      exact hb9
    · rw [if_pos HIO.out]
      exact hst
  · have HIO := Lib.hid hio
    go_wp2_with fail
    go_ret
    refine ⟨rfl, ?_, ?_, H3.out.2.2.mono (by simp)⟩
    · have hb9 := H3.out.1
      rw [← Hnm.out] at hb9
      exact hb9
    · rw [if_neg HIO.out]
      exact H3.out.2.1

set_option linter.unusedSimpArgs false in
set_option maxRecDepth 100000 in
set_option maxHeartbeats 2000000 in
theorem upStep2_spec (w : World) (u b f c mb B : Nat) (M : MetaS) (af ao : Option Addr) (nf cf no co : Nat) (cb ib : ByteArray) (now grace : Int) (hnow : -1000000000000000 ≤ now ∧ now ≤ 1000000000000000) (hl : lateB (parseL M.id.data.toList) now grace = false) (armed : Bool) (Q : List (Int × Bool)) (o : List (ByteArray × Ob)) (hb : BucketAt w b f c mb armed Q o) (hu : u ∉ [f, c, mb, b]) (hM : MetaV B w (metaCs M (.slice af nf cf) (.slice ao no co)) M) (hok : MetaOk M) (h : UpAt w u M (.slice af nf cf) (.slice ao no co) cb ib 2) :
    Calls Tryz.prog 13 #[.pointer (some ⟨u, 0, none⟩), .pointer (some ⟨b, 0, none⟩), .int .i64 now, .int .i64 grace] w (UpPost w u b f c mb M (.slice af nf cf) (.slice ao no co) cb ib 2 now Q o) := by
  have cu := h.cells
  have lu := lt_of_at h
  have Hd := Lib.hid (upDone_spec2 w u M _ _ cb ib 2 h)
  have Hl := late_spec w M.id now grace hnow
  rw [hl] at Hl
  have HL := Lib.hid Hl
  have H := Lib.hid (And.intro h (And.intro hb (And.intro hM (And.intro hok hu))))
  have hx0 := ix3_0
  have hx1 := ix3_1
  have hx2 := ix3_2
  clear h Hl hl hb hM hok hu
  go_enter Tryz.func13, Tryz.ntmps13
  go_wp2_with fail
  refine Hd.out.mono ?_
  rintro e w2 ⟨rfl, rfl⟩
  go_wp2_with fail
  refine HL.out.mono ?_
  rintro e w3 ⟨rfl, rfl⟩
  go_upto_region 7 with fail
  obtain ⟨X0, hX0⟩ : ∃ X0, X0 = w.drew := ⟨_, rfl⟩
  have kX : Keeps [] w X0 := by rw [hX0]; exact (Keeps.refl [] _).drew
  have hUX : UpAt X0 u M (.slice af nf cf) (.slice ao no co) cb ib 2 := kX.at_ H.out.1 (by simp)
  have cX := hUX.cells
  have D0 : ∀ s : Kept X0, s.val.cell? ⟨u, 0, none⟩ = some (.string M.id) := keptCell (by rw [cX]; rfl)
  have D1 : ∀ s : Kept X0, s.val.cell? ⟨u, 1, none⟩ = some (.int .i64 M.mn) := keptCell (by rw [cX]; rfl)
  have D2 : ∀ s : Kept X0, s.val.cell? ⟨u, 2, none⟩ = some (.int .i64 M.mx) := keptCell (by rw [cX]; rfl)
  have D3 : ∀ s : Kept X0, s.val.cell? ⟨u, 3, none⟩ = some (.int .i64 M.level) := keptCell (by rw [cX]; rfl)
  have D4 : ∀ s : Kept X0, s.val.cell? ⟨u, 4, none⟩ = some (.int .i64 M.series) := keptCell (by rw [cX]; rfl)
  have D5 : ∀ s : Kept X0, s.val.cell? ⟨u, 5, none⟩ = some (.int .i64 M.samples) := keptCell (by rw [cX]; rfl)
  have D6 : ∀ s : Kept X0, s.val.cell? ⟨u, 6, none⟩ = some (.slice af nf cf) := keptCell (by rw [cX]; rfl)
  have D7 : ∀ s : Kept X0, s.val.cell? ⟨u, 7, none⟩ = some (.slice ao no co) := keptCell (by rw [cX]; rfl)
  have D8 : ∀ s : Kept X0, s.val.cell? ⟨u, 8, none⟩ = some (.string cb) := keptCell (by rw [cX]; rfl)
  have D9 : ∀ s : Kept X0, s.val.cell? ⟨u, 9, none⟩ = some (.string ib) := keptCell (by rw [cX]; rfl)
  have D10 : ∀ s : Kept X0, s.val.cell? ⟨u, 10, none⟩ = some (.int .i64 2) := keptCell (by rw [cX]; rfl)
  have HX := Lib.hid (And.intro hX0 kX)
  have HE := Lib.hid (metaEnc_spec B X0 _ M (H.out.2.2.1.same kX) H.out.2.2.2.1)
  clear cu lu cX hUX kX hX0
  refine wp_region_held_drew (S := KeptS X0) (by kernel_rfl) (by rw [← HX.out.1]; exact keptS (Keeps.refl _ _)) (fun hS => ?_)
  rw [← HX.out.1] at hS ⊢
  refine wpAnyH_take (i := 0) (v := ?_) rfl (by kernel_rfl) (by kernel_rfl) (by kernel_rfl) (fun _ _ _ h => h) (Or.inl ⟨by rfl, ?_⟩) (by assumption) ?_
  rotate_left
  · intro w' s1; obtain ⟨s, rfl⟩ := s1; go_simp; (try with_reducible rfl)
  simp only [Act.put, List.getElem_toArray, List.getElem_cons_succ, List.getElem_cons_zero, List.setIfInBounds_toArray, List.set_cons_zero, List.set_cons_succ]
  refine wpAnyH_take (i := 1) (v := ?_) rfl (by kernel_rfl) (by kernel_rfl) (by kernel_rfl) (fun _ _ _ h => h) (Or.inl ⟨by rfl, ?_⟩) (by assumption) ?_
  rotate_left
  · intro w' s1; obtain ⟨s, rfl⟩ := s1; go_simp; (try with_reducible rfl)
  simp only [Act.put, List.getElem_toArray, List.getElem_cons_succ, List.getElem_cons_zero, List.setIfInBounds_toArray, List.set_cons_zero, List.set_cons_succ]
  refine wpAnyH_take (i := 2) (v := ?_) rfl (by kernel_rfl) (by kernel_rfl) (by kernel_rfl) (fun _ _ _ h => h) (Or.inl ⟨by rfl, ?_⟩) (by assumption) ?_
  rotate_left
  · intro w' s1; obtain ⟨s, rfl⟩ := s1; go_simp; (try with_reducible rfl)
  simp only [Act.put, List.getElem_toArray, List.getElem_cons_succ, List.getElem_cons_zero, List.setIfInBounds_toArray, List.set_cons_zero, List.set_cons_succ]
  refine wpAnyH_take (i := 3) (v := ?_) rfl (by kernel_rfl) (by kernel_rfl) (by kernel_rfl) (fun _ _ _ h => h) (Or.inl ⟨by rfl, ?_⟩) (by assumption) ?_
  rotate_left
  · intro w' s1; obtain ⟨s, rfl⟩ := s1; go_simp; (try with_reducible rfl)
  simp only [Act.put, List.getElem_toArray, List.getElem_cons_succ, List.getElem_cons_zero, List.setIfInBounds_toArray, List.set_cons_zero, List.set_cons_succ]
  refine wpAnyH_take (i := 4) (v := ?_) rfl (by kernel_rfl) (by kernel_rfl) (by kernel_rfl) (fun _ _ _ h => h) (Or.inl ⟨by rfl, ?_⟩) (by assumption) ?_
  rotate_left
  · intro w' s1; obtain ⟨s, rfl⟩ := s1; go_simp; (try with_reducible rfl)
  simp only [Act.put, List.getElem_toArray, List.getElem_cons_succ, List.getElem_cons_zero, List.setIfInBounds_toArray, List.set_cons_zero, List.set_cons_succ]
  refine wpAnyH_take (i := 5) (v := ?_) rfl (by kernel_rfl) (by kernel_rfl) (by kernel_rfl) (fun _ _ _ h => h) (Or.inl ⟨by rfl, ?_⟩) (by assumption) ?_
  rotate_left
  · intro w' s1; obtain ⟨s, rfl⟩ := s1; go_simp; (try with_reducible rfl)
  simp only [Act.put, List.getElem_toArray, List.getElem_cons_succ, List.getElem_cons_zero, List.setIfInBounds_toArray, List.set_cons_zero, List.set_cons_succ]
  refine wpAnyH_take (i := 6) (v := ?_) rfl (by kernel_rfl) (by kernel_rfl) (by kernel_rfl) (fun _ _ _ h => h) (Or.inl ⟨by rfl, ?_⟩) (by assumption) ?_
  rotate_left
  · intro w' s1; obtain ⟨s, rfl⟩ := s1; go_simp; (try with_reducible rfl)
  simp only [Act.put, List.getElem_toArray, List.getElem_cons_succ, List.getElem_cons_zero, List.setIfInBounds_toArray, List.set_cons_zero, List.set_cons_succ]
  refine wpAnyH_take (i := 7) (v := ?_) rfl (by kernel_rfl) (by kernel_rfl) (by kernel_rfl) (fun _ _ _ h => h) (Or.inl ⟨by rfl, ?_⟩) (by assumption) ?_
  rotate_left
  · intro w' s1; obtain ⟨s, rfl⟩ := s1; go_simp; (try with_reducible rfl)
  simp only [Act.put, List.getElem_toArray, List.getElem_cons_succ, List.getElem_cons_zero, List.setIfInBounds_toArray, List.set_cons_zero, List.set_cons_succ]
  refine wpAnyH_take (i := 8) (v := ?_) rfl (by kernel_rfl) (by kernel_rfl) (by kernel_rfl) (fun _ _ _ h => h) (Or.inl ⟨by rfl, ?_⟩) (by assumption) ?_
  rotate_left
  · intro w' s1; obtain ⟨s, rfl⟩ := s1; go_simp; (try with_reducible rfl)
  simp only [Act.put, List.getElem_toArray, List.getElem_cons_succ, List.getElem_cons_zero, List.setIfInBounds_toArray, List.set_cons_zero, List.set_cons_succ]
  refine wpAnyH_take (i := 9) (v := ?_) rfl (by kernel_rfl) (by kernel_rfl) (by kernel_rfl) (fun _ _ _ h => h) (Or.inl ⟨by rfl, ?_⟩) (by assumption) ?_
  rotate_left
  · intro w' s1; obtain ⟨s, rfl⟩ := s1; go_simp; (try with_reducible rfl)
  simp only [Act.put, List.getElem_toArray, List.getElem_cons_succ, List.getElem_cons_zero, List.setIfInBounds_toArray, List.set_cons_zero, List.set_cons_succ]
  refine wpAnyH_take (i := 10) (v := ?_) rfl (by kernel_rfl) (by kernel_rfl) (by kernel_rfl) (fun _ _ _ h => h) (Or.inl ⟨by rfl, ?_⟩) (by assumption) ?_
  rotate_left
  · intro w' s1; obtain ⟨s, rfl⟩ := s1; go_simp; (try with_reducible rfl)
  simp only [Act.put, List.getElem_toArray, List.getElem_cons_succ, List.getElem_cons_zero, List.setIfInBounds_toArray, List.set_cons_zero, List.set_cons_succ]
  refine wpAnyH_take (i := 11) (v := ?_) rfl (by kernel_rfl) (by kernel_rfl) (by kernel_rfl) (fun _ _ _ h => h) (Or.inl ⟨by rfl, ?_⟩) (by assumption) ?_
  rotate_left
  · intro w' s1; obtain ⟨s, rfl⟩ := s1; go_simp; (try with_reducible rfl)
  simp only [Act.put, List.getElem_toArray, List.getElem_cons_succ, List.getElem_cons_zero, List.setIfInBounds_toArray, List.set_cons_zero, List.set_cons_succ]
  refine wpAnyH_take (i := 12) (v := ?_) rfl (by kernel_rfl) (by kernel_rfl) (by kernel_rfl) (fun _ _ _ h => h) (Or.inl ⟨by rfl, ?_⟩) (by assumption) ?_
  rotate_left
  · intro w' s1; obtain ⟨s, rfl⟩ := s1; go_simp; (try with_reducible rfl)
  simp only [Act.put, List.getElem_toArray, List.getElem_cons_succ, List.getElem_cons_zero, List.setIfInBounds_toArray, List.set_cons_zero, List.set_cons_succ]
  refine wpAnyH_take (i := 13) (v := ?_) rfl (by kernel_rfl) (by kernel_rfl) (by kernel_rfl) (fun _ _ _ h => h) (Or.inl ⟨by rfl, ?_⟩) (by assumption) ?_
  rotate_left
  · intro w' s1; obtain ⟨s, rfl⟩ := s1; go_simp; (try with_reducible rfl)
  simp only [Act.put, List.getElem_toArray, List.getElem_cons_succ, List.getElem_cons_zero, List.setIfInBounds_toArray, List.set_cons_zero, List.set_cons_succ]
  refine wpAnyH_take (i := 14) (v := ?_) rfl (by kernel_rfl) (by kernel_rfl) (by kernel_rfl) (fun _ _ _ h => h) (Or.inl ⟨by rfl, ?_⟩) (by assumption) ?_
  rotate_left
  · intro w' s1; obtain ⟨s, rfl⟩ := s1; go_simp; (try with_reducible rfl)
  simp only [Act.put, List.getElem_toArray, List.getElem_cons_succ, List.getElem_cons_zero, List.setIfInBounds_toArray, List.set_cons_zero, List.set_cons_succ]
  refine wpAnyH_take (i := 17) (v := ?_) rfl (by kernel_rfl) (by kernel_rfl) (by kernel_rfl) (fun _ _ _ h => h) (Or.inl ⟨by rfl, ?_⟩) (by assumption) ?_
  rotate_left
  · intro w' s1; obtain ⟨s, rfl⟩ := s1; go_simp; (try with_reducible rfl)
  simp only [Act.put, List.getElem_toArray, List.getElem_cons_succ, List.getElem_cons_zero, List.setIfInBounds_toArray, List.set_cons_zero, List.set_cons_succ]
  refine wpAnyH_take (i := 18) (v := ?_) rfl (by kernel_rfl) (by kernel_rfl) (by kernel_rfl) (fun _ _ _ h => h) (Or.inl ⟨by rfl, ?_⟩) (by assumption) ?_
  rotate_left
  · intro w' s1; obtain ⟨s, rfl⟩ := s1; go_simp; (try with_reducible rfl)
  simp only [Act.put, List.getElem_toArray, List.getElem_cons_succ, List.getElem_cons_zero, List.setIfInBounds_toArray, List.set_cons_zero, List.set_cons_succ]
  refine wpAnyH_take (i := 19) (v := ?_) rfl (by kernel_rfl) (by kernel_rfl) (by kernel_rfl) (fun _ _ _ h => h) (Or.inl ⟨by rfl, ?_⟩) (by assumption) ?_
  rotate_left
  · intro w' s1; obtain ⟨s, rfl⟩ := s1; go_simp; (try with_reducible rfl)
  simp only [Act.put, List.getElem_toArray, List.getElem_cons_succ, List.getElem_cons_zero, List.setIfInBounds_toArray, List.set_cons_zero, List.set_cons_succ]
  refine wpAnyH_take (i := 20) (v := ?_) rfl (by kernel_rfl) (by kernel_rfl) (by kernel_rfl) (fun _ _ _ h => h) (Or.inl ⟨by rfl, ?_⟩) (by assumption) ?_
  rotate_left
  · intro w' s1; obtain ⟨s, rfl⟩ := s1; go_simp; (try with_reducible rfl)
  simp only [Act.put, List.getElem_toArray, List.getElem_cons_succ, List.getElem_cons_zero, List.setIfInBounds_toArray, List.set_cons_zero, List.set_cons_succ]
  refine wpAnyH_ready (rs := [15]) (by kernel_rfl) (by simp) ?_
  refine AllReadyH.cons rfl (fun K hK => ?_) AllReadyH.nil
  go_simp
  go_at_call 37
  refine HE.out.mono ?_
  rintro e A1 ⟨rfl, kA⟩
  rw [show (⟨(frameL 1 (metaL M)).toArray⟩ : ByteArray) = encM M from rfl]
  have HA := Lib.hid (HX.out.2.trans kA)
  have HkA := Lib.hid kA
  clear kA
  go_simp
  refine hK.out _ _ (keptS HkA.out) (fun hS => ?_)
  clear hK K
  try simp only [Act.put, List.getElem_toArray, List.getElem_cons_succ, List.getElem_cons_zero, List.setIfInBounds_toArray, List.set_cons_zero, List.set_cons_succ]
  generalize hem : encM M = em
  have Hem := Lib.hid hem
  clear hem
  refine wpAnyH_take (i := 16) (v := ?_) rfl (by kernel_rfl) (by kernel_rfl) (by kernel_rfl) (fun _ _ _ h => h) (Or.inl ⟨by rfl, ?_⟩) (by assumption) ?_
  rotate_left
  · intro w' s1; obtain ⟨s, rfl⟩ := s1; go_simp; (try with_reducible rfl)
  simp only [Act.put, List.getElem_toArray, List.getElem_cons_succ, List.getElem_cons_zero, List.setIfInBounds_toArray, List.set_cons_zero, List.set_cons_succ]
  refine wpAnyH_take (i := 21) (v := ?_) rfl (by kernel_rfl) (by kernel_rfl) (by kernel_rfl) (fun _ _ _ h => h) (Or.inl ⟨by rfl, ?_⟩) (by assumption) ?_
  rotate_left
  · intro w' s1; obtain ⟨s, rfl⟩ := s1; go_simp; (try with_reducible rfl)
  simp only [Act.put, List.getElem_toArray, List.getElem_cons_succ, List.getElem_cons_zero, List.setIfInBounds_toArray, List.set_cons_zero, List.set_cons_succ]
  refine wpAnyH_ready (rs := [22]) (by kernel_rfl) (by simp) ?_
  refine AllReadyH.cons rfl (fun K hK => ?_) AllReadyH.nil
  go_simp
  go_simp
  refine hK.out _ _ (keptS HkA.out) (fun hS => ?_)
  clear hK K
  try simp only [Act.put, List.getElem_toArray, List.getElem_cons_succ, List.getElem_cons_zero, List.setIfInBounds_toArray, List.set_cons_zero, List.set_cons_succ]
  refine wpAnyH_done (by kernel_rfl) ?_ _
  clear D0 D1 D2 D3 D4 D5 D6 D7 D8 D9 D10 hS
  have hid16 := id16 H.out.2.2.2.1.id
  go_wp2_with fail
  refine (object_spec A1 M.id (partN 2) (by omega) (by decide)).mono ?_
  rintro e A2 ⟨rfl, rfl⟩
  have hnz : (objectB M.id (partN 2)).size = 17 + (partN 2).size := by
    unfold objectB
    rw [ByteArray.size_append, ByteArray.size_append, hid16]
    rfl
  have hnz2 : (partN 2).size ≤ 6 := by decide
  have hUA : UpAt A1 u M (.slice af nf cf) (.slice ao no co) cb ib 2 := HA.out.at_ H.out.1 (by simp)
  have hbA := H.out.2.1.keep HA.out (by simp) (by simp) (by simp) (by simp)
  have HB := Lib.hid (And.intro hUA hbA)
  generalize hnm : objectB M.id (partN 2) = nm at hnz ⊢
  have Hnm := Lib.hid hnm
  clear hUA hbA hnm hx0 hx1 hx2
  go_wp2_with fail
  refine (put_spec A1 b f c mb armed Q o HB.out.2 nm em now (by omega) (by omega)).mono ?_
  rintro e A3 ⟨rfl, hb3, k3⟩
  have hU3 : UpAt A3 u M (.slice af nf cf) (.slice ao no co) cb ib 2 := k3.at_ HB.out.1 (by have := H.out.2.2.2.2; simp only [List.mem_cons, not_or] at this ⊢; exact ⟨this.1, this.2.1, this.2.2.1, by simp⟩)
  have H3 := Lib.hid (And.intro hb3 (And.intro hU3 ((HA.out.mono (by simp)).trans k3)))
  have cu := hU3.cells
  have fu := free_at hU3
  have lu := lt_of_at hU3
  clear hb3 k3 hU3
  by_cases hio : ioErr Q = 0
  · have HIO := Lib.hid hio
    rw [hio]
    clear hio
    go_wp2_with fail
    go_ret
    have hst := heap_cell_same (i := 10) H3.out.2.1 (.int .i64 (2 + 1))
    have kst : Keeps [f, c, mb, u] A3 (A3.setCell ⟨u, 10, none⟩ (.int .i64 (2 + 1))) := (Keeps.refl _ _).setCell (.inl (by simp)) _
    have kst1 : Keeps [u] A3 (A3.setCell ⟨u, 10, none⟩ (.int .i64 (2 + 1))) := (Keeps.refl _ _).setCell (.inl (by simp)) _
    have hu := H.out.2.2.2.2
    simp only [List.mem_cons, not_or] at hu
    refine ⟨by rw [HIO.out]; rfl, ?_, ?_, (H3.out.2.2.mono (by simp)).trans kst⟩
    · have hb9 := H3.out.1.keep kst1 (by simp; exact Ne.symm hu.2.2.2.1) (by simp; exact Ne.symm hu.1) (by simp; exact Ne.symm hu.2.1) (by simp; exact Ne.symm hu.2.2.1)
      rw [← Hnm.out, ← Hem.out] at hb9
      exact hb9
    · rw [if_pos HIO.out]
      exact hst
  · have HIO := Lib.hid hio
    go_wp2_with fail
    go_ret
    refine ⟨rfl, ?_, ?_, H3.out.2.2.mono (by simp)⟩
    · have hb9 := H3.out.1
      rw [← Hnm.out, ← Hem.out] at hb9
      exact hb9
    · rw [if_neg HIO.out]
      exact H3.out.2.1
end Go.Proofs.YtaebpbkiaihhdaaGreatDoor
