/-
  The fuse of package disk: contracts of NewFuse, Arm, Clear, Try and Do over a queue of faults.
  Each holds for every world in which the fuse's blocks are laid as FuseQ says.

  The bucket of package bucket: contracts of New, Put, Delete, Get, Range, List, Look and Peek over a list of objects and a queue of faults.
  Each holds for every world in which the bucket's blocks are laid as BucketAt says.
-/
import Derived.Test.YtgcfkhcogllgfaaGreatDoorRows
import Derived.Test.YtgcfkhcogllgfaaGreatDoorBase
import Derived.Deep.Cut
import Derived.Deep.QuietTactic
import Derived.BigQuiet
import Derived.Lib.Hide
import Derived.Test.YtgcfkhcogllgfaaGreatDoorMap
import Derived.StillTailTactics
import Derived.BigRegion
namespace Go.Proofs.YtgcfkhcogllgfaaGreatDoor
set_option maxRecDepth 100000
set_option maxHeartbeats 1000000
open Go Go.RowKit Go.Conc
def encF (x : Int × Bool) : Value := .agg #[.int .i64 x.1, .bool x.2]
def okF (x : Int × Bool) : Prop := 0 ≤ x.1 ∧ x.1 ≤ 9223372036854775807
structure FuseAt (w : World) (f c : Nat) (now : Int × Bool) (armed : Bool) (wait : List (Int × Bool)) : Prop where
 cells : w.heap[f]? = some (.cells #[.chan (some c), .int .i64 now.1, .bool now.2, .bool armed] 198 (0, 0))
 chan : ∃ s r, w.heap[c]? = some (.chan 16 (wait.map encF).toArray false s r false)
 len : wait.length ≤ 16
 nowOk : okF now
 waitOk : ∀ x ∈ wait, okF x
def FuseQ (w : World) (f c : Nat) (armed : Bool) (Q : List (Int × Bool)) : Prop :=
 ∃ now wait, FuseAt w f c now armed wait ∧ Q = if armed then now :: wait else wait
theorem FuseQ.keep {w w' : World} {f c : Nat} {armed : Bool} {Q : List (Int × Bool)} {S : List Nat} (h : FuseQ w f c armed Q) (k : Keeps S w w') (hf : f ∉ S) (hc : c ∉ S) : FuseQ w' f c armed Q := by
 obtain ⟨now, wait, h, hQ⟩ := h
 obtain ⟨s, r, hch⟩ := h.chan
 exact ⟨now, wait, ⟨k.at_ h.cells hf, ⟨s, r, k.at_ hch hc⟩, h.len, h.nowOk, h.waitOk⟩, hQ⟩
theorem zeroFault (w : World) : (zeroValue 196).run Tryz.prog w = .ok (.agg #[.int .i64 0, .bool false]) w := by kernel_rfl
theorem info_fault : ∃ i, Tryz.prog.info? 196 = some i ∧ i.bytes = 16 := by
 have h : (Tryz.prog.info? 196).map (·.bytes) = some 16 := by kernel_rfl
 obtain ⟨i, hi, hb⟩ := Option.map_eq_some_iff.1 h
 exact ⟨i, hi, hb⟩
theorem mk_chan16 (w : World) : (Instr.makeChan 194 (.int .i64 16)).run Tryz.prog w = .ok (.chan (some w.heap.size)) (w.alloc (.chan 16 #[] false 0 0 false)) := by
 obtain ⟨i, hi, hb⟩ := info_fault
 simpa using run_makeChan (P := Tryz.prog) (w := w) Tryz.underlying194 hi .i64 16 (by omega) (by rw [hb]; omega)
def tryS : List (Int × Bool) → List (Int × Bool) × Bool × Bool × Bool
 | [] => ([], false, true, true)
 | (n, d) :: r => if 0 < n then ((n - 1, d) :: r, true, true, true) else (r, false, false, d)
def tryQ (Q : List (Int × Bool)) : List (Int × Bool) := (tryS Q).1
def tryArmed (Q : List (Int × Bool)) : Bool := (tryS Q).2.1
def tryWorks (Q : List (Int × Bool)) : Bool := (tryS Q).2.2.1
def tryDone (Q : List (Int × Bool)) : Bool := (tryS Q).2.2.2
theorem tryDone_of (Q : List (Int × Bool)) (h : tryWorks Q = true) : tryDone Q = true := by
 unfold tryWorks tryDone tryS at *
 split
 ·rfl
 ·split
  ·rfl
  ·rename_i hn
   simp [hn] at h
theorem newFuse_any (w : World) :
  Calls Tryz.prog 70 #[] w fun e w' => e = .returned (.pointer (some ⟨w.heap.size + 1, 0, none⟩)) ∧
   w' = (w.alloc (.chan 16 #[] false 0 0 false)).alloc (.cells #[.chan (some w.heap.size), .int .i64 0, .bool false, .bool false] 198) := by
 have hmk := mk_chan16
 go_enter Tryz.func70, Tryz.ntmps70
 go_wp2
 go_ret
 exact ⟨rfl, rfl⟩
theorem newFuse_spec (w : World) :
  Calls Tryz.prog 70 #[] w fun e w' => e = .returned (.pointer (some ⟨w.heap.size + 1, 0, none⟩)) ∧
   FuseQ w' (w.heap.size + 1) w.heap.size false [] ∧ Keeps [] w w' ∧ w'.heap.size = w.heap.size + 2 := by
 refine (newFuse_any w).mono ?_
 rintro e w' ⟨rfl, rfl⟩
 refine ⟨rfl, ⟨(0, false), [], ⟨?_, ⟨0, 0, ?_⟩, by simp, by simp [okF], by simp⟩, rfl⟩, ((Keeps.refl _ _).alloc _).alloc _, by simp⟩
 ·have := heap_new (w.alloc (.chan 16 #[] false 0 0 false)) (.cells #[.chan (some w.heap.size), .int .i64 0, .bool false, .bool false] 198)
  simpa using this
 ·exact heap_old (heap_new w _) _
def TryPost (w : World) (f c : Nat) (Q : List (Int × Bool)) (e : Ending) (w' : World) : Prop :=
 e = .returned (.tuple #[.bool (tryWorks Q), .bool (tryDone Q)]) ∧ FuseQ w' f c (tryArmed Q) (tryQ Q) ∧ Keeps [f, c] w w'
theorem FuseAt.setNow {w : World} {f c : Nat} {now : Int × Bool} {armed : Bool} {wait : List (Int × Bool)} (h : FuseAt w f c now armed wait) {n : Int} (hn : okF (n, now.2)) : FuseAt (w.setCell ⟨f, 1, none⟩ (.int .i64 n)) f c (n, now.2) armed wait := by
 obtain ⟨s, r, hch⟩ := h.chan
 exact ⟨heap_cell_same h.cells _, ⟨s, r, (heap_cell_other _ (ne_of_at hch h.cells (by simp))).trans hch⟩, h.len, hn, h.waitOk⟩
theorem FuseAt.setArmed {w : World} {f c : Nat} {now : Int × Bool} {armed : Bool} {wait : List (Int × Bool)} (h : FuseAt w f c now armed wait) (b : Bool) : FuseAt (w.setCell ⟨f, 3, none⟩ (.bool b)) f c now b wait := by
 obtain ⟨s, r, hch⟩ := h.chan
 exact ⟨heap_cell_same h.cells _, ⟨s, r, (heap_cell_other _ (ne_of_at hch h.cells (by simp))).trans hch⟩, h.len, h.nowOk, h.waitOk⟩
theorem FuseQ.of {w : World} {f c : Nat} {now : Int × Bool} {armed a : Bool} {wait Q : List (Int × Bool)} (h : FuseAt w f c now armed wait) (ha : a = armed) (hQ : Q = if armed then now :: wait else wait) : FuseQ w f c a Q := by
 subst ha
 exact ⟨now, wait, h, hQ⟩
theorem FuseAt.drewN {w : World} {f c : Nat} {now : Int × Bool} {armed : Bool} {wait : List (Int × Bool)} (h : FuseAt w f c now armed wait) (n : Nat) : FuseAt (w.drewN n) f c now armed wait := ⟨h.cells, h.chan, h.len, h.nowOk, h.waitOk⟩
theorem try_armed (w : World) (f c : Nat) (now : Int × Bool) (wait : List (Int × Bool)) (h : FuseAt w f c now true wait) :
  Calls Tryz.prog 101 #[.pointer (some ⟨f, 0, none⟩)] w (TryPost w f c (now :: wait)) := by
 have hc := cells_at h.cells
 have hf := free_at h.cells
 obtain ⟨hx, hx2⟩ := h.nowOk
 obtain ⟨x, d⟩ := now
 dsimp only at hx hx2 hc
 go_enter Tryz.func101, Tryz.ntmps101
 go_wp2
 ·go_ret2
  have hx : 0 < x := by assumption
  refine ⟨?_, ?_, ?_⟩
  ·simp [tryWorks, tryDone, tryS, hx]
  ·exact FuseQ.of (h.setNow (n := x - 1) ⟨by simp only; omega, by simp only; omega⟩) (by simp [tryArmed, tryS, hx]) (by simp [tryQ, tryS, hx])
  ·exact (Keeps.refl _ _).setCell (by simp) _
 ·go_quiet (fail)
  go_wp2
  have hx : ¬ 0 < x := by omega
  go_ret2
  refine ⟨?_, ?_, ?_⟩
  ·simp [tryWorks, tryDone, tryS, hx]
  ·exact FuseQ.of ((h.setArmed false).drewN _) (by simp [tryArmed, tryS, hx]) (by simp [tryQ, tryS, hx])
  ·exact ((Keeps.refl _ _).setCell (by simp) _).drewN _
theorem try_none (w : World) (f c : Nat) (now : Int × Bool) (h : FuseAt w f c now false []) :
  Calls Tryz.prog 101 #[.pointer (some ⟨f, 0, none⟩)] w (TryPost w f c []) := by
 have hc := cells_at h.cells
 have hf := free_at h.cells
 obtain ⟨s, r, hch⟩ := h.chan
 have hz := zeroFault
 go_enter Tryz.func101, Tryz.ntmps101
 go_upto_region 3 with (fail)
 refine wp_region_sel (cases := #[rcase c (.agg #[.int .i64 0, .bool false])]) (w₁ := w) rfl (by simp [go_sem, execOp, rcase, Act.eval, hz]) (fun fr cs es hst => step_lone_select_default hst hch) ?_
 go_wp2
 go_ret2
 refine ⟨rfl, FuseQ.of h rfl rfl, Keeps.refl _ _⟩
theorem FuseAt.take {w : World} {f c : Nat} {now x : Int × Bool} {wait : List (Int × Bool)} (h : FuseAt w f c now false (x :: wait)) (s r : Nat) (hch : w.heap[c]? = some (.chan 16 ((x :: wait).map encF).toArray false s r false)) :
  FuseAt ((((w.setChan c 16 ((wait.map encF).toArray) false s (r + 1) false).setCell ⟨f, 1, none⟩ (.int .i64 x.1)).setCell ⟨f, 2, none⟩ (.bool x.2)).setCell ⟨f, 3, none⟩ (.bool true)) f c x true wait := by
 have hne : f ≠ c := ne_of_at h.cells hch (by simp)
 have h0 : (w.setChan c 16 ((wait.map encF).toArray) false s (r + 1) false).heap[f]? = _ := (heap_set_other _ hne).trans h.cells
 have h1 := heap_cell_same (heap_cell_same (heap_cell_same h0 (i := 1) (.int .i64 x.1)) (i := 2) (.bool x.2)) (i := 3) (.bool true)
 refine ⟨by simpa using h1, ⟨s, r + 1, ?_⟩, ?_, h.waitOk x (by simp), fun y hy => h.waitOk y (by simp [hy])⟩
 ·rw [heap_cell_other _ hne.symm, heap_cell_other _ hne.symm, heap_cell_other _ hne.symm]
  exact heap_set_same hch _
 ·have := h.len
  simp at this
  omega
theorem try_some (w : World) (f c : Nat) (now x : Int × Bool) (wait : List (Int × Bool)) (h : FuseAt w f c now false (x :: wait)) :
  Calls Tryz.prog 101 #[.pointer (some ⟨f, 0, none⟩)] w (TryPost w f c (x :: wait)) := by
 have hc := cells_at h.cells
 have hf := free_at h.cells
 obtain ⟨s, r, hch⟩ := h.chan
 have hz := zeroFault
 have hne : f ≠ c := ne_of_at h.cells hch (by simp)
 have htake := h.take s r hch
 obtain ⟨W1, hW1⟩ : ∃ W1, W1 = w.setChan c 16 ((wait.map encF).toArray) false s (r + 1) false := ⟨_, rfl⟩
 have hK1 : Keeps [f, c] w W1 := by rw [hW1]; exact (Keeps.refl _ _).setChan (by simp) _ _ _ _ _ _
 have h0 := (heap_set_other (w := w) (.chan 16 ((wait.map encF).toArray) false s (r + 1) false) hne).trans h.cells
 rw [show ({ w with heap := w.heap.setIfInBounds c (.chan 16 ((wait.map encF).toArray) false s (r + 1) false) } : World) = W1 from hW1.symm] at h0
 have hc1 := cells_at h0
 have hf1 := free_at h0
 have hstep : ∀ (fr : Frame) (cs : List Frame) (es : Array Event), stepG Tryz.prog true (G fr cs) w = .comm (G fr cs) #[rcase c (.agg #[.int .i64 0, .bool false])] false .select w es →
   step Tryz.prog (solo (G fr cs) w) = .next (solo (G (fr.finish (.tuple #[goInt 0, .bool true, .agg #[.int .i64 x.1, .bool x.2]])) cs) W1) := by
  intro fr cs es hst
  have := step_lone_select_recv_buf hst hch (by simp)
  rw [hW1]
  have e : List.take wait.length (List.map encF wait) = List.map encF wait := List.take_of_length_le (by simp)
  simpa [encF, e] using this
 rw [← hW1] at htake
 clear hW1
 obtain ⟨hx, hx2⟩ := h.waitOk x (by simp)
 obtain ⟨n, d⟩ := x
 dsimp only at hx hx2 htake hstep
 go_enter Tryz.func101, Tryz.ntmps101
 go_upto_region 3 with (fail)
 refine wp_region_sel (cases := #[rcase c (.agg #[.int .i64 0, .bool false])]) (w₁ := w) rfl (by simp [go_sem, execOp, rcase, Act.eval, hz]) hstep ?_
 clear hstep
 go_wp2
 ·have hx : 0 < n := by assumption
  go_ret2
  refine ⟨?_, ?_, ?_⟩
  ·simp [tryWorks, tryDone, tryS, hx]
  ·exact FuseQ.of (htake.setNow (n := n - 1) ⟨by simp only; omega, by simp only; omega⟩) (by simp [tryArmed, tryS, hx]) (by simp [tryQ, tryS, hx])
  ·exact (((hK1.setCell (by simp) _).setCell (by simp) _).setCell (by simp) _).setCell (by simp) _
 ·go_quiet (fail)
  go_wp2
  have hx : ¬ 0 < n := by omega
  go_ret2
  refine ⟨?_, ?_, ?_⟩
  ·simp [tryWorks, tryDone, tryS, hx]
  ·exact FuseQ.of ((htake.setArmed false).drewN _) (by simp [tryArmed, tryS, hx]) (by simp [tryQ, tryS, hx])
  ·exact ((((hK1.setCell (by simp) _).setCell (by simp) _).setCell (by simp) _).setCell (by simp) _).drewN _
theorem try_spec (w : World) (f c : Nat) (armed : Bool) (Q : List (Int × Bool)) (h : FuseQ w f c armed Q) :
  Calls Tryz.prog 101 #[.pointer (some ⟨f, 0, none⟩)] w (TryPost w f c Q) := by
 obtain ⟨now, wait, h, rfl⟩ := h
 cases armed
 ·cases wait
  ·exact try_none w f c now h
  ·exact try_some w f c now _ _ h
 ·exact try_armed w f c now wait h
theorem FuseAt.put {w : World} {f c : Nat} {now x : Int × Bool} {armed : Bool} {wait : List (Int × Bool)} (h : FuseAt w f c now armed wait) (hl : wait.length < 16) (hx : okF x) (s r s' : Nat) (hch : w.heap[c]? = some (.chan 16 (wait.map encF).toArray false s r false)) :
  FuseAt (w.setChan c 16 ((wait.map encF).toArray.push (encF x)) false s' r false) f c now armed (wait ++ [x]) := by
 have hne : f ≠ c := ne_of_at h.cells hch (by simp)
 refine ⟨(heap_set_other _ hne).trans h.cells, ⟨s', r, ?_⟩, by simp; omega, h.nowOk, ?_⟩
 ·have := heap_set_same hch (.chan 16 ((wait.map encF).toArray.push (encF x)) false s' r false)
  simpa [World.setChan] using this
 ·intro y hy
  rcases List.mem_append.1 hy with hy | hy
  ·exact h.waitOk y hy
  ·simp at hy; subst hy; exact hx
def doErr (Q : List (Int × Bool)) (n : Int) : Int := if tryWorks Q = false ∧ n = 0 then 8 else n
def DoPost (w : World) (f c : Nat) (Q : List (Int × Bool)) (R : World → Int → Prop) (e : Ending) (w' : World) : Prop :=
 (tryDone Q = true ∧ ∃ n, R w' n ∧ e = .returned (.int .i64 (doErr Q n))) ∨
 (tryDone Q = false ∧ e = .returned (.int .i64 8) ∧ FuseQ w' f c (tryArmed Q) (tryQ Q) ∧ Keeps [f, c] w w')
def ActPost (R : World → Int → Prop) (e : Ending) (w' : World) : Prop := ∃ n, e = .returned (.int .i64 n) ∧ R w' n
theorem do_spec (w : World) (f c : Nat) (armed : Bool) (Q : List (Int × Bool)) (h : FuseQ w f c armed Q) (fn : FuncId) (cap : Array Value) (R : World → Int → Prop) (hfn : GoFn Tryz.prog fn)
  (hact : tryDone Q = true → ∀ w1, FuseQ w1 f c (tryArmed Q) (tryQ Q) → Keeps [f, c] w w1 → Calls Tryz.prog fn cap w1 (ActPost R)) :
  Calls Tryz.prog 71 #[.pointer (some ⟨f, 0, none⟩), .func (.func fn) #[] cap] w (DoPost w f c Q R) := by
 have Hact := Lib.hid hact
 clear hact
 go_enter Tryz.func71, Tryz.ntmps71
 go_wp2_with fail
 refine (try_spec w f c armed Q h).mono ?_
 rintro e w1 ⟨rfl, hq1, hk1⟩
 have hwd := tryDone_of Q
 generalize htw : tryWorks Q = tw at hwd ⊢
 generalize htd : tryDone Q = td at hwd ⊢
 have Htw := Lib.hid htw
 have Htd := Lib.hid htd
 clear htw htd
 cases td
 ·cases tw
  ·go_wp2_with fail
   go_ret
   exact .inr ⟨Htd.out, rfl, hq1, hk1⟩
  ·simp at hwd
 ·clear hwd
  go_wp2_with (refine wpList_call_value rfl _ _ _ rfl fn #[] cap rfl hfn ?_)
  refine (Hact.out (Htd.out) w1 hq1 hk1).mono ?_
  rintro e w2 ⟨n, rfl, hR⟩
  dsimp only
  by_cases hn : n = 0 <;> cases tw
  all_goals
   go_wp2
   go_ret
   refine .inl ⟨Htd.out, n, hR, ?_⟩
   simp [doErr, Htw.out, hn]
abbrev Ob := ByteArray × Int
def encOb (x : Ob) : Value := .agg #[.string x.1, .int .i64 x.2]
structure BucketAt (w : World) (b f c mb : Nat) (armed : Bool) (Q : List (Int × Bool)) (o : List (ByteArray × Ob)) : Prop where
 cells : w.heap[b]? = some (.cells #[.pointer (some ⟨f, 0, none⟩), .map (some mb)] 109 (0, 0))
 fuse : FuseQ w f c armed Q
 map : MapAt w mb (encMap encOb o)
theorem BucketAt.neF {w : World} {b f c mb : Nat} {armed : Bool} {Q : List (Int × Bool)} {o : List (ByteArray × Ob)} (h : BucketAt w b f c mb armed Q o) : f ≠ mb := by
 obtain ⟨now, wait, hf, _⟩ := h.fuse
 exact h.map.ne hf.cells
theorem BucketAt.neC {w : World} {b f c mb : Nat} {armed : Bool} {Q : List (Int × Bool)} {o : List (ByteArray × Ob)} (h : BucketAt w b f c mb armed Q o) : c ≠ mb := by
 obtain ⟨now, wait, hf, _⟩ := h.fuse
 obtain ⟨s, r, hc⟩ := hf.chan
 exact h.map.ne_chan hc
theorem zeroOb (w : World) : (zeroValue 162).run Tryz.prog w = .ok (.agg #[.string ⟨#[]⟩, .int .i64 0]) w := by kernel_rfl
theorem putAct (w : World) (pd pn pb pm b f c mb : Nat) (armed : Bool) (Q : List (Int × Bool)) (o : List (ByteArray × Ob)) (name data : ByteArray) (now : Int)
  (h1 : w.heap[pd]? = some (.cells #[.string data] 9 (0, 0))) (h2 : w.heap[pn]? = some (.cells #[.int .i64 now] 3 (0, 0)))
  (h3 : w.heap[pb]? = some (.cells #[.pointer (some ⟨b, 0, none⟩)] 58 (0, 0))) (h4 : w.heap[pm]? = some (.cells #[.string name] 9 (0, 0)))
  (h : BucketAt w b f c mb armed Q o) :
  Calls Tryz.prog 72 #[.pointer (some ⟨pd, 0, none⟩), .pointer (some ⟨pn, 0, none⟩), .pointer (some ⟨pb, 0, none⟩), .pointer (some ⟨pm, 0, none⟩)] w
   (ActPost fun w' n => n = 0 ∧ BucketAt w' b f c mb armed Q (put o name (data, now)) ∧ Keeps [mb] w w') := by
 have c1 := cells_at h1
 have c2 := cells_at h2
 have c3 := cells_at h3
 have c4 := cells_at h4
 have cb := cells_at h.cells
 obtain ⟨ob, hrun, hm⟩ := (h.map.drew).run_update (P := Tryz.prog) Tryz.underlying107 Tryz.underlying9 name (encOb (data, now))
 simp only [encOb] at hrun
 clear h1 h2 h3 h4
 go_enter Tryz.func72, Tryz.ntmps72
 go_wp2
 go_region
 go_wp2
 go_ret
 refine ⟨0, rfl, rfl, ⟨?_, ?_, ?_⟩, (Keeps.refl _ _).drew.setAt (by simp) _⟩
 ·exact ((heap_set_other _ (h.map.ne h.cells)).trans h.cells)
 ·exact h.fuse.keep ((Keeps.refl [mb] _).drew.setAt (by simp) _) (by simpa using h.neF) (by simpa using h.neC)
 ·rw [put_enc] at hm
  exact hm
def AskPost (w : World) (b f c mb : Nat) (Q : List (Int × Bool)) (o : List (ByteArray × Ob)) (R : World → Int → Prop) (e : Ending) (w' : World) : Prop :=
 (tryWorks Q = true ∧ ∃ n, R w' n ∧ e = .returned (.int .i64 n)) ∨
 (tryWorks Q = false ∧ e = .returned (.int .i64 8) ∧ BucketAt w' b f c mb (tryArmed Q) (tryQ Q) o ∧ Keeps [f, c] w w')
theorem BucketAt.tried {w w' : World} {b f c mb : Nat} {armed a' : Bool} {Q Q' : List (Int × Bool)} {o : List (ByteArray × Ob)} (h : BucketAt w b f c mb armed Q o) (k : Keeps [f, c] w w') (hf : FuseQ w' f c a' Q') : BucketAt w' b f c mb a' Q' o := by
 obtain ⟨now, wait, hf0, _⟩ := h.fuse
 obtain ⟨s, r, hc0⟩ := hf0.chan
 have h1 : b ≠ f := ne_of_at h.cells hf0.cells (by simp)
 have h2 : b ≠ c := ne_of_at h.cells hc0 (by simp)
 exact ⟨k.at_ h.cells (by simp [h1, h2]), hf, h.map.keep k (by simp [h.neF.symm, h.neC.symm])⟩
theorem ask_spec (w : World) (b f c mb : Nat) (armed : Bool) (Q : List (Int × Bool)) (o : List (ByteArray × Ob)) (h : BucketAt w b f c mb armed Q o) (fn : FuncId) (cap : Array Value) (R : World → Int → Prop) (hfn : GoFn Tryz.prog fn)
  (hact : tryWorks Q = true → ∀ w1, BucketAt w1 b f c mb (tryArmed Q) (tryQ Q) o → Keeps [f, c] w w1 → Calls Tryz.prog fn cap w1 (ActPost R)) :
  Calls Tryz.prog 83 #[.pointer (some ⟨b, 0, none⟩), .func (.func fn) #[] cap] w (AskPost w b f c mb Q o R) := by
 have Hact := Lib.hid hact
 clear hact
 have cb := cells_at h.cells
 go_enter Tryz.func83, Tryz.ntmps83
 go_wp2_with fail
 refine (try_spec w f c armed Q h.fuse).mono ?_
 rintro e w1 ⟨rfl, hq1, hk1⟩
 have hb1 := h.tried hk1 hq1
 generalize htd : tryDone Q = td at ⊢
 clear htd
 cases htw : tryWorks Q
 ·go_wp2_with fail
  go_ret
  exact .inr ⟨htw, rfl, hb1, hk1⟩
 ·have Htw := Lib.hid htw
  clear htw
  go_wp2_with (refine wpList_call_value rfl _ _ _ rfl fn #[] cap rfl hfn ?_)
  refine (Hact.out Htw.out w1 hb1 hk1).mono ?_
  rintro e w2 ⟨n, rfl, hR⟩
  dsimp only
  go_wp2
  go_ret
  exact .inl ⟨Htw.out, n, hR, rfl⟩
theorem BucketAt.keep {w w' : World} {b f c mb : Nat} {armed : Bool} {Q : List (Int × Bool)} {o : List (ByteArray × Ob)} {S : List Nat} (h : BucketAt w b f c mb armed Q o) (k : Keeps S w w') (hb : b ∉ S) (hf : f ∉ S) (hc : c ∉ S) (hm : mb ∉ S) : BucketAt w' b f c mb armed Q o :=
 ⟨k.at_ h.cells hb, h.fuse.keep k hf hc, h.map.keep k hm⟩
theorem FuseQ.lt {w : World} {f c : Nat} {armed : Bool} {Q : List (Int × Bool)} (h : FuseQ w f c armed Q) : f < w.heap.size ∧ c < w.heap.size := by
 obtain ⟨now, wait, hf0, _⟩ := h
 obtain ⟨s, r, hc0⟩ := hf0.chan
 exact ⟨lt_of_at hf0.cells, lt_of_at hc0⟩
theorem BucketAt.lt {w : World} {b f c mb : Nat} {armed : Bool} {Q : List (Int × Bool)} {o : List (ByteArray × Ob)} (h : BucketAt w b f c mb armed Q o) : b < w.heap.size ∧ f < w.heap.size ∧ c < w.heap.size ∧ mb < w.heap.size :=
 ⟨lt_of_at h.cells, h.fuse.lt.1, h.fuse.lt.2, h.map.lt⟩
theorem BucketAt.keepNew {w w' : World} {b f c mb : Nat} {armed : Bool} {Q : List (Int × Bool)} {o : List (ByteArray × Ob)} {S : List Nat} (h : BucketAt w b f c mb armed Q o) (k : Keeps S w w') (hS : ∀ x ∈ S, w.heap.size ≤ x) : BucketAt w' b f c mb armed Q o := by
 obtain ⟨h1, h2, h3, h4⟩ := h.lt
 refine h.keep k ?_ ?_ ?_ ?_ <;> (intro hm; have := hS _ hm; omega)
theorem BucketAt.keepBox {w w' : World} {b f c mb p : Nat} {armed : Bool} {Q : List (Int × Bool)} {o : List (ByteArray × Ob)} {cs : Array Value} {t : TypeId} {z : Nat × Nat} (h : BucketAt w b f c mb armed Q o) (k : Keeps [p] w w') (hp : w.heap[p]? = some (.cells cs t z)) (h1 : t ≠ 109) (h2 : t ≠ 198) : BucketAt w' b f c mb armed Q o := by
 obtain ⟨now, wait, hf0, _⟩ := h.fuse
 obtain ⟨s, r, hc0⟩ := hf0.chan
 refine h.keep k ?_ ?_ ?_ ?_
 ·simp only [List.mem_singleton]; exact ne_of_at h.cells hp (by intro e; injection e with _ e; exact h1 e.symm)
 ·simp only [List.mem_singleton]; exact ne_of_at hf0.cells hp (by intro e; injection e with _ e; exact h2 e.symm)
 ·simp only [List.mem_singleton]; exact ne_of_at hc0 hp (by intro e; injection e)
 ·simp only [List.mem_singleton]; exact fun e => h.map.ne hp e.symm
def ioErr (Q : List (Int × Bool)) : Int := if tryWorks Q then 0 else 8
def chg (Q : List (Int × Bool)) (o o' : List (ByteArray × Ob)) : List (ByteArray × Ob) := if tryDone Q then o' else o
theorem goFn_put : GoFn Tryz.prog 72 := ⟨_, Tryz.func72, by kernel_rfl, by kernel_rfl⟩
def PutPost (w : World) (b f c mb : Nat) (Q : List (Int × Bool)) (o o' : List (ByteArray × Ob)) (e : Ending) (w' : World) : Prop :=
 e = .returned (.int .i64 (ioErr Q)) ∧ BucketAt w' b f c mb (tryArmed Q) (tryQ Q) (chg Q o o') ∧ Keeps [f, c, mb] w w'
theorem put_spec (w : World) (b f c mb : Nat) (armed : Bool) (Q : List (Int × Bool)) (o : List (ByteArray × Ob)) (h : BucketAt w b f c mb armed Q o) (name data : ByteArray) (now : Int)
  (h0 : name.size ≠ 0) (h40 : name.size ≤ 40) :
  Calls Tryz.prog 40 #[.pointer (some ⟨b, 0, none⟩), .string name, .string data, .int .i64 now] w (PutPost w b f c mb Q o (put o name (data, now))) := by
 have cb := cells_at h.cells
 obtain ⟨l0, lf, lc, lm⟩ := h.lt
 obtain ⟨l1, l2, l3, l4, l5, l6⟩ := lt_more l0
 obtain ⟨e1, e2⟩ := ne_empty h0
 have hk := (((Keeps.refl [] w).alloc (.cells #[.pointer (some ⟨b, 0, none⟩)] 58)).alloc (.cells #[.string name] 9)).alloc (.cells #[.string data] 9) |>.alloc (.cells #[.int .i64 now] 3)
 have hW := h.keepNew hk (by simp)
 obtain ⟨n1, n2, n3, n4⟩ := new4 w (.cells #[.pointer (some ⟨b, 0, none⟩)] 58) (.cells #[.string name] 9) (.cells #[.string data] 9) (.cells #[.int .i64 now] 3)
 have N := Lib.hid (And.intro n1 (And.intro n2 (And.intro n3 n4)))
 clear n1 n2 n3 n4
 go_enter Tryz.func40, Tryz.ntmps40
 go_wp2_with fail
 refine (do_spec _ f c armed Q hW.fuse _ _ (fun w' n => n = 0 ∧ BucketAt w' b f c mb (tryArmed Q) (tryQ Q) (put o name (data, now)) ∧ Keeps [f, c, mb] w w') goFn_put ?_).mono ?_
 ·intro _ w1 hq1 hk1
  obtain ⟨n1, n2, n3, n4⟩ := N.out
  have hb1 := hW.tried hk1 hq1
  refine (putAct w1 _ _ _ _ b f c mb _ _ o name data now (hk1.at_ n3 ?_) (hk1.at_ n4 ?_) (hk1.at_ n1 ?_) (hk1.at_ n2 ?_) hb1).mono ?_
  ·simp; omega
  ·simp; omega
  ·simp; omega
  ·simp; omega
  ·rintro e w2 ⟨n, rfl, rfl, hb2, hk2⟩
   exact ⟨0, rfl, rfl, hb2, ((hk.mono (by simp)).after (hk1.mono (S' := [f, c, mb]) (by simp)) (by simp)).after hk2 (by simp)⟩
 ·rintro e w' (⟨hd, n, ⟨rfl, hb2, hk2⟩, rfl⟩ | ⟨hd, rfl, hq2, hk2⟩)
  ·have Hd := Lib.hid hd
   clear hd
   go_wp2
   go_ret
   refine ⟨?_, ?_, hk2⟩
   ·simp [doErr, ioErr]; cases tryWorks Q <;> simp
   ·simpa [chg, Hd.out] using hb2
  ·have Hd := Lib.hid hd
   clear hd
   go_wp2
   go_ret
   refine ⟨?_, ?_, (hk.mono (by simp)).after hk2 (by simp)⟩
   ·have : tryWorks Q = false := by
     cases hw : tryWorks Q
     ·rfl
     ·rw [tryDone_of Q hw] at Hd; exact absurd Hd.out (by simp)
    simp [ioErr, this]
   ·simpa [chg, Hd.out] using hW.tried hk2 hq2
def LookPost (w : World) (b f c mb : Nat) (Q : List (Int × Bool)) (o : List (ByteArray × Ob)) (s : ByteArray × Int) (e : Ending) (w' : World) : Prop :=
 e = .returned (.tuple #[.string s.1, .int .i64 s.2]) ∧ BucketAt w' b f c mb (tryArmed Q) (tryQ Q) o ∧ Keeps [f, c] w w'
theorem goFn_range : GoFn Tryz.prog 84 := ⟨_, Tryz.func84, by kernel_rfl, by kernel_rfl⟩
def cutVal (x : Ob) (a n : Int) : ByteArray × Int :=
 if a < 0 ∨ (x.1.size : Int) < a ∨ n < 0 then (⟨#[]⟩, 1) else (x.1.extract a.toNat (a + min n (x.1.size - a)).toNat, 0)
def rangeOb (o : List (ByteArray × Ob)) (name : ByteArray) (a n : Int) : ByteArray × Int :=
 match look o name with
 | none => (⟨#[]⟩, 5)
 | some x => cutVal x a n
def rangeVal (Q : List (Int × Bool)) (o : List (ByteArray × Ob)) (name : ByteArray) (a n : Int) : ByteArray × Int :=
 if tryWorks Q then rangeOb o name a n else (⟨#[]⟩, 8)
theorem rangeAct (w : World) (pb pm pf pn pr b f c mb : Nat) (armed : Bool) (Q : List (Int × Bool)) (o : List (ByteArray × Ob)) (name : ByteArray) (a n : Int)
  (ha : -9223372036854775808 ≤ a ∧ a ≤ 9223372036854775807) (hn : -9223372036854775808 ≤ n ∧ n ≤ 9223372036854775807) (hsz : ∀ x, look o name = some x → x.1.size ≤ maxLen)
  (h1 : w.heap[pf]? = some (.cells #[.int .i64 a] 3 (0, 0))) (h2 : w.heap[pn]? = some (.cells #[.int .i64 n] 3 (0, 0)))
  (h3 : w.heap[pb]? = some (.cells #[.pointer (some ⟨b, 0, none⟩)] 58 (0, 0))) (h4 : w.heap[pm]? = some (.cells #[.string name] 9 (0, 0)))
  (h5 : w.heap[pr]? = some (.cells #[.string ⟨#[]⟩] 9 (0, 0)))
  (h : BucketAt w b f c mb armed Q o) :
  Calls Tryz.prog 84 #[.pointer (some ⟨pb, 0, none⟩), .pointer (some ⟨pm, 0, none⟩), .pointer (some ⟨pf, 0, none⟩), .pointer (some ⟨pn, 0, none⟩), .pointer (some ⟨pr, 0, none⟩)] w
   (ActPost fun w' k => k = (rangeOb o name a n).2 ∧ w'.heap[pr]? = some (.cells #[.string (rangeOb o name a n).1] 9 (0, 0)) ∧ Keeps [pr] w w') := by
 have c1 := cells_at h1
 have c2 := cells_at h2
 have c3 := cells_at h3
 have c4 := cells_at h4
 have c5 := cells_at h5
 have f5 := free_at h5
 have cb := cells_at h.cells
 obtain ⟨l0, lf, lc, lm⟩ := h.lt
 have lpf := lt_of_at h1
 have lpn := lt_of_at h2
 have lpr := lt_of_at h5
 have lpb := lt_of_at h3
 have lpm := lt_of_at h4
 have hrun := (h.map.drew).run_lookup (P := Tryz.prog) Tryz.underlying107 Tryz.underlying9 (zeroOb _) name true
 have hrun2 := (h.map.keep ((Keeps.refl [] w).alloc (.cells #[.string ⟨#[]⟩, .int .i64 0] 162)).drew (by simp)).run_lookup (P := Tryz.prog) Tryz.underlying107 Tryz.underlying9 (zeroOb _) name true
 have H5 := Lib.hid h5
 obtain ⟨ha1, ha2⟩ := ha
 obtain ⟨hn1, hn2⟩ := hn
 clear h1 h2 h3 h4 h5
 cases hlk : look o name with
 | none =>
  simp only [lookVal, look_enc, hlk, Option.map_none, Option.getD_none, Option.isSome_none, if_true] at hrun hrun2
  have Hlk := Lib.hid hlk
  clear hlk hsz
  go_enter Tryz.func84, Tryz.ntmps84
  go_wp2
  go_region
  all_goals go_wp2
  all_goals
   go_ret
   refine ⟨5, rfl, by simp [rangeOb, Hlk.out], ?_, ((Keeps.refl _ _).alloc _).drew⟩
   simpa [rangeOb, Hlk.out, heap_drew] using heap_old H5.out _
 | some x =>
  have hx := hsz x hlk
  unfold maxLen at hx
  simp only [lookVal, look_enc, hlk, Option.map_some, Option.getD_some, Option.isSome_some, if_true, encOb] at hrun hrun2
  have Hlk := Lib.hid hlk
  clear hlk hsz
  go_enter Tryz.func84, Tryz.ntmps84
  go_wp2
  go_region
  all_goals go_wp2
  all_goals
   go_ret
   first
    | (have hv : rangeOb o name a n = (⟨#[]⟩, 1) := by
         simp only [rangeOb, Hlk.out, cutVal]
         rw [if_pos (by omega)]
       refine ⟨1, rfl, by rw [hv], ?_, ((Keeps.refl _ _).alloc _).drew⟩
       rw [hv]
       exact heap_old H5.out _)
    | (have hv : rangeOb o name a n = (x.1.extract a.toNat (a + (x.1.size - a)).toNat, 0) := by
         simp only [rangeOb, Hlk.out, cutVal]
         rw [if_neg (by omega), show min n ((x.1.size : Int) - a) = x.1.size - a from by omega]
       refine ⟨0, rfl, by rw [hv], ?_, (((Keeps.refl _ _).setCell (by simp) _).alloc _).drew⟩
       rw [hv]
       exact heap_old (heap_cell_same (i := 0) H5.out _) _)
    | (have hv : rangeOb o name a n = (x.1.extract a.toNat (a + n).toNat, 0) := by
         simp only [rangeOb, Hlk.out, cutVal]
         rw [if_neg (by omega), show min n ((x.1.size : Int) - a) = n from by omega]
       refine ⟨0, rfl, by rw [hv], ?_, (((Keeps.refl _ _).setCell (by simp) _).alloc _).drew⟩
       rw [hv]
       exact heap_old (heap_cell_same (i := 0) H5.out _) _)
theorem range_spec (w : World) (b f c mb : Nat) (armed : Bool) (Q : List (Int × Bool)) (o : List (ByteArray × Ob)) (h : BucketAt w b f c mb armed Q o) (name : ByteArray) (a n : Int)
  (ha : -9223372036854775808 ≤ a ∧ a ≤ 9223372036854775807) (hn : -9223372036854775808 ≤ n ∧ n ≤ 9223372036854775807) (hsz : ∀ x, look o name = some x → x.1.size ≤ maxLen) :
  Calls Tryz.prog 46 #[.pointer (some ⟨b, 0, none⟩), .string name, .int .i64 a, .int .i64 n] w (LookPost w b f c mb Q o (rangeVal Q o name a n)) := by
 have cb := cells_at h.cells
 obtain ⟨l0, lf, lc, lm⟩ := h.lt
 obtain ⟨l1, l2, l3, l4, l5, l6⟩ := lt_more l0
 have hk := ((Keeps.refl [] w).alloc (.cells #[.pointer (some ⟨b, 0, none⟩)] 58)).alloc (.cells #[.string name] 9) |>.alloc (.cells #[.int .i64 a] 3) |>.alloc (.cells #[.int .i64 n] 3) |>.alloc (.cells #[.string ⟨#[]⟩] 9)
 have hW := h.keepNew hk (by simp)
 obtain ⟨n1, n2, n3, n4, n5⟩ := new5 w (.cells #[.pointer (some ⟨b, 0, none⟩)] 58) (.cells #[.string name] 9) (.cells #[.int .i64 a] 3) (.cells #[.int .i64 n] 3) (.cells #[.string ⟨#[]⟩] 9)
 have N := Lib.hid (And.intro n1 (And.intro n2 (And.intro n3 (And.intro n4 n5))))
 clear n1 n2 n3 n4 n5
 have Hsz := Lib.hid hsz
 clear hsz
 go_enter Tryz.func46, Tryz.ntmps46
 go_wp2_with fail
 refine (ask_spec _ b f c mb armed Q o hW _ _ (fun w' k => k = (rangeOb o name a n).2 ∧ BucketAt w' b f c mb (tryArmed Q) (tryQ Q) o ∧ Keeps [f, c] w w' ∧
   w'.heap[w.heap.size + 1 + 1 + 1 + 1]? = some (.cells #[.string (rangeOb o name a n).1] 9 (0, 0))) goFn_range ?_).mono ?_
 ·intro _ w1 hb1 hk1
  obtain ⟨n1, n2, n3, n4, n5⟩ := N.out
  refine (rangeAct w1 _ _ _ _ _ b f c mb _ _ o name a n ha hn Hsz.out (hk1.at_ n3 ?_) (hk1.at_ n4 ?_) (hk1.at_ n1 ?_) (hk1.at_ n2 ?_) (hk1.at_ n5 ?_) hb1).mono ?_
  ·simp; omega
  ·simp; omega
  ·simp; omega
  ·simp; omega
  ·simp; omega
  ·rintro e w2 ⟨k, rfl, rfl, hp2, hk2⟩
   refine ⟨_, rfl, rfl, hb1.keepBox hk2 (hk1.at_ n5 (by simp; omega)) (by decide) (by decide), ?_, hp2⟩
   exact ((hk.mono (by simp)).after hk1 (by simp)).after hk2 (by simp; omega)
 ·rintro e w' (⟨hd, k, ⟨rfl, hb2, hk2, hp2⟩, rfl⟩ | ⟨hd, rfl, hb2, hk2⟩)
  ·have cp := cells_at hp2
   have fp := free_at hp2
   have Hd := Lib.hid hd
   clear hd hp2
   go_wp2
   go_ret2
   exact ⟨by simp [rangeVal, Hd.out], hb2, hk2⟩
  ·obtain ⟨n1, n2, n3, n4, n5⟩ := N.out
   have hp2 := hk2.at_ n5 (by simp; omega)
   have cp := cells_at hp2
   have fp := free_at hp2
   have Hd := Lib.hid hd
   clear hd hp2 n1 n2 n3 n4 n5
   go_wp2
   go_ret2
   exact ⟨by simp [rangeVal, Hd.out], hb2, (hk.mono (by simp)).after hk2 (by simp)⟩
theorem newBucket_spec (w : World) :
  Calls Tryz.prog 39 #[] w fun e w' => ∃ b f c mb, e = .returned (.pointer (some ⟨b, 0, none⟩)) ∧ BucketAt w' b f c mb false [] [] ∧ Keeps [] w w' ∧ w.heap.size ≤ b ∧ w.heap.size ≤ f ∧ w.heap.size ≤ c ∧ w.heap.size ≤ mb := by
 have hmm := @run_makeMap Tryz.prog
 go_enter Tryz.func39, Tryz.ntmps39
 go_wp2_with fail
 refine (newFuse_spec _).mono ?_
 rintro e w1 ⟨rfl, hq1, hk1, hs1⟩
 have Hs := Lib.hid hs1
 clear hs1
 go_wp2
 go_ret
 have hs := Hs.out
 have hm := mapAt_new w1
 refine ⟨_, _, _, _, rfl, ⟨?_, hq1.keep (((Keeps.refl [] _).alloc _).alloc _) (by simp) (by simp), hm.keep ((Keeps.refl [] _).alloc _) (by simp)⟩, (hk1.alloc _).alloc _, ?_, ?_, ?_, ?_⟩
 ·have := (new2 w1 (.map #[] 0) (.cells #[.pointer (some ⟨w.heap.size + 1, 0, none⟩), .map (some w1.heap.size)] 109)).2
  simpa using this
 all_goals omega
end Go.Proofs.YtgcfkhcogllgfaaGreatDoor
