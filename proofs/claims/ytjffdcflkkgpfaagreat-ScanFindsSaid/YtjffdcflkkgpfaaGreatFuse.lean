/-
  The fuse of package disk: contracts of NewFuse, Arm, Clear, Try and Do over a queue of faults.
  Each holds for every world in which the fuse's blocks are laid as FuseQ says.
-/
import Derived.Test.YtjffdcflkkgpfaaGreatRows
import Derived.Test.YtjffdcflkkgpfaaGreatBase
import Derived.Deep.Cut
import Derived.Deep.QuietTactic
import Derived.BigQuiet
import Derived.Lib.Hide
namespace Go.Proofs.YtjffdcflkkgpfaaGreat
open Go Go.RowKit Go.Conc

/-- A waiting fault as a value. -/
def encF (x : Int × Bool) : Value := .agg #[.int .i64 x.1, .bool x.2]

def okF (x : Int × Bool) : Prop := 0 ≤ x.1 ∧ x.1 ≤ 9223372036854775807


structure FuseAt (w : World) (f c : Nat) (now : Int × Bool) (armed : Bool) (wait : List (Int × Bool)) : Prop where
  cells : w.heap[f]? = some (.cells #[.chan (some c), .int .i64 now.1, .bool now.2, .bool armed] 144 (0, 0))
  chan : ∃ s r, w.heap[c]? = some (.chan 16 (wait.map encF).toArray false s r false)
  len : wait.length ≤ 16
  nowOk : okF now
  waitOk : ∀ x ∈ wait, okF x


/-- The fuse at block f (its channel at c) holds the queue Q of faults; is its first one armed? -/
def FuseQ (w : World) (f c : Nat) (armed : Bool) (Q : List (Int × Bool)) : Prop :=
  ∃ now wait, FuseAt w f c now armed wait ∧ Q = if armed then now :: wait else wait


theorem FuseQ.keep {w w' : World} {f c : Nat} {armed : Bool} {Q : List (Int × Bool)} {S : List Nat} (h : FuseQ w f c armed Q) (k : Keeps S w w') (hf : f ∉ S) (hc : c ∉ S) : FuseQ w' f c armed Q := by
  obtain ⟨now, wait, h, hQ⟩ := h
  obtain ⟨s, r, hch⟩ := h.chan
  exact ⟨now, wait, ⟨k.at_ h.cells hf, ⟨s, r, k.at_ hch hc⟩, h.len, h.nowOk, h.waitOk⟩, hQ⟩


theorem zeroFault (w : World) : (zeroValue 142).run Tryz.prog w = .ok (.agg #[.int .i64 0, .bool false]) w := by kernel_rfl


theorem info_fault : ∃ i, Tryz.prog.info? 142 = some i ∧ i.bytes = 16 := by
  have h : (Tryz.prog.info? 142).map (·.bytes) = some 16 := by kernel_rfl
  obtain ⟨i, hi, hb⟩ := Option.map_eq_some_iff.1 h
  exact ⟨i, hi, hb⟩


theorem mk_chan16 (w : World) : (Instr.makeChan 140 (.int .i64 16)).run Tryz.prog w = .ok (.chan (some w.heap.size)) (w.alloc (.chan 16 #[] false 0 0 false)) := by
  obtain ⟨i, hi, hb⟩ := info_fault
  simpa using run_makeChan (P := Tryz.prog) (w := w) Tryz.underlying140 hi .i64 16 (by omega) (by rw [hb]; omega)


/-- The queue, whether its head is armed, does the call work, is it done? -/
def tryS : List (Int × Bool) → List (Int × Bool) × Bool × Bool × Bool
  | [] => ([], false, true, true)
  | (n, d) :: r => if 0 < n then ((n - 1, d) :: r, true, true, true) else (r, false, false, d)

def tryQ (Q : List (Int × Bool)) : List (Int × Bool) := (tryS Q).1

def tryArmed (Q : List (Int × Bool)) : Bool := (tryS Q).2.1

def tryWorks (Q : List (Int × Bool)) : Bool := (tryS Q).2.2.1

def tryDone (Q : List (Int × Bool)) : Bool := (tryS Q).2.2.2

/-- What works is done. -/
theorem tryDone_of (Q : List (Int × Bool)) (h : tryWorks Q = true) : tryDone Q = true := by
  unfold tryWorks tryDone tryS at *
  split
  · rfl
  · split
    · rfl
    · rename_i hn
      simp [hn] at h


set_option maxHeartbeats 400000 in
theorem newFuse_any (w : World) :
    Calls Tryz.prog 93 #[] w fun e w' => e = .returned (.pointer (some ⟨w.heap.size + 1, 0, none⟩)) ∧
      w' = (w.alloc (.chan 16 #[] false 0 0 false)).alloc (.cells #[.chan (some w.heap.size), .int .i64 0, .bool false, .bool false] 144) := by
  have hmk := mk_chan16
  go_enter Tryz.func93, Tryz.ntmps93
  go_wp2
  go_ret
  exact ⟨rfl, rfl⟩


/-- NewFuse: a fuse without faults, in two new blocks. -/
theorem newFuse_spec (w : World) :
    Calls Tryz.prog 93 #[] w fun e w' => e = .returned (.pointer (some ⟨w.heap.size + 1, 0, none⟩)) ∧
      FuseQ w' (w.heap.size + 1) w.heap.size false [] ∧ Keeps [] w w' ∧ w'.heap.size = w.heap.size + 2 := by
  refine (newFuse_any w).mono ?_
  rintro e w' ⟨rfl, rfl⟩
  refine ⟨rfl, ⟨(0, false), [], ⟨?_, ⟨0, 0, ?_⟩, by simp, by simp [okF], by simp⟩, rfl⟩, ((Keeps.refl _ _).alloc _).alloc _, by simp⟩
  · have := heap_new (w.alloc (.chan 16 #[] false 0 0 false)) (.cells #[.chan (some w.heap.size), .int .i64 0, .bool false, .bool false] 144)
    simpa using this
  · exact heap_old (heap_new w _) _


def TryPost (w : World) (f c : Nat) (Q : List (Int × Bool)) (e : Ending) (w' : World) : Prop :=
  e = .returned (.tuple #[.bool (tryWorks Q), .bool (tryDone Q)]) ∧ FuseQ w' f c (tryArmed Q) (tryQ Q) ∧ Keeps [f, c] w w'


theorem FuseAt.setNow {w : World} {f c : Nat} {now : Int × Bool} {armed : Bool} {wait : List (Int × Bool)} (h : FuseAt w f c now armed wait) {n : Int} (hn : okF (n, now.2)) : FuseAt (w.setCell ⟨f, 1, none⟩ (.int .i64 n)) f c (n, now.2) armed wait := by
  obtain ⟨s, r, hch⟩ := h.chan
  exact ⟨heap_cell_same h.cells _, ⟨s, r, (heap_cell_other _ (ne_of_at hch h.cells (by simp))).trans hch⟩, h.len, hn, h.waitOk⟩

theorem FuseAt.setArmed {w : World} {f c : Nat} {now : Int × Bool} {armed : Bool} {wait : List (Int × Bool)} (h : FuseAt w f c now armed wait) (b : Bool) : FuseAt (w.setCell ⟨f, 3, none⟩ (.bool b)) f c now b wait := by
  obtain ⟨s, r, hch⟩ := h.chan
  exact ⟨heap_cell_same h.cells _, ⟨s, r, (heap_cell_other _ (ne_of_at hch h.cells (by simp))).trans hch⟩, h.len, h.nowOk, h.waitOk⟩

theorem FuseQ.of {w : World} {f c : Nat} {now : Int × Bool} {armed a : Bool} {wait Q : List (Int × Bool)} (h : FuseAt w f c now armed wait) (ha : a = armed) (hQ : Q = if armed then now :: wait else wait) : FuseQ w f c a Q := by
  subst ha
  exact ⟨now, wait, h, hQ⟩

theorem FuseAt.drewN {w : World} {f c : Nat} {now : Int × Bool} {armed : Bool} {wait : List (Int × Bool)} (h : FuseAt w f c now armed wait) (n : Nat) : FuseAt (w.drewN n) f c now armed wait := ⟨h.cells, h.chan, h.len, h.nowOk, h.waitOk⟩


set_option maxHeartbeats 400000 in
theorem try_armed (w : World) (f c : Nat) (now : Int × Bool) (wait : List (Int × Bool)) (h : FuseAt w f c now true wait) :
    Calls Tryz.prog 102 #[.pointer (some ⟨f, 0, none⟩)] w (TryPost w f c (now :: wait)) := by
  have hc := cells_at h.cells
  have hf := free_at h.cells
  obtain ⟨hx, hx2⟩ := h.nowOk
  obtain ⟨x, d⟩ := now
  dsimp only at hx hx2 hc
  go_enter Tryz.func102, Tryz.ntmps102
  go_wp2
  · go_ret2
    have hx : 0 < x := by assumption
    refine ⟨?_, ?_, ?_⟩
    · simp [tryWorks, tryDone, tryS, hx]
    · exact FuseQ.of (h.setNow (n := x - 1) ⟨by simp only; omega, by simp only; omega⟩) (by simp [tryArmed, tryS, hx]) (by simp [tryQ, tryS, hx])
    · exact (Keeps.refl _ _).setCell (by simp) _
  · go_quiet (fail)
    go_wp2
    have hx : ¬ 0 < x := by omega
    go_ret2
    refine ⟨?_, ?_, ?_⟩
    · simp [tryWorks, tryDone, tryS, hx]
    · exact FuseQ.of ((h.setArmed false).drewN _) (by simp [tryArmed, tryS, hx]) (by simp [tryQ, tryS, hx])
    · exact ((Keeps.refl _ _).setCell (by simp) _).drewN _


set_option maxHeartbeats 400000 in
theorem try_none (w : World) (f c : Nat) (now : Int × Bool) (h : FuseAt w f c now false []) :
    Calls Tryz.prog 102 #[.pointer (some ⟨f, 0, none⟩)] w (TryPost w f c []) := by
  have hc := cells_at h.cells
  have hf := free_at h.cells
  obtain ⟨s, r, hch⟩ := h.chan
  have hz := zeroFault
  go_enter Tryz.func102, Tryz.ntmps102
  go_upto_region 3 with (fail)
  refine wp_region_sel (cases := #[rcase c (.agg #[.int .i64 0, .bool false])]) (w₁ := w) rfl (by simp [go_sem, execOp, rcase, Act.eval, hz]) (fun fr cs es hst => step_lone_select_default hst hch) ?_
  go_wp2
  go_ret2
  refine ⟨rfl, FuseQ.of h rfl rfl, Keeps.refl _ _⟩


/-- The head of what waits is taken. -/
theorem FuseAt.take {w : World} {f c : Nat} {now x : Int × Bool} {wait : List (Int × Bool)} (h : FuseAt w f c now false (x :: wait)) (s r : Nat) (hch : w.heap[c]? = some (.chan 16 ((x :: wait).map encF).toArray false s r false)) :
    FuseAt ((((w.setChan c 16 ((wait.map encF).toArray) false s (r + 1) false).setCell ⟨f, 1, none⟩ (.int .i64 x.1)).setCell ⟨f, 2, none⟩ (.bool x.2)).setCell ⟨f, 3, none⟩ (.bool true)) f c x true wait := by
  have hne : f ≠ c := ne_of_at h.cells hch (by simp)
  have h0 : (w.setChan c 16 ((wait.map encF).toArray) false s (r + 1) false).heap[f]? = _ := (heap_set_other _ hne).trans h.cells
  have h1 := heap_cell_same (heap_cell_same (heap_cell_same h0 (i := 1) (.int .i64 x.1)) (i := 2) (.bool x.2)) (i := 3) (.bool true)
  refine ⟨by simpa using h1, ⟨s, r + 1, ?_⟩, ?_, h.waitOk x (by simp), fun y hy => h.waitOk y (by simp [hy])⟩
  · rw [heap_cell_other _ hne.symm, heap_cell_other _ hne.symm, heap_cell_other _ hne.symm]
    exact heap_set_same hch _
  · have := h.len
    simp at this
    omega


set_option maxHeartbeats 400000 in
theorem try_some (w : World) (f c : Nat) (now x : Int × Bool) (wait : List (Int × Bool)) (h : FuseAt w f c now false (x :: wait)) :
    Calls Tryz.prog 102 #[.pointer (some ⟨f, 0, none⟩)] w (TryPost w f c (x :: wait)) := by
  have hc := cells_at h.cells
  have hf := free_at h.cells
  obtain ⟨s, r, hch⟩ := h.chan
  have hz := zeroFault
  have hne : f ≠ c := ne_of_at h.cells hch (by simp)
  have htake := h.take s r hch
  obtain ⟨W1, hW1⟩ : ∃ W1, W1 = w.setChan c 16 ((wait.map encF).toArray) false s (r + 1) false := ⟨_, rfl⟩
  have hK1 : Keeps [f, c] w W1 := by rw [hW1]; exact (Keeps.refl _ _).setChan (by simp) _ _ _ _ _ _
  have h0 := (heap_set_other (w := w) (.chan 16 ((wait.map encF).toArray) false s (r + 1) false) hne).trans h.cells
  rw [show ({ w with heap := w.heap.setIfInBounds c (.chan 16 ((wait.map encF).toArray) false s (r + 1) false) } : World) = W1 from hW1.symm] at h0
  have hc1 := cells_at h0
  have hf1 := free_at h0
  have hstep : ∀ (fr : Frame) (cs : List Frame) (es : Array Event), stepG Tryz.prog true (G fr cs) w = .comm (G fr cs) #[rcase c (.agg #[.int .i64 0, .bool false])] false .select w es →
      step Tryz.prog (solo (G fr cs) w) = .next (solo (G (fr.finish (.tuple #[goInt 0, .bool true, .agg #[.int .i64 x.1, .bool x.2]])) cs) W1) := by
    intro fr cs es hst
    have := step_lone_select_recv_buf hst hch (by simp)
    rw [hW1]
    have e : List.take wait.length (List.map encF wait) = List.map encF wait := List.take_of_length_le (by simp)
    simpa [encF, e] using this
  rw [← hW1] at htake
  clear hW1
  obtain ⟨hx, hx2⟩ := h.waitOk x (by simp)
  obtain ⟨n, d⟩ := x
  dsimp only at hx hx2 htake hstep
  go_enter Tryz.func102, Tryz.ntmps102
  go_upto_region 3 with (fail)
  refine wp_region_sel (cases := #[rcase c (.agg #[.int .i64 0, .bool false])]) (w₁ := w) rfl (by simp [go_sem, execOp, rcase, Act.eval, hz]) hstep ?_
  clear hstep
  go_wp2
  · have hx : 0 < n := by assumption
    go_ret2
    refine ⟨?_, ?_, ?_⟩
    · simp [tryWorks, tryDone, tryS, hx]
    · exact FuseQ.of (htake.setNow (n := n - 1) ⟨by simp only; omega, by simp only; omega⟩) (by simp [tryArmed, tryS, hx]) (by simp [tryQ, tryS, hx])
    · exact (((hK1.setCell (by simp) _).setCell (by simp) _).setCell (by simp) _).setCell (by simp) _
  · go_quiet (fail)
    go_wp2
    have hx : ¬ 0 < n := by omega
    go_ret2
    refine ⟨?_, ?_, ?_⟩
    · simp [tryWorks, tryDone, tryS, hx]
    · exact FuseQ.of ((htake.setArmed false).drewN _) (by simp [tryArmed, tryS, hx]) (by simp [tryQ, tryS, hx])
    · exact ((((hK1.setCell (by simp) _).setCell (by simp) _).setCell (by simp) _).setCell (by simp) _).drewN _


/-- Try: the queue's head is asked. -/
theorem try_spec (w : World) (f c : Nat) (armed : Bool) (Q : List (Int × Bool)) (h : FuseQ w f c armed Q) :
    Calls Tryz.prog 102 #[.pointer (some ⟨f, 0, none⟩)] w (TryPost w f c Q) := by
  obtain ⟨now, wait, h, rfl⟩ := h
  cases armed
  · cases wait
    · exact try_none w f c now h
    · exact try_some w f c now _ _ h
  · exact try_armed w f c now wait h


theorem FuseAt.put {w : World} {f c : Nat} {now x : Int × Bool} {armed : Bool} {wait : List (Int × Bool)} (h : FuseAt w f c now armed wait) (hl : wait.length < 16) (hx : okF x) (s r s' : Nat) (hch : w.heap[c]? = some (.chan 16 (wait.map encF).toArray false s r false)) :
    FuseAt (w.setChan c 16 ((wait.map encF).toArray.push (encF x)) false s' r false) f c now armed (wait ++ [x]) := by
  have hne : f ≠ c := ne_of_at h.cells hch (by simp)
  refine ⟨(heap_set_other _ hne).trans h.cells, ⟨s', r, ?_⟩, by simp; omega, h.nowOk, ?_⟩
  · have := heap_set_same hch (.chan 16 ((wait.map encF).toArray.push (encF x)) false s' r false)
    simpa [World.setChan] using this
  · intro y hy
    rcases List.mem_append.1 hy with hy | hy
    · exact h.waitOk y hy
    · simp at hy; subst hy; exact hx


def ArmPost (w : World) (f c : Nat) (armed : Bool) (Q : List (Int × Bool)) (n : Int) (d : Bool) (e : Ending) (w' : World) : Prop :=
  (Q.length < 16 + armed.toNat ∧ e = .returned (.int .i64 0) ∧ FuseQ w' f c armed (Q ++ [(max n 0, d)]) ∧ Keeps [f, c] w w') ∨
  (16 + armed.toNat ≤ Q.length ∧ e = .returned (.int .i64 7) ∧ w = w')


set_option maxHeartbeats 400000 in
theorem arm_spec (w : World) (f c : Nat) (armed : Bool) (Q : List (Int × Bool)) (n : Int) (d : Bool) (hn : n ≤ 9223372036854775807) (h : FuseQ w f c armed Q) :
    Calls Tryz.prog 30 #[.pointer (some ⟨f, 0, none⟩), .int .i64 n, .bool d] w (ArmPost w f c armed Q n d) := by
  obtain ⟨now, wait, h, hQ⟩ := h
  have hlen : Q.length = wait.length + armed.toNat := by subst hQ; cases armed <;> simp
  have hc := cells_at h.cells
  have hf := free_at h.cells
  obtain ⟨s, r, hch⟩ := h.chan
  have hz := zeroFault
  have hmx : (if n < 0 then 0 else n) = max n 0 := by split <;> omega
  have hokx : okF (max n 0, d) := ⟨by simp only; omega, by simp only; omega⟩
  by_cases hl : wait.length < 16
  · have hput := h.put (x := (max n 0, d)) hl hokx s r (s + 1) hch
    obtain ⟨W1, hW1⟩ : ∃ W1, W1 = w.setChan c 16 ((wait.map encF).toArray.push (encF (max n 0, d))) false (s + 1) r false := ⟨_, rfl⟩
    have hK1 : Keeps [f, c] w W1 := by rw [hW1]; exact (Keeps.refl _ _).setChan (by simp) _ _ _ _ _ _
    rw [← hW1] at hput
    have hstep : ∀ (fr : Frame) (cs : List Frame) (es : Array Event), stepG Tryz.prog true (G fr cs) w = .comm (G fr cs) #[scase c (.agg #[.int .i64 (if n < 0 then 0 else n), .bool d]) (.agg #[.int .i64 0, .bool false])] false .select w es →
        step Tryz.prog (solo (G fr cs) w) = .next (solo (G (fr.finish (.tuple #[goInt 0, .bool false])) cs) W1) := by
      intro fr cs es hst
      have := step_lone_select_send_room hst hch (by simpa using hl)
      rw [hW1]
      rw [this, hmx]
      rfl
    clear hW1
    have Hfin : Hid (Q ++ [(max n 0, d)] = if armed then now :: (wait ++ [(max n 0, d)]) else wait ++ [(max n 0, d)]) := by
      apply Lib.hid
      subst hQ; cases armed <;> simp
    have Hlen := Lib.hid hlen
    clear hQ hlen hmx
    go_enter Tryz.func30, Tryz.ntmps30
    go_upto_region 3 with (fail)
    refine wp_region_sel (cases := #[scase c (.agg #[.int .i64 (if n < 0 then 0 else n), .bool d]) (.agg #[.int .i64 0, .bool false])]) (w₁ := w) rfl (by simp [go_sem, execOp, scase, Act.eval, hz]) hstep ?_
    clear hstep
    go_wp2
    all_goals
      go_ret
      have hlen := Hlen.out
      exact .inl ⟨by omega, rfl, ⟨_, _, hput, Hfin.out⟩, hK1⟩
  · have hl' : wait.length = 16 := by have := h.len; omega
    have Hlen := Lib.hid hlen
    have Hl := Lib.hid hl'
    clear hQ hlen hmx hl hl'
    have hstep : ∀ (fr : Frame) (cs : List Frame) (es : Array Event), stepG Tryz.prog true (G fr cs) w = .comm (G fr cs) #[scase c (.agg #[.int .i64 (if n < 0 then 0 else n), .bool d]) (.agg #[.int .i64 0, .bool false])] false .select w es →
        step Tryz.prog (solo (G fr cs) w) = .next (solo (G (fr.finish (.tuple #[goInt (-1), .bool false])) cs) w) := by
      intro fr cs es hst
      exact step_lone_select_send_full hst hch (by simp [Hl.out])
    go_enter Tryz.func30, Tryz.ntmps30
    go_upto_region 3 with (fail)
    refine wp_region_sel (cases := #[scase c (.agg #[.int .i64 (if n < 0 then 0 else n), .bool d]) (.agg #[.int .i64 0, .bool false])]) (w₁ := w) rfl (by simp [go_sem, execOp, scase, Act.eval, hz]) hstep ?_
    clear hstep
    go_wp2
    all_goals
      go_ret
      have hlen := Hlen.out
      have hl := Hl.out
      exact .inr ⟨by omega, rfl, rfl⟩


/-- Arm where there is room. -/
theorem arm_ok (w : World) (f c : Nat) (armed : Bool) (Q : List (Int × Bool)) (n : Int) (d : Bool) (hn : n ≤ 9223372036854775807) (h : FuseQ w f c armed Q) (hl : Q.length < 16 + armed.toNat) :
    Calls Tryz.prog 30 #[.pointer (some ⟨f, 0, none⟩), .int .i64 n, .bool d] w fun e w' => e = .returned (.int .i64 0) ∧ FuseQ w' f c armed (Q ++ [(max n 0, d)]) ∧ Keeps [f, c] w w' := by
  refine (arm_spec w f c armed Q n d hn h).mono ?_
  rintro e w' (⟨_, h1, h2, h3⟩ | ⟨hbad, _, _⟩)
  · exact ⟨h1, h2, h3⟩
  · omega


/-- One waiting fault is taken off. -/
theorem FuseAt.pop {w : World} {f c : Nat} {now x : Int × Bool} {armed : Bool} {wait : List (Int × Bool)} (h : FuseAt w f c now armed (x :: wait)) (s r : Nat) (hch : w.heap[c]? = some (.chan 16 ((x :: wait).map encF).toArray false s r false)) :
    FuseAt (w.setChan c 16 ((wait.map encF).toArray) false s (r + 1) false) f c now armed wait := by
  have hne : f ≠ c := ne_of_at h.cells hch (by simp)
  refine ⟨(heap_set_other _ hne).trans h.cells, ⟨s, r + 1, heap_set_same hch _⟩, ?_, h.nowOk, fun y hy => h.waitOk y (by simp [hy])⟩
  have := h.len
  simp at this
  omega


def ClearPost (w : World) (f c : Nat) (e : Ending) (w' : World) : Prop :=
  e = .returned (.tuple #[]) ∧ FuseQ w' f c false [] ∧ Keeps [f, c] w w'



/-- What Do answers: the act's own error, or that the call failed. -/
def doErr (Q : List (Int × Bool)) (n : Int) : Int := if tryWorks Q = false ∧ n = 0 then 8 else n


/-- Do with an act of which R says what it does. -/
def DoPost (w : World) (f c : Nat) (Q : List (Int × Bool)) (R : World → Int → Prop) (e : Ending) (w' : World) : Prop :=
  (tryDone Q = true ∧ ∃ n, R w' n ∧ e = .returned (.int .i64 (doErr Q n))) ∨
  (tryDone Q = false ∧ e = .returned (.int .i64 8) ∧ FuseQ w' f c (tryArmed Q) (tryQ Q) ∧ Keeps [f, c] w w')


def ActPost (R : World → Int → Prop) (e : Ending) (w' : World) : Prop := ∃ n, e = .returned (.int .i64 n) ∧ R w' n


set_option maxHeartbeats 400000 in
theorem do_spec (w : World) (f c : Nat) (armed : Bool) (Q : List (Int × Bool)) (h : FuseQ w f c armed Q) (fn : FuncId) (cap : Array Value) (R : World → Int → Prop) (hfn : GoFn Tryz.prog fn)
    (hact : tryDone Q = true → ∀ w1, FuseQ w1 f c (tryArmed Q) (tryQ Q) → Keeps [f, c] w w1 → Calls Tryz.prog fn cap w1 (ActPost R)) :
    Calls Tryz.prog 63 #[.pointer (some ⟨f, 0, none⟩), .func (.func fn) #[] cap] w (DoPost w f c Q R) := by
  have Hact := Lib.hid hact
  clear hact
  go_enter Tryz.func63, Tryz.ntmps63
  go_wp2_with fail
  refine (try_spec w f c armed Q h).mono ?_
  rintro e w1 ⟨rfl, hq1, hk1⟩
  have hwd := tryDone_of Q
  generalize htw : tryWorks Q = tw at hwd ⊢
  generalize htd : tryDone Q = td at hwd ⊢
  have Htw := Lib.hid htw
  have Htd := Lib.hid htd
  clear htw htd
  cases td
  · cases tw
    · go_wp2_with fail
      go_ret
      exact .inr ⟨Htd.out, rfl, hq1, hk1⟩
    · simp at hwd
  · clear hwd
    go_wp2_with (refine wpList_call_value rfl _ _ _ rfl fn #[] cap rfl hfn ?_)
    refine (Hact.out (Htd.out) w1 hq1 hk1).mono ?_
    rintro e w2 ⟨n, rfl, hR⟩
    dsimp only
    by_cases hn : n = 0 <;> cases tw
    all_goals
      go_wp2
      go_ret
      refine .inl ⟨Htd.out, n, hR, ?_⟩
      simp [doErr, Htw.out, hn]


theorem arm_weak (w : World) (f c : Nat) (armed : Bool) (Q : List (Int × Bool)) (n : Int) (d : Bool) (hn : n ≤ 9223372036854775807) (h : FuseQ w f c armed Q) :
    Calls Tryz.prog 30 #[.pointer (some ⟨f, 0, none⟩), .int .i64 n, .bool d] w fun e w' => ∃ r Q', e = .returned (.int .i64 r) ∧ FuseQ w' f c armed Q' ∧ Keeps [f, c] w w' := by
  refine (arm_spec w f c armed Q n d hn h).mono ?_
  rintro e w' (⟨_, rfl, h2, h3⟩ | ⟨_, rfl, rfl⟩)
  · exact ⟨_, _, rfl, h2, h3⟩
  · exact ⟨_, _, rfl, h, Keeps.refl _ _⟩


end Go.Proofs.YtjffdcflkkgpfaaGreat
