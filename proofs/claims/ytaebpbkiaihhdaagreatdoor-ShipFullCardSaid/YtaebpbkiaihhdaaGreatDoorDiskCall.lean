/-
  The calls of the disk: New, Used, Free, Append, Sync, Truncate, Rename, Remove, Read.
  Each contract holds for every world in which the disk's blocks are laid as DiskAt says.
-/
import Derived.Test.YtaebpbkiaihhdaaGreatDoorDisk
import Derived.BigQuiet
import Derived.Deep.QuietTactic
import Derived.Deep.CutRange
import Derived.Deep.CutBlock
namespace Go.Proofs.YtaebpbkiaihhdaaGreatDoor
open Go Go.RowKit Go.Conc

/-- What a call leaves: r: the error that it has of its own; else the fuse is tried. -/
def opErr (r : Option Int) (Q : List (Int × Bool)) : Int := r.getD (ioErr Q)

def opArmed (r : Option Int) (armed : Bool) (Q : List (Int × Bool)) : Bool := if r.isSome then armed else tryArmed Q

def opQ (r : Option Int) (Q : List (Int × Bool)) : List (Int × Bool) := if r.isSome then Q else tryQ Q

def opO (r : Option Int) (Q : List (Int × Bool)) (o o' : List (ByteArray × Ob)) : List (ByteArray × Ob) := if r.isSome then o else chg Q o o'

def OpPost (w : World) (d f c mb : Nat) (armed : Bool) (Q : List (Int × Bool)) (room : Nat) (o : List (ByteArray × Ob)) (r : Option Int) (o' : List (ByteArray × Ob)) (e : Ending) (w' : World) : Prop :=
  e = .returned (.int .i64 (opErr r Q)) ∧ DiskAt w' d f c mb (opArmed r armed Q) (opQ r Q) room (opO r Q o o') ∧ Keeps [f, c, mb, d] w w'


/-- Do, of an act of the disk. -/
theorem doDisk_spec (w0 w : World) (d f c mb : Nat) (armed : Bool) (Q : List (Int × Bool)) (room : Nat) (o o' : List (ByteArray × Ob)) (p : List Nat) (hk0 : Keeps [] w0 w) (h : DiskAt w d f c mb armed Q room o) (hp : ∀ x ∈ p, w0.heap.size ≤ x)
    (fn : FuncId) (cap : Array Value) (hfn : GoFn Tryz.prog fn)
    (hact : ∀ w1, DiskAt w1 d f c mb (tryArmed Q) (tryQ Q) room o → Keeps [f, c] w w1 → Calls Tryz.prog fn cap w1 (ActPost fun w' r => r = 0 ∧ DiskAt w' d f c mb (tryArmed Q) (tryQ Q) room o' ∧ Keeps (mb :: d :: p) w1 w')) :
    Calls Tryz.prog 76 #[.pointer (some ⟨f, 0, none⟩), .func (.func fn) #[] cap] w (OpPost w0 d f c mb armed Q room o none o') := by
  refine (do_spec w f c armed Q h.fuse fn cap (fun w' r => r = 0 ∧ DiskAt w' d f c mb (tryArmed Q) (tryQ Q) room o' ∧ Keeps [f, c, mb, d] w0 w') hfn ?_).mono ?_
  · intro _ w1 hq1 hk1
    refine (hact w1 (h.tried hk1 hq1) hk1).mono ?_
    rintro e w2 ⟨r, rfl, rfl, hD, hk2⟩
    refine ⟨0, rfl, rfl, hD, ((hk0.mono (S' := [f, c, mb, d]) (by simp)).after hk1 (by simp)).after hk2 ?_⟩
    intro x hx
    simp only [List.mem_cons] at hx ⊢
    rcases hx with rfl | rfl | hx
    · simp
    · simp
    · exact .inr (hp x hx)
  · rintro e w' (⟨hd, n, ⟨rfl, hD, hk⟩, rfl⟩ | ⟨hd, rfl, hq, hk⟩)
    · refine ⟨?_, by simpa [opArmed, opQ, opO, chg, hd] using hD, hk⟩
      simp [opErr, doErr, ioErr]
      cases tryWorks Q <;> simp
    · refine ⟨?_, by simpa [opArmed, opQ, opO, chg, hd] using h.tried hk hq, (hk0.mono (by simp)).after hk (by simp)⟩
      simp [opErr, ioErr, notDone hd]


theorem op_own {w w' : World} {d f c mb : Nat} {armed : Bool} {Q : List (Int × Bool)} {room : Nat} {o o' : List (ByteArray × Ob)} {r : Option Int} {n : Int} (hr : r = some n) (h : DiskAt w d f c mb armed Q room o) (k : Keeps [] w w') :
    OpPost w d f c mb armed Q room o r o' (.returned (.int .i64 n)) w' := by
  subst hr
  exact ⟨rfl, h.same k, k.mono (by simp)⟩

theorem op_none {w : World} {d f c mb : Nat} {armed : Bool} {Q : List (Int × Bool)} {room : Nat} {o o' : List (ByteArray × Ob)} {r : Option Int} (hr : r = none) {e : Ending} {w' : World} (h : OpPost w d f c mb armed Q room o none o' e w') : OpPost w d f c mb armed Q room o r o' e w' := by
  subst hr
  exact h


theorem goFn_app : GoFn Tryz.prog 112 := ⟨_, Tryz.func112, by kernel_rfl, by kernel_rfl⟩

theorem goFn_sync : GoFn Tryz.prog 113 := ⟨_, Tryz.func113, by kernel_rfl, by kernel_rfl⟩


theorem goFn_ren : GoFn Tryz.prog 114 := ⟨_, Tryz.func114, by kernel_rfl, by kernel_rfl⟩

theorem goFn_remove : GoFn Tryz.prog 93 := ⟨_, Tryz.func93, by kernel_rfl, by kernel_rfl⟩

section
variable (w : World) (d f c mb : Nat) (armed : Bool) (Q : List (Int × Bool)) (room : Nat) (o : List (ByteArray × Ob))

set_option maxHeartbeats 400000 in
theorem used_spec (h : DiskAt w d f c mb armed Q room o) : Calls Tryz.prog 31 #[.pointer (some ⟨d, 0, none⟩)] w fun e w' => e = .returned (.int .i64 (used o)) ∧ w = w' := by
  have cd := cells_at h.cells
  go_enter Tryz.func31, Tryz.ntmps31
  go_wp2_with fail
  go_ret
  exact ⟨rfl, rfl⟩


set_option maxHeartbeats 400000 in
theorem free_spec (h : DiskAt w d f c mb armed Q room o) : Calls Tryz.prog 44 #[.pointer (some ⟨d, 0, none⟩)] w fun e w' => e = .returned (.int .i64 ((room : Int) - used o)) ∧ ∃ n, w' = w.drewN n := by
  have cd := cells_at h.cells
  have hr := h.roomOk
  have hf := h.fits
  have b0 : (0 : Int) ≤ (room : Int) - (used o : Int) := by omega
  have b1 : (room : Int) ≤ 9223372036854775807 := by omega
  clear h
  go_enter Tryz.func44, Tryz.ntmps44
  go_wp2_with fail
  go_quiet (fail)
  go_wp2_with fail
  go_ret
  exact ⟨rfl, _, rfl⟩


set_option maxRecDepth 100000 in
set_option maxHeartbeats 1000000 in
theorem append_spec (h : DiskAt w d f c mb armed Q room o) (n s : ByteArray) (hn : n.size ≤ 9223372036854775807) :
    Calls Tryz.prog 83 #[.pointer (some ⟨d, 0, none⟩), .string n, .string s] w (OpPost w d f c mb armed Q room o (appR room o n s) (appO o n s)) := by
  have hk := (((Keeps.refl [] w).alloc (.cells #[.pointer (some ⟨d, 0, none⟩)] 54)).alloc (.cells #[.string n] 9)).alloc (.cells #[.string s] 9)
  obtain ⟨n1, n2, n3⟩ := new3 w (.cells #[.pointer (some ⟨d, 0, none⟩)] 54) (.cells #[.string n] 9) (.cells #[.string s] 9)
  have hD := h.same hk
  have H := Lib.hid (And.intro n1 (And.intro n2 (And.intro n3 (And.intro hk (And.intro hD h)))))
  have cd := cells_at h.cells
  obtain ⟨ld, lf, lc, lm⟩ := h.lt
  obtain ⟨q1, q2, q3, q4, q5, q6⟩ := lt_more ld
  clear n1 n2 n3 hk hD h
  by_cases h0 : n.size = 0
  · obtain ⟨e1, e2⟩ := is_empty h0
    have hr : appR room o n s = some 1 := by simp [appR, h0]
    have Hr := Lib.hid hr
    clear h0 hr
    go_enter Tryz.func83, Tryz.ntmps83
    go_wp2_with fail
    go_ret
    exact op_own Hr.out H.out.2.2.2.2.2 H.out.2.2.2.1
  · obtain ⟨e1, e2⟩ := ne_empty h0
    by_cases h4 : 40 < n.size
    · have h41 : decide ((n.size : Int) > 40) = true := by simp; omega
      have hr : appR room o n s = some 1 := by simp [appR, h4]
      have Hr := Lib.hid hr
      clear h0 hr
      go_enter Tryz.func83, Tryz.ntmps83
      go_wp2_with fail
      go_ret
      exact op_own Hr.out H.out.2.2.2.2.2 H.out.2.2.2.1
    · have h41 : decide ((n.size : Int) > 40) = false := by simp; omega
      by_cases hroom : room < used o + s.size
      · have hr : appR room o n s = some 7 := by simp [appR, h0, h4, hroom]
        have Hr := Lib.hid hr
        have hlt : (room : Int) - (used o : Int) < (s.size : Int) := by omega
        clear h0 h4 hr hroom
        go_enter Tryz.func83, Tryz.ntmps83
        go_wp2_with fail
        go_quiet ((go_at_call 44; exact Calls.quiet_of (free_spec _ d f c mb armed Q room o (H.out.2.2.2.2.1.same ((Keeps.refl [] _).drewN _)))))
        go_wp2_with fail
        go_ret
        exact op_own Hr.out H.out.2.2.2.2.2 (H.out.2.2.2.1.drewN nq)
      · have hr : appR room o n s = none := by simp [appR, h0, h4, hroom]
        have Hr := Lib.hid hr
        have hlt : ¬ (room : Int) - (used o : Int) < (s.size : Int) := by omega
        clear h0 h4 hr
        go_enter Tryz.func83, Tryz.ntmps83
        go_wp2_with fail
        go_quiet ((go_at_call 44; exact Calls.quiet_of (free_spec _ d f c mb armed Q room o (H.out.2.2.2.2.1.same ((Keeps.refl [] _).drewN _)))))
        go_wp2_with fail
        refine (doDisk_spec w _ d f c mb armed Q room o (appO o n s) [] (H.out.2.2.2.1.drewN nq) (H.out.2.2.2.2.1.same ((Keeps.refl [] _).drewN _)) (by simp) _ _ goFn_app ?_).mono ?_
        · intro w1 hD1 hk1
          exact appAct w1 _ _ _ d f c mb _ _ room o n s (hk1.at_ (w := (((w.alloc (.cells #[.pointer (some ⟨d, 0, none⟩)] 54)).alloc (.cells #[.string n] 9)).alloc (.cells #[.string s] 9)).drewN nq) H.out.1 (by simp; omega)) (hk1.at_ (w := (((w.alloc (.cells #[.pointer (some ⟨d, 0, none⟩)] 54)).alloc (.cells #[.string n] 9)).alloc (.cells #[.string s] 9)).drewN nq) H.out.2.1 (by simp; omega)) (hk1.at_ (w := (((w.alloc (.cells #[.pointer (some ⟨d, 0, none⟩)] 54)).alloc (.cells #[.string n] 9)).alloc (.cells #[.string s] 9)).drewN nq) H.out.2.2.1 (by simp; omega)) hD1 (by omega)
        · rintro e w' ⟨rfl, hD, hk⟩
          go_wp2_with fail
          go_ret
          exact op_none Hr.out ⟨rfl, hD, hk⟩


/-- What the lookup of a file leaves: the file in a block of its own. -/
def GotFile (w0 : World) (q : Nat) (o : List (ByteArray × Ob)) (n : ByteArray) (wc : World) : Prop :=
  Keeps [] w0 wc ∧ wc.heap[q]? = some (.cells #[.string (obOr (look o n)).1, .int .i64 (obOr (look o n)).2] 109 (0, 0))


set_option maxRecDepth 100000 in
set_option maxHeartbeats 1000000 in
theorem sync_spec (h : DiskAt w d f c mb armed Q room o) (n : ByteArray) :
    Calls Tryz.prog 84 #[.pointer (some ⟨d, 0, none⟩), .string n] w (OpPost w d f c mb armed Q room o (noneR o n) (syncO o n)) := by
  have hk := ((Keeps.refl [] w).alloc (.cells #[.pointer (some ⟨d, 0, none⟩)] 54)).alloc (.cells #[.string n] 9)
  obtain ⟨n1, n2⟩ := new2 w (.cells #[.pointer (some ⟨d, 0, none⟩)] 54) (.cells #[.string n] 9)
  have hD := h.same hk
  have hsz : ((w.alloc (.cells #[.pointer (some ⟨d, 0, none⟩)] 54)).alloc (.cells #[.string n] 9)).heap.size = w.heap.size + 1 + 1 := by simp
  obtain ⟨ld, lf, lc, lm⟩ := h.lt
  go_enter Tryz.func84, Tryz.ntmps84
  go_wp2_with fail
  generalize (w.alloc (.cells #[.pointer (some ⟨d, 0, none⟩)] 54)).alloc (.cells #[.string n] 9) = W2 at n1 n2 hD hk hsz ⊢
  have c1 := cells_at n1
  have c2 := cells_at n2
  have cd := cells_at hD.cells
  have l2 : d < W2.heap.size := by omega
  have l3 := lt_of_at n1
  have l4 := lt_of_at n2
  have hrun0 := hD.drew.run_look n
  have hrun1 := (hD.same ((Keeps.refl [] W2).alloc (.cells #[.string ⟨#[]⟩, .int .i64 0] 109))).drew.run_look n
  have H := Lib.hid (And.intro n1 (And.intro n2 (And.intro hk (And.intro hD (And.intro h hsz)))))
  clear n1 n2 hD hk h hsz
  go_cut [5, 6] from 7 to 23 (fun u5 u6 wc => u5 = .pointer (some ⟨W2.heap.size, 0, none⟩) ∧ u6 = .bool (look o n).isSome ∧ GotFile W2 W2.heap.size o n wc)
  case first =>
    go_region_held3 (fun w' => w'.cell? ⟨w.heap.size, 0, none⟩ = some (.pointer (some ⟨d, 0, none⟩)) ∧ w'.cell? ⟨d, 1, none⟩ = some (.map (some mb)) ∧ w'.cell? ⟨w.heap.size + 1, 0, none⟩ = some (.string n)) (first | go_keep) (fail)
    all_goals
      go_wp2_with fail
      go_meet
      case rel => exact ⟨rfl, rfl, (Keeps.refl [] W2).alloc _ |>.drew, heap_new W2 _⟩
  case rest =>
    obtain ⟨rfl, rfl, k3, q3⟩ := hcut
    have l5 := lt_of_at q3
    have D3 := H.out.2.2.2.1.same k3
    have n1 := k3.at_ H.out.1 (by simp)
    have n2 := k3.at_ H.out.2.1 (by simp)
    have k03 := H.out.2.2.1.trans k3
    clear c1 c2 cd l2 l3 l4 hrun0 hrun1
    cases hl : (look o n).isSome with
    | false =>
      have Hr : Hid (noneR o n = some 5) := Lib.hid (by simp [noneR, hl])
      have Hk := Lib.hid k03
      clear hl k3 q3 D3 n1 n2 k03
      go_wp2_with fail
      go_ret
      exact op_own Hr.out H.out.2.2.2.2.1 Hk.out
    | true =>
      have Hr : Hid (noneR o n = none) := Lib.hid (by simp [noneR, hl])
      have c1 := cells_at n1
      have cd := cells_at D3.cells
      have l6 : w.heap.size + 1 + 1 ≤ W2.heap.size := Nat.le_of_eq H.out.2.2.2.2.2.symm
      have Hk := Lib.hid (And.intro k03 (And.intro D3 (And.intro n1 (And.intro n2 q3))))
      clear hl k3 q3 D3 n1 n2 k03
      go_wp2_with fail
      refine (doDisk_spec w wc d f c mb armed Q room o (syncO o n) [W2.heap.size] Hk.out.1 Hk.out.2.1 (by simp; omega) _ _ goFn_sync ?_).mono ?_
      · intro w1 hD1 hk1
        exact syncAct w1 _ _ _ d f c mb _ _ room o n (hk1.at_ Hk.out.2.2.1 (by simp; omega)) (hk1.at_ Hk.out.2.2.2.1 (by simp; omega)) (hk1.at_ Hk.out.2.2.2.2 (by simp; omega)) hD1
      · rintro e w' ⟨rfl, hD, hk⟩
        go_wp2_with fail
        go_ret
        exact op_none Hr.out ⟨rfl, hD, hk⟩


set_option maxRecDepth 100000 in
set_option maxHeartbeats 1000000 in
theorem ren_spec (h : DiskAt w d f c mb armed Q room o) (n k : ByteArray) (hks : k.size ≤ 9223372036854775807) :
    Calls Tryz.prog 85 #[.pointer (some ⟨d, 0, none⟩), .string n, .string k] w (OpPost w d f c mb armed Q room o (renR o n k) (renO o n k)) := by
  have hk := (((Keeps.refl [] w).alloc (.cells #[.pointer (some ⟨d, 0, none⟩)] 54)).alloc (.cells #[.string n] 9)).alloc (.cells #[.string k] 9)
  obtain ⟨n1, n2, n4⟩ := new3 w (.cells #[.pointer (some ⟨d, 0, none⟩)] 54) (.cells #[.string n] 9) (.cells #[.string k] 9)
  have hD := h.same hk
  have hsz : (((w.alloc (.cells #[.pointer (some ⟨d, 0, none⟩)] 54)).alloc (.cells #[.string n] 9)).alloc (.cells #[.string k] 9)).heap.size = w.heap.size + 1 + 1 + 1 := by simp
  obtain ⟨ld, lf, lc, lm⟩ := h.lt
  go_enter Tryz.func85, Tryz.ntmps85
  go_wp2_with fail
  generalize ((w.alloc (.cells #[.pointer (some ⟨d, 0, none⟩)] 54)).alloc (.cells #[.string n] 9)).alloc (.cells #[.string k] 9) = W2 at n1 n2 n4 hD hk hsz ⊢
  have c1 := cells_at n1
  have c2 := cells_at n2
  have cd := cells_at hD.cells
  have l2 : d < W2.heap.size := by omega
  have l3 := lt_of_at n1
  have l4 := lt_of_at n2
  have hrun0 := hD.drew.run_look n
  have hrun1 := (hD.same ((Keeps.refl [] W2).alloc (.cells #[.string ⟨#[]⟩, .int .i64 0] 109))).drew.run_look n
  have H := Lib.hid (And.intro n1 (And.intro n2 (And.intro hk (And.intro hD (And.intro h (And.intro hsz n4))))))
  clear n1 n2 n4 hD hk h hsz
  go_cut [7, 8] from 9 to 34 (fun u5 u6 wc => u5 = .pointer (some ⟨W2.heap.size, 0, none⟩) ∧ u6 = .bool (look o n).isSome ∧ GotFile W2 W2.heap.size o n wc)
  case first =>
    go_region_held3 (fun w' => w'.cell? ⟨w.heap.size, 0, none⟩ = some (.pointer (some ⟨d, 0, none⟩)) ∧ w'.cell? ⟨d, 1, none⟩ = some (.map (some mb)) ∧ w'.cell? ⟨w.heap.size + 1, 0, none⟩ = some (.string n)) (first | go_keep) (fail)
    all_goals
      go_wp2_with fail
      go_meet
      case rel => exact ⟨rfl, rfl, (Keeps.refl [] W2).alloc _ |>.drew, heap_new W2 _⟩
  case rest =>
    obtain ⟨rfl, rfl, k3, q3⟩ := hcut
    have l5 := lt_of_at q3
    have D3 := H.out.2.2.2.1.same k3
    have n1 := k3.at_ H.out.1 (by simp)
    have n2 := k3.at_ H.out.2.1 (by simp)
    have k03 := H.out.2.2.1.trans k3
    clear c1 c2 cd l2 l3 l4 hrun0 hrun1
    cases hl : (look o n).isSome with
    | false =>
      have Hr : Hid (renR o n k = some 5) := Lib.hid (by simp [renR, hl])
      have Hk := Lib.hid k03
      clear hl k3 q3 D3 n1 n2 k03
      go_wp2_with fail
      go_ret
      exact op_own Hr.out H.out.2.2.2.2.1 Hk.out
    | true =>
      have n4 := k3.at_ H.out.2.2.2.2.2.2 (by simp)
      have c1 := cells_at n1
      have c4 := cells_at n4
      have c3 := cells_at q3
      have cd := cells_at D3.cells
      have l6 : w.heap.size + 1 + 1 + 1 ≤ W2.heap.size := Nat.le_of_eq H.out.2.2.2.2.2.1.symm
      by_cases hbad : k.size = 0 ∨ 40 < k.size
      · have Hr : Hid (renR o n k = some 1) := Lib.hid (by unfold renR; rw [if_pos hl, if_pos hbad])
        have Hk := Lib.hid k03
        have Hb := Lib.hid hbad
        clear hl k3 q3 D3 n1 n2 n4 k03 hbad
        by_cases h0 : k.size = 0
        · obtain ⟨e1, e2⟩ := is_empty h0
          clear h0
          go_wp2_with fail
          go_ret
          exact op_own Hr.out H.out.2.2.2.2.1 Hk.out
        · obtain ⟨e1, e2⟩ := ne_empty h0
          have h41 : decide ((k.size : Int) > 40) = true := by have := Hb.out; simp; omega
          clear h0
          go_wp2_with fail
          go_ret
          exact op_own Hr.out H.out.2.2.2.2.1 Hk.out
      · have Hr : Hid (renR o n k = none) := Lib.hid (by unfold renR; rw [if_pos hl, if_neg hbad])
        obtain ⟨e1, e2⟩ := ne_empty (s := k) (by omega)
        have h41 : decide ((k.size : Int) > 40) = false := by simp; omega
        have Hk := Lib.hid (And.intro k03 (And.intro D3 (And.intro n1 (And.intro n2 (And.intro q3 n4)))))
        clear hl k3 q3 D3 n1 n2 n4 k03 hbad
        go_wp2_with fail
        refine (doDisk_spec w wc d f c mb armed Q room o (renO o n k) [W2.heap.size] Hk.out.1 Hk.out.2.1 (by simp; omega) _ _ goFn_ren ?_).mono ?_
        · intro w1 hD1 hk1
          exact renAct w1 _ _ _ _ d f c mb _ _ room o n k (hk1.at_ Hk.out.2.2.1 (by simp; omega)) (hk1.at_ Hk.out.2.2.2.2.2 (by simp; omega)) (hk1.at_ Hk.out.2.2.2.2.1 (by simp; omega)) (hk1.at_ Hk.out.2.2.2.1 (by simp; omega)) hD1
        · rintro e w' ⟨rfl, hD, hk⟩
          go_wp2_with fail
          go_ret
          exact op_none Hr.out ⟨rfl, hD, hk⟩


set_option maxRecDepth 100000 in
set_option maxHeartbeats 1000000 in
theorem remove_spec (h : DiskAt w d f c mb armed Q room o) (n : ByteArray) :
    Calls Tryz.prog 51 #[.pointer (some ⟨d, 0, none⟩), .string n] w (OpPost w d f c mb armed Q room o (noneR o n) (del o n)) := by
  have hk := ((Keeps.refl [] w).alloc (.cells #[.pointer (some ⟨d, 0, none⟩)] 54)).alloc (.cells #[.string n] 9)
  obtain ⟨n1, n2⟩ := new2 w (.cells #[.pointer (some ⟨d, 0, none⟩)] 54) (.cells #[.string n] 9)
  have hD := h.same hk
  have hsz : ((w.alloc (.cells #[.pointer (some ⟨d, 0, none⟩)] 54)).alloc (.cells #[.string n] 9)).heap.size = w.heap.size + 1 + 1 := by simp
  obtain ⟨ld, lf, lc, lm⟩ := h.lt
  go_enter Tryz.func51, Tryz.ntmps51
  go_wp2_with fail
  generalize (w.alloc (.cells #[.pointer (some ⟨d, 0, none⟩)] 54)).alloc (.cells #[.string n] 9) = W2 at n1 n2 hD hk hsz ⊢
  have c1 := cells_at n1
  have c2 := cells_at n2
  have cd := cells_at hD.cells
  have l2 : d < W2.heap.size := by omega
  have l3 := lt_of_at n1
  have l4 := lt_of_at n2
  have hrun0 := hD.drew.run_look n
  have hrun1 := (hD.same ((Keeps.refl [] W2).alloc (.cells #[.string ⟨#[]⟩, .int .i64 0] 109))).drew.run_look n
  have H := Lib.hid (And.intro n1 (And.intro n2 (And.intro hk (And.intro hD (And.intro h hsz)))))
  clear n1 n2 hD hk h hsz
  go_cut [5, 6] from 7 to 23 (fun u5 u6 wc => u5 = .pointer (some ⟨W2.heap.size, 0, none⟩) ∧ u6 = .bool (look o n).isSome ∧ GotFile W2 W2.heap.size o n wc)
  case first =>
    go_region_held3 (fun w' => w'.cell? ⟨w.heap.size, 0, none⟩ = some (.pointer (some ⟨d, 0, none⟩)) ∧ w'.cell? ⟨d, 1, none⟩ = some (.map (some mb)) ∧ w'.cell? ⟨w.heap.size + 1, 0, none⟩ = some (.string n)) (first | go_keep) (fail)
    all_goals
      go_wp2_with fail
      go_meet
      case rel => exact ⟨rfl, rfl, (Keeps.refl [] W2).alloc _ |>.drew, heap_new W2 _⟩
  case rest =>
    obtain ⟨rfl, rfl, k3, q3⟩ := hcut
    have l5 := lt_of_at q3
    have D3 := H.out.2.2.2.1.same k3
    have n1 := k3.at_ H.out.1 (by simp)
    have n2 := k3.at_ H.out.2.1 (by simp)
    have k03 := H.out.2.2.1.trans k3
    clear c1 c2 cd l2 l3 l4 hrun0 hrun1
    cases hl : (look o n).isSome with
    | false =>
      have Hr : Hid (noneR o n = some 5) := Lib.hid (by simp [noneR, hl])
      have Hk := Lib.hid k03
      clear hl k3 q3 D3 n1 n2 k03
      go_wp2_with fail
      go_ret
      exact op_own Hr.out H.out.2.2.2.2.1 Hk.out
    | true =>
      have Hr : Hid (noneR o n = none) := Lib.hid (by simp [noneR, hl])
      have c1 := cells_at n1
      have cd := cells_at D3.cells
      have l6 : w.heap.size + 1 + 1 ≤ W2.heap.size := Nat.le_of_eq H.out.2.2.2.2.2.symm
      have Hk := Lib.hid (And.intro k03 (And.intro D3 (And.intro n1 (And.intro n2 q3))))
      clear hl k3 q3 D3 n1 n2 k03
      go_wp2_with fail
      refine (doDisk_spec w wc d f c mb armed Q room o (del o n) [W2.heap.size] Hk.out.1 Hk.out.2.1 (by simp; omega) _ _ goFn_remove ?_).mono ?_
      · intro w1 hD1 hk1
        exact removeAct w1 _ _ _ d f c mb _ _ room o n (hk1.at_ Hk.out.2.2.1 (by simp; omega)) (hk1.at_ Hk.out.2.2.2.1 (by simp; omega)) (hk1.at_ Hk.out.2.2.2.2 (by simp; omega)) hD1
      · rintro e w' ⟨rfl, hD, hk⟩
        go_wp2_with fail
        go_ret
        exact op_none Hr.out ⟨rfl, hD, hk⟩
end

set_option maxRecDepth 100000 in
set_option maxHeartbeats 1000000 in
theorem newDisk_spec (w : World) (n : Int) (hn : n ≤ 9223372036854775807) :
    Calls Tryz.prog 19 #[.int .i64 n] w fun e w' => ∃ d f c mb, e = .returned (.pointer (some ⟨d, 0, none⟩)) ∧ DiskAt w' d f c mb false [] (max n 0).toNat [] ∧ Keeps [] w w' ∧ w.heap.size ≤ d ∧ w.heap.size ≤ f ∧ w.heap.size ≤ c ∧ w.heap.size ≤ mb := by
  have hmm := @run_makeMap Tryz.prog
  go_enter Tryz.func19, Tryz.ntmps19
  go_wp2_with fail
  refine (newFuse_spec _).mono ?_
  rintro e w1 ⟨rfl, hq1, hk1, hs1⟩
  go_wp2_with fail
  go_ret
  have hk2 : Keeps [] w1 ((w1.alloc (.map #[] 0)).alloc (.cells #[.pointer (some ⟨w.heap.size + 1, 0, none⟩), .map (some (w.heap.size + 2)), .int .i64 (max n 0), .int .i64 0] 67)) := ((Keeps.refl [] w1).alloc _).alloc _
  obtain ⟨n1, n2⟩ := new2 w1 (.map #[] 0) (.cells #[.pointer (some ⟨w.heap.size + 1, 0, none⟩), .map (some (w.heap.size + 2)), .int .i64 (max n 0), .int .i64 0] 67)
  rw [hs1] at n1 n2
  have hmx : ((max n 0).toNat : Int) = max n 0 := by omega
  refine ⟨w.heap.size + 2 + 1, w.heap.size + 1, w.heap.size, w.heap.size + 2, rfl, ⟨?_, hq1.keep hk2 (by simp) (by simp), ⟨[], 0, n1, ⟨by simp, by simp, by simp⟩, rfl⟩, by omega, by simp [used], sure_nil⟩, hk1.trans hk2, by omega, by omega, by omega, by omega⟩
  rw [hmx]
  exact n2


set_option maxRecDepth 100000 in
set_option maxHeartbeats 1000000 in
theorem read_spec (w : World) (d f c mb : Nat) (armed : Bool) (Q : List (Int × Bool)) (room : Nat) (o : List (ByteArray × Ob)) (h : DiskAt w d f c mb armed Q room o) (n : ByteArray) :
    Calls Tryz.prog 26 #[.pointer (some ⟨d, 0, none⟩), .string n] w fun e w' => e = .returned (.tuple #[.string (obOr (look o n)).1, .int .i64 (if (look o n).isSome then 0 else 5)]) ∧ Keeps [] w w' := by
  have cd := cells_at h.cells
  have hrun := h.run_look n
  have hk := (Keeps.refl [] w).alloc (.cells #[.string (obOr (look o n)).1, .int .i64 (obOr (look o n)).2] 109)
  cases hl : look o n with
  | none =>
    rw [hl] at hrun hk
    simp only [Option.isSome_none] at hrun
    clear hl
    go_enter Tryz.func26, Tryz.ntmps26
    go_wp2_with fail
    go_ret2
    exact ⟨rfl, hk⟩
  | some x =>
    rw [hl] at hrun hk
    simp only [Option.isSome_some] at hrun
    clear hl
    go_enter Tryz.func26, Tryz.ntmps26
    go_wp2_with fail
    go_ret2
    exact ⟨rfl, hk⟩

end Go.Proofs.YtaebpbkiaihhdaaGreatDoor
