/-
  The disk of package disk: its shape in memory, and what the acts of its calls do.
  Each contract holds for every world in which the disk's blocks are laid as DiskAt says.
-/
import Derived.Test.YtaebpbkiaihhdaaGreatDoorDiskLaw
import Derived.Test.YtaebpbkiaihhdaaGreatDoorFuse
import Derived.Test.YtaebpbkiaihhdaaGreatDoorOps
import Derived.Test.YtaebpbkiaihhdaaGreatDoorKeys
import Derived.StillTailTactics
import Derived.BigRegion
import Derived.Deep.RegionHeld3
namespace Go.Proofs.YtaebpbkiaihhdaaGreatDoor
open Go Go.RowKit Go.Conc

structure DiskAt (w : World) (d f c mb : Nat) (armed : Bool) (Q : List (Int × Bool)) (room : Nat) (o : List (ByteArray × Ob)) : Prop where
  cells : w.heap[d]? = some (.cells #[.pointer (some ⟨f, 0, none⟩), .map (some mb), .int .i64 room, .int .i64 (used o)] 67 (0, 0))
  fuse : FuseQ w f c armed Q
  map : MapAt w mb (encMap encOb o)
  roomOk : room ≤ 9223372036854775807
  fits : used o ≤ room
  sure : Sure o

section
variable {w w' : World} {d f c mb : Nat} {armed : Bool} {Q : List (Int × Bool)} {room : Nat} {o : List (ByteArray × Ob)}
theorem DiskAt.nodup (h : DiskAt w d f c mb armed Q room o) : (o.map (·.1)).Nodup := by have := h.map.nodup; rwa [keys_enc] at this

theorem DiskAt.lt (h : DiskAt w d f c mb armed Q room o) : d < w.heap.size ∧ f < w.heap.size ∧ c < w.heap.size ∧ mb < w.heap.size :=
  ⟨lt_of_at h.cells, h.fuse.lt.1, h.fuse.lt.2, h.map.lt⟩

theorem DiskAt.ne (h : DiskAt w d f c mb armed Q room o) : d ≠ f ∧ d ≠ c ∧ d ≠ mb ∧ f ≠ mb ∧ c ≠ mb := by
  obtain ⟨now, wait, hf, _⟩ := h.fuse
  obtain ⟨s, r, hc⟩ := hf.chan
  exact ⟨ne_of_at h.cells hf.cells (by simp), ne_of_at h.cells hc (by simp), h.map.ne h.cells, h.map.ne hf.cells, h.map.ne_chan hc⟩

theorem DiskAt.keep {S : List Nat} (h : DiskAt w d f c mb armed Q room o) (k : Keeps S w w') (hd : d ∉ S) (hf : f ∉ S) (hc : c ∉ S) (hm : mb ∉ S) : DiskAt w' d f c mb armed Q room o :=
  ⟨k.at_ h.cells hd, h.fuse.keep k hf hc, h.map.keep k hm, h.roomOk, h.fits, h.sure⟩

theorem DiskAt.keepNew {S : List Nat} (h : DiskAt w d f c mb armed Q room o) (k : Keeps S w w') (hS : ∀ x ∈ S, w.heap.size ≤ x) : DiskAt w' d f c mb armed Q room o := by
  obtain ⟨h1, h2, h3, h4⟩ := h.lt
  refine h.keep k ?_ ?_ ?_ ?_ <;> (intro hm; have := hS _ hm; omega)

theorem DiskAt.same (h : DiskAt w d f c mb armed Q room o) (k : Keeps [] w w') : DiskAt w' d f c mb armed Q room o := h.keepNew k (by simp)

theorem DiskAt.drew (h : DiskAt w d f c mb armed Q room o) : DiskAt w.drew d f c mb armed Q room o := h.same (Keeps.refl [] w).drew

theorem DiskAt.tried {a' : Bool} {Q' : List (Int × Bool)} (h : DiskAt w d f c mb armed Q room o) (k : Keeps [f, c] w w') (hf : FuseQ w' f c a' Q') : DiskAt w' d f c mb a' Q' room o := by
  obtain ⟨h1, h2, h3, h4, h5⟩ := h.ne
  exact ⟨k.at_ h.cells (by simp [h1, h2]), hf, h.map.keep k (by simp [h4.symm, h5.symm]), h.roomOk, h.fits, h.sure⟩

/-- The map and the count of bytes have turned. -/
theorem DiskAt.turn {o' : List (ByteArray × Ob)} {S : List Nat} (h : DiskAt w d f c mb armed Q room o) (k : Keeps S w w') (hf : f ∉ S) (hc : c ∉ S)
    (hcell : w'.heap[d]? = some (.cells #[.pointer (some ⟨f, 0, none⟩), .map (some mb), .int .i64 room, .int .i64 (used o')] 67 (0, 0))) (hm : MapAt w' mb (encMap encOb o')) (hfit : used o' ≤ room) (hs : Sure o') :
    DiskAt w' d f c mb armed Q room o' := ⟨hcell, h.fuse.keep k hf hc, hm, h.roomOk, hfit, hs⟩

/-- A block of a type that is neither a disk's nor a fuse's is none of the disk's. -/
theorem DiskAt.neBox {p : Nat} {cs : Array Value} {t : TypeId} {z : Nat × Nat} (h : DiskAt w d f c mb armed Q room o) (hp : w.heap[p]? = some (.cells cs t z)) (h1 : t ≠ 67) (h2 : t ≠ 105) : d ≠ p ∧ f ≠ p ∧ c ≠ p ∧ mb ≠ p := by
  obtain ⟨now, wait, hf0, _⟩ := h.fuse
  obtain ⟨s, r, hc0⟩ := hf0.chan
  exact ⟨ne_of_at h.cells hp (by intro e; injection e with _ e; exact h1 e.symm), ne_of_at hf0.cells hp (by intro e; injection e with _ e; exact h2 e.symm), ne_of_at hc0 hp (by intro e; injection e), fun e => h.map.ne hp e.symm⟩

theorem DiskAt.keepBox {p : Nat} {cs : Array Value} {t : TypeId} {z : Nat × Nat} (h : DiskAt w d f c mb armed Q room o) (k : Keeps [p] w w') (hp : w.heap[p]? = some (.cells cs t z)) (h1 : t ≠ 67) (h2 : t ≠ 105) : DiskAt w' d f c mb armed Q room o := by
  obtain ⟨n1, n2, n3, n4⟩ := h.neBox hp h1 h2
  exact h.keep k (by simpa using n1) (by simpa using n2) (by simpa using n3) (by simpa using n4)
end

theorem zeroFl (w : World) : (zeroValue 109).run Tryz.prog w = .ok (.agg #[.string ⟨#[]⟩, .int .i64 0]) w := by kernel_rfl

theorem fieldFl (a : ByteArray) (t : Int) (w : World) : (Instr.field 109 (.agg #[.string a, .int .i64 t]) 0).run Tryz.prog w = .ok (.string a) w := by kernel_rfl

theorem look_val (o : List (ByteArray × Ob)) (n : ByteArray) (ok : Bool) : lookVal (encMap encOb o) n (.agg #[.string ⟨#[]⟩, .int .i64 0]) ok =
    if ok then .tuple #[.agg #[.string (obOr (look o n)).1, .int .i64 (obOr (look o n)).2], .bool (look o n).isSome] else .agg #[.string (obOr (look o n)).1, .int .i64 (obOr (look o n)).2] := by
  unfold lookVal
  rw [look_enc]
  cases look o n <;> rfl


/-- The lookup of a file, in whatever world the disk stands. -/
theorem DiskAt.run_look {w : World} {d f c mb : Nat} {armed : Bool} {Q : List (Int × Bool)} {room : Nat} {o : List (ByteArray × Ob)} (h : DiskAt w d f c mb armed Q room o) (n : ByteArray) :
    (Instr.lookup 65 (.map (some mb)) (.string n) true).run Tryz.prog w = .ok (.tuple #[.agg #[.string (obOr (look o n)).1, .int .i64 (obOr (look o n)).2], .bool (look o n).isSome]) w := by
  have := h.map.run_lookup (P := Tryz.prog) Tryz.underlying65 Tryz.underlying9 (zeroFl _) n true
  rw [look_val] at this
  exact this

theorem DiskAt.run_look1 {w : World} {d f c mb : Nat} {armed : Bool} {Q : List (Int × Bool)} {room : Nat} {o : List (ByteArray × Ob)} (h : DiskAt w d f c mb armed Q room o) (n : ByteArray) :
    (Instr.lookup 65 (.map (some mb)) (.string n) false).run Tryz.prog w = .ok (.agg #[.string (obOr (look o n)).1, .int .i64 (obOr (look o n)).2]) w := by
  have := h.map.run_lookup (P := Tryz.prog) Tryz.underlying65 Tryz.underlying9 (zeroFl _) n false
  rw [look_val] at this
  exact this


set_option maxRecDepth 100000 in
set_option maxHeartbeats 1000000 in
theorem appAct (w : World) (pd pn ps d f c mb : Nat) (armed : Bool) (Q : List (Int × Bool)) (room : Nat) (o : List (ByteArray × Ob)) (n s : ByteArray)
    (h1 : w.heap[pd]? = some (.cells #[.pointer (some ⟨d, 0, none⟩)] 54 (0, 0))) (h2 : w.heap[pn]? = some (.cells #[.string n] 9 (0, 0))) (h3 : w.heap[ps]? = some (.cells #[.string s] 9 (0, 0)))
    (h : DiskAt w d f c mb armed Q room o) (hfit : used o + s.size ≤ room) :
    Calls Tryz.prog 112 #[.pointer (some ⟨pd, 0, none⟩), .pointer (some ⟨pn, 0, none⟩), .pointer (some ⟨ps, 0, none⟩)] w
      (ActPost fun w' r => r = 0 ∧ DiskAt w' d f c mb armed Q room (appO o n s) ∧ Keeps [mb, d] w w') := by
  have c1 := cells_at h1
  have c2 := cells_at h2
  have c3 := cells_at h3
  have cd := cells_at h.cells
  have l1 := lt_of_at h1
  have l2 := lt_of_at h2
  have l3 := lt_of_at h3
  obtain ⟨ld, lf, lc, lm⟩ := h.lt
  have hr := h.roomOk
  have hrun0 := h.drew.run_look1 n
  have hrun1 := (h.same ((Keeps.refl [] w).alloc (.cells #[.string ⟨#[]⟩, .int .i64 0] 109))).drew.run_look1 n
  have hle := look_le (n := n) o
  have hcat : (obOr (look o n)).1.size + s.size ≤ 9223372036854775807 := by omega
  have hus : (used o : Int) + (s.size : Int) ≤ 9223372036854775807 := by omega
  have hsure := h.sure.or n
  obtain ⟨p1, _, _, p4⟩ := h.neBox h1 (by decide) (by decide)
  obtain ⟨p2, _, _, p5⟩ := h.neBox h2 (by decide) (by decide)
  obtain ⟨p3, _, _, p6⟩ := h.neBox h3 (by decide) (by decide)
  obtain ⟨m1, m2, m3, m4, m5⟩ := h.ne
  have H := Lib.hid (And.intro h (And.intro h1 (And.intro h2 (And.intro h3 hsure))))
  clear h h1 h2 h3 hsure
  go_enter Tryz.func112, Tryz.ntmps112
  go_wp2_with fail
  go_region_held3 (fun w' => w'.cell? ⟨pd, 0, none⟩ = some (.pointer (some ⟨d, 0, none⟩)) ∧ w'.cell? ⟨d, 1, none⟩ = some (.map (some mb)) ∧ w'.cell? ⟨pn, 0, none⟩ = some (.string n)) (first | go_keep) (fail)
  all_goals
    clear hrun0 hrun1
    go_wp2_with fail
    have q1 : (w.alloc (.cells #[.string ((obOr (look o n)).1 ++ s), .int .i64 (obOr (look o n)).2] 109)).drew.heap[w.heap.size]? = some (.cells #[.string ((obOr (look o n)).1 ++ s), .int .i64 (obOr (look o n)).2] 109) := heap_new w _
    have k1 : Keeps [] w (w.alloc (.cells #[.string ((obOr (look o n)).1 ++ s), .int .i64 (obOr (look o n)).2] 109)).drew := (Keeps.refl [] w).alloc _ |>.drew
    have lq := k1.size
    clear c1 c2 c3 cd
    generalize (w.alloc (.cells #[.string ((obOr (look o n)).1 ++ s), .int .i64 (obOr (look o n)).2] 109)).drew = W1 at q1 k1 ⊢
    have D1 := H.out.1.same k1
    have c1 := cells_at (k1.at_ H.out.2.1 (by simp))
    have c2 := cells_at (k1.at_ H.out.2.2.1 (by simp))
    have cd := cells_at D1.cells
    have cq := cells_at q1
    go_still_tail 6, (by kernel_rfl)
    repeat still_step
    change wpList _ _ _ _ _ W1.drew
    refine wpList_update_str _ rfl (.tmp 19) (.tmp 20) (.tmp 21) _ _ _ rfl Tryz.underlying65 Tryz.underlying9 mb (encMap encOb o) n (encOb ((obOr (look o n)).1 ++ s, (obOr (look o n)).2)) (by rfl) (by rfl) (by rfl) D1.map.drew ?_
    intro W2 hm2 k2
    simp only [Act.put]
    rw [put_enc] at hm2
    have k12 : Keeps [mb] w W2 := (k1.drew.mono (by simp)).trans k2
    have hd2 := k12.at_ H.out.1.cells (by simpa using m3)
    clear c1 c2 cd cq D1 q1
    have c1 := cells_at (k12.at_ H.out.2.1 (by simpa using p4.symm))
    have c3 := cells_at (k12.at_ H.out.2.2.2.1 (by simpa using p6.symm))
    have cd := cells_at hd2
    have fd := free_at hd2
    have Hm := Lib.hid (And.intro hm2 (And.intro hd2 k12))
    clear hm2 hd2 k12 k1 k2
    go_wp2_with fail
    go_still_tail 9, (by kernel_rfl)
    repeat still_step
    change wpList _ _ _ _ _ W2.drew
    go_wp2_with fail
    go_ret
    have kf : Keeps [mb, d] w (W2.setCell ⟨d, 3, none⟩ (.int .i64 ((used o : Int) + (s.size : Int)))).drew := ((Hm.out.2.2.mono (by simp)).setCell (.inl (by simp)) _).drew
    have hc := heap_cell_same (i := 3) Hm.out.2.1 (.int .i64 ((used o : Int) + (s.size : Int)))
    refine ⟨0, rfl, rfl, H.out.1.turn kf (by simp; omega) (by simp; omega) ?_ (Hm.out.1.keep ((Keeps.refl [d] W2).setCell (p := ⟨d, 3, none⟩) (.inl (by simp)) _).drew (by simpa using m3.symm)) (by rw [used_app]; exact hfit) ?_, kf⟩
    · rw [used_app, Int.natCast_add]; exact hc
    · have hs := H.out.2.2.2.2
      exact H.out.1.sure.put n _ hs.1 (by simp only [ByteArray.size_append]; omega)


set_option maxRecDepth 100000 in
set_option maxHeartbeats 1000000 in
theorem syncAct (w : World) (pq pd pn d f c mb : Nat) (armed : Bool) (Q : List (Int × Bool)) (room : Nat) (o : List (ByteArray × Ob)) (n : ByteArray)
    (h1 : w.heap[pd]? = some (.cells #[.pointer (some ⟨d, 0, none⟩)] 54 (0, 0))) (h2 : w.heap[pn]? = some (.cells #[.string n] 9 (0, 0))) (h3 : w.heap[pq]? = some (.cells #[.string (obOr (look o n)).1, .int .i64 (obOr (look o n)).2] 109 (0, 0)))
    (h : DiskAt w d f c mb armed Q room o) :
    Calls Tryz.prog 113 #[.pointer (some ⟨pq, 0, none⟩), .pointer (some ⟨pd, 0, none⟩), .pointer (some ⟨pn, 0, none⟩)] w
      (ActPost fun w' r => r = 0 ∧ DiskAt w' d f c mb armed Q room (syncO o n) ∧ Keeps [mb, d, pq] w w') := by
  have c3 := cells_at h3
  have f3 := free_at h3
  have hle := look_le (n := n) o
  have hr := h.roomOk
  have hf0 := h.fits
  have hsz : (obOr (look o n)).1.size ≤ 9223372036854775807 := by omega
  obtain ⟨p3, p31, p32, p6⟩ := h.neBox h3 (by decide) (by decide)
  obtain ⟨p1, _, _, p4⟩ := h.neBox h1 (by decide) (by decide)
  obtain ⟨p2, _, _, p5⟩ := h.neBox h2 (by decide) (by decide)
  have p7 := ne_of_at h1 h3 (by intro e; injection e with _ e; exact absurd e (by decide))
  have p8 := ne_of_at h2 h3 (by intro e; injection e with _ e; exact absurd e (by decide))
  obtain ⟨m1, m2, m3, m4, m5⟩ := h.ne
  have H := Lib.hid (And.intro h (And.intro h1 (And.intro h2 h3)))
  clear h h1 h2 h3 hr hf0
  go_enter Tryz.func113, Tryz.ntmps113
  go_wp2_with fail
  have q1 := heap_cell_same (i := 1) H.out.2.2.2 (.int .i64 (obOr (look o n)).1.size)
  have k1 : Keeps [pq] w (w.setCell ⟨pq, 1, none⟩ (.int .i64 (obOr (look o n)).1.size)) := (Keeps.refl _ _).setCell (.inl (by simp)) _
  generalize w.setCell ⟨pq, 1, none⟩ (.int .i64 (obOr (look o n)).1.size) = W1 at q1 k1 ⊢
  have D1 := H.out.1.keepBox k1 H.out.2.2.2 (by decide) (by decide)
  have c1 := cells_at (k1.at_ H.out.2.1 (by simpa using p7))
  have c2 := cells_at (k1.at_ H.out.2.2.1 (by simpa using p8))
  have cd := cells_at D1.cells
  have cq : ∀ i, W1.cell? ⟨pq, i, none⟩ = #[.string (obOr (look o n)).1, .int .i64 (obOr (look o n)).1.size][i]? := cells_at q1
  clear c3 f3 q1
  go_still_tail 6, (by kernel_rfl)
  change wpList _ _ _ _ _ W1.drew
  refine wpList_update_str _ rfl (.tmp 11) (.tmp 12) (.tmp 13) _ _ _ rfl Tryz.underlying65 Tryz.underlying9 mb (encMap encOb o) n (encOb ((obOr (look o n)).1, (obOr (look o n)).1.size)) (by rfl) (by rfl) (by rfl) D1.map.drew ?_
  intro W2 hm2 k2
  simp only [Act.put]
  rw [put_enc] at hm2
  have k12 : Keeps [mb, d, pq] w W2 := (k1.drew.mono (by simp)).trans (k2.mono (by simp))
  have hd2 := k2.at_ (w := W1.drew) D1.cells (by simpa using m3)
  have Hm := Lib.hid (And.intro hm2 (And.intro hd2 k12))
  clear hm2 hd2 k12 k1 k2 D1 c1 c2 cd cq
  go_wp2_with fail
  go_ret
  refine ⟨0, rfl, rfl, H.out.1.turn Hm.out.2.2 (by simp; omega) (by simp; omega) ?_ Hm.out.1 (by rw [used_sync]; exact H.out.1.fits) (H.out.1.sure.put n _ (by simp) (by simp)), Hm.out.2.2⟩
  rw [used_sync]
  exact Hm.out.2.1


set_option maxRecDepth 100000 in
set_option maxHeartbeats 1000000 in
theorem removeAct (w : World) (pd pn pq d f c mb : Nat) (armed : Bool) (Q : List (Int × Bool)) (room : Nat) (o : List (ByteArray × Ob)) (n : ByteArray)
    (h1 : w.heap[pd]? = some (.cells #[.pointer (some ⟨d, 0, none⟩)] 54 (0, 0))) (h2 : w.heap[pn]? = some (.cells #[.string n] 9 (0, 0))) (h3 : w.heap[pq]? = some (.cells #[.string (obOr (look o n)).1, .int .i64 (obOr (look o n)).2] 109 (0, 0)))
    (h : DiskAt w d f c mb armed Q room o) :
    Calls Tryz.prog 93 #[.pointer (some ⟨pd, 0, none⟩), .pointer (some ⟨pn, 0, none⟩), .pointer (some ⟨pq, 0, none⟩)] w
      (ActPost fun w' r => r = 0 ∧ DiskAt w' d f c mb armed Q room (del o n) ∧ Keeps [mb, d, pq] w w') := by
  have hle := look_le (n := n) o
  have hr := h.roomOk
  have hf0 := h.fits
  have hdel := used_del n o
  have hsub : (used o : Int) - ((obOr (look o n)).1.size : Int) = (used (del o n) : Int) := by omega
  have b0 : (0 : Int) ≤ (used o : Int) - ((obOr (look o n)).1.size : Int) := by omega
  have b1 : (used o : Int) ≤ 9223372036854775807 := by omega
  obtain ⟨p3, p31, p32, p6⟩ := h.neBox h3 (by decide) (by decide)
  obtain ⟨p1, _, _, p4⟩ := h.neBox h1 (by decide) (by decide)
  obtain ⟨p2, _, _, p5⟩ := h.neBox h2 (by decide) (by decide)
  obtain ⟨m1, m2, m3, m4, m5⟩ := h.ne
  have c1 := cells_at h1
  have c2 := cells_at h2
  have cd := cells_at h.cells
  have Hs := Lib.hid hsub
  have H := Lib.hid (And.intro h (And.intro h1 (And.intro h2 h3)))
  clear h h1 h2 h3 hr hf0 hdel hsub
  go_enter Tryz.func93, Tryz.ntmps93
  go_wp2_with fail
  go_still_tail 5, (by kernel_rfl)
  change wpList _ _ _ _ _ w.drew
  refine wpList_delete_str _ rfl (.tmp 7) (.tmp 8) _ _ _ rfl Tryz.underlying65 Tryz.underlying9 mb (encMap encOb o) n (by rfl) (by rfl) H.out.1.map.drew ?_
  intro W2 hm2 k2
  simp only [Act.put]
  rw [del_enc] at hm2
  have k12 : Keeps [mb] w W2 := ((Keeps.refl [mb] w).drew).trans k2
  have hd2 := k12.at_ H.out.1.cells (by simpa using m3)
  clear c1 c2 cd
  have c1 := cells_at (k12.at_ H.out.2.1 (by simpa using p4.symm))
  have c3 := cells_at (k12.at_ H.out.2.2.2 (by simpa using p6.symm))
  have cd := cells_at hd2
  have fd := free_at hd2
  have Hm := Lib.hid (And.intro hm2 (And.intro hd2 k12))
  clear hm2 hd2 k12 k2
  go_wp2_with fail
  go_still_tail 10, (by kernel_rfl)
  change wpList _ _ _ _ _ W2.drew
  go_wp2_with fail
  go_ret
  have kf : Keeps [mb, d] w (W2.setCell ⟨d, 3, none⟩ (.int .i64 ((used o : Int) - ((obOr (look o n)).1.size : Int)))).drew := ((Hm.out.2.2.mono (by simp)).setCell (.inl (by simp)) _).drew
  have hc := heap_cell_same (i := 3) Hm.out.2.1 (.int .i64 ((used o : Int) - ((obOr (look o n)).1.size : Int)))
  rw [Hs.out] at kf hc ⊢
  refine ⟨0, rfl, rfl, H.out.1.turn kf (by simp; omega) (by simp; omega) hc (Hm.out.1.keep ((Keeps.refl [d] W2).setCell (p := ⟨d, 3, none⟩) (.inl (by simp)) _).drew (by simpa using m3.symm)) ?_ (H.out.1.sure.del H.out.1.nodup n), kf.mono (by simp)⟩
  have h1 := H.out.1.fits
  have h2 := used_del n o
  omega



set_option maxRecDepth 100000 in
set_option maxHeartbeats 1000000 in
theorem renAct (w : World) (po pn pd pq d f c mb : Nat) (armed : Bool) (Q : List (Int × Bool)) (room : Nat) (o : List (ByteArray × Ob)) (a n : ByteArray)
    (h1 : w.heap[pd]? = some (.cells #[.pointer (some ⟨d, 0, none⟩)] 54 (0, 0))) (h2 : w.heap[pn]? = some (.cells #[.string n] 9 (0, 0))) (h3 : w.heap[pq]? = some (.cells #[.string (obOr (look o a)).1, .int .i64 (obOr (look o a)).2] 109 (0, 0)))
    (h4 : w.heap[po]? = some (.cells #[.string a] 9 (0, 0)))
    (h : DiskAt w d f c mb armed Q room o) :
    Calls Tryz.prog 114 #[.pointer (some ⟨po, 0, none⟩), .pointer (some ⟨pn, 0, none⟩), .pointer (some ⟨pd, 0, none⟩), .pointer (some ⟨pq, 0, none⟩)] w
      (ActPost fun w' r => r = 0 ∧ DiskAt w' d f c mb armed Q room (renO o a n) ∧ Keeps [mb, d, pq] w w') := by
  obtain ⟨p3, p31, p32, p6⟩ := h.neBox h3 (by decide) (by decide)
  obtain ⟨p1, _, _, p4⟩ := h.neBox h1 (by decide) (by decide)
  obtain ⟨p2, _, _, p5⟩ := h.neBox h2 (by decide) (by decide)
  obtain ⟨p9, _, _, p10⟩ := h.neBox h4 (by decide) (by decide)
  obtain ⟨m1, m2, m3, m4, m5⟩ := h.ne
  have c1 := cells_at h1
  have c2 := cells_at h2
  have c4 := cells_at h4
  have H := Lib.hid (And.intro h (And.intro h1 (And.intro h2 (And.intro h3 h4))))
  clear h1 h2 h3 h4
  by_cases hab : a = n
  · subst hab
    clear h
    go_enter Tryz.func114, Tryz.ntmps114
    go_wp2_with fail
    go_ret
    exact ⟨0, rfl, rfl, by simpa [renO] using H.out.1, Keeps.refl _ _⟩
  · have hren := used_ren h.nodup hab
    have hle := look_le (n := n) o
    have hr := h.roomOk
    have hf0 := h.fits
    have hsub : (used o : Int) - ((obOr (look o n)).1.size : Int) = (used (put (del o a) n (obOr (look o a))) : Int) := by omega
    have b0 : (0 : Int) ≤ (used o : Int) - ((obOr (look o n)).1.size : Int) := by omega
    have b1 : (used o : Int) ≤ 9223372036854775807 := by omega
    have e1 : (a.toList == n.toList) = false := by rw [toList_beq]; simpa using hab
    have e2 : (a.toList != n.toList) = true := by simp [bne, e1]
    have cd := cells_at h.cells
    have fd := free_at h.cells
    have hrun := h.drew.run_look1 n
    have hfd := fieldFl
    have Hs := Lib.hid hsub
    have Hab := Lib.hid hab
    have Hren := Lib.hid hren
    clear h hsub hab hren hr hf0
    go_enter Tryz.func114, Tryz.ntmps114
    go_wp2_with fail
    go_still_tail 15, (by kernel_rfl)
    change wpList _ _ _ _ _ w.drew
    go_wp2_with fail
    have k1 : Keeps [d] w (w.setCell ⟨d, 3, none⟩ (.int .i64 ((used o : Int) - ((obOr (look o n)).1.size : Int)))).drew := ((Keeps.refl [d] w).setCell (.inl (by simp)) _).drew
    have hc1 : (w.setCell ⟨d, 3, none⟩ (.int .i64 ((used o : Int) - ((obOr (look o n)).1.size : Int)))).drew.heap[d]? = some (.cells #[.pointer (some ⟨f, 0, none⟩), .map (some mb), .int .i64 room, .int .i64 ((used o : Int) - ((obOr (look o n)).1.size : Int))] 67 (0, 0)) := heap_cell_same (i := 3) H.out.1.cells (.int .i64 ((used o : Int) - ((obOr (look o n)).1.size : Int)))
    clear c1 c2 c4 cd fd hrun hfd
    generalize (w.setCell ⟨d, 3, none⟩ (.int .i64 ((used o : Int) - ((obOr (look o n)).1.size : Int)))).drew = W1 at hc1 k1 ⊢
    have hm1 := H.out.1.map.keep k1 (by simpa using m3.symm)
    have c1 := cells_at (k1.at_ H.out.2.1 (by simpa using p1.symm))
    have c4 := cells_at (k1.at_ H.out.2.2.2.2 (by simpa using p9.symm))
    have cd := cells_at hc1
    go_still_tail 5, (by kernel_rfl)
    change wpList _ _ _ _ _ W1.drew
    refine wpList_delete_str _ rfl (.tmp 26) (.tmp 27) _ _ _ rfl Tryz.underlying65 Tryz.underlying9 mb (encMap encOb o) a (by rfl) (by rfl) hm1.drew ?_
    intro W2 hm2 k2
    simp only [Act.put]
    rw [del_enc] at hm2
    have k12 : Keeps [mb, d] w W2 := (k1.drew.mono (by simp)).trans (k2.mono (by simp))
    have hc2 := k2.at_ (w := W1.drew) hc1 (by simpa using m3)
    clear c1 c4 cd hm1 hc1 k1 k2
    have c1 := cells_at (k12.at_ H.out.2.1 (by simp; omega))
    have c2 := cells_at (k12.at_ H.out.2.2.1 (by simp; omega))
    have c3 := cells_at (k12.at_ H.out.2.2.2.1 (by simp; omega))
    have cd := cells_at hc2
    go_wp2_with fail
    go_still_tail 6, (by kernel_rfl)
    change wpList _ _ _ _ _ W2.drew
    refine wpList_update_str _ rfl (.tmp 31) (.tmp 32) (.tmp 33) _ _ _ rfl Tryz.underlying65 Tryz.underlying9 mb (encMap encOb (del o a)) n (encOb (obOr (look o a))) (by rfl) (by rfl) (by rfl) hm2.drew ?_
    intro W3 hm3 k3
    simp only [Act.put]
    rw [put_enc] at hm3
    have k13 : Keeps [mb, d] w W3 := k12.drew.trans (k3.mono (by simp))
    have hc3 := k3.at_ (w := W2.drew) hc2 (by simpa using m3)
    have Hm := Lib.hid (And.intro hm3 (And.intro hc3 k13))
    clear hm2 hm3 hc2 hc3 k12 k13 k3 c1 c2 c3 cd
    go_wp2_with fail
    go_ret
    have hd2 := Hm.out.2.1
    rw [Hs.out] at hd2
    rw [renO, if_neg Hab.out]
    refine ⟨0, rfl, rfl, H.out.1.turn Hm.out.2.2 (by simp; omega) (by simp; omega) hd2 Hm.out.1 ?_ ?_, Hm.out.2.2.mono (by simp)⟩
    · have h1 := H.out.1.fits
      have h2 := Hren.out
      omega
    · have hs := H.out.1.sure.or a
      exact (H.out.1.sure.del H.out.1.nodup a).put n _ hs.1 hs.2

end Go.Proofs.YtaebpbkiaihhdaaGreatDoor
