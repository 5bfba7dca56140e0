/-
  DiskPlays: a call on the disk and on the document's answer; the answers are the same.
-/
import Derived.Test.YthcdodjdlgeeoaaDiskIs
import Derived.Deep.QuietTactic
namespace Go.Proofs.Ythcdodjdlgeeoaa
open Go Go.RowKit Go.ChangeShapes Go.WideShapes Go.Deep

/-- The document's value survives a call of the disk. -/
theorem RefD.calls {w w' : World} {v : Value} {L : List (ByteArray × Ob)} {room : Int} {Q Q' : List (Int × Bool)} {d f c mb rm : Nat} {armed : Bool} {o : List (ByteArray × Ob)} (h : RefD w v L room Q) (hD : DiskAt w d f c mb armed Q' rm o) (k : Keeps [f, c, mb, d] w w') : RefD w' v L room Q := by
  obtain ⟨now, wait, hf, _⟩ := hD.fuse
  obtain ⟨s, r, hch⟩ := hf.chan
  obtain ⟨E, clk, hmap, _⟩ := hD.map
  have hd := hD.cells
  obtain ⟨x, y, rfl, hx, ho, hy⟩ := h
  refine ⟨x, y, rfl, objs_keepS hx k ?_, ho, faults_keepS hy k ?_⟩
  · intro q hq i s
    simp only [List.mem_cons, List.not_mem_nil, or_false] at hq
    rcases hq with rfl | rfl | rfl | rfl
    · rw [cells_at hf.cells]
      match i with
      | 0 => simp
      | 1 => simp
      | 2 => simp
      | 3 => simp
      | i + 4 => simp
    · simp [World.cell?, hch]
    · simp [World.cell?, hmap]
    · rw [cells_at hd]
      match i with
      | 0 => simp
      | 1 => simp
      | 2 => simp
      | 3 => simp
      | i + 4 => simp
  · intro q hq cs fz
    simp only [List.mem_cons, List.not_mem_nil, or_false] at hq
    rcases hq with rfl | rfl | rfl | rfl
    · rw [hf.cells]
      intro e
      injection e with e
      injection e with _ e
      exact absurd e (by decide)
    · rw [hch]; simp
    · rw [hmap]; simp
    · rw [hd]
      intro e
      injection e with e
      injection e with _ e
      exact absurd e (by decide)

/-- The disk's files, bounded. -/
structure InvD (o : List (ByteArray × Ob)) (k : Nat) : Prop where
  len : o.length ≤ k
  usd : used o ≤ 50 * k
  key : ∀ q ∈ o.map (·.1), q.size ≤ 60
theorem InvD.next {o : List (ByteArray × Ob)} {k : Nat} (h : InvD o k) : InvD o (k + 1) := ⟨Nat.le_succ_of_le h.len, by have := h.usd; omega, h.key⟩
theorem InvD.put {o : List (ByteArray × Ob)} {k : Nat} (h : InvD o k) {n : ByteArray} (x : Ob) (hs : n.size ≤ 60) (hu : used (put o n x) ≤ used o + 50) : InvD (put o n x) (k + 1) := by
  refine ⟨by have := length_put n x o; have := h.len; omega, by have := h.usd; omega, ?_⟩
  intro q hq
  rcases mem_keys_put hq with rfl | hq
  · exact hs
  · exact h.key q hq
theorem InvD.app {o : List (ByteArray × Ob)} {k : Nat} (h : InvD o k) {n : ByteArray} (s : ByteArray) (hs : n.size ≤ 60) (hu : s.size ≤ 50) : InvD (appO o n s) (k + 1) :=
  h.put _ hs (by have := used_app o n s; unfold appO at this; omega)
theorem InvD.syn {o : List (ByteArray × Ob)} {k : Nat} (h : InvD o k) {n : ByteArray} (hs : n.size ≤ 60) : InvD (syncO o n) (k + 1) :=
  h.put _ hs (by have := used_sync o n; unfold syncO at this; omega)
theorem InvD.del {o : List (ByteArray × Ob)} {k : Nat} (h : InvD o k) (n : ByteArray) : InvD (del o n) (k + 1) :=
  ⟨by have := length_del n o; have := h.len; omega, by have := used_del n o; have := h.usd; omega, fun q hq => h.key q (mem_keys_del hq)⟩
theorem InvD.ren {o : List (ByteArray × Ob)} {k : Nat} (h : InvD o k) (hd : (o.map (·.1)).Nodup) {a b : ByteArray} (hs : b.size ≤ 60) : InvD (renO o a b) (k + 1) := by
  unfold renO
  split
  · exact h.next
  · rename_i hab
    have hu := used_ren hd (a := a) (b := b) hab
    have hl := length_put b (obOr (look o a)) (Go.Proofs.Ythcdodjdlgeeoaa.del o a)
    have hl2 := length_del a o
    refine ⟨by have := h.len; omega, by have := h.usd; omega, ?_⟩
    intro q hq
    rcases mem_keys_put hq with rfl | hq
    · exact hs
    · exact h.key q (mem_keys_del hq)
theorem InvD.trunc {o : List (ByteArray × Ob)} {k : Nat} (h : InvD o k) {n : ByteArray} (hs : n.size ≤ 60) (m : Nat) : InvD (truncO o n m) (k + 1) :=
  h.put _ hs (by
    have := used_put n ((obOr (look o n)).1.extract 0 m, (m : Int)) o
    simp only [ByteArray.size_extract] at this
    omega)
theorem InvD.op {o o' : List (ByteArray × Ob)} {k : Nat} (r : Option Int) (Q : List (Int × Bool)) (h : InvD o k) (h' : InvD o' (k + 1)) : InvD (opO r Q o o') (k + 1) := by
  unfold opO chg
  split
  · exact h.next
  · split
    · exact h'
    · exact h.next
theorem InvD.crash {o : List (ByteArray × Ob)} {k : Nat} (h : InvD o k) (ch : List Int) : InvD (crashO ch o) (k + 1) := by
  have hk : (crashO ch o).map (·.1) = o.map (·.1) := crash_keys ch _ (o, 0) fun n hm => mem_names (List.mem_of_mem_take hm)
  have hu : ∀ (M : List ByteArray) (s : List (ByteArray × Ob) × Nat), (∀ n ∈ M, n ∈ s.1.map (·.1)) → used (M.foldl (crashStep ch) s).1 ≤ used s.1 := by
    intro M
    induction M with
    | nil => intro s _; exact Nat.le_refl _
    | cons n M ih =>
      intro s hM
      obtain ⟨a1, a2, _⟩ := crash_step_keep ch s n (hM n (by simp))
      rw [List.foldl_cons]
      exact Nat.le_trans (ih _ (fun m hm => by rw [a1]; exact hM m (by simp [hm]))) a2
  have hlen := congrArg List.length hk
  simp only [List.length_map] at hlen
  have hu2 : used (crashO ch o) ≤ used o := hu _ (o, 0) fun n hm => mem_names (List.mem_of_mem_take hm)
  exact ⟨by have := h.len; omega, by have := h.usd; omega, fun q hq => h.key q (by rw [← hk]; exact hq)⟩

end Go.Proofs.Ythcdodjdlgeeoaa
