/-
  The bucket's List: what it tells of the objects.
  It holds for every world in which the bucket's blocks are laid as BucketAt says.
-/
import Derived.Test.YtbndpegilpgheaaGreatLook
namespace Go.Proofs.YtbndpegilpgheaaGreat
open Go Go.RowKit Go.Conc

theorem goFn_list : GoFn Tryz.prog 167 := ⟨_, Tryz.func167, by kernel_rfl, by kernel_rfl⟩


set_option maxHeartbeats 1000000 in
theorem listAct (w : World) (pb pm pr b f c mb : Nat) (armed : Bool) (Q : List (Int × Bool)) (o : List (ByteArray × Ob)) (pre : ByteArray) (u : Value)
    (hk : ∀ p ∈ o, p.1.size ≤ maxLen) (hd : ∀ n, (obOr (look o n)).1.size ≤ 9223372036854775807) (hl : o.length * 32 ≤ 140737488355328)
    (h3 : w.heap[pb]? = some (.cells #[.pointer (some ⟨b, 0, none⟩)] 46 (0, 0))) (h4 : w.heap[pm]? = some (.cells #[.string pre] 9 (0, 0)))
    (h5 : w.heap[pr]? = some (.cells #[u] 57 (0, 0)))
    (h : BucketAt w b f c mb armed Q o) :
    Calls Tryz.prog 167 #[.pointer (some ⟨pb, 0, none⟩), .pointer (some ⟨pm, 0, none⟩), .pointer (some ⟨pr, 0, none⟩)] w
      (ActPost fun w' n => n = 0 ∧ Keeps [pr] w w' ∧ ∃ v, w'.heap[pr]? = some (.cells #[v] 57 (0, 0)) ∧ w'.ownsRow w.heap.size 128 3 v (listing o pre).length ((listing o pre).flatMap infoOf)) := by
  have c3 := cells_at h3
  have c4 := cells_at h4
  have lpr := lt_of_at h5
  have H5 := Lib.hid h5
  clear h3 h4 h5
  go_enter Tryz.func167, Tryz.ntmps167
  go_wp2_with fail
  refine (look_spec w b f c mb armed Q o h pre hk hd hl).mono ?_
  rintro e w1 ⟨v, rfl, hrow, hk1⟩
  have h5 := hk1.at_ H5.out (by simp)
  have c5 := cells_at h5
  have f5 := free_at h5
  obtain ⟨ao, cap, rfl, hcap, hcap2, hcell⟩ := row_slice hrow
  have Hrow := Lib.hid hrow
  have Hh := Lib.hid h5
  clear hrow hcell h5
  go_wp2_with fail
  go_ret
  refine ⟨0, rfl, rfl, (hk1.mono (by simp)).setCell (by simp) _, _, by simpa using heap_cell_same (i := 0) Hh.out _, ?_⟩
  refine ((Keeps.refl [pr] w1).setCell (by simp) _).row Hrow.out ?_
  intro g hg
  have := (Hrow.out.lt g hg).1
  simp
  omega


/-- What List tells. -/
def listL (Q : List (Int × Bool)) (o : List (ByteArray × Ob)) (pre : ByteArray) : List (ByteArray × Ob) := if tryWorks Q then listing o pre else []


def ListPost (w : World) (b f c mb : Nat) (Q : List (Int × Bool)) (o : List (ByteArray × Ob)) (L : List (ByteArray × Ob)) (e : Ending) (w' : World) : Prop :=
  ∃ v, e = .returned (.tuple #[v, .int .i64 (ioErr Q)]) ∧ BucketAt w' b f c mb (tryArmed Q) (tryQ Q) o ∧ Keeps [f, c] w w' ∧
    w'.ownsRow w.heap.size 128 3 v L.length (L.flatMap infoOf)


set_option maxHeartbeats 1000000 in
theorem list_spec (w : World) (b f c mb : Nat) (armed : Bool) (Q : List (Int × Bool)) (o : List (ByteArray × Ob)) (h : BucketAt w b f c mb armed Q o) (pre : ByteArray)
    (hk : ∀ p ∈ o, p.1.size ≤ maxLen) (hd : ∀ n, (obOr (look o n)).1.size ≤ 9223372036854775807) (hl : o.length * 32 ≤ 140737488355328) :
    Calls Tryz.prog 142 #[.pointer (some ⟨b, 0, none⟩), .string pre] w (ListPost w b f c mb Q o (listL Q o pre)) := by
  have cb := cells_at h.cells
  obtain ⟨l0, lf, lc, lm⟩ := h.lt
  obtain ⟨l1, l2, l3, l4, l5, l6⟩ := lt_more l0
  have hk0 := ((Keeps.refl [] w).alloc (.cells #[.pointer (some ⟨b, 0, none⟩)] 46)).alloc (.cells #[.string pre] 9) |>.alloc (.cells #[.slice none 0 0] 57)
  have hW := h.keepNew hk0 (by simp)
  obtain ⟨n1, n2, n3⟩ := new3 w (.cells #[.pointer (some ⟨b, 0, none⟩)] 46) (.cells #[.string pre] 9) (.cells #[.slice none 0 0] 57)
  have N := Lib.hid (And.intro n1 (And.intro n2 n3))
  clear n1 n2 n3
  go_enter Tryz.func142, Tryz.ntmps142
  go_wp2_with fail
  refine (ask_spec _ b f c mb armed Q o hW _ _ (fun w' n => n = 0 ∧ BucketAt w' b f c mb (tryArmed Q) (tryQ Q) o ∧ Keeps [f, c] w w' ∧
      ∃ v, w'.heap[w.heap.size + 1 + 1]? = some (.cells #[v] 57 (0, 0)) ∧ w'.ownsRow w.heap.size 128 3 v (listing o pre).length ((listing o pre).flatMap infoOf)) goFn_list ?_).mono ?_
  · intro _ w1 hb1 hk1
    obtain ⟨n1, n2, n3⟩ := N.out
    have hs1 := hk1.size
    refine (listAct w1 _ _ _ b f c mb _ _ o pre _ hk hd hl (hk1.at_ n1 ?_) (hk1.at_ n2 ?_) (hk1.at_ n3 ?_) hb1).mono ?_
    · simp; omega
    · simp; omega
    · simp; omega
    · rintro e w2 ⟨n, rfl, rfl, hk2, v, hp2, hrow⟩
      refine ⟨_, rfl, rfl, hb1.keepBox hk2 (hk1.at_ n3 (by simp; omega)) (by decide) (by decide), ?_, v, hp2, row_base hrow (by simp at hs1; omega)⟩
      exact ((hk0.mono (by simp)).after hk1 (by simp)).after hk2 (by simp; omega)
  · rintro e w' (⟨hd, n, ⟨rfl, hb2, hk2, v, hp2, hrow⟩, rfl⟩ | ⟨hd, rfl, hb2, hk2⟩)
    · obtain ⟨ao, cap, rfl, hcap, hcap2, hcell⟩ := row_slice hrow
      have cp := cells_at hp2
      have fp := free_at hp2
      have Hd := Lib.hid hd
      have Hrow := Lib.hid hrow
      clear hd hp2 hrow hcell
      go_wp2
      go_ret2
      exact ⟨_, by rw [ioErr, if_pos Hd.out]; rfl, hb2, hk2, by simpa [listL, Hd.out] using Hrow.out⟩
    · obtain ⟨n1, n2, n3⟩ := N.out
      have hp2 := hk2.at_ n3 (by simp; omega)
      have cp := cells_at hp2
      have fp := free_at hp2
      have Hd := Lib.hid hd
      clear hd hp2 n1 n2 n3
      go_wp2
      go_ret2
      exact ⟨_, by rw [ioErr, if_neg (by rw [Hd.out]; simp)]; rfl, hb2, (hk0.mono (by simp)).after hk2 (by simp), by simpa [listL, Hd.out] using World.ownsRow_nil w' _ _ 3⟩

end Go.Proofs.YtbndpegilpgheaaGreat
