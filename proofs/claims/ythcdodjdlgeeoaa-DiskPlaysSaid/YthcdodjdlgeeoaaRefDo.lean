/-
  The document's disk (barographref04): Used, good, and what a store into a box of a disk leaves.
  Each contract holds in every world in which the disk's value can be read; old memory is left as it was.
-/
import Derived.Test.YthcdodjdlgeeoaaRefD
import Derived.Test.YthcdodjdlgeeoaaDoesArm
import Derived.Test.YthcdodjdlgeeoaaDiskMine
namespace Go.Proofs.Ythcdodjdlgeeoaa
open Go Go.RowKit Go.ChangeShapes Go.WideShapes Go.Deep

theorem RefD.form {w : World} {v : Value} {L : List (ByteArray × Ob)} {room : Int} {Q : List (Int × Bool)} (h : RefD w v L room Q) : ∃ a c b d, v = .agg #[.slice a L.length c, .int .i64 room, .slice b Q.length d] := by
  obtain ⟨s, f, rfl, hs, _, hf⟩ := h
  obtain ⟨a, c, rfl⟩ := hs.form
  obtain ⟨b, d, rfl⟩ := hf.form
  exact ⟨a, c, b, d, rfl⟩
/-- A block that is a disk's: none of a list's. -/
def BoxyD (w : World) (q : Nat) : Prop := ∃ a n c z b m d, w.heap[q]? = some (.cells #[.slice a n c, .int .i64 z, .slice b m d] 96 (0, 0))
theorem RefD.step {w w' : World} {v : Value} {L : List (ByteArray × Ob)} {room : Int} {Q : List (Int × Bool)} (h : RefD w v L room Q) {q : Nat} (hq : BoxyD w q) (k : Keeps [q] w w') : RefD w' v L room Q := by
  obtain ⟨a, n, c, z, b, m, d, hq⟩ := hq
  obtain ⟨s, f, rfl, hs, ho, hf⟩ := h
  refine ⟨s, f, rfl, objs_keepS hs k ?_, ho, faults_keepS hf k ?_⟩
  · intro p hp i s
    simp only [List.mem_singleton] at hp
    subst hp
    rw [cells_at hq]
    match i with
    | 0 => simp
    | 1 => simp
    | 2 => simp
    | i + 3 => simp
  · intro p hp cs fz
    simp only [List.mem_singleton] at hp
    subst hp
    rw [hq]
    intro e
    injection e with e
    injection e with _ e
    exact absurd e (by decide)
theorem RefD.setBox {w : World} {v : Value} {L : List (ByteArray × Ob)} {room : Int} {Q : List (Int × Bool)} (h : RefD w v L room Q) {q : Nat} (hq : BoxyD w q) (i : Nat) (u : Value) : RefD (w.setCell ⟨q, i, none⟩ u) v L room Q :=
  h.step hq ((Keeps.refl [q] w).setCell (.inl (by simp)) u)
/-- A disk is stored into the block of a disk. -/
theorem resD {w W : World} {q : Nat} {a b : Option Addr} {c d : Nat} {L : List (ByteArray × Ob)} {room : Int} {Q : List (Int × Bool)} (hq : w.heap.size ≤ q) (h : RefD W (.agg #[.slice a L.length c, .int .i64 room, .slice b Q.length d]) L room Q)
    (hres : BoxyD W q) (hk : Keeps [] w W) :
    let W' := ((W.setCell ⟨q, 0, none⟩ (.slice a L.length c)).setCell ⟨q, 1, none⟩ (.int .i64 room)).setCell ⟨q, 2, none⟩ (.slice b Q.length d)
    W'.heap[q]? = some (.cells #[.slice a L.length c, .int .i64 room, .slice b Q.length d] 96 (0, 0)) ∧ RefD W' (.agg #[.slice a L.length c, .int .i64 room, .slice b Q.length d]) L room Q ∧ Keeps [] w W' ∧ Keeps [q] W W' := by
  intro W'
  have kq : Keeps [q] W W' := (((Keeps.refl [q] W).setCell (.inl (by simp)) _).setCell (.inl (by simp)) _).setCell (.inl (by simp)) _
  have hr := h.step hres kq
  obtain ⟨_, _, _, _, _, _, _, hres⟩ := hres
  exact ⟨heap_cell_same (i := 2) (heap_cell_same (i := 1) (heap_cell_same (i := 0) hres (.slice a L.length c)) (.int .i64 room)) (.slice b Q.length d), hr, hk.after kq (by simpa using hq), kq⟩

/-! ### Used -/
def sumL : List (ByteArray × Ob) → Nat
  | [] => 0
  | p :: r => p.2.1.size + sumL r
theorem sumL_take (L : List (ByteArray × Ob)) (k : Nat) (hk : k < L.length) : sumL (L.take (k + 1)) = sumL (L.take k) + L[k].2.1.size := by
  induction L generalizing k with
  | nil => simp at hk
  | cons p r ih =>
    cases k with
    | zero => simp [sumL]
    | succ k =>
      have := ih k (by simpa using hk)
      simp only [List.take_succ_cons, sumL, this, List.getElem_cons_succ]
      omega
theorem sumL_le (L : List (ByteArray × Ob)) (k : Nat) : sumL (L.take k) ≤ sumL L := by
  induction L generalizing k with
  | nil => simp [sumL]
  | cons p r ih =>
    cases k with
    | zero => simp [sumL]
    | succ k => have := ih k; simp only [List.take_succ_cons, sumL]; omega
theorem sumL_perm {L M : List (ByteArray × Ob)} (h : L.Perm M) : sumL L = sumL M := by
  induction h with
  | nil => rfl
  | cons x _ ih => simp [sumL, ih]
  | swap x y l => simp only [sumL]; omega
  | trans _ _ h1 h2 => exact h1.trans h2
theorem sumL_used (o : List (ByteArray × Ob)) : sumL o = used o := by
  induction o with
  | nil => rfl
  | cons p r ih =>
    obtain ⟨n, x⟩ := p
    simp only [sumL, used, ih]
theorem full_perm {o : List (ByteArray × Ob)} (hn : (o.map (·.1)).Nodup) : (full o).Perm o := by
  refine (List.perm_ext_iff_of_nodup (nodup_keys (full_nodup hn)) (nodup_keys hn)).2 fun ⟨n, x⟩ => ?_
  rw [full_sorts.mem]
  exact ⟨look_mem, mem_look hn⟩
theorem sumL_full {o : List (ByteArray × Ob)} (hn : (o.map (·.1)).Nodup) : sumL (full o) = used o := (sumL_perm (full_perm hn)).trans (sumL_used o)

def UsedRel (w1 : World) (L : List (ByteArray × Ob)) (gk : Nat) (s i : Value) (wr : World) : Prop :=
  ∃ k, k ≤ L.length ∧ s = .int .i64 (sumL (L.take k)) ∧ i = .int .i64 k ∧ gk = L.length - k ∧ Keeps [] w1 wr

set_option maxRecDepth 100000 in
set_option maxHeartbeats 1000000 in
theorem refUsed_spec (w : World) (v : Value) (L : List (ByteArray × Ob)) (room : Int) (Q : List (Int × Bool)) (hsum : sumL L ≤ 1000000000000) (h : RefD w v L room Q) :
    Calls Try.prog 70 #[v] w fun e w' => e = .returned (.int .i64 (sumL L)) ∧ Keeps [] w w' := by
  obtain ⟨s, f, rfl, hs, _, hf⟩ := h
  obtain ⟨fa, fc, rfl⟩ := hf.form
  clear hf
  obtain ⟨ao, cap, rfl⟩ := hs.form
  have hl := hs.len
  have Hs := Lib.hid hs
  unfold maxLen at hl
  clear hs
  go_enter Try.func70, Try.ntmps70
  go_wp2_with fail
  go_loopg [3, 9] L.length (UsedRel w L)
  case atStart => exact ⟨0, Nat.zero_le _, rfl, rfl, rfl, (Keeps.refl [] w).alloc _⟩
  case round =>
    obtain ⟨k, hkl, rfl, rfl, hgk, hk⟩ := hrel
    have Hg := Lib.hid hgk
    have hle := sumL_le L k
    have hle1 := sumL_le L (k + 1)
    clear hgk
    by_cases hlt : k < L.length
    · obtain ⟨b, off, rfl, hb, d0, d1, d2⟩ := objCells Hs.out hlt
      rw [← hk.cell hb (by simp)] at d0 d1 d2
      have hlt' : (k : Int) < (L.length : Int) := by omega
      have hst := sumL_take L k hlt
      generalize L[k] = x at d0 d1 d2 hst
      obtain ⟨xn, xd, xt⟩ := x
      simp only at d0 d1 d2 hst
      have Hst := Lib.hid hst
      rw [hst] at hle1
      clear hst
      generalize sumL (L.take k) = S at hle hle1 Hst ⊢
      go_wp2_with fail
      go_roundg (L.length - (k + 1))
      case measure => have := Hg.out; omega
      case rel => exact ⟨k + 1, by omega, by rw [Hst.out]; go_num, by go_num, rfl, hk.alloc _⟩
    · have hkk : k = L.length := by omega
      have Hk := Lib.hid hk
      clear hk
      go_wp2_with fail
      go_ret
      refine ⟨?_, Hk.out⟩
      rw [hkk, List.take_length]
      rfl

set_option maxRecDepth 100000 in
set_option maxHeartbeats 1000000 in
theorem good_spec (w : World) (n : ByteArray) (hn : n.size ≤ 1000) :
    Calls Try.prog 82 #[.string n] w fun e w' => e = .returned (.bool (!decide (n.size = 0 ∨ 40 < n.size))) ∧ w = w' := by
  by_cases h0 : n.size = 0
  · obtain ⟨e1, e2⟩ := is_empty h0
    have Hr : Hid ((!decide (n.size = 0 ∨ 40 < n.size)) = false) := Lib.hid (by simp [h0])
    clear h0
    go_enter Try.func82, Try.ntmps82
    go_wp2_with fail
    go_ret
    exact ⟨by rw [Hr.out]; rfl, rfl⟩
  · obtain ⟨e1, e2⟩ := ne_empty h0
    by_cases h4 : 40 < n.size
    · have h4' : decide ((n.size : Int) ≤ 40) = false := by rw [decide_eq_false_iff_not]; omega
      have Hr : Hid ((!decide (n.size = 0 ∨ 40 < n.size)) = false) := Lib.hid (by simp [h4])
      clear h0 h4
      go_enter Try.func82, Try.ntmps82
      go_wp2_with fail
      go_ret
      exact ⟨by rw [Hr.out]; rfl, rfl⟩
    · have h4' : decide ((n.size : Int) ≤ 40) = true := by rw [decide_eq_true_iff]; omega
      have Hr : Hid ((!decide (n.size = 0 ∨ 40 < n.size)) = true) := Lib.hid (by simp [h0]; omega)
      clear h0 h4
      go_enter Try.func82, Try.ntmps82
      go_wp2_with fail
      go_ret
      exact ⟨by rw [Hr.out]; rfl, rfl⟩

end Go.Proofs.Ythcdodjdlgeeoaa
