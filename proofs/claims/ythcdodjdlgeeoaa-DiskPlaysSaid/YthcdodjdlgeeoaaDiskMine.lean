/-
  DiskOthers, the plain law: calls on other files, and crashes, leave a file that is synced as it is. The law's Act, opened.
  No condition beyond those that each theorem states.
-/
import Derived.Test.YthcdodjdlgeeoaaDiskKeeps
import Derived.Test.YthcdodjdlgeeoaaBucketWholeL
namespace Go.Proofs.Ythcdodjdlgeeoaa
open Go Go.RowKit Go.Conc Go.ChangeShapes Go.WideShapes Go.Deep

/-- A call of the disk's laws: the choices as the value that came in, and as ints. -/
structure ActD where
  kind : Int
  n : Int
  a : ByteArray
  b : ByteArray
  done : Bool
  cv : Value
  ch : List Int
def encActD (x : ActD) : List Value := [.int .i64 x.kind, .int .i64 x.n, .string x.a, .string x.b, .bool x.done, x.cv]
def okActD (W : World) (x : ActD) : Prop := okInt x.kind ∧ okInt x.n ∧ x.a.size ≤ maxLen ∧ x.b.size ≤ maxLen ∧ SliceArg 1 encN W x.cv x.ch ∧ ∀ z ∈ x.ch, okInt z

theorem open_ints {H : Type} {e0 : TypeId × Value → H} {W : World} {t e : TypeId} {u : Value} {fuel : Nat} {y : DataW H × List MemPlace} (ht : Try.prog.underlying t = some (.slice e)) (he : Try.prog.underlying e = some (.int .i64)) (hc : Try.prog.cellsOf e = 1)
    (hf : DataW.trod e0 Try.prog W 0 (fun _ => true) true fuel t [u] = some y) : ∃ zs : List Int, SliceArg 1 encN W u zs ∧ ∀ n ∈ zs, okInt n := by
  rcases open_slice ht hf with ⟨hcs, _⟩ | ⟨a, len, cap, m, n, D, Pl, hcs, _, hl, hm, hmm, _, hi⟩
  · simp only [List.cons.injEq, and_true] at hcs
    subst hcs
    exact ⟨[], ⟨_, _, rfl, by simp [maxLen], fun i hi => by simp at hi⟩, by simp⟩
  · simp only [List.cons.injEq, and_true] at hcs
    subst hcs
    simp only [if_true] at hmm
    subst hmm
    refine sliceArg_of (enc := encN) (ok := okInt) (by omega) (by omega) fun i hlt => ?_
    obtain ⟨cs', hc', ht'⟩ := hi i (by omega)
    rw [hc] at hc'
    obtain ⟨u, rfl, hu⟩ := cells1 hc'
    obtain ⟨s, hs, _, hsz⟩ := DataW.trod_int he ht'
    simp only [List.cons.injEq, and_true] at hs
    subst hs
    exact ⟨s, int_wf hsz, rfl, fun j hj => by obtain rfl : j = 0 := by omega
                                              simpa [encN] using hu⟩

set_option maxRecDepth 100000 in
theorem open_actD {H : Type} {e0 : TypeId × Value → H} {W : World} {r : Reach} {b0 : Nat} {v : Value} {d : DataW H} {p : List MemPlace} (hok : Value.okWide Try.prog W r b0 66 v) (h : DataW.Trod e0 Try.prog W 0 (fun _ => true) true 66 v d p) :
    ∃ L : List ActD, SliceArg 6 encActD W v L ∧ ∀ x ∈ L, okActD W x := by
  refine open_structArg (fs := _) encActD okActD Try.underlying66 Try.underlying70 (by kernel_rfl) (by kernel_rfl) (Nat.zero_lt_succ _) ?_ hok h
  intro us n hl hf
  obtain ⟨y0, u0, g0, h0⟩ := hf 0 _ rfl
  obtain ⟨y1, u1, g1, h1⟩ := hf 1 _ rfl
  obtain ⟨y2, u2, g2, h2⟩ := hf 2 _ rfl
  obtain ⟨y3, u3, g3, h3⟩ := hf 3 _ rfl
  obtain ⟨y4, u4, g4, h4⟩ := hf 4 _ rfl
  obtain ⟨y5, u5, g5, h5⟩ := hf 5 _ rfl
  obtain ⟨n0, e0', _, w0⟩ := DataW.trod_int Try.underlying3 h0
  obtain ⟨n1, e1, _, w1⟩ := DataW.trod_int Try.underlying3 h1
  obtain ⟨s3, e3, _, w3⟩ := DataW.trod_string Try.underlying9 h2
  obtain ⟨s4, e4, _, w4⟩ := DataW.trod_string Try.underlying9 h3
  obtain ⟨b5, e5, _⟩ := DataW.trod_bool Try.underlying4 h4
  obtain ⟨zs, hz, hzo⟩ := open_ints Try.underlying51 Try.underlying3 (by kernel_rfl) h5
  simp only [List.cons.injEq, and_true] at e0' e1 e3 e4 e5
  subst e0' e1 e3 e4 e5
  refine ⟨⟨n0, n1, s3, s4, b5, u5, zs⟩, ⟨int_wf w0, int_wf w1, w3, w4, hz, hzo⟩, ?_⟩
  match us, hl with
  | [a0, a1, a2, a3, a4, a5], _ =>
    simp only [List.getElem?_cons_zero, List.getElem?_cons_succ, Option.some.injEq] at g0 g1 g2 g3 g4 g5
    subst g0 g1 g2 g3 g4 g5
    rfl

def dM : ByteArray := ⟨#[109, 105, 110, 101]⟩
theorem ne_mine (c : UInt8) (s : ByteArray) (h : c ≠ 109) : (⟨#[c]⟩ : ByteArray) ++ s ≠ dM := by
  intro e
  have e1 := congrArg (fun b : ByteArray => b.data.toList) e
  simp [dM, ByteArray.data_append] at e1
  exact h e1.1

theorem keys_put_mem (n : ByteArray) {α : Type} (v : α) : ∀ {o : List (ByteArray × α)}, n ∈ o.map (·.1) → (put o n v).map (·.1) = o.map (·.1)
  | [], h => by simp at h
  | (k, y) :: r, h => by
    by_cases e : n = k
    · simp [put, e]
    · have h' : n ∈ r.map (·.1) := by simpa [e] using h
      have ih := keys_put_mem n v h'
      simp only [put, if_neg e, List.map_cons, ih]
theorem mem_keys_del {n m : ByteArray} {α : Type} : ∀ {o : List (ByteArray × α)}, m ∈ (del o n).map (·.1) → m ∈ o.map (·.1)
  | [], h => by simp [del] at h
  | (k, y) :: r, h => by
    by_cases e : n = k
    · simp only [del, if_pos e] at h
      simp only [List.map_cons, List.mem_cons]
      exact .inr h
    · simp only [del, if_neg e, List.map_cons, List.mem_cons] at h ⊢
      rcases h with h | h
      · exact .inl h
      · exact .inr (mem_keys_del h)
theorem mem_names {o : List (ByteArray × Ob)} {pre n : ByteArray} (h : n ∈ names o pre) : n ∈ o.map (·.1) := by
  unfold names at h
  have h1 := (List.mem_filter.1 h).1
  exact (sortB_perm _).mem_iff.1 h1

/-- What holds behind k calls. -/
structure InvM (o : List (ByteArray × Ob)) (m : ByteArray) (k : Nat) : Prop where
  len : o.length ≤ k + 1
  usd : used o ≤ 60 + 50 * k
  key : ∀ q ∈ o.map (·.1), q.size ≤ 40
  mn : look o dM = some (m, (m.size : Int))
theorem InvM.next {o : List (ByteArray × Ob)} {m : ByteArray} {k : Nat} (h : InvM o m k) : InvM o m (k + 1) := ⟨Nat.le_succ_of_le h.len, by have := h.usd; omega, h.key, h.mn⟩
theorem InvM.put {o : List (ByteArray × Ob)} {m : ByteArray} {k : Nat} (h : InvM o m k) {n : ByteArray} (x : Ob) (hn : n ≠ dM) (hs : n.size ≤ 40) (hu : used (put o n x) ≤ used o + 50) : InvM (put o n x) m (k + 1) := by
  refine ⟨by have := length_put n x o; have := h.len; omega, by have := h.usd; omega, ?_, ?_⟩
  · intro q hq
    rcases mem_keys_put hq with rfl | hq
    · exact hs
    · exact h.key q hq
  · rw [look_put, if_neg (Ne.symm hn)]
    exact h.mn
theorem InvM.app {o : List (ByteArray × Ob)} {m : ByteArray} {k : Nat} (h : InvM o m k) {n : ByteArray} (s : ByteArray) (hn : n ≠ dM) (hs : n.size ≤ 40) (hu : s.size ≤ 50) : InvM (appO o n s) m (k + 1) :=
  h.put _ hn hs (by have := used_app o n s; unfold appO at this; omega)
theorem InvM.syn {o : List (ByteArray × Ob)} {m : ByteArray} {k : Nat} (h : InvM o m k) {n : ByteArray} (hn : n ≠ dM) (hs : n.size ≤ 40) : InvM (syncO o n) m (k + 1) :=
  h.put _ hn hs (by have := used_sync o n; unfold syncO at this; omega)
theorem InvM.del {o : List (ByteArray × Ob)} {m : ByteArray} {k : Nat} (h : InvM o m k) (hd : (o.map (·.1)).Nodup) {n : ByteArray} (hn : n ≠ dM) : InvM (del o n) m k := by
  refine ⟨by have := length_del n o; have := h.len; omega, by have := used_del n o; have := h.usd; omega, fun q hq => h.key q (mem_keys_del hq), ?_⟩
  rw [look_del n dM o hd, if_neg (Ne.symm hn)]
  exact h.mn
theorem InvM.ren {o : List (ByteArray × Ob)} {m : ByteArray} {k : Nat} (h : InvM o m k) (hd : (o.map (·.1)).Nodup) {a b : ByteArray} (ha : a ≠ dM) (hb : b ≠ dM) (hs : b.size ≤ 40) : InvM (renO o a b) m (k + 1) := by
  unfold renO
  split
  · exact h.next
  · rename_i hab
    have hu := used_ren hd (a := a) (b := b) hab
    have hl := length_put b (obOr (look o a)) (Go.Proofs.Ythcdodjdlgeeoaa.del o a)
    have hd1 := h.del hd ha
    refine ⟨by have := hd1.len; omega, by have := h.usd; omega, ?_, ?_⟩
    · intro q hq
      rcases mem_keys_put hq with rfl | hq
      · exact hs
      · exact hd1.key q hq
    · rw [look_put, if_neg (Ne.symm hb)]
      exact hd1.mn
theorem InvM.op {o o' : List (ByteArray × Ob)} {m : ByteArray} {k : Nat} (r : Option Int) (Q : List (Int × Bool)) (h : InvM o m k) (h' : InvM o' m (k + 1)) : InvM (opO r Q o o') m (k + 1) := by
  unfold opO chg
  split
  · exact h.next
  · split
    · exact h'
    · exact h.next

theorem used_put_le {o : List (ByteArray × Ob)} {n : ByteArray} {x : Ob} (h : x.1.size ≤ (obOr (look o n)).1.size) : used (put o n x) ≤ used o := by
  have := used_put n x o
  omega
theorem crash_step_keep (ch : List Int) (s : List (ByteArray × Ob) × Nat) (n : ByteArray) (hn : n ∈ s.1.map (·.1)) : (crashStep ch s n).1.map (·.1) = s.1.map (·.1) ∧ used (crashStep ch s n).1 ≤ used s.1 ∧
    ∀ p t, look s.1 p = some (t, (t.size : Int)) → look (crashStep ch s n).1 p = some (t, (t.size : Int)) := by
  unfold crashStep
  dsimp only
  split
  · exact ⟨rfl, Nat.le_refl _, fun _ _ h => h⟩
  · rename_i hz
    refine ⟨keys_put_mem n _ hn, ?_, ?_⟩
    · exact used_put_le (by simp only [ByteArray.size_extract]; omega)
    · intro p t hp
      rw [look_put]
      split
      · rename_i e
        subst e
        rw [hp] at hz
        simp [obOr] at hz
      · exact hp
theorem InvM.crash {o : List (ByteArray × Ob)} {m : ByteArray} {k : Nat} (h : InvM o m k) (ch : List Int) : InvM (crashO ch o) m (k + 1) := by
  suffices hs : ∀ (M : List ByteArray) (s : List (ByteArray × Ob) × Nat), (∀ n ∈ M, n ∈ s.1.map (·.1)) → ((M.foldl (crashStep ch) s).1.map (·.1) = s.1.map (·.1) ∧ used (M.foldl (crashStep ch) s).1 ≤ used s.1 ∧
      ∀ p t, look s.1 p = some (t, (t.size : Int)) → look (M.foldl (crashStep ch) s).1 p = some (t, (t.size : Int))) by
    obtain ⟨h1, h2, h3⟩ := hs ((names o ⟨#[]⟩).take (names o ⟨#[]⟩).length) (o, 0) (fun n hn => mem_names (List.mem_of_mem_take hn))
    refine ⟨?_, Nat.le_trans h2 (by have := h.usd; simp only; omega), ?_, h3 _ _ h.mn⟩
    · have := congrArg List.length h1
      simp only [List.length_map] at this
      have := h.len
      unfold crashO crashK
      omega
    · intro q hq
      unfold crashO crashK at hq
      rw [h1] at hq
      exact h.key q hq
  intro M
  induction M with
  | nil => intro s _; exact ⟨rfl, Nat.le_refl _, fun _ _ h => h⟩
  | cons n M ih =>
    intro s hM
    obtain ⟨a1, a2, a3⟩ := crash_step_keep ch s n (hM n (by simp))
    obtain ⟨b1, b2, b3⟩ := ih (crashStep ch s n) (fun q hq => by rw [a1]; exact hM q (by simp [hq]))
    rw [List.foldl_cons]
    exact ⟨b1.trans a1, Nat.le_trans b2 a2, fun p t hp => b3 p t (a3 p t hp)⟩
theorem InvM.sizes {o : List (ByteArray × Ob)} {m : ByteArray} {k : Nat} (h : InvM o m k) (hk : k ≤ 25) : (∀ p ∈ o, p.1.size ≤ maxLen) ∧ o.length * 16 ≤ 140737488355328 ∧ used o ≤ 1000000000 := by
  refine ⟨fun p hp => ?_, by have := h.len; omega, by have := h.usd; omega⟩
  have := h.key p.1 (List.mem_map.2 ⟨p, hp, rfl⟩)
  unfold maxLen
  omega
end Go.Proofs.Ythcdodjdlgeeoaa
