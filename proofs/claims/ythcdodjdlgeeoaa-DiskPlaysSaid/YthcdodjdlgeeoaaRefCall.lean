/-
  The document's bucket (barographref05): the calls Change, Ask, Range.
  Each contract holds in every world in which the bucket can be read; old memory is left as it was.
-/
import Derived.Test.YthcdodjdlgeeoaaRefWith
namespace Go.Proofs.Ythcdodjdlgeeoaa
open Go Go.RowKit Go.ChangeShapes Go.WideShapes Go.Deep

def CallPost (w : World) (L : List (ByteArray × Ob)) (Q : List (Int × Bool)) (r : Int) (e : Ending) (w' : World) : Prop :=
  ∃ v, e = .returned (.tuple #[v, .int .i64 r]) ∧ RefB w' v L Q ∧ Keeps [] w w'
theorem RefFuse.form {w : World} {v : Value} {Q : List (Int × Bool)} (h : RefFuse w v Q) : ∃ a c, v = .agg #[.slice a Q.length c] ∧ SlOk (.slice a Q.length c) ∧ FArg w (.slice a Q.length c) Q := by
  obtain ⟨s, rfl, ho, hs⟩ := h
  obtain ⟨a, c, rfl⟩ := hs.form
  exact ⟨a, c, rfl, ho, hs⟩
theorem RefB.form {w : World} {v : Value} {L : List (ByteArray × Ob)} {Q : List (Int × Bool)} (h : RefB w v L Q) : ∃ a c b d, v = .agg #[.slice a L.length c, .slice b Q.length d] := by
  obtain ⟨s, f, rfl, hs, _, hf⟩ := h
  obtain ⟨a, c, rfl⟩ := hs.form
  obtain ⟨b, d, rfl⟩ := hf.form
  exact ⟨a, c, b, d, rfl⟩

/-- A block whose cells are all slices: no cell of a fault or an object. -/
def Boxy (w : World) (q : Nat) : Prop := ∀ i u, w.cell? ⟨q, i, none⟩ = some u → ∃ a n c, u = .slice a n c
theorem boxy_at {w : World} {q : Nat} {a b : Option Addr} {n m c d : Nat} {t : TypeId} {f : Nat × Nat} (h : w.heap[q]? = some (.cells #[.slice a n c, .slice b m d] t f)) : Boxy w q := by
  intro i u hu
  rw [cells_at h] at hu
  match i, hu with
  | 0, hu => simp at hu; exact ⟨_, _, _, hu.symm⟩
  | 1, hu => simp at hu; exact ⟨_, _, _, hu.symm⟩
  | i + 2, hu => simp at hu
theorem SliceArg.setBox {α : Type} {size : Nat} {enc : α → List Value} {w : World} {v : Value} {L : List α} (h : SliceArg size enc w v L) {q i : Nat} (hq : Boxy w q) (hs : 0 < size) (hl : ∀ x, (enc x).length = size) (hn : ∀ x (j : Nat) a n c, (enc x)[j]? ≠ some (.slice a n c)) (u : Value) : SliceArg size enc (w.setCell ⟨q, i, none⟩ u) v L := by
  obtain ⟨ao, cap, rfl, h1, h2⟩ := h
  refine ⟨ao, cap, rfl, h1, fun k hk => ?_⟩
  obtain ⟨b, off, rfl, hb, hc⟩ := h2 k hk
  have hbq : b ≠ q := by
    rintro rfl
    have h0 := hc 0 hs
    rw [List.getElem?_eq_getElem (by rw [hl]; exact hs)] at h0
    obtain ⟨a, n, c, e⟩ := hq _ _ h0
    refine hn L[k] 0 a n c ?_
    rw [List.getElem?_eq_getElem (by rw [hl]; exact hs), e]
  have hkq : Keeps [q] w (w.setCell ⟨q, i, none⟩ u) := (Keeps.refl [q] w).setCell (.inl (by simp)) u
  exact ⟨b, off, rfl, hkq.lt hb, fun j hj => (hkq.cell hb (by simpa using hbq)).trans (hc j hj)⟩
theorem Typed.set {w : World} {e : TypeId} {v : Value} (h : Typed w e v) (q i : Nat) (u : Value) : Typed (w.setCell ⟨q, i, none⟩ u) e v := by
  intro b n c hv hn
  obtain ⟨cs, fz, hb⟩ := h b n c hv hn
  by_cases hq : b.block = q
  · subst hq
    exact ⟨_, _, heap_cell_same hb u⟩
  · exact ⟨cs, fz, (heap_cell_other (p := ⟨q, i, none⟩) u hq).trans hb⟩
theorem RefB.setBox {w : World} {v : Value} {L : List (ByteArray × Ob)} {Q : List (Int × Bool)} (h : RefB w v L Q) {q i : Nat} (hq : Boxy w q) (u : Value) : RefB (w.setCell ⟨q, i, none⟩ u) v L Q := by
  obtain ⟨s, f, rfl, hs, ho, hf⟩ := h
  refine ⟨s, f, rfl, hs.setBox hq (by omega) (fun _ => rfl) ?_ u, ho, hf.1.setBox hq (by omega) (fun _ => rfl) ?_ u, hf.2.set q i u⟩
  · intro x j a n c h
    match j, h with
    | 0, h => simp [encObj] at h
    | 1, h => simp [encObj] at h
    | 2, h => simp [encObj] at h
    | j + 3, h => simp [encObj] at h
  · intro x j a n c h
    match j, h with
    | 0, h => simp [encFo] at h
    | 1, h => simp [encFo] at h
    | j + 2, h => simp [encFo] at h
/-- A bucket that lies in a block of its own. -/
def BoxB (w : World) (q : Nat) (L : List (ByteArray × Ob)) (Q : List (Int × Bool)) : Prop :=
  ∃ a c b d, w.heap[q]? = some (.cells #[.slice a L.length c, .slice b Q.length d] 60 (0, 0)) ∧ RefB w (.agg #[.slice a L.length c, .slice b Q.length d]) L Q
/-- A bucket is stored into a block of slices. -/
theorem RefB.store {w : World} {a b : Option Addr} {c d : Nat} {L : List (ByteArray × Ob)} {Q : List (Int × Bool)} (h : RefB w (.agg #[.slice a L.length c, .slice b Q.length d]) L Q) {q : Nat} {x y : Option Addr} {n m e f : Nat}
    (hq : w.heap[q]? = some (.cells #[.slice x n e, .slice y m f] 60 (0, 0))) : BoxB ((w.setCell ⟨q, 0, none⟩ (.slice a L.length c)).setCell ⟨q, 1, none⟩ (.slice b Q.length d)) q L Q := by
  have h1 := heap_cell_same hq (i := 0) (.slice a L.length c)
  have h2 := heap_cell_same h1 (i := 1) (.slice b Q.length d)
  exact ⟨a, c, b, d, h2, (h.setBox (boxy_at hq) _).setBox (boxy_at h1) _⟩
theorem RefB.storeF {w : World} {a b : Option Addr} {c d : Nat} {L : List (ByteArray × Ob)} {Q : List (Int × Bool)} (h : RefB w (.agg #[.slice a L.length c, .slice b Q.length d]) L Q) {q : Nat} {y : Option Addr} {m f : Nat}
    (hq : w.heap[q]? = some (.cells #[.slice a L.length c, .slice y m f] 60 (0, 0))) : BoxB (w.setCell ⟨q, 1, none⟩ (.slice b Q.length d)) q L Q := by
  have h1 := heap_cell_same hq (i := 1) (.slice b Q.length d)
  exact ⟨a, c, b, d, h1, h.setBox (boxy_at hq) _⟩

set_option maxRecDepth 100000 in
set_option maxHeartbeats 1000000 in
theorem ask_ref (w : World) (v : Value) (L : List (ByteArray × Ob)) (Q : List (Int × Bool)) (hQ : Q.length ≤ 1000) (hk : ∀ x ∈ Q, okF x) (h : RefB w v L Q) :
    Calls Try.prog 57 #[v] w (CallPost w L (tryQ Q) (ioErr Q)) := by
  obtain ⟨s, f, rfl, hs, ho, hf⟩ := h
  obtain ⟨a, c, rfl⟩ := hs.form
  obtain ⟨b, d, rfl⟩ := hf.form
  have Hs := Lib.hid (And.intro hs (And.intro ho hf))
  clear hs hf ho
  go_enter Try.func57, Try.ntmps57
  go_wp2_with fail
  have hk2 : Keeps [] w ((w.alloc (.cells #[.slice a L.length c, .slice b Q.length d] 60)).alloc (.cells #[.slice none 0 0, .slice none 0 0] 60)) := ((Keeps.refl [] w).alloc _).alloc _
  obtain ⟨q0, q1⟩ := new2 w (.cells #[.slice a L.length c, .slice b Q.length d] 60) (.cells #[.slice none 0 0, .slice none 0 0] 60)
  generalize ((w.alloc (.cells #[.slice a L.length c, .slice b Q.length d] 60)).alloc (.cells #[.slice none 0 0, .slice none 0 0] 60)) = W2 at hk2 q0 q1 ⊢
  refine (refTry_spec W2 _ Q hQ hk ⟨_, rfl, Hs.out.2.1, Hs.out.2.2.keep hk2⟩).mono ?_
  rintro e w3 ⟨vf, rfl, hfu, hk3⟩
  obtain ⟨b', d', rfl, ho', hf'⟩ := hfu.form
  replace q0 := hk3.at_ q0 (by simp)
  replace q1 := hk3.at_ q1 (by simp)
  have hk03 := hk2.trans hk3
  clear hfu hk2 hk3
  have c0 := cells_at q0
  have f0 := free_at q0
  have c1 := cells_at q1
  have f1 := free_at q1
  have l0 := lt_of_at q0
  have l1 := lt_of_at q1
  have hne : w.heap.size ≠ w.heap.size + 1 := by omega
  have hRB : RefB w3 (.agg #[.slice a L.length c, .slice b' (tryQ Q).length d']) L (tryQ Q) := ⟨_, _, rfl, Hs.out.1.keep hk03, ho', hf'⟩
  have q1' := (heap_cell_other (p := ⟨w.heap.size, 1, none⟩) (.slice b' (tryQ Q).length d') (by simp : w.heap.size + 1 ≠ w.heap.size)).trans q1
  have hB := (hRB.setBox (i := 1) (boxy_at q0) (.slice b' (tryQ Q).length d')).store q1'
  have hc := cells_at (heap_cell_same (i := 1) (heap_cell_same (i := 0) q1' (.slice a L.length c)) (.slice b' (tryQ Q).length d'))
  have hk3' := ((hk03.setCell (p := ⟨w.heap.size, 1, none⟩) (.inr (Nat.le_refl _)) (.slice b' (tryQ Q).length d')).setCell (p := ⟨w.heap.size + 1, 0, none⟩) (.inr (Nat.le_succ _)) (.slice a L.length c)).setCell (p := ⟨w.heap.size + 1, 1, none⟩) (.inr (Nat.le_succ _)) (.slice b' (tryQ Q).length d')
  have hRB' := (((hRB.setBox (i := 1) (boxy_at q0) (.slice b' (tryQ Q).length d'))).setBox (i := 0) (boxy_at q1') (.slice a L.length c)).setBox (i := 1) (boxy_at (heap_cell_same (i := 0) q1' (.slice a L.length c))) (.slice b' (tryQ Q).length d')
  have Hq := Lib.hid (And.intro hk3' (And.intro hRB' hc))
  clear q0 q1 hk03 hf' hRB q1' hB hc hk3' hRB'
  cases hw : tryWorks Q with
  | true =>
    go_wp2_with fail
    have hc := Hq.out.2.2
    refine bodyPost_ret (v := .tuple #[.agg #[.slice a L.length c, .slice b' (tryQ Q).length d'], .int .i64 0]) ?_ rfl ?_
    · simp [results, Try.results57, go_sem, hc, l1]
    · exact ⟨_, by simp [ioErr, hw], Hq.out.2.1.keep ((Keeps.refl [] _).alloc _), Hq.out.1.alloc _⟩
  | false =>
    go_wp2_with fail
    have hc := Hq.out.2.2
    refine bodyPost_ret (v := .tuple #[.agg #[.slice a L.length c, .slice b' (tryQ Q).length d'], .int .i64 8]) ?_ rfl ?_
    · simp [results, Try.results57, go_sem, hc, l1]
    · exact ⟨_, by simp [ioErr, hw], Hq.out.2.1.keep ((Keeps.refl [] _).alloc _), Hq.out.1.alloc _⟩

/-- A bucket is stored into the block of the result. -/
theorem res_end {w W : World} {q : Nat} {a b : Option Addr} {c d : Nat} {L : List (ByteArray × Ob)} {Q : List (Int × Bool)} (hq : w.heap.size ≤ q) (h : RefB W (.agg #[.slice a L.length c, .slice b Q.length d]) L Q) {x y : Option Addr} {n m e f : Nat}
    (hres : W.heap[q]? = some (.cells #[.slice x n e, .slice y m f] 60 (0, 0))) (hk : Keeps [] w W) :
    (∀ i, ((W.setCell ⟨q, 0, none⟩ (.slice a L.length c)).setCell ⟨q, 1, none⟩ (.slice b Q.length d)).cell? ⟨q, i, none⟩ = #[.slice a L.length c, .slice b Q.length d][i]?) ∧
    RefB ((W.setCell ⟨q, 0, none⟩ (.slice a L.length c)).setCell ⟨q, 1, none⟩ (.slice b Q.length d)) (.agg #[.slice a L.length c, .slice b Q.length d]) L Q ∧ Keeps [] w ((W.setCell ⟨q, 0, none⟩ (.slice a L.length c)).setCell ⟨q, 1, none⟩ (.slice b Q.length d)) := by
  have h1 := heap_cell_same hres (i := 0) (.slice a L.length c)
  have h2 := heap_cell_same h1 (i := 1) (.slice b Q.length d)
  exact ⟨cells_at h2, (h.setBox (boxy_at hres) _).setBox (boxy_at h1) _, (hk.setCell (.inr hq) _).setCell (.inr hq) _⟩

/-- What a call of Change leaves, behind its Try. -/
def putL (Q : List (Int × Bool)) (L M : List (ByteArray × Ob)) : List (ByteArray × Ob) := if tryDone Q then M else L

set_option maxRecDepth 100000 in
set_option maxHeartbeats 1000000 in
theorem change_put (w : World) (v : Value) (L : List (ByteArray × Ob)) (Q : List (Int × Bool)) (n dt : ByteArray) (tk : Int) (h1 : 0 < n.size) (h40 : n.size ≤ 40) (hL : L.length ≤ 900) (hQ : Q.length ≤ 1000) (hk : ∀ x ∈ Q, okF x) (h : RefB w v L Q) :
    Calls Try.prog 56 #[v, .agg #[.string n, .string dt, .int .i64 tk], .bool true] w (CallPost w (putL Q L (insL (L.filter fun p => !decide (p.1 = n)) (n, (dt, tk)))) (tryQ Q) (ioErr Q)) := by
  obtain ⟨s, f, rfl, hs, ho, hf⟩ := h
  obtain ⟨a, c, rfl⟩ := hs.form
  obtain ⟨b, d, rfl⟩ := hf.form
  have Hs := Lib.hid (And.intro hs (And.intro ho hf))
  clear hs hf ho
  obtain ⟨e1, e2⟩ := ne_empty (s := n) (by omega)
  have e4 : ((n.size : Int) > 40) = False := by simp; omega
  go_enter Try.func56, Try.ntmps56
  go_wp2_with fail
  have hk2 : Keeps [] w (((w.alloc (.cells #[.slice a L.length c, .slice b Q.length d] 60)).alloc (.cells #[.string n, .string dt, .int .i64 tk] 65)).alloc (.cells #[.slice none 0 0, .slice none 0 0] 60)) := (((Keeps.refl [] w).alloc _).alloc _).alloc _
  obtain ⟨q0, q1, q2⟩ := new3 w (.cells #[.slice a L.length c, .slice b Q.length d] 60) (.cells #[.string n, .string dt, .int .i64 tk] 65) (.cells #[.slice none 0 0, .slice none 0 0] 60)
  generalize (((w.alloc (.cells #[.slice a L.length c, .slice b Q.length d] 60)).alloc (.cells #[.string n, .string dt, .int .i64 tk] 65)).alloc (.cells #[.slice none 0 0, .slice none 0 0] 60)) = W2 at hk2 q0 q1 q2 ⊢
  refine (refTry_spec W2 _ Q hQ hk ⟨_, rfl, Hs.out.2.1, Hs.out.2.2.keep hk2⟩).mono ?_
  rintro e w3 ⟨vf, rfl, hfu, hk3⟩
  obtain ⟨b', d', rfl, ho', hf'⟩ := hfu.form
  replace q0 := hk3.at_ q0 (by simp)
  replace q1 := hk3.at_ q1 (by simp)
  replace q2 := hk3.at_ q2 (by simp)
  have hk03 := hk2.trans hk3
  clear hfu hk2 hk3
  have c0 := cells_at q0
  have f0 := free_at q0
  have c1 := cells_at q1
  have f1 := free_at q1
  have c2 := cells_at q2
  have f2 := free_at q2
  have l0 := lt_of_at q0
  have l1 := lt_of_at q1
  have l2 := lt_of_at q2
  have hne : w.heap.size ≠ w.heap.size + 1 := by omega
  have hne2 : w.heap.size ≠ w.heap.size + 1 + 1 := by omega
  have hRB : RefB w3 (.agg #[.slice a L.length c, .slice b' (tryQ Q).length d']) L (tryQ Q) := ⟨_, _, rfl, Hs.out.1.keep hk03, ho', hf'⟩
  have hRB1 := hRB.setBox (i := 1) (boxy_at q0) (.slice b' (tryQ Q).length d')
  have q0' := heap_cell_same (i := 1) q0 (.slice b' (tryQ Q).length d')
  have q2' := (heap_cell_other (p := ⟨w.heap.size, 1, none⟩) (.slice b' (tryQ Q).length d') (by omega : w.heap.size + 1 + 1 ≠ w.heap.size)).trans q2
  have hk3' := hk03.setCell (p := ⟨w.heap.size, 1, none⟩) (.inr (Nat.le_refl _)) (.slice b' (tryQ Q).length d')
  have Hq := Lib.hid (And.intro q0' (And.intro q2' (And.intro hk3' hRB1)))
  clear q0 q1 q2 hk03 hf' hRB hRB1 q0' q2' hk3'
  cases hd : tryDone Q with
  | true =>
    go_wp2_with fail
    have hk4 := Hq.out.2.2.1.alloc (.cells #[.slice b' (tryQ Q).length d'] 58)
    have hRB4 := Hq.out.2.2.2.keep ((Keeps.refl [] _).alloc (.cells #[.slice b' (tryQ Q).length d'] 58))
    have r0 := heap_old Hq.out.1 (.cells #[.slice b' (tryQ Q).length d'] 58)
    have r2 := heap_old Hq.out.2.1 (.cells #[.slice b' (tryQ Q).length d'] 58)
    generalize (w3.setCell ⟨w.heap.size, 1, none⟩ (.slice b' (tryQ Q).length d')).alloc (.cells #[.slice b' (tryQ Q).length d'] 58) = W4 at hk4 hRB4 r0 r2 ⊢
    refine (with_spec W4 _ L (tryQ Q) n dt tk hL hRB4).mono ?_
    rintro e w5 ⟨v5, rfl, hB5, hk5⟩
    replace r0 := hk5.at_ r0 (by simp)
    replace r2 := hk5.at_ r2 (by simp)
    have hk05 := hk4.trans hk5
    obtain ⟨a5, c5, b5, d5, rfl⟩ := hB5.form
    generalize hM : (insL (L.filter fun p => !decide (p.1 = n)) (n, (dt, tk))) = M5 at hB5
    have HM : Hid (putL Q L (insL (L.filter fun p => !decide (p.1 = n)) (n, (dt, tk))) = M5) := Lib.hid (by simp [putL, hd, ← hM])
    clear hM
    obtain ⟨_, hRB6, hk6⟩ := res_end (Nat.le_refl w.heap.size) hB5 r0 hk05
    have r2' := (heap_cell_other (p := ⟨w.heap.size, 1, none⟩) (.slice b5 (tryQ Q).length d5) hne2.symm).trans ((heap_cell_other (p := ⟨w.heap.size, 0, none⟩) (.slice a5 M5.length c5) hne2.symm).trans r2)
    have Hfin := Lib.hid (res_end (q := w.heap.size + 1 + 1) (by omega) hRB6 r2' hk6)
    have c0 := cells_at r0
    have f0 := free_at r0
    have c2 := cells_at r2
    have f2 := free_at r2
    clear r0 r2 r2' hRB4 hk4 hk5 hk05 hB5 hRB6 hk6 c1 f1
    cases hw : tryWorks Q with
    | true =>
      go_wp2_with fail
      have hc := Hfin.out.1
      refine bodyPost_ret (v := .tuple #[.agg #[.slice a5 M5.length c5, .slice b5 (tryQ Q).length d5], .int .i64 0]) ?_ rfl ?_
      · simp [results, Try.results56, go_sem, hc]
      · rw [HM.out]; exact ⟨_, by simp [ioErr, hw], Hfin.out.2.1, Hfin.out.2.2⟩
    | false =>
      go_wp2_with fail
      have hc := Hfin.out.1
      refine bodyPost_ret (v := .tuple #[.agg #[.slice a5 M5.length c5, .slice b5 (tryQ Q).length d5], .int .i64 8]) ?_ rfl ?_
      · simp [results, Try.results56, go_sem, hc]
      · rw [HM.out]; exact ⟨_, by simp [ioErr, hw], Hfin.out.2.1, Hfin.out.2.2⟩
  | false =>
    cases hw : tryWorks Q with
    | true => exact absurd (tryDone_of Q hw) (by simp [hd])
    | false =>
      have Hfin := Lib.hid (res_end (q := w.heap.size + 1 + 1) (by omega) Hq.out.2.2.2 Hq.out.2.1 Hq.out.2.2.1)
      go_wp2_with fail
      have hc := Hfin.out.1
      refine bodyPost_ret (v := .tuple #[.agg #[.slice a L.length c, .slice b' (tryQ Q).length d'], .int .i64 8]) ?_ rfl ?_
      · simp [results, Try.results56, go_sem, hc, l2]
      · exact ⟨.agg #[.slice a L.length c, .slice b' (tryQ Q).length d'], by simp [ioErr, hw], by rw [show putL Q L _ = L from by simp [putL, hd]]; exact Hfin.out.2.1.keep ((Keeps.refl [] _).alloc _), Hfin.out.2.2.alloc _⟩

set_option maxRecDepth 100000 in
set_option maxHeartbeats 1000000 in
theorem change_del (w : World) (v : Value) (L : List (ByteArray × Ob)) (Q : List (Int × Bool)) (n dt : ByteArray) (tk : Int) (hL : L.length ≤ 900) (hQ : Q.length ≤ 1000) (hk : ∀ x ∈ Q, okF x) (h : RefB w v L Q) :
    Calls Try.prog 56 #[v, .agg #[.string n, .string dt, .int .i64 tk], .bool false] w (CallPost w (putL Q L (L.filter fun p => !decide (p.1 = n))) (tryQ Q) (ioErr Q)) := by
  obtain ⟨s, f, rfl, hs, ho, hf⟩ := h
  obtain ⟨a, c, rfl⟩ := hs.form
  obtain ⟨b, d, rfl⟩ := hf.form
  have Hs := Lib.hid (And.intro hs (And.intro ho hf))
  clear hs hf ho
  go_enter Try.func56, Try.ntmps56
  go_wp2_with fail
  have hk2 : Keeps [] w (((w.alloc (.cells #[.slice a L.length c, .slice b Q.length d] 60)).alloc (.cells #[.string n, .string dt, .int .i64 tk] 65)).alloc (.cells #[.slice none 0 0, .slice none 0 0] 60)) := (((Keeps.refl [] w).alloc _).alloc _).alloc _
  obtain ⟨q0, q1, q2⟩ := new3 w (.cells #[.slice a L.length c, .slice b Q.length d] 60) (.cells #[.string n, .string dt, .int .i64 tk] 65) (.cells #[.slice none 0 0, .slice none 0 0] 60)
  generalize (((w.alloc (.cells #[.slice a L.length c, .slice b Q.length d] 60)).alloc (.cells #[.string n, .string dt, .int .i64 tk] 65)).alloc (.cells #[.slice none 0 0, .slice none 0 0] 60)) = W2 at hk2 q0 q1 q2 ⊢
  refine (refTry_spec W2 _ Q hQ hk ⟨_, rfl, Hs.out.2.1, Hs.out.2.2.keep hk2⟩).mono ?_
  rintro e w3 ⟨vf, rfl, hfu, hk3⟩
  obtain ⟨b', d', rfl, ho', hf'⟩ := hfu.form
  replace q0 := hk3.at_ q0 (by simp)
  replace q1 := hk3.at_ q1 (by simp)
  replace q2 := hk3.at_ q2 (by simp)
  have hk03 := hk2.trans hk3
  clear hfu hk2 hk3
  have c0 := cells_at q0
  have f0 := free_at q0
  have c1 := cells_at q1
  have f1 := free_at q1
  have c2 := cells_at q2
  have f2 := free_at q2
  have l0 := lt_of_at q0
  have l1 := lt_of_at q1
  have l2 := lt_of_at q2
  have hne : w.heap.size ≠ w.heap.size + 1 := by omega
  have hne2 : w.heap.size ≠ w.heap.size + 1 + 1 := by omega
  have hRB : RefB w3 (.agg #[.slice a L.length c, .slice b' (tryQ Q).length d']) L (tryQ Q) := ⟨_, _, rfl, Hs.out.1.keep hk03, ho', hf'⟩
  have hRB1 := hRB.setBox (i := 1) (boxy_at q0) (.slice b' (tryQ Q).length d')
  have q0' := heap_cell_same (i := 1) q0 (.slice b' (tryQ Q).length d')
  have q2' := (heap_cell_other (p := ⟨w.heap.size, 1, none⟩) (.slice b' (tryQ Q).length d') (by omega : w.heap.size + 1 + 1 ≠ w.heap.size)).trans q2
  have hk3' := hk03.setCell (p := ⟨w.heap.size, 1, none⟩) (.inr (Nat.le_refl _)) (.slice b' (tryQ Q).length d')
  have Hq := Lib.hid (And.intro q0' (And.intro q2' (And.intro hk3' hRB1)))
  clear q0 q1 q2 hk03 hf' hRB hRB1 q0' q2' hk3'
  cases hd : tryDone Q with
  | true =>
    go_wp2_with fail
    have hk4 := Hq.out.2.2.1.alloc (.cells #[.slice b' (tryQ Q).length d'] 58)
    have hRB4 := Hq.out.2.2.2.keep ((Keeps.refl [] _).alloc (.cells #[.slice b' (tryQ Q).length d'] 58))
    have r0 := heap_old Hq.out.1 (.cells #[.slice b' (tryQ Q).length d'] 58)
    have r2 := heap_old Hq.out.2.1 (.cells #[.slice b' (tryQ Q).length d'] 58)
    generalize (w3.setCell ⟨w.heap.size, 1, none⟩ (.slice b' (tryQ Q).length d')).alloc (.cells #[.slice b' (tryQ Q).length d'] 58) = W4 at hk4 hRB4 r0 r2 ⊢
    refine (without_spec W4 _ L (tryQ Q) n (by omega) hRB4).mono ?_
    rintro e w5 ⟨v5, rfl, hB5, hk5⟩
    replace r0 := hk5.at_ r0 (by simp)
    replace r2 := hk5.at_ r2 (by simp)
    have hk05 := hk4.trans hk5
    obtain ⟨a5, c5, b5, d5, rfl⟩ := hB5.form
    generalize hM : (L.filter fun p => !decide (p.1 = n)) = M5 at hB5
    have HM : Hid (putL Q L (L.filter fun p => !decide (p.1 = n)) = M5) := Lib.hid (by simp [putL, hd, ← hM])
    clear hM
    obtain ⟨_, hRB6, hk6⟩ := res_end (Nat.le_refl w.heap.size) hB5 r0 hk05
    have r2' := (heap_cell_other (p := ⟨w.heap.size, 1, none⟩) (.slice b5 (tryQ Q).length d5) hne2.symm).trans ((heap_cell_other (p := ⟨w.heap.size, 0, none⟩) (.slice a5 M5.length c5) hne2.symm).trans r2)
    have Hfin := Lib.hid (res_end (q := w.heap.size + 1 + 1) (by omega) hRB6 r2' hk6)
    have c0 := cells_at r0
    have f0 := free_at r0
    have c2 := cells_at r2
    have f2 := free_at r2
    clear r0 r2 r2' hRB4 hk4 hk5 hk05 hB5 hRB6 hk6 c1 f1
    cases hw : tryWorks Q with
    | true =>
      go_wp2_with fail
      have hc := Hfin.out.1
      refine bodyPost_ret (v := .tuple #[.agg #[.slice a5 M5.length c5, .slice b5 (tryQ Q).length d5], .int .i64 0]) ?_ rfl ?_
      · simp [results, Try.results56, go_sem, hc]
      · rw [HM.out]; exact ⟨_, by simp [ioErr, hw], Hfin.out.2.1, Hfin.out.2.2⟩
    | false =>
      go_wp2_with fail
      have hc := Hfin.out.1
      refine bodyPost_ret (v := .tuple #[.agg #[.slice a5 M5.length c5, .slice b5 (tryQ Q).length d5], .int .i64 8]) ?_ rfl ?_
      · simp [results, Try.results56, go_sem, hc]
      · rw [HM.out]; exact ⟨_, by simp [ioErr, hw], Hfin.out.2.1, Hfin.out.2.2⟩
  | false =>
    cases hw : tryWorks Q with
    | true => exact absurd (tryDone_of Q hw) (by simp [hd])
    | false =>
      have Hfin := Lib.hid (res_end (q := w.heap.size + 1 + 1) (by omega) Hq.out.2.2.2 Hq.out.2.1 Hq.out.2.2.1)
      go_wp2_with fail
      have hc := Hfin.out.1
      refine bodyPost_ret (v := .tuple #[.agg #[.slice a L.length c, .slice b' (tryQ Q).length d'], .int .i64 8]) ?_ rfl ?_
      · simp [results, Try.results56, go_sem, hc, l2]
      · exact ⟨.agg #[.slice a L.length c, .slice b' (tryQ Q).length d'], by simp [ioErr, hw], by rw [show putL Q L _ = L from by simp [putL, hd]]; exact Hfin.out.2.1.keep ((Keeps.refl [] _).alloc _), Hfin.out.2.2.alloc _⟩

set_option maxRecDepth 100000 in
set_option maxHeartbeats 1000000 in
theorem change_bad (w : World) (v : Value) (L : List (ByteArray × Ob)) (Q : List (Int × Bool)) (n dt : ByteArray) (tk : Int) (hb : n.size = 0 ∨ 40 < n.size) (hn : n.size ≤ 9223372036854775807) (h : RefB w v L Q) :
    Calls Try.prog 56 #[v, .agg #[.string n, .string dt, .int .i64 tk], .bool true] w (CallPost w L Q 1) := by
  have Hs := Lib.hid h
  obtain ⟨a, c, b, d, rfl⟩ := h.form
  clear h
  by_cases h0 : n.size = 0
  · obtain ⟨e1, e2⟩ := is_empty h0
    clear hb
    have hn0 : n = ⟨#[]⟩ := by
      obtain ⟨⟨l⟩⟩ := n
      simp only [ByteArray.size, List.size_toArray] at h0
      rw [List.eq_nil_of_length_eq_zero h0]
    subst hn0
    go_enter Try.func56, Try.ntmps56
    go_wp2_with fail
    have hc := cells_at (new3 w (.cells #[.slice a L.length c, .slice b Q.length d] 60) (.cells #[.string ⟨#[]⟩, .string dt, .int .i64 tk] 65) (.cells #[.slice a L.length c, .slice b Q.length d] 60)).2.2
    have hk3 : Keeps [] w (((w.alloc (.cells #[.slice a L.length c, .slice b Q.length d] 60)).alloc (.cells #[.string ⟨#[]⟩, .string dt, .int .i64 tk] 65)).alloc (.cells #[.slice a L.length c, .slice b Q.length d] 60)) := (((Keeps.refl [] w).alloc _).alloc _).alloc _
    refine bodyPost_ret (v := .tuple #[.agg #[.slice a L.length c, .slice b Q.length d], .int .i64 1]) ?_ rfl ?_
    · simp [results, Try.results56, go_sem, hc]
    · exact ⟨_, rfl, Hs.out.keep hk3, hk3⟩
  · obtain ⟨e1, e2⟩ := ne_empty (s := n) h0
    have e4 : (decide ((n.size : Int) > 40)) = true := by simp; omega
    go_enter Try.func56, Try.ntmps56
    go_wp2_with fail
    have hc := cells_at (new3 w (.cells #[.slice a L.length c, .slice b Q.length d] 60) (.cells #[.string n, .string dt, .int .i64 tk] 65) (.cells #[.slice a L.length c, .slice b Q.length d] 60)).2.2
    have hk3 : Keeps [] w (((w.alloc (.cells #[.slice a L.length c, .slice b Q.length d] 60)).alloc (.cells #[.string n, .string dt, .int .i64 tk] 65)).alloc (.cells #[.slice a L.length c, .slice b Q.length d] 60)) := (((Keeps.refl [] w).alloc _).alloc _).alloc _
    refine bodyPost_ret (v := .tuple #[.agg #[.slice a L.length c, .slice b Q.length d], .int .i64 1]) ?_ rfl ?_
    · simp [results, Try.results56, go_sem, hc]
    · exact ⟨_, rfl, Hs.out.keep hk3, hk3⟩

/-- The bytes and the error of the document's Range. -/
def refRange (L : List (ByteArray × Ob)) (n : ByteArray) (x y : Int) : ByteArray × Int :=
  match L.find? (fun p => decide (p.1 = n)) with
  | none => (⟨#[]⟩, 5)
  | some p => if x < 0 ∨ (p.2.1.size : Int) < x ∨ y < 0 then (⟨#[]⟩, 1) else (p.2.1.extract x.toNat (x.toNat + min y.toNat (p.2.1.size - x.toNat)), 0)
def RangePost (w : World) (r : ByteArray × Int) (e : Ending) (w' : World) : Prop := e = .returned (.tuple #[.string r.1, .int .i64 r.2]) ∧ Keeps [] w w'
theorem find_ix {L : List (ByteArray × Ob)} {n : ByteArray} : (findIx L n = -1 ∧ L.find? (fun p => decide (p.1 = n)) = none) ∨ ∃ k, ∃ h : k < L.length, findIx L n = k ∧ L.find? (fun p => decide (p.1 = n)) = some L[k] := by
  unfold findIx
  cases hf : L.findIdx? (fun p => decide (p.1 = n)) with
  | none =>
    refine .inl ⟨rfl, ?_⟩
    rw [List.findIdx?_eq_none_iff] at hf
    rw [List.find?_eq_none]
    intro x hx
    simpa using hf x hx
  | some k =>
    obtain ⟨h, h1, h2⟩ := List.findIdx?_eq_some_iff_getElem.1 hf
    refine .inr ⟨k, h, rfl, ?_⟩
    rw [List.find?_eq_some_iff_getElem]
    exact ⟨h1, k, h, rfl, fun j hj => by simpa using h2 j hj⟩

set_option maxRecDepth 100000 in
set_option maxHeartbeats 1000000 in
theorem range_ref (w : World) (v : Value) (L : List (ByteArray × Ob)) (Q : List (Int × Bool)) (n : ByteArray) (x y : Int) (hx : -9223372036854775808 ≤ x ∧ x ≤ 9223372036854775807) (hy : -9223372036854775808 ≤ y ∧ y ≤ 9223372036854775807) (hd : ∀ p ∈ L, p.2.1.size ≤ 1000) (h : RefB w v L Q) :
    Calls Try.prog 58 #[v, .string n, .int .i64 x, .int .i64 y] w (RangePost w (refRange L n x y)) := by
  have Hs := Lib.hid h
  obtain ⟨a, c, b, d, rfl⟩ := h.form
  clear h
  go_enter Try.func58, Try.ntmps58
  go_wp2_with fail
  have hk1 : Keeps [] w (w.alloc (.cells #[.slice a L.length c, .slice b Q.length d] 60)) := (Keeps.refl [] w).alloc _
  have q0 := heap_new w (.cells #[.slice a L.length c, .slice b Q.length d] 60)
  generalize w.alloc (.cells #[.slice a L.length c, .slice b Q.length d] 60) = W1 at hk1 q0 ⊢
  refine (find_spec W1 _ L Q n (Hs.out.keep hk1)).mono ?_
  rintro e w2 ⟨rfl, hk2⟩
  replace q0 := hk2.at_ q0 (by simp)
  have hk02 := hk1.trans hk2
  have hRB := Hs.out.keep hk02
  have c0 := cells_at q0
  have Hk := Lib.hid hk02
  clear hk1 hk2 hk02
  rcases find_ix (L := L) (n := n) with ⟨h1, h2⟩ | ⟨k, hk, h1, h2⟩
  · rw [h1]
    have H2 := Lib.hid h2
    clear h1 h2
    go_wp2_with fail
    go_ret2
    exact ⟨by simp [refRange, H2.out], Hk.out⟩
  · rw [h1]
    obtain ⟨s, f, he, hs, _⟩ := hRB
    injection he with he
    simp at he
    obtain ⟨rfl, rfl⟩ := he
    obtain ⟨b2, off, rfl, hb2, d0, d1, d2⟩ := objCells hs hk
    have hsz := hd L[k] (List.getElem_mem _)
    have hk' : (k : Int) < (L.length : Int) := by omega
    generalize L[k] = p at h2 d0 d1 d2 hsz
    obtain ⟨pn, pd, pt⟩ := p
    simp only at d0 d1 d2 hsz
    have H2 := Lib.hid h2
    clear h1 h2 hs q0
    by_cases hbad : x < 0 ∨ (pd.size : Int) < x ∨ y < 0
    · have Hbad := Lib.hid hbad
      by_cases hx0 : x < 0
      · clear hbad
        go_wp2_with fail
        go_ret2
        exact ⟨by simp only [refRange, H2.out]; rw [if_pos Hbad.out]; rfl, Hk.out⟩
      · by_cases hx1 : (pd.size : Int) < x
        · clear hbad
          go_wp2_with fail
          go_ret2
          exact ⟨by simp only [refRange, H2.out]; rw [if_pos Hbad.out]; rfl, Hk.out⟩
        · have hy0 : y < 0 := by omega
          clear hbad
          go_wp2_with fail
          go_ret2
          exact ⟨by simp only [refRange, H2.out]; rw [if_pos Hbad.out]; rfl, Hk.out⟩
    · have Hbad := Lib.hid hbad
      obtain ⟨xn, rfl⟩ := Int.eq_ofNat_of_zero_le (a := x) (by omega)
      obtain ⟨yn, rfl⟩ := Int.eq_ofNat_of_zero_le (a := y) (by omega)
      have hxs : xn ≤ pd.size := by omega
      clear hbad
      have hout : refRange L n xn yn = (pd.extract xn (xn + min yn (pd.size - xn)), 0) := by
        simp only [refRange, H2.out]
        rw [if_neg Hbad.out]
        simp
      have Hout := Lib.hid hout
      clear hout
      go_wp2_with fail
      · have hlt : yn < pd.size - xn := by assumption
        go_ret2
        rw [Hout.out]
        refine ⟨?_, Hk.out⟩
        have h3 : (pd.extract xn pd.size).extract 0 yn = pd.extract xn (xn + min yn (pd.size - xn)) := by
          rw [ByteArray.extract_extract, Nat.add_zero, Nat.min_eq_left (by omega), Nat.min_eq_left (by omega)]
        simp [h3]
      · have hlt : ¬ yn < pd.size - xn := by omega
        go_ret2
        rw [Hout.out]
        refine ⟨?_, Hk.out⟩
        have h3 : pd.extract xn pd.size = pd.extract xn (xn + min yn (pd.size - xn)) := by
          rw [Nat.min_eq_right (by omega), show xn + (pd.size - xn) = pd.size from by omega]
        simp [← h3]

end Go.Proofs.Ythcdodjdlgeeoaa
