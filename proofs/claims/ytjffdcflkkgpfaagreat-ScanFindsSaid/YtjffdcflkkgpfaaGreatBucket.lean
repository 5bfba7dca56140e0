/-
  The bucket of package bucket: contracts of New, Put, Delete, Get, Range, List, Look and Peek over a list of objects and a queue of faults.
  Each holds for every world in which the bucket's blocks are laid as BucketAt says.
-/
import Derived.Test.YtjffdcflkkgpfaaGreatFuse
import Derived.Test.YtjffdcflkkgpfaaGreatMap
import Derived.StillTailTactics
import Derived.BigRegion
namespace Go.Proofs.YtjffdcflkkgpfaaGreat
open Go Go.RowKit Go.Conc

/-- An object: its bytes, when it was put. -/
abbrev Ob := ByteArray × Int

def encOb (x : Ob) : Value := .agg #[.string x.1, .int .i64 x.2]


structure BucketAt (w : World) (b f c mb : Nat) (armed : Bool) (Q : List (Int × Bool)) (o : List (ByteArray × Ob)) : Prop where
  cells : w.heap[b]? = some (.cells #[.pointer (some ⟨f, 0, none⟩), .map (some mb)] 77 (0, 0))
  fuse : FuseQ w f c armed Q
  map : MapAt w mb (encMap encOb o)


theorem BucketAt.neF {w : World} {b f c mb : Nat} {armed : Bool} {Q : List (Int × Bool)} {o : List (ByteArray × Ob)} (h : BucketAt w b f c mb armed Q o) : f ≠ mb := by
  obtain ⟨now, wait, hf, _⟩ := h.fuse
  exact h.map.ne hf.cells

theorem BucketAt.neC {w : World} {b f c mb : Nat} {armed : Bool} {Q : List (Int × Bool)} {o : List (ByteArray × Ob)} (h : BucketAt w b f c mb armed Q o) : c ≠ mb := by
  obtain ⟨now, wait, hf, _⟩ := h.fuse
  obtain ⟨s, r, hc⟩ := hf.chan
  exact h.map.ne_chan hc


theorem zeroOb (w : World) : (zeroValue 120).run Tryz.prog w = .ok (.agg #[.string ⟨#[]⟩, .int .i64 0]) w := by kernel_rfl


set_option maxHeartbeats 400000 in
theorem putAct (w : World) (pd pn pb pm b f c mb : Nat) (armed : Bool) (Q : List (Int × Bool)) (o : List (ByteArray × Ob)) (name data : ByteArray) (now : Int)
    (h1 : w.heap[pd]? = some (.cells #[.string data] 9 (0, 0))) (h2 : w.heap[pn]? = some (.cells #[.int .i64 now] 3 (0, 0)))
    (h3 : w.heap[pb]? = some (.cells #[.pointer (some ⟨b, 0, none⟩)] 45 (0, 0))) (h4 : w.heap[pm]? = some (.cells #[.string name] 9 (0, 0)))
    (h : BucketAt w b f c mb armed Q o) :
    Calls Tryz.prog 94 #[.pointer (some ⟨pd, 0, none⟩), .pointer (some ⟨pn, 0, none⟩), .pointer (some ⟨pb, 0, none⟩), .pointer (some ⟨pm, 0, none⟩)] w
      (ActPost fun w' n => n = 0 ∧ BucketAt w' b f c mb armed Q (put o name (data, now)) ∧ Keeps [mb] w w') := by
  have c1 := cells_at h1
  have c2 := cells_at h2
  have c3 := cells_at h3
  have c4 := cells_at h4
  have cb := cells_at h.cells
  obtain ⟨ob, hrun, hm⟩ := (h.map.drew).run_update (P := Tryz.prog) Tryz.underlying75 Tryz.underlying9 name (encOb (data, now))
  simp only [encOb] at hrun
  clear h1 h2 h3 h4
  go_enter Tryz.func94, Tryz.ntmps94
  go_wp2
  go_region
  go_wp2
  go_ret
  refine ⟨0, rfl, rfl, ⟨?_, ?_, ?_⟩, (Keeps.refl _ _).drew.setAt (by simp) _⟩
  · exact ((heap_set_other _ (h.map.ne h.cells)).trans h.cells)
  · exact h.fuse.keep ((Keeps.refl [mb] _).drew.setAt (by simp) _) (by simpa using h.neF) (by simpa using h.neC)
  · rw [put_enc] at hm
    exact hm


set_option maxHeartbeats 400000 in
theorem delAct (w : World) (pb pm b f c mb : Nat) (armed : Bool) (Q : List (Int × Bool)) (o : List (ByteArray × Ob)) (name : ByteArray)
    (h3 : w.heap[pb]? = some (.cells #[.pointer (some ⟨b, 0, none⟩)] 45 (0, 0))) (h4 : w.heap[pm]? = some (.cells #[.string name] 9 (0, 0)))
    (h : BucketAt w b f c mb armed Q o) :
    Calls Tryz.prog 64 #[.pointer (some ⟨pb, 0, none⟩), .pointer (some ⟨pm, 0, none⟩)] w
      (ActPost fun w' n => n = 0 ∧ BucketAt w' b f c mb armed Q (del o name) ∧ Keeps [mb] w w') := by
  have c3 := cells_at h3
  have c4 := cells_at h4
  have cb := cells_at h.cells
  obtain ⟨ob, hrun, hm⟩ := (h.map.drew).run_delete (P := Tryz.prog) Tryz.underlying75 Tryz.underlying9 name 0
  clear h3 h4
  go_enter Tryz.func64, Tryz.ntmps64
  go_wp2
  go_region
  go_wp2
  go_ret
  refine ⟨0, rfl, rfl, ⟨?_, ?_, ?_⟩, (Keeps.refl _ _).drew.setAt (by simp) _⟩
  · exact ((heap_set_other _ (h.map.ne h.cells)).trans h.cells)
  · exact h.fuse.keep ((Keeps.refl [mb] _).drew.setAt (by simp) _) (by simpa using h.neF) (by simpa using h.neC)
  · rw [del_enc] at hm
    exact hm


/-- An object, or the empty one. -/
def obOr (x : Option Ob) : Ob := x.getD (⟨#[]⟩, 0)


set_option maxRecDepth 100000 in
set_option maxHeartbeats 400000 in
theorem getAct (w : World) (pb pm pr b f c mb : Nat) (armed : Bool) (Q : List (Int × Bool)) (o : List (ByteArray × Ob)) (name : ByteArray) (u1 : ByteArray) (u2 : Int)
    (h3 : w.heap[pb]? = some (.cells #[.pointer (some ⟨b, 0, none⟩)] 45 (0, 0))) (h4 : w.heap[pm]? = some (.cells #[.string name] 9 (0, 0)))
    (h5 : w.heap[pr]? = some (.cells #[.string u1, .int .i64 u2] 120 (0, 0)))
    (h : BucketAt w b f c mb armed Q o) :
    Calls Tryz.prog 101 #[.pointer (some ⟨pb, 0, none⟩), .pointer (some ⟨pm, 0, none⟩), .pointer (some ⟨pr, 0, none⟩)] w
      (ActPost fun w' n => n = (if (look o name).isSome then 0 else 5) ∧ w'.heap[pr]? = some (.cells #[.string (obOr (look o name)).1, .int .i64 (obOr (look o name)).2] 120 (0, 0)) ∧ Keeps [pr] w w') := by
  have c3 := cells_at h3
  have c4 := cells_at h4
  have c5 := cells_at h5
  have f5 := free_at h5
  have cb := cells_at h.cells
  have hrun := (h.map.drew).run_lookup (P := Tryz.prog) Tryz.underlying75 Tryz.underlying9 (zeroOb _) name true
  have H5 := Lib.hid h5
  clear h3 h4 h5
  cases hlk : look o name with
  | none =>
    simp only [lookVal, look_enc, hlk, Option.map_none, Option.getD_none, Option.isSome_none, if_true] at hrun
    clear hlk
    go_enter Tryz.func101, Tryz.ntmps101
    go_wp2
    go_region
    go_wp2
    go_ret
    refine ⟨_, rfl, rfl, ?_, ((Keeps.refl _ _).setCell (by simp) _).setCell (by simp) _ |>.drew⟩
    have hh := heap_cell_same (i := 1) (heap_cell_same (i := 0) H5.out (.string (obOr none).1)) (.int .i64 (obOr none).2)
    simpa [obOr, heap_drew] using hh
  | some x =>
    simp only [lookVal, look_enc, hlk, Option.map_some, Option.getD_some, Option.isSome_some, if_true, encOb] at hrun
    clear hlk
    go_enter Tryz.func101, Tryz.ntmps101
    go_wp2
    go_region
    go_wp2
    go_ret
    refine ⟨_, rfl, rfl, ?_, ((Keeps.refl _ _).setCell (by simp) _).setCell (by simp) _ |>.drew⟩
    have hh := heap_cell_same (i := 1) (heap_cell_same (i := 0) H5.out (.string (obOr (some x)).1)) (.int .i64 (obOr (some x)).2)
    simpa [obOr, heap_drew] using hh


/-- A call that only looks, of which R says what it does. -/
def AskPost (w : World) (b f c mb : Nat) (Q : List (Int × Bool)) (o : List (ByteArray × Ob)) (R : World → Int → Prop) (e : Ending) (w' : World) : Prop :=
  (tryWorks Q = true ∧ ∃ n, R w' n ∧ e = .returned (.int .i64 n)) ∨
  (tryWorks Q = false ∧ e = .returned (.int .i64 8) ∧ BucketAt w' b f c mb (tryArmed Q) (tryQ Q) o ∧ Keeps [f, c] w w')


theorem BucketAt.tried {w w' : World} {b f c mb : Nat} {armed a' : Bool} {Q Q' : List (Int × Bool)} {o : List (ByteArray × Ob)} (h : BucketAt w b f c mb armed Q o) (k : Keeps [f, c] w w') (hf : FuseQ w' f c a' Q') : BucketAt w' b f c mb a' Q' o := by
  obtain ⟨now, wait, hf0, _⟩ := h.fuse
  obtain ⟨s, r, hc0⟩ := hf0.chan
  have h1 : b ≠ f := ne_of_at h.cells hf0.cells (by simp)
  have h2 : b ≠ c := ne_of_at h.cells hc0 (by simp)
  exact ⟨k.at_ h.cells (by simp [h1, h2]), hf, h.map.keep k (by simp [h.neF.symm, h.neC.symm])⟩


set_option maxHeartbeats 400000 in
theorem ask_spec (w : World) (b f c mb : Nat) (armed : Bool) (Q : List (Int × Bool)) (o : List (ByteArray × Ob)) (h : BucketAt w b f c mb armed Q o) (fn : FuncId) (cap : Array Value) (R : World → Int → Prop) (hfn : GoFn Tryz.prog fn)
    (hact : tryWorks Q = true → ∀ w1, BucketAt w1 b f c mb (tryArmed Q) (tryQ Q) o → Keeps [f, c] w w1 → Calls Tryz.prog fn cap w1 (ActPost R)) :
    Calls Tryz.prog 100 #[.pointer (some ⟨b, 0, none⟩), .func (.func fn) #[] cap] w (AskPost w b f c mb Q o R) := by
  have Hact := Lib.hid hact
  clear hact
  have cb := cells_at h.cells
  go_enter Tryz.func100, Tryz.ntmps100
  go_wp2_with fail
  refine (try_spec w f c armed Q h.fuse).mono ?_
  rintro e w1 ⟨rfl, hq1, hk1⟩
  have hb1 := h.tried hk1 hq1
  generalize htd : tryDone Q = td at ⊢
  clear htd
  cases htw : tryWorks Q
  · go_wp2_with fail
    go_ret
    exact .inr ⟨htw, rfl, hb1, hk1⟩
  · have Htw := Lib.hid htw
    clear htw
    go_wp2_with (refine wpList_call_value rfl _ _ _ rfl fn #[] cap rfl hfn ?_)
    refine (Hact.out Htw.out w1 hb1 hk1).mono ?_
    rintro e w2 ⟨n, rfl, hR⟩
    dsimp only
    go_wp2
    go_ret
    exact .inl ⟨Htw.out, n, hR, rfl⟩


theorem BucketAt.keep {w w' : World} {b f c mb : Nat} {armed : Bool} {Q : List (Int × Bool)} {o : List (ByteArray × Ob)} {S : List Nat} (h : BucketAt w b f c mb armed Q o) (k : Keeps S w w') (hb : b ∉ S) (hf : f ∉ S) (hc : c ∉ S) (hm : mb ∉ S) : BucketAt w' b f c mb armed Q o :=
  ⟨k.at_ h.cells hb, h.fuse.keep k hf hc, h.map.keep k hm⟩

theorem FuseQ.lt {w : World} {f c : Nat} {armed : Bool} {Q : List (Int × Bool)} (h : FuseQ w f c armed Q) : f < w.heap.size ∧ c < w.heap.size := by
  obtain ⟨now, wait, hf0, _⟩ := h
  obtain ⟨s, r, hc0⟩ := hf0.chan
  exact ⟨lt_of_at hf0.cells, lt_of_at hc0⟩

theorem BucketAt.lt {w : World} {b f c mb : Nat} {armed : Bool} {Q : List (Int × Bool)} {o : List (ByteArray × Ob)} (h : BucketAt w b f c mb armed Q o) : b < w.heap.size ∧ f < w.heap.size ∧ c < w.heap.size ∧ mb < w.heap.size :=
  ⟨lt_of_at h.cells, h.fuse.lt.1, h.fuse.lt.2, h.map.lt⟩

theorem BucketAt.keepNew {w w' : World} {b f c mb : Nat} {armed : Bool} {Q : List (Int × Bool)} {o : List (ByteArray × Ob)} {S : List Nat} (h : BucketAt w b f c mb armed Q o) (k : Keeps S w w') (hS : ∀ x ∈ S, w.heap.size ≤ x) : BucketAt w' b f c mb armed Q o := by
  obtain ⟨h1, h2, h3, h4⟩ := h.lt
  refine h.keep k ?_ ?_ ?_ ?_ <;> (intro hm; have := hS _ hm; omega)

theorem BucketAt.keepBox {w w' : World} {b f c mb p : Nat} {armed : Bool} {Q : List (Int × Bool)} {o : List (ByteArray × Ob)} {cs : Array Value} {t : TypeId} {z : Nat × Nat} (h : BucketAt w b f c mb armed Q o) (k : Keeps [p] w w') (hp : w.heap[p]? = some (.cells cs t z)) (h1 : t ≠ 77) (h2 : t ≠ 144) : BucketAt w' b f c mb armed Q o := by
  obtain ⟨now, wait, hf0, _⟩ := h.fuse
  obtain ⟨s, r, hc0⟩ := hf0.chan
  refine h.keep k ?_ ?_ ?_ ?_
  · simp only [List.mem_singleton]; exact ne_of_at h.cells hp (by intro e; injection e with _ e; exact h1 e.symm)
  · simp only [List.mem_singleton]; exact ne_of_at hf0.cells hp (by intro e; injection e with _ e; exact h2 e.symm)
  · simp only [List.mem_singleton]; exact ne_of_at hc0 hp (by intro e; injection e)
  · simp only [List.mem_singleton]; exact fun e => h.map.ne hp e.symm


/-- The error's number of a call that has none of its own. -/
def ioErr (Q : List (Int × Bool)) : Int := if tryWorks Q then 0 else 8

/-- What a call that tries the fuse leaves. -/
def chg (Q : List (Int × Bool)) (o o' : List (ByteArray × Ob)) : List (ByteArray × Ob) := if tryDone Q then o' else o

theorem goFn_put : GoFn Tryz.prog 94 := ⟨_, Tryz.func94, by kernel_rfl, by kernel_rfl⟩

theorem goFn_del : GoFn Tryz.prog 64 := ⟨_, Tryz.func64, by kernel_rfl, by kernel_rfl⟩

theorem goFn_get : GoFn Tryz.prog 101 := ⟨_, Tryz.func101, by kernel_rfl, by kernel_rfl⟩


def PutPost (w : World) (b f c mb : Nat) (Q : List (Int × Bool)) (o o' : List (ByteArray × Ob)) (e : Ending) (w' : World) : Prop :=
  e = .returned (.int .i64 (ioErr Q)) ∧ BucketAt w' b f c mb (tryArmed Q) (tryQ Q) (chg Q o o') ∧ Keeps [f, c, mb] w w'


set_option maxHeartbeats 400000 in
theorem put_spec (w : World) (b f c mb : Nat) (armed : Bool) (Q : List (Int × Bool)) (o : List (ByteArray × Ob)) (h : BucketAt w b f c mb armed Q o) (name data : ByteArray) (now : Int)
    (h0 : name.size ≠ 0) (h40 : name.size ≤ 40) :
    Calls Tryz.prog 55 #[.pointer (some ⟨b, 0, none⟩), .string name, .string data, .int .i64 now] w (PutPost w b f c mb Q o (put o name (data, now))) := by
  have cb := cells_at h.cells
  obtain ⟨l0, lf, lc, lm⟩ := h.lt
  obtain ⟨l1, l2, l3, l4, l5, l6⟩ := lt_more l0
  obtain ⟨e1, e2⟩ := ne_empty h0
  have hk := (((Keeps.refl [] w).alloc (.cells #[.pointer (some ⟨b, 0, none⟩)] 45)).alloc (.cells #[.string name] 9)).alloc (.cells #[.string data] 9) |>.alloc (.cells #[.int .i64 now] 3)
  have hW := h.keepNew hk (by simp)
  obtain ⟨n1, n2, n3, n4⟩ := new4 w (.cells #[.pointer (some ⟨b, 0, none⟩)] 45) (.cells #[.string name] 9) (.cells #[.string data] 9) (.cells #[.int .i64 now] 3)
  have N := Lib.hid (And.intro n1 (And.intro n2 (And.intro n3 n4)))
  clear n1 n2 n3 n4
  go_enter Tryz.func55, Tryz.ntmps55
  go_wp2_with fail
  refine (do_spec _ f c armed Q hW.fuse _ _ (fun w' n => n = 0 ∧ BucketAt w' b f c mb (tryArmed Q) (tryQ Q) (put o name (data, now)) ∧ Keeps [f, c, mb] w w') goFn_put ?_).mono ?_
  · intro _ w1 hq1 hk1
    obtain ⟨n1, n2, n3, n4⟩ := N.out
    have hb1 := hW.tried hk1 hq1
    refine (putAct w1 _ _ _ _ b f c mb _ _ o name data now (hk1.at_ n3 ?_) (hk1.at_ n4 ?_) (hk1.at_ n1 ?_) (hk1.at_ n2 ?_) hb1).mono ?_
    · simp; omega
    · simp; omega
    · simp; omega
    · simp; omega
    · rintro e w2 ⟨n, rfl, rfl, hb2, hk2⟩
      exact ⟨0, rfl, rfl, hb2, ((hk.mono (by simp)).after (hk1.mono (S' := [f, c, mb]) (by simp)) (by simp)).after hk2 (by simp)⟩
  · rintro e w' (⟨hd, n, ⟨rfl, hb2, hk2⟩, rfl⟩ | ⟨hd, rfl, hq2, hk2⟩)
    · have Hd := Lib.hid hd
      clear hd
      go_wp2
      go_ret
      refine ⟨?_, ?_, hk2⟩
      · simp [doErr, ioErr]; cases tryWorks Q <;> simp
      · simpa [chg, Hd.out] using hb2
    · have Hd := Lib.hid hd
      clear hd
      go_wp2
      go_ret
      refine ⟨?_, ?_, (hk.mono (by simp)).after hk2 (by simp)⟩
      · have : tryWorks Q = false := by
          cases hw : tryWorks Q
          · rfl
          · rw [tryDone_of Q hw] at Hd; exact absurd Hd.out (by simp)
        simp [ioErr, this]
      · simpa [chg, Hd.out] using hW.tried hk2 hq2


/-- Put at a name that may not be. -/
theorem put_bad (w : World) (b : Nat) (name data : ByteArray) (now : Int) (hbad : name.size = 0 ∨ 40 < name.size) :
    Calls Tryz.prog 55 #[.pointer (some ⟨b, 0, none⟩), .string name, .string data, .int .i64 now] w fun e w' => e = .returned (.int .i64 1) ∧ Keeps [] w w' := by
  by_cases h0 : name.size = 0
  · obtain ⟨e1, e2⟩ := is_empty h0
    clear hbad h0
    go_enter Tryz.func55, Tryz.ntmps55
    go_wp2_with fail
    go_ret
    exact ⟨rfl, (((Keeps.refl _ _).alloc _).alloc _).alloc _ |>.alloc _⟩
  · have h40 : 40 < name.size := by omega
    have h41 : decide ((40 : Int) < (name.size : Int)) = true := by simp; omega
    obtain ⟨e1, e2⟩ := ne_empty h0
    clear hbad h0
    go_enter Tryz.func55, Tryz.ntmps55
    go_wp2_with fail
    go_ret
    exact ⟨rfl, (((Keeps.refl _ _).alloc _).alloc _).alloc _ |>.alloc _⟩


theorem notDone {Q : List (Int × Bool)} (h : tryDone Q = false) : tryWorks Q = false := by
  cases hw : tryWorks Q
  · rfl
  · rw [tryDone_of Q hw] at h; exact absurd h (by simp)


set_option maxHeartbeats 400000 in
theorem delete_spec (w : World) (b f c mb : Nat) (armed : Bool) (Q : List (Int × Bool)) (o : List (ByteArray × Ob)) (h : BucketAt w b f c mb armed Q o) (name : ByteArray) :
    Calls Tryz.prog 26 #[.pointer (some ⟨b, 0, none⟩), .string name] w (PutPost w b f c mb Q o (del o name)) := by
  have cb := cells_at h.cells
  obtain ⟨l0, lf, lc, lm⟩ := h.lt
  obtain ⟨l1, l2, l3, l4, l5, l6⟩ := lt_more l0
  have hk := ((Keeps.refl [] w).alloc (.cells #[.pointer (some ⟨b, 0, none⟩)] 45)).alloc (.cells #[.string name] 9)
  have hW := h.keepNew hk (by simp)
  obtain ⟨n1, n2⟩ := new2 w (.cells #[.pointer (some ⟨b, 0, none⟩)] 45) (.cells #[.string name] 9)
  have N := Lib.hid (And.intro n1 n2)
  clear n1 n2
  go_enter Tryz.func26, Tryz.ntmps26
  go_wp2_with fail
  refine (do_spec _ f c armed Q hW.fuse _ _ (fun w' n => n = 0 ∧ BucketAt w' b f c mb (tryArmed Q) (tryQ Q) (del o name) ∧ Keeps [f, c, mb] w w') goFn_del ?_).mono ?_
  · intro _ w1 hq1 hk1
    obtain ⟨n1, n2⟩ := N.out
    have hb1 := hW.tried hk1 hq1
    refine (delAct w1 _ _ b f c mb _ _ o name (hk1.at_ n1 ?_) (hk1.at_ n2 ?_) hb1).mono ?_
    · simp; omega
    · simp; omega
    · rintro e w2 ⟨n, rfl, rfl, hb2, hk2⟩
      exact ⟨0, rfl, rfl, hb2, ((hk.mono (by simp)).after (hk1.mono (S' := [f, c, mb]) (by simp)) (by simp)).after hk2 (by simp)⟩
  · rintro e w' (⟨hd, n, ⟨rfl, hb2, hk2⟩, rfl⟩ | ⟨hd, rfl, hq2, hk2⟩)
    · have Hd := Lib.hid hd
      clear hd
      go_wp2
      go_ret
      refine ⟨?_, ?_, hk2⟩
      · simp [doErr, ioErr]; cases tryWorks Q <;> simp
      · simpa [chg, Hd.out] using hb2
    · have Hd := Lib.hid hd
      clear hd
      go_wp2
      go_ret
      refine ⟨?_, ?_, (hk.mono (by simp)).after hk2 (by simp)⟩
      · simp [ioErr, notDone Hd.out]
      · simpa [chg, Hd.out] using hW.tried hk2 hq2


/-- What Get answers. -/
def getVal (Q : List (Int × Bool)) (o : List (ByteArray × Ob)) (name : ByteArray) : ByteArray × Int :=
  if tryWorks Q then (match look o name with | none => (⟨#[]⟩, 5) | some x => (x.1, 0)) else (⟨#[]⟩, 8)


def LookPost (w : World) (b f c mb : Nat) (Q : List (Int × Bool)) (o : List (ByteArray × Ob)) (s : ByteArray × Int) (e : Ending) (w' : World) : Prop :=
  e = .returned (.tuple #[.string s.1, .int .i64 s.2]) ∧ BucketAt w' b f c mb (tryArmed Q) (tryQ Q) o ∧ Keeps [f, c] w w'


set_option maxHeartbeats 400000 in
theorem get_spec (w : World) (b f c mb : Nat) (armed : Bool) (Q : List (Int × Bool)) (o : List (ByteArray × Ob)) (h : BucketAt w b f c mb armed Q o) (name : ByteArray) :
    Calls Tryz.prog 62 #[.pointer (some ⟨b, 0, none⟩), .string name] w (LookPost w b f c mb Q o (getVal Q o name)) := by
  have cb := cells_at h.cells
  obtain ⟨l0, lf, lc, lm⟩ := h.lt
  obtain ⟨l1, l2, l3, l4, l5, l6⟩ := lt_more l0
  have hk := ((Keeps.refl [] w).alloc (.cells #[.pointer (some ⟨b, 0, none⟩)] 45)).alloc (.cells #[.string name] 9) |>.alloc (.cells #[.string ⟨#[]⟩, .int .i64 0] 120)
  have hW := h.keepNew hk (by simp)
  obtain ⟨n1, n2, n3⟩ := new3 w (.cells #[.pointer (some ⟨b, 0, none⟩)] 45) (.cells #[.string name] 9) (.cells #[.string ⟨#[]⟩, .int .i64 0] 120)
  have N := Lib.hid (And.intro n1 (And.intro n2 n3))
  clear n1 n2 n3
  go_enter Tryz.func62, Tryz.ntmps62
  go_wp2_with fail
  refine (ask_spec _ b f c mb armed Q o hW _ _ (fun w' n => n = (if (look o name).isSome then 0 else 5) ∧ BucketAt w' b f c mb (tryArmed Q) (tryQ Q) o ∧ Keeps [f, c] w w' ∧
      w'.heap[w.heap.size + 1 + 1]? = some (.cells #[.string (obOr (look o name)).1, .int .i64 (obOr (look o name)).2] 120 (0, 0))) goFn_get ?_).mono ?_
  · intro _ w1 hb1 hk1
    obtain ⟨n1, n2, n3⟩ := N.out
    refine (getAct w1 _ _ _ b f c mb _ _ o name _ _ (hk1.at_ n1 ?_) (hk1.at_ n2 ?_) (hk1.at_ n3 ?_) hb1).mono ?_
    · simp; omega
    · simp; omega
    · simp; omega
    · rintro e w2 ⟨n, rfl, rfl, hp2, hk2⟩
      refine ⟨_, rfl, rfl, hb1.keepBox hk2 (hk1.at_ n3 (by simp; omega)) (by decide) (by decide), ?_, hp2⟩
      exact ((hk.mono (by simp)).after hk1 (by simp)).after hk2 (by simp; omega)
  · rintro e w' (⟨hd, n, ⟨rfl, hb2, hk2, hp2⟩, rfl⟩ | ⟨hd, rfl, hb2, hk2⟩)
    · have cp := cells_at hp2
      have fp := free_at hp2
      have Hd := Lib.hid hd
      clear hd hp2
      go_wp2
      all_goals
        go_ret2
        refine ⟨?_, hb2, hk2⟩
        cases hl : look o name <;> simp_all [getVal, Hd.out, obOr]
    · obtain ⟨n1, n2, n3⟩ := N.out
      have hp2 := hk2.at_ n3 (by simp; omega)
      have cp := cells_at hp2
      have fp := free_at hp2
      have Hd := Lib.hid hd
      clear hd hp2 n1 n2 n3
      go_wp2
      go_ret2
      exact ⟨by simp [getVal, Hd.out], hb2, (hk.mono (by simp)).after hk2 (by simp)⟩



/-- What Range gives of an object. -/
def cutVal (x : Ob) (a n : Int) : ByteArray × Int :=
  if a < 0 ∨ (x.1.size : Int) < a ∨ n < 0 then (⟨#[]⟩, 1) else (x.1.extract a.toNat (a + min n (x.1.size - a)).toNat, 0)

def rangeOb (o : List (ByteArray × Ob)) (name : ByteArray) (a n : Int) : ByteArray × Int :=
  match look o name with
  | none => (⟨#[]⟩, 5)
  | some x => cutVal x a n

def rangeVal (Q : List (Int × Bool)) (o : List (ByteArray × Ob)) (name : ByteArray) (a n : Int) : ByteArray × Int :=
  if tryWorks Q then rangeOb o name a n else (⟨#[]⟩, 8)




set_option maxHeartbeats 400000 in
theorem newBucket_spec (w : World) :
    Calls Tryz.prog 54 #[] w fun e w' => ∃ b f c mb, e = .returned (.pointer (some ⟨b, 0, none⟩)) ∧ BucketAt w' b f c mb false [] [] ∧ Keeps [] w w' ∧ w.heap.size ≤ b ∧ w.heap.size ≤ f ∧ w.heap.size ≤ c ∧ w.heap.size ≤ mb := by
  have hmm := @run_makeMap Tryz.prog
  go_enter Tryz.func54, Tryz.ntmps54
  go_wp2_with fail
  refine (newFuse_spec _).mono ?_
  rintro e w1 ⟨rfl, hq1, hk1, hs1⟩
  have Hs := Lib.hid hs1
  clear hs1
  go_wp2
  go_ret
  have hs := Hs.out
  have hm := mapAt_new w1
  refine ⟨_, _, _, _, rfl, ⟨?_, hq1.keep (((Keeps.refl [] _).alloc _).alloc _) (by simp) (by simp), hm.keep ((Keeps.refl [] _).alloc _) (by simp)⟩, (hk1.alloc _).alloc _, ?_, ?_, ?_, ?_⟩
  · have := (new2 w1 (.map #[] 0) (.cells #[.pointer (some ⟨w.heap.size + 1, 0, none⟩), .map (some w1.heap.size)] 77)).2
    simpa using this
  all_goals omega

end Go.Proofs.YtjffdcflkkgpfaaGreat
