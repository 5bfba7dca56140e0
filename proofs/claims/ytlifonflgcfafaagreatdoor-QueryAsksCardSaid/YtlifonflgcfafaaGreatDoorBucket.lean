/-
  The bucket of package bucket: contracts of New, Put, Delete, Get, Range, List, Look and Peek over a list of objects and a queue of faults.
  Each holds for every world in which the bucket's blocks are laid as BucketAt says.
-/
import Derived.Test.YtlifonflgcfafaaGreatDoorFuse
import Derived.Test.YtlifonflgcfafaaGreatDoorMap
import Derived.StillTailTactics
import Derived.BigRegion
namespace Go.Proofs.YtlifonflgcfafaaGreatDoor
open Go Go.RowKit Go.Conc

/-- An object: its bytes, when it was put. -/
abbrev Ob := ByteArray × Int

def encOb (x : Ob) : Value := .agg #[.string x.1, .int .i64 x.2]


structure BucketAt (w : World) (b f c mb : Nat) (armed : Bool) (Q : List (Int × Bool)) (o : List (ByteArray × Ob)) : Prop where
  cells : w.heap[b]? = some (.cells #[.pointer (some ⟨f, 0, none⟩), .map (some mb)] 121 (0, 0))
  fuse : FuseQ w f c armed Q
  map : MapAt w mb (encMap encOb o)


theorem BucketAt.neF {w : World} {b f c mb : Nat} {armed : Bool} {Q : List (Int × Bool)} {o : List (ByteArray × Ob)} (h : BucketAt w b f c mb armed Q o) : f ≠ mb := by
  obtain ⟨now, wait, hf, _⟩ := h.fuse
  exact h.map.ne hf.cells

theorem BucketAt.neC {w : World} {b f c mb : Nat} {armed : Bool} {Q : List (Int × Bool)} {o : List (ByteArray × Ob)} (h : BucketAt w b f c mb armed Q o) : c ≠ mb := by
  obtain ⟨now, wait, hf, _⟩ := h.fuse
  obtain ⟨s, r, hc⟩ := hf.chan
  exact h.map.ne_chan hc


theorem zeroOb (w : World) : (zeroValue 267).run Tryz.prog w = .ok (.agg #[.string ⟨#[]⟩, .int .i64 0]) w := by kernel_rfl




/-- An object, or the empty one. -/
def obOr (x : Option Ob) : Ob := x.getD (⟨#[]⟩, 0)


set_option maxRecDepth 100000 in
set_option maxHeartbeats 400000 in
theorem getAct (w : World) (pb pm pr b f c mb : Nat) (armed : Bool) (Q : List (Int × Bool)) (o : List (ByteArray × Ob)) (name : ByteArray) (u1 : ByteArray) (u2 : Int)
    (h3 : w.heap[pb]? = some (.cells #[.pointer (some ⟨b, 0, none⟩)] 116 (0, 0))) (h4 : w.heap[pm]? = some (.cells #[.string name] 9 (0, 0)))
    (h5 : w.heap[pr]? = some (.cells #[.string u1, .int .i64 u2] 267 (0, 0)))
    (h : BucketAt w b f c mb armed Q o) :
    Calls Tryz.prog 169 #[.pointer (some ⟨pb, 0, none⟩), .pointer (some ⟨pm, 0, none⟩), .pointer (some ⟨pr, 0, none⟩)] w
      (ActPost fun w' n => n = (if (look o name).isSome then 0 else 5) ∧ w'.heap[pr]? = some (.cells #[.string (obOr (look o name)).1, .int .i64 (obOr (look o name)).2] 267 (0, 0)) ∧ Keeps [pr] w w') := by
  have c3 := cells_at h3
  have c4 := cells_at h4
  have c5 := cells_at h5
  have f5 := free_at h5
  have cb := cells_at h.cells
  have hrun := (h.map.drew).run_lookup (P := Tryz.prog) Tryz.underlying119 Tryz.underlying9 (zeroOb _) name true
  have H5 := Lib.hid h5
  clear h3 h4 h5
  cases hlk : look o name with
  | none =>
    simp only [lookVal, look_enc, hlk, Option.map_none, Option.getD_none, Option.isSome_none, if_true] at hrun
    clear hlk
    go_enter Tryz.func169, Tryz.ntmps169
    go_wp2
    go_region
    go_wp2
    go_ret
    refine ⟨_, rfl, rfl, ?_, ((Keeps.refl _ _).setCell (by simp) _).setCell (by simp) _ |>.drew⟩
    have hh := heap_cell_same (i := 1) (heap_cell_same (i := 0) H5.out (.string (obOr none).1)) (.int .i64 (obOr none).2)
    simpa [obOr, heap_drew] using hh
  | some x =>
    simp only [lookVal, look_enc, hlk, Option.map_some, Option.getD_some, Option.isSome_some, if_true, encOb] at hrun
    clear hlk
    go_enter Tryz.func169, Tryz.ntmps169
    go_wp2
    go_region
    go_wp2
    go_ret
    refine ⟨_, rfl, rfl, ?_, ((Keeps.refl _ _).setCell (by simp) _).setCell (by simp) _ |>.drew⟩
    have hh := heap_cell_same (i := 1) (heap_cell_same (i := 0) H5.out (.string (obOr (some x)).1)) (.int .i64 (obOr (some x)).2)
    simpa [obOr, heap_drew] using hh


/-- A call that only looks, of which R says what it does. -/
def AskPost (w : World) (b f c mb : Nat) (Q : List (Int × Bool)) (o : List (ByteArray × Ob)) (R : World → Int → Prop) (e : Ending) (w' : World) : Prop :=
  (tryWorks Q = true ∧ ∃ n, R w' n ∧ e = .returned (.int .i64 n)) ∨
  (tryWorks Q = false ∧ e = .returned (.int .i64 8) ∧ BucketAt w' b f c mb (tryArmed Q) (tryQ Q) o ∧ Keeps [f, c] w w')


theorem BucketAt.tried {w w' : World} {b f c mb : Nat} {armed a' : Bool} {Q Q' : List (Int × Bool)} {o : List (ByteArray × Ob)} (h : BucketAt w b f c mb armed Q o) (k : Keeps [f, c] w w') (hf : FuseQ w' f c a' Q') : BucketAt w' b f c mb a' Q' o := by
  obtain ⟨now, wait, hf0, _⟩ := h.fuse
  obtain ⟨s, r, hc0⟩ := hf0.chan
  have h1 : b ≠ f := ne_of_at h.cells hf0.cells (by simp)
  have h2 : b ≠ c := ne_of_at h.cells hc0 (by simp)
  exact ⟨k.at_ h.cells (by simp [h1, h2]), hf, h.map.keep k (by simp [h.neF.symm, h.neC.symm])⟩


set_option maxHeartbeats 400000 in
theorem ask_spec (w : World) (b f c mb : Nat) (armed : Bool) (Q : List (Int × Bool)) (o : List (ByteArray × Ob)) (h : BucketAt w b f c mb armed Q o) (fn : FuncId) (cap : Array Value) (R : World → Int → Prop) (hfn : GoFn Tryz.prog fn)
    (hact : tryWorks Q = true → ∀ w1, BucketAt w1 b f c mb (tryArmed Q) (tryQ Q) o → Keeps [f, c] w w1 → Calls Tryz.prog fn cap w1 (ActPost R)) :
    Calls Tryz.prog 168 #[.pointer (some ⟨b, 0, none⟩), .func (.func fn) #[] cap] w (AskPost w b f c mb Q o R) := by
  have Hact := Lib.hid hact
  clear hact
  have cb := cells_at h.cells
  go_enter Tryz.func168, Tryz.ntmps168
  go_wp2_with fail
  refine (try_spec w f c armed Q h.fuse).mono ?_
  rintro e w1 ⟨rfl, hq1, hk1⟩
  have hb1 := h.tried hk1 hq1
  generalize htd : tryDone Q = td at ⊢
  clear htd
  cases htw : tryWorks Q
  · go_wp2_with fail
    go_ret
    exact .inr ⟨htw, rfl, hb1, hk1⟩
  · have Htw := Lib.hid htw
    clear htw
    go_wp2_with (refine wpList_call_value rfl _ _ _ rfl fn #[] cap rfl hfn ?_)
    refine (Hact.out Htw.out w1 hb1 hk1).mono ?_
    rintro e w2 ⟨n, rfl, hR⟩
    dsimp only
    go_wp2
    go_ret
    exact .inl ⟨Htw.out, n, hR, rfl⟩


theorem BucketAt.keep {w w' : World} {b f c mb : Nat} {armed : Bool} {Q : List (Int × Bool)} {o : List (ByteArray × Ob)} {S : List Nat} (h : BucketAt w b f c mb armed Q o) (k : Keeps S w w') (hb : b ∉ S) (hf : f ∉ S) (hc : c ∉ S) (hm : mb ∉ S) : BucketAt w' b f c mb armed Q o :=
  ⟨k.at_ h.cells hb, h.fuse.keep k hf hc, h.map.keep k hm⟩

theorem FuseQ.lt {w : World} {f c : Nat} {armed : Bool} {Q : List (Int × Bool)} (h : FuseQ w f c armed Q) : f < w.heap.size ∧ c < w.heap.size := by
  obtain ⟨now, wait, hf0, _⟩ := h
  obtain ⟨s, r, hc0⟩ := hf0.chan
  exact ⟨lt_of_at hf0.cells, lt_of_at hc0⟩

theorem BucketAt.lt {w : World} {b f c mb : Nat} {armed : Bool} {Q : List (Int × Bool)} {o : List (ByteArray × Ob)} (h : BucketAt w b f c mb armed Q o) : b < w.heap.size ∧ f < w.heap.size ∧ c < w.heap.size ∧ mb < w.heap.size :=
  ⟨lt_of_at h.cells, h.fuse.lt.1, h.fuse.lt.2, h.map.lt⟩

theorem BucketAt.keepNew {w w' : World} {b f c mb : Nat} {armed : Bool} {Q : List (Int × Bool)} {o : List (ByteArray × Ob)} {S : List Nat} (h : BucketAt w b f c mb armed Q o) (k : Keeps S w w') (hS : ∀ x ∈ S, w.heap.size ≤ x) : BucketAt w' b f c mb armed Q o := by
  obtain ⟨h1, h2, h3, h4⟩ := h.lt
  refine h.keep k ?_ ?_ ?_ ?_ <;> (intro hm; have := hS _ hm; omega)

theorem BucketAt.keepBox {w w' : World} {b f c mb p : Nat} {armed : Bool} {Q : List (Int × Bool)} {o : List (ByteArray × Ob)} {cs : Array Value} {t : TypeId} {z : Nat × Nat} (h : BucketAt w b f c mb armed Q o) (k : Keeps [p] w w') (hp : w.heap[p]? = some (.cells cs t z)) (h1 : t ≠ 121) (h2 : t ≠ 198) : BucketAt w' b f c mb armed Q o := by
  obtain ⟨now, wait, hf0, _⟩ := h.fuse
  obtain ⟨s, r, hc0⟩ := hf0.chan
  refine h.keep k ?_ ?_ ?_ ?_
  · simp only [List.mem_singleton]; exact ne_of_at h.cells hp (by intro e; injection e with _ e; exact h1 e.symm)
  · simp only [List.mem_singleton]; exact ne_of_at hf0.cells hp (by intro e; injection e with _ e; exact h2 e.symm)
  · simp only [List.mem_singleton]; exact ne_of_at hc0 hp (by intro e; injection e)
  · simp only [List.mem_singleton]; exact fun e => h.map.ne hp e.symm


/-- The error's number of a call that has none of its own. -/
def ioErr (Q : List (Int × Bool)) : Int := if tryWorks Q then 0 else 8

/-- What a call that tries the fuse leaves. -/
def chg (Q : List (Int × Bool)) (o o' : List (ByteArray × Ob)) : List (ByteArray × Ob) := if tryDone Q then o' else o



theorem goFn_get : GoFn Tryz.prog 169 := ⟨_, Tryz.func169, by kernel_rfl, by kernel_rfl⟩


def PutPost (w : World) (b f c mb : Nat) (Q : List (Int × Bool)) (o o' : List (ByteArray × Ob)) (e : Ending) (w' : World) : Prop :=
  e = .returned (.int .i64 (ioErr Q)) ∧ BucketAt w' b f c mb (tryArmed Q) (tryQ Q) (chg Q o o') ∧ Keeps [f, c, mb] w w'




theorem notDone {Q : List (Int × Bool)} (h : tryDone Q = false) : tryWorks Q = false := by
  cases hw : tryWorks Q
  · rfl
  · rw [tryDone_of Q hw] at h; exact absurd h (by simp)



/-- What Get answers. -/
def getVal (Q : List (Int × Bool)) (o : List (ByteArray × Ob)) (name : ByteArray) : ByteArray × Int :=
  if tryWorks Q then (match look o name with | none => (⟨#[]⟩, 5) | some x => (x.1, 0)) else (⟨#[]⟩, 8)


def LookPost (w : World) (b f c mb : Nat) (Q : List (Int × Bool)) (o : List (ByteArray × Ob)) (s : ByteArray × Int) (e : Ending) (w' : World) : Prop :=
  e = .returned (.tuple #[.string s.1, .int .i64 s.2]) ∧ BucketAt w' b f c mb (tryArmed Q) (tryQ Q) o ∧ Keeps [f, c] w w'


set_option maxHeartbeats 400000 in
theorem get_spec (w : World) (b f c mb : Nat) (armed : Bool) (Q : List (Int × Bool)) (o : List (ByteArray × Ob)) (h : BucketAt w b f c mb armed Q o) (name : ByteArray) :
    Calls Tryz.prog 118 #[.pointer (some ⟨b, 0, none⟩), .string name] w (LookPost w b f c mb Q o (getVal Q o name)) := by
  have cb := cells_at h.cells
  obtain ⟨l0, lf, lc, lm⟩ := h.lt
  obtain ⟨l1, l2, l3, l4, l5, l6⟩ := lt_more l0
  have hk := ((Keeps.refl [] w).alloc (.cells #[.pointer (some ⟨b, 0, none⟩)] 116)).alloc (.cells #[.string name] 9) |>.alloc (.cells #[.string ⟨#[]⟩, .int .i64 0] 267)
  have hW := h.keepNew hk (by simp)
  obtain ⟨n1, n2, n3⟩ := new3 w (.cells #[.pointer (some ⟨b, 0, none⟩)] 116) (.cells #[.string name] 9) (.cells #[.string ⟨#[]⟩, .int .i64 0] 267)
  have N := Lib.hid (And.intro n1 (And.intro n2 n3))
  clear n1 n2 n3
  go_enter Tryz.func118, Tryz.ntmps118
  go_wp2_with fail
  refine (ask_spec _ b f c mb armed Q o hW _ _ (fun w' n => n = (if (look o name).isSome then 0 else 5) ∧ BucketAt w' b f c mb (tryArmed Q) (tryQ Q) o ∧ Keeps [f, c] w w' ∧
      w'.heap[w.heap.size + 1 + 1]? = some (.cells #[.string (obOr (look o name)).1, .int .i64 (obOr (look o name)).2] 267 (0, 0))) goFn_get ?_).mono ?_
  · intro _ w1 hb1 hk1
    obtain ⟨n1, n2, n3⟩ := N.out
    refine (getAct w1 _ _ _ b f c mb _ _ o name _ _ (hk1.at_ n1 ?_) (hk1.at_ n2 ?_) (hk1.at_ n3 ?_) hb1).mono ?_
    · simp; omega
    · simp; omega
    · simp; omega
    · rintro e w2 ⟨n, rfl, rfl, hp2, hk2⟩
      refine ⟨_, rfl, rfl, hb1.keepBox hk2 (hk1.at_ n3 (by simp; omega)) (by decide) (by decide), ?_, hp2⟩
      exact ((hk.mono (by simp)).after hk1 (by simp)).after hk2 (by simp; omega)
  · rintro e w' (⟨hd, n, ⟨rfl, hb2, hk2, hp2⟩, rfl⟩ | ⟨hd, rfl, hb2, hk2⟩)
    · have cp := cells_at hp2
      have fp := free_at hp2
      have Hd := Lib.hid hd
      clear hd hp2
      go_wp2
      all_goals
        go_ret2
        refine ⟨?_, hb2, hk2⟩
        cases hl : look o name <;> simp_all [getVal, Hd.out, obOr]
    · obtain ⟨n1, n2, n3⟩ := N.out
      have hp2 := hk2.at_ n3 (by simp; omega)
      have cp := cells_at hp2
      have fp := free_at hp2
      have Hd := Lib.hid hd
      clear hd hp2 n1 n2 n3
      go_wp2
      go_ret2
      exact ⟨by simp [getVal, Hd.out], hb2, (hk.mono (by simp)).after hk2 (by simp)⟩


theorem goFn_range : GoFn Tryz.prog 182 := ⟨_, Tryz.func182, by kernel_rfl, by kernel_rfl⟩


/-- What Range gives of an object. -/
def cutVal (x : Ob) (a n : Int) : ByteArray × Int :=
  if a < 0 ∨ (x.1.size : Int) < a ∨ n < 0 then (⟨#[]⟩, 1) else (x.1.extract a.toNat (a + min n (x.1.size - a)).toNat, 0)

def rangeOb (o : List (ByteArray × Ob)) (name : ByteArray) (a n : Int) : ByteArray × Int :=
  match look o name with
  | none => (⟨#[]⟩, 5)
  | some x => cutVal x a n

def rangeVal (Q : List (Int × Bool)) (o : List (ByteArray × Ob)) (name : ByteArray) (a n : Int) : ByteArray × Int :=
  if tryWorks Q then rangeOb o name a n else (⟨#[]⟩, 8)


set_option maxRecDepth 100000 in
set_option maxHeartbeats 1000000 in
theorem rangeAct (w : World) (pb pm pf pn pr b f c mb : Nat) (armed : Bool) (Q : List (Int × Bool)) (o : List (ByteArray × Ob)) (name : ByteArray) (a n : Int)
    (ha : -9223372036854775808 ≤ a ∧ a ≤ 9223372036854775807) (hn : -9223372036854775808 ≤ n ∧ n ≤ 9223372036854775807) (hsz : ∀ x, look o name = some x → x.1.size ≤ maxLen)
    (h1 : w.heap[pf]? = some (.cells #[.int .i64 a] 3 (0, 0))) (h2 : w.heap[pn]? = some (.cells #[.int .i64 n] 3 (0, 0)))
    (h3 : w.heap[pb]? = some (.cells #[.pointer (some ⟨b, 0, none⟩)] 116 (0, 0))) (h4 : w.heap[pm]? = some (.cells #[.string name] 9 (0, 0)))
    (h5 : w.heap[pr]? = some (.cells #[.string ⟨#[]⟩] 9 (0, 0)))
    (h : BucketAt w b f c mb armed Q o) :
    Calls Tryz.prog 182 #[.pointer (some ⟨pb, 0, none⟩), .pointer (some ⟨pm, 0, none⟩), .pointer (some ⟨pf, 0, none⟩), .pointer (some ⟨pn, 0, none⟩), .pointer (some ⟨pr, 0, none⟩)] w
      (ActPost fun w' k => k = (rangeOb o name a n).2 ∧ w'.heap[pr]? = some (.cells #[.string (rangeOb o name a n).1] 9 (0, 0)) ∧ Keeps [pr] w w') := by
  have c1 := cells_at h1
  have c2 := cells_at h2
  have c3 := cells_at h3
  have c4 := cells_at h4
  have c5 := cells_at h5
  have f5 := free_at h5
  have cb := cells_at h.cells
  obtain ⟨l0, lf, lc, lm⟩ := h.lt
  have lpf := lt_of_at h1
  have lpn := lt_of_at h2
  have lpr := lt_of_at h5
  have lpb := lt_of_at h3
  have lpm := lt_of_at h4
  have hrun := (h.map.drew).run_lookup (P := Tryz.prog) Tryz.underlying119 Tryz.underlying9 (zeroOb _) name true
  have hrun2 := (h.map.keep ((Keeps.refl [] w).alloc (.cells #[.string ⟨#[]⟩, .int .i64 0] 267)).drew (by simp)).run_lookup (P := Tryz.prog) Tryz.underlying119 Tryz.underlying9 (zeroOb _) name true
  have H5 := Lib.hid h5
  obtain ⟨ha1, ha2⟩ := ha
  obtain ⟨hn1, hn2⟩ := hn
  clear h1 h2 h3 h4 h5
  cases hlk : look o name with
  | none =>
    simp only [lookVal, look_enc, hlk, Option.map_none, Option.getD_none, Option.isSome_none, if_true] at hrun hrun2
    have Hlk := Lib.hid hlk
    clear hlk hsz
    go_enter Tryz.func182, Tryz.ntmps182
    go_wp2
    go_region
    all_goals go_wp2
    all_goals
      go_ret
      refine ⟨5, rfl, by simp [rangeOb, Hlk.out], ?_, ((Keeps.refl _ _).alloc _).drew⟩
      simpa [rangeOb, Hlk.out, heap_drew] using heap_old H5.out _
  | some x =>
    have hx := hsz x hlk
    unfold maxLen at hx
    simp only [lookVal, look_enc, hlk, Option.map_some, Option.getD_some, Option.isSome_some, if_true, encOb] at hrun hrun2
    have Hlk := Lib.hid hlk
    clear hlk hsz
    go_enter Tryz.func182, Tryz.ntmps182
    go_wp2
    go_region
    all_goals go_wp2
    all_goals
      go_ret
      first
        | (have hv : rangeOb o name a n = (⟨#[]⟩, 1) := by
             simp only [rangeOb, Hlk.out, cutVal]
             rw [if_pos (by omega)]
           refine ⟨1, rfl, by rw [hv], ?_, ((Keeps.refl _ _).alloc _).drew⟩
           rw [hv]
           exact heap_old H5.out _)
        | (have hv : rangeOb o name a n = (x.1.extract a.toNat (a + (x.1.size - a)).toNat, 0) := by
             simp only [rangeOb, Hlk.out, cutVal]
             rw [if_neg (by omega), show min n ((x.1.size : Int) - a) = x.1.size - a from by omega]
           refine ⟨0, rfl, by rw [hv], ?_, (((Keeps.refl _ _).setCell (by simp) _).alloc _).drew⟩
           rw [hv]
           exact heap_old (heap_cell_same (i := 0) H5.out _) _)
        | (have hv : rangeOb o name a n = (x.1.extract a.toNat (a + n).toNat, 0) := by
             simp only [rangeOb, Hlk.out, cutVal]
             rw [if_neg (by omega), show min n ((x.1.size : Int) - a) = n from by omega]
           refine ⟨0, rfl, by rw [hv], ?_, (((Keeps.refl _ _).setCell (by simp) _).alloc _).drew⟩
           rw [hv]
           exact heap_old (heap_cell_same (i := 0) H5.out _) _)


set_option maxHeartbeats 400000 in
theorem range_spec (w : World) (b f c mb : Nat) (armed : Bool) (Q : List (Int × Bool)) (o : List (ByteArray × Ob)) (h : BucketAt w b f c mb armed Q o) (name : ByteArray) (a n : Int)
    (ha : -9223372036854775808 ≤ a ∧ a ≤ 9223372036854775807) (hn : -9223372036854775808 ≤ n ∧ n ≤ 9223372036854775807) (hsz : ∀ x, look o name = some x → x.1.size ≤ maxLen) :
    Calls Tryz.prog 124 #[.pointer (some ⟨b, 0, none⟩), .string name, .int .i64 a, .int .i64 n] w (LookPost w b f c mb Q o (rangeVal Q o name a n)) := by
  have cb := cells_at h.cells
  obtain ⟨l0, lf, lc, lm⟩ := h.lt
  obtain ⟨l1, l2, l3, l4, l5, l6⟩ := lt_more l0
  have hk := ((Keeps.refl [] w).alloc (.cells #[.pointer (some ⟨b, 0, none⟩)] 116)).alloc (.cells #[.string name] 9) |>.alloc (.cells #[.int .i64 a] 3) |>.alloc (.cells #[.int .i64 n] 3) |>.alloc (.cells #[.string ⟨#[]⟩] 9)
  have hW := h.keepNew hk (by simp)
  obtain ⟨n1, n2, n3, n4, n5⟩ := new5 w (.cells #[.pointer (some ⟨b, 0, none⟩)] 116) (.cells #[.string name] 9) (.cells #[.int .i64 a] 3) (.cells #[.int .i64 n] 3) (.cells #[.string ⟨#[]⟩] 9)
  have N := Lib.hid (And.intro n1 (And.intro n2 (And.intro n3 (And.intro n4 n5))))
  clear n1 n2 n3 n4 n5
  have Hsz := Lib.hid hsz
  clear hsz
  go_enter Tryz.func124, Tryz.ntmps124
  go_wp2_with fail
  refine (ask_spec _ b f c mb armed Q o hW _ _ (fun w' k => k = (rangeOb o name a n).2 ∧ BucketAt w' b f c mb (tryArmed Q) (tryQ Q) o ∧ Keeps [f, c] w w' ∧
      w'.heap[w.heap.size + 1 + 1 + 1 + 1]? = some (.cells #[.string (rangeOb o name a n).1] 9 (0, 0))) goFn_range ?_).mono ?_
  · intro _ w1 hb1 hk1
    obtain ⟨n1, n2, n3, n4, n5⟩ := N.out
    refine (rangeAct w1 _ _ _ _ _ b f c mb _ _ o name a n ha hn Hsz.out (hk1.at_ n3 ?_) (hk1.at_ n4 ?_) (hk1.at_ n1 ?_) (hk1.at_ n2 ?_) (hk1.at_ n5 ?_) hb1).mono ?_
    · simp; omega
    · simp; omega
    · simp; omega
    · simp; omega
    · simp; omega
    · rintro e w2 ⟨k, rfl, rfl, hp2, hk2⟩
      refine ⟨_, rfl, rfl, hb1.keepBox hk2 (hk1.at_ n5 (by simp; omega)) (by decide) (by decide), ?_, hp2⟩
      exact ((hk.mono (by simp)).after hk1 (by simp)).after hk2 (by simp; omega)
  · rintro e w' (⟨hd, k, ⟨rfl, hb2, hk2, hp2⟩, rfl⟩ | ⟨hd, rfl, hb2, hk2⟩)
    · have cp := cells_at hp2
      have fp := free_at hp2
      have Hd := Lib.hid hd
      clear hd hp2
      go_wp2
      go_ret2
      exact ⟨by simp [rangeVal, Hd.out], hb2, hk2⟩
    · obtain ⟨n1, n2, n3, n4, n5⟩ := N.out
      have hp2 := hk2.at_ n5 (by simp; omega)
      have cp := cells_at hp2
      have fp := free_at hp2
      have Hd := Lib.hid hd
      clear hd hp2 n1 n2 n3 n4 n5
      go_wp2
      go_ret2
      exact ⟨by simp [rangeVal, Hd.out], hb2, (hk.mono (by simp)).after hk2 (by simp)⟩


set_option maxHeartbeats 400000 in
theorem newBucket_spec (w : World) :
    Calls Tryz.prog 44 #[] w fun e w' => ∃ b f c mb, e = .returned (.pointer (some ⟨b, 0, none⟩)) ∧ BucketAt w' b f c mb false [] [] ∧ Keeps [] w w' ∧ w.heap.size ≤ b ∧ w.heap.size ≤ f ∧ w.heap.size ≤ c ∧ w.heap.size ≤ mb := by
  have hmm := @run_makeMap Tryz.prog
  go_enter Tryz.func44, Tryz.ntmps44
  go_wp2_with fail
  refine (newFuse_spec _).mono ?_
  rintro e w1 ⟨rfl, hq1, hk1, hs1⟩
  have Hs := Lib.hid hs1
  clear hs1
  go_wp2
  go_ret
  have hs := Hs.out
  have hm := mapAt_new w1
  refine ⟨_, _, _, _, rfl, ⟨?_, hq1.keep (((Keeps.refl [] _).alloc _).alloc _) (by simp) (by simp), hm.keep ((Keeps.refl [] _).alloc _) (by simp)⟩, (hk1.alloc _).alloc _, ?_, ?_, ?_, ?_⟩
  · have := (new2 w1 (.map #[] 0) (.cells #[.pointer (some ⟨w.heap.size + 1, 0, none⟩), .map (some w1.heap.size)] 121)).2
    simpa using this
  all_goals omega

end Go.Proofs.YtlifonflgcfafaaGreatDoor
