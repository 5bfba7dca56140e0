/-
  What is taken of a meta's bytes, step by step (meta.taker): text, num; isID; only.
  Each contract holds in every world in which the taker's block is laid.
-/
import Derived.Test.YtjffdcflkkgpfaaGreatFrame
import Derived.Test.YtjffdcflkkgpfaaGreatIdent
namespace Go.Proofs.YtjffdcflkkgpfaaGreat
open Go Go.RowKit

/-- A taker: what is left, the error. -/
abbrev Tk := List UInt8 × Int

def tkT (st : Tk) (most : Int) : List UInt8 × Tk := if st.2 ≠ 0 then ([], st) else ((takeT st.1 most).1, (takeT st.1 most).2.1, (takeT st.1 most).2.2)

def tkN (st : Tk) (most : Int) : Int × Tk := if st.2 ≠ 0 then (0, st) else ((takeM st.1 most).1, (takeM st.1 most).2.1, (takeM st.1 most).2.2)

def TakerAt (w : World) (q : Nat) (st : Tk) : Prop := w.heap[q]? = some (.cells #[.string ⟨st.1.toArray⟩, .int .i64 st.2] 161 (0, 0))

theorem takeT_left (l : List UInt8) (most : Int) : (takeT l most).2.1.length ≤ l.length := by
  have := takeM_left l most
  unfold takeT
  split
  · simp
  · split
    · simp
    · simp only [List.length_drop]; omega

theorem tkT_left (st : Tk) (most : Int) : (tkT st most).2.1.length ≤ st.1.length := by
  unfold tkT
  split
  · exact Nat.le_refl _
  · exact takeT_left _ _

theorem tkN_left (st : Tk) (most : Int) : (tkN st most).2.1.length ≤ st.1.length := by
  unfold tkN
  split
  · exact Nat.le_refl _
  · exact takeM_left _ _


set_option maxRecDepth 100000 in
set_option maxHeartbeats 1000000 in
theorem tkText_spec (w : World) (q : Nat) (st : Tk) (h : TakerAt w q st) (hs : st.1.length ≤ maxLen) (most : Int) (hm : most ≤ 9223372036854775807) :
    Calls Tryz.prog 79 #[.pointer (some ⟨q, 0, none⟩), .int .i64 most] w fun e w' => e = .returned (.string ⟨(tkT st most).1.toArray⟩) ∧ TakerAt w' q (tkT st most).2 ∧ Keeps [q] w w' := by
  obtain ⟨l, er⟩ := st
  obtain ⟨s, hse⟩ : ∃ s : ByteArray, s = ⟨l.toArray⟩ := ⟨_, rfl⟩
  have hsd : s.data.toList = l := by rw [hse]
  have q1 : w.heap[q]? = some (.cells #[.string s, .int .i64 er] 161 (0, 0)) := by rw [hse]; exact h
  have hk : ∀ most, tkT (l, er) most = if er ≠ 0 then ([], (l, er)) else ((takeT l most).1, (takeT l most).2.1, (takeT l most).2.2) := fun _ => rfl
  have hkm := hk most
  have c1 := cells_at q1
  have f1 := free_at q1
  have l1 := lt_of_at q1
  by_cases he : er = 0
  · subst he
    rw [if_neg (fun h => h rfl)] at hkm
    have Ht := Lib.hid (takeText_spec w s (by rw [hse]; exact hs) most hm)
    rw [hsd] at Ht
    generalize takeT l most = r at Ht hkm
    obtain ⟨r1, r2, r3⟩ := r
    have Hk := Lib.hid hkm
    have H := Lib.hid q1
    clear hk hkm hse hsd h q1
    go_enter Tryz.func79, Tryz.ntmps79
    go_wp2_with fail
    refine Ht.out.mono ?_
    rintro e w2 ⟨rfl, nq, rfl⟩
    simp only [takeTVals]
    have t := heap_cell_same (i := 1) (heap_cell_same (w := w.drewN nq) (i := 0) H.out (.string ⟨r2.toArray⟩)) (.int .i64 r3)
    have kq : Keeps [q] w (((w.drewN nq).setCell ⟨q, 0, none⟩ (.string ⟨r2.toArray⟩)).setCell ⟨q, 1, none⟩ (.int .i64 r3)) := (((Keeps.refl [q] w).drewN nq).setCell (.inl (by simp)) _).setCell (.inl (by simp)) _
    have Hfin := Lib.hid (And.intro t kq)
    clear t kq
    go_wp2_with fail
    go_ret
    exact ⟨by rw [Hk.out]; rfl, by rw [Hk.out]; exact Hfin.out.1, Hfin.out.2⟩
  · rw [if_pos he] at hkm
    have he1 : (er != 0) = true := by simp [he]
    have he2 : (er == 0) = false := by simp [he]
    have Hk := Lib.hid hkm
    have H := Lib.hid h
    clear hk hkm hse hsd h q1
    go_enter Tryz.func79, Tryz.ntmps79
    go_wp2_with fail
    go_ret
    exact ⟨by rw [Hk.out]; rfl, by rw [Hk.out]; exact H.out, Keeps.refl _ _⟩


set_option maxRecDepth 100000 in
set_option maxHeartbeats 1000000 in
theorem tkNum_spec (w : World) (q : Nat) (st : Tk) (h : TakerAt w q st) (hs : st.1.length ≤ maxLen) (most : Int) (hm : most ≤ 9223372036854775807) :
    Calls Tryz.prog 80 #[.pointer (some ⟨q, 0, none⟩), .int .i64 most] w fun e w' => e = .returned (.int .i64 (tkN st most).1) ∧ TakerAt w' q (tkN st most).2 ∧ Keeps [q] w w' := by
  obtain ⟨l, er⟩ := st
  obtain ⟨s, hse⟩ : ∃ s : ByteArray, s = ⟨l.toArray⟩ := ⟨_, rfl⟩
  have hsd : s.data.toList = l := by rw [hse]
  have q1 : w.heap[q]? = some (.cells #[.string s, .int .i64 er] 161 (0, 0)) := by rw [hse]; exact h
  have hk : ∀ most, tkN (l, er) most = if er ≠ 0 then (0, (l, er)) else ((takeM l most).1, (takeM l most).2.1, (takeM l most).2.2) := fun _ => rfl
  have hkm := hk most
  have c1 := cells_at q1
  have f1 := free_at q1
  have l1 := lt_of_at q1
  by_cases he : er = 0
  · subst he
    rw [if_neg (fun h => h rfl)] at hkm
    have Ht := Lib.hid (takeMost_spec w s (by rw [hse]; exact hs) most hm)
    rw [hsd] at Ht
    generalize takeM l most = r at Ht hkm
    obtain ⟨r1, r2, r3⟩ := r
    have Hk := Lib.hid hkm
    have H := Lib.hid q1
    clear hk hkm hse hsd h q1
    go_enter Tryz.func80, Tryz.ntmps80
    go_wp2_with fail
    refine Ht.out.mono ?_
    rintro e w2 ⟨rfl, nq, rfl⟩
    simp only [takeMVals]
    have t := heap_cell_same (i := 1) (heap_cell_same (w := w.drewN nq) (i := 0) H.out (.string ⟨r2.toArray⟩)) (.int .i64 r3)
    have kq : Keeps [q] w (((w.drewN nq).setCell ⟨q, 0, none⟩ (.string ⟨r2.toArray⟩)).setCell ⟨q, 1, none⟩ (.int .i64 r3)) := (((Keeps.refl [q] w).drewN nq).setCell (.inl (by simp)) _).setCell (.inl (by simp)) _
    have Hfin := Lib.hid (And.intro t kq)
    clear t kq
    go_wp2_with fail
    go_ret
    exact ⟨by rw [Hk.out]; rfl, by rw [Hk.out]; exact Hfin.out.1, Hfin.out.2⟩
  · rw [if_pos he] at hkm
    have he1 : (er != 0) = true := by simp [he]
    have he2 : (er == 0) = false := by simp [he]
    have Hk := Lib.hid hkm
    have H := Lib.hid h
    clear hk hkm hse hsd h q1
    go_enter Tryz.func80, Tryz.ntmps80
    go_wp2_with fail
    go_ret
    exact ⟨by rw [Hk.out]; rfl, by rw [Hk.out]; exact H.out, Keeps.refl _ _⟩


def isIDB (l : List UInt8) : Bool := (parseL l).isSome

set_option maxRecDepth 100000 in
set_option maxHeartbeats 1000000 in
theorem isID_spec (w : World) (s : ByteArray) :
    Calls Tryz.prog 81 #[.string s] w fun e w' => e = .returned (.bool (isIDB s.data.toList)) ∧ w = w' := by
  have H := Lib.hid (parse_spec w s)
  unfold isIDB
  generalize parseL s.data.toList = r at H
  go_enter Tryz.func81, Tryz.ntmps81
  go_wp2_with fail
  refine H.out.mono ?_
  rintro e w1 ⟨rfl, rfl⟩
  cases r with
  | none =>
    simp only [parseVals]
    go_wp2_with fail
    go_ret
    exact ⟨rfl, rfl⟩
  | some p =>
    obtain ⟨a, b⟩ := p
    simp only [parseVals]
    go_wp2_with fail
    go_ret
    exact ⟨rfl, rfl⟩


/-- What is in the one record of a kind that bytes are: its data, the error. -/
def onlyE (r : UInt8 × List UInt8 × List UInt8 × Int) (kind : UInt8) : Int := if r.2.2.2 = 0 ∧ (r.2.2.1 ≠ [] ∨ r.1 ≠ kind) then 3 else r.2.2.2

def onlyL (l : List UInt8) (kind : UInt8) : List UInt8 × Int := ((nextF l).2.1, onlyE (nextF l) kind)

def OnlyPost (w : World) (r : UInt8 × List UInt8 × List UInt8 × Int) (kind : UInt8) (e : Ending) (w' : World) : Prop := e = .returned (.tuple #[.string ⟨r.2.1.toArray⟩, .int .i64 (onlyE r kind)]) ∧ Keeps [] w w'

set_option linter.unusedSimpArgs false in
set_option maxRecDepth 100000 in
set_option maxHeartbeats 1000000 in
theorem only_spec0 (w : World) (s : ByteArray) (hs : s.size ≤ 140737488355000) (kind : UInt8) :
    Calls Tryz.prog 77 #[.string s, .int .u8 kind.toNat] w (OnlyPost w (nextF s.data.toList) kind) := by
  have H := Lib.hid (next_spec w s hs)
  generalize nextF s.data.toList = r at H
  obtain ⟨k, dd, rest, er⟩ := r
  obtain ⟨ds, hds⟩ : ∃ s : ByteArray, s = ⟨dd.toArray⟩ := ⟨_, rfl⟩
  obtain ⟨rs, hrs⟩ : ∃ s : ByteArray, s = ⟨rest.toArray⟩ := ⟨_, rfl⟩
  have hrl : rs.size = rest.length := by rw [hrs]; rfl
  have Hd := Lib.hid (And.intro hds hrs)
  clear hds hrs
  by_cases he : er = 0
  · by_cases hr : rest = []
    · obtain ⟨z1, z2⟩ := is_empty (s := rs) (by rw [hrl, hr]; rfl)
      by_cases hk : k = kind
      · have Hc := Lib.hid (show onlyE (k, dd, rest, er) kind = 0 from by unfold onlyE; rw [if_neg (by simp [hr, hk])]; exact he)
        have hkk : ((k.toNat : Int) != (kind.toNat : Int)) = false := by simp [hk]
        have hkk2 : ((k.toNat : Int) == (kind.toNat : Int)) = true := by simp [hk]
        subst he
        subst hk
        clear hr hrl
        go_enter Tryz.func77, Tryz.ntmps77
        go_wp2_with fail
        refine H.out.mono ?_
        rintro e w1 ⟨rfl, hk1⟩
        simp only [nextVals]
        rw [← Hd.out.1, ← Hd.out.2]
        have q2 := heap_new w1 (.cells #[.int .u8 k.toNat, .string ds] 123)
        have hk2 := Lib.hid (hk1.alloc (.cells #[.int .u8 k.toNat, .string ds] 123))
        have c2 := cells_at q2
        have l2 := lt_of_at q2
        clear hk1 q2
        go_wp2_with fail
        go_ret2
        exact ⟨by rw [Hc.out, Hd.out.1]; rfl, hk2.out⟩
      · have Hc := Lib.hid (show onlyE (k, dd, rest, er) kind = 3 from by unfold onlyE; rw [if_pos ⟨he, .inr hk⟩])
        have hne : ¬ (k.toNat : Int) = (kind.toNat : Int) := fun e => hk (UInt8.toNat_inj.1 (by omega))
        have hkk : ((k.toNat : Int) != (kind.toNat : Int)) = true := by simpa using hne
        have hkk2 : ((k.toNat : Int) == (kind.toNat : Int)) = false := by simpa using hne
        subst he
        clear hr hrl hk hne
        go_enter Tryz.func77, Tryz.ntmps77
        go_wp2_with fail
        refine H.out.mono ?_
        rintro e w1 ⟨rfl, hk1⟩
        simp only [nextVals]
        rw [← Hd.out.1, ← Hd.out.2]
        have q2 := heap_new w1 (.cells #[.int .u8 k.toNat, .string ds] 123)
        have hk2 := Lib.hid (hk1.alloc (.cells #[.int .u8 k.toNat, .string ds] 123))
        have c2 := cells_at q2
        have l2 := lt_of_at q2
        clear hk1 q2
        go_wp2_with fail
        go_ret2
        exact ⟨by rw [Hc.out, Hd.out.1]; rfl, hk2.out⟩
    · obtain ⟨z1, z2⟩ := ne_empty (s := rs) (by rw [hrl]; intro e; exact hr (List.eq_nil_of_length_eq_zero e))
      have Hc := Lib.hid (show onlyE (k, dd, rest, er) kind = 3 from by unfold onlyE; rw [if_pos ⟨he, .inl hr⟩])
      subst he
      clear hr hrl
      go_enter Tryz.func77, Tryz.ntmps77
      go_wp2_with fail
      refine H.out.mono ?_
      rintro e w1 ⟨rfl, hk1⟩
      simp only [nextVals]
      rw [← Hd.out.1, ← Hd.out.2]
      have q2 := heap_new w1 (.cells #[.int .u8 k.toNat, .string ds] 123)
      have hk2 := Lib.hid (hk1.alloc (.cells #[.int .u8 k.toNat, .string ds] 123))
      have c2 := cells_at q2
      have l2 := lt_of_at q2
      clear hk1 q2
      go_wp2_with fail
      go_ret2
      exact ⟨by rw [Hc.out, Hd.out.1]; rfl, hk2.out⟩
  · have Hc := Lib.hid (show onlyE (k, dd, rest, er) kind = er from by unfold onlyE; rw [if_neg (fun h => he h.1)])
    have he2 : (er == 0) = false := by simp [he]
    have he3 : (er != 0) = true := by simp [he]
    clear hrl he
    go_enter Tryz.func77, Tryz.ntmps77
    go_wp2_with fail
    refine H.out.mono ?_
    rintro e w1 ⟨rfl, hk1⟩
    simp only [nextVals]
    rw [← Hd.out.1, ← Hd.out.2]
    have q2 := heap_new w1 (.cells #[.int .u8 k.toNat, .string ds] 123)
    have hk2 := Lib.hid (hk1.alloc (.cells #[.int .u8 k.toNat, .string ds] 123))
    have c2 := cells_at q2
    have l2 := lt_of_at q2
    clear hk1 q2
    go_wp2_with fail
    go_ret2
    exact ⟨by rw [Hc.out, Hd.out.1]; rfl, hk2.out⟩


theorem only_spec (w : World) (s : ByteArray) (hs : s.size ≤ 140737488355000) (kind : UInt8) :
    Calls Tryz.prog 77 #[.string s, .int .u8 kind.toNat] w fun e w' => e = .returned (.tuple #[.string ⟨(onlyL s.data.toList kind).1.toArray⟩, .int .i64 (onlyL s.data.toList kind).2]) ∧ Keeps [] w w' :=
  only_spec0 w s hs kind

end Go.Proofs.YtjffdcflkkgpfaaGreat
