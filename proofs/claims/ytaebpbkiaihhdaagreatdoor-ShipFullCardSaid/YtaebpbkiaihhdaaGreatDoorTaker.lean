/-
  What is taken of a meta's bytes, step by step (meta.taker): text, num; isID; only.
  Each contract holds in every world in which the taker's block is laid.

  Marks of blocks as bytes, and back (meta.EncodeMark, meta.DecodeMark).
  Each contract holds in every world; old memory is left as it was.

  Names of blocks' objects (ident.Object, ident.Split).
  Split is asked where the library's variable is laid (LibVar).

  What is said of a block, in plain words: a meta that may be, its bytes, and what is taken of them.
  No condition beyond those that each theorem states.

  A meta in memory; Of; Check of a meta that may be (package meta).
  Texts are short.
-/
import Derived.Test.YtaebpbkiaihhdaaGreatDoorFrame
import Derived.Test.YtaebpbkiaihhdaaGreatDoorIdent
import Derived.Deep.QuietTactic
import Derived.Test.YtaebpbkiaihhdaaGreatDoorLibVar
import Derived.Lib.IndexMore
import Derived.Test.YtaebpbkiaihhdaaGreatDoorArgs
import Derived.Deep.RegionWith
namespace Go.Proofs.YtaebpbkiaihhdaaGreatDoor
open Go Go.RowKit

/-- A taker: what is left, the error. -/
abbrev Tk := List UInt8 × Int

def tkT (st : Tk) (most : Int) : List UInt8 × Tk := if st.2 ≠ 0 then ([], st) else ((takeT st.1 most).1, (takeT st.1 most).2.1, (takeT st.1 most).2.2)

def tkN (st : Tk) (most : Int) : Int × Tk := if st.2 ≠ 0 then (0, st) else ((takeM st.1 most).1, (takeM st.1 most).2.1, (takeM st.1 most).2.2)

def TakerAt (w : World) (q : Nat) (st : Tk) : Prop := w.heap[q]? = some (.cells #[.string ⟨st.1.toArray⟩, .int .i64 st.2] 181 (0, 0))

theorem takeT_left (l : List UInt8) (most : Int) : (takeT l most).2.1.length ≤ l.length := by
  have := takeM_left l most
  unfold takeT
  split
  · simp
  · split
    · simp
    · simp only [List.length_drop]; omega

theorem tkT_left (st : Tk) (most : Int) : (tkT st most).2.1.length ≤ st.1.length := by
  unfold tkT
  split
  · exact Nat.le_refl _
  · exact takeT_left _ _

theorem tkN_left (st : Tk) (most : Int) : (tkN st most).2.1.length ≤ st.1.length := by
  unfold tkN
  split
  · exact Nat.le_refl _
  · exact takeM_left _ _


set_option maxRecDepth 100000 in
set_option maxHeartbeats 1000000 in
theorem tkText_spec (w : World) (q : Nat) (st : Tk) (h : TakerAt w q st) (hs : st.1.length ≤ maxLen) (most : Int) (hm : most ≤ 9223372036854775807) :
    Calls Tryz.prog 90 #[.pointer (some ⟨q, 0, none⟩), .int .i64 most] w fun e w' => e = .returned (.string ⟨(tkT st most).1.toArray⟩) ∧ TakerAt w' q (tkT st most).2 ∧ Keeps [q] w w' := by
  obtain ⟨l, er⟩ := st
  obtain ⟨s, hse⟩ : ∃ s : ByteArray, s = ⟨l.toArray⟩ := ⟨_, rfl⟩
  have hsd : s.data.toList = l := by rw [hse]
  have q1 : w.heap[q]? = some (.cells #[.string s, .int .i64 er] 181 (0, 0)) := by rw [hse]; exact h
  have hk : ∀ most, tkT (l, er) most = if er ≠ 0 then ([], (l, er)) else ((takeT l most).1, (takeT l most).2.1, (takeT l most).2.2) := fun _ => rfl
  have hkm := hk most
  have c1 := cells_at q1
  have f1 := free_at q1
  have l1 := lt_of_at q1
  by_cases he : er = 0
  · subst he
    rw [if_neg (fun h => h rfl)] at hkm
    have Ht := Lib.hid (takeText_spec w s (by rw [hse]; exact hs) most hm)
    rw [hsd] at Ht
    generalize takeT l most = r at Ht hkm
    obtain ⟨r1, r2, r3⟩ := r
    have Hk := Lib.hid hkm
    have H := Lib.hid q1
    clear hk hkm hse hsd h q1
    go_enter Tryz.func90, Tryz.ntmps90
    go_wp2_with fail
    refine Ht.out.mono ?_
    rintro e w2 ⟨rfl, nq, rfl⟩
    simp only [takeTVals]
    have t := heap_cell_same (i := 1) (heap_cell_same (w := w.drewN nq) (i := 0) H.out (.string ⟨r2.toArray⟩)) (.int .i64 r3)
    have kq : Keeps [q] w (((w.drewN nq).setCell ⟨q, 0, none⟩ (.string ⟨r2.toArray⟩)).setCell ⟨q, 1, none⟩ (.int .i64 r3)) := (((Keeps.refl [q] w).drewN nq).setCell (.inl (by simp)) _).setCell (.inl (by simp)) _
    have Hfin := Lib.hid (And.intro t kq)
    clear t kq
    go_wp2_with fail
    go_ret
    exact ⟨by rw [Hk.out]; rfl, by rw [Hk.out]; exact Hfin.out.1, Hfin.out.2⟩
  · rw [if_pos he] at hkm
    have he1 : (er != 0) = true := by simp [he]
    have he2 : (er == 0) = false := by simp [he]
    have Hk := Lib.hid hkm
    have H := Lib.hid h
    clear hk hkm hse hsd h q1
    go_enter Tryz.func90, Tryz.ntmps90
    go_wp2_with fail
    go_ret
    exact ⟨by rw [Hk.out]; rfl, by rw [Hk.out]; exact H.out, Keeps.refl _ _⟩


set_option maxRecDepth 100000 in
set_option maxHeartbeats 1000000 in
theorem tkNum_spec (w : World) (q : Nat) (st : Tk) (h : TakerAt w q st) (hs : st.1.length ≤ maxLen) (most : Int) (hm : most ≤ 9223372036854775807) :
    Calls Tryz.prog 91 #[.pointer (some ⟨q, 0, none⟩), .int .i64 most] w fun e w' => e = .returned (.int .i64 (tkN st most).1) ∧ TakerAt w' q (tkN st most).2 ∧ Keeps [q] w w' := by
  obtain ⟨l, er⟩ := st
  obtain ⟨s, hse⟩ : ∃ s : ByteArray, s = ⟨l.toArray⟩ := ⟨_, rfl⟩
  have hsd : s.data.toList = l := by rw [hse]
  have q1 : w.heap[q]? = some (.cells #[.string s, .int .i64 er] 181 (0, 0)) := by rw [hse]; exact h
  have hk : ∀ most, tkN (l, er) most = if er ≠ 0 then (0, (l, er)) else ((takeM l most).1, (takeM l most).2.1, (takeM l most).2.2) := fun _ => rfl
  have hkm := hk most
  have c1 := cells_at q1
  have f1 := free_at q1
  have l1 := lt_of_at q1
  by_cases he : er = 0
  · subst he
    rw [if_neg (fun h => h rfl)] at hkm
    have Ht := Lib.hid (takeMost_spec w s (by rw [hse]; exact hs) most hm)
    rw [hsd] at Ht
    generalize takeM l most = r at Ht hkm
    obtain ⟨r1, r2, r3⟩ := r
    have Hk := Lib.hid hkm
    have H := Lib.hid q1
    clear hk hkm hse hsd h q1
    go_enter Tryz.func91, Tryz.ntmps91
    go_wp2_with fail
    refine Ht.out.mono ?_
    rintro e w2 ⟨rfl, nq, rfl⟩
    simp only [takeMVals]
    have t := heap_cell_same (i := 1) (heap_cell_same (w := w.drewN nq) (i := 0) H.out (.string ⟨r2.toArray⟩)) (.int .i64 r3)
    have kq : Keeps [q] w (((w.drewN nq).setCell ⟨q, 0, none⟩ (.string ⟨r2.toArray⟩)).setCell ⟨q, 1, none⟩ (.int .i64 r3)) := (((Keeps.refl [q] w).drewN nq).setCell (.inl (by simp)) _).setCell (.inl (by simp)) _
    have Hfin := Lib.hid (And.intro t kq)
    clear t kq
    go_wp2_with fail
    go_ret
    exact ⟨by rw [Hk.out]; rfl, by rw [Hk.out]; exact Hfin.out.1, Hfin.out.2⟩
  · rw [if_pos he] at hkm
    have he1 : (er != 0) = true := by simp [he]
    have he2 : (er == 0) = false := by simp [he]
    have Hk := Lib.hid hkm
    have H := Lib.hid h
    clear hk hkm hse hsd h q1
    go_enter Tryz.func91, Tryz.ntmps91
    go_wp2_with fail
    go_ret
    exact ⟨by rw [Hk.out]; rfl, by rw [Hk.out]; exact H.out, Keeps.refl _ _⟩


def isIDB (l : List UInt8) : Bool := (parseL l).isSome

set_option maxRecDepth 100000 in
set_option maxHeartbeats 1000000 in
theorem isID_spec (w : World) (s : ByteArray) :
    Calls Tryz.prog 92 #[.string s] w fun e w' => e = .returned (.bool (isIDB s.data.toList)) ∧ w = w' := by
  have H := Lib.hid (parse_spec w s)
  unfold isIDB
  generalize parseL s.data.toList = r at H
  go_enter Tryz.func92, Tryz.ntmps92
  go_wp2_with fail
  refine H.out.mono ?_
  rintro e w1 ⟨rfl, rfl⟩
  cases r with
  | none =>
    simp only [parseVals]
    go_wp2_with fail
    go_ret
    exact ⟨rfl, rfl⟩
  | some p =>
    obtain ⟨a, b⟩ := p
    simp only [parseVals]
    go_wp2_with fail
    go_ret
    exact ⟨rfl, rfl⟩


/-- What is in the one record of a kind that bytes are: its data, the error. -/
def onlyE (r : UInt8 × List UInt8 × List UInt8 × Int) (kind : UInt8) : Int := if r.2.2.2 = 0 ∧ (r.2.2.1 ≠ [] ∨ r.1 ≠ kind) then 3 else r.2.2.2

def onlyL (l : List UInt8) (kind : UInt8) : List UInt8 × Int := ((nextF l).2.1, onlyE (nextF l) kind)

def OnlyPost (w : World) (r : UInt8 × List UInt8 × List UInt8 × Int) (kind : UInt8) (e : Ending) (w' : World) : Prop := e = .returned (.tuple #[.string ⟨r.2.1.toArray⟩, .int .i64 (onlyE r kind)]) ∧ Keeps [] w w'

set_option linter.unusedSimpArgs false in
set_option maxRecDepth 100000 in
set_option maxHeartbeats 1000000 in
theorem only_spec0 (w : World) (s : ByteArray) (hs : s.size ≤ 140737488355000) (kind : UInt8) :
    Calls Tryz.prog 88 #[.string s, .int .u8 kind.toNat] w (OnlyPost w (nextF s.data.toList) kind) := by
  have H := Lib.hid (next_spec w s hs)
  generalize nextF s.data.toList = r at H
  obtain ⟨k, dd, rest, er⟩ := r
  obtain ⟨ds, hds⟩ : ∃ s : ByteArray, s = ⟨dd.toArray⟩ := ⟨_, rfl⟩
  obtain ⟨rs, hrs⟩ : ∃ s : ByteArray, s = ⟨rest.toArray⟩ := ⟨_, rfl⟩
  have hrl : rs.size = rest.length := by rw [hrs]; rfl
  have Hd := Lib.hid (And.intro hds hrs)
  clear hds hrs
  by_cases he : er = 0
  · by_cases hr : rest = []
    · obtain ⟨z1, z2⟩ := is_empty (s := rs) (by rw [hrl, hr]; rfl)
      by_cases hk : k = kind
      · have Hc := Lib.hid (show onlyE (k, dd, rest, er) kind = 0 from by unfold onlyE; rw [if_neg (by simp [hr, hk])]; exact he)
        have hkk : ((k.toNat : Int) != (kind.toNat : Int)) = false := by simp [hk]
        have hkk2 : ((k.toNat : Int) == (kind.toNat : Int)) = true := by simp [hk]
        subst he
        subst hk
        clear hr hrl
        go_enter Tryz.func88, Tryz.ntmps88
        go_wp2_with fail
        refine H.out.mono ?_
        rintro e w1 ⟨rfl, hk1⟩
        simp only [nextVals]
        rw [← Hd.out.1, ← Hd.out.2]
        have q2 := heap_new w1 (.cells #[.int .u8 k.toNat, .string ds] 116)
        have hk2 := Lib.hid (hk1.alloc (.cells #[.int .u8 k.toNat, .string ds] 116))
        have c2 := cells_at q2
        have l2 := lt_of_at q2
        clear hk1 q2
        go_wp2_with fail
        go_ret2
        exact ⟨by rw [Hc.out, Hd.out.1]; rfl, hk2.out⟩
      · have Hc := Lib.hid (show onlyE (k, dd, rest, er) kind = 3 from by unfold onlyE; rw [if_pos ⟨he, .inr hk⟩])
        have hne : ¬ (k.toNat : Int) = (kind.toNat : Int) := fun e => hk (UInt8.toNat_inj.1 (by omega))
        have hkk : ((k.toNat : Int) != (kind.toNat : Int)) = true := by simpa using hne
        have hkk2 : ((k.toNat : Int) == (kind.toNat : Int)) = false := by simpa using hne
        subst he
        clear hr hrl hk hne
        go_enter Tryz.func88, Tryz.ntmps88
        go_wp2_with fail
        refine H.out.mono ?_
        rintro e w1 ⟨rfl, hk1⟩
        simp only [nextVals]
        rw [← Hd.out.1, ← Hd.out.2]
        have q2 := heap_new w1 (.cells #[.int .u8 k.toNat, .string ds] 116)
        have hk2 := Lib.hid (hk1.alloc (.cells #[.int .u8 k.toNat, .string ds] 116))
        have c2 := cells_at q2
        have l2 := lt_of_at q2
        clear hk1 q2
        go_wp2_with fail
        go_ret2
        exact ⟨by rw [Hc.out, Hd.out.1]; rfl, hk2.out⟩
    · obtain ⟨z1, z2⟩ := ne_empty (s := rs) (by rw [hrl]; intro e; exact hr (List.eq_nil_of_length_eq_zero e))
      have Hc := Lib.hid (show onlyE (k, dd, rest, er) kind = 3 from by unfold onlyE; rw [if_pos ⟨he, .inl hr⟩])
      subst he
      clear hr hrl
      go_enter Tryz.func88, Tryz.ntmps88
      go_wp2_with fail
      refine H.out.mono ?_
      rintro e w1 ⟨rfl, hk1⟩
      simp only [nextVals]
      rw [← Hd.out.1, ← Hd.out.2]
      have q2 := heap_new w1 (.cells #[.int .u8 k.toNat, .string ds] 116)
      have hk2 := Lib.hid (hk1.alloc (.cells #[.int .u8 k.toNat, .string ds] 116))
      have c2 := cells_at q2
      have l2 := lt_of_at q2
      clear hk1 q2
      go_wp2_with fail
      go_ret2
      exact ⟨by rw [Hc.out, Hd.out.1]; rfl, hk2.out⟩
  · have Hc := Lib.hid (show onlyE (k, dd, rest, er) kind = er from by unfold onlyE; rw [if_neg (fun h => he h.1)])
    have he2 : (er == 0) = false := by simp [he]
    have he3 : (er != 0) = true := by simp [he]
    clear hrl he
    go_enter Tryz.func88, Tryz.ntmps88
    go_wp2_with fail
    refine H.out.mono ?_
    rintro e w1 ⟨rfl, hk1⟩
    simp only [nextVals]
    rw [← Hd.out.1, ← Hd.out.2]
    have q2 := heap_new w1 (.cells #[.int .u8 k.toNat, .string ds] 116)
    have hk2 := Lib.hid (hk1.alloc (.cells #[.int .u8 k.toNat, .string ds] 116))
    have c2 := cells_at q2
    have l2 := lt_of_at q2
    clear hk1 q2
    go_wp2_with fail
    go_ret2
    exact ⟨by rw [Hc.out, Hd.out.1]; rfl, hk2.out⟩


theorem only_spec (w : World) (s : ByteArray) (hs : s.size ≤ 140737488355000) (kind : UInt8) :
    Calls Tryz.prog 88 #[.string s, .int .u8 kind.toNat] w fun e w' => e = .returned (.tuple #[.string ⟨(onlyL s.data.toList kind).1.toArray⟩, .int .i64 (onlyL s.data.toList kind).2]) ∧ Keeps [] w w' :=
  only_spec0 w s hs kind

end Go.Proofs.YtaebpbkiaihhdaaGreatDoor

namespace Go.Proofs.YtaebpbkiaihhdaaGreatDoor
open Go Go.RowKit

def markL (id : List UInt8) (n : Nat) : List UInt8 := frameL 2 (textL id ++ lebL n)

set_option linter.unusedSimpArgs false in
set_option maxRecDepth 100000 in
set_option maxHeartbeats 1000000 in
theorem encodeMark_spec (w : World) (id : ByteArray) (hid : id.size ≤ 1000000) (a : Int) (n : Nat) (hn : max a 0 = (n : Int)) (hnl : n < 9223372036854775808) :
    Calls Tryz.prog 43 #[.string id, .int .i64 a] w fun e w' => e = .returned (.string ⟨(markL id.data.toList n).toArray⟩) ∧ Keeps [] w w' := by
  have hcv : IntKind.u64.wrap (n : Int) = (n : Int) := IntWalk.u64_in _ (by omega)
  go_enter Tryz.func43, Tryz.ntmps43
  go_wp2_with fail
  refine (text_spec w (.slice none 0 0) [] id (by simp; omega) (buf_nil w)).mono ?_
  rintro e w1 ⟨v1, rfl, hb1, ht1⟩
  rw [List.nil_append] at hb1
  have H1 := Lib.hid (And.intro hb1 ht1)
  have htl : (textL id.data.toList).length ≤ 1000100 := by
    unfold textL
    rw [List.length_append, dsize]
    have := lebL_len10 (v := id.size) (by omega)
    omega
  clear hb1 ht1
  go_wp2_with fail
  refine (uint_spec w1 v1 (textL id.data.toList) n (by omega) (by omega) H1.out.1).mono ?_
  rintro e w2 ⟨v2, rfl, hb2, ht2⟩
  have k2 := ((H1.out.2.trans ht2).fresh (Keeps.refl [] w) (by simp [Value.ownBlock])).1
  have hconv := hb2.run_string
  obtain ⟨ds, hds⟩ : ∃ s : ByteArray, s = ⟨(textL id.data.toList ++ lebL n).toArray⟩ := ⟨_, rfl⟩
  have hdl : ds.data.toList = textL id.data.toList ++ lebL n := by rw [hds]
  have hdz : ds.size ≤ 1001000 := by
    rw [hds]
    show (textL id.data.toList ++ lebL n).length ≤ _
    rw [List.length_append]
    have := lebL_len10 (v := n) (by omega)
    omega
  rw [← hds] at hconv
  have H2 := Lib.hid (And.intro k2 hdl)
  clear hb2 ht2 k2 hds hdl htl
  go_wp2_with fail
  refine (frameAppend_spec w2 (.slice none 0 0) [] 2 ds (by simp; omega) (buf_nil w2)).mono ?_
  rintro e w3 ⟨v3, rfl, hb3, ht3⟩
  rw [List.nil_append, H2.out.2] at hb3
  have k3 := (ht3.fresh (Keeps.refl [] w2) (by simp [Value.ownBlock])).1
  have hconv3 := hb3.run_string
  have H3 := Lib.hid (H2.out.1.trans k3)
  clear hb3 ht3 k3 hconv
  obtain ⟨ms, hms⟩ : ∃ s : ByteArray, s = ⟨(frameL 2 (textL id.data.toList ++ lebL n)).toArray⟩ := ⟨_, rfl⟩
  rw [← hms] at hconv3
  have Hms := Lib.hid hms
  clear hms
  go_wp2_with fail
  go_ret
  exact ⟨by unfold markL; rw [← Hms.out]; rfl, H3.out⟩


/-- The block, and when its mark was made: what DecodeMark answers. -/
def markTk (l : List UInt8) : (List UInt8 × Int) × Tk :=
  let a := tkT ((onlyL l 2).1, (onlyL l 2).2) 16
  let b := tkN a.2 1099511627776
  ((a.1, b.1), b.2)

def unmarkL (l : List UInt8) : List UInt8 × Int × Int :=
  let m := markTk l
  if m.2.2 ≠ 0 then ([], 0, m.2.2) else if m.2.1 ≠ [] ∨ isIDB m.1.1 = false then ([], 0, 3) else (m.1.1, m.1.2, 0)

def unmarkVals (r : List UInt8 × Int × Int) : Value := .tuple #[.string ⟨r.1.toArray⟩, .int .i64 r.2.1, .int .i64 r.2.2]

def UnmarkPost (w : World) (r : List UInt8 × Int × Int) (e : Ending) (w' : World) : Prop := e = .returned (unmarkVals r) ∧ Keeps [] w w'


theorem unmark_err {l : List UInt8} (h : (markTk l).2.2 ≠ 0) : unmarkL l = ([], 0, (markTk l).2.2) := by unfold unmarkL; rw [if_pos h]

theorem unmark_form {l : List UInt8} (h : (markTk l).2.2 = 0) (h2 : (markTk l).2.1 ≠ [] ∨ isIDB (markTk l).1.1 = false) : unmarkL l = ([], 0, 3) := by
  unfold unmarkL; rw [if_neg (by simp [h]), if_pos h2]

theorem unmark_ok {l : List UInt8} (h : (markTk l).2.2 = 0) (h2 : (markTk l).2.1 = []) (h3 : isIDB (markTk l).1.1 = true) : unmarkL l = ((markTk l).1.1, (markTk l).1.2, 0) := by
  unfold unmarkL; rw [if_neg (by simp [h]), if_neg (by simp [h2, h3])]

theorem unmark_mark {id : List UInt8} {n : Nat} (hid : isIDB id = true) (hn : n ≤ 1099511627776) : unmarkL (markL id n) = (id, (n : Int), 0) := by
  have h16 : id.length = 16 := by
    unfold isIDB parseL at hid
    by_cases h : id.length = 16
    · exact h
    · rw [if_pos h] at hid; cases hid
  have hl1 : (textL id ++ lebL n).length ≤ 1048576 := by
    unfold textL
    have h1 := lebL_len10 (v := id.length) (by omega)
    have h2 := lebL_len10 (v := n) (by omega)
    simp only [List.length_append]
    omega
  have e1 : nextF (markL id n) = (2, textL id ++ lebL n, [], 0) := by
    have := nextF_frame 2 (textL id ++ lebL n) [] hl1
    rwa [List.append_nil] at this
  have e2 : onlyL (markL id n) 2 = (textL id ++ lebL n, 0) := by
    unfold onlyL onlyE
    rw [e1]
    simp
  have e3 : markTk (markL id n) = ((id, (n : Int)), ([], 0)) := by
    unfold markTk
    rw [e2]
    have t1 := takeT_text id (lebL n) (most := 16) (by omega) (by decide)
    have t2 := takeM_leb (m := n) [] (most := 1099511627776) (by omega) (by decide)
    rw [List.append_nil] at t2
    simp [tkT, tkN, t1, t2]
  rw [unmark_ok (by rw [e3]) (by rw [e3]) (by rw [e3]; exact hid), e3]


theorem nextF_len (l : List UInt8) : (nextF l).2.1.length ≤ l.length := by
  unfold nextF
  cases l with
  | nil => simp
  | cons k r =>
    have h := takeM_left r 1048576
    simp only
    split
    · simp
    · split
      · simp
      · split
        · simp
        · simp only [List.length_take, List.length_drop, List.length_cons]
          omega


set_option linter.unusedSimpArgs false in
set_option maxRecDepth 100000 in
set_option maxHeartbeats 1000000 in
theorem decodeMark_spec (w : World) (s : ByteArray) (hs : s.size ≤ 140737488355000) :
    Calls Tryz.prog 50 #[.string s] w (UnmarkPost w (unmarkL s.data.toList)) := by
  have Ho := Lib.hid (only_spec w s hs 2)
  have hD : (onlyL s.data.toList 2).1.length ≤ maxLen := by
    have := nextF_len s.data.toList
    rw [dsize] at this
    show (nextF s.data.toList).2.1.length ≤ maxLen
    unfold maxLen; omega
  have hc : (unmarkL s.data.toList = unmarkL s.data.toList) := rfl
  have e1 := @unmark_err s.data.toList
  have e2 := @unmark_form s.data.toList
  have e3 := @unmark_ok s.data.toList
  have hM : markTk s.data.toList = (((tkT ((onlyL s.data.toList 2).1, (onlyL s.data.toList 2).2) 16).1, (tkN (tkT ((onlyL s.data.toList 2).1, (onlyL s.data.toList 2).2) 16).2 1099511627776).1), (tkN (tkT ((onlyL s.data.toList 2).1, (onlyL s.data.toList 2).2) 16).2 1099511627776).2) := rfl
  rw [hM] at e1 e2 e3
  generalize unmarkL s.data.toList = R at e1 e2 e3 ⊢
  generalize onlyL s.data.toList 2 = D at Ho hD e1 e2 e3
  have hA0 := tkT_left (D.1, D.2) 16
  have HA : Hid (tkT (D.1, D.2) 16 = tkT (D.1, D.2) 16) := Lib.hid rfl
  clear HA
  obtain ⟨A, hA1⟩ : ∃ A, tkT (D.1, D.2) 16 = A := ⟨_, rfl⟩
  rw [hA1] at e1 e2 e3 hA0
  have hA : A.2.1.length ≤ maxLen := Nat.le_trans hA0 hD
  obtain ⟨B, hB1⟩ : ∃ B, tkN A.2 1099511627776 = B := ⟨_, rfl⟩
  rw [hB1] at e1 e2 e3
  have HA := Lib.hid hA1
  have HB := Lib.hid hB1
  have Hc := Lib.hid (And.intro e1 (And.intro e2 e3))
  clear e1 e2 e3 hM hc hA0 hA1 hB1
  go_enter Tryz.func50, Tryz.ntmps50
  go_wp2_with fail
  refine Ho.out.mono ?_
  rintro e w1 ⟨rfl, hk1⟩
  have q2 : TakerAt (w1.alloc (.cells #[.string ⟨D.1.toArray⟩, .int .i64 D.2] 181)) w1.heap.size (D.1, D.2) := heap_new w1 _
  have hk2 := hk1.alloc (.cells #[.string ⟨D.1.toArray⟩, .int .i64 D.2] 181)
  have hq : w.heap.size ≤ w1.heap.size := hk1.size
  obtain ⟨q, hqe⟩ : ∃ q, q = w1.heap.size := ⟨_, rfl⟩
  rw [← hqe] at q2 hq
  have H2 := Lib.hid (And.intro q2 (And.intro hk2 hq))
  have Hqe := Lib.hid hqe
  clear hk1 q2 hk2 hq hqe
  go_wp2_with fail
  rw [← Hqe.out]
  generalize w1.alloc (.cells #[.string ⟨D.1.toArray⟩, .int .i64 D.2] 181) = w2 at H2 ⊢
  refine (tkText_spec w2 q (D.1, D.2) H2.out.1 hD 16 (by decide)).mono ?_
  rintro e w3 ⟨rfl, hq3, hk3⟩
  rw [HA.out] at hq3 ⊢
  go_wp2_with fail
  refine (tkNum_spec w3 q A.2 hq3 hA 1099511627776 (by decide)).mono ?_
  rintro e w4 ⟨rfl, hq4, hk4⟩
  rw [HB.out] at hq4 ⊢
  have q4 : w4.heap[q]? = some (.cells #[.string ⟨B.2.1.toArray⟩, .int .i64 B.2.2] 181 (0, 0)) := hq4
  have hk04 : Keeps [] w w4 := (H2.out.2.1.after hk3 (fun x hx => .inr (by have := H2.out.2.2; simp at hx; omega))).after hk4 (fun x hx => .inr (by have := H2.out.2.2; simp at hx; omega))
  clear hq3 hk3 hq4 hk4 hD hA
  obtain ⟨A1, A2⟩ := A
  obtain ⟨N, rest, er⟩ := B
  simp only at q4 Hc ⊢
  obtain ⟨xs, has⟩ : ∃ s : ByteArray, s = ⟨A1.toArray⟩ := ⟨_, rfl⟩
  obtain ⟨rs, hrs⟩ : ∃ s : ByteArray, s = ⟨rest.toArray⟩ := ⟨_, rfl⟩
  have Has := Lib.hid (And.intro has hrs)
  rw [← hrs] at q4
  rw [← has]
  have Hid := Lib.hid (fun w => isID_spec w xs)
  rw [show xs.data.toList = A1 from by rw [has]] at Hid
  have hrl : rs.size = rest.length := by rw [hrs]; rfl
  have Hrl := Lib.hid hrl
  clear has hrs hrl
  have Hq4 := Lib.hid q4
  have H4 := Lib.hid (And.intro hk04 H2.out.2.2)
  clear q4 hk04
  by_cases he : er = 0
  · by_cases hr : rest = []
    · obtain ⟨z1, z2⟩ := is_empty (s := rs) (by rw [Hrl.out, hr]; rfl)
      cases hi : isIDB A1 with
      | true =>
        have Hr := Lib.hid (Hc.out.2.2 he hr hi)
        rw [hi] at Hid
        subst he
        clear hr hi
        have c4 := cells_at Hq4.out
        have f4 := free_at Hq4.out
        have l4 := lt_of_at Hq4.out
        go_wp2_with fail
        refine (Hid.out w4).mono ?_
        rintro e w5 ⟨rfl, rfl⟩
        go_wp2_with fail
        go_ret3
        exact ⟨by rw [Hr.out, Has.out.1]; rfl, H4.out.1⟩
      | false =>
        have Hr := Lib.hid (Hc.out.2.1 he (.inr hi))
        rw [hi] at Hid
        subst he
        clear hr hi
        have c4 := cells_at Hq4.out
        have f4 := free_at Hq4.out
        have l4 := lt_of_at Hq4.out
        have t := heap_cell_same (i := 1) Hq4.out (.int .i64 3)
        have kq : Keeps [] w (w4.setCell ⟨q, 1, none⟩ (.int .i64 3)) := H4.out.1.setCell (.inr H4.out.2) _
        have Hfin := Lib.hid kq
        clear t kq
        go_wp2_with fail
        refine (Hid.out w4).mono ?_
        rintro e w5 ⟨rfl, rfl⟩
        go_wp2_with fail
        go_quiet (fail)
        go_wp2_with fail
        go_ret3
        exact ⟨by rw [Hr.out]; rfl, Hfin.out.drewN _⟩
    · obtain ⟨z1, z2⟩ := ne_empty (s := rs) (by rw [Hrl.out]; intro e; exact hr (List.eq_nil_of_length_eq_zero e))
      have Hr := Lib.hid (Hc.out.2.1 he (.inl hr))
      subst he
      clear hr
      have c4 := cells_at Hq4.out
      have f4 := free_at Hq4.out
      have l4 := lt_of_at Hq4.out
      have t := heap_cell_same (i := 1) Hq4.out (.int .i64 3)
      have kq : Keeps [] w (w4.setCell ⟨q, 1, none⟩ (.int .i64 3)) := H4.out.1.setCell (.inr H4.out.2) _
      have Hfin := Lib.hid kq
      clear t kq
      go_wp2_with fail
      go_quiet (fail)
      go_wp2_with fail
      go_ret3
      exact ⟨by rw [Hr.out]; rfl, Hfin.out.drewN _⟩
  · have Hr := Lib.hid (Hc.out.1 he)
    have he2 : (er == 0) = false := by simp [he]
    have he3 : (er != 0) = true := by simp [he]
    clear he
    have c4 := cells_at Hq4.out
    have f4 := free_at Hq4.out
    have l4 := lt_of_at Hq4.out
    go_wp2_with fail
    go_quiet (fail)
    go_wp2_with fail
    go_ret3
    exact ⟨by rw [Hr.out]; rfl, H4.out.1.drewN _⟩

end Go.Proofs.YtaebpbkiaihhdaaGreatDoor

namespace Go.Proofs.YtaebpbkiaihhdaaGreatDoor
open Go Go.RowKit

def objectB (id part : ByteArray) : ByteArray := id ++ ⟨#[47]⟩ ++ part

set_option maxRecDepth 100000 in
set_option maxHeartbeats 1000000 in
theorem object_spec (w : World) (id part : ByteArray) (h1 : id.size ≤ 1000000000) (h2 : part.size ≤ 1000000000) :
    Calls Tryz.prog 39 #[.string id, .string part] w fun e w' => e = .returned (.string (objectB id part)) ∧ w = w' := by
  have hz : (id ++ (⟨#[47]⟩ : ByteArray)).size ≤ 1000000001 := by rw [ByteArray.size_append]; show id.size + 1 ≤ _; omega
  go_enter Tryz.func39, Tryz.ntmps39
  go_wp2_with fail
  go_ret
  exact ⟨rfl, rfl⟩


def chunksB : ByteArray := ⟨#[99, 104, 117, 110, 107, 115]⟩

def indexB : ByteArray := ⟨#[105, 110, 100, 101, 120]⟩

def metaB : ByteArray := ⟨#[109, 101, 116, 97]⟩

def markB : ByteArray := ⟨#[109, 97, 114, 107]⟩

def isPart (p : List UInt8) : Bool := p == chunksB.data.toList || p == indexB.data.toList || p == metaB.data.toList || p == markB.data.toList

def splitL (l : List UInt8) : Option (List UInt8 × List UInt8) :=
  if (Lib.cut l [47]).2.2 = true ∧ isIDB (Lib.cut l [47]).1 = true ∧ isPart (Lib.cut l [47]).2.1 = true then some ((Lib.cut l [47]).1, (Lib.cut l [47]).2.1) else none

def splitVals (r : Option (List UInt8 × List UInt8)) : Value := match r with
  | some (a, b) => .tuple #[.string ⟨a.toArray⟩, .string ⟨b.toArray⟩, .bool true]
  | none => .tuple #[.string ⟨#[]⟩, .string ⟨#[]⟩, .bool false]

def SplitPost (w : World) (r : Option (List UInt8 × List UInt8)) (e : Ending) (w' : World) : Prop := e = .returned (splitVals r) ∧ Keeps [] w w'



theorem index_slash : ∀ {a b : List UInt8}, (47 : UInt8) ∉ a → Lib.index (a ++ 47 :: b) [47] = a.length
  | [], b, _ => by simp [Lib.index]
  | c :: a, b, h => by
    simp only [List.mem_cons, not_or] at h
    have ih := index_slash (a := a) (b := b) h.2
    have h1 : ((47 : UInt8) == c) = false := by simpa using h.1
    have h2 : ([47] : List UInt8).isPrefixOf (c :: (a ++ 47 :: b)) = false := by simp [List.isPrefixOf, h1]
    simp only [List.cons_append, Lib.index, h2, ih, List.length_cons]
    have h3 : ((a.length : Int) == -1) = false := by simp
    simp [h3]

theorem cut_slash {a b : List UInt8} (h : (47 : UInt8) ∉ a) : Lib.cut (a ++ 47 :: b) [47] = (a, b, true) := by
  unfold Lib.cut
  rw [index_slash h, if_pos (by omega)]
  simp

theorem num_signs : ∀ (l : List UInt8) {n m : Nat}, numL l n = some m → ∀ c ∈ l, c ∈ signL
  | [], _, _, _, c, hc => by cases hc
  | x :: l, n, m, h, c, hc => by
    simp only [numL] at h
    cases hk : numIx x with
    | none => rw [hk] at h; cases h
    | some k =>
      rw [hk] at h
      rcases List.mem_cons.1 hc with rfl | hc
      · have := List.findIdx?_eq_some_iff_getElem.1 hk
        obtain ⟨h1, h2, _⟩ := this
        have h2 : signL[k] = c := by simpa using h2
        rw [← h2]
        exact List.getElem_mem h1
      · exact num_signs l h c hc

theorem isID_signs {l : List UInt8} (h : isIDB l = true) : l.length = 16 ∧ ∀ c ∈ l, c ∈ signL := by
  unfold isIDB parseL at h
  by_cases hl : l.length = 16
  · rw [if_neg (by simp [hl])] at h
    refine ⟨hl, fun c hc => ?_⟩
    split at h
    · rename_i a b ha hb
      rw [← List.take_append_drop 8 l] at hc
      rcases List.mem_append.1 hc with hc | hc
      · exact num_signs _ ha c hc
      · exact num_signs _ hb c hc
    · cases h
  · rw [if_pos hl] at h
    cases h

theorem isID_slash {l : List UInt8} (h : isIDB l = true) : (47 : UInt8) ∉ l := fun hm => by
  have := (isID_signs h).2 _ hm
  revert this
  decide

/-- An object's name is its block and its part. -/
theorem split_object {id part : List UInt8} (h : isIDB id = true) (hp : isPart part = true) : splitL (id ++ 47 :: part) = some (id, part) := by
  unfold splitL
  rw [cut_slash (isID_slash h), if_pos ⟨rfl, h, hp⟩]

theorem isID_ident {t s : Nat} (ht : t < 1099511627776) (hs : s < 1099511627776) : isIDB (identL t s) = true := by
  unfold isIDB
  rw [parseL_ident ht hs]
  rfl

theorem object_data (id part : ByteArray) : (objectB id part).data.toList = id.data.toList ++ 47 :: part.data.toList := by
  simp [objectB, ByteArray.data_append]

theorem splitL_some {l id part : List UInt8} (h : splitL l = some (id, part)) : l = id ++ 47 :: part ∧ isIDB id = true ∧ isPart part = true := by
  unfold splitL at h
  split at h
  · rename_i hc
    obtain ⟨h1, h2, h3⟩ := hc
    simp only [Option.some.injEq, Prod.mk.injEq] at h
    obtain ⟨rfl, rfl⟩ := h
    refine ⟨?_, h2, h3⟩
    unfold Lib.cut at h1 ⊢
    split at h1
    · rename_i hi
      rw [if_pos hi]
      have hx : ∀ l : List UInt8, 0 ≤ Lib.index l [47] → l = l.take (Lib.index l [47]).toNat ++ 47 :: l.drop ((Lib.index l [47]).toNat + 1) := by
        intro l
        induction l with
        | nil => intro h; simp [Lib.index] at h
        | cons c l ih =>
          intro h
          simp only [Lib.index] at h ⊢
          split
          · rename_i hp
            have : (47 : UInt8) = c := by simpa [List.isPrefixOf] using hp
            subst this
            simp
          · rename_i hp
            rw [if_neg hp] at h
            split
            · rename_i he
              rw [if_pos he] at h
              omega
            · rename_i he
              have he' : Lib.index l [47] ≠ -1 := by simpa using he
              have hge := Lib.index_ge l [47]
              have ih' := ih (by omega)
              rw [show (Lib.index l [47] + 1).toNat = (Lib.index l [47]).toNat + 1 from by omega]
              simp only [List.take_succ_cons, List.cons_append, List.drop_succ_cons]
              exact congrArg _ ih'
      exact hx l hi
    · cases h1
  · cases h


def partsB : List ByteArray := [metaB, indexB, chunksB, markB]

theorem id_size {id : ByteArray} (h : isIDB id.data.toList = true) : id.size = 16 := by
  have := (isID_signs h).1
  rw [dsize] at this
  exact this
end Go.Proofs.YtaebpbkiaihhdaaGreatDoor

namespace Go.Proofs.YtaebpbkiaihhdaaGreatDoor
open Go Go.RowKit
open Go.Op (bytesLess)

abbrev FileS := ByteArray × Nat × Nat

structure MetaS where
  id : ByteArray
  mn : Nat
  mx : Nat
  level : Nat
  series : Nat
  samples : Nat
  files : List FileS
  sources : List ByteArray

def fileL (f : FileS) : List UInt8 := textL f.1.data.toList ++ (lebL f.2.1 ++ lebL f.2.2)

def textB (s : ByteArray) : List UInt8 := textL s.data.toList

def metaL (m : MetaS) : List UInt8 :=
  textB m.id ++ (lebL m.mn ++ (lebL m.mx ++ (lebL m.level ++ (lebL m.series ++ (lebL m.samples ++ (m.files.flatMap fileL ++ (lebL m.sources.length ++ m.sources.flatMap textB)))))))

/-- It may be said. -/
structure MetaOk (m : MetaS) : Prop where
  id : isIDB m.id.data.toList = true
  time : m.mn < m.mx ∧ m.mx ≤ 1099511627776
  level : 1 ≤ m.level ∧ m.level ≤ 9
  samples : m.series ≤ m.samples ∧ m.samples ≤ 1073741824
  files : ∃ s1 c1 s2 c2, m.files = [(chunksB, s1, c1), (indexB, s2, c2)] ∧ s1 ≤ 1048576 ∧ s2 ≤ 1048576 ∧ c1 < 4294967296 ∧ c2 < 4294967296
  few : m.sources.length ≤ 50
  src : ∀ s ∈ m.sources, isIDB s.data.toList = true ∧ s ≠ m.id
  rise : m.sources.Pairwise fun a b => bytesLess a.data.toList b.data.toList = true

theorem id16 {id : ByteArray} (h : isIDB id.data.toList = true) : id.size = 16 := by
  have := (isID_signs h).1
  rwa [dsize] at this

theorem tkT_text {s : List UInt8} {l : List UInt8} {most : Int} (hm : (s.length : Int) ≤ most) (hmost : most ≤ 9223372036854775807) : tkT (textL s ++ l, 0) most = (s, (l, 0)) := by
  unfold tkT
  rw [if_neg (by simp), takeT_text s l hm hmost]

theorem tkN_leb {n : Nat} {l : List UInt8} {most : Int} (hm : (n : Int) ≤ most) (hmost : most ≤ 9223372036854775807) : tkN (lebL n ++ l, 0) most = ((n : Int), (l, 0)) := by
  unfold tkN
  rw [if_neg (by simp), takeM_leb l hm hmost]

theorem textB_len {s : ByteArray} (h : s.size < 1000000) : (textB s).length ≤ s.size + 10 := by
  unfold textB textL
  rw [List.length_append, dsize]
  have := lebL_len10 (v := s.size) (by omega)
  omega

theorem fileL_len {f : FileS} (h : f.1.size < 1000000) (h1 : f.2.1 < 18446744073709551616) (h2 : f.2.2 < 18446744073709551616) : (fileL f).length ≤ f.1.size + 30 := by
  unfold fileL
  rw [List.length_append, List.length_append]
  have := textB_len h
  have := lebL_len10 h1
  have := lebL_len10 h2
  unfold textB at *
  omega

theorem flat_len_le {α : Type} (F : α → List UInt8) (c : Nat) : ∀ (L : List α), (∀ x ∈ L, (F x).length ≤ c) → (L.flatMap F).length ≤ c * L.length
  | [], _ => by simp
  | x :: L, h => by
    have h1 := h x (by simp)
    have h2 := flat_len_le F c L fun y hy => h y (by simp [hy])
    simp only [List.flatMap_cons, List.length_append, List.length_cons, Nat.mul_add]
    omega

/-- The bytes of a meta are few. -/
theorem MetaOk.len {m : MetaS} (h : MetaOk m) : (metaL m).length ≤ 2000 := by
  obtain ⟨s1, c1, s2, c2, hf, h1, h2, h3, h4⟩ := h.files
  have a1 := textB_len (s := m.id) (by rw [id16 h.id]; omega)
  rw [id16 h.id] at a1
  have a2 := lebL_len10 (v := m.mn) (by have := h.time; omega)
  have a3 := lebL_len10 (v := m.mx) (by have := h.time; omega)
  have a4 := lebL_len10 (v := m.level) (by have := h.level; omega)
  have a5 := lebL_len10 (v := m.series) (by have := h.samples; omega)
  have a6 := lebL_len10 (v := m.samples) (by have := h.samples; omega)
  have a7 := lebL_len10 (v := m.sources.length) (by have := h.few; omega)
  have a8 := flat_len_le textB 26 m.sources fun s hs => by
    have := textB_len (s := s) (by rw [id16 (h.src s hs).1]; omega)
    rw [id16 (h.src s hs).1] at this
    omega
  have a9 := fileL_len (f := (chunksB, s1, c1)) (by show chunksB.size < 1000000; decide) (by simp only; omega) (by simp only; omega)
  have a10 := fileL_len (f := (indexB, s2, c2)) (by show indexB.size < 1000000; decide) (by simp only; omega) (by simp only; omega)
  have z1 : chunksB.size = 6 := rfl
  have z2 : indexB.size = 5 := rfl
  have hfew := h.few
  unfold metaL
  rw [hf]
  simp only [List.length_append, List.flatMap_cons, List.flatMap_nil, List.length_nil]
  simp only [z1, z2] at a9 a10
  omega
end Go.Proofs.YtaebpbkiaihhdaaGreatDoor

namespace Go.Proofs.YtaebpbkiaihhdaaGreatDoor
open Go Go.RowKit
open Go.Op (bytesLess)

def encS1m (s : ByteArray) : List Value := [.string s]

def encFile (f : FileS) : List Value := [.string f.1, .int .i64 f.2.1, .int .u32 f.2.2]

/-- A meta's eight cells; its lists lie in blocks from B on. -/
def MetaV (B : Nat) (w : World) (vs : List Value) (m : MetaS) : Prop :=
  ∃ vf vo, vs = [.string m.id, .int .i64 m.mn, .int .i64 m.mx, .int .i64 m.level, .int .i64 m.series, .int .i64 m.samples, vf, vo] ∧ SliceFrom B 3 encFile w vf m.files ∧ SliceFrom B 1 encS1m w vo m.sources

theorem SliceFrom.atI {α : Type} {B size : Nat} {enc : α → List Value} {w : World} {a : Option Addr} {n c : Nat} {L : List α} (h : SliceFrom B size enc w (.slice a n c) L) (i : Nat) (hi : i < L.length) :
    ∃ b off, a = some ⟨b, off, none⟩ ∧ B ≤ b ∧ b < w.heap.size ∧ ∀ j, j < size → w.cell? ⟨b, off + (i * size + j), none⟩ = (enc L[i])[j]? := by
  obtain ⟨_, _, e, _, _, _, h⟩ := h
  injection e with e _ _
  subst e
  exact h i hi

theorem MetaV.keep {B : Nat} {w w' : World} {vs : List Value} {m : MetaS} {S : List Nat} (h : MetaV B w vs m) (k : Keeps S w w') (hS : ∀ x ∈ S, x < B) : MetaV B w' vs m := by
  obtain ⟨vf, vo, e, h1, h2⟩ := h
  exact ⟨vf, vo, e, h1.keep k hS, h2.keep k hS⟩

theorem MetaV.same {B : Nat} {w w' : World} {vs : List Value} {m : MetaS} (h : MetaV B w vs m) (k : Keeps [] w w') : MetaV B w' vs m := h.keep k (by simp)

theorem MetaV.low {B B' : Nat} {w : World} {vs : List Value} {m : MetaS} (h : MetaV B w vs m) (hB : B' ≤ B) : MetaV B' w vs m := by
  obtain ⟨vf, vo, e, h1, h2⟩ := h
  exact ⟨vf, vo, e, h1.low hB, h2.low hB⟩


/-- The same, its lists in blocks of the walk's own. -/
def MetaR (base : Nat) (w : World) (vs : List Value) (m : MetaS) : Prop :=
  ∃ vf vo, vs = [.string m.id, .int .i64 m.mn, .int .i64 m.mx, .int .i64 m.level, .int .i64 m.series, .int .i64 m.samples, vf, vo] ∧ w.ownsRow base 127 3 vf m.files.length (m.files.flatMap encFile) ∧ w.ownsRow base 9 1 vo m.sources.length (m.sources.flatMap encS1m)

theorem MetaR.metaV {base : Nat} {w : World} {vs : List Value} {m : MetaS} (h : MetaR base w vs m) : MetaV base w vs m := by
  obtain ⟨vf, vo, e, h1, h2⟩ := h
  exact ⟨vf, vo, e, sliceFrom_row (fun _ => rfl) h1, sliceFrom_row (fun _ => rfl) h2⟩

theorem MetaR.keep {base : Nat} {w w' : World} {vs : List Value} {m : MetaS} {S : List Nat} (h : MetaR base w vs m) (k : Keeps S w w') (hS : ∀ x ∈ S, x < base) : MetaR base w' vs m := by
  obtain ⟨vf, vo, e, h1, h2⟩ := h
  exact ⟨vf, vo, e, k.row h1 (fun g hg hm => by have := hS g hm; have := (World.ownsRow.lt h1 g hg).1; omega), k.row h2 (fun g hg hm => by have := hS g hm; have := (World.ownsRow.lt h2 g hg).1; omega)⟩

theorem MetaR.same {base : Nat} {w w' : World} {vs : List Value} {m : MetaS} (h : MetaR base w vs m) (k : Keeps [] w w') : MetaR base w' vs m := h.keep k (by simp)

theorem MetaR.low {base base' : Nat} {w : World} {vs : List Value} {m : MetaS} (h : MetaR base w vs m) (hB : base' ≤ base) : MetaR base' w vs m := by
  obtain ⟨vf, vo, e, h1, h2⟩ := h
  exact ⟨vf, vo, e, row_base h1 hB, row_base h2 hB⟩

set_option maxRecDepth 100000 in
set_option maxHeartbeats 1000000 in
theorem of_spec (w : World) (name data : ByteArray) (hd : data.size ≤ 1000000) :
    Calls Tryz.prog 72 #[.string name, .string data] w fun e w' => e = .returned (.agg #[.string name, .int .i64 data.size, .int .u32 (moreN 0 data.data.toList)]) ∧ Keeps [] w w' := by
  have Hs := Lib.hid (fun w => sum_spec w data (by unfold maxLen; omega))
  go_enter Tryz.func72, Tryz.ntmps72
  go_wp2_with fail
  refine (Hs.out _).mono ?_
  rintro e w1 ⟨rfl, rfl⟩
  have Hk := Lib.hid (show Keeps [] w (w.alloc (.cells #[.string ⟨#[]⟩, .int .i64 0, .int .u32 0] 127)) from (Keeps.refl [] w).alloc _)
  go_wp2_with fail
  exact bodyPost_ret (v := .agg #[.string name, .int .i64 data.size, .int .u32 (moreN 0 data.data.toList)]) (by simp [results, Tryz.results72, go_sem]) rfl ⟨rfl, (Keeps.refl [] w).alloc _⟩


def ChkRel1 (w : World) (gk : Nat) (u : Value) (wr : World) : Prop := ∃ k, k ≤ 2 ∧ gk = 2 - k ∧ u = .int .i64 k ∧ Keeps [] w wr

def ChkRel2 (w : World) (n gk : Nat) (u : Value) (wr : World) : Prop := ∃ k, k ≤ n ∧ gk = n - k ∧ u = .int .i64 k ∧ Keeps [] w wr

set_option linter.unusedSimpArgs false in
set_option maxRecDepth 100000 in
set_option maxHeartbeats 1000000 in
theorem metaCheck_spec (B : Nat) (w : World) (vs : List Value) (m : MetaS) (h : MetaV B w vs m) (ok : MetaOk m) :
    Calls Tryz.prog 73 #[.agg vs.toArray] w fun e w' => e = .returned (.int .i64 0) ∧ Keeps [] w w' := by
  obtain ⟨vf, vo, rfl, hf, ho⟩ := h
  obtain ⟨s1, c1, s2, c2, hfs, b1, b2, b3, b4⟩ := ok.files
  rw [hfs] at hf
  have Hf := Lib.hid hf
  have Ho := Lib.hid ho
  obtain ⟨af, cf, rfl, -, -, -, -⟩ := hf
  obtain ⟨ao, co, rfl, hno, hno2, -, -⟩ := ho
  unfold maxLen at hno
  have Hid := Lib.hid (fun W s => isID_spec W s)
  obtain ⟨t1, t2⟩ := ok.time
  obtain ⟨t3, t4⟩ := ok.level
  obtain ⟨t5, t6⟩ := ok.samples
  have t7 := ok.few
  have Hok := Lib.hid ok
  have g1 : (m.mn : Int) ≥ 0 := by omega
  have g2 : (m.mn : Int) < (m.mx : Int) := by omega
  have g3 : (m.mx : Int) ≤ 1099511627776 := by omega
  have g4 : (m.level : Int) ≥ 1 := by omega
  have g5 : (m.level : Int) ≤ 9 := by omega
  have g6 : (m.series : Int) ≥ 0 := by omega
  have g7 : (m.samples : Int) ≥ (m.series : Int) := by omega
  have g8 : (m.samples : Int) ≤ 1073741824 := by omega
  have g9 : ¬ (m.sources.length : Int) > 50 := by omega
  have hid : isIDB m.id.data.toList = true := ok.id
  have hll : [(chunksB, s1, c1), (indexB, s2, c2)].length = 2 := rfl
  rw [hll]
  clear ok hfs
  go_enter Tryz.func73, Tryz.ntmps73
  go_wp2_with fail
  refine (Hid.out _ _).mono ?_
  rintro e w1 ⟨rfl, rfl⟩
  rw [hid]
  go_wp2_with fail
  have n0 := heap_new w (.cells #[.string m.id, .int .i64 m.mn, .int .i64 m.mx, .int .i64 m.level, .int .i64 m.series, .int .i64 m.samples, .slice af 2 cf, .slice ao m.sources.length co] 26)
  have k0 : Keeps [] w (w.alloc (.cells #[.string m.id, .int .i64 m.mn, .int .i64 m.mx, .int .i64 m.level, .int .i64 m.series, .int .i64 m.samples, .slice af 2 cf, .slice ao m.sources.length co] 26)) := (Keeps.refl [] w).alloc _
  generalize w.alloc (.cells #[.string m.id, .int .i64 m.mn, .int .i64 m.mx, .int .i64 m.level, .int .i64 m.series, .int .i64 m.samples, .slice af 2 cf, .slice ao m.sources.length co] 26) = W0 at n0 k0 ⊢
  generalize w.heap.size = mb at n0 ⊢
  have Hf := Lib.hid (Hf.out.keep k0 (by simp))
  have Ho := Lib.hid (Ho.out.keep k0 (by simp))
  have H0 := Lib.hid (And.intro n0 k0)
  clear n0 k0
  go_loopg [72] 2 (ChkRel1 W0)
  case atStart => exact ⟨0, by decide, rfl, rfl, Keeps.refl _ _⟩
  case round =>
    obtain ⟨k, hk, hgk, rfl, hkr⟩ := hrel
    have Hg := Lib.hid hgk
    clear hgk
    rcases (by omega : k = 0 ∨ k = 1 ∨ k = 2) with rfl | rfl | rfl
    · obtain ⟨b6, of6, ea, -, hb6, hc6⟩ := (Hf.out.keep hkr (by simp)).atI 0 (by simp)
      subst ea
      have d0 : wr.cell? ⟨b6, of6, none⟩ = some (.string chunksB) := hc6 0 (by decide)
      have d1 : wr.cell? ⟨b6, of6 + 1, none⟩ = some (.int .i64 (s1 : Nat)) := hc6 1 (by decide)
      have d2 : wr.cell? ⟨b6, of6 + 2, none⟩ = some (.int .u32 (c1 : Nat)) := hc6 2 (by decide)
      clear hc6
      have kr2 : Keeps [] wr (wr.alloc (.cells #[.string chunksB, .int .i64 (s1 : Nat), .int .u32 (c1 : Nat)] 127)) := (Keeps.refl [] wr).alloc _
      have nr2 := heap_new wr (.cells #[.string chunksB, .int .i64 (s1 : Nat), .int .u32 (c1 : Nat)] 127)
      have Hk := Lib.hid (hkr.trans kr2)
      clear kr2 hkr
      go_upto_region 7 with fail
      clear d0 d1 d2
      generalize wr.alloc (.cells #[.string chunksB, .int .i64 (s1 : Nat), .int .u32 (c1 : Nat)] 127) = W2 at nr2 Hk ⊢
      generalize wr.heap.size = bx at nr2 ⊢
      have cx := cells_at nr2
      have lx := lt_of_at nr2
      have e0 : W2.cell? ⟨bx, 0, none⟩ = some (.string chunksB) := by rw [cx]; rfl
      have e1 : W2.cell? ⟨bx, 1, none⟩ = some (.int .i64 (s1 : Nat)) := by rw [cx]; rfl
      have hse : (chunksB.toList == [99, 104, 117, 110, 107, 115]) = true := by rw [ByteArray.toList_eq]; decide
      have hs0 : ¬ ((s1 : Nat) : Int) < 0 := by omega
      have hs1 : ¬ ((s1 : Nat) : Int) > 1048576 := by omega
      refine wp_region_held_drew (S := fun w' => w'.cell? ⟨bx, 0, none⟩ = some (.string chunksB) ∧ w'.cell? ⟨bx, 1, none⟩ = some (.int .i64 (s1 : Nat))) (by kernel_rfl) ⟨e0, e1⟩ (fun hS => ?_)
      refine wpAnyH_take (i := 0) (v := ?_) rfl (by kernel_rfl) (by kernel_rfl) (by kernel_rfl) (fun _ _ _ h => h) (Or.inl ⟨by rfl, ?_⟩) (by assumption) ?_
      rotate_left
      · intro w' hSw; obtain ⟨s1, s2⟩ := hSw; go_simp; (try with_reducible rfl)
      simp only [Act.put, List.getElem_toArray, List.getElem_cons_succ, List.getElem_cons_zero, List.setIfInBounds_toArray, List.set_cons_zero, List.set_cons_succ]
      refine wpAnyH_take (i := 1) (v := ?_) rfl (by kernel_rfl) (by kernel_rfl) (by kernel_rfl) (fun _ _ _ h => h) (Or.inl ⟨by rfl, ?_⟩) (by assumption) ?_
      rotate_left
      · intro w' hSw; obtain ⟨s1, s2⟩ := hSw; go_simp; (try with_reducible rfl)
      simp only [Act.put, List.getElem_toArray, List.getElem_cons_succ, List.getElem_cons_zero, List.setIfInBounds_toArray, List.set_cons_zero, List.set_cons_succ]
      refine wpAnyH_take (i := 3) (v := ?_) rfl (by kernel_rfl) (by kernel_rfl) (by kernel_rfl) (fun _ _ _ h => h) (Or.inl ⟨by rfl, ?_⟩) (by assumption) ?_
      rotate_left
      · intro w' hSw; obtain ⟨s1, s2⟩ := hSw; go_simp; (try with_reducible rfl)
      simp only [Act.put, List.getElem_toArray, List.getElem_cons_succ, List.getElem_cons_zero, List.setIfInBounds_toArray, List.set_cons_zero, List.set_cons_succ]
      refine wpAnyH_ready (rs := [2]) (by kernel_rfl) (by simp) ?_
      refine AllReadyH.cons rfl (fun K hK => ?_) AllReadyH.nil
      go_simp
      refine hK.out _ _ ⟨by go_keep, by go_keep⟩ (fun hS => ?_)
      clear hK K
      try simp only [Act.put, List.getElem_toArray, List.getElem_cons_succ, List.getElem_cons_zero, List.setIfInBounds_toArray, List.set_cons_zero, List.set_cons_succ]
      refine wpAnyH_take (i := 4) (v := ?_) rfl (by kernel_rfl) (by kernel_rfl) (by kernel_rfl) (fun _ _ _ h => h) (Or.inl ⟨by rfl, ?_⟩) (by assumption) ?_
      rotate_left
      · intro w' hSw; obtain ⟨s1, s2⟩ := hSw; go_simp; (try with_reducible rfl)
      simp only [Act.put, List.getElem_toArray, List.getElem_cons_succ, List.getElem_cons_zero, List.setIfInBounds_toArray, List.set_cons_zero, List.set_cons_succ]
      refine wpAnyH_ready (rs := [5]) (by kernel_rfl) (by simp) ?_
      refine AllReadyH.cons rfl (fun K hK => ?_) AllReadyH.nil
      go_simp
      refine hK.out _ _ ⟨by go_keep, by go_keep⟩ (fun hS => ?_)
      clear hK K
      try simp only [Act.put, List.getElem_toArray, List.getElem_cons_succ, List.getElem_cons_zero, List.setIfInBounds_toArray, List.set_cons_zero, List.set_cons_succ]
      refine wpAnyH_take (i := 6) (v := ?_) rfl (by kernel_rfl) (by kernel_rfl) (by kernel_rfl) (fun _ _ _ h => h) (Or.inl ⟨by rfl, ?_⟩) (by assumption) ?_
      rotate_left
      · intro w' hSw; obtain ⟨s1, s2⟩ := hSw; go_simp; (try with_reducible rfl)
      simp only [Act.put, List.getElem_toArray, List.getElem_cons_succ, List.getElem_cons_zero, List.setIfInBounds_toArray, List.set_cons_zero, List.set_cons_succ]
      refine wpAnyH_take (i := 7) (v := ?_) rfl (by kernel_rfl) (by kernel_rfl) (by kernel_rfl) (fun _ _ _ h => h) (Or.inl ⟨by rfl, ?_⟩) (by assumption) ?_
      rotate_left
      · intro w' hSw; obtain ⟨s1, s2⟩ := hSw; go_simp; (try with_reducible rfl)
      simp only [Act.put, List.getElem_toArray, List.getElem_cons_succ, List.getElem_cons_zero, List.setIfInBounds_toArray, List.set_cons_zero, List.set_cons_succ]
      refine wpAnyH_take (i := 8) (v := ?_) rfl (by kernel_rfl) (by kernel_rfl) (by kernel_rfl) (fun _ _ _ h => h) (Or.inl ⟨by rfl, ?_⟩) (by assumption) ?_
      rotate_left
      · intro w' hSw; obtain ⟨s1, s2⟩ := hSw; go_simp; (try with_reducible rfl)
      simp only [Act.put, List.getElem_toArray, List.getElem_cons_succ, List.getElem_cons_zero, List.setIfInBounds_toArray, List.set_cons_zero, List.set_cons_succ]
      refine wpAnyH_take (i := 9) (v := ?_) rfl (by kernel_rfl) (by kernel_rfl) (by kernel_rfl) (fun _ _ _ h => h) (Or.inl ⟨by rfl, ?_⟩) (by assumption) ?_
      rotate_left
      · intro w' hSw; obtain ⟨s1, s2⟩ := hSw; go_simp; (try with_reducible rfl)
      simp only [Act.put, List.getElem_toArray, List.getElem_cons_succ, List.getElem_cons_zero, List.setIfInBounds_toArray, List.set_cons_zero, List.set_cons_succ]
      refine wpAnyH_take (i := 10) (v := ?_) rfl (by kernel_rfl) (by kernel_rfl) (by kernel_rfl) (fun _ _ _ h => h) (Or.inl ⟨by rfl, ?_⟩) (by assumption) ?_
      rotate_left
      · intro w' hSw; obtain ⟨s1, s2⟩ := hSw; go_simp; (try with_reducible rfl)
      simp only [Act.put, List.getElem_toArray, List.getElem_cons_succ, List.getElem_cons_zero, List.setIfInBounds_toArray, List.set_cons_zero, List.set_cons_succ]
      refine wpAnyH_take (i := 11) (v := ?_) rfl (by kernel_rfl) (by kernel_rfl) (by kernel_rfl) (fun _ _ _ h => h) (Or.inl ⟨by rfl, ?_⟩) (by assumption) ?_
      rotate_left
      · intro w' hSw; obtain ⟨s1, s2⟩ := hSw; go_simp; (try with_reducible rfl)
      simp only [Act.put, List.getElem_toArray, List.getElem_cons_succ, List.getElem_cons_zero, List.setIfInBounds_toArray, List.set_cons_zero, List.set_cons_succ]
      refine wpAnyH_take (i := 12) (v := ?_) rfl (by kernel_rfl) (by kernel_rfl) (by kernel_rfl) (fun _ _ _ h => h) (Or.inl ⟨by rfl, ?_⟩) (by assumption) ?_
      rotate_left
      · intro w' hSw; obtain ⟨s1, s2⟩ := hSw; go_simp; (try with_reducible rfl)
      simp only [Act.put, List.getElem_toArray, List.getElem_cons_succ, List.getElem_cons_zero, List.setIfInBounds_toArray, List.set_cons_zero, List.set_cons_succ]
      refine wpAnyH_take (i := 13) (v := ?_) rfl (by kernel_rfl) (by kernel_rfl) (by kernel_rfl) (fun _ _ _ h => h) (Or.inl ⟨by rfl, ?_⟩) (by assumption) ?_
      rotate_left
      · intro w' hSw; obtain ⟨s1, s2⟩ := hSw; go_simp; (try with_reducible rfl)
      simp only [Act.put, List.getElem_toArray, List.getElem_cons_succ, List.getElem_cons_zero, List.setIfInBounds_toArray, List.set_cons_zero, List.set_cons_succ]
      refine wpAnyH_take (i := 14) (v := ?_) rfl (by kernel_rfl) (by kernel_rfl) (by kernel_rfl) (fun _ _ _ h => h) (Or.inl ⟨by rfl, ?_⟩) (by assumption) ?_
      rotate_left
      · intro w' hSw; obtain ⟨s1, s2⟩ := hSw; go_simp; (try with_reducible rfl)
      simp only [Act.put, List.getElem_toArray, List.getElem_cons_succ, List.getElem_cons_zero, List.setIfInBounds_toArray, List.set_cons_zero, List.set_cons_succ]
      refine wpAnyH_take (i := 15) (v := ?_) rfl (by kernel_rfl) (by kernel_rfl) (by kernel_rfl) (fun _ _ _ h => h) (Or.inl ⟨by rfl, ?_⟩) (by assumption) ?_
      rotate_left
      · intro w' hSw; obtain ⟨s1, s2⟩ := hSw; go_simp; (try with_reducible rfl)
      simp only [Act.put, List.getElem_toArray, List.getElem_cons_succ, List.getElem_cons_zero, List.setIfInBounds_toArray, List.set_cons_zero, List.set_cons_succ]
      refine wpAnyH_take (i := 16) (v := ?_) rfl (by kernel_rfl) (by kernel_rfl) (by kernel_rfl) (fun _ _ _ h => h) (Or.inl ⟨by rfl, ?_⟩) (by assumption) ?_
      rotate_left
      · intro w' hSw; obtain ⟨s1, s2⟩ := hSw; go_simp; (try with_reducible rfl)
      simp only [Act.put, List.getElem_toArray, List.getElem_cons_succ, List.getElem_cons_zero, List.setIfInBounds_toArray, List.set_cons_zero, List.set_cons_succ]
      refine wpAnyH_done (by kernel_rfl) ?_ _
      clear hS
      go_wp2_with fail
      go_roundg (2 - 1)
      case measure => have := Hg.out; omega
      case rel => exact ⟨1, by decide, rfl, rfl, Hk.out.trans (by repeat (first | exact Keeps.refl _ _ | assumption | refine Keeps.drew ?_ | refine Keeps.drewN ?_ _ | refine Keeps.alloc ?_ _ | refine Keeps.setCell ?_ (by first | exact .inl (by simp) | exact .inr (by simp; done) | exact .inr (by simp; omega)) _))⟩
    · obtain ⟨b6, of6, ea, -, hb6, hc6⟩ := (Hf.out.keep hkr (by simp)).atI 1 (by simp)
      subst ea
      have d0 : wr.cell? ⟨b6, of6 + 3, none⟩ = some (.string indexB) := hc6 0 (by decide)
      have d1 : wr.cell? ⟨b6, of6 + 3 + 1, none⟩ = some (.int .i64 (s2 : Nat)) := hc6 1 (by decide)
      have d2 : wr.cell? ⟨b6, of6 + 3 + 2, none⟩ = some (.int .u32 (c2 : Nat)) := hc6 2 (by decide)
      clear hc6
      have kr2 : Keeps [] wr (wr.alloc (.cells #[.string indexB, .int .i64 (s2 : Nat), .int .u32 (c2 : Nat)] 127)) := (Keeps.refl [] wr).alloc _
      have nr2 := heap_new wr (.cells #[.string indexB, .int .i64 (s2 : Nat), .int .u32 (c2 : Nat)] 127)
      have Hk := Lib.hid (hkr.trans kr2)
      clear kr2 hkr
      go_upto_region 7 with fail
      clear d0 d1 d2
      generalize wr.alloc (.cells #[.string indexB, .int .i64 (s2 : Nat), .int .u32 (c2 : Nat)] 127) = W2 at nr2 Hk ⊢
      generalize wr.heap.size = bx at nr2 ⊢
      have cx := cells_at nr2
      have lx := lt_of_at nr2
      have e0 : W2.cell? ⟨bx, 0, none⟩ = some (.string indexB) := by rw [cx]; rfl
      have e1 : W2.cell? ⟨bx, 1, none⟩ = some (.int .i64 (s2 : Nat)) := by rw [cx]; rfl
      have hse : (indexB.toList == [105, 110, 100, 101, 120]) = true := by rw [ByteArray.toList_eq]; decide
      have hs0 : ¬ ((s2 : Nat) : Int) < 0 := by omega
      have hs1 : ¬ ((s2 : Nat) : Int) > 1048576 := by omega
      refine wp_region_held_drew (S := fun w' => w'.cell? ⟨bx, 0, none⟩ = some (.string indexB) ∧ w'.cell? ⟨bx, 1, none⟩ = some (.int .i64 (s2 : Nat))) (by kernel_rfl) ⟨e0, e1⟩ (fun hS => ?_)
      refine wpAnyH_take (i := 0) (v := ?_) rfl (by kernel_rfl) (by kernel_rfl) (by kernel_rfl) (fun _ _ _ h => h) (Or.inl ⟨by rfl, ?_⟩) (by assumption) ?_
      rotate_left
      · intro w' hSw; obtain ⟨s1, s2⟩ := hSw; go_simp; (try with_reducible rfl)
      simp only [Act.put, List.getElem_toArray, List.getElem_cons_succ, List.getElem_cons_zero, List.setIfInBounds_toArray, List.set_cons_zero, List.set_cons_succ]
      refine wpAnyH_take (i := 1) (v := ?_) rfl (by kernel_rfl) (by kernel_rfl) (by kernel_rfl) (fun _ _ _ h => h) (Or.inl ⟨by rfl, ?_⟩) (by assumption) ?_
      rotate_left
      · intro w' hSw; obtain ⟨s1, s2⟩ := hSw; go_simp; (try with_reducible rfl)
      simp only [Act.put, List.getElem_toArray, List.getElem_cons_succ, List.getElem_cons_zero, List.setIfInBounds_toArray, List.set_cons_zero, List.set_cons_succ]
      refine wpAnyH_take (i := 3) (v := ?_) rfl (by kernel_rfl) (by kernel_rfl) (by kernel_rfl) (fun _ _ _ h => h) (Or.inl ⟨by rfl, ?_⟩) (by assumption) ?_
      rotate_left
      · intro w' hSw; obtain ⟨s1, s2⟩ := hSw; go_simp; (try with_reducible rfl)
      simp only [Act.put, List.getElem_toArray, List.getElem_cons_succ, List.getElem_cons_zero, List.setIfInBounds_toArray, List.set_cons_zero, List.set_cons_succ]
      refine wpAnyH_ready (rs := [2]) (by kernel_rfl) (by simp) ?_
      refine AllReadyH.cons rfl (fun K hK => ?_) AllReadyH.nil
      go_simp
      refine hK.out _ _ ⟨by go_keep, by go_keep⟩ (fun hS => ?_)
      clear hK K
      try simp only [Act.put, List.getElem_toArray, List.getElem_cons_succ, List.getElem_cons_zero, List.setIfInBounds_toArray, List.set_cons_zero, List.set_cons_succ]
      refine wpAnyH_take (i := 4) (v := ?_) rfl (by kernel_rfl) (by kernel_rfl) (by kernel_rfl) (fun _ _ _ h => h) (Or.inl ⟨by rfl, ?_⟩) (by assumption) ?_
      rotate_left
      · intro w' hSw; obtain ⟨s1, s2⟩ := hSw; go_simp; (try with_reducible rfl)
      simp only [Act.put, List.getElem_toArray, List.getElem_cons_succ, List.getElem_cons_zero, List.setIfInBounds_toArray, List.set_cons_zero, List.set_cons_succ]
      refine wpAnyH_ready (rs := [5]) (by kernel_rfl) (by simp) ?_
      refine AllReadyH.cons rfl (fun K hK => ?_) AllReadyH.nil
      go_simp
      refine hK.out _ _ ⟨by go_keep, by go_keep⟩ (fun hS => ?_)
      clear hK K
      try simp only [Act.put, List.getElem_toArray, List.getElem_cons_succ, List.getElem_cons_zero, List.setIfInBounds_toArray, List.set_cons_zero, List.set_cons_succ]
      refine wpAnyH_take (i := 6) (v := ?_) rfl (by kernel_rfl) (by kernel_rfl) (by kernel_rfl) (fun _ _ _ h => h) (Or.inl ⟨by rfl, ?_⟩) (by assumption) ?_
      rotate_left
      · intro w' hSw; obtain ⟨s1, s2⟩ := hSw; go_simp; (try with_reducible rfl)
      simp only [Act.put, List.getElem_toArray, List.getElem_cons_succ, List.getElem_cons_zero, List.setIfInBounds_toArray, List.set_cons_zero, List.set_cons_succ]
      refine wpAnyH_take (i := 7) (v := ?_) rfl (by kernel_rfl) (by kernel_rfl) (by kernel_rfl) (fun _ _ _ h => h) (Or.inl ⟨by rfl, ?_⟩) (by assumption) ?_
      rotate_left
      · intro w' hSw; obtain ⟨s1, s2⟩ := hSw; go_simp; (try with_reducible rfl)
      simp only [Act.put, List.getElem_toArray, List.getElem_cons_succ, List.getElem_cons_zero, List.setIfInBounds_toArray, List.set_cons_zero, List.set_cons_succ]
      refine wpAnyH_take (i := 8) (v := ?_) rfl (by kernel_rfl) (by kernel_rfl) (by kernel_rfl) (fun _ _ _ h => h) (Or.inl ⟨by rfl, ?_⟩) (by assumption) ?_
      rotate_left
      · intro w' hSw; obtain ⟨s1, s2⟩ := hSw; go_simp; (try with_reducible rfl)
      simp only [Act.put, List.getElem_toArray, List.getElem_cons_succ, List.getElem_cons_zero, List.setIfInBounds_toArray, List.set_cons_zero, List.set_cons_succ]
      refine wpAnyH_take (i := 9) (v := ?_) rfl (by kernel_rfl) (by kernel_rfl) (by kernel_rfl) (fun _ _ _ h => h) (Or.inl ⟨by rfl, ?_⟩) (by assumption) ?_
      rotate_left
      · intro w' hSw; obtain ⟨s1, s2⟩ := hSw; go_simp; (try with_reducible rfl)
      simp only [Act.put, List.getElem_toArray, List.getElem_cons_succ, List.getElem_cons_zero, List.setIfInBounds_toArray, List.set_cons_zero, List.set_cons_succ]
      refine wpAnyH_take (i := 10) (v := ?_) rfl (by kernel_rfl) (by kernel_rfl) (by kernel_rfl) (fun _ _ _ h => h) (Or.inl ⟨by rfl, ?_⟩) (by assumption) ?_
      rotate_left
      · intro w' hSw; obtain ⟨s1, s2⟩ := hSw; go_simp; (try with_reducible rfl)
      simp only [Act.put, List.getElem_toArray, List.getElem_cons_succ, List.getElem_cons_zero, List.setIfInBounds_toArray, List.set_cons_zero, List.set_cons_succ]
      refine wpAnyH_take (i := 11) (v := ?_) rfl (by kernel_rfl) (by kernel_rfl) (by kernel_rfl) (fun _ _ _ h => h) (Or.inl ⟨by rfl, ?_⟩) (by assumption) ?_
      rotate_left
      · intro w' hSw; obtain ⟨s1, s2⟩ := hSw; go_simp; (try with_reducible rfl)
      simp only [Act.put, List.getElem_toArray, List.getElem_cons_succ, List.getElem_cons_zero, List.setIfInBounds_toArray, List.set_cons_zero, List.set_cons_succ]
      refine wpAnyH_take (i := 12) (v := ?_) rfl (by kernel_rfl) (by kernel_rfl) (by kernel_rfl) (fun _ _ _ h => h) (Or.inl ⟨by rfl, ?_⟩) (by assumption) ?_
      rotate_left
      · intro w' hSw; obtain ⟨s1, s2⟩ := hSw; go_simp; (try with_reducible rfl)
      simp only [Act.put, List.getElem_toArray, List.getElem_cons_succ, List.getElem_cons_zero, List.setIfInBounds_toArray, List.set_cons_zero, List.set_cons_succ]
      refine wpAnyH_take (i := 13) (v := ?_) rfl (by kernel_rfl) (by kernel_rfl) (by kernel_rfl) (fun _ _ _ h => h) (Or.inl ⟨by rfl, ?_⟩) (by assumption) ?_
      rotate_left
      · intro w' hSw; obtain ⟨s1, s2⟩ := hSw; go_simp; (try with_reducible rfl)
      simp only [Act.put, List.getElem_toArray, List.getElem_cons_succ, List.getElem_cons_zero, List.setIfInBounds_toArray, List.set_cons_zero, List.set_cons_succ]
      refine wpAnyH_take (i := 14) (v := ?_) rfl (by kernel_rfl) (by kernel_rfl) (by kernel_rfl) (fun _ _ _ h => h) (Or.inl ⟨by rfl, ?_⟩) (by assumption) ?_
      rotate_left
      · intro w' hSw; obtain ⟨s1, s2⟩ := hSw; go_simp; (try with_reducible rfl)
      simp only [Act.put, List.getElem_toArray, List.getElem_cons_succ, List.getElem_cons_zero, List.setIfInBounds_toArray, List.set_cons_zero, List.set_cons_succ]
      refine wpAnyH_take (i := 15) (v := ?_) rfl (by kernel_rfl) (by kernel_rfl) (by kernel_rfl) (fun _ _ _ h => h) (Or.inl ⟨by rfl, ?_⟩) (by assumption) ?_
      rotate_left
      · intro w' hSw; obtain ⟨s1, s2⟩ := hSw; go_simp; (try with_reducible rfl)
      simp only [Act.put, List.getElem_toArray, List.getElem_cons_succ, List.getElem_cons_zero, List.setIfInBounds_toArray, List.set_cons_zero, List.set_cons_succ]
      refine wpAnyH_take (i := 16) (v := ?_) rfl (by kernel_rfl) (by kernel_rfl) (by kernel_rfl) (fun _ _ _ h => h) (Or.inl ⟨by rfl, ?_⟩) (by assumption) ?_
      rotate_left
      · intro w' hSw; obtain ⟨s1, s2⟩ := hSw; go_simp; (try with_reducible rfl)
      simp only [Act.put, List.getElem_toArray, List.getElem_cons_succ, List.getElem_cons_zero, List.setIfInBounds_toArray, List.set_cons_zero, List.set_cons_succ]
      refine wpAnyH_done (by kernel_rfl) ?_ _
      clear hS
      go_wp2_with fail
      go_roundg (2 - 2)
      case measure => have := Hg.out; omega
      case rel => exact ⟨2, by decide, rfl, rfl, Hk.out.trans (by repeat (first | exact Keeps.refl _ _ | assumption | refine Keeps.drew ?_ | refine Keeps.drewN ?_ _ | refine Keeps.alloc ?_ _ | refine Keeps.setCell ?_ (by first | exact .inl (by simp) | exact .inr (by simp; done) | exact .inr (by simp; omega)) _))⟩
    · have He := Lib.hid hkr
      have nb := hkr.at_ H0.out.1 (by simp)
      have cb := cells_at nb
      have lb := lt_of_at nb
      clear hkr nb
      go_wp2_with fail
      clear cb lb
      go_loopg [98] m.sources.length (ChkRel2 W0 m.sources.length)
      case atStart => exact ⟨0, Nat.zero_le _, rfl, rfl, He.out⟩
      case round =>
        obtain ⟨j, hj, hgj, rfl, hkj⟩ := hrel
        have Hgj := Lib.hid hgj
        clear hgj He
        by_cases hlt : j < m.sources.length
        · obtain ⟨b7, of7, ea, -, hb7, hc7⟩ := (Ho.out.keep hkj (by simp)).atI j hlt
          subst ea
          have d7 : wr.cell? ⟨b7, of7 + j, none⟩ = some (.string m.sources[j]) := by simpa [encS1m] using hc7 0 (by decide)
          have hsrc := Hok.out.src m.sources[j] (List.getElem_mem _)
          have hlt' : (j : Int) < (m.sources.length : Int) := by omega
          have hne : (m.sources[j].toList == m.id.toList) = false := by rw [toList_beq]; exact decide_eq_false hsrc.2
          have hisid := hsrc.1
          have Hkj := Lib.hid hkj
          have nb := hkj.at_ H0.out.1 (by simp)
          have cb := cells_at nb
          have lb := lt_of_at nb
          clear nb
          rcases Nat.eq_zero_or_pos j with h0 | h0
          · subst h0
            simp only [Nat.add_zero] at d7
            generalize m.sources[0] = sj at d7 hne hisid
            clear hsrc hc7 hkj
            go_wp2_with fail
            refine (Hid.out _ _).mono ?_
            rintro e w1 ⟨rfl, rfl⟩
            rw [hisid]
            go_wp2_with fail
            go_roundg (m.sources.length - 1)
            case measure => have := Hgj.out; omega
            case rel => exact ⟨1, by omega, rfl, rfl, Hkj.out⟩
          · obtain ⟨b8, of8, ea8, -, hb8, hc8⟩ := (Ho.out.keep hkj (by simp)).atI (j - 1) (by omega)
            injection ea8 with ea8
            injection ea8 with eb8 eo8 _
            subst eb8 eo8
            have d8 : wr.cell? ⟨b7, of7 + (j - 1), none⟩ = some (.string m.sources[j - 1]) := by simpa [encS1m] using hc8 0 (by decide)
            have hris : bytesLess m.sources[j - 1].data.toList m.sources[j].data.toList = true := List.pairwise_iff_getElem.1 Hok.out.rise (j - 1) j (by omega) hlt (by omega)
            rw [← ByteArray.toList_eq, ← ByteArray.toList_eq] at hris
            have hleq := leq_false hris
            have hpos : (j : Int) > 0 := by omega
            have hsub : IntKind.i64.wrap ((j : Int) - 1) = ((j - 1 : Nat) : Int) := by rw [IntWalk.i64_in _ (by omega)]; omega
            have hlt8 : ((j - 1 : Nat) : Int) < (m.sources.length : Int) := by omega
            have hge8 : (0 : Int) ≤ ((j - 1 : Nat) : Int) := by omega
            generalize m.sources[j] = sj at d7 hne hisid hris hleq
            generalize m.sources[j - 1] = sp at d8 hris hleq
            generalize j - 1 = jp at d8 hsub hlt8 hge8
            clear hsrc hc7 hc8 hkj
            go_wp2_with fail
            refine (Hid.out _ _).mono ?_
            rintro e w1 ⟨rfl, rfl⟩
            rw [hisid]
            go_wp2_with fail
            go_roundg (m.sources.length - (j + 1))
            case measure => have := Hgj.out; omega
            case rel => exact ⟨j + 1, by omega, rfl, by go_num, Hkj.out⟩
        · have He := Lib.hid hkj
          have hge : ¬ (j : Int) < (m.sources.length : Int) := by omega
          clear hkj
          go_wp2_with fail
          go_ret
          exact ⟨rfl, H0.out.2.trans He.out⟩
end Go.Proofs.YtaebpbkiaihhdaaGreatDoor
