/-
  Marks of blocks as bytes, and back (meta.EncodeMark, meta.DecodeMark).
  Each contract holds in every world; old memory is left as it was.
-/
import Derived.Test.YtjffdcflkkgpfaaGreatTaker
import Derived.Deep.QuietTactic
namespace Go.Proofs.YtjffdcflkkgpfaaGreat
open Go Go.RowKit

def markL (id : List UInt8) (n : Nat) : List UInt8 := frameL 2 (textL id ++ lebL n)

set_option linter.unusedSimpArgs false in
set_option maxRecDepth 100000 in
set_option maxHeartbeats 1000000 in
theorem encodeMark_spec (w : World) (id : ByteArray) (hid : id.size ≤ 1000000) (a : Int) (n : Nat) (hn : max a 0 = (n : Int)) (hnl : n < 9223372036854775808) :
    Calls Tryz.prog 38 #[.string id, .int .i64 a] w fun e w' => e = .returned (.string ⟨(markL id.data.toList n).toArray⟩) ∧ Keeps [] w w' := by
  have hcv : IntKind.u64.wrap (n : Int) = (n : Int) := IntWalk.u64_in _ (by omega)
  go_enter Tryz.func38, Tryz.ntmps38
  go_wp2_with fail
  refine (text_spec w (.slice none 0 0) [] id (by simp; omega) (buf_nil w)).mono ?_
  rintro e w1 ⟨v1, rfl, hb1, ht1⟩
  rw [List.nil_append] at hb1
  have H1 := Lib.hid (And.intro hb1 ht1)
  have htl : (textL id.data.toList).length ≤ 1000100 := by
    unfold textL
    rw [List.length_append, dsize]
    have := lebL_len10 (v := id.size) (by omega)
    omega
  clear hb1 ht1
  go_wp2_with fail
  refine (uint_spec w1 v1 (textL id.data.toList) n (by omega) (by omega) H1.out.1).mono ?_
  rintro e w2 ⟨v2, rfl, hb2, ht2⟩
  have k2 := ((H1.out.2.trans ht2).fresh (Keeps.refl [] w) (by simp [Value.ownBlock])).1
  have hconv := hb2.run_string
  obtain ⟨ds, hds⟩ : ∃ s : ByteArray, s = ⟨(textL id.data.toList ++ lebL n).toArray⟩ := ⟨_, rfl⟩
  have hdl : ds.data.toList = textL id.data.toList ++ lebL n := by rw [hds]
  have hdz : ds.size ≤ 1001000 := by
    rw [hds]
    show (textL id.data.toList ++ lebL n).length ≤ _
    rw [List.length_append]
    have := lebL_len10 (v := n) (by omega)
    omega
  rw [← hds] at hconv
  have H2 := Lib.hid (And.intro k2 hdl)
  clear hb2 ht2 k2 hds hdl htl
  go_wp2_with fail
  refine (frameAppend_spec w2 (.slice none 0 0) [] 2 ds (by simp; omega) (buf_nil w2)).mono ?_
  rintro e w3 ⟨v3, rfl, hb3, ht3⟩
  rw [List.nil_append, H2.out.2] at hb3
  have k3 := (ht3.fresh (Keeps.refl [] w2) (by simp [Value.ownBlock])).1
  have hconv3 := hb3.run_string
  have H3 := Lib.hid (H2.out.1.trans k3)
  clear hb3 ht3 k3 hconv
  obtain ⟨ms, hms⟩ : ∃ s : ByteArray, s = ⟨(frameL 2 (textL id.data.toList ++ lebL n)).toArray⟩ := ⟨_, rfl⟩
  rw [← hms] at hconv3
  have Hms := Lib.hid hms
  clear hms
  go_wp2_with fail
  go_ret
  exact ⟨by unfold markL; rw [← Hms.out]; rfl, H3.out⟩


/-- The block, and when its mark was made: what DecodeMark answers. -/
def markTk (l : List UInt8) : (List UInt8 × Int) × Tk :=
  let a := tkT ((onlyL l 2).1, (onlyL l 2).2) 16
  let b := tkN a.2 1099511627776
  ((a.1, b.1), b.2)

def unmarkL (l : List UInt8) : List UInt8 × Int × Int :=
  let m := markTk l
  if m.2.2 ≠ 0 then ([], 0, m.2.2) else if m.2.1 ≠ [] ∨ isIDB m.1.1 = false then ([], 0, 3) else (m.1.1, m.1.2, 0)

def unmarkVals (r : List UInt8 × Int × Int) : Value := .tuple #[.string ⟨r.1.toArray⟩, .int .i64 r.2.1, .int .i64 r.2.2]

def UnmarkPost (w : World) (r : List UInt8 × Int × Int) (e : Ending) (w' : World) : Prop := e = .returned (unmarkVals r) ∧ Keeps [] w w'


theorem unmark_err {l : List UInt8} (h : (markTk l).2.2 ≠ 0) : unmarkL l = ([], 0, (markTk l).2.2) := by unfold unmarkL; rw [if_pos h]

theorem unmark_form {l : List UInt8} (h : (markTk l).2.2 = 0) (h2 : (markTk l).2.1 ≠ [] ∨ isIDB (markTk l).1.1 = false) : unmarkL l = ([], 0, 3) := by
  unfold unmarkL; rw [if_neg (by simp [h]), if_pos h2]

theorem unmark_ok {l : List UInt8} (h : (markTk l).2.2 = 0) (h2 : (markTk l).2.1 = []) (h3 : isIDB (markTk l).1.1 = true) : unmarkL l = ((markTk l).1.1, (markTk l).1.2, 0) := by
  unfold unmarkL; rw [if_neg (by simp [h]), if_neg (by simp [h2, h3])]

theorem unmark_mark {id : List UInt8} {n : Nat} (hid : isIDB id = true) (hn : n ≤ 1099511627776) : unmarkL (markL id n) = (id, (n : Int), 0) := by
  have h16 : id.length = 16 := by
    unfold isIDB parseL at hid
    by_cases h : id.length = 16
    · exact h
    · rw [if_pos h] at hid; cases hid
  have hl1 : (textL id ++ lebL n).length ≤ 1048576 := by
    unfold textL
    have h1 := lebL_len10 (v := id.length) (by omega)
    have h2 := lebL_len10 (v := n) (by omega)
    simp only [List.length_append]
    omega
  have e1 : nextF (markL id n) = (2, textL id ++ lebL n, [], 0) := by
    have := nextF_frame 2 (textL id ++ lebL n) [] hl1
    rwa [List.append_nil] at this
  have e2 : onlyL (markL id n) 2 = (textL id ++ lebL n, 0) := by
    unfold onlyL onlyE
    rw [e1]
    simp
  have e3 : markTk (markL id n) = ((id, (n : Int)), ([], 0)) := by
    unfold markTk
    rw [e2]
    have t1 := takeT_text id (lebL n) (most := 16) (by omega) (by decide)
    have t2 := takeM_leb (m := n) [] (most := 1099511627776) (by omega) (by decide)
    rw [List.append_nil] at t2
    simp [tkT, tkN, t1, t2]
  rw [unmark_ok (by rw [e3]) (by rw [e3]) (by rw [e3]; exact hid), e3]


theorem nextF_len (l : List UInt8) : (nextF l).2.1.length ≤ l.length := by
  unfold nextF
  cases l with
  | nil => simp
  | cons k r =>
    have h := takeM_left r 1048576
    simp only
    split
    · simp
    · split
      · simp
      · split
        · simp
        · simp only [List.length_take, List.length_drop, List.length_cons]
          omega


set_option linter.unusedSimpArgs false in
set_option maxRecDepth 100000 in
set_option maxHeartbeats 1000000 in
theorem decodeMark_spec (w : World) (s : ByteArray) (hs : s.size ≤ 140737488355000) :
    Calls Tryz.prog 42 #[.string s] w (UnmarkPost w (unmarkL s.data.toList)) := by
  have Ho := Lib.hid (only_spec w s hs 2)
  have hD : (onlyL s.data.toList 2).1.length ≤ maxLen := by
    have := nextF_len s.data.toList
    rw [dsize] at this
    show (nextF s.data.toList).2.1.length ≤ maxLen
    unfold maxLen; omega
  have hc : (unmarkL s.data.toList = unmarkL s.data.toList) := rfl
  have e1 := @unmark_err s.data.toList
  have e2 := @unmark_form s.data.toList
  have e3 := @unmark_ok s.data.toList
  have hM : markTk s.data.toList = (((tkT ((onlyL s.data.toList 2).1, (onlyL s.data.toList 2).2) 16).1, (tkN (tkT ((onlyL s.data.toList 2).1, (onlyL s.data.toList 2).2) 16).2 1099511627776).1), (tkN (tkT ((onlyL s.data.toList 2).1, (onlyL s.data.toList 2).2) 16).2 1099511627776).2) := rfl
  rw [hM] at e1 e2 e3
  generalize unmarkL s.data.toList = R at e1 e2 e3 ⊢
  generalize onlyL s.data.toList 2 = D at Ho hD e1 e2 e3
  have hA0 := tkT_left (D.1, D.2) 16
  have HA : Hid (tkT (D.1, D.2) 16 = tkT (D.1, D.2) 16) := Lib.hid rfl
  clear HA
  obtain ⟨A, hA1⟩ : ∃ A, tkT (D.1, D.2) 16 = A := ⟨_, rfl⟩
  rw [hA1] at e1 e2 e3 hA0
  have hA : A.2.1.length ≤ maxLen := Nat.le_trans hA0 hD
  obtain ⟨B, hB1⟩ : ∃ B, tkN A.2 1099511627776 = B := ⟨_, rfl⟩
  rw [hB1] at e1 e2 e3
  have HA := Lib.hid hA1
  have HB := Lib.hid hB1
  have Hc := Lib.hid (And.intro e1 (And.intro e2 e3))
  clear e1 e2 e3 hM hc hA0 hA1 hB1
  go_enter Tryz.func42, Tryz.ntmps42
  go_wp2_with fail
  refine Ho.out.mono ?_
  rintro e w1 ⟨rfl, hk1⟩
  have q2 : TakerAt (w1.alloc (.cells #[.string ⟨D.1.toArray⟩, .int .i64 D.2] 161)) w1.heap.size (D.1, D.2) := heap_new w1 _
  have hk2 := hk1.alloc (.cells #[.string ⟨D.1.toArray⟩, .int .i64 D.2] 161)
  have hq : w.heap.size ≤ w1.heap.size := hk1.size
  obtain ⟨q, hqe⟩ : ∃ q, q = w1.heap.size := ⟨_, rfl⟩
  rw [← hqe] at q2 hq
  have H2 := Lib.hid (And.intro q2 (And.intro hk2 hq))
  have Hqe := Lib.hid hqe
  clear hk1 q2 hk2 hq hqe
  go_wp2_with fail
  rw [← Hqe.out]
  generalize w1.alloc (.cells #[.string ⟨D.1.toArray⟩, .int .i64 D.2] 161) = w2 at H2 ⊢
  refine (tkText_spec w2 q (D.1, D.2) H2.out.1 hD 16 (by decide)).mono ?_
  rintro e w3 ⟨rfl, hq3, hk3⟩
  rw [HA.out] at hq3 ⊢
  go_wp2_with fail
  refine (tkNum_spec w3 q A.2 hq3 hA 1099511627776 (by decide)).mono ?_
  rintro e w4 ⟨rfl, hq4, hk4⟩
  rw [HB.out] at hq4 ⊢
  have q4 : w4.heap[q]? = some (.cells #[.string ⟨B.2.1.toArray⟩, .int .i64 B.2.2] 161 (0, 0)) := hq4
  have hk04 : Keeps [] w w4 := (H2.out.2.1.after hk3 (fun x hx => .inr (by have := H2.out.2.2; simp at hx; omega))).after hk4 (fun x hx => .inr (by have := H2.out.2.2; simp at hx; omega))
  clear hq3 hk3 hq4 hk4 hD hA
  obtain ⟨A1, A2⟩ := A
  obtain ⟨N, rest, er⟩ := B
  simp only at q4 Hc ⊢
  obtain ⟨xs, has⟩ : ∃ s : ByteArray, s = ⟨A1.toArray⟩ := ⟨_, rfl⟩
  obtain ⟨rs, hrs⟩ : ∃ s : ByteArray, s = ⟨rest.toArray⟩ := ⟨_, rfl⟩
  have Has := Lib.hid (And.intro has hrs)
  rw [← hrs] at q4
  rw [← has]
  have Hid := Lib.hid (fun w => isID_spec w xs)
  rw [show xs.data.toList = A1 from by rw [has]] at Hid
  have hrl : rs.size = rest.length := by rw [hrs]; rfl
  have Hrl := Lib.hid hrl
  clear has hrs hrl
  have Hq4 := Lib.hid q4
  have H4 := Lib.hid (And.intro hk04 H2.out.2.2)
  clear q4 hk04
  by_cases he : er = 0
  · by_cases hr : rest = []
    · obtain ⟨z1, z2⟩ := is_empty (s := rs) (by rw [Hrl.out, hr]; rfl)
      cases hi : isIDB A1 with
      | true =>
        have Hr := Lib.hid (Hc.out.2.2 he hr hi)
        rw [hi] at Hid
        subst he
        clear hr hi
        have c4 := cells_at Hq4.out
        have f4 := free_at Hq4.out
        have l4 := lt_of_at Hq4.out
        go_wp2_with fail
        refine (Hid.out w4).mono ?_
        rintro e w5 ⟨rfl, rfl⟩
        go_wp2_with fail
        go_ret3
        exact ⟨by rw [Hr.out, Has.out.1]; rfl, H4.out.1⟩
      | false =>
        have Hr := Lib.hid (Hc.out.2.1 he (.inr hi))
        rw [hi] at Hid
        subst he
        clear hr hi
        have c4 := cells_at Hq4.out
        have f4 := free_at Hq4.out
        have l4 := lt_of_at Hq4.out
        have t := heap_cell_same (i := 1) Hq4.out (.int .i64 3)
        have kq : Keeps [] w (w4.setCell ⟨q, 1, none⟩ (.int .i64 3)) := H4.out.1.setCell (.inr H4.out.2) _
        have Hfin := Lib.hid kq
        clear t kq
        go_wp2_with fail
        refine (Hid.out w4).mono ?_
        rintro e w5 ⟨rfl, rfl⟩
        go_wp2_with fail
        go_quiet (fail)
        go_wp2_with fail
        go_ret3
        exact ⟨by rw [Hr.out]; rfl, Hfin.out.drewN _⟩
    · obtain ⟨z1, z2⟩ := ne_empty (s := rs) (by rw [Hrl.out]; intro e; exact hr (List.eq_nil_of_length_eq_zero e))
      have Hr := Lib.hid (Hc.out.2.1 he (.inl hr))
      subst he
      clear hr
      have c4 := cells_at Hq4.out
      have f4 := free_at Hq4.out
      have l4 := lt_of_at Hq4.out
      have t := heap_cell_same (i := 1) Hq4.out (.int .i64 3)
      have kq : Keeps [] w (w4.setCell ⟨q, 1, none⟩ (.int .i64 3)) := H4.out.1.setCell (.inr H4.out.2) _
      have Hfin := Lib.hid kq
      clear t kq
      go_wp2_with fail
      go_quiet (fail)
      go_wp2_with fail
      go_ret3
      exact ⟨by rw [Hr.out]; rfl, Hfin.out.drewN _⟩
  · have Hr := Lib.hid (Hc.out.1 he)
    have he2 : (er == 0) = false := by simp [he]
    have he3 : (er != 0) = true := by simp [he]
    clear he
    have c4 := cells_at Hq4.out
    have f4 := free_at Hq4.out
    have l4 := lt_of_at Hq4.out
    go_wp2_with fail
    go_quiet (fail)
    go_wp2_with fail
    go_ret3
    exact ⟨by rw [Hr.out]; rfl, H4.out.1.drewN _⟩

end Go.Proofs.YtjffdcflkkgpfaaGreat
