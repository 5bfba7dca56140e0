/-
  The document's disk (barographref04): Find, drop, set over its list of files, as the document's bucket has them.
  Each contract holds in every world in which the disk's value can be read; old memory is left as it was.
-/
import Derived.Test.YthcdodjdlgeeoaaRefWith
namespace Go.Proofs.Ythcdodjdlgeeoaa
open Go Go.RowKit Go.ChangeShapes Go.WideShapes Go.Deep

/-- The document's disk as a value: its files, its room, its fuse. -/
def RefD (w : World) (v : Value) (L : List (ByteArray × Ob)) (room : Int) (Q : List (Int × Bool)) : Prop :=
  ∃ s f, v = .agg #[s, .int .i64 room, f] ∧ SliceArg 3 encObj w s L ∧ SlOk f ∧ FArg w f Q
theorem RefD.keep {w w' : World} {v : Value} {L : List (ByteArray × Ob)} {room : Int} {Q : List (Int × Bool)} (h : RefD w v L room Q) (k : Keeps [] w w') : RefD w' v L room Q := by
  obtain ⟨s, f, rfl, hs, ho, hf⟩ := h
  exact ⟨s, f, rfl, hs.keep k, ho, hf.keep k⟩
theorem infoFile : (Try.prog.info? 133).map (fun i => (i.zero, i.size, i.bytes)) = some (some (.agg #[.string ⟨#[]⟩, .string ⟨#[]⟩, .int .i64 0]), 3, 40) := by kernel_rfl

set_option maxRecDepth 100000 in
set_option maxHeartbeats 1000000 in
theorem findD_spec (w : World) (v : Value) (L : List (ByteArray × Ob)) (room : Int) (Q : List (Int × Bool)) (n : ByteArray) (h : RefD w v L room Q) :
    Calls Try.prog 46 #[v, .string n] w (FindPost w L n) := by
  obtain ⟨s, f, rfl, hs, hf⟩ := h
  have hs' := hs
  clear hf
  obtain ⟨ao, cap, rfl, hl, hc0⟩ := hs
  clear hc0
  have Hs := Lib.hid hs'
  unfold maxLen at hl
  clear hs'
  go_enter Try.func46, Try.ntmps46
  go_wp2_with fail
  go_loopg [10] L.length (FindRel w L n)
  case atStart => exact ⟨0, Nat.zero_le _, rfl, rfl, by simp, (Keeps.refl [] w).alloc _⟩
  case round =>
    obtain ⟨k, hkl, rfl, hgk, hno, hk⟩ := hrel
    have Hg := Lib.hid hgk
    have Hno := Lib.hid hno
    clear hgk hno
    by_cases hlt : k < L.length
    · obtain ⟨b, off, rfl, hb, d0, d1, d2⟩ := objCells Hs.out hlt
      rw [← hk.cell hb (by simp)] at d0 d1 d2
      have hlt' : (k : Int) < (L.length : Int) := by omega
      have Hx : Hid (∀ x, x = L[k] → x.1 = L[k].1) := Lib.hid (by rintro x rfl; rfl)
      clear Hx
      generalize hx : L[k] = x at d0 d1 d2
      have Hx := Lib.hid hx
      clear hx
      obtain ⟨xn, xd, xt⟩ := x
      by_cases he : xn = n
      · have he' : (xn.toList == n.toList) = true := by rw [toList_beq]; simpa using he
        have He := Lib.hid he
        clear he
        go_wp2_with fail
        go_ret
        exact ⟨by rw [findIx_at hlt (by rw [Hx.out]; exact He.out) Hno.out]; rfl, hk.alloc _⟩
      · have he' : (xn.toList == n.toList) = false := by rw [toList_beq]; simpa using he
        have He := Lib.hid he
        clear he
        go_wp2_with fail
        go_roundg (L.length - (k + 1))
        case measure => have := Hg.out; omega
        case rel =>
          refine ⟨k + 1, by omega, by go_num, rfl, fun j hj hjl => ?_, hk.alloc _⟩
          rcases Nat.lt_succ_iff_lt_or_eq.1 hj with h | rfl
          · exact Hno.out j h hjl
          · rw [Hx.out]; exact He.out
    · have Hk := Lib.hid hk
      clear hk
      go_wp2_with fail
      go_ret
      exact ⟨by rw [findIx_no fun j hj => Hno.out j (by omega) hj]; rfl, Hk.out⟩

/-- A loop that gathers objects: what it has gathered of the first k, in a row of its own. -/
def GatherD (w1 : World) (L : List (ByteArray × Ob)) (p : ByteArray × Ob → Bool) (gk : Nat) (v i : Value) (wr : World) : Prop :=
  ∃ k, k ≤ L.length ∧ i = .int .i64 k ∧ gk = L.length - k ∧ wr.ownsRow w1.heap.size 133 3 v ((L.take k).filter p).length (((L.take k).filter p).flatMap encObj) ∧ Below w1.heap.size w1 wr

def DPost (w : World) (L : List (ByteArray × Ob)) (room : Int) (Q : List (Int × Bool)) (e : Ending) (w' : World) : Prop := ∃ v, e = .returned v ∧ RefD w' v L room Q ∧ Keeps [] w w'

set_option maxRecDepth 100000 in
set_option maxHeartbeats 1000000 in
theorem drop_spec (w : World) (v : Value) (L : List (ByteArray × Ob)) (room : Int) (Q : List (Int × Bool)) (n : ByteArray) (hL : L.length ≤ 1000) (h : RefD w v L room Q) :
    Calls Try.prog 83 #[v, .string n] w (DPost w (L.filter fun p => !decide (p.1 = n)) room Q) := by
  obtain ⟨s, f, rfl, hs, hf⟩ := h
  have hs' := hs
  obtain ⟨fa, fc, rfl⟩ := hf.2.form
  have Hf := Lib.hid hf
  clear hf
  obtain ⟨ao, cap, rfl, hl, hc0⟩ := hs
  clear hc0
  have Hs := Lib.hid hs'
  obtain ⟨ii, hii, hz0, hz1, hz2⟩ := info_parts infoFile
  unfold maxLen at hl
  clear hs'
  go_enter Try.func83, Try.ntmps83
  go_wp2_with fail
  have hk1 : Keeps [] w ((w.alloc (.cells #[.slice ao L.length cap, .int .i64 room, .slice fa Q.length fc] 96)).alloc (.cells #[.slice none 0 0, .int .i64 0, .slice none 0 0] 96)) := ((Keeps.refl [] w).alloc _).alloc _
  obtain ⟨q0, q1⟩ := new2 w (.cells #[.slice ao L.length cap, .int .i64 room, .slice fa Q.length fc] 96) (.cells #[.slice none 0 0, .int .i64 0, .slice none 0 0] 96)
  generalize hw1 : ((w.alloc (.cells #[.slice ao L.length cap, .int .i64 room, .slice fa Q.length fc] 96)).alloc (.cells #[.slice none 0 0, .int .i64 0, .slice none 0 0] 96)) = w1 at hk1 q0 q1 ⊢
  have hsz : w1.heap.size = w.heap.size + 1 + 1 := by rw [← hw1]; simp
  have Hq := Lib.hid (And.intro q0 q1)
  clear q0 q1
  have Hw1 := Lib.hid hw1
  clear hw1
  rw [← hsz]
  have Hsz := Lib.hid hsz
  clear hsz
  go_loopg [5, 12] L.length (GatherD w1 L fun p => !decide (p.1 = n))
  case atStart => exact ⟨0, Nat.zero_le _, rfl, rfl, World.ownsRow_made w1 #[] 0 (Nat.le_refl _) (by simp [maxLen]) rfl, (Below.refl _ _).alloc (Nat.le_refl _) _⟩
  case round =>
    obtain ⟨k, hkl, rfl, hgk, hown, hbel⟩ := hrel
    have Hg := Lib.hid hgk
    clear hgk
    by_cases hlt : k < L.length
    · obtain ⟨b, off, rfl, hb, d0, d1, d2⟩ := objCells Hs.out hlt
      have hb1 := hk1.lt hb
      rw [← hk1.cell hb (by simp), ← hbel.cell (p := ⟨b, _, none⟩) hb1] at d0 d1 d2
      have hlt' : (k : Int) < (L.length : Int) := by omega
      generalize hx : L[k] = x at d0 d1 d2
      obtain ⟨xn, xd, xt⟩ := x
      have Hb := Lib.hid hbel
      have Ho := Lib.hid hown
      have hle := keep_le L (fun p => !decide (p.1 = n)) k
      clear hbel hown
      cases hp : !decide (xn = n) with
      | true =>
        have Hx := Lib.hid (keep_yes L (fun p => !decide (p.1 = n)) k hlt (by rw [hx]; exact hp))
        rw [hx] at Hx
        have hp' : (xn.toList == n.toList) = false := by rw [toList_beq]; simpa using hp
        clear hx hp
        generalize (L.take k).filter (fun p => !decide (p.1 = n)) = G at Ho hle Hx
        go_wp2_with (at_builtin; refine wpList_append_own _ rfl (.tmp 20) (.tmp 22) 94 rfl w1.heap.size 133 ii _ 3 40 Try.underlying94 hii hz0 hz1 hz2 rfl (by decide) u5 G.length (G.flatMap encObj) rfl ((Ho.out.alloc _).alloc _) ⟨wr.heap.size + 1, 0, none⟩ 1 1 (encObj (xn, xd, xt)) rfl rfl (news_of (new2 wr _ _).2) (by simp [encObj, Value.oneCell']) (by simp only [maxLen]; omega) (by omega) (by simp; have := Hb.out.size; omega) ?_; intro v' w' hown' hgrow hnil; clear hnil)
        have hbl : ∀ q, u5.ownBlock = some q → w1.heap.size ≤ q := fun q hq => (Ho.out.lt q hq).1
        have hbel' : Below w1.heap.size w1 w' := ((Hb.out.alloc Hb.out.size _).alloc (by simp; have := Hb.out.size; omega) _).grown hgrow (by simp; have := Hb.out.size; omega) hbl
        go_roundg (L.length - (k + 1))
        case measure => have := Hg.out; omega
        case rel => exact ⟨k + 1, by omega, by go_num, rfl, by rw [Hx.out]; simpa using hown', hbel'⟩
      | false =>
        have Hx := Lib.hid (keep_no L (fun p => !decide (p.1 = n)) k hlt (by rw [hx]; exact hp))
        have hp' : (xn.toList == n.toList) = true := by rw [toList_beq]; simpa using hp
        clear hx hp
        go_wp2_with fail
        go_roundg (L.length - (k + 1))
        case measure => have := Hg.out; omega
        case rel => exact ⟨k + 1, by omega, by go_num, rfl, by rw [Hx.out]; exact Ho.out.alloc _, Hb.out.alloc Hb.out.size _⟩
    · have hkw := Keeps.of_below (S := []) hbel
      have r0 := hkw.at_ Hq.out.1 (by simp)
      have r1 := hkw.at_ Hq.out.2 (by simp)
      have hne : w.heap.size ≠ w.heap.size + 1 := by omega
      have c0 := cells_at r0
      have f0 := free_at r0
      have c1 := cells_at r1
      have f1 := free_at r1
      have hkk : k = L.length := by omega
      have hown1 : wr.ownsRow w1.heap.size 133 3 u5 (L.filter fun p => !decide (p.1 = n)).length ((L.filter fun p => !decide (p.1 = n)).flatMap encObj) := by
        subst hkk
        rwa [List.take_length] at hown
      obtain ⟨ao', cp, rfl, hr0⟩ := row_slice hown1
      clear hr0
      generalize hu : Value.slice ao' (L.filter fun p => !decide (p.1 = n)).length cp = u5 at hown1
      have s1 := ownsRow_setCell_below hown1 (a := ⟨w.heap.size, 0, none⟩) (by simp [Hsz.out]; omega) u5
      have s2 := ownsRow_setCell_below s1 (a := ⟨w.heap.size + 1, 0, none⟩) (by simp [Hsz.out]) u5
      have s2' := ownsRow_setCell_below s2 (a := ⟨w.heap.size + 1, 1, none⟩) (by simp [Hsz.out]) (.int .i64 room)
      have s3 := ownsRow_setCell_below s2' (a := ⟨w.heap.size + 1, 2, none⟩) (by simp [Hsz.out]) (.slice fa Q.length fc)
      have t1 := heap_cell_same (i := 2) (heap_cell_same (i := 1) (heap_cell_same (i := 0) ((heap_cell_other (p := ⟨w.heap.size, 0, none⟩) u5 hne.symm).trans r1) u5) (.int .i64 room)) (.slice fa Q.length fc)
      have hk3 := ((((hk1.trans hkw).setCell (p := ⟨w.heap.size, 0, none⟩) (.inr (Nat.le_refl _)) u5).setCell (p := ⟨w.heap.size + 1, 0, none⟩) (.inr (Nat.le_succ _)) u5).setCell (p := ⟨w.heap.size + 1, 1, none⟩) (.inr (Nat.le_succ _)) (.int .i64 room)).setCell (p := ⟨w.heap.size + 1, 2, none⟩) (.inr (Nat.le_succ _)) (.slice fa Q.length fc)
      have Hfin := Lib.hid (And.intro s3 (And.intro (cells_at t1) hk3))
      clear r0 r1 hkk hown1 s1 s2 s3 t1 hk3 hkw hown hbel
      subst hu
      go_wp2_with fail
      have hc := Hfin.out.2.1
      refine bodyPost_ret (v := .agg #[.slice ao' (L.filter fun p => !decide (p.1 = n)).length cp, .int .i64 room, .slice fa Q.length fc]) ?_ rfl ?_
      · simp [results, Try.results83, go_sem, hc]
      · exact ⟨_, rfl, ⟨_, _, rfl, arg_of_row (fun _ => rfl) Hfin.out.1, Hf.out.1, Hf.out.2.keep Hfin.out.2.2⟩, Hfin.out.2.2⟩

theorem fieldD (a b : Option Addr) (n c m d : Nat) (r : Int) (w : World) : (Instr.field 96 (.agg #[.slice a n c, .int .i64 r, .slice b m d]) 0).run Try.prog w = .ok (.slice a n c) w := by kernel_rfl

def SetRel (w2 : World) (L : List (ByteArray × Ob)) (x : ByteArray × Ob) (gk : Nat) (v d i : Value) (wr : World) : Prop :=
  ∃ k, k ≤ L.length ∧ i = .int .i64 k ∧ gk = L.length - k ∧ d = .bool (insK L x k).1 ∧ Gath wr w2.heap.size 133 3 v (insK L x k).2.length ((insK L x k).2.flatMap encObj) ∧ Below w2.heap.size w2 wr

/-- What the walk needs at the end of with: the boxes' cells, and the world behind the three stores. -/
theorem set_end {w w2 wf : World} {ao fa : Option Addr} {n cap nq fc : Nat} {room : Int} {v : Value} {G : List (ByteArray × Ob)} {N : Nat} (h0 : w2.heap[w.heap.size]? = some (.cells #[.slice ao n cap, .int .i64 room, .slice fa nq fc] 96 (0, 0)))
    (h2 : w2.heap[w.heap.size + 1 + 1]? = some (.cells #[.slice none 0 0, .int .i64 0, .slice none 0 0] 96 (0, 0))) (hk : Keeps [] w w2)
    (hbel : Below w2.heap.size w2 wf) (hown : Gath wf w2.heap.size 133 3 v N (G.flatMap encObj)) :
    ∃ ao' cp, v = .slice ao' N cp ∧ (∀ i, wf.cell? ⟨w.heap.size, i, none⟩ = #[.slice ao n cap, .int .i64 room, .slice fa nq fc][i]?) ∧ (∀ i, wf.frozen? ⟨w.heap.size, i, none⟩ = false) ∧
      (∀ i, wf.cell? ⟨w.heap.size + 1 + 1, i, none⟩ = #[.slice none 0 0, .int .i64 0, .slice none 0 0][i]?) ∧ (∀ i, wf.frozen? ⟨w.heap.size + 1 + 1, i, none⟩ = false) ∧ w.heap.size ≠ w.heap.size + 1 + 1 ∧
      Hid (Gath ((((wf.setCell ⟨w.heap.size, 0, none⟩ (.slice ao' N cp)).setCell ⟨w.heap.size + 1 + 1, 0, none⟩ (.slice ao' N cp)).setCell ⟨w.heap.size + 1 + 1, 1, none⟩ (.int .i64 room)).setCell ⟨w.heap.size + 1 + 1, 2, none⟩ (.slice fa nq fc)) w2.heap.size 133 3 (.slice ao' N cp) N (G.flatMap encObj) ∧
        (∀ i, ((((wf.setCell ⟨w.heap.size, 0, none⟩ (.slice ao' N cp)).setCell ⟨w.heap.size + 1 + 1, 0, none⟩ (.slice ao' N cp)).setCell ⟨w.heap.size + 1 + 1, 1, none⟩ (.int .i64 room)).setCell ⟨w.heap.size + 1 + 1, 2, none⟩ (.slice fa nq fc)).cell? ⟨w.heap.size + 1 + 1, i, none⟩ = #[.slice ao' N cp, .int .i64 room, .slice fa nq fc][i]?) ∧
        Keeps [] w ((((wf.setCell ⟨w.heap.size, 0, none⟩ (.slice ao' N cp)).setCell ⟨w.heap.size + 1 + 1, 0, none⟩ (.slice ao' N cp)).setCell ⟨w.heap.size + 1 + 1, 1, none⟩ (.int .i64 room)).setCell ⟨w.heap.size + 1 + 1, 2, none⟩ (.slice fa nq fc))) := by
  have hkw := Keeps.of_below (S := []) hbel
  have r0 := hkw.at_ h0 (by simp)
  have r2 := hkw.at_ h2 (by simp)
  have hne : w.heap.size + 1 + 1 ≠ w.heap.size := by omega
  have hB0 : w.heap.size < w2.heap.size := lt_of_at h0
  have hB2 : w.heap.size + 1 + 1 < w2.heap.size := lt_of_at h2
  obtain ⟨ao', cp, rfl⟩ := hown.form
  have s1 := hown.setBelow (a := ⟨w.heap.size, 0, none⟩) hB0 (.slice ao' N cp)
  have s2 := s1.setBelow (a := ⟨w.heap.size + 1 + 1, 0, none⟩) hB2 (.slice ao' N cp)
  have s2' := s2.setBelow (a := ⟨w.heap.size + 1 + 1, 1, none⟩) hB2 (.int .i64 room)
  have s3 := s2'.setBelow (a := ⟨w.heap.size + 1 + 1, 2, none⟩) hB2 (.slice fa nq fc)
  have t1 := heap_cell_same (i := 2) (heap_cell_same (i := 1) (heap_cell_same (i := 0) ((heap_cell_other (p := ⟨w.heap.size, 0, none⟩) (.slice ao' N cp) hne).trans r2) (.slice ao' N cp)) (.int .i64 room)) (.slice fa nq fc)
  have hk3 := ((((hk.trans hkw).setCell (p := ⟨w.heap.size, 0, none⟩) (.inr (Nat.le_refl _)) (.slice ao' N cp)).setCell (p := ⟨w.heap.size + 1 + 1, 0, none⟩) (.inr (by simp only; omega)) (.slice ao' N cp)).setCell (p := ⟨w.heap.size + 1 + 1, 1, none⟩) (.inr (by simp only; omega)) (.int .i64 room)).setCell (p := ⟨w.heap.size + 1 + 1, 2, none⟩) (.inr (by simp only; omega)) (.slice fa nq fc)
  exact ⟨ao', cp, rfl, cells_at r0, free_at r0, cells_at r2, free_at r2, hne.symm, Lib.hid ⟨s3, cells_at t1, hk3⟩⟩

set_option maxRecDepth 100000 in
set_option maxHeartbeats 2000000 in
theorem set_spec (w : World) (v : Value) (L : List (ByteArray × Ob)) (room : Int) (Q : List (Int × Bool)) (n dt : ByteArray) (tk : Int) (hL : L.length ≤ 900) (h : RefD w v L room Q) :
    Calls Try.prog 81 #[v, .agg #[.string n, .string dt, .int .i64 tk]] w (DPost w (insL (L.filter fun p => !decide (p.1 = n)) (n, (dt, tk))) room Q) := by
  have H := Lib.hid h
  obtain ⟨s, f, rfl, hs, hf⟩ := h
  obtain ⟨ii, hii, hz0, hz1, hz2⟩ := info_parts infoFile
  obtain ⟨fa, fc, rfl⟩ := hf.2.form
  obtain ⟨ao, cap, rfl⟩ := hs.form
  clear hs
  have Hf := Lib.hid hf
  clear hf
  go_enter Try.func81, Try.ntmps81
  go_wp2_with fail
  have hk4 : Keeps [] w ((((w.alloc (.cells #[.slice ao L.length cap, .int .i64 room, .slice fa Q.length fc] 96)).alloc (.cells #[.string n, .string dt, .int .i64 tk] 133)).alloc (.cells #[.slice none 0 0, .int .i64 0, .slice none 0 0] 96)).alloc (.cells #[] 133)) := ((((Keeps.refl [] w).alloc _).alloc _).alloc _).alloc _
  obtain ⟨q0, q1, q2, _⟩ := new4 w (.cells #[.slice ao L.length cap, .int .i64 room, .slice fa Q.length fc] 96) (.cells #[.string n, .string dt, .int .i64 tk] 133) (.cells #[.slice none 0 0, .int .i64 0, .slice none 0 0] 96) (.cells #[] 133)
  generalize ((((w.alloc (.cells #[.slice ao L.length cap, .int .i64 room, .slice fa Q.length fc] 96)).alloc (.cells #[.string n, .string dt, .int .i64 tk] 133)).alloc (.cells #[.slice none 0 0, .int .i64 0, .slice none 0 0] 96)).alloc (.cells #[] 133)) = W4 at hk4 q0 q1 q2 ⊢
  refine (drop_spec W4 _ L room Q n (by omega) (H.out.keep hk4)).mono ?_
  rintro e w2 ⟨v2, rfl, hB2, hk2⟩
  have q0 := hk2.at_ q0 (by simp)
  have q1 := hk2.at_ q1 (by simp)
  have q2 := hk2.at_ q2 (by simp)
  have hk02 := hk4.trans hk2
  have hlf : (L.filter fun p => !decide (p.1 = n)).length ≤ 900 := Nat.le_trans (List.length_filter_le _ _) hL
  generalize hM : (L.filter fun p => !decide (p.1 = n)) = M at hB2 hlf ⊢
  have HM := Lib.hid hM
  clear hM
  obtain ⟨s2, f2, rfl, hs2, hf2⟩ := hB2
  obtain ⟨ao2, cap2, rfl⟩ := hs2.form
  obtain ⟨fa2, fc2, rfl⟩ := hf2.2.form
  have hfd := fieldD
  have Hs2 := Lib.hid hs2
  have Hq := Lib.hid (And.intro q0 (And.intro q1 (And.intro q2 hk02)))
  clear hs2 hf2 q0 q1 q2 hk02 hk2 hk4 H
  go_wp2_with fail
  go_loopg [5, 6, 16] M.length (SetRel w2 M (n, (dt, tk)))
  case atStart => exact ⟨0, Nat.zero_le _, rfl, rfl, rfl, .inl ⟨_, rfl, rfl, rfl⟩, Below.refl _ _⟩
  case round =>
    obtain ⟨k, hkl, rfl, hgk, rfl, hown, hbel⟩ := hrel
    have Hg := Lib.hid hgk
    clear hgk
    have hkw := Keeps.of_below (S := []) hbel
    have r1 := hkw.at_ Hq.out.2.1 (by simp)
    have l1 := lt_of_at r1
    have c1 := cells_at r1
    by_cases hlt : k < M.length
    · obtain ⟨b, off, rfl, hb, d0, d1, d2⟩ := objCells Hs2.out hlt
      rw [← hkw.cell hb (by simp)] at d0 d1 d2
      have hlt' : (k : Int) < (M.length : Int) := by omega
      have hin := insK_succ M (n, (dt, tk)) k hlt
      have hle := insK_le M (n, (dt, tk)) k
      generalize hx : M[k] = x at d0 d1 d2 hin
      clear hx r1
      obtain ⟨xn, xd, xt⟩ := x
      have Hb := Lib.hid hbel
      have Hkw := Lib.hid hkw
      have hsz : w2.heap.size ≤ wr.heap.size := hbel.size
      clear hbel hkw
      generalize hs : insK M (n, (dt, tk)) k = st at hown hin hle ⊢
      clear hs
      obtain ⟨d, G⟩ := st
      simp only at hown hle ⊢
      have Ho := Lib.hid hown
      clear hown
      cases d with
      | true =>
        have Hin := Lib.hid hin
        clear hin
        go_wp2_with (at_builtin; refine wpList_append_gath _ wr rfl (.tmp 33) (.tmp 35) 94 rfl w2.heap.size 133 ii _ 3 40 Try.underlying94 hii hz0 hz1 hz2 rfl (by decide) u5 G.length (G.flatMap encObj) rfl Ho.out (fun h => (h.alloc _).alloc _) ⟨wr.heap.size + 1, 0, none⟩ 1 1 (encObj (xn, (xd, xt))) rfl rfl (news_of (new2 wr _ _).2) (by simp [encObj, Value.oneCell']) (by omega) (by simp only [maxLen]; omega) (by omega) (by simp; omega) ?_; intro v' w' hown' hgr)
        all_goals
          have hbel' : Below w2.heap.size w2 w' := hgr.below ((Hb.out.alloc hsz _).alloc (by simp; omega) _) (Nat.le_refl _) (by simp; omega)
          go_wp2_with fail
          go_roundg (M.length - (k + 1))
          case measure => have := Hg.out; omega
          case rel => exact ⟨k + 1, by omega, by go_num, rfl, by rw [Hin.out]; simp [insStep], .inr (by rw [Hin.out]; simpa [insStep] using hown'), hbel'⟩
      | false =>
        cases hgt : gtB xn n with
        | true =>
          have hgt' : (!(Op.bytesLess xn.toList n.toList || xn.toList == n.toList)) = true := hgt
          have Hin := Lib.hid hin
          have Hgt := Lib.hid hgt
          clear hin hgt
          go_wp2_with (first | (at_builtin; refine wpList_append_gath _ wr rfl (.tmp 29) (.tmp 31) 94 rfl w2.heap.size 133 ii _ 3 40 Try.underlying94 hii hz0 hz1 hz2 rfl (by decide) u5 G.length (G.flatMap encObj) rfl Ho.out (fun h => (h.alloc _).alloc _) ⟨wr.heap.size + 1, 0, none⟩ 1 1 (encObj (n, (dt, tk))) rfl rfl (news_of (new2 wr _ _).2) (by simp [encObj, Value.oneCell']) (by omega) (by simp only [maxLen]; omega) (by omega) (by simp; omega) ?_; intro v1 w1 hown1 hgr1; have c8 := cells_at (hgr1.at_ (new2 wr _ _).1 (Nat.le_refl _)); have hsz1 := (hgr1.below (((Hb.out.alloc hsz _).alloc (by simp; omega) _)) (Nat.le_refl _) (by simp; omega)).size; have Hgr1 := Lib.hid (And.intro hgr1 hown1); clear hgr1 hown1) | (at_builtin; refine wpList_append_gath _ w1 rfl (.tmp 33) (.tmp 35) 94 rfl w2.heap.size 133 ii _ 3 40 Try.underlying94 hii hz0 hz1 hz2 rfl (by decide) v1 (G.length + 1) (G.flatMap encObj ++ encObj (n, (dt, tk))) rfl (.inr Hgr1.out.2) (fun h => h.alloc _) ⟨w1.heap.size, 0, none⟩ 1 1 (encObj (xn, (xd, xt))) rfl rfl (news_of (heap_new w1 _)) (by simp [encObj, Value.oneCell']) (by omega) (by simp only [maxLen]; omega) (by omega) (by simp; omega) ?_; intro v' w' hown' hgr))
          all_goals
            have hbel' : Below w2.heap.size w2 w' := hgr.below ((Hgr1.out.1.below ((Hb.out.alloc hsz _).alloc (by simp; omega) _) (Nat.le_refl _) (by simp; omega)).alloc hsz1 _) (Nat.le_refl _) (by simp; omega)
            go_wp2_with fail
            go_roundg (M.length - (k + 1))
            case measure => have := Hg.out; omega
            case rel => exact ⟨k + 1, by omega, by go_num, rfl, by rw [Hin.out]; simp [insStep, Hgt.out], .inr (by rw [Hin.out]; simpa [insStep, Hgt.out] using hown'), hbel'⟩
        | false =>
          have hgt' : (!(Op.bytesLess xn.toList n.toList || xn.toList == n.toList)) = false := hgt
          have Hin := Lib.hid hin
          have Hgt := Lib.hid hgt
          clear hin hgt
          go_wp2_with (at_builtin; refine wpList_append_gath _ wr rfl (.tmp 33) (.tmp 35) 94 rfl w2.heap.size 133 ii _ 3 40 Try.underlying94 hii hz0 hz1 hz2 rfl (by decide) u5 G.length (G.flatMap encObj) rfl Ho.out (fun h => (h.alloc _).alloc _) ⟨wr.heap.size + 1, 0, none⟩ 1 1 (encObj (xn, (xd, xt))) rfl rfl (news_of (new2 wr _ _).2) (by simp [encObj, Value.oneCell']) (by omega) (by simp only [maxLen]; omega) (by omega) (by simp; omega) ?_; intro v' w' hown' hgr)
          all_goals
            have hbel' : Below w2.heap.size w2 w' := hgr.below ((Hb.out.alloc hsz _).alloc (by simp; omega) _) (Nat.le_refl _) (by simp; omega)
            go_wp2_with fail
            go_roundg (M.length - (k + 1))
            case measure => have := Hg.out; omega
            case rel => exact ⟨k + 1, by omega, by go_num, rfl, by rw [Hin.out]; simp [insStep, Hgt.out], .inr (by rw [Hin.out]; simpa [insStep, Hgt.out] using hown'), hbel'⟩
    · have hkk : k = M.length := by omega
      subst hkk
      have hle := insK_le M (n, (dt, tk)) M.length
      have hsz : w2.heap.size ≤ wr.heap.size := hbel.size
      have hins : insL M (n, (dt, tk)) = if (insK M (n, (dt, tk)) M.length).1 then (insK M (n, (dt, tk)) M.length).2 else (insK M (n, (dt, tk)) M.length).2 ++ [(n, (dt, tk))] := rfl
      generalize hs : insK M (n, (dt, tk)) M.length = st at hown hle hins ⊢
      clear hs hkw
      obtain ⟨d, G⟩ := st
      simp only at hown hle hins ⊢
      cases d with
      | true =>
        simp only [if_true] at hins
        have Hi := Lib.hid hins
        clear hins r1
        obtain ⟨ao', cp, rfl, c0, f0, c2, f2, hne, Hfin⟩ := set_end Hq.out.1 Hq.out.2.2.1 Hq.out.2.2.2 hbel hown
        clear hbel hown
        go_wp2_with fail
        have hc := Hfin.out.2.1
        refine bodyPost_ret (v := .agg #[.slice ao' G.length cp, .int .i64 room, .slice fa Q.length fc]) ?_ rfl ?_
        · simp [results, Try.results81, go_sem, hc]
        · rw [HM.out, Hi.out]; exact ⟨_, rfl, ⟨_, _, rfl, Gath.arg (fun _ => rfl) Hfin.out.1, Hf.out.1, Hf.out.2.keep Hfin.out.2.2⟩, Hfin.out.2.2⟩
      | false =>
        have Hi : Hid (insL M (n, (dt, tk)) = G ++ [(n, (dt, tk))]) := Lib.hid (by rw [hins]; rfl)
        have Hb := Lib.hid hbel
        have Ho := Lib.hid hown
        clear hins hbel hown
        have EF : Hid (∀ v' w', w'.ownsRow w2.heap.size 133 3 v' (G.length + 1) (G.flatMap encObj ++ encObj (n, (dt, tk))) → Grew w2.heap.size wr.heap.size (wr.alloc (.cells #[.string n, .string dt, .int .i64 tk] 133)) w' → _) := Lib.hid fun v' w' hown' hgr => set_end (w := w) (wf := w') (v := v') (G := G ++ [(n, (dt, tk))]) Hq.out.1 Hq.out.2.2.1 Hq.out.2.2.2 (hgr.below (Hb.out.alloc hsz _) (Nat.le_refl _) (by simp; omega)) (N := G.length + 1) (.inr (by simpa using hown'))
        clear r1
        go_wp2_with (at_builtin; refine wpList_append_gath _ wr rfl (.tmp 40) (.tmp 42) 94 rfl w2.heap.size 133 ii _ 3 40 Try.underlying94 hii hz0 hz1 hz2 rfl (by decide) u5 G.length (G.flatMap encObj) rfl Ho.out (fun h => h.alloc _) ⟨wr.heap.size, 0, none⟩ 1 1 (encObj (n, (dt, tk))) rfl rfl (news_of (heap_new wr _)) (by simp [encObj, Value.oneCell']) (by omega) (by simp only [maxLen]; omega) (by omega) (by simp; omega) ?_; intro v' w' hown' hgr; obtain ⟨ao', cp, rfl, c0, f0, c2, f2, hne, Hfin⟩ := EF.out v' w' hown' hgr; clear hown' hgr)
        all_goals
          have hc := Hfin.out.2.1
          refine bodyPost_ret (v := .agg #[.slice ao' (G.length + 1) cp, .int .i64 room, .slice fa Q.length fc]) ?_ rfl ?_
          · simp [results, Try.results81, go_sem, hc]
          · rw [HM.out, Hi.out]; exact ⟨_, rfl, ⟨_, _, rfl, Gath.arg (size := 3) (base := w2.heap.size) (e := 133) (fun _ => rfl) (by have h := Hfin.out.1; simpa using h), Hf.out.1, Hf.out.2.keep Hfin.out.2.2⟩, Hfin.out.2.2⟩

end Go.Proofs.Ythcdodjdlgeeoaa
