/-
  The document's disk (barographref04): Crash.
-/
import Derived.Test.YthcdodjdlgeeoaaRefDo
namespace Go.Proofs.Ythcdodjdlgeeoaa
open Go Go.RowKit Go.ChangeShapes Go.WideShapes Go.Deep

/-- One file of the document's Crash: the files told so far, and how many choices are used up. -/
def refStep (ch : List Int) (s : List (ByteArray × Ob) × Nat) (p : ByteArray × Ob) : List (ByteArray × Ob) × Nat :=
  if p.2.1.size - p.2.2.toNat = 0 then (s.1 ++ [p], s.2)
  else (s.1 ++ [(p.1, (p.2.1.extract 0 (p.2.2.toNat + keepOf ch s.2 (p.2.1.size - p.2.2.toNat)), ((p.2.2.toNat + keepOf ch s.2 (p.2.1.size - p.2.2.toNat) : Nat) : Int)))], s.2 + 1)
def refK (ch : List Int) (L : List (ByteArray × Ob)) (k : Nat) : List (ByteArray × Ob) × Nat := (L.take k).foldl (refStep ch) ([], 0)
def refCrash (ch : List Int) (L : List (ByteArray × Ob)) : List (ByteArray × Ob) := (refK ch L L.length).1
theorem refK_succ (ch : List Int) (L : List (ByteArray × Ob)) (k : Nat) (hk : k < L.length) : refK ch L (k + 1) = refStep ch (refK ch L k) L[k] := by
  unfold refK
  rw [List.take_succ_eq_append_getElem hk, List.foldl_append]
  rfl
theorem refFold (ch : List Int) : ∀ (M : List (ByteArray × Ob)) s, (M.foldl (refStep ch) s).2 ≤ s.2 + M.length ∧ (M.foldl (refStep ch) s).1.length = s.1.length + M.length
  | [], s => by simp
  | p :: M, s => by
    have h := refFold ch M (refStep ch s p)
    rw [List.foldl_cons, List.length_cons]
    have h1 : (refStep ch s p).2 ≤ s.2 + 1 ∧ (refStep ch s p).1.length = s.1.length + 1 := by
      unfold refStep
      split <;> simp
    omega
theorem refK_le (ch : List Int) (L : List (ByteArray × Ob)) (k : Nat) : (refK ch L k).2 ≤ k := by
  have := (refFold ch (L.take k) ([], 0)).1
  have h2 : (L.take k).length ≤ k := by rw [List.length_take]; omega
  unfold refK
  simp only at this
  omega
theorem refK_len (ch : List Int) (L : List (ByteArray × Ob)) (k : Nat) : (refK ch L k).1.length ≤ k := by
  have := (refFold ch (L.take k) ([], 0)).2
  have h2 : (L.take k).length ≤ k := by rw [List.length_take]; omega
  unfold refK
  simp only [List.length_nil] at this
  omega
def CrashD (w1 : World) (L : List (ByteArray × Ob)) (ch : List Int) (gk : Nat) (v c i : Value) (wr : World) : Prop :=
  ∃ k, k ≤ L.length ∧ i = .int .i64 k ∧ c = .int .i64 (refK ch L k).2 ∧ gk = L.length - k ∧ wr.ownsRow w1.heap.size 133 3 v (refK ch L k).1.length ((refK ch L k).1.flatMap encObj) ∧ Below w1.heap.size w1 wr

set_option maxRecDepth 100000 in
set_option maxHeartbeats 1000000 in
theorem crashD_spec (w : World) (v : Value) (L : List (ByteArray × Ob)) (room : Int) (Q : List (Int × Bool)) (hL : L.length ≤ 1000) (h : RefD w v L room Q) (hsz0 : ∀ p ∈ L, 0 ≤ p.2.2 ∧ p.2.2 ≤ p.2.1.size ∧ p.2.1.size ≤ 1000000000) (u : Value) (ch : List Int) (hch : SliceArg 1 encN w u ch) (hci : ∀ x ∈ ch, -9223372036854775808 ≤ x ∧ x ≤ 9223372036854775807) :
    Calls Try.prog 65 #[v, u] w (DPost w (refCrash ch L) room []) := by
  obtain ⟨s, f, rfl, hs, hf⟩ := h
  have hs' := hs
  obtain ⟨fa, fc, rfl⟩ := hf.2.form
  have Hf := Lib.hid hf
  clear hf
  obtain ⟨ao, cap, rfl, hl, hc0⟩ := hs
  clear hc0
  have Hs := Lib.hid hs'
  obtain ⟨ii, hii, hz0, hz1, hz2⟩ := info_parts infoFile
  obtain ⟨uo, uc, rfl⟩ := hch.form
  have hul := hch.len
  have Hch := Lib.hid hch
  have Hci := Lib.hid hci
  have Hz := Lib.hid hsz0
  have Hc0 := Lib.hid (show ∀ k, (refK ch L k).2 ≤ k from refK_le ch L)
  unfold maxLen at hl hul
  clear hch hci hsz0
  clear hs'
  go_enter Try.func65, Try.ntmps65
  go_wp2_with fail
  have hk1 : Keeps [] w ((w.alloc (.cells #[.slice ao L.length cap, .int .i64 room, .slice none 0 0] 96)).alloc (.cells #[.slice none 0 0, .int .i64 0, .slice none 0 0] 96)) := ((Keeps.refl [] w).alloc _).alloc _
  obtain ⟨q0, q1⟩ := new2 w (.cells #[.slice ao L.length cap, .int .i64 room, .slice none 0 0] 96) (.cells #[.slice none 0 0, .int .i64 0, .slice none 0 0] 96)
  generalize hw1 : ((w.alloc (.cells #[.slice ao L.length cap, .int .i64 room, .slice none 0 0] 96)).alloc (.cells #[.slice none 0 0, .int .i64 0, .slice none 0 0] 96)) = w1 at hk1 q0 q1 ⊢
  have hsz : w1.heap.size = w.heap.size + 1 + 1 := by rw [← hw1]; simp
  have Hq := Lib.hid (And.intro q0 q1)
  clear q0 q1
  have Hw1 := Lib.hid hw1
  clear hw1
  rw [← hsz]
  have Hsz := Lib.hid hsz
  clear hsz
  go_loopg [5, 6, 17] L.length (CrashD w1 L ch)
  case atStart => exact ⟨0, Nat.zero_le _, rfl, rfl, rfl, World.ownsRow_made w1 #[] 0 (Nat.le_refl _) (by simp [maxLen]) rfl, (Below.refl _ _).alloc (Nat.le_refl _) _⟩
  case round =>
    obtain ⟨k, hkl, rfl, rfl, hgk, hown, hbel⟩ := hrel
    have Hg := Lib.hid hgk
    clear hgk
    by_cases hlt : k < L.length
    · obtain ⟨b, off, rfl, hb, d0, d1, d2⟩ := objCells Hs.out hlt
      have hb1 := hk1.lt hb
      rw [← hk1.cell hb (by simp), ← hbel.cell (p := ⟨b, _, none⟩) hb1] at d0 d1 d2
      have hlt' : (k : Int) < (L.length : Int) := by omega
      obtain ⟨z1, z2, z3⟩ := Hz.out L[k] (List.getElem_mem _)
      have hsucc := refK_succ ch L k hlt
      have hc0 := Hc0.out k
      have hlen := refK_len ch L k
      generalize hx : L[k] = x at d0 d1 d2 z1 z2 z3 hsucc
      clear hx
      obtain ⟨xn, xs, xt⟩ := x
      simp only at d0 d1 d2 z1 z2 z3
      obtain ⟨sn, rfl⟩ := Int.eq_ofNat_of_zero_le z1
      have hsn : sn ≤ xs.size := by omega
      generalize refK ch L k = st at hown hsucc hc0 hlen ⊢
      obtain ⟨G, ic⟩ := st
      simp only at hown hc0 hlen ⊢
      simp only [refStep, Int.toNat_natCast] at hsucc
      obtain ⟨Lo, hLo⟩ : ∃ Lo, Lo = xs.size - sn := ⟨_, rfl⟩
      rw [← hLo] at hsucc
      have hsub : (xs.size : Int) - (sn : Int) = (Lo : Int) := by omega
      have hLo1 : Lo ≤ 1000000000 := by omega
      have HLo := Lib.hid hLo
      have Hb := Lib.hid hbel
      have Ho := Lib.hid hown
      have hgl : G.length ≤ 1000 := by omega
      have hwsz : w1.heap.size ≤ wr.heap.size := hbel.size
      clear hbel hown z1 z2 hLo hlen
      by_cases hz : Lo = 0
      · rw [if_pos hz] at hsucc
        have Hx := Lib.hid hsucc
        subst hz
        clear hsucc
        go_wp2_with (at_builtin; refine wpList_append_own _ rfl (.tmp 60) (.tmp 62) 94 rfl w1.heap.size 133 ii _ 3 40 Try.underlying94 hii hz0 hz1 hz2 rfl (by decide) u5 G.length (G.flatMap encObj) rfl ((Ho.out.alloc _).alloc _) ⟨wr.heap.size + 1, 0, none⟩ 1 1 (encObj (xn, (xs, (sn : Int)))) rfl rfl (news_of (new2 wr _ _).2) (by simp [encObj, Value.oneCell']) (by simp only [maxLen]; omega) (by omega) (by simp; omega) ?_; intro v' w' hown' hgrow hnil; clear hnil)
        all_goals
          have hbl : ∀ q, u5.ownBlock = some q → w1.heap.size ≤ q := fun q hq => (Ho.out.lt q hq).1
          have hbel' : Below w1.heap.size w1 w' := ((Hb.out.alloc Hb.out.size _).alloc (by simp; have := Hb.out.size; omega) _).grown hgrow (by simp; have := Hb.out.size; omega) hbl
          go_roundg (L.length - (k + 1))
          case measure => have := Hg.out; omega
          case rel => exact ⟨k + 1, by omega, by go_num, by rw [Hx.out], rfl, by rw [Hx.out]; simpa using hown', hbel'⟩
      · rw [if_neg hz] at hsucc
        have hgt : (0 : Int) < (Lo : Int) := by omega
        have hkl0 := keepOf_le ch ic Lo
        by_cases hi : ic < ch.length
        · obtain ⟨_, _, he, _, hcc⟩ := Hch.out
          injection he with e1 e2 e3
          subst e1
          obtain ⟨b3, of3, rfl, l3, hc3⟩ := hcc ic hi
          have hcell : wr.cell? ⟨b3, of3 + ic, none⟩ = some (.int .i64 ch[ic]) := by
            rw [(hk1.trans (Keeps.of_below (S := []) Hb.out)).cell l3 (by simp)]
            simpa [encN] using hc3 0 (by omega)
          have lb3 : b3 < wr.heap.size := (hk1.trans (Keeps.of_below (S := []) Hb.out)).lt l3
          have hi' : (ic : Int) < (ch.length : Int) := by omega
          have hcb := Hci.out ch[ic] (List.getElem_mem _)
          have hr1 := Int.tmod_lt_of_pos ch[ic] (b := (Lo : Int) + 1) (by omega)
          have hr2 := Int.lt_tmod_of_pos ch[ic] (b := (Lo : Int) + 1) (by omega)
          have hkp : (ch[ic].tmod ((Lo : Int) + 1) + (Lo : Int) + 1) % ((Lo : Int) + 1) = (keepOf ch ic Lo : Int) := by
            unfold keepOf
            rw [List.getElem?_eq_getElem hi]
            simp only [Int.natCast_add, Int.natCast_one]
            have := Int.emod_nonneg (ch[ic].tmod ((Lo : Int) + 1) + (Lo : Int) + 1) (b := (Lo : Int) + 1) (by omega)
            omega
          generalize hrr : ch[ic].tmod ((Lo : Int) + 1) = r at hr1 hr2 hkp
          generalize keepOf ch ic Lo = kp at hkp hkl0 hsucc
          have Hx := Lib.hid hsucc
          have hks : sn + kp ≤ xs.size := by have := HLo.out; omega
          clear hcc e2 e3 hc3 hsucc
          by_cases hr0 : r < 0
          · have hkp2 : r + ((Lo : Int) + 1) = (kp : Int) := by rw [← hkp, Int.add_assoc, Int.emod_eq_of_lt (by omega) (by omega)]
            clear hkp
            go_wp2_with (at_builtin; refine wpList_append_own _ rfl (.tmp 60) (.tmp 62) 94 rfl w1.heap.size 133 ii _ 3 40 Try.underlying94 hii hz0 hz1 hz2 rfl (by decide) u5 G.length (G.flatMap encObj) rfl ((Ho.out.alloc _).alloc _) ⟨wr.heap.size + 1, 0, none⟩ 1 1 (encObj (xn, (xs.extract 0 (sn + kp), ((sn + kp : Nat) : Int)))) rfl rfl (news_of (new2 wr _ _).2) (by simp [encObj, Value.oneCell']) (by simp only [maxLen]; omega) (by omega) (by simp; omega) ?_; intro v' w' hown' hgrow hnil; clear hnil)
            all_goals
              have hbl : ∀ q, u5.ownBlock = some q → w1.heap.size ≤ q := fun q hq => (Ho.out.lt q hq).1
              have hbel' : Below w1.heap.size w1 w' := ((Hb.out.alloc Hb.out.size _).alloc (by simp; have := Hb.out.size; omega) _).grown hgrow (by simp; have := Hb.out.size; omega) hbl
              go_roundg (L.length - (k + 1))
              case measure => have := Hg.out; omega
              case rel => exact ⟨k + 1, by omega, by go_num, by rw [Hx.out]; go_num, rfl, by rw [Hx.out]; simpa using hown', hbel'⟩
          · have hkp2 : r = (kp : Int) := by rw [← hkp, Int.add_assoc, Int.add_emod_right, Int.emod_eq_of_lt (by omega) (by omega)]
            subst hkp2
            clear hkp
            go_wp2_with (at_builtin; refine wpList_append_own _ rfl (.tmp 60) (.tmp 62) 94 rfl w1.heap.size 133 ii _ 3 40 Try.underlying94 hii hz0 hz1 hz2 rfl (by decide) u5 G.length (G.flatMap encObj) rfl ((Ho.out.alloc _).alloc _) ⟨wr.heap.size + 1, 0, none⟩ 1 1 (encObj (xn, (xs.extract 0 (sn + kp), ((sn + kp : Nat) : Int)))) rfl rfl (news_of (new2 wr _ _).2) (by simp [encObj, Value.oneCell']) (by simp only [maxLen]; omega) (by omega) (by simp; omega) ?_; intro v' w' hown' hgrow hnil; clear hnil)
            all_goals
              have hbl : ∀ q, u5.ownBlock = some q → w1.heap.size ≤ q := fun q hq => (Ho.out.lt q hq).1
              have hbel' : Below w1.heap.size w1 w' := ((Hb.out.alloc Hb.out.size _).alloc (by simp; have := Hb.out.size; omega) _).grown hgrow (by simp; have := Hb.out.size; omega) hbl
              go_roundg (L.length - (k + 1))
              case measure => have := Hg.out; omega
              case rel => exact ⟨k + 1, by omega, by go_num, by rw [Hx.out]; go_num, rfl, by rw [Hx.out]; simpa using hown', hbel'⟩
        · have hk0 : keepOf ch ic Lo = 0 := by unfold keepOf; rw [List.getElem?_eq_none (by omega)]
          rw [hk0] at hsucc
          simp only [Nat.add_zero] at hsucc
          have Hx := Lib.hid hsucc
          clear hsucc hk0 hkl0
          have hi' : ¬ (ic : Int) < (ch.length : Int) := by omega
          go_wp2_with (at_builtin; refine wpList_append_own _ rfl (.tmp 60) (.tmp 62) 94 rfl w1.heap.size 133 ii _ 3 40 Try.underlying94 hii hz0 hz1 hz2 rfl (by decide) u5 G.length (G.flatMap encObj) rfl ((Ho.out.alloc _).alloc _) ⟨wr.heap.size + 1, 0, none⟩ 1 1 (encObj (xn, (xs.extract 0 sn, ((sn : Nat) : Int)))) rfl rfl (news_of (new2 wr _ _).2) (by simp [encObj, Value.oneCell']) (by simp only [maxLen]; omega) (by omega) (by simp; omega) ?_; intro v' w' hown' hgrow hnil; clear hnil)
          all_goals
            have hbl : ∀ q, u5.ownBlock = some q → w1.heap.size ≤ q := fun q hq => (Ho.out.lt q hq).1
            have hbel' : Below w1.heap.size w1 w' := ((Hb.out.alloc Hb.out.size _).alloc (by simp; have := Hb.out.size; omega) _).grown hgrow (by simp; have := Hb.out.size; omega) hbl
            go_roundg (L.length - (k + 1))
            case measure => have := Hg.out; omega
            case rel => exact ⟨k + 1, by omega, by go_num, by rw [Hx.out]; go_num, rfl, by rw [Hx.out]; simpa using hown', hbel'⟩
    · have hfin : Hid (refCrash ch L = (refK ch L L.length).1) := Lib.hid rfl
      have hkw := Keeps.of_below (S := []) hbel
      have r0 := hkw.at_ Hq.out.1 (by simp)
      have r1 := hkw.at_ Hq.out.2 (by simp)
      have hne : w.heap.size ≠ w.heap.size + 1 := by omega
      have c0 := cells_at r0
      have f0 := free_at r0
      have c1 := cells_at r1
      have f1 := free_at r1
      have hkk : k = L.length := by omega
      have hown1 : wr.ownsRow w1.heap.size 133 3 u5 (refCrash ch L).length ((refCrash ch L).flatMap encObj) := by
        subst hkk
        rw [hfin.out]
        exact hown
      obtain ⟨ao', cp, rfl, hr0⟩ := row_slice hown1
      clear hr0
      generalize hu : Value.slice ao' (refCrash ch L).length cp = u5 at hown1
      have s1 := ownsRow_setCell_below hown1 (a := ⟨w.heap.size, 0, none⟩) (by simp [Hsz.out]; omega) u5
      have s2 := ownsRow_setCell_below s1 (a := ⟨w.heap.size + 1, 0, none⟩) (by simp [Hsz.out]) u5
      have s2' := ownsRow_setCell_below s2 (a := ⟨w.heap.size + 1, 1, none⟩) (by simp [Hsz.out]) (.int .i64 room)
      have s3 := ownsRow_setCell_below s2' (a := ⟨w.heap.size + 1, 2, none⟩) (by simp [Hsz.out]) (.slice none 0 0)
      have t1 := heap_cell_same (i := 2) (heap_cell_same (i := 1) (heap_cell_same (i := 0) ((heap_cell_other (p := ⟨w.heap.size, 0, none⟩) u5 hne.symm).trans r1) u5) (.int .i64 room)) (.slice none 0 0)
      have hk3 := ((((hk1.trans hkw).setCell (p := ⟨w.heap.size, 0, none⟩) (.inr (Nat.le_refl _)) u5).setCell (p := ⟨w.heap.size + 1, 0, none⟩) (.inr (Nat.le_succ _)) u5).setCell (p := ⟨w.heap.size + 1, 1, none⟩) (.inr (Nat.le_succ _)) (.int .i64 room)).setCell (p := ⟨w.heap.size + 1, 2, none⟩) (.inr (Nat.le_succ _)) (.slice none 0 0)
      have Hfin := Lib.hid (And.intro s3 (And.intro (cells_at t1) hk3))
      clear r0 r1 hkk hown1 s1 s2 s3 t1 hk3 hkw hown hbel
      subst hu
      go_wp2_with fail
      have hc := Hfin.out.2.1
      refine bodyPost_ret (v := .agg #[.slice ao' (refCrash ch L).length cp, .int .i64 room, .slice none 0 0]) ?_ rfl ?_
      · simp [results, Try.results65, go_sem, hc]
      · exact ⟨_, rfl, ⟨_, _, rfl, arg_of_row (fun _ => rfl) Hfin.out.1, ⟨none, 0, 0, rfl, Nat.le_refl _, fun _ => rfl⟩, sliceArg_nil 2 encFo _, fun b n c e hn => by injection e with e1 _ _; cases e1⟩, Hfin.out.2.2⟩

end Go.Proofs.Ythcdodjdlgeeoaa
