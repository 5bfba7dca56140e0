/-
  The document's bucket (barographref05): its helpers over a list of objects.
  Each contract holds in every world in which the list can be read; old memory is left as it was.
-/
import Derived.Test.YthcdodjdlgeeoaaRefTry
import Derived.Test.YthcdodjdlgeeoaaLook
import Derived.Deep.LoopGhost
namespace Go.Proofs.Ythcdodjdlgeeoaa
open Go Go.RowKit Go.ChangeShapes Go.WideShapes Go.Deep

def encObj (p : ByteArray × Ob) : List Value := [.string p.1, .string p.2.1, .int .i64 p.2.2]
/-- The document's bucket as a value: its objects, its fuse. -/
def RefB (w : World) (v : Value) (L : List (ByteArray × Ob)) (Q : List (Int × Bool)) : Prop :=
  ∃ s f, v = .agg #[s, f] ∧ SliceArg 3 encObj w s L ∧ SlOk f ∧ FArg w f Q
theorem RefB.keep {w w' : World} {v : Value} {L : List (ByteArray × Ob)} {Q : List (Int × Bool)} (h : RefB w v L Q) (k : Keeps [] w w') : RefB w' v L Q := by
  obtain ⟨s, f, rfl, hs, ho, hf⟩ := h
  exact ⟨s, f, rfl, hs.keep k, ho, hf.keep k⟩
theorem SliceArg.form {α : Type} {size : Nat} {enc : α → List Value} {w : World} {v : Value} {L : List α} (h : SliceArg size enc w v L) : ∃ ao cap, v = .slice ao L.length cap := by
  obtain ⟨ao, cap, e, _⟩ := h
  exact ⟨ao, cap, e⟩
theorem encObj_one (L : List (ByteArray × Ob)) : ∀ u ∈ L.flatMap encObj, u.oneCell' = true := by
  intro u hu
  simp only [List.mem_flatMap, encObj, List.mem_cons, List.not_mem_nil, or_false] at hu
  obtain ⟨x, _, rfl | rfl | rfl⟩ := hu <;> rfl
theorem infoObject : (Try.prog.info? 65).map (fun i => (i.zero, i.size, i.bytes)) = some (some (.agg #[.string ⟨#[]⟩, .string ⟨#[]⟩, .int .i64 0]), 3, 40) := by kernel_rfl
/-- The three cells of an object of a list. -/
theorem objCells {w : World} {ao : Option Addr} {n cap : Nat} {L : List (ByteArray × Ob)} (h : SliceArg 3 encObj w (.slice ao n cap) L) {k : Nat} (hk : k < L.length) : ∃ b off, ao = some ⟨b, off, none⟩ ∧ b < w.heap.size ∧
    w.cell? ⟨b, off + k * 3, none⟩ = some (.string L[k].1) ∧ w.cell? ⟨b, off + k * 3 + 1, none⟩ = some (.string L[k].2.1) ∧ w.cell? ⟨b, off + k * 3 + 2, none⟩ = some (.int .i64 L[k].2.2) := by
  obtain ⟨ao', cap', he, _, hc⟩ := h
  injection he with e1 e2 e3
  subst e1
  obtain ⟨b, off, rfl, hb, hj⟩ := hc k hk
  refine ⟨b, off, rfl, hb, ?_, ?_, ?_⟩
  · simpa [encObj] using hj 0 (by omega)
  · rw [Nat.add_assoc]; simpa [encObj] using hj 1 (by omega)
  · rw [Nat.add_assoc]; simpa [encObj] using hj 2 (by omega)

/-- begins: does a text begin so? -/
theorem begins_any (s p : ByteArray) (w : World) :
    Calls Try.prog 78 #[.string s, .string p] w fun e w' => e = .returned (.bool (hasPre s p)) ∧ w' = w := by
  by_cases h : p.size ≤ s.size
  · have h' : decide ((p.size : Int) ≤ s.size) = true := by simp; omega
    go_enter Try.func78, Try.ntmps78
    go_wp2_with fail
    go_ret
    exact ⟨by simp [hasPre, h, toList_beq], rfl⟩
  · have h' : decide ((p.size : Int) ≤ s.size) = false := by simp; omega
    go_enter Try.func78, Try.ntmps78
    go_wp2_with fail
    go_ret
    exact ⟨by simp [hasPre, h], rfl⟩

/-- Where a name lies first. -/
def findIx (L : List (ByteArray × Ob)) (n : ByteArray) : Int := match L.findIdx? (fun p => decide (p.1 = n)) with | some i => i | none => -1
theorem findIx_at {L : List (ByteArray × Ob)} {n : ByteArray} {k : Nat} (hk : k < L.length) (he : L[k].1 = n) (hno : ∀ j, j < k → ∀ h : j < L.length, L[j].1 ≠ n) : findIx L n = k := by
  have : L.findIdx? (fun p => decide (p.1 = n)) = some k := by
    rw [List.findIdx?_eq_some_iff_getElem]
    exact ⟨hk, by simpa using he, fun j hj => by simpa using hno j hj (by omega)⟩
  rw [findIx, this]
theorem findIx_no {L : List (ByteArray × Ob)} {n : ByteArray} (hno : ∀ j, ∀ h : j < L.length, L[j].1 ≠ n) : findIx L n = -1 := by
  have : L.findIdx? (fun p => decide (p.1 = n)) = none := by
    rw [List.findIdx?_eq_none_iff]
    intro x hx
    obtain ⟨j, hj, rfl⟩ := List.mem_iff_getElem.1 hx
    simpa using hno j hj
  rw [findIx, this]
def FindPost (w : World) (L : List (ByteArray × Ob)) (n : ByteArray) (e : Ending) (w' : World) : Prop := e = .returned (.int .i64 (findIx L n)) ∧ Keeps [] w w'
def FindRel (w1 : World) (L : List (ByteArray × Ob)) (n : ByteArray) (gk : Nat) (i : Value) (wr : World) : Prop :=
  ∃ k, k ≤ L.length ∧ i = .int .i64 k ∧ gk = L.length - k ∧ (∀ j, j < k → ∀ h : j < L.length, L[j].1 ≠ n) ∧ Keeps [] w1 wr

set_option maxRecDepth 100000 in
set_option maxHeartbeats 1000000 in
theorem find_spec (w : World) (v : Value) (L : List (ByteArray × Ob)) (Q : List (Int × Bool)) (n : ByteArray) (h : RefB w v L Q) :
    Calls Try.prog 77 #[v, .string n] w (FindPost w L n) := by
  obtain ⟨s, f, rfl, hs, hf⟩ := h
  have hs' := hs
  clear hf
  obtain ⟨ao, cap, rfl, hl, hc0⟩ := hs
  clear hc0
  have Hs := Lib.hid hs'
  unfold maxLen at hl
  clear hs'
  go_enter Try.func77, Try.ntmps77
  go_wp2_with fail
  go_loopg [10] L.length (FindRel w L n)
  case atStart => exact ⟨0, Nat.zero_le _, rfl, rfl, by simp, (Keeps.refl [] w).alloc _⟩
  case round =>
    obtain ⟨k, hkl, rfl, hgk, hno, hk⟩ := hrel
    have Hg := Lib.hid hgk
    have Hno := Lib.hid hno
    clear hgk hno
    by_cases hlt : k < L.length
    · obtain ⟨b, off, rfl, hb, d0, d1, d2⟩ := objCells Hs.out hlt
      rw [← hk.cell hb (by simp)] at d0 d1 d2
      have hlt' : (k : Int) < (L.length : Int) := by omega
      have Hx : Hid (∀ x, x = L[k] → x.1 = L[k].1) := Lib.hid (by rintro x rfl; rfl)
      clear Hx
      generalize hx : L[k] = x at d0 d1 d2
      have Hx := Lib.hid hx
      clear hx
      obtain ⟨xn, xd, xt⟩ := x
      by_cases he : xn = n
      · have he' : (xn.toList == n.toList) = true := by rw [toList_beq]; simpa using he
        have He := Lib.hid he
        clear he
        go_wp2_with fail
        go_ret
        exact ⟨by rw [findIx_at hlt (by rw [Hx.out]; exact He.out) Hno.out]; rfl, hk.alloc _⟩
      · have he' : (xn.toList == n.toList) = false := by rw [toList_beq]; simpa using he
        have He := Lib.hid he
        clear he
        go_wp2_with fail
        go_roundg (L.length - (k + 1))
        case measure => have := Hg.out; omega
        case rel =>
          refine ⟨k + 1, by omega, by go_num, rfl, fun j hj hjl => ?_, hk.alloc _⟩
          rcases Nat.lt_succ_iff_lt_or_eq.1 hj with h | rfl
          · exact Hno.out j h hjl
          · rw [Hx.out]; exact He.out
    · have Hk := Lib.hid hk
      clear hk
      go_wp2_with fail
      go_ret
      exact ⟨by rw [findIx_no fun j hj => Hno.out j (by omega) hj]; rfl, Hk.out⟩

theorem keep_yes {α : Type} (L : List α) (p : α → Bool) (k : Nat) (hk : k < L.length) (h : p L[k] = true) : (L.take (k + 1)).filter p = (L.take k).filter p ++ [L[k]] := by
  rw [List.take_succ_eq_append_getElem hk, List.filter_append]
  simp [h]
theorem keep_no {α : Type} (L : List α) (p : α → Bool) (k : Nat) (hk : k < L.length) (h : p L[k] = false) : (L.take (k + 1)).filter p = (L.take k).filter p := by
  rw [List.take_succ_eq_append_getElem hk, List.filter_append]
  simp [h]
theorem keep_le {α : Type} (L : List α) (p : α → Bool) (k : Nat) : ((L.take k).filter p).length ≤ k := Nat.le_trans (List.length_filter_le _ _) (by rw [List.length_take]; omega)

/-- A loop that gathers objects: what it has gathered of the first k, in a row of its own. -/
def GatherRel (w1 : World) (L : List (ByteArray × Ob)) (p : ByteArray × Ob → Bool) (gk : Nat) (v i : Value) (wr : World) : Prop :=
  ∃ k, k ≤ L.length ∧ i = .int .i64 k ∧ gk = L.length - k ∧ wr.ownsRow w1.heap.size 65 3 v ((L.take k).filter p).length (((L.take k).filter p).flatMap encObj) ∧ Below w1.heap.size w1 wr

def ListsPost (w : World) (L : List (ByteArray × Ob)) (e : Ending) (w' : World) : Prop := ∃ v, e = .returned v ∧ SliceArg 3 encObj w' v L ∧ Keeps [] w w'

set_option maxRecDepth 100000 in
set_option maxHeartbeats 1000000 in
theorem refList_spec (w : World) (v : Value) (L : List (ByteArray × Ob)) (Q : List (Int × Bool)) (n : ByteArray) (hL : L.length ≤ 1000) (h : RefB w v L Q) :
    Calls Try.prog 59 #[v, .string n] w (ListsPost w (L.filter fun p => hasPre p.1 n)) := by
  obtain ⟨s, f, rfl, hs, hf⟩ := h
  have hs' := hs
  clear hf
  obtain ⟨ao, cap, rfl, hl, hc0⟩ := hs
  clear hc0
  have Hs := Lib.hid hs'
  obtain ⟨ii, hii, hz0, hz1, hz2⟩ := info_parts infoObject
  unfold maxLen at hl
  clear hs'
  go_enter Try.func59, Try.ntmps59
  go_wp2_with fail
  have hk1 : Keeps [] w (w.alloc (.cells #[.slice ao L.length cap, f] 60)) := (Keeps.refl [] w).alloc _
  generalize hw1 : w.alloc (.cells #[.slice ao L.length cap, f] 60) = w1 at hk1 ⊢
  have hsz : w1.heap.size = w.heap.size + 1 := by rw [← hw1]; simp
  have Hw1 := Lib.hid hw1
  clear hw1
  rw [← hsz]
  have Hsz := Lib.hid hsz
  clear hsz
  go_loopg [5, 12] L.length (GatherRel w1 L fun p => hasPre p.1 n)
  case atStart => exact ⟨0, Nat.zero_le _, rfl, rfl, World.ownsRow_made w1 #[] 0 (Nat.le_refl _) (by simp [maxLen]) rfl, (Below.refl _ _).alloc (Nat.le_refl _) _⟩
  case round =>
    obtain ⟨k, hkl, rfl, hgk, hown, hbel⟩ := hrel
    have Hg := Lib.hid hgk
    clear hgk
    by_cases hlt : k < L.length
    · obtain ⟨b, off, rfl, hb, d0, d1, d2⟩ := objCells Hs.out hlt
      have hb1 := hk1.lt hb
      rw [← hk1.cell hb (by simp), ← hbel.cell (p := ⟨b, _, none⟩) hb1] at d0 d1 d2
      have hlt' : (k : Int) < (L.length : Int) := by omega
      generalize hx : L[k] = x at d0 d1 d2
      obtain ⟨xn, xd, xt⟩ := x
      have Hb := Lib.hid hbel
      have Ho := Lib.hid hown
      have hle := keep_le L (fun p => hasPre p.1 n) k
      clear hbel hown
      cases hp : hasPre xn n with
      | true =>
        have Hx := Lib.hid (keep_yes L (fun p => hasPre p.1 n) k hlt (by rw [hx]; exact hp))
        rw [hx] at Hx
        have Hp := Lib.hid hp
        clear hx hp
        generalize (L.take k).filter (fun p => hasPre p.1 n) = G at Ho hle Hx
        go_wp2_with (first | (go_at_call 78; refine (begins_any _ _ _).mono ?_; rintro e w' ⟨rfl, rfl⟩; rw [Hp.out]) | (at_builtin; refine wpList_append_own _ rfl (.tmp 20) (.tmp 22) 55 rfl w1.heap.size 65 ii _ 3 40 Try.underlying55 hii hz0 hz1 hz2 rfl (by decide) u5 G.length (G.flatMap encObj) rfl ((Ho.out.alloc _).alloc _) ⟨wr.heap.size + 1, 0, none⟩ 1 1 (encObj (xn, xd, xt)) rfl rfl (news_of (new2 wr _ _).2) (by simp [encObj, Value.oneCell']) (by simp only [maxLen]; omega) (by omega) (by simp; have := Hb.out.size; omega) ?_; intro v' w' hown' hgrow hnil; clear hnil))
        have hbl : ∀ q, u5.ownBlock = some q → w1.heap.size ≤ q := fun q hq => (Ho.out.lt q hq).1
        have hbel' : Below w1.heap.size w1 w' := ((Hb.out.alloc Hb.out.size _).alloc (by simp; have := Hb.out.size; omega) _).grown hgrow (by simp; have := Hb.out.size; omega) hbl
        go_roundg (L.length - (k + 1))
        case measure => have := Hg.out; omega
        case rel => exact ⟨k + 1, by omega, by go_num, rfl, by rw [Hx.out]; simpa using hown', hbel'⟩
      | false =>
        have Hx := Lib.hid (keep_no L (fun p => hasPre p.1 n) k hlt (by rw [hx]; exact hp))
        have Hp := Lib.hid hp
        clear hx hp
        go_wp2_with (go_at_call 78; refine (begins_any _ _ _).mono ?_; rintro e w' ⟨rfl, rfl⟩; rw [Hp.out])
        go_roundg (L.length - (k + 1))
        case measure => have := Hg.out; omega
        case rel => exact ⟨k + 1, by omega, by go_num, rfl, by rw [Hx.out]; exact Ho.out.alloc _, Hb.out.alloc Hb.out.size _⟩
    · have Hb := Lib.hid hbel
      have Ho := Lib.hid hown
      clear hbel hown
      go_wp2_with fail
      go_ret
      have hkk : k = L.length := by omega
      subst hkk
      have hown := Ho.out
      rw [List.take_length] at hown
      exact ⟨_, rfl, arg_of_row (fun _ => rfl) hown, hk1.trans (Keeps.of_below Hb.out)⟩

def BPost (w : World) (L : List (ByteArray × Ob)) (Q : List (Int × Bool)) (e : Ending) (w' : World) : Prop := ∃ v, e = .returned v ∧ RefB w' v L Q ∧ Keeps [] w w'

set_option maxRecDepth 100000 in
set_option maxHeartbeats 1000000 in
theorem without_spec (w : World) (v : Value) (L : List (ByteArray × Ob)) (Q : List (Int × Bool)) (n : ByteArray) (hL : L.length ≤ 1000) (h : RefB w v L Q) :
    Calls Try.prog 76 #[v, .string n] w (BPost w (L.filter fun p => !decide (p.1 = n)) Q) := by
  obtain ⟨s, f, rfl, hs, hf⟩ := h
  have hs' := hs
  obtain ⟨fa, fc, rfl⟩ := hf.2.form
  have Hf := Lib.hid hf
  clear hf
  obtain ⟨ao, cap, rfl, hl, hc0⟩ := hs
  clear hc0
  have Hs := Lib.hid hs'
  obtain ⟨ii, hii, hz0, hz1, hz2⟩ := info_parts infoObject
  unfold maxLen at hl
  clear hs'
  go_enter Try.func76, Try.ntmps76
  go_wp2_with fail
  have hk1 : Keeps [] w ((w.alloc (.cells #[.slice ao L.length cap, .slice fa Q.length fc] 60)).alloc (.cells #[.slice none 0 0, .slice none 0 0] 60)) := ((Keeps.refl [] w).alloc _).alloc _
  obtain ⟨q0, q1⟩ := new2 w (.cells #[.slice ao L.length cap, .slice fa Q.length fc] 60) (.cells #[.slice none 0 0, .slice none 0 0] 60)
  generalize hw1 : ((w.alloc (.cells #[.slice ao L.length cap, .slice fa Q.length fc] 60)).alloc (.cells #[.slice none 0 0, .slice none 0 0] 60)) = w1 at hk1 q0 q1 ⊢
  have hsz : w1.heap.size = w.heap.size + 1 + 1 := by rw [← hw1]; simp
  have Hq := Lib.hid (And.intro q0 q1)
  clear q0 q1
  have Hw1 := Lib.hid hw1
  clear hw1
  rw [← hsz]
  have Hsz := Lib.hid hsz
  clear hsz
  go_loopg [5, 12] L.length (GatherRel w1 L fun p => !decide (p.1 = n))
  case atStart => exact ⟨0, Nat.zero_le _, rfl, rfl, World.ownsRow_made w1 #[] 0 (Nat.le_refl _) (by simp [maxLen]) rfl, (Below.refl _ _).alloc (Nat.le_refl _) _⟩
  case round =>
    obtain ⟨k, hkl, rfl, hgk, hown, hbel⟩ := hrel
    have Hg := Lib.hid hgk
    clear hgk
    by_cases hlt : k < L.length
    · obtain ⟨b, off, rfl, hb, d0, d1, d2⟩ := objCells Hs.out hlt
      have hb1 := hk1.lt hb
      rw [← hk1.cell hb (by simp), ← hbel.cell (p := ⟨b, _, none⟩) hb1] at d0 d1 d2
      have hlt' : (k : Int) < (L.length : Int) := by omega
      generalize hx : L[k] = x at d0 d1 d2
      obtain ⟨xn, xd, xt⟩ := x
      have Hb := Lib.hid hbel
      have Ho := Lib.hid hown
      have hle := keep_le L (fun p => !decide (p.1 = n)) k
      clear hbel hown
      cases hp : !decide (xn = n) with
      | true =>
        have Hx := Lib.hid (keep_yes L (fun p => !decide (p.1 = n)) k hlt (by rw [hx]; exact hp))
        rw [hx] at Hx
        have hp' : (xn.toList == n.toList) = false := by rw [toList_beq]; simpa using hp
        clear hx hp
        generalize (L.take k).filter (fun p => !decide (p.1 = n)) = G at Ho hle Hx
        go_wp2_with (at_builtin; refine wpList_append_own _ rfl (.tmp 20) (.tmp 22) 55 rfl w1.heap.size 65 ii _ 3 40 Try.underlying55 hii hz0 hz1 hz2 rfl (by decide) u5 G.length (G.flatMap encObj) rfl ((Ho.out.alloc _).alloc _) ⟨wr.heap.size + 1, 0, none⟩ 1 1 (encObj (xn, xd, xt)) rfl rfl (news_of (new2 wr _ _).2) (by simp [encObj, Value.oneCell']) (by simp only [maxLen]; omega) (by omega) (by simp; have := Hb.out.size; omega) ?_; intro v' w' hown' hgrow hnil; clear hnil)
        have hbl : ∀ q, u5.ownBlock = some q → w1.heap.size ≤ q := fun q hq => (Ho.out.lt q hq).1
        have hbel' : Below w1.heap.size w1 w' := ((Hb.out.alloc Hb.out.size _).alloc (by simp; have := Hb.out.size; omega) _).grown hgrow (by simp; have := Hb.out.size; omega) hbl
        go_roundg (L.length - (k + 1))
        case measure => have := Hg.out; omega
        case rel => exact ⟨k + 1, by omega, by go_num, rfl, by rw [Hx.out]; simpa using hown', hbel'⟩
      | false =>
        have Hx := Lib.hid (keep_no L (fun p => !decide (p.1 = n)) k hlt (by rw [hx]; exact hp))
        have hp' : (xn.toList == n.toList) = true := by rw [toList_beq]; simpa using hp
        clear hx hp
        go_wp2_with fail
        go_roundg (L.length - (k + 1))
        case measure => have := Hg.out; omega
        case rel => exact ⟨k + 1, by omega, by go_num, rfl, by rw [Hx.out]; exact Ho.out.alloc _, Hb.out.alloc Hb.out.size _⟩
    · have hkw := Keeps.of_below (S := []) hbel
      have r0 := hkw.at_ Hq.out.1 (by simp)
      have r1 := hkw.at_ Hq.out.2 (by simp)
      have hne : w.heap.size ≠ w.heap.size + 1 := by omega
      have c0 := cells_at r0
      have f0 := free_at r0
      have c1 := cells_at r1
      have f1 := free_at r1
      have hkk : k = L.length := by omega
      have hown1 : wr.ownsRow w1.heap.size 65 3 u5 (L.filter fun p => !decide (p.1 = n)).length ((L.filter fun p => !decide (p.1 = n)).flatMap encObj) := by
        subst hkk
        rwa [List.take_length] at hown
      obtain ⟨ao', cp, rfl, hr0⟩ := row_slice hown1
      clear hr0
      generalize hu : Value.slice ao' (L.filter fun p => !decide (p.1 = n)).length cp = u5 at hown1
      have s1 := ownsRow_setCell_below hown1 (a := ⟨w.heap.size, 0, none⟩) (by simp [Hsz.out]; omega) u5
      have s2 := ownsRow_setCell_below s1 (a := ⟨w.heap.size + 1, 0, none⟩) (by simp [Hsz.out]) u5
      have s3 := ownsRow_setCell_below s2 (a := ⟨w.heap.size + 1, 1, none⟩) (by simp [Hsz.out]) (.slice fa Q.length fc)
      have t1 := heap_cell_same (i := 1) (heap_cell_same (i := 0) ((heap_cell_other (p := ⟨w.heap.size, 0, none⟩) u5 hne.symm).trans r1) u5) (.slice fa Q.length fc)
      have hk3 := (((hk1.trans hkw).setCell (p := ⟨w.heap.size, 0, none⟩) (.inr (Nat.le_refl _)) u5).setCell (p := ⟨w.heap.size + 1, 0, none⟩) (.inr (Nat.le_succ _)) u5).setCell (p := ⟨w.heap.size + 1, 1, none⟩) (.inr (Nat.le_succ _)) (.slice fa Q.length fc)
      have Hfin := Lib.hid (And.intro s3 (And.intro (cells_at t1) hk3))
      clear r0 r1 hkk hown1 s1 s2 s3 t1 hk3 hkw hown hbel
      subst hu
      go_wp2_with fail
      have hc := Hfin.out.2.1
      refine bodyPost_ret (v := .agg #[.slice ao' (L.filter fun p => !decide (p.1 = n)).length cp, .slice fa Q.length fc]) ?_ rfl ?_
      · simp [results, Try.results76, go_sem, hc]
      · exact ⟨_, rfl, ⟨_, _, rfl, arg_of_row (fun _ => rfl) Hfin.out.1, Hf.out.1, Hf.out.2.keep Hfin.out.2.2⟩, Hfin.out.2.2⟩

end Go.Proofs.Ythcdodjdlgeeoaa
