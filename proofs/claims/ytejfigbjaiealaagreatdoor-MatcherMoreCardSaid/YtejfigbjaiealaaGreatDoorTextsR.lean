/-
  The document's Texts, and the law's texts (are they these?), walked.
  The slices are of few texts.

  The document's Names, Values and Get of the series that are told (package barographref12), walked.
  The series are few, of few pairs.

  The index that Grow makes, by what the document says of the series that stay: All, Get, Names, Values.
  No condition beyond those that each theorem states.
-/
import Derived.Test.YtejfigbjaiealaaGreatDoorPostGood
import Derived.Test.YtejfigbjaiealaaGreatDoorGrowG
namespace Go.Proofs.YtejfigbjaiealaaGreatDoor
open Go Go.RowKit
open Go.Op (bytesLess)

abbrev Strs (B : Nat) (w : World) (v : Value) (l : List ByteArray) : Prop := SliceFrom B 1 (fun x => [Value.string x]) w v l

abbrev OwnS (B : Nat) (w : World) (v : Value) (l : List ByteArray) : Prop := w.ownsRow B 9 1 v l.length (l.map Value.string)

theorem OwnS.strs {B : Nat} {w : World} {v : Value} {l : List ByteArray} (h : OwnS B w v l) : Strs B w v l := by
  refine sliceFrom_row (e := 9) (fun _ => rfl) ?_
  rw [flat_one]
  exact h

theorem infoStrT : (Tryz.prog.info? 9).map (fun i => (i.zero, i.size, i.bytes)) = some (some (.string ⟨#[]⟩), 1, 16) := by kernel_rfl

def TextsRel (w : World) (l : List ByteArray) (gk : Nat) (u13 : Value) (wr : World) : Prop := ∃ k, k ≤ l.length ∧ gk = l.length - k ∧ u13 = .int .i64 k ∧ Keeps [] w wr

set_option maxRecDepth 100000 in
set_option maxHeartbeats 1000000 in
theorem texts_spec (B B' : Nat) (w : World) (va vb : Value) (l : List ByteArray) (ha : Strs B w va l) (hb : Strs B' w vb l) :
    Calls Tryz.prog 12 #[va, vb] w fun e w' => e = .returned (.bool true) ∧ Keeps [] w w' := by
  have Hf := Lib.hid (And.intro ha hb)
  obtain ⟨ao, cap, rfl, hl, -, -, -⟩ := ha
  obtain ⟨bo, cbp, rfl, -, -, -, -⟩ := hb
  unfold maxLen at hl
  go_enter Tryz.func12, Tryz.ntmps12
  go_wp2_with fail
  go_loopg [13] l.length (TextsRel w l)
  case atStart => exact ⟨0, Nat.zero_le _, rfl, rfl, Keeps.refl [] w⟩
  case round =>
    obtain ⟨k, hk, hgk, rfl, hkw⟩ := hrel
    have Hg := Lib.hid hgk
    clear hgk
    by_cases hlt : k < l.length
    · obtain ⟨b1, of1, ea, hb1, d1⟩ := sf_at1 (Hf.out.1.keep hkw (by simp)) k hlt
      obtain ⟨b2, of2, eb, hb2, d2⟩ := sf_at1 (Hf.out.2.keep hkw (by simp)) k hlt
      subst ea eb
      have hlt' : (k : Int) < (l.length : Int) := by omega
      have Hk := Lib.hid hkw
      generalize l[k] = x at d1 d2
      have hxx : (x.toList == x.toList) = true := by simp
      clear hkw
      go_wp2_with fail
      go_quiet (fail)
      have Hk2 := Lib.hid (Hk.out.drewN nq)
      clear d1 d2 Hk
      generalize wr.drewN nq = W at Hk2 ⊢
      go_wp2_with fail
      go_roundg (l.length - (k + 1))
      case measure => have := Hg.out; omega
      case rel => exact ⟨k + 1, by omega, rfl, by go_num, Hk2.out⟩
    · have hkn : k = l.length := by omega
      subst hkn
      have Hk := Lib.hid hkw
      clear hkw
      go_wp2_with fail
      go_ret
      exact ⟨rfl, Hk.out⟩

def TxtRel (w : World) (l : List ByteArray) (s : ByteArray) (gk : Nat) (u5 u6 u12 : Value) (wr : World) : Prop :=
  ∃ k, k ≤ l.length ∧ gk = l.length - k ∧ u12 = .int .i64 k ∧ u6 = .bool (txtSo l s k).2 ∧ OwnS w.heap.size wr u5 (txtSo l s k).1 ∧ Keeps [] w wr

theorem txtStep_eq {s x : ByteArray} {st : List ByteArray × Bool} (h : x = s) : txtStep s st x = (st.1 ++ [x], true) := by unfold txtStep; rw [if_pos h]

theorem txtStep_put {s x : ByteArray} {S : List ByteArray} (h : ¬ x = s) (h2 : ltT s x) : txtStep s (S, false) x = (S ++ [s] ++ [x], true) := by unfold txtStep; rw [if_neg h, if_pos ⟨rfl, h2⟩]

theorem txtStep_on {s x : ByteArray} {S : List ByteArray} {d : Bool} (h : ¬ x = s) (h2 : ¬ (d = false ∧ ltT s x)) : txtStep s (S, d) x = (S ++ [x], d) := by unfold txtStep; rw [if_neg h, if_neg h2]

theorem bl_asymm {a b : ByteArray} (h : ltT a b) : bytesLess b.toList a.toList = false := by
  cases hb : bytesLess b.toList a.toList with
  | false => rfl
  | true => exact absurd (ltT_tr _ _ _ h hb) (ltT_irr a)

set_option linter.unusedSimpArgs false in
set_option maxRecDepth 100000 in
set_option maxHeartbeats 1000000 in
theorem textsR_spec (B : Nat) (w : World) (v : Value) (l : List ByteArray) (s : ByteArray) (h : Strs B w v l) (hl : l.length ≤ 1000) :
    Calls Tryz.prog 34 #[v, .string s] w fun e w' => ∃ v', e = .returned v' ∧ OwnS w.heap.size w' v' (txtL l s) ∧ Keeps [] w w' := by
  obtain ⟨ii, hii, hz0, hz1, hz2⟩ := info_parts infoStrT
  have k0 : Keeps [] w (w.alloc (.cells #[] 9)) := (Keeps.refl [] w).alloc _
  have Hf := Lib.hid h
  have H0 := Lib.hid (And.intro (own_made w w.heap.size 9 1 (Nat.le_refl _)) k0)
  obtain ⟨ao, cap, rfl, -, -, -, -⟩ := h
  have Hput := Lib.hid (show txtL l s = txtEnd s (txtSo l s l.length) from rfl)
  generalize txtL l s = R at Hput ⊢
  clear k0
  go_enter Tryz.func34, Tryz.ntmps34
  go_wp2_with fail
  go_loopg [5, 6, 12] l.length (TxtRel w l s)
  case atStart => exact ⟨0, Nat.zero_le _, rfl, rfl, rfl, by simpa [txtSo, OwnS] using H0.out.1, H0.out.2⟩
  case round =>
    obtain ⟨k, hk, hgk, rfl, rfl, hrow, hkw⟩ := hrel
    have Hg := Lib.hid hgk
    have hsl := (txtSo_len l s k).1
    clear hgk
    by_cases hlt : k < l.length
    · obtain ⟨b, of, ea, hb, d0⟩ := sf_at1 (Hf.out.keep hkw (by simp)) k hlt
      subst ea
      have hlt' : (k : Int) < (l.length : Int) := by omega
      have Hs := Lib.hid (txtSo_succ l s hlt)
      generalize l[k] = x at d0 Hs
      generalize txtSo l s k = st at hrow hsl Hs ⊢
      obtain ⟨S, d⟩ := st
      dsimp only at hrow hsl ⊢
      obtain ⟨ax, cx, rfl, hxc, hxm, -⟩ := row_slice hrow
      have Hr := Lib.hid (And.intro hrow hkw)
      have hws := hkw.size
      clear hrow hkw
      have hways : (x = s ∧ (x.toList == s.toList) = true) ∨ ((x.toList == s.toList) = false ∧ d = true ∧ txtStep s (S, d) x = (S ++ [x], d)) ∨ ((x.toList == s.toList) = false ∧ d = false ∧ bytesLess x.toList s.toList = true ∧ txtStep s (S, d) x = (S ++ [x], d)) ∨ ((x.toList == s.toList) = false ∧ d = false ∧ bytesLess x.toList s.toList = false ∧ txtStep s (S, d) x = (S ++ [s] ++ [x], true)) := by
        by_cases h1 : x = s
        · exact .inl ⟨h1, by rw [h1]; simp⟩
        · have hb : (x.toList == s.toList) = false := by rw [toList_beq]; simp [h1]
          cases d with
          | true => exact .inr (.inl ⟨hb, rfl, txtStep_on h1 (by simp)⟩)
          | false =>
            by_cases h2 : ltT s x
            · exact .inr (.inr (.inr ⟨hb, rfl, bl_asymm h2, txtStep_put h1 h2⟩))
            · exact .inr (.inr (.inl ⟨hb, rfl, ltT_or (fun e => h1 e.symm) h2, txtStep_on h1 (fun h => h2 h.2)⟩))
      rcases hways with ⟨rfl, hb⟩ | ⟨hb, rfl, hst⟩ | ⟨hb, rfl, hbl, hst⟩ | ⟨hb, rfl, hbl, hst⟩
      · have Hst := Lib.hid (show txtStep x (S, d) x = (S ++ [x], true) from txtStep_eq rfl)
        go_wp2_with (at_builtin; refine wpList_append_own _ rfl (.tmp 30) (.tmp 32) 40 rfl w.heap.size 9 ii _ 1 16 Tryz.underlying40 hii hz0 hz1 hz2 rfl (by decide) (.slice ax S.length cx) S.length (S.map Value.string) rfl (Hr.out.1.alloc _) ⟨wr.heap.size, 0, none⟩ 1 1 [.string x] rfl rfl (news_of (heap_new wr _)) (by simp [Value.oneCell']) (by simp only [maxLen]; omega) (by omega) (by simp; omega) ?_; intro v9 w9 hown9 hgrow9 hnil; clear hnil; obtain ⟨ao9, cp9, hv9, -, -, -⟩ := row_slice hown9; subst hv9)
        have hk9 := keeps_own (Hr.out.2.alloc (.cells #[.string x] 9)) hgrow9 (fun g hg => (World.ownsRow.lt Hr.out.1 g hg).1)
        have H9 := Lib.hid (And.intro hown9 hk9)
        clear hown9 hgrow9 hk9
        go_wp2_with fail
        go_roundg (l.length - (k + 1))
        case measure => have := Hg.out; omega
        case rel => exact ⟨k + 1, by omega, rfl, by go_num, by rw [Hs.out, Hst.out], by rw [Hs.out, Hst.out]; simpa [OwnS] using H9.out.1, H9.out.2⟩
      · have Hst := Lib.hid hst
        clear hst
        go_wp2_with (at_builtin; refine wpList_append_own _ rfl (.tmp 30) (.tmp 32) 40 rfl w.heap.size 9 ii _ 1 16 Tryz.underlying40 hii hz0 hz1 hz2 rfl (by decide) (.slice ax S.length cx) S.length (S.map Value.string) rfl (Hr.out.1.alloc _) ⟨wr.heap.size, 0, none⟩ 1 1 [.string x] rfl rfl (news_of (heap_new wr _)) (by simp [Value.oneCell']) (by simp only [maxLen]; omega) (by omega) (by simp; omega) ?_; intro v9 w9 hown9 hgrow9 hnil; clear hnil; obtain ⟨ao9, cp9, hv9, -, -, -⟩ := row_slice hown9; subst hv9)
        have hk9 := keeps_own (Hr.out.2.alloc (.cells #[.string x] 9)) hgrow9 (fun g hg => (World.ownsRow.lt Hr.out.1 g hg).1)
        have H9 := Lib.hid (And.intro hown9 hk9)
        clear hown9 hgrow9 hk9
        go_wp2_with fail
        go_roundg (l.length - (k + 1))
        case measure => have := Hg.out; omega
        case rel => exact ⟨k + 1, by omega, rfl, by go_num, by rw [Hs.out, Hst.out], by rw [Hs.out, Hst.out]; simpa [OwnS] using H9.out.1, H9.out.2⟩
      · have Hst := Lib.hid hst
        clear hst
        go_wp2_with (at_builtin; refine wpList_append_own _ rfl (.tmp 30) (.tmp 32) 40 rfl w.heap.size 9 ii _ 1 16 Tryz.underlying40 hii hz0 hz1 hz2 rfl (by decide) (.slice ax S.length cx) S.length (S.map Value.string) rfl (Hr.out.1.alloc _) ⟨wr.heap.size, 0, none⟩ 1 1 [.string x] rfl rfl (news_of (heap_new wr _)) (by simp [Value.oneCell']) (by simp only [maxLen]; omega) (by omega) (by simp; omega) ?_; intro v9 w9 hown9 hgrow9 hnil; clear hnil; obtain ⟨ao9, cp9, hv9, -, -, -⟩ := row_slice hown9; subst hv9)
        have hk9 := keeps_own (Hr.out.2.alloc (.cells #[.string x] 9)) hgrow9 (fun g hg => (World.ownsRow.lt Hr.out.1 g hg).1)
        have H9 := Lib.hid (And.intro hown9 hk9)
        clear hown9 hgrow9 hk9
        go_wp2_with fail
        go_roundg (l.length - (k + 1))
        case measure => have := Hg.out; omega
        case rel => exact ⟨k + 1, by omega, rfl, by go_num, by rw [Hs.out, Hst.out], by rw [Hs.out, Hst.out]; simpa [OwnS] using H9.out.1, H9.out.2⟩
      · have Hst := Lib.hid hst
        clear hst
        go_upto_region 10 with (at_builtin; refine wpList_append_own _ rfl (.tmp 26) (.tmp 28) 40 rfl w.heap.size 9 ii _ 1 16 Tryz.underlying40 hii hz0 hz1 hz2 rfl (by decide) (.slice ax S.length cx) S.length (S.map Value.string) rfl (Hr.out.1.alloc _) ⟨wr.heap.size, 0, none⟩ 1 1 [.string s] rfl rfl (news_of (heap_new wr _)) (by simp [Value.oneCell']) (by simp only [maxLen]; omega) (by omega) (by simp; omega) ?_; intro v8 w8 hown8 hgrow8 hnil; clear hnil; obtain ⟨ao8, cp8, hv8, -, -, -⟩ := row_slice hown8; subst hv8)
        have hk8 := keeps_own (Hr.out.2.alloc (.cells #[.string s] 9)) hgrow8 (fun g hg => (World.ownsRow.lt Hr.out.1 g hg).1)
        have hws8 := hk8.size
        have H8 := Lib.hid (And.intro hown8 hk8)
        clear hown8 hgrow8 hk8
        go_wp2_with (at_builtin; refine wpList_append_own _ rfl (.tmp 30) (.tmp 32) 40 rfl w.heap.size 9 ii _ 1 16 Tryz.underlying40 hii hz0 hz1 hz2 rfl (by decide) (.slice ao8 (S.length + 1) cp8) (S.length + 1) _ rfl (H8.out.1.alloc _) ⟨w8.heap.size, 0, none⟩ 1 1 [.string x] rfl rfl (news_of (heap_new w8 _)) (by simp [Value.oneCell']) (by simp only [maxLen]; omega) (by omega) (by simp; omega) ?_; intro v9 w9 hown9 hgrow9 hnil; clear hnil; obtain ⟨ao9, cp9, hv9, -, -, -⟩ := row_slice hown9; subst hv9)
        have hk9 := keeps_own (H8.out.2.alloc (.cells #[.string x] 9)) hgrow9 (fun g hg => (World.ownsRow.lt H8.out.1 g hg).1)
        have H9 := Lib.hid (And.intro hown9 hk9)
        clear hown9 hgrow9 hk9
        go_wp2_with fail
        go_roundg (l.length - (k + 1))
        case measure => have := Hg.out; omega
        case rel => exact ⟨k + 1, by omega, rfl, by go_num, by rw [Hs.out, Hst.out], by rw [Hs.out, Hst.out]; simpa [OwnS] using H9.out.1, H9.out.2⟩
    · have hkn : k = l.length := by omega
      subst hkn
      generalize txtSo l s l.length = st at hrow hsl Hput ⊢
      obtain ⟨S, d⟩ := st
      dsimp only at hrow hsl ⊢
      obtain ⟨ax, cx, rfl, hxc, hxm, -⟩ := row_slice hrow
      have Hr := Lib.hid (And.intro hrow hkw)
      have hws := hkw.size
      clear hrow hkw
      cases d with
      | true =>
        go_wp2_with fail
        go_ret
        exact ⟨_, rfl, by rw [Hput.out]; exact Hr.out.1, Hr.out.2⟩
      | false =>
        go_wp2_with (at_builtin; refine wpList_append_own _ rfl (.tmp 37) (.tmp 39) 40 rfl w.heap.size 9 ii _ 1 16 Tryz.underlying40 hii hz0 hz1 hz2 rfl (by decide) (.slice ax S.length cx) S.length (S.map Value.string) rfl (Hr.out.1.alloc _) ⟨wr.heap.size, 0, none⟩ 1 1 [.string s] rfl rfl (news_of (heap_new wr _)) (by simp [Value.oneCell']) (by simp only [maxLen]; omega) (by omega) (by simp; omega) ?_; intro v9 w9 hown9 hgrow9 hnil; clear hnil; obtain ⟨ao9, cp9, hv9, -, -, -⟩ := row_slice hown9; subst hv9)
        have hk9 := keeps_own (Hr.out.2.alloc (.cells #[.string s] 9)) hgrow9 (fun g hg => (World.ownsRow.lt Hr.out.1 g hg).1)
        have H9 := Lib.hid (And.intro hown9 hk9)
        clear hown9 hgrow9 hk9
        go_wp2_with fail
        go_ret
        exact ⟨_, rfl, by rw [Hput.out]; simpa [OwnS, txtEnd] using H9.out.1, H9.out.2⟩
end Go.Proofs.YtejfigbjaiealaaGreatDoor

namespace Go.Proofs.YtejfigbjaiealaaGreatDoor
open Go Go.RowKit

structure ToldR (w : World) (v : Value) (TV : List SerV) : Prop where
  row : SliceFrom 0 2 encSV w v TV
  ser : ∀ q ∈ TV, SliceFrom 0 2 encPB w q.2 q.1.2

theorem ToldR.keep {w w' : World} {v : Value} {TV : List SerV} (h : ToldR w v TV) (k : Keeps [] w w') : ToldR w' v TV := ⟨go1 k h.row, fun q hq => go1 k (h.ser q hq)⟩

instance go1ToldR {w w' : World} (v : Value) (TV : List SerV) : Go1 w w' (ToldR w v TV) (ToldR w' v TV) := ⟨fun k h => h.keep k⟩

theorem ToldAt.read {B : Nat} {w : World} {vo : Value} {TV : List SerV} (h : ToldAt B w vo TV) : ToldR w vo TV :=
  ⟨sliceFrom_row (fun _ => rfl) (row_base (b' := 0) h.row (Nat.zero_le _)), fun q hq => sliceFrom_row (fun _ => rfl) (h.ser q hq)⟩

theorem ser_at {w : World} {a : Option Addr} {n c : Nat} {TV : List SerV} (h : SliceFrom 0 2 encSV w (.slice a n c) TV) (k : Nat) (hk : k < TV.length) : ∃ b off, a = some ⟨b, off, none⟩ ∧ b < w.heap.size ∧ w.cell? ⟨b, off + k * 2, none⟩ = some (.int .i64 TV[k].1.1) ∧ w.cell? ⟨b, off + k * 2 + 1, none⟩ = some TV[k].2 := by
  obtain ⟨b, off, e, _, hb, hc⟩ := sf_at h k hk
  exact ⟨b, off, e, hb, (by simpa [encSV] using hc 0 (by decide)), (by have := hc 1 (by decide); rw [← Nat.add_assoc] at this; simpa [encSV] using this)⟩

theorem putL_len1 (l : List Int) (n : Int) : (putL l n).length ≤ l.length + 1 := by
  unfold putL
  split
  · omega
  · rw [length_insL]; omega

theorem putAll_len (X : List Int) : (putAll X).length ≤ X.length := by
  have key : ∀ (X o : List Int), (X.foldl putL o).length ≤ o.length + X.length := by
    intro X
    induction X with
    | nil => intro o; simp
    | cons x X ih =>
      intro o
      have h1 := ih (putL o x)
      have h2 := putL_len1 o x
      rw [List.foldl_cons, List.length_cons]
      omega
  simpa [putAll] using key X []

theorem nmX_snoc (P : List PairB) (p : PairB) : nmX (P ++ [p]) = nmX P ++ [p.1] := by simp [nmX]

theorem valX_yes {nm : ByteArray} {P : List PairB} {p : PairB} (h : p.1 = nm) : valX nm (P ++ [p]) = valX nm P ++ [p.2] := by simp [valX, List.filter_append, h]

theorem valX_no {nm : ByteArray} {P : List PairB} {p : PairB} (h : ¬ p.1 = nm) : valX nm (P ++ [p]) = valX nm P := by simp [valX, List.filter_append, h]

theorem getX_yes {nm val : ByteArray} {s : SerT} {P : List PairB} {p : PairB} (h : p.1 = nm ∧ p.2 = val) : getX nm val s (P ++ [p]) = getX nm val s P ++ [s.1] := by simp [getX, List.filter_append, h]

theorem getX_no {nm val : ByteArray} {s : SerT} {P : List PairB} {p : PairB} (h : ¬ (p.1 = nm ∧ p.2 = val)) : getX nm val s (P ++ [p]) = getX nm val s P := by
  have : [p].filter (fun p => decide (p.1 = nm ∧ p.2 = val)) = [] := by simp [h]
  unfold getX
  rw [List.filter_append, List.map_append]
  simp [h]

theorem nmX_app (P Q : List PairB) : nmX (P ++ Q) = nmX P ++ nmX Q := by simp [nmX]

theorem valX_app (nm : ByteArray) (P Q : List PairB) : valX nm (P ++ Q) = valX nm P ++ valX nm Q := by simp [valX]

theorem allP_snoc (T : List SerT) (s : SerT) : allP (T ++ [s]) = allP T ++ s.2 := by simp [allP]

theorem getXs_snoc (nm val : ByteArray) (T : List SerT) (s : SerT) : getXs nm val (T ++ [s]) = getXs nm val T ++ getX nm val s s.2 := by simp [getXs]

theorem mapTake {TV : List SerV} {k : Nat} (hk : k < TV.length) : (TV.take (k + 1)).map (·.1) = (TV.take k).map (·.1) ++ [TV[k].1] := by rw [List.take_succ_eq_append_getElem hk, List.map_append]; rfl

theorem nmX_len (P : List PairB) : (nmX P).length = P.length := by simp [nmX]

theorem valX_len (nm : ByteArray) (P : List PairB) : (valX nm P).length ≤ P.length := by unfold valX; rw [List.length_map]; exact List.length_filter_le _ _

theorem getX_len (nm val : ByteArray) (s : SerT) (P : List PairB) : (getX nm val s P).length ≤ P.length := by unfold getX; rw [List.length_map]; exact List.length_filter_le _ _

theorem getXs_len {nm val : ByteArray} {T : List SerT} (h : ∀ s ∈ T, s.2.length ≤ 10) : (getXs nm val T).length ≤ T.length * 10 := by
  induction T with
  | nil => simp [getXs]
  | cons s T ih =>
    have h1 := h s List.mem_cons_self
    have h2 := ih fun x hx => h x (List.mem_cons_of_mem _ hx)
    have h3 := getX_len nm val s s.2
    have e : getXs nm val (s :: T) = getX nm val s s.2 ++ getXs nm val T := by simp [getXs]
    rw [e, List.length_append, List.length_cons]
    omega

theorem takeT_len {TV : List SerV} (h10 : ∀ q ∈ TV, q.1.2.length ≤ 10) (hl : TV.length ≤ 12) (k : Nat) : (∀ s ∈ (TV.take k).map (·.1), s.2.length ≤ 10) ∧ ((TV.take k).map (·.1)).length ≤ 12 := by
  refine ⟨fun s hs => ?_, by rw [List.length_map, List.length_take]; omega⟩
  obtain ⟨q, hq, rfl⟩ := List.mem_map.1 hs
  exact h10 q (List.mem_of_mem_take hq)

def NamesOut (w : World) (TV : List SerV) (gk : Nat) (u3 u11 : Value) (wr : World) : Prop :=
  ∃ k, k ≤ TV.length ∧ gk = TV.length - k ∧ u11 = .int .i64 k ∧ OwnS w.heap.size wr u3 (insAll (nmX (allP ((TV.take k).map (·.1))))) ∧ Keeps [] w wr

def NamesIn (w : World) (sb : Nat) (s : SerT) (vs : Value) (X : List ByteArray) (gk : Nat) (u3 u18 : Value) (wr : World) : Prop :=
  ∃ j, j ≤ s.2.length ∧ gk = s.2.length - j ∧ u18 = .int .i64 j ∧ OwnS w.heap.size wr u3 (insAll (X ++ nmX (s.2.take j))) ∧ wr.heap[sb]? = some (.cells #[.int .i64 s.1, vs] 31 (0, 0)) ∧ Keeps [] w wr

set_option linter.unusedSimpArgs false in
set_option maxRecDepth 100000 in
set_option maxHeartbeats 2000000 in
theorem namesR_spec (w : World) (v : Value) (TV : List SerV) (h : ToldR w v TV) (hl : TV.length ≤ 12) (h10 : ∀ q ∈ TV, q.1.2.length ≤ 10) :
    Calls Tryz.prog 17 #[v] w fun e w' => ∃ v', e = .returned v' ∧ OwnS w.heap.size w' v' (insAll (nmX (allP (TV.map (·.1))))) ∧ Keeps [] w w' := by
  have Hf := Lib.hid (And.intro h (takeT_len h10 hl))
  have h10' := Lib.hid h10
  have hmx := h.row
  have hser := Lib.hid h.ser
  obtain ⟨ao, cap, rfl, -, -, -, -⟩ := hmx
  have H0 := Lib.hid (And.intro (own_made w w.heap.size 9 1 (Nat.le_refl _)) ((Keeps.refl [] w).alloc (.cells #[] 9)))
  clear h h10
  go_enter Tryz.func17, Tryz.ntmps17
  go_wp2_with fail
  go_loopg [3, 11] TV.length (NamesOut w TV)
  case atStart => exact ⟨0, Nat.zero_le _, rfl, rfl, by simpa [allP, nmX, insAll, OwnS] using H0.out.1, H0.out.2⟩
  case round =>
    obtain ⟨k, hk, hgk, rfl, hrow, hkw⟩ := hrel
    have Hg := Lib.hid hgk
    clear hgk H0
    have hX := allP_len (Hf.out.2 k).1 (Hf.out.2 k).2
    have hT := (Hf.out.2 k).2
    by_cases hlt : k < TV.length
    · obtain ⟨b, off, ea, hb, d0, d1⟩ := ser_at (go1 hkw Hf.out.1).row k hlt
      subst ea
      have hlt' : (k : Int) < (TV.length : Int) := by omega
      have hs1 := h10'.out TV[k] (List.getElem_mem hlt)
      have hv1 := hser.out TV[k] (List.getElem_mem hlt)
      have HX := Lib.hid (mapTake hlt)
      generalize TV[k] = q at d0 d1 hs1 hv1 HX
      obtain ⟨s, vs⟩ := q
      dsimp only at d0 d1 hs1 hv1 HX
      obtain ⟨a2, c2, rfl, -, -, -, -⟩ := id hv1
      obtain ⟨X, hXe⟩ : ∃ X, X = nmX (allP ((TV.take k).map (·.1))) := ⟨_, rfl⟩
      have hXl : X.length ≤ 120 := by rw [hXe]; rw [nmX_len]; omega
      rw [← hXe] at hrow
      have HXe := Lib.hid hXe
      clear hXe hX hT
      have kA : Keeps [] wr (wr.alloc (.cells #[.int .i64 s.1, .slice a2 s.2.length c2] 31)) := (Keeps.refl [] wr).alloc _
      have H1 := Lib.hid (And.intro (go1 kA (And.intro hrow hkw)) (heap_new wr (.cells #[.int .i64 s.1, .slice a2 s.2.length c2] 31)))
      have Hv := Lib.hid hv1
      have Hrf := Lib.hid (row_slice hrow)
      clear kA hrow hkw hv1
      obtain ⟨ax, cx, hax, -, -, -⟩ := Hrf.out
      clear Hrf
      subst hax
      go_upto_region 5 with fail
      clear d0 d1 hb
      generalize hwa : wr.alloc (.cells #[.int .i64 s.1, .slice a2 s.2.length c2] 31) = wa at H1 ⊢
      generalize hsb : wr.heap.size = sb at H1 ⊢
      clear hwa hsb
      have cs := cells_at H1.out.2
      have ls := lt_of_at H1.out.2
      go_wp2_with fail
      clear cs ls
      go_loopg [3, 18] s.2.length (NamesIn w sb s (.slice a2 s.2.length c2) X)
      case atStart => exact ⟨0, Nat.zero_le _, rfl, rfl, by simpa [nmX] using H1.out.1.1, H1.out.2, H1.out.1.2⟩
      case round =>
        obtain ⟨j, hj, hgj, rfl, hrow, hsb, hkw⟩ := hrel
        have Hgj := Lib.hid hgj
        clear hgj H1
        by_cases hltj : j < s.2.length
        · obtain ⟨b5, off5, cap5, ea, hb5, d0, d1⟩ := pair_at (go1 hkw Hv.out).arg j hltj
          injection ea with ea _ ec
          subst ea ec
          have hltj' : (j : Int) < (s.2.length : Int) := by omega
          have HS := Lib.hid (show s.2.take (j + 1) = s.2.take j ++ [s.2[j]] from List.take_succ_eq_append_getElem hltj)
          generalize s.2[j] = p at d0 d1 HS
          obtain ⟨p1, p2⟩ := p
          dsimp only at d0 d1
          obtain ⟨S, hS⟩ : ∃ S, S = insAll (X ++ nmX (s.2.take j)) := ⟨_, rfl⟩
          have hSl : S.length ≤ 200 := by
            rw [hS]
            have h1 := (insAll_good (X ++ nmX (s.2.take j))).2.2
            have h2 : (nmX (s.2.take j)).length ≤ 10 := by
              have h3 := nmX_len (s.2.take j)
              rw [List.length_take] at h3
              omega
            rw [List.length_append] at h1
            omega
          rw [← hS] at hrow
          have HSe := Lib.hid hS
          clear hS
          obtain ⟨ay, cy, rfl, -, -, -⟩ := row_slice hrow
          have kP : Keeps [] wr (wr.alloc (.cells #[.string p1, .string p2] 34)) := (Keeps.refl [] wr).alloc _
          have H2 := Lib.hid (And.intro (go1 kP (And.intro hrow (And.intro hsb hkw))) (heap_new wr (.cells #[.string p1, .string p2] 34)))
          clear hrow hsb hkw kP
          go_upto_region 8 with fail
          clear d0 d1 hb5
          generalize hwp : wr.alloc (.cells #[.string p1, .string p2] 34) = wp at H2 ⊢
          generalize hpb : wr.heap.size = pb at H2 ⊢
          clear hwp hpb
          have cp := cells_at H2.out.2
          have lp := lt_of_at H2.out.2
          go_wp2_with fail
          refine (textsR_spec w.heap.size _ _ S p1 (OwnS.strs H2.out.1.1) (by omega)).mono ?_
          rintro e w8 ⟨v8, rfl, hown8, hk8⟩
          have H8 := Lib.hid (And.intro (row_base (b' := w.heap.size) hown8 H2.out.1.2.2.size) (go1 hk8 H2.out.1.2))
          clear hown8 hk8 cp lp H2
          go_wp2_with fail
          go_roundg (s.2.length - (j + 1))
          case measure => have := Hgj.out; omega
          case rel => exact ⟨j + 1, hltj, rfl, by go_num, by rw [HS.out, nmX_snoc, ← List.append_assoc, insAll_snoc, ← txtL_ins, ← HSe.out]; exact H8.out.1, H8.out.2.1, H8.out.2.2⟩
        · have hge : ¬ (j : Int) < (s.2.length : Int) := by omega
          have hjn := Lib.hid (show j = s.2.length from by omega)
          have Hr := Lib.hid (And.intro hrow hkw)
          clear hrow hsb hkw
          go_wp2_with fail
          go_roundg (TV.length - (k + 1))
          case measure => have := Hg.out; omega
          case rel =>
            have h1 := Hr.out.1
            rw [hjn.out, List.take_length, HXe.out] at h1
            exact ⟨k + 1, hlt, rfl, by go_num, by rw [HX.out, allP_snoc, nmX_app]; exact h1, Hr.out.2⟩
    · have hge : ¬ (k : Int) < (TV.length : Int) := by omega
      have hkn := Lib.hid (show k = TV.length from by omega)
      obtain ⟨Z, hZ⟩ : ∃ Z, Z = insAll (nmX (allP ((TV.take k).map (·.1)))) := ⟨_, rfl⟩
      rw [← hZ] at hrow
      have HZ := Lib.hid (show Z = insAll (nmX (allP (TV.map (·.1)))) from by rw [hZ, hkn.out, List.take_length])
      have Hr := Lib.hid (And.intro hrow hkw)
      obtain ⟨ax, cx, rfl, -, -, -⟩ := row_slice hrow
      clear hrow hkw hZ
      go_wp2_with fail
      go_ret
      exact ⟨_, rfl, by rw [← HZ.out]; exact Hr.out.1, Hr.out.2⟩

def ValuesOut (w : World) (TV : List SerV) (nm : ByteArray) (gk : Nat) (u5 u13 : Value) (wr : World) : Prop :=
  ∃ k, k ≤ TV.length ∧ gk = TV.length - k ∧ u13 = .int .i64 k ∧ OwnS w.heap.size wr u5 (insAll (valX nm (allP ((TV.take k).map (·.1))))) ∧ Keeps [] w wr

def ValuesIn (w : World) (sb : Nat) (s : SerT) (vs : Value) (X : List ByteArray) (nm : ByteArray) (gk : Nat) (u5 u20 : Value) (wr : World) : Prop :=
  ∃ j, j ≤ s.2.length ∧ gk = s.2.length - j ∧ u20 = .int .i64 j ∧ OwnS w.heap.size wr u5 (insAll (X ++ valX nm (s.2.take j))) ∧ wr.heap[sb]? = some (.cells #[.int .i64 s.1, vs] 31 (0, 0)) ∧ Keeps [] w wr

set_option linter.unusedSimpArgs false in
set_option maxRecDepth 100000 in
set_option maxHeartbeats 2000000 in
theorem valuesR_spec (w : World) (v : Value) (TV : List SerV) (nm : ByteArray) (h : ToldR w v TV) (hl : TV.length ≤ 12) (h10 : ∀ q ∈ TV, q.1.2.length ≤ 10) :
    Calls Tryz.prog 14 #[v, .string nm] w fun e w' => ∃ v', e = .returned v' ∧ OwnS w.heap.size w' v' (insAll (valX nm (allP (TV.map (·.1))))) ∧ Keeps [] w w' := by
  have Hf := Lib.hid (And.intro h (takeT_len h10 hl))
  have h10' := Lib.hid h10
  have hmx := h.row
  have hser := Lib.hid h.ser
  obtain ⟨ao, cap, rfl, -, -, -, -⟩ := hmx
  have H0 := Lib.hid (And.intro (own_made w w.heap.size 9 1 (Nat.le_refl _)) ((Keeps.refl [] w).alloc (.cells #[] 9)))
  clear h h10
  go_enter Tryz.func14, Tryz.ntmps14
  go_wp2_with fail
  go_loopg [5, 13] TV.length (ValuesOut w TV nm)
  case atStart => exact ⟨0, Nat.zero_le _, rfl, rfl, by simpa [allP, valX, insAll, OwnS] using H0.out.1, H0.out.2⟩
  case round =>
    obtain ⟨k, hk, hgk, rfl, hrow, hkw⟩ := hrel
    have Hg := Lib.hid hgk
    clear hgk H0
    have hX := allP_len (Hf.out.2 k).1 (Hf.out.2 k).2
    have hT := (Hf.out.2 k).2
    by_cases hlt : k < TV.length
    · obtain ⟨b, off, ea, hb, d0, d1⟩ := ser_at (go1 hkw Hf.out.1).row k hlt
      subst ea
      have hlt' : (k : Int) < (TV.length : Int) := by omega
      have hs1 := h10'.out TV[k] (List.getElem_mem hlt)
      have hv1 := hser.out TV[k] (List.getElem_mem hlt)
      have HX := Lib.hid (mapTake hlt)
      generalize TV[k] = q at d0 d1 hs1 hv1 HX
      obtain ⟨s, vs⟩ := q
      dsimp only at d0 d1 hs1 hv1 HX
      obtain ⟨a2, c2, rfl, -, -, -, -⟩ := id hv1
      obtain ⟨X, hXe⟩ : ∃ X, X = valX nm (allP ((TV.take k).map (·.1))) := ⟨_, rfl⟩
      have hXl : X.length ≤ 120 := by rw [hXe]; have := valX_len nm (allP ((TV.take k).map (·.1))); omega
      rw [← hXe] at hrow
      have HXe := Lib.hid hXe
      clear hXe hX hT
      have kA : Keeps [] wr (wr.alloc (.cells #[.int .i64 s.1, .slice a2 s.2.length c2] 31)) := (Keeps.refl [] wr).alloc _
      have H1 := Lib.hid (And.intro (go1 kA (And.intro hrow hkw)) (heap_new wr (.cells #[.int .i64 s.1, .slice a2 s.2.length c2] 31)))
      have Hv := Lib.hid hv1
      have Hrf := Lib.hid (row_slice hrow)
      clear kA hrow hkw hv1
      obtain ⟨ax, cx, hax, -, -, -⟩ := Hrf.out
      clear Hrf
      subst hax
      go_upto_region 5 with fail
      clear d0 d1 hb
      generalize hwa : wr.alloc (.cells #[.int .i64 s.1, .slice a2 s.2.length c2] 31) = wa at H1 ⊢
      generalize hsb : wr.heap.size = sb at H1 ⊢
      clear hwa hsb
      have cs := cells_at H1.out.2
      have ls := lt_of_at H1.out.2
      go_wp2_with fail
      clear cs ls
      go_loopg [5, 20] s.2.length (ValuesIn w sb s (.slice a2 s.2.length c2) X nm)
      case atStart => exact ⟨0, Nat.zero_le _, rfl, rfl, by simpa [valX] using H1.out.1.1, H1.out.2, H1.out.1.2⟩
      case round =>
        obtain ⟨j, hj, hgj, rfl, hrow, hsb, hkw⟩ := hrel
        have Hgj := Lib.hid hgj
        clear hgj H1
        by_cases hltj : j < s.2.length
        · obtain ⟨b5, off5, cap5, ea, hb5, d0, d1⟩ := pair_at (go1 hkw Hv.out).arg j hltj
          injection ea with ea _ ec
          subst ea ec
          have hltj' : (j : Int) < (s.2.length : Int) := by omega
          have HS := Lib.hid (show s.2.take (j + 1) = s.2.take j ++ [s.2[j]] from List.take_succ_eq_append_getElem hltj)
          generalize s.2[j] = p at d0 d1 HS
          obtain ⟨p1, p2⟩ := p
          dsimp only at d0 d1
          obtain ⟨S, hS⟩ : ∃ S, S = insAll (X ++ valX nm (s.2.take j)) := ⟨_, rfl⟩
          have hSl : S.length ≤ 200 := by
            rw [hS]
            have h1 := (insAll_good (X ++ valX nm (s.2.take j))).2.2
            have h2 : (valX nm (s.2.take j)).length ≤ 10 := by
              have h3 := valX_len nm (s.2.take j)
              rw [List.length_take] at h3
              omega
            rw [List.length_append] at h1
            omega
          rw [← hS] at hrow
          have HSe := Lib.hid hS
          clear hS
          obtain ⟨ay, cy, rfl, -, -, -⟩ := row_slice hrow
          have kP : Keeps [] wr (wr.alloc (.cells #[.string p1, .string p2] 34)) := (Keeps.refl [] wr).alloc _
          have H2 := Lib.hid (And.intro (go1 kP (And.intro hrow (And.intro hsb hkw))) (heap_new wr (.cells #[.string p1, .string p2] 34)))
          clear hrow hsb hkw kP
          go_upto_region 8 with fail
          clear d0 d1 hb5
          generalize hwp : wr.alloc (.cells #[.string p1, .string p2] 34) = wp at H2 ⊢
          generalize hpb : wr.heap.size = pb at H2 ⊢
          clear hwp hpb
          have cp := cells_at H2.out.2
          have lp := lt_of_at H2.out.2
          by_cases hp1 : p1 = nm
          · have hq1 : (p1.toList == nm.toList) = true := by rw [toList_beq]; simp [hp1]
            have Hp1 := Lib.hid hp1
            clear hp1
            go_wp2_with fail
            refine (textsR_spec w.heap.size _ _ S p2 (OwnS.strs H2.out.1.1) (by omega)).mono ?_
            rintro e w8 ⟨v8, rfl, hown8, hk8⟩
            have H8 := Lib.hid (And.intro (row_base (b' := w.heap.size) hown8 H2.out.1.2.2.size) (go1 hk8 H2.out.1.2))
            clear hown8 hk8 cp lp H2
            go_wp2_with fail
            go_roundg (s.2.length - (j + 1))
            case measure => have := Hgj.out; omega
            case rel => exact ⟨j + 1, hltj, rfl, by go_num, by rw [HS.out, valX_yes Hp1.out, ← List.append_assoc, insAll_snoc, ← txtL_ins, ← HSe.out]; exact H8.out.1, H8.out.2.1, H8.out.2.2⟩
          · have hq1 : (p1.toList == nm.toList) = false := by rw [toList_beq]; simp [hp1]
            have Hp1 := Lib.hid hp1
            clear hp1
            go_wp2_with fail
            go_roundg (s.2.length - (j + 1))
            case measure => have := Hgj.out; omega
            case rel => exact ⟨j + 1, hltj, rfl, by go_num, by rw [HS.out, valX_no Hp1.out, ← HSe.out]; exact H2.out.1.1, H2.out.1.2.1, H2.out.1.2.2⟩
        · have hge : ¬ (j : Int) < (s.2.length : Int) := by omega
          have hjn := Lib.hid (show j = s.2.length from by omega)
          have Hr := Lib.hid (And.intro hrow hkw)
          clear hrow hsb hkw
          go_wp2_with fail
          go_roundg (TV.length - (k + 1))
          case measure => have := Hg.out; omega
          case rel =>
            have h1 := Hr.out.1
            rw [hjn.out, List.take_length, HXe.out] at h1
            exact ⟨k + 1, hlt, rfl, by go_num, by rw [HX.out, allP_snoc, valX_app]; exact h1, Hr.out.2⟩
    · have hge : ¬ (k : Int) < (TV.length : Int) := by omega
      have hkn := Lib.hid (show k = TV.length from by omega)
      obtain ⟨Z, hZ⟩ : ∃ Z, Z = insAll (valX nm (allP ((TV.take k).map (·.1)))) := ⟨_, rfl⟩
      rw [← hZ] at hrow
      have HZ := Lib.hid (show Z = insAll (valX nm (allP (TV.map (·.1)))) from by rw [hZ, hkn.out, List.take_length])
      have Hr := Lib.hid (And.intro hrow hkw)
      obtain ⟨ax, cx, rfl, -, -, -⟩ := row_slice hrow
      clear hrow hkw hZ
      go_wp2_with fail
      go_ret
      exact ⟨_, rfl, by rw [← HZ.out]; exact Hr.out.1, Hr.out.2⟩

def GetOut (w : World) (TV : List SerV) (nm val : ByteArray) (gk : Nat) (u7 u15 : Value) (wr : World) : Prop :=
  ∃ k, k ≤ TV.length ∧ gk = TV.length - k ∧ u15 = .int .i64 k ∧ Own w.heap.size wr u7 (putAll (getXs nm val ((TV.take k).map (·.1)))) ∧ Keeps [] w wr

def GetIn (w : World) (sb : Nat) (s : SerT) (vs : Value) (X : List Int) (nm val : ByteArray) (gk : Nat) (u7 u22 : Value) (wr : World) : Prop :=
  ∃ j, j ≤ s.2.length ∧ gk = s.2.length - j ∧ u22 = .int .i64 j ∧ Own w.heap.size wr u7 (putAll (X ++ getX nm val s (s.2.take j))) ∧ wr.heap[sb]? = some (.cells #[.int .i64 s.1, vs] 31 (0, 0)) ∧ Keeps [] w wr

set_option linter.unusedSimpArgs false in
set_option maxRecDepth 100000 in
set_option maxHeartbeats 2000000 in
theorem get12_spec (w : World) (v : Value) (TV : List SerV) (nm val : ByteArray) (h : ToldR w v TV) (hl : TV.length ≤ 12) (h10 : ∀ q ∈ TV, q.1.2.length ≤ 10) :
    Calls Tryz.prog 11 #[v, .string nm, .string val] w fun e w' => ∃ v', e = .returned v' ∧ Own w.heap.size w' v' (putAll (getXs nm val (TV.map (·.1)))) ∧ Keeps [] w w' := by
  have Hf := Lib.hid (And.intro h (takeT_len h10 hl))
  have h10' := Lib.hid h10
  have hmx := h.row
  have hser := Lib.hid h.ser
  obtain ⟨ao, cap, rfl, -, -, -, -⟩ := hmx
  have H0 := Lib.hid (And.intro (own_made w w.heap.size 3 1 (Nat.le_refl _)) ((Keeps.refl [] w).alloc (.cells #[] 3)))
  clear h h10
  go_enter Tryz.func11, Tryz.ntmps11
  go_wp2_with fail
  go_loopg [7, 15] TV.length (GetOut w TV nm val)
  case atStart => exact ⟨0, Nat.zero_le _, rfl, rfl, by simpa [allP, getXs, putAll, Own] using H0.out.1, H0.out.2⟩
  case round =>
    obtain ⟨k, hk, hgk, rfl, hrow, hkw⟩ := hrel
    have Hg := Lib.hid hgk
    clear hgk H0
    have hX := getXs_len (nm := nm) (val := val) (Hf.out.2 k).1
    have hT := (Hf.out.2 k).2
    by_cases hlt : k < TV.length
    · obtain ⟨b, off, ea, hb, d0, d1⟩ := ser_at (go1 hkw Hf.out.1).row k hlt
      subst ea
      have hlt' : (k : Int) < (TV.length : Int) := by omega
      have hs1 := h10'.out TV[k] (List.getElem_mem hlt)
      have hv1 := hser.out TV[k] (List.getElem_mem hlt)
      have HX := Lib.hid (mapTake hlt)
      generalize TV[k] = q at d0 d1 hs1 hv1 HX
      obtain ⟨s, vs⟩ := q
      dsimp only at d0 d1 hs1 hv1 HX
      obtain ⟨a2, c2, rfl, -, -, -, -⟩ := id hv1
      obtain ⟨X, hXe⟩ : ∃ X, X = getXs nm val ((TV.take k).map (·.1)) := ⟨_, rfl⟩
      have hXl : X.length ≤ 120 := by rw [hXe]; omega
      rw [← hXe] at hrow
      have HXe := Lib.hid hXe
      clear hXe hX hT
      have kA : Keeps [] wr (wr.alloc (.cells #[.int .i64 s.1, .slice a2 s.2.length c2] 31)) := (Keeps.refl [] wr).alloc _
      have H1 := Lib.hid (And.intro (go1 kA (And.intro hrow hkw)) (heap_new wr (.cells #[.int .i64 s.1, .slice a2 s.2.length c2] 31)))
      have Hv := Lib.hid hv1
      have Hrf := Lib.hid (row_slice hrow)
      clear kA hrow hkw hv1
      obtain ⟨ax, cx, hax, -, -, -⟩ := Hrf.out
      clear Hrf
      subst hax
      go_upto_region 5 with fail
      clear d0 d1 hb
      generalize hwa : wr.alloc (.cells #[.int .i64 s.1, .slice a2 s.2.length c2] 31) = wa at H1 ⊢
      generalize hsb : wr.heap.size = sb at H1 ⊢
      clear hwa hsb
      have cs := cells_at H1.out.2
      have ls := lt_of_at H1.out.2
      go_wp2_with fail
      clear cs ls
      go_loopg [7, 22] s.2.length (GetIn w sb s (.slice a2 s.2.length c2) X nm val)
      case atStart => exact ⟨0, Nat.zero_le _, rfl, rfl, by simpa [getX] using H1.out.1.1, H1.out.2, H1.out.1.2⟩
      case round =>
        obtain ⟨j, hj, hgj, rfl, hrow, hsb, hkw⟩ := hrel
        have Hgj := Lib.hid hgj
        clear hgj H1
        by_cases hltj : j < s.2.length
        · obtain ⟨b5, off5, cap5, ea, hb5, d0, d1⟩ := pair_at (go1 hkw Hv.out).arg j hltj
          injection ea with ea _ ec
          subst ea ec
          have hltj' : (j : Int) < (s.2.length : Int) := by omega
          have HS := Lib.hid (show s.2.take (j + 1) = s.2.take j ++ [s.2[j]] from List.take_succ_eq_append_getElem hltj)
          generalize s.2[j] = p at d0 d1 HS
          obtain ⟨p1, p2⟩ := p
          dsimp only at d0 d1
          obtain ⟨S, hS⟩ : ∃ S, S = putAll (X ++ getX nm val s (s.2.take j)) := ⟨_, rfl⟩
          have hSl : S.length ≤ 200 := by
            rw [hS]
            have h1 := putAll_len (X ++ getX nm val s (s.2.take j))
            have h2 : (getX nm val s (s.2.take j)).length ≤ 10 := by
              have h3 := getX_len nm val s (s.2.take j)
              rw [List.length_take] at h3
              omega
            rw [List.length_append] at h1
            omega
          rw [← hS] at hrow
          have HSe := Lib.hid hS
          clear hS
          obtain ⟨ay, cy, rfl, -, -, -⟩ := row_slice hrow
          have kP : Keeps [] wr (wr.alloc (.cells #[.string p1, .string p2] 34)) := (Keeps.refl [] wr).alloc _
          have H2 := Lib.hid (And.intro (go1 kP (And.intro hrow (And.intro hsb hkw))) (heap_new wr (.cells #[.string p1, .string p2] 34)))
          clear hrow hsb hkw kP
          go_upto_region 8 with fail
          clear d0 d1 hb5
          generalize hwp : wr.alloc (.cells #[.string p1, .string p2] 34) = wp at H2 ⊢
          generalize hpb : wr.heap.size = pb at H2 ⊢
          clear hwp hpb
          have cp := cells_at H2.out.2
          have lp := lt_of_at H2.out.2
          have hways : ((p1.toList == nm.toList) = true ∧ (p2.toList == val.toList) = true ∧ (p1 = nm ∧ p2 = val)) ∨ ((p1.toList == nm.toList) = true ∧ (p2.toList == val.toList) = false ∧ ¬ (p1 = nm ∧ p2 = val)) ∨ ((p1.toList == nm.toList) = false ∧ ¬ (p1 = nm ∧ p2 = val)) := by
            rw [toList_beq, toList_beq]
            by_cases h1 : p1 = nm
            · by_cases h2 : p2 = val
              · exact .inl ⟨by simp [h1], by simp [h2], h1, h2⟩
              · exact .inr (.inl ⟨by simp [h1], by simp [h2], fun h => h2 h.2⟩)
            · exact .inr (.inr ⟨by simp [h1], fun h => h1 h.1⟩)
          have cs := cells_at H2.out.1.2.1
          have ls := lt_of_at H2.out.1.2.1
          rcases hways with ⟨hq1, hq2, hpe⟩ | ⟨hq1, hq2, hpe⟩ | ⟨hq1, hpe⟩
          · have Hp1 := Lib.hid hpe
            clear hpe
            go_wp2_with fail
            refine (putR_spec w.heap.size _ _ S s.1 (Own.ints H2.out.1.1) (by omega)).mono ?_
            rintro e w8 ⟨v8, rfl, hown8, hk8⟩
            have H8 := Lib.hid (And.intro (row_base (b' := w.heap.size) hown8 H2.out.1.2.2.size) (go1 hk8 H2.out.1.2))
            clear hown8 hk8 cp lp cs ls H2
            go_wp2_with fail
            go_roundg (s.2.length - (j + 1))
            case measure => have := Hgj.out; omega
            case rel => exact ⟨j + 1, hltj, rfl, by go_num, by rw [HS.out, getX_yes Hp1.out, ← List.append_assoc, putAll_snoc, ← HSe.out]; exact H8.out.1, H8.out.2.1, H8.out.2.2⟩
          · have Hp1 := Lib.hid hpe
            clear hpe
            go_wp2_with fail
            go_roundg (s.2.length - (j + 1))
            case measure => have := Hgj.out; omega
            case rel => exact ⟨j + 1, hltj, rfl, by go_num, by rw [HS.out, getX_no Hp1.out, ← HSe.out]; exact H2.out.1.1, H2.out.1.2.1, H2.out.1.2.2⟩
          · have Hp1 := Lib.hid hpe
            clear hpe
            go_wp2_with fail
            go_roundg (s.2.length - (j + 1))
            case measure => have := Hgj.out; omega
            case rel => exact ⟨j + 1, hltj, rfl, by go_num, by rw [HS.out, getX_no Hp1.out, ← HSe.out]; exact H2.out.1.1, H2.out.1.2.1, H2.out.1.2.2⟩
        · have hge : ¬ (j : Int) < (s.2.length : Int) := by omega
          have hjn := Lib.hid (show j = s.2.length from by omega)
          have Hr := Lib.hid (And.intro hrow hkw)
          clear hrow hsb hkw
          go_wp2_with fail
          go_roundg (TV.length - (k + 1))
          case measure => have := Hg.out; omega
          case rel =>
            have h1 := Hr.out.1
            rw [hjn.out, List.take_length, HXe.out] at h1
            exact ⟨k + 1, hlt, rfl, by go_num, by rw [HX.out, getXs_snoc]; exact h1, Hr.out.2⟩
    · have hge : ¬ (k : Int) < (TV.length : Int) := by omega
      have hkn := Lib.hid (show k = TV.length from by omega)
      obtain ⟨Z, hZ⟩ : ∃ Z, Z = putAll (getXs nm val ((TV.take k).map (·.1))) := ⟨_, rfl⟩
      rw [← hZ] at hrow
      have HZ := Lib.hid (show Z = putAll (getXs nm val (TV.map (·.1))) from by rw [hZ, hkn.out, List.take_length])
      have Hr := Lib.hid (And.intro hrow hkw)
      obtain ⟨ax, cx, rfl, -, -, -⟩ := row_slice hrow
      clear hrow hkw hZ
      go_wp2_with fail
      go_ret
      exact ⟨_, rfl, by rw [← HZ.out]; exact Hr.out.1, Hr.out.2⟩
end Go.Proofs.YtejfigbjaiealaaGreatDoor

namespace Go.Proofs.YtejfigbjaiealaaGreatDoor
open Go Go.RowKit

/-- At x lies the index of these series. -/
def Idx (w : World) (x : Nat) (T : List SerT) : Prop := ∃ (B mb : Nat) (va : Value) (E : OutG) (all : List Int), IxG B w x mb va E all ∧ RowsOk E ∧ GrowI 12 T (absG E) all

theorem Idx.keep {w w' : World} {x : Nat} {T : List SerT} (h : Idx w x T) (k : Keeps [] w w') : Idx w' x T := by
  obtain ⟨B, mb, va, E, all, h1, h2⟩ := h
  exact ⟨B, mb, va, E, all, h1.keep k, h2⟩

instance go1Idx {w w' : World} (x : Nat) (T : List SerT) : Go1 w w' (Idx w x T) (Idx w' x T) := ⟨fun k h => h.keep k⟩

theorem allD_spec (w : World) (x : Nat) (T : List SerT) (h : Idx w x T) :
    Calls Tryz.prog 15 #[.pointer (some ⟨x, 0, none⟩)] w fun e w' => ∃ v, e = .returned v ∧ Own w.heap.size w' v (putAll (T.map (·.1))) ∧ Keeps [] w w' := by
  obtain ⟨B, mb, va, E, all, h1, h2, h3⟩ := h
  have := allG_spec B w x mb va E all h1 (by have := h3.allOk.len; omega)
  rw [h3.all_doc] at this
  exact this

theorem getD_spec (w : World) (x : Nat) (T : List SerT) (nm val : ByteArray) (h : Idx w x T) :
    Calls Tryz.prog 10 #[.pointer (some ⟨x, 0, none⟩), .string nm, .string val] w fun e w' => ∃ v, e = .returned v ∧ Own w.heap.size w' v (putAll (getXs nm val T)) ∧ Keeps [] w w' := by
  obtain ⟨B, mb, va, E, all, h1, h2, h3⟩ := h
  have := getG_spec B w x mb va E all nm val h1 h2
  rw [h3.get_doc] at this
  exact this

theorem size42 {n : Nat} (h : n ≤ 42) : n ≤ maxLen := by unfold maxLen; omega

theorem namesD_spec (w : World) (x : Nat) (T : List SerT) (h : Idx w x T) :
    Calls Tryz.prog 16 #[.pointer (some ⟨x, 0, none⟩)] w fun e w' => ∃ v, e = .returned v ∧ OwnS w.heap.size w' v (insAll (nmX (allP T))) ∧ Keeps [] w w' := by
  obtain ⟨B, mb, va, E, all, h1, h2, h3⟩ := h
  have hz := h3.sizes (Nat.le_refl _) h1.nodupG
  have hE : (absG E).length = E.length := by simp [absG]
  have := namesG_spec B w x mb va E all h1 (fun p hp => size42 (hz.2 (p.1, p.2.2.map fun q => (q.1, q.2.l)) (List.mem_map.2 ⟨p, hp, rfl⟩)).1) (by have := hz.1; omega)
  rw [h3.names_doc h1.nodupG] at this
  exact this

theorem sortedNil_call (w : World) :
    Calls Tryz.prog 32 #[.func (.func 54) #[] #[.pointer (some ⟨w.heap.size, 0, none⟩)]] (w.alloc (.cells #[.map none] 72))
      fun e w' => ∃ v, e = .returned v ∧ OwnS (w.heap.size + 1) w' v [] ∧ Keeps [] w w' := by
  refine (callsIn_wide.1 (Tryz.slices_Sorted_keys_nil_32_33 w)).mono ?_
  rintro e w' ⟨v, ss, rfl, rfl, hrow, _, hb⟩
  refine ⟨v, rfl, ?_, (Keeps.refl [] w).alloc _ |>.trans (Keeps.of_below hb)⟩
  simpa [OwnS] using hrow

set_option maxRecDepth 100000 in
set_option maxHeartbeats 1000000 in
theorem valuesNone_spec (B : Nat) (w : World) (x mb : Nat) (va : Value) (E : OutG) (all : List Int) (nm : ByteArray) (h : IxG B w x mb va E all) (hI : look (absG E) nm = none) :
    Calls Tryz.prog 13 #[.pointer (some ⟨x, 0, none⟩), .string nm] w fun e w' => ∃ v, e = .returned v ∧ OwnS w.heap.size w' v [] ∧ Keeps [] w w' := by
  have c0 := cells_at h.at_
  have l0 := lt_of_at h.at_
  have hlk : look E nm = none := by
    rw [absG_look] at hI
    cases hq : look E nm with
    | none => rfl
    | some e => rw [hq] at hI; cases hI
  have F1 := h.map.run_lookup (P := Tryz.prog) Tryz.underlying73 Tryz.underlying9 (zeroInner w) nm false
  rw [show lookVal (encMap encEntG E) nm (.map none) false = .map none from by simp [lookVal, look_enc, hlk]] at F1
  clear h hI hlk
  go_enter Tryz.func13, Tryz.ntmps13
  go_wp2_with fail
  refine (mapKeysGI_call w none).mono ?_
  rintro e w1 ⟨rfl, rfl⟩
  go_wp2_with fail
  refine (sortedNil_call w).mono ?_
  rintro e w2 ⟨v2, rfl, hrow, hk⟩
  have Hk := Lib.hid (And.intro (row_base (b' := w.heap.size) hrow (by omega)) hk)
  clear hrow hk c0 l0
  go_wp2_with fail
  go_ret
  exact ⟨_, rfl, Hk.out.1, Hk.out.2⟩

theorem valuesD_spec (w : World) (x : Nat) (T : List SerT) (nm : ByteArray) (h : Idx w x T) :
    Calls Tryz.prog 13 #[.pointer (some ⟨x, 0, none⟩), .string nm] w fun e w' => ∃ v, e = .returned v ∧ OwnS w.heap.size w' v (insAll (valX nm (allP T))) ∧ Keeps [] w w' := by
  obtain ⟨B, mb, va, E, all, h1, h2, h3⟩ := h
  cases hI : look (absG E) nm with
  | none =>
    rw [h3.values_none hI]
    exact valuesNone_spec B w x mb va E all nm h1 hI
  | some I =>
    have hz := h3.sizes (Nat.le_refl _) h1.nodupG
    have hm := hz.2 _ (look_memG hI)
    have := valuesG_spec B w x mb va E all nm I h1 hI (fun p hp => size42 (hm.2.2 p hp)) (Nat.le_trans hm.2.1 (by decide))
    rw [h3.values_doc h1.nodupG hI] at this
    exact this

theorem idx_of {w : World} {x mb : Nat} {va : Value} {E : OutG} {all : List Int} {B : Nat} {T : List SerT} (h1 : IxG B w x mb va E all) (h2 : RowsOk E) (h3 : GrowI 12 T (absG E) all) : Idx w x T := ⟨B, mb, va, E, all, h1, h2, h3⟩

/-- What Grow hands back. -/
theorem growD_spec (w : World) (v : Value) (XS : List (Value × Bool)) (h : SliceArg 2 encOne w v XS) (hok : OnesOk w XS) :
    Calls Tryz.prog 6 #[v] w fun e w' => ∃ (x : Nat) (vo : Value) (TV : List SerV), e = .returned (.tuple #[.pointer (some ⟨x, 0, none⟩), vo]) ∧ Idx w' x (TV.map (·.1)) ∧ ToldR w' vo TV ∧ TV.length ≤ 12 ∧ (∀ q ∈ TV, SerOk q.1) ∧ ((TV.map (·.1)).map (·.1)).Nodup ∧ Keeps [] w w' := by
  refine (growG_spec w v XS h hok).mono ?_
  rintro e w' ⟨x, mb, vo, va, E, all, TV, rfl, h1, h2, h3, h4, h5⟩
  exact ⟨x, vo, TV, rfl, idx_of h1 h2 h3, h4.read, by have := h3.len; rw [List.length_map] at this; exact this, fun q hq => h3.ser q.1 (List.mem_map.2 ⟨q, hq, rfl⟩), h3.nod, h5⟩
end Go.Proofs.YtejfigbjaiealaaGreatDoor
