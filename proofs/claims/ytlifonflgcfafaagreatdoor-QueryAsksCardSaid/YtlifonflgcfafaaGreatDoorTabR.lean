/-
  The document's Compare of pairs, Put of samples and Add of tables, walked.
  The slices are of few elements.
-/
import Derived.Test.YtlifonflgcfafaaGreatDoorTab
namespace Go.Proofs.YtlifonflgcfafaaGreatDoor
open Go Go.RowKit
open Go.Op (bytesLess)

def CmpRel (w : World) (a b : List PairB) (gk : Nat) (u5 : Value) (wr : World) : Prop :=
  ∃ k, k ≤ a.length ∧ k ≤ b.length ∧ gk = a.length - k ∧ u5 = .int .i64 k ∧ cmpL (a.drop k) (b.drop k) = cmpL a b ∧ Keeps [] w wr

set_option linter.unusedSimpArgs false in
set_option maxRecDepth 100000 in
set_option maxHeartbeats 1000000 in
theorem compareR_spec (w : World) (va vb : Value) (a b : List PairB) (ha : SliceArg 2 encPB w va a) (hb : SliceArg 2 encPB w vb b) (hal : a.length ≤ 1000000) :
    Calls Tryz.prog 32 #[va, vb] w fun e w' => e = .returned (.int .i64 (cmpL a b)) ∧ Keeps [] w w' := by
  have Hf := Lib.hid (And.intro ha hb)
  obtain ⟨aa, ca, rfl, -, -⟩ := ha
  obtain ⟨ab, cb, rfl, -, -⟩ := hb
  obtain ⟨R, hR⟩ : ∃ R, R = cmpL a b := ⟨_, rfl⟩
  rw [← hR]
  have HR := Lib.hid hR
  clear hR
  go_enter Tryz.func32, Tryz.ntmps32
  go_wp2_with fail
  go_loopg [5] a.length (CmpRel w a b)
  case atStart => exact ⟨0, Nat.zero_le _, Nat.zero_le _, rfl, rfl, rfl, Keeps.refl [] w⟩
  case round =>
    obtain ⟨k, hka, hkb, hgk, rfl, hc, hkw⟩ := hrel
    have Hg := Lib.hid (And.intro hgk hc)
    clear hgk hc
    by_cases hlt : k < a.length ∧ k < b.length
    · obtain ⟨b1, off1, cap1, ea, hb1, d0, d1⟩ := pair_at (Hf.out.1.keep hkw) k hlt.1
      injection ea with ea _ ec
      subst ea ec
      obtain ⟨b2, off2, cap2, ea, hb2, e0, e1⟩ := pair_at (Hf.out.2.keep hkw) k hlt.2
      injection ea with ea _ ec
      subst ea ec
      have hlt1 : (k : Int) < (a.length : Int) := by omega
      have hlt2 : (k : Int) < (b.length : Int) := by omega
      have Hd := Lib.hid (cmpL_drop hlt.1 hlt.2)
      generalize a[k] = x at d0 d1 Hd
      generalize b[k] = y at e0 e1 Hd
      obtain ⟨x1, x2⟩ := x
      obtain ⟨y1, y2⟩ := y
      dsimp only at d0 d1 e0 e1
      have kA : Keeps [] wr (wr.alloc (.cells #[.string x1, .string x2] 140)) := (Keeps.refl [] wr).alloc _
      have H1 := Lib.hid (And.intro (hkw.trans kA) (And.intro (heap_new wr (.cells #[.string x1, .string x2] 140)) (And.intro ((kA.cell hb2 (by simp)).trans e0) (And.intro ((kA.cell hb2 (by simp)).trans e1) (kA.lt hb2)))))
      clear hkw kA e0 e1 hb2
      go_upto_region 5 with fail
      clear d0 d1 hb1
      generalize hwa : wr.alloc (.cells #[.string x1, .string x2] 140) = wa at H1 ⊢
      generalize hpa : wr.heap.size = pa at H1 ⊢
      clear hwa hpa
      have f0 := H1.out.2.2.1
      have f1 := H1.out.2.2.2.1
      have f2 := H1.out.2.2.2.2
      have kB : Keeps [] wa (wa.alloc (.cells #[.string y1, .string y2] 140)) := (Keeps.refl [] wa).alloc _
      have H2 := Lib.hid (And.intro (H1.out.1.trans kB) (And.intro (go1 kB H1.out.2.1) (heap_new wa (.cells #[.string y1, .string y2] 140))))
      clear kB
      go_upto_region 6 with fail
      clear f0 f1 f2 H1
      generalize hwb : wa.alloc (.cells #[.string y1, .string y2] 140) = wb at H2 ⊢
      generalize hpb : wa.heap.size = pb at H2 ⊢
      clear hwb hpb
      have c1 := cells_at H2.out.2.1
      have l1 := lt_of_at H2.out.2.1
      have c2 := cells_at H2.out.2.2
      have l2 := lt_of_at H2.out.2.2
      rcases pair_ways (x1, x2) (y1, y2) with ⟨h1, hp⟩ | ⟨h1, h2, h3, hp⟩ | ⟨h1, h2, h3, h4, hp⟩ | ⟨h1, h2, h3, h4, hp, hq⟩ | ⟨h1, h2, hp, hq⟩
      all_goals dsimp only at h1
      · have Hp := Lib.hid hp
        clear hp
        go_wp2_with fail
        go_ret
        exact ⟨by rw [HR.out, ← Hg.out.2, Hd.out.1 Hp.out]; rfl, H2.out.1⟩
      · dsimp only at h2 h3
        have Hp := Lib.hid hp
        clear hp
        go_wp2_with fail
        go_ret
        exact ⟨by rw [HR.out, ← Hg.out.2, Hd.out.1 Hp.out]; rfl, H2.out.1⟩
      · dsimp only at h2 h3 h4
        have Hp := Lib.hid hp
        clear hp
        go_wp2_with fail
        go_roundg (a.length - (k + 1))
        case measure => have := Hg.out.1; omega
        case rel => exact ⟨k + 1, by omega, by omega, rfl, by go_num, by rw [← Hd.out.2.1 Hp.out]; exact Hg.out.2, H2.out.1⟩
      · dsimp only at h2 h3 h4
        have Hp := Lib.hid (And.intro hp hq)
        clear hp hq
        go_wp2_with fail
        go_ret
        exact ⟨by rw [HR.out, ← Hg.out.2, Hd.out.2.2 Hp.out.1 Hp.out.2]; rfl, H2.out.1⟩
      · dsimp only at h2
        have Hp := Lib.hid (And.intro hp hq)
        clear hp hq
        go_wp2_with fail
        go_ret
        exact ⟨by rw [HR.out, ← Hg.out.2, Hd.out.2.2 Hp.out.1 Hp.out.2]; rfl, H2.out.1⟩
    · have He := Lib.hid (cmpL_end hlt ⟨hka, hkb⟩)
      have Hk := Lib.hid hkw
      have hways : (k < a.length ∧ ¬ k < b.length) ∨ ¬ k < a.length := by omega
      have hlen : a.length < b.length ∨ b.length < a.length ∨ a.length = b.length := by omega
      clear hkw hlt
      rcases hlen with hl | hl | hl
      · have hi1 : (a.length : Int) < (b.length : Int) := by omega
        have hi2 : ¬ (k : Int) < (a.length : Int) := by omega
        go_wp2_with fail
        go_ret
        exact ⟨by rw [HR.out, ← Hg.out.2, He.out.1 hl]; rfl, Hk.out⟩
      · have hi1 : ¬ (a.length : Int) < (b.length : Int) := by omega
        have hi2 : (b.length : Int) < (a.length : Int) := by omega
        have hi3 : (k : Int) < (a.length : Int) := by omega
        have hi4 : ¬ (k : Int) < (b.length : Int) := by omega
        go_wp2_with fail
        go_ret
        exact ⟨by rw [HR.out, ← Hg.out.2, He.out.2.1 hl]; rfl, Hk.out⟩
      · have hi1 : ¬ (a.length : Int) < (b.length : Int) := by omega
        have hi2 : ¬ (b.length : Int) < (a.length : Int) := by omega
        have hi3 : ¬ (k : Int) < (a.length : Int) := by omega
        go_wp2_with fail
        go_ret
        exact ⟨by rw [HR.out, ← Hg.out.2, He.out.2.2 hl]; rfl, Hk.out⟩

theorem infoSmp : (Tryz.prog.info? 42).map (fun i => (i.zero, i.size, i.bytes)) = some (some (.agg #[.int .i64 0, .int .u64 0]), 2, 16) := by kernel_rfl

abbrev OwnM (B : Nat) (w : World) (v : Value) (l : List SmpB) : Prop := w.ownsRow B 42 2 v l.length (l.flatMap encSm)

def PRel (w : World) (l : List SmpB) (s : SmpB) (sb : Nat) (gk : Nat) (u5 u6 u12 : Value) (wr : World) : Prop :=
  ∃ k, k ≤ l.length ∧ gk = l.length - k ∧ u12 = .int .i64 k ∧ u6 = .bool (pSo s l k).2 ∧ OwnM (w.heap.size + 1) wr u5 (pSo s l k).1 ∧ wr.heap[sb]? = some (.cells #[.int .i64 s.1, .int .u64 s.2] 42 (0, 0)) ∧ Keeps [] w wr

theorem pStep_eq {s x : SmpB} {st : List SmpB × Bool} (h : x.1 = s.1) : pStep s st x = (st.1 ++ [x], true) := by unfold pStep; rw [if_pos h]

theorem pStep_put {s x : SmpB} {S : List SmpB} (h : ¬ x.1 = s.1) (h2 : s.1 < x.1) : pStep s (S, false) x = (S ++ [s] ++ [x], true) := by unfold pStep; rw [if_neg h, if_pos ⟨rfl, h2⟩]

theorem pStep_on {s x : SmpB} {S : List SmpB} {d : Bool} (h : ¬ x.1 = s.1) (h2 : ¬ (d = false ∧ s.1 < x.1)) : pStep s (S, d) x = (S ++ [x], d) := by unfold pStep; rw [if_neg h, if_neg h2]

set_option linter.unusedSimpArgs false in
set_option maxRecDepth 100000 in
set_option maxHeartbeats 2000000 in
theorem putM_spec (w : World) (v : Value) (l : List SmpB) (s : SmpB) (h : w.ownsRow 0 42 2 v l.length (l.flatMap encSm)) (hl : l.length ≤ 1000) :
    Calls Tryz.prog 33 #[v, .agg #[.int .i64 s.1, .int .u64 s.2]] w fun e w' => ∃ v', e = .returned v' ∧ OwnM w.heap.size w' v' (putS s l) ∧ Keeps [] w w' := by
  obtain ⟨ii, hii, hz0, hz1, hz2⟩ := info_parts infoSmp
  obtain ⟨s1, s2⟩ := s
  have kA : Keeps [] w (w.alloc (.cells #[.int .i64 s1, .int .u64 s2] 42)) := (Keeps.refl [] w).alloc _
  have kB := (Keeps.refl [] (w.alloc (.cells #[.int .i64 s1, .int .u64 s2] 42))).alloc (.cells #[] 42)
  have hzA : (w.alloc (.cells #[.int .i64 s1, .int .u64 s2] 42)).heap.size = w.heap.size + 1 := by simp
  have mk := own_made (w.alloc (.cells #[.int .i64 s1, .int .u64 s2] 42)) (w.heap.size + 1) 42 2 (by omega)
  rw [hzA] at mk
  have Hf := Lib.hid h
  have H0 := Lib.hid (And.intro mk (And.intro (go1 kB (heap_new w (.cells #[.int .i64 s1, .int .u64 s2] 42))) (kA.trans kB)))
  obtain ⟨ao, cap, rfl, -, -, -⟩ := row_slice h
  have Hput := Lib.hid (putS_so (s1, s2) l)
  generalize putS (s1, s2) l = R at Hput ⊢
  clear kA kB hzA mk h
  go_enter Tryz.func33, Tryz.ntmps33
  go_wp2_with fail
  go_loopg [5, 6, 12] l.length (PRel w l (s1, s2) w.heap.size)
  case atStart => exact ⟨0, Nat.zero_le _, rfl, rfl, rfl, by simpa [pSo, OwnM] using H0.out.1, H0.out.2.1, H0.out.2.2⟩
  case round =>
    obtain ⟨k, hk, hgk, rfl, rfl, hrow, hsb, hkw⟩ := hrel
    have Hg := Lib.hid hgk
    have hsl := (pSo_len (s1, s2) l k).1
    clear hgk H0
    by_cases hlt : k < l.length
    · obtain ⟨b, off, ea, hb, d0, d1⟩ := smp_at (go1 hkw Hf.out) k hlt
      subst ea
      have hlt' : (k : Int) < (l.length : Int) := by omega
      have Hs := Lib.hid (pSo_succ (s1, s2) l hlt)
      generalize l[k] = x at d0 d1 Hs
      obtain ⟨x1, x2⟩ := x
      dsimp only at d0 d1
      generalize pSo (s1, s2) l k = st at hrow hsl Hs ⊢
      obtain ⟨S, d⟩ := st
      dsimp only at hrow hsl ⊢
      obtain ⟨ax, cx, rfl, hxc, hxm, -⟩ := row_slice hrow
      have kP : Keeps [] wr (wr.alloc (.cells #[.int .i64 x1, .int .u64 x2] 42)) := (Keeps.refl [] wr).alloc _
      have H1 := Lib.hid (And.intro (go1 kP (And.intro hrow (And.intro hsb hkw))) (heap_new wr (.cells #[.int .i64 x1, .int .u64 x2] 42)))
      have Hne := Lib.hid (show ∀ g, (Value.slice ax S.length cx).ownBlock = some g → g ≠ wr.heap.size from fun g hg => by have := (World.ownsRow.lt hrow g hg).2; omega)
      clear kP hrow hsb hkw
      go_upto_region 6 with fail
      clear d0 d1 hb
      generalize hwp : wr.alloc (.cells #[.int .i64 x1, .int .u64 x2] 42) = wp at H1 ⊢
      generalize hpb : wr.heap.size = pb at H1 Hne ⊢
      clear hwp hpb
      have cs := cells_at H1.out.1.2.1
      have ls := lt_of_at H1.out.1.2.1
      have cp := cells_at H1.out.2
      have lp := lt_of_at H1.out.2
      have hws := H1.out.1.2.2.size
      have hws2 : w.heap.size + 1 ≤ wp.heap.size := by have := lt_of_at H1.out.1.2.1; omega
      have hways : (x1 = s1 ∧ pStep (s1, s2) (S, d) (x1, x2) = (S ++ [(x1, x2)], true)) ∨ (¬ x1 = s1 ∧ d = true ∧ pStep (s1, s2) (S, d) (x1, x2) = (S ++ [(x1, x2)], d)) ∨ (¬ x1 = s1 ∧ d = false ∧ ¬ s1 < x1 ∧ pStep (s1, s2) (S, d) (x1, x2) = (S ++ [(x1, x2)], d)) ∨ (¬ x1 = s1 ∧ d = false ∧ s1 < x1 ∧ pStep (s1, s2) (S, d) (x1, x2) = (S ++ [(s1, s2)] ++ [(x1, x2)], true)) := by
        by_cases h1 : x1 = s1
        · exact .inl ⟨h1, pStep_eq h1⟩
        · cases d with
          | true => exact .inr (.inl ⟨h1, rfl, pStep_on h1 (by simp)⟩)
          | false =>
            by_cases h2 : s1 < x1
            · exact .inr (.inr (.inr ⟨h1, rfl, h2, pStep_put h1 h2⟩))
            · exact .inr (.inr (.inl ⟨h1, rfl, h2, pStep_on h1 (fun h => h2 h.2)⟩))
      rcases hways with ⟨hx, hst⟩ | ⟨hx, rfl, hst⟩ | ⟨hx, rfl, hlt2, hst⟩ | ⟨hx, rfl, hlt2, hst⟩
      · have Hst := Lib.hid hst
        clear hst
        subst hx
        go_wp2_with (at_builtin; refine wpList_append_own _ rfl (.tmp 34) (.tmp 36) 90 rfl (w.heap.size + 1) 42 ii _ 2 16 Tryz.underlying90 hii hz0 hz1 hz2 rfl (by decide) (.slice ax S.length cx) S.length (S.flatMap encSm) rfl (H1.out.1.1.alloc _) ⟨wp.heap.size, 0, none⟩ 1 1 [.int .i64 x1, .int .u64 x2] rfl rfl (news_two (heap_new wp _)) (by simp [Value.oneCell']) (by simp only [maxLen]; omega) (by omega) (by rw [World.size_alloc]; omega) ?_; intro v9 w9 hown9 hgrow9 hnil9; clear hnil9; obtain ⟨ao9, cp9, rfl, -, -, -⟩ := row_slice hown9; skip)
        have hgr := keeps_row hgrow9
        have hs9 := hgr.at_ (heap_old H1.out.1.2.1 _) (fun hm => by have := (World.ownsRow.lt H1.out.1.1 w.heap.size (by simpa using hm)).1; omega)
        have hk9 := keeps_own (H1.out.1.2.2.alloc _) hgrow9 (fun g hg => by have := (World.ownsRow.lt H1.out.1.1 g hg).1; omega)
        have H9 := Lib.hid (And.intro (sm_snoc hown9) (And.intro hs9 hk9))
        clear hown9 hgrow9 hgr hs9 hk9 cs ls cp lp
        go_wp2_with fail
        go_roundg (l.length - (k + 1))
        case measure => have := Hg.out; omega
        case rel => exact ⟨k + 1, hlt, rfl, by go_num, by rw [Hs.out, Hst.out], by rw [Hs.out, Hst.out]; show w9.ownsRow (w.heap.size + 1) 42 2 _ (S ++ [(x1, x2)]).length _; have h := H9.out.1; rw [List.length_append] at h ⊢; exact h, H9.out.2.1, H9.out.2.2⟩
      · have Hst := Lib.hid hst
        clear hst
        have hxb : (x1 == s1) = false := by rw [beq_eq_false_iff_ne]; exact hx
        go_wp2_with (at_builtin; refine wpList_append_own _ rfl (.tmp 34) (.tmp 36) 90 rfl (w.heap.size + 1) 42 ii _ 2 16 Tryz.underlying90 hii hz0 hz1 hz2 rfl (by decide) (.slice ax S.length cx) S.length (S.flatMap encSm) rfl (H1.out.1.1.alloc _) ⟨wp.heap.size, 0, none⟩ 1 1 [.int .i64 x1, .int .u64 x2] rfl rfl (news_two (heap_new wp _)) (by simp [Value.oneCell']) (by simp only [maxLen]; omega) (by omega) (by rw [World.size_alloc]; omega) ?_; intro v9 w9 hown9 hgrow9 hnil9; clear hnil9; obtain ⟨ao9, cp9, rfl, -, -, -⟩ := row_slice hown9; skip)
        have hgr := keeps_row hgrow9
        have hs9 := hgr.at_ (heap_old H1.out.1.2.1 _) (fun hm => by have := (World.ownsRow.lt H1.out.1.1 w.heap.size (by simpa using hm)).1; omega)
        have hk9 := keeps_own (H1.out.1.2.2.alloc _) hgrow9 (fun g hg => by have := (World.ownsRow.lt H1.out.1.1 g hg).1; omega)
        have H9 := Lib.hid (And.intro (sm_snoc hown9) (And.intro hs9 hk9))
        clear hown9 hgrow9 hgr hs9 hk9 cs ls cp lp
        go_wp2_with fail
        go_roundg (l.length - (k + 1))
        case measure => have := Hg.out; omega
        case rel => exact ⟨k + 1, hlt, rfl, by go_num, by rw [Hs.out, Hst.out], by rw [Hs.out, Hst.out]; show w9.ownsRow (w.heap.size + 1) 42 2 _ (S ++ [(x1, x2)]).length _; have h := H9.out.1; rw [List.length_append] at h ⊢; exact h, H9.out.2.1, H9.out.2.2⟩
      · have Hst := Lib.hid hst
        clear hst
        have hxb : (x1 == s1) = false := by rw [beq_eq_false_iff_ne]; exact hx
        go_wp2_with (at_builtin; refine wpList_append_own _ rfl (.tmp 34) (.tmp 36) 90 rfl (w.heap.size + 1) 42 ii _ 2 16 Tryz.underlying90 hii hz0 hz1 hz2 rfl (by decide) (.slice ax S.length cx) S.length (S.flatMap encSm) rfl (H1.out.1.1.alloc _) ⟨wp.heap.size, 0, none⟩ 1 1 [.int .i64 x1, .int .u64 x2] rfl rfl (news_two (heap_new wp _)) (by simp [Value.oneCell']) (by simp only [maxLen]; omega) (by omega) (by rw [World.size_alloc]; omega) ?_; intro v9 w9 hown9 hgrow9 hnil9; clear hnil9; obtain ⟨ao9, cp9, rfl, -, -, -⟩ := row_slice hown9; skip)
        have hgr := keeps_row hgrow9
        have hs9 := hgr.at_ (heap_old H1.out.1.2.1 _) (fun hm => by have := (World.ownsRow.lt H1.out.1.1 w.heap.size (by simpa using hm)).1; omega)
        have hk9 := keeps_own (H1.out.1.2.2.alloc _) hgrow9 (fun g hg => by have := (World.ownsRow.lt H1.out.1.1 g hg).1; omega)
        have H9 := Lib.hid (And.intro (sm_snoc hown9) (And.intro hs9 hk9))
        clear hown9 hgrow9 hgr hs9 hk9 cs ls cp lp
        go_wp2_with fail
        go_roundg (l.length - (k + 1))
        case measure => have := Hg.out; omega
        case rel => exact ⟨k + 1, hlt, rfl, by go_num, by rw [Hs.out, Hst.out], by rw [Hs.out, Hst.out]; show w9.ownsRow (w.heap.size + 1) 42 2 _ (S ++ [(x1, x2)]).length _; have h := H9.out.1; rw [List.length_append] at h ⊢; exact h, H9.out.2.1, H9.out.2.2⟩
      · have Hst := Lib.hid hst
        clear hst
        have hxb : (x1 == s1) = false := by rw [beq_eq_false_iff_ne]; exact hx
        go_upto_region 10 with (at_builtin; refine wpList_append_own _ rfl (.tmp 30) (.tmp 32) 90 rfl (w.heap.size + 1) 42 ii _ 2 16 Tryz.underlying90 hii hz0 hz1 hz2 rfl (by decide) (.slice ax S.length cx) S.length (S.flatMap encSm) rfl (H1.out.1.1.alloc _) ⟨wp.heap.size, 0, none⟩ 1 1 [.int .i64 s1, .int .u64 s2] rfl rfl (news_two (heap_new wp _)) (by simp [Value.oneCell']) (by simp only [maxLen]; omega) (by omega) (by rw [World.size_alloc]; omega) ?_; intro v9 w9 hown9 hgrow9 hnil9; clear hnil9; obtain ⟨ao9, cp9, rfl, -, -, -⟩ := row_slice hown9; skip)
        have hgr := keeps_row hgrow9
        have hs9 := hgr.at_ (heap_old H1.out.1.2.1 _) (fun hm => by have := (World.ownsRow.lt H1.out.1.1 w.heap.size (by simpa using hm)).1; omega)
        have hk9 := keeps_own (H1.out.1.2.2.alloc _) hgrow9 (fun g hg => by have := (World.ownsRow.lt H1.out.1.1 g hg).1; omega)
        have hp9 := hgr.at_ (heap_old H1.out.2 _) (fun hm => Hne.out pb (by simpa using hm) rfl)
        have h9l : (S ++ [(s1, s2)]).length = S.length + 1 := by simp
        have hr9 := sm_snoc hown9
        have H9 := Lib.hid (And.intro (And.intro hr9 (And.intro hs9 hk9)) hp9)
        have hw9 := hk9.size
        have hw9b : w.heap.size + 1 ≤ w9.heap.size := by have := lt_of_at hs9; omega
        clear hown9 hgrow9 hgr hs9 hk9 cs ls cp lp hp9 hr9
        rw [h9l] at H9
        have cp := cells_at H9.out.2
        have lp := lt_of_at H9.out.2
        go_wp2_with (at_builtin; refine wpList_append_own _ rfl (.tmp 34) (.tmp 36) 90 rfl (w.heap.size + 1) 42 ii _ 2 16 Tryz.underlying90 hii hz0 hz1 hz2 rfl (by decide) (.slice ao9 (S.length + 1) cp9) (S.length + 1) ((S ++ [(s1, s2)]).flatMap encSm) rfl (H9.out.1.1.alloc _) ⟨w9.heap.size, 0, none⟩ 1 1 [.int .i64 x1, .int .u64 x2] rfl rfl (news_two (heap_new w9 _)) (by simp [Value.oneCell']) (by simp only [maxLen]; omega) (by omega) (by rw [World.size_alloc]; omega) ?_; intro v10 w10 hown10 hgrow10 hnil10; clear hnil10; obtain ⟨ao10, cp10, rfl, -, -, -⟩ := row_slice hown10; skip)
        have hgr := keeps_row hgrow10
        have hs10 := hgr.at_ (heap_old H9.out.1.2.1 _) (fun hm => by have := (World.ownsRow.lt H9.out.1.1 w.heap.size (by simpa using hm)).1; omega)
        have hk10 := keeps_own (H9.out.1.2.2.alloc _) hgrow10 (fun g hg => by have := (World.ownsRow.lt H9.out.1.1 g hg).1; omega)
        have hr10 := sm_snoc (N := S ++ [(s1, s2)]) (by rw [h9l]; exact hown10)
        have H10 := Lib.hid (And.intro hr10 (And.intro hs10 hk10))
        have h10l : (S ++ [(s1, s2)] ++ [(x1, x2)]).length = S.length + 1 + 1 := by simp
        clear hown10 hgrow10 hgr hs10 hk10 cp lp hr10
        go_wp2_with fail
        go_roundg (l.length - (k + 1))
        case measure => have := Hg.out; omega
        case rel => exact ⟨k + 1, hlt, rfl, by go_num, by rw [Hs.out, Hst.out], by rw [Hs.out, Hst.out]; show w10.ownsRow (w.heap.size + 1) 42 2 _ (S ++ [(s1, s2)] ++ [(x1, x2)]).length _; have h := H10.out.1; rw [h10l] at h ⊢; exact h, H10.out.2.1, H10.out.2.2⟩
    · have hkn : k = l.length := by omega
      have hge : ¬ (k : Int) < (l.length : Int) := by omega
      subst hkn
      generalize pSo (s1, s2) l l.length = st at hrow hsl Hput ⊢
      obtain ⟨S, d⟩ := st
      dsimp only at hrow hsl ⊢
      obtain ⟨ax, cx, rfl, hxc, hxm, -⟩ := row_slice hrow
      have Hr := Lib.hid (And.intro (And.intro hrow (And.intro hsb hkw)) trivial)
      have hws2 : w.heap.size + 1 ≤ wr.heap.size := by have := lt_of_at hsb; omega
      have cs := cells_at hsb
      have ls := lt_of_at hsb
      clear hrow hsb hkw
      cases d with
      | true =>
        go_wp2_with fail
        go_ret
        exact ⟨_, rfl, by rw [← Hput.out]; exact row_base Hr.out.1.1 (by omega), Hr.out.1.2.2⟩
      | false =>
        go_wp2_with (at_builtin; refine wpList_append_own _ rfl (.tmp 41) (.tmp 43) 90 rfl (w.heap.size + 1) 42 ii _ 2 16 Tryz.underlying90 hii hz0 hz1 hz2 rfl (by decide) (.slice ax S.length cx) S.length (S.flatMap encSm) rfl (Hr.out.1.1.alloc _) ⟨wr.heap.size, 0, none⟩ 1 1 [.int .i64 s1, .int .u64 s2] rfl rfl (news_two (heap_new wr _)) (by simp [Value.oneCell']) (by simp only [maxLen]; omega) (by omega) (by rw [World.size_alloc]; omega) ?_; intro v9 w9 hown9 hgrow9 hnil9; clear hnil9; obtain ⟨ao9, cp9, rfl, -, -, -⟩ := row_slice hown9; skip)
        have hk9 := keeps_own (Hr.out.1.2.2.alloc _) hgrow9 (fun g hg => by have := (World.ownsRow.lt Hr.out.1.1 g hg).1; omega)
        have h9l : (S ++ [(s1, s2)]).length = S.length + 1 := by simp
        have H9 := Lib.hid (And.intro (sm_snoc hown9) hk9)
        clear hown9 hgrow9 hk9
        go_wp2_with fail
        go_ret
        refine ⟨_, rfl, ?_, H9.out.2⟩
        rw [← Hput.out]
        have h := row_base (b' := w.heap.size) H9.out.1 (by omega)
        rw [h9l] at h
        show w9.ownsRow w.heap.size 42 2 (.slice ao9 (S.length + 1) cp9) (S ++ [(s1, s2)]).length _
        rw [h9l]
        exact h
end Go.Proofs.YtlifonflgcfafaaGreatDoor
