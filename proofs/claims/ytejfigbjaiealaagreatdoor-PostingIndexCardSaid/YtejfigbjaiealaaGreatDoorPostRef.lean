/-
  The document's answer for package posting: Put, Any, Both, Less, walked.
  The slices are read in memory from a bound on; they are of few numbers.
-/
import Derived.Test.YtejfigbjaiealaaGreatDoorPostBase
namespace Go.Proofs.YtejfigbjaiealaaGreatDoor
open Go Go.RowKit

def PutRel (w : World) (l : List Int) (n : Int) (gk : Nat) (u5 u6 u15 : Value) (wr : World) : Prop :=
  ∃ k, k ≤ l.length ∧ gk = l.length - k ∧ u15 = .int .i64 k ∧ u6 = .bool (putDone l n k) ∧ Own w.heap.size wr u5 (putSo l n k) ∧ Keeps [] w wr

set_option maxRecDepth 100000 in
set_option maxHeartbeats 1000000 in
theorem putR_spec (B : Nat) (w : World) (v : Value) (l : List Int) (n : Int) (h : Ints B w v l) (hl : l.length ≤ 1000) :
    Calls Tryz.prog 8 #[v, .int .i64 n] w fun e w' => ∃ v', e = .returned v' ∧ Own w.heap.size w' v' (putL l n) ∧ Keeps [] w w' := by
  obtain ⟨ii, hii, hz0, hz1, hz2⟩ := info_parts infoInt
  have k0 : Keeps [] w (w.alloc (.cells #[] 3)) := (Keeps.refl [] w).alloc _
  have Hf := Lib.hid h
  have Hf1 := Lib.hid (go1 k0 h)
  have H0 := Lib.hid (And.intro (own_made w w.heap.size 3 1 (Nat.le_refl _)) k0)
  have Hput := Lib.hid (putL_so l n)
  obtain ⟨ao, cap, rfl, -, -, -, -⟩ := h
  have Hz := Lib.hid (putSo_zero l n)
  have Hd0 := Lib.hid (show putDone l n 0 = decide (n ∈ l) by simp [putDone])
  generalize putL l n = R at Hput ⊢
  clear k0
  go_enter Tryz.func8, Tryz.ntmps8
  go_wp2_with fail
  refine (inR_spec B _ _ l n Hf1.out).mono ?_
  rintro e w1 ⟨rfl, rfl⟩
  go_wp2_with fail
  go_loopg [5, 6, 15] l.length (PutRel w l n)
  case atStart => exact ⟨0, Nat.zero_le _, rfl, rfl, by rw [Hd0.out], by rw [Hz.out]; exact H0.out.1, H0.out.2⟩
  case round =>
    obtain ⟨k, hk, hgk, rfl, rfl, hrow, hkw⟩ := hrel
    have Hg := Lib.hid hgk
    have hsl := putSo_len l n k
    clear hgk
    by_cases hlt : k < l.length
    · obtain ⟨b, of, ea, hb, d0⟩ := sf_at1 (Hf.out.keep hkw (by simp)) k hlt
      subst ea
      have hlt' : (k : Int) < (l.length : Int) := by omega
      have Hs := Lib.hid (And.intro (put_done_succ (n := n) hlt) (putSo_succ (n := n) hlt))
      generalize l[k] = x at d0 Hs
      generalize putSo l n k = S at hrow hsl Hs ⊢
      obtain ⟨ax, cx, rfl, hxc, hxm, -⟩ := row_slice hrow
      have Hr := Lib.hid (And.intro hrow hkw)
      have hws := hkw.size
      clear hrow hkw
      by_cases hcase : putDone l n k = false ∧ n < x
      · obtain ⟨hd, hx⟩ := hcase
        rw [hd, if_pos ⟨rfl, hx⟩] at Hs
        rw [hd]
        go_upto_region 9 with (at_builtin; refine wpList_append_own _ rfl (.tmp 26) (.tmp 28) 28 rfl w.heap.size 3 ii _ 1 8 Tryz.underlying28 hii hz0 hz1 hz2 rfl (by decide) (.slice ax S.length cx) S.length (S.map (Value.int .i64)) rfl (Hr.out.1.alloc _) ⟨wr.heap.size, 0, none⟩ 1 1 [.int .i64 n] rfl rfl (news_of (heap_new wr _)) (by simp [Value.oneCell']) (by simp only [maxLen]; omega) (by omega) (by simp; omega) ?_; intro v8 w8 hown8 hgrow8 hnil; clear hnil; obtain ⟨ao8, cp8, hv8, -, -, -⟩ := row_slice hown8; subst hv8)
        have hk8 := keeps_own (Hr.out.2.alloc (.cells #[.int .i64 n] 3)) hgrow8 (fun g hg => (World.ownsRow.lt Hr.out.1 g hg).1)
        have hws8 := hk8.size
        have H8 := Lib.hid (And.intro hown8 hk8)
        clear hown8 hgrow8 hk8
        go_wp2_with (at_builtin; refine wpList_append_own _ rfl (.tmp 30) (.tmp 32) 28 rfl w.heap.size 3 ii _ 1 8 Tryz.underlying28 hii hz0 hz1 hz2 rfl (by decide) (.slice ao8 (S.length + 1) cp8) (S.length + 1) _ rfl (H8.out.1.alloc _) ⟨w8.heap.size, 0, none⟩ 1 1 [.int .i64 x] rfl rfl (news_of (heap_new w8 _)) (by simp [Value.oneCell']) (by simp only [maxLen]; omega) (by omega) (by simp; omega) ?_; intro v9 w9 hown9 hgrow9 hnil; clear hnil; obtain ⟨ao9, cp9, hv9, -, -, -⟩ := row_slice hown9; subst hv9)
        have hk9 := keeps_own (H8.out.2.alloc (.cells #[.int .i64 x] 3)) hgrow9 (fun g hg => (World.ownsRow.lt H8.out.1 g hg).1)
        have H9 := Lib.hid (And.intro hown9 hk9)
        clear hown9 hgrow9 hk9
        go_wp2_with fail
        go_roundg (l.length - (k + 1))
        case measure => have := Hg.out; omega
        case rel => exact ⟨k + 1, by omega, rfl, by go_num, by rw [Hs.out.1]; simp [hx], by rw [Hs.out.2]; simpa [Own] using H9.out.1, H9.out.2⟩
      · rw [if_neg hcase] at Hs
        have hdx : putDone l n k = true ∨ (putDone l n k = false ∧ ¬ n < x) := by
          cases hd : putDone l n k with
          | true => exact .inl rfl
          | false => exact .inr ⟨rfl, fun hx => hcase ⟨hd, hx⟩⟩
        have Hc := Lib.hid hcase
        clear hcase
        rcases hdx with hd | ⟨hd, hx⟩
        all_goals
          rw [hd]
          rw [hd] at Hs
          go_wp2_with (at_builtin; refine wpList_append_own _ rfl (.tmp 30) (.tmp 32) 28 rfl w.heap.size 3 ii _ 1 8 Tryz.underlying28 hii hz0 hz1 hz2 rfl (by decide) (.slice ax S.length cx) S.length (S.map (Value.int .i64)) rfl (Hr.out.1.alloc _) ⟨wr.heap.size, 0, none⟩ 1 1 [.int .i64 x] rfl rfl (news_of (heap_new wr _)) (by simp [Value.oneCell']) (by simp only [maxLen]; omega) (by omega) (by simp; omega) ?_; intro v9 w9 hown9 hgrow9 hnil; clear hnil; obtain ⟨ao9, cp9, hv9, -, -, -⟩ := row_slice hown9; subst hv9)
          have hk9 := keeps_own (Hr.out.2.alloc (.cells #[.int .i64 x] 3)) hgrow9 (fun g hg => (World.ownsRow.lt Hr.out.1 g hg).1)
          have H9 := Lib.hid (And.intro hown9 hk9)
          clear hown9 hgrow9 hk9
          go_wp2_with fail
          go_roundg (l.length - (k + 1))
          case measure => have := Hg.out; omega
          case rel => exact ⟨k + 1, by omega, rfl, by go_num, by rw [Hs.out.1]; simp [*], by rw [Hs.out.2]; simpa [Own] using H9.out.1, H9.out.2⟩
    · have hkn : k = l.length := by omega
      subst hkn
      generalize putSo l n l.length = S at hrow hsl Hput ⊢
      obtain ⟨ax, cx, rfl, hxc, hxm, -⟩ := row_slice hrow
      have Hr := Lib.hid (And.intro hrow hkw)
      have hws := hkw.size
      clear hrow hkw
      cases hd : putDone l n l.length with
      | true =>
        rw [hd, if_neg (by simp)] at Hput
        go_wp2_with fail
        go_ret
        exact ⟨_, rfl, by rw [Hput.out]; exact Hr.out.1, Hr.out.2⟩
      | false =>
        rw [hd, if_pos rfl] at Hput
        go_wp2_with (at_builtin; refine wpList_append_own _ rfl (.tmp 37) (.tmp 39) 28 rfl w.heap.size 3 ii _ 1 8 Tryz.underlying28 hii hz0 hz1 hz2 rfl (by decide) (.slice ax S.length cx) S.length (S.map (Value.int .i64)) rfl (Hr.out.1.alloc _) ⟨wr.heap.size, 0, none⟩ 1 1 [.int .i64 n] rfl rfl (news_of (heap_new wr _)) (by simp [Value.oneCell']) (by simp only [maxLen]; omega) (by omega) (by simp; omega) ?_; intro v9 w9 hown9 hgrow9 hnil; clear hnil; obtain ⟨ao9, cp9, hv9, -, -, -⟩ := row_slice hown9; subst hv9)
        have hk9 := keeps_own (Hr.out.2.alloc (.cells #[.int .i64 n] 3)) hgrow9 (fun g hg => (World.ownsRow.lt Hr.out.1 g hg).1)
        have H9 := Lib.hid (And.intro hown9 hk9)
        clear hown9 hgrow9 hk9
        go_wp2_with fail
        go_ret
        exact ⟨_, rfl, by rw [Hput.out]; simpa [Own] using H9.out.1, H9.out.2⟩
end Go.Proofs.YtejfigbjaiealaaGreatDoor
