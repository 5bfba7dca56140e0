/-
  frame.All at a few frames one behind the other: it tells how many bytes they have.
  The frames' data is not too long.
-/
import Derived.Test.YtgcfkhcogllgfaaGreatDoorStb
import Derived.Test.YtgcfkhcogllgfaaGreatDoorFrame
namespace Go.Proofs.YtgcfkhcogllgfaaGreatDoor
set_option maxRecDepth 100000
set_option maxHeartbeats 1000000
set_option linter.unusedSimpArgs false
open Go Go.RowKit
def encRecS (r : UInt8 × ByteArray) : List Value := [.int .u8 r.1.toNat, .string r.2]
theorem infoRecS : (Tryz.prog.info? 166).map (fun i => (i.zero, i.size, i.bytes)) = some (some (.agg #[.int .u8 0, .string ⟨#[]⟩]), 2, 24) := by kernel_rfl
def framesS (R : List (UInt8 × ByteArray)) : List UInt8 := R.flatMap fun r => frameL r.1 r.2.data.toList
def AllRelS (w : World) (R : List (UInt8 × ByteArray)) (gk : Nat) (u4 u5 : Value) (wr : World) : Prop :=
 ∃ k t, k ≤ R.length ∧ gk = R.length - k ∧ wr.ownsRow w.heap.size 166 2 u4 k ((R.take k).flatMap encRecS) ∧ u5 = .string t ∧ t.data.toList = framesS (R.drop k) ∧ t.size ≤ 20000 ∧ Keeps [] w wr
def AllPostS (w : World) (n : Nat) (R : List (UInt8 × ByteArray)) (e : Ending) (w' : World) : Prop :=
 ∃ v, e = .returned (.tuple #[v, .int .i64 n]) ∧ w'.ownsRow w.heap.size 166 2 v R.length (R.flatMap encRecS) ∧ Keeps [] w w'
theorem allS_spec (w : World) (s : ByteArray) (R : List (UInt8 × ByteArray)) (hs : s.data.toList = framesS R) (hz : s.size ≤ 20000) (hR : R.length ≤ 2) (hd : ∀ r ∈ R, r.2.size ≤ 10000) :
  Calls Tryz.prog 85 #[.string s] w (AllPostS w s.size R) := by
 obtain ⟨ii, hii, hz0, hz1, hz2⟩ := info_parts infoRecS
 have HR := Lib.hid hd
 have Hs := Lib.hid hs
 clear hd
 go_enter Tryz.func85, Tryz.ntmps85
 go_wp2_with fail
 go_loopg [4, 5] R.length (AllRelS w R)
 case atStart => exact ⟨0, s, Nat.zero_le _, rfl, by simpa using World.ownsRow_nil w _ _ 2, rfl, Hs.out, hz, Keeps.refl _ _⟩
 case round =>
  obtain ⟨k, t, hk, hgk, hown, rfl, ht, htz, hkr⟩ := hrel
  have Hn := Lib.hid (next_spec wr t (by omega))
  by_cases hlt : k < R.length
  ·have hdr : R.drop k = R[k] :: R.drop (k + 1) := List.drop_eq_getElem_cons hlt
   have hr := HR.out R[k] (List.getElem_mem _)
   have htk : R.take (k + 1) = R.take k ++ [R[k]] := by rw [List.take_succ_eq_append_getElem hlt]
   generalize R[k] = r at hdr hr htk
   obtain ⟨kd, dd⟩ := r
   obtain ⟨t2, ht2⟩ : ∃ t2 : ByteArray, t2 = ⟨(framesS (R.drop (k + 1))).toArray⟩ := ⟨_, rfl⟩
   have hn : nextF t.data.toList = (kd, dd.data.toList, framesS (R.drop (k + 1)), 0) := by
    rw [ht, hdr]
    exact nextF_frame kd dd.data.toList _ (by rw [dsize]; exact Nat.le_trans hr (by decide))
   have htz2 : t2.size ≤ 20000 := by
    have h1 : t.data.toList.length = (frameL kd dd.data.toList).length + (framesS (R.drop (k + 1))).length := by rw [ht, hdr]; exact List.length_append
    rw [dsize] at h1
    have h2 : t2.size = (framesS (R.drop (k + 1))).length := by rw [ht2]; rfl
    omega
   rw [hn] at Hn
   have hv : nextVals (kd, dd.data.toList, framesS (R.drop (k + 1)), 0) = .tuple #[.agg #[.int .u8 kd.toNat, .string dd], .string t2, .int .i64 0] := by
    unfold nextVals
    rw [ht2]
   unfold NextPost at Hn
   rw [hv] at Hn
   have Hk := Lib.hid (And.intro hgk (And.intro hown (And.intro hkr (And.intro htk (And.intro (show t2.data.toList = framesS (R.drop (k + 1)) by rw [ht2]) (And.intro htz2 hlt))))))
   obtain ⟨av, cv, rfl, -, -, -⟩ := row_slice hown
   clear hgk hown hkr hdr htk ht2 hn htz2 hv ht htz hlt
   go_wp2_with fail
   refine Hn.out.mono ?_
   rintro e w1 ⟨rfl, hk1⟩
   obtain ⟨q, hq⟩ : ∃ q, q = w1.heap.size := ⟨_, rfl⟩
   obtain ⟨W2, hW2⟩ : ∃ W2, W2 = w1.alloc (.cells #[.int .u8 kd.toNat, .string dd] 166) := ⟨_, rfl⟩
   have k2 : Keeps [] w1 W2 := by rw [hW2]; exact (Keeps.refl [] w1).alloc _
   have n2 : W2.heap[q]? = some (.cells #[.int .u8 kd.toNat, .string dd] 166 (0, 0)) := by rw [hW2, hq]; exact heap_new w1 _
   have H2 := Lib.hid (And.intro (k2.row (hk1.row Hk.out.2.1 (by simp)) (by simp)) ((Hk.out.2.2.1.trans hk1).trans k2))
   have hsz := H2.out.2.size
   have c2 := cells_at n2
   have l2 := lt_of_at n2
   clear hk1 k2 n2
   go_upto_region 6 with fail
   rw [← hq, ← hW2]
   clear hq hW2
   have hvl : ∀ g, (Value.slice av k cv).ownBlock = some g → w.heap.size ≤ g := fun g hg => (World.ownsRow.lt H2.out.1 g hg).1
   have Hvl := Lib.hid hvl
   have hk2 : k ≤ 2 := by omega
   clear hvl
   go_wp2_with (at_builtin; refine wpList_append_own _ rfl (.tmp 24) (.tmp 26) 177 rfl w.heap.size 166 ii _ 2 24 Tryz.underlying177 hii hz0 hz1 hz2 rfl (by decide) (.slice av k cv) k ((R.take k).flatMap encRecS) rfl (H2.out.1.alloc _) ⟨W2.heap.size, 0, none⟩ 1 1 [.int .u8 kd.toNat, .string dd] rfl rfl (news_of (heap_new W2 _)) (by simp [Value.oneCell']) (by simp only [maxLen]; omega) (by omega) (by simp; omega) ?_; intro v8 w8 hown8 hgrow8 hnil; clear hnil)
   have hk8 : Keeps [] w w8 := keeps_grownM (H2.out.2.alloc _) hgrow8 Hvl.out
   have hown9 : w8.ownsRow w.heap.size 166 2 v8 (k + 1) ((R.take (k + 1)).flatMap encRecS) := by
    rw [Hk.out.2.2.2.1, List.flatMap_append]
    simpa [encRecS] using hown8
   go_roundg (R.length - (k + 1))
   case measure => have := Hk.out.1; have := Hk.out.2.2.2.2.2.2; omega
   case rel => exact ⟨k + 1, t2, Hk.out.2.2.2.2.2.2, rfl, hown9, rfl, Hk.out.2.2.2.2.1, Hk.out.2.2.2.2.2.1, hk8⟩
  ·obtain rfl : k = R.length := by omega
   have hte : t.data.toList = [] := by rw [ht, List.drop_length]; rfl
   have hn : nextF t.data.toList = (0, [], [], 2) := by rw [hte]; rfl
   rw [hn] at Hn
   unfold NextPost nextVals at Hn
   rw [show ((0 : UInt8), ([] : List UInt8), ([] : List UInt8), (2 : Int)).1.toNat = 0 from rfl] at Hn
   have tz : t.size = 0 := by rw [← dsize, hte]; rfl
   have hw : IntKind.i64.wrap ((s.size : Int) - (t.size : Int)) = (s.size : Int) - (t.size : Int) := IntWalk.i64_in _ (by omega)
   obtain ⟨av, cv, rfl, -, -, -⟩ := row_slice hown
   have Hk := Lib.hid (And.intro hown hkr)
   have Htz := Lib.hid tz
   clear hgk hown hkr ht htz hlt hte hn tz
   go_wp2_with fail
   refine Hn.out.mono ?_
   rintro e w1 ⟨rfl, hk1⟩
   have H1 := Lib.hid (And.intro (hk1.row Hk.out.1 (by simp)) (Hk.out.2.trans hk1))
   clear hk1
   go_wp2_with fail
   go_ret2
   have he : ∀ y : Value, Ending.returned (.tuple #[y, .int .i64 ((s.size : Int) - (t.size : Int))]) = .returned (.tuple #[y, .int .i64 (s.size : Int)]) := fun y => by rw [Htz.out]; simp
   refine ⟨_, he _, ?_, H1.out.2.trans ((Keeps.refl [] _).alloc _)⟩
   have h9 := H1.out.1
   rw [List.take_length] at h9
   exact h9.alloc _
end Go.Proofs.YtgcfkhcogllgfaaGreatDoor
