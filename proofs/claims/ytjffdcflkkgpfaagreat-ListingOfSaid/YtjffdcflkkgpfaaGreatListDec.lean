/-
  A listing's bytes, and back (package listing): Decode, where the bytes are a listing's that may be.
  The blocks are few.
-/
import Derived.Test.YtjffdcflkkgpfaaGreatListTake
namespace Go.Proofs.YtjffdcflkkgpfaaGreat
open Go Go.RowKit Go.Conc

set_option linter.unusedSimpArgs false in
set_option maxRecDepth 100000 in
set_option maxHeartbeats 4000000 in
theorem listDec_spec (w : World) (s : ByteArray) (at_ : Nat) (L : List MetaS) (M : PartsM) (hs : s.data.toList = frameL 3 (lstL at_ L M)) (ok : ListOk at_ L M) :
    Calls Tryz.prog 21 #[.string s] w (TakeLPost w at_ L M) := by
  have hlen : (lstL at_ L M).length ≤ 50020 := by
    have l1 := lebL_len10 (v := at_) (by have := ok.at_; omega)
    have l2 := lebL_len10 (v := L.length) (by have := ok.few; omega)
    have l3 := restL_len ok 0
    have e : lstL at_ L M = lebL at_ ++ (lebL L.length ++ restL L M 0) := rfl
    rw [e]
    simp only [List.length_append]
    omega
  have hnf := nextF_frame 3 (lstL at_ L M) [] (by omega)
  rw [List.append_nil, ← hs] at hnf
  have hsz : s.size ≤ 140737488355000 := by
    rw [← dsize, hs]
    unfold frameL
    simp only [List.length_cons, List.length_append, le4, List.length_nil]
    have := lebL_len10 (v := (lstL at_ L M).length) (by omega)
    omega
  have hnx := fun W => next_spec W s hsz
  rw [hnf] at hnx
  have Hnx := Lib.hid hnx
  have Htk := Lib.hid (fun W (x : ByteArray) hx => listTake_spec W x at_ L M hx ok)
  obtain ⟨D, hD⟩ : ∃ D : ByteArray, D = ⟨(lstL at_ L M).toArray⟩ := ⟨_, rfl⟩
  have hDl : D.data.toList = lstL at_ L M := by rw [hD]
  have HD := Lib.hid hD
  have HDl := Lib.hid hDl
  have n0 := heap_new w (.cells #[.int .i64 0, .slice none 0 0, .map none] 32)
  have k0 : Keeps [] w (w.alloc (.cells #[.int .i64 0, .slice none 0 0, .map none] 32)) := (Keeps.refl [] w).alloc _
  obtain ⟨rb, hrb⟩ : ∃ n, n = w.heap.size := ⟨_, rfl⟩
  rw [← hrb] at n0
  have HB := Lib.hid hrb
  have hrw : w.heap.size ≤ rb := by omega
  have H0 := Lib.hid (And.intro n0 k0)
  have hz : rb < (w.alloc (.cells #[.int .i64 0, .slice none 0 0, .map none] 32)).heap.size := by simp; omega
  clear hnx hD hDl hnf hsz hlen hrb n0 k0 hs ok
  go_enter Tryz.func21, Tryz.ntmps21
  go_wp2_with fail
  rw [← HB.out]
  generalize w.alloc (.cells #[.int .i64 0, .slice none 0 0, .map none] 32) = W0 at H0 hz ⊢
  refine (Hnx.out W0).mono ?_
  rintro e w1 ⟨rfl, hk1⟩
  simp only [nextVals]
  rw [← HD.out]
  have q2 := heap_new w1 (.cells #[.int .u8 3, .string D] 123)
  have ka : Keeps [] w1 (w1.alloc (.cells #[.int .u8 3, .string D] 123)) := (Keeps.refl [] w1).alloc _
  have c2 := cells_at q2
  have l2 := lt_of_at q2
  have H2 := Lib.hid (And.intro (ka.at_ (hk1.at_ H0.out.1 (by simp)) (by simp)) ((H0.out.2.trans hk1).trans ka))
  have hz2 := hk1.size
  clear hk1 q2 ka H0
  go_wp2_with fail
  clear c2 l2
  generalize w1.alloc (.cells #[.int .u8 3, .string D] 123) = W2 at H2 ⊢
  have hr2 := lt_of_at H2.out.1
  refine (Htk.out W2 D HDl.out).mono ?_
  rintro e w3 ⟨vm, mb, rfl, hm3, hp3, hk3⟩
  have nr3 := hk3.at_ H2.out.1 (by simp)
  obtain ⟨VS, hV1, hV2, hV3⟩ := hm3
  obtain ⟨av, cv, rfl, hx1, hx2, hx3, hx4⟩ := hV1
  have hm3 : MetasV W2.heap.size w3 (.slice av VS.length cv) L := ⟨VS, ⟨av, cv, rfl, hx1, hx2, hx3, hx4⟩, hV2, hV3⟩
  clear hx1 hx2 hx3 hx4 hV3
  rw [hV2] at hm3 ⊢
  clear hV2
  have ka : Keeps [] w3 (w3.alloc (.cells #[.int .i64 at_, .slice av L.length cv, .map (some mb)] 32)) := (Keeps.refl [] w3).alloc _
  have na := heap_new w3 (.cells #[.int .i64 at_, .slice av L.length cv, .map (some mb)] 32)
  have nr4 := ka.at_ nr3 (by simp)
  have cr := cells_at nr4
  have fr := free_at nr4
  have lr := lt_of_at nr4
  have ca := cells_at na
  have la := lt_of_at na
  have H4 := Lib.hid (And.intro nr4 (And.intro (hm3.same ka) (And.intro (hp3.keep ka (by simp)) ((H2.out.2.trans hk3).trans ka))))
  clear nr3 nr4 na ka hm3 hp3 hk3
  go_wp2_with fail
  clear cr fr lr ca la
  have se := set3 (v0 := .int .i64 at_) (v1 := .slice av L.length cv) (v2 := .map (some mb)) H4.out.1
  have hw2 := H2.out.2.size
  have hmv := (H4.out.2.1.keep se.2 (by simp only [List.mem_singleton]; rintro x rfl; omega)).low hw2
  have hmm : MapAt _ mb _ := H4.out.2.2.1.keep se.2 (by
    intro hm
    simp only [List.mem_singleton] at hm
    subst hm
    obtain ⟨E, c, hb, -, -⟩ := H4.out.2.2.1
    rw [H4.out.1] at hb
    cases hb)
  have hkw := H4.out.2.2.2.after se.2 (fun x hx => .inr (by simp only [List.mem_singleton] at hx; omega))
  have hc := cells_at se.1
  have hlr := lt_of_at se.1
  refine bodyPost_ret (v := .tuple #[.agg #[.int .i64 at_, .slice av L.length cv, .map (some mb)], .int .i64 0]) ?_ rfl ⟨.slice av L.length cv, mb, rfl, hmv, hmm, hkw⟩
  simp [results, Tryz.results21, go_sem, hc, hlr]
end Go.Proofs.YtjffdcflkkgpfaaGreat
