/-
  What wakes package barographlaw15: it answers true. HeadMay: New opens a head iff the config may be.
  The library's variable internal/bytealg.MaxLen holds some number.
-/
import Derived.Test.YtpopeeiiblhbeaaDoorHeadUse
import Derived.Lib.SmallJoins
namespace Go.Proofs.YtpopeeiiblhbeaaDoor
open Go Go.RowKit Go.Maps

set_option linter.unusedSimpArgs false in
set_option maxRecDepth 100000 in
set_option maxHeartbeats 1000000 in
theorem awake15_spec (w : World) (hv : LibVar w) :
    Calls Tryd.prog 12 #[] w fun e w' => e = .returned (.bool true) ∧ Keeps [] w w' := by
  have Hv := Lib.hid hv
  clear hv
  go_enter Tryd.func12, Tryd.ntmps12
  go_wp2_with fail
  refine (newYes_spec w 5 50 10 (by decide)).mono ?_
  rintro e w1 ⟨h, rfl, hh, hwh, hk1⟩
  have H1 := Lib.hid (And.intro (go1 hk1 Hv.out) (And.intro hh hk1))
  clear hh hk1 Hv
  go_wp2_with fail
  refine (parse1_spec w1 H1.out.1).mono ?_
  rintro e w2 ⟨v2, rfl, hs2, hk2⟩
  obtain ⟨g, c, cur, rfl, -, hc1, hcm, hg, hcs, h0, h1⟩ := hs2
  have H2 := Lib.hid (And.intro hg (go1 hk2 H1.out.2))
  clear hg hk2 H1
  obtain ⟨W3, hW3⟩ : ∃ W3, W3 = w2.alloc (.cells #[.slice (some ⟨g, 0, none⟩) 1 c, .int .i64 3, .int .u64 0, .slice (some ⟨g, 0, none⟩) 1 c, .int .i64 25, .int .u64 0] 103) := ⟨_, rfl⟩
  have k3 : Keeps [] w2 W3 := by rw [hW3]; exact (Keeps.refl [] w2).alloc _
  have hp : W3.heap[w2.heap.size]? = some (.cells #[.slice (some ⟨g, 0, none⟩) 1 c, .int .i64 3, .int .u64 0, .slice (some ⟨g, 0, none⟩) 1 c, .int .i64 25, .int .u64 0] 103 (0, 0)) := by rw [hW3]; exact heap_new w2 _
  have H3 := Lib.hid (And.intro hp (go1 k3 H2.out))
  clear hp k3 H2
  go_wp2_with fail
  rw [← hW3]
  clear hW3
  generalize w2.heap.size = pb at H3 ⊢
  refine (chk2_spec W3 h pb 2 g c cur hc1 H3.out.2.1 h0 h1 H3.out.1 _ H3.out.2.2.1).mono ?_
  rintro e w4 ⟨rfl, hk4⟩
  have H4 := Lib.hid (go1 hk4 H3.out)
  clear hk4 H3
  go_wp2_with fail
  refine (headAdd_spec w w4 h pb 2 g c cur hc1 hcm hcs H4.out.2.1 h0 h1 H4.out.1 H4.out.2.2.1 H4.out.2.2.2 hwh).mono ?_
  rintro e w5 ⟨rfl, hn5, hs5⟩
  have H5 := Lib.hid (And.intro (hs5 _ _ _ _ H4.out.1 (.inr rfl)) (And.intro (hs5 _ _ _ _ H4.out.2.1 (.inl rfl)) hn5))
  clear hn5 hs5 H4
  go_wp2_with fail
  refine (oldest_spec w w5 h H5.out.2.2).mono ?_
  rintro e w6 ⟨rfl, hk6⟩
  have H6 := Lib.hid (go1 hk6 H5.out)
  clear hk6 H5
  have d3 : w6.cell? ⟨pb, 3, none⟩ = some (.slice (some ⟨g, 0, none⟩) 1 c) := cells_at H6.out.1 3
  have d4 : w6.cell? ⟨pb, 4, none⟩ = some (.int .i64 25) := cells_at H6.out.1 4
  have d5 : w6.cell? ⟨pb, 5, none⟩ = some (.int .u64 0) := cells_at H6.out.1 5
  obtain ⟨W7, hW7⟩ : ∃ W7, W7 = w6.alloc (.cells #[.slice (some ⟨g, 0, none⟩) 1 c, .int .i64 25, .int .u64 0] 103) := ⟨_, rfl⟩
  have k7 : Keeps [] w6 W7 := by rw [hW7]; exact (Keeps.refl [] w6).alloc _
  have hp : W7.heap[w6.heap.size]? = some (.cells #[.slice (some ⟨g, 0, none⟩) 1 c, .int .i64 25, .int .u64 0] 103 (0, 0)) := by rw [hW7]; exact heap_new w6 _
  have H7 := Lib.hid (And.intro hp (go1 k7 H6.out))
  clear hp k7 H6
  go_wp2_with fail
  rw [← hW7]
  clear hW7 d3 d4 d5
  generalize w6.heap.size = pc at H7 ⊢
  refine (chk1_spec W7 h pc 1 g c cur hc1 H7.out.2.2.1 h0 h1 H7.out.1 2 2 0 25 (by obtain ⟨rb, ob, x, sb, lb, va, y1, y2, y3, y4, -⟩ := H7.out.2.2.2; exact ⟨rb, ob, x, sb, lb, va, y1, y2, y3, y4⟩)).mono ?_
  rintro e w8 ⟨rfl, hk8⟩
  have H8 := Lib.hid (go1 hk8 H7.out.2.2.2)
  clear hk8 H7
  go_wp2_with fail
  refine (samples_spec w w8 h 2 _ 25 H8.out).mono ?_
  rintro e w9 ⟨rfl, hk9⟩
  have H9 := Lib.hid (go1 hk9 H8.out)
  clear hk9 H8
  go_wp2_with fail
  go_ret
  obtain ⟨rb, ob, x, sb, lb, va, -, -, -, -, -, hk, -⟩ := H9.out
  exact ⟨rfl, hk⟩
end Go.Proofs.YtpopeeiiblhbeaaDoor
