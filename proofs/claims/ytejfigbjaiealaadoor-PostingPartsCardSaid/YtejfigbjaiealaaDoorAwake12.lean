/-
  What wakes package barographlaw12: it answers true.
  The library's variable internal/bytealg.MaxLen holds some number.
-/
import Derived.Test.YtejfigbjaiealaaDoorPostAdd
import Derived.Test.YtejfigbjaiealaaDoorPostLists
namespace Go.Proofs.YtejfigbjaiealaaDoor
open Go Go.RowKit

theorem ints_lit3 {w : World} {g : Nat} {a b c : Int} (hg : w.heap[g]? = some (.cells #[.int .i64 a, .int .i64 b, .int .i64 c] 3 (0, 0))) : Ints 0 w (.slice (some ⟨g, 0, none⟩) 3 3) [a, b, c] := by
  refine ⟨_, _, rfl, by simp [maxLen], Nat.le_refl _, (fun e => by cases e), fun i hi => ⟨g, 0, rfl, Nat.zero_le _, lt_of_at hg, fun j hj => ?_⟩⟩
  obtain rfl : j = 0 := by omega
  rw [cells_at hg]
  match i with
  | 0 => rfl
  | 1 => rfl
  | 2 => rfl
  | n + 3 => exact absurd hi (by show ¬ n + 3 < 3; omega)

theorem lit_rises : ∀ l ∈ ([[1, 2, 5], [2, 3, 5]] : List (List Int)), Rises l := by decide

theorem lit_short : ∀ l ∈ ([[1, 2, 5], [2, 3, 5]] : List (List Int)), l.length ≤ 1000 := by decide

theorem both_lit : bothP [[1, 2, 5], [2, 3, 5]] = [2, 5] := by decide +kernel

theorem own_cells {B : Nat} {w : World} {v : Value} {l : List Int} (h : Own B w v l) (hne : l ≠ []) : ∃ g c, v = .slice (some ⟨g, 0, none⟩) l.length c ∧ l.length ≤ c ∧ g < w.heap.size ∧ ∀ i (hi : i < l.length), w.cell? ⟨g, i, none⟩ = some (.int .i64 l[i]) := by
  by_cases hv : v = .slice none 0 0
  · subst hv
    obtain ⟨_, ⟨_, hn⟩ | ⟨g, cap, cur, e, _⟩⟩ := h
    · exact absurd (List.eq_nil_of_length_eq_zero hn) hne
    · cases e
  · obtain ⟨g, c, o, rfl, h1, -, -, ho, hc⟩ := own_block h hv
    exact ⟨g, c, rfl, h1, lt_of_at ho, hc w ho⟩

def Lit12 (w : World) : World := ((w.alloc (.cells #[.int .i64 1, .int .i64 2, .int .i64 5] 3)).alloc (.cells #[.int .i64 2, .int .i64 3, .int .i64 5] 3))

set_option linter.unusedSimpArgs false in
set_option maxRecDepth 100000 in
set_option maxHeartbeats 1000000 in
theorem awake12_spec (w : World) (hv : LibVar w) :
    Calls Tryd.prog 5 #[] w fun e w' => e = .returned (.bool true) ∧ Keeps [] w w' := by
  have Hv := Lib.hid hv
  clear hv
  go_enter Tryd.func5, Tryd.ntmps5
  go_wp2_with fail
  refine (newIx_spec w).mono ?_
  rintro e w1 ⟨x, mb, rfl, hx, hm, hxl, hml, hxm, hk1⟩
  have H1 := Lib.hid (And.intro hx (And.intro hm (And.intro (go1 hk1 Hv.out) hk1)))
  clear hx hm hk1
  go_wp2_with fail
  refine (parse1_spec w1 H1.out.2.2.1).mono ?_
  rintro e w2 ⟨v2, rfl, hs2, hk2⟩
  obtain ⟨g2, c2, cur2, rfl, hr2⟩ := hs2
  have H2 := Lib.hid (And.intro (go1 hk2 H1.out) (show Set1 w1.heap.size w2 (.slice (some ⟨g2, 0, none⟩) 1 c2) from ⟨g2, c2, cur2, rfl, hr2⟩))
  clear hk2 hr2
  go_wp2_with fail
  refine (add1_spec w1.heap.size w2 x mb 7 _ H2.out.1.1 H2.out.1.2.1 H2.out.2).mono ?_
  rintro e w3 ⟨rfl, hix, hk3⟩
  have H3 := Lib.hid (And.intro hix (H2.out.1.2.2.2.after hk3 (fun y hy => .inr (by simp at hy; omega))))
  clear hix hk3 H2 H1
  have kA : Keeps [] w3 (w3.alloc (.cells #[.int .i64 1, .int .i64 2, .int .i64 5] 3)) := (Keeps.refl [] w3).alloc _
  have n4 := new2 w3 (.cells #[.int .i64 1, .int .i64 2, .int .i64 5] 3) (.cells #[.int .i64 2, .int .i64 3, .int .i64 5] 3)
  have k5 : Keeps [] ((w3.alloc (.cells #[.int .i64 1, .int .i64 2, .int .i64 5] 3)).alloc (.cells #[.int .i64 2, .int .i64 3, .int .i64 5] 3)) (((w3.alloc (.cells #[.int .i64 1, .int .i64 2, .int .i64 5] 3)).alloc (.cells #[.int .i64 2, .int .i64 3, .int .i64 5] 3)).alloc (.cells #[.slice (some ⟨w3.heap.size, 0, none⟩) 3 3, .slice (some ⟨w3.heap.size + 1, 0, none⟩) 3 3] 33)) := (Keeps.refl [] _).alloc _
  have nn := go1 k5 n4
  have n5 := heap_new ((w3.alloc (.cells #[.int .i64 1, .int .i64 2, .int .i64 5] 3)).alloc (.cells #[.int .i64 2, .int .i64 3, .int .i64 5] 3)) (.cells #[.slice (some ⟨w3.heap.size, 0, none⟩) 3 3, .slice (some ⟨w3.heap.size + 1, 0, none⟩) 3 3] 33)
  have hz : ((w3.alloc (.cells #[.int .i64 1, .int .i64 2, .int .i64 5] 3)).alloc (.cells #[.int .i64 2, .int .i64 3, .int .i64 5] 3)).heap.size = w3.heap.size + 1 + 1 := by simp
  rw [hz] at n5
  have hR := rows2_new2 n5 (Nat.zero_le _) (ints_lit3 nn.1) (ints_lit3 nn.2)
  have k6 : Keeps [] w3 (((w3.alloc (.cells #[.int .i64 1, .int .i64 2, .int .i64 5] 3)).alloc (.cells #[.int .i64 2, .int .i64 3, .int .i64 5] 3)).alloc (.cells #[.slice (some ⟨w3.heap.size, 0, none⟩) 3 3, .slice (some ⟨w3.heap.size + 1, 0, none⟩) 3 3] 33)) := (((Keeps.refl [] w3).alloc _).alloc _).alloc _
  have HR := Lib.hid (And.intro hR (go1 k6 H3.out))
  clear hR k6 kA n4 k5 nn n5 H3 hz
  go_wp2_with fail
  refine (both_spec 0 _ _ [[1, 2, 5], [2, 3, 5]] HR.out.1 lit_rises lit_short (Nat.zero_le _)).mono ?_
  rintro e w7 ⟨v7, rfl, hown7, hk7⟩
  rw [both_lit] at hown7
  obtain ⟨g7, c7, rfl, hc7, hg7, hcell⟩ := own_cells hown7 (by simp)
  have e0 : w7.cell? ⟨g7, 0, none⟩ = some (.int .i64 2) := hcell 0 (by decide)
  have e1 : w7.cell? ⟨g7, 1, none⟩ = some (.int .i64 5) := hcell 1 (by decide)
  have H7 := Lib.hid (go1 hk7 HR.out.2)
  clear hcell hk7 HR hown7
  go_wp2_with fail
  refine (get1_spec _ x 7 H7.out.1).mono ?_
  rintro e w8 ⟨v8, rfl, hown8, hk8⟩
  obtain ⟨a8, c8, rfl, -, -, -⟩ := row_slice hown8
  have H8 := Lib.hid (go1 hk8 H7.out)
  clear hk8 hown8 H7 e0 e1
  go_wp2_with fail
  refine (all1_spec _ x 7 H8.out.1).mono ?_
  rintro e w9 ⟨v9, rfl, hown9, hk9⟩
  obtain ⟨a9, c9, rfl, -, -, -⟩ := row_slice hown9
  have H9 := Lib.hid (go1 hk9 H8.out)
  clear hk9 hown9 H8
  go_wp2_with fail
  go_ret
  exact ⟨rfl, H9.out.2⟩
end Go.Proofs.YtejfigbjaiealaaDoor
