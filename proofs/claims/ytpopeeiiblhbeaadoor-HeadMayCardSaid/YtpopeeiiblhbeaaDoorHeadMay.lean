/-
  HeadMay: New opens a head iff the config may be. The law, walked.
  The library's variable internal/bytealg.MaxLen holds some number.
-/
import Derived.Test.YtpopeeiiblhbeaaDoorHeadLaw
import Derived.Shelf.Vars
namespace Go.Proofs.YtpopeeiiblhbeaaDoor
open Go Go.RowKit Go.Maps

theorem libVar_of {w : World} (h : w.ShapedOpen Tryd.prog) : LibVar w :=
  Go.Proofs.cell_of_shapedOpen_int (zero := #[.int .i64 0]) (t := 3) h (of_decide_eq_true (by kernel_rfl)) (by kernel_rfl) rfl (by kernel_rfl) (by kernel_rfl) Tryd.underlying3

theorem mayNot {a b c : Int} (h : ¬ May a b c) : (a < 1) ∨ (¬ a < 1 ∧ 10000 < a) ∨ (¬ a < 1 ∧ ¬ 10000 < a ∧ b < 1) ∨ (¬ a < 1 ∧ ¬ 10000 < a ∧ ¬ b < 1 ∧ 1048576 < b) ∨ (¬ a < 1 ∧ ¬ 10000 < a ∧ ¬ b < 1 ∧ ¬ 1048576 < b ∧ c < 1) ∨ (¬ a < 1 ∧ ¬ 10000 < a ∧ ¬ b < 1 ∧ ¬ 1048576 < b ∧ ¬ c < 1 ∧ 1073741824 < c) := by
  unfold May at h
  omega

set_option linter.unusedSimpArgs false in
set_option maxRecDepth 100000 in
set_option maxHeartbeats 1000000 in
theorem mayYes_spec (w : World) (hv : LibVar w) (a b c : Int) (hm : May a b c) :
    Calls Tryd.prog 3 #[.agg #[.int .i64 a, .int .i64 b, .int .i64 c]] w fun e w' => e = .returned (.bool true) ∧ Keeps [] w w' := by
  have hm2 := hm
  obtain ⟨m1, m2, m3, m4, m5, m6⟩ := hm2
  have k0 : Keeps [] w (w.alloc (.cells #[.int .i64 a, .int .i64 b, .int .i64 c] 23)) := (Keeps.refl [] w).alloc _
  have H0 := Lib.hid (And.intro (heap_new w (.cells #[.int .i64 a, .int .i64 b, .int .i64 c] 23)) (And.intro (go1 k0 hv) k0))
  clear k0 hv
  go_enter Tryd.func3, Tryd.ntmps3
  go_wp2_with fail
  refine (newYes_spec _ a b c hm).mono ?_
  rintro e w1 ⟨h, rfl, -, -, hk1⟩
  have H1 := Lib.hid (go1 hk1 H0.out)
  clear hk1 H0
  generalize w.heap.size = pb at H1 ⊢
  go_wp2_with fail
  refine (awake15_spec _ H1.out.2.1).mono ?_
  rintro e w2 ⟨rfl, hk2⟩
  have H2 := Lib.hid (go1 hk2 H1.out)
  clear hk2 H1
  have d0 : w2.cell? ⟨pb, 0, none⟩ = some (.int .i64 a) := cells_at H2.out.1 0
  have d1 : w2.cell? ⟨pb, 1, none⟩ = some (.int .i64 b) := cells_at H2.out.1 1
  have d2 : w2.cell? ⟨pb, 2, none⟩ = some (.int .i64 c) := cells_at H2.out.1 2
  go_wp2_with fail
  refine (cfgYes_spec _ a b c hm).mono ?_
  rintro e w3 ⟨rfl, hk3⟩
  have H3 := Lib.hid (go1 hk3 H2.out.2.2)
  clear hk3 H2 d0 d1 d2
  go_wp2_with fail
  go_ret
  exact ⟨rfl, H3.out⟩

set_option linter.unusedSimpArgs false in
set_option maxRecDepth 100000 in
set_option maxHeartbeats 1000000 in
theorem mayNo_spec (w : World) (hv : LibVar w) (a b c : Int) (hm : ¬ May a b c) :
    Calls Tryd.prog 3 #[.agg #[.int .i64 a, .int .i64 b, .int .i64 c]] w fun e w' => e = .returned (.bool true) ∧ Keeps [] w w' := by
  have k0 : Keeps [] w (w.alloc (.cells #[.int .i64 a, .int .i64 b, .int .i64 c] 23)) := (Keeps.refl [] w).alloc _
  have H0 := Lib.hid (And.intro (heap_new w (.cells #[.int .i64 a, .int .i64 b, .int .i64 c] 23)) (And.intro (go1 k0 hv) k0))
  clear k0 hv
  have hm6 := mayNot hm
  have Hm := Lib.hid hm
  clear hm
  rcases hm6 with m1 | ⟨m1, m2⟩ | ⟨m1, m2, m3⟩ | ⟨m1, m2, m3, m4⟩ | ⟨m1, m2, m3, m4, m5⟩ | ⟨m1, m2, m3, m4, m5, m6⟩
  all_goals
    go_enter Tryd.func3, Tryd.ntmps3
    go_wp2_with fail
    refine (newNo_spec _ a b c Hm.out).mono ?_
    rintro e w1 ⟨rfl, hk1⟩
    have H1 := Lib.hid (go1 hk1 H0.out)
    clear hk1 H0
    generalize w.heap.size = pb at H1 ⊢
    go_wp2_with fail
    refine (awake15_spec _ H1.out.2.1).mono ?_
    rintro e w2 ⟨rfl, hk2⟩
    have H2 := Lib.hid (go1 hk2 H1.out)
    clear hk2 H1
    have d0 : w2.cell? ⟨pb, 0, none⟩ = some (.int .i64 a) := cells_at H2.out.1 0
    have d1 : w2.cell? ⟨pb, 1, none⟩ = some (.int .i64 b) := cells_at H2.out.1 1
    have d2 : w2.cell? ⟨pb, 2, none⟩ = some (.int .i64 c) := cells_at H2.out.1 2
    go_wp2_with fail
    refine (cfgNo_spec _ a b c Hm.out).mono ?_
    rintro e w3 ⟨rfl, hk3⟩
    have H3 := Lib.hid (go1 hk3 H2.out.2.2)
    clear hk3 H2 d0 d1 d2
    go_wp2_with fail
    go_ret
    first
      | exact ⟨rfl, H3.out⟩
      | (refine ⟨?_, H3.out⟩
         have q6 : decide (c ≤ 1073741824) = false := by simp; omega
         show Ending.returned (.bool (!decide (c ≤ 1073741824))) = _
         rw [q6]
         rfl)

def CfgArg (v : Value) : Prop := ∃ a b c : Int, v = .agg #[.int .i64 a, .int .i64 b, .int .i64 c]

theorem headMay_law (w : World) (hv : LibVar w) (v : Value) (h : CfgArg v) :
    Calls Tryd.prog 3 #[v] w fun e w' => e = .returned (.bool true) ∧ Keeps [] w w' := by
  obtain ⟨a, b, c, rfl⟩ := h
  by_cases hm : May a b c
  · exact mayYes_spec w hv a b c hm
  · exact mayNo_spec w hv a b c hm

set_option maxRecDepth 100000 in
theorem open_cfgH {H : Type} {e0 : TypeId × Value → H} {W : World} {r : Reach} {b0 : Nat} {v : Value} {d : DataW H} {p : List MemPlace} (hok : Value.okWide Tryd.prog W r b0 23 v) (h : DataW.Trod e0 Tryd.prog W 0 (fun _ => true) true 23 v d p) : CfgArg v := by
  obtain ⟨v0, v1, v2, y0, y1, y2, n, rfl, -, -, g0, g1, g2⟩ := Joins.open_agg3 Tryd.underlying23 (by kernel_rfl) (by kernel_rfl) hok h
  obtain ⟨n0, e0', _, _⟩ := DataW.trod_int Tryd.underlying3 g0
  obtain ⟨n1, e1, _, _⟩ := DataW.trod_int Tryd.underlying3 g1
  obtain ⟨n2, e2, _, _⟩ := DataW.trod_int Tryd.underlying2 g2
  simp only [List.cons.injEq, and_true] at e0' e1 e2
  subst e0' e1 e2
  exact ⟨n0, n1, n2, rfl⟩
end Go.Proofs.YtpopeeiiblhbeaaDoor
