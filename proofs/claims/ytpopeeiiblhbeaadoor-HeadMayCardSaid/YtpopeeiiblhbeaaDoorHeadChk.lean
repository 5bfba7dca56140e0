/-
  Package head: (*Head).Check: two points of one new series onto the head that holds nothing; one point onto the head of one series, at its last time.
  No condition beyond those that each theorem states.
-/
import Derived.Test.YtpopeeiiblhbeaaDoorHeadMap
namespace Go.Proofs.YtpopeeiiblhbeaaDoor
open Go Go.RowKit Go.Maps

def ChkRel (w : World) (gk : Nat) (u7 u19 : Value) (wr : World) : Prop :=
  (gk = 2 ∧ u7 = .int .i64 0 ∧ u19 = .int .i64 0 ∧ MapAt wr w.heap.size [] ∧ Keeps [] w wr) ∨ (gk = 1 ∧ u7 = .int .i64 1 ∧ u19 = .int .i64 1 ∧ MapAt wr w.heap.size [(keyB, .int .i64 3)] ∧ Keeps [] w wr) ∨ (gk = 0 ∧ u7 = .int .i64 1 ∧ u19 = .int .i64 2 ∧ Keeps [] w wr)

set_option linter.unusedSimpArgs false in
set_option maxRecDepth 100000 in
set_option maxHeartbeats 1000000 in
theorem chk2_spec (w : World) (h pb cp : Nat) (g c : Nat) (cur : Array Value) (hc : 1 ≤ c) (hb : w.heap[g]? = some (.cells cur 117 (0, 0))) (h0 : cur[0]? = some (.string ⟨#[97]⟩)) (h1 : cur[1]? = some (.string ⟨#[49]⟩))
    (hp : w.heap[pb]? = some (.cells #[.slice (some ⟨g, 0, none⟩) 1 c, .int .i64 3, .int .u64 0, .slice (some ⟨g, 0, none⟩) 1 c, .int .i64 25, .int .u64 0] 103 (0, 0))) (B : Nat) (hh : Head0 B w h 5 50 10) :
    Calls Tryd.prog 48 #[.pointer (some ⟨h, 0, none⟩), .slice (some ⟨pb, 0, none⟩) 2 cp] w fun e w' => e = .returned (.tuple #[.int .i64 (-1), .int .i64 0]) ∧ Keeps [] w w' := by
  have hmm := @run_makeMap Tryd.prog
  obtain ⟨rb, ob, x, mb, hhc, hmr, hob, -⟩ := hh
  have d0 : w.cell? ⟨pb, 0, none⟩ = some (.slice (some ⟨g, 0, none⟩) 1 c) := cells_at hp 0
  have d1 : w.cell? ⟨pb, 1, none⟩ = some (.int .i64 3) := cells_at hp 1
  have d2 : w.cell? ⟨pb, 2, none⟩ = some (.int .u64 0) := cells_at hp 2
  have d3 : w.cell? ⟨pb, 3, none⟩ = some (.slice (some ⟨g, 0, none⟩) 1 c) := cells_at hp 3
  have d4 : w.cell? ⟨pb, 4, none⟩ = some (.int .i64 25) := cells_at hp 4
  have d5 : w.cell? ⟨pb, 5, none⟩ = some (.int .u64 0) := cells_at hp 5
  have hl := lt_of_at hp
  have HH := Lib.hid (And.intro hb (And.intro hhc (And.intro hmr hob)))
  have k0 : Keeps [] w (w.alloc (.map #[] 0)) := (Keeps.refl [] w).alloc _
  have Hm := Lib.hid (And.intro (mapAt_new w) k0)
  clear hp hb hhc hmr hob k0
  go_enter Tryd.func48, Tryd.ntmps48
  go_wp2_with fail
  go_loopg [7, 19] 2 (ChkRel w)
  case atStart => exact .inl ⟨rfl, rfl, rfl, Hm.out.1, Hm.out.2⟩
  case round =>
    clear Hm
    rcases hrel with ⟨hgk, rfl, rfl, hm, hkw⟩ | ⟨hgk, rfl, rfl, hm, hkw⟩ | ⟨hgk, rfl, rfl, hkw⟩
    · have Hg := Lib.hid hgk
      have e0 := (hkw.cell (i := 0) hl (by simp)).trans d0
      have e1 := (hkw.cell (i := 1) hl (by simp)).trans d1
      have e2 := (hkw.cell (i := 2) hl (by simp)).trans d2
      have hlw := hkw.lt hl
      have hp := heap_new wr (.cells #[.slice (some ⟨g, 0, none⟩) 1 c, .int .i64 3, .int .u64 0] 103)
      have kp : Keeps [] wr (wr.alloc (.cells #[.slice (some ⟨g, 0, none⟩) 1 c, .int .i64 3, .int .u64 0] 103)) := (Keeps.refl [] wr).alloc _
      have H0 := Lib.hid (And.intro hp (go1 kp (And.intro hm (And.intro (go1 hkw HH.out) hkw))))
      clear hp kp hm hkw hgk d0 d1 d2 d3 d4 d5
      go_wp2_with fail
      refine (check1_spec _ g c cur hc H0.out.2.2.1.1 h0 h1).mono ?_
      rintro e w2 ⟨rfl, hk2⟩
      have H2 := Lib.hid (go1 hk2 H0.out)
      clear hk2 H0 e0 e1 e2 hlw
      generalize wr.heap.size = pk at H2 ⊢
      have s0 : w2.cell? ⟨pk, 0, none⟩ = some (.slice (some ⟨g, 0, none⟩) 1 c) := cells_at H2.out.1 0
      have s1 : w2.cell? ⟨pk, 1, none⟩ = some (.int .i64 3) := cells_at H2.out.1 1
      go_wp2_with fail
      refine (key1_spec _ g c cur H2.out.2.2.1.1 h0 h1).mono ?_
      rintro e w3 ⟨rfl, hk3⟩
      have H3 := Lib.hid (go1 hk3 H2.out)
      clear hk3 H2 s0 s1
      have s1 : w3.cell? ⟨pk, 1, none⟩ = some (.int .i64 3) := cells_at H3.out.1 1
      have hq1 : (Instr.lookup 142 (.map (some w.heap.size)) (.string keyB) true).run Tryd.prog w3 = .ok (.tuple #[.int .i64 0, .bool false]) w3 := (H3.out.2.1.run_lookup Tryd.underlying142 Tryd.underlying9 (zero64 w3) keyB true).trans (by simp [lookVal, look])
      have hh := H3.out.2.2.1.2.1
      have hq2 : (Instr.lookup 92 (.map (some rb)) (.string keyB) true).run Tryd.prog w3 = .ok (.tuple #[.int .i64 0, .bool false]) w3 := (H3.out.2.2.1.2.2.1.run_lookup Tryd.underlying92 Tryd.underlying9 (zeroI w3) keyB true).trans (by simp [lookVal, look])
      have hob := H3.out.2.2.1.2.2.2
      have c0 : w3.cell? ⟨h, 0, none⟩ = some (.int .i64 5) := cells_at hh 0
      have c1 : w3.cell? ⟨h, 1, none⟩ = some (.int .i64 50) := cells_at hh 1
      have c3 : w3.cell? ⟨h, 3, none⟩ = some (.map (some rb)) := cells_at hh 3
      have c4 : w3.cell? ⟨h, 4, none⟩ = some (.map (some ob)) := cells_at hh 4
      have c7 : w3.cell? ⟨h, 7, none⟩ = some (.int .i64 0) := cells_at hh 7
      have c8 : w3.cell? ⟨h, 8, none⟩ = some (.int .i64 0) := cells_at hh 8
      have hn1 : ∀ n, (Builtin.len_ #[93] 3 #[.map (some ob)]).run Tryd.prog (w3.drewN n) = .ok (.int .i64 0) (w3.drewN n) := fun n => (run_len_map (w := w3.drewN n) 93 3 ob #[] 0 Tryd.underlying93 hob).trans rfl
      clear hh
      go_wp2_with fail
      go_quiet (fail)
      go_wp2_with fail
      go_quiet (fail)
      go_wp2_with (refine wpList_update_str _ rfl (.tmp 137) (.tmp 138) (.tmp 141) _ _ _ rfl Tryd.underlying142 Tryd.underlying9 w.heap.size _ keyB (.int .i64 3) (by rfl) (by rfl) (by rfl) H3.out.2.1 ?_; intro w5 hm5 hk5)
      have H5 := Lib.hid (And.intro hm5 ((H3.out.2.2.2.drewN _).after hk5 (fun y hy => .inr (by simp at hy; omega))))
      clear hm5 hk5 H3
      go_roundg 1
      case measure => have := Hg.out; omega
      case rel => exact .inr (.inl ⟨rfl, rfl, rfl, H5.out.1, H5.out.2⟩)
    · have Hg := Lib.hid hgk
      have e0 := (hkw.cell (i := 3) hl (by simp)).trans d3
      have e1 := (hkw.cell (i := 4) hl (by simp)).trans d4
      have e2 := (hkw.cell (i := 5) hl (by simp)).trans d5
      have hlw := hkw.lt hl
      have hp := heap_new wr (.cells #[.slice (some ⟨g, 0, none⟩) 1 c, .int .i64 25, .int .u64 0] 103)
      have kp : Keeps [] wr (wr.alloc (.cells #[.slice (some ⟨g, 0, none⟩) 1 c, .int .i64 25, .int .u64 0] 103)) := (Keeps.refl [] wr).alloc _
      have H0 := Lib.hid (And.intro hp (go1 kp (And.intro hm (And.intro (go1 hkw HH.out) hkw))))
      clear hp kp hm hkw hgk d0 d1 d2 d3 d4 d5
      go_wp2_with fail
      refine (check1_spec _ g c cur hc H0.out.2.2.1.1 h0 h1).mono ?_
      rintro e w2 ⟨rfl, hk2⟩
      have H2 := Lib.hid (go1 hk2 H0.out)
      clear hk2 H0 e0 e1 e2 hlw
      generalize wr.heap.size = pk at H2 ⊢
      have s0 : w2.cell? ⟨pk, 0, none⟩ = some (.slice (some ⟨g, 0, none⟩) 1 c) := cells_at H2.out.1 0
      have s1 : w2.cell? ⟨pk, 1, none⟩ = some (.int .i64 25) := cells_at H2.out.1 1
      go_wp2_with fail
      refine (key1_spec _ g c cur H2.out.2.2.1.1 h0 h1).mono ?_
      rintro e w3 ⟨rfl, hk3⟩
      have H3 := Lib.hid (go1 hk3 H2.out)
      clear hk3 H2 s0 s1
      have s1 : w3.cell? ⟨pk, 1, none⟩ = some (.int .i64 25) := cells_at H3.out.1 1
      have hq1 : (Instr.lookup 142 (.map (some w.heap.size)) (.string keyB) true).run Tryd.prog w3 = .ok (.tuple #[.int .i64 3, .bool true]) w3 := (H3.out.2.1.run_lookup Tryd.underlying142 Tryd.underlying9 (zero64 w3) keyB true).trans (by simp [lookVal, look])
      have hh := H3.out.2.2.1.2.1
      have hq2 : (Instr.lookup 92 (.map (some rb)) (.string keyB) true).run Tryd.prog w3 = .ok (.tuple #[.int .i64 0, .bool false]) w3 := (H3.out.2.2.1.2.2.1.run_lookup Tryd.underlying92 Tryd.underlying9 (zeroI w3) keyB true).trans (by simp [lookVal, look])
      have hob := H3.out.2.2.1.2.2.2
      have c0 : w3.cell? ⟨h, 0, none⟩ = some (.int .i64 5) := cells_at hh 0
      have c1 : w3.cell? ⟨h, 1, none⟩ = some (.int .i64 50) := cells_at hh 1
      have c3 : w3.cell? ⟨h, 3, none⟩ = some (.map (some rb)) := cells_at hh 3
      have c4 : w3.cell? ⟨h, 4, none⟩ = some (.map (some ob)) := cells_at hh 4
      have c7 : w3.cell? ⟨h, 7, none⟩ = some (.int .i64 0) := cells_at hh 7
      have c8 : w3.cell? ⟨h, 8, none⟩ = some (.int .i64 0) := cells_at hh 8
      have hn1 : ∀ n, (Builtin.len_ #[93] 3 #[.map (some ob)]).run Tryd.prog (w3.drewN n) = .ok (.int .i64 0) (w3.drewN n) := fun n => (run_len_map (w := w3.drewN n) 93 3 ob #[] 0 Tryd.underlying93 hob).trans rfl
      clear hh
      go_wp2_with fail
      go_quiet (fail)
      go_wp2_with fail
      go_quiet (fail)
      go_wp2_with (refine wpList_update_str _ rfl (.tmp 137) (.tmp 138) (.tmp 141) _ _ _ rfl Tryd.underlying142 Tryd.underlying9 w.heap.size _ keyB (.int .i64 25) (by rfl) (by rfl) (by rfl) H3.out.2.1 ?_; intro w5 hm5 hk5)
      have H5 := Lib.hid (And.intro hm5 ((H3.out.2.2.2.drewN _).after hk5 (fun y hy => .inr (by simp at hy; omega))))
      clear hm5 hk5 H3
      go_roundg 0
      case measure => have := Hg.out; omega
      case rel => exact .inr (.inr ⟨rfl, rfl, rfl, H5.out.2⟩)
    · have Hk := Lib.hid hkw
      clear hkw d0 d1 d2 d3 d4 d5
      go_wp2_with fail
      go_ret2
      exact ⟨rfl, Hk.out⟩

def Head1 (w : World) (h : Nat) (next n floor top : Int) (last : Int) : Prop :=
  ∃ rb ob x sb lb va, HeadC w h 5 50 10 rb ob x next n floor top ∧ MapAt w rb [(keyB, .int .i64 1)] ∧ One w ob sb ∧ w.heap[sb]? = some (.cells #[lb, va, .int .i64 last] 147 (0, 0))

def Chk1Rel (w : World) (gk : Nat) (u19 : Value) (wr : World) : Prop := gk = 1 ∧ u19 = .int .i64 0 ∧ MapAt wr w.heap.size [] ∧ Keeps [] w wr

set_option linter.unusedSimpArgs false in
set_option maxRecDepth 100000 in
set_option maxHeartbeats 1000000 in
theorem chk1_spec (w : World) (h pb cp : Nat) (g c : Nat) (cur : Array Value) (hc : 1 ≤ c) (hb : w.heap[g]? = some (.cells cur 117 (0, 0))) (h0 : cur[0]? = some (.string ⟨#[97]⟩)) (h1 : cur[1]? = some (.string ⟨#[49]⟩))
    (hp : w.heap[pb]? = some (.cells #[.slice (some ⟨g, 0, none⟩) 1 c, .int .i64 25, .int .u64 0] 103 (0, 0))) (next n floor top : Int) (hh : Head1 w h next n floor top 25) :
    Calls Tryd.prog 48 #[.pointer (some ⟨h, 0, none⟩), .slice (some ⟨pb, 0, none⟩) 1 cp] w fun e w' => e = .returned (.tuple #[.int .i64 0, .int .i64 11]) ∧ Keeps [] w w' := by
  have hmm := @run_makeMap Tryd.prog
  obtain ⟨rb, ob, x, sb, lb, va, hhc, hmr, hob, hsb⟩ := hh
  have d0 : w.cell? ⟨pb, 0, none⟩ = some (.slice (some ⟨g, 0, none⟩) 1 c) := cells_at hp 0
  have d1 : w.cell? ⟨pb, 1, none⟩ = some (.int .i64 25) := cells_at hp 1
  have d2 : w.cell? ⟨pb, 2, none⟩ = some (.int .u64 0) := cells_at hp 2
  have hl := lt_of_at hp
  have HH := Lib.hid (And.intro hb (And.intro hhc (And.intro hmr (And.intro hob hsb))))
  have k0 : Keeps [] w (w.alloc (.map #[] 0)) := (Keeps.refl [] w).alloc _
  have Hm := Lib.hid (And.intro (mapAt_new w) k0)
  clear hp hb hhc hmr hob hsb k0
  go_enter Tryd.func48, Tryd.ntmps48
  go_wp2_with fail
  go_loopg [19] 1 (Chk1Rel w)
  case atStart => exact ⟨rfl, rfl, Hm.out.1, Hm.out.2⟩
  case round =>
    clear Hm
    rcases hrel with ⟨hgk, rfl, hm, hkw⟩
    have Hg := Lib.hid hgk
    have e0 := (hkw.cell (i := 0) hl (by simp)).trans d0
    have e1 := (hkw.cell (i := 1) hl (by simp)).trans d1
    have e2 := (hkw.cell (i := 2) hl (by simp)).trans d2
    have hlw := hkw.lt hl
    have hp := heap_new wr (.cells #[.slice (some ⟨g, 0, none⟩) 1 c, .int .i64 25, .int .u64 0] 103)
    have kp : Keeps [] wr (wr.alloc (.cells #[.slice (some ⟨g, 0, none⟩) 1 c, .int .i64 25, .int .u64 0] 103)) := (Keeps.refl [] wr).alloc _
    have H0 := Lib.hid (And.intro hp (go1 kp (And.intro hm (And.intro (go1 hkw HH.out) hkw))))
    clear hp kp hm hkw hgk d0 d1 d2
    go_wp2_with fail
    refine (check1_spec _ g c cur hc H0.out.2.2.1.1 h0 h1).mono ?_
    rintro e w2 ⟨rfl, hk2⟩
    have H2 := Lib.hid (go1 hk2 H0.out)
    clear hk2 H0 e0 e1 e2 hlw
    generalize wr.heap.size = pk at H2 ⊢
    have s0 : w2.cell? ⟨pk, 0, none⟩ = some (.slice (some ⟨g, 0, none⟩) 1 c) := cells_at H2.out.1 0
    have s1 : w2.cell? ⟨pk, 1, none⟩ = some (.int .i64 25) := cells_at H2.out.1 1
    go_wp2_with fail
    refine (key1_spec _ g c cur H2.out.2.2.1.1 h0 h1).mono ?_
    rintro e w3 ⟨rfl, hk3⟩
    have H3 := Lib.hid (go1 hk3 H2.out)
    clear hk3 H2 s0 s1
    have s1 : w3.cell? ⟨pk, 1, none⟩ = some (.int .i64 25) := cells_at H3.out.1 1
    have hq1 : (Instr.lookup 142 (.map (some w.heap.size)) (.string keyB) true).run Tryd.prog w3 = .ok (.tuple #[.int .i64 0, .bool false]) w3 := (H3.out.2.1.run_lookup Tryd.underlying142 Tryd.underlying9 (zero64 w3) keyB true).trans (by simp [lookVal, look])
    have hh := H3.out.2.2.1.2.1
    have hq2 : (Instr.lookup 92 (.map (some rb)) (.string keyB) true).run Tryd.prog w3 = .ok (.tuple #[.int .i64 1, .bool true]) w3 := (H3.out.2.2.1.2.2.1.run_lookup Tryd.underlying92 Tryd.underlying9 (zeroI w3) keyB true).trans (by simp [lookVal, look])
    have hq3 := run_one H3.out.2.2.1.2.2.2.1
    have c9 : w3.cell? ⟨sb, 2, none⟩ = some (.int .i64 25) := cells_at H3.out.2.2.1.2.2.2.2 2
    have c3 : w3.cell? ⟨h, 3, none⟩ = some (.map (some rb)) := cells_at hh 3
    have c4 : w3.cell? ⟨h, 4, none⟩ = some (.map (some ob)) := cells_at hh 4
    clear hh
    go_wp2_with fail
    go_ret2
    exact ⟨rfl, H3.out.2.2.2⟩
end Go.Proofs.YtpopeeiiblhbeaaDoor
