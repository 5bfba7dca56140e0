/-
  merge.Tables at one table of one row, walked: it hands back one row; a heap of one cursor.
-/
import Derived.Test.YtlifonflgcfafaaGreatDoorTabAsk
namespace Go.Proofs.YtlifonflgcfafaaGreatDoor
open Go Go.RowKit

set_option maxRecDepth 100000 in
set_option maxHeartbeats 1000000 in
theorem qlen_spec (w : World) (a : Option Addr) (n c : Nat) : Calls Tryz.prog 326 #[.slice a n c] w fun e w' => e = .returned (.int .i64 n) ∧ w' = w := by
  go_enter Tryz.func326, Tryz.ntmps326
  go_wp2_with fail
  go_ret
  exact ⟨rfl, rfl⟩

theorem load_q (w : World) (q : Nat) (v : Value) (h : w.cell? ⟨q, 0, none⟩ = some v) : (loadVar 206 ⟨q, 0, none⟩).run Tryz.prog w = .ok v w := by
  go_simp

theorem m_len (n : Nat) (a : Addr) (w : World) (v : Value) (h : (loadVar 206 a).run Tryz.prog w = .ok v w) : (method (n + 1) 210 (.pointer (some a)) "Len").run Tryz.prog w = .ok (326, v) w := by
  have h1 : (method (n + 1) 210 (.pointer (some a)) "Len").run Tryz.prog w = ((loadVar 206 a) >>= fun r => pure (326, r)).run Tryz.prog w := by kernel_rfl
  rw [h1]
  simp [h]

theorem m_swap (n : Nat) (a : Addr) (w : World) (v : Value) (h : (loadVar 206 a).run Tryz.prog w = .ok v w) : (method (n + 1) 210 (.pointer (some a)) "Swap").run Tryz.prog w = .ok (328, v) w := by
  have h1 : (method (n + 1) 210 (.pointer (some a)) "Swap").run Tryz.prog w = ((loadVar 206 a) >>= fun r => pure (328, r)).run Tryz.prog w := by kernel_rfl
  rw [h1]
  simp [h]

theorem m_pop (n : Nat) (a : Addr) (w : World) : (method (n + 1) 210 (.pointer (some a)) "Pop").run Tryz.prog w = .ok (329, .pointer (some a)) w := by kernel_rfl

set_option linter.unusedSimpArgs false in
set_option maxRecDepth 100000 in
theorem hinit_spec (w : World) (q g c : Nat) (hq : w.heap[q]? = some (.cells #[.slice (some ⟨g, 0, none⟩) 1 c] 206 (0, 0))) :
    Calls Tryz.prog 113 #[.iface 210 (.pointer (some ⟨q, 0, none⟩))] w fun e w' => e = .returned (.tuple #[]) ∧ w' = w := by
  have cq := cells_at hq
  have lq := lt_of_at hq
  have hm := fun n => m_len n ⟨q, 0, none⟩ w (.slice (some ⟨g, 0, none⟩) 1 c) (load_q w q _ (by rw [cq]; rfl))
  go_enter Tryz.func113, Tryz.ntmps113
  go_wp2_with fail
  refine (qlen_spec w _ 1 c).mono ?_
  rintro e w2 ⟨rfl, rfl⟩
  go_wp2_with fail
  go_loopg [3] 0 (fun (gk : Nat) (u3 : Value) (wr : World) => gk = 0 ∧ u3 = .int .i64 (-1) ∧ wr = w2)
  case atStart => exact ⟨rfl, rfl, rfl⟩
  case round =>
    obtain ⟨hgk, rfl, rfl⟩ := hrel
    go_wp2_with fail
    refine bodyPost_end (results_none rfl _ _ _) rfl ?_
    exact ⟨rfl, rfl⟩

/-- The one cursor's cells. -/
def CurAt (w : World) (g : Nat) (u1 u2 : Value) : Prop := (w.cell? ⟨g, 0, none⟩ = some (.int .i64 0) ∧ w.cell? ⟨g, 1, none⟩ = some (.int .i64 0) ∧ w.cell? ⟨g, 2, none⟩ = some u1 ∧ w.cell? ⟨g, 3, none⟩ = some u2) ∧ ∀ i, w.frozen? ⟨g, i, none⟩ = false

theorem setCell_back {w : World} {g i : Nat} {v : Value} (h : w.cell? ⟨g, i, none⟩ = some v) : w.setCell ⟨g, i, none⟩ v = w := by
  have hx : w.heap.modify g (fun | .cells c elem frozen => .cells (if (none : Option Nat).isSome then c else c.setIfInBounds i v) elem frozen | o => o) = w.heap := by
    apply Array.ext
    · simp
    · intro j h1 h2
      rw [Array.getElem_modify]
      split
      · rename_i e
        subst e
        have hh : w.heap[g]? = some w.heap[g] := Array.getElem?_eq_getElem h2
        generalize w.heap[g] = o at hh ⊢
        unfold World.cell? at h
        simp only [hh] at h
        cases o with
        | cells c t f =>
          have hc : c[i]? = some v := by simpa using h
          have : c.setIfInBounds i v = c := by
            apply Array.ext
            · simp
            · intro k k1 k2
              rw [Array.getElem_setIfInBounds]
              split
              · rename_i e2
                subst e2
                obtain ⟨_, h5⟩ := Array.getElem?_eq_some_iff.1 hc
                exact h5.symm
              · rfl
          simp [this]
        | _ => rfl
      · rfl
  exact congrArg (fun H => ({ w with heap := H } : World)) hx

set_option linter.unusedSimpArgs false in
set_option maxRecDepth 100000 in
theorem qswap_spec (w : World) (g c : Nat) (a1 a2 : Option Addr) (n1 c1 n2 c2 : Nat) (h : CurAt w g (.slice a1 n1 c1) (.slice a2 n2 c2)) : Calls Tryz.prog 328 #[.slice (some ⟨g, 0, none⟩) 1 c, .int .i64 0, .int .i64 0] w fun e w' => e = .returned (.tuple #[]) ∧ w' = w.drew := by
  obtain ⟨⟨d0, d1, d2, d3⟩, hfr⟩ := h
  have lg := World.block_lt_of_cell? w _ d0
  go_enter Tryz.func328, Tryz.ntmps328
  go_region
  go_wp2_with fail
  refine bodyPost_end (results_none rfl _ _ _) rfl ?_
  rw [setCell_back d0, setCell_back d1, setCell_back d2, setCell_back d3, setCell_back d0, setCell_back d1, setCell_back d2, setCell_back d3]
  exact ⟨rfl, rfl⟩

set_option linter.unusedSimpArgs false in
set_option maxRecDepth 100000 in
theorem hdown_spec (w : World) (v : Value) : Calls Tryz.prog 161 #[v, .int .i64 0, .int .i64 0] w fun e w' => e = .returned (.bool false) ∧ w' = w := by
  go_enter Tryz.func161, Tryz.ntmps161
  go_wp2_with fail
  go_loopg [7] 0 (fun (gk : Nat) (u7 : Value) (wr : World) => gk = 0 ∧ u7 = .int .i64 0 ∧ wr = w)
  case atStart => exact ⟨rfl, rfl, rfl⟩
  case round =>
    obtain ⟨hgk, rfl, rfl⟩ := hrel
    go_wp2_with fail
    go_ret
    exact ⟨rfl, rfl⟩

set_option linter.unusedSimpArgs false in
set_option maxRecDepth 100000 in
theorem qpop_spec (w : World) (q g c : Nat) (a1 a2 : Option Addr) (n1 c1 n2 c2 : Nat) (hq : w.heap[q]? = some (.cells #[.slice (some ⟨g, 0, none⟩) 1 c] 206 (0, 0))) (h : CurAt w g (.slice a1 n1 c1) (.slice a2 n2 c2)) (hc : 1 ≤ c) :
    Calls Tryz.prog 329 #[.pointer (some ⟨q, 0, none⟩)] w fun e w' => e = .returned (.iface 208 (.agg #[.int .i64 0, .int .i64 0, .slice a1 n1 c1, .slice a2 n2 c2])) ∧ w'.heap[q]? = some (.cells #[.slice (some ⟨g, 0, none⟩) 0 c] 206 (0, 0)) ∧ Keeps [q] w w' := by
  obtain ⟨⟨d0, d1, d2, d3⟩, -⟩ := h
  have lg := World.block_lt_of_cell? w _ d0
  have cq := cells_at hq
  have fq := free_at hq
  have lq := lt_of_at hq
  go_enter Tryz.func329, Tryz.ntmps329
  go_wp2_with fail
  go_ret
  refine ⟨rfl, heap_old (heap_setCell_same w q 0 _ _ _ hq) _, by repeat (first | exact Keeps.refl _ _ | assumption | refine Keeps.drew ?_ | refine Keeps.drewN ?_ _ | refine Keeps.alloc ?_ _ | refine Keeps.setCell ?_ (by first | exact .inl (by simp) | exact .inr (by simp; done) | exact .inr (by simp; omega)) _)⟩

set_option linter.unusedSimpArgs false in
set_option maxRecDepth 100000 in
theorem hpop_spec (w : World) (q g c : Nat) (a1 a2 : Option Addr) (n1 c1 n2 c2 : Nat) (hq : w.heap[q]? = some (.cells #[.slice (some ⟨g, 0, none⟩) 1 c] 206 (0, 0))) (h : CurAt w g (.slice a1 n1 c1) (.slice a2 n2 c2)) (hc : 1 ≤ c) :
    Calls Tryz.prog 116 #[.iface 210 (.pointer (some ⟨q, 0, none⟩))] w fun e w' => e = .returned (.iface 208 (.agg #[.int .i64 0, .int .i64 0, .slice a1 n1 c1, .slice a2 n2 c2])) ∧ w'.heap[q]? = some (.cells #[.slice (some ⟨g, 0, none⟩) 0 c] 206 (0, 0)) ∧ Keeps [q] w w' := by
  have cq := cells_at hq
  have lq := lt_of_at hq
  have hm := fun n => m_len n ⟨q, 0, none⟩ w (.slice (some ⟨g, 0, none⟩) 1 c) (load_q w q _ (by rw [cq]; rfl))
  have hs := fun n => m_swap n ⟨q, 0, none⟩ w (.slice (some ⟨g, 0, none⟩) 1 c) (load_q w q _ (by rw [cq]; rfl))
  have hp := fun n w => m_pop n ⟨q, 0, none⟩ w
  have H := Lib.hid (And.intro hq h)
  clear hq h
  go_enter Tryz.func116, Tryz.ntmps116
  go_wp2_with fail
  refine (qlen_spec w _ 1 c).mono ?_
  rintro e w2 ⟨rfl, rfl⟩
  go_wp2_with fail
  refine (qswap_spec w2 g c a1 a2 n1 c1 n2 c2 H.out.2).mono ?_
  rintro e w3 ⟨rfl, rfl⟩
  go_wp2_with fail
  refine (hdown_spec w2.drew _).mono ?_
  rintro e w4 ⟨rfl, rfl⟩
  go_wp2_with fail
  refine (qpop_spec w2.drew q g c a1 a2 n1 c1 n2 c2 H.out.1 H.out.2 hc).mono ?_
  rintro e w5 ⟨rfl, h5, k5⟩
  go_wp2_with fail
  go_ret
  exact ⟨rfl, h5, ((Keeps.refl [q] w2).drew).trans k5⟩

set_option linter.unusedSimpArgs false in
set_option maxRecDepth 100000 in
theorem isort1_spec (w : World) (v f : Value) : Calls Tryz.prog 253 #[v, .int .i64 0, .int .i64 1, f] w fun e w' => e = .returned (.tuple #[]) ∧ w' = w := by
  go_enter Tryz.func253, Tryz.ntmps253
  go_wp2_with fail
  go_loopg [8] 0 (fun (gk : Nat) (u8 : Value) (wr : World) => gk = 0 ∧ u8 = .int .i64 1 ∧ wr = w)
  case atStart => exact ⟨rfl, rfl, rfl⟩
  case round =>
    obtain ⟨hgk, rfl, rfl⟩ := hrel
    go_wp2_with fail
    refine bodyPost_end (results_none rfl _ _ _) rfl ?_
    exact ⟨rfl, rfl⟩

set_option linter.unusedSimpArgs false in
set_option maxRecDepth 100000 in
theorem stable1_spec (w : World) (v f : Value) : Calls Tryz.prog 216 #[v, .int .i64 1, f] w fun e w' => e = .returned (.tuple #[]) ∧ w' = w := by
  go_enter Tryz.func216, Tryz.ntmps216
  go_wp2_with fail
  go_loopg [7, 8] 0 (fun (gk : Nat) (u7 u8 : Value) (wr : World) => gk = 0 ∧ u7 = .int .i64 0 ∧ u8 = .int .i64 20 ∧ wr = w)
  case atStart => exact ⟨rfl, rfl, rfl, rfl⟩
  case round =>
    obtain ⟨hgk, rfl, rfl, rfl⟩ := hrel
    go_wp2_with fail
    refine (isort1_spec wr v f).mono ?_
    rintro e w2 ⟨rfl, rfl⟩
    go_wp2_with fail
    go_loopg [6] 0 (fun (gk : Nat) (u6 : Value) (wr : World) => gk = 0 ∧ u6 = .int .i64 20 ∧ wr = w2)
    case atStart => exact ⟨rfl, rfl, rfl⟩
    case round =>
      obtain ⟨hgk, rfl, rfl⟩ := hrel
      go_wp2_with fail
      refine bodyPost_end (results_none rfl _ _ _) rfl ?_
      exact ⟨rfl, rfl⟩

set_option linter.unusedSimpArgs false in
set_option maxRecDepth 100000 in
theorem sortS1_spec (w : World) (a : Option Addr) (c : Nat) (f : Value) : Calls Tryz.prog 162 #[.slice a 1 c, f] w fun e w' => e = .returned (.tuple #[]) ∧ w' = w := by
  go_enter Tryz.func162, Tryz.ntmps162
  go_wp2_with fail
  refine (stable1_spec w _ f).mono ?_
  rintro e w2 ⟨rfl, rfl⟩
  go_wp2_with fail
  refine bodyPost_end (results_none rfl _ _ _) rfl ?_
  exact ⟨rfl, rfl⟩

set_option linter.unusedSimpArgs false in
set_option maxRecDepth 100000 in
theorem compactS1_spec (w : World) (a : Option Addr) (c : Nat) (f : Value) : Calls Tryz.prog 165 #[.slice a 1 c, f] w fun e w' => e = .returned (.slice a 1 c) ∧ w' = w := by
  go_enter Tryz.func165, Tryz.ntmps165
  go_wp2_with fail
  go_ret
  exact ⟨rfl, rfl⟩

theorem row_newsA {w : World} {B sz n m c : Nat} {T : TypeId} {ad : Addr} {xs : List Value} (h : w.ownsRow B T sz (.slice (some ad) m c) n xs) : ∀ j u, xs[j]? = some u → w.cell? (ad.add j) = some u := by
  obtain ⟨hxl, ⟨e, -⟩ | ⟨g, c', cur, e, hbase, hg, h1, h2, h3, h4⟩⟩ := h
  · exact absurd e (by simp)
  · intro j u hu
    injection e with e _ _
    injection e with e
    subst e
    have hadd : (⟨g, 0, none⟩ : Addr).add j = ⟨g, j, none⟩ := by unfold Addr.add; split <;> simp_all
    have hj : j < n * sz := by rw [← hxl]; exact (List.getElem?_eq_some_iff.1 hu).1
    rw [hadd, cells_at hg, ← Array.getElem?_toList, ← List.getElem?_take_of_lt hj, h4]
    exact hu

set_option linter.unusedSimpArgs false in
set_option maxRecDepth 100000 in
theorem samples1_spec (w : World) (p cp B : Nat) (v : Value) (t x : Int) (hp : w.cell? ⟨p, 0, none⟩ = some v) (h : w.ownsRow B 42 2 v 1 [.int .i64 t, .int .u64 x]) :
    Calls Tryz.prog 115 #[.slice (some ⟨p, 0, none⟩) 1 cp] w fun e w' => (∃ a c, e = .returned (.slice (some a) 1 c)) ∧ Keeps [] w w' := by
  obtain ⟨im, him, hz0, hz1, hz2⟩ := info_parts infoSmp
  obtain ⟨ao, cap, rfl, -, -, -⟩ := row_slice h
  obtain ⟨ad, rfl⟩ : ∃ ad, ao = some ad := by
    rcases ao with - | ad
    · obtain ⟨-, ⟨-, e⟩ | ⟨g, c', cur, e, -⟩⟩ := h
      · exact absurd e (by decide)
      · exact absurd e (by simp)
    · exact ⟨ad, rfl⟩
  have Hn := Lib.hid (row_newsA h)
  have lp := World.block_lt_of_cell? w _ hp
  clear h
  go_enter Tryz.func115, Tryz.ntmps115
  go_wp2_with fail
  go_loopg [3, 8] 1 (fun (gk : Nat) (u3 u8 : Value) (wr : World) => (gk = 1 ∧ u8 = .int .i64 0 ∧ u3 = .slice none 0 0 ∧ wr = w) ∨ (gk = 0 ∧ u8 = .int .i64 1 ∧ ∃ a c, u3 = .slice (some a) 1 c ∧ Keeps [] w wr))
  case atStart => exact .inl ⟨rfl, rfl, rfl, rfl⟩
  case round =>
    rcases hrel with ⟨hgk, rfl, rfl, rfl⟩ | ⟨hgk, rfl, a, c, rfl, hk⟩
    · go_wp2_with (at_builtin; refine wpList_append_own _ rfl (.tmp 12) (.tmp 13) 90 rfl wr.heap.size 42 im _ 2 16 Tryz.underlying90 him hz0 hz1 hz2 rfl (by decide) (.slice none 0 0) 0 [] rfl (World.ownsRow_nil _ _ _ 2) ad 1 cap [.int .i64 t, .int .u64 x] rfl rfl Hn.out (by simp [Value.oneCell']) (by decide) (by decide) (Nat.le_refl _) ?_; intro v8 w8 hown8 hgrow8 hnil8; clear hnil8; obtain ⟨ao8, cp8, rfl, -, -, -⟩ := row_slice hown8; skip)
      have hk8 := keeps_own (Keeps.refl [] wr) hgrow8 (fun g hg => by simp [Value.ownBlock] at hg)
      obtain ⟨ad8, rfl⟩ : ∃ ad, ao8 = some ad := by
        rcases ao8 with - | ad
        · obtain ⟨-, ⟨-, e⟩ | ⟨g, c', cur, e, -⟩⟩ := hown8
          · exact absurd e (by decide)
          · exact absurd e (by simp)
        · exact ⟨ad, rfl⟩
      clear hown8 hgrow8
      go_wp2_with fail
      go_roundg 0
      case measure => omega
      case rel => exact .inr ⟨rfl, by go_num, ad8, cp8, rfl, hk8⟩
    · go_wp2_with fail
      refine (sortS1_spec wr _ c _).mono ?_
      rintro e w2 ⟨rfl, rfl⟩
      go_wp2_with fail
      refine (compactS1_spec w2 _ c _).mono ?_
      rintro e w3 ⟨rfl, rfl⟩
      go_wp2_with fail
      go_ret
      exact ⟨⟨a, c, rfl⟩, hk⟩
end Go.Proofs.YtlifonflgcfafaaGreatDoor
