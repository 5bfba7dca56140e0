/-
  Package barographlaw13: Few: its matchers lie in rows of the walk's own.
  No condition beyond those that each theorem states.
-/
import Derived.Test.YtlifonflgcfafaaGreatDoorFew13
namespace Go.Proofs.YtlifonflgcfafaaGreatDoor
open Go Go.RowKit

/-- A slice of matchers of the walk's own, their values too. -/
def RowsAt (B : Nat) (w : World) (v : Value) (L : List MatB) : Prop := ∃ E : List MatV, w.ownsRow B 62 3 v E.length (E.flatMap encMV) ∧ ValsAt B w E L

theorem RowsAt.keep {B : Nat} {w w' : World} {v : Value} {L : List MatB} (h : RowsAt B w v L) (k : Keeps [] w w') : RowsAt B w' v L := by
  obtain ⟨E, h1, h2⟩ := h
  exact ⟨E, k.row h1 (by simp), h2.keep k (fun _ _ _ _ _ _ => by simp)⟩

instance go1RowsAt {w w' : World} (B : Nat) (v : Value) (L : List MatB) : Go1 w w' (RowsAt B w v L) (RowsAt B w' v L) := ⟨fun k h => h.keep k⟩

theorem RowsAt.at_ {B : Nat} {w : World} {v : Value} {L : List MatB} (h : RowsAt B w v L) (k : Nat) (hk : k < L.length) : ∃ b cap u, v = .slice (some ⟨b, 0, none⟩) L.length cap ∧ b < w.heap.size ∧
    w.cell? ⟨b, k * 3, none⟩ = some (.int .i64 L[k].1) ∧ w.cell? ⟨b, k * 3 + 1, none⟩ = some (.string L[k].2.1) ∧ w.cell? ⟨b, k * 3 + 2, none⟩ = some u ∧ w.ownsRow B 9 1 u L[k].2.2.length (L[k].2.2.map Value.string) := by
  obtain ⟨E, hr, hl, hv⟩ := h
  have hk' : k < E.length := by omega
  obtain ⟨x1, x2, x3⟩ := hv k hk' hk
  obtain ⟨ao, cap, e, -, -, hc⟩ := row_slice hr
  obtain ⟨b, rfl, -, hb, -⟩ := hc (k * 3) (by omega)
  have cell : ∀ i, i < 3 → w.cell? ⟨b, k * 3 + i, none⟩ = (encMV E[k])[i]? := fun i hi => by
    obtain ⟨b', e2, -, -, hx⟩ := hc (k * 3 + i) (by omega)
    injection e2 with e2
    injection e2 with e2 _ _
    subst e2
    rw [hx, flatMap_at encMV 3 (fun _ => rfl) E k hk' i hi]
  refine ⟨b, cap, E[k].2.2, by rw [e, hl], hb, ?_, ?_, ?_, x3⟩
  · rw [← x1]; exact cell 0 (by decide)
  · rw [← x2]; exact cell 1 (by decide)
  · exact cell 2 (by decide)

theorem RowsAt.mats {B : Nat} {w : World} {v : Value} {L : List MatB} (h : RowsAt B w v L) : MatsAt w v L := by
  obtain ⟨E, h1, h2⟩ := h
  exact mats_of h1 h2

theorem RowsAt.formR {B : Nat} {w : World} {v : Value} {L : List MatB} (h : RowsAt B w v L) : ∃ ao cap, v = .slice ao L.length cap ∧ L.length ≤ cap ∧ cap ≤ maxLen ∧ (0 < L.length → ∃ b, ao = some ⟨b, 0, none⟩) := by
  obtain ⟨E, h1, h2⟩ := h
  obtain ⟨ao, cap, e, hc, hm, hcell⟩ := row_slice h1
  have hl := h2.1
  refine ⟨ao, cap, by rw [e, hl], by omega, hm, fun h0 => ?_⟩
  obtain ⟨g, e2, _⟩ := hcell 0 (by omega)
  exact ⟨g, e2⟩

def Few13RPost (w : World) (e : Ending) (w' : World) : Prop := ∃ va vb L, e = .returned (.tuple #[va, vb]) ∧ RowsAt w.heap.size w' va L ∧ MatsAt w' vb L ∧ (∀ m ∈ L, chkB m = true) ∧ L.length ≤ 4 ∧ Keeps [] w w'

set_option linter.unusedSimpArgs false in
set_option maxRecDepth 100000 in
set_option maxHeartbeats 1000000 in
theorem few13R_spec (w : World) (v : Value) (M : List MatB) (h : MatsAt w v M) :
    Calls Tryz.prog 17 #[v] w (Few13RPost w) := by
  obtain ⟨ip, hip, hz0, hz1, hz2⟩ := info_parts infoMatP
  obtain ⟨ir, hir, hy0, hy1, hy2⟩ := info_parts infoMatR
  have Hf := Lib.hid h
  obtain ⟨ao, cap, rfl, hl⟩ := h.form
  unfold maxLen at hl
  have k0 : Keeps [] w (w.alloc (.cells #[] 62)) := (Keeps.refl [] w).alloc _
  have k1 : Keeps [] (w.alloc (.cells #[] 62)) ((w.alloc (.cells #[] 62)).alloc (.cells #[] 113)) := (Keeps.refl [] _).alloc _
  have H0 := Lib.hid (And.intro (go1 k1 (own_made w w.heap.size 62 3 (Nat.le_refl _))) (And.intro (own_made (w.alloc (.cells #[] 62)) w.heap.size 113 3 (by simp)) (k0.trans k1)))
  clear h k0 k1
  go_enter Tryz.func17, Tryz.ntmps17
  go_wp2_with fail
  go_loopg [4, 5, 6] 20 (Few13Rel w M)
  case atStart => exact ⟨0, [], [], Nat.zero_le _, Nat.zero_le _, Nat.zero_le _, rfl, rfl, H0.out.1, by simpa using H0.out.2.1, ⟨rfl, fun i hi => by simp at hi⟩, by simp, H0.out.2.2⟩
  case round =>
    obtain ⟨i, E, L, hi, hi20, hE4, hgk, rfl, h4, h5, hvals, hchk, hkw⟩ := hrel
    have Hg := Lib.hid (And.intro hgk hchk)
    clear hgk hchk H0
    obtain ⟨a4, c4, rfl, -, -, -⟩ := row_slice h4
    obtain ⟨a5, c5, rfl, -, -, -⟩ := row_slice h5
    by_cases hend : i < M.length ∧ E.length < 4 ∧ i < 20
    · obtain ⟨hlt, hlt4, hlt20⟩ := hend
      obtain ⟨b, off, cap', u, ea, hbW, d0, d1, d2, hu⟩ := (Hf.out.keep hkw).at_ i hlt
      injection ea with ea _ ec
      subst ea ec
      have hlt' : (i : Int) < (M.length : Int) := by omega
      have hlt4' : (E.length : Int) < 4 := by omega
      have hlt20' : (i : Int) < 20 := by omega
      generalize M[i] = m at d0 d1 hu
      obtain ⟨mk, mn, mv⟩ := m
      dsimp only at d0 d1 hu
      have Hu := Lib.hid hu
      obtain ⟨ua, uc, rfl, -, -⟩ := hu
      have Hr := Lib.hid (And.intro h4 (And.intro h5 (And.intro hvals hkw)))
      clear h4 h5 hvals hkw
      go_wp2_with fail
      refine (short_spec wr mk mn _ mv Hu.out).mono ?_
      rintro e w2 ⟨v2, rfl, hrow2, hk2⟩
      have H2 := Lib.hid (And.intro (row_base (b' := w.heap.size) hrow2 Hr.out.2.2.2.size) (go1 hk2 Hr.out))
      clear hrow2 hk2 Hr d0 d1 d2
      obtain ⟨a2, c2, rfl, -, -, -⟩ := row_slice H2.out.1
      have kA : Keeps [] w2 (w2.alloc (.cells #[.int .i64 mk, .string (cut mn 42), .slice a2 (shortV mv).length c2] 113)) := (Keeps.refl [] w2).alloc _
      have H3 := Lib.hid (And.intro (heap_new w2 (.cells #[.int .i64 mk, .string (cut mn 42), .slice a2 (shortV mv).length c2] 113)) (go1 kA H2.out))
      clear kA H2
      go_wp2_with fail
      refine (chkR_spec _ mk (cut mn 42) _ (shortV mv) (row_texts H3.out.2.1) (by have := cut_size mn 42; simp only [maxLen]; omega) (shortV_size mv)).mono ?_
      rintro e w4 ⟨rfl, hk4⟩
      have H4 := Lib.hid (go1 hk4 H3.out)
      clear hk4 H3
      generalize w2.heap.size = pk at H4 ⊢
      generalize shortV mv = sv at H4 ⊢
      generalize cut mn 42 = sn at H4 ⊢
      cases hcb : chkB (mk, sn, sv) with
      | false =>
        go_wp2_with fail
        go_roundg (20 - (i + 1))
        case measure => have := Hg.out.1; omega
        case rel => exact ⟨i + 1, E, L, hlt, by omega, hE4, rfl, by go_num, H4.out.2.2.1, H4.out.2.2.2.1, H4.out.2.2.2.2.1, Hg.out.2, H4.out.2.2.2.2.2⟩
      | true =>
        have Hcb := Lib.hid hcb
        clear hcb
        have c0 : w4.cell? ⟨pk, 0, none⟩ = some (.int .i64 mk) := cells_at H4.out.1 0
        have c1 : w4.cell? ⟨pk, 1, none⟩ = some (.string sn) := cells_at H4.out.1 1
        have c2' : w4.cell? ⟨pk, 2, none⟩ = some (.slice a2 sv.length c2) := cells_at H4.out.1 2
        have kA : Keeps [] w4 (w4.alloc (.cells #[.int .i64 mk, .string sn, .slice a2 sv.length c2] 62)) := (Keeps.refl [] w4).alloc _
        have H5 := Lib.hid (And.intro (heap_new w4 (.cells #[.int .i64 mk, .string sn, .slice a2 sv.length c2] 62)) (go1 kA H4.out))
        clear kA H4
        go_wp2_with (at_builtin; first | (refine wpList_append_own _ rfl (.tmp 32) (.tmp 40) 52 rfl w.heap.size 62 ip _ 3 48 Tryz.underlying52 hip hz0 hz1 hz2 rfl (by decide) (.slice a4 E.length c4) E.length (E.flatMap encMV) rfl H5.out.2.2.2.1 ⟨w4.heap.size, 0, none⟩ 1 1 [.int .i64 mk, .string sn, .slice a2 sv.length c2] rfl rfl (news_three H5.out.1) (by simp [Value.oneCell']) (by simp only [maxLen]; omega) (by omega) H5.out.2.2.2.2.2.2.size ?_; intro v6 w6 hown6 hgrow6 hnil6; clear hnil6; obtain ⟨a6, c6, rfl, -, -, -⟩ := row_slice hown6; have k6 := keeps_row hgrow6; have hN := H5.out.2.2.2.1; have d0 : w6.cell? ⟨pk, 0, none⟩ = some (.int .i64 mk) := cells_at (k6.at_ H5.out.2.1 (fun hm => row_ne_cells hN H5.out.2.1 (by decide) _ (by simpa using hm) rfl)) 0; have d1 : w6.cell? ⟨pk, 1, none⟩ = some (.string sn) := cells_at (k6.at_ H5.out.2.1 (fun hm => row_ne_cells hN H5.out.2.1 (by decide) _ (by simpa using hm) rfl)) 1; have d2 : w6.cell? ⟨pk, 2, none⟩ = some (.slice a2 sv.length c2) := cells_at (k6.at_ H5.out.2.1 (fun hm => row_ne_cells hN H5.out.2.1 (by decide) _ (by simpa using hm) rfl)) 2; have H6 := Lib.hid (And.intro hown6 (And.intro (k6.row H5.out.2.2.2.2.1 (rows_ne2 hN H5.out.2.2.2.2.1 (by decide))) (And.intro (H5.out.2.2.2.2.2.1.keep k6 (fun _ _ _ hr => rows_ne2 hN hr (by decide))) (And.intro (k6.row H5.out.2.2.1 (rows_ne2 hN H5.out.2.2.1 (by decide))) (keeps_own H5.out.2.2.2.2.2.2 hgrow6 (fun q hq => (World.ownsRow.lt hN q hq).1)))))); clear hown6 hgrow6 k6 hN) | (refine wpList_append_own _ rfl (.tmp 42) (.tmp 44) 55 rfl w.heap.size 113 ir _ 3 48 Tryz.underlying55 hir hy0 hy1 hy2 rfl (by decide) (.slice a5 E.length c5) E.length (E.flatMap encMV) rfl (H6.out.2.1.alloc _) ⟨w6.heap.size, 0, none⟩ 1 1 [.int .i64 mk, .string sn, .slice a2 sv.length c2] rfl rfl (news_three (heap_new w6 _)) (by simp [Value.oneCell']) (by simp only [maxLen]; omega) (by omega) (by have := H6.out.2.2.2.2.size; rw [World.size_alloc]; omega) ?_; intro v7 w7 hown7 hgrow7 hnil7; clear hnil7; obtain ⟨a7, c7, rfl, -, -, -⟩ := row_slice hown7; have k7 := keeps_row hgrow7; have kB : Keeps [] w6 (w6.alloc (.cells #[.int .i64 mk, .string sn, .slice a2 sv.length c2] 113)) := (Keeps.refl [] w6).alloc _; have HB := go1 kB H6.out; have H7 := Lib.hid (And.intro (k7.row HB.1 (rows_ne2 HB.2.1 HB.1 (by decide))) (And.intro hown7 (And.intro ((HB.2.2.1.keep k7 (fun _ _ _ hr => rows_ne2 HB.2.1 hr (by decide))).snoc (k := mk) (n := sn) (k7.row HB.2.2.2.1 (rows_ne2 HB.2.1 HB.2.2.2.1 (by decide)))) (keeps_own HB.2.2.2.2 hgrow7 (fun q hq => (World.ownsRow.lt HB.2.1 q hq).1))))); clear hown7 hgrow7 k7 kB HB))
        go_roundg (20 - (i + 1))
        case measure => have := Hg.out.1; omega
        case rel =>
          refine ⟨i + 1, E ++ [(mk, sn, .slice a2 sv.length c2)], L ++ [(mk, sn, sv)], hlt, by omega, by rw [List.length_append]; simp; omega, rfl, by go_num, ?_, ?_, H7.out.2.2.1, ?_, H7.out.2.2.2⟩
          · have h6 := H7.out.1
            rw [List.length_append, List.flatMap_append]
            simpa [encMV] using h6
          · have h6 := H7.out.2.1
            rw [List.length_append, List.flatMap_append]
            simpa [encMV] using h6
          · intro m hm
            rcases List.mem_append.1 hm with hm | hm
            · exact Hg.out.2 m hm
            · obtain rfl : m = (mk, sn, sv) := by simpa using hm
              exact Hcb.out
    · have He := Lib.hid (And.intro h4 (And.intro h5 (And.intro hvals hkw)))
      clear h4 h5 hvals hkw
      by_cases hlt : i < M.length
      · have hlt' : (i : Int) < (M.length : Int) := by omega
        by_cases hlt4 : E.length < 4
        · have hlt4' : (E.length : Int) < 4 := by omega
          have hlt20 : ¬ (i : Int) < 20 := by omega
          go_wp2_with fail
          go_ret2
          exact ⟨_, _, L, rfl, ⟨_, He.out.1, He.out.2.2.1⟩, mats_of He.out.2.1 He.out.2.2.1, Hg.out.2, by rw [← He.out.2.2.1.1]; exact hE4, He.out.2.2.2⟩
        · have hlt4' : ¬ (E.length : Int) < 4 := by omega
          go_wp2_with fail
          go_ret2
          exact ⟨_, _, L, rfl, ⟨_, He.out.1, He.out.2.2.1⟩, mats_of He.out.2.1 He.out.2.2.1, Hg.out.2, by rw [← He.out.2.2.1.1]; exact hE4, He.out.2.2.2⟩
      · have hlt' : ¬ (i : Int) < (M.length : Int) := by omega
        go_wp2_with fail
        go_ret2
        exact ⟨_, _, L, rfl, ⟨_, He.out.1, He.out.2.2.1⟩, mats_of He.out.2.1 He.out.2.2.1, Hg.out.2, by rw [← He.out.2.2.1.1]; exact hE4, He.out.2.2.2⟩
end Go.Proofs.YtlifonflgcfafaaGreatDoor
