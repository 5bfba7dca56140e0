/-
  MatcherBack, walked.
  The variable matcher.signs holds its five signs; the library's variable internal/bytealg.MaxLen holds some number.
-/
import Derived.Test.YtjgaidojohgenaaDoorBackLaw
import Derived.Test.YtjgaidojohgenaaDoorAwake13
import Derived.Test.YtjgaidojohgenaaDoorMatArgs
import Derived.Test.YtjgaidojohgenaaDoorSignsOf
namespace Go.Proofs.YtjgaidojohgenaaDoor
open Go Go.RowKit

/-- A slice of matchers of the walk's own, their values too. -/
def RowsAt (B : Nat) (w : World) (v : Value) (L : List MatB) : Prop := ∃ E : List MatV, w.ownsRow B 56 3 v E.length (E.flatMap encMV) ∧ ValsAt B w E L

theorem RowsAt.keep {B : Nat} {w w' : World} {v : Value} {L : List MatB} (h : RowsAt B w v L) (k : Keeps [] w w') : RowsAt B w' v L := by
  obtain ⟨E, h1, h2⟩ := h
  exact ⟨E, k.row h1 (by simp), h2.keep k (fun _ _ _ _ _ _ => by simp)⟩

instance go1RowsAt {w w' : World} (B : Nat) (v : Value) (L : List MatB) : Go1 w w' (RowsAt B w v L) (RowsAt B w' v L) := ⟨fun k h => h.keep k⟩

theorem RowsAt.at_ {B : Nat} {w : World} {v : Value} {L : List MatB} (h : RowsAt B w v L) (k : Nat) (hk : k < L.length) : ∃ b cap u, v = .slice (some ⟨b, 0, none⟩) L.length cap ∧ b < w.heap.size ∧
    w.cell? ⟨b, k * 3, none⟩ = some (.int .i64 L[k].1) ∧ w.cell? ⟨b, k * 3 + 1, none⟩ = some (.string L[k].2.1) ∧ w.cell? ⟨b, k * 3 + 2, none⟩ = some u ∧ w.ownsRow B 9 1 u L[k].2.2.length (L[k].2.2.map Value.string) := by
  obtain ⟨E, hr, hl, hv⟩ := h
  have hk' : k < E.length := by omega
  obtain ⟨x1, x2, x3⟩ := hv k hk' hk
  obtain ⟨ao, cap, e, -, -, hc⟩ := row_slice hr
  obtain ⟨b, rfl, -, hb, -⟩ := hc (k * 3) (by omega)
  have cell : ∀ i, i < 3 → w.cell? ⟨b, k * 3 + i, none⟩ = (encMV E[k])[i]? := fun i hi => by
    obtain ⟨b', e2, -, -, hx⟩ := hc (k * 3 + i) (by omega)
    injection e2 with e2
    injection e2 with e2 _ _
    subst e2
    rw [hx, flatMap_at encMV 3 (fun _ => rfl) E k hk' i hi]
  refine ⟨b, cap, E[k].2.2, by rw [e, hl], hb, ?_, ?_, ?_, x3⟩
  · rw [← x1]; exact cell 0 (by decide)
  · rw [← x2]; exact cell 1 (by decide)
  · exact cell 2 (by decide)

def Few13RPost (w : World) (e : Ending) (w' : World) : Prop := ∃ va vb L, e = .returned (.tuple #[va, vb]) ∧ RowsAt w.heap.size w' va L ∧ MatsAt w' vb L ∧ (∀ m ∈ L, chkB m = true) ∧ L.length ≤ 4 ∧ Keeps [] w w'

set_option linter.unusedSimpArgs false in
set_option maxRecDepth 100000 in
set_option maxHeartbeats 1000000 in
theorem few13R_spec (w : World) (v : Value) (M : List MatB) (h : MatsAt w v M) :
    Calls Tryd.prog 15 #[v] w (Few13RPost w) := by
  obtain ⟨ip, hip, hz0, hz1, hz2⟩ := info_parts infoMatP
  obtain ⟨ir, hir, hy0, hy1, hy2⟩ := info_parts infoMatR
  have Hf := Lib.hid h
  obtain ⟨ao, cap, rfl, hl⟩ := h.form
  unfold maxLen at hl
  have k0 : Keeps [] w (w.alloc (.cells #[] 56)) := (Keeps.refl [] w).alloc _
  have k1 : Keeps [] (w.alloc (.cells #[] 56)) ((w.alloc (.cells #[] 56)).alloc (.cells #[] 59)) := (Keeps.refl [] _).alloc _
  have H0 := Lib.hid (And.intro (go1 k1 (own_made w w.heap.size 56 3 (Nat.le_refl _))) (And.intro (own_made (w.alloc (.cells #[] 56)) w.heap.size 59 3 (by simp)) (k0.trans k1)))
  clear h k0 k1
  go_enter Tryd.func15, Tryd.ntmps15
  go_wp2_with fail
  go_loopg [4, 5, 6] 20 (Few13Rel w M)
  case atStart => exact ⟨0, [], [], Nat.zero_le _, Nat.zero_le _, Nat.zero_le _, rfl, rfl, H0.out.1, by simpa using H0.out.2.1, ⟨rfl, fun i hi => by simp at hi⟩, by simp, H0.out.2.2⟩
  case round =>
    obtain ⟨i, E, L, hi, hi20, hE4, hgk, rfl, h4, h5, hvals, hchk, hkw⟩ := hrel
    have Hg := Lib.hid (And.intro hgk hchk)
    clear hgk hchk H0
    obtain ⟨a4, c4, rfl, -, -, -⟩ := row_slice h4
    obtain ⟨a5, c5, rfl, -, -, -⟩ := row_slice h5
    by_cases hend : i < M.length ∧ E.length < 4 ∧ i < 20
    · obtain ⟨hlt, hlt4, hlt20⟩ := hend
      obtain ⟨b, off, cap', u, ea, hbW, d0, d1, d2, hu⟩ := (Hf.out.keep hkw).at_ i hlt
      injection ea with ea _ ec
      subst ea ec
      have hlt' : (i : Int) < (M.length : Int) := by omega
      have hlt4' : (E.length : Int) < 4 := by omega
      have hlt20' : (i : Int) < 20 := by omega
      generalize M[i] = m at d0 d1 hu
      obtain ⟨mk, mn, mv⟩ := m
      dsimp only at d0 d1 hu
      have Hu := Lib.hid hu
      obtain ⟨ua, uc, rfl, -, -⟩ := hu
      have Hr := Lib.hid (And.intro h4 (And.intro h5 (And.intro hvals hkw)))
      clear h4 h5 hvals hkw
      go_wp2_with fail
      refine (short_spec wr mk mn _ mv Hu.out).mono ?_
      rintro e w2 ⟨v2, rfl, hrow2, hk2⟩
      have H2 := Lib.hid (And.intro (row_base (b' := w.heap.size) hrow2 Hr.out.2.2.2.size) (go1 hk2 Hr.out))
      clear hrow2 hk2 Hr d0 d1 d2
      obtain ⟨a2, c2, rfl, -, -, -⟩ := row_slice H2.out.1
      have kA : Keeps [] w2 (w2.alloc (.cells #[.int .i64 mk, .string (cut mn 42), .slice a2 (shortV mv).length c2] 59)) := (Keeps.refl [] w2).alloc _
      have H3 := Lib.hid (And.intro (heap_new w2 (.cells #[.int .i64 mk, .string (cut mn 42), .slice a2 (shortV mv).length c2] 59)) (go1 kA H2.out))
      clear kA H2
      go_wp2_with fail
      refine (chkR_spec _ mk (cut mn 42) _ (shortV mv) (row_texts H3.out.2.1) (by have := cut_size mn 42; simp only [maxLen]; omega) (shortV_size mv)).mono ?_
      rintro e w4 ⟨rfl, hk4⟩
      have H4 := Lib.hid (go1 hk4 H3.out)
      clear hk4 H3
      generalize w2.heap.size = pk at H4 ⊢
      generalize shortV mv = sv at H4 ⊢
      generalize cut mn 42 = sn at H4 ⊢
      cases hcb : chkB (mk, sn, sv) with
      | false =>
        go_wp2_with fail
        go_roundg (20 - (i + 1))
        case measure => have := Hg.out.1; omega
        case rel => exact ⟨i + 1, E, L, hlt, by omega, hE4, rfl, by go_num, H4.out.2.2.1, H4.out.2.2.2.1, H4.out.2.2.2.2.1, Hg.out.2, H4.out.2.2.2.2.2⟩
      | true =>
        have Hcb := Lib.hid hcb
        clear hcb
        have c0 : w4.cell? ⟨pk, 0, none⟩ = some (.int .i64 mk) := cells_at H4.out.1 0
        have c1 : w4.cell? ⟨pk, 1, none⟩ = some (.string sn) := cells_at H4.out.1 1
        have c2' : w4.cell? ⟨pk, 2, none⟩ = some (.slice a2 sv.length c2) := cells_at H4.out.1 2
        have kA : Keeps [] w4 (w4.alloc (.cells #[.int .i64 mk, .string sn, .slice a2 sv.length c2] 56)) := (Keeps.refl [] w4).alloc _
        have H5 := Lib.hid (And.intro (heap_new w4 (.cells #[.int .i64 mk, .string sn, .slice a2 sv.length c2] 56)) (go1 kA H4.out))
        clear kA H4
        go_wp2_with (at_builtin; first | (refine wpList_append_own _ rfl (.tmp 32) (.tmp 40) 45 rfl w.heap.size 56 ip _ 3 48 Tryd.underlying45 hip hz0 hz1 hz2 rfl (by decide) (.slice a4 E.length c4) E.length (E.flatMap encMV) rfl H5.out.2.2.2.1 ⟨w4.heap.size, 0, none⟩ 1 1 [.int .i64 mk, .string sn, .slice a2 sv.length c2] rfl rfl (news_three H5.out.1) (by simp [Value.oneCell']) (by simp only [maxLen]; omega) (by omega) H5.out.2.2.2.2.2.2.size ?_; intro v6 w6 hown6 hgrow6 hnil6; clear hnil6; obtain ⟨a6, c6, rfl, -, -, -⟩ := row_slice hown6; have k6 := keeps_row hgrow6; have hN := H5.out.2.2.2.1; have d0 : w6.cell? ⟨pk, 0, none⟩ = some (.int .i64 mk) := cells_at (k6.at_ H5.out.2.1 (fun hm => row_ne_cells hN H5.out.2.1 (by decide) _ (by simpa using hm) rfl)) 0; have d1 : w6.cell? ⟨pk, 1, none⟩ = some (.string sn) := cells_at (k6.at_ H5.out.2.1 (fun hm => row_ne_cells hN H5.out.2.1 (by decide) _ (by simpa using hm) rfl)) 1; have d2 : w6.cell? ⟨pk, 2, none⟩ = some (.slice a2 sv.length c2) := cells_at (k6.at_ H5.out.2.1 (fun hm => row_ne_cells hN H5.out.2.1 (by decide) _ (by simpa using hm) rfl)) 2; have H6 := Lib.hid (And.intro hown6 (And.intro (k6.row H5.out.2.2.2.2.1 (rows_ne2 hN H5.out.2.2.2.2.1 (by decide))) (And.intro (H5.out.2.2.2.2.2.1.keep k6 (fun _ _ _ hr => rows_ne2 hN hr (by decide))) (And.intro (k6.row H5.out.2.2.1 (rows_ne2 hN H5.out.2.2.1 (by decide))) (keeps_own H5.out.2.2.2.2.2.2 hgrow6 (fun q hq => (World.ownsRow.lt hN q hq).1)))))); clear hown6 hgrow6 k6 hN) | (refine wpList_append_own _ rfl (.tmp 42) (.tmp 44) 47 rfl w.heap.size 59 ir _ 3 48 Tryd.underlying47 hir hy0 hy1 hy2 rfl (by decide) (.slice a5 E.length c5) E.length (E.flatMap encMV) rfl (H6.out.2.1.alloc _) ⟨w6.heap.size, 0, none⟩ 1 1 [.int .i64 mk, .string sn, .slice a2 sv.length c2] rfl rfl (news_three (heap_new w6 _)) (by simp [Value.oneCell']) (by simp only [maxLen]; omega) (by omega) (by have := H6.out.2.2.2.2.size; rw [World.size_alloc]; omega) ?_; intro v7 w7 hown7 hgrow7 hnil7; clear hnil7; obtain ⟨a7, c7, rfl, -, -, -⟩ := row_slice hown7; have k7 := keeps_row hgrow7; have kB : Keeps [] w6 (w6.alloc (.cells #[.int .i64 mk, .string sn, .slice a2 sv.length c2] 59)) := (Keeps.refl [] w6).alloc _; have HB := go1 kB H6.out; have H7 := Lib.hid (And.intro (k7.row HB.1 (rows_ne2 HB.2.1 HB.1 (by decide))) (And.intro hown7 (And.intro ((HB.2.2.1.keep k7 (fun _ _ _ hr => rows_ne2 HB.2.1 hr (by decide))).snoc (k := mk) (n := sn) (k7.row HB.2.2.2.1 (rows_ne2 HB.2.1 HB.2.2.2.1 (by decide)))) (keeps_own HB.2.2.2.2 hgrow7 (fun q hq => (World.ownsRow.lt HB.2.1 q hq).1))))); clear hown7 hgrow7 k7 kB HB))
        go_roundg (20 - (i + 1))
        case measure => have := Hg.out.1; omega
        case rel =>
          refine ⟨i + 1, E ++ [(mk, sn, .slice a2 sv.length c2)], L ++ [(mk, sn, sv)], hlt, by omega, by rw [List.length_append]; simp; omega, rfl, by go_num, ?_, ?_, H7.out.2.2.1, ?_, H7.out.2.2.2⟩
          · have h6 := H7.out.1
            rw [List.length_append, List.flatMap_append]
            simpa [encMV] using h6
          · have h6 := H7.out.2.1
            rw [List.length_append, List.flatMap_append]
            simpa [encMV] using h6
          · intro m hm
            rcases List.mem_append.1 hm with hm | hm
            · exact Hg.out.2 m hm
            · obtain rfl : m = (mk, sn, sv) := by simpa using hm
              exact Hcb.out
    · have He := Lib.hid (And.intro h4 (And.intro h5 (And.intro hvals hkw)))
      clear h4 h5 hvals hkw
      by_cases hlt : i < M.length
      · have hlt' : (i : Int) < (M.length : Int) := by omega
        by_cases hlt4 : E.length < 4
        · have hlt4' : (E.length : Int) < 4 := by omega
          have hlt20 : ¬ (i : Int) < 20 := by omega
          go_wp2_with fail
          go_ret2
          exact ⟨_, _, L, rfl, ⟨_, He.out.1, He.out.2.2.1⟩, mats_of He.out.2.1 He.out.2.2.1, Hg.out.2, by rw [← He.out.2.2.1.1]; exact hE4, He.out.2.2.2⟩
        · have hlt4' : ¬ (E.length : Int) < 4 := by omega
          go_wp2_with fail
          go_ret2
          exact ⟨_, _, L, rfl, ⟨_, He.out.1, He.out.2.2.1⟩, mats_of He.out.2.1 He.out.2.2.1, Hg.out.2, by rw [← He.out.2.2.1.1]; exact hE4, He.out.2.2.2⟩
      · have hlt' : ¬ (i : Int) < (M.length : Int) := by omega
        go_wp2_with fail
        go_ret2
        exact ⟨_, _, L, rfl, ⟨_, He.out.1, He.out.2.2.1⟩, mats_of He.out.2.1 He.out.2.2.1, Hg.out.2, by rw [← He.out.2.2.1.1]; exact hE4, He.out.2.2.2⟩

theorem text_size {m : MatB} (h : chkB m = true) : (textB m).size ≤ 452 := by
  obtain ⟨k, n, V⟩ := m
  obtain ⟨hk, hn, hV0, hV10, hVs⟩ := chk_sizes h
  have hjl := joinL_len V hVs
  have hs : (signOf k.toNat).size ≤ 2 := by rcases hk with rfl | rfl | rfl | rfl <;> decide
  show (n ++ signOf k.toNat ++ ⟨(joinL V).toArray⟩ : ByteArray).size ≤ 452
  rw [ByteArray.size_append, ByteArray.size_append]
  have : (⟨(joinL V).toArray⟩ : ByteArray).size = (joinL V).length := by
    show (joinL V).toArray.size = _
    simp
  omega

theorem join_len2 : ∀ (T : List ByteArray), (∀ x ∈ T, x.size ≤ 452) → (Lib.join (T.map (·.data.toList)) [44]).length ≤ 453 * T.length
  | [], _ => by simp [Lib.join, List.intercalate]
  | x :: r, h => by
    rw [List.map_cons, Lib.join_cons, List.length_append, Lib.joinTail_length]
    have hx := h x (List.mem_cons_self ..)
    have hl : Lib.lens (r.map (·.data.toList)) ≤ 452 * r.length := by
      clear hx
      induction r with
      | nil => simp [Lib.lens]
      | cons y r ih =>
        have h1 := ih (fun z hz => h z (by
          rcases List.mem_cons.1 hz with rfl | hz
          · exact List.mem_cons_self ..
          · exact List.mem_cons_of_mem _ (List.mem_cons_of_mem _ hz)))
        have h2 := h y (by simp)
        have h3 : y.data.toList.length = y.size := by simp
        unfold Lib.lens at h1 ⊢
        simp only [List.map_cons, List.sum_cons, List.length_cons]
        omega
    have h3 : x.data.toList.length = x.size := by simp
    simp only [List.length_map, List.length_cons, List.length_nil]
    omega

theorem joinF_spec (w : World) (B : Nat) (v : Value) (T : List ByteArray) (h : w.ownsRow B 9 1 v T.length (T.map Value.string)) (hl : T.length ≤ 10) (hs : ∀ x ∈ T, x.size ≤ 452) :
    Calls Tryd.prog 52 #[v, .string ⟨#[44]⟩] w fun e w' => e = .returned (.string ⟨(Lib.join (T.map (·.data.toList)) [44]).toArray⟩) ∧ Keeps [] w w' := by
  have hjl := join_len2 T hs
  by_cases h0 : T.length = 0
  · obtain rfl : T = [] := List.eq_nil_of_length_eq_zero h0
    obtain ⟨ao, cap', rfl, -, -, -⟩ := row_slice h
    refine (Tryd.strings_Join_none ao cap' ⟨#[44]⟩ w).mono ?_
    rintro e w ⟨rfl, rfl⟩
    exact ⟨rfl, Keeps.refl _ _⟩
  · obtain ⟨b, off, cap, ea, hbW, hc⟩ := texts_at (row_texts h) (by omega)
    obtain ⟨ao, cap', e2, hcap, -, -⟩ := row_slice h
    rw [e2] at ea
    injection ea with ea _ ec
    subst ea ec
    rw [e2]
    have hcells : ∀ (j : Nat) x, T[j]? = some x → w.cell? ⟨b, off + j, none⟩ = some (.string x) := fun j x hx => by
      have hj := (List.getElem?_eq_some_iff.1 hx).1
      rw [hc j hj, List.getD_eq_getElem?_getD, hx]
      rfl
    refine (Tryd.strings_Join b off cap' T ⟨#[44]⟩ w hcells hbW (by omega) hcap (by show (Lib.join (T.map (·.data.toList)) [44]).length ≤ _; omega)).mono ?_
    rintro e w' ⟨rfl, hb⟩
    exact ⟨rfl, Keeps.of_below hb⟩

def FmtRel (w : World) (L : List MatB) (gk : Nat) (u3 u8 : Value) (wr : World) : Prop := ∃ k, k ≤ L.length ∧ gk = L.length - k ∧ u8 = .int .i64 k ∧ wr.ownsRow w.heap.size 9 1 u3 k (((L.take k).map textB).map Value.string) ∧ Keeps [] w wr

set_option linter.unusedSimpArgs false in
set_option maxRecDepth 100000 in
set_option maxHeartbeats 1000000 in
theorem format_spec (w : World) (hsg : SignsAt w) (B : Nat) (v : Value) (L : List MatB) (h : RowsAt B w v L) (hchk : ∀ m ∈ L, chkB m = true) (h4 : L.length ≤ 4) :
    Calls Tryd.prog 31 #[v] w fun e w' => e = .returned (.string (formatB L)) ∧ Keeps [] w w' := by
  obtain ⟨ip, hip, hz0, hz1, hz2⟩ := info_parts infoStr
  have hform : ∃ ao cap, v = .slice ao L.length cap := by
    obtain ⟨E, hr, hl, -⟩ := h
    obtain ⟨ao, cap, e, -, -, -⟩ := row_slice hr
    exact ⟨ao, cap, by rw [e, hl]⟩
  obtain ⟨ao, cap, rfl⟩ := hform
  have HC := Lib.hid (And.intro h (And.intro hchk hsg))
  clear h hchk hsg
  have h4' : (L.length : Int) ≤ 4 := by omega
  go_enter Tryd.func31, Tryd.ntmps31
  go_wp2_with fail
  go_loopg [3, 8] L.length (FmtRel w L)
  case atStart => exact ⟨0, Nat.zero_le _, rfl, rfl, World.ownsRow_nil _ _ _ 1, Keeps.refl _ _⟩
  case round =>
    obtain ⟨k, hk, hgk, rfl, hrow, hkw⟩ := hrel
    have Hg := Lib.hid hgk
    obtain ⟨a3, c3, rfl, -, -, -⟩ := row_slice hrow
    have Hr := Lib.hid (And.intro hrow hkw)
    clear hgk hrow
    by_cases hlt : k < L.length
    · have hlt' : (k : Int) < (L.length : Int) := by omega
      obtain ⟨b, cap', u, ea, hbW, d0, d1, d2, hu⟩ := (HC.out.1.keep hkw).at_ k hlt
      injection ea with ea _ ec
      subst ea ec
      have hck := HC.out.2.1 L[k] (List.getElem_mem hlt)
      obtain ⟨m, hm⟩ : ∃ m, m = L[k] := ⟨_, rfl⟩
      rw [← hm] at d0 d1 hu hck
      have Hm := Lib.hid hm
      clear hm hkw
      obtain ⟨mk, mn, mv⟩ := m
      dsimp only at d0 d1 hu
      have kA : Keeps [] wr (wr.alloc (.cells #[.int .i64 mk, .string mn, u] 56)) := (Keeps.refl [] wr).alloc _
      have Hs := Lib.hid (stringM_spec (wr.alloc (.cells #[.int .i64 mk, .string mn, u] 56)) ((HC.out.2.2.keep Hr.out.2).keep kA) B mk mn u mv (kA.row hu (by simp)) hck)
      have Hz := Lib.hid (go1 kA Hr.out)
      obtain ⟨ua, uc, rfl, -, -, -⟩ := row_slice hu
      clear kA hck hu
      go_wp2_with fail
      refine Hs.out.mono ?_
      rintro e w2 ⟨rfl, hk2⟩
      have H2 := Lib.hid (go1 hk2 Hz.out)
      clear hk2 Hz Hs d0 d1 d2
      have kB : Keeps [] w2 (w2.alloc (.cells #[.string (textB (mk, mn, mv))] 9)) := (Keeps.refl [] w2).alloc _
      have H3 := Lib.hid (And.intro (heap_new w2 (.cells #[.string (textB (mk, mn, mv))] 9)) (go1 kB H2.out))
      clear kB
      have htx : textB (mk, mn, mv) = textB L[k] := by rw [← Hm.out]
      rw [htx] at H3 ⊢
      generalize htt : textB L[k] = tx at H3 ⊢
      have Ht := Lib.hid htt
      clear htt htx
      go_wp2_with (at_builtin; refine wpList_append_own _ rfl (.tmp 12) (.tmp 15) 34 rfl w.heap.size 9 ip _ 1 16 Tryd.underlying34 hip hz0 hz1 hz2 rfl (by decide) (.slice a3 k c3) k (((L.take k).map textB).map Value.string) rfl H3.out.2.1 ⟨w2.heap.size, 0, none⟩ 1 1 [.string tx] rfl rfl (news_of H3.out.1) (by simp [Value.oneCell']) (by simp only [maxLen]; omega) (by omega) H3.out.2.2.size ?_; intro v6 w6 hown6 hgrow6 hnil6; clear hnil6; obtain ⟨a6, c6, rfl, -, -, -⟩ := row_slice hown6; have H6 := Lib.hid (And.intro hown6 (keeps_own H3.out.2.2 hgrow6 (fun q hq => (World.ownsRow.lt H3.out.2.1 q hq).1))); clear hown6 hgrow6)
      go_roundg (L.length - (k + 1))
      case measure => have := Hg.out; omega
      case rel =>
        refine ⟨k + 1, hlt, rfl, by go_num, ?_, H6.out.2⟩
        have h6 := H6.out.1
        rw [List.take_add_one, List.getElem?_eq_getElem hlt, Option.toList_some, List.map_append, List.map_append, List.map_cons, List.map_nil, Ht.out]
        exact h6
    · have hlt' : ¬ (k : Int) < (L.length : Int) := by omega
      have hke := Lib.hid (show k = L.length from by omega)
      have Hj := Lib.hid (show Calls Tryd.prog 52 #[.slice a3 k c3, .string ⟨#[44]⟩] wr fun e w' => e = .returned (.string (formatB L)) ∧ Keeps [] wr w' from by
        have h1 := Hr.out.1
        rw [List.take_of_length_le (by omega)] at h1
        have h2 := joinF_spec wr w.heap.size (.slice a3 k c3) (L.map textB) (by rw [List.length_map, ← hke.out]; exact h1) (by rw [List.length_map]; omega) (fun x hx => by
          obtain ⟨m, hm, rfl⟩ := List.mem_map.1 hx
          exact text_size (HC.out.2.1 m hm))
        refine h2.mono ?_
        rintro e w' ⟨rfl, hk'⟩
        refine ⟨?_, hk'⟩
        unfold formatB
        rw [List.map_map]
        rfl)
      clear hkw
      go_wp2_with fail
      refine Hj.out.mono ?_
      rintro e w2 ⟨rfl, hk2⟩
      have Hk := Lib.hid (Hr.out.2.trans hk2)
      clear hk2
      go_wp2_with fail
      go_ret
      exact ⟨rfl, Hk.out⟩

set_option linter.unusedSimpArgs false in
set_option maxRecDepth 100000 in
set_option maxHeartbeats 1000000 in
theorem back_walk (w : World) (hv : LibVar w) (hsg : SignsAt w) (v : Value) (M : List MatB) (h : MatsAt w v M) :
    Calls Tryd.prog 7 #[v] w fun e w' => e = .returned (.bool true) ∧ Keeps [] w w' := by
  have H0 := Lib.hid (And.intro h (And.intro hsg hv))
  obtain ⟨ao, cap, rfl, -⟩ := h.form
  clear h hsg hv
  go_enter Tryd.func7, Tryd.ntmps7
  go_wp2_with fail
  refine (few13R_spec w _ M H0.out.1).mono ?_
  rintro e w1 ⟨va, vb, L, rfl, hra, hmb, hchk, hl4, hk1⟩
  have hfa : ∃ aa ca, va = .slice aa L.length ca := by
    obtain ⟨E, hr, hl, -⟩ := hra
    obtain ⟨aa, ca, e, -, -, -⟩ := row_slice hr
    exact ⟨aa, ca, by rw [e, hl]⟩
  obtain ⟨aa, ca, rfl⟩ := hfa
  obtain ⟨ab, cb, rfl, -⟩ := hmb.form
  have H1 := Lib.hid (And.intro hra (And.intro hmb (And.intro (H0.out.2.1.keep hk1) (And.intro (H0.out.2.2.keep hk1 (by simp)) hk1))))
  have HL := Lib.hid (And.intro hchk hl4)
  have HB := Lib.hid (format_back L hchk)
  have hfs : (formatB L).size ≤ 1000000 := by
    have h1 := join_len2 (L.map textB) (fun x hx => by
      obtain ⟨m, hm, rfl⟩ := List.mem_map.1 hx
      exact text_size (hchk m hm))
    rw [List.length_map, List.map_map] at h1
    show (Lib.join (L.map fun m => (textB m).data.toList) [44]).toArray.size ≤ 1000000
    simp only [List.size_toArray]
    have e : (L.map ((fun x : ByteArray => x.data.toList) ∘ textB)) = L.map fun m => (textB m).data.toList := rfl
    rw [e] at h1
    omega
  have HF := Lib.hid hfs
  clear hra hmb hchk hl4 hk1 hfs H0
  go_wp2_with fail
  refine (format_spec w1 H1.out.2.2.1 _ _ L H1.out.1 HL.out.1 HL.out.2).mono ?_
  rintro e w2 ⟨rfl, hk2⟩
  have H2 := Lib.hid (go1 hk2 H1.out.2)
  clear hk2 H1
  generalize formatB L = t at HB HF ⊢
  go_wp2_with fail
  refine (matParse_spec w2 H2.out.2.1 H2.out.2.2.1 t HF.out).mono ?_
  rintro e w3 hm
  rw [HB.out] at hm
  obtain ⟨vc, rfl, hmc, hk3⟩ := hm
  have H3 := Lib.hid (And.intro hmc (go1 hk3 H2.out))
  obtain ⟨ac, cc, rfl, -⟩ := hmc.form
  clear hmc hk3 H2
  go_wp2_with fail
  refine (awake13_spec w3 H3.out.2.2.1 H3.out.2.2.2.1).mono ?_
  rintro e w4 ⟨rfl, hk4⟩
  have H4 := Lib.hid (go1 hk4 H3.out)
  clear hk4 H3
  go_wp2_with fail
  refine (sameM_spec w4 _ _ L H4.out.1 H4.out.2.1).mono ?_
  rintro e w5 ⟨rfl, hk5⟩
  have H5 := Lib.hid (H4.out.2.2.2.2.trans hk5)
  clear hk5 H4
  go_wp2_with fail
  go_ret
  exact ⟨rfl, H5.out⟩

theorem back_law (w : World) (hv : LibVar w) (hsg : SignsAt w) (v : Value) (h : ∃ M : List MatB, MatsAt w v M) :
    Calls Tryd.prog 7 #[v] w fun e w' => e = .returned (.bool true) ∧ Keeps [] w w' := by
  obtain ⟨M, hM⟩ := h
  exact back_walk w hv hsg v M hM
end Go.Proofs.YtjgaidojohgenaaDoor
