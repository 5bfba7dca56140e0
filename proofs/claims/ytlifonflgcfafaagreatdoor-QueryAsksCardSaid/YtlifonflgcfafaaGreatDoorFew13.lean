/-
  Package barographlaw13: Few: at most four matchers that may be, as the program's and as the document's.
  No condition beyond those that each theorem states.

  Rows of pairs as arguments; matchers and arguments kept.
  No condition beyond those that each theorem states.
-/
import Derived.Test.YtlifonflgcfafaaGreatDoorShort
import Derived.Test.YtlifonflgcfafaaGreatDoorLabel1
namespace Go.Proofs.YtlifonflgcfafaaGreatDoor
open Go Go.RowKit

theorem infoMatP : (Tryz.prog.info? 62).map (fun i => (i.zero, i.size, i.bytes)) = some (some (.agg #[.int .i64 0, .string ⟨#[]⟩, .slice none 0 0]), 3, 48) := by kernel_rfl

theorem infoMatR : (Tryz.prog.info? 113).map (fun i => (i.zero, i.size, i.bytes)) = some (some (.agg #[.int .i64 0, .string ⟨#[]⟩, .slice none 0 0]), 3, 48) := by kernel_rfl

theorem news_three {w : World} {g : Nat} {x y z : Value} {t : TypeId} (hg : w.heap[g]? = some (.cells #[x, y, z] t (0, 0))) : ∀ j u, ([x, y, z] : List Value)[j]? = some u → w.cell? ((⟨g, 0, none⟩ : Addr).add j) = some u := by
  intro j u hu
  have hadd : (⟨g, 0, none⟩ : Addr).add j = ⟨g, j, none⟩ := by unfold Addr.add; split <;> simp_all
  rw [hadd, cells_at hg]
  match j with
  | 0 => exact hu
  | 1 => exact hu
  | 2 => exact hu
  | n + 3 => simp at hu

theorem row_texts {B : Nat} {w : World} {v : Value} {V : List ByteArray} (h : w.ownsRow B 9 1 v V.length (V.map Value.string)) : SliceArg 1 encS1 w v V :=
  (sliceFrom_row (enc := encS1) (e := 9) (fun _ => rfl) (by rw [show V.flatMap encS1 = V.map Value.string from flat_one Value.string V]; exact h)).arg

theorem shortV_size (V : List ByteArray) : ∀ x ∈ shortV V, x.size ≤ maxLen := by
  intro x hx
  unfold shortV at hx
  obtain ⟨y, _, rfl⟩ := List.mem_map.1 hx
  have := cut_size y 42
  simp only [maxLen]
  omega

/-- The values of E are those of L, in memory of the walk's own. -/
def ValsAt (B : Nat) (w : World) (E : List MatV) (L : List MatB) : Prop := E.length = L.length ∧ ∀ i (h : i < E.length) (h' : i < L.length), E[i].1 = L[i].1 ∧ E[i].2.1 = L[i].2.1 ∧ w.ownsRow B 9 1 E[i].2.2 L[i].2.2.length (L[i].2.2.map Value.string)

theorem ValsAt.keep {B : Nat} {w w' : World} {E : List MatV} {L : List MatB} {S : List Nat} (h : ValsAt B w E L) (k : Keeps S w w') (hS : ∀ v n xs, w.ownsRow B 9 1 v n xs → ∀ g, v.ownBlock = some g → g ∉ S) : ValsAt B w' E L :=
  ⟨h.1, fun i hi hi' => ⟨(h.2 i hi hi').1, (h.2 i hi hi').2.1, k.row (h.2 i hi hi').2.2 (hS _ _ _ (h.2 i hi hi').2.2)⟩⟩

theorem ValsAt.snoc {B : Nat} {w : World} {E : List MatV} {L : List MatB} (h : ValsAt B w E L) {k : Int} {n : ByteArray} {v : Value} {V : List ByteArray} (hr : w.ownsRow B 9 1 v V.length (V.map Value.string)) : ValsAt B w (E ++ [(k, n, v)]) (L ++ [(k, n, V)]) := by
  obtain ⟨h1, h2⟩ := h
  refine ⟨by simp [h1], fun i hi hi' => ?_⟩
  by_cases hlt : i < E.length
  · rw [List.getElem_append_left hlt, List.getElem_append_left (by omega)]
    exact h2 i hlt (by omega)
  · have e1 : i = E.length := by simp at hi; omega
    subst e1
    rw [List.getElem_append_right (Nat.le_refl _), List.getElem_append_right (by omega)]
    simp [h1]
    exact hr

theorem mats_of {B : Nat} {w : World} {e : TypeId} {v : Value} {E : List MatV} {L : List MatB} (hr : w.ownsRow B e 3 v E.length (E.flatMap encMV)) (h : ValsAt B w E L) : MatsAt w v L :=
  ⟨E, (sliceFrom_row (enc := encMV) (fun _ => rfl) hr).arg, h.1, fun i hi hi' => ⟨(h.2 i hi hi').1, (h.2 i hi hi').2.1, row_texts (h.2 i hi hi').2.2⟩⟩

instance go1Vals {w w' : World} (B : Nat) (E : List MatV) (L : List MatB) : Go1 w w' (ValsAt B w E L) (ValsAt B w' E L) := ⟨fun k h => h.keep k (fun _ _ _ _ _ _ => by simp)⟩

def Few13Rel (w : World) (M : List MatB) (gk : Nat) (u4 u5 u6 : Value) (wr : World) : Prop :=
  ∃ (i : Nat) (E : List MatV) (L : List MatB), i ≤ M.length ∧ i ≤ 20 ∧ E.length ≤ 4 ∧ gk = 20 - i ∧ u6 = .int .i64 i ∧ wr.ownsRow w.heap.size 62 3 u4 E.length (E.flatMap encMV) ∧ wr.ownsRow w.heap.size 113 3 u5 E.length (E.flatMap encMV) ∧ ValsAt w.heap.size wr E L ∧ (∀ m ∈ L, chkB m = true) ∧ Keeps [] w wr

def Few13Post (w : World) (e : Ending) (w' : World) : Prop := ∃ va vb L, e = .returned (.tuple #[va, vb]) ∧ MatsAt w' va L ∧ MatsAt w' vb L ∧ (∀ m ∈ L, chkB m = true) ∧ L.length ≤ 4 ∧ Keeps [] w w'

set_option linter.unusedSimpArgs false in
set_option maxRecDepth 100000 in
set_option maxHeartbeats 1000000 in
theorem few13_spec (w : World) (v : Value) (M : List MatB) (h : MatsAt w v M) :
    Calls Tryz.prog 17 #[v] w (Few13Post w) := by
  obtain ⟨ip, hip, hz0, hz1, hz2⟩ := info_parts infoMatP
  obtain ⟨ir, hir, hy0, hy1, hy2⟩ := info_parts infoMatR
  have Hf := Lib.hid h
  obtain ⟨ao, cap, rfl, hl⟩ := h.form
  unfold maxLen at hl
  have k0 : Keeps [] w (w.alloc (.cells #[] 62)) := (Keeps.refl [] w).alloc _
  have k1 : Keeps [] (w.alloc (.cells #[] 62)) ((w.alloc (.cells #[] 62)).alloc (.cells #[] 113)) := (Keeps.refl [] _).alloc _
  have H0 := Lib.hid (And.intro (go1 k1 (own_made w w.heap.size 62 3 (Nat.le_refl _))) (And.intro (own_made (w.alloc (.cells #[] 62)) w.heap.size 113 3 (by simp)) (k0.trans k1)))
  clear h k0 k1
  go_enter Tryz.func17, Tryz.ntmps17
  go_wp2_with fail
  go_loopg [4, 5, 6] 20 (Few13Rel w M)
  case atStart => exact ⟨0, [], [], Nat.zero_le _, Nat.zero_le _, Nat.zero_le _, rfl, rfl, H0.out.1, by simpa using H0.out.2.1, ⟨rfl, fun i hi => by simp at hi⟩, by simp, H0.out.2.2⟩
  case round =>
    obtain ⟨i, E, L, hi, hi20, hE4, hgk, rfl, h4, h5, hvals, hchk, hkw⟩ := hrel
    have Hg := Lib.hid (And.intro hgk hchk)
    clear hgk hchk H0
    obtain ⟨a4, c4, rfl, -, -, -⟩ := row_slice h4
    obtain ⟨a5, c5, rfl, -, -, -⟩ := row_slice h5
    by_cases hend : i < M.length ∧ E.length < 4 ∧ i < 20
    · obtain ⟨hlt, hlt4, hlt20⟩ := hend
      obtain ⟨b, off, cap', u, ea, hbW, d0, d1, d2, hu⟩ := (Hf.out.keep hkw).at_ i hlt
      injection ea with ea _ ec
      subst ea ec
      have hlt' : (i : Int) < (M.length : Int) := by omega
      have hlt4' : (E.length : Int) < 4 := by omega
      have hlt20' : (i : Int) < 20 := by omega
      generalize M[i] = m at d0 d1 hu
      obtain ⟨mk, mn, mv⟩ := m
      dsimp only at d0 d1 hu
      have Hu := Lib.hid hu
      obtain ⟨ua, uc, rfl, -, -⟩ := hu
      have Hr := Lib.hid (And.intro h4 (And.intro h5 (And.intro hvals hkw)))
      clear h4 h5 hvals hkw
      go_wp2_with fail
      refine (short_spec wr mk mn _ mv Hu.out).mono ?_
      rintro e w2 ⟨v2, rfl, hrow2, hk2⟩
      have H2 := Lib.hid (And.intro (row_base (b' := w.heap.size) hrow2 Hr.out.2.2.2.size) (go1 hk2 Hr.out))
      clear hrow2 hk2 Hr d0 d1 d2
      obtain ⟨a2, c2, rfl, -, -, -⟩ := row_slice H2.out.1
      have kA : Keeps [] w2 (w2.alloc (.cells #[.int .i64 mk, .string (cut mn 42), .slice a2 (shortV mv).length c2] 113)) := (Keeps.refl [] w2).alloc _
      have H3 := Lib.hid (And.intro (heap_new w2 (.cells #[.int .i64 mk, .string (cut mn 42), .slice a2 (shortV mv).length c2] 113)) (go1 kA H2.out))
      clear kA H2
      go_wp2_with fail
      refine (chkR_spec _ mk (cut mn 42) _ (shortV mv) (row_texts H3.out.2.1) (by have := cut_size mn 42; simp only [maxLen]; omega) (shortV_size mv)).mono ?_
      rintro e w4 ⟨rfl, hk4⟩
      have H4 := Lib.hid (go1 hk4 H3.out)
      clear hk4 H3
      generalize w2.heap.size = pk at H4 ⊢
      generalize shortV mv = sv at H4 ⊢
      generalize cut mn 42 = sn at H4 ⊢
      cases hcb : chkB (mk, sn, sv) with
      | false =>
        go_wp2_with fail
        go_roundg (20 - (i + 1))
        case measure => have := Hg.out.1; omega
        case rel => exact ⟨i + 1, E, L, hlt, by omega, hE4, rfl, by go_num, H4.out.2.2.1, H4.out.2.2.2.1, H4.out.2.2.2.2.1, Hg.out.2, H4.out.2.2.2.2.2⟩
      | true =>
        have Hcb := Lib.hid hcb
        clear hcb
        have c0 : w4.cell? ⟨pk, 0, none⟩ = some (.int .i64 mk) := cells_at H4.out.1 0
        have c1 : w4.cell? ⟨pk, 1, none⟩ = some (.string sn) := cells_at H4.out.1 1
        have c2' : w4.cell? ⟨pk, 2, none⟩ = some (.slice a2 sv.length c2) := cells_at H4.out.1 2
        have kA : Keeps [] w4 (w4.alloc (.cells #[.int .i64 mk, .string sn, .slice a2 sv.length c2] 62)) := (Keeps.refl [] w4).alloc _
        have H5 := Lib.hid (And.intro (heap_new w4 (.cells #[.int .i64 mk, .string sn, .slice a2 sv.length c2] 62)) (go1 kA H4.out))
        clear kA H4
        go_wp2_with (at_builtin; first | (refine wpList_append_own _ rfl (.tmp 32) (.tmp 40) 52 rfl w.heap.size 62 ip _ 3 48 Tryz.underlying52 hip hz0 hz1 hz2 rfl (by decide) (.slice a4 E.length c4) E.length (E.flatMap encMV) rfl H5.out.2.2.2.1 ⟨w4.heap.size, 0, none⟩ 1 1 [.int .i64 mk, .string sn, .slice a2 sv.length c2] rfl rfl (news_three H5.out.1) (by simp [Value.oneCell']) (by simp only [maxLen]; omega) (by omega) H5.out.2.2.2.2.2.2.size ?_; intro v6 w6 hown6 hgrow6 hnil6; clear hnil6; obtain ⟨a6, c6, rfl, -, -, -⟩ := row_slice hown6; have k6 := keeps_row hgrow6; have hN := H5.out.2.2.2.1; have d0 : w6.cell? ⟨pk, 0, none⟩ = some (.int .i64 mk) := cells_at (k6.at_ H5.out.2.1 (fun hm => row_ne_cells hN H5.out.2.1 (by decide) _ (by simpa using hm) rfl)) 0; have d1 : w6.cell? ⟨pk, 1, none⟩ = some (.string sn) := cells_at (k6.at_ H5.out.2.1 (fun hm => row_ne_cells hN H5.out.2.1 (by decide) _ (by simpa using hm) rfl)) 1; have d2 : w6.cell? ⟨pk, 2, none⟩ = some (.slice a2 sv.length c2) := cells_at (k6.at_ H5.out.2.1 (fun hm => row_ne_cells hN H5.out.2.1 (by decide) _ (by simpa using hm) rfl)) 2; have H6 := Lib.hid (And.intro hown6 (And.intro (k6.row H5.out.2.2.2.2.1 (rows_ne2 hN H5.out.2.2.2.2.1 (by decide))) (And.intro (H5.out.2.2.2.2.2.1.keep k6 (fun _ _ _ hr => rows_ne2 hN hr (by decide))) (And.intro (k6.row H5.out.2.2.1 (rows_ne2 hN H5.out.2.2.1 (by decide))) (keeps_own H5.out.2.2.2.2.2.2 hgrow6 (fun q hq => (World.ownsRow.lt hN q hq).1)))))); clear hown6 hgrow6 k6 hN) | (refine wpList_append_own _ rfl (.tmp 42) (.tmp 44) 55 rfl w.heap.size 113 ir _ 3 48 Tryz.underlying55 hir hy0 hy1 hy2 rfl (by decide) (.slice a5 E.length c5) E.length (E.flatMap encMV) rfl (H6.out.2.1.alloc _) ⟨w6.heap.size, 0, none⟩ 1 1 [.int .i64 mk, .string sn, .slice a2 sv.length c2] rfl rfl (news_three (heap_new w6 _)) (by simp [Value.oneCell']) (by simp only [maxLen]; omega) (by omega) (by have := H6.out.2.2.2.2.size; rw [World.size_alloc]; omega) ?_; intro v7 w7 hown7 hgrow7 hnil7; clear hnil7; obtain ⟨a7, c7, rfl, -, -, -⟩ := row_slice hown7; have k7 := keeps_row hgrow7; have kB : Keeps [] w6 (w6.alloc (.cells #[.int .i64 mk, .string sn, .slice a2 sv.length c2] 113)) := (Keeps.refl [] w6).alloc _; have HB := go1 kB H6.out; have H7 := Lib.hid (And.intro (k7.row HB.1 (rows_ne2 HB.2.1 HB.1 (by decide))) (And.intro hown7 (And.intro ((HB.2.2.1.keep k7 (fun _ _ _ hr => rows_ne2 HB.2.1 hr (by decide))).snoc (k := mk) (n := sn) (k7.row HB.2.2.2.1 (rows_ne2 HB.2.1 HB.2.2.2.1 (by decide)))) (keeps_own HB.2.2.2.2 hgrow7 (fun q hq => (World.ownsRow.lt HB.2.1 q hq).1))))); clear hown7 hgrow7 k7 kB HB))
        go_roundg (20 - (i + 1))
        case measure => have := Hg.out.1; omega
        case rel =>
          refine ⟨i + 1, E ++ [(mk, sn, .slice a2 sv.length c2)], L ++ [(mk, sn, sv)], hlt, by omega, by rw [List.length_append]; simp; omega, rfl, by go_num, ?_, ?_, H7.out.2.2.1, ?_, H7.out.2.2.2⟩
          · have h6 := H7.out.1
            rw [List.length_append, List.flatMap_append]
            simpa [encMV] using h6
          · have h6 := H7.out.2.1
            rw [List.length_append, List.flatMap_append]
            simpa [encMV] using h6
          · intro m hm
            rcases List.mem_append.1 hm with hm | hm
            · exact Hg.out.2 m hm
            · obtain rfl : m = (mk, sn, sv) := by simpa using hm
              exact Hcb.out
    · have He := Lib.hid (And.intro h4 (And.intro h5 (And.intro hvals hkw)))
      clear h4 h5 hvals hkw
      by_cases hlt : i < M.length
      · have hlt' : (i : Int) < (M.length : Int) := by omega
        by_cases hlt4 : E.length < 4
        · have hlt4' : (E.length : Int) < 4 := by omega
          have hlt20 : ¬ (i : Int) < 20 := by omega
          go_wp2_with fail
          go_ret2
          exact ⟨_, _, L, rfl, mats_of He.out.1 He.out.2.2.1, mats_of He.out.2.1 He.out.2.2.1, Hg.out.2, by rw [← He.out.2.2.1.1]; exact hE4, He.out.2.2.2⟩
        · have hlt4' : ¬ (E.length : Int) < 4 := by omega
          go_wp2_with fail
          go_ret2
          exact ⟨_, _, L, rfl, mats_of He.out.1 He.out.2.2.1, mats_of He.out.2.1 He.out.2.2.1, Hg.out.2, by rw [← He.out.2.2.1.1]; exact hE4, He.out.2.2.2⟩
      · have hlt' : ¬ (i : Int) < (M.length : Int) := by omega
        go_wp2_with fail
        go_ret2
        exact ⟨_, _, L, rfl, mats_of He.out.1 He.out.2.2.1, mats_of He.out.2.1 He.out.2.2.1, Hg.out.2, by rw [← He.out.2.2.1.1]; exact hE4, He.out.2.2.2⟩
end Go.Proofs.YtlifonflgcfafaaGreatDoor

namespace Go.Proofs.YtlifonflgcfafaaGreatDoor
open Go Go.RowKit

theorem row_pairs {B : Nat} {w : World} {e : TypeId} {v : Value} {P : List PairB} (h : w.ownsRow B e 2 v P.length (P.flatMap encPB)) : SliceArg 2 encPB w v P := (sliceFrom_row (enc := encPB) (fun _ => rfl) h).arg

theorem few6_lenM (P : List PairB) : (few6 P).length ≤ 1000000 := by unfold few6; rw [List.length_map, List.length_take]; omega

instance go1Mats {w w' : World} (v : Value) (L : List MatB) : Go1 w w' (MatsAt w v L) (MatsAt w' v L) := ⟨fun k h => h.keep k⟩

instance go1SArg {α : Type} {w w' : World} (size : Nat) (enc : α → List Value) (v : Value) (L : List α) : Go1 w w' (SliceArg size enc w v L) (SliceArg size enc w' v L) := ⟨fun k h => h.keep k⟩
end Go.Proofs.YtlifonflgcfafaaGreatDoor
