/-
  The program's Matcher.Check at a matcher that may be: it answers OK.
  The texts are ASCII without signs, of at most 40 bytes.
-/
import Derived.Test.YtjgaidojohgenaaDoorMatches
import Derived.Test.YtjgaidojohgenaaDoorShelfI
namespace Go.Proofs.YtjgaidojohgenaaDoor
open Go Go.RowKit

def signsB : ByteArray := ⟨#[61, 33, 94, 64, 44, 124]⟩

def asciiB (s : ByteArray) : Prop := ∀ (j : Nat) b, s.data.toList[j]? = some b → b.toNat < 128

def cleanB (s : ByteArray) : Prop := s.size ≤ 40 ∧ asciiB s ∧ Lib.containsAny s.data.toList signsB.data.toList = false

theorem zero256 (w : World) : (zeroValue 143).run Tryd.prog w = .ok (.agg (Array.replicate 256 (.bool false))) w := by kernel_rfl

theorem signs_ascii : asciiB signsB := by
  intro j b h
  match j with
  | 0 => cases h; decide
  | 1 => cases h; decide
  | 2 => cases h; decide
  | 3 => cases h; decide
  | 4 => cases h; decide
  | 5 => cases h; decide
  | n + 6 => simp [signsB] at h

theorem containsAny_clean (s : ByteArray) (h : cleanB s) (w : World) : Calls Tryd.prog 50 #[.string s, .string ⟨#[61, 33, 94, 64, 44, 124]⟩] w fun e w' => e = .returned (.bool false) ∧ Keeps [] w w' := by
  obtain ⟨h1, h2, h3⟩ := h
  refine (Tryd.strings_ContainsAny zero256 s signsB w (by omega) (by decide) h2 signs_ascii).mono ?_
  rintro e w' ⟨rfl, hb⟩
  exact ⟨by rw [h3], Keeps.of_below hb⟩

def MChkRel (w : World) (V : List ByteArray) (gk : Nat) (u58 : Value) (wr : World) : Prop := ∃ j, j ≤ V.length ∧ gk = V.length - j ∧ u58 = .int .i64 j ∧ Keeps [] w wr

set_option linter.unusedSimpArgs false in
set_option maxRecDepth 100000 in
set_option maxHeartbeats 1000000 in
theorem mchk_spec (w : World) (k : Int) (hk1 : 1 ≤ k) (hk4 : k ≤ 4) (n : ByteArray) (hn : cleanB n) (hne : ¬ n = ⟨#[]⟩) (v : Value) (V : List ByteArray) (h : SliceArg 1 encS1 w v V) (hV : 0 < V.length) (hl : V.length = 1 ∨ (k = 4 ∧ V.length ≠ 1 ∧ V.length ≤ 10)) (hVs : ∀ x ∈ V, cleanB x ∧ ¬ x = ⟨#[]⟩) :
    Calls Tryd.prog 27 #[.agg #[.int .i64 k, .string n, v]] w fun e w' => e = .returned (.int .i64 0) ∧ Keeps [] w w' := by
  have hf := h
  obtain ⟨ao, cap, rfl, hlm, -⟩ := h
  unfold maxLen at hlm
  have kA : Keeps [] w (w.alloc (.cells #[.int .i64 k, .string n, .slice ao V.length cap] 56)) := (Keeps.refl [] w).alloc _
  have H0 := Lib.hid (And.intro (heap_new w (.cells #[.int .i64 k, .string n, .slice ao V.length cap] 56)) (And.intro (hf.keep kA) kA))
  have HN := Lib.hid hn
  have hnz : (n.size : Int) ≤ 40 := by have := hn.1; omega
  obtain ⟨q1, q2, q3⟩ := not_empty hne
  have m1 : ¬ k < 1 := by omega
  have m4 : ¬ 4 < k := by omega
  clear hf kA hn hne
  have hV0 : (0 : Int) < (V.length : Int) := by omega
  rcases hl with hl1 | ⟨rfl, hl1, hl3⟩
  · have hb1 : ((V.length : Int) == 1) = true := by rw [beq_iff_eq]; omega
    have Hl := Lib.hid hl1
    clear hl1
    go_enter Tryd.func27, Tryd.ntmps27
    go_wp2_with fail
    refine (containsAny_clean n HN.out _).mono ?_
    rintro e w1 ⟨rfl, hk1'⟩
    have H1 := Lib.hid (And.intro (hk1'.at_ H0.out.1 (by simp)) (And.intro (H0.out.2.1.keep hk1') (H0.out.2.2.trans hk1')))
    clear hk1' H0
    generalize w.heap.size = pk at H1 ⊢
    have c2 : w1.cell? ⟨pk, 2, none⟩ = some (.slice ao V.length cap) := cells_at H1.out.1 2
    go_wp2_with fail
    clear c2 q1 q2 q3 hb1
    go_loopg [58] V.length (MChkRel w1 V)
    case atStart => exact ⟨0, Nat.zero_le _, rfl, rfl, Keeps.refl _ _⟩
    case round =>
      obtain ⟨j, hj, hgk, rfl, hkw⟩ := hrel
      have Hg := Lib.hid hgk
      clear hgk
      by_cases hlt : j < V.length
      · have hlt' : (j : Int) < (V.length : Int) := by omega
        obtain ⟨b, off, cap', ea, hbW, hcell⟩ := texts_at (H1.out.2.1.keep hkw) hV
        injection ea with ea _ ec
        subst ea ec
        have d0 := hcell j hlt
        rw [List.getD_eq_getElem?_getD, List.getElem?_eq_getElem hlt, Option.getD_some] at d0
        have hy := hVs V[j] (List.getElem_mem hlt)
        generalize V[j] = y at d0 hy
        have Hy := Lib.hid hy.1
        obtain ⟨z1, z2, z3⟩ := not_empty hy.2
        have hyz : (y.size : Int) ≤ 40 := by have := hy.1.1; omega
        have Hk := Lib.hid hkw
        clear hkw hcell hy
        go_wp2_with fail
        refine (containsAny_clean y Hy.out _).mono ?_
        rintro e w2 ⟨rfl, hk2⟩
        have Hk2 := Lib.hid (Hk.out.trans hk2)
        clear hk2 Hk d0
        go_wp2_with fail
        go_roundg (V.length - (j + 1))
        case measure => have := Hg.out; omega
        case rel => exact ⟨j + 1, hlt, rfl, by go_num, Hk2.out⟩
      · have hlt' : ¬ (j : Int) < (V.length : Int) := by omega
        have Hk := Lib.hid (H1.out.2.2.trans hkw)
        clear hkw
        go_wp2_with fail
        go_ret
        exact ⟨rfl, Hk.out⟩
  · have hb1 : ((V.length : Int) == 1) = false := by rw [beq_eq_false_iff_ne]; omega
    have hb10 : (V.length : Int) ≤ 10 := by omega
    have Hl := Lib.hid hl1
    clear hl1 hl3 m1 m4
    go_enter Tryd.func27, Tryd.ntmps27
    go_wp2_with fail
    all_goals try (exfalso; have := Hl.out; omega)
    refine (containsAny_clean n HN.out _).mono ?_
    rintro e w1 ⟨rfl, hk1'⟩
    have H1 := Lib.hid (And.intro (hk1'.at_ H0.out.1 (by simp)) (And.intro (H0.out.2.1.keep hk1') (H0.out.2.2.trans hk1')))
    clear hk1' H0
    generalize w.heap.size = pk at H1 ⊢
    have c2 : w1.cell? ⟨pk, 2, none⟩ = some (.slice ao V.length cap) := cells_at H1.out.1 2
    go_wp2_with fail
    clear c2 q1 q2 q3 hb1
    go_loopg [58] V.length (MChkRel w1 V)
    case atStart => exact ⟨0, Nat.zero_le _, rfl, rfl, Keeps.refl _ _⟩
    case round =>
      obtain ⟨j, hj, hgk, rfl, hkw⟩ := hrel
      have Hg := Lib.hid hgk
      clear hgk
      by_cases hlt : j < V.length
      · have hlt' : (j : Int) < (V.length : Int) := by omega
        obtain ⟨b, off, cap', ea, hbW, hcell⟩ := texts_at (H1.out.2.1.keep hkw) hV
        injection ea with ea _ ec
        subst ea ec
        have d0 := hcell j hlt
        rw [List.getD_eq_getElem?_getD, List.getElem?_eq_getElem hlt, Option.getD_some] at d0
        have hy := hVs V[j] (List.getElem_mem hlt)
        generalize V[j] = y at d0 hy
        have Hy := Lib.hid hy.1
        obtain ⟨z1, z2, z3⟩ := not_empty hy.2
        have hyz : (y.size : Int) ≤ 40 := by have := hy.1.1; omega
        have Hk := Lib.hid hkw
        clear hkw hcell hy
        go_wp2_with fail
        refine (containsAny_clean y Hy.out _).mono ?_
        rintro e w2 ⟨rfl, hk2⟩
        have Hk2 := Lib.hid (Hk.out.trans hk2)
        clear hk2 Hk d0
        go_wp2_with fail
        go_roundg (V.length - (j + 1))
        case measure => have := Hg.out; omega
        case rel => exact ⟨j + 1, hlt, rfl, by go_num, Hk2.out⟩
      · have hlt' : ¬ (j : Int) < (V.length : Int) := by omega
        have Hk := Lib.hid (H1.out.2.2.trans hkw)
        clear hkw
        go_wp2_with fail
        go_ret
        exact ⟨rfl, Hk.out⟩
end Go.Proofs.YtjgaidojohgenaaDoor
