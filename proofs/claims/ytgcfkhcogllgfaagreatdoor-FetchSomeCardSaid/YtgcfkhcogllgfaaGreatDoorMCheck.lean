/-
  The program's Matcher.Check at any matcher; strings.Split at a separator of one byte as its parts.
  The texts are shorter than 4294967281 bytes.
-/
import Derived.Test.YtgcfkhcogllgfaaGreatDoorAnyB
namespace Go.Proofs.YtgcfkhcogllgfaaGreatDoor
set_option maxRecDepth 100000
set_option maxHeartbeats 1000000
set_option linter.unusedSimpArgs false
open Go Go.RowKit
def signOf (k : Nat) : ByteArray := match k with | 1 => ⟨#[61]⟩ | 2 => ⟨#[33, 61]⟩ | 3 => ⟨#[94]⟩ | 4 => ⟨#[64]⟩ | _ => ⟨#[]⟩
def SignsAt (w : World) : Prop := w.cell? ⟨0, 1, none⟩ = some (.string (signOf 1)) ∧ w.cell? ⟨0, 2, none⟩ = some (.string (signOf 2)) ∧ w.cell? ⟨0, 3, none⟩ = some (.string (signOf 3)) ∧ w.cell? ⟨0, 4, none⟩ = some (.string (signOf 4))
theorem SignsAt.keep {w w' : World} (h : SignsAt w) (k : Keeps [] w w') : SignsAt w' := by
 obtain ⟨h1, h2, h3, h4⟩ := h
 have hl := World.block_lt_of_cell? w _ h1
 exact ⟨(k.cell hl (by simp)).trans h1, (k.cell hl (by simp)).trans h2, (k.cell hl (by simp)).trans h3, (k.cell hl (by simp)).trans h4⟩
instance go1Signs {w w' : World} : Go1 w w' (SignsAt w) (SignsAt w') := ⟨fun k h => h.keep k⟩
theorem kinds_at (W : World) : (Instr.index 168 (.agg #[.int .i64 2, .int .i64 1, .int .i64 3, .int .i64 4]) (.int .i64 0)).run Tryz.prog W = .ok (.int .i64 2) W ∧ (Instr.index 168 (.agg #[.int .i64 2, .int .i64 1, .int .i64 3, .int .i64 4]) (.int .i64 1)).run Tryz.prog W = .ok (.int .i64 1) W ∧
  (Instr.index 168 (.agg #[.int .i64 2, .int .i64 1, .int .i64 3, .int .i64 4]) (.int .i64 2)).run Tryz.prog W = .ok (.int .i64 3) W ∧ (Instr.index 168 (.agg #[.int .i64 2, .int .i64 1, .int .i64 3, .int .i64 4]) (.int .i64 3)).run Tryz.prog W = .ok (.int .i64 4) W := ⟨by kernel_rfl, by kernel_rfl, by kernel_rfl, by kernel_rfl⟩
def kindAt (j : Nat) : Nat := match j with | 0 => 2 | 1 => 1 | 2 => 3 | _ => 4
theorem containsAny_all (chars : List UInt8) : ∀ l : List UInt8, Lib.containsAny l chars = !(l.all fun b => !(chars.contains b))
 | [] => rfl
 | b :: l => by
  have ih := containsAny_all chars l
  unfold Lib.containsAny at ih ⊢
  have hge := Lib.indexAny_ge chars l
  rw [List.all_cons]
  unfold Lib.indexAny
  cases hb : chars.contains b with
  | true => simp
  | false =>
   rw [if_neg (by decide), Bool.not_false, Bool.true_and, ← ih]
   by_cases hm : Lib.indexAny l chars = -1
   ·rw [hm]
    rfl
   ·rw [if_neg (by simpa using hm)]
    exact decide_eq_decide.2 (by omega)
theorem indexAny_le (chars : List UInt8) : ∀ l : List UInt8, Lib.indexAny l chars ≤ (l.length : Int)
 | [] => by
  show (-1 : Int) ≤ _
  omega
 | b :: l => by
  have ih := indexAny_le chars l
  unfold Lib.indexAny
  rw [List.length_cons]
  split
  ·omega
  ·split <;> omega
theorem plainB_any (s : ByteArray) : plainB s = (!(Lib.containsAny s.data.toList signsB.data.toList) && decide (s.size ≤ 40)) := by
 unfold plainB
 rw [containsAny_all, Bool.not_not]
 rfl
theorem signs_spec (w : World) (s : ByteArray) (hs : s.size < 4294967281) :
  Calls Tryz.prog 113 #[.string s, .string ⟨#[61, 33, 94, 64, 44, 124]⟩] w fun e w' => e = .returned (.bool (Lib.containsAny s.data.toList signsB.data.toList)) ∧ Keeps [] w w' :=
 containsAny_spec w s signsB signs_ascii (by decide) (by decide) hs
def oneM (k : Int) (l : Nat) : Bool := decide (l = 1) || (decide (k = 4) && decide (0 < l) && decide (l ≤ 10))
theorem headB_one (k : Int) (n : ByteArray) (l : Nat) : headB k n l = (decide (1 ≤ k) && decide (k ≤ 4) && decide (n ≠ ⟨#[]⟩) && plainB n && oneM k l) := by
 unfold headB oneM
 by_cases h1 : 1 ≤ k
 ·by_cases h4 : k ≤ 4
  ·have : (decide (l ≠ 0) && decide (l ≤ 10) && !(decide (k < 4) && decide (1 < l))) = (decide (l = 1) || (decide (k = 4) && decide (0 < l) && decide (l ≤ 10))) := by
    by_cases e : k = 4
    ·subst e
     by_cases l0 : l = 0
     ·subst l0; decide
     ·by_cases l10 : l ≤ 10 <;> simp [l0, l10] <;> omega
    ·have hk : k < 4 := by omega
     by_cases l0 : l = 0
     ·subst l0; simp [hk, e]
     ·by_cases l1 : l = 1
      ·subst l1; simp
      ·have : 1 < l := by omega
       simp [hk, this, e, l1]
   rw [← this]
   simp only [Bool.and_assoc]
  ·simp [h4]
 ·simp [h1]
def errB (b : Bool) : Int := if b then 0 else 1
def MVRel (w : World) (k : Int) (V : List ByteArray) (gk : Nat) (u58 : Value) (wr : World) : Prop := ∃ j, j ≤ V.length ∧ gk = V.length - j ∧ u58 = .int .i64 j ∧ (V.take j).all (valB k) = true ∧ Keeps [] w wr
theorem mcheck_spec (w : World) (k : Int) (n : ByteArray) (v : Value) (V : List ByteArray) (h : SliceArg 1 encS1 w v V) (hn : n.size < 4294967281) (hVs : ∀ x ∈ V, x.size < 4294967281) :
  Calls Tryz.prog 79 #[.agg #[.int .i64 k, .string n, v]] w fun e w' => e = .returned (.int .i64 (errB (chkB (k, n, V)))) ∧ Keeps [] w w' := by
 have hf := h
 obtain ⟨ao, cap, rfl, hl, -⟩ := h
 unfold maxLen at hl
 obtain ⟨R, hR⟩ : ∃ R, R = chkB (k, n, V) := ⟨_, rfl⟩
 rw [← hR]
 have HR := Lib.hid (show R = (headB k n V.length && V.all (valB k)) from hR)
 clear hR
 have kA : Keeps [] w (w.alloc (.cells #[.int .i64 k, .string n, .slice ao V.length cap] 56)) := (Keeps.refl [] w).alloc _
 have H0 := Lib.hid (And.intro (heap_new w (.cells #[.int .i64 k, .string n, .slice ao V.length cap] 56)) (And.intro (hf.keep kA) kA))
 have HV := Lib.hid hVs
 clear hf kA hVs
 go_enter Tryz.func79, Tryz.ntmps79
 go_upto_region 1 with fail
 generalize w.heap.size = pk at H0 ⊢
 generalize w.alloc (.cells #[.int .i64 k, .string n, .slice ao V.length cap] 56) = W0 at H0 ⊢
 have c0 : W0.cell? ⟨pk, 0, none⟩ = some (.int .i64 k) := cells_at H0.out.1 0
 have c1 : W0.cell? ⟨pk, 1, none⟩ = some (.string n) := cells_at H0.out.1 1
 have c2 : W0.cell? ⟨pk, 2, none⟩ = some (.slice ao V.length cap) := cells_at H0.out.1 2
 go_cut [3] from 6 (fun c wc => c = .bool (oneM k V.length) ∧ wc = W0)
 case first =>
  by_cases l1 : (V.length : Int) = 1
  ·have hb1 : ((V.length : Int) == 1) = true := by rw [beq_iff_eq]; exact l1
   have L1 := Lib.hid l1
   clear l1
   go_wp2_with fail
   go_meet
   exact ⟨by unfold oneM; rw [decide_eq_true (show V.length = 1 from by have := L1.out; omega)]; rfl, rfl⟩
  ·have hb1 : ((V.length : Int) == 1) = false := by rw [beq_eq_false_iff_ne]; exact l1
   have hd1 : decide (V.length = 1) = false := decide_eq_false (by omega)
   by_cases k4 : k = 4
   ·have hk4 : (k == 4) = true := by rw [beq_iff_eq]; exact k4
    have hd4 : decide (k = 4) = true := decide_eq_true k4
    have HD := Lib.hid (And.intro hd1 hd4)
    clear hd1 hd4 l1 k4
    by_cases l0 : (0 : Int) < (V.length : Int)
    ·have hd0 := Lib.hid (show decide (0 < V.length) = true from decide_eq_true (by omega))
     by_cases l10 : (V.length : Int) ≤ 10
     ·have hd10 := Lib.hid (show decide (V.length ≤ 10) = true from decide_eq_true (by omega))
      go_wp2_with fail
      go_meet
      exact ⟨by unfold oneM; rw [HD.out.1, HD.out.2, hd0.out, hd10.out]; rfl, rfl⟩
     ·have hd10 := Lib.hid (show decide (V.length ≤ 10) = false from decide_eq_false (by omega))
      go_wp2_with fail
      go_meet
      exact ⟨by unfold oneM; rw [HD.out.1, HD.out.2, hd0.out, hd10.out]; rfl, rfl⟩
    ·have hd0 := Lib.hid (show decide (0 < V.length) = false from decide_eq_false (by omega))
     go_wp2_with fail
     go_meet
     exact ⟨by unfold oneM; rw [HD.out.1, HD.out.2, hd0.out]; rfl, rfl⟩
   ·have hk4 : (k == 4) = false := by rw [beq_eq_false_iff_ne]; exact k4
    have hd4 : decide (k = 4) = false := decide_eq_false k4
    have HD := Lib.hid (And.intro hd1 hd4)
    clear hd1 hd4 l1 k4
    go_wp2_with fail
    go_meet
    exact ⟨by unfold oneM; rw [HD.out.1, HD.out.2]; rfl, rfl⟩
 case rest =>
  obtain ⟨rfl, rfl⟩ := hcut
  have HH := Lib.hid (headB_one k n V.length)
  generalize oneM k V.length = ob at HH ⊢
  by_cases k1 : k < 1
  ·go_wp2_with fail
   go_ret
   exact ⟨by rw [HR.out, HH.out, decide_eq_false (show ¬ 1 ≤ k from by omega)]; simp [errB], H0.out.2.2⟩
  have K1 := Lib.hid (show decide (1 ≤ k) = true from decide_eq_true (by omega))
  by_cases k4 : 4 < k
  ·go_wp2_with fail
   go_ret
   exact ⟨by rw [HR.out, HH.out, decide_eq_false (show ¬ k ≤ 4 from by omega)]; simp [errB], H0.out.2.2⟩
  have K4 := Lib.hid (show decide (k ≤ 4) = true from decide_eq_true (by omega))
  cases ob with
  | false =>
   go_wp2_with fail
   go_ret
   exact ⟨by rw [HR.out, HH.out]; simp [errB], H0.out.2.2⟩
  | true =>
   by_cases hne : n = ⟨#[]⟩
   ·subst hne
    go_wp2_with fail
    go_ret
    exact ⟨by rw [HR.out, HH.out]; simp [errB], H0.out.2.2⟩
   have HN := Lib.hid (show decide (n ≠ ⟨#[]⟩) = true from decide_eq_true hne)
   obtain ⟨q1, q2, q3⟩ := not_empty hne
   clear hne
   by_cases n40 : (40 : Int) < (n.size : Int)
   ·have hpl := Lib.hid (show plainB n = false from by rw [plainB_any, decide_eq_false (show ¬ n.size ≤ 40 from by omega), Bool.and_false])
    go_wp2_with fail
    go_ret
    exact ⟨by rw [HR.out, HH.out, hpl.out]; simp [errB], H0.out.2.2⟩
   have hpl := Lib.hid (show plainB n = !(Lib.containsAny n.data.toList signsB.data.toList) from by rw [plainB_any, decide_eq_true (show n.size ≤ 40 from by omega), Bool.and_true])
   go_wp2_with fail
   refine (signs_spec _ n hn).mono ?_
   rintro e w1 ⟨rfl, hk1⟩
   have H1 := Lib.hid (And.intro (hk1.at_ H0.out.1 (by simp)) (And.intro (H0.out.2.1.keep hk1) (H0.out.2.2.trans hk1)))
   clear hk1 c0 c1 c2
   generalize Lib.containsAny n.data.toList signsB.data.toList = cb at hpl ⊢
   cases cb with
   | true =>
    go_wp2_with fail
    go_ret
    exact ⟨by rw [HR.out, HH.out, hpl.out]; simp [errB], H1.out.2.2⟩
   | false =>
    have HR2 := Lib.hid (show R = V.all (valB k) from by rw [HR.out, HH.out, K1.out, K4.out, HN.out, hpl.out]; rfl)
    have c2 : w1.cell? ⟨pk, 2, none⟩ = some (.slice ao V.length cap) := cells_at H1.out.1 2
    clear HR HH hpl K1 K4 HN
    go_wp2_with fail
    clear q1 q2 q3 c2
    go_loopg [58] V.length (MVRel w1 k V)
    case atStart => exact ⟨0, Nat.zero_le _, rfl, rfl, rfl, Keeps.refl _ _⟩
    case round =>
     obtain ⟨j, hj, hgk, rfl, hall, hkw⟩ := hrel
     have Hg := Lib.hid (And.intro hgk hall)
     clear hgk hall
     by_cases hlt : j < V.length
     ·have hlt' : (j : Int) < (V.length : Int) := by omega
      obtain ⟨b, off, cap', ea, hbW, hcell⟩ := texts_at (H1.out.2.1.keep hkw) (by omega)
      injection ea with ea _ ec
      subst ea ec
      have d0 := hcell j hlt
      rw [List.getD_eq_getElem?_getD, List.getElem?_eq_getElem hlt, Option.getD_some] at d0
      have hys := HV.out V[j] (List.getElem_mem hlt)
      have Hsp := Lib.hid (show (V.take (j + 1)).all (valB k) = ((V.take j).all (valB k) && valB k V[j]) from by rw [List.take_add_one, List.getElem?_eq_getElem hlt, Option.toList_some, List.all_append]; simp)
      have Hno := Lib.hid (show valB k V[j] = false → V.all (valB k) = false from fun h => by
       rw [List.all_eq_false]
       exact ⟨V[j], List.getElem_mem hlt, by rw [h]; decide⟩)
      have e0 : wr.cell? ⟨pk, 0, none⟩ = some (.int .i64 k) := cells_at (hkw.at_ H1.out.1 (by simp)) 0
      have Hk := Lib.hid hkw
      clear hkw hcell
      generalize V[j] = y at d0 hys Hsp Hno
      have Hpy := Lib.hid (plainB_any y)
      by_cases y40 : (40 : Int) < (y.size : Int)
      ·go_wp2_with fail
       go_ret
       exact ⟨by rw [HR2.out, Hno.out (by unfold valB; rw [Hpy.out, decide_eq_false (show ¬ y.size ≤ 40 from by omega)]; simp)]; rfl, H1.out.2.2.trans Hk.out⟩
      have Hy40 := Lib.hid (show decide (y.size ≤ 40) = true from decide_eq_true (by omega))
      by_cases ye : y = ⟨#[]⟩
      ·subst ye
       by_cases k3 : k = 3
       ·subst k3
        go_wp2_with fail
        go_ret
        exact ⟨by rw [HR2.out, Hno.out (by decide)]; rfl, H1.out.2.2.trans Hk.out⟩
       ·have hk3 : (k == 3) = false := by rw [beq_eq_false_iff_ne]; exact k3
        have Hk3 := Lib.hid (show valB k ⟨#[]⟩ = true from by unfold valB; rw [decide_eq_false k3]; decide)
        clear k3
        go_wp2_with fail
        refine (signs_spec _ ⟨#[]⟩ (by decide)).mono ?_
        rintro e w2 ⟨rfl, hk2⟩
        have Hk2 := Lib.hid (Hk.out.trans hk2)
        rw [show Lib.containsAny (⟨#[]⟩ : ByteArray).data.toList signsB.data.toList = false from by decide]
        clear hk2 Hk d0
        go_wp2_with fail
        go_roundg (V.length - (j + 1))
        case measure => have := Hg.out.1; omega
        case rel => exact ⟨j + 1, hlt, rfl, by go_num, by rw [Hsp.out, Hg.out.2, Hk3.out]; rfl, Hk2.out⟩
      ·obtain ⟨z1, z2, z3⟩ := not_empty ye
       have Hv := Lib.hid (show valB k y = !(Lib.containsAny y.data.toList signsB.data.toList) from by unfold valB; rw [Hpy.out, Hy40.out, decide_eq_false ye]; simp)
       clear ye
       go_wp2_with fail
       refine (signs_spec _ y hys).mono ?_
       rintro e w2 ⟨rfl, hk2⟩
       have Hk2 := Lib.hid (Hk.out.trans hk2)
       clear hk2 Hk d0 e0
       generalize Lib.containsAny y.data.toList signsB.data.toList = yb at Hv ⊢
       cases yb with
       | true =>
        go_wp2_with fail
        go_ret
        exact ⟨by rw [HR2.out, Hno.out Hv.out]; rfl, H1.out.2.2.trans Hk2.out⟩
       | false =>
        go_wp2_with fail
        go_roundg (V.length - (j + 1))
        case measure => have := Hg.out.1; omega
        case rel => exact ⟨j + 1, hlt, rfl, by go_num, by rw [Hsp.out, Hg.out.2, Hv.out]; rfl, Hk2.out⟩
     ·have hlt' : ¬ (j : Int) < (V.length : Int) := by omega
      have Hk := Lib.hid (H1.out.2.2.trans hkw)
      have HE := Lib.hid (show V.all (valB k) = true from by have := Hg.out.2; rwa [List.take_of_length_le (by omega)] at this)
      clear hkw
      go_wp2_with fail
      go_ret
      exact ⟨by rw [HR2.out, HE.out]; rfl, Hk.out⟩
theorem splitB_parts (c : UInt8) : ∀ (k : Nat) (s : ByteArray), Lib.countB s ⟨#[c]⟩ ≤ k → Lib.splitB ⟨#[c]⟩ 0 k s = partsC c s := by
 intro k
 induction k with
 | zero =>
  intro s hk
  rcases partsC_index c s with ⟨h1, h2⟩ | ⟨i, h1, h2, h3⟩
  ·rw [h2]
   rfl
  ·have := Lib.countB_hit s ⟨#[c]⟩ i (Nat.le_refl 1) h1
   omega
 | succ k ih =>
  intro s hk
  rcases partsC_index c s with ⟨h1, h2⟩ | ⟨i, h1, h2, h3⟩
  ·rw [h2]
   exact Lib.splitB_miss ⟨#[c]⟩ 0 (k + 1) s h1
  ·have hc := Lib.countB_hit s ⟨#[c]⟩ i (Nat.le_refl 1) h1
   have hz : (⟨#[c]⟩ : ByteArray).size = 1 := rfl
   rw [hz] at hc
   rw [Lib.splitB_hit ⟨#[c]⟩ 0 k s i h1, h3, hz, Nat.add_zero, ih _ (by omega)]
theorem countB_parts (c : UInt8) : ∀ (n : Nat) (s : ByteArray), s.size ≤ n → Lib.countB s ⟨#[c]⟩ + 1 = (partsC c s).length := by
 intro n
 induction n with
 | zero =>
  intro s hs
  rcases partsC_index c s with ⟨h1, h2⟩ | ⟨i, h1, h2, h3⟩
  ·rw [h2, Lib.countB_miss s ⟨#[c]⟩ h1]
   rfl
  ·omega
 | succ n ih =>
  intro s hs
  rcases partsC_index c s with ⟨h1, h2⟩ | ⟨i, h1, h2, h3⟩
  ·rw [h2, Lib.countB_miss s ⟨#[c]⟩ h1]
   rfl
  ·have hc := Lib.countB_hit s ⟨#[c]⟩ i (Nat.le_refl 1) h1
   have hz : (⟨#[c]⟩ : ByteArray).size = 1 := rfl
   rw [hz] at hc
   rw [h3, List.length_cons, ← ih _ (by simp; omega)]
   omega
theorem splitS_spec (w : World) (hv : LibVar w) (c : UInt8) (s : ByteArray) (hs : s.size < 4294967281) :
  Calls Tryz.prog 78 #[.string s, .string ⟨#[c]⟩] w fun e w' => e = .returned (.slice (some ⟨w.heap.size, 0, none⟩) (partsC c s).length (partsC c s).length) ∧ w' = w.alloc (.cells ((partsC c s).map Value.string).toArray 9) := by
 obtain ⟨m, hm⟩ := hv
 refine (Tryz.strings_Split s ⟨#[c]⟩ m w hs hm (Nat.le_refl 1)).mono ?_
 rintro e w' ⟨rfl, rfl⟩
 rw [splitB_parts c _ s (Nat.le_refl _), countB_parts c s.size s (Nat.le_refl _)]
 exact ⟨rfl, rfl⟩
end Go.Proofs.YtgcfkhcogllgfaaGreatDoor
