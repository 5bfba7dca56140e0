/-
  Does a matcher fit a value: the document's Fits.
  The matcher is one that may be: kind 1 to 4, at least one value.
-/
import Derived.Test.YtjgaidojohgenaaDoorFits
namespace Go.Proofs.YtjgaidojohgenaaDoor
open Go Go.RowKit

def inB (V : List ByteArray) (x : ByteArray) : Bool := V.any fun v => decide (v = x)

theorem inB_contains (V : List ByteArray) (x : ByteArray) : inB V x = Lib.containsS V x := by
  rw [Bool.eq_iff_iff, Lib.containsS_iff]
  simp [inB]

theorem inB_succ (V : List ByteArray) (x : ByteArray) (k : Nat) (hk : k < V.length) : inB (V.take (k + 1)) x = (inB (V.take k) x || decide (V[k] = x)) := by
  unfold inB
  rw [List.take_add_one, List.getElem?_eq_getElem hk, Option.toList_some, List.any_append]
  simp

theorem hasPrefix_cut (x p : ByteArray) : Lib.hasPrefix x.data.toList p.data.toList = (decide ((p.size : Int) ≤ (x.size : Int)) && decide (x.extract 0 p.size = p)) := by
  rw [Bool.eq_iff_iff]
  unfold Lib.hasPrefix
  rw [List.isPrefixOf_iff_prefix, Bool.and_eq_true, decide_eq_true_eq, decide_eq_true_eq, List.prefix_iff_eq_take]
  constructor
  · intro h
    have hl := congrArg List.length h
    simp only [List.length_take] at hl
    have hs1 : p.data.toList.length = p.size := by simp
    have hs2 : x.data.toList.length = x.size := by simp
    refine ⟨by omega, ba_ext ?_⟩
    rw [h]
    simp [ByteArray.data_extract, Array.toList_extract, List.extract_eq_take_drop]
  · rintro ⟨h1, h2⟩
    have h3 := congrArg (fun s : ByteArray => s.data.toList) h2
    simp only [ByteArray.data_extract, Array.toList_extract, List.extract_eq_take_drop, List.drop_zero, Nat.sub_zero] at h3
    rw [show p.data.toList.length = p.size from by simp]
    exact h3.symm

def FitsRel (w : World) (V : List ByteArray) (x : ByteArray) (gk : Nat) (u5 u12 : Value) (wr : World) : Prop := ∃ k, k ≤ V.length ∧ gk = V.length - k ∧ u5 = .bool (inB (V.take k) x) ∧ u12 = .int .i64 k ∧ wr = w

set_option linter.unusedSimpArgs false in
set_option maxRecDepth 100000 in
set_option maxHeartbeats 1000000 in
theorem fitsR_spec (w : World) (k : Int) (hk : k = 1 ∨ k = 2 ∨ k = 3 ∨ k = 4) (name : ByteArray) (v : Value) (V : List ByteArray) (h : SliceArg 1 encS1 w v V) (hV : 0 < V.length) (x : ByteArray) :
    Calls Tryd.prog 22 #[.agg #[.int .i64 k, .string name, v], .string x] w fun e w' => e = .returned (.bool (fitsB k V x)) ∧ Keeps [] w w' := by
  have hml : V.length ≤ 9223372036854775807 := by
    obtain ⟨_, _, _, hl, _⟩ := h
    unfold maxLen at hl
    omega
  obtain ⟨b, off, cap, rfl, hbW, hc⟩ := texts_at h hV
  obtain ⟨R, hR⟩ : ∃ R, R = fitsB k V x := ⟨_, rfl⟩
  rw [← hR]
  have HR := Lib.hid hR
  have kA : Keeps [] w (w.alloc (.cells #[.int .i64 k, .string name, .slice (some ⟨b, off, none⟩) V.length cap] 59)) := (Keeps.refl [] w).alloc _
  have hp := heap_new w (.cells #[.int .i64 k, .string name, .slice (some ⟨b, off, none⟩) V.length cap] 59)
  have HC := Lib.hid (And.intro (show ∀ j, j < V.length → (w.alloc (.cells #[.int .i64 k, .string name, .slice (some ⟨b, off, none⟩) V.length cap] 59)).cell? ⟨b, off + j, none⟩ = some (.string (V.getD j ByteArray.empty)) from fun j hj => (kA.cell hbW (by simp)).trans (hc j hj)) (And.intro hp (And.intro (kA.lt hbW) kA)))
  have hv0 : (0 : Int) < (V.length : Int) := by omega
  clear hR hc h kA hp
  go_enter Tryd.func22, Tryd.ntmps22
  go_wp2_with fail
  generalize w.heap.size = pk at HC ⊢
  generalize w.alloc (.cells #[.int .i64 k, .string name, .slice (some ⟨b, off, none⟩) V.length cap] 59) = W at HC ⊢
  go_loopg [5, 12] V.length (FitsRel W V x)
  case atStart => exact ⟨0, Nat.zero_le _, rfl, by simp [inB], rfl, rfl⟩
  case round =>
    obtain ⟨j, hj, hgk, rfl, rfl, hw⟩ := hrel
    subst hw
    have Hg := Lib.hid hgk
    clear hgk
    by_cases hlt : j < V.length
    · have d0 := HC.out.1 j hlt
      rw [List.getD_eq_getElem?_getD, List.getElem?_eq_getElem hlt, Option.getD_some] at d0
      have hlt' : (j : Int) < (V.length : Int) := by omega
      have hbR := HC.out.2.2.1
      have Hi := Lib.hid (inB_succ V x j hlt)
      generalize V[j] = y at d0 Hi
      by_cases hin : inB (V.take j) x = true
      · rw [hin]
        rw [hin] at Hi
        have hin2 := Lib.hid hin
        clear hin
        go_wp2_with fail
        go_roundg (V.length - (j + 1))
        case measure => have := Hg.out; omega
        case rel => exact ⟨j + 1, hlt, rfl, by rw [Hi.out]; rfl, by go_num, rfl⟩
      · rw [Bool.not_eq_true] at hin
        rw [hin]
        rw [hin] at Hi
        clear hin
        by_cases hy : y = x
        · subst hy
          go_wp2_with fail
          go_roundg (V.length - (j + 1))
          case measure => have := Hg.out; omega
          case rel => exact ⟨j + 1, hlt, rfl, by rw [Hi.out]; simp, by go_num, rfl⟩
        · have hbb : (y.toList == x.toList) = false := by rw [toList_beq]; exact decide_eq_false hy
          have Hy := Lib.hid hy
          clear hy
          go_wp2_with fail
          go_roundg (V.length - (j + 1))
          case measure => have := Hg.out; omega
          case rel => exact ⟨j + 1, hlt, rfl, by rw [Hi.out, decide_eq_false Hy.out]; rfl, by go_num, rfl⟩
    · have hjn := Lib.hid (show j = V.length from by omega)
      have hlt' : ¬ (j : Int) < (V.length : Int) := by omega
      have e0 : inB (V.take j) x = Lib.containsS V x := by rw [hjn.out, List.take_length, inB_contains]
      rw [e0]
      have HE := Lib.hid e0
      clear e0
      have c0 : wr.cell? ⟨pk, 0, none⟩ = some (.int .i64 k) := cells_at HC.out.2.1 0
      have c2 : wr.cell? ⟨pk, 2, none⟩ = some (.slice (some ⟨b, off, none⟩) V.length cap) := cells_at HC.out.2.1 2
      rcases hk with rfl | rfl | rfl | rfl
      · go_wp2_with fail
        go_ret
        exact ⟨by rw [HR.out]; rfl, HC.out.2.2.2⟩
      · go_wp2_with fail
        go_ret
        exact ⟨by rw [HR.out]; rfl, HC.out.2.2.2⟩
      · have d0 := HC.out.1 0 hV
        rw [Nat.add_zero] at d0
        have hbR := HC.out.2.2.1
        have Hpre := Lib.hid (hasPrefix_cut x (V.getD 0 ByteArray.empty))
        have HR3 := Lib.hid (HR.out.trans (show fitsB 3 V x = (decide (x ≠ ⟨#[]⟩) && Lib.hasPrefix x.data.toList (V.getD 0 ByteArray.empty).data.toList) from by unfold fitsB; rw [if_neg (by decide), if_pos rfl]))
        generalize V.getD 0 ByteArray.empty = p at d0 Hpre HR3
        clear HR
        by_cases hx : x = ⟨#[]⟩
        · subst hx
          go_wp2_with fail
          go_ret
          exact ⟨by rw [HR3.out]; simp, HC.out.2.2.2⟩
        · have Hx := Lib.hid hx
          clear hx
          have hne : ¬ x.data.toList = [] := fun e => Hx.out (ba_ext e)
          have hn1 : (x.toList == []) = false := by rw [ByteArray.toList_eq]; simpa using hne
          have hn2 : (x.toList != []) = true := by rw [bne, hn1]; rfl
          have hn3 : ¬ x.toList = [] := by rw [ByteArray.toList_eq]; exact hne
          by_cases hsz : (p.size : Int) ≤ (x.size : Int)
          · have hszn : p.size ≤ x.size := by omega
            by_cases hpe : x.extract 0 p.size = p
            · have hbb : ((x.extract 0 p.size).toList == p.toList) = true := by rw [toList_beq]; exact decide_eq_true hpe
              have Hpe := Lib.hid hpe
              clear hpe
              go_wp2_with fail
              go_ret
              exact ⟨by rw [HR3.out, Hpre.out, decide_eq_true Hx.out, decide_eq_true hsz, decide_eq_true Hpe.out]; rfl, HC.out.2.2.2⟩
            · have hbb : ((x.extract 0 p.size).toList == p.toList) = false := by rw [toList_beq]; exact decide_eq_false hpe
              have Hpe := Lib.hid hpe
              clear hpe
              go_wp2_with fail
              go_ret
              exact ⟨by rw [HR3.out, Hpre.out, decide_eq_true Hx.out, decide_eq_true hsz, decide_eq_false Hpe.out]; rfl, HC.out.2.2.2⟩
          · go_wp2_with fail
            go_ret
            exact ⟨by rw [HR3.out, Hpre.out, decide_eq_true Hx.out, decide_eq_false (show ¬ (p.size : Int) ≤ (x.size : Int) from by omega)]; rfl, HC.out.2.2.2⟩
      · go_wp2_with fail
        go_ret
        exact ⟨by rw [HR.out]; rfl, HC.out.2.2.2⟩
end Go.Proofs.YtjgaidojohgenaaDoor
