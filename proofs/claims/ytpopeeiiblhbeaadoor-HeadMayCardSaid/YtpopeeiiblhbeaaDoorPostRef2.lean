/-
  The document's answer for package posting: Any, Both, Less, walked.
  The slices are read in memory from a bound on; they are of few numbers.
-/
import Derived.Test.YtpopeeiiblhbeaaDoorPostRef
namespace Go.Proofs.YtpopeeiiblhbeaaDoor
open Go Go.RowKit

def AnyRel (w : World) (LL : List (List Int)) (gk : Nat) (u3 u11 : Value) (wr : World) : Prop :=
  ∃ k, k ≤ LL.length ∧ gk = LL.length - k ∧ u11 = .int .i64 k ∧ Own w.heap.size wr u3 (anyL (LL.take k)) ∧ Keeps [] w wr

def AnyRel2 (base : Nat) (wo : World) (L X : List Int) (gk : Nat) (u3 u17 : Value) (wr : World) : Prop :=
  ∃ j, j ≤ L.length ∧ gk = L.length - j ∧ u17 = .int .i64 j ∧ Own base wr u3 ((L.take j).foldl putL X) ∧ Keeps [] wo wr

set_option maxRecDepth 100000 in
set_option maxHeartbeats 1000000 in
theorem anyR_spec (B : Nat) (w : World) (v : Value) (LL : List (List Int)) (h : Rows2 B w v LL) (hl : LL.flatten.length ≤ 1000) :
    Calls Tryd.prog 20 #[v] w fun e w' => ∃ v', e = .returned v' ∧ Own w.heap.size w' v' (anyL LL) ∧ Keeps [] w w' := by
  have Hf := Lib.hid h
  obtain ⟨ao, cap, rfl, hm, -, -⟩ := h.form
  unfold maxLen at hm
  have k0 : Keeps [] w (w.alloc (.cells #[] 3)) := (Keeps.refl [] w).alloc _
  have H0 := Lib.hid (And.intro (own_made w w.heap.size 3 1 (Nat.le_refl _)) k0)
  clear h k0
  go_enter Tryd.func20, Tryd.ntmps20
  go_wp2_with fail
  go_loopg [3, 11] LL.length (AnyRel w LL)
  case atStart => exact ⟨0, Nat.zero_le _, rfl, rfl, H0.out.1, H0.out.2⟩
  case round =>
    obtain ⟨k, hk, hgk, rfl, hrow, hkw⟩ := hrel
    have Hg := Lib.hid hgk
    have hws := hkw.size
    clear hgk
    by_cases hlt : k < LL.length
    · obtain ⟨b, of, u, ea, hb, d0, hu⟩ := (Hf.out.keep hkw (by simp)).at_ k hlt
      subst ea
      have hlt' : (k : Int) < (LL.length : Int) := by omega
      have Hs := Lib.hid (And.intro (any_snoc hlt) (fun j => fold_len (j := j) hlt))
      have HR := Lib.hid (And.intro hrow hkw)
      generalize LL[k] = L at hu Hs
      generalize anyL (LL.take k) = X at HR Hs
      have Hu := Lib.hid hu
      obtain ⟨ax, cx, rfl, hxl, -, -, -⟩ := hu
      unfold maxLen at hxl
      obtain ⟨wo, hwo⟩ : ∃ wo : World, wo = wr := ⟨_, rfl⟩
      rw [← hwo] at HR Hu d0 hb hws
      rw [← hwo]
      clear hrow hkw hwo
      go_wp2_with fail
      clear d0 hb
      go_loopg [3, 17] L.length (AnyRel2 w.heap.size wo L X)
      case atStart => exact ⟨0, Nat.zero_le _, rfl, rfl, HR.out.1, Keeps.refl [] wo⟩
      case round =>
        obtain ⟨j, hj, hgj, rfl, hrow, hkj⟩ := hrel
        have Hgj := Lib.hid hgj
        have hws2 := hkj.size
        clear hgj
        by_cases hltj : j < L.length
        · obtain ⟨b7, of7, ea, hb7, d7⟩ := sf_at1 (Hu.out.keep hkj (by simp)) j hltj
          subst ea
          have hltj' : (j : Int) < (L.length : Int) := by omega
          have Hsn := Lib.hid (fold_snoc (X := X) hltj)
          have hfl := Hs.out.2 j
          generalize L[j] = x at d7 Hsn
          generalize (L.take j).foldl putL X = Y at hrow Hsn hfl
          have Hr := Lib.hid (And.intro hrow hkj)
          clear hrow hkj
          go_wp2_with fail
          refine (putR_spec w.heap.size _ _ Y x Hr.out.1.ints (by omega)).mono ?_
          rintro e w8 ⟨v8, rfl, hown8, hk8⟩
          have H8 := Lib.hid (And.intro (row_base (b' := w.heap.size) hown8 (by omega)) (Hr.out.2.trans hk8))
          clear hown8 hk8
          go_wp2_with fail
          go_roundg (L.length - (j + 1))
          case measure => have := Hgj.out; omega
          case rel => exact ⟨j + 1, by omega, rfl, by go_num, by rw [Hsn.out]; exact H8.out.1, H8.out.2⟩
        · have hje : j = L.length := by omega
          subst hje
          rw [List.take_length, ← Hs.out.1] at hrow
          have Hr := Lib.hid (And.intro hrow hkj)
          clear hrow hkj
          go_wp2_with fail
          go_roundg (LL.length - (k + 1))
          case measure => have := Hg.out; omega
          case rel => exact ⟨k + 1, by omega, rfl, by go_num, Hr.out.1, HR.out.2.trans Hr.out.2⟩
    · have hkn : k = LL.length := by omega
      subst hkn
      rw [List.take_length] at hrow
      have Hr := Lib.hid (And.intro hrow hkw)
      clear hrow hkw
      go_wp2_with fail
      go_ret
      exact ⟨_, rfl, Hr.out.1, Hr.out.2⟩


def LessRel (w : World) (a b : List Int) (gk : Nat) (u5 u11 : Value) (wr : World) : Prop :=
  ∃ k, k ≤ a.length ∧ gk = a.length - k ∧ u11 = .int .i64 k ∧ Own w.heap.size wr u5 ((a.take k).filter fun n => !decide (n ∈ b)) ∧ Keeps [] w wr

set_option maxRecDepth 100000 in
set_option maxHeartbeats 1000000 in
theorem lessR_spec (B : Nat) (w : World) (va vb : Value) (a b : List Int) (ha : Ints B w va a) (hb : Ints B w vb b) (hl : a.length ≤ 1000) :
    Calls Tryd.prog 22 #[va, vb] w fun e w' => ∃ v', e = .returned v' ∧ Own w.heap.size w' v' (lessL a b) ∧ Keeps [] w w' := by
  obtain ⟨ii, hii, hz0, hz1, hz2⟩ := info_parts infoInt
  have Hf := Lib.hid (And.intro ha hb)
  obtain ⟨ao, cap, rfl, -, -, -, -⟩ := ha
  have k0 : Keeps [] w (w.alloc (.cells #[] 3)) := (Keeps.refl [] w).alloc _
  have H0 := Lib.hid (And.intro (own_made w w.heap.size 3 1 (Nat.le_refl _)) k0)
  clear hb k0
  go_enter Tryd.func22, Tryd.ntmps22
  go_wp2_with fail
  go_loopg [5, 11] a.length (LessRel w a b)
  case atStart => exact ⟨0, Nat.zero_le _, rfl, rfl, H0.out.1, H0.out.2⟩
  case round =>
    obtain ⟨k, hk, hgk, rfl, hrow, hkw⟩ := hrel
    have Hg := Lib.hid hgk
    have hws := hkw.size
    clear hgk
    by_cases hlt : k < a.length
    · obtain ⟨b6, of, ea, hb6, d0⟩ := sf_at1 (Hf.out.1.keep hkw (by simp)) k hlt
      subst ea
      have hlt' : (k : Int) < (a.length : Int) := by omega
      have Hs := Lib.hid (filter_snoc (p := fun n => !decide (n ∈ b)) hlt)
      have hfl := filter_take_len (A := a) (fun n => !decide (n ∈ b)) k
      generalize a[k] = x at d0 Hs
      generalize (a.take k).filter (fun n => !decide (n ∈ b)) = Y at hrow Hs hfl
      obtain ⟨ax, cx, rfl, hxc, hxm, -⟩ := row_slice hrow
      have Hr := Lib.hid (And.intro hrow hkw)
      clear hrow
      go_wp2_with fail
      refine (inR_spec B _ _ b x (Hf.out.2.keep hkw (by simp))).mono ?_
      rintro e w1 ⟨rfl, rfl⟩
      clear hkw d0
      by_cases hx : x ∈ b
      · rw [decide_eq_true hx]
        rw [if_neg (by simp [hx]), List.append_nil] at Hs
        go_wp2_with fail
        go_roundg (a.length - (k + 1))
        case measure => have := Hg.out; omega
        case rel => exact ⟨k + 1, by omega, rfl, by go_num, by rw [Hs.out]; exact Hr.out.1, Hr.out.2⟩
      · rw [decide_eq_false hx]
        rw [if_pos (by simp [hx])] at Hs
        go_wp2_with (at_builtin; refine wpList_append_own _ rfl (.tmp 19) (.tmp 21) 32 rfl w.heap.size 3 ii _ 1 8 Tryd.underlying32 hii hz0 hz1 hz2 rfl (by decide) (.slice ax Y.length cx) Y.length (Y.map (Value.int .i64)) rfl (Hr.out.1.alloc _) ⟨wr.heap.size, 0, none⟩ 1 1 [.int .i64 x] rfl rfl (news_of (heap_new wr _)) (by simp [Value.oneCell']) (by simp only [maxLen]; omega) (by omega) (by simp; omega) ?_; intro v9 w9 hown9 hgrow9 hnil; clear hnil; obtain ⟨ao9, cp9, hv9, -, -, -⟩ := row_slice hown9; subst hv9)
        have hk9 := keeps_own (Hr.out.2.alloc (.cells #[.int .i64 x] 3)) hgrow9 (fun g hg => (World.ownsRow.lt Hr.out.1 g hg).1)
        have H9 := Lib.hid (And.intro hown9 hk9)
        clear hown9 hgrow9 hk9
        go_wp2_with fail
        go_roundg (a.length - (k + 1))
        case measure => have := Hg.out; omega
        case rel => exact ⟨k + 1, by omega, rfl, by go_num, by rw [Hs.out]; simpa [Own] using H9.out.1, H9.out.2⟩
    · have hkn : k = a.length := by omega
      subst hkn
      rw [List.take_length] at hrow
      have Hr := Lib.hid (And.intro hrow hkw)
      clear hrow hkw
      go_wp2_with fail
      go_ret
      exact ⟨_, rfl, Hr.out.1, Hr.out.2⟩


def BothRel (w : World) (LL : List (List Int)) (A : List Int) (ga : Nat) (oa : Obj) (gk : Nat) (u3 u13 : Value) (wr : World) : Prop :=
  ∃ k, k ≤ A.length ∧ gk = A.length - k ∧ u13 = .int .i64 k ∧ Own w.heap.size wr u3 ((A.take k).filter (inAll LL)) ∧ Keeps [] w wr ∧ wr.heap[ga]? = some oa ∧ ∀ g, u3.ownBlock = some g → g ≠ ga

def BothRel2 (wo : World) (LL : List (List Int)) (n : Int) (gk : Nat) (u6 u19 : Value) (wr : World) : Prop :=
  ∃ j, j ≤ LL.length ∧ gk = LL.length - j ∧ u19 = .int .i64 j ∧ u6 = .bool (inAll (LL.take j) n) ∧ wr = wo

theorem own_block {B : Nat} {w : World} {v : Value} {l : List Int} (h : Own B w v l) (hne : v ≠ .slice none 0 0) : ∃ g c o, v = .slice (some ⟨g, 0, none⟩) l.length c ∧ l.length ≤ c ∧ c ≤ maxLen ∧ B ≤ g ∧ w.heap[g]? = some o ∧ ∀ w' : World, w'.heap[g]? = some o → ∀ i (hi : i < l.length), w'.cell? ⟨g, i, none⟩ = some (.int .i64 l[i]) := by
  have hx := h
  obtain ⟨hl, ⟨rfl, hn⟩ | ⟨g, cap, cur, rfl, hbg, hg, hnc, hcm, hcs, htake⟩⟩ := h
  · exact absurd rfl hne
  · refine ⟨g, cap, _, rfl, hnc, hcm, hbg, hg, fun w' hw' i hi => ?_⟩
    rw [World.cell?_of_block (hw'.trans hg.symm)]
    rw [World.ownsRow.cellAt hx i (by omega)]
    simp [hi]

set_option maxRecDepth 100000 in
set_option maxHeartbeats 1000000 in
theorem bothR_spec (B : Nat) (w : World) (v : Value) (LL : List (List Int)) (h : Rows2 B w v LL) (hl : LL.flatten.length ≤ 1000) :
    Calls Tryd.prog 18 #[v] w fun e w' => ∃ v', e = .returned v' ∧ Own w.heap.size w' v' (bothL LL) ∧ Keeps [] w w' := by
  have Hf := Lib.hid h
  obtain ⟨ao, cap, rfl, hm, -, -⟩ := h.form
  unfold maxLen at hm
  have k0 : Keeps [] w (w.alloc (.cells #[] 3)) := (Keeps.refl [] w).alloc _
  have Hk0 := Lib.hid k0
  have H0 := Lib.hid (And.intro (own_made w w.heap.size 3 1 (Nat.le_refl _)) k0)
  have hal := anyL_len LL
  have Hbo := Lib.hid (show bothL LL = (anyL LL).filter (inAll LL) from rfl)
  clear h k0
  generalize bothL LL = R at Hbo ⊢
  go_enter Tryd.func18, Tryd.ntmps18
  go_wp2_with fail
  refine (anyR_spec B _ _ LL (go1 Hk0.out Hf.out) hl).mono ?_
  rintro e w1 ⟨v1, rfl, hown1, hk1⟩
  generalize anyL LL = A at hown1 hal Hbo
  by_cases hv1 : v1 = .slice none 0 0
  · subst hv1
    have hA : A = [] := by
      obtain ⟨h1, h2⟩ := hown1
      rcases h2 with ⟨-, h2⟩ | ⟨g, cap, cur, h2, -⟩
      · exact List.eq_nil_of_length_eq_zero h2
      · cases h2
    subst hA
    have H1 := Lib.hid (And.intro (go1 hk1 H0.out.1) (H0.out.2.trans hk1))
    clear hown1 hk1
    go_wp2_with fail
    go_loopg [3, 13] 0 (fun gk u3 u13 wr => u3 = .slice (some ⟨w.heap.size, 0, none⟩) 0 0 ∧ u13 = .int .i64 0 ∧ wr = w1)
    case atStart => exact ⟨rfl, rfl, rfl⟩
    case round =>
      obtain ⟨rfl, rfl, rfl⟩ := hrel
      go_wp2_with fail
      go_ret
      exact ⟨_, rfl, by rw [Hbo.out]; exact H1.out.1, H1.out.2⟩
  obtain ⟨ga, c1, oa, rfl, h1c, h1m, hga, hoa, hcells⟩ := own_block hown1 hv1
  have hne0 : w.heap.size ≠ ga := by simp at hga; omega
  have HA := Lib.hid hcells
  have H1 := Lib.hid (And.intro (go1 hk1 H0.out.1) (And.intro (H0.out.2.trans hk1) hoa))
  clear hown1 hk1 hcells hoa hv1 hga
  unfold maxLen at h1m
  go_wp2_with fail
  go_loopg [3, 13] A.length (BothRel w LL A ga oa)
  case atStart => exact ⟨0, Nat.zero_le _, rfl, rfl, H1.out.1, H1.out.2.1, H1.out.2.2, fun g hg => by simp [Value.ownBlock] at hg; omega⟩
  case round =>
    obtain ⟨k, hk, hgk, rfl, hrow, hkw, hoa, hne⟩ := hrel
    have Hg := Lib.hid hgk
    have hws := hkw.size
    clear hgk
    by_cases hlt : k < A.length
    · have d0 := HA.out wr hoa k hlt
      have la := lt_of_at hoa
      have hlt' : (k : Int) < (A.length : Int) := by omega
      have Hs := Lib.hid (filter_snoc (p := inAll LL) hlt)
      have hfl := filter_take_len (A := A) (inAll LL) k
      generalize A[k] = x at d0 Hs
      generalize (A.take k).filter (inAll LL) = Y at hrow Hs hfl
      obtain ⟨ax, cx, rfl, hxc, hxm, -⟩ := row_slice hrow
      have Hr := Lib.hid (And.intro hrow (And.intro hkw (And.intro hoa hne)))
      obtain ⟨wo, hwo⟩ : ∃ wo : World, wo = wr := ⟨_, rfl⟩
      rw [← hwo] at Hr d0 la hws
      rw [← hwo]
      clear hrow hkw hoa hne hwo
      go_wp2_with fail
      clear d0 la
      go_loopg [6, 19] LL.length (BothRel2 wo LL x)
      case atStart => exact ⟨0, Nat.zero_le _, rfl, rfl, rfl, rfl⟩
      case round =>
        obtain ⟨j, hj, hgj, rfl, rfl, rfl⟩ := hrel
        have Hgj := Lib.hid hgj
        clear hgj
        by_cases hltj : j < LL.length
        · obtain ⟨b, of, u, ea, hb, d0, hu⟩ := (Hf.out.keep Hr.out.2.1 (by simp)).at_ j hltj
          subst ea
          have hltj' : (j : Int) < (LL.length : Int) := by omega
          have Hsn := Lib.hid (all_snoc (n := x) hltj)
          generalize LL[j] = L at hu Hsn
          have Hu := Lib.hid hu
          obtain ⟨al, cl, rfl, hxl, -, -, -⟩ := hu
          unfold maxLen at hxl
          cases hin : inAll (LL.take j) x with
          | false =>
            rw [hin] at Hsn
            go_wp2_with fail
            go_roundg (LL.length - (j + 1))
            case measure => have := Hgj.out; omega
            case rel => exact ⟨j + 1, by omega, rfl, by go_num, by rw [Hsn.out]; rfl, rfl⟩
          | true =>
            rw [hin] at Hsn
            go_wp2_with fail
            refine (inR_spec B _ _ L x Hu.out).mono ?_
            rintro e w8 ⟨rfl, rfl⟩
            go_wp2_with fail
            go_roundg (LL.length - (j + 1))
            case measure => have := Hgj.out; omega
            case rel => exact ⟨j + 1, by omega, rfl, by go_num, by rw [Hsn.out]; rfl, rfl⟩
        · have hje : j = LL.length := by omega
          subst hje
          rw [List.take_length]
          cases hin : inAll LL x with
          | false =>
            rw [hin, if_neg (by simp), List.append_nil] at Hs
            go_wp2_with fail
            go_roundg (A.length - (k + 1))
            case measure => have := Hg.out; omega
            case rel => exact ⟨k + 1, by omega, rfl, by go_num, by rw [Hs.out]; exact Hr.out.1, Hr.out.2⟩
          | true =>
            rw [hin, if_pos rfl] at Hs
            go_wp2_with (at_builtin; refine own_append1 rfl (.tmp 31) (.tmp 33) 32 Tryd.underlying32 rfl w.heap.size (.slice ax Y.length cx) Y x rfl Hr.out.1 rfl (by omega) (by omega) ?_; intro ao9 cp9 w9 hown9 ht9; have H9 := Lib.hid (And.intro hown9 (And.intro (ht9.fresh Hr.out.2.1 (fun g hg => (World.ownsRow.lt Hr.out.1 g hg).1)).1 (ht9.box Hr.out.2.2.1 Hr.out.2.2.2))); clear hown9 ht9)
            go_roundg (A.length - (k + 1))
            case measure => have := Hg.out; omega
            case rel => exact ⟨k + 1, by omega, rfl, by go_num, by rw [Hs.out]; exact H9.out.1, H9.out.2⟩
    · have hkn : k = A.length := by omega
      subst hkn
      rw [List.take_length, ← Hbo.out] at hrow
      have Hr := Lib.hid (And.intro hrow hkw)
      clear hrow hkw hoa hne
      go_wp2_with fail
      go_ret
      exact ⟨_, rfl, Hr.out.1, Hr.out.2⟩
end Go.Proofs.YtpopeeiiblhbeaaDoor
