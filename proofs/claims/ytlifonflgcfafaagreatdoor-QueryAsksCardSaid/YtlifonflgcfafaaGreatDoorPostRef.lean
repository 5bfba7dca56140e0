/-
  The document's answer for package posting: Put, Any, Both, Less, walked.
  The slices are read in memory from a bound on; they are of few numbers.

  The document's answer for package posting: Any, Both, Less, walked.
  The slices are read in memory from a bound on; they are of few numbers.

  Package posting: slices.Clone of a list, meet, Both, Less, walked.
  The lists rise, and lie in memory from a bound on; they are of few numbers.
-/
import Derived.Test.YtlifonflgcfafaaGreatDoorPostBase
namespace Go.Proofs.YtlifonflgcfafaaGreatDoor
open Go Go.RowKit

def PutRel (w : World) (l : List Int) (n : Int) (gk : Nat) (u5 u6 u15 : Value) (wr : World) : Prop :=
  ∃ k, k ≤ l.length ∧ gk = l.length - k ∧ u15 = .int .i64 k ∧ u6 = .bool (putDone l n k) ∧ Own w.heap.size wr u5 (putSo l n k) ∧ Keeps [] w wr

end Go.Proofs.YtlifonflgcfafaaGreatDoor

namespace Go.Proofs.YtlifonflgcfafaaGreatDoor
open Go Go.RowKit

def AnyRel (w : World) (LL : List (List Int)) (gk : Nat) (u3 u11 : Value) (wr : World) : Prop :=
  ∃ k, k ≤ LL.length ∧ gk = LL.length - k ∧ u11 = .int .i64 k ∧ Own w.heap.size wr u3 (anyL (LL.take k)) ∧ Keeps [] w wr

def AnyRel2 (base : Nat) (wo : World) (L X : List Int) (gk : Nat) (u3 u17 : Value) (wr : World) : Prop :=
  ∃ j, j ≤ L.length ∧ gk = L.length - j ∧ u17 = .int .i64 j ∧ Own base wr u3 ((L.take j).foldl putL X) ∧ Keeps [] wo wr


def LessRel (w : World) (a b : List Int) (gk : Nat) (u5 u11 : Value) (wr : World) : Prop :=
  ∃ k, k ≤ a.length ∧ gk = a.length - k ∧ u11 = .int .i64 k ∧ Own w.heap.size wr u5 ((a.take k).filter fun n => !decide (n ∈ b)) ∧ Keeps [] w wr


def BothRel (w : World) (LL : List (List Int)) (A : List Int) (ga : Nat) (oa : Obj) (gk : Nat) (u3 u13 : Value) (wr : World) : Prop :=
  ∃ k, k ≤ A.length ∧ gk = A.length - k ∧ u13 = .int .i64 k ∧ Own w.heap.size wr u3 ((A.take k).filter (inAll LL)) ∧ Keeps [] w wr ∧ wr.heap[ga]? = some oa ∧ ∀ g, u3.ownBlock = some g → g ≠ ga

def BothRel2 (wo : World) (LL : List (List Int)) (n : Int) (gk : Nat) (u6 u19 : Value) (wr : World) : Prop :=
  ∃ j, j ≤ LL.length ∧ gk = LL.length - j ∧ u19 = .int .i64 j ∧ u6 = .bool (inAll (LL.take j) n) ∧ wr = wo

theorem own_block {B : Nat} {w : World} {v : Value} {l : List Int} (h : Own B w v l) (hne : v ≠ .slice none 0 0) : ∃ g c o, v = .slice (some ⟨g, 0, none⟩) l.length c ∧ l.length ≤ c ∧ c ≤ maxLen ∧ B ≤ g ∧ w.heap[g]? = some o ∧ ∀ w' : World, w'.heap[g]? = some o → ∀ i (hi : i < l.length), w'.cell? ⟨g, i, none⟩ = some (.int .i64 l[i]) := by
  have hx := h
  obtain ⟨hl, ⟨rfl, hn⟩ | ⟨g, cap, cur, rfl, hbg, hg, hnc, hcm, hcs, htake⟩⟩ := h
  · exact absurd rfl hne
  · refine ⟨g, cap, _, rfl, hnc, hcm, hbg, hg, fun w' hw' i hi => ?_⟩
    rw [World.cell?_of_block (hw'.trans hg.symm)]
    rw [World.ownsRow.cellAt hx i (by omega)]
    simp [hi]

end Go.Proofs.YtlifonflgcfafaaGreatDoor

namespace Go.Proofs.YtlifonflgcfafaaGreatDoor
open Go Go.RowKit

theorem ints_news {B : Nat} {w : World} {ad : Addr} {n c : Nat} {l : List Int} (h : Ints B w (.slice (some ad) n c) l) : ∀ j u, (l.map (Value.int .i64))[j]? = some u → w.cell? (ad.add j) = some u := by
  intro j u hu
  have hj : j < l.length := by
    have := (List.getElem?_eq_some_iff.1 hu).1
    simpa using this
  obtain ⟨b, off, e, hb, hc⟩ := sf_at1 h j hj
  injection e with e
  subst e
  rw [List.getElem?_map, List.getElem?_eq_getElem hj] at hu
  injection hu with hu
  subst hu
  have hadd : (⟨b, off, none⟩ : Addr).add j = ⟨b, off + j, none⟩ := by unfold Addr.add; split <;> simp_all
  rw [hadd]
  exact hc

theorem run_equalIn_slice_nilP {P : Program} (w : World) (d : Nat) (t e : TypeId) (a : Option Addr) (n c : Nat) (h : P.underlying t = some (.slice e)) :
    (Op.equalIn (d + 1) t (.slice a n c) (.slice none 0 0)).run P w = .ok a.isNone w := by
  cases a <;> simp [Op.equalIn, run_underlying h]

theorem run_eql_slice_nilP {P : Program} (w : World) (t e : TypeId) (a : Option Addr) (n c : Nat) (h : P.underlying t = some (.slice e)) :
    (binOp .eql t (.slice a n c) (.slice none 0 0)).run P w = .ok (.bool a.isNone) w := by
  simp only [binOp]
  simp [show Op.equal t (.slice a n c) (.slice none 0 0) = Op.equalIn (9999 + 1) t (.slice a n c) (.slice none 0 0) from rfl, run_equalIn_slice_nilP w 9999 t e a n c h]

set_option maxRecDepth 100000 in
set_option maxHeartbeats 1000000 in
theorem cloneL_spec (B : Nat) (w : World) (v : Value) (l : List Int) (h : Ints B w v l) (hl : l.length ≤ 1000) :
    Calls Tryz.prog 101 #[v] w fun e w' => ∃ v', e = .returned v' ∧ Own w.heap.size w' v' l ∧ Keeps [] w w' := by
  have Hf := Lib.hid h
  have qT : ∀ (w : World) (a : Option Addr) (n c : Nat), (binOp .eql 104 (.slice a n c) (.slice none 0 0)).run Tryz.prog w = .ok (.bool a.isNone) w := fun w a n c => run_eql_slice_nilP w _ _ a n c Tryz.underlying104
  obtain ⟨ao, cap, rfl, -, hlc, hnil, -⟩ := h
  cases ao with
  | none =>
    have hc := hnil rfl
    have hl0 : l = [] := List.eq_nil_of_length_eq_zero (by omega)
    subst hl0 hc
    clear hnil
    go_enter Tryz.func101, Tryz.ntmps101
    go_wp2_with fail
    go_ret
    exact ⟨_, rfl, World.ownsRow_nil _ _ _ 1, Keeps.refl [] w⟩
  | some ad =>
    clear hnil
    have k0 : Keeps [] w (w.alloc (.cells #[] 3)) := (Keeps.refl [] w).alloc _
    have H0 := Lib.hid (And.intro (own_made w w.heap.size 3 1 (Nat.le_refl _)) (And.intro k0 (go1 k0 Hf.out)))
    clear k0
    go_enter Tryz.func101, Tryz.ntmps101
    go_wp2_with (at_builtin; refine own_append rfl (.tmp 5) (.tmp 6) 104 Tryz.underlying104 rfl w.heap.size (.slice (some ⟨w.heap.size, 0, none⟩) 0 0) [] rfl H0.out.1 ad l.length cap l rfl rfl (ints_news H0.out.2.2) (by simp; omega) (by simp) ?_; intro ao9 cp9 w9 hown9 ht9; have H9 := Lib.hid (And.intro hown9 (ht9.fresh H0.out.2.1 (fun g hg => by simp [Value.ownBlock] at hg; omega)).1); clear hown9 ht9)
    go_ret
    exact ⟨_, rfl, by simpa using H9.out.1, H9.out.2⟩


def MeetRel (w : World) (a b : List Int) (gk : Nat) (u5 u6 u7 : Value) (wr : World) : Prop :=
  ∃ i k, i ≤ a.length ∧ k ≤ b.length ∧ gk = (a.length - i) + (b.length - k) ∧ u6 = .int .i64 i ∧ u7 = .int .i64 k ∧ Beside a b i k ∧ Own w.heap.size wr u5 ((a.take i).filter fun n => decide (n ∈ b)) ∧ Keeps [] w wr

set_option maxRecDepth 100000 in
set_option maxHeartbeats 1000000 in
theorem meet_spec (B : Nat) (w : World) (va vb : Value) (a b : List Int) (ha : Ints B w va a) (hb : Ints B w vb b) (hra : Rises a) (hrb : Rises b) (hl : a.length ≤ 1000) (hl2 : b.length ≤ 1000) :
    Calls Tryz.prog 108 #[va, vb] w fun e w' => ∃ v', e = .returned v' ∧ Own w.heap.size w' v' (meetL a b) ∧ Keeps [] w w' := by
  have Hf := Lib.hid (And.intro ha hb)
  obtain ⟨ao, cap, rfl, -, -, -, -⟩ := ha
  obtain ⟨bo, cbp, rfl, -, -, -, -⟩ := hb
  go_enter Tryz.func108, Tryz.ntmps108
  go_wp2_with fail
  go_loopg [5, 6, 7] (a.length + b.length) (MeetRel w a b)
  case atStart => exact ⟨0, 0, Nat.zero_le _, Nat.zero_le _, rfl, rfl, rfl, beside_zero a b, World.ownsRow_nil _ _ _ 1, Keeps.refl [] w⟩
  case round =>
    obtain ⟨i, k, hi, hk, hgk, rfl, rfl, hbes, hrow, hkw⟩ := hrel
    have Hg := Lib.hid hgk
    have hws := hkw.size
    clear hgk
    by_cases hend : i = a.length ∨ k = b.length
    · rw [meet_end hbes hi hend] at hrow
      have Hr := Lib.hid (And.intro hrow hkw)
      clear hrow hkw hbes
      have hnot : ¬ ((i : Int) < (a.length : Int)) ∨ ¬ ((k : Int) < (b.length : Int)) := by omega
      by_cases hi2 : (i : Int) < (a.length : Int)
      · have hk2 : ¬ (k : Int) < (b.length : Int) := by omega
        go_wp2_with fail
        go_ret
        exact ⟨_, rfl, Hr.out.1, Hr.out.2⟩
      · go_wp2_with fail
        go_ret
        exact ⟨_, rfl, Hr.out.1, Hr.out.2⟩
    · have hil : i < a.length := by omega
      have hkl : k < b.length := by omega
      have hil' : (i : Int) < (a.length : Int) := by omega
      have hkl' : (k : Int) < (b.length : Int) := by omega
      obtain ⟨b1, of1, ea, hb1, d1⟩ := sf_at1 (Hf.out.1.keep hkw (by simp)) i hil
      obtain ⟨b2, of2, eb, hb2, d2⟩ := sf_at1 (Hf.out.2.keep hkw (by simp)) k hkl
      subst ea eb
      have Hs := Lib.hid (meet_step (b := b) hil)
      have Hb := Lib.hid hbes
      have Hmk := Lib.hid (List.getElem_mem hkl)
      have Hin := Lib.hid (fun h => hbes.out hrb hil (.inr ⟨hkl, h⟩))
      have Hright := Lib.hid (fun h => hbes.right hra hil hkl h)
      have Hboth := Lib.hid (fun h => hbes.both hra hil hkl h)
      have hfl := filter_take_len (A := a) (fun n => decide (n ∈ b)) i
      generalize a[i] = x at d1 Hs Hin Hright Hboth
      generalize b[k] = y at d2 Hin Hright Hboth Hmk
      generalize hY : (a.take i).filter (fun n => decide (n ∈ b)) = Y at hrow Hs hfl
      have HY := Lib.hid hY
      clear hY
      obtain ⟨ax, cx, rfl, hxc, hxm, -⟩ := row_slice hrow
      have Hr := Lib.hid (And.intro hrow hkw)
      clear hrow hkw hbes
      go_wp2_with fail
      go_quiet (fail)
      have d1' : (wr.drewN nq).cell? ⟨b1, of1 + i, none⟩ = some (.int .i64 x) := d1
      have d2' : (wr.drewN nq).cell? ⟨b2, of2 + k, none⟩ = some (.int .i64 y) := d2
      have hb1' : b1 < (wr.drewN nq).heap.size := hb1
      have hb2' : b2 < (wr.drewN nq).heap.size := hb2
      have hws' : w.heap.size ≤ (wr.drewN nq).heap.size := hws
      have Hr' := Lib.hid (And.intro (show Own w.heap.size (wr.drewN nq) (.slice ax Y.length cx) Y from Hr.out.1) (Hr.out.2.drewN nq))
      clear d1 d2 hb1 hb2 hws Hr
      generalize wr.drewN nq = W at d1' d2' hb1' hb2' hws' Hr' ⊢
      by_cases hxy : x < y
      · rw [decide_eq_true hxy]
        rw [if_neg (Hin.out hxy), List.append_nil] at Hs
        clear d1' d2'
        go_wp2_with fail
        go_roundg ((a.length - (i + 1)) + (b.length - k))
        case measure => have := Hg.out; omega
        case rel => exact ⟨i + 1, k, by omega, by omega, rfl, by go_num, rfl, Hb.out.left, by rw [Hs.out]; exact Hr'.out.1, Hr'.out.2⟩
      · rw [decide_eq_false hxy]
        go_wp2_with fail
        go_quiet (fail)
        have d1 : (W.drewN nq).cell? ⟨b1, of1 + i, none⟩ = some (.int .i64 x) := d1'
        have hb1 : b1 < (W.drewN nq).heap.size := hb1'
        have hws : w.heap.size ≤ (W.drewN nq).heap.size := hws'
        have Hr := Lib.hid (And.intro (show Own w.heap.size (W.drewN nq) (.slice ax Y.length cx) Y from Hr'.out.1) (Hr'.out.2.drewN nq))
        clear d1' d2' hb1' hb2' hws' Hr'
        generalize W.drewN nq = W2 at d1 hb1 hws Hr ⊢
        by_cases hyx : y < x
        · rw [decide_eq_true hyx]
          clear d1
          go_wp2_with fail
          go_roundg ((a.length - i) + (b.length - (k + 1)))
          case measure => have := Hg.out; omega
          case rel => exact ⟨i, k + 1, by omega, by omega, rfl, rfl, by go_num, Hright.out hyx, by rw [HY.out]; exact Hr.out.1, Hr.out.2⟩
        · rw [decide_eq_false hyx]
          have hexy : y = x := by omega
          have hb' := Hboth.out hexy
          subst hexy
          have Hb' := Lib.hid hb'
          rw [if_pos Hmk.out] at Hs
          clear hb'
          go_wp2_with (at_builtin; refine own_append1 rfl (.tmp 18) (.tmp 23) 104 Tryz.underlying104 rfl w.heap.size (.slice ax Y.length cx) Y _ rfl Hr.out.1 rfl (by omega) (by omega) ?_; intro ao9 cp9 w9 hown9 ht9; have H9 := Lib.hid (And.intro hown9 (ht9.fresh Hr.out.2 (fun g hg => (World.ownsRow.lt Hr.out.1 g hg).1)).1); clear hown9 ht9)
          go_roundg ((a.length - (i + 1)) + (b.length - (k + 1)))
          case measure => have := Hg.out; omega
          case rel => exact ⟨i + 1, k + 1, by omega, by omega, rfl, by go_num, by go_num, Hb'.out, by rw [Hs.out]; exact H9.out.1, H9.out.2⟩


def BothPRel (w : World) (LL : List (List Int)) (l : List Int) (gk : Nat) (u3 u16 : Value) (wr : World) : Prop :=
  ∃ k, k ≤ LL.length ∧ gk = LL.length - k ∧ u16 = .int .i64 k ∧ Own w.heap.size wr u3 ((LL.take k).foldl meetL l) ∧ Keeps [] w wr

theorem meet_fold_len : ∀ (LL : List (List Int)) (l : List Int), (LL.foldl meetL l).length ≤ l.length
  | [], _ => Nat.le_refl _
  | x :: LL, l => Nat.le_trans (meet_fold_len LL (meetL l x)) (meetL_len l x)

theorem meet_snoc {LL : List (List Int)} {l : List Int} {k : Nat} (hk : k < LL.length) : (LL.take (k + 1)).foldl meetL l = meetL ((LL.take k).foldl meetL l) LL[k] := by
  rw [List.take_succ_eq_append_getElem hk, List.foldl_append]
  rfl

set_option maxRecDepth 100000 in
set_option maxHeartbeats 1000000 in
theorem both_spec (B : Nat) (w : World) (v : Value) (LL : List (List Int)) (h : Rows2 B w v LL) (hr : ∀ l ∈ LL, Rises l) (hl : ∀ l ∈ LL, l.length ≤ 1000) (hB : B ≤ w.heap.size) :
    Calls Tryz.prog 71 #[v] w fun e w' => ∃ v', e = .returned v' ∧ Own w.heap.size w' v' (bothP LL) ∧ Keeps [] w w' := by
  have Hf := Lib.hid h
  obtain ⟨ao, cap, rfl, hm, hmc, -⟩ := h.form
  unfold maxLen at hm
  cases LL with
  | nil =>
    go_enter Tryz.func71, Tryz.ntmps71
    go_wp2_with fail
    go_ret
    exact ⟨_, rfl, World.ownsRow_nil _ _ _ 1, Keeps.refl [] w⟩
  | cons l LL =>
    obtain ⟨b, of, u, ea, hb, d0, hu⟩ := h.at_ 0 (by simp)
    subst ea
    rw [Nat.add_zero] at d0
    have hu' : Ints B w u l := hu
    have hll := hl l (by simp)
    have hrl := hr l (by simp)
    clear hu
    have hne : ¬ (((l :: LL).length : Nat) : Int) = 0 := by simp only [List.length_cons]; omega
    have hle : (((l :: LL).length : Nat) : Int) = (LL.length : Int) + 1 := by simp
    have Hl := Lib.hid (And.intro hr hl)
    simp only [List.length_cons] at hm hmc hne
    go_enter Tryz.func71, Tryz.ntmps71
    go_wp2_with fail
    refine (cloneL_spec B _ _ l hu' hll).mono ?_
    rintro e w1 ⟨v1, rfl, hown1, hk1⟩
    have H1 := Lib.hid (And.intro hown1 hk1)
    clear hown1 hk1 d0 hu' h hr hl
    go_wp2_with fail
    · have hL0 : LL = [] := List.eq_nil_of_length_eq_zero (by omega)
      subst hL0
      go_loopg [3, 16] 0 (fun gk u3 u16 wr => u3 = v1 ∧ u16 = .int .i64 0 ∧ wr = w1)
      case atStart => exact ⟨rfl, rfl, rfl⟩
      case round =>
        obtain ⟨rfl, rfl, rfl⟩ := hrel
        go_wp2_with fail
        go_ret
        exact ⟨_, rfl, H1.out.1, H1.out.2⟩
    · go_loopg [3, 16] LL.length (BothPRel w LL l)
      case atStart => exact ⟨0, Nat.zero_le _, rfl, rfl, H1.out.1, H1.out.2⟩
      case round =>
        obtain ⟨k, hk, hgk, rfl, hrow, hkw⟩ := hrel
        have Hg := Lib.hid hgk
        have hws := hkw.size
        clear hgk
        by_cases hlt : k < LL.length
        · obtain ⟨b2, of2, u2, ea, hb2, d0, hu2⟩ := (Hf.out.keep hkw (by simp)).at_ (k + 1) (by simp; omega)
          injection ea with ea
          injection ea with e1 e2 _
          subst e1 e2
          have d1 : wr.cell? ⟨b, of + 1 + k, none⟩ = some u2 := by rw [← d0]; congr 2; omega
          have hu3 : Ints B wr u2 LL[k] := hu2
          have hlt' : (k : Int) < (LL.length : Int) := by omega
          have Hs := Lib.hid (And.intro (meet_snoc (l := l) hlt) (And.intro (Hl.out.1 LL[k] (List.mem_cons_of_mem _ (List.getElem_mem hlt))) (Hl.out.2 LL[k] (List.mem_cons_of_mem _ (List.getElem_mem hlt)))))
          have Hx := Lib.hid (And.intro (meet_fold (LL.take k) l hrl).1 (meet_fold_len (LL.take k) l))
          generalize LL[k] = L at hu3 Hs
          generalize (LL.take k).foldl meetL l = X at hrow Hs Hx
          have Hr := Lib.hid (And.intro hrow (And.intro hkw hu3))
          clear hrow hkw hu2 hu3 d0
          go_wp2_with fail
          refine (meet_spec B _ _ _ X L ((Hr.out.1.ints).low (by omega)) Hr.out.2.2 Hx.out.1 Hs.out.2.1 (by have := Hx.out.2; omega) Hs.out.2.2).mono ?_
          rintro e w8 ⟨v8, rfl, hown8, hk8⟩
          have H8 := Lib.hid (And.intro (row_base (b' := w.heap.size) hown8 (by omega)) (Hr.out.2.1.trans hk8))
          clear hown8 hk8 d1
          go_wp2_with fail
          go_roundg (LL.length - (k + 1))
          case measure => have := Hg.out; omega
          case rel => exact ⟨k + 1, by omega, rfl, by go_num, by rw [Hs.out.1]; exact H8.out.1, H8.out.2⟩
        · have hkn : k = LL.length := by omega
          subst hkn
          rw [List.take_length] at hrow
          have Hr := Lib.hid (And.intro hrow hkw)
          clear hrow hkw
          go_wp2_with fail
          go_ret
          exact ⟨_, rfl, Hr.out.1, Hr.out.2⟩


def LessPRel (w : World) (a b : List Int) (gk : Nat) (u5 u6 u11 : Value) (wr : World) : Prop :=
  ∃ i k, i ≤ a.length ∧ k ≤ b.length ∧ gk = a.length - i ∧ u11 = .int .i64 i ∧ u6 = .int .i64 k ∧ Beside a b i k ∧ Own w.heap.size wr u5 ((a.take i).filter fun n => !decide (n ∈ b)) ∧ Keeps [] w wr

def LessPRel2 (wo : World) (a b : List Int) (i : Nat) (gk : Nat) (u6 : Value) (wr : World) : Prop :=
  ∃ k, k ≤ b.length ∧ gk = b.length - k ∧ u6 = .int .i64 k ∧ Beside a b i k ∧ wr = wo

theorem Beside.outL {a b : List Int} {i k : Nat} (h : Beside a b i k) (hb : Rises b) (hi : i < a.length) (hk : k ≤ b.length) (hge : ∀ hk : k < b.length, a[i] < b[k]) : a[i] ∉ b := by
  by_cases hkl : k < b.length
  · exact h.out hb hi (.inr ⟨hkl, hge hkl⟩)
  · exact h.out hb hi (.inl (by omega))

set_option maxRecDepth 100000 in
set_option maxHeartbeats 1000000 in
theorem less_spec (B : Nat) (w : World) (va vb : Value) (a b : List Int) (ha : Ints B w va a) (hb : Ints B w vb b) (hra : Rises a) (hrb : Rises b) (hl : a.length ≤ 1000) (hl2 : b.length ≤ 1000) :
    Calls Tryz.prog 70 #[va, vb] w fun e w' => ∃ v', e = .returned v' ∧ Own w.heap.size w' v' (lessL a b) ∧ Keeps [] w w' := by
  have Hf := Lib.hid (And.intro ha hb)
  obtain ⟨ao, cap, rfl, -, -, -, -⟩ := ha
  obtain ⟨bo, cbp, rfl, -, -, -, -⟩ := hb
  go_enter Tryz.func70, Tryz.ntmps70
  go_wp2_with fail
  go_loopg [5, 6, 11] a.length (LessPRel w a b)
  case atStart => exact ⟨0, 0, Nat.zero_le _, Nat.zero_le _, rfl, rfl, rfl, beside_zero a b, World.ownsRow_nil _ _ _ 1, Keeps.refl [] w⟩
  case round =>
    obtain ⟨i, k, hi, hk, hgk, rfl, rfl, hbes, hrow, hkw⟩ := hrel
    have Hg := Lib.hid hgk
    have hws := hkw.size
    clear hgk
    by_cases hil : i < a.length
    · have hil' : (i : Int) < (a.length : Int) := by omega
      obtain ⟨b1, of1, ea, hb1, d1⟩ := sf_at1 (Hf.out.1.keep hkw (by simp)) i hil
      subst ea
      have Hs := Lib.hid (less_step (b := b) hil)
      have Hb := Lib.hid hbes
      have Hai := Lib.hid (fun (k : Nat) (h : Beside a b i k) (hk : k ≤ b.length) => h.outL hrb hil hk)
      have Hright := Lib.hid (fun (k : Nat) (h : Beside a b i k) (hkl : k < b.length) (hx : b[k] < a[i]) => h.right hra hil hkl hx)
      have hfl := filter_take_len (A := a) (fun n => !decide (n ∈ b)) i
      obtain ⟨x, hx⟩ : ∃ x, x = a[i] := ⟨_, rfl⟩
      rw [← hx] at d1 Hs Hai Hright
      generalize (a.take i).filter (fun n => !decide (n ∈ b)) = Y at hrow Hs hfl
      obtain ⟨ax, cx, rfl, hxc, hxm, -⟩ := row_slice hrow
      have Hr := Lib.hid (And.intro hrow hkw)
      obtain ⟨wo, hwo⟩ : ∃ wo : World, wo = wr := ⟨_, rfl⟩
      rw [← hwo] at Hr d1 hb1 hws
      rw [← hwo]
      clear hrow hkw hbes hwo hx
      go_wp2_with fail
      clear d1 hb1
      go_loopg [6] (b.length - k) (LessPRel2 wo a b i)
      case atStart => exact ⟨k, hk, rfl, rfl, Hb.out, rfl⟩
      case round =>
        clear hk Hb
        obtain ⟨k, hk, hgk2, rfl, hb2, rfl⟩ := hrel
        have Hgk := Lib.hid hgk2
        have Hb := Lib.hid hb2
        clear hgk2 hb2
        by_cases hkl : k < b.length
        · have hkl' : (k : Int) < (b.length : Int) := by omega
          obtain ⟨b2, of2, eb, hb2, d2⟩ := sf_at1 (Hf.out.2.keep Hr.out.2 (by simp)) k hkl
          subst eb
          have Hr2 := Lib.hid (Hright.out k Hb.out hkl)
          have Ho := Lib.hid (Hai.out k Hb.out hk)
          have Hm := Lib.hid (List.getElem_mem hkl)
          obtain ⟨y, hy⟩ : ∃ y, y = b[k] := ⟨_, rfl⟩
          have hout : x < y → x ∉ b := fun h => Ho.out (fun _ => by rw [← hy]; exact h)
          rw [← hy] at d2 Hr2 Hm
          have Hout := Lib.hid hout
          have hky : ¬ (k : Int) = (b.length : Int) := by omega
          clear hy hout Ho
          by_cases hyx : y < x
          · go_wp2_with fail
            go_roundg (b.length - (k + 1))
            case measure => have := Hgk.out; omega
            case rel => exact ⟨k + 1, by omega, rfl, by go_num, Hr2.out hyx, rfl⟩
          · by_cases hne : y = x
            · subst hne
              rw [if_pos Hm.out, List.append_nil] at Hs
              go_wp2_with fail
              go_roundg (a.length - (i + 1))
              case measure => have := Hg.out; omega
              case rel => exact ⟨i + 1, k, by omega, by omega, rfl, by go_num, rfl, Hb.out.left, by rw [Hs.out]; exact Hr.out.1, Hr.out.2⟩
            · rw [if_neg (Hout.out (by omega))] at Hs
              have hne2 : (y != x) = true := by simp [hne]
              go_wp2_with (at_builtin; refine own_append1 rfl (.tmp 41) (.tmp 43) 104 Tryz.underlying104 rfl w.heap.size (.slice ax Y.length cx) Y _ rfl Hr.out.1 rfl (by omega) (by omega) ?_; intro ao9 cp9 w9 hown9 ht9; have H9 := Lib.hid (And.intro hown9 (ht9.fresh Hr.out.2 (fun g hg => (World.ownsRow.lt Hr.out.1 g hg).1)).1); clear hown9 ht9)
              go_roundg (a.length - (i + 1))
              case measure => have := Hg.out; omega
              case rel => exact ⟨i + 1, k, by omega, by omega, rfl, by go_num, rfl, Hb.out.left, by rw [Hs.out]; exact H9.out.1, H9.out.2⟩
        · have hke : k = b.length := by omega
          subst hke
          rw [if_neg (Hai.out _ Hb.out hk (fun h => absurd h (Nat.lt_irrefl _)))] at Hs
          go_wp2_with (at_builtin; refine own_append1 rfl (.tmp 41) (.tmp 43) 104 Tryz.underlying104 rfl w.heap.size (.slice ax Y.length cx) Y _ rfl Hr.out.1 rfl (by omega) (by omega) ?_; intro ao9 cp9 w9 hown9 ht9; have H9 := Lib.hid (And.intro hown9 (ht9.fresh Hr.out.2 (fun g hg => (World.ownsRow.lt Hr.out.1 g hg).1)).1); clear hown9 ht9)
          go_roundg (a.length - (i + 1))
          case measure => have := Hg.out; omega
          case rel => exact ⟨i + 1, b.length, by omega, by omega, rfl, by go_num, rfl, Hb.out.left, by rw [Hs.out]; exact H9.out.1, H9.out.2⟩
    · have hkn : i = a.length := by omega
      subst hkn
      rw [List.take_length] at hrow
      have Hr := Lib.hid (And.intro hrow hkw)
      clear hrow hkw
      go_wp2_with fail
      go_ret
      exact ⟨_, rfl, Hr.out.1, Hr.out.2⟩
end Go.Proofs.YtlifonflgcfafaaGreatDoor
