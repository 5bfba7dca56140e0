/-
  Package label at one pair: Parse of the text a=1, a range over strings.SplitSeq, walked.
  The library's variable internal/bytealg.MaxLen holds some number.
-/
import Derived.Test.YtejfigbjaiealaaGreatDoorLabel1M
import Derived.RangeFuncNested
import Derived.RangeFuncBox
import Derived.RangeFuncBound
import Derived.RangeFuncCalls
import Derived.RangeFuncLeaves
import Derived.Shelf.Abstract
import Derived.Shelf.AbstractIn
import Derived.Shelf.RegionOpen
import Derived.OwnWalkIn
import Derived.TacticsInMore
import Derived.LoopNIn
import Derived.LoopIn
import Derived.Maps.AppendAt
namespace Go.Proofs.YtejfigbjaiealaaGreatDoor
open Go Go.RowKit Go.Shelf

attribute [local go_sem] Oper.semAt_some
/-- The library's variable internal/bytealg.MaxLen holds some number. -/
def LibVar (w : World) : Prop := ∃ m, w.cell? ⟨1, 0, none⟩ = some (.int .i64 m)

theorem LibVar.lt {w : World} (h : LibVar w) : 1 < w.heap.size := by
  obtain ⟨m, hm⟩ := h
  exact World.block_lt_of_cell? w _ hm

theorem LibVar.keep {w w' : World} {S : List Nat} (h : LibVar w) (k : Keeps S w w') (hS : 1 ∉ S) : LibVar w' := by
  have hl := h.lt
  obtain ⟨m, hm⟩ := h
  exact ⟨m, (k.cell hl hS).trans hm⟩

instance go1LibVar {w w' : World} : Go1 w w' (LibVar w) (LibVar w') := ⟨fun k h => h.keep k (by simp)⟩


set_option maxRecDepth 100000 in
set_option maxHeartbeats 1000000 in
theorem split0_spec (w : World) (s sep : ByteArray) :
    Calls Tryz.prog 68 #[.string s, .string sep, .int .i64 0] w fun e w' => e = .returned (.func (.func 89) #[] #[.pointer (some ⟨w.heap.size + 1, 0, none⟩), .pointer (some ⟨w.heap.size, 0, none⟩), .pointer (some ⟨w.heap.size + 2, 0, none⟩)]) ∧
      w' = ((w.alloc (.cells #[.string s] 9)).alloc (.cells #[.string sep] 9)).alloc (.cells #[.int .i64 0] 3) := by
  go_enter Tryz.func68, Tryz.ntmps68
  go_wp2_with fail
  go_ret
  exact ⟨rfl, rfl⟩

set_option maxRecDepth 100000 in
set_option maxHeartbeats 1000000 in
theorem split_spec (w : World) (s sep : ByteArray) :
    Calls Tryz.prog 48 #[.string s, .string sep] w fun e w' => e = .returned (.func (.func 89) #[] #[.pointer (some ⟨w.heap.size + 1, 0, none⟩), .pointer (some ⟨w.heap.size, 0, none⟩), .pointer (some ⟨w.heap.size + 2, 0, none⟩)]) ∧
      w' = ((w.alloc (.cells #[.string s] 9)).alloc (.cells #[.string sep] 9)).alloc (.cells #[.int .i64 0] 3) := by
  go_enter Tryz.func48, Tryz.ntmps48
  go_wp2_with fail
  refine (split0_spec _ s sep).mono ?_
  rintro e w1 ⟨rfl, rfl⟩
  go_wp2_with fail
  go_ret
  exact ⟨rfl, rfl⟩


set_option maxRecDepth 100000 in
set_option maxHeartbeats 2000000 in
/-- A text without the separator: itself, once. -/
theorem split1_in (n : Nat) (hn : 1 ≤ n) (l b1 b2 b3 : Nat) (s : ByteArray) (m : Int) (hs : s.size < 4294967281) (hx : Lib.index s.data.toList [44] = -1) (Kp : World → World → Prop) (J Jx : List Unit → World → Prop)
    (hY : ∀ pre x W, J pre W → pre.length < 1 → YieldAt Fence.wide (n - 1) Tryz.prog l #[.string s] W fun e W' =>
      (e = .returned (.bool true) ∧ J (pre ++ [x]) W' ∧ Kp W W') ∨ (e = .returned (.bool false) ∧ Jx (pre ++ [x]) W'))
    (W : World) (h1 : W.cell? ⟨b1, 0, none⟩ = some (.string ⟨#[44]⟩)) (h2 : W.cell? ⟨b2, 0, none⟩ = some (.string s)) (h3 : W.cell? ⟨b3, 0, none⟩ = some (.int .i64 0)) (hm : W.cell? ⟨1, 0, none⟩ = some (.int .i64 m)) (h0 : J [] W) :
    CallsIn Fence.wide n Tryz.prog 89 #[.func (.yield l) #[] #[], .pointer (some ⟨b1, 0, none⟩), .pointer (some ⟨b2, 0, none⟩), .pointer (some ⟨b3, 0, none⟩)] W fun e W' => (∃ v, e = .returned v) ∧
      ((∃ ys, ys = [()] ∧ J ys W') ∨ (∃ pre, pre = [()] ∧ Jx pre W')) := by
  have Hi := Tryz.strings_Index s ⟨#[44]⟩ m W hs hm
  rw [show (⟨#[44]⟩ : ByteArray).data.toList = [44] from rfl, hx] at Hi
  have HI := Lib.hid Hi
  clear Hi
  have hneg : (-1 : Int) < 0 := by decide
  obtain ⟨fn, tmps, assign, body, hy, hR⟩ := hY [] () W h0 (by simp)
  refine callsIn_of_wp Tryz.func89 rfl trivial ?_ rfl
  simp only [Tryz.ntmps89, List.size_toArray, List.length_cons, List.length_nil, Nat.reduceAdd, Nat.reduceSub, Array.replicate_succ, Array.replicate_zero, List.push_toArray, List.append_toArray, List.nil_append, List.cons_append]
  gi_wp2
  gi_loopw [7] (fun _ wr => wr = W) (fun _ _ => 0)
  case atStart => rfl
  case round =>
    subst hrel
    gi_wp2
    refine ⟨trivial, (callsIn_wide.2 HI.out).mono ?_⟩
    rintro e w' ⟨rfl, rfl⟩
    gi_wp2
    refine hR.mono ?_
    rintro e W1 (⟨rfl, hJ1, _⟩ | ⟨rfl, hx1⟩)
    · gi_wp2
      go_end0
      exact ⟨⟨_, rfl⟩, .inl ⟨[()], rfl, hJ1⟩⟩
    · gi_wp2
      go_end0
      exact ⟨⟨_, rfl⟩, .inr ⟨[()], rfl, hx1⟩⟩

theorem split1_stops (n : Nat) (hn : 1 ≤ n) (Kp : World → World → Prop) (b1 b2 b3 : Nat) (s : ByteArray) (hs : s.size < 4294967281) (hx : Lib.index s.data.toList [44] = -1) (w : World) (hv : LibVar w)
    (h1 : w.cell? ⟨b1, 0, none⟩ = some (.string ⟨#[44]⟩)) (h2 : w.cell? ⟨b2, 0, none⟩ = some (.string s)) (h3 : w.cell? ⟨b3, 0, none⟩ = some (.int .i64 0)) :
    SeqStopsK Fence.wide n Tryz.prog 89 #[.pointer (some ⟨b1, 0, none⟩), .pointer (some ⟨b2, 0, none⟩), .pointer (some ⟨b3, 0, none⟩)] (fun _ : Unit => #[Value.string s]) Kp (fun ys => ys = [()]) (fun pre => pre = [()]) 1 w := fun l J Jx W hW _ _ hY h0 => by
  obtain ⟨m, hm⟩ := hv
  exact split1_in n hn l b1 b2 b3 s m hs hx Kp J Jx hY W ((hW.cell (p := ⟨b1, 0, none⟩) (World.block_lt_of_cell? w _ h1)).trans h1) ((hW.cell (p := ⟨b2, 0, none⟩) (World.block_lt_of_cell? w _ h2)).trans h2) ((hW.cell (p := ⟨b3, 0, none⟩) (World.block_lt_of_cell? w _ h3)).trans h3)
    ((hW.cell (p := ⟨1, 0, none⟩) (World.block_lt_of_cell? w _ hm)).trans hm) h0


def Parse1Post (w : World) (e : Ending) (w' : World) : Prop := ∃ v, e = .returned (.tuple #[v, .int .i64 0]) ∧ Set1 w.heap.size w' v ∧ Keeps [] w w'

def P1Rows (s : Nat) (pre : List Unit) (W : World) : Prop := ∃ v, Boxed W (s + 1 + 1) 58 v ∧ W.ownsRow (s + 1 + 1) 64 2 v pre.length (pre.flatMap fun _ => [.string ⟨#[97]⟩, .string ⟨#[49]⟩]) ∧ True

def cutA : List UInt8 × List UInt8 × Bool := ([97], [49], true)

set_option maxRecDepth 100000 in
set_option maxHeartbeats 2000000 in
theorem parse1_spec (w : World) (hv : LibVar w) :
    Calls Tryz.prog 28 #[.string ⟨#[97, 61, 49]⟩] w (Parse1Post w) := by
  obtain ⟨ip, hip, hz0, hz1, hz2⟩ := info_parts infoPair
  obtain ⟨s, hs⟩ : ∃ s, s = w.heap.size := ⟨_, rfl⟩
  have kw : Keeps [] w ((((((w.alloc (.cells #[.slice none 0 0] 62)).alloc (.cells #[.int .i64 0] 66)).alloc (.cells #[.slice none 0 0] 58)).alloc (.cells #[.string ⟨#[97, 61, 49]⟩] 9)).alloc (.cells #[.string ⟨#[44]⟩] 9)).alloc (.cells #[.int .i64 0] 3)) := ((((((Keeps.refl [] w).alloc _).alloc _).alloc _).alloc _).alloc _).alloc _
  have n1 := new5 w (.cells #[.slice none 0 0] 62) (.cells #[.int .i64 0] 66) (.cells #[.slice none 0 0] 58) (.cells #[.string ⟨#[97, 61, 49]⟩] 9) (.cells #[.string ⟨#[44]⟩] 9)
  have n6 := heap_new (((((w.alloc (.cells #[.slice none 0 0] 62)).alloc (.cells #[.int .i64 0] 66)).alloc (.cells #[.slice none 0 0] 58)).alloc (.cells #[.string ⟨#[97, 61, 49]⟩] 9)).alloc (.cells #[.string ⟨#[44]⟩] 9)) (.cells #[.int .i64 0] 3)
  have k6 : Keeps [] (((((w.alloc (.cells #[.slice none 0 0] 62)).alloc (.cells #[.int .i64 0] 66)).alloc (.cells #[.slice none 0 0] 58)).alloc (.cells #[.string ⟨#[97, 61, 49]⟩] 9)).alloc (.cells #[.string ⟨#[44]⟩] 9)) ((((((w.alloc (.cells #[.slice none 0 0] 62)).alloc (.cells #[.int .i64 0] 66)).alloc (.cells #[.slice none 0 0] 58)).alloc (.cells #[.string ⟨#[97, 61, 49]⟩] 9)).alloc (.cells #[.string ⟨#[44]⟩] 9)).alloc (.cells #[.int .i64 0] 3)) := (Keeps.refl [] _).alloc _
  have nn := go1 k6 n1
  have hsz : (((((w.alloc (.cells #[.slice none 0 0] 62)).alloc (.cells #[.int .i64 0] 66)).alloc (.cells #[.slice none 0 0] 58)).alloc (.cells #[.string ⟨#[97, 61, 49]⟩] 9)).alloc (.cells #[.string ⟨#[44]⟩] 9)).heap.size = w.heap.size + 1 + 1 + 1 + 2 := by simp
  have hsz6 : ((((((w.alloc (.cells #[.slice none 0 0] 62)).alloc (.cells #[.int .i64 0] 66)).alloc (.cells #[.slice none 0 0] 58)).alloc (.cells #[.string ⟨#[97, 61, 49]⟩] 9)).alloc (.cells #[.string ⟨#[44]⟩] 9)).alloc (.cells #[.int .i64 0] 3)).heap.size = w.heap.size + 6 := by simp
  rw [hsz] at n6
  have hlv := go1 kw hv
  have hgl := hv.lt
  refine (callsIn_wide (n := 6)).1 ?_
  refine callsIn_of_wp_marks Tryz.func28 rfl trivial ?_ rfl
  simp only [Tryz.ntmps28, List.size_toArray, List.length_cons, List.length_nil, Nat.reduceAdd, Nat.reduceSub, Array.replicate_succ, Array.replicate_zero, List.push_toArray, List.append_toArray, List.nil_append, List.cons_append]
  have H0 := Lib.hid (And.intro kw (And.intro nn (And.intro n6 (And.intro hsz6 hlv))))
  clear kw n1 n6 k6 nn hsz hsz6 hlv hv
  gi_wp2
  refine ⟨trivial, (callsIn_wide.2 (split_spec _ ⟨#[97, 61, 49]⟩ ⟨#[44]⟩)).mono ?_⟩
  rintro e w1 ⟨rfl, rfl⟩
  gi_wp2
  generalize (((((w.alloc (.cells #[.slice none 0 0] 62)).alloc (.cells #[.int .i64 0] 66)).alloc (.cells #[.slice none 0 0] 58)).alloc (.cells #[.string ⟨#[97, 61, 49]⟩] 9)).alloc (.cells #[.string ⟨#[44]⟩] 9)).alloc (.cells #[.int .i64 0] 3) = W6 at H0 ⊢
  rw [← hs] at H0 ⊢
  have hS6 := H0.out.2.2.2.1
  rw [← hs] at hgl
  have HS := Lib.hid hs
  clear hs
  have hx : Lib.index [97, 61, 49] [44] = -1 := by decide +kernel
  refine wpIn_rangeFunc_ownG rfl (by omega) (gf := 89) (lb := #[.pointer (some ⟨s + 1 + 1 + 1 + 1, 0, none⟩), .pointer (some ⟨s + 1 + 1 + 1, 0, none⟩), .pointer (some ⟨s + 1 + 1 + 1 + 2, 0, none⟩)]) rfl trivial (enters_of Tryz.func89 (by kernel_rfl) rfl)
    (split1_stops 5 (by omega) (Below (s + 1 + 1)) (s + 1 + 1 + 1 + 1) (s + 1 + 1 + 1) (s + 1 + 1 + 1 + 2) ⟨#[97, 61, 49]⟩ (by decide) hx W6 H0.out.2.2.2.2 (by rw [cells_at H0.out.2.1.2.2.2.2]; rfl) (by rw [cells_at H0.out.2.1.2.2.2.1]; rfl) (by rw [cells_at H0.out.2.2.1]; rfl))
    belowK_t (belowK_b (by omega)) (Below.refl _ _) (fun _ => rfl)
    (fun pre W => P1Rows s pre W ∧ Below (s + 1 + 1) W6 W)
    (fun _ _ _ => False)
    (OwnFrom.and (Own.from (holdsRow_own (s + 1 + 1) (s + 1 + 1) 58 64 2 (fun pre : List Unit => pre.length) (fun pre => pre.flatMap fun _ => [.string ⟨#[97]⟩, .string ⟨#[49]⟩]) (fun _ _ => True)) _) (ownFrom_below (by omega) (by omega)))
    (fun _ _ _ _ _ hs _ _ => hs)
    ⟨⟨.slice none 0 0, H0.out.2.1.2.2.1, World.ownsRow_nil _ _ _ 2, trivial⟩, Below.refl _ _⟩
    (fun _ => { tmps := #[.string ⟨#[97, 61, 49]⟩, undef, .pointer (some ⟨s, 0, none⟩), .pointer (some ⟨s + 1, 0, none⟩), .pointer (some ⟨s + 1 + 1, 0, none⟩), .string ⟨#[97, 61, 49]⟩, undef, undef, undef, undef, undef, .string ⟨#[97, 61, 49]⟩,
          .func (.func 89) #[] #[.pointer (some ⟨s + 1 + 1 + 1 + 1, 0, none⟩), .pointer (some ⟨s + 1 + 1 + 1, 0, none⟩), .pointer (some ⟨s + 1 + 1 + 1 + 2, 0, none⟩)], .string ⟨#[97, 61, 49]⟩,
          undef, undef, undef, undef, undef, undef, undef, undef, undef, undef, undef, undef, undef, undef, undef, undef, undef, undef, undef, undef, undef, undef, undef], defers := [] }) ?assign ?body ?done ?stop
  case assign =>
    intro l x W K hK
    gi_wp2
    exact hK
  case body =>
    rintro l pre x W ⟨⟨v, hbv, hrow, -⟩, hB⟩ hlt
    obtain rfl : pre = [] := List.eq_nil_of_length_eq_zero (by omega)
    have hvn : v = .slice none 0 0 ∨ ∃ g c, v = .slice (some ⟨g, 0, none⟩) 0 c := by
      obtain ⟨_, ⟨rfl, _⟩ | ⟨g, c, cur, rfl, _⟩⟩ := hrow
      · exact .inl rfl
      · exact .inr ⟨g, c, rfl⟩
    have hc := hbv.cell
    obtain ⟨m, hm⟩ : LibVar W := by
      obtain ⟨m, hm⟩ := H0.out.2.2.2.2
      refine ⟨m, (hB.cell (p := ⟨1, 0, none⟩) ?_).trans hm⟩
      show 1 < s + 1 + 1
      omega
    have Hcut := Lib.hid (Tryz.strings_Cut ⟨#[97, 61, 49]⟩ ⟨#[61]⟩ m W (by decide) hm)
    gi_wp2
    refine ⟨trivial, (CallsIn.inRound l (callsIn_wide.2 Hcut.out)).mono ?_⟩
    rintro e w2 ⟨rfl, nq, rfl⟩
    have hcut : Lib.cut (⟨#[97, 61, 49]⟩ : ByteArray).data.toList (⟨#[61]⟩ : ByteArray).data.toList = ([97], [49], true) := by decide +kernel
    rw [hcut]
    have hb2 : Boxed (W.drewN nq) (s + 1 + 1) 58 v := hbv
    have hr2 : (W.drewN nq).ownsRow (s + 1 + 1) 64 2 v 0 [] := hrow
    have hB2 : Below (s + 1 + 1) W6 (W.drewN nq) := ⟨hB.os, hB.tape, hB.output, hB.size, hB.block⟩
    have hk2 : KeepsOthers W (W.drewN nq) := ⟨Nat.le_refl _, fun _ _ h _ => h⟩
    have hkb : Below (s + 1 + 1) W (W.drewN nq) := ⟨rfl, rfl, rfl, Nat.le_refl _, fun _ _ => rfl⟩
    have HX := Lib.hid (And.intro hb2 (And.intro hr2 (And.intro hB2 (And.intro hk2 hkb))))
    clear hc hm hbv hrow hB hb2 hr2 hB2 hk2 hkb hcut
    generalize W.drewN nq = W2 at HX ⊢
    have hc := HX.out.1.cell
    have hsz2 := HX.out.2.2.1.size
    gi_wp2_with (gi_at_builtin; refine wpListIn_append_own _ rfl _ _ 58 rfl (s + 1 + 1) 64 ip _ 2 32 Tryz.underlying58 hip hz0 hz1 hz2 rfl (by decide) v 0 [] rfl (HX.out.2.1.alloc _) ⟨W2.heap.size, 0, none⟩ 1 1 [.string ⟨#[97]⟩, .string ⟨#[49]⟩] rfl rfl (news_of (heap_new W2 _)) (by simp [Value.oneCell']) (by decide) (by decide) (by simp; omega) ?_; intro v' w1 hown' hgrow _; obtain ⟨g', cap', rfl⟩ := ownsRow_succ hown'; obtain ⟨hv1, hv2, hr3, hk3, hb3⟩ := HX.out.1.appended (by decide) HX.out.2.1 (by omega) (Nat.le_refl _) hown' hgrow; have hc1 := hv1.cell; have hf1 := hv1.frozen)
    exact ⟨(HX.out.2.2.2.1.trans hk3).from _, HX.out.2.2.2.2.trans hb3, ⟨_, hv2, by simpa using hr3, trivial⟩, HX.out.2.2.1.trans hb3⟩
  case done =>
    rintro D ys W hD rfl ⟨⟨v, hbv, hrow, -⟩, hB⟩ hK
    have hs1 := set1_of (by simpa using hrow)
    have hc := hbv.cell
    have HR := Lib.hid (And.intro hs1 (And.intro hB hK))
    clear hs1 hrow hB hK hbv
    gi_wp2
    refine ⟨trivial, (callsIn_wide.2 (make1_spec (s + 1 + 1) W v HR.out.1)).mono ?_⟩
    rintro e w2 ⟨v2, rfl, hs2, hk2⟩
    have nA := hk2.at_ ((HR.out.2.1.block s (by omega)).trans H0.out.2.1.1) (by simp)
    have nB := hk2.at_ ((HR.out.2.1.block (s + 1) (by omega)).trans H0.out.2.1.2.1) (by simp)
    have cA := cells_at nA
    have fA := free_at nA
    have cB := cells_at nB
    have fB := free_at nB
    obtain ⟨g2, c2, cur2, rfl, hrest⟩ := hs2
    have HM := Lib.hid (And.intro nA (And.intro nB (And.intro hrest hk2)))
    clear hrest hk2 hc nA nB
    gi_wp2
    have q1 : Keeps [s] w2 (w2.setCell ⟨s, 0, none⟩ (.slice (some ⟨g2, 0, none⟩) 1 c2)) := (Keeps.refl _ w2).setCell (.inl (by simp)) _
    have nA1 := heap_cell_same (i := 0) HM.out.1 (.slice (some ⟨g2, 0, none⟩) 1 c2)
    have nB1 := q1.at_ HM.out.2.1 (by simp)
    have q2 : Keeps [s + 1] (w2.setCell ⟨s, 0, none⟩ (.slice (some ⟨g2, 0, none⟩) 1 c2)) ((w2.setCell ⟨s, 0, none⟩ (.slice (some ⟨g2, 0, none⟩) 1 c2)).setCell ⟨s + 1, 0, none⟩ (.int .i64 0)) := (Keeps.refl _ _).setCell (.inl (by simp)) _
    have nA2 := q2.at_ nA1 (by simp)
    have nB2 := heap_cell_same (i := 0) nB1 (.int .i64 0)
    have q12 : Keeps [s, s + 1] w2 ((w2.setCell ⟨s, 0, none⟩ (.slice (some ⟨g2, 0, none⟩) 1 c2)).setCell ⟨s + 1, 0, none⟩ (.int .i64 0)) := (q1.mono (by simp)).trans (q2.mono (by simp))
    generalize (w2.setCell ⟨s, 0, none⟩ (.slice (some ⟨g2, 0, none⟩) 1 c2)).setCell ⟨s + 1, 0, none⟩ (.int .i64 0) = W9 at nA2 nB2 q12 ⊢
    have hD2 : W9.heap[D]? = some (.deferred (some [])) := q12.at_ (HM.out.2.2.2.at_ HR.out.2.2 (by simp)) (by simp; omega)
    refine ⟨by simp, .inl ⟨_, _, rfl, run_takeDeferred hD2, ?_⟩⟩
    have q10 : Keeps [D] W9 (W9.putObj D (.deferred none)) := Keeps.of_grown (grownBy_putObj' W9 D _) (fun k hk => .inl (by simp at hk; simp [hk]))
    have hDW := lt_of_at HR.out.2.2
    have hg2 := HM.out.2.2.1.1
    have nA3 := q10.at_ nA2 (by simp; omega)
    have nB3 := q10.at_ nB2 (by simp; omega)
    have nG := q10.at_ (q12.at_ HM.out.2.2.1.2.2.2.1 (by simp; omega)) (by simp; omega)
    have hws := HS.out
    have kW : Keeps [] w W := Keeps.of_below ((H0.out.1.below (Nat.le_refl _) (by simp)).trans (HR.out.2.1.mono (by omega)))
    have kF : Keeps [] w (W9.putObj D (.deferred none)) := ((kW.trans HM.out.2.2.2).after q12 (fun x hx => .inr (by simp at hx; omega))).after q10 (fun x hx => .inr (by simp at hx; omega))
    generalize W9.putObj D (.deferred none) = W10 at nA3 nB3 nG kF ⊢
    have cA3 := cells_at nA3 0
    have cB3 := cells_at nB3 0
    refine ⟨.tuple #[.slice (some ⟨g2, 0, none⟩) 1 c2, .int .i64 0], ?_, ⟨_, rfl, ⟨g2, c2, cur2, rfl, by omega, HM.out.2.2.1.2.1, HM.out.2.2.1.2.2.1, nG, HM.out.2.2.1.2.2.2.2⟩, kF⟩⟩
    simp at cA3 cB3
    simp [results, Tryz.results28, go_sem, cA3, cB3]
  case stop =>
    rintro D c pre W _ _ h _
    exact h.elim
end Go.Proofs.YtejfigbjaiealaaGreatDoor
