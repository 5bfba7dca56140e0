/-
  Package posting: Any, walked: all in one, sorted, each once.
  The lists lie in memory from a bound on; they are of few numbers.

  The worlds in which only new blocks have come; append of one value of any one-cell type onto a row of the walk's own.
  No condition beyond those that each theorem states.
-/
import Derived.Test.YtlifonflgcfafaaGreatDoorPostRef
import Derived.Test.YtlifonflgcfafaaGreatDoorShelfA
import Derived.Sort.OwnSortedInts
import Derived.Lib.RowBridge
import Derived.Laws.AppendOwnNone
import Derived.Deep.RegionHeld3
namespace Go.Proofs.YtlifonflgcfafaaGreatDoor
open Go Go.RowKit Go.Sort

theorem sortI_spec (w : World) (base : Nat) (v : Value) (l : List Int) (h : Own base w v l) (hl : l.length < 4611686018427387904) :
    Calls Tryz.prog 106 #[v] w fun e w' => e = .returned (.tuple #[]) ∧ Own base w' v (l.mergeSort fun x y => decide (x ≤ y)) ∧ w.grownBy w' v.ownBlock := by
  have h' := h
  obtain ⟨_, ⟨rfl, hn⟩ | ⟨g, cap, cur, rfl, hbase, hb, h1, h2, h3, h4⟩⟩ := h
  · have hc := AnyM.slices_Sort_int_none Tryz.sortL none 0 w
    change Calls Tryz.prog 106 _ _ _ at hc
    refine hc.mono ?_
    rintro e w' ⟨rfl, rfl⟩
    have : l = [] := List.eq_nil_of_length_eq_zero hn
    subst this
    exact ⟨rfl, by simpa using h', ⟨rfl, rfl, rfl, Nat.le_refl _, fun _ _ _ => rfl⟩⟩
  · have hc := AnyM.slices_Sort_int Tryz.sortL g 0 cap l w (holds_of_blockI hb (by simpa using h4)) (lt_of_at hb) hl
    change Calls Tryz.prog 106 _ _ _ at hc
    refine hc.mono ?_
    rintro e w' ⟨rfl, n, os, rfl⟩
    have hs := ownsRow_sortedI (w := w) (base := base) (g := g) (cap := cap) (n := n) (e := 3) (os := os) (cur := cur) (ss := l) (ts := l.mergeSort fun x y => decide (x ≤ y)) (by simp) hbase hb h1 h2 h3
    refine ⟨rfl, ?_, grownBy_sortedI _⟩
    unfold Own
    rw [List.length_mergeSort]
    exact hs

theorem putRow_ahead_heap (w : World) (q g : Nat) (d : Array Int) : (putRow (Value.int .i64) (Sort.ahead w q) g 0 d) = grow (putRow (Value.int .i64) (Sort.ahead w q) g 0 d) #[] := by
  generalize putRow (Value.int .i64) (Sort.ahead w q) g 0 d = W
  cases W
  simp [grow]

theorem compactI_spec (w : World) (base : Nat) (v : Value) (l : List Int) (h : Own base w v l) (hl : l.length ≤ 1000000) :
    Calls Tryz.prog 107 #[v] w fun e w' => ∃ v', e = .returned v' ∧ Own base w' v' (Lib.compact l) ∧ w.grownBy w' v.ownBlock := by
  have h' := h
  obtain ⟨_, ⟨rfl, hn⟩ | ⟨g, cap, cur, rfl, hbase, hb, h1, h2, h3, h4⟩⟩ := h
  · have hc := AnyG.slices_Compact_int_empty Tryz.compL none 0 w
    change Calls Tryz.prog 107 _ _ _ at hc
    refine hc.mono ?_
    rintro e w' ⟨rfl, rfl⟩
    have : l = [] := List.eq_nil_of_length_eq_zero hn
    subst this
    exact ⟨_, rfl, h', ⟨rfl, rfl, rfl, Nat.le_refl _, fun _ _ _ => rfl⟩⟩
  · have hc := AnyG.slices_Compact_int Tryz.compL g 0 cap l w (holds_of_blockI hb (by simpa using h4)) (by omega) h1
    change Calls Tryz.prog 107 _ _ _ at hc
    have hcl := Lib.compact_length_le l
    refine hc.mono ?_
    rintro e w' ⟨rfl, q, rfl⟩
    rw [putRow_ahead_heap]
    have hlen : (Lib.compact l ++ List.replicate (l.length - (Lib.compact l).length) 0).length = l.length := by simp; omega
    have hs := ownsRow_sortedI (w := w) (base := base) (g := g) (cap := cap) (n := q) (e := 3) (os := #[]) (cur := cur) (ss := l) (ts := Lib.compact l ++ List.replicate (l.length - (Lib.compact l).length) 0) hlen hbase hb h1 h2 h3
    refine ⟨_, rfl, ?_, grownBy_sortedI _⟩
    obtain ⟨_, ⟨e, _⟩ | ⟨g', cap', cur', e, hbase', hb', h1', h2', h3', h4'⟩⟩ := hs
    · cases e
    · injection e with e1 e2 e3
      injection e1 with e1
      injection e1 with e1 _ _
      subst e1 e3
      refine ⟨by simp, .inr ⟨g, cap, cur', rfl, hbase, hb', by omega, h2, h3', ?_⟩⟩
      have ht : (cur'.toList.take (l.length * 1)).take ((Lib.compact l).length * 1) = (Lib.compact l).map (Value.int .i64) := by
        rw [h4', Nat.mul_one, List.map_append]
        rw [List.take_append_of_le_length (by simp)]
        rw [List.take_of_length_le (by simp)]
      rw [List.take_take] at ht
      rw [← ht]
      congr 1
      omega
section
variable {ops : Array Oper} {rest : List Oper} {o : Oper} {a : Act} {Q : Exit → Act → World → Prop}
/-- append of all numbers of a slice, nil or not. -/
theorem own_appendV {w : World} (hgd : o.guard = none) (s x : Operand) (T : TypeId) (hT : Tryz.prog.underlying T = some (.slice 3)) (ho : o.op = .call { callee := .builtin .append, args := #[s, x], argTypes := #[T, T] })
    (B B' : Nat) (v u : Value) (l news : List Int) (hs : a.eval s = v) (hb : Own B w v l) (hx : a.eval x = u) (hu : Ints B' w u news)
    (h63 : l.length + news.length ≤ 1000000) (hB : B ≤ w.heap.size) (h : ∀ ao cp w', Own B w' (.slice ao (l.length + news.length) cp) (l ++ news) → Turns v w (.slice ao (l.length + news.length) cp) w' → wpList Tryz.prog ops Q rest (a.put o.dst (.slice ao (l.length + news.length) cp)) w') : wpList Tryz.prog ops Q (o :: rest) a w := by
  have hu2 := hu
  obtain ⟨ao, cap, rfl, -, hlc, hnil, -⟩ := hu2
  cases ao with
  | some ad => exact own_append hgd s x T hT ho B v l hs hb ad news.length cap news rfl hx (ints_news hu) h63 hB h
  | none =>
    have hc := hnil rfl
    have h0 : news = [] := List.eq_nil_of_length_eq_zero (by omega)
    subst h0 hc
    obtain ⟨i, hi, hz0, hz1, hz2⟩ := info_parts infoInt
    refine wpList_append_own_none hgd s x T ho B 3 i 1 hT hi v l.length _ hs hb hx ?_
    obtain ⟨av, cv, rfl, -, -, -⟩ := row_slice hb
    exact h av cv w (by simpa using hb) (Turns.refl _ _)
end
def AnyPRel (w : World) (LL : List (List Int)) (gk : Nat) (u3 u8 : Value) (wr : World) : Prop :=
  ∃ k, k ≤ LL.length ∧ gk = LL.length - k ∧ u8 = .int .i64 k ∧ Own w.heap.size wr u3 (LL.take k).flatten ∧ Keeps [] w wr

theorem flat_snoc {LL : List (List Int)} {k : Nat} (hk : k < LL.length) : (LL.take (k + 1)).flatten = (LL.take k).flatten ++ LL[k] := by
  rw [List.take_succ_eq_append_getElem hk, List.flatten_append]
  simp

theorem anyP_len (l : List Int) : (anyP l).length ≤ l.length := by
  unfold anyP
  have := Lib.compact_length_le (l.mergeSort fun x y => decide (x ≤ y))
  rw [List.length_mergeSort] at this
  exact this

set_option maxRecDepth 100000 in
set_option maxHeartbeats 1000000 in
theorem any_spec (B : Nat) (w : World) (v : Value) (LL : List (List Int)) (h : Rows2 B w v LL) (hl : LL.flatten.length ≤ 1000) :
    Calls Tryz.prog 69 #[v] w fun e w' => ∃ v', e = .returned v' ∧ Own w.heap.size w' v' (anyL LL) ∧ Keeps [] w w' := by
  have Hf := Lib.hid h
  obtain ⟨ao, cap, rfl, hm, -, -⟩ := h.form
  unfold maxLen at hm
  have He := Lib.hid (anyP_eq LL)
  generalize anyL LL = R at He ⊢
  go_enter Tryz.func69, Tryz.ntmps69
  go_wp2_with fail
  go_loopg [3, 8] LL.length (AnyPRel w LL)
  case atStart => exact ⟨0, Nat.zero_le _, rfl, rfl, World.ownsRow_nil _ _ _ 1, Keeps.refl [] w⟩
  case round =>
    obtain ⟨k, hk, hgk, rfl, hrow, hkw⟩ := hrel
    have Hg := Lib.hid hgk
    have hws := hkw.size
    clear hgk
    by_cases hlt : k < LL.length
    · obtain ⟨b, of, u, ea, hb, d0, hu⟩ := (Hf.out.keep hkw (by simp)).at_ k hlt
      subst ea
      have hlt' : (k : Int) < (LL.length : Int) := by omega
      have Hs := Lib.hid (flat_snoc hlt)
      have hfl := flat_take hlt
      generalize LL[k] = L at hu Hs hfl
      generalize (LL.take k).flatten = X at hrow Hs hfl
      have Hu := Lib.hid hu
      obtain ⟨al, cl, rfl, -, -, -, -⟩ := hu
      obtain ⟨ax, cx, rfl, hxc, hxm, -⟩ := row_slice hrow
      have Hr := Lib.hid (And.intro hrow hkw)
      clear hrow hkw
      go_wp2_with (at_builtin; refine own_appendV rfl (.tmp 12) (.tmp 13) 104 Tryz.underlying104 rfl w.heap.size B (.slice ax X.length cx) _ X L rfl Hr.out.1 rfl Hu.out (by omega) (by omega) ?_; intro ao9 cp9 w9 hown9 ht9; have H9 := Lib.hid (And.intro hown9 (ht9.fresh Hr.out.2 (fun g hg => (World.ownsRow.lt Hr.out.1 g hg).1)).1); clear hown9 ht9)
      go_roundg (LL.length - (k + 1))
      case measure => have := Hg.out; omega
      case rel => exact ⟨k + 1, by omega, rfl, by go_num, by rw [Hs.out]; exact H9.out.1, H9.out.2⟩
    · have hkn : k = LL.length := by omega
      subst hkn
      rw [List.take_length] at hrow
      generalize LL.flatten = X at hrow hl He
      obtain ⟨ax, cx, rfl, hxc, hxm, -⟩ := row_slice hrow
      have Hr := Lib.hid (And.intro hrow hkw)
      clear hrow hkw
      go_wp2_with fail
      refine (sortI_spec _ w.heap.size _ X Hr.out.1 (by omega)).mono ?_
      rintro e w8 ⟨rfl, hown8, hg8⟩
      have hk8 := keeps_own Hr.out.2 hg8 (fun g hg => (World.ownsRow.lt Hr.out.1 g hg).1)
      have H8 := Lib.hid (And.intro hown8 hk8)
      clear hown8 hg8 hk8
      go_wp2_with fail
      refine (compactI_spec _ w.heap.size _ _ H8.out.1 (by rw [List.length_mergeSort]; omega)).mono ?_
      rintro e w9 ⟨v9, rfl, hown9, hg9⟩
      have hk9 := keeps_own H8.out.2 hg9 (fun g hg => (World.ownsRow.lt H8.out.1 g hg).1)
      have H9 := Lib.hid (And.intro hown9 hk9)
      clear hown9 hg9 hk9
      go_wp2_with fail
      go_ret
      exact ⟨_, rfl, by rw [← He.out]; exact H9.out.1, H9.out.2⟩
end Go.Proofs.YtlifonflgcfafaaGreatDoor

namespace Go.Proofs.YtlifonflgcfafaaGreatDoor
open Go Go.RowKit

/-- A world in which only new blocks have come since W. -/
structure Kept (W : World) where
  val : World
  property : Keeps [] W val
instance (W : World) : Nonempty (Kept W) := ⟨⟨W, Keeps.refl [] W⟩⟩
def KeptS (W w : World) : Prop := ∃ s : Kept W, w = s.val

theorem keptS {W w : World} (h : Keeps [] W w) : KeptS W w := ⟨⟨w, h⟩, rfl⟩

theorem keptCell {W : World} {b i : Nat} {u : Value} (h : W.cell? ⟨b, i, none⟩ = some u) : ∀ s : Kept W, s.val.cell? ⟨b, i, none⟩ = some u := fun s => (s.property.cell (World.block_lt_of_cell? W _ h) (by simp)).trans h

theorem rows_ne2 {w : World} {b1 b2 s1 s2 n1 n2 : Nat} {e1 e2 : TypeId} {v1 v2 : Value} {x1 x2 : List Value} (h1 : w.ownsRow b1 e1 s1 v1 n1 x1) (h2 : w.ownsRow b2 e2 s2 v2 n2 x2) (he : e1 ≠ e2) : ∀ g, v2.ownBlock = some g → g ∉ v1.ownBlock.toList := by
  intro g hg hm
  obtain ⟨_, ⟨rfl, _⟩ | ⟨g2, c2, r2, rfl, _, hb2, _⟩⟩ := h2
  · simp [Value.ownBlock] at hg
  · simp [Value.ownBlock] at hg
    subst hg
    exact row_ne_cells h1 hb2 (fun e => he e.symm) _ (by simpa using hm) rfl
section
variable {ops : Array Oper} {rest : List Oper} {o : Oper} {a : Act} {Q : Exit → Act → World → Prop}
/-- append of one value, in new memory. -/
theorem row_append1 {w : World} (hgd : o.guard = none) (s x : Operand) (T e : TypeId) {z : Value} {bytes : Nat} (hi : (Tryz.prog.info? e).map (fun i => (i.zero, i.size, i.bytes)) = some (some z, 1, bytes)) (hz : z.cells.size = 1) (hby : bytes ≤ 64)
    (hT : Tryz.prog.underlying T = some (.slice e)) (ho : o.op = .call { callee := .builtin .append, args := #[s, x], argTypes := #[T, T] })
    (B : Nat) (v : Value) (VS : List Value) (u : Value) (h1 : u.oneCell' = true) (n : Nat) (hn : VS.length = n) (hs : a.eval s = v) (hb : w.ownsRow B e 1 v n VS) (hx : a.eval x = .slice (some ⟨w.heap.size, 0, none⟩) 1 1)
    (h63 : n + 1 ≤ 1000000) (hB : B ≤ w.heap.size) (h : ∀ ao cp w', w'.ownsRow B e 1 (.slice ao (n + 1) cp) (n + 1) (VS ++ [u]) → Turns v w (.slice ao (n + 1) cp) w' → wpList Tryz.prog ops Q rest (a.put o.dst (.slice ao (n + 1) cp)) w') : wpList Tryz.prog ops Q (o :: rest) a (w.alloc (.cells #[u] e)) := by
  obtain ⟨i, hi, hz0, hz1, hz2⟩ := info_parts hi
  refine wpList_plain hgd fun K hK => ?_
  obtain ⟨v', w', hr, h2, h3⟩ := run_append_turns (P := Tryz.prog) (w.alloc (.cells #[u] e)) B T o.type e i z 1 bytes hT hi hz0 hz1 hz2 hz (by decide) v n VS (hb.alloc _) ⟨w.heap.size, 0, none⟩ 1 1 [u] rfl (news_of (heap_new w _)) (by
    intro y hy
    obtain rfl : y = u := by simpa using hy
    exact h1) (by simp only [maxLen]; omega) (by have := Nat.mul_le_mul h63 hby; omega) (by rw [World.size_alloc]; omega)
  unfold Oper.wp execOp
  simp only [ho, resolve, invoke, builtin, Sem.run_bind, Sem.run_pure, Result.andThen_ok, List.map_toArray, List.map_cons, List.map_nil, hs, hx, hr]
  obtain ⟨ao, cp, rfl, -, -, -⟩ := row_slice h2
  exact hK _ _ (h ao cp w' h2 (Turns.since ((Keeps.refl [] w).alloc _) h3))
end
theorem ints_take {B : Nat} {w : World} {a : Option Addr} {n c : Nat} {L : List Int} (h : Ints B w (.slice a n c) L) (k : Nat) : Ints B w (.slice a (min n k) c) (L.take k) := by
  obtain ⟨ao, cap, e, h1, h2, h3, h4⟩ := h
  injection e with e1 e2 e3
  subst e1 e2 e3
  refine ⟨_, _, by rw [List.length_take, Nat.min_comm], by rw [List.length_take]; omega, by rw [List.length_take]; omega, h3, fun i hi => ?_⟩
  have hi' : i < L.length := by rw [List.length_take] at hi; omega
  obtain ⟨b, off, e, hb, hlt, hc⟩ := h4 i hi'
  refine ⟨b, off, e, hb, hlt, fun j hj => ?_⟩
  rw [hc j hj, List.getElem_take]

/-- Slices in new memory. -/
theorem rows2_new {B : Nat} {w : World} {g n : Nat} {e : TypeId} {VS : List Value} {LL : List (List Int)} (hg : w.heap[g]? = some (.cells VS.toArray e (0, 0))) (hB : B ≤ g) (hn : VS.length = n) (hm : n ≤ maxLen) (hl : VS.length = LL.length) (h : ∀ i (h : i < VS.length) (h' : i < LL.length), Ints B w VS[i] LL[i]) : Rows2 B w (.slice (some ⟨g, 0, none⟩) n n) LL := by
  subst hn
  refine ⟨VS, ⟨_, _, rfl, hm, Nat.le_refl _, (fun e => by cases e), fun i hi => ⟨g, 0, rfl, hB, lt_of_at hg, fun j hj => ?_⟩⟩, hl, h⟩
  obtain rfl : j = 0 := by omega
  rw [cells_at hg]
  simp [hi]

theorem rows2_new1 {B : Nat} {w : World} {g : Nat} {e : TypeId} {u : Value} {l : List Int} (hg : w.heap[g]? = some (.cells #[u] e (0, 0))) (hB : B ≤ g) (h : Ints B w u l) : Rows2 B w (.slice (some ⟨g, 0, none⟩) 1 1) [l] :=
  rows2_new (VS := [u]) hg hB rfl (by simp [maxLen]) rfl (fun i hi hi' => by
    obtain rfl : i = 0 := by simpa using hi
    exact h)

theorem rows2_new2 {B : Nat} {w : World} {g : Nat} {e : TypeId} {u v : Value} {l m : List Int} (hg : w.heap[g]? = some (.cells #[u, v] e (0, 0))) (hB : B ≤ g) (h : Ints B w u l) (h2 : Ints B w v m) : Rows2 B w (.slice (some ⟨g, 0, none⟩) 2 2) [l, m] :=
  rows2_new (VS := [u, v]) hg hB rfl (by simp [maxLen]) rfl (fun i hi hi' => by
    match i with
    | 0 => exact h
    | 1 => exact h2
    | n + 2 => exact absurd hi (by show ¬ n + 2 < 2; omega))

theorem rows2_new3 {B : Nat} {w : World} {g : Nat} {e : TypeId} {u v x : Value} {l m k : List Int} (hg : w.heap[g]? = some (.cells #[u, v, x] e (0, 0))) (hB : B ≤ g) (h : Ints B w u l) (h2 : Ints B w v m) (h3 : Ints B w x k) : Rows2 B w (.slice (some ⟨g, 0, none⟩) 3 3) [l, m, k] :=
  rows2_new (VS := [u, v, x]) hg hB rfl (by simp [maxLen]) rfl (fun i hi hi' => by
    match i with
    | 0 => exact h
    | 1 => exact h2
    | 2 => exact h3
    | n + 3 => exact absurd hi (by show ¬ n + 3 < 3; omega))
end Go.Proofs.YtlifonflgcfafaaGreatDoor
