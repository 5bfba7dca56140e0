/-
  Rows of numbers, and slices of them; what stays as it is while only new blocks come.
  No condition beyond those that each theorem states.
-/
import Derived.Test.YtlifonflgcfafaaGreatDoorArgs
import Derived.Test.YtlifonflgcfafaaGreatDoorMap
import Derived.Test.YtlifonflgcfafaaGreatDoorPostLaw
import Derived.Test.YtlifonflgcfafaaGreatDoorBuf
import Derived.Test.YtlifonflgcfafaaGreatDoorRows
import Derived.Deep.Cut
import Derived.Deep.QuietTactic
import Derived.BigQuiet
import Derived.Lib.Hide
namespace Go.Proofs.YtlifonflgcfafaaGreatDoor
open Go Go.RowKit

theorem sf_at {α : Type} {B size : Nat} {enc : α → List Value} {w : World} {a : Option Addr} {n c : Nat} {L : List α} (h : SliceFrom B size enc w (.slice a n c) L) (i : Nat) (hi : i < L.length) :
    ∃ b off, a = some ⟨b, off, none⟩ ∧ B ≤ b ∧ b < w.heap.size ∧ ∀ j, j < size → w.cell? ⟨b, off + (i * size + j), none⟩ = (enc L[i])[j]? := by
  obtain ⟨ao, cap, e, -, -, -, hx⟩ := h
  injection e with e1 _ _
  subst e1
  exact hx i hi

theorem sf_at1 {α : Type} {B : Nat} {f : α → Value} {w : World} {a : Option Addr} {n c : Nat} {L : List α} (h : SliceFrom B 1 (fun x => [f x]) w (.slice a n c) L) (i : Nat) (hi : i < L.length) :
    ∃ b off, a = some ⟨b, off, none⟩ ∧ b < w.heap.size ∧ w.cell? ⟨b, off + i, none⟩ = some (f L[i]) := by
  obtain ⟨b, off, e, -, hb, hc⟩ := sf_at h i hi
  exact ⟨b, off, e, hb, by simpa using hc 0 (by decide)⟩

theorem row_ne_cells {w : World} {base s n b : Nat} {e t : TypeId} {v : Value} {xs : List Value} {cs : Array Value} {z : Nat × Nat} (h : w.ownsRow base e s v n xs) (hb : w.heap[b]? = some (.cells cs t z)) (ht : t ≠ e) : ∀ g, v.ownBlock = some g → g ≠ b := by
  intro g hg e1
  subst e1
  obtain ⟨_, ⟨rfl, _⟩ | ⟨g', cap, cur, rfl, _, h1, _⟩⟩ := h
  · simp [Value.ownBlock] at hg
  · obtain rfl : g' = g := by simpa [Value.ownBlock] using hg
    rw [h1] at hb
    injection hb with hb
    injection hb with _ e2 _
    exact ht e2.symm

theorem keeps_own {S : List Nat} {a w w' : World} {row : Option Nat} (h : Keeps S a w) (hg : w.grownBy w' row) (hr : ∀ q, row = some q → a.heap.size ≤ q) : Keeps S a w' :=
  ⟨hg.os.trans h.os, hg.tape.trans h.tape, hg.output.trans h.output, Nat.le_trans h.size hg.size, fun k hk hn => (hg.block k (Nat.lt_of_lt_of_le hk h.size) (fun e => by
    have := hr k e.symm
    omega)).trans (h.block k hk hn)⟩

theorem keeps_row {w w' : World} {v : Value} (hg : w.grownBy w' v.ownBlock) : Keeps v.ownBlock.toList w w' := Keeps.of_grown hg (fun k hk => .inl (by simp [hk]))

theorem own_made (w : World) (base : Nat) (e : TypeId) (size : Nat) (h : base ≤ w.heap.size) : (w.alloc (.cells #[] e)).ownsRow base e size (.slice (some ⟨w.heap.size, 0, none⟩) 0 0) 0 [] :=
  ⟨by simp, .inr ⟨w.heap.size, 0, #[], rfl, h, heap_new w _, Nat.le_refl _, by simp [maxLen], by simp, by simp⟩⟩


/-- From what holds in w to what holds in w', where only new blocks have come. -/
class Go1 (w w' : World) (A : Prop) (B : outParam Prop) : Prop where
  out : Keeps [] w w' → A → B

theorem go1 {w w' : World} (k : Keeps [] w w') {A B : Prop} [h : Go1 w w' A B] (a : A) : B := h.out k a
section
variable {α : Type} {w w' : World}
instance (priority := 10) go1Const (A : Prop) : Go1 w w' A A := ⟨fun _ h => h⟩
instance go1And (A B A' B' : Prop) [hp : Go1 w w' A A'] [hq : Go1 w w' B B'] : Go1 w w' (A ∧ B) (A' ∧ B') := ⟨fun k h => ⟨hp.out k h.1, hq.out k h.2⟩⟩

instance go1At (b : Nat) (o : Obj) : Go1 w w' (w.heap[b]? = some o) (w'.heap[b]? = some o) := ⟨fun k h => k.at_ h (by simp)⟩

instance go1Map (b : Nat) (m : KV) : Go1 w w' (MapAt w b m) (MapAt w' b m) := ⟨fun k h => h.keep k (by simp)⟩

instance go1Row (base : Nat) (e : TypeId) (size n : Nat) (v : Value) (xs : List Value) : Go1 w w' (w.ownsRow base e size v n xs) (w'.ownsRow base e size v n xs) := ⟨fun k h => k.row h (by simp)⟩

instance go1Lt (b : Nat) : Go1 w w' (b < w.heap.size) (b < w'.heap.size) := ⟨fun k h => k.lt h⟩

instance go1Le (b : Nat) : Go1 w w' (b ≤ w.heap.size) (b ≤ w'.heap.size) := ⟨fun k h => Nat.le_trans h k.size⟩

instance go1Keeps (S : List Nat) (w0 : World) : Go1 w w' (Keeps S w0 w) (Keeps S w0 w') := ⟨fun k h => h.trans (k.mono (by simp))⟩

instance go1Slice (B size : Nat) (enc : α → List Value) (v : Value) (L : List α) : Go1 w w' (SliceFrom B size enc w v L) (SliceFrom B size enc w' v L) := ⟨fun k h => h.keep k (by simp)⟩

instance go1Arg (size : Nat) (enc : α → List Value) (v : Value) (L : List α) : Go1 w w' (SliceArg size enc w v L) (SliceArg size enc w' v L) := ⟨fun k h => h.keep k⟩
end

/-! ## Numbers -/
abbrev Ints (B : Nat) (w : World) (v : Value) (l : List Int) : Prop := SliceFrom B 1 (fun n => [Value.int .i64 n]) w v l

abbrev Own (B : Nat) (w : World) (v : Value) (l : List Int) : Prop := w.ownsRow B 3 1 v l.length (l.map (Value.int .i64))

theorem infoInt : (Tryz.prog.info? 3).map (fun i => (i.zero, i.size, i.bytes)) = some (some (.int .i64 0), 1, 8) := by kernel_rfl

theorem flat_one {α : Type} (f : α → Value) (l : List α) : l.flatMap (fun x => [f x]) = l.map f := by
  induction l with
  | nil => rfl
  | cons x l ih => simp [ih]

theorem Own.ints {B : Nat} {w : World} {v : Value} {l : List Int} (h : Own B w v l) : Ints B w v l := by
  refine sliceFrom_row (e := 3) (fun _ => rfl) ?_
  rw [flat_one]
  exact h
section
variable {ops : Array Oper} {rest : List Oper} {o : Oper} {a : Act} {Q : Exit → Act → World → Prop}
/-- append of numbers that lie in memory. -/
theorem own_append {w : World} (hgd : o.guard = none) (s x : Operand) (T : TypeId) (hT : Tryz.prog.underlying T = some (.slice 3)) (ho : o.op = .call { callee := .builtin .append, args := #[s, x], argTypes := #[T, T] })
    (B : Nat) (v : Value) (l : List Int) (hs : a.eval s = v) (hb : Own B w v l) (ad : Addr) (m c : Nat) (news : List Int) (hm : news.length = m) (hx : a.eval x = .slice (some ad) m c) (hnews : ∀ j u, (news.map (Value.int .i64))[j]? = some u → w.cell? (ad.add j) = some u)
    (h63 : l.length + m ≤ 1000000) (hB : B ≤ w.heap.size) (h : ∀ ao cp w', Own B w' (.slice ao (l.length + m) cp) (l ++ news) → Turns v w (.slice ao (l.length + m) cp) w' → wpList Tryz.prog ops Q rest (a.put o.dst (.slice ao (l.length + m) cp)) w') : wpList Tryz.prog ops Q (o :: rest) a w := by
  obtain ⟨i, hi, hz0, hz1, hz2⟩ := info_parts infoInt
  refine wpList_plain hgd fun K hK => ?_
  obtain ⟨v', w', hr, h2, h3⟩ := run_append_turns (P := Tryz.prog) w B T o.type 3 i _ 1 8 hT hi hz0 hz1 hz2 rfl (by decide) v _ _ hb ad m c (news.map (Value.int .i64)) (by rw [List.length_map, hm, Nat.mul_one]) hnews (by
    intro u hu
    obtain ⟨n, _, rfl⟩ := List.mem_map.1 hu
    rfl) (by simp only [maxLen]; omega) (by omega) hB
  unfold Oper.wp execOp
  simp only [ho, resolve, invoke, builtin, Sem.run_bind, Sem.run_pure, Result.andThen_ok, List.map_toArray, List.map_cons, List.map_nil, hs, hx, hr]
  obtain ⟨ao, cp, rfl, -, -, -⟩ := row_slice h2
  exact hK _ _ (h ao cp w' (by unfold Own; rw [List.map_append, List.length_append, hm]; exact h2) h3)

/-- append of one number, in new memory. -/
theorem own_append1 {w : World} (hgd : o.guard = none) (s x : Operand) (T : TypeId) (hT : Tryz.prog.underlying T = some (.slice 3)) (ho : o.op = .call { callee := .builtin .append, args := #[s, x], argTypes := #[T, T] })
    (B : Nat) (v : Value) (l : List Int) (n : Int) (hs : a.eval s = v) (hb : Own B w v l) (hx : a.eval x = .slice (some ⟨w.heap.size, 0, none⟩) 1 1)
    (h63 : l.length + 1 ≤ 1000000) (hB : B ≤ w.heap.size) (h : ∀ ao cp w', Own B w' (.slice ao (l.length + 1) cp) (l ++ [n]) → Turns v w (.slice ao (l.length + 1) cp) w' → wpList Tryz.prog ops Q rest (a.put o.dst (.slice ao (l.length + 1) cp)) w') : wpList Tryz.prog ops Q (o :: rest) a (w.alloc (.cells #[.int .i64 n] 3)) :=
  own_append hgd s x T hT ho B v l hs (hb.alloc _) ⟨w.heap.size, 0, none⟩ 1 1 [n] rfl hx (news_of (heap_new w _)) h63 (by rw [World.size_alloc]; omega) (fun ao cp w' h1 h2 => h ao cp w' h1 (Turns.since ((Keeps.refl [] w).alloc _) h2))
end
/-- A slice of slices of numbers, all in blocks from B on. -/
def Rows2 (B : Nat) (w : World) (v : Value) (LL : List (List Int)) : Prop :=
  ∃ VS : List Value, SliceFrom B 1 (fun x => [x]) w v VS ∧ VS.length = LL.length ∧ ∀ i (h : i < VS.length) (h' : i < LL.length), Ints B w VS[i] LL[i]

theorem Rows2.keep {B : Nat} {w w' : World} {v : Value} {LL : List (List Int)} {S : List Nat} (h : Rows2 B w v LL) (k : Keeps S w w') (hS : ∀ x ∈ S, x < B) : Rows2 B w' v LL := by
  obtain ⟨VS, h1, h2, h3⟩ := h
  exact ⟨VS, h1.keep k hS, h2, fun i hi hi' => (h3 i hi hi').keep k hS⟩

instance go1Rows {w w' : World} (B : Nat) (v : Value) (LL : List (List Int)) : Go1 w w' (Rows2 B w v LL) (Rows2 B w' v LL) := ⟨fun k h => h.keep k (by simp)⟩

theorem Rows2.at_ {B : Nat} {w : World} {a : Option Addr} {n c : Nat} {LL : List (List Int)} (h : Rows2 B w (.slice a n c) LL) (i : Nat) (hi : i < LL.length) :
    ∃ b off u, a = some ⟨b, off, none⟩ ∧ b < w.heap.size ∧ w.cell? ⟨b, off + i, none⟩ = some u ∧ Ints B w u LL[i] := by
  obtain ⟨VS, h1, h2, h3⟩ := h
  obtain ⟨b, off, e, hb, hc⟩ := sf_at1 h1 i (by omega)
  exact ⟨b, off, VS[i], e, hb, hc, h3 i (by omega) hi⟩

theorem Rows2.form {B : Nat} {w : World} {v : Value} {LL : List (List Int)} (h : Rows2 B w v LL) : ∃ ao cap, v = .slice ao LL.length cap ∧ LL.length ≤ maxLen ∧ LL.length ≤ cap ∧ (ao = none → cap = 0) := by
  obtain ⟨VS, ⟨ao, cap, e, h1, h2, h3, -⟩, hl, -⟩ := h
  rw [hl] at e h1 h2
  exact ⟨ao, cap, e, h1, h2, h3⟩

theorem rows2_of {B : Nat} {w : World} {v : Value} {e : TypeId} {VS : List Value} {LL : List (List Int)} (hr : w.ownsRow B e 1 v VS.length VS) (hl : VS.length = LL.length) (h : ∀ i (h : i < VS.length) (h' : i < LL.length), Ints B w VS[i] LL[i]) : Rows2 B w v LL :=
  ⟨VS, sliceFrom_row (e := e) (fun _ => rfl) (by rw [flat_one]; simpa using hr), hl, h⟩

/-! ## The document's words -/
def InRel (w : World) (l : List Int) (n : Int) (gk : Nat) (u : Value) (wr : World) : Prop := ∃ k, k ≤ l.length ∧ gk = l.length - k ∧ u = .int .i64 k ∧ n ∉ l.take k ∧ wr = w

theorem take_not {l : List Int} {n : Int} {k : Nat} (hk : k < l.length) (h : n ∉ l.take k) (hx : ¬ l[k] = n) : n ∉ l.take (k + 1) := by
  rw [List.take_succ_eq_append_getElem hk]
  simp only [List.mem_append, List.mem_singleton, not_or]
  exact ⟨h, fun e => hx e.symm⟩

end Go.Proofs.YtlifonflgcfafaaGreatDoor
