/-
  Package posting: Any, walked: all in one, sorted, each once.
  The lists lie in memory from a bound on; they are of few numbers.
-/
import Derived.Test.YtjgaidojohgenaaDoorPostProg
import Derived.Test.YtjgaidojohgenaaDoorShelfP
import Derived.Sort.OwnSortedInts
import Derived.Lib.RowBridge
import Derived.Laws.AppendOwnNone
namespace Go.Proofs.YtjgaidojohgenaaDoor
open Go Go.RowKit Go.Sort


theorem putRow_ahead_heap (w : World) (q g : Nat) (d : Array Int) : (putRow (Value.int .i64) (Sort.ahead w q) g 0 d) = grow (putRow (Value.int .i64) (Sort.ahead w q) g 0 d) #[] := by
  generalize putRow (Value.int .i64) (Sort.ahead w q) g 0 d = W
  cases W
  simp [grow]

section
variable {ops : Array Oper} {rest : List Oper} {o : Oper} {a : Act} {Q : Exit → Act → World → Prop}
/-- append of all numbers of a slice, nil or not. -/
theorem own_appendV {w : World} (hgd : o.guard = none) (s x : Operand) (T : TypeId) (hT : Tryd.prog.underlying T = some (.slice 3)) (ho : o.op = .call { callee := .builtin .append, args := #[s, x], argTypes := #[T, T] })
    (B B' : Nat) (v u : Value) (l news : List Int) (hs : a.eval s = v) (hb : Own B w v l) (hx : a.eval x = u) (hu : Ints B' w u news)
    (h63 : l.length + news.length ≤ 1000000) (hB : B ≤ w.heap.size) (h : ∀ ao cp w', Own B w' (.slice ao (l.length + news.length) cp) (l ++ news) → Turns v w (.slice ao (l.length + news.length) cp) w' → wpList Tryd.prog ops Q rest (a.put o.dst (.slice ao (l.length + news.length) cp)) w') : wpList Tryd.prog ops Q (o :: rest) a w := by
  have hu2 := hu
  obtain ⟨ao, cap, rfl, -, hlc, hnil, -⟩ := hu2
  cases ao with
  | some ad => exact own_append hgd s x T hT ho B v l hs hb ad news.length cap news rfl hx (ints_news hu) h63 hB h
  | none =>
    have hc := hnil rfl
    have h0 : news = [] := List.eq_nil_of_length_eq_zero (by omega)
    subst h0 hc
    obtain ⟨i, hi, hz0, hz1, hz2⟩ := info_parts infoInt
    refine wpList_append_own_none hgd s x T ho B 3 i 1 hT hi v l.length _ hs hb hx ?_
    obtain ⟨av, cv, rfl, -, -, -⟩ := row_slice hb
    exact h av cv w (by simpa using hb) (Turns.refl _ _)
end
def AnyPRel (w : World) (LL : List (List Int)) (gk : Nat) (u3 u8 : Value) (wr : World) : Prop :=
  ∃ k, k ≤ LL.length ∧ gk = LL.length - k ∧ u8 = .int .i64 k ∧ Own w.heap.size wr u3 (LL.take k).flatten ∧ Keeps [] w wr

theorem flat_snoc {LL : List (List Int)} {k : Nat} (hk : k < LL.length) : (LL.take (k + 1)).flatten = (LL.take k).flatten ++ LL[k] := by
  rw [List.take_succ_eq_append_getElem hk, List.flatten_append]
  simp

theorem anyP_len (l : List Int) : (anyP l).length ≤ l.length := by
  unfold anyP
  have := Lib.compact_length_le (l.mergeSort fun x y => decide (x ≤ y))
  rw [List.length_mergeSort] at this
  exact this

end Go.Proofs.YtjgaidojohgenaaDoor
