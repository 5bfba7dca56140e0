/-
  A region that draws its order and whose operations only read, its calls making new memory at most: one walk in the order of the text. An append in a region that draws, told whole. The length of a map.
  No condition beyond those that each theorem states.
-/
import Derived.Test.YthlmlneiehijkaaStb
import Derived.BigQuiet
namespace Go.Proofs.Ythlmlneiehijkaa
open Go Go.RowKit

/-- A world in which only new blocks have come since W. -/
structure Kept (W : World) where
  val : World
  property : Keeps [] W val
instance (W : World) : Nonempty (Kept W) := ⟨⟨W, Keeps.refl [] W⟩⟩
theorem wp_region_kept {P : Program} {id : Nat} {Q : Exit → Act → World → Prop} {a : Act} {w : World} {l : List Oper} (W : World) (hm : P.follows .mixedOrders = true) (hB : Region.lexB .any l.toArray = true) (hW : Keeps [] W w.drew)
    (h : wpQuiet P l.toArray (fun w' => ∃ s : Kept W, w' = s.val) (fun a' => ∀ w', (∃ s : Kept W, w' = s.val) → Q .normal a' w') l a) : (Code.region id l.toArray true).wp P Q a w :=
  wp_region_quiet (C := fun w' => ∃ s : Kept W, w' = s.val) hm hB ⟨⟨_, hW⟩, rfl⟩ h

theorem Calls.kept {P : Program} {f : FuncId} {args : Array Value} {W : World} {s : Kept W} {v : Value} (h : ∀ w, Keeps [] W w → Calls P f args w fun e w' => e = .returned v ∧ Keeps [] w w') :
    Calls P f args s.val fun e w'' => e = .returned v ∧ ∃ s' : Kept W, w'' = s'.val :=
  (h s.val s.property).mono fun _ w'' ⟨he, hk⟩ => ⟨he, ⟨w'', s.property.trans hk⟩, rfl⟩

/-- append onto a slice of the walk's own, as one step of a region that draws: whether it is nil, too. -/
theorem step_append_ownN {P : Program} {ops : Array Oper} {o : Oper} {a : Act} {w : World} {K : Act → World → Prop} {Q : Exit → Act → World → Prop} {E : Prop}
    (hg : o.guard = none) (s x : Operand) (t : TypeId) (hop : o.op = Op.call { callee := Callee.builtin Builtin.append, args := #[s, x], argTypes := #[t, t] })
    (base : Nat) (e : TypeId) (i : TypeInfo) (z : Value) (size bytes : Nat) (h1 : P.underlying t = some (.slice e)) (h2 : P.info? e = some i) (h3 : i.zero = some z) (h4 : i.size = size) (h5 : i.bytes = bytes) (h6 : z.cells.size = size) (h7 : 0 < size)
    (v : Value) (n : Nat) (xs : List Value) (hs : a.eval s = v) (hown : w.ownsRow base e size v n xs)
    (ad : Addr) (m c : Nat) (news : List Value) (hx : a.eval x = .slice (some ad) m c) (hn : news.length = m * size) (hc : ∀ j u, news[j]? = some u → w.cell? (ad.add j) = some u) (h1c : ∀ u ∈ news, u.oneCell' = true)
    (b1 : n + m ≤ maxLen) (b2 : (n + m) * bytes ≤ 140737488355328) (b3 : base ≤ w.heap.size)
    (hK : ∀ v' w', w'.ownsRow base e size v' (n + m) (xs ++ news) → w.grownBy w' v.ownBlock → (v' = .slice none 0 0 ↔ v = .slice none 0 0 ∧ m = 0) → K (a.put o.dst v') w') :
    if Region.wanted o (yielded ops a.tmps) = true then Oper.wp P o a w K Q else E := by
  have hw : Region.wanted o (yielded ops a.tmps) = true := by simp [Region.wanted, hg]
  rw [if_pos hw]
  obtain ⟨v', w', hrun, r1, r2, r3⟩ := run_append_own (P := P) w base t o.type e i z size bytes h1 h2 h3 h4 h5 h6 h7 v n xs hown ad m c news hn hc h1c b1 b2 b3
  unfold Oper.wp
  simp [execOp, hop, resolve, invoke, builtin, hs, hx, hrun, Result.andThen]
  exact hK v' w' r1 r2 r3

theorem MapAt.run_lenK {P : Program} {w : World} {b : Nat} {m : KV} {t k e : TypeId} (h : MapAt w b m) (ht : P.underlying t = some (.map k e)) (ty : TypeId) : (Builtin.len_ #[t] ty #[.map (some b)]).run P w = .ok (.int .i64 m.length) w := by
  obtain ⟨E, c, h1, h2, rfl⟩ := h
  simp [Builtin.len_, run_underlying ht, MapKept.run_getObj_map h1, goInt, Result.andThen, pairs]
end Go.Proofs.Ythlmlneiehijkaa
