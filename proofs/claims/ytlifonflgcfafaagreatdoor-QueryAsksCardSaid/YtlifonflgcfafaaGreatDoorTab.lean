/-
  Layer 14's tables in memory: rows, each with a slice of pairs and a slice of samples, all of the walk's own. The document's Compare.
  No condition beyond those that each theorem states.
-/
import Derived.Test.YtlifonflgcfafaaGreatDoorTabLaw
namespace Go.Proofs.YtlifonflgcfafaaGreatDoor
open Go Go.RowKit
open Go.Op (bytesLess)

abbrev RowV := Value × Value

def encRV (e : RowV) : List Value := [e.1, e.2]

/-- The slices of some rows. -/
def ElemsAt (tp : TypeId) (w : World) (E : List RowV) (A : TabT) : Prop :=
  E.length = A.length ∧ ∀ i (_ : i < E.length) (_ : i < A.length), w.ownsRow 0 tp 2 E[i].1 A[i].1.length (A[i].1.flatMap encPB) ∧ w.ownsRow 0 42 2 E[i].2 A[i].2.length (A[i].2.flatMap encSm)

def TabAt (tr tp : TypeId) (B : Nat) (w : World) (v : Value) (A : TabT) : Prop := ∃ E : List RowV, w.ownsRow B tr 2 v E.length (E.flatMap encRV) ∧ ElemsAt tp w E A
section
variable {tr tp : TypeId} {B : Nat} {w w' : World} {v : Value} {A : TabT} {E : List RowV}
theorem ElemsAt.keep (h : ElemsAt tp w E A) (k : Keeps [] w w') : ElemsAt tp w' E A := ⟨h.1, fun i hi hi' => ⟨go1 k (h.2 i hi hi').1, go1 k (h.2 i hi hi').2⟩⟩

theorem TabAt.keep (h : TabAt tr tp B w v A) (k : Keeps [] w w') : TabAt tr tp B w' v A := by
  obtain ⟨E, h1, h2⟩ := h
  exact ⟨E, go1 k h1, h2.keep k⟩
end
instance go1Elems {w w' : World} (tp : TypeId) (E : List RowV) (A : TabT) : Go1 w w' (ElemsAt tp w E A) (ElemsAt tp w' E A) := ⟨fun k h => h.keep k⟩

instance go1Tab {w w' : World} (tr tp : TypeId) (B : Nat) (v : Value) (A : TabT) : Go1 w w' (TabAt tr tp B w v A) (TabAt tr tp B w' v A) := ⟨fun k h => h.keep k⟩

theorem tab_nil (tr tp : TypeId) (B : Nat) (w : World) : TabAt tr tp B w (.slice none 0 0) [] := ⟨[], World.ownsRow_nil _ _ _ 2, rfl, fun i hi => by simp at hi⟩

theorem tab_made {tr tp : TypeId} {B : Nat} {w : World} {v : Value} (h : w.ownsRow B tr 2 v 0 []) : TabAt tr tp B w v [] := ⟨[], by simpa using h, rfl, fun i hi => by simp at hi⟩

theorem TabAt.form {tr tp : TypeId} {B : Nat} {w : World} {v : Value} {A : TabT} (h : TabAt tr tp B w v A) : ∃ a c, v = .slice a A.length c := by
  obtain ⟨E, h1, h2⟩ := h
  obtain ⟨a, c, e, -, -, -⟩ := row_slice h1
  exact ⟨a, c, by rw [e, h2.1]⟩

theorem TabAt.base {tr tp : TypeId} {B B' : Nat} {w : World} {v : Value} {A : TabT} (h : TabAt tr tp B w v A) (hB : B' ≤ B) : TabAt tr tp B' w v A := by
  obtain ⟨E, h1, h2⟩ := h
  exact ⟨E, row_base h1 hB, h2⟩

/-- One row. -/
theorem TabAt.at_ {tr tp : TypeId} {B n c : Nat} {w : World} {a : Option Addr} {A : TabT} (h : TabAt tr tp B w (.slice a n c) A) (k : Nat) (hk : k < A.length) :
    ∃ b off u1 u2, a = some ⟨b, off, none⟩ ∧ b < w.heap.size ∧ w.cell? ⟨b, off + k * 2, none⟩ = some u1 ∧ w.cell? ⟨b, off + k * 2 + 1, none⟩ = some u2 ∧ w.ownsRow 0 tp 2 u1 A[k].1.length (A[k].1.flatMap encPB) ∧ w.ownsRow 0 42 2 u2 A[k].2.length (A[k].2.flatMap encSm) := by
  obtain ⟨E, h1, h2⟩ := h
  have hk' : k < E.length := by rw [h2.1]; exact hk
  obtain ⟨b, off, e, _, hb, hc⟩ := sf_at (sliceFrom_row (enc := encRV) (fun _ => rfl) h1) k hk'
  obtain ⟨g1, g2⟩ := h2.2 k hk' hk
  exact ⟨b, off, E[k].1, E[k].2, e, hb, by simpa [encRV] using hc 0 (by decide), by have := hc 1 (by decide); rw [← Nat.add_assoc] at this; simpa [encRV] using this, g1, g2⟩

theorem ElemsAt.snoc {tp : TypeId} {w : World} {E : List RowV} {A : TabT} {u1 u2 : Value} {r : RowT} (h : ElemsAt tp w E A) (g1 : w.ownsRow 0 tp 2 u1 r.1.length (r.1.flatMap encPB)) (g2 : w.ownsRow 0 42 2 u2 r.2.length (r.2.flatMap encSm)) : ElemsAt tp w (E ++ [(u1, u2)]) (A ++ [r]) := by
  refine ⟨by simp [h.1], fun i hi hi' => ?_⟩
  by_cases hlt : i < E.length
  · rw [List.getElem_append_left hlt, List.getElem_append_left (by have := h.1; omega)]
    exact h.2 i hlt (by have := h.1; omega)
  · have e1 : i = E.length := by simp at hi; omega
    subst e1
    have e2 := h.1
    rw [List.getElem_append_right (Nat.le_refl _), List.getElem_append_right (by omega)]
    simp only [e2, Nat.sub_self, List.getElem_cons_zero]
    exact ⟨g1, g2⟩

/-- The rows' own row turned, their slices didn't. -/
theorem ElemsAt.grown {tr tp : TypeId} {B n : Nat} {w w' : World} {v : Value} {xs : List Value} {E : List RowV} {A : TabT} (h : ElemsAt tp w E A) (ho : w.ownsRow B tr 2 v n xs) (k : Keeps v.ownBlock.toList w w') (h1 : tr ≠ tp) (h2 : tr ≠ 42) : ElemsAt tp w' E A :=
  ⟨h.1, fun i hi hi' => ⟨k.row (h.2 i hi hi').1 (rows_ne2 ho (h.2 i hi hi').1 h1), k.row (h.2 i hi hi').2 (rows_ne2 ho (h.2 i hi hi').2 h2)⟩⟩

theorem rv_snoc {w : World} {B : Nat} {v : Value} {E : List RowV} {u1 u2 : Value} {tr : TypeId} (h : w.ownsRow B tr 2 v (E.length + 1) (E.flatMap encRV ++ [u1, u2])) : w.ownsRow B tr 2 v (E ++ [(u1, u2)]).length ((E ++ [(u1, u2)]).flatMap encRV) := by
  rw [List.length_append, List.flatMap_append]
  simpa [encRV] using h

theorem sm_snoc {w : World} {B : Nat} {v : Value} {N : List SmpB} {t : Int} {y : Int} {T : TypeId} (h : w.ownsRow B T 2 v (N.length + 1) (N.flatMap encSm ++ [.int .i64 t, .int .u64 y])) : w.ownsRow B T 2 v (N ++ [(t, y)]).length ((N ++ [(t, y)]).flatMap encSm) := by
  rw [List.length_append, List.flatMap_append]
  simpa [encSm] using h

theorem smp_at {w : World} {a : Option Addr} {n c : Nat} {L : List SmpB} {B : Nat} {T : TypeId} (h : w.ownsRow B T 2 (.slice a n c) L.length (L.flatMap encSm)) (k : Nat) (hk : k < L.length) : ∃ b off, a = some ⟨b, off, none⟩ ∧ b < w.heap.size ∧ w.cell? ⟨b, off + k * 2, none⟩ = some (.int .i64 L[k].1) ∧ w.cell? ⟨b, off + k * 2 + 1, none⟩ = some (.int .u64 L[k].2) := by
  obtain ⟨b, off, e, _, hb, hc⟩ := sf_at (sliceFrom_row (enc := encSm) (fun _ => rfl) h) k hk
  exact ⟨b, off, e, hb, (by simpa [encSm] using hc 0 (by decide)), (by have := hc 1 (by decide); rw [← Nat.add_assoc] at this; simpa [encSm] using this)⟩
end Go.Proofs.YtlifonflgcfafaaGreatDoor
