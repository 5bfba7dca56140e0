/-
  Package barographref06: Sorted: as many pairs as there were.
  The pairs are few.

  Package barographlaw12: Grow: plain laws and forms.
  No condition beyond those that each theorem states.
-/
import Derived.Test.YtlifonflgcfafaaGreatDoorPairs
import Derived.Test.YtlifonflgcfafaaGreatDoorPostDropS
namespace Go.Proofs.YtlifonflgcfafaaGreatDoor
open Go Go.RowKit
open Go.Op (bytesLess)

def SortOut (w : World) (L : List PairB) (gk : Nat) (u3 u13 : Value) (wr : World) : Prop :=
  ∃ (k : Nat) (R : List PairB), k ≤ L.length ∧ gk = L.length - k ∧ u13 = .int .i64 k ∧ (R.length = k ∧ ∀ q ∈ R, q ∈ L) ∧ wr.ownsRow w.heap.size 140 2 u3 R.length (R.flatMap encPB) ∧ Keeps [] w wr

def SortIn (L : List PairB) (wb : World) (nb k gk : Nat) (u6 u7 u20 : Value) (wr : World) : Prop :=
  ∃ (j : Nat) (N : List PairB) (d : Bool), j ≤ k ∧ gk = k - j ∧ u20 = .int .i64 j ∧ u7 = .bool d ∧ (N.length = j + (if d = true then 1 else 0) ∧ ∀ q ∈ N, q ∈ L) ∧ wr.ownsRow nb 140 2 u6 N.length (N.flatMap encPB) ∧ Keeps [] wb wr

theorem snoc_row {w : World} {B : Nat} {v : Value} {N : List PairB} {q1 q2 : ByteArray} {T : TypeId} {n : Nat} (hn : n = N.length + 1) (h : w.ownsRow B T 2 v (N.length + 1) (N.flatMap encPB ++ [.string q1, .string q2])) : (N ++ [(q1, q2)]).length = n ∧ w.ownsRow B T 2 v (N ++ [(q1, q2)]).length ((N ++ [(q1, q2)]).flatMap encPB) := by
  rw [List.length_append, List.flatMap_append]
  exact ⟨by rw [hn]; rfl, by simpa [encPB] using h⟩

theorem mem_snocP {N L : List PairB} {p : PairB} (h : ∀ q ∈ N, q ∈ L) (hp : p ∈ L) : ∀ q ∈ N ++ [p], q ∈ L := fun q hq => by
  rcases List.mem_append.1 hq with hq | hq
  · exact h q hq
  · obtain rfl : q = p := by simpa using hq
    exact hp

end Go.Proofs.YtlifonflgcfafaaGreatDoor

namespace Go.Proofs.YtlifonflgcfafaaGreatDoor
open Go Go.RowKit

theorem mem_putG {α : Type} {k : ByteArray} {v : α} {q : ByteArray × α} : ∀ {M : List (ByteArray × α)}, q ∈ put M k v → q = (k, v) ∨ q ∈ M
  | [], h => .inl (by simpa [put] using h)
  | (k', x) :: r, h => by
    unfold put at h
    split at h
    · rcases List.mem_cons.1 h with h | h
      · exact .inl h
      · exact .inr (List.mem_cons_of_mem _ h)
    · rcases List.mem_cons.1 h with h | h
      · exact .inr (by rw [h]; exact List.mem_cons_self)
      · exact (mem_putG h).imp_right (List.mem_cons_of_mem _)

theorem keys_putG {α : Type} {k : ByteArray} {v : α} : ∀ {M : List (ByteArray × α)}, k ∈ (put M k v).map (·.1) ∧ ∀ x ∈ M.map (·.1), x ∈ (put M k v).map (·.1)
  | [] => by simp [put]
  | (k', x) :: r => by
    have ih := keys_putG (k := k) (v := v) (M := r)
    unfold put
    split
    · rename_i h
      subst h
      exact ⟨by simp, fun y hy => by simpa using hy⟩
    · refine ⟨by rw [List.map_cons]; exact List.mem_cons_of_mem _ ih.1, fun y hy => ?_⟩
      rw [List.map_cons] at hy ⊢
      rcases List.mem_cons.1 hy with rfl | hy
      · exact List.mem_cons_self
      · exact List.mem_cons_of_mem _ (ih.2 y hy)

def encOne (x : Value × Bool) : List Value := [x.1, .bool x.2]

def OnesOk (w : World) (XS : List (Value × Bool)) : Prop := ∀ x ∈ XS, ∃ L : List PairB, SliceArg 2 encPB w x.1 L

theorem one_at {w : World} {v : Value} {L : List (Value × Bool)} (h : SliceArg 2 encOne w v L) (k : Nat) (hk : k < L.length) : ∃ b off cap, v = .slice (some ⟨b, off, none⟩) L.length cap ∧ b < w.heap.size ∧ w.cell? ⟨b, off + k * 2, none⟩ = some L[k].1 ∧ w.cell? ⟨b, off + k * 2 + 1, none⟩ = some (.bool L[k].2) := by
  obtain ⟨ao, cap, e, hl, h⟩ := h
  obtain ⟨b, off, e2, hb, hc⟩ := h k hk
  subst e2
  exact ⟨b, off, cap, e, hb, hc 0 (by decide), (by have := hc 1 (by decide); rw [← Nat.add_assoc] at this; exact this)⟩

theorem row_argP {B : Nat} {w : World} {e : TypeId} {v : Value} {P : List PairB} (h : w.ownsRow B e 2 v P.length (P.flatMap encPB)) : SliceArg 2 encPB w v P := (sliceFrom_row (enc := encPB) (fun _ => rfl) h).arg

theorem few6_len (L : List PairB) : (few6 L).length ≤ 10 := by
  unfold few6
  rw [List.length_map, List.length_take]
  omega

theorem row_snoc {w : World} {B : Nat} {v : Value} {N : List PairB} {q1 q2 : ByteArray} {T : TypeId} (h : w.ownsRow B T 2 v (N.length + 1) (N.flatMap encPB ++ [.string q1, .string q2])) : w.ownsRow B T 2 v (N ++ [(q1, q2)]).length ((N ++ [(q1, q2)]).flatMap encPB) := by
  rw [List.length_append, List.flatMap_append]
  simpa [encPB] using h

structure SeenOk (S : List PairB) (M : List (ByteArray × Int)) (j : Nat) : Prop where
  len : S.length ≤ j
  nodup : (S.map (·.1)).Nodup
  keys : ∀ p ∈ S, p.1 ∈ M.map (·.1)
  cnt : ∀ q ∈ M, 1 ≤ q.2 ∧ q.2 ≤ j

theorem SeenOk.bound {S : List PairB} {M : List (ByteArray × Int)} {j : Nat} (h : SeenOk S M j) (k : ByteArray) : 0 ≤ (look M k).getD 0 ∧ (look M k).getD 0 ≤ j ∧ ((look M k).getD 0 = 0 → k ∉ M.map (·.1)) := by
  cases hk : look M k with
  | none => exact ⟨by simp, by simp, fun _ => (look_none_iff k M).1 hk⟩
  | some c =>
    have := h.cnt _ (look_mem hk)
    simp only [Option.getD_some]
    simp only at this
    exact ⟨by omega, by omega, fun e => by omega⟩

theorem SeenOk.again {S : List PairB} {M : List (ByteArray × Int)} {j : Nat} (h : SeenOk S M j) (k : ByteArray) : SeenOk S (put M k ((look M k).getD 0 + 1)) (j + 1) := by
  refine ⟨Nat.le_succ_of_le h.len, h.nodup, fun p hp => keys_putG.2 _ (h.keys p hp), fun q hq => ?_⟩
  rcases mem_putG hq with rfl | hq
  · have := h.bound k
    simp only
    omega
  · have := h.cnt q hq
    omega

theorem SeenOk.first {S : List PairB} {M : List (ByteArray × Int)} {j : Nat} (h : SeenOk S M j) (p1 p2 : ByteArray) (h0 : (look M p1).getD 0 = 0) : SeenOk (S ++ [(p1, p2)]) (put M p1 ((look M p1).getD 0 + 1)) (j + 1) := by
  have ha := h.again p1
  have hn := (h.bound p1).2.2 h0
  refine ⟨by rw [List.length_append]; exact Nat.succ_le_succ h.len, ?_, fun p hp => ?_, ha.cnt⟩
  · rw [List.map_append, List.nodup_append]
    refine ⟨h.nodup, by simp, fun x hx y hy e => ?_⟩
    obtain ⟨p, hp, rfl⟩ := List.mem_map.1 hx
    have : y = p1 := by simpa using hy
    exact hn (this ▸ e ▸ h.keys p hp)
  · rcases List.mem_append.1 hp with hp | hp
    · exact ha.keys p hp
    · obtain rfl : p = (p1, p2) := by simpa using hp
      exact keys_putG.1
end Go.Proofs.YtlifonflgcfafaaGreatDoor
