/-
  matcher.parse at any text.
  The variable matcher.signs holds its five signs; the library's variable internal/bytealg.MaxLen holds some number; the text is shorter than 1000000 bytes.
-/
import Derived.Test.YtlifonflgcfafaaGreatDoorMCheck
import Derived.Deep.CutBlock
namespace Go.Proofs.YtlifonflgcfafaaGreatDoor
open Go Go.RowKit

def trimB (s p : ByteArray) : ByteArray := ⟨(Lib.trimPrefix s.data.toList p.data.toList).toArray⟩

def preB (s p : ByteArray) : Bool := Lib.hasPrefix s.data.toList p.data.toList

/-- The kind and the values that stand behind a name. -/
def pickB (rs : ByteArray) : Int × List ByteArray :=
  if preB rs (signOf 2) = true then (2, [trimB rs (signOf 2)]) else if preB rs (signOf 1) = true then (1, [trimB rs (signOf 1)]) else
  if preB rs (signOf 3) = true then (3, [trimB rs (signOf 3)]) else if preB rs (signOf 4) = true then (4, partsB 124 (trimB rs (signOf 4))) else (0, [])

def idxB (s : ByteArray) : Int := Lib.indexAny s.data.toList [61, 33, 94, 64]

def mparseB (s : ByteArray) : Option MatB :=
  if idxB s < 0 then none else
  if chkB ((pickB (s.extract (idxB s).toNat s.size)).1, s.extract 0 (idxB s).toNat, (pickB (s.extract (idxB s).toNat s.size)).2) = true then some ((pickB (s.extract (idxB s).toNat s.size)).1, s.extract 0 (idxB s).toNat, (pickB (s.extract (idxB s).toNat s.size)).2) else none

theorem trimB_size (s p : ByteArray) : (trimB s p).size ≤ s.size := by
  unfold trimB Lib.trimPrefix
  have : s.size = s.data.toList.length := by simp
  split
  · simp only [ByteArray.size, List.size_toArray, List.length_drop, Array.length_toList]
    omega
  · simp

theorem parts_sizes (c : UInt8) : ∀ (n : Nat) (s : ByteArray), s.size ≤ n → (partsB c s).length ≤ s.size + 1 ∧ ∀ x ∈ partsB c s, x.size ≤ s.size := by
  intro n
  induction n with
  | zero =>
    intro s hs
    rcases partsB_index c s with ⟨h1, h2⟩ | ⟨i, h1, h2, h3⟩
    · rw [h2]
      exact ⟨by simp, fun x hx => by rw [List.mem_singleton.1 hx]; exact Nat.le_refl _⟩
    · omega
  | succ n ih =>
    intro s hs
    rcases partsB_index c s with ⟨h1, h2⟩ | ⟨i, h1, h2, h3⟩
    · rw [h2]
      exact ⟨by simp, fun x hx => by rw [List.mem_singleton.1 hx]; exact Nat.le_refl _⟩
    · obtain ⟨k1, k2⟩ := ih (s.extract (i + 1) s.size) (by simp; omega)
      have hz : (s.extract (i + 1) s.size).size = s.size - (i + 1) := by simp
      rw [hz] at k1 k2
      rw [h3]
      refine ⟨by rw [List.length_cons]; omega, fun x hx => ?_⟩
      rcases List.mem_cons.1 hx with rfl | hx
      · simp; omega
      · have := k2 x hx
        omega

theorem pick_sizes (rs : ByteArray) : (pickB rs).2.length ≤ rs.size + 1 ∧ ∀ x ∈ (pickB rs).2, x.size ≤ rs.size := by
  have one : ∀ p, [trimB rs p].length ≤ rs.size + 1 ∧ ∀ x ∈ [trimB rs p], x.size ≤ rs.size := fun p => ⟨by simp, fun x hx => by rw [List.mem_singleton.1 hx]; exact trimB_size rs p⟩
  have ht := trimB_size rs (signOf 4)
  obtain ⟨k1, k2⟩ := parts_sizes 124 _ (trimB rs (signOf 4)) (Nat.le_refl _)
  unfold pickB
  split
  · exact one _
  split
  · exact one _
  split
  · exact one _
  split
  · exact ⟨by show (partsB 124 (trimB rs (signOf 4))).length ≤ _; omega, fun x hx => by have := k2 x hx; omega⟩
  · exact ⟨by simp, fun x hx => by simp at hx⟩

theorem own_cells {W : World} {q B : Nat} {V : List ByteArray} (hB : B ≤ q) (hq : W.heap[q]? = some (.cells (V.map Value.string).toArray 9 (0, 0))) (hl : V.length ≤ maxLen) :
    W.ownsRow B 9 1 (.slice (some ⟨q, 0, none⟩) V.length V.length) V.length (V.map Value.string) :=
  ⟨by simp, .inr ⟨q, V.length, _, rfl, hB, hq, Nat.le_refl _, hl, by simp, by simp [List.take_of_length_le]⟩⟩

/-- What a matcher's text gives. -/
def MPPost (w : World) (r : Option MatB) (e : Ending) (w' : World) : Prop := match r with
  | none => e = .returned (.tuple #[.agg #[.int .i64 0, .string ⟨#[]⟩, .slice none 0 0], .int .i64 3]) ∧ Keeps [] w w'
  | some m => ∃ v, e = .returned (.tuple #[.agg #[.int .i64 m.1, .string m.2.1, v], .int .i64 0]) ∧ w'.ownsRow w.heap.size 9 1 v m.2.2.length (m.2.2.map Value.string) ∧ Keeps [] w w'

theorem mppost_none {w w' : World} {e : Ending} (h : e = .returned (.tuple #[.agg #[.int .i64 0, .string ⟨#[]⟩, .slice none 0 0], .int .i64 3]) ∧ Keeps [] w w') : MPPost w none e w' := h

theorem mppost_some {w w' : World} {m : MatB} {e : Ending} (h : ∃ v, e = .returned (.tuple #[.agg #[.int .i64 m.1, .string m.2.1, v], .int .i64 0]) ∧ w'.ownsRow w.heap.size 9 1 v m.2.2.length (m.2.2.map Value.string) ∧ Keeps [] w w') : MPPost w (some m) e w' := h

theorem signs4_ascii : asciiB ⟨#[61, 33, 94, 64]⟩ := by
  intro j b h
  match j with
  | 0 => cases h; decide
  | 1 => cases h; decide
  | 2 => cases h; decide
  | 3 => cases h; decide
  | n + 4 => simp at h

theorem set3 {w : World} {p : Nat} {x y z : Value} {t : TypeId} (h : w.heap[p]? = some (.cells #[x, y, z] t (0, 0))) (a b c : Value) :
    ∃ W, W = ((w.setCell ⟨p, 0, none⟩ a).setCell ⟨p, 1, none⟩ b).setCell ⟨p, 2, none⟩ c ∧ W.heap[p]? = some (.cells #[a, b, c] t (0, 0)) ∧ Keeps [p] w W :=
  ⟨_, rfl, by simpa using heap_cell_same (i := 2) (heap_cell_same (i := 1) (heap_cell_same (i := 0) h a) b) c, (((Keeps.refl _ w).setCell (.inl (by simp)) _).setCell (.inl (by simp)) _).setCell (.inl (by simp)) _⟩

def zeroMat : Obj := .cells #[.int .i64 0, .string ⟨#[]⟩, .slice none 0 0] 62

def PickAt (w : World) (p5 : Nat) (name : ByteArray) (kv : Int × List ByteArray) (wc : World) : Prop :=
  ∃ v, wc.heap[p5]? = some (.cells #[.int .i64 kv.1, .string name, v] 62 (0, 0)) ∧ wc.ownsRow w.heap.size 9 1 v kv.2.length (kv.2.map Value.string) ∧ wc.heap[w.heap.size]? = some zeroMat ∧ Keeps [] w wc

def MQRel (W : World) (rs : ByteArray) (gk : Nat) (u24 : Value) (wr : World) : Prop := ∃ j, j ≤ 4 ∧ gk = 4 - j ∧ u24 = .int .i64 j ∧ (∀ i, i < j → preB rs (signOf (kindAt i)) = false) ∧ wr = W

end Go.Proofs.YtlifonflgcfafaaGreatDoor
