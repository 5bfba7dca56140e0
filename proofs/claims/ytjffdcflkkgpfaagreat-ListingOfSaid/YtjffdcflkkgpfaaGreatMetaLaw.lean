/-
  What is said of a block, in plain words: a meta that may be, its bytes, and what is taken of them.
  No condition beyond those that each theorem states.
-/
import Derived.Test.YtjffdcflkkgpfaaGreatMark
import Derived.Test.YtjffdcflkkgpfaaGreatSplit
namespace Go.Proofs.YtjffdcflkkgpfaaGreat
open Go Go.RowKit
open Go.Op (bytesLess)

abbrev FileS := ByteArray × Nat × Nat

structure MetaS where
  id : ByteArray
  mn : Nat
  mx : Nat
  level : Nat
  series : Nat
  samples : Nat
  files : List FileS
  sources : List ByteArray

def fileL (f : FileS) : List UInt8 := textL f.1.data.toList ++ (lebL f.2.1 ++ lebL f.2.2)

def textB (s : ByteArray) : List UInt8 := textL s.data.toList

def metaL (m : MetaS) : List UInt8 :=
  textB m.id ++ (lebL m.mn ++ (lebL m.mx ++ (lebL m.level ++ (lebL m.series ++ (lebL m.samples ++ (m.files.flatMap fileL ++ (lebL m.sources.length ++ m.sources.flatMap textB)))))))

/-- It may be said. -/
structure MetaOk (m : MetaS) : Prop where
  id : isIDB m.id.data.toList = true
  time : m.mn < m.mx ∧ m.mx ≤ 1099511627776
  level : 1 ≤ m.level ∧ m.level ≤ 9
  samples : m.series ≤ m.samples ∧ m.samples ≤ 1073741824
  files : ∃ s1 c1 s2 c2, m.files = [(chunksB, s1, c1), (indexB, s2, c2)] ∧ s1 ≤ 1048576 ∧ s2 ≤ 1048576 ∧ c1 < 4294967296 ∧ c2 < 4294967296
  few : m.sources.length ≤ 50
  src : ∀ s ∈ m.sources, isIDB s.data.toList = true ∧ s ≠ m.id
  rise : m.sources.Pairwise fun a b => bytesLess a.data.toList b.data.toList = true

theorem id16 {id : ByteArray} (h : isIDB id.data.toList = true) : id.size = 16 := by
  have := (isID_signs h).1
  rwa [dsize] at this

theorem tkT_text {s : List UInt8} {l : List UInt8} {most : Int} (hm : (s.length : Int) ≤ most) (hmost : most ≤ 9223372036854775807) : tkT (textL s ++ l, 0) most = (s, (l, 0)) := by
  unfold tkT
  rw [if_neg (by simp), takeT_text s l hm hmost]

theorem tkN_leb {n : Nat} {l : List UInt8} {most : Int} (hm : (n : Int) ≤ most) (hmost : most ≤ 9223372036854775807) : tkN (lebL n ++ l, 0) most = ((n : Int), (l, 0)) := by
  unfold tkN
  rw [if_neg (by simp), takeM_leb l hm hmost]

theorem textB_len {s : ByteArray} (h : s.size < 1000000) : (textB s).length ≤ s.size + 10 := by
  unfold textB textL
  rw [List.length_append, dsize]
  have := lebL_len10 (v := s.size) (by omega)
  omega

theorem fileL_len {f : FileS} (h : f.1.size < 1000000) (h1 : f.2.1 < 18446744073709551616) (h2 : f.2.2 < 18446744073709551616) : (fileL f).length ≤ f.1.size + 30 := by
  unfold fileL
  rw [List.length_append, List.length_append]
  have := textB_len h
  have := lebL_len10 h1
  have := lebL_len10 h2
  unfold textB at *
  omega

theorem flat_len_le {α : Type} (F : α → List UInt8) (c : Nat) : ∀ (L : List α), (∀ x ∈ L, (F x).length ≤ c) → (L.flatMap F).length ≤ c * L.length
  | [], _ => by simp
  | x :: L, h => by
    have h1 := h x (by simp)
    have h2 := flat_len_le F c L fun y hy => h y (by simp [hy])
    simp only [List.flatMap_cons, List.length_append, List.length_cons, Nat.mul_add]
    omega

/-- The bytes of a meta are few. -/
theorem MetaOk.len {m : MetaS} (h : MetaOk m) : (metaL m).length ≤ 2000 := by
  obtain ⟨s1, c1, s2, c2, hf, h1, h2, h3, h4⟩ := h.files
  have a1 := textB_len (s := m.id) (by rw [id16 h.id]; omega)
  rw [id16 h.id] at a1
  have a2 := lebL_len10 (v := m.mn) (by have := h.time; omega)
  have a3 := lebL_len10 (v := m.mx) (by have := h.time; omega)
  have a4 := lebL_len10 (v := m.level) (by have := h.level; omega)
  have a5 := lebL_len10 (v := m.series) (by have := h.samples; omega)
  have a6 := lebL_len10 (v := m.samples) (by have := h.samples; omega)
  have a7 := lebL_len10 (v := m.sources.length) (by have := h.few; omega)
  have a8 := flat_len_le textB 26 m.sources fun s hs => by
    have := textB_len (s := s) (by rw [id16 (h.src s hs).1]; omega)
    rw [id16 (h.src s hs).1] at this
    omega
  have a9 := fileL_len (f := (chunksB, s1, c1)) (by show chunksB.size < 1000000; decide) (by simp only; omega) (by simp only; omega)
  have a10 := fileL_len (f := (indexB, s2, c2)) (by show indexB.size < 1000000; decide) (by simp only; omega) (by simp only; omega)
  have z1 : chunksB.size = 6 := rfl
  have z2 : indexB.size = 5 := rfl
  have hfew := h.few
  unfold metaL
  rw [hf]
  simp only [List.length_append, List.flatMap_cons, List.flatMap_nil, List.length_nil]
  simp only [z1, z2] at a9 a10
  omega
end Go.Proofs.YtjffdcflkkgpfaaGreat
