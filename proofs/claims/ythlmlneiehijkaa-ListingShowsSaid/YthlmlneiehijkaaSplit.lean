/-
  Names of blocks' objects (ident.Object, ident.Split).
  Split is asked where the library's variable is laid (LibVar).
-/
import Derived.Test.YthlmlneiehijkaaTaker
import Derived.Lib.IndexMore
namespace Go.Proofs.Ythlmlneiehijkaa
open Go Go.RowKit

/-- The library's variable internal/bytealg.MaxLen holds some number. -/
def LibVar (w : World) : Prop := ∃ m, w.cell? ⟨0, 0, none⟩ = some (.int .i64 m)

theorem libVar_of {w : World} (h : w.ShapedOpen Try.prog) : LibVar w :=
  Go.Proofs.cell_of_shapedOpen_int (zero := #[.int .i64 0]) (t := 3) h (of_decide_eq_true (by kernel_rfl)) (by kernel_rfl) rfl (by kernel_rfl) (by kernel_rfl) Try.underlying3

theorem LibVar.lt {w : World} (h : LibVar w) : 0 < w.heap.size := by
  obtain ⟨m, hm⟩ := h
  exact World.block_lt_of_cell? w _ hm

theorem LibVar.keep {w w' : World} {S : List Nat} (h : LibVar w) (k : Keeps S w w') (hS : 0 ∉ S) : LibVar w' := by
  have hl := h.lt
  obtain ⟨m, hm⟩ := h
  exact ⟨m, (k.cell hl hS).trans hm⟩

theorem LibVar.same {w w' : World} (h : LibVar w) (k : Keeps [] w w') : LibVar w' := h.keep k (by simp)

theorem LibVar.frame {w w0 w' : World} {S : List Nat} (h : LibVar w) (k : Keeps S w w') (hS : ∀ x ∈ S, w0.heap.size ≤ x) (h0 : LibVar w0) : LibVar w' :=
  h.keep k fun hm => by have := hS _ hm; have := h0.lt; omega


def objectB (id part : ByteArray) : ByteArray := id ++ ⟨#[47]⟩ ++ part


def chunksB : ByteArray := ⟨#[99, 104, 117, 110, 107, 115]⟩

def indexB : ByteArray := ⟨#[105, 110, 100, 101, 120]⟩

def metaB : ByteArray := ⟨#[109, 101, 116, 97]⟩

def markB : ByteArray := ⟨#[109, 97, 114, 107]⟩

def isPart (p : List UInt8) : Bool := p == chunksB.data.toList || p == indexB.data.toList || p == metaB.data.toList || p == markB.data.toList

def splitL (l : List UInt8) : Option (List UInt8 × List UInt8) :=
  if (Lib.cut l [47]).2.2 = true ∧ isIDB (Lib.cut l [47]).1 = true ∧ isPart (Lib.cut l [47]).2.1 = true then some ((Lib.cut l [47]).1, (Lib.cut l [47]).2.1) else none

def splitVals (r : Option (List UInt8 × List UInt8)) : Value := match r with
  | some (a, b) => .tuple #[.string ⟨a.toArray⟩, .string ⟨b.toArray⟩, .bool true]
  | none => .tuple #[.string ⟨#[]⟩, .string ⟨#[]⟩, .bool false]

def SplitPost (w : World) (r : Option (List UInt8 × List UInt8)) (e : Ending) (w' : World) : Prop := e = .returned (splitVals r) ∧ Keeps [] w w'



theorem index_slash : ∀ {a b : List UInt8}, (47 : UInt8) ∉ a → Lib.index (a ++ 47 :: b) [47] = a.length
  | [], b, _ => by simp [Lib.index]
  | c :: a, b, h => by
    simp only [List.mem_cons, not_or] at h
    have ih := index_slash (a := a) (b := b) h.2
    have h1 : ((47 : UInt8) == c) = false := by simpa using h.1
    have h2 : ([47] : List UInt8).isPrefixOf (c :: (a ++ 47 :: b)) = false := by simp [List.isPrefixOf, h1]
    simp only [List.cons_append, Lib.index, h2, ih, List.length_cons]
    have h3 : ((a.length : Int) == -1) = false := by simp
    simp [h3]

theorem cut_slash {a b : List UInt8} (h : (47 : UInt8) ∉ a) : Lib.cut (a ++ 47 :: b) [47] = (a, b, true) := by
  unfold Lib.cut
  rw [index_slash h, if_pos (by omega)]
  simp

theorem num_signs : ∀ (l : List UInt8) {n m : Nat}, numL l n = some m → ∀ c ∈ l, c ∈ signL
  | [], _, _, _, c, hc => by cases hc
  | x :: l, n, m, h, c, hc => by
    simp only [numL] at h
    cases hk : numIx x with
    | none => rw [hk] at h; cases h
    | some k =>
      rw [hk] at h
      rcases List.mem_cons.1 hc with rfl | hc
      · have := List.findIdx?_eq_some_iff_getElem.1 hk
        obtain ⟨h1, h2, _⟩ := this
        have h2 : signL[k] = c := by simpa using h2
        rw [← h2]
        exact List.getElem_mem h1
      · exact num_signs l h c hc

theorem isID_signs {l : List UInt8} (h : isIDB l = true) : l.length = 16 ∧ ∀ c ∈ l, c ∈ signL := by
  unfold isIDB parseL at h
  by_cases hl : l.length = 16
  · rw [if_neg (by simp [hl])] at h
    refine ⟨hl, fun c hc => ?_⟩
    split at h
    · rename_i a b ha hb
      rw [← List.take_append_drop 8 l] at hc
      rcases List.mem_append.1 hc with hc | hc
      · exact num_signs _ ha c hc
      · exact num_signs _ hb c hc
    · cases h
  · rw [if_pos hl] at h
    cases h

theorem isID_slash {l : List UInt8} (h : isIDB l = true) : (47 : UInt8) ∉ l := fun hm => by
  have := (isID_signs h).2 _ hm
  revert this
  decide

/-- An object's name is its block and its part. -/
theorem split_object {id part : List UInt8} (h : isIDB id = true) (hp : isPart part = true) : splitL (id ++ 47 :: part) = some (id, part) := by
  unfold splitL
  rw [cut_slash (isID_slash h), if_pos ⟨rfl, h, hp⟩]

theorem isID_ident {t s : Nat} (ht : t < 1099511627776) (hs : s < 1099511627776) : isIDB (identL t s) = true := by
  unfold isIDB
  rw [parseL_ident ht hs]
  rfl

theorem object_data (id part : ByteArray) : (objectB id part).data.toList = id.data.toList ++ 47 :: part.data.toList := by
  simp [objectB, ByteArray.data_append]

theorem splitL_some {l id part : List UInt8} (h : splitL l = some (id, part)) : l = id ++ 47 :: part ∧ isIDB id = true ∧ isPart part = true := by
  unfold splitL at h
  split at h
  · rename_i hc
    obtain ⟨h1, h2, h3⟩ := hc
    simp only [Option.some.injEq, Prod.mk.injEq] at h
    obtain ⟨rfl, rfl⟩ := h
    refine ⟨?_, h2, h3⟩
    unfold Lib.cut at h1 ⊢
    split at h1
    · rename_i hi
      rw [if_pos hi]
      have hx : ∀ l : List UInt8, 0 ≤ Lib.index l [47] → l = l.take (Lib.index l [47]).toNat ++ 47 :: l.drop ((Lib.index l [47]).toNat + 1) := by
        intro l
        induction l with
        | nil => intro h; simp [Lib.index] at h
        | cons c l ih =>
          intro h
          simp only [Lib.index] at h ⊢
          split
          · rename_i hp
            have : (47 : UInt8) = c := by simpa [List.isPrefixOf] using hp
            subst this
            simp
          · rename_i hp
            rw [if_neg hp] at h
            split
            · rename_i he
              rw [if_pos he] at h
              omega
            · rename_i he
              have he' : Lib.index l [47] ≠ -1 := by simpa using he
              have hge := Lib.index_ge l [47]
              have ih' := ih (by omega)
              rw [show (Lib.index l [47] + 1).toNat = (Lib.index l [47]).toNat + 1 from by omega]
              simp only [List.take_succ_cons, List.cons_append, List.drop_succ_cons]
              exact congrArg _ ih'
      exact hx l hi
    · cases h1
  · cases h

end Go.Proofs.Ythlmlneiehijkaa
