/-
  Names of blocks' objects (ident.Object, ident.Split).
  Split is asked where the library's variable is laid (LibVar).
-/
import Derived.Test.YtjffdcflkkgpfaaGreatTaker
import Derived.Lib.IndexMore
namespace Go.Proofs.YtjffdcflkkgpfaaGreat
open Go Go.RowKit

/-- The library's variable internal/bytealg.MaxLen holds some number. -/
def LibVar (w : World) : Prop := ∃ m, w.cell? ⟨0, 0, none⟩ = some (.int .i64 m)

theorem libVar_of {w : World} (h : w.ShapedOpen Tryz.prog) : LibVar w :=
  Go.Proofs.cell_of_shapedOpen_int (zero := #[.int .i64 0]) (t := 3) h (of_decide_eq_true (by kernel_rfl)) (by kernel_rfl) rfl (by kernel_rfl) (by kernel_rfl) Tryz.underlying3

theorem LibVar.lt {w : World} (h : LibVar w) : 0 < w.heap.size := by
  obtain ⟨m, hm⟩ := h
  exact World.block_lt_of_cell? w _ hm

theorem LibVar.keep {w w' : World} {S : List Nat} (h : LibVar w) (k : Keeps S w w') (hS : 0 ∉ S) : LibVar w' := by
  have hl := h.lt
  obtain ⟨m, hm⟩ := h
  exact ⟨m, (k.cell hl hS).trans hm⟩

theorem LibVar.same {w w' : World} (h : LibVar w) (k : Keeps [] w w') : LibVar w' := h.keep k (by simp)

theorem LibVar.frame {w w0 w' : World} {S : List Nat} (h : LibVar w) (k : Keeps S w w') (hS : ∀ x ∈ S, w0.heap.size ≤ x) (h0 : LibVar w0) : LibVar w' :=
  h.keep k fun hm => by have := hS _ hm; have := h0.lt; omega


def objectB (id part : ByteArray) : ByteArray := id ++ ⟨#[47]⟩ ++ part

set_option maxRecDepth 100000 in
set_option maxHeartbeats 1000000 in
theorem object_spec (w : World) (id part : ByteArray) (h1 : id.size ≤ 1000000000) (h2 : part.size ≤ 1000000000) :
    Calls Tryz.prog 41 #[.string id, .string part] w fun e w' => e = .returned (.string (objectB id part)) ∧ w = w' := by
  have hz : (id ++ (⟨#[47]⟩ : ByteArray)).size ≤ 1000000001 := by rw [ByteArray.size_append]; show id.size + 1 ≤ _; omega
  go_enter Tryz.func41, Tryz.ntmps41
  go_wp2_with fail
  go_ret
  exact ⟨rfl, rfl⟩


def chunksB : ByteArray := ⟨#[99, 104, 117, 110, 107, 115]⟩

def indexB : ByteArray := ⟨#[105, 110, 100, 101, 120]⟩

def metaB : ByteArray := ⟨#[109, 101, 116, 97]⟩

def markB : ByteArray := ⟨#[109, 97, 114, 107]⟩

def isPart (p : List UInt8) : Bool := p == chunksB.data.toList || p == indexB.data.toList || p == metaB.data.toList || p == markB.data.toList

def splitL (l : List UInt8) : Option (List UInt8 × List UInt8) :=
  if (Lib.cut l [47]).2.2 = true ∧ isIDB (Lib.cut l [47]).1 = true ∧ isPart (Lib.cut l [47]).2.1 = true then some ((Lib.cut l [47]).1, (Lib.cut l [47]).2.1) else none

def splitVals (r : Option (List UInt8 × List UInt8)) : Value := match r with
  | some (a, b) => .tuple #[.string ⟨a.toArray⟩, .string ⟨b.toArray⟩, .bool true]
  | none => .tuple #[.string ⟨#[]⟩, .string ⟨#[]⟩, .bool false]

def SplitPost (w : World) (r : Option (List UInt8 × List UInt8)) (e : Ending) (w' : World) : Prop := e = .returned (splitVals r) ∧ Keeps [] w w'


set_option linter.unusedSimpArgs false in
set_option maxRecDepth 100000 in
set_option maxHeartbeats 1000000 in
theorem split_spec (w : World) (hv : LibVar w) (s : ByteArray) (hs : s.size < 4294967281) :
    Calls Tryz.prog 39 #[.string s] w (SplitPost w (splitL s.data.toList)) := by
  obtain ⟨m, hm⟩ := hv
  have Hc := Lib.hid (Tryz.strings_Cut s ⟨#[47]⟩ m w hs hm)
  rw [show (⟨#[47]⟩ : ByteArray).data.toList = [47] from rfl] at Hc
  have hS : splitL s.data.toList = (if (Lib.cut s.data.toList [47]).2.2 = true ∧ isIDB (Lib.cut s.data.toList [47]).1 = true ∧ isPart (Lib.cut s.data.toList [47]).2.1 = true then some ((Lib.cut s.data.toList [47]).1, (Lib.cut s.data.toList [47]).2.1) else none) := rfl
  generalize splitL s.data.toList = R at hS ⊢
  generalize Lib.cut s.data.toList [47] = c at Hc hS
  obtain ⟨a, b, ok⟩ := c
  simp only at hS
  obtain ⟨xa, hxa⟩ : ∃ s : ByteArray, s = ⟨a.toArray⟩ := ⟨_, rfl⟩
  obtain ⟨xb, hxb⟩ : ∃ s : ByteArray, s = ⟨b.toArray⟩ := ⟨_, rfl⟩
  have Hp := Lib.hid (fun w => parse_spec w xa)
  rw [show xa.data.toList = a from by rw [hxa]] at Hp
  have Hx := Lib.hid (And.intro hxa (And.intro hxb hS))
  have hi : isIDB a = (parseL a).isSome := rfl
  rw [hi] at Hx
  generalize parseL a = pa at Hp Hx
  clear hm hS hxa hxb hi
  cases ok with
  | false =>
    go_enter Tryz.func39, Tryz.ntmps39
    go_wp2_with fail
    refine Hc.out.mono ?_
    rintro e w1 ⟨rfl, nq, rfl⟩
    rw [← Hx.out.1]
    go_wp2_with fail
    refine (Hp.out _).mono ?_
    rintro e w2 ⟨rfl, rfl⟩
    cases pa with
    | none =>
      simp only [parseVals]
      go_wp2_with fail
      go_ret3
      exact ⟨by rw [Hx.out.2.2]; rfl, (Keeps.refl [] w).drewN _⟩
    | some p =>
      obtain ⟨p1, p2⟩ := p
      simp only [parseVals]
      go_wp2_with fail
      go_ret3
      exact ⟨by rw [Hx.out.2.2]; rfl, (Keeps.refl [] w).drewN _⟩
  | true =>
    cases pa with
    | none =>
      go_enter Tryz.func39, Tryz.ntmps39
      go_wp2_with fail
      refine Hc.out.mono ?_
      rintro e w1 ⟨rfl, nq, rfl⟩
      rw [← Hx.out.1]
      go_wp2_with fail
      refine (Hp.out _).mono ?_
      rintro e w2 ⟨rfl, rfl⟩
      simp only [parseVals]
      go_wp2_with fail
      go_ret3
      exact ⟨by rw [Hx.out.2.2]; rfl, (Keeps.refl [] w).drewN _⟩
    | some p =>
      obtain ⟨p1, p2⟩ := p
      go_enter Tryz.func39, Tryz.ntmps39
      go_wp2_with fail
      refine Hc.out.mono ?_
      rintro e w1 ⟨rfl, nq, rfl⟩
      rw [← Hx.out.1, ← Hx.out.2.1]
      go_wp2_with fail
      refine (Hp.out _).mono ?_
      rintro e w2 ⟨rfl, rfl⟩
      simp only [parseVals]
      have hxl : xb.toList = b := by rw [ByteArray.toList_eq, Hx.out.2.1]
      have hpt : isPart b = (xb.toList == [99, 104, 117, 110, 107, 115] || xb.toList == [105, 110, 100, 101, 120] || xb.toList == [109, 101, 116, 97] || xb.toList == [109, 97, 114, 107]) := by rw [hxl]; rfl
      have Hpt := Lib.hid hpt
      clear hxl hpt
      cases h1 : (xb.toList == [99, 104, 117, 110, 107, 115]) with
      | true =>
        go_wp2_with fail
        go_ret3
        exact ⟨by rw [Hx.out.2.2, if_pos (by simp [Hpt.out, h1]), Hx.out.1, Hx.out.2.1]; rfl, (Keeps.refl [] w).drewN _⟩
      | false =>
        cases h2 : (xb.toList == [105, 110, 100, 101, 120]) with
        | true =>
          go_wp2_with fail
          go_ret3
          exact ⟨by rw [Hx.out.2.2, if_pos (by simp [Hpt.out, h1, h2]), Hx.out.1, Hx.out.2.1]; rfl, (Keeps.refl [] w).drewN _⟩
        | false =>
          cases h3 : (xb.toList == [109, 101, 116, 97]) with
          | true =>
            go_wp2_with fail
            go_ret3
            exact ⟨by rw [Hx.out.2.2, if_pos (by simp [Hpt.out, h1, h2, h3]), Hx.out.1, Hx.out.2.1]; rfl, (Keeps.refl [] w).drewN _⟩
          | false =>
            cases h4 : (xb.toList == [109, 97, 114, 107]) with
            | true =>
              go_wp2_with fail
              go_ret3
              exact ⟨by rw [Hx.out.2.2, if_pos (by simp [Hpt.out, h1, h2, h3, h4]), Hx.out.1, Hx.out.2.1]; rfl, (Keeps.refl [] w).drewN _⟩
            | false =>
              go_wp2_with fail
              go_ret3
              exact ⟨by rw [Hx.out.2.2, if_neg (by simp [Hpt.out, h1, h2, h3, h4])]; rfl, (Keeps.refl [] w).drewN _⟩


theorem index_slash : ∀ {a b : List UInt8}, (47 : UInt8) ∉ a → Lib.index (a ++ 47 :: b) [47] = a.length
  | [], b, _ => by simp [Lib.index]
  | c :: a, b, h => by
    simp only [List.mem_cons, not_or] at h
    have ih := index_slash (a := a) (b := b) h.2
    have h1 : ((47 : UInt8) == c) = false := by simpa using h.1
    have h2 : ([47] : List UInt8).isPrefixOf (c :: (a ++ 47 :: b)) = false := by simp [List.isPrefixOf, h1]
    simp only [List.cons_append, Lib.index, h2, ih, List.length_cons]
    have h3 : ((a.length : Int) == -1) = false := by simp
    simp [h3]

theorem cut_slash {a b : List UInt8} (h : (47 : UInt8) ∉ a) : Lib.cut (a ++ 47 :: b) [47] = (a, b, true) := by
  unfold Lib.cut
  rw [index_slash h, if_pos (by omega)]
  simp

theorem num_signs : ∀ (l : List UInt8) {n m : Nat}, numL l n = some m → ∀ c ∈ l, c ∈ signL
  | [], _, _, _, c, hc => by cases hc
  | x :: l, n, m, h, c, hc => by
    simp only [numL] at h
    cases hk : numIx x with
    | none => rw [hk] at h; cases h
    | some k =>
      rw [hk] at h
      rcases List.mem_cons.1 hc with rfl | hc
      · have := List.findIdx?_eq_some_iff_getElem.1 hk
        obtain ⟨h1, h2, _⟩ := this
        have h2 : signL[k] = c := by simpa using h2
        rw [← h2]
        exact List.getElem_mem h1
      · exact num_signs l h c hc

theorem isID_signs {l : List UInt8} (h : isIDB l = true) : l.length = 16 ∧ ∀ c ∈ l, c ∈ signL := by
  unfold isIDB parseL at h
  by_cases hl : l.length = 16
  · rw [if_neg (by simp [hl])] at h
    refine ⟨hl, fun c hc => ?_⟩
    split at h
    · rename_i a b ha hb
      rw [← List.take_append_drop 8 l] at hc
      rcases List.mem_append.1 hc with hc | hc
      · exact num_signs _ ha c hc
      · exact num_signs _ hb c hc
    · cases h
  · rw [if_pos hl] at h
    cases h

theorem isID_slash {l : List UInt8} (h : isIDB l = true) : (47 : UInt8) ∉ l := fun hm => by
  have := (isID_signs h).2 _ hm
  revert this
  decide

/-- An object's name is its block and its part. -/
theorem split_object {id part : List UInt8} (h : isIDB id = true) (hp : isPart part = true) : splitL (id ++ 47 :: part) = some (id, part) := by
  unfold splitL
  rw [cut_slash (isID_slash h), if_pos ⟨rfl, h, hp⟩]

theorem isID_ident {t s : Nat} (ht : t < 1099511627776) (hs : s < 1099511627776) : isIDB (identL t s) = true := by
  unfold isIDB
  rw [parseL_ident ht hs]
  rfl

theorem object_data (id part : ByteArray) : (objectB id part).data.toList = id.data.toList ++ 47 :: part.data.toList := by
  simp [objectB, ByteArray.data_append]

theorem splitL_some {l id part : List UInt8} (h : splitL l = some (id, part)) : l = id ++ 47 :: part ∧ isIDB id = true ∧ isPart part = true := by
  unfold splitL at h
  split at h
  · rename_i hc
    obtain ⟨h1, h2, h3⟩ := hc
    simp only [Option.some.injEq, Prod.mk.injEq] at h
    obtain ⟨rfl, rfl⟩ := h
    refine ⟨?_, h2, h3⟩
    unfold Lib.cut at h1 ⊢
    split at h1
    · rename_i hi
      rw [if_pos hi]
      have hx : ∀ l : List UInt8, 0 ≤ Lib.index l [47] → l = l.take (Lib.index l [47]).toNat ++ 47 :: l.drop ((Lib.index l [47]).toNat + 1) := by
        intro l
        induction l with
        | nil => intro h; simp [Lib.index] at h
        | cons c l ih =>
          intro h
          simp only [Lib.index] at h ⊢
          split
          · rename_i hp
            have : (47 : UInt8) = c := by simpa [List.isPrefixOf] using hp
            subst this
            simp
          · rename_i hp
            rw [if_neg hp] at h
            split
            · rename_i he
              rw [if_pos he] at h
              omega
            · rename_i he
              have he' : Lib.index l [47] ≠ -1 := by simpa using he
              have hge := Lib.index_ge l [47]
              have ih' := ih (by omega)
              rw [show (Lib.index l [47] + 1).toNat = (Lib.index l [47]).toNat + 1 from by omega]
              simp only [List.take_succ_cons, List.cons_append, List.drop_succ_cons]
              exact congrArg _ ih'
      exact hx l hi
    · cases h1
  · cases h


def partsB : List ByteArray := [metaB, indexB, chunksB, markB]

theorem id_size {id : ByteArray} (h : isIDB id.data.toList = true) : id.size = 16 := by
  have := (isID_signs h).1
  rw [dsize] at this
  exact this
end Go.Proofs.YtjffdcflkkgpfaaGreat
