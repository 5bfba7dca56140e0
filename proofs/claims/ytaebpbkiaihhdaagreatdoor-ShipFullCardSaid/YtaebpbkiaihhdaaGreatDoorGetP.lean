/-
  The value of a name in a set of pairs: the program's Get and the document's.
  No condition beyond those that each theorem states.

  Does a matcher fit a value: the program's Fits and the document's.
  The matcher is one that may be: kind 1 to 4, at least one value.

  Does a matcher fit a value: the document's Fits.
  The matcher is one that may be: kind 1 to 4, at least one value.

  Do matchers match a set of pairs: the program's Match and the document's.
  Every matcher is one that may be: kind 1 to 4, at least one value.

  A plain text: at most 40 bytes, none of them a sign: the document's.
  No condition beyond those that each theorem states.

  Which matchers may be: the document's Check.
  The texts are no longer than a slice may be.

  Package barographlaw13: short: a matcher's name and its first twelve values, each cut to 42 bytes.
  No condition beyond those that each theorem states.

  Package barographlaw13: Few: at most four matchers that may be, as the program's and as the document's.
  No condition beyond those that each theorem states.

  Rows of pairs as arguments; matchers and arguments kept.
  No condition beyond those that each theorem states.
-/
import Derived.Test.YtaebpbkiaihhdaaGreatDoorPairs
import Derived.Test.YtaebpbkiaihhdaaGreatDoorShelfA
import Derived.Lib.SlicesS
import Derived.Lib.SlBytesConst
import Derived.Test.YtaebpbkiaihhdaaGreatDoorRegion
import Derived.Test.YtaebpbkiaihhdaaGreatDoorLabel1
namespace Go.Proofs.YtaebpbkiaihhdaaGreatDoor
open Go Go.RowKit

def getP : List PairB → ByteArray → ByteArray
  | [], _ => ⟨#[]⟩
  | p :: r, x => if p.1 = x then p.2 else getP r x

theorem getP_drop (L : List PairB) (x : ByteArray) (k : Nat) (hk : k < L.length) : getP (L.drop k) x = if L[k].1 = x then L[k].2 else getP (L.drop (k + 1)) x := by
  rw [List.drop_eq_getElem_cons hk]
  rfl

def GetRel (w : World) (L : List PairB) (x : ByteArray) (gk : Nat) (u9 : Value) (wr : World) : Prop := ∃ k, k ≤ L.length ∧ gk = L.length - k ∧ u9 = .int .i64 k ∧ getP (L.drop k) x = getP L x ∧ Keeps [] w wr


end Go.Proofs.YtaebpbkiaihhdaaGreatDoor

namespace Go.Proofs.YtaebpbkiaihhdaaGreatDoor
open Go Go.RowKit

def encS1 (s : ByteArray) : List Value := [.string s]

def fitsB (k : Int) (V : List ByteArray) (x : ByteArray) : Bool :=
  if k = 2 then !(Lib.containsS V x) else if k = 3 then decide (x ≠ ⟨#[]⟩) && Lib.hasPrefix x.data.toList (V.getD 0 ByteArray.empty).data.toList else Lib.containsS V x

theorem texts_at {w : World} {v : Value} {V : List ByteArray} (h : SliceArg 1 encS1 w v V) (hV : 0 < V.length) : ∃ b off cap, v = .slice (some ⟨b, off, none⟩) V.length cap ∧ b < w.heap.size ∧ ∀ j, j < V.length → w.cell? ⟨b, off + j, none⟩ = some (.string (V.getD j ByteArray.empty)) := by
  obtain ⟨ao, cap, e, hl, h⟩ := h
  obtain ⟨b, off, e2, hb, hc⟩ := h 0 hV
  subst e2
  refine ⟨b, off, cap, e, hb, fun j hj => ?_⟩
  obtain ⟨b', off', e3, -, hc'⟩ := h j hj
  injection e3 with e3
  injection e3 with e4 e5 _
  subst e4 e5
  have := hc' 0 (by decide)
  rw [Nat.mul_one, Nat.add_zero] at this
  rw [this, List.getD_eq_getElem?_getD, List.getElem?_eq_getElem hj]
  rfl

end Go.Proofs.YtaebpbkiaihhdaaGreatDoor

namespace Go.Proofs.YtaebpbkiaihhdaaGreatDoor
open Go Go.RowKit

def inB (V : List ByteArray) (x : ByteArray) : Bool := V.any fun v => decide (v = x)

theorem inB_contains (V : List ByteArray) (x : ByteArray) : inB V x = Lib.containsS V x := by
  rw [Bool.eq_iff_iff, Lib.containsS_iff]
  simp [inB]

theorem inB_succ (V : List ByteArray) (x : ByteArray) (k : Nat) (hk : k < V.length) : inB (V.take (k + 1)) x = (inB (V.take k) x || decide (V[k] = x)) := by
  unfold inB
  rw [List.take_add_one, List.getElem?_eq_getElem hk, Option.toList_some, List.any_append]
  simp

theorem hasPrefix_cut (x p : ByteArray) : Lib.hasPrefix x.data.toList p.data.toList = (decide ((p.size : Int) ≤ (x.size : Int)) && decide (x.extract 0 p.size = p)) := by
  rw [Bool.eq_iff_iff]
  unfold Lib.hasPrefix
  rw [List.isPrefixOf_iff_prefix, Bool.and_eq_true, decide_eq_true_eq, decide_eq_true_eq, List.prefix_iff_eq_take]
  constructor
  · intro h
    have hl := congrArg List.length h
    simp only [List.length_take] at hl
    have hs1 : p.data.toList.length = p.size := by simp
    have hs2 : x.data.toList.length = x.size := by simp
    refine ⟨by omega, ba_ext ?_⟩
    rw [h]
    simp [ByteArray.data_extract, Array.toList_extract, List.extract_eq_take_drop]
  · rintro ⟨h1, h2⟩
    have h3 := congrArg (fun s : ByteArray => s.data.toList) h2
    simp only [ByteArray.data_extract, Array.toList_extract, List.extract_eq_take_drop, List.drop_zero, Nat.sub_zero] at h3
    rw [show p.data.toList.length = p.size from by simp]
    exact h3.symm

def FitsRel (w : World) (V : List ByteArray) (x : ByteArray) (gk : Nat) (u5 u12 : Value) (wr : World) : Prop := ∃ k, k ≤ V.length ∧ gk = V.length - k ∧ u5 = .bool (inB (V.take k) x) ∧ u12 = .int .i64 k ∧ wr = w

end Go.Proofs.YtaebpbkiaihhdaaGreatDoor

namespace Go.Proofs.YtaebpbkiaihhdaaGreatDoor
open Go Go.RowKit

/-- A matcher: its kind, its name, its values. -/
abbrev MatB := Int × ByteArray × List ByteArray

abbrev MatV := Int × ByteArray × Value

def encMV (m : MatV) : List Value := [.int .i64 m.1, .string m.2.1, m.2.2]

/-- The slice v holds the matchers L. -/
def MatsAt (w : World) (v : Value) (L : List MatB) : Prop :=
  ∃ E : List MatV, SliceArg 3 encMV w v E ∧ E.length = L.length ∧ ∀ i (h : i < E.length) (h' : i < L.length), E[i].1 = L[i].1 ∧ E[i].2.1 = L[i].2.1 ∧ SliceArg 1 encS1 w E[i].2.2 L[i].2.2

theorem MatsAt.keep {w w' : World} {v : Value} {L : List MatB} (h : MatsAt w v L) (k : Keeps [] w w') : MatsAt w' v L := by
  obtain ⟨E, h1, h2, h3⟩ := h
  exact ⟨E, h1.keep k, h2, fun i hi hi' => ⟨(h3 i hi hi').1, (h3 i hi hi').2.1, (h3 i hi hi').2.2.keep k⟩⟩

theorem MatsAt.form {w : World} {v : Value} {L : List MatB} (h : MatsAt w v L) : ∃ ao cap, v = .slice ao L.length cap ∧ L.length ≤ maxLen := by
  obtain ⟨E, ⟨ao, cap, e, hl, -⟩, h2, -⟩ := h
  exact ⟨ao, cap, by rw [e, h2], by omega⟩

theorem MatsAt.at_ {w : World} {v : Value} {L : List MatB} (h : MatsAt w v L) (k : Nat) (hk : k < L.length) : ∃ b off cap u, v = .slice (some ⟨b, off, none⟩) L.length cap ∧ b < w.heap.size ∧
    w.cell? ⟨b, off + k * 3, none⟩ = some (.int .i64 L[k].1) ∧ w.cell? ⟨b, off + k * 3 + 1, none⟩ = some (.string L[k].2.1) ∧ w.cell? ⟨b, off + k * 3 + 2, none⟩ = some u ∧ SliceArg 1 encS1 w u L[k].2.2 := by
  obtain ⟨E, ⟨ao, cap, e, hl, hc⟩, h2, h3⟩ := h
  have hk' : k < E.length := by omega
  obtain ⟨b, off, e2, hb, hcell⟩ := hc k hk'
  obtain ⟨x1, x2, x3⟩ := h3 k hk' hk
  subst e2
  refine ⟨b, off, cap, E[k].2.2, by rw [e, h2], hb, ?_, ?_, ?_, x3⟩
  · rw [← x1]; exact hcell 0 (by decide)
  · rw [← x2]; have := hcell 1 (by decide); rw [← Nat.add_assoc] at this; exact this
  · have := hcell 2 (by decide); rw [← Nat.add_assoc] at this; exact this

def mayK (m : MatB) : Prop := (m.1 = 1 ∨ m.1 = 2 ∨ m.1 = 3 ∨ m.1 = 4) ∧ 0 < m.2.2.length

def fitsM (S : List PairB) (m : MatB) : Bool := fitsB m.1 m.2.2 (getP S m.2.1)

def MatchRel (w : World) (S : List PairB) (L : List MatB) (gk : Nat) (u9 : Value) (wr : World) : Prop := ∃ k, k ≤ L.length ∧ gk = L.length - k ∧ u9 = .int .i64 k ∧ (L.take k).all (fitsM S) = true ∧ Keeps [] w wr


end Go.Proofs.YtaebpbkiaihhdaaGreatDoor

namespace Go.Proofs.YtaebpbkiaihhdaaGreatDoor
open Go Go.RowKit

def signsL : List UInt8 := [61, 33, 94, 64, 44, 124]

def plainB (s : ByteArray) : Bool := s.data.toList.all (fun b => !(signsL.contains b)) && decide (s.size ≤ 40)

def PlainRel (w : World) (s : ByteArray) (gk : Nat) (u3 : Value) (wr : World) : Prop := ∃ i, i ≤ s.size ∧ gk = s.size - i ∧ u3 = .int .i64 i ∧ (s.data.toList.take i).all (fun b => !(signsL.contains b)) = true ∧ Keeps [] w wr

def PlainIn (W : World) (x : UInt8) (gk : Nat) (u15 : Value) (wr : World) : Prop := ∃ j, j ≤ 6 ∧ gk = 6 - j ∧ u15 = .int .i64 j ∧ (signsL.take j).contains x = false ∧ wr = W

theorem plain_in (x : UInt8) (j : Nat) (hj : j < signsL.length) : (signsL.take (j + 1)).contains x = ((signsL.take j).contains x || decide (x = signsL[j])) := by
  rw [List.take_add_one, List.getElem?_eq_getElem hj, Option.toList_some]
  rw [List.contains_append]
  simp

end Go.Proofs.YtaebpbkiaihhdaaGreatDoor

namespace Go.Proofs.YtaebpbkiaihhdaaGreatDoor
open Go Go.RowKit

def valB (k : Int) (v : ByteArray) : Bool := plainB v && !(decide (k = 3) && decide (v = ⟨#[]⟩))

def headB (k : Int) (n : ByteArray) (l : Nat) : Bool := decide (1 ≤ k) && decide (k ≤ 4) && decide (n ≠ ⟨#[]⟩) && plainB n && decide (l ≠ 0) && decide (l ≤ 10) && !(decide (k < 4) && decide (1 < l))

def chkB (m : MatB) : Bool := headB m.1 m.2.1 m.2.2.length && m.2.2.all (valB m.1)

theorem chkB_may {m : MatB} (h : chkB m = true) : mayK m := by
  unfold chkB headB at h
  simp only [Bool.and_eq_true, decide_eq_true_eq] at h
  obtain ⟨⟨⟨⟨⟨⟨⟨h1, h2⟩, -⟩, -⟩, h5⟩, -⟩, -⟩, -⟩ := h
  exact ⟨by omega, by omega⟩

def ChkVRel (w : World) (k : Int) (V : List ByteArray) (gk : Nat) (u50 : Value) (wr : World) : Prop := ∃ j, j ≤ V.length ∧ gk = V.length - j ∧ u50 = .int .i64 j ∧ (V.take j).all (valB k) = true ∧ Keeps [] w wr

theorem not_empty {x : ByteArray} (h : ¬ x = ⟨#[]⟩) : (x.toList == []) = false ∧ (x.toList != []) = true ∧ ¬ x.toList = [] := by
  have hne : ¬ x.data.toList = [] := fun e => h (ba_ext e)
  have hn1 : (x.toList == []) = false := by rw [ByteArray.toList_eq]; simpa using hne
  exact ⟨hn1, by rw [bne, hn1]; rfl, by rw [ByteArray.toList_eq]; exact hne⟩

end Go.Proofs.YtaebpbkiaihhdaaGreatDoor

namespace Go.Proofs.YtaebpbkiaihhdaaGreatDoor
open Go Go.RowKit

theorem infoStr : (Tryz.prog.info? 9).map (fun i => (i.zero, i.size, i.bytes)) = some (some (.string ⟨#[]⟩), 1, 16) := by kernel_rfl

def shortV (V : List ByteArray) : List ByteArray := (V.take 12).map fun v => cut v 42

theorem short_end {B : Nat} {wr : World} {V : List ByteArray} {j : Nat} {v : Value} (hj : j = min V.length 12) (h : wr.ownsRow B 9 1 v j (((V.take j).map fun v => cut v 42).map Value.string)) : wr.ownsRow B 9 1 v (shortV V).length ((shortV V).map Value.string) := by
  have e : shortV V = (V.take j).map fun v => cut v 42 := by
    unfold shortV
    congr 1
    subst hj
    by_cases h12 : V.length ≤ 12
    · rw [List.take_of_length_le h12, List.take_of_length_le (by omega)]
    · rw [show min V.length 12 = 12 from by omega]
  have el : (shortV V).length = j := by rw [e, List.length_map, List.length_take]; omega
  rw [el, e]
  exact h


end Go.Proofs.YtaebpbkiaihhdaaGreatDoor

namespace Go.Proofs.YtaebpbkiaihhdaaGreatDoor
open Go Go.RowKit



theorem news_three {w : World} {g : Nat} {x y z : Value} {t : TypeId} (hg : w.heap[g]? = some (.cells #[x, y, z] t (0, 0))) : ∀ j u, ([x, y, z] : List Value)[j]? = some u → w.cell? ((⟨g, 0, none⟩ : Addr).add j) = some u := by
  intro j u hu
  have hadd : (⟨g, 0, none⟩ : Addr).add j = ⟨g, j, none⟩ := by unfold Addr.add; split <;> simp_all
  rw [hadd, cells_at hg]
  match j with
  | 0 => exact hu
  | 1 => exact hu
  | 2 => exact hu
  | n + 3 => simp at hu

theorem row_texts {B : Nat} {w : World} {v : Value} {V : List ByteArray} (h : w.ownsRow B 9 1 v V.length (V.map Value.string)) : SliceArg 1 encS1 w v V :=
  (sliceFrom_row (enc := encS1) (e := 9) (fun _ => rfl) (by rw [show V.flatMap encS1 = V.map Value.string from flat_one Value.string V]; exact h)).arg

theorem shortV_size (V : List ByteArray) : ∀ x ∈ shortV V, x.size ≤ maxLen := by
  intro x hx
  unfold shortV at hx
  obtain ⟨y, _, rfl⟩ := List.mem_map.1 hx
  have := cut_size y 42
  simp only [maxLen]
  omega

/-- The values of E are those of L, in memory of the walk's own. -/
def ValsAt (B : Nat) (w : World) (E : List MatV) (L : List MatB) : Prop := E.length = L.length ∧ ∀ i (h : i < E.length) (h' : i < L.length), E[i].1 = L[i].1 ∧ E[i].2.1 = L[i].2.1 ∧ w.ownsRow B 9 1 E[i].2.2 L[i].2.2.length (L[i].2.2.map Value.string)

theorem ValsAt.keep {B : Nat} {w w' : World} {E : List MatV} {L : List MatB} {S : List Nat} (h : ValsAt B w E L) (k : Keeps S w w') (hS : ∀ v n xs, w.ownsRow B 9 1 v n xs → ∀ g, v.ownBlock = some g → g ∉ S) : ValsAt B w' E L :=
  ⟨h.1, fun i hi hi' => ⟨(h.2 i hi hi').1, (h.2 i hi hi').2.1, k.row (h.2 i hi hi').2.2 (hS _ _ _ (h.2 i hi hi').2.2)⟩⟩

theorem ValsAt.snoc {B : Nat} {w : World} {E : List MatV} {L : List MatB} (h : ValsAt B w E L) {k : Int} {n : ByteArray} {v : Value} {V : List ByteArray} (hr : w.ownsRow B 9 1 v V.length (V.map Value.string)) : ValsAt B w (E ++ [(k, n, v)]) (L ++ [(k, n, V)]) := by
  obtain ⟨h1, h2⟩ := h
  refine ⟨by simp [h1], fun i hi hi' => ?_⟩
  by_cases hlt : i < E.length
  · rw [List.getElem_append_left hlt, List.getElem_append_left (by omega)]
    exact h2 i hlt (by omega)
  · have e1 : i = E.length := by simp at hi; omega
    subst e1
    rw [List.getElem_append_right (Nat.le_refl _), List.getElem_append_right (by omega)]
    simp [h1]
    exact hr

theorem mats_of {B : Nat} {w : World} {e : TypeId} {v : Value} {E : List MatV} {L : List MatB} (hr : w.ownsRow B e 3 v E.length (E.flatMap encMV)) (h : ValsAt B w E L) : MatsAt w v L :=
  ⟨E, (sliceFrom_row (enc := encMV) (fun _ => rfl) hr).arg, h.1, fun i hi hi' => ⟨(h.2 i hi hi').1, (h.2 i hi hi').2.1, row_texts (h.2 i hi hi').2.2⟩⟩

instance go1Vals {w w' : World} (B : Nat) (E : List MatV) (L : List MatB) : Go1 w w' (ValsAt B w E L) (ValsAt B w' E L) := ⟨fun k h => h.keep k (fun _ _ _ _ _ _ => by simp)⟩


def Few13Post (w : World) (e : Ending) (w' : World) : Prop := ∃ va vb L, e = .returned (.tuple #[va, vb]) ∧ MatsAt w' va L ∧ MatsAt w' vb L ∧ (∀ m ∈ L, chkB m = true) ∧ L.length ≤ 4 ∧ Keeps [] w w'

end Go.Proofs.YtaebpbkiaihhdaaGreatDoor

namespace Go.Proofs.YtaebpbkiaihhdaaGreatDoor
open Go Go.RowKit

theorem row_pairs {B : Nat} {w : World} {e : TypeId} {v : Value} {P : List PairB} (h : w.ownsRow B e 2 v P.length (P.flatMap encPB)) : SliceArg 2 encPB w v P := (sliceFrom_row (enc := encPB) (fun _ => rfl) h).arg

theorem few6_lenM (P : List PairB) : (few6 P).length ≤ 1000000 := by unfold few6; rw [List.length_map, List.length_take]; omega

instance go1Mats {w w' : World} (v : Value) (L : List MatB) : Go1 w w' (MatsAt w v L) (MatsAt w' v L) := ⟨fun k h => h.keep k⟩

instance go1SArg {α : Type} {w w' : World} (size : Nat) (enc : α → List Value) (v : Value) (L : List α) : Go1 w w' (SliceArg size enc w v L) (SliceArg size enc w' v L) := ⟨fun k h => h.keep k⟩
end Go.Proofs.YtaebpbkiaihhdaaGreatDoor
