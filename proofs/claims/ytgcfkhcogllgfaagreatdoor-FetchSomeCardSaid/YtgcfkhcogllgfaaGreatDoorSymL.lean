/-
  Stable sorting, in plain words: what a merge of two sorted parts is; insertion keeps the order of equals; what an exchange of two elements does to a list.
  No condition beyond those that each theorem states.

  slices.SortStableFunc's family at samples, walked: swapRange, rotate, symMerge, stable.
  No condition beyond those that each theorem states.

  merge.Samples' comparison, and slices.symMergeCmpFunc at samples, walked.
  No condition beyond those that each theorem states.

  slices.symMergeCmpFunc at samples, walked: two sorted parts merged, equals in their order.
  No condition beyond those that each theorem states.

  slices.SortStableFunc at samples, walked: the list sorted by times, equals in their order.
  No condition beyond those that each theorem states.

  slices.CompactFunc at samples, walked: of those of one time, that lie one behind the other, the first one.
  No condition beyond those that each theorem states.

  merge.Samples, walked: of several lists of samples one, by rising times, of one time the first list's.
  The lists are not empty, and are of few samples.
-/
import Derived.Test.YtgcfkhcogllgfaaGreatDoorOrder
import Derived.Shelf.SlSortCmp.KitK
import Derived.Sort.AssemblyPlain
import Derived.Test.YtgcfkhcogllgfaaGreatDoorPostLaw
import Derived.Shelf.SlSortCmp.ReverseRangeK
import Derived.Deep.CutRange
import Derived.Test.YtgcfkhcogllgfaaGreatDoorShelfT
import Derived.Sort.LotA
import Derived.Test.YtgcfkhcogllgfaaGreatDoorTabLaw
import Derived.Test.YtgcfkhcogllgfaaGreatDoorLabelN
namespace Go.Proofs.YtgcfkhcogllgfaaGreatDoor
set_option maxRecDepth 100000
set_option maxHeartbeats 8000000
set_option linter.unusedSimpArgs false
open Go Go.RowKit
def Srt (l : List SmpB) : Prop := l.Pairwise fun a b => a.1 ≤ b.1
def atT (t : Int) (l : List SmpB) : List SmpB := l.filter fun s => decide (s.1 = t)
def StbL (l l' : List SmpB) : Prop := Srt l' ∧ l'.length = l.length ∧ ∀ t, atT t l' = atT t l
theorem atT_app (t : Int) (l m : List SmpB) : atT t (l ++ m) = atT t l ++ atT t m := List.filter_append ..
theorem atT_none {t : Int} {l : List SmpB} (h : ∀ s ∈ l, s.1 ≠ t) : atT t l = [] := by
 unfold atT
 rw [List.filter_eq_nil_iff]
 intro s hs
 simpa using h s hs
theorem mem_atT {l l' : List SmpB} (h : ∀ t, atT t l' = atT t l) (s : SmpB) : s ∈ l' ↔ s ∈ l := by
 have e : ∀ m : List SmpB, s ∈ m ↔ s ∈ atT s.1 m := fun m => by simp [atT]
 rw [e l', e l, h]
theorem StbL.refl {l : List SmpB} (h : Srt l) : StbL l l := ⟨h, rfl, fun _ => rfl⟩
theorem stb_split {x1 x2 y1 y2 Z1 Z2 : List SmpB} (h1 : StbL (x1 ++ y1) Z1) (h2 : StbL (x2 ++ y2) Z2) (hx : Srt (x1 ++ x2)) (hy : Srt (y1 ++ y2)) (h12 : ∀ a ∈ x1, ∀ b ∈ y2, a.1 ≤ b.1) (h21 : ∀ a ∈ y1, ∀ b ∈ x2, a.1 < b.1) : StbL ((x1 ++ x2) ++ (y1 ++ y2)) (Z1 ++ Z2) := by
 refine ⟨?_, ?_, fun t => ?_⟩
 ·unfold Srt
  rw [List.pairwise_append]
  refine ⟨h1.1, h2.1, fun a ha b hb => ?_⟩
  have ha := (mem_atT h1.2.2 a).1 ha
  have hb := (mem_atT h2.2.2 b).1 hb
  rcases List.mem_append.1 ha with ha | ha <;> rcases List.mem_append.1 hb with hb | hb
  ·exact (List.pairwise_append.1 hx).2.2 a ha b hb
  ·exact h12 a ha b hb
  ·exact Int.le_of_lt (h21 a ha b hb)
  ·exact (List.pairwise_append.1 hy).2.2 a ha b hb
 ·have := h1.2.1
  have := h2.2.1
  simp only [List.length_append] at *
  omega
 ·rw [atT_app, h1.2.2, h2.2.2, atT_app, atT_app, atT_app, atT_app, atT_app]
  have key : atT t y1 ++ atT t x2 = atT t x2 ++ atT t y1 := by
   by_cases h : ∃ a ∈ y1, a.1 = t
   ·obtain ⟨a, ha, e⟩ := h
    rw [atT_none (l := x2) fun b hb => by have := h21 a ha b hb; omega]
    simp
   ·rw [atT_none (l := y1) fun a ha e => h ⟨a, ha, e⟩]
    simp
  calc (atT t x1 ++ atT t y1) ++ (atT t x2 ++ atT t y2) = atT t x1 ++ (atT t y1 ++ atT t x2) ++ atT t y2 := by simp
   _ = _ := by rw [key]; simp
theorem stb_one_left {x : SmpB} {y1 y2 : List SmpB} (hy : Srt (y1 ++ y2)) (h1 : ∀ a ∈ y1, a.1 < x.1) (h2 : ∀ b ∈ y2, x.1 ≤ b.1) : StbL ([x] ++ (y1 ++ y2)) (y1 ++ ([x] ++ y2)) := by
 have hp := List.pairwise_append.1 hy
 have h := stb_split (x1 := []) (x2 := [x]) (y1 := y1) (y2 := y2) (Z1 := y1) (Z2 := [x] ++ y2) (StbL.refl hp.1) (StbL.refl (by
  unfold Srt
  rw [List.pairwise_append]
  exact ⟨by simp, hp.2.1, fun a ha b hb => by obtain rfl : a = x := (by simpa using ha); exact h2 b hb⟩)) (by simp [Srt]) hy (by simp) (fun a ha b hb => by obtain rfl : b = x := (by simpa using hb); exact h1 a ha)
 simpa using h
theorem stb_one_right {y : SmpB} {x1 x2 : List SmpB} (hx : Srt (x1 ++ x2)) (h1 : ∀ a ∈ x1, a.1 ≤ y.1) (h2 : ∀ b ∈ x2, y.1 < b.1) : StbL ((x1 ++ x2) ++ [y]) (x1 ++ ([y] ++ x2)) := by
 have hp := List.pairwise_append.1 hx
 have h := stb_split (x1 := x1) (x2 := x2) (y1 := [y]) (y2 := []) (Z1 := x1 ++ [y]) (Z2 := x2) (StbL.refl (by
  unfold Srt
  rw [List.pairwise_append]
  exact ⟨hp.1, by simp, fun a ha b hb => by obtain rfl : b = y := (by simpa using hb); exact h1 a ha⟩)) (by simpa using StbL.refl hp.2.1) hx (by simp [Srt]) (by simp) (fun a ha b hb => by obtain rfl : a = y := (by simpa using ha); exact h2 b hb)
 simpa using h
theorem swp_at (P Q S : List SmpB) (a b : SmpB) : Sort.swp (P ++ a :: (Q ++ b :: S)).toArray P.length (P.length + 1 + Q.length) = (P ++ b :: (Q ++ a :: S)).toArray := by
 have e1 : (P ++ a :: (Q ++ b :: S))[P.length]! = a := by simp
 have e2 : (P ++ a :: (Q ++ b :: S))[P.length + 1 + Q.length]! = b := by
  rw [getElem!_def, List.getElem?_append_right (by omega), show P.length + 1 + Q.length - P.length = Q.length + 1 by omega, List.getElem?_cons_succ, List.getElem?_append_right (by omega)]
  simp
 unfold Sort.swp
 rw [show (P ++ a :: (Q ++ b :: S)).toArray[P.length]! = a from by rw [List.getElem!_toArray]; exact e1, show (P ++ a :: (Q ++ b :: S)).toArray[P.length + 1 + Q.length]! = b from by rw [List.getElem!_toArray]; exact e2]
 rw [List.setIfInBounds_toArray, List.setIfInBounds_toArray]
 congr 1
 rw [List.set_append_right _ _ (by omega), Nat.sub_self, List.set_cons_zero, List.set_append_right _ _ (by omega), show P.length + 1 + Q.length - P.length = Q.length + 1 by omega, List.set_cons_succ, List.set_append_right _ _ (by omega), Nat.sub_self, List.set_cons_zero]
theorem swp_at2 (P Q S : List SmpB) (a b : SmpB) : Sort.swp (P ++ a :: (Q ++ b :: S)).toArray (P.length + 1 + Q.length) P.length = (P ++ b :: (Q ++ a :: S)).toArray := by
 have e1 : (P ++ a :: (Q ++ b :: S))[P.length]! = a := by simp
 have e2 : (P ++ a :: (Q ++ b :: S))[P.length + 1 + Q.length]! = b := by
  rw [getElem!_def, List.getElem?_append_right (by omega), show P.length + 1 + Q.length - P.length = Q.length + 1 by omega, List.getElem?_cons_succ, List.getElem?_append_right (by omega)]
  simp
 unfold Sort.swp
 rw [show (P ++ a :: (Q ++ b :: S)).toArray[P.length]! = a from by rw [List.getElem!_toArray]; exact e1, show (P ++ a :: (Q ++ b :: S)).toArray[P.length + 1 + Q.length]! = b from by rw [List.getElem!_toArray]; exact e2]
 rw [List.setIfInBounds_toArray, List.setIfInBounds_toArray]
 congr 1
 rw [List.set_append_right _ _ (by omega), show P.length + 1 + Q.length - P.length = Q.length + 1 by omega, List.set_cons_succ, List.set_append_right _ _ (by omega), Nat.sub_self, List.set_cons_zero, List.set_append_right _ _ (by omega), Nat.sub_self, List.set_cons_zero]
theorem list_split2 {α : Type} (l : List α) (j : Nat) (h : j + 1 < l.length) : l = l.take j ++ l[j] :: ([] ++ l[j + 1] :: l.drop (j + 2)) := by
 conv => lhs; rw [← List.take_append_drop j l]
 congr 1
 rw [List.drop_eq_getElem_cons (by omega), List.drop_eq_getElem_cons (by omega)]
 rfl
def ltT1 (x y : SmpB) : Bool := decide (x.1 < y.1)
theorem size_swp (d : Array SmpB) (i j : Nat) : (Sort.swp d i j).size = d.size := by simp [Sort.swp]
theorem atT_swp (t : Int) (d : Array SmpB) (j : Nat) (hj : j + 1 < d.size) (hne : d[j + 1]!.1 ≠ d[j]!.1) : atT t (Sort.swp d (j + 1) j).toList = atT t d.toList := by
 have hl : j + 1 < d.toList.length := by simpa using hj
 have hs := list_split2 d.toList j hl
 obtain ⟨P, hP⟩ : ∃ P, P = d.toList.take j := ⟨_, rfl⟩
 obtain ⟨S, hS⟩ : ∃ S, S = d.toList.drop (j + 2) := ⟨_, rfl⟩
 have hPl : P.length = j := by rw [hP, List.length_take]; omega
 rw [← hP, ← hS] at hs
 have e1 : d[j + 1]! = d.toList[j + 1] := by rw [getElem!_pos d (j + 1) hj]; rfl
 have e2 : d[j]! = d.toList[j] := by rw [getElem!_pos d j (by omega)]; rfl
 rw [e1, e2] at hne
 generalize d.toList[j] = a at hs hne
 generalize d.toList[j + 1] = b at hs hne
 have hd : d = (P ++ a :: ([] ++ b :: S)).toArray := by rw [← hs]
 have hsw := swp_at2 P [] S a b
 rw [hPl, List.length_nil, Nat.add_zero, ← hd] at hsw
 rw [hsw, hd]
 show atT t (P ++ b :: ([] ++ a :: S)) = atT t (P ++ a :: ([] ++ b :: S))
 rw [atT_app, atT_app]
 congr 1
 show atT t (b :: a :: S) = atT t (a :: b :: S)
 unfold atT
 by_cases ha : a.1 = t
 ·have hb : ¬ b.1 = t := fun e => hne (by omega)
  simp [ha, hb]
 ·simp [List.filter_cons, ha]
theorem atT_inner (t : Int) (a : Nat) : ∀ (j : Nat) (d : Array SmpB), j < d.size → atT t (Sort.insInner ltT1 a j d).toList = atT t d.toList ∧ (Sort.insInner ltT1 a j d).size = d.size
 | 0, d, _ => ⟨rfl, rfl⟩
 | j + 1, d, h => by
  unfold Sort.insInner
  split
  ·rename_i hc
   have hne : d[j + 1]!.1 ≠ d[j]!.1 := by
    have h1 : ltT1 d[j + 1]! d[j]! = true := by
     rw [Bool.and_eq_true] at hc
     exact hc.2
    unfold ltT1 at h1
    have := of_decide_eq_true h1
    omega
   have ih := atT_inner t a j (Sort.swp d (j + 1) j) (by rw [size_swp]; omega)
   exact ⟨by rw [ih.1, atT_swp t d j h hne], by rw [ih.2, size_swp]⟩
  ·exact ⟨rfl, rfl⟩
theorem atT_outer (t : Int) (a b : Nat) : ∀ (n i : Nat) (d : Array SmpB), n = b - i → b ≤ d.size → atT t (Sort.insOuter ltT1 a b i d).toList = atT t d.toList ∧ (Sort.insOuter ltT1 a b i d).size = d.size
 | 0, i, d, hn, _ => by
  unfold Sort.insOuter
  rw [if_neg (by omega)]
  exact ⟨rfl, rfl⟩
 | n + 1, i, d, hn, hb => by
  unfold Sort.insOuter
  rw [if_pos (by omega)]
  have h1 := atT_inner t a i d (by omega)
  have ih := atT_outer t a b n (i + 1) (Sort.insInner ltT1 a i d) (by omega) (by rw [h1.2]; exact hb)
  exact ⟨by rw [ih.1, h1.1], by rw [ih.2, h1.2]⟩
open Go Go.RowKit Go.Lib Go.Sort Go.Shelf
abbrev SWS (w0 : World) (blk : Nat) (L : List SmpB) (W : World) : Prop := SWK encSm 2 w0 blk 0 L.toArray W
theorem sws_cell {w0 W : World} {blk : Nat} {d0 : Array SmpB} {L : List SmpB} (h : SWS w0 blk L W) (R : RowK encSm 2 w0 blk 0 d0) (hs : L.length = d0.size) (i : Nat) (hi : i < L.length) :
  W.cell? ⟨blk, i * 2, none⟩ = some (.int .i64 L[i].1) ∧ W.cell? ⟨blk, i * 2 + 1, none⟩ = some (.int .u64 L[i].2) ∧ W.frozen? ⟨blk, i * 2, none⟩ = false ∧ W.frozen? ⟨blk, i * 2 + 1, none⟩ = false := by
 have hH := h.holds R.hblk R.hH (by simpa using hs)
 have h1 := HoldsK.cells hH R.hk (i := i) (by simpa using hi)
 have he : L.toArray[i]! = L[i] := by rw [getElem!_pos L.toArray i (by simpa using hi)]; rfl
 rw [he] at h1
 have hz : (flatK encSm 2 L.toArray).size = L.length * 2 := by rw [size_flatK]; simp
 have f0 := (hH (i * 2) (by omega)).2
 have f1 := (hH (i * 2 + 1) (by omega)).2
 have c0 := h1 0 _ rfl
 have c1 := h1 1 _ rfl
 simp only [Addr.add, Nat.zero_add, Nat.add_zero] at c0 c1 f0 f1
 exact ⟨c0, c1, f0, f1⟩
theorem at_two {P Q S : List SmpB} {a b : SmpB} : (P ++ a :: (Q ++ b :: S))[P.length]? = some a ∧ (P ++ a :: (Q ++ b :: S))[P.length + 1 + Q.length]? = some b := by
 constructor
 ·simp
 ·rw [List.getElem?_append_right (by omega), show P.length + 1 + Q.length - P.length = Q.length + 1 by omega, List.getElem?_cons_succ, List.getElem?_append_right (by omega)]
  simp
theorem at_left {P Q S : List SmpB} {a b : SmpB} {i : Nat} (hi : i = P.length) : (P ++ a :: (Q ++ b :: S))[i]? = some a := by
 subst hi
 exact at_two.1
theorem at_right {P Q S : List SmpB} {a b : SmpB} {j : Nat} (hj : j = P.length + 1 + Q.length) : (P ++ a :: (Q ++ b :: S))[j]? = some b := by
 subst hj
 exact at_two.2
theorem sws_at {w0 W : World} {blk : Nat} {d0 : Array SmpB} {L : List SmpB} (h : SWS w0 blk L W) (R : RowK encSm 2 w0 blk 0 d0) (hs : L.length = d0.size) (i : Nat) (a : SmpB) (hi : L[i]? = some a) :
  W.cell? ⟨blk, i * 2, none⟩ = some (.int .i64 a.1) ∧ W.cell? ⟨blk, i * 2 + 1, none⟩ = some (.int .u64 a.2) ∧ W.frozen? ⟨blk, i * 2, none⟩ = false ∧ W.frozen? ⟨blk, i * 2 + 1, none⟩ = false := by
 obtain ⟨hlt, e⟩ := List.getElem?_eq_some_iff.1 hi
 have := sws_cell h R hs i hlt
 rw [e] at this
 exact this
theorem arr_at {L : List SmpB} {i : Nat} {a : SmpB} (h : L[i]? = some a) : L.toArray[i]! = a := by
 obtain ⟨hlt, e⟩ := List.getElem?_eq_some_iff.1 h
 rw [getElem!_pos _ _ (by simpa using hlt)]
 simpa using e
theorem sws_swap {w0 W : World} {blk : Nat} {d0 : Array SmpB} {P Q S : List SmpB} {a b : SmpB} (h : SWS w0 blk (P ++ a :: (Q ++ b :: S)) W) (R : RowK encSm 2 w0 blk 0 d0) (i j : Nat) (hi : i = P.length) (hj : j = P.length + 1 + Q.length) :
  SWS w0 blk (P ++ b :: (Q ++ a :: S)) ((((W.setCell ⟨blk, i * 2, none⟩ (.int .i64 b.1)).setCell ⟨blk, i * 2 + 1, none⟩ (.int .u64 b.2)).setCell ⟨blk, j * 2, none⟩ (.int .i64 a.1)).setCell ⟨blk, j * 2 + 1, none⟩ (.int .u64 a.2)).drew := by
 subst hi hj
 have h1 := h.swapped R P.length (P.length + 1 + Q.length) (by simp) (by simp; omega)
 rw [swp_at, arr_at at_two.1, arr_at at_two.2] at h1
 simp only [Nat.zero_add] at h1
 exact h1
theorem sws_swap2 {w0 W : World} {blk : Nat} {d0 : Array SmpB} {P Q S : List SmpB} {a b : SmpB} (h : SWS w0 blk (P ++ a :: (Q ++ b :: S)) W) (R : RowK encSm 2 w0 blk 0 d0) (i j : Nat) (hi : i = P.length) (hj : j = P.length + 1 + Q.length) :
  SWS w0 blk (P ++ b :: (Q ++ a :: S)) ((((W.setCell ⟨blk, j * 2, none⟩ (.int .i64 a.1)).setCell ⟨blk, j * 2 + 1, none⟩ (.int .u64 a.2)).setCell ⟨blk, i * 2, none⟩ (.int .i64 b.1)).setCell ⟨blk, i * 2 + 1, none⟩ (.int .u64 b.2)).drew := by
 subst hi hj
 have h1 := h.swapped R (P.length + 1 + Q.length) P.length (by simp; omega) (by simp)
 rw [swp_at2, arr_at at_two.1, arr_at at_two.2] at h1
 simp only [Nat.zero_add] at h1
 exact h1
def SwR (w0 : World) (blk : Nat) (P A M B S : List SmpB) (gk : Nat) (u : Value) (wr : World) : Prop :=
 ∃ k, k ≤ A.length ∧ gk = A.length - k ∧ u = .int .i64 k ∧ SWS w0 blk (P ++ (B.take k ++ A.drop k) ++ M ++ (A.take k ++ B.drop k) ++ S) wr
theorem swapRange_spec (w0 w : World) (blk cap : Nat) (d0 : Array SmpB) (P A M B S : List SmpB) (f : Value) (R : RowK encSm 2 w0 blk 0 d0) (hs : (P ++ A ++ M ++ B ++ S).length = d0.size) (h : SWS w0 blk (P ++ A ++ M ++ B ++ S) w) (hl : A.length = B.length) (hz : d0.size < 1000000) :
  Calls Tryz.prog 176 #[.slice (some ⟨blk, 0, none⟩) d0.size cap, .int .i64 (P.length : Nat), .int .i64 ((P ++ A ++ M).length : Nat), .int .i64 (A.length : Nat), f] w fun e w' => e = .returned (.tuple #[]) ∧ SWS w0 blk (P ++ B ++ M ++ A ++ S) w' := by
 have H := Lib.hid (And.intro R (And.intro hs (And.intro h hl)))
 obtain ⟨p, hp⟩ : ∃ p, p = P.length := ⟨_, rfl⟩
 obtain ⟨q, hq⟩ : ∃ q, q = (P ++ A ++ M).length := ⟨_, rfl⟩
 obtain ⟨n, hn⟩ : ∃ n, n = A.length := ⟨_, rfl⟩
 have hz1 : p + n ≤ d0.size ∧ q + n ≤ d0.size ∧ p + n ≤ q := by
  simp only [List.length_append] at hs hq
  omega
 obtain ⟨L', hL'⟩ : ∃ L', L' = P ++ B ++ M ++ A ++ S := ⟨_, rfl⟩
 rw [← hp, ← hq, ← hn, ← hL']
 have HN := Lib.hid (And.intro hp (And.intro hq (And.intro hn hL')))
 clear R hs h hl hp hq hn hL'
 go_enter Tryz.func176, Tryz.ntmps176
 go_wp2_with fail
 go_loopg [10] n (SwR w0 blk P A M B S)
 case atStart => exact ⟨0, Nat.zero_le _, by rw [HN.out.2.2.1]; rfl, rfl, by simpa using H.out.2.2.1⟩
 case round =>
  obtain ⟨k, hk, hgk, rfl, hS⟩ := hrel
  rw [← HN.out.2.2.1] at hk hgk
  by_cases hlt : k < n
  ·have hlt' : (k : Int) < (n : Int) := by omega
   have hA : k < A.length := by have := HN.out.2.2.1; omega
   have hB : k < B.length := by have := H.out.2.2.2; omega
   obtain ⟨a, ha⟩ : ∃ a, a = A[k] := ⟨_, rfl⟩
   obtain ⟨b, hb⟩ : ∃ b, b = B[k] := ⟨_, rfl⟩
   rw [List.drop_eq_getElem_cons hA, List.drop_eq_getElem_cons hB, ← ha, ← hb] at hS
   have e1 : P ++ (B.take k ++ a :: A.drop (k + 1)) ++ M ++ (A.take k ++ b :: B.drop (k + 1)) ++ S = (P ++ B.take k) ++ a :: ((A.drop (k + 1) ++ M ++ A.take k) ++ b :: (B.drop (k + 1) ++ S)) := by simp
   rw [e1] at hS
   have hi : p + k = (P ++ B.take k).length := by rw [List.length_append, List.length_take, HN.out.1]; omega
   have hj : q + k = (P ++ B.take k).length + 1 + (A.drop (k + 1) ++ M ++ A.take k).length := by
    have := HN.out
    simp only [List.length_append, List.length_take, List.length_drop] at *
    omega
   have hlen : ((P ++ B.take k) ++ a :: ((A.drop (k + 1) ++ M ++ A.take k) ++ b :: (B.drop (k + 1) ++ S))).length = d0.size := by
    rw [← e1, ← H.out.2.1]
    have := H.out.2.2.2
    simp only [List.length_append, List.length_take, List.length_drop, List.length_cons]
    omega
   obtain ⟨c0, c1, f0, f1⟩ := sws_at hS H.out.1 hlen (p + k) a (by rw [hi]; exact at_two.1)
   obtain ⟨c2, c3, f2, f3⟩ := sws_at hS H.out.1 hlen (q + k) b (by rw [hj]; exact at_two.2)
   have lb := World.block_lt_of_cell? _ _ c0
   have HW := Lib.hid (sws_swap hS H.out.1 (p + k) (q + k) hi hj)
   have hi1 : (p : Int) + (k : Int) < (d0.size : Int) := by omega
   have hi2 := IntWalk.i64_in ((p : Int) + (k : Int)) (by omega)
   have hi3 : (0 : Int) ≤ (p : Int) + (k : Int) := by omega
   have hi4 : ((p : Int) + (k : Int)).toNat = p + k := by omega
   have hj1 : (q : Int) + (k : Int) < (d0.size : Int) := by omega
   have hj2 := IntWalk.i64_in ((q : Int) + (k : Int)) (by omega)
   have hj3 : (0 : Int) ≤ (q : Int) + (k : Int) := by omega
   have hj4 : ((q : Int) + (k : Int)).toNat = q + k := by omega
   have hne : (q + k) * 2 ≠ (p + k) * 2 ∧ (q + k) * 2 ≠ (p + k) * 2 + 1 ∧ (q + k) * 2 + 1 ≠ (p + k) * 2 ∧ (q + k) * 2 + 1 ≠ (p + k) * 2 + 1 := by omega
   obtain ⟨hn1, hn2, hn3, hn4⟩ := hne
   have Hab := Lib.hid (And.intro ha hb)
   clear hlen hi hj e1 hS ha hb
   go_upto_region 3 with fail
   go_region
   generalize ((((wr.setCell ⟨blk, (p + k) * 2, none⟩ (.int .i64 b.1)).setCell ⟨blk, (p + k) * 2 + 1, none⟩ (.int .u64 b.2)).setCell ⟨blk, (q + k) * 2, none⟩ (.int .i64 a.1)).setCell ⟨blk, (q + k) * 2 + 1, none⟩ (.int .u64 a.2)).drew = w2 at HW ⊢
   clear c0 c1 c2 c3 f0 f1 f2 f3 lb hn1 hn2 hn3 hn4 hi1 hi2 hi3 hi4 hj1 hj2 hj3 hj4
   go_wp2_with fail
   go_roundg (n - (k + 1))
   case measure => omega
   case rel =>
    refine ⟨k + 1, hA, by rw [← HN.out.2.2.1], by go_num, ?_⟩
    have h2 := HW.out
    rw [Hab.out.1, Hab.out.2] at h2
    have e2 : (P ++ B.take k) ++ B[k] :: ((A.drop (k + 1) ++ M ++ A.take k) ++ A[k] :: (B.drop (k + 1) ++ S)) = P ++ (B.take (k + 1) ++ A.drop (k + 1)) ++ M ++ (A.take (k + 1) ++ B.drop (k + 1)) ++ S := by
     rw [List.take_succ_eq_append_getElem hA, List.take_succ_eq_append_getElem hB]
     simp only [List.append_assoc, List.cons_append, List.nil_append]
    rw [e2] at h2
    exact h2
  ·have hge : ¬ (k : Int) < (n : Int) := by omega
   have hkn : k = A.length := by have := HN.out.2.2.1; omega
   have hkb : k = B.length := by have := H.out.2.2.2; omega
   have Hr := Lib.hid (show SWS w0 blk L' wr by
    rw [HN.out.2.2.2]
    rw [hkn] at hS
    rw [List.drop_eq_nil_of_le (Nat.le_refl _), List.take_of_length_le (Nat.le_refl A.length), List.take_of_length_le (show B.length ≤ A.length by omega), List.drop_eq_nil_of_le (show B.length ≤ A.length by omega)] at hS
    simpa using hS)
   clear hkn hkb hS hgk
   go_wp2_with fail
   refine bodyPost_end (results_none rfl _ _ _) rfl ?_
   exact ⟨rfl, Hr.out⟩
theorem swapRange_at (w0 w : World) (blk cap : Nat) (d0 : Array SmpB) (P A M B S : List SmpB) (f : Value) (R : RowK encSm 2 w0 blk 0 d0) (hs : (P ++ A ++ M ++ B ++ S).length = d0.size) (h : SWS w0 blk (P ++ A ++ M ++ B ++ S) w) (hl : A.length = B.length) (hz : d0.size < 1000000) (x y z : Int) (hx : x = (P.length : Nat)) (hy : y = ((P ++ A ++ M).length : Nat)) (hz2 : z = (A.length : Nat)) :
  Calls Tryz.prog 176 #[.slice (some ⟨blk, 0, none⟩) d0.size cap, .int .i64 x, .int .i64 y, .int .i64 z, f] w fun e w' => e = .returned (.tuple #[]) ∧ SWS w0 blk (P ++ B ++ M ++ A ++ S) w' := by
 subst hx hy hz2
 exact swapRange_spec w0 w blk cap d0 P A M B S f R hs h hl hz
def RotR (w0 : World) (blk : Nat) (m : Nat) (L' : List SmpB) (gk : Nat) (u10 u11 : Value) (wr : World) : Prop :=
 ∃ X U V Y : List SmpB, 0 < U.length ∧ 0 < V.length ∧ gk = U.length + V.length ∧ u10 = .int .i64 (U.length : Nat) ∧ u11 = .int .i64 (V.length : Nat) ∧ (X ++ U).length = m ∧ L' = X ++ V ++ U ++ Y ∧ SWS w0 blk (X ++ U ++ V ++ Y) wr
theorem rotate_spec (w0 w : World) (blk cap : Nat) (d0 : Array SmpB) (P U V S : List SmpB) (f : Value) (R : RowK encSm 2 w0 blk 0 d0) (hs : (P ++ U ++ V ++ S).length = d0.size) (h : SWS w0 blk (P ++ U ++ V ++ S) w) (hU : 0 < U.length) (hV : 0 < V.length) (hz : d0.size < 1000000) :
  Calls Tryz.prog 147 #[.slice (some ⟨blk, 0, none⟩) d0.size cap, .int .i64 (P.length : Nat), .int .i64 ((P ++ U).length : Nat), .int .i64 ((P ++ U ++ V).length : Nat), f] w fun e w' => e = .returned (.tuple #[]) ∧ SWS w0 blk (P ++ V ++ U ++ S) w' := by
 obtain ⟨p, hp⟩ : ∃ p, p = P.length := ⟨_, rfl⟩
 obtain ⟨m, hm⟩ : ∃ m, m = (P ++ U).length := ⟨_, rfl⟩
 obtain ⟨q, hq⟩ : ∃ q, q = (P ++ U ++ V).length := ⟨_, rfl⟩
 obtain ⟨L', hL'⟩ : ∃ L', L' = P ++ V ++ U ++ S := ⟨_, rfl⟩
 have hz2 : p < m ∧ m < q ∧ q ≤ d0.size ∧ m = p + U.length ∧ q = m + V.length := by
  simp only [List.length_append] at hs hq hm
  omega
 have hz1 : p < m ∧ m < q ∧ q ≤ d0.size := ⟨hz2.1, hz2.2.1, hz2.2.2.1⟩
 have H := Lib.hid (And.intro R (And.intro (show L'.length = d0.size by rw [hL', ← hs]; simp only [List.length_append]; omega) (And.intro h (And.intro hm hL'))))
 have hw1 := IntWalk.i64_in ((m : Int) - (p : Int)) (by omega)
 have hw2 := IntWalk.i64_in ((q : Int) - (m : Int)) (by omega)
 have HU := Lib.hid (And.intro hU (And.intro hV hz2))
 clear hz2
 rw [← hp, ← hm, ← hq, ← hL']
 clear R hs h hL' hp hm hq
 go_enter Tryz.func147, Tryz.ntmps147
 go_wp2_with fail
 go_loopg [10, 11] (U.length + V.length) (RotR w0 blk m L')
 case atStart => exact ⟨P, U, V, S, hU, hV, rfl, by have := HU.out.2.2; go_num, by have := HU.out.2.2; go_num, H.out.2.2.2.1.symm, H.out.2.2.2.2, H.out.2.2.1⟩
 case round =>
  obtain ⟨X, U1, V1, Y, hU1, hV1, hgk, rfl, rfl, hm1, hL1, hS⟩ := hrel
  have hlen : (X ++ U1 ++ V1 ++ Y).length = d0.size := by
   rw [← H.out.2.1, hL1]
   simp only [List.length_append]
   omega
  have hm2 : X.length + U1.length = m := by rw [← hm1, List.length_append]
  have hz2 : m + V1.length ≤ d0.size := by
   simp only [List.length_append] at hlen
   omega
  have HS := Lib.hid (And.intro hS (And.intro hlen (And.intro hL1 (And.intro hm2 hgk))))
  obtain ⟨i, hi⟩ : ∃ i, i = U1.length := ⟨_, rfl⟩
  obtain ⟨j, hj⟩ : ∃ j, j = V1.length := ⟨_, rfl⟩
  rw [← hi, ← hj]
  rw [← hi] at hm2 hU1
  rw [← hj] at hz2 hV1
  have HI := Lib.hid (And.intro hi hj)
  clear hS hlen hL1 hgk hi hj hm1
  have hd1 := IntWalk.i64_in ((m : Int) - (i : Int)) (by omega)
  rcases Nat.lt_trichotomy i j with hc | hc | hc
  ·have hc1 : ¬ (i : Int) = (j : Int) := by omega
   have hc2 : ¬ (j : Int) < (i : Int) := by omega
   have hd2 := IntWalk.i64_in ((m : Int) + (j : Int)) (by omega)
   have hd3 := IntWalk.i64_in ((m : Int) + (j : Int) - (i : Int)) (by omega)
   have hd4 := IntWalk.i64_in ((j : Int) - (i : Int)) (by omega)
   have hcb : ((i : Int) == (j : Int)) = false := by rw [beq_eq_false_iff_ne]; exact hc1
   obtain ⟨V2, V3, hV3, hl3⟩ : ∃ V2 V3, V1 = V2 ++ V3 ∧ V3.length = i := ⟨V1.take (j - i), V1.drop (j - i), (List.take_append_drop _ _).symm, by rw [List.length_drop, ← HI.out.2]; omega⟩
   have hl2 : V2.length + i = j := by
    have := HI.out.2
    rw [hV3, List.length_append, hl3] at this
    omega
   have hE : X ++ U1 ++ V1 ++ Y = X ++ U1 ++ V2 ++ V3 ++ Y := by rw [hV3]; simp only [List.append_assoc]
   have HV := Lib.hid (And.intro hV3 (And.intro hl3 (And.intro hl2 hE)))
   clear hV3 hl3 hl2 hE
   go_wp2_with fail
   refine (swapRange_at w0 wr blk cap d0 X U1 V2 V3 Y f H.out.1 (by rw [← HV.out.2.2.2]; exact HS.out.2.1) (by rw [← HV.out.2.2.2]; exact HS.out.1) (by rw [HV.out.2.1, HI.out.1]) hz _ _ _ (by have := HS.out.2.2.2.1; omega) (by have := HS.out.2.2.2.1; have := HV.out.2.2.1; have := HI.out.1; simp only [List.length_append]; omega) (by rw [HI.out.1])).mono ?_
   rintro e w2 ⟨rfl, h2⟩
   have H2 := Lib.hid h2
   clear h2
   go_wp2_with fail
   go_roundg (i + (j - i))
   case measure => have := HS.out.2.2.2.2; have := HI.out; omega
   case rel =>
    refine ⟨X, V3, V2, U1 ++ Y, by have := HV.out.2.1; omega, by have := HV.out.2.2.1; omega, by have := HV.out; omega, by rw [HV.out.2.1], by have := HV.out.2.2.1; go_num, by rw [List.length_append, HV.out.2.1]; have := HS.out.2.2.2.1; omega, ?_, ?_⟩
    ·rw [HS.out.2.2.1, HV.out.1]; simp only [List.append_assoc]
    ·have h := H2.out
     simp only [List.append_assoc] at h ⊢
     exact h
  ·subst hc
   go_wp2_with fail
   refine (swapRange_at w0 wr blk cap d0 X U1 [] V1 Y f H.out.1 (by rw [List.append_nil]; exact HS.out.2.1) (by rw [List.append_nil]; exact HS.out.1) (by rw [← HI.out.1, ← HI.out.2]) hz _ _ _ (by have := HS.out.2.2.2.1; omega) (by have := HS.out.2.2.2.1; have := HI.out.1; simp only [List.length_append, List.length_nil]; omega) (by rw [HI.out.1])).mono ?_
   rintro e w2 ⟨rfl, h2⟩
   have H2 := Lib.hid h2
   clear h2
   go_wp2_with fail
   refine bodyPost_end (results_none rfl _ _ _) rfl ?_
   have h := H2.out
   rw [List.append_nil, ← HS.out.2.2.1] at h
   exact ⟨rfl, h⟩
  ·have hc1 : ¬ (i : Int) = (j : Int) := by omega
   have hc2 : (j : Int) < (i : Int) := by omega
   have hd4 := IntWalk.i64_in ((i : Int) - (j : Int)) (by omega)
   have hcb : ((i : Int) == (j : Int)) = false := by rw [beq_eq_false_iff_ne]; exact hc1
   obtain ⟨U2, U3, hU3, hl3⟩ : ∃ U2 U3, U1 = U2 ++ U3 ∧ U2.length = j := ⟨U1.take j, U1.drop j, (List.take_append_drop _ _).symm, by rw [List.length_take, ← HI.out.1]; omega⟩
   have hl2 : U3.length + j = i := by
    have := HI.out.1
    rw [hU3, List.length_append, hl3] at this
    omega
   have hE : X ++ U1 ++ V1 ++ Y = X ++ U2 ++ U3 ++ V1 ++ Y := by rw [hU3]; simp only [List.append_assoc]
   have HV := Lib.hid (And.intro hU3 (And.intro hl3 (And.intro hl2 hE)))
   clear hU3 hl3 hl2 hE
   go_wp2_with fail
   refine (swapRange_at w0 wr blk cap d0 X U2 U3 V1 Y f H.out.1 (by rw [← HV.out.2.2.2]; exact HS.out.2.1) (by rw [← HV.out.2.2.2]; exact HS.out.1) (by rw [HV.out.2.1, HI.out.2]) hz _ _ _ (by have := HS.out.2.2.2.1; omega) (by have := HS.out.2.2.2.1; have := HV.out; simp only [List.length_append]; omega) (by rw [HV.out.2.1])).mono ?_
   rintro e w2 ⟨rfl, h2⟩
   have H2 := Lib.hid h2
   clear h2
   go_wp2_with fail
   go_roundg (j + (i - j))
   case measure => have := HS.out.2.2.2.2; have := HI.out; omega
   case rel =>
    refine ⟨X ++ V1, U3, U2, Y, by have := HV.out.2.2.1; omega, by have := HV.out.2.1; omega, by have := HV.out; omega, by have := HV.out.2.2.1; go_num, by rw [HV.out.2.1], by have := HV.out; have := HI.out.2; have := HS.out.2.2.2.1; simp only [List.length_append]; omega, ?_, ?_⟩
    ·rw [HS.out.2.2.1, HV.out.1]; simp only [List.append_assoc]
    ·have h := H2.out
     simp only [List.append_assoc] at h ⊢
     exact h
open Go Go.RowKit Go.Lib Go.Sort Go.Shelf
def cfI (a b : Int) : Int := if a < b then -1 else if b < a then 1 else 0
def cfS (x y : SmpB) : Int := cfI x.1 y.1
theorem cfS_lt (x y : SmpB) : cfS x y < 0 ↔ x.1 < y.1 := by
 unfold cfS cfI
 split
 ·rename_i h; simp [h]
 ·split <;> simp <;> omega
theorem isNaN64_spec (w : World) (a : Int) : Calls Tryz.prog 88 #[.int .i64 a] w fun e w' => e = .returned (.bool false) ∧ w' = w := by
 go_enter Tryz.func88, Tryz.ntmps88
 go_wp2_with fail
 go_ret
 exact ⟨rfl, rfl⟩
theorem cmp64_spec (w : World) (a b : Int) : Calls Tryz.prog 53 #[.int .i64 a, .int .i64 b] w fun e w' => e = .returned (.int .i64 (cfI a b)) ∧ w' = w := by
 obtain ⟨c, hc⟩ : ∃ c : Int, c = cfI a b := ⟨_, rfl⟩
 rw [← hc]
 unfold cfI at hc
 have Hc := Lib.hid hc
 clear hc
 go_enter Tryz.func53, Tryz.ntmps53
 go_wp2_with fail
 refine (isNaN64_spec w a).mono ?_
 rintro e w2 ⟨rfl, rfl⟩
 go_wp2_with fail
 refine (isNaN64_spec w2 b).mono ?_
 rintro e w3 ⟨rfl, rfl⟩
 by_cases h1 : a < b
 ·have Hd := Lib.hid (Hc.out.trans (if_pos h1))
  go_wp2_with fail
  go_ret
  exact ⟨by rw [Hd.out]; rfl, rfl⟩
 ·by_cases h2 : b < a
  ·have Hd := Lib.hid ((Hc.out.trans (if_neg h1)).trans (if_pos h2))
   go_wp2_with fail
   go_ret
   exact ⟨by rw [Hd.out]; rfl, rfl⟩
  ·have Hd := Lib.hid ((Hc.out.trans (if_neg h1)).trans (if_neg h2))
   go_wp2_with fail
   go_ret
   exact ⟨by rw [Hd.out]; rfl, rfl⟩
theorem smpCmp_spec (w : World) (x y : SmpB) : Calls Tryz.prog 52 #[.agg #[.int .i64 x.1, .int .u64 x.2], .agg #[.int .i64 y.1, .int .u64 y.2]] w fun e w' => e = .returned (.int .i64 (cfS x y)) ∧ ∃ q os, w' = grow (w.drewN q) os := by
 go_enter Tryz.func52, Tryz.ntmps52
 go_wp2_with fail
 refine (cmp64_spec _ x.1 y.1).mono ?_
 rintro e w2 ⟨rfl, rfl⟩
 rw [show cfI x.1 y.1 = cfS x y from rfl]
 go_wp2_with fail
 go_ret
 refine ⟨rfl, 0, #[.cells #[.int .i64 x.1, .int .u64 x.2] 50, .cells #[.int .i64 y.1, .int .u64 y.2] 50], ?_⟩
 rw [alloc_eq_grow, alloc_eq_grow, grow_grow]
 rfl
theorem cmp_sort (W : World) (x y : SmpB) (n : Nat) (os : Array Obj) : Calls Tryz.prog 52 #[.agg #[.int .i64 x.1, .int .u64 x.2], .agg #[.int .i64 y.1, .int .u64 y.2]] (grow (W.drewN n) os) fun e w' => e = .returned (.int .i64 (cfS x y)) ∧ ∃ q os', w' = grow ((grow (W.drewN n) os).drewN q) os' := smpCmp_spec _ x y
abbrev cmpV : Value := .func (.func 52) #[] #[]
def FindL (w0 : World) (blk : Nat) (L : List SmpB) (x : SmpB) (Y : List SmpB) (m : Nat) (gk : Nat) (u10 u11 : Value) (wr : World) : Prop :=
 ∃ i j : Nat, m ≤ i ∧ i ≤ j ∧ j ≤ m + Y.length ∧ gk = j - i ∧ u10 = .int .i64 i ∧ u11 = .int .i64 j ∧ (∀ a ∈ Y.take (i - m), a.1 < x.1) ∧ (∀ b ∈ Y.drop (j - m), x.1 ≤ b.1) ∧ SWS w0 blk L wr
theorem srt_at {Y : List SmpB} (h : Srt Y) {i j : Nat} (hij : i ≤ j) (hj : j < Y.length) : (Y[i]'(by omega)).1 ≤ Y[j].1 := by
 rcases Nat.lt_or_ge i j with h1 | h1
 ·exact List.pairwise_iff_getElem.1 h i j (by omega) hj h1
 ·obtain rfl : i = j := by omega
  exact Int.le_refl _
theorem srt_take {Y : List SmpB} (h : Srt Y) {h' : Nat} {y : SmpB} (hl : Y[h']? = some y) : ∀ a ∈ Y.take (h' + 1), a.1 ≤ y.1 := fun a ha => by
 obtain ⟨hlt, rfl⟩ := List.getElem?_eq_some_iff.1 hl
 obtain ⟨i, hi, rfl⟩ := List.mem_iff_getElem.1 ha
 rw [List.length_take] at hi
 rw [List.getElem_take]
 exact srt_at h (by omega) hlt
theorem srt_drop {Y : List SmpB} (h : Srt Y) {h' : Nat} {y : SmpB} (hl : Y[h']? = some y) : ∀ a ∈ Y.drop h', y.1 ≤ a.1 := fun a ha => by
 obtain ⟨hlt, rfl⟩ := List.getElem?_eq_some_iff.1 hl
 obtain ⟨i, hi, rfl⟩ := List.mem_iff_getElem.1 ha
 rw [List.length_drop] at hi
 rw [List.getElem_drop]
 exact srt_at h (by omega) (by omega)
theorem mixedO : Tryz.prog.follows Departure.mixedOrders = true := by kernel_rfl
def ShiftL (w0 : World) (blk : Nat) (P Y S : List SmpB) (x : SmpB) (p c : Nat) (gk : Nat) (u13 : Value) (wr : World) : Prop :=
 ∃ k : Nat, p ≤ k ∧ k ≤ p + c ∧ gk = p + c - k ∧ u13 = .int .i64 k ∧ SWS w0 blk (P ++ (Y.take (k - p) ++ ([x] ++ Y.drop (k - p))) ++ S) wr
theorem sym_left (w0 w : World) (blk cap : Nat) (d0 : Array SmpB) (P Y S : List SmpB) (x : SmpB) (R : RowK encSm 2 w0 blk 0 d0) (hs : (P ++ [x] ++ Y ++ S).length = d0.size) (h : SWS w0 blk (P ++ [x] ++ Y ++ S) w) (hY : Srt Y) (hz : d0.size < 1000000) :
  Calls Tryz.prog 121 #[.slice (some ⟨blk, 0, none⟩) d0.size cap, .int .i64 (P.length : Nat), .int .i64 ((P ++ [x]).length : Nat), .int .i64 ((P ++ [x] ++ Y).length : Nat), cmpV] w fun e w' => e = .returned (.tuple #[]) ∧ ∃ Z, StbL ([x] ++ Y) Z ∧ SWS w0 blk (P ++ Z ++ S) w' := by
 obtain ⟨p, hp⟩ : ∃ p, p = P.length := ⟨_, rfl⟩
 obtain ⟨n, hn⟩ : ∃ n, n = Y.length := ⟨_, rfl⟩
 obtain ⟨L, hL⟩ : ∃ L, L = P ++ [x] ++ Y ++ S := ⟨_, rfl⟩
 have hb : p + 1 + n ≤ d0.size := by
  simp only [List.length_append, List.length_singleton] at hs
  omega
 obtain ⟨Q, hQ⟩ : ∃ Q : World → Prop, Q = fun w' => ∃ Z, StbL ([x] ++ Y) Z ∧ SWS w0 blk (P ++ Z ++ S) w' := ⟨_, rfl⟩
 have H := Lib.hid (And.intro R (And.intro hs (And.intro hY (And.intro hp (And.intro hn (And.intro hL hQ))))))
 rw [show (P ++ [x]).length = p + 1 by rw [List.length_append, hp]; rfl, show (P ++ [x] ++ Y).length = p + 1 + n by rw [List.length_append, List.length_append, hp, hn]; rfl, ← hp]
 rw [← hL] at h hs
 show Calls _ _ _ w fun e w' => e = .returned (.tuple #[]) ∧ (fun w' => ∃ Z, StbL ([x] ++ Y) Z ∧ SWS w0 blk (P ++ Z ++ S) w') w'
 rw [← hQ]
 have hw1 := IntWalk.i64_in (((p + 1 : Nat) : Int) - (p : Int)) (by omega)
 have hw2 : ((p : Int) + 1 - (p : Int) == 1) = true := by rw [show (p : Int) + 1 - (p : Int) = 1 by omega]; rfl
 have H0 := Lib.hid h
 clear R hs h hY hp hn hL hQ
 go_enter Tryz.func121, Tryz.ntmps121
 go_wp2_with fail
 go_loopg [10, 11] n (FindL w0 blk L x Y (p + 1))
 case atStart => exact ⟨p + 1, p + 1 + n, Nat.le_refl _, by omega, by rw [← H.out.2.2.2.2.1]; exact Nat.le_refl _, by omega, rfl, rfl, by simp, by rw [H.out.2.2.2.2.1]; simp, H0.out⟩
 case round =>
  obtain ⟨i, j, hmi, hij, hjn, hgk, rfl, rfl, hlo, hhi, hS⟩ := hrel
  have HS := Lib.hid (And.intro hS (And.intro hlo (And.intro hhi hgk)))
  rw [← H.out.2.2.2.2.1] at hjn
  clear hS hlo hhi hgk
  by_cases hlt : i < j
  ·have hlt' : (i : Int) < (j : Int) := by omega
   go_upto_region 5 with fail
   obtain ⟨q, hq⟩ : ∃ q : Nat, q = (i + j) / 2 := ⟨_, rfl⟩
   have hq1 : ((i : Int) + (j : Int)) / 2 = (q : Int) := by omega
   rw [hq1]
   have hqb : i ≤ q ∧ q < j := by omega
   have hql : q - (p + 1) < Y.length := by rw [← H.out.2.2.2.2.1]; omega
   have HQ := Lib.hid (And.intro hq hqb)
   have hqd : (q : Int) < (d0.size : Int) := by omega
   have hpd : (p : Int) < (d0.size : Int) := by omega
   obtain ⟨y, hy⟩ : ∃ y, Y[q - (p + 1)]? = some y := ⟨_, List.getElem?_eq_getElem hql⟩
   have hly : L[q]? = some y := by
    rw [H.out.2.2.2.2.2.1, List.append_assoc, List.append_assoc, List.getElem?_append_right (by rw [← H.out.2.2.2.1]; omega), ← H.out.2.2.2.1, List.getElem?_append_right (by simp; omega), List.getElem?_append_left (by simp; omega), List.length_singleton, show q - p - 1 = q - (p + 1) by omega]
    exact hy
   have hlx : L[p]? = some x := by
    rw [H.out.2.2.2.2.2.1, List.append_assoc, List.append_assoc, H.out.2.2.2.1]
    simp
   have hLs : L.length = d0.size := by rw [H.out.2.2.2.2.2.1]; exact H.out.2.1
   have c0 := fun n os => (sws_at (HS.out.1.grown n os) H.out.1 hLs q y hly).1
   have c1 := fun n os => (sws_at (HS.out.1.grown n os) H.out.1 hLs q y hly).2.1
   have c2 := fun n os => (sws_at (HS.out.1.grown n os) H.out.1 hLs p x hlx).1
   have c3 := fun n os => (sws_at (HS.out.1.grown n os) H.out.1 hLs p x hlx).2.1
   have Hy := Lib.hid hy
   clear hq hq1 hqb hql hy hly hlx hLs
   have mixed := mixedO
   by_cases hc : y.1 < x.1
   ·have hd : cfS y x < 0 := (cfS_lt y x).2 hc
    have Hc := Lib.hid hc
    clear hc
    go_quiet_grown (first | (go_at_call 52; refine Calls.grown_of (cmp_sort wr y x _ _)))
    have HS2 := Lib.hid (HS.out.1.grown nq osq)
    clear c0 c1 c2 c3 mixed
    generalize grow (wr.drewN nq) osq = w2 at HS2 ⊢
    have hw3 := IntWalk.i64_in ((q : Int) + 1) (by omega)
    go_wp2_with fail
    go_roundg (j - (q + 1))
    case measure => have := HS.out.2.2.2; have := HQ.out; omega
    case rel =>
     refine ⟨q + 1, j, by have := HQ.out; omega, by have := HQ.out; omega, by rw [← H.out.2.2.2.2.1]; exact hjn, rfl, by go_num, rfl, fun a ha => ?_, HS.out.2.2.1, HS2.out⟩
     rw [show q + 1 - (p + 1) = q - (p + 1) + 1 by have := HQ.out; omega] at ha
     exact Int.lt_of_le_of_lt (srt_take H.out.2.2.1 Hy.out a ha) Hc.out
   ·have hd : ¬ cfS y x < 0 := fun e => hc ((cfS_lt y x).1 e)
    have Hc := Lib.hid (show x.1 ≤ y.1 by omega)
    clear hc
    go_quiet_grown (first | (go_at_call 52; refine Calls.grown_of (cmp_sort wr y x _ _)))
    have HS2 := Lib.hid (HS.out.1.grown nq osq)
    clear c0 c1 c2 c3 mixed
    generalize grow (wr.drewN nq) osq = w2 at HS2 ⊢
    go_wp2_with fail
    go_roundg (q - i)
    case measure => have := HS.out.2.2.2; have := HQ.out; omega
    case rel =>
     refine ⟨i, q, hmi, by have := HQ.out; omega, by rw [← H.out.2.2.2.2.1]; have := HQ.out; omega, rfl, rfl, rfl, HS.out.2.1, fun b hb => ?_, HS2.out⟩
     exact Int.le_trans Hc.out (srt_drop H.out.2.2.1 Hy.out b hb)
  ·have hge : ¬ (i : Int) < (j : Int) := by omega
   obtain rfl : i = j := by omega
   obtain ⟨c, hc⟩ : ∃ c, c = i - (p + 1) := ⟨_, rfl⟩
   have hw4 := IntWalk.i64_in ((i : Int) - 1) (by omega)
   have hcn : c ≤ n := by omega
   have HC := Lib.hid hc
   have hip : (i : Int) = (p : Int) + 1 + (c : Int) := by omega
   have Hip := Lib.hid hip
   clear hc hip
   go_wp2_with fail
   go_loopg [13] c (ShiftL w0 blk P Y S x p c)
   case atStart =>
    refine ⟨p, Nat.le_refl _, by omega, by omega, rfl, ?_⟩
    have h1 := HS.out.1
    rw [H.out.2.2.2.2.2.1] at h1
    simpa using h1
   case round =>
    obtain ⟨k, hpk, hkc, hgk2, rfl, hS2⟩ := hrel
    have HS2 := Lib.hid (And.intro hS2 hgk2)
    clear hS2 hgk2
    by_cases hlt2 : k < p + c
    ·have hlt3 : (k : Int) < (i : Int) - 1 := by have := Hip.out; omega
     obtain ⟨y, hy⟩ : ∃ y, Y[k - p]? = some y := ⟨_, List.getElem?_eq_getElem (by have := H.out.2.2.2.2.1; omega)⟩
     obtain ⟨hyl, hye⟩ := List.getElem?_eq_some_iff.1 hy
     have hE : P ++ (Y.take (k - p) ++ ([x] ++ Y.drop (k - p))) ++ S = (P ++ Y.take (k - p)) ++ x :: ([] ++ y :: (Y.drop (k - p + 1) ++ S)) := by
      rw [List.drop_eq_getElem_cons hyl, hye]
      simp only [List.append_assoc, List.cons_append, List.nil_append]
     have h1 := HS2.out.1
     rw [hE] at h1
     have hlen : ((P ++ Y.take (k - p)) ++ x :: ([] ++ y :: (Y.drop (k - p + 1) ++ S))).length = d0.size := by
      rw [← H.out.2.1, ← hE]
      have := congrArg List.length (List.take_append_drop (k - p) Y)
      simp only [List.length_append, List.length_singleton] at this ⊢
      omega
     have hi1 : k = (P ++ Y.take (k - p)).length := by rw [List.length_append, List.length_take, ← H.out.2.2.2.1]; omega
     obtain ⟨c0, c1, f0, f1⟩ := sws_at h1 H.out.1 hlen k x (at_left hi1)
     obtain ⟨c2, c3, f2, f3⟩ := sws_at h1 H.out.1 hlen (k + 1) y (at_right (by rw [← hi1]; rfl))
     have lb := World.block_lt_of_cell? _ _ c0
     have HW := Lib.hid (sws_swap h1 H.out.1 k (k + 1) hi1 (by rw [← hi1]; rfl))
     have hk1 : (k : Int) < (d0.size : Int) := by omega
     have hk2 : (k : Int) + 1 < (d0.size : Int) := by omega
     have hk3 := IntWalk.i64_in ((k : Int) + 1) (by omega)
     have hk4 : (0 : Int) ≤ (k : Int) + 1 := by omega
     have hk5 : ((k : Int) + 1).toNat = k + 1 := by omega
     have hne : (k + 1) * 2 ≠ k * 2 ∧ (k + 1) * 2 ≠ k * 2 + 1 ∧ (k + 1) * 2 + 1 ≠ k * 2 ∧ (k + 1) * 2 + 1 ≠ k * 2 + 1 := by omega
     obtain ⟨hn1, hn2, hn3, hn4⟩ := hne
     have Hy := Lib.hid hy
     clear hE h1 hlen hi1 hy hyl hye
     go_upto_region 11 with fail
     go_region
     generalize ((((wr.setCell ⟨blk, k * 2, none⟩ (.int .i64 y.1)).setCell ⟨blk, k * 2 + 1, none⟩ (.int .u64 y.2)).setCell ⟨blk, (k + 1) * 2, none⟩ (.int .i64 x.1)).setCell ⟨blk, (k + 1) * 2 + 1, none⟩ (.int .u64 x.2)).drew = w2 at HW ⊢
     clear c0 c1 c2 c3 f0 f1 f2 f3 lb hn1 hn2 hn3 hn4 hk1 hk2 hk4 hk5
     go_wp2_with fail
     go_roundg (p + c - (k + 1))
     case measure => have := HS2.out.2; omega
     case rel =>
      refine ⟨k + 1, by omega, by omega, rfl, by go_num, ?_⟩
      have h2 := HW.out
      obtain ⟨hyl, hye⟩ := List.getElem?_eq_some_iff.1 Hy.out
      rw [show k + 1 - p = k - p + 1 by omega, List.take_succ_eq_append_getElem hyl, hye]
      simp only [List.append_assoc, List.cons_append, List.nil_append] at h2 ⊢
      exact h2
    ·have hlt3 : ¬ (k : Int) < (i : Int) - 1 := by have := Hip.out; omega
     have hkc2 : k - p = c := by omega
     have h1 := HS2.out.1
     rw [hkc2] at h1
     have hst : StbL ([x] ++ Y) (Y.take c ++ ([x] ++ Y.drop c)) := by
      have h2 := stb_one_left (x := x) (y1 := Y.take c) (y2 := Y.drop c) (by rw [List.take_append_drop]; exact H.out.2.2.1) (by rw [HC.out]; exact HS.out.2.1) (by rw [HC.out]; exact HS.out.2.2.1)
      rw [List.take_append_drop] at h2
      exact h2
     have HE := Lib.hid (show Q wr by rw [H.out.2.2.2.2.2.2]; exact ⟨_, hst, h1⟩)
     clear hkc2 h1 hst
     go_wp2_with fail
     refine bodyPost_ret (v := .tuple #[]) (results_none rfl _ _ _) rfl ?_
     exact ⟨rfl, HE.out⟩
def FindRt (w0 : World) (blk : Nat) (L : List SmpB) (y : SmpB) (X : List SmpB) (p : Nat) (gk : Nat) (u14 u15 : Value) (wr : World) : Prop :=
 ∃ i j : Nat, p ≤ i ∧ i ≤ j ∧ j ≤ p + X.length ∧ gk = j - i ∧ u14 = .int .i64 i ∧ u15 = .int .i64 j ∧ (∀ a ∈ X.take (i - p), a.1 ≤ y.1) ∧ (∀ b ∈ X.drop (j - p), y.1 < b.1) ∧ SWS w0 blk L wr
def ShiftRt (w0 : World) (blk : Nat) (P X S : List SmpB) (y : SmpB) (p c : Nat) (gk : Nat) (u17 : Value) (wr : World) : Prop :=
 ∃ k : Nat, p + c ≤ k ∧ k ≤ p + X.length ∧ gk = k - (p + c) ∧ u17 = .int .i64 k ∧ SWS w0 blk (P ++ (X.take (k - p) ++ ([y] ++ X.drop (k - p))) ++ S) wr
theorem sym_right (w0 w : World) (blk cap : Nat) (d0 : Array SmpB) (P X S : List SmpB) (y : SmpB) (R : RowK encSm 2 w0 blk 0 d0) (hs : (P ++ X ++ [y] ++ S).length = d0.size) (h : SWS w0 blk (P ++ X ++ [y] ++ S) w) (hX : Srt X) (hX1 : X.length ≠ 1) (hz : d0.size < 1000000) :
  Calls Tryz.prog 121 #[.slice (some ⟨blk, 0, none⟩) d0.size cap, .int .i64 (P.length : Nat), .int .i64 ((P ++ X).length : Nat), .int .i64 ((P ++ X ++ [y]).length : Nat), cmpV] w fun e w' => e = .returned (.tuple #[]) ∧ ∃ Z, StbL (X ++ [y]) Z ∧ SWS w0 blk (P ++ Z ++ S) w' := by
 obtain ⟨p, hp⟩ : ∃ p, p = P.length := ⟨_, rfl⟩
 obtain ⟨n, hn⟩ : ∃ n, n = X.length := ⟨_, rfl⟩
 obtain ⟨m, hm⟩ : ∃ m, m = p + n := ⟨_, rfl⟩
 obtain ⟨L, hL⟩ : ∃ L, L = P ++ X ++ [y] ++ S := ⟨_, rfl⟩
 have hb : m + 1 ≤ d0.size := by
  simp only [List.length_append, List.length_singleton] at hs
  omega
 obtain ⟨Q, hQ⟩ : ∃ Q : World → Prop, Q = fun w' => ∃ Z, StbL (X ++ [y]) Z ∧ SWS w0 blk (P ++ Z ++ S) w' := ⟨_, rfl⟩
 have H := Lib.hid (And.intro R (And.intro hs (And.intro hX (And.intro hp (And.intro hn (And.intro hL (And.intro hQ hm)))))))
 rw [show (P ++ X).length = m by rw [List.length_append, hm, hn, hp], show (P ++ X ++ [y]).length = m + 1 by rw [List.length_append, List.length_append, hm, hp, hn]; rfl, ← hp]
 rw [← hL] at h hs
 show Calls _ _ _ w fun e w' => e = .returned (.tuple #[]) ∧ (fun w' => ∃ Z, StbL (X ++ [y]) Z ∧ SWS w0 blk (P ++ Z ++ S) w') w'
 rw [← hQ]
 have hw1 := IntWalk.i64_in ((m : Int) - (p : Int)) (by omega)
 have hw2 : ((m : Int) - (p : Int) == 1) = false := by rw [beq_eq_false_iff_ne]; omega
 have hw3 := IntWalk.i64_in (((m + 1 : Nat) : Int) - (m : Int)) (by omega)
 have hw4 : ((m : Int) + 1 - (m : Int) == 1) = true := by rw [show (m : Int) + 1 - (m : Int) = 1 by omega]; rfl
 have H0 := Lib.hid h
 have hpm : p ≤ m := by omega
 clear R hs h hX hX1 hp hn hL hQ hm
 go_enter Tryz.func121, Tryz.ntmps121
 go_wp2_with fail
 go_loopg [14, 15] n (FindRt w0 blk L y X p)
 case atStart => exact ⟨p, m, Nat.le_refl _, hpm, by rw [← H.out.2.2.2.2.1, H.out.2.2.2.2.2.2.2]; exact Nat.le_refl _, by have := H.out.2.2.2.2.2.2.2; omega, rfl, rfl, by simp, by rw [H.out.2.2.2.2.2.2.2, H.out.2.2.2.2.1]; simp, H0.out⟩
 case round =>
  obtain ⟨i, j, hmi, hij, hjn, hgk, rfl, rfl, hlo, hhi, hS⟩ := hrel
  have HS := Lib.hid (And.intro hS (And.intro hlo (And.intro hhi hgk)))
  rw [← H.out.2.2.2.2.1, ← H.out.2.2.2.2.2.2.2] at hjn
  clear hS hlo hhi hgk
  by_cases hlt : i < j
  ·have hlt' : (i : Int) < (j : Int) := by omega
   go_upto_region 17 with fail
   obtain ⟨q, hq⟩ : ∃ q : Nat, q = (i + j) / 2 := ⟨_, rfl⟩
   have hq1 : ((i : Int) + (j : Int)) / 2 = (q : Int) := by omega
   rw [hq1]
   have hqb : i ≤ q ∧ q < j := by omega
   have hql : q - p < X.length := by rw [← H.out.2.2.2.2.1]; have := H.out.2.2.2.2.2.2.2; omega
   have HQ := Lib.hid (And.intro hq hqb)
   have hqd : (q : Int) < (d0.size : Int) := by omega
   have hmd : (m : Int) < (d0.size : Int) := by omega
   obtain ⟨x, hx⟩ : ∃ x, X[q - p]? = some x := ⟨_, List.getElem?_eq_getElem hql⟩
   have hlx : L[q]? = some x := by
    rw [H.out.2.2.2.2.2.1, List.append_assoc, List.append_assoc, List.getElem?_append_right (by rw [← H.out.2.2.2.1]; omega), ← H.out.2.2.2.1, List.getElem?_append_left hql]
    exact hx
   have hly : L[m]? = some y := by
    rw [H.out.2.2.2.2.2.1, List.append_assoc, List.getElem?_append_right (by rw [List.length_append, ← H.out.2.2.2.1, ← H.out.2.2.2.2.1, H.out.2.2.2.2.2.2.2]; exact Nat.le_refl _), List.length_append, ← H.out.2.2.2.1, ← H.out.2.2.2.2.1, H.out.2.2.2.2.2.2.2]
    simp
   have hLs : L.length = d0.size := by rw [H.out.2.2.2.2.2.1]; exact H.out.2.1
   have c0 := fun n os => (sws_at (HS.out.1.grown n os) H.out.1 hLs q x hlx).1
   have c1 := fun n os => (sws_at (HS.out.1.grown n os) H.out.1 hLs q x hlx).2.1
   have c2 := fun n os => (sws_at (HS.out.1.grown n os) H.out.1 hLs m y hly).1
   have c3 := fun n os => (sws_at (HS.out.1.grown n os) H.out.1 hLs m y hly).2.1
   have Hx := Lib.hid hx
   clear hq hq1 hqb hql hx hly hlx hLs
   have mixed := mixedO
   by_cases hc : y.1 < x.1
   ·have hd : cfS y x < 0 := (cfS_lt y x).2 hc
    have Hc := Lib.hid hc
    clear hc
    go_quiet_grown (first | (go_at_call 52; refine Calls.grown_of (cmp_sort wr y x _ _)))
    have HS2 := Lib.hid (HS.out.1.grown nq osq)
    clear c0 c1 c2 c3 mixed
    generalize grow (wr.drewN nq) osq = w2 at HS2 ⊢
    go_wp2_with fail
    go_roundg (q - i)
    case measure => have := HS.out.2.2.2; have := HQ.out; omega
    case rel =>
     refine ⟨i, q, hmi, by have := HQ.out; omega, by rw [← H.out.2.2.2.2.1]; have := HQ.out; have := H.out.2.2.2.2.2.2.2; omega, rfl, rfl, rfl, HS.out.2.1, fun b hb => ?_, HS2.out⟩
     exact Int.lt_of_lt_of_le Hc.out (srt_drop H.out.2.2.1 Hx.out b hb)
   ·have hd : ¬ cfS y x < 0 := fun e => hc ((cfS_lt y x).1 e)
    have Hc := Lib.hid (show x.1 ≤ y.1 by omega)
    clear hc
    go_quiet_grown (first | (go_at_call 52; refine Calls.grown_of (cmp_sort wr y x _ _)))
    have HS2 := Lib.hid (HS.out.1.grown nq osq)
    clear c0 c1 c2 c3 mixed
    generalize grow (wr.drewN nq) osq = w2 at HS2 ⊢
    have hw5 := IntWalk.i64_in ((q : Int) + 1) (by omega)
    go_wp2_with fail
    go_roundg (j - (q + 1))
    case measure => have := HS.out.2.2.2; have := HQ.out; omega
    case rel =>
     refine ⟨q + 1, j, by have := HQ.out; omega, by have := HQ.out; omega, by rw [← H.out.2.2.2.2.1, ← H.out.2.2.2.2.2.2.2]; exact hjn, rfl, by go_num, rfl, fun a ha => ?_, HS.out.2.2.1, HS2.out⟩
     rw [show q + 1 - p = q - p + 1 by have := HQ.out; omega] at ha
     exact Int.le_trans (srt_take H.out.2.2.1 Hx.out a ha) Hc.out
  ·have hge : ¬ (i : Int) < (j : Int) := by omega
   obtain rfl : i = j := by omega
   obtain ⟨c, hc⟩ : ∃ c, c = i - p := ⟨_, rfl⟩
   have HC := Lib.hid (And.intro hc (show i = p + c by omega))
   clear hc
   go_wp2_with fail
   go_loopg [17] (m - i) (ShiftRt w0 blk P X S y p c)
   case atStart =>
    refine ⟨m, by have := HC.out.2; omega, by rw [← H.out.2.2.2.2.1, H.out.2.2.2.2.2.2.2]; exact Nat.le_refl _, by have := HC.out.2; omega, rfl, ?_⟩
    have h1 := HS.out.1
    rw [H.out.2.2.2.2.2.1] at h1
    rw [show m - p = X.length by have := H.out.2.2.2.2.2.2.2; have := H.out.2.2.2.2.1; omega, List.take_length, List.drop_length]
    simpa using h1
   case round =>
    obtain ⟨k, hpk, hkc, hgk2, rfl, hS2⟩ := hrel
    have HS2 := Lib.hid (And.intro hS2 hgk2)
    clear hS2 hgk2
    by_cases hlt2 : i < k
    ·have hlt3 : (i : Int) < (k : Int) := by omega
     obtain ⟨k1, hk1⟩ : ∃ k1, k = k1 + 1 := ⟨k - 1, by omega⟩
     have hk1p : p ≤ k1 := by omega
     obtain ⟨x, hx⟩ : ∃ x, X[k1 - p]? = some x := ⟨_, List.getElem?_eq_getElem (by omega)⟩
     obtain ⟨hxl, hxe⟩ := List.getElem?_eq_some_iff.1 hx
     have hE : P ++ (X.take (k - p) ++ ([y] ++ X.drop (k - p))) ++ S = (P ++ X.take (k1 - p)) ++ x :: ([] ++ y :: (X.drop (k - p) ++ S)) := by
      rw [show k - p = k1 - p + 1 by omega, List.take_succ_eq_append_getElem hxl, hxe]
      simp only [List.append_assoc, List.cons_append, List.nil_append]
     have h1 := HS2.out.1
     rw [hE] at h1
     have hlen : ((P ++ X.take (k1 - p)) ++ x :: ([] ++ y :: (X.drop (k - p) ++ S))).length = d0.size := by
      rw [← H.out.2.1, ← hE]
      have := congrArg List.length (List.take_append_drop (k - p) X)
      simp only [List.length_append, List.length_singleton] at this ⊢
      omega
     have hi1 : k1 = (P ++ X.take (k1 - p)).length := by rw [List.length_append, List.length_take, ← H.out.2.2.2.1]; omega
     obtain ⟨c0, c1, f0, f1⟩ := sws_at h1 H.out.1 hlen k1 x (at_left hi1)
     obtain ⟨c2, c3, f2, f3⟩ := sws_at h1 H.out.1 hlen k y (at_right (by rw [← hi1, hk1]; rfl))
     have lb := World.block_lt_of_cell? _ _ c0
     have HW := Lib.hid (sws_swap2 h1 H.out.1 k1 k hi1 (by rw [← hi1, hk1]; rfl))
     have hkm : k ≤ m := by have := H.out.2.2.2.2.2.2.2; have := H.out.2.2.2.2.1; omega
     have hk2 : (k : Int) < (d0.size : Int) := by omega
     have hk3 : IntKind.i64.wrap ((k : Int) - 1) = (k1 : Int) := by rw [IntWalk.i64_in _ (by omega)]; omega
     have hk4 : (k1 : Int) < (d0.size : Int) := by omega
     have hne : k * 2 ≠ k1 * 2 ∧ k * 2 ≠ k1 * 2 + 1 ∧ k * 2 + 1 ≠ k1 * 2 ∧ k * 2 + 1 ≠ k1 * 2 + 1 ∧ k1 * 2 ≠ k * 2 ∧ k1 * 2 ≠ k * 2 + 1 ∧ k1 * 2 + 1 ≠ k * 2 ∧ k1 * 2 + 1 ≠ k * 2 + 1 := by omega
     obtain ⟨hn1, hn2, hn3, hn4, hn5, hn6, hn7, hn8⟩ := hne
     have Hx := Lib.hid (And.intro hx (And.intro hk1 hkm))
     clear hE h1 hlen hi1 hx hxl hxe hk1 hkm
     go_upto_region 23 with fail
     go_region
     generalize ((((wr.setCell ⟨blk, k * 2, none⟩ (.int .i64 x.1)).setCell ⟨blk, k * 2 + 1, none⟩ (.int .u64 x.2)).setCell ⟨blk, k1 * 2, none⟩ (.int .i64 y.1)).setCell ⟨blk, k1 * 2 + 1, none⟩ (.int .u64 y.2)).drew = w2 at HW ⊢
     clear c0 c1 c2 c3 f0 f1 f2 f3 lb hn1 hn2 hn3 hn4 hn5 hn6 hn7 hn8 hk2 hk4
     go_wp2_with fail
     go_roundg (k1 - (p + c))
     case measure => have := HS2.out.2; have := Hx.out.2.1; have := HC.out.2; omega
     case rel =>
      refine ⟨k1, by have := Hx.out.2.1; have := HC.out.2; omega, by have := Hx.out.2.1; omega, rfl, rfl, ?_⟩
      have h2 := HW.out
      obtain ⟨hxl, hxe⟩ := List.getElem?_eq_some_iff.1 Hx.out.1
      rw [show k - p = k1 - p + 1 by have := Hx.out.2.1; omega] at h2
      rw [List.drop_eq_getElem_cons hxl, hxe]
      simp only [List.append_assoc, List.cons_append, List.nil_append] at h2 ⊢
      exact h2
    ·have hlt3 : ¬ (i : Int) < (k : Int) := by omega
     have hkc2 : k - p = c := by have := HC.out.2; omega
     have h1 := HS2.out.1
     rw [hkc2] at h1
     have hst : StbL (X ++ [y]) (X.take c ++ ([y] ++ X.drop c)) := by
      have h2 := stb_one_right (y := y) (x1 := X.take c) (x2 := X.drop c) (by rw [List.take_append_drop]; exact H.out.2.2.1) (by rw [HC.out.1]; exact HS.out.2.1) (by rw [HC.out.1]; exact HS.out.2.2.1)
      rw [List.take_append_drop] at h2
      exact h2
     have HE := Lib.hid (show Q wr by rw [H.out.2.2.2.2.2.2.1]; exact ⟨_, hst, h1⟩)
     clear hkc2 h1 hst
     go_wp2_with fail
     refine bodyPost_ret (v := .tuple #[]) (results_none rfl _ _ _) rfl ?_
     exact ⟨rfl, HE.out⟩
open Go Go.RowKit Go.Lib Go.Sort Go.Shelf
theorem rotate_at (w0 w : World) (blk cap : Nat) (d0 : Array SmpB) (P U V S : List SmpB) (f : Value) (R : RowK encSm 2 w0 blk 0 d0) (hs : (P ++ U ++ V ++ S).length = d0.size) (h : SWS w0 blk (P ++ U ++ V ++ S) w) (hU : 0 < U.length) (hV : 0 < V.length) (hz : d0.size < 1000000) (a b c : Int) (ha : a = (P.length : Nat)) (hb : b = ((P ++ U).length : Nat)) (hc : c = ((P ++ U ++ V).length : Nat)) :
  Calls Tryz.prog 147 #[.slice (some ⟨blk, 0, none⟩) d0.size cap, .int .i64 a, .int .i64 b, .int .i64 c, f] w fun e w' => e = .returned (.tuple #[]) ∧ SWS w0 blk (P ++ V ++ U ++ S) w' := by
 subst ha hb hc
 exact rotate_spec w0 w blk cap d0 P U V S f R hs h hU hV hz
def SymPost (w0 : World) (blk : Nat) (P X Y S : List SmpB) (e : Ending) (w' : World) : Prop := e = .returned (.tuple #[]) ∧ ∃ Z, StbL (X ++ Y) Z ∧ SWS w0 blk (P ++ Z ++ S) w'
def SymIH (w0 : World) (blk cap : Nat) (d0 : Array SmpB) (N : Nat) : Prop := ∀ (w : World) (P X Y S : List SmpB) (a b c : Int), X.length + Y.length < N → 0 < X.length → 0 < Y.length → Srt X → Srt Y → (P ++ X ++ Y ++ S).length = d0.size → SWS w0 blk (P ++ X ++ Y ++ S) w → a = (P.length : Nat) → b = ((P ++ X).length : Nat) → c = ((P ++ X ++ Y).length : Nat) →
 Calls Tryz.prog 121 #[.slice (some ⟨blk, 0, none⟩) d0.size cap, .int .i64 a, .int .i64 b, .int .i64 c, cmpV] w (SymPost w0 blk P X Y S)
def HalfM (p m mid b n s0 r0 : Nat) : Prop := p ≤ s0 ∧ s0 ≤ r0 ∧ r0 ≤ m ∧ r0 ≤ mid ∧ n ≤ b + s0 ∧ (s0 = p ∨ n = b + s0) ∧ (r0 = m ∨ r0 = mid)
def FindM (w0 : World) (blk : Nat) (L : List SmpB) (n s0 r0 : Nat) (gk : Nat) (u20 u21 : Value) (wr : World) : Prop :=
 ∃ s r : Nat, s0 ≤ s ∧ s ≤ r ∧ r ≤ r0 ∧ gk = r - s ∧ u20 = .int .i64 s ∧ u21 = .int .i64 r ∧ (s = s0 ∨ ∃ x y, L[s - 1]? = some x ∧ L[n - s]? = some y ∧ x.1 ≤ y.1) ∧ (r = r0 ∨ ∃ x y, L[r]? = some x ∧ L[n - 1 - r]? = some y ∧ y.1 < x.1) ∧ SWS w0 blk L wr
theorem at_mid {P X Y S : List SmpB} {i : Nat} (h1 : P.length ≤ i) (h2 : i < P.length + X.length) : (P ++ X ++ Y ++ S)[i]? = X[i - P.length]? := by
 rw [List.append_assoc, List.append_assoc, List.getElem?_append_right h1, List.getElem?_append_left (by omega)]
theorem at_fin {P X Y S : List SmpB} {i : Nat} (h1 : P.length + X.length ≤ i) (h2 : i < P.length + X.length + Y.length) : (P ++ X ++ Y ++ S)[i]? = Y[i - (P.length + X.length)]? := by
 rw [List.append_assoc, List.getElem?_append_right (by rw [List.length_append]; exact h1), List.length_append, List.getElem?_append_left (by omega)]
theorem srt_part {X : List SmpB} (h : Srt X) (k : Nat) : Srt (X.take k) ∧ Srt (X.drop k) := ⟨List.Pairwise.sublist (List.take_sublist _ _) h, List.Pairwise.sublist (List.drop_sublist _ _) h⟩
theorem find_parts {P X Y S L : List SmpB} {p m mid b n s0 r0 s : Nat} (hL : L = P ++ X ++ Y ++ S) (hp : p = P.length) (hm : m = p + X.length) (hb : b = m + Y.length) (hn : n = mid + m) (hh : HalfM p m mid b n s0 r0) (hX : Srt X) (hY : Srt Y) (h1 : s0 ≤ s) (h2 : s ≤ r0)
  (hl : s = s0 ∨ ∃ x y, L[s - 1]? = some x ∧ L[n - s]? = some y ∧ x.1 ≤ y.1) (hr : s = r0 ∨ ∃ x y, L[s]? = some x ∧ L[n - 1 - s]? = some y ∧ y.1 < x.1) :
  (∀ a ∈ X.take (s - p), ∀ c ∈ Y.drop (mid - s), a.1 ≤ c.1) ∧ ∀ a ∈ Y.take (mid - s), ∀ c ∈ X.drop (s - p), a.1 < c.1 := by
 obtain ⟨g1, g2, g3, g4, g5, g6, g7⟩ := hh
 constructor
 ·intro a ha c hc
  rcases hl with rfl | ⟨x, y, hx, hy, hxy⟩
  ·rcases g6 with rfl | g6
   ·rw [Nat.sub_self, List.take_zero] at ha
    cases ha
   ·rw [List.drop_eq_nil_of_le (by omega)] at hc
    cases hc
  ·by_cases hs : s = s0
   ·subst hs
    rcases g6 with rfl | g6
    ·rw [Nat.sub_self, List.take_zero] at ha
     cases ha
    ·rw [List.drop_eq_nil_of_le (by omega)] at hc
     cases hc
   ·by_cases he : mid - s < Y.length
    ·rw [hL, at_mid (by omega) (by omega)] at hx
     rw [hL, at_fin (by omega) (by omega)] at hy
     rw [show s - p = s - 1 - P.length + 1 by omega] at ha
     rw [show mid - s = n - s - (P.length + X.length) by omega] at hc
     exact Int.le_trans (srt_take hX hx a ha) (Int.le_trans hxy (srt_drop hY hy c hc))
    ·rw [List.drop_eq_nil_of_le (by omega)] at hc
     cases hc
 ·intro a ha c hc
  by_cases hs : s = r0
  ·subst hs
   rcases g7 with rfl | rfl
   ·rw [List.drop_eq_nil_of_le (by omega)] at hc
    cases hc
   ·rw [Nat.sub_self, List.take_zero] at ha
    cases ha
  ·rcases hr with hr | ⟨x, y, hx, hy, hxy⟩
   ·exact absurd hr hs
   ·rw [hL, at_mid (by omega) (by omega)] at hx
    rw [hL, at_fin (by omega) (by omega)] at hy
    rw [show mid - s = n - 1 - s - (P.length + X.length) + 1 by omega] at ha
    rw [show s - p = s - P.length by omega] at hc
    exact Int.lt_of_le_of_lt (srt_take hY hy a ha) (Int.lt_of_lt_of_le hxy (srt_drop hX hx c hc))
theorem sym_step (w0 w : World) (blk cap : Nat) (d0 : Array SmpB) (P X Y S : List SmpB) (R : RowK encSm 2 w0 blk 0 d0) (hs : (P ++ X ++ Y ++ S).length = d0.size) (h : SWS w0 blk (P ++ X ++ Y ++ S) w) (hX : Srt X) (hY : Srt Y) (hX1 : 1 < X.length) (hY1 : 1 < Y.length) (hz : d0.size < 1000000) (IH : SymIH w0 blk cap d0 (X.length + Y.length)) :
  Calls Tryz.prog 121 #[.slice (some ⟨blk, 0, none⟩) d0.size cap, .int .i64 (P.length : Nat), .int .i64 ((P ++ X).length : Nat), .int .i64 ((P ++ X ++ Y).length : Nat), cmpV] w (SymPost w0 blk P X Y S) := by
 obtain ⟨p, hp⟩ : ∃ p, p = P.length := ⟨_, rfl⟩
 obtain ⟨m, hm⟩ : ∃ m, m = p + X.length := ⟨_, rfl⟩
 obtain ⟨b, hb⟩ : ∃ b, b = m + Y.length := ⟨_, rfl⟩
 obtain ⟨L, hL⟩ : ∃ L, L = P ++ X ++ Y ++ S := ⟨_, rfl⟩
 have hbz : p + 1 < m ∧ m + 1 < b ∧ b ≤ d0.size := by
  simp only [List.length_append] at hs
  omega
 obtain ⟨mid, hmid⟩ : ∃ mid, mid = (p + b) / 2 := ⟨_, rfl⟩
 obtain ⟨n, hn⟩ : ∃ n, n = mid + m := ⟨_, rfl⟩
 obtain ⟨n1, hn1⟩ : ∃ n1, n1 = n - 1 := ⟨_, rfl⟩
 have hmb : p < mid ∧ mid < b := by omega
 have HI := Lib.hid IH
 have H := Lib.hid (And.intro R (And.intro hs (And.intro hX (And.intro hY (And.intro hp (And.intro hm (And.intro hb hL)))))))
 rw [show (P ++ X).length = m by rw [List.length_append, hm, hp], show (P ++ X ++ Y).length = b by rw [List.length_append, List.length_append, hb, hm, hp], ← hp]
 rw [← hL] at h hs
 have HM := Lib.hid (And.intro hmid (And.intro hn hn1))
 have hw1 := IntWalk.i64_in ((m : Int) - (p : Int)) (by omega)
 have hw2 : ((m : Int) - (p : Int) == 1) = false := by rw [beq_eq_false_iff_ne]; omega
 have hw3 := IntWalk.i64_in ((b : Int) - (m : Int)) (by omega)
 have hw4 : ((b : Int) - (m : Int) == 1) = false := by rw [beq_eq_false_iff_ne]; omega
 have hq1 : ((p : Int) + (b : Int)) / 2 = (mid : Int) := by omega
 have hq2 : (mid : Int) + (m : Int) = (n : Int) := by omega
 have hq3 : IntKind.i64.wrap ((n : Int) - 1) = (n1 : Int) := by rw [IntWalk.i64_in _ (by omega)]; omega
 have hnb : n < 2000000 := by omega
 have H0 := Lib.hid h
 have HP := Lib.hid (show ∀ e w', SymPost w0 blk P X Y S e w' ↔ e = .returned (.tuple #[]) ∧ ∃ Z, StbL (X ++ Y) Z ∧ SWS w0 blk (P ++ Z ++ S) w' from fun _ _ => Iff.rfl)
 clear IH R hs h hX hY hX1 hY1 hp hm hb hL hmid hn hn1
 obtain ⟨Q, hQ⟩ : ∃ Q : Ending → World → Prop, Q = SymPost w0 blk P X Y S := ⟨_, rfl⟩
 rw [← hQ]
 have HQ := Lib.hid hQ
 clear hQ HP
 go_enter Tryz.func121, Tryz.ntmps121
 go_upto_region 25 with fail
 clear hw1 hw2 hw3 hw4 hq1
 go_upto_region 26 with fail
 clear hq2
 go_upto_if 140 with fail
 go_cut [20, 21] from 138 to 146 (fun cs cr wc => ∃ s0 r0 : Nat, cs = .int .i64 s0 ∧ cr = .int .i64 r0 ∧ HalfM p m mid b n s0 r0 ∧ wc = w)
 case first =>
  by_cases hc : mid < m
  ·have hc1 : (mid : Int) < (m : Int) := by omega
   have hs0 : IntKind.i64.wrap ((n : Int) - (b : Int)) = ((n - b : Nat) : Int) := by have := HM.out; rw [IntWalk.i64_in _ (by omega)]; omega
   go_wp2_with fail
   go_meet
   case rel => exact ⟨n - b, mid, rfl, rfl, by have := HM.out; unfold HalfM; omega, rfl⟩
  ·have hc1 : ¬ (mid : Int) < (m : Int) := by omega
   go_wp2_with fail
   go_meet
   case rel => exact ⟨p, m, rfl, rfl, by have := HM.out; unfold HalfM; omega, rfl⟩
 case rest =>
  obtain ⟨s0, r0, rfl, rfl, hh, rfl⟩ := hcut
  have HH := Lib.hid hh
  clear hh
  go_wp2_with fail
  go_loopg [20, 21] (r0 - s0) (FindM w0 blk L n s0 r0)
  case atStart => exact ⟨s0, r0, Nat.le_refl _, HH.out.2.1, Nat.le_refl _, rfl, rfl, rfl, .inl rfl, .inl rfl, H0.out⟩
  case round =>
   obtain ⟨s, r, h1, h2, h3, hgk, rfl, rfl, hl, hr, hS⟩ := hrel
   have HS := Lib.hid (And.intro hS (And.intro hl (And.intro hr hgk)))
   clear hS hl hr hgk
   have HB := Lib.hid (And.intro h1 (And.intro h2 h3))
   by_cases hlt : s < r
   ·have hlt' : (s : Int) < (r : Int) := by omega
    obtain ⟨c, hc⟩ : ∃ c, c = (s + r) / 2 := ⟨_, rfl⟩
    have hcb : s ≤ c ∧ c < r := by omega
    obtain ⟨q, hq⟩ : ∃ q, q = n1 - c := ⟨_, rfl⟩
    have hqb : q = n - 1 - c ∧ m ≤ q ∧ q < b ∧ c < m ∧ p ≤ c := by
     have h4 := HH.out
     have h5 := HM.out
     unfold HalfM at h4
     omega
    have hq1 : ((s : Int) + (r : Int)) / 2 = (c : Int) := by omega
    have hq2 : IntKind.i64.wrap ((n1 : Int) - (c : Int)) = (q : Int) := by have := HM.out; rw [IntWalk.i64_in _ (by omega)]; omega
    have hqd : (q : Int) < (d0.size : Int) := by omega
    have hcd : (c : Int) < (d0.size : Int) := by omega
    have hb1 := H.out.2.2.2.2.1
    have hb2 := H.out.2.2.2.2.2.1
    have hb3 := H.out.2.2.2.2.2.2.1
    have hLs : L.length = d0.size := by rw [H.out.2.2.2.2.2.2.2]; exact H.out.2.1
    obtain ⟨x, hx⟩ : ∃ x, L[c]? = some x := ⟨_, List.getElem?_eq_getElem (by omega)⟩
    obtain ⟨y, hy⟩ : ∃ y, L[q]? = some y := ⟨_, List.getElem?_eq_getElem (by omega)⟩
    have c0 := fun n os => (sws_at (HS.out.1.grown n os) H.out.1 hLs c x hx).1
    have c1 := fun n os => (sws_at (HS.out.1.grown n os) H.out.1 hLs c x hx).2.1
    have c2 := fun n os => (sws_at (HS.out.1.grown n os) H.out.1 hLs q y hy).1
    have c3 := fun n os => (sws_at (HS.out.1.grown n os) H.out.1 hLs q y hy).2.1
    have HC := Lib.hid (And.intro hcb (And.intro hqb (And.intro hx hy)))
    clear hc hcb hq hqb hb1 hb2 hb3 hLs hx hy h1 h2 h3
    go_upto_region 35 with fail
    have mixed := mixedO
    by_cases hc : y.1 < x.1
    ·have hd : cfS y x < 0 := (cfS_lt y x).2 hc
     have Hc := Lib.hid hc
     clear hc
     go_quiet_grown (first | (go_at_call 52; refine Calls.grown_of (cmp_sort wr y x _ _)))
     have HS2 := Lib.hid (HS.out.1.grown nq osq)
     clear c0 c1 c2 c3 mixed
     generalize grow (wr.drewN nq) osq = w2 at HS2 ⊢
     go_wp2_with fail
     go_roundg (c - s)
     case measure => have := HS.out.2.2.2; have := HC.out.1; omega
     case rel => exact ⟨s, c, HB.out.1, HC.out.1.1, by have := HC.out.1.2; have := HB.out.2.2; omega, rfl, rfl, rfl, HS.out.2.1, .inr ⟨x, y, HC.out.2.2.1, by rw [← HC.out.2.1.1]; exact HC.out.2.2.2, Hc.out⟩, HS2.out⟩
    ·have hd : ¬ cfS y x < 0 := fun e => hc ((cfS_lt y x).1 e)
     have Hc := Lib.hid (show x.1 ≤ y.1 by omega)
     clear hc
     go_quiet_grown (first | (go_at_call 52; refine Calls.grown_of (cmp_sort wr y x _ _)))
     have HS2 := Lib.hid (HS.out.1.grown nq osq)
     clear c0 c1 c2 c3 mixed
     generalize grow (wr.drewN nq) osq = w2 at HS2 ⊢
     have hw5 := IntWalk.i64_in ((c : Int) + 1) (by omega)
     go_wp2_with fail
     go_roundg (r - (c + 1))
     case measure => have := HS.out.2.2.2; have := HC.out.1; omega
     case rel => exact ⟨c + 1, r, by have := HC.out.1; have := HB.out.1; omega, HC.out.1.2, HB.out.2.2, rfl, by go_num, rfl, .inr ⟨x, y, HC.out.2.2.1, by have h9 := HC.out.2.1.1; rw [show n - (c + 1) = q by omega]; exact HC.out.2.2.2, Hc.out⟩, HS.out.2.2.1, HS2.out⟩
   ·have hge : ¬ (s : Int) < (r : Int) := by omega
    obtain rfl : s = r := by omega
    have hfp := find_parts H.out.2.2.2.2.2.2.2 H.out.2.2.2.2.1 H.out.2.2.2.2.2.1 H.out.2.2.2.2.2.2.1 HM.out.2.1 HH.out H.out.2.2.1 H.out.2.2.2.1 HB.out.1 HB.out.2.2 HS.out.2.1 HS.out.2.2.1
    obtain ⟨e, he⟩ : ∃ e, e = n - s := ⟨_, rfl⟩
    have heb : e = n - s ∧ m ≤ e ∧ e ≤ b ∧ p ≤ s ∧ s ≤ m ∧ s ≤ mid ∧ e - m = mid - s := by
     have h4 := HH.out
     have h5 := HM.out
     have h6 := HB.out
     unfold HalfM at h4
     omega
    have he1 : IntKind.i64.wrap ((n : Int) - (s : Int)) = (e : Int) := by rw [IntWalk.i64_in _ (by omega)]; omega
    obtain ⟨x1, hx1⟩ : ∃ x1, x1 = X.take (s - p) := ⟨_, rfl⟩
    obtain ⟨x2, hx2⟩ : ∃ x2, x2 = X.drop (s - p) := ⟨_, rfl⟩
    obtain ⟨y1, hy1⟩ : ∃ y1, y1 = Y.take (mid - s) := ⟨_, rfl⟩
    obtain ⟨y2, hy2⟩ : ∃ y2, y2 = Y.drop (mid - s) := ⟨_, rfl⟩
    rw [← hx1, ← hx2, ← hy1, ← hy2] at hfp
    have hXe : X = x1 ++ x2 := by rw [hx1, hx2, List.take_append_drop]
    have hYe : Y = y1 ++ y2 := by rw [hy1, hy2, List.take_append_drop]
    have hlen : p = P.length ∧ s = p + x1.length ∧ m = s + x2.length ∧ e = m + y1.length ∧ b = e + y2.length ∧ mid = s + y1.length := by
     have h7 := H.out.2.2.2.2
     rw [hXe, hYe] at h7
     have h8 : x1.length = s - p := by rw [hx1, List.length_take]; have := H.out.2.2.2.2.2.1; omega
     have h9 : y1.length = mid - s := by rw [hy1, List.length_take]; have := H.out.2.2.2.2.2.2.1; omega
     simp only [List.length_append] at h7
     omega
    have hsx := (srt_part H.out.2.2.1 (s - p))
    have hsy := (srt_part H.out.2.2.2.1 (mid - s))
    rw [← hx1, ← hx2] at hsx
    rw [← hy1, ← hy2] at hsy
    have HD := Lib.hid (And.intro hfp (And.intro hXe (And.intro hYe (And.intro hlen (And.intro hsx hsy)))))
    have hsL := HS.out.1
    rw [H.out.2.2.2.2.2.2.2, hXe, hYe, show P ++ (x1 ++ x2) ++ (y1 ++ y2) ++ S = (P ++ x1) ++ x2 ++ y1 ++ (y2 ++ S) by simp only [List.append_assoc]] at hsL
    have HL := Lib.hid hsL
    have hlz : ((P ++ x1) ++ x2 ++ y1 ++ (y2 ++ S)).length = d0.size := by
     rw [← H.out.2.1, hXe, hYe]
     simp only [List.length_append]
     omega
    have HZ := Lib.hid hlz
    have hed := heb.2.2.1
    clear hfp he heb hx1 hx2 hy1 hy2 hXe hYe hlen hsx hsy hsL hlz
    obtain ⟨L1, hL1⟩ : ∃ L1, L1 = (P ++ x1) ++ y1 ++ x2 ++ (y2 ++ S) := ⟨_, rfl⟩
    have HL1 := Lib.hid hL1
    clear hL1
    go_upto_region 39 with fail
    go_cut [185] from 178 to 184 (fun cc wc => cc = .bool (decide (s < m) && decide (m < e)) ∧ wc = wr)
    case first =>
     by_cases g1 : s < m
     ·have g2 : (s : Int) < (m : Int) := by omega
      have Hd := Lib.hid (decide_eq_true g1)
      by_cases g3 : m < e
      ·have g4 : (m : Int) < (e : Int) := by omega
       have He := Lib.hid (decide_eq_true g3)
       go_wp2_with fail
       go_meet
       case rel => exact ⟨by rw [Hd.out, He.out]; rfl, rfl⟩
      ·have g4 : ¬ (m : Int) < (e : Int) := by omega
       have He := Lib.hid (decide_eq_false g3)
       go_wp2_with fail
       go_meet
       case rel => exact ⟨by rw [Hd.out, He.out]; rfl, rfl⟩
     ·have g2 : ¬ (s : Int) < (m : Int) := by omega
      have Hd := Lib.hid (decide_eq_false g1)
      go_wp2_with fail
      go_meet
      case rel => exact ⟨by rw [Hd.out]; rfl, rfl⟩
    case rest =>
    obtain ⟨rfl, rfl⟩ := hcut
    go_upto_if 185 with fail
    go_cut [24] from 178 to 191 (fun cc wc' => cc = .int .i64 e ∧ SWS w0 blk L1 wc')
    case first =>
     by_cases g1 : s < m ∧ m < e
     ·have HT := Lib.hid (show (decide (s < m) && decide (m < e)) = true by rw [decide_eq_true g1.1, decide_eq_true g1.2]; rfl)
      have HG := Lib.hid g1
      rw [HT.out]
      clear g1
      go_wp2_with fail
      refine (rotate_at w0 wc blk cap d0 (P ++ x1) x2 y1 (y2 ++ S) cmpV H.out.1 HZ.out HL.out (by have := HD.out.2.2.2.1; have := HG.out; omega) (by have := HD.out.2.2.2.1; have := HG.out; omega) hz _ _ _ (by have := HD.out.2.2.2.1; simp only [List.length_append]; omega) (by have := HD.out.2.2.2.1; simp only [List.length_append]; omega) (by have := HD.out.2.2.2.1; simp only [List.length_append]; omega)).mono ?_
      rintro e2 w2 ⟨rfl, h2⟩
      have H2 := Lib.hid (show SWS w0 blk L1 w2 by rw [HL1.out]; exact h2)
      clear h2
      go_wp2_with fail
      go_meet
      case rel => exact ⟨rfl, H2.out⟩
     ·have HT := Lib.hid (show (decide (s < m) && decide (m < e)) = false by
       by_cases g2 : s < m
       ·rw [decide_eq_false (fun g3 => g1 ⟨g2, g3⟩), Bool.and_false]
       ·rw [decide_eq_false g2]; rfl)
      have H2 := Lib.hid (show SWS w0 blk L1 wc by
       have h3 := HD.out.2.2.2.1
       have h4 : x2 = [] ∨ y1 = [] := by
        by_cases g2 : s < m
        ·exact .inr (List.eq_nil_of_length_eq_zero (by have : ¬ m < e := fun g3 => g1 ⟨g2, g3⟩; omega))
        ·exact .inl (List.eq_nil_of_length_eq_zero (by omega))
       have h5 := HL.out
       rw [HL1.out]
       rcases h4 with h4 | h4
       ·rw [h4] at h5 ⊢
        simpa only [List.append_nil, List.nil_append] using h5
       ·rw [h4] at h5 ⊢
        simpa only [List.append_nil, List.nil_append] using h5)
      rw [HT.out]
      clear g1
      go_wp2_with fail
      go_meet
      case rel => exact ⟨rfl, H2.out⟩
    case rest =>
    obtain ⟨rfl, hS1⟩ := hcut
    obtain ⟨W1, rfl⟩ : ∃ W : World, W = wc := ⟨_, rfl⟩
    have HS1 := Lib.hid hS1
    clear hS1
    go_upto_region 41 with fail
    go_cut [199] from 192 to 198 (fun cc wc => cc = .bool (decide (p < s) && decide (s < mid)) ∧ wc = W1)
    case first =>
     by_cases g1 : p < s
     ·have g2 : (p : Int) < (s : Int) := by omega
      have Hd := Lib.hid (decide_eq_true g1)
      by_cases g3 : s < mid
      ·have g4 : (s : Int) < (mid : Int) := by omega
       have He := Lib.hid (decide_eq_true g3)
       go_wp2_with fail
       go_meet
       case rel => exact ⟨by rw [Hd.out, He.out]; rfl, rfl⟩
      ·have g4 : ¬ (s : Int) < (mid : Int) := by omega
       have He := Lib.hid (decide_eq_false g3)
       go_wp2_with fail
       go_meet
       case rel => exact ⟨by rw [Hd.out, He.out]; rfl, rfl⟩
     ·have g2 : ¬ (p : Int) < (s : Int) := by omega
      have Hd := Lib.hid (decide_eq_false g1)
      go_wp2_with fail
      go_meet
      case rel => exact ⟨by rw [Hd.out]; rfl, rfl⟩
    case rest =>
    obtain ⟨rfl, rfl⟩ := hcut
    go_upto_if 199 with fail
    go_cut [24] from 192 to 205 (fun cc wc' => cc = .int .i64 e ∧ ∃ Z1, StbL (x1 ++ y1) Z1 ∧ SWS w0 blk (P ++ Z1 ++ (x2 ++ y2 ++ S)) wc')
    case first =>
     have hE : L1 = P ++ x1 ++ y1 ++ (x2 ++ y2 ++ S) := by rw [HL1.out]; simp only [List.append_assoc]
     have HE := Lib.hid hE
     clear hE
     by_cases g1 : p < s ∧ s < mid
     ·have HT := Lib.hid (show (decide (p < s) && decide (s < mid)) = true by rw [decide_eq_true g1.1, decide_eq_true g1.2]; rfl)
      have HG := Lib.hid g1
      rw [HT.out]
      clear g1
      go_wp2_with fail
      refine (HI.out wc P x1 y1 (x2 ++ y2 ++ S) _ _ _ (by have := HD.out.2.2.2.1; rw [HD.out.2.1, HD.out.2.2.1]; simp only [List.length_append]; omega) (by have := HD.out.2.2.2.1; have := HG.out; omega) (by have := HD.out.2.2.2.1; have := HG.out; omega) HD.out.2.2.2.2.1.1 HD.out.2.2.2.2.2.1 (by have := HZ.out; simp only [List.length_append] at this ⊢; omega) (by rw [← HE.out]; exact HS1.out) (by have := HD.out.2.2.2.1; omega) (by have := HD.out.2.2.2.1; simp only [List.length_append]; omega) (by have := HD.out.2.2.2.1; simp only [List.length_append]; omega)).mono ?_
      rintro e2 w2 ⟨rfl, Z1, hZ1, h2⟩
      have H2 := Lib.hid (And.intro hZ1 h2)
      clear hZ1 h2
      go_wp2_with fail
      go_meet
      case rel => exact ⟨rfl, Z1, H2.out⟩
     ·have HT := Lib.hid (show (decide (p < s) && decide (s < mid)) = false by
       by_cases g2 : p < s
       ·rw [decide_eq_false (fun g3 => g1 ⟨g2, g3⟩), Bool.and_false]
       ·rw [decide_eq_false g2]; rfl)
      have H2 := Lib.hid (show StbL (x1 ++ y1) (x1 ++ y1) from by
       have h3 := HD.out.2.2.2.1
       have h4 : x1 = [] ∨ y1 = [] := by
        by_cases g2 : p < s
        ·exact .inr (List.eq_nil_of_length_eq_zero (by have : ¬ s < mid := fun g3 => g1 ⟨g2, g3⟩; omega))
        ·exact .inl (List.eq_nil_of_length_eq_zero (by omega))
       refine StbL.refl ?_
       rcases h4 with h4 | h4
       ·rw [h4, List.nil_append]; exact HD.out.2.2.2.2.2.1
       ·rw [h4, List.append_nil]; exact HD.out.2.2.2.2.1.1)
      rw [HT.out]
      clear g1
      go_wp2_with fail
      go_meet
      case rel => exact ⟨rfl, _, H2.out, by have h5 := HS1.out; rw [HE.out] at h5; simpa only [List.append_assoc] using h5⟩
    case rest =>
    obtain ⟨rfl, Z1, hZ1, hS2⟩ := hcut
    obtain ⟨W2, rfl⟩ : ∃ W : World, W = wc := ⟨_, rfl⟩
    have HS2 := Lib.hid (And.intro hZ1 hS2)
    clear hZ1 hS2
    go_upto_region 43 with fail
    go_cut [213] from 206 to 212 (fun cc wc => cc = .bool (decide (mid < e) && decide (e < b)) ∧ wc = W2)
    case first =>
     by_cases g1 : mid < e
     ·have g2 : (mid : Int) < (e : Int) := by omega
      have Hd := Lib.hid (decide_eq_true g1)
      by_cases g3 : e < b
      ·have g4 : (e : Int) < (b : Int) := by omega
       have He := Lib.hid (decide_eq_true g3)
       go_wp2_with fail
       go_meet
       case rel => exact ⟨by rw [Hd.out, He.out]; rfl, rfl⟩
      ·have g4 : ¬ (e : Int) < (b : Int) := by omega
       have He := Lib.hid (decide_eq_false g3)
       go_wp2_with fail
       go_meet
       case rel => exact ⟨by rw [Hd.out, He.out]; rfl, rfl⟩
     ·have g2 : ¬ (mid : Int) < (e : Int) := by omega
      have Hd := Lib.hid (decide_eq_false g1)
      go_wp2_with fail
      go_meet
      case rel => exact ⟨by rw [Hd.out]; rfl, rfl⟩
    case rest =>
    obtain ⟨rfl, rfl⟩ := hcut
    by_cases g1 : mid < e ∧ e < b
    ·have HT := Lib.hid (show (decide (mid < e) && decide (e < b)) = true by rw [decide_eq_true g1.1, decide_eq_true g1.2]; rfl)
     have HG := Lib.hid g1
     rw [HT.out]
     clear g1
     go_wp2_with fail
     refine (HI.out wc (P ++ Z1) x2 y2 S _ _ _ (by have := HD.out.2.2.2.1; rw [HD.out.2.1, HD.out.2.2.1]; simp only [List.length_append]; omega) (by have := HD.out.2.2.2.1; have := HG.out; omega) (by have := HD.out.2.2.2.1; have := HG.out; omega) HD.out.2.2.2.2.1.2 HD.out.2.2.2.2.2.2 (by have := HZ.out; have := HS2.out.1.2.1; simp only [List.length_append] at *; omega) (by have h5 := HS2.out.2; simpa only [List.append_assoc] using h5) (by have := HD.out.2.2.2.1; have := HS2.out.1.2.1; simp only [List.length_append] at *; omega) (by have := HD.out.2.2.2.1; have := HS2.out.1.2.1; simp only [List.length_append] at *; omega) (by have := HD.out.2.2.2.1; have := HS2.out.1.2.1; simp only [List.length_append] at *; omega)).mono ?_
     rintro e2 w2 ⟨rfl, Z2, hZ2, h2⟩
     have H2 := Lib.hid (show Q (.returned (.tuple #[])) w2 by
      rw [HQ.out]
      refine ⟨rfl, Z1 ++ Z2, ?_, by simpa only [List.append_assoc] using h2⟩
      rw [HD.out.2.1, HD.out.2.2.1]
      exact stb_split HS2.out.1 hZ2 (by rw [← HD.out.2.1]; exact H.out.2.2.1) (by rw [← HD.out.2.2.1]; exact H.out.2.2.2.1) HD.out.1.1 HD.out.1.2)
     clear hZ2 h2
     go_wp2_with fail
     refine bodyPost_end (results_none rfl _ _ _) rfl ?_
     exact H2.out
    ·have HT := Lib.hid (show (decide (mid < e) && decide (e < b)) = false by
      by_cases g2 : mid < e
      ·rw [decide_eq_false (fun g3 => g1 ⟨g2, g3⟩), Bool.and_false]
      ·rw [decide_eq_false g2]; rfl)
     have H2 := Lib.hid (show Q (.returned (.tuple #[])) wc by
      rw [HQ.out]
      have h3 := HD.out.2.2.2.1
      have h4 : x2 = [] ∨ y2 = [] := by
       by_cases g2 : mid < e
       ·exact .inr (List.eq_nil_of_length_eq_zero (by have : ¬ e < b := fun g3 => g1 ⟨g2, g3⟩; omega))
       ·exact .inl (List.eq_nil_of_length_eq_zero (by omega))
      have hst : StbL (x2 ++ y2) (x2 ++ y2) := by
       refine StbL.refl ?_
       rcases h4 with h4 | h4
       ·rw [h4, List.nil_append]; exact HD.out.2.2.2.2.2.2
       ·rw [h4, List.append_nil]; exact HD.out.2.2.2.2.1.2
      refine ⟨rfl, Z1 ++ (x2 ++ y2), ?_, by have h5 := HS2.out.2; simpa only [List.append_assoc] using h5⟩
      rw [HD.out.2.1, HD.out.2.2.1]
      exact stb_split HS2.out.1 hst (by rw [← HD.out.2.1]; exact H.out.2.2.1) (by rw [← HD.out.2.2.1]; exact H.out.2.2.2.1) HD.out.1.1 HD.out.1.2)
     rw [HT.out]
     clear g1
     go_wp2_with fail
     refine bodyPost_end (results_none rfl _ _ _) rfl ?_
     exact H2.out
theorem sym_all (w0 : World) (blk cap : Nat) (d0 : Array SmpB) (R : RowK encSm 2 w0 blk 0 d0) (hz : d0.size < 1000000) : ∀ N, SymIH w0 blk cap d0 N := by
 intro N
 induction N with
 | zero => intro w P X Y S a b c hN; omega
 | succ N ih =>
  intro w P X Y S a b c hN hX0 hY0 hX hY hs h ha hb hc
  subst ha hb hc
  by_cases h1 : X.length = 1
  ·obtain ⟨x, rfl⟩ : ∃ x, X = [x] := List.length_eq_one_iff.1 h1
   exact sym_left w0 w blk cap d0 P Y S x R hs h hY hz
  ·by_cases h2 : Y.length = 1
   ·obtain ⟨y, rfl⟩ : ∃ y, Y = [y] := List.length_eq_one_iff.1 h2
    exact sym_right w0 w blk cap d0 P X S y R hs h hX h1 hz
   ·refine sym_step w0 w blk cap d0 P X Y S R hs h hX hY (by omega) (by omega) hz ?_
    intro w P X' Y' S a b c hN'
    exact ih w P X' Y' S a b c (by omega)
open Go Go.RowKit Go.Lib Go.Sort Go.Shelf
def SrtI (L : List SmpB) (a b : Nat) : Prop := ∀ i j x y, a ≤ i → i < j → j < b → L[i]? = some x → L[j]? = some y → x.1 ≤ y.1
theorem srtI_part {L : List SmpB} {a b : Nat} (h : SrtI L a b) : Srt ((L.drop a).take (b - a)) := by
 refine List.pairwise_iff_getElem.2 fun i j hi hj hij => ?_
 rw [List.length_take, List.length_drop] at hi hj
 refine h (a + i) (a + j) _ _ (by omega) (by omega) (by omega) ?_ ?_
 ·rw [List.getElem_take, List.getElem_drop, List.getElem?_eq_getElem]
 ·rw [List.getElem_take, List.getElem_drop, List.getElem?_eq_getElem]
theorem srtI_mid {P Z S : List SmpB} (h : Srt Z) : SrtI (P ++ Z ++ S) P.length (P.length + Z.length) := fun i j x y hi hij hj hx hy => by
 rw [List.append_assoc, List.getElem?_append_right hi, List.getElem?_append_left (by omega)] at hx
 rw [List.append_assoc, List.getElem?_append_right (by omega), List.getElem?_append_left (by omega)] at hy
 obtain ⟨h1, rfl⟩ := List.getElem?_eq_some_iff.1 hx
 obtain ⟨h2, rfl⟩ := List.getElem?_eq_some_iff.1 hy
 exact List.pairwise_iff_getElem.1 h _ _ _ _ (by omega)
theorem srtI_left {P Z Z' S : List SmpB} {a b : Nat} (h : SrtI (P ++ Z ++ S) a b) (hb : b ≤ P.length) : SrtI (P ++ Z' ++ S) a b := fun i j x y hi hij hj hx hy => by
 refine h i j x y hi hij hj ?_ ?_
 ·rw [List.append_assoc, List.getElem?_append_left (by omega)] at hx ⊢; exact hx
 ·rw [List.append_assoc, List.getElem?_append_left (by omega)] at hy ⊢; exact hy
theorem srtI_right {P Z Z' S : List SmpB} {a b : Nat} (h : SrtI (P ++ Z ++ S) a b) (hz : Z'.length = Z.length) (ha : P.length + Z.length ≤ a) : SrtI (P ++ Z' ++ S) a b := fun i j x y hi hij hj hx hy => by
 have e : ∀ k, a ≤ k → (P ++ Z' ++ S)[k]? = (P ++ Z ++ S)[k]? := fun k hk => by
  rw [List.getElem?_append_right (by rw [List.length_append]; omega), List.getElem?_append_right (by rw [List.length_append]; omega), List.length_append, List.length_append, hz]
 exact h i j x y hi hij hj (by rw [← e i hi]; exact hx) (by rw [← e j (by omega)]; exact hy)
theorem srtI_none {L : List SmpB} {a b : Nat} (h : L.length ≤ a + 1) : SrtI L a b := fun i j x y hi hij hj hx hy => by
 obtain ⟨h1, -⟩ := List.getElem?_eq_some_iff.1 hy
 omega
theorem srtI_cut {L : List SmpB} {a b c : Nat} (h : SrtI L a b) (hb : L.length ≤ b) : SrtI L a c := fun i j x y hi hij hj hx hy => by
 obtain ⟨h1, -⟩ := List.getElem?_eq_some_iff.1 hy
 exact h i j x y hi hij (by omega) hx hy
theorem srtI_all {L : List SmpB} {b : Nat} (h : SrtI L 0 b) (hb : L.length ≤ b) : Srt L := by
 have h1 := srtI_part h
 rw [List.drop_zero, List.take_of_length_le (by omega)] at h1
 exact h1
def BlkFrom (s a : Nat) (L : List SmpB) : Prop := ∀ k, SrtI L (a + k * s) (a + k * s + s)
def BlkTo (s a : Nat) (L : List SmpB) : Prop := ∃ j, a = j * s ∧ ∀ k, k < j → SrtI L (k * s) (k * s + s)
theorem blkTo_zero (s : Nat) (L : List SmpB) : BlkTo s 0 L := ⟨0, by simp, fun k hk => by omega⟩
theorem blkTo_step {s a : Nat} {L L' : List SmpB} (h : BlkTo s a L) (hk : ∀ x y, y ≤ a → SrtI L x y → SrtI L' x y) (h1 : SrtI L' a (a + s)) : BlkTo s (a + s) L' := by
 obtain ⟨j, rfl, h⟩ := h
 refine ⟨j + 1, by rw [Nat.add_mul, Nat.one_mul], fun k hkj => ?_⟩
 rcases Nat.lt_or_ge k j with h2 | h2
 ·refine hk _ _ ?_ (h k h2)
  have := Nat.mul_le_mul_right s (show k + 1 ≤ j from h2)
  rwa [Nat.add_mul, Nat.one_mul] at this
 ·obtain rfl : k = j := by omega
  exact h1
theorem blk_end {s a : Nat} {L : List SmpB} (h : BlkTo s a L) (h1 : SrtI L a (a + s)) (hl : L.length ≤ a + s) : BlkFrom s 0 L := fun k => by
 obtain ⟨j, rfl, h⟩ := h
 rw [Nat.zero_add]
 rcases Nat.lt_trichotomy k j with h2 | h2 | h2
 ·exact h k h2
 ·subst h2; exact h1
 ·refine srtI_none ?_
  have := Nat.mul_le_mul_right s (show j + 1 ≤ k from h2)
  rw [Nat.add_mul, Nat.one_mul] at this
  omega
theorem blkFrom_step {s a : Nat} {L L' : List SmpB} (h : BlkFrom s a L) (hk : ∀ x y, a + (s + s) ≤ x → SrtI L x y → SrtI L' x y) : BlkFrom s (a + (s + s)) L' := fun k => by
 have h2 := h (k + 2)
 rw [show a + (k + 2) * s = a + (s + s) + k * s by rw [Nat.add_mul]; omega] at h2
 exact hk _ _ (by omega) h2
theorem ltOf_eq : ltOf cfS = ltT1 := by
 funext x y
 unfold ltOf ltT1
 exact decide_eq_decide.2 (cfS_lt x y)
theorem swo_cf : SWO (ltOf cfS) := by
 rw [ltOf_eq]
 unfold ltT1
 exact ⟨fun x => by simp, fun x y z h1 h2 => by simp at *; omega, fun x y z h1 h2 => by simp at *; omega⟩
def InsPost (w0 : World) (blk : Nat) (L : List SmpB) (a b : Nat) (e : Ending) (w' : World) : Prop := e = .returned (.tuple #[]) ∧ ∃ L', L'.length = L.length ∧ (∀ t, atT t L' = atT t L) ∧ SrtI L' a b ∧ (∀ i, i < a ∨ b ≤ i → L'[i]? = L[i]?) ∧ SWS w0 blk L' w'
theorem bang_at {d : Array SmpB} {i : Nat} {x : SmpB} (h : d.toList[i]? = some x) : d[i]! = x := by
 have := arr_at h
 simpa using this
theorem ins_spec (w0 w : World) (blk cap : Nat) (d0 : Array SmpB) (L : List SmpB) (R : RowK encSm 2 w0 blk 0 d0) (hs : L.length = d0.size) (h : SWS w0 blk L w) (hz : d0.size < 1000000) (a b : Nat) (hab : a ≤ b) (hb : b ≤ L.length) (x y : Int) (hx : x = (a : Nat)) (hy : y = (b : Nat)) :
  Calls Tryz.prog 120 #[.slice (some ⟨blk, 0, none⟩) d0.size cap, .int .i64 x, .int .i64 y, cmpV] w (InsPost w0 blk L a b) := by
 subst hx hy
 have hsz : L.toArray.size = d0.size := by simpa using hs
 have eg : ∀ args w, (callFunc 52 args).run Tryz.prog w = .ok (.enter 52 args) w := enters_of Tryz.func52 (by kernel_rfl) rfl
 have hC : CmpLays Tryz.prog 52 #[] encSm 2 cfS blk 0 L.toArray.size w := fun _ _ _ _ x y => smpCmp_spec _ x y
 have hcon := AnyQ.insertionSortCmpFunc Tryz.insS 2 Tryz.isAgg50 Tryz.sizeOf50 encSm R.hk R.h1 cfS 52 #[] blk 0 cap a b L.toArray w eg hC (h.holds R.hblk R.hH hsz) (h.lt R.hblk) hab (by simpa using hb) (by omega)
 rw [hsz, ltOf_eq] at hcon
 change Calls Tryz.prog 120 _ _ _ at hcon
 refine hcon.mono ?_
 rintro e w' ⟨rfl, n, os, rfl⟩
 obtain ⟨⟨q1, q2, -⟩, q3⟩ := insertionSort_holds (lt := ltT1) (by rw [← ltOf_eq]; exact swo_cf) L.toArray a b hab (by simpa using hb)
 obtain ⟨D, hD⟩ : ∃ D, D = insertionSort ltT1 L.toArray a b := ⟨_, rfl⟩
 have hat : ∀ t, atT t D.toList = atT t L := fun t => by
  rw [hD]
  exact (atT_outer t a b _ (a + 1) L.toArray rfl (by simpa using hb)).1
 rw [← hD] at q1 q2 q3 ⊢
 have hDl : D.toList.length = L.length := by simpa using q1
 refine ⟨rfl, D.toList, hDl, hat, fun i j x y hi hij hj hx hy => ?_, fun i hi => ?_, ?_⟩
 ·have h2 := q3 i j hi hij hj
  rw [bang_at hx, bang_at hy] at h2
  unfold ltT1 at h2
  have := of_decide_eq_false h2
  omega
 ·have h2 := q2 i hi
  by_cases hil : i < L.length
  ·have e1 : D.toList[i]? = some D.toList[i] := List.getElem?_eq_getElem (by omega)
   have e2 : L[i]? = some L[i] := List.getElem?_eq_getElem hil
   rw [bang_at e1, arr_at e2] at h2
   rw [e1, e2, h2]
  ·rw [List.getElem?_eq_none (by omega), List.getElem?_eq_none (by omega)]
 ·show SWK encSm 2 w0 blk 0 D.toList.toArray _
  rw [Array.toArray_toList]
  exact h.on R.hblk n D os q1
theorem srtI_eq {L L' : List SmpB} {a x y : Nat} (he : ∀ i, i < a → L'[i]? = L[i]?) (hy : y ≤ a) (h : SrtI L x y) : SrtI L' x y := fun i j u v hi hij hj hu hv => h i j u v hi hij hj (by rw [← he i (by omega)]; exact hu) (by rw [← he j (by omega)]; exact hv)
theorem list_four (L : List SmpB) (a s t : Nat) : L = L.take a ++ (L.drop a).take s ++ (L.drop (a + s)).take t ++ L.drop (a + s + t) := by
 have d2 : (L.drop a).drop s = L.drop (a + s) := by simp [List.drop_drop]
 have d3 : (L.drop (a + s)).drop t = L.drop (a + s + t) := by simp [List.drop_drop]
 rw [List.append_assoc, List.append_assoc, ← d3, List.take_append_drop, ← d2, List.take_append_drop, List.take_append_drop]
theorem sym_parts (w0 w : World) (blk cap : Nat) (d0 : Array SmpB) (L : List SmpB) (R : RowK encSm 2 w0 blk 0 d0) (hs : L.length = d0.size) (h : SWS w0 blk L w) (hz : d0.size < 1000000) (a s t : Nat) (hs0 : 0 < s) (ht : 0 < t) (hst : a + s + t ≤ L.length) (h1 : SrtI L a (a + s)) (h2 : SrtI L (a + s) (a + s + t)) (x y z : Int) (hx : x = (a : Nat)) (hy : y = (a + s : Nat)) (hz2 : z = (a + s + t : Nat)) :
  Calls Tryz.prog 121 #[.slice (some ⟨blk, 0, none⟩) d0.size cap, .int .i64 x, .int .i64 y, .int .i64 z, cmpV] w fun e w' => e = .returned (.tuple #[]) ∧ ∃ L', L'.length = L.length ∧ (∀ k, atT k L' = atT k L) ∧ SrtI L' a (a + s + t) ∧ (∀ u v, v ≤ a → SrtI L u v → SrtI L' u v) ∧ (∀ u v, a + s + t ≤ u → SrtI L u v → SrtI L' u v) ∧ SWS w0 blk L' w' := by
 have hL := list_four L a s t
 obtain ⟨P, hP⟩ : ∃ P, P = L.take a := ⟨_, rfl⟩
 obtain ⟨X, hX⟩ : ∃ X, X = (L.drop a).take s := ⟨_, rfl⟩
 obtain ⟨Y, hY⟩ : ∃ Y, Y = (L.drop (a + s)).take t := ⟨_, rfl⟩
 obtain ⟨S, hS⟩ : ∃ S, S = L.drop (a + s + t) := ⟨_, rfl⟩
 rw [← hP, ← hX, ← hY, ← hS] at hL
 have lP : P.length = a := by rw [hP, List.length_take]; omega
 have lX : X.length = s := by rw [hX, List.length_take, List.length_drop]; omega
 have lY : Y.length = t := by rw [hY, List.length_take, List.length_drop]; omega
 have sX : Srt X := by
  have := srtI_part h1
  rw [show a + s - a = s by omega, ← hX] at this
  exact this
 have sY : Srt Y := by
  have := srtI_part h2
  rw [show a + s + t - (a + s) = t by omega, ← hY] at this
  exact this
 refine (sym_all w0 blk cap d0 R hz (X.length + Y.length + 1) w P X Y S x y z (by omega) (by omega) (by omega) sX sY (by rw [← hL]; exact hs) (by rw [← hL]; exact h) (by rw [hx, lP]) (by rw [hy, List.length_append, lP, lX]) (by rw [hz2, List.length_append, List.length_append, lP, lX, lY])).mono ?_
 rintro e w' ⟨rfl, Z, ⟨z1, z2, z3⟩, hW⟩
 have lZ : Z.length = s + t := by rw [z2, List.length_append, lX, lY]
 have hL2 : L = P ++ (X ++ Y) ++ S := by rw [hL]; simp only [List.append_assoc]
 refine ⟨rfl, P ++ Z ++ S, ?_, fun k => ?_, ?_, fun u v hv hu => ?_, fun u v hv hu => ?_, hW⟩
 ·rw [hL2]; simp only [List.length_append, lZ, lX, lY]
 ·rw [hL2, atT_app, atT_app, atT_app, atT_app, z3]
 ·have := srtI_mid (P := P) (S := S) z1
  rw [lP, lZ] at this
  rw [show a + s + t = a + (s + t) by omega]
  exact this
 ·rw [hL2] at hu
  exact srtI_left hu (by omega)
 ·rw [hL2] at hu
  exact srtI_right hu (by rw [lZ, List.length_append, lX, lY]) (by rw [lP, List.length_append, lX, lY]; omega)
def St1 (w0 : World) (blk : Nat) (L : List SmpB) (gk : Nat) (u7 u8 : Value) (wr : World) : Prop :=
 ∃ (a : Nat) (L' : List SmpB), a ≤ L.length ∧ gk = L.length - a ∧ u7 = .int .i64 a ∧ u8 = .int .i64 (a + 20 : Nat) ∧ BlkTo 20 a L' ∧ L'.length = L.length ∧ (∀ t, atT t L' = atT t L) ∧ SWS w0 blk L' wr
def St2 (w0 : World) (blk : Nat) (L : List SmpB) (gk : Nat) (u6 _u7 _u8 _u9 : Value) (wr : World) : Prop :=
 ∃ (s : Nat) (L' : List SmpB), 0 < s ∧ s ≤ 2 * L.length + 20 ∧ gk = 2 * L.length + 20 - s ∧ u6 = .int .i64 s ∧ BlkFrom s 0 L' ∧ L'.length = L.length ∧ (∀ t, atT t L' = atT t L) ∧ SWS w0 blk L' wr
def St3 (w0 : World) (blk : Nat) (L : List SmpB) (s : Nat) (gk : Nat) (u7 u8 : Value) (wr : World) : Prop :=
 ∃ (a : Nat) (L' : List SmpB), a ≤ L.length ∧ gk = L.length - a ∧ u7 = .int .i64 a ∧ u8 = .int .i64 (a + (s + s) : Nat) ∧ BlkTo (s + s) a L' ∧ BlkFrom s a L' ∧ L'.length = L.length ∧ (∀ t, atT t L' = atT t L) ∧ SWS w0 blk L' wr
theorem stable_spec (w0 w : World) (blk cap : Nat) (d0 : Array SmpB) (L : List SmpB) (R : RowK encSm 2 w0 blk 0 d0) (hs : L.length = d0.size) (h : SWS w0 blk L w) (hz : d0.size < 100000) :
  Calls Tryz.prog 87 #[.slice (some ⟨blk, 0, none⟩) d0.size cap, .int .i64 d0.size, cmpV] w fun e w' => e = .returned (.tuple #[]) ∧ ∃ L', StbL L L' ∧ SWS w0 blk L' w' := by
 obtain ⟨n, hn⟩ : ∃ n, n = d0.size := ⟨_, rfl⟩
 obtain ⟨Q, hQ⟩ : ∃ Q : World → Prop, Q = fun w' => ∃ L', StbL L L' ∧ SWS w0 blk L' w' := ⟨_, rfl⟩
 show Calls _ _ _ w fun e w' => e = .returned (.tuple #[]) ∧ (fun w' => ∃ L', StbL L L' ∧ SWS w0 blk L' w') w'
 rw [← hQ]
 have H := Lib.hid (And.intro R (And.intro hs (And.intro h (And.intro (show d0.size < 1000000 by omega) (And.intro hn hQ)))))
 have hLn := Lib.hid (show L.length = n by omega)
 have hzn : n < 100000 := by omega
 rw [show Value.int .i64 (d0.size : Nat) = Value.int .i64 (n : Nat) by rw [hn]]
 clear R hs h hn hQ
 go_enter Tryz.func87, Tryz.ntmps87
 go_wp2_with fail
 go_loopg [7, 8] n (St1 w0 blk L)
 case atStart => exact ⟨0, L, Nat.zero_le _, by rw [hLn.out]; rfl, rfl, rfl, blkTo_zero _ _, rfl, fun _ => rfl, H.out.2.2.1⟩
 case round =>
  obtain ⟨a, L1, haL, hgk, rfl, rfl, hB, hL1, hat, hS⟩ := hrel
  have HS := Lib.hid (And.intro hB (And.intro hL1 (And.intro hat (And.intro hS hgk))))
  rw [hLn.out] at haL
  clear hB hL1 hat hS hgk
  have hL1n := Lib.hid (show L1.length = d0.size by rw [HS.out.2.1]; exact H.out.2.1)
  by_cases hlt : a + 20 ≤ n
  ·have hlt' : (a : Int) + 20 ≤ (n : Int) := by omega
   go_wp2_with fail
   refine (ins_spec w0 wr blk cap d0 L1 H.out.1 hL1n.out HS.out.2.2.2.1 H.out.2.2.2.1 a (a + 20) (by omega) (by rw [HS.out.2.1, hLn.out]; exact hlt) _ _ rfl (by omega)).mono ?_
   rintro e w2 ⟨rfl, L2, g1, g2, g3, g4, g5⟩
   have H2 := Lib.hid (And.intro g1 (And.intro g2 (And.intro g3 (And.intro g4 g5))))
   clear g1 g2 g3 g4 g5
   have hw1 := IntWalk.i64_in ((a : Int) + 20 + 20) (by omega)
   go_wp2_with fail
   go_roundg (n - (a + 20))
   case measure => have := HS.out.2.2.2.2; have := hLn.out; omega
   case rel => exact ⟨a + 20, L2, by have := hLn.out; omega, by rw [hLn.out], by go_num, by go_num, blkTo_step HS.out.1 (fun x y hy hxy => srtI_eq (fun i hi => H2.out.2.2.2.1 i (.inl hi)) hy hxy) H2.out.2.2.1, H2.out.1.trans HS.out.2.1, fun t => (H2.out.2.1 t).trans (HS.out.2.2.1 t), H2.out.2.2.2.2⟩
  ·have hge : ¬ (a : Int) + 20 ≤ (n : Int) := by omega
   go_wp2_with fail
   refine (ins_spec w0 wr blk cap d0 L1 H.out.1 hL1n.out HS.out.2.2.2.1 H.out.2.2.2.1 a n haL (by rw [HS.out.2.1, hLn.out]; exact Nat.le_refl _) _ _ rfl rfl).mono ?_
   rintro e w2 ⟨rfl, L2, g1, g2, g3, g4, g5⟩
   have hl2 : L2.length = n := by rw [g1, HS.out.2.1, hLn.out]
   have H2 := Lib.hid (And.intro (show BlkFrom 20 0 L2 from blk_end (a := a) (by
     obtain ⟨j, e1, e2⟩ := HS.out.1
     refine ⟨j, e1, fun k hk => srtI_eq (fun i hi => g4 i (.inl hi)) (by omega) (e2 k hk)⟩) (srtI_cut g3 (by omega)) (by omega)) (And.intro (g1.trans HS.out.2.1) (And.intro (fun t => (g2 t).trans (HS.out.2.2.1 t)) g5)))
   clear g1 g2 g3 g4 g5 hl2
   go_wp2_with fail
   go_loopg [6, 7, 8, 9] (2 * n) (St2 w0 blk L)
   case atStart => exact ⟨20, L2, by decide, by omega, by rw [hLn.out]; omega, rfl, H2.out.1, H2.out.2.1, H2.out.2.2.1, H2.out.2.2.2⟩
   case round =>
    obtain ⟨s, L3, hs0, hsn, hgk, rfl, hB, hL3, hat, hS⟩ := hrel
    have H3 := Lib.hid (And.intro hB (And.intro hL3 (And.intro hat (And.intro hS hgk))))
    rw [hLn.out] at hsn
    clear hB hL3 hat hS hgk
    by_cases hsl : s < n
    ·have hsl' : (s : Int) < (n : Int) := by omega
     have hw2 := IntWalk.i64_in (2 * (s : Int)) (by omega)
     go_wp2_with fail
     go_loopg [7, 8] n (St3 w0 blk L s)
     case atStart => exact ⟨0, L3, Nat.zero_le _, by rw [hLn.out]; rfl, rfl, by go_num, blkTo_zero _ _, H3.out.1, H3.out.2.1, H3.out.2.2.1, H3.out.2.2.2.1⟩
     case round =>
      obtain ⟨a, L4, haL, hgk, rfl, rfl, hT, hF, hL4, hat, hS⟩ := hrel
      have H4 := Lib.hid (And.intro hT (And.intro hF (And.intro hL4 (And.intro hat (And.intro hS hgk)))))
      rw [hLn.out] at haL
      have f0 : SrtI L4 a (a + s) := by have := hF 0; rw [Nat.zero_mul, Nat.add_zero] at this; exact this
      have f1 : SrtI L4 (a + s) (a + s + s) := by have := hF 1; rw [Nat.one_mul] at this; exact this
      have HF := Lib.hid (And.intro f0 f1)
      clear hT hF hL4 hat hS hgk f0 f1
      have hL4n := Lib.hid (show L4.length = d0.size by rw [H4.out.2.2.1]; exact H.out.2.1)
      have hL4m := Lib.hid (show L4.length = n by rw [H4.out.2.2.1]; exact hLn.out)
      have hw3 := IntWalk.i64_in ((a : Int) + (s : Int)) (by omega)
      by_cases hb : a + (s + s) ≤ n
      ·have hb' : (a : Int) + ((s : Int) + (s : Int)) ≤ (n : Int) := by omega
       go_wp2_with fail
       refine (sym_parts w0 wr blk cap d0 L4 H.out.1 hL4n.out H4.out.2.2.2.2.1 H.out.2.2.2.1 a s s hs0 hs0 (by rw [hL4m.out]; omega) HF.out.1 HF.out.2 _ _ _ rfl (by omega) (by omega)).mono ?_
       rintro e w5 ⟨rfl, L5, g1, g2, g3, g4, g5, g6⟩
       have H5 := Lib.hid (And.intro g1 (And.intro g2 (And.intro g3 (And.intro g4 (And.intro g5 g6)))))
       clear g1 g2 g3 g4 g5 g6
       have hw4 := IntWalk.i64_in ((a : Int) + ((s : Int) + (s : Int)) + 2 * (s : Int)) (by omega)
       go_wp2_with fail
       go_roundg (n - (a + (s + s)))
       case measure => have := H4.out.2.2.2.2.2; have := hLn.out; omega
       case rel => exact ⟨a + (s + s), L5, by have := hLn.out; omega, by rw [hLn.out], by go_num, by go_num, blkTo_step H4.out.1 H5.out.2.2.2.1 (by rw [← Nat.add_assoc]; exact H5.out.2.2.1), blkFrom_step H4.out.2.1 (fun x y hx hxy => H5.out.2.2.2.2.1 x y (by omega) hxy), H5.out.1.trans H4.out.2.2.1, fun t => (H5.out.2.1 t).trans (H4.out.2.2.2.1 t), H5.out.2.2.2.2.2⟩
      ·have hb' : ¬ (a : Int) + ((s : Int) + (s : Int)) ≤ (n : Int) := by omega
       have hw5 := IntWalk.i64_in ((s : Int) * 2) (by omega)
       by_cases hm : a + s < n
       ·have hm' : (a : Int) + (s : Int) < (n : Int) := by omega
        go_wp2_with fail
        refine (sym_parts w0 wr blk cap d0 L4 H.out.1 hL4n.out H4.out.2.2.2.2.1 H.out.2.2.2.1 a s (n - (a + s)) hs0 (by omega) (by rw [hL4m.out]; omega) HF.out.1 (fun i j x y hi hij hj hx hy => HF.out.2 i j x y hi hij (by omega) hx hy) _ _ _ rfl (by omega) (by omega)).mono ?_
        rintro e w5 ⟨rfl, L5, g1, g2, g3, g4, g5, g6⟩
        have hl5 : L5.length = n := by rw [g1, hL4m.out]
        have H5 := Lib.hid (And.intro (g1.trans H4.out.2.2.1) (And.intro (fun t => (g2 t).trans (H4.out.2.2.2.1 t)) (And.intro (show BlkFrom (s + s) 0 L5 from blk_end (a := a) (by
         obtain ⟨j, e1, e2⟩ := H4.out.1
         refine ⟨j, e1, fun k hk => g4 _ _ ?_ (e2 k hk)⟩
         have := Nat.mul_le_mul_right (s + s) (show k + 1 ≤ j from hk)
         rw [Nat.add_mul, Nat.one_mul] at this
         omega) (srtI_cut g3 (by omega)) (by omega)) g6)))
        clear g1 g2 g3 g4 g5 g6 hl5
        go_wp2_with fail
        go_roundg (2 * n + 20 - (s + s))
        case measure => have := H3.out.2.2.2.2; have := hLn.out; omega
        case rel => exact ⟨s + s, L5, by omega, by have := hLn.out; omega, by rw [hLn.out], by go_num, H5.out.2.2.1, H5.out.1, H5.out.2.1, H5.out.2.2.2⟩
       ·have hm' : ¬ (a : Int) + (s : Int) < (n : Int) := by omega
        have H5 := Lib.hid (show BlkFrom (s + s) 0 L4 from blk_end H4.out.1 (srtI_cut HF.out.1 (by rw [hL4m.out]; omega)) (by rw [hL4m.out]; omega))
        go_wp2_with fail
        go_roundg (2 * n + 20 - (s + s))
        case measure => have := H3.out.2.2.2.2; have := hLn.out; omega
        case rel => exact ⟨s + s, L4, by omega, by have := hLn.out; omega, by rw [hLn.out], by go_num, H5.out, H4.out.2.2.1, H4.out.2.2.2.1, H4.out.2.2.2.2.1⟩
    ·have hsl' : ¬ (s : Int) < (n : Int) := by omega
     have HE := Lib.hid (show Q wr by
      rw [H.out.2.2.2.2.2]
      have h1 := H3.out.1 0
      rw [Nat.zero_mul, Nat.add_zero, Nat.zero_add] at h1
      exact ⟨L3, ⟨srtI_all h1 (by rw [H3.out.2.1, hLn.out]; omega), H3.out.2.1, H3.out.2.2.1⟩, H3.out.2.2.2.1⟩)
     go_wp2_with fail
     refine bodyPost_end (results_none rfl _ _ _) rfl ?_
     exact ⟨rfl, HE.out⟩
theorem sortStable_spec (w0 w : World) (blk cap : Nat) (d0 : Array SmpB) (L : List SmpB) (R : RowK encSm 2 w0 blk 0 d0) (hs : L.length = d0.size) (h : SWS w0 blk L w) (hz : d0.size < 100000) :
  Calls Tryz.prog 51 #[.slice (some ⟨blk, 0, none⟩) d0.size cap, cmpV] w fun e w' => e = .returned (.tuple #[]) ∧ ∃ L', StbL L L' ∧ SWS w0 blk L' w' := by
 have H := Lib.hid (stable_spec w0 w blk cap d0 L R hs h hz)
 clear hs h
 go_enter Tryz.func51, Tryz.ntmps51
 go_wp2_with fail
 refine H.out.mono ?_
 rintro e w2 ⟨rfl, h2⟩
 have H2 := Lib.hid h2
 clear h2
 go_wp2_with fail
 refine bodyPost_end (results_none rfl _ _ _) rfl ?_
 exact ⟨rfl, H2.out⟩
open Go Go.RowKit Go.Lib Go.Sort Go.Shelf
def uq : Option Int → List SmpB → List SmpB
 | _, [] => []
 | p, x :: l => if p = some x.1 then uq p l else x :: uq (some x.1) l
def uniqS (L : List SmpB) : List SmpB := uq none L
def keyEnd (p : Option Int) (L : List SmpB) : Option Int := match L.getLast? with | none => p | some y => some y.1
theorem keyEnd_cons (p : Option Int) (y : SmpB) (L : List SmpB) : keyEnd p (y :: L) = keyEnd (some y.1) L := by
 unfold keyEnd
 cases L with
 | nil => rfl
 | cons z L => rw [List.getLast?_cons_cons]
               cases h : (z :: L).getLast? with
               | none => simp at h
               | some _ => rfl
theorem uq_snoc (x : SmpB) : ∀ (L : List SmpB) (p : Option Int), uq p (L ++ [x]) = uq p L ++ (if keyEnd p L = some x.1 then [] else [x])
 | [], p => by
  show (if p = some x.1 then uq p [] else x :: uq (some x.1) []) = [] ++ _
  by_cases h : p = some x.1
  ·rw [if_pos h, if_pos (show keyEnd p [] = some x.1 from h)]
   rfl
  ·rw [if_neg h, if_neg (show ¬ keyEnd p [] = some x.1 from h)]
   rfl
 | y :: L, p => by
  rw [keyEnd_cons]
  show (if p = some y.1 then uq p (L ++ [x]) else y :: uq (some y.1) (L ++ [x])) = (if p = some y.1 then uq p L else y :: uq (some y.1) L) ++ _
  split
  ·rename_i h
   rw [uq_snoc x L p, h]
  ·rw [uq_snoc x L, List.cons_append]
theorem uq_sub {y : SmpB} : ∀ {L : List SmpB} {p : Option Int}, y ∈ uq p L → y ∈ L
 | [], _, h => by cases h
 | x :: L, p, h => by
  unfold uq at h
  split at h
  ·exact List.mem_cons_of_mem _ (uq_sub h)
  ·rcases List.mem_cons.1 h with rfl | h
   ·exact List.mem_cons_self
   ·exact List.mem_cons_of_mem _ (uq_sub h)
theorem atT_cons (t : Int) (x : SmpB) (L : List SmpB) : atT t (x :: L) = if x.1 = t then x :: atT t L else atT t L := by
 unfold atT
 rw [List.filter_cons]
 simp
theorem uq_law : ∀ {D : List SmpB} {p : Option Int}, Srt D → (∀ q, p = some q → ∀ x ∈ D, q ≤ x.1) → (uq p D).Pairwise ltS ∧ ∀ t, atT t (uq p D) = if p = some t then [] else (atT t D).take 1
 | [], p, _, _ => ⟨by simp [uq], fun t => by simp [uq, atT]⟩
 | x :: D, p, h, hp => by
  have h' := List.pairwise_cons.1 h
  by_cases hx : p = some x.1
  ·have ih := uq_law (p := p) h'.2 (fun q hq y hy => hp q hq y (List.mem_cons_of_mem _ hy))
   have e : uq p (x :: D) = uq p D := by rw [uq, if_pos hx]
   rw [e]
   refine ⟨ih.1, fun t => ?_⟩
   rw [ih.2 t]
   by_cases ht : p = some t
   ·rw [if_pos ht, if_pos ht]
   ·rw [if_neg ht, if_neg ht, atT_cons, if_neg (fun e => ht (by rw [hx, e]))]
  ·have ih := uq_law (p := some x.1) h'.2 (fun q hq y hy => by obtain rfl := Option.some.inj hq; exact h'.1 y hy)
   have e : uq p (x :: D) = x :: uq (some x.1) D := by rw [uq, if_neg hx]
   rw [e]
   refine ⟨List.pairwise_cons.2 ⟨fun y hy => ?_, ih.1⟩, fun t => ?_⟩
   ·have h1 := h'.1 y (uq_sub hy)
    have h2 : ¬ y.1 = x.1 := fun e2 => by
     have h3 := ih.2 x.1
     rw [if_pos rfl] at h3
     have h4 : y ∈ atT x.1 (uq (some x.1) D) := List.mem_filter.2 ⟨hy, by simpa using e2⟩
     rw [h3] at h4
     cases h4
    show x.1 < y.1
    omega
   ·rw [atT_cons, ih.2 t, atT_cons]
    by_cases hxt : x.1 = t
    ·rw [if_pos hxt, if_pos (by rw [hxt]), if_pos hxt, if_neg (fun e2 => hx (by rw [e2, hxt]))]
     simp
    ·rw [if_neg hxt, if_neg hxt, if_neg (fun e2 => hxt (Option.some.inj e2))]
     by_cases hpt : p = some t
     ·rw [if_pos hpt, atT_none fun s hs e2 => ?_]
      ·rfl
      ·have h5 := hp t hpt x List.mem_cons_self
       have h6 := h'.1 s hs
       omega
     ·rw [if_neg hpt]
theorem uniq_law {D : List SmpB} (h : Srt D) : (uniqS D).Pairwise ltS ∧ ∀ t, atT t (uniqS D) = (atT t D).take 1 := by
 have := uq_law (p := none) h (fun q hq => by cases hq)
 refine ⟨this.1, fun t => ?_⟩
 rw [show uniqS D = uq none D from rfl, this.2 t, if_neg (by simp)]
theorem uniq_snoc {L : List SmpB} {k : Nat} {x y : SmpB} (hx : L[k]? = some x) (hy : L[k + 1]? = some y) : uniqS (L.take (k + 2)) = if x.1 = y.1 then uniqS (L.take (k + 1)) else uniqS (L.take (k + 1)) ++ [y] := by
 obtain ⟨h1, rfl⟩ := List.getElem?_eq_some_iff.1 hx
 obtain ⟨h2, rfl⟩ := List.getElem?_eq_some_iff.1 hy
 rw [List.take_succ_eq_append_getElem h2]
 unfold uniqS
 rw [uq_snoc]
 have e : keyEnd none (L.take (k + 1)) = some L[k].1 := by
  rw [List.take_succ_eq_append_getElem h1]
  unfold keyEnd
  rw [List.getLast?_append]
  rfl
 rw [e]
 by_cases h : L[k].1 = L[k + 1].1
 ·rw [if_pos (by rw [h]), if_pos h, List.append_nil]
 ·rw [if_neg (fun e2 => h (Option.some.inj e2)), if_neg h]
theorem flatK_set (d : Array SmpB) (i : Nat) (hi : i < d.size) (a : SmpB) : setMany (flatK encSm 2 d) (i * 2) (encSm a) = flatK encSm 2 (d.setIfInBounds i a) := by
 refine ext_get! (by simp) fun t ht => ?_
 have ht' : t < d.size * 2 := by simpa using ht
 rw [get_setMany _ _ _ t (by simpa using ht'), get_flatK _ _ _ t ht', get_flatK _ _ _ t (by simpa using ht')]
 have hl : (encSm a).length = 2 := rfl
 rw [hl]
 by_cases h : t / 2 = i
 ·rw [if_pos ((blk_iff 2 i t (by decide)).2 h), show t - i * 2 = t % 2 by omega, show (d.setIfInBounds i a)[t / 2]! = a from by rw [h]; exact getElem!_set_same d i a hi]
 ·rw [if_neg (fun h2 => h ((blk_iff 2 i t (by decide)).1 h2)), show (d.setIfInBounds i a)[t / 2]! = d[t / 2]! from getElem!_set_other d i (t / 2) a h]
theorem sws_set {w0 W : World} {blk : Nat} {d0 : Array SmpB} {L : List SmpB} (h : SWS w0 blk L W) (R : RowK encSm 2 w0 blk 0 d0) (i : Nat) (hi : i < L.length) (a : SmpB) :
  SWS w0 blk (L.set i a) ((W.setCell ⟨blk, i * 2, none⟩ (.int .i64 a.1)).setCell ⟨blk, i * 2 + 1, none⟩ (.int .u64 a.2)) := by
 obtain ⟨n, os, rfl⟩ := h
 refine ⟨n, os, ?_⟩
 show (sortWorldK encSm 2 w0 blk 0 n L.toArray os).setCells blk (i * 2) (encSm a) = _
 unfold sortWorldK
 rw [setCells_grow os blk _ _ _ (by show blk < (putRowK encSm 2 _ blk 0 _).heap.size; rw [size_putRowK]; exact R.hblk)]
 congr 1
 unfold putRowK
 rw [show i * 2 = 0 + i * 2 by omega, setCells_putRow _ _ _ _ _ _ (by rw [size_flatK]; simp; show i * 2 + 2 ≤ _; omega), flatK_set _ _ (by simpa using hi), List.setIfInBounds_toArray]
def zerosS : Nat → List Value
 | 0 => []
 | n + 1 => .int .i64 0 :: .int .u64 0 :: zerosS n
theorem zerosS_len : ∀ n, (zerosS n).length = n * 2
 | 0 => rfl
 | n + 1 => by rw [zerosS, List.length_cons, List.length_cons, zerosS_len n]; omega
theorem zerosS_at : ∀ (n j : Nat), j < n * 2 → (zerosS n)[j]? = some (if j % 2 = 0 then .int .i64 0 else .int .u64 0)
 | 0, j, h => by omega
 | n + 1, 0, _ => rfl
 | n + 1, 1, _ => rfl
 | n + 1, j + 2, h => by
  rw [zerosS, List.getElem?_cons_succ, List.getElem?_cons_succ, zerosS_at n j (by omega), show (j + 2) % 2 = j % 2 by omega]
theorem zeroCells_smp (n : Nat) : (Builtin.zeroCells #[.int .i64 0, .int .u64 0] n).toList = zerosS n := by
 have hl : (Builtin.zeroCells #[.int .i64 0, .int .u64 0] n).toList.length = n * 2 := by simp [Builtin.zeroCells]
 apply List.ext_getElem?
 intro j
 by_cases hj : j < n * 2
 ·rw [zerosS_at n j hj, List.getElem?_eq_getElem (by rw [hl]; exact hj)]
  rcases (show j % 2 = 0 ∨ j % 2 = 1 by omega) with h | h
  ·simp [Builtin.zeroCells, h]
  ·simp [Builtin.zeroCells, h]
 ·rw [List.getElem?_eq_none (by rw [hl]; omega), List.getElem?_eq_none (by rw [zerosS_len]; omega)]
theorem sws_zero {w0 : World} {blk : Nat} {d0 : Array SmpB} (R : RowK encSm 2 w0 blk 0 d0) : ∀ (n k : Nat) (L : List SmpB) (W : World), SWS w0 blk L W → k + n ≤ L.length → ∃ D : List SmpB, D.length = L.length ∧ D.take k = L.take k ∧ SWS w0 blk D (W.setCells blk (k * 2) (zerosS n))
 | 0, k, L, W, h, _ => ⟨L, rfl, rfl, h⟩
 | n + 1, k, L, W, h, hk => by
  have h1 := sws_set h R k (by omega) (0, 0)
  obtain ⟨D, e1, e2, e3⟩ := sws_zero R n (k + 1) (L.set k (0, 0)) _ h1 (by rw [List.length_set]; omega)
  refine ⟨D, by rw [e1, List.length_set], ?_, ?_⟩
  ·have := congrArg (List.take k) e2
   rw [List.take_take, List.take_take, Nat.min_eq_left (by omega)] at this
   rw [this, List.take_set_of_le (by omega)]
  ·rw [show (k + 1) * 2 = k * 2 + 1 + 1 by omega] at e3
   exact e3
theorem run_clear_smp (w : World) (ty : TypeId) (b o n c : Nat) (hn : 0 < n) (hc : ∀ j, j < n * 2 → (w.cell? ⟨b, o + j, none⟩).isSome = true) (hf : ∀ j, j < n * 2 → w.frozen? ⟨b, o + j, none⟩ = false) :
  (Builtin.clear_ #[72] ty #[.slice (some ⟨b, o, none⟩) n c]).run Tryz.prog w = .ok (.tuple #[]) (w.setCells b o (zerosS n)) := by
 have hst := run_storeCells_cells (P := Tryz.prog) b o (zerosS n) 0 w (by rw [zerosS_len]; simpa using hc) (by rw [zerosS_len]; simpa using hf) (by
  intro v hv
  obtain ⟨j, hj, rfl⟩ := List.mem_iff_getElem.1 hv
  have h1 := zerosS_at n j (by rw [zerosS_len] at hj; exact hj)
  rw [List.getElem?_eq_getElem hj] at h1
  rw [Option.some.inj h1]
  split <;> rfl)
 simp only [Nat.add_zero] at hst
 have hz : ∀ w, (zeroValue 50).run Tryz.prog w = .ok (.agg #[.int .i64 0, .int .u64 0]) w := fun w => by kernel_rfl
 obtain ⟨m, rfl⟩ : ∃ m, n = m + 1 := ⟨n - 1, by omega⟩
 simp [Builtin.clear_, run_underlying Tryz.underlying72, hz, Value.cells, zeroCells_smp, hst]
def eqT (x y : SmpB) : Bool := x.1 == y.1
theorem smpEq_spec (w : World) (x y : SmpB) : Calls Tryz.prog 55 #[.agg #[.int .i64 x.1, .int .u64 x.2], .agg #[.int .i64 y.1, .int .u64 y.2]] w fun e w' => e = .returned (.bool (eqT x y)) ∧ ∃ q os, w' = grow (w.drewN q) os := by
 go_enter Tryz.func55, Tryz.ntmps55
 go_wp2_with fail
 go_ret
 refine ⟨rfl, 0, #[.cells #[.int .i64 x.1, .int .u64 x.2] 50, .cells #[.int .i64 y.1, .int .u64 y.2] 50], ?_⟩
 rw [alloc_eq_grow, alloc_eq_grow, grow_grow]
 rfl
theorem eq_sort (W : World) (x y : SmpB) (n : Nat) (os : Array Obj) : Calls Tryz.prog 55 #[.agg #[.int .i64 x.1, .int .u64 x.2], .agg #[.int .i64 y.1, .int .u64 y.2]] (grow (W.drewN n) os) fun e w' => e = .returned (.bool (eqT x y)) ∧ ∃ q os', w' = grow ((grow (W.drewN n) os).drewN q) os' := smpEq_spec _ x y
abbrev eqV : Value := .func (.func 55) #[] #[]
def Cm1 (w0 : World) (blk : Nat) (L : List SmpB) (gk : Nat) (u5 : Value) (wr : World) : Prop :=
 ∃ k, 1 ≤ k ∧ k ≤ L.length ∧ gk = L.length - k ∧ u5 = .int .i64 k ∧ uniqS (L.take k) = L.take k ∧ SWS w0 blk L wr
def Cm2 (w0 : World) (blk : Nat) (L : List SmpB) (K : Nat) (gk : Nat) (u5 u7 : Value) (wr : World) : Prop :=
 ∃ (kk q : Nat) (D : List SmpB), K < q ∧ q ≤ L.length ∧ gk = L.length - q ∧ u5 = .int .i64 kk ∧ u7 = .int .i64 (q - K : Nat) ∧ K ≤ kk ∧ kk < q ∧ D.length = L.length ∧ uniqS (L.take q) = D.take kk ∧ (∀ i, q - 1 ≤ i → D[i]? = L[i]?) ∧ SWS w0 blk D wr
def CmPost (w0 : World) (blk : Nat) (L : List SmpB) (w' : World) : Prop :=
 ∃ D : List SmpB, D.length = L.length ∧ (uniqS L).length ≤ L.length ∧ D.take (uniqS L).length = uniqS L ∧ SWS w0 blk D w'
theorem compact_spec (w0 w : World) (blk cap : Nat) (d0 : Array SmpB) (L : List SmpB) (R : RowK encSm 2 w0 blk 0 d0) (hs : L.length = d0.size) (h : SWS w0 blk L w) (hz : d0.size < 100000) (hcap : d0.size ≤ cap) (hcap2 : cap ≤ maxLen) :
  Calls Tryz.prog 54 #[.slice (some ⟨blk, 0, none⟩) d0.size cap, eqV] w fun e w' => e = .returned (.slice (some ⟨blk, 0, none⟩) (uniqS L).length cap) ∧ CmPost w0 blk L w' := by
 obtain ⟨n, hn⟩ : ∃ n, n = d0.size := ⟨_, rfl⟩
 obtain ⟨m, hm⟩ : ∃ m, m = (uniqS L).length := ⟨_, rfl⟩
 obtain ⟨Q, hQ⟩ : ∃ Q : World → Prop, Q = CmPost w0 blk L := ⟨_, rfl⟩
 unfold maxLen at hcap2
 have H := Lib.hid (And.intro R (And.intro hs (And.intro h (And.intro hn (And.intro hQ hm)))))
 have hLn := Lib.hid (show L.length = n by omega)
 have hzn : n < 100000 := by omega
 have hnc : n ≤ cap := by omega
 rw [← hn, ← hQ, ← hm]
 clear R hs h hn hQ hm hz hcap
 by_cases h2 : n < 2
 ·have hlt : (n : Int) < 2 := by omega
  have hu : uniqS L = L := by
   match L, hLn.out with
   | [], _ => rfl
   | [x], _ => rfl
   | x :: y :: l, e => rw [← e] at h2; simp at h2; omega
  have HE := Lib.hid (And.intro (show Q w by
   rw [H.out.2.2.2.2.1]
   exact ⟨L, rfl, by rw [hu]; exact Nat.le_refl _, by rw [hu, List.take_length], H.out.2.2.1⟩) (show m = n by rw [H.out.2.2.2.2.2, hu, hLn.out]))
  clear hu
  go_enter Tryz.func54, Tryz.ntmps54
  go_wp2_with fail
  go_ret
  exact ⟨by rw [HE.out.2]; rfl, HE.out.1⟩
 ·have hlt : ¬ (n : Int) < 2 := by omega
  go_enter Tryz.func54, Tryz.ntmps54
  go_wp2_with fail
  go_loopg [5] (n - 1) (Cm1 w0 blk L)
  case atStart =>
   refine ⟨1, Nat.le_refl _, by rw [hLn.out]; omega, by rw [hLn.out], rfl, ?_, H.out.2.2.1⟩
   match L, hLn.out with
   | [], e => rw [← e] at h2; simp at h2
   | x :: l, _ => rfl
  case round =>
   obtain ⟨k, hk1, hkL, hgk, rfl, hu, hS⟩ := hrel
   have HS := Lib.hid (And.intro hu (And.intro hS hgk))
   rw [hLn.out] at hkL
   clear hu hS hgk
   have hLs := Lib.hid (show L.length = d0.size by exact H.out.2.1)
   by_cases hlt2 : k < n
   ·have hlt3 : (k : Int) < (n : Int) := by omega
    obtain ⟨k1, hk2⟩ : ∃ k1, k = k1 + 1 := ⟨k - 1, by omega⟩
    obtain ⟨x, hx⟩ : ∃ x, L[k1]? = some x := ⟨_, List.getElem?_eq_getElem (by rw [hLn.out]; omega)⟩
    obtain ⟨y, hy⟩ : ∃ y, L[k]? = some y := ⟨_, List.getElem?_eq_getElem (by rw [hLn.out]; omega)⟩
    have hw1 : IntKind.i64.wrap ((k : Int) - 1) = (k1 : Int) := by rw [IntWalk.i64_in _ (by omega)]; omega
    have hk1n : (k1 : Int) < (n : Int) := by omega
    have c0 := fun n os => (sws_at (HS.out.2.1.grown n os) H.out.1 hLs.out k1 x hx).1
    have c1 := fun n os => (sws_at (HS.out.2.1.grown n os) H.out.1 hLs.out k1 x hx).2.1
    have c2 := fun n os => (sws_at (HS.out.2.1.grown n os) H.out.1 hLs.out k y hy).1
    have c3 := fun n os => (sws_at (HS.out.2.1.grown n os) H.out.1 hLs.out k y hy).2.1
    have HX := Lib.hid (And.intro hk2 (And.intro hx hy))
    clear hk2 hx hy
    go_upto_region 6 with fail
    have mixed := mixedO
    go_quiet_grown (first | (go_at_call 55; refine Calls.grown_of (eq_sort wr y x _ _)))
    have HS2 := Lib.hid (HS.out.2.1.grown nq osq)
    clear c0 c1 c2 c3 mixed
    generalize grow (wr.drewN nq) osq = w2 at HS2 ⊢
    by_cases hxy : y.1 = x.1
    ·have hb : eqT y x = true := by unfold eqT; rw [beq_iff_eq]; exact hxy
     have HY := Lib.hid hxy
     clear hxy
     rw [hb]
     have hkc : k ≤ cap := by omega
     have hkc2 : k < cap := by omega
     have hu1 := Lib.hid (show uniqS (L.take (k + 1)) = L.take k by
      have hk2 := HX.out.1
      have h6 := uniq_snoc HX.out.2.1 (by rw [← hk2]; exact HX.out.2.2)
      rw [if_pos HY.out.symm, show k1 + 2 = k + 1 by omega, ← hk2, HS.out.1] at h6
      exact h6)
     go_wp2_with fail
     go_loopg [5, 7] (n - (k + 1)) (Cm2 w0 blk L k)
     case atStart => exact ⟨k, k + 1, L, Nat.lt_succ_self _, by rw [hLn.out]; exact hlt2, by rw [hLn.out], rfl, by rw [show k + 1 - k = 1 by omega]; rfl, Nat.le_refl _, Nat.lt_succ_self _, rfl, hu1.out, fun _ _ => rfl, HS2.out⟩
     case round =>
      obtain ⟨kk, q, D, hq1, hq2, hgk2, rfl, hu7, hk3, hk4, hDl, huq, hDe, hSD⟩ := hrel
      rw [hLn.out] at hq2
      obtain ⟨r, hr⟩ : ∃ r, r = q - k := ⟨_, rfl⟩
      rw [← hr] at hu7
      subst hu7
      have HD := Lib.hid (And.intro hgk2 (And.intro hDl (And.intro huq (And.intro hDe (And.intro hSD (show q = k + r ∧ 1 ≤ r by omega))))))
      clear hgk2 hDl huq hDe hSD hr
      have hDs := Lib.hid (show D.length = d0.size by rw [HD.out.2.1]; exact hLs.out)
      by_cases hqn : q < n
      ·have hl1 : (r : Int) < ((n - k : Nat) : Int) := by have := HD.out.2.2.2.2.2; omega
       have hl2 : (r : Int) < (n : Int) - (k : Int) := by have := HD.out.2.2.2.2.2; omega
       obtain ⟨r1, hr1⟩ : ∃ r1, r = r1 + 1 := ⟨r - 1, by have := HD.out.2.2.2.2.2; omega⟩
       obtain ⟨u, hu⟩ : ∃ u, L[q - 1]? = some u := ⟨_, List.getElem?_eq_getElem (by rw [hLn.out]; omega)⟩
       obtain ⟨v, hv⟩ : ∃ v, L[q]? = some v := ⟨_, List.getElem?_eq_getElem (by rw [hLn.out]; omega)⟩
       have hw2 : IntKind.i64.wrap ((r : Int) - 1) = (r1 : Int) := by rw [IntWalk.i64_in _ (by omega)]; omega
       have hwr := IntWalk.i64_in ((r : Int) + 1) (by have := HD.out.2.2.2.2.2; omega)
       have hwk := IntWalk.i64_in ((kk : Int) + 1) (by omega)
       have hl3 : (r1 : Int) < ((n - k : Nat) : Int) := by omega
       have hl4 : (r1 : Int) < (n : Int) - (k : Int) := by omega
       have hDu : D[q - 1]? = some u := by rw [HD.out.2.2.2.1 (q - 1) (Nat.le_refl _)]; exact hu
       have hDv : D[q]? = some v := by rw [HD.out.2.2.2.1 q (by omega)]; exact hv
       have e1 : q * 2 = k * 2 + r * 2 := by have := HD.out.2.2.2.2.2; omega
       have e2 : (q - 1) * 2 = k * 2 + r1 * 2 := by have := HD.out.2.2.2.2.2; omega
       have cU : ∀ n os, _ := fun n os => sws_at (HD.out.2.2.2.2.1.grown n os) H.out.1 hDs.out (q - 1) u hDu
       have cV : ∀ n os, _ := fun n os => sws_at (HD.out.2.2.2.2.1.grown n os) H.out.1 hDs.out q v hDv
       rw [e2] at cU
       rw [e1] at cV
       have c0 := fun n os => (cU n os).1
       have c1 := fun n os => (cU n os).2.1
       have c2 := fun n os => (cV n os).1
       have c3 := fun n os => (cV n os).2.1
       have HX2 := Lib.hid (And.intro hr1 (And.intro hu (And.intro hv (And.intro hDv (And.intro e1 hDu)))))
       clear hr1 hu hv hDu hDv e1 e2 cU cV
       go_upto_region 11 with fail
       have mixed := mixedO
       go_quiet_grown (first | (go_at_call 55; refine Calls.grown_of (eq_sort wr v u _ _)))
       have HS3 := Lib.hid (HD.out.2.2.2.2.1.grown nq osq)
       clear c0 c1 c2 c3 mixed
       generalize grow (wr.drewN nq) osq = w3 at HS3 ⊢
       have hus := Lib.hid (show uniqS (L.take (q + 1)) = if u.1 = v.1 then D.take kk else D.take kk ++ [v] by
        have h6 := uniq_snoc (k := q - 1) HX2.out.2.1 (by rw [show q - 1 + 1 = q by omega]; exact HX2.out.2.2.1)
        rw [show q - 1 + 2 = q + 1 by omega, show q - 1 + 1 = q by omega, HD.out.2.2.1] at h6
        exact h6)
       by_cases hvu : v.1 = u.1
       ·have hb2 : eqT v u = true := by unfold eqT; rw [beq_iff_eq]; exact hvu
        have HV := Lib.hid hvu
        clear hvu
        rw [hb2]
        go_wp2_with fail
        go_roundg (n - (q + 1))
        case measure => have := HD.out.1; have := hLn.out; omega
        case rel =>
         refine ⟨kk, q + 1, D, by omega, by rw [hLn.out]; exact hqn, by rw [hLn.out], rfl, by have := HD.out.2.2.2.2.2; rw [show q + 1 - k = r + 1 by omega]; go_num, hk3, by omega, HD.out.2.1, ?_, fun i hi => HD.out.2.2.2.1 i (by omega), HS3.out⟩
         have h7 := hus.out
         rw [if_pos HV.out.symm] at h7
         exact h7
       ·have hb2 : eqT v u = false := by unfold eqT; rw [beq_eq_false_iff_ne]; exact hvu
        have HV := Lib.hid hvu
        clear hvu
        rw [hb2]
        have hkD : kk < D.length := by rw [HD.out.2.1, hLn.out]; omega
        obtain ⟨z, hz⟩ : ∃ z, D[kk]? = some z := ⟨_, List.getElem?_eq_getElem hkD⟩
        obtain ⟨c0, c1, f0, f1⟩ := sws_at HS3.out H.out.1 hDs.out kk z hz
        have cV := sws_at HS3.out H.out.1 hDs.out q v HX2.out.2.2.2.1
        rw [HX2.out.2.2.2.2.1] at cV
        obtain ⟨c2, c3, -, -⟩ := cV
        have lb := World.block_lt_of_cell? _ _ c0
        have hkn : (kk : Int) < (n : Int) := by omega
        have HW := Lib.hid (sws_set HS3.out H.out.1 kk hkD v)
        clear hz
        go_wp2_with fail
        generalize (w3.setCell ⟨blk, kk * 2, none⟩ (.int .i64 v.1)).setCell ⟨blk, kk * 2 + 1, none⟩ (.int .u64 v.2) = w4 at HW ⊢
        go_roundg (n - (q + 1))
        case measure => have := HD.out.1; have := hLn.out; omega
        case rel =>
         refine ⟨kk + 1, q + 1, D.set kk v, by omega, by rw [hLn.out]; exact hqn, by rw [hLn.out], by go_num, by have := HD.out.2.2.2.2.2; rw [show q + 1 - k = r + 1 by omega]; go_num, by omega, by omega, by rw [List.length_set]; exact HD.out.2.1, ?_, fun i hi => ?_, HW.out⟩
         ·have h7 := hus.out
          rw [if_neg (fun e => HV.out e.symm)] at h7
          rw [h7, List.take_succ_eq_append_getElem (by rw [List.length_set]; exact hkD), List.getElem_set_self, List.take_set_of_le (Nat.le_refl _)]
         ·rw [List.getElem?_set_ne (by omega)]
          exact HD.out.2.2.2.1 i (by omega)
      ·have hqe : q = n := by omega
       have hl1 : ¬ (r : Int) < ((n - k : Nat) : Int) := by have := HD.out.2.2.2.2.2; omega
       have hl2 : ¬ (r : Int) < (n : Int) - (k : Int) := by have := HD.out.2.2.2.2.2; omega
       have hmk : m = kk := by
        have h8 := HD.out.2.2.1
        rw [hqe, ← hLn.out, List.take_length] at h8
        rw [H.out.2.2.2.2.2, h8, List.length_take, HD.out.2.1, hLn.out]
        omega
       have hcl := fun ty => run_clear_smp wr ty blk (kk * 2) (n - kk) (cap - kk) (by omega) (fun j hj => by
        obtain ⟨i, hi⟩ : ∃ i, i = kk + j / 2 := ⟨_, rfl⟩
        have hc := sws_at HD.out.2.2.2.2.1 H.out.1 hDs.out i _ (List.getElem?_eq_getElem (by rw [HD.out.2.1, hLn.out]; omega))
        rcases (show kk * 2 + j = i * 2 ∨ kk * 2 + j = i * 2 + 1 by omega) with e | e
        ·rw [e, hc.1]; rfl
        ·rw [e, hc.2.1]; rfl) (fun j hj => by
        obtain ⟨i, hi⟩ : ∃ i, i = kk + j / 2 := ⟨_, rfl⟩
        have hc := sws_at HD.out.2.2.2.2.1 H.out.1 hDs.out i _ (List.getElem?_eq_getElem (by rw [HD.out.2.1, hLn.out]; omega))
        rcases (show kk * 2 + j = i * 2 ∨ kk * 2 + j = i * 2 + 1 by omega) with e | e
        ·rw [e]; exact hc.2.2.1
        ·rw [e]; exact hc.2.2.2)
       have HE := Lib.hid (show Q (wr.setCells blk (kk * 2) (zerosS (n - kk))) ∧ m = kk by
        obtain ⟨D2, g1, g2, g3⟩ := sws_zero H.out.1 (n - kk) kk D wr HD.out.2.2.2.2.1 (by rw [HD.out.2.1, hLn.out]; omega)
        have h8 := HD.out.2.2.1
        rw [hqe, ← hLn.out, List.take_length] at h8
        rw [H.out.2.2.2.2.1]
        refine ⟨⟨D2, g1.trans HD.out.2.1, ?_, ?_, g3⟩, hmk⟩
        ·rw [← H.out.2.2.2.2.2, hmk, hLn.out]; omega
        ·rw [← H.out.2.2.2.2.2, hmk, h8]; exact g2)
       have hkn1 : kk ≤ n := by omega
       have hkc3 : kk < cap := by omega
       clear hmk hqe
       generalize wr.setCells blk (kk * 2) (zerosS (n - kk)) = w5 at hcl HE
       go_wp2_with fail
       go_ret
       exact ⟨by rw [HE.out.2]; rfl, HE.out.1⟩
    ·have hb : eqT y x = false := by unfold eqT; rw [beq_eq_false_iff_ne]; exact hxy
     have HY := Lib.hid hxy
     clear hxy
     rw [hb]
     go_wp2_with fail
     go_roundg (n - (k + 1))
     case measure => have := HS.out.2.2; have := hLn.out; omega
     case rel =>
      refine ⟨k + 1, by omega, by rw [hLn.out]; exact hlt2, by rw [hLn.out], by go_num, ?_, HS2.out⟩
      have hk2 := HX.out.1
      have h5 := HS.out.1
      have h6 := uniq_snoc HX.out.2.1 (by rw [← hk2]; exact HX.out.2.2)
      rw [if_neg (fun e => HY.out e.symm), show k1 + 2 = k + 1 by omega, ← hk2, h5] at h6
      obtain ⟨hyl, hye⟩ := List.getElem?_eq_some_iff.1 HX.out.2.2
      rw [h6, List.take_succ_eq_append_getElem hyl, hye]
   ·have hge : ¬ (k : Int) < (n : Int) := by omega
    have HE := Lib.hid (show Q wr ∧ m = n by
     have hk : L.take k = L := List.take_of_length_le (by rw [hLn.out]; omega)
     have hu := HS.out.1
     rw [hk] at hu
     rw [H.out.2.2.2.2.1, H.out.2.2.2.2.2]
     exact ⟨⟨L, rfl, by rw [hu]; exact Nat.le_refl _, by rw [hu, List.take_length], HS.out.2.1⟩, by rw [hu, hLn.out]⟩)
    go_wp2_with fail
    go_ret
    exact ⟨by rw [HE.out.2]; rfl, HE.out.1⟩
open Go Go.RowKit Go.Lib Go.Sort Go.Shelf
def SmpsOf (Ls : List (List SmpB)) (T : List SmpB) : Prop := T.Pairwise ltS ∧ ∀ t, atT t T = (atT t Ls.flatten).take 1
theorem smpsOf_uniq {Ls : List (List SmpB)} {D : List SmpB} (h : StbL Ls.flatten D) : SmpsOf Ls (uniqS D) := by
 have := uniq_law h.1
 exact ⟨this.1, fun t => by rw [this.2 t, h.2.2 t]⟩
theorem flatK_smps (P : List SmpB) : (flatK encSm 2 P.toArray).toList = P.flatMap encSm := by
 have hl : (P.flatMap encSm).length = P.length * 2 := by
  induction P with
  | nil => rfl
  | cons p P ih =>
   rw [List.flatMap_cons, List.length_append, ih, List.length_cons]
   show 2 + _ = _
   omega
 apply List.ext_getElem?
 intro t
 by_cases ht : t < P.length * 2
 ·have h1 := flatMap_at encSm 2 (fun _ => rfl) P (t / 2) (by omega) (t % 2) (by omega)
  rw [show t / 2 * 2 + t % 2 = t from by omega] at h1
  rw [h1]
  have h2 := get_flatK encSm 2 P.toArray t (by simpa using ht)
  have hs : t < (flatK encSm 2 P.toArray).size := by rw [size_flatK]; simpa using ht
  rw [Array.getElem?_toList, Array.getElem?_eq_getElem hs, ← getElem!_pos (flatK encSm 2 P.toArray) t hs, h2]
  have h3 : P.toArray[t / 2]! = P[t / 2] := by rw [getElem!_pos P.toArray (t / 2) (by simp; omega)]; simp
  rw [h3, getElem!_pos (encSm P[t / 2]) (t % 2) (by show t % 2 < 2; omega), List.getElem?_eq_getElem (by show t % 2 < 2; omega)]
 ·rw [List.getElem?_eq_none (show (P.flatMap encSm).length ≤ t by rw [hl]; omega), List.getElem?_eq_none (show (flatK encSm 2 P.toArray).toList.length ≤ t by rw [Array.length_toList, size_flatK]; simp; omega)]
theorem holdsK_smps {w : World} {g : Nat} {cur : Array Value} {e : TypeId} {P : List SmpB} (hb : w.heap[g]? = some (.cells cur e (0, 0))) (ht : cur.toList.take (P.length * 2) = P.flatMap encSm) : HoldsK encSm 2 w g 0 P.toArray := by
 intro j hj
 have hj' : j < P.length * 2 := by simpa using hj
 refine ⟨?_, by simp [World.frozen?, hb]⟩
 have h1 : (cur.toList.take (P.length * 2))[j]? = (flatK encSm 2 P.toArray).toList[j]? := by rw [ht, flatK_smps]
 rw [List.getElem?_take_of_lt hj', Array.getElem?_toList, Array.getElem?_toList, Array.getElem?_eq_getElem hj] at h1
 rw [Nat.zero_add, cells_at hb, h1, getElem!_pos _ j hj]
 rfl
def PartsAt (B : Nat) (w : World) (v : Value) (Ls : List (List SmpB)) : Prop := ∃ Vs : List Value, w.ownsRow B 72 1 v Vs.length Vs ∧ Vs.length = Ls.length ∧ ∀ (i : Nat) (V : Value) (L : List SmpB), Vs[i]? = some V → Ls[i]? = some L → w.ownsRow 0 50 2 V L.length (L.flatMap encSm)
theorem PartsAt.keep {B : Nat} {w w' : World} {v : Value} {Ls : List (List SmpB)} (h : PartsAt B w v Ls) (k : Keeps [] w w') : PartsAt B w' v Ls := by
 obtain ⟨Vs, h1, h2, h3⟩ := h
 exact ⟨Vs, go1 k h1, h2, fun i V L hV hL => go1 k (h3 i V L hV hL)⟩
theorem smps_flat (P : List SmpB) : (P.flatMap encSm).length = P.length * 2 := by
 induction P with
 | nil => rfl
 | cons p P ih =>
  rw [List.flatMap_cons, List.length_append, ih, List.length_cons]
  show 2 + _ = _
  omega
theorem take_flat (P : List SmpB) (m : Nat) : (P.flatMap encSm).take (m * 2) = (P.take m).flatMap encSm := by
 induction P generalizing m with
 | nil => simp
 | cons p P ih =>
  cases m with
  | zero => simp
  | succ m =>
   rw [List.flatMap_cons, List.take_succ_cons, List.flatMap_cons, ← ih m, show (m + 1) * 2 = (encSm p).length + m * 2 by show _ = 2 + m * 2; omega, List.take_length_add_append]
theorem row_sort {B n g c : Nat} {w : World} {L : List SmpB} (h : w.ownsRow B 50 2 (.slice (some ⟨g, 0, none⟩) n c) L.length (L.flatMap encSm)) (_hL : 0 < L.length) : n = L.length ∧ B ≤ g ∧ n ≤ c ∧ c ≤ maxLen ∧ RowK encSm 2 w g 0 L.toArray ∧ SWS w g L w ∧ ∀ D w', SWS w g D w' → D.length = L.length → ∀ m, m ≤ D.length → w'.ownsRow B 50 2 (.slice (some ⟨g, 0, none⟩) m c) (D.take m).length ((D.take m).flatMap encSm) ∧ w.grownBy w' (some g) := by
 obtain ⟨hxl, ⟨hn, h0⟩ | ⟨g', cap', cur, hv, hbase, hb, h1, h2, h3, h4⟩⟩ := h
 ·cases hn
 injection hv with hv1 hv2 hv3
 injection hv1 with hv1
 injection hv1 with hv1 _ _
 subst hv1 hv2 hv3
 have hH : HoldsK encSm 2 w g 0 L.toArray := holdsK_smps hb h4
 have hR : RowK encSm 2 w g 0 L.toArray := ⟨fun _ => rfl, fun x v hv => by simp [encSm] at hv; rcases hv with rfl | rfl <;> rfl, hH, lt_of_at hb⟩
 refine ⟨rfl, hbase, h1, h2, hR, SWK.start hH, fun D w' hD hDl m hm => ?_⟩
 obtain ⟨k, os, rfl⟩ := hD
 unfold sortWorldK putRowK
 have hfs : (flatK encSm 2 D.toArray).size = L.length * 2 := by rw [size_flatK]; simp [hDl]
 have hml : (D.take m).length = m := by rw [List.length_take]; omega
 refine ⟨⟨by rw [smps_flat], .inr ⟨g, c, _, by rw [hml], hbase, heap_sortedV _ hb, by omega, h2, by simp [putCells, h3], ?_⟩⟩, grownBy_sortedV _⟩
 have h5 := take_putCellsV cur (flatK encSm 2 D.toArray) (by rw [hfs, h3]; omega)
 rw [hfs, flatK_smps] at h5
 have h6 := congrArg (List.take (m * 2)) h5
 rw [List.take_take, Nat.min_eq_left (by omega), take_flat] at h6
 rw [hml]
 exact h6
def SmLoop (w : World) (Ls : List (List SmpB)) (gk : Nat) (u3 u8 : Value) (wr : World) : Prop :=
 ∃ k, k ≤ Ls.length ∧ gk = Ls.length - k ∧ u8 = .int .i64 (k : Nat) ∧ wr.ownsRow w.heap.size 50 2 u3 ((Ls.take k).flatten).length ((Ls.take k).flatten.flatMap encSm) ∧ Keeps [] w wr
theorem flatS_take {Ls : List (List SmpB)} (k : Nat) : (Ls.take k).flatten.length ≤ Ls.flatten.length := by
 conv => rhs; rw [← List.take_append_drop k Ls, List.flatten_append, List.length_append]
 omega
theorem samples_spec (w : World) (v : Value) (Ls : List (List SmpB)) (B : Nat) (h : PartsAt B w v Ls) (hne : ∀ L ∈ Ls, 0 < L.length) (h0 : 0 < Ls.length) (hl : Ls.flatten.length < 10000) (hn : Ls.length < 1000) :
  Calls Tryz.prog 28 #[v] w fun e w' => ∃ v' T, e = .returned v' ∧ SmpsOf Ls T ∧ T.length ≤ Ls.flatten.length ∧ w'.ownsRow w.heap.size 50 2 v' T.length (T.flatMap encSm) ∧ Keeps [] w w' := by
 obtain ⟨im, him, hz0, hz1, hz2⟩ := info_parts infoSmp
 obtain ⟨Vs, hV, hVl, hVs⟩ := h
 obtain ⟨g0, c0, ev⟩ := row_some hV (by omega)
 subst ev
 have H := Lib.hid (And.intro hV (And.intro hVs (And.intro hne (And.intro hl h0))))
 rw [hVl]
 have HVl := Lib.hid hVl
 clear hV hVs hne hVl h0
 go_enter Tryz.func28, Tryz.ntmps28
 go_wp2_with fail
 go_loopg [3, 8] Ls.length (SmLoop w Ls)
 case atStart => exact ⟨0, Nat.zero_le _, rfl, rfl, by simpa using World.ownsRow_nil w _ _ 2, Keeps.refl _ _⟩
 case round =>
  obtain ⟨k, hk, hgk, rfl, hrow, hkw⟩ := hrel
  have HR := Lib.hid (And.intro hrow (And.intro hkw hgk))
  have hfl := flatS_take (Ls := Ls) k
  obtain ⟨ax, cx, rfl, -, -, -⟩ := row_slice hrow
  obtain ⟨N, hN⟩ : ∃ N, N = (Ls.take k).flatten.length := ⟨_, rfl⟩
  rw [← hN] at hfl ⊢
  have HN := Lib.hid hN
  have HRN := Lib.hid (show wr.ownsRow w.heap.size 50 2 (.slice ax N cx) N ((Ls.take k).flatten.flatMap encSm) by rw [hN]; exact hrow)
  clear hrow hkw hgk hN
  by_cases hlt : k < Ls.length
  ·have hlt' : (k : Int) < (Ls.length : Int) := by omega
   obtain ⟨L, hL⟩ : ∃ L, Ls[k]? = some L := ⟨_, List.getElem?_eq_getElem hlt⟩
   obtain ⟨V, hV⟩ : ∃ V, Vs[k]? = some V := ⟨_, List.getElem?_eq_getElem (by rw [HVl.out]; exact hlt)⟩
   have hown := go1 HR.out.2.1 (H.out.2.1 k V L hV hL)
   have hLm : L ∈ Ls := List.mem_of_getElem? hL
   obtain ⟨gx, cv, rfl⟩ := row_some hown (H.out.2.2.1 L hLm)
   have hcell : wr.cell? ⟨g0, k, none⟩ = some (.slice (some ⟨gx, 0, none⟩) L.length cv) := by
    have h1 := World.ownsRow.cells (go1 HR.out.2.1 H.out.1) (g := g0) rfl k _ hV
    have hadd : (⟨g0, 0, none⟩ : Addr).add k = ⟨g0, k, none⟩ := by unfold Addr.add; split <;> simp_all
    rw [hadd] at h1
    exact h1
   have lg := World.block_lt_of_cell? _ _ hcell
   have HT := Lib.hid (show (Ls.take (k + 1)).flatten = (Ls.take k).flatten ++ L by
    obtain ⟨h1, h2⟩ := List.getElem?_eq_some_iff.1 hL
    rw [List.take_succ_eq_append_getElem h1, List.flatten_append, h2]
    simp)
   have hsum : N + L.length ≤ 10000 := by
    have h1 := flatS_take (Ls := Ls) (k + 1)
    rw [HT.out, List.length_append, ← HN.out] at h1
    have := H.out.2.2.2.1
    omega
   have HO := Lib.hid hown
   clear hL hV hown hLm
   go_wp2_with (at_builtin; refine wpList_append_own _ rfl (.tmp 12) (.tmp 13) 72 rfl w.heap.size 50 im _ 2 16 Tryz.underlying72 him hz0 hz1 hz2 rfl (by decide) (.slice ax N cx) N ((Ls.take k).flatten.flatMap encSm) rfl HRN.out ⟨gx, 0, none⟩ L.length cv (L.flatMap encSm) rfl (smps_flat L) (World.ownsRow.cells HO.out (g := gx) rfl) (by intro u hu; obtain ⟨s, _, hs⟩ := List.mem_flatMap.1 hu; simp [encSm] at hs; rcases hs with rfl | rfl <;> rfl) (by simp only [maxLen]; omega) (by omega) HR.out.2.1.size ?_; intro v5 w5 hown5 hgrow5 hnil5; clear hnil5; obtain ⟨ao5, cp5, rfl, -, -, -⟩ := row_slice hown5; have H5 := Lib.hid (And.intro hown5 (keeps_own HR.out.2.1 hgrow5 (fun q hq => (World.ownsRow.lt HRN.out q hq).1))); clear hown5 hgrow5)
   go_roundg (Ls.length - (k + 1))
   case measure => have := HR.out.2.2; omega
   case rel =>
    refine ⟨k + 1, hlt, rfl, by go_num, ?_, H5.out.2⟩
    have h1 := H5.out.1
    rw [HT.out, List.length_append, List.flatMap_append, ← HN.out]
    exact h1
  ·have hge : ¬ (k : Int) < (Ls.length : Int) := by omega
   have hT := Lib.hid (show Ls.take k = Ls from List.take_of_length_le (by omega))
   have hFn := Lib.hid (show 0 < Ls.flatten.length by
    obtain ⟨L0, hL0⟩ : ∃ L0, L0 ∈ Ls := ⟨Ls[0]'H.out.2.2.2.2, List.getElem_mem _⟩
    have h1 := H.out.2.2.1 L0 hL0
    obtain ⟨s, hs⟩ : ∃ s, s ∈ L0 := ⟨L0[0]'h1, List.getElem_mem _⟩
    exact List.length_pos_of_mem (List.mem_flatten.2 ⟨L0, hL0, hs⟩))
   have hrow : wr.ownsRow w.heap.size 50 2 (.slice ax N cx) Ls.flatten.length (Ls.flatten.flatMap encSm) := by
    have h1 := HR.out.1
    rw [hT.out] at h1
    rw [HN.out, hT.out]
    exact h1
   obtain ⟨g, c, e⟩ := row_some hrow hFn.out
   injection e with e1 e2 e3
   subst e1 e3
   rw [show Value.slice (some ⟨g, 0, none⟩) N cx = .slice (some ⟨g, 0, none⟩) Ls.flatten.length cx by rw [e2]] at hrow
   obtain ⟨-, hbase, hnc, hcm, hR, hS0, hfin⟩ := row_sort hrow hFn.out
   have hsz : Ls.flatten.toArray.size = N := by rw [e2]; simp
   have hnc2 : N ≤ cx := by omega
   have hcon := Lib.hid (sortStable_spec wr wr g cx _ Ls.flatten hR (by simp) hS0 (by rw [hsz]; omega))
   rw [hsz] at hcon
   have HF := Lib.hid (And.intro hbase (And.intro hcm (And.intro hR (And.intro hfin (And.intro hsz hnc2)))))
   clear hrow e2 hbase hnc hcm hR hS0 hfin hsz hnc2
   go_wp2_with fail
   refine hcon.out.mono ?_
   rintro e w2 ⟨rfl, D, hD, hW⟩
   have hDl : D.length = Ls.flatten.length := hD.2.1
   have hcon2 := Lib.hid (compact_spec wr w2 g cx _ D HF.out.2.2.1 (by rw [hDl]; simp) hW (by rw [HF.out.2.2.2.2.1]; omega) (by rw [HF.out.2.2.2.2.1]; exact HF.out.2.2.2.2.2) HF.out.2.1)
   rw [HF.out.2.2.2.2.1] at hcon2
   obtain ⟨m, hm⟩ : ∃ m, m = (uniqS D).length := ⟨_, rfl⟩
   rw [← hm] at hcon2
   have H2 := Lib.hid (And.intro hD (And.intro hDl hm))
   clear hD hW hDl hm
   go_wp2_with fail
   refine hcon2.out.mono ?_
   rintro e w3 ⟨rfl, D2, f1, f2, f3, f4⟩
   have H3 := Lib.hid (HF.out.2.2.2.1 D2 w3 f4 (f1.trans H2.out.2.1) m (by rw [H2.out.2.2, f1]; exact f2))
   have hT : D2.take m = uniqS D := by rw [H2.out.2.2]; exact f3
   have HT := Lib.hid (And.intro hT f2)
   clear f1 f2 f3 f4 hT
   go_wp2_with fail
   go_ret
   refine ⟨_, uniqS D, rfl, smpsOf_uniq H2.out.1, by rw [← H2.out.2.1]; exact HT.out.2, ?_, keeps_own HR.out.2.1 H3.out.2 (fun q hq => by obtain rfl := Option.some.inj hq; exact HF.out.1)⟩
   have h1 := H3.out.1
   rw [HT.out.1] at h1
   exact h1
end Go.Proofs.YtgcfkhcogllgfaaGreatDoor
