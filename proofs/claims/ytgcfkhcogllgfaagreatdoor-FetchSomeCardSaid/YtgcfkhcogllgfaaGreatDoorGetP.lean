/-
  The value of a name in a set of pairs: the program's Get and the document's.
  No condition beyond those that each theorem states.

  Does a matcher fit a value: the program's Fits and the document's.
  The matcher is one that may be: kind 1 to 4, at least one value.

  Does a matcher fit a value: the document's Fits.
  The matcher is one that may be: kind 1 to 4, at least one value.

  Do matchers match a set of pairs: the program's Match and the document's.
  Every matcher is one that may be: kind 1 to 4, at least one value.

  A plain text: at most 40 bytes, none of them a sign: the document's.
  No condition beyond those that each theorem states.

  Which matchers may be: the document's Check.
  The texts are no longer than a slice may be.

  Package barographlaw13: short: a matcher's name and its first twelve values, each cut to 42 bytes.
  No condition beyond those that each theorem states.

  Package barographlaw13: Few: at most four matchers that may be, as the program's and as the document's.
  No condition beyond those that each theorem states.

  Rows of pairs as arguments; matchers and arguments kept.
  No condition beyond those that each theorem states.
-/
import Derived.Test.YtgcfkhcogllgfaaGreatDoorPairs
import Derived.Test.YtgcfkhcogllgfaaGreatDoorShelfA
import Derived.Lib.SlicesS
import Derived.Lib.SlBytesConst
import Derived.Test.YtgcfkhcogllgfaaGreatDoorRegion
import Derived.Test.YtgcfkhcogllgfaaGreatDoorLabel1
namespace Go.Proofs.YtgcfkhcogllgfaaGreatDoor
set_option maxRecDepth 100000
set_option maxHeartbeats 1000000
set_option linter.unusedSimpArgs false
open Go Go.RowKit
def getP : List PairB → ByteArray → ByteArray
 | [], _ => ⟨#[]⟩
 | p :: r, x => if p.1 = x then p.2 else getP r x
theorem getP_drop (L : List PairB) (x : ByteArray) (k : Nat) (hk : k < L.length) : getP (L.drop k) x = if L[k].1 = x then L[k].2 else getP (L.drop (k + 1)) x := by
 rw [List.drop_eq_getElem_cons hk]
 rfl
def GetRel (w : World) (L : List PairB) (x : ByteArray) (gk : Nat) (u9 : Value) (wr : World) : Prop := ∃ k, k ≤ L.length ∧ gk = L.length - k ∧ u9 = .int .i64 k ∧ getP (L.drop k) x = getP L x ∧ Keeps [] w wr
theorem getS_spec (w : World) (v : Value) (L : List PairB) (x : ByteArray) (h : SliceArg 2 encPB w v L) :
  Calls Tryz.prog 142 #[v, .string x] w fun e w' => e = .returned (.string (getP L x)) ∧ Keeps [] w w' := by
 have Hf := Lib.hid h
 obtain ⟨ao, cap, rfl, hl, -⟩ := h
 unfold maxLen at hl
 obtain ⟨R, hR⟩ : ∃ R, R = getP L x := ⟨_, rfl⟩
 rw [← hR]
 have HR := Lib.hid hR
 clear hR
 go_enter Tryz.func142, Tryz.ntmps142
 go_wp2_with fail
 go_loopg [9] L.length (GetRel w L x)
 case atStart => exact ⟨0, Nat.zero_le _, rfl, rfl, by rw [List.drop_zero], Keeps.refl _ _⟩
 case round =>
  obtain ⟨k, hk, hgk, rfl, hget, hkw⟩ := hrel
  have Hg := Lib.hid (And.intro hgk hget)
  clear hgk hget
  by_cases hlt : k < L.length
  ·obtain ⟨b, off, cap', ea, hbW, d0, d1⟩ := pair_at (Hf.out.keep hkw) k hlt
   injection ea with ea _ ec
   subst ea ec
   have hlt' : (k : Int) < (L.length : Int) := by omega
   have Hd := Lib.hid (getP_drop L x k hlt)
   obtain ⟨p, hp⟩ : ∃ p, p = L[k] := ⟨_, rfl⟩
   rw [← hp] at d0 d1 Hd
   obtain ⟨p1, p2⟩ := p
   dsimp only at d0 d1 Hd
   have kA : Keeps [] wr (wr.alloc (.cells #[.string p1, .string p2] 91)) := (Keeps.refl [] wr).alloc _
   have Hk := Lib.hid (hkw.trans kA)
   clear hkw hp kA
   by_cases hx : p1 = x
   ·subst hx
    go_wp2_with fail
    go_ret
    refine ⟨?_, Hk.out⟩
    have h1 := Hd.out
    rw [if_pos trivial] at h1
    rw [HR.out, ← Hg.out.2, h1]
    rfl
   ·have hbb : (p1 == x) = false := by rw [ba_beq]; simpa using hx
    have hbb : (p1.toList == x.toList) = false := by rw [toList_beq]; exact decide_eq_false hx
    have Hx := Lib.hid hx
    clear hx
    go_wp2_with fail
    go_roundg (L.length - (k + 1))
    case measure => have := Hg.out.1; omega
    case rel =>
     refine ⟨k + 1, hlt, rfl, by go_num, ?_, Hk.out⟩
     have h1 := Hd.out
     rw [if_neg Hx.out] at h1
     rw [← h1, Hg.out.2]
  ·have hlt' : ¬ (k : Int) < (L.length : Int) := by omega
   have Hk := Lib.hid hkw
   clear hkw
   go_wp2_with fail
   go_ret
   refine ⟨?_, Hk.out⟩
   have h1 := Hg.out.2
   rw [List.drop_of_length_le (by omega)] at h1
   rw [HR.out, ← h1]
   rfl
def encS1 (s : ByteArray) : List Value := [.string s]
def fitsB (k : Int) (V : List ByteArray) (x : ByteArray) : Bool :=
 if k = 2 then !(Lib.containsS V x) else if k = 3 then decide (x ≠ ⟨#[]⟩) && Lib.hasPrefix x.data.toList (V.getD 0 ByteArray.empty).data.toList else Lib.containsS V x
theorem texts_at {w : World} {v : Value} {V : List ByteArray} (h : SliceArg 1 encS1 w v V) (hV : 0 < V.length) : ∃ b off cap, v = .slice (some ⟨b, off, none⟩) V.length cap ∧ b < w.heap.size ∧ ∀ j, j < V.length → w.cell? ⟨b, off + j, none⟩ = some (.string (V.getD j ByteArray.empty)) := by
 obtain ⟨ao, cap, e, hl, h⟩ := h
 obtain ⟨b, off, e2, hb, hc⟩ := h 0 hV
 subst e2
 refine ⟨b, off, cap, e, hb, fun j hj => ?_⟩
 obtain ⟨b', off', e3, -, hc'⟩ := h j hj
 injection e3 with e3
 injection e3 with e4 e5 _
 subst e4 e5
 have := hc' 0 (by decide)
 rw [Nat.mul_one, Nat.add_zero] at this
 rw [this, List.getD_eq_getElem?_getD, List.getElem?_eq_getElem hj]
 rfl
theorem fits_spec (w : World) (k : Int) (hk : k = 1 ∨ k = 2 ∨ k = 3 ∨ k = 4) (name : ByteArray) (v : Value) (V : List ByteArray) (h : SliceArg 1 encS1 w v V) (hV : 0 < V.length) (x : ByteArray) :
  Calls Tryz.prog 141 #[.agg #[.int .i64 k, .string name, v], .string x] w fun e w' => e = .returned (.bool (fitsB k V x)) ∧ Keeps [] w w' := by
 have hml : V.length ≤ 9223372036854775807 := by
  obtain ⟨_, _, _, hl, _⟩ := h
  unfold maxLen at hl
  omega
 obtain ⟨b, off, cap, rfl, hbW, hc⟩ := texts_at h hV
 obtain ⟨R, hR⟩ : ∃ R, R = fitsB k V x := ⟨_, rfl⟩
 rw [← hR]
 have HR := Lib.hid hR
 have kA : Keeps [] w (w.alloc (.cells #[.int .i64 k, .string name, .slice (some ⟨b, off, none⟩) V.length cap] 56)) := (Keeps.refl [] w).alloc _
 have HC := Lib.hid (show ∀ j, j < V.length → (w.alloc (.cells #[.int .i64 k, .string name, .slice (some ⟨b, off, none⟩) V.length cap] 56)).cell? ⟨b, off + j, none⟩ = some (.string (V.getD j ByteArray.empty)) from fun j hj => (kA.cell hbW (by simp)).trans (hc j hj))
 have Hk := Lib.hid kA
 have hv0 : (0 : Int) < (V.length : Int) := by omega
 clear hR hc h kA
 rcases hk with rfl | rfl | rfl | rfl
 all_goals
  go_enter Tryz.func141, Tryz.ntmps141
 ·go_wp2_with fail
  refine (Tryz.slices_Contains_string b off V.length cap V x _ (Nat.le_refl _) hml HC.out).mono ?_
  rintro e w1 ⟨rfl, rfl⟩
  rw [List.take_length]
  go_wp2_with fail
  go_ret
  exact ⟨by rw [HR.out]; rfl, Hk.out⟩
 ·go_wp2_with fail
  refine (Tryz.slices_Contains_string b off V.length cap V x _ (Nat.le_refl _) hml HC.out).mono ?_
  rintro e w1 ⟨rfl, rfl⟩
  rw [List.take_length]
  go_wp2_with fail
  go_ret
  exact ⟨by rw [HR.out]; rfl, Hk.out⟩
 ·have h0 := HC.out 0 hV
  rw [Nat.add_zero] at h0
  have hbA := Hk.out.lt hbW
  by_cases hx : x = ⟨#[]⟩
  ·subst hx
   go_wp2_with fail
   go_ret
   exact ⟨by rw [HR.out]; simp [fitsB], Hk.out⟩
  ·have hbb : (x.toList == (⟨#[]⟩ : ByteArray).toList) = false := by rw [toList_beq]; exact decide_eq_false hx
   have Hx := Lib.hid hx
   clear hx
   have hne : ¬ x.data.toList = [] := fun e => Hx.out (ba_ext e)
   have hn1 : (x.toList == []) = false := by rw [ByteArray.toList_eq]; simpa using hne
   have hn2 : (x.toList != []) = true := by rw [bne, hn1]; rfl
   have hn3 : ¬ x.toList = [] := by rw [ByteArray.toList_eq]; exact hne
   go_wp2_with fail
   refine (Tryz.strings_HasPrefix x V[0] _).mono ?_
   rintro e w1 ⟨rfl, rfl⟩
   go_wp2_with fail
   go_ret
   refine ⟨?_, Hk.out⟩
   rw [HR.out]
   have hg : V.getD 0 ByteArray.empty = V[0] := by rw [List.getD_eq_getElem?_getD, List.getElem?_eq_getElem hV]; rfl
   show Ending.returned (.bool (Lib.hasPrefix x.data.toList V[0].data.toList)) = _
   unfold fitsB
   rw [if_neg (by decide), if_pos rfl, hg, decide_eq_true Hx.out, Bool.true_and]
 ·go_wp2_with fail
  refine (Tryz.slices_Contains_string b off V.length cap V x _ (Nat.le_refl _) hml HC.out).mono ?_
  rintro e w1 ⟨rfl, rfl⟩
  rw [List.take_length]
  go_wp2_with fail
  go_ret
  exact ⟨by rw [HR.out]; rfl, Hk.out⟩
abbrev MatB := Int × ByteArray × List ByteArray
abbrev MatV := Int × ByteArray × Value
def encMV (m : MatV) : List Value := [.int .i64 m.1, .string m.2.1, m.2.2]
def MatsAt (w : World) (v : Value) (L : List MatB) : Prop :=
 ∃ E : List MatV, SliceArg 3 encMV w v E ∧ E.length = L.length ∧ ∀ i (h : i < E.length) (h' : i < L.length), E[i].1 = L[i].1 ∧ E[i].2.1 = L[i].2.1 ∧ SliceArg 1 encS1 w E[i].2.2 L[i].2.2
theorem MatsAt.keep {w w' : World} {v : Value} {L : List MatB} (h : MatsAt w v L) (k : Keeps [] w w') : MatsAt w' v L := by
 obtain ⟨E, h1, h2, h3⟩ := h
 exact ⟨E, h1.keep k, h2, fun i hi hi' => ⟨(h3 i hi hi').1, (h3 i hi hi').2.1, (h3 i hi hi').2.2.keep k⟩⟩
theorem MatsAt.form {w : World} {v : Value} {L : List MatB} (h : MatsAt w v L) : ∃ ao cap, v = .slice ao L.length cap ∧ L.length ≤ maxLen := by
 obtain ⟨E, ⟨ao, cap, e, hl, -⟩, h2, -⟩ := h
 exact ⟨ao, cap, by rw [e, h2], by omega⟩
theorem MatsAt.at_ {w : World} {v : Value} {L : List MatB} (h : MatsAt w v L) (k : Nat) (hk : k < L.length) : ∃ b off cap u, v = .slice (some ⟨b, off, none⟩) L.length cap ∧ b < w.heap.size ∧
  w.cell? ⟨b, off + k * 3, none⟩ = some (.int .i64 L[k].1) ∧ w.cell? ⟨b, off + k * 3 + 1, none⟩ = some (.string L[k].2.1) ∧ w.cell? ⟨b, off + k * 3 + 2, none⟩ = some u ∧ SliceArg 1 encS1 w u L[k].2.2 := by
 obtain ⟨E, ⟨ao, cap, e, hl, hc⟩, h2, h3⟩ := h
 have hk' : k < E.length := by omega
 obtain ⟨b, off, e2, hb, hcell⟩ := hc k hk'
 obtain ⟨x1, x2, x3⟩ := h3 k hk' hk
 subst e2
 refine ⟨b, off, cap, E[k].2.2, by rw [e, h2], hb, ?_, ?_, ?_, x3⟩
 ·rw [← x1]; exact hcell 0 (by decide)
 ·rw [← x2]; have := hcell 1 (by decide); rw [← Nat.add_assoc] at this; exact this
 ·have := hcell 2 (by decide); rw [← Nat.add_assoc] at this; exact this
def mayK (m : MatB) : Prop := (m.1 = 1 ∨ m.1 = 2 ∨ m.1 = 3 ∨ m.1 = 4) ∧ 0 < m.2.2.length
def fitsM (S : List PairB) (m : MatB) : Bool := fitsB m.1 m.2.2 (getP S m.2.1)
def MatchRel (w : World) (S : List PairB) (L : List MatB) (gk : Nat) (u9 : Value) (wr : World) : Prop := ∃ k, k ≤ L.length ∧ gk = L.length - k ∧ u9 = .int .i64 k ∧ (L.take k).all (fitsM S) = true ∧ Keeps [] w wr
theorem match_spec (w : World) (vs vm : Value) (S : List PairB) (L : List MatB) (hS : SliceArg 2 encPB w vs S) (hm : MatsAt w vm L) (hmay : ∀ m ∈ L, mayK m) :
  Calls Tryz.prog 117 #[vs, vm] w fun e w' => e = .returned (.bool (L.all (fitsM S))) ∧ Keeps [] w w' := by
 have Hf := Lib.hid (And.intro hS hm)
 obtain ⟨ao, cap, rfl, hl⟩ := hm.form
 unfold maxLen at hl
 clear hS hm
 obtain ⟨R, hR⟩ : ∃ R, R = L.all (fitsM S) := ⟨_, rfl⟩
 rw [← hR]
 have HR := Lib.hid hR
 clear hR
 go_enter Tryz.func117, Tryz.ntmps117
 go_wp2_with fail
 go_loopg [9] L.length (MatchRel w S L)
 case atStart => exact ⟨0, Nat.zero_le _, rfl, rfl, rfl, Keeps.refl _ _⟩
 case round =>
  obtain ⟨k, hk, hgk, rfl, hall, hkw⟩ := hrel
  have Hg := Lib.hid (And.intro hgk hall)
  clear hgk hall
  by_cases hlt : k < L.length
  ·obtain ⟨b, off, cap', u, ea, hbW, d0, d1, d2, hu⟩ := (Hf.out.2.keep hkw).at_ k hlt
   injection ea with ea _ ec
   subst ea ec
   have hlt' : (k : Int) < (L.length : Int) := by omega
   have hmk := hmay L[k] (List.getElem_mem hlt)
   obtain ⟨m, hmm⟩ : ∃ m, m = L[k] := ⟨_, rfl⟩
   rw [← hmm] at d0 d1 hu hmk
   have Hm := Lib.hid hmm
   obtain ⟨mk, mn, mv⟩ := m
   dsimp only at d0 d1 hu hmk
   obtain ⟨W0, hW0⟩ : ∃ W0, W0 = (wr.alloc (.cells #[.int .i64 mk, .string mn, u] 56)).drew := ⟨_, rfl⟩
   have kW : Keeps [] wr W0 := by rw [hW0]; exact ((Keeps.refl [] wr).alloc _).drew
   have hp : W0.heap[wr.heap.size]? = some (.cells #[.int .i64 mk, .string mn, u] 56 (0, 0)) := by rw [hW0]; exact heap_new wr (.cells #[.int .i64 mk, .string mn, u] 56)
   have Hu := Lib.hid (And.intro (hu.keep kW) (And.intro hmk (And.intro (hkw.trans kW) ((Hf.out.1.keep hkw).keep kW))))
   obtain ⟨ua, uc, rfl, -, -⟩ := hu
   have D0 : ∀ s : Kept W0, s.val.cell? ⟨wr.heap.size, 0, none⟩ = some (.int .i64 mk) := keptCell (cells_at hp 0)
   have D1 : ∀ s : Kept W0, s.val.cell? ⟨wr.heap.size, 1, none⟩ = some (.string mn) := keptCell (cells_at hp 1)
   have D2 : ∀ s : Kept W0, s.val.cell? ⟨wr.heap.size, 2, none⟩ = some (.slice ua mv.length uc) := keptCell (cells_at hp 2)
   have HW := Lib.hid hW0
   clear hkw kW hp hW0 hmm hmk
   go_upto_region 4 with fail
   refine wp_region_held_drew (S := KeptS W0) (by kernel_rfl) (by rw [← HW.out]; exact keptS (Keeps.refl _ _)) (fun hS => ?_)
   rw [← HW.out] at hS ⊢
   generalize wr.heap.size = pk at D0 D1 D2 ⊢
   clear d0 d1 d2 HW
   refine tk (v := ?_) 0 rfl ?_ ?_; rotate_left
   ·rintro _ ⟨s, rfl⟩; go_simp; (try with_reducible rfl)
   simp only [Act.put, zz]
   refine tk (v := ?_) 1 rfl ?_ ?_; rotate_left
   ·rintro _ ⟨s, rfl⟩; go_simp; (try with_reducible rfl)
   simp only [Act.put, zz]
   refine tk (v := ?_) 2 rfl ?_ ?_; rotate_left
   ·rintro _ ⟨s, rfl⟩; go_simp; (try with_reducible rfl)
   simp only [Act.put, zz]
   refine tk (v := ?_) 3 rfl ?_ ?_; rotate_left
   ·rintro _ ⟨s, rfl⟩; go_simp; (try with_reducible rfl)
   simp only [Act.put, zz]
   refine rd 4 rfl fun K hK => ?_
   go_simp
   go_at_call 142
   refine (getS_spec W0 _ S mn Hu.out.2.2.2).mono ?_
   rintro e A1 ⟨rfl, kA1⟩
   go_simp
   refine hK.out _ _ (keptS kA1) (fun hS => ?_)
   clear hK K
   try simp only [Act.put, zz]
   refine rd 5 rfl fun K hK => ?_
   go_simp
   go_at_call 141
   refine (fits_spec A1 mk Hu.out.2.1.1 mn _ mv (Hu.out.1.keep kA1) Hu.out.2.1.2 (getP S mn)).mono ?_
   rintro e A2 ⟨rfl, kA2⟩
   have kA12 := kA1.trans kA2
   have Hk := Lib.hid (Hu.out.2.2.1.trans kA12)
   go_simp
   refine hK.out _ _ (keptS kA12) (fun hS => ?_)
   clear hK K
   try simp only [Act.put, zz]
   refine tk (v := ?_) 6 rfl ?_ ?_; rotate_left
   ·rintro _ ⟨s, rfl⟩; go_simp; (try with_reducible rfl)
   simp only [Act.put, zz]
   refine wpAnyH_done (by kernel_rfl) ?_ _
   have Hfit := Lib.hid (show fitsB mk mv (getP S mn) = fitsM S L[k] from by rw [← Hm.out]; rfl)
   have Hsp := Lib.hid (show (L.take (k + 1)).all (fitsM S) = ((L.take k).all (fitsM S) && fitsM S L[k]) from by rw [List.take_add_one, List.getElem?_eq_getElem hlt, Option.toList_some, List.all_append]; simp)
   have Hall := Lib.hid (show fitsM S L[k] = false → L.all (fitsM S) = false from fun h => by
    rw [List.all_eq_false]
    exact ⟨L[k], List.getElem_mem hlt, by rw [h]; decide⟩)
   generalize fitsB mk mv (getP S mn) = ft at Hfit ⊢
   clear kA1 kA2 kA12 hS D0 D1 D2
   cases ft with
   | false =>
    go_wp2_with fail
    go_ret
    exact ⟨by rw [HR.out, Hall.out Hfit.out.symm]; rfl, Hk.out⟩
   | true =>
    go_wp2_with fail
    go_roundg (L.length - (k + 1))
    case measure => have := Hg.out.1; omega
    case rel => exact ⟨k + 1, hlt, rfl, by go_num, by rw [Hsp.out, Hg.out.2, ← Hfit.out]; rfl, Hk.out⟩
  ·have hjn := Lib.hid (show k = L.length from by omega)
   have hlt' : ¬ (k : Int) < (L.length : Int) := by omega
   have Hk := Lib.hid hkw
   clear hkw
   go_wp2_with fail
   go_ret
   refine ⟨?_, Hk.out⟩
   have h1 := Hg.out.2
   rw [hjn.out, List.take_length] at h1
   rw [HR.out, h1]
   rfl
def signsL : List UInt8 := [61, 33, 94, 64, 44, 124]
def plainB (s : ByteArray) : Bool := s.data.toList.all (fun b => !(signsL.contains b)) && decide (s.size ≤ 40)
def PlainRel (w : World) (s : ByteArray) (gk : Nat) (u3 : Value) (wr : World) : Prop := ∃ i, i ≤ s.size ∧ gk = s.size - i ∧ u3 = .int .i64 i ∧ (s.data.toList.take i).all (fun b => !(signsL.contains b)) = true ∧ Keeps [] w wr
def PlainIn (W : World) (x : UInt8) (gk : Nat) (u15 : Value) (wr : World) : Prop := ∃ j, j ≤ 6 ∧ gk = 6 - j ∧ u15 = .int .i64 j ∧ (signsL.take j).contains x = false ∧ wr = W
theorem plain_in (x : UInt8) (j : Nat) (hj : j < signsL.length) : (signsL.take (j + 1)).contains x = ((signsL.take j).contains x || decide (x = signsL[j])) := by
 rw [List.take_add_one, List.getElem?_eq_getElem hj, Option.toList_some]
 rw [List.contains_append]
 simp
theorem plain_spec (w : World) (s : ByteArray) (hs : s.size ≤ maxLen) :
  Calls Tryz.prog 36 #[.string s] w fun e w' => e = .returned (.bool (plainB s)) ∧ Keeps [] w w' := by
 unfold maxLen at hs
 obtain ⟨R, hR⟩ : ∃ R, R = plainB s := ⟨_, rfl⟩
 rw [← hR]
 have HR := Lib.hid hR
 clear hR
 go_enter Tryz.func36, Tryz.ntmps36
 go_wp2_with fail
 go_loopg [3] s.size (PlainRel w s)
 case atStart => exact ⟨0, Nat.zero_le _, rfl, rfl, rfl, Keeps.refl _ _⟩
 case round =>
  obtain ⟨i, hi, hgk, rfl, hall, hkw⟩ := hrel
  have Hg := Lib.hid (And.intro hgk hall)
  clear hgk hall
  by_cases hlt : i < s.size
  ·have hlt' : (i : Int) < (s.size : Int) := by omega
   have kA : Keeps [] wr (wr.alloc (.cells #[.int .u8 61, .int .u8 33, .int .u8 94, .int .u8 64, .int .u8 44, .int .u8 124] 5 (6, 7))) := (Keeps.refl [] wr).alloc _
   have Hk := Lib.hid (And.intro (heap_new wr (.cells #[.int .u8 61, .int .u8 33, .int .u8 94, .int .u8 64, .int .u8 44, .int .u8 124] 5 (6, 7))) (hkw.trans kA))
   have hcv := Lib.run_convert_bytes_const (P := Tryz.prog) wr 147 5 #[.int .u8 61, .int .u8 33, .int .u8 94, .int .u8 64, .int .u8 44, .int .u8 124] 6 6 Tryz.underlying147 Tryz.underlying5
   rw [show (#[.int .u8 61, .int .u8 33, .int .u8 94, .int .u8 64, .int .u8 44, .int .u8 124] : Array Value).size = 6 from rfl] at hcv
   clear hkw kA
   go_wp2_with fail
   clear hcv
   generalize wr.heap.size = pk at Hk ⊢
   generalize wr.alloc (.cells #[.int .u8 61, .int .u8 33, .int .u8 94, .int .u8 64, .int .u8 44, .int .u8 124] 5 (6, 7)) = W at Hk ⊢
   obtain ⟨x, hx⟩ : ∃ x, x = s[i] := ⟨_, rfl⟩
   have Hx := Lib.hid hx
   clear hx
   go_loopg [15] 6 (PlainIn W x)
   case atStart => exact ⟨0, by decide, rfl, rfl, by simp, rfl⟩
   case round =>
    obtain ⟨j, hj, hgj, rfl, hin, hw⟩ := hrel
    subst hw
    have Hj := Lib.hid (And.intro hgj hin)
    clear hgj hin
    by_cases hlj : j < 6
    ·have hlj' : (j : Int) < 6 := by omega
     have hjs : j < signsL.length := by show j < 6; exact hlj
     have hpx := lt_of_at Hk.out.1
     have d0 : wr.cell? ⟨pk, j, none⟩ = some (.int .u8 (signsL[j].toNat : Int)) := by
      rw [cells_at Hk.out.1]
      match j, hjs with
      | 0, _ => rfl
      | 1, _ => rfl
      | 2, _ => rfl
      | 3, _ => rfl
      | 4, _ => rfl
      | 5, _ => rfl
      | n + 6, h => exact absurd h (by show ¬ n + 6 < 6; omega)
     have Hp := Lib.hid (plain_in x j hjs)
     generalize signsL[j] = y at d0 Hp
     by_cases hxy : x = y
     ·have he : (s[i].toNat : Int) = (y.toNat : Int) := by rw [← Hx.out, hxy]
      have Hxy := Lib.hid hxy
      clear hxy
      go_wp2_with fail
      go_ret
      refine ⟨?_, Hk.out.2⟩
      rw [HR.out]
      have hc : signsL.contains x = true := by
       have := Hp.out
       rw [decide_eq_true Hxy.out, Bool.or_true, List.contains_iff_mem] at this
       rw [List.contains_iff_mem]
       exact List.mem_of_mem_take this
      have : plainB s = false := by
       unfold plainB
       rw [Bool.and_eq_false_iff]
       left
       rw [List.all_eq_false]
       refine ⟨x, ?_, by rw [hc]; decide⟩
       rw [Hx.out]
       exact List.getElem_mem (l := s.data.toList) (by simpa using hlt)
      rw [this]
      rfl
     ·have he : ¬ (s[i].toNat : Int) = (y.toNat : Int) := fun e => hxy (by rw [Hx.out]; exact UInt8.toNat_inj.1 (by omega))
      have Hxy := Lib.hid hxy
      clear hxy
      go_wp2_with fail
      go_roundg (6 - (j + 1))
      case measure => have := Hj.out.1; omega
      case rel => exact ⟨j + 1, by omega, rfl, by go_num, by rw [Hp.out, Hj.out.2, Bool.false_or]; exact decide_eq_false Hxy.out, rfl⟩
    ·have hj6 := Lib.hid (show j = 6 from by omega)
     have hlj' : ¬ (j : Int) < 6 := by omega
     go_wp2_with fail
     go_roundg (s.size - (i + 1))
     case measure => have := Hg.out.1; omega
     case rel =>
      refine ⟨i + 1, hlt, rfl, by go_num, ?_, Hk.out.2⟩
      have hl : i < s.data.toList.length := by simpa using hlt
      have hc := Hj.out.2
      rw [hj6.out, show signsL.take 6 = signsL from rfl] at hc
      rw [List.take_add_one, List.getElem?_eq_getElem hl, Option.toList_some, List.all_append, Hg.out.2, Bool.true_and, show s.data.toList[i] = x from by rw [Hx.out]; rfl]
      simpa using hc
  ·have hin := Lib.hid (show i = s.size from by omega)
   have hlt' : ¬ (i : Int) < (s.size : Int) := by omega
   have Hk := Lib.hid hkw
   clear hkw
   go_wp2_with fail
   go_ret
   refine ⟨?_, Hk.out⟩
   have h1 := Hg.out.2
   rw [hin.out, List.take_of_length_le (by simp)] at h1
   rw [HR.out]
   unfold plainB
   rw [h1, Bool.true_and]
   first | rfl | (simp; done) | (congr 2; simp; omega)
def valB (k : Int) (v : ByteArray) : Bool := plainB v && !(decide (k = 3) && decide (v = ⟨#[]⟩))
def headB (k : Int) (n : ByteArray) (l : Nat) : Bool := decide (1 ≤ k) && decide (k ≤ 4) && decide (n ≠ ⟨#[]⟩) && plainB n && decide (l ≠ 0) && decide (l ≤ 10) && !(decide (k < 4) && decide (1 < l))
def chkB (m : MatB) : Bool := headB m.1 m.2.1 m.2.2.length && m.2.2.all (valB m.1)
theorem chkB_may {m : MatB} (h : chkB m = true) : mayK m := by
 unfold chkB headB at h
 simp only [Bool.and_eq_true, decide_eq_true_eq] at h
 obtain ⟨⟨⟨⟨⟨⟨⟨h1, h2⟩, -⟩, -⟩, h5⟩, -⟩, -⟩, -⟩ := h
 exact ⟨by omega, by omega⟩
def ChkVRel (w : World) (k : Int) (V : List ByteArray) (gk : Nat) (u50 : Value) (wr : World) : Prop := ∃ j, j ≤ V.length ∧ gk = V.length - j ∧ u50 = .int .i64 j ∧ (V.take j).all (valB k) = true ∧ Keeps [] w wr
theorem not_empty {x : ByteArray} (h : ¬ x = ⟨#[]⟩) : (x.toList == []) = false ∧ (x.toList != []) = true ∧ ¬ x.toList = [] := by
 have hne : ¬ x.data.toList = [] := fun e => h (ba_ext e)
 have hn1 : (x.toList == []) = false := by rw [ByteArray.toList_eq]; simpa using hne
 exact ⟨hn1, by rw [bne, hn1]; rfl, by rw [ByteArray.toList_eq]; exact hne⟩
theorem chkR_spec (w : World) (k : Int) (n : ByteArray) (v : Value) (V : List ByteArray) (h : SliceArg 1 encS1 w v V) (hn : n.size ≤ maxLen) (hVs : ∀ x ∈ V, x.size ≤ maxLen) :
  Calls Tryz.prog 18 #[.agg #[.int .i64 k, .string n, v]] w fun e w' => e = .returned (.bool (chkB (k, n, V))) ∧ Keeps [] w w' := by
 have hf := h
 obtain ⟨ao, cap, rfl, hl, -⟩ := h
 unfold maxLen at hl
 obtain ⟨R, hR⟩ : ∃ R, R = chkB (k, n, V) := ⟨_, rfl⟩
 rw [← hR]
 have HR := Lib.hid (show R = (headB k n V.length && V.all (valB k)) from hR)
 clear hR
 have kA : Keeps [] w (w.alloc (.cells #[.int .i64 k, .string n, .slice ao V.length cap] 54)) := (Keeps.refl [] w).alloc _
 have H0 := Lib.hid (And.intro (heap_new w (.cells #[.int .i64 k, .string n, .slice ao V.length cap] 54)) (And.intro (hf.keep kA) kA))
 clear hf kA
 go_enter Tryz.func18, Tryz.ntmps18
 by_cases k1 : k < 1
 ·go_wp2_with fail
  go_ret
  exact ⟨by rw [HR.out]; unfold headB; rw [decide_eq_false (show ¬ 1 ≤ k from by omega)]; simp, H0.out.2.2⟩
 by_cases k4 : 4 < k
 ·go_wp2_with fail
  go_ret
  exact ⟨by rw [HR.out]; unfold headB; rw [decide_eq_false (show ¬ k ≤ 4 from by omega)]; simp, H0.out.2.2⟩
 by_cases hne : n = ⟨#[]⟩
 ·subst hne
  go_wp2_with fail
  go_ret
  exact ⟨by rw [HR.out]; unfold headB; simp, H0.out.2.2⟩
 have HN := Lib.hid hne
 obtain ⟨q1, q2, q3⟩ := not_empty hne
 clear hne
 go_wp2_with fail
 refine (plain_spec _ n hn).mono ?_
 rintro e w1 ⟨rfl, hk1⟩
 have H1 := Lib.hid (And.intro (hk1.at_ H0.out.1 (by simp)) (And.intro (H0.out.2.1.keep hk1) (H0.out.2.2.trans hk1)))
 clear hk1 H0
 generalize w.heap.size = pk at H1 ⊢
 have c0 : w1.cell? ⟨pk, 0, none⟩ = some (.int .i64 k) := cells_at H1.out.1 0
 have c2 : w1.cell? ⟨pk, 2, none⟩ = some (.slice ao V.length cap) := cells_at H1.out.1 2
 cases hpn : plainB n with
 | false =>
  go_wp2_with fail
  go_ret
  exact ⟨by rw [HR.out]; unfold headB; rw [hpn]; simp, H1.out.2.2⟩
 | true =>
  have Hpn := Lib.hid hpn
  clear hpn
  by_cases l0 : (V.length : Int) = 0
  ·have hl0 : ((V.length : Int) == 0) = true := by rw [beq_iff_eq]; exact l0
   have L0 := Lib.hid l0
   clear l0
   go_wp2_with fail
   all_goals try (exfalso; have := L0.out; omega)
   go_ret
   exact ⟨by rw [HR.out]; unfold headB; rw [decide_eq_false (show ¬ V.length ≠ 0 from by have := L0.out; omega)]; simp, H1.out.2.2⟩
  have hl0 : ((V.length : Int) == 0) = false := by rw [beq_eq_false_iff_ne]; exact l0
  by_cases l10 : (10 : Int) < (V.length : Int)
  ·go_wp2_with fail
   go_ret
   exact ⟨by rw [HR.out]; unfold headB; rw [decide_eq_false (show ¬ V.length ≤ 10 from by omega)]; simp, H1.out.2.2⟩
  by_cases k41 : k < 4 ∧ 1 < V.length
  ·obtain ⟨y1, y2⟩ := k41
   have y3 : (1 : Int) < (V.length : Int) := by omega
   go_wp2_with fail
   go_ret
   exact ⟨by rw [HR.out]; unfold headB; rw [decide_eq_true y1, decide_eq_true y2]; simp, H1.out.2.2⟩
  have Hh := Lib.hid (show headB k n V.length = true from by
   unfold headB
   rw [Hpn.out]
   simp only [Bool.and_eq_true, decide_eq_true_eq, Bool.not_eq_true', Bool.and_eq_false_iff, decide_eq_false_iff_not]
   refine ⟨⟨⟨⟨⟨⟨by omega, by omega⟩, HN.out⟩, trivial⟩, by omega⟩, by omega⟩, ?_⟩
   by_cases y1 : k < 4
   ·right
    intro y2
    exact k41 ⟨y1, y2⟩
   ·left
    exact y1)
  have HR2 := Lib.hid (show R = V.all (valB k) from by rw [HR.out, Hh.out, Bool.true_and])
  clear HR
  have hk4 : ¬ k < 4 ∨ (k < 4 ∧ ¬ (1 : Int) < (V.length : Int)) := by
   by_cases y1 : k < 4
   ·right
    exact ⟨y1, fun y2 => k41 ⟨y1, by omega⟩⟩
   ·exact .inl y1
  clear k41
  have hV0 : 0 < V.length := by omega
  rcases hk4 with y1 | ⟨y1, y2⟩
  all_goals
   go_wp2_with fail
   clear q1 q2 q3 c2 hl0 c0
   go_loopg [50] V.length (ChkVRel w1 k V)
   case atStart => exact ⟨0, Nat.zero_le _, rfl, rfl, rfl, Keeps.refl _ _⟩
   case round =>
    obtain ⟨j, hj, hgk, rfl, hall, hkw⟩ := hrel
    have Hg := Lib.hid (And.intro hgk hall)
    clear hgk hall
    by_cases hlt : j < V.length
    ·have hlt' : (j : Int) < (V.length : Int) := by omega
     obtain ⟨b, off, cap', ea, hbW, hcell⟩ := texts_at (H1.out.2.1.keep hkw) hV0
     injection ea with ea _ ec
     subst ea ec
     have d0 := hcell j hlt
     rw [List.getD_eq_getElem?_getD, List.getElem?_eq_getElem hlt, Option.getD_some] at d0
     have hys := hVs V[j] (List.getElem_mem hlt)
     have Hsp := Lib.hid (show (V.take (j + 1)).all (valB k) = ((V.take j).all (valB k) && valB k V[j]) from by rw [List.take_add_one, List.getElem?_eq_getElem hlt, Option.toList_some, List.all_append]; simp)
     have Hno := Lib.hid (show valB k V[j] = false → V.all (valB k) = false from fun h => by
      rw [List.all_eq_false]
      exact ⟨V[j], List.getElem_mem hlt, by rw [h]; decide⟩)
     have Hk := Lib.hid (And.intro (hkw.at_ H1.out.1 (by simp)) hkw)
     clear hkw hcell
     generalize V[j] = y at d0 hys Hsp Hno
     go_wp2_with fail
     refine (plain_spec _ y hys).mono ?_
     rintro e w2 ⟨rfl, hk2⟩
     have H2 := Lib.hid (go1 hk2 Hk.out)
     clear hk2 Hk d0
     have c0 : w2.cell? ⟨pk, 0, none⟩ = some (.int .i64 k) := cells_at H2.out.1 0
     cases hpy : plainB y with
     | false =>
      go_wp2_with fail
      go_ret
      exact ⟨by rw [HR2.out, Hno.out (by unfold valB; rw [hpy]; rfl)]; rfl, H1.out.2.2.trans H2.out.2⟩
     | true =>
      have Hpy := Lib.hid hpy
      clear hpy
      by_cases k3 : k = 3
      ·first
        | (exfalso; omega)
        | (have hk3b : (k == 3) = true := by rw [beq_iff_eq]; exact k3
           by_cases hy : y = ⟨#[]⟩
           ·have Hk3 := Lib.hid k3
            subst hy
            clear k3
            go_wp2_with fail
            all_goals try (exfalso; have := Hk3.out; omega)
            go_ret
            exact ⟨by rw [HR2.out, Hno.out (by unfold valB; rw [Hpy.out, decide_eq_true Hk3.out]; simp)]; rfl, H1.out.2.2.trans H2.out.2⟩
           ·obtain ⟨z1, z2, z3⟩ := not_empty hy
            have Hy := Lib.hid hy
            have Hk3 := Lib.hid k3
            clear hy k3
            go_wp2_with fail
            all_goals try (exfalso; have := Hk3.out; omega)
            go_roundg (V.length - (j + 1))
            case measure => have := Hg.out.1; omega
            case rel => exact ⟨j + 1, by omega, rfl, by go_num, by rw [Hsp.out, Hg.out.2]; unfold valB; rw [Hpy.out, decide_eq_false Hy.out]; simp, H2.out.2⟩)
      ·have hk3b : (k == 3) = false := by rw [beq_eq_false_iff_ne]; exact k3
       have Hk3 := Lib.hid k3
       clear k3
       go_wp2_with fail
       all_goals try (exfalso; have := Hk3.out; omega)
       go_roundg (V.length - (j + 1))
       case measure => have := Hg.out.1; omega
       case rel => exact ⟨j + 1, by omega, rfl, by go_num, by rw [Hsp.out, Hg.out.2]; unfold valB; rw [Hpy.out, decide_eq_false Hk3.out]; simp, H2.out.2⟩
    ·have hjn := Lib.hid (show j = V.length from by omega)
     have hlt' : ¬ (j : Int) < (V.length : Int) := by omega
     have Hk := Lib.hid hkw
     clear hkw
     go_wp2_with fail
     go_ret
     refine ⟨?_, H1.out.2.2.trans Hk.out⟩
     have h1 := Hg.out.2
     rw [hjn.out, List.take_length] at h1
     rw [HR2.out, h1]
     rfl
theorem infoStr : (Tryz.prog.info? 9).map (fun i => (i.zero, i.size, i.bytes)) = some (some (.string ⟨#[]⟩), 1, 16) := by kernel_rfl
def shortV (V : List ByteArray) : List ByteArray := (V.take 12).map fun v => cut v 42
theorem short_end {B : Nat} {wr : World} {V : List ByteArray} {j : Nat} {v : Value} (hj : j = min V.length 12) (h : wr.ownsRow B 9 1 v j (((V.take j).map fun v => cut v 42).map Value.string)) : wr.ownsRow B 9 1 v (shortV V).length ((shortV V).map Value.string) := by
 have e : shortV V = (V.take j).map fun v => cut v 42 := by
  unfold shortV
  congr 1
  subst hj
  by_cases h12 : V.length ≤ 12
  ·rw [List.take_of_length_le h12, List.take_of_length_le (by omega)]
  ·rw [show min V.length 12 = 12 from by omega]
 have el : (shortV V).length = j := by rw [e, List.length_map, List.length_take]; omega
 rw [el, e]
 exact h
def ShortRel (b : Nat) (w : World) (p1 p2 p3 : Nat) (o1 o2 : Obj) (k : Int) (n : ByteArray) (V : List ByteArray) (gk : Nat) (u4 : Value) (wr : World) : Prop :=
 ∃ j va, j ≤ V.length ∧ j ≤ 12 ∧ gk = 12 - j ∧ u4 = .int .i64 j ∧ wr.heap[p1]? = some o1 ∧ wr.heap[p2]? = some o2 ∧ wr.heap[p3]? = some (.cells #[.int .i64 k, .string n, va] 54 (0, 0)) ∧ wr.ownsRow b 9 1 va j (((V.take j).map fun v => cut v 42).map Value.string) ∧ Keeps [] w wr
theorem short_spec (w : World) (k : Int) (n : ByteArray) (v : Value) (V : List ByteArray) (h : SliceArg 1 encS1 w v V) :
  Calls Tryz.prog 17 #[.agg #[.int .i64 k, .string n, v]] w fun e w' => ∃ v', e = .returned (.agg #[.int .i64 k, .string (cut n 42), v']) ∧ w'.ownsRow w.heap.size 9 1 v' (shortV V).length ((shortV V).map Value.string) ∧ Keeps [] w w' := by
 obtain ⟨ip, hip, hz0, hz1, hz2⟩ := info_parts infoStr
 have hf := h
 have Hf := Lib.hid h
 obtain ⟨ao, cap, rfl, hl, -⟩ := h
 unfold maxLen at hl
 obtain ⟨o1, ho1⟩ : ∃ o, o = Obj.cells #[.int .i64 k, .string n, .slice ao V.length cap] 56 (0, 0) := ⟨_, rfl⟩
 obtain ⟨o2, ho2⟩ : ∃ o, o = Obj.cells #[.int .i64 0, .string ⟨#[]⟩, .slice none 0 0] 54 (0, 0) := ⟨_, rfl⟩
 obtain ⟨A0, hA0⟩ : ∃ A0, A0 = ((w.alloc o1).alloc o2).drew := ⟨_, rfl⟩
 have kw : Keeps [] w A0 := by rw [hA0]; exact (((Keeps.refl [] w).alloc _).alloc _).drew
 have n12 := new2 w o1 o2
 have n1 : A0.heap[w.heap.size]? = some o1 := by rw [hA0]; exact n12.1
 have n2 : A0.heap[w.heap.size + 1]? = some o2 := by rw [hA0]; exact n12.2
 have H0 := Lib.hid (And.intro n1 (And.intro n2 (And.intro (hf.keep kw) kw)))
 have HW := Lib.hid (show A0 = ((w.alloc (.cells #[.int .i64 k, .string n, .slice ao V.length cap] 56)).alloc (.cells #[.int .i64 0, .string ⟨#[]⟩, .slice none 0 0] 54)).drew from by rw [hA0, ho1, ho2])
 have D0 : ∀ s : Kept A0, s.val.cell? ⟨w.heap.size, 0, none⟩ = some (.int .i64 k) := keptCell (by rw [cells_at (ho1 ▸ n1)]; rfl)
 have D1 : ∀ s : Kept A0, s.val.cell? ⟨w.heap.size, 1, none⟩ = some (.string n) := keptCell (by rw [cells_at (ho1 ▸ n1)]; rfl)
 have Ho := Lib.hid (And.intro ho1 ho2)
 clear hf kw n12 n1 n2 hA0 ho1 ho2
 go_enter Tryz.func17, Tryz.ntmps17
 go_upto_region 1 with fail
 refine wp_region_held_drew (S := KeptS A0) (by kernel_rfl) (by rw [← HW.out]; exact keptS (Keeps.refl _ _)) (fun hS => ?_)
 rw [← HW.out] at hS ⊢
 clear HW
 have kA0 : Keeps [] A0 A0 := Keeps.refl _ _
 refine tk (v := ?_) 0 rfl ?_ ?_; rotate_left
 ·rintro _ ⟨s, rfl⟩; go_simp; (try with_reducible rfl)
 simp only [Act.put, zz]
 refine tk (v := ?_) 1 rfl ?_ ?_; rotate_left
 ·rintro _ ⟨s, rfl⟩; go_simp; (try with_reducible rfl)
 simp only [Act.put, zz]
 refine tk (v := ?_) 2 rfl ?_ ?_; rotate_left
 ·rintro _ ⟨s, rfl⟩; go_simp; (try with_reducible rfl)
 simp only [Act.put, zz]
 refine tk (v := ?_) 3 rfl ?_ ?_; rotate_left
 ·rintro _ ⟨s, rfl⟩; go_simp; (try with_reducible rfl)
 simp only [Act.put, zz]
 have kA1 : Keeps [] A0 (A0.alloc (.cells #[.int .i64 0, .string ⟨#[]⟩, .slice none 0 0] 54)) := (Keeps.refl [] A0).alloc _
 have HP := Lib.hid (show w.heap.size ≤ A0.heap.size ∧ w.heap.size ≠ A0.heap.size ∧ w.heap.size + 1 ≠ A0.heap.size from by
  have := lt_of_at H0.out.1
  have := lt_of_at H0.out.2.1
  omega)
 have kA2 : Keeps [] A0 (A0.alloc (.cells #[.int .i64 k, .string (cut n 42), .slice none 0 0] 54)) := (Keeps.refl [] A0).alloc _
 have H1 := Lib.hid (And.intro (heap_new A0 (.cells #[.int .i64 k, .string (cut n 42), .slice none 0 0] 54)) (And.intro (kA2.at_ H0.out.1 (by simp)) (And.intro (kA2.at_ H0.out.2.1 (by simp)) (And.intro (H0.out.2.2.1.keep kA2) (H0.out.2.2.2.trans kA2)))))
 refine wpAnyH_ready (rs := [4, 6]) (by kernel_rfl) (by simp) ?_
 refine AllReadyH.cons rfl (fun K hK => ?_) (AllReadyH.cons rfl (fun K hK => ?_) AllReadyH.nil)
 ·go_simp
  go_at_call 35
  refine (cut_any n 42 _ (by decide)).mono ?_
  rintro e w' ⟨rfl, rfl⟩
  go_simp
  refine hK.out _ _ (keptS kA0) (fun hS => ?_)
  clear hK K
  try simp only [Act.put, zz]
  refine tk (v := ?_) 5 rfl ?_ ?_; rotate_left
  ·rintro _ ⟨s, rfl⟩; go_simp; (try with_reducible rfl)
  simp only [Act.put, zz]
  refine rd 6 rfl fun K hK => ?_
  go_simp
  go_simp
  refine hK.out _ _ (keptS kA1) (fun hS => ?_)
  clear hK K
  try simp only [Act.put, zz]
  refine rd 7 rfl fun K hK => ?_
  go_simp
  go_simp
  refine hK.out _ _ (keptS kA2) (fun hS => ?_)
  clear hK K
  try simp only [Act.put, zz]
  refine wpAnyH_done (by kernel_rfl) ?_ _
  clear hS kA0 kA1 kA2 D0 D1
  generalize A0.heap.size = p3 at H1 HP ⊢
  generalize A0.alloc (.cells #[.int .i64 k, .string (cut n 42), .slice none 0 0] 54) = W at H1 ⊢
  have HP3 := Lib.hid (show w.heap.size ≤ p3 ∧ w.heap.size ≠ p3 ∧ w.heap.size + 1 ≠ p3 from HP.out)
  clear HP
  go_wp2_with fail
  go_loopg [4] 12 (ShortRel w.heap.size w w.heap.size (w.heap.size + 1) p3 o1 o2 k (cut n 42) V)
  case atStart => exact ⟨0, .slice none 0 0, Nat.zero_le _, Nat.zero_le _, rfl, rfl, H1.out.2.1, H1.out.2.2.1, H1.out.1, World.ownsRow_nil _ _ _ 1, H1.out.2.2.2.2⟩
  case round =>
   obtain ⟨j, va, hj, hj12, hgk, rfl, h1, h2, h3, hown, hkw⟩ := hrel
   have Hg := Lib.hid hgk
   clear hgk
   have h1' := h1
   rw [Ho.out.1] at h1'
   obtain ⟨va', ca, rfl, -, -, -⟩ := row_slice hown
   by_cases hend : j < V.length ∧ j < 12
   ·obtain ⟨hlt, hlt12⟩ := hend
    have hV0 : 0 < V.length := by omega
    have hb0 := H0.out.2.2.2.size
    obtain ⟨b, off, cap', ea, hbW, hcell⟩ := texts_at (Hf.out.keep hkw) hV0
    injection ea with ea _ ec
    subst ea ec
    have d0 := hcell j hlt
    rw [List.getD_eq_getElem?_getD, List.getElem?_eq_getElem hlt, Option.getD_some] at d0
    have Hb := Lib.hid (show b < w.heap.size from by
     obtain ⟨b', off', cap', ea, hbw, -⟩ := texts_at Hf.out hV0
     injection ea with ea _ _
     injection ea with ea
     injection ea with ea _ _
     omega)
    have hlt' : (j : Int) < (V.length : Int) := by omega
    have hlt12' : (j : Int) < 12 := by omega
    obtain ⟨y, hy⟩ : ∃ y, y = V[j] := ⟨_, rfl⟩
    rw [← hy] at d0
    have Hy := Lib.hid hy
    obtain ⟨W9, hW9⟩ : ∃ W9, W9 = wr.drew := ⟨_, rfl⟩
    have k9 : Keeps [] wr W9 := by rw [hW9]; exact (Keeps.refl [] wr).drew
    have H9 := Lib.hid (go1 k9 (And.intro h1' (And.intro h2 (And.intro h3 (And.intro hown hkw)))))
    have HW := Lib.hid hW9
    have s3 : W9.cell? ⟨b, off + j, none⟩ = some (.string y) := by rw [hW9]; exact d0
    have s1 : W9.cell? ⟨p3, 2, none⟩ = some (.slice va' j ca) := cells_at H9.out.2.2.1 2
    have s2 : W9.cell? ⟨w.heap.size, 2, none⟩ = some (.slice (some ⟨b, off, none⟩) V.length cap) := cells_at H9.out.1 2
    have c2 : wr.cell? ⟨w.heap.size, 2, none⟩ = some (.slice (some ⟨b, off, none⟩) V.length cap) := cells_at h1' 2
    clear hW9 k9 h1 h1' h2 h3 hown hkw d0 hcell hy
    go_upto_region 5 with fail
    clear c2
    refine wp_region_last_n 11 (fun w' => w'.cell? ⟨p3, 2, none⟩ = some (.slice va' j ca) ∧ w'.cell? ⟨w.heap.size, 2, none⟩ = some (.slice (some ⟨b, off, none⟩) V.length cap) ∧ w'.cell? ⟨b, off + j, none⟩ = some (.string y)) (by kernel_rfl) (by kernel_rfl) (by kernel_rfl) ?_
    rw [← HW.out]
    have hS : W9.cell? ⟨p3, 2, none⟩ = some (.slice va' j ca) ∧ W9.cell? ⟨w.heap.size, 2, none⟩ = some (.slice (some ⟨b, off, none⟩) V.length cap) ∧ W9.cell? ⟨b, off + j, none⟩ = some (.string y) := ⟨s1, s2, s3⟩
    have HS := Lib.hid hS
    simp only [List.take_succ_cons, List.take_zero, List.toList_toArray]
    clear s1 s2 s3
    have hbW9 : b < W9.heap.size := by have := H9.out.2.2.2.2.size; have := Hb.out; omega
    refine tk (v := ?_) 0 rfl ?_ ?_; rotate_left
    ·rintro _ ⟨s1, s2, s3⟩; go_simp; (try with_reducible rfl)
    simp only [Act.put, zz]
    refine tk (v := ?_) 1 rfl ?_ ?_; rotate_left
    ·rintro _ ⟨s1, s2, s3⟩; go_simp; (try with_reducible rfl)
    simp only [Act.put, zz]
    refine tk (v := ?_) 2 rfl ?_ ?_; rotate_left
    ·rintro _ ⟨s1, s2, s3⟩; go_simp; (try with_reducible rfl)
    simp only [Act.put, zz]
    refine tk (v := ?_) 3 rfl ?_ ?_; rotate_left
    ·rintro _ ⟨s1, s2, s3⟩; go_simp; (try with_reducible rfl)
    simp only [Act.put, zz]
    refine tk (v := ?_) 4 rfl ?_ ?_; rotate_left
    ·rintro _ ⟨s1, s2, s3⟩; go_simp; (try with_reducible rfl)
    simp only [Act.put, zz]
    refine tk (v := ?_) 5 rfl ?_ ?_; rotate_left
    ·rintro _ ⟨s1, s2, s3⟩; go_simp; (try with_reducible rfl)
    simp only [Act.put, zz]
    refine tk (v := ?_) 6 rfl ?_ ?_; rotate_left
    ·rintro _ ⟨s1, s2, s3⟩; go_simp; (try with_reducible rfl)
    simp only [Act.put, zz]
    refine rd 7 rfl fun K hK => ?_
    go_simp
    go_at_call 35
    refine (cut_any y 42 _ (by decide)).mono ?_
    rintro e w' ⟨rfl, rfl⟩
    go_simp
    refine hK.out _ _ HS.out (fun hS => ?_)
    clear hK K
    try simp only [Act.put, zz]
    refine rd 8 rfl fun K hK => ?_
    go_simp
    have kA : Keeps [] W9 (W9.alloc (.cells #[.string (cut y 42)] 9)) := (Keeps.refl [] W9).alloc _
    have HA := Lib.hid (And.intro (heap_new W9 (.cells #[.string (cut y 42)] 9)) (And.intro (go1 kA H9.out) ((kA.cell hbW9 (by simp)).trans HS.out.2.2)))
    have hbA := kA.lt hbW9
    clear kA
    generalize W9.heap.size = nb at HA ⊢
    generalize W9.alloc (.cells #[.string (cut y 42)] 9) = A1 at HA hbA ⊢
    go_simp
    refine hK.out _ _ ⟨cells_at HA.out.2.1.2.2.1 2, cells_at HA.out.2.1.1 2, HA.out.2.2⟩ (fun hS => ?_)
    clear hK K
    try simp only [Act.put, zz]
    refine rd 9 rfl fun K hK => ?_
    have hN := HA.out.2.1.2.2.2.1
    have hKA := HA.out.2.1.2.2.2.2
    refine step_appP rfl (.tmp 23) (.tmp 30) 52 rfl w.heap.size 9 ip _ 1 16 Tryz.underlying52 hip hz0 hz1 hz2 rfl (by decide) (.slice va' j ca) j (((V.take j).map fun v => cut v 42).map Value.string) rfl hN ⟨nb, 0, none⟩ 1 1 [.string (cut y 42)] rfl rfl (news_of HA.out.1) (by simp [Value.oneCell']) (by simp only [maxLen]; omega) (by omega) hKA.size ?_
    intro v5 A2 hown5 hgrow5
    obtain ⟨ao5, cp5, rfl, -, -, -⟩ := row_slice hown5
    have k5 := keeps_row hgrow5
    have hq : b ∉ (Value.slice va' j ca).ownBlock.toList := fun hm => by
     have := (World.ownsRow.lt hN b (by simpa using hm)).1
     have := Hb.out
     omega
    have t1 := k5.at_ HA.out.2.1.1 (fun hm => row_ne_cells hN HA.out.2.1.1 (by decide) _ (by simpa using hm) rfl)
    have t2 : A2.heap[w.heap.size + 1]? = some o2 := by
     have h2 := HA.out.2.1.2.1
     rw [Ho.out.2] at h2 ⊢
     exact k5.at_ h2 (fun hm => row_ne_cells hN h2 (by decide) _ (by simpa using hm) rfl)
    have t3 := k5.at_ HA.out.2.1.2.2.1 (fun hm => row_ne_cells hN HA.out.2.1.2.2.1 (by decide) _ (by simpa using hm) rfl)
    have t4 := (k5.cell (i := off + j) hbA hq).trans HA.out.2.2
    have t7 := keeps_own hKA hgrow5 (fun q hq => (World.ownsRow.lt hN q hq).1)
    have HB := Lib.hid (And.intro t1 (And.intro t2 (And.intro t3 (And.intro hown5 t7))))
    have HS2 := Lib.hid (And.intro (cells_at t3 2) (And.intro (cells_at t1 2) t4))
    clear hown5 hgrow5 k5 hq t1 t2 t3 t4 t7 hN hKA HA HS H9
    refine hK.out _ _ HS2.out (fun hS => ?_)
    clear hK K
    try simp only [Act.put, zz]
    refine tk (v := ?_) 10 rfl ?_ ?_; rotate_left
    ·rintro _ ⟨s1, s2, s3⟩; go_simp; (try with_reducible rfl)
    simp only [Act.put, zz]
    have c5 := free_at HB.out.2.2.1
    have l5 := lt_of_at HB.out.2.2.1
    have v5c : A2.cell? ⟨p3, 2, none⟩ = some (.slice va' j ca) := cells_at HB.out.2.2.1 2
    refine wpAnyH_done (by kernel_rfl) ?_ _
    refine lastQ_step rfl (fun K hK => ?_)
    go_simp
    refine hK _ _ ?_
    clear hK K
    clear c5 l5 v5c hS HW hbA hbW9
    have hp3 : w.heap.size ≤ p3 := HP3.out.1
    have kS : Keeps [p3] A2 (A2.setCell ⟨p3, 2, none⟩ (.slice ao5 (j + 1) cp5)) := (Keeps.refl _ A2).setCell (.inl (by simp)) _
    have n5 : (A2.setCell ⟨p3, 2, none⟩ (.slice ao5 (j + 1) cp5)).heap[p3]? = some (.cells #[.int .i64 k, .string (cut n 42), .slice ao5 (j + 1) cp5] 54 (0, 0)) := (heap_cell_same (i := 2) HB.out.2.2.1 (.slice ao5 (j + 1) cp5)).trans (by simp)
    have HD := Lib.hid (And.intro (kS.at_ HB.out.1 (by simpa using HP3.out.2.1)) (And.intro (kS.at_ HB.out.2.1 (by simpa using HP3.out.2.2)) (And.intro n5 (And.intro (kS.row HB.out.2.2.2.1 (fun q hq => by simpa using row_ne_cells HB.out.2.2.2.1 HB.out.2.2.1 (by decide) q hq)) (HB.out.2.2.2.2.after kS (fun y hy => .inr (by rw [show y = p3 from (by simpa using hy)]; exact hp3)))))))
    clear kS n5 HB HS2
    generalize A2.setCell ⟨p3, 2, none⟩ (.slice ao5 (j + 1) cp5) = A3 at HD ⊢
    go_wp2_with fail
    go_roundg (12 - (j + 1))
    case measure => have := Hg.out; omega
    case rel =>
     refine ⟨j + 1, .slice ao5 (j + 1) cp5, hlt, by omega, rfl, by go_num, by rw [Ho.out.1]; exact HD.out.1, HD.out.2.1, HD.out.2.2.1, ?_, HD.out.2.2.2.2⟩
     have h6 := HD.out.2.2.2.1
     rw [List.take_add_one, List.getElem?_eq_getElem hlt, Option.toList_some, List.map_append, List.map_append, ← Hy.out]
     exact h6
   ·have hjn := Lib.hid (show j = min V.length 12 from by omega)
    have h2' := h2
    rw [Ho.out.2] at h2'
    have cA0 : wr.cell? ⟨p3, 0, none⟩ = some (.int .i64 k) := cells_at h3 0
    have cA1 : wr.cell? ⟨p3, 1, none⟩ = some (.string (cut n 42)) := cells_at h3 1
    have cA2 : wr.cell? ⟨p3, 2, none⟩ = some (.slice va' j ca) := cells_at h3 2
    have lA := lt_of_at h3
    have fB := free_at h2'
    have lB := lt_of_at h2'
    have cB0 : wr.cell? ⟨w.heap.size + 1, 0, none⟩ = some (.int .i64 0) := cells_at h2' 0
    have cB1 : wr.cell? ⟨w.heap.size + 1, 1, none⟩ = some (.string ⟨#[]⟩) := cells_at h2' 1
    have cB2 : wr.cell? ⟨w.heap.size + 1, 2, none⟩ = some (.slice none 0 0) := cells_at h2' 2
    have c2 : wr.cell? ⟨w.heap.size, 2, none⟩ = some (.slice ao V.length cap) := cells_at h1' 2
    have He := Lib.hid (And.intro hown hkw)
    clear h1 h1' h2 h3 hown hkw
    by_cases hlt : j < V.length
    ·have hlt' : (j : Int) < (V.length : Int) := by omega
     have hlt12 : ¬ (j : Int) < 12 := by omega
     go_wp2_with fail
     have g3 := heap_cell_same (i := 2) (heap_cell_same (i := 1) (heap_cell_same (i := 0) h2' (.int .i64 k)) (.string (cut n 42))) (.slice va' j ca)
     have kS : Keeps [w.heap.size + 1] wr (((wr.setCell ⟨w.heap.size + 1, 0, none⟩ (.int .i64 k)).setCell ⟨w.heap.size + 1, 1, none⟩ (.string (cut n 42))).setCell ⟨w.heap.size + 1, 2, none⟩ (.slice va' j ca)) := (((Keeps.refl _ wr).setCell (.inl (by simp)) _).setCell (.inl (by simp)) _).setCell (.inl (by simp)) _
     have hr5 := kS.row He.out.1 (fun q hq => by simpa using row_ne_cells He.out.1 h2' (by decide) q hq)
     have hk5 := He.out.2.after kS (fun y hy => .inr (by rw [show y = w.heap.size + 1 from (by simpa using hy)]; omega))
     generalize ((wr.setCell ⟨w.heap.size + 1, 0, none⟩ (.int .i64 k)).setCell ⟨w.heap.size + 1, 1, none⟩ (.string (cut n 42))).setCell ⟨w.heap.size + 1, 2, none⟩ (.slice va' j ca) = W5 at g3 hr5 hk5 ⊢
     have x0 : W5.cell? ⟨w.heap.size + 1, 0, none⟩ = some (.int .i64 k) := (cells_at g3 0).trans (by simp)
     have x1 : W5.cell? ⟨w.heap.size + 1, 1, none⟩ = some (.string (cut n 42)) := (cells_at g3 1).trans (by simp)
     have x2 : W5.cell? ⟨w.heap.size + 1, 2, none⟩ = some (.slice va' j ca) := (cells_at g3 2).trans (by simp)
     refine bodyPost_ret (v := .agg #[.int .i64 k, .string (cut n 42), .slice va' j ca]) (by simp [results, Tryz.results17, go_sem, x0, x1, x2]) rfl ?_
     exact ⟨_, rfl, short_end hjn.out hr5, hk5⟩
    ·have hlt' : ¬ (j : Int) < (V.length : Int) := by omega
     go_wp2_with fail
     have g3 := heap_cell_same (i := 2) (heap_cell_same (i := 1) (heap_cell_same (i := 0) h2' (.int .i64 k)) (.string (cut n 42))) (.slice va' j ca)
     have kS : Keeps [w.heap.size + 1] wr (((wr.setCell ⟨w.heap.size + 1, 0, none⟩ (.int .i64 k)).setCell ⟨w.heap.size + 1, 1, none⟩ (.string (cut n 42))).setCell ⟨w.heap.size + 1, 2, none⟩ (.slice va' j ca)) := (((Keeps.refl _ wr).setCell (.inl (by simp)) _).setCell (.inl (by simp)) _).setCell (.inl (by simp)) _
     have hr5 := kS.row He.out.1 (fun q hq => by simpa using row_ne_cells He.out.1 h2' (by decide) q hq)
     have hk5 := He.out.2.after kS (fun y hy => .inr (by rw [show y = w.heap.size + 1 from (by simpa using hy)]; omega))
     generalize ((wr.setCell ⟨w.heap.size + 1, 0, none⟩ (.int .i64 k)).setCell ⟨w.heap.size + 1, 1, none⟩ (.string (cut n 42))).setCell ⟨w.heap.size + 1, 2, none⟩ (.slice va' j ca) = W5 at g3 hr5 hk5 ⊢
     have x0 : W5.cell? ⟨w.heap.size + 1, 0, none⟩ = some (.int .i64 k) := (cells_at g3 0).trans (by simp)
     have x1 : W5.cell? ⟨w.heap.size + 1, 1, none⟩ = some (.string (cut n 42)) := (cells_at g3 1).trans (by simp)
     have x2 : W5.cell? ⟨w.heap.size + 1, 2, none⟩ = some (.slice va' j ca) := (cells_at g3 2).trans (by simp)
     refine bodyPost_ret (v := .agg #[.int .i64 k, .string (cut n 42), .slice va' j ca]) (by simp [results, Tryz.results17, go_sem, x0, x1, x2]) rfl ?_
     exact ⟨_, rfl, short_end hjn.out hr5, hk5⟩
 ·go_simp
  go_simp
  refine hK.out _ _ (keptS kA1) (fun hS => ?_)
  clear hK K
  try simp only [Act.put, zz]
  refine rd 4 rfl fun K hK => ?_
  go_simp
  go_at_call 35
  refine (cut_any n 42 _ (by decide)).mono ?_
  rintro e w' ⟨rfl, rfl⟩
  go_simp
  refine hK.out _ _ (keptS kA1) (fun hS => ?_)
  clear hK K
  try simp only [Act.put, zz]
  refine tk (v := ?_) 5 rfl ?_ ?_; rotate_left
  ·rintro _ ⟨s, rfl⟩; go_simp; (try with_reducible rfl)
  simp only [Act.put, zz]
  refine rd 7 rfl fun K hK => ?_
  go_simp
  go_simp
  refine hK.out _ _ (keptS kA2) (fun hS => ?_)
  clear hK K
  try simp only [Act.put, zz]
  refine wpAnyH_done (by kernel_rfl) ?_ _
  clear hS kA0 kA1 kA2 D0 D1
  generalize A0.heap.size = p3 at H1 HP ⊢
  generalize A0.alloc (.cells #[.int .i64 k, .string (cut n 42), .slice none 0 0] 54) = W at H1 ⊢
  have HP3 := Lib.hid (show w.heap.size ≤ p3 ∧ w.heap.size ≠ p3 ∧ w.heap.size + 1 ≠ p3 from HP.out)
  clear HP
  go_wp2_with fail
  go_loopg [4] 12 (ShortRel w.heap.size w w.heap.size (w.heap.size + 1) p3 o1 o2 k (cut n 42) V)
  case atStart => exact ⟨0, .slice none 0 0, Nat.zero_le _, Nat.zero_le _, rfl, rfl, H1.out.2.1, H1.out.2.2.1, H1.out.1, World.ownsRow_nil _ _ _ 1, H1.out.2.2.2.2⟩
  case round =>
   obtain ⟨j, va, hj, hj12, hgk, rfl, h1, h2, h3, hown, hkw⟩ := hrel
   have Hg := Lib.hid hgk
   clear hgk
   have h1' := h1
   rw [Ho.out.1] at h1'
   obtain ⟨va', ca, rfl, -, -, -⟩ := row_slice hown
   by_cases hend : j < V.length ∧ j < 12
   ·obtain ⟨hlt, hlt12⟩ := hend
    have hV0 : 0 < V.length := by omega
    have hb0 := H0.out.2.2.2.size
    obtain ⟨b, off, cap', ea, hbW, hcell⟩ := texts_at (Hf.out.keep hkw) hV0
    injection ea with ea _ ec
    subst ea ec
    have d0 := hcell j hlt
    rw [List.getD_eq_getElem?_getD, List.getElem?_eq_getElem hlt, Option.getD_some] at d0
    have Hb := Lib.hid (show b < w.heap.size from by
     obtain ⟨b', off', cap', ea, hbw, -⟩ := texts_at Hf.out hV0
     injection ea with ea _ _
     injection ea with ea
     injection ea with ea _ _
     omega)
    have hlt' : (j : Int) < (V.length : Int) := by omega
    have hlt12' : (j : Int) < 12 := by omega
    obtain ⟨y, hy⟩ : ∃ y, y = V[j] := ⟨_, rfl⟩
    rw [← hy] at d0
    have Hy := Lib.hid hy
    obtain ⟨W9, hW9⟩ : ∃ W9, W9 = wr.drew := ⟨_, rfl⟩
    have k9 : Keeps [] wr W9 := by rw [hW9]; exact (Keeps.refl [] wr).drew
    have H9 := Lib.hid (go1 k9 (And.intro h1' (And.intro h2 (And.intro h3 (And.intro hown hkw)))))
    have HW := Lib.hid hW9
    have s3 : W9.cell? ⟨b, off + j, none⟩ = some (.string y) := by rw [hW9]; exact d0
    have s1 : W9.cell? ⟨p3, 2, none⟩ = some (.slice va' j ca) := cells_at H9.out.2.2.1 2
    have s2 : W9.cell? ⟨w.heap.size, 2, none⟩ = some (.slice (some ⟨b, off, none⟩) V.length cap) := cells_at H9.out.1 2
    have c2 : wr.cell? ⟨w.heap.size, 2, none⟩ = some (.slice (some ⟨b, off, none⟩) V.length cap) := cells_at h1' 2
    clear hW9 k9 h1 h1' h2 h3 hown hkw d0 hcell hy
    go_upto_region 5 with fail
    clear c2
    refine wp_region_last_n 11 (fun w' => w'.cell? ⟨p3, 2, none⟩ = some (.slice va' j ca) ∧ w'.cell? ⟨w.heap.size, 2, none⟩ = some (.slice (some ⟨b, off, none⟩) V.length cap) ∧ w'.cell? ⟨b, off + j, none⟩ = some (.string y)) (by kernel_rfl) (by kernel_rfl) (by kernel_rfl) ?_
    rw [← HW.out]
    have hS : W9.cell? ⟨p3, 2, none⟩ = some (.slice va' j ca) ∧ W9.cell? ⟨w.heap.size, 2, none⟩ = some (.slice (some ⟨b, off, none⟩) V.length cap) ∧ W9.cell? ⟨b, off + j, none⟩ = some (.string y) := ⟨s1, s2, s3⟩
    have HS := Lib.hid hS
    simp only [List.take_succ_cons, List.take_zero, List.toList_toArray]
    clear s1 s2 s3
    have hbW9 : b < W9.heap.size := by have := H9.out.2.2.2.2.size; have := Hb.out; omega
    refine tk (v := ?_) 0 rfl ?_ ?_; rotate_left
    ·rintro _ ⟨s1, s2, s3⟩; go_simp; (try with_reducible rfl)
    simp only [Act.put, zz]
    refine tk (v := ?_) 1 rfl ?_ ?_; rotate_left
    ·rintro _ ⟨s1, s2, s3⟩; go_simp; (try with_reducible rfl)
    simp only [Act.put, zz]
    refine tk (v := ?_) 2 rfl ?_ ?_; rotate_left
    ·rintro _ ⟨s1, s2, s3⟩; go_simp; (try with_reducible rfl)
    simp only [Act.put, zz]
    refine tk (v := ?_) 3 rfl ?_ ?_; rotate_left
    ·rintro _ ⟨s1, s2, s3⟩; go_simp; (try with_reducible rfl)
    simp only [Act.put, zz]
    refine tk (v := ?_) 4 rfl ?_ ?_; rotate_left
    ·rintro _ ⟨s1, s2, s3⟩; go_simp; (try with_reducible rfl)
    simp only [Act.put, zz]
    refine tk (v := ?_) 5 rfl ?_ ?_; rotate_left
    ·rintro _ ⟨s1, s2, s3⟩; go_simp; (try with_reducible rfl)
    simp only [Act.put, zz]
    refine tk (v := ?_) 6 rfl ?_ ?_; rotate_left
    ·rintro _ ⟨s1, s2, s3⟩; go_simp; (try with_reducible rfl)
    simp only [Act.put, zz]
    refine rd 7 rfl fun K hK => ?_
    go_simp
    go_at_call 35
    refine (cut_any y 42 _ (by decide)).mono ?_
    rintro e w' ⟨rfl, rfl⟩
    go_simp
    refine hK.out _ _ HS.out (fun hS => ?_)
    clear hK K
    try simp only [Act.put, zz]
    refine rd 8 rfl fun K hK => ?_
    go_simp
    have kA : Keeps [] W9 (W9.alloc (.cells #[.string (cut y 42)] 9)) := (Keeps.refl [] W9).alloc _
    have HA := Lib.hid (And.intro (heap_new W9 (.cells #[.string (cut y 42)] 9)) (And.intro (go1 kA H9.out) ((kA.cell hbW9 (by simp)).trans HS.out.2.2)))
    have hbA := kA.lt hbW9
    clear kA
    generalize W9.heap.size = nb at HA ⊢
    generalize W9.alloc (.cells #[.string (cut y 42)] 9) = A1 at HA hbA ⊢
    go_simp
    refine hK.out _ _ ⟨cells_at HA.out.2.1.2.2.1 2, cells_at HA.out.2.1.1 2, HA.out.2.2⟩ (fun hS => ?_)
    clear hK K
    try simp only [Act.put, zz]
    refine rd 9 rfl fun K hK => ?_
    have hN := HA.out.2.1.2.2.2.1
    have hKA := HA.out.2.1.2.2.2.2
    refine step_appP rfl (.tmp 23) (.tmp 30) 52 rfl w.heap.size 9 ip _ 1 16 Tryz.underlying52 hip hz0 hz1 hz2 rfl (by decide) (.slice va' j ca) j (((V.take j).map fun v => cut v 42).map Value.string) rfl hN ⟨nb, 0, none⟩ 1 1 [.string (cut y 42)] rfl rfl (news_of HA.out.1) (by simp [Value.oneCell']) (by simp only [maxLen]; omega) (by omega) hKA.size ?_
    intro v5 A2 hown5 hgrow5
    obtain ⟨ao5, cp5, rfl, -, -, -⟩ := row_slice hown5
    have k5 := keeps_row hgrow5
    have hq : b ∉ (Value.slice va' j ca).ownBlock.toList := fun hm => by
     have := (World.ownsRow.lt hN b (by simpa using hm)).1
     have := Hb.out
     omega
    have t1 := k5.at_ HA.out.2.1.1 (fun hm => row_ne_cells hN HA.out.2.1.1 (by decide) _ (by simpa using hm) rfl)
    have t2 : A2.heap[w.heap.size + 1]? = some o2 := by
     have h2 := HA.out.2.1.2.1
     rw [Ho.out.2] at h2 ⊢
     exact k5.at_ h2 (fun hm => row_ne_cells hN h2 (by decide) _ (by simpa using hm) rfl)
    have t3 := k5.at_ HA.out.2.1.2.2.1 (fun hm => row_ne_cells hN HA.out.2.1.2.2.1 (by decide) _ (by simpa using hm) rfl)
    have t4 := (k5.cell (i := off + j) hbA hq).trans HA.out.2.2
    have t7 := keeps_own hKA hgrow5 (fun q hq => (World.ownsRow.lt hN q hq).1)
    have HB := Lib.hid (And.intro t1 (And.intro t2 (And.intro t3 (And.intro hown5 t7))))
    have HS2 := Lib.hid (And.intro (cells_at t3 2) (And.intro (cells_at t1 2) t4))
    clear hown5 hgrow5 k5 hq t1 t2 t3 t4 t7 hN hKA HA HS H9
    refine hK.out _ _ HS2.out (fun hS => ?_)
    clear hK K
    try simp only [Act.put, zz]
    refine tk (v := ?_) 10 rfl ?_ ?_; rotate_left
    ·rintro _ ⟨s1, s2, s3⟩; go_simp; (try with_reducible rfl)
    simp only [Act.put, zz]
    have c5 := free_at HB.out.2.2.1
    have l5 := lt_of_at HB.out.2.2.1
    have v5c : A2.cell? ⟨p3, 2, none⟩ = some (.slice va' j ca) := cells_at HB.out.2.2.1 2
    refine wpAnyH_done (by kernel_rfl) ?_ _
    refine lastQ_step rfl (fun K hK => ?_)
    go_simp
    refine hK _ _ ?_
    clear hK K
    clear c5 l5 v5c hS HW hbA hbW9
    have hp3 : w.heap.size ≤ p3 := HP3.out.1
    have kS : Keeps [p3] A2 (A2.setCell ⟨p3, 2, none⟩ (.slice ao5 (j + 1) cp5)) := (Keeps.refl _ A2).setCell (.inl (by simp)) _
    have n5 : (A2.setCell ⟨p3, 2, none⟩ (.slice ao5 (j + 1) cp5)).heap[p3]? = some (.cells #[.int .i64 k, .string (cut n 42), .slice ao5 (j + 1) cp5] 54 (0, 0)) := (heap_cell_same (i := 2) HB.out.2.2.1 (.slice ao5 (j + 1) cp5)).trans (by simp)
    have HD := Lib.hid (And.intro (kS.at_ HB.out.1 (by simpa using HP3.out.2.1)) (And.intro (kS.at_ HB.out.2.1 (by simpa using HP3.out.2.2)) (And.intro n5 (And.intro (kS.row HB.out.2.2.2.1 (fun q hq => by simpa using row_ne_cells HB.out.2.2.2.1 HB.out.2.2.1 (by decide) q hq)) (HB.out.2.2.2.2.after kS (fun y hy => .inr (by rw [show y = p3 from (by simpa using hy)]; exact hp3)))))))
    clear kS n5 HB HS2
    generalize A2.setCell ⟨p3, 2, none⟩ (.slice ao5 (j + 1) cp5) = A3 at HD ⊢
    go_wp2_with fail
    go_roundg (12 - (j + 1))
    case measure => have := Hg.out; omega
    case rel =>
     refine ⟨j + 1, .slice ao5 (j + 1) cp5, hlt, by omega, rfl, by go_num, by rw [Ho.out.1]; exact HD.out.1, HD.out.2.1, HD.out.2.2.1, ?_, HD.out.2.2.2.2⟩
     have h6 := HD.out.2.2.2.1
     rw [List.take_add_one, List.getElem?_eq_getElem hlt, Option.toList_some, List.map_append, List.map_append, ← Hy.out]
     exact h6
   ·have hjn := Lib.hid (show j = min V.length 12 from by omega)
    have h2' := h2
    rw [Ho.out.2] at h2'
    have cA0 : wr.cell? ⟨p3, 0, none⟩ = some (.int .i64 k) := cells_at h3 0
    have cA1 : wr.cell? ⟨p3, 1, none⟩ = some (.string (cut n 42)) := cells_at h3 1
    have cA2 : wr.cell? ⟨p3, 2, none⟩ = some (.slice va' j ca) := cells_at h3 2
    have lA := lt_of_at h3
    have fB := free_at h2'
    have lB := lt_of_at h2'
    have cB0 : wr.cell? ⟨w.heap.size + 1, 0, none⟩ = some (.int .i64 0) := cells_at h2' 0
    have cB1 : wr.cell? ⟨w.heap.size + 1, 1, none⟩ = some (.string ⟨#[]⟩) := cells_at h2' 1
    have cB2 : wr.cell? ⟨w.heap.size + 1, 2, none⟩ = some (.slice none 0 0) := cells_at h2' 2
    have c2 : wr.cell? ⟨w.heap.size, 2, none⟩ = some (.slice ao V.length cap) := cells_at h1' 2
    have He := Lib.hid (And.intro hown hkw)
    clear h1 h1' h2 h3 hown hkw
    by_cases hlt : j < V.length
    ·have hlt' : (j : Int) < (V.length : Int) := by omega
     have hlt12 : ¬ (j : Int) < 12 := by omega
     go_wp2_with fail
     have g3 := heap_cell_same (i := 2) (heap_cell_same (i := 1) (heap_cell_same (i := 0) h2' (.int .i64 k)) (.string (cut n 42))) (.slice va' j ca)
     have kS : Keeps [w.heap.size + 1] wr (((wr.setCell ⟨w.heap.size + 1, 0, none⟩ (.int .i64 k)).setCell ⟨w.heap.size + 1, 1, none⟩ (.string (cut n 42))).setCell ⟨w.heap.size + 1, 2, none⟩ (.slice va' j ca)) := (((Keeps.refl _ wr).setCell (.inl (by simp)) _).setCell (.inl (by simp)) _).setCell (.inl (by simp)) _
     have hr5 := kS.row He.out.1 (fun q hq => by simpa using row_ne_cells He.out.1 h2' (by decide) q hq)
     have hk5 := He.out.2.after kS (fun y hy => .inr (by rw [show y = w.heap.size + 1 from (by simpa using hy)]; omega))
     generalize ((wr.setCell ⟨w.heap.size + 1, 0, none⟩ (.int .i64 k)).setCell ⟨w.heap.size + 1, 1, none⟩ (.string (cut n 42))).setCell ⟨w.heap.size + 1, 2, none⟩ (.slice va' j ca) = W5 at g3 hr5 hk5 ⊢
     have x0 : W5.cell? ⟨w.heap.size + 1, 0, none⟩ = some (.int .i64 k) := (cells_at g3 0).trans (by simp)
     have x1 : W5.cell? ⟨w.heap.size + 1, 1, none⟩ = some (.string (cut n 42)) := (cells_at g3 1).trans (by simp)
     have x2 : W5.cell? ⟨w.heap.size + 1, 2, none⟩ = some (.slice va' j ca) := (cells_at g3 2).trans (by simp)
     refine bodyPost_ret (v := .agg #[.int .i64 k, .string (cut n 42), .slice va' j ca]) (by simp [results, Tryz.results17, go_sem, x0, x1, x2]) rfl ?_
     exact ⟨_, rfl, short_end hjn.out hr5, hk5⟩
    ·have hlt' : ¬ (j : Int) < (V.length : Int) := by omega
     go_wp2_with fail
     have g3 := heap_cell_same (i := 2) (heap_cell_same (i := 1) (heap_cell_same (i := 0) h2' (.int .i64 k)) (.string (cut n 42))) (.slice va' j ca)
     have kS : Keeps [w.heap.size + 1] wr (((wr.setCell ⟨w.heap.size + 1, 0, none⟩ (.int .i64 k)).setCell ⟨w.heap.size + 1, 1, none⟩ (.string (cut n 42))).setCell ⟨w.heap.size + 1, 2, none⟩ (.slice va' j ca)) := (((Keeps.refl _ wr).setCell (.inl (by simp)) _).setCell (.inl (by simp)) _).setCell (.inl (by simp)) _
     have hr5 := kS.row He.out.1 (fun q hq => by simpa using row_ne_cells He.out.1 h2' (by decide) q hq)
     have hk5 := He.out.2.after kS (fun y hy => .inr (by rw [show y = w.heap.size + 1 from (by simpa using hy)]; omega))
     generalize ((wr.setCell ⟨w.heap.size + 1, 0, none⟩ (.int .i64 k)).setCell ⟨w.heap.size + 1, 1, none⟩ (.string (cut n 42))).setCell ⟨w.heap.size + 1, 2, none⟩ (.slice va' j ca) = W5 at g3 hr5 hk5 ⊢
     have x0 : W5.cell? ⟨w.heap.size + 1, 0, none⟩ = some (.int .i64 k) := (cells_at g3 0).trans (by simp)
     have x1 : W5.cell? ⟨w.heap.size + 1, 1, none⟩ = some (.string (cut n 42)) := (cells_at g3 1).trans (by simp)
     have x2 : W5.cell? ⟨w.heap.size + 1, 2, none⟩ = some (.slice va' j ca) := (cells_at g3 2).trans (by simp)
     refine bodyPost_ret (v := .agg #[.int .i64 k, .string (cut n 42), .slice va' j ca]) (by simp [results, Tryz.results17, go_sem, x0, x1, x2]) rfl ?_
     exact ⟨_, rfl, short_end hjn.out hr5, hk5⟩
theorem infoMatP : (Tryz.prog.info? 56).map (fun i => (i.zero, i.size, i.bytes)) = some (some (.agg #[.int .i64 0, .string ⟨#[]⟩, .slice none 0 0]), 3, 48) := by kernel_rfl
theorem infoMatR : (Tryz.prog.info? 54).map (fun i => (i.zero, i.size, i.bytes)) = some (some (.agg #[.int .i64 0, .string ⟨#[]⟩, .slice none 0 0]), 3, 48) := by kernel_rfl
theorem news_three {w : World} {g : Nat} {x y z : Value} {t : TypeId} (hg : w.heap[g]? = some (.cells #[x, y, z] t (0, 0))) : ∀ j u, ([x, y, z] : List Value)[j]? = some u → w.cell? ((⟨g, 0, none⟩ : Addr).add j) = some u := by
 intro j u hu
 have hadd : (⟨g, 0, none⟩ : Addr).add j = ⟨g, j, none⟩ := by unfold Addr.add; split <;> simp_all
 rw [hadd, cells_at hg]
 match j with
 | 0 => exact hu
 | 1 => exact hu
 | 2 => exact hu
 | n + 3 => simp at hu
theorem row_texts {B : Nat} {w : World} {v : Value} {V : List ByteArray} (h : w.ownsRow B 9 1 v V.length (V.map Value.string)) : SliceArg 1 encS1 w v V :=
 (sliceFrom_row (enc := encS1) (e := 9) (fun _ => rfl) (by rw [show V.flatMap encS1 = V.map Value.string from flat_one Value.string V]; exact h)).arg
theorem shortV_size (V : List ByteArray) : ∀ x ∈ shortV V, x.size ≤ maxLen := by
 intro x hx
 unfold shortV at hx
 obtain ⟨y, _, rfl⟩ := List.mem_map.1 hx
 have := cut_size y 42
 simp only [maxLen]
 omega
def ValsAt (B : Nat) (w : World) (E : List MatV) (L : List MatB) : Prop := E.length = L.length ∧ ∀ i (h : i < E.length) (h' : i < L.length), E[i].1 = L[i].1 ∧ E[i].2.1 = L[i].2.1 ∧ w.ownsRow B 9 1 E[i].2.2 L[i].2.2.length (L[i].2.2.map Value.string)
theorem ValsAt.keep {B : Nat} {w w' : World} {E : List MatV} {L : List MatB} {S : List Nat} (h : ValsAt B w E L) (k : Keeps S w w') (hS : ∀ v n xs, w.ownsRow B 9 1 v n xs → ∀ g, v.ownBlock = some g → g ∉ S) : ValsAt B w' E L :=
 ⟨h.1, fun i hi hi' => ⟨(h.2 i hi hi').1, (h.2 i hi hi').2.1, k.row (h.2 i hi hi').2.2 (hS _ _ _ (h.2 i hi hi').2.2)⟩⟩
theorem ValsAt.snoc {B : Nat} {w : World} {E : List MatV} {L : List MatB} (h : ValsAt B w E L) {k : Int} {n : ByteArray} {v : Value} {V : List ByteArray} (hr : w.ownsRow B 9 1 v V.length (V.map Value.string)) : ValsAt B w (E ++ [(k, n, v)]) (L ++ [(k, n, V)]) := by
 obtain ⟨h1, h2⟩ := h
 refine ⟨by simp [h1], fun i hi hi' => ?_⟩
 by_cases hlt : i < E.length
 ·rw [List.getElem_append_left hlt, List.getElem_append_left (by omega)]
  exact h2 i hlt (by omega)
 ·have e1 : i = E.length := by simp at hi; omega
  subst e1
  rw [List.getElem_append_right (Nat.le_refl _), List.getElem_append_right (by omega)]
  simp [h1]
  exact hr
theorem mats_of {B : Nat} {w : World} {e : TypeId} {v : Value} {E : List MatV} {L : List MatB} (hr : w.ownsRow B e 3 v E.length (E.flatMap encMV)) (h : ValsAt B w E L) : MatsAt w v L :=
 ⟨E, (sliceFrom_row (enc := encMV) (fun _ => rfl) hr).arg, h.1, fun i hi hi' => ⟨(h.2 i hi hi').1, (h.2 i hi hi').2.1, row_texts (h.2 i hi hi').2.2⟩⟩
instance go1Vals {w w' : World} (B : Nat) (E : List MatV) (L : List MatB) : Go1 w w' (ValsAt B w E L) (ValsAt B w' E L) := ⟨fun k h => h.keep k (fun _ _ _ _ _ _ => by simp)⟩
def Few13Rel (w : World) (M : List MatB) (gk : Nat) (u4 u5 u6 : Value) (wr : World) : Prop :=
 ∃ (i : Nat) (E : List MatV) (L : List MatB), i ≤ M.length ∧ i ≤ 20 ∧ E.length ≤ 4 ∧ gk = 20 - i ∧ u6 = .int .i64 i ∧ wr.ownsRow w.heap.size 56 3 u4 E.length (E.flatMap encMV) ∧ wr.ownsRow w.heap.size 54 3 u5 E.length (E.flatMap encMV) ∧ ValsAt w.heap.size wr E L ∧ (∀ m ∈ L, chkB m = true) ∧ Keeps [] w wr
def Few13Post (w : World) (e : Ending) (w' : World) : Prop := ∃ va vb L, e = .returned (.tuple #[va, vb]) ∧ MatsAt w' va L ∧ MatsAt w' vb L ∧ (∀ m ∈ L, chkB m = true) ∧ L.length ≤ 4 ∧ Keeps [] w w'
def RowsAt (B : Nat) (w : World) (v : Value) (L : List MatB) : Prop := ∃ E : List MatV, w.ownsRow B 56 3 v E.length (E.flatMap encMV) ∧ ValsAt B w E L
theorem RowsAt.keep {B : Nat} {w w' : World} {v : Value} {L : List MatB} (h : RowsAt B w v L) (k : Keeps [] w w') : RowsAt B w' v L := by
 obtain ⟨E, h1, h2⟩ := h
 exact ⟨E, k.row h1 (by simp), h2.keep k (fun _ _ _ _ _ _ => by simp)⟩
instance go1RowsAt {w w' : World} (B : Nat) (v : Value) (L : List MatB) : Go1 w w' (RowsAt B w v L) (RowsAt B w' v L) := ⟨fun k h => h.keep k⟩
theorem RowsAt.at_ {B : Nat} {w : World} {v : Value} {L : List MatB} (h : RowsAt B w v L) (k : Nat) (hk : k < L.length) : ∃ b cap u, v = .slice (some ⟨b, 0, none⟩) L.length cap ∧ b < w.heap.size ∧
  w.cell? ⟨b, k * 3, none⟩ = some (.int .i64 L[k].1) ∧ w.cell? ⟨b, k * 3 + 1, none⟩ = some (.string L[k].2.1) ∧ w.cell? ⟨b, k * 3 + 2, none⟩ = some u ∧ w.ownsRow B 9 1 u L[k].2.2.length (L[k].2.2.map Value.string) := by
 obtain ⟨E, hr, hl, hv⟩ := h
 have hk' : k < E.length := by omega
 obtain ⟨x1, x2, x3⟩ := hv k hk' hk
 obtain ⟨ao, cap, e, -, -, hc⟩ := row_slice hr
 obtain ⟨b, rfl, -, hb, -⟩ := hc (k * 3) (by omega)
 have cell : ∀ i, i < 3 → w.cell? ⟨b, k * 3 + i, none⟩ = (encMV E[k])[i]? := fun i hi => by
  obtain ⟨b', e2, -, -, hx⟩ := hc (k * 3 + i) (by omega)
  injection e2 with e2
  injection e2 with e2 _ _
  subst e2
  rw [hx, flatMap_at encMV 3 (fun _ => rfl) E k hk' i hi]
 refine ⟨b, cap, E[k].2.2, by rw [e, hl], hb, ?_, ?_, ?_, x3⟩
 ·rw [← x1]; exact cell 0 (by decide)
 ·rw [← x2]; exact cell 1 (by decide)
 ·exact cell 2 (by decide)
theorem RowsAt.mats {B : Nat} {w : World} {v : Value} {L : List MatB} (h : RowsAt B w v L) : MatsAt w v L := by
 obtain ⟨E, h1, h2⟩ := h
 exact mats_of h1 h2
theorem RowsAt.formR {B : Nat} {w : World} {v : Value} {L : List MatB} (h : RowsAt B w v L) : ∃ ao cap, v = .slice ao L.length cap ∧ L.length ≤ cap ∧ cap ≤ maxLen ∧ (0 < L.length → ∃ b, ao = some ⟨b, 0, none⟩) := by
 obtain ⟨E, h1, h2⟩ := h
 obtain ⟨ao, cap, e, hc, hm, hcell⟩ := row_slice h1
 have hl := h2.1
 refine ⟨ao, cap, by rw [e, hl], by omega, hm, fun h0 => ?_⟩
 obtain ⟨g, e2, _⟩ := hcell 0 (by omega)
 exact ⟨g, e2⟩
def Few13RPost (w : World) (e : Ending) (w' : World) : Prop := ∃ va vb L, e = .returned (.tuple #[va, vb]) ∧ RowsAt w.heap.size w' va L ∧ MatsAt w' vb L ∧ (∀ m ∈ L, chkB m = true) ∧ L.length ≤ 4 ∧ Keeps [] w w'
theorem few13R_spec (w : World) (v : Value) (M : List MatB) (h : MatsAt w v M) :
  Calls Tryz.prog 6 #[v] w (Few13RPost w) := by
 obtain ⟨ip, hip, hz0, hz1, hz2⟩ := info_parts infoMatP
 obtain ⟨ir, hir, hy0, hy1, hy2⟩ := info_parts infoMatR
 have Hf := Lib.hid h
 obtain ⟨ao, cap, rfl, hl⟩ := h.form
 unfold maxLen at hl
 have k0 : Keeps [] w (w.alloc (.cells #[] 56)) := (Keeps.refl [] w).alloc _
 have k1 : Keeps [] (w.alloc (.cells #[] 56)) ((w.alloc (.cells #[] 56)).alloc (.cells #[] 54)) := (Keeps.refl [] _).alloc _
 have H0 := Lib.hid (And.intro (go1 k1 (own_made w w.heap.size 56 3 (Nat.le_refl _))) (And.intro (own_made (w.alloc (.cells #[] 56)) w.heap.size 54 3 (by simp)) (k0.trans k1)))
 clear h k0 k1
 go_enter Tryz.func6, Tryz.ntmps6
 go_wp2_with fail
 go_loopg [4, 5, 6] 20 (Few13Rel w M)
 case atStart => exact ⟨0, [], [], Nat.zero_le _, Nat.zero_le _, Nat.zero_le _, rfl, rfl, H0.out.1, by simpa using H0.out.2.1, ⟨rfl, fun i hi => by simp at hi⟩, by simp, H0.out.2.2⟩
 case round =>
  obtain ⟨i, E, L, hi, hi20, hE4, hgk, rfl, h4, h5, hvals, hchk, hkw⟩ := hrel
  have Hg := Lib.hid (And.intro hgk hchk)
  clear hgk hchk H0
  obtain ⟨a4, c4, rfl, -, -, -⟩ := row_slice h4
  obtain ⟨a5, c5, rfl, -, -, -⟩ := row_slice h5
  by_cases hend : i < M.length ∧ E.length < 4 ∧ i < 20
  ·obtain ⟨hlt, hlt4, hlt20⟩ := hend
   obtain ⟨b, off, cap', u, ea, hbW, d0, d1, d2, hu⟩ := (Hf.out.keep hkw).at_ i hlt
   injection ea with ea _ ec
   subst ea ec
   have hlt' : (i : Int) < (M.length : Int) := by omega
   have hlt4' : (E.length : Int) < 4 := by omega
   have hlt20' : (i : Int) < 20 := by omega
   generalize M[i] = m at d0 d1 hu
   obtain ⟨mk, mn, mv⟩ := m
   dsimp only at d0 d1 hu
   have Hu := Lib.hid hu
   obtain ⟨ua, uc, rfl, -, -⟩ := hu
   have Hr := Lib.hid (And.intro h4 (And.intro h5 (And.intro hvals hkw)))
   clear h4 h5 hvals hkw
   go_wp2_with fail
   refine (short_spec wr mk mn _ mv Hu.out).mono ?_
   rintro e w2 ⟨v2, rfl, hrow2, hk2⟩
   have H2 := Lib.hid (And.intro (row_base (b' := w.heap.size) hrow2 Hr.out.2.2.2.size) (go1 hk2 Hr.out))
   clear hrow2 hk2 Hr d0 d1 d2
   obtain ⟨a2, c2, rfl, -, -, -⟩ := row_slice H2.out.1
   have kA : Keeps [] w2 (w2.alloc (.cells #[.int .i64 mk, .string (cut mn 42), .slice a2 (shortV mv).length c2] 54)) := (Keeps.refl [] w2).alloc _
   have H3 := Lib.hid (And.intro (heap_new w2 (.cells #[.int .i64 mk, .string (cut mn 42), .slice a2 (shortV mv).length c2] 54)) (go1 kA H2.out))
   clear kA H2
   go_wp2_with fail
   refine (chkR_spec _ mk (cut mn 42) _ (shortV mv) (row_texts H3.out.2.1) (by have := cut_size mn 42; simp only [maxLen]; omega) (shortV_size mv)).mono ?_
   rintro e w4 ⟨rfl, hk4⟩
   have H4 := Lib.hid (go1 hk4 H3.out)
   clear hk4 H3
   generalize w2.heap.size = pk at H4 ⊢
   generalize shortV mv = sv at H4 ⊢
   generalize cut mn 42 = sn at H4 ⊢
   cases hcb : chkB (mk, sn, sv) with
   | false =>
    go_wp2_with fail
    go_roundg (20 - (i + 1))
    case measure => have := Hg.out.1; omega
    case rel => exact ⟨i + 1, E, L, hlt, by omega, hE4, rfl, by go_num, H4.out.2.2.1, H4.out.2.2.2.1, H4.out.2.2.2.2.1, Hg.out.2, H4.out.2.2.2.2.2⟩
   | true =>
    have Hcb := Lib.hid hcb
    clear hcb
    have c0 : w4.cell? ⟨pk, 0, none⟩ = some (.int .i64 mk) := cells_at H4.out.1 0
    have c1 : w4.cell? ⟨pk, 1, none⟩ = some (.string sn) := cells_at H4.out.1 1
    have c2' : w4.cell? ⟨pk, 2, none⟩ = some (.slice a2 sv.length c2) := cells_at H4.out.1 2
    have kA : Keeps [] w4 (w4.alloc (.cells #[.int .i64 mk, .string sn, .slice a2 sv.length c2] 56)) := (Keeps.refl [] w4).alloc _
    have H5 := Lib.hid (And.intro (heap_new w4 (.cells #[.int .i64 mk, .string sn, .slice a2 sv.length c2] 56)) (go1 kA H4.out))
    clear kA H4
    go_wp2_with (at_builtin; first | (refine wpList_append_own _ rfl (.tmp 32) (.tmp 40) 23 rfl w.heap.size 56 ip _ 3 48 Tryz.underlying23 hip hz0 hz1 hz2 rfl (by decide) (.slice a4 E.length c4) E.length (E.flatMap encMV) rfl H5.out.2.2.2.1 ⟨w4.heap.size, 0, none⟩ 1 1 [.int .i64 mk, .string sn, .slice a2 sv.length c2] rfl rfl (news_three H5.out.1) (by simp [Value.oneCell']) (by simp only [maxLen]; omega) (by omega) H5.out.2.2.2.2.2.2.size ?_; intro v6 w6 hown6 hgrow6 hnil6; clear hnil6; obtain ⟨a6, c6, rfl, -, -, -⟩ := row_slice hown6; have k6 := keeps_row hgrow6; have hN := H5.out.2.2.2.1; have d0 : w6.cell? ⟨pk, 0, none⟩ = some (.int .i64 mk) := cells_at (k6.at_ H5.out.2.1 (fun hm => row_ne_cells hN H5.out.2.1 (by decide) _ (by simpa using hm) rfl)) 0; have d1 : w6.cell? ⟨pk, 1, none⟩ = some (.string sn) := cells_at (k6.at_ H5.out.2.1 (fun hm => row_ne_cells hN H5.out.2.1 (by decide) _ (by simpa using hm) rfl)) 1; have d2 : w6.cell? ⟨pk, 2, none⟩ = some (.slice a2 sv.length c2) := cells_at (k6.at_ H5.out.2.1 (fun hm => row_ne_cells hN H5.out.2.1 (by decide) _ (by simpa using hm) rfl)) 2; have H6 := Lib.hid (And.intro hown6 (And.intro (k6.row H5.out.2.2.2.2.1 (rows_ne2 hN H5.out.2.2.2.2.1 (by decide))) (And.intro (H5.out.2.2.2.2.2.1.keep k6 (fun _ _ _ hr => rows_ne2 hN hr (by decide))) (And.intro (k6.row H5.out.2.2.1 (rows_ne2 hN H5.out.2.2.1 (by decide))) (keeps_own H5.out.2.2.2.2.2.2 hgrow6 (fun q hq => (World.ownsRow.lt hN q hq).1)))))); clear hown6 hgrow6 k6 hN) | (refine wpList_append_own _ rfl (.tmp 42) (.tmp 44) 28 rfl w.heap.size 54 ir _ 3 48 Tryz.underlying28 hir hy0 hy1 hy2 rfl (by decide) (.slice a5 E.length c5) E.length (E.flatMap encMV) rfl (H6.out.2.1.alloc _) ⟨w6.heap.size, 0, none⟩ 1 1 [.int .i64 mk, .string sn, .slice a2 sv.length c2] rfl rfl (news_three (heap_new w6 _)) (by simp [Value.oneCell']) (by simp only [maxLen]; omega) (by omega) (by have := H6.out.2.2.2.2.size; rw [World.size_alloc]; omega) ?_; intro v7 w7 hown7 hgrow7 hnil7; clear hnil7; obtain ⟨a7, c7, rfl, -, -, -⟩ := row_slice hown7; have k7 := keeps_row hgrow7; have kB : Keeps [] w6 (w6.alloc (.cells #[.int .i64 mk, .string sn, .slice a2 sv.length c2] 54)) := (Keeps.refl [] w6).alloc _; have HB := go1 kB H6.out; have H7 := Lib.hid (And.intro (k7.row HB.1 (rows_ne2 HB.2.1 HB.1 (by decide))) (And.intro hown7 (And.intro ((HB.2.2.1.keep k7 (fun _ _ _ hr => rows_ne2 HB.2.1 hr (by decide))).snoc (k := mk) (n := sn) (k7.row HB.2.2.2.1 (rows_ne2 HB.2.1 HB.2.2.2.1 (by decide)))) (keeps_own HB.2.2.2.2 hgrow7 (fun q hq => (World.ownsRow.lt HB.2.1 q hq).1))))); clear hown7 hgrow7 k7 kB HB))
    go_roundg (20 - (i + 1))
    case measure => have := Hg.out.1; omega
    case rel =>
     refine ⟨i + 1, E ++ [(mk, sn, .slice a2 sv.length c2)], L ++ [(mk, sn, sv)], hlt, by omega, by rw [List.length_append]; simp; omega, rfl, by go_num, ?_, ?_, H7.out.2.2.1, ?_, H7.out.2.2.2⟩
     ·have h6 := H7.out.1
      rw [List.length_append, List.flatMap_append]
      simpa [encMV] using h6
     ·have h6 := H7.out.2.1
      rw [List.length_append, List.flatMap_append]
      simpa [encMV] using h6
     ·intro m hm
      rcases List.mem_append.1 hm with hm | hm
      ·exact Hg.out.2 m hm
      ·obtain rfl : m = (mk, sn, sv) := by simpa using hm
       exact Hcb.out
  ·have He := Lib.hid (And.intro h4 (And.intro h5 (And.intro hvals hkw)))
   clear h4 h5 hvals hkw
   by_cases hlt : i < M.length
   ·have hlt' : (i : Int) < (M.length : Int) := by omega
    by_cases hlt4 : E.length < 4
    ·have hlt4' : (E.length : Int) < 4 := by omega
     have hlt20 : ¬ (i : Int) < 20 := by omega
     go_wp2_with fail
     go_ret2
     exact ⟨_, _, L, rfl, ⟨_, He.out.1, He.out.2.2.1⟩, mats_of He.out.2.1 He.out.2.2.1, Hg.out.2, by rw [← He.out.2.2.1.1]; exact hE4, He.out.2.2.2⟩
    ·have hlt4' : ¬ (E.length : Int) < 4 := by omega
     go_wp2_with fail
     go_ret2
     exact ⟨_, _, L, rfl, ⟨_, He.out.1, He.out.2.2.1⟩, mats_of He.out.2.1 He.out.2.2.1, Hg.out.2, by rw [← He.out.2.2.1.1]; exact hE4, He.out.2.2.2⟩
   ·have hlt' : ¬ (i : Int) < (M.length : Int) := by omega
    go_wp2_with fail
    go_ret2
    exact ⟨_, _, L, rfl, ⟨_, He.out.1, He.out.2.2.1⟩, mats_of He.out.2.1 He.out.2.2.1, Hg.out.2, by rw [← He.out.2.2.1.1]; exact hE4, He.out.2.2.2⟩
theorem few13_spec (w : World) (v : Value) (M : List MatB) (h : MatsAt w v M) :
  Calls Tryz.prog 6 #[v] w (Few13Post w) :=
 (few13R_spec w v M h).mono fun _ _ ⟨va, vb, L, e, h1, h⟩ => ⟨va, vb, L, e, h1.mats, h⟩
theorem row_pairs {B : Nat} {w : World} {e : TypeId} {v : Value} {P : List PairB} (h : w.ownsRow B e 2 v P.length (P.flatMap encPB)) : SliceArg 2 encPB w v P := (sliceFrom_row (enc := encPB) (fun _ => rfl) h).arg
instance go1Mats {w w' : World} (v : Value) (L : List MatB) : Go1 w w' (MatsAt w v L) (MatsAt w' v L) := ⟨fun k h => h.keep k⟩
instance go1SArg {α : Type} {w w' : World} (size : Nat) (enc : α → List Value) (v : Value) (L : List α) : Go1 w w' (SliceArg size enc w v L) (SliceArg size enc w' v L) := ⟨fun k h => h.keep k⟩
end Go.Proofs.YtgcfkhcogllgfaaGreatDoor
