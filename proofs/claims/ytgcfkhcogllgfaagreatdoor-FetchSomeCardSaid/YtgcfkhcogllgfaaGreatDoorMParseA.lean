/-
  matcher.parse at any text.
  The variable matcher.signs holds its five signs; the library's variable internal/bytealg.MaxLen holds some number; the text is shorter than 1000000 bytes.
-/
import Derived.Test.YtgcfkhcogllgfaaGreatDoorMCheck
import Derived.Deep.CutBlock
namespace Go.Proofs.YtgcfkhcogllgfaaGreatDoor
set_option maxRecDepth 100000
set_option maxHeartbeats 1000000
set_option linter.unusedSimpArgs false
open Go Go.RowKit
def trimB (s p : ByteArray) : ByteArray := ⟨(Lib.trimPrefix s.data.toList p.data.toList).toArray⟩
def preB (s p : ByteArray) : Bool := Lib.hasPrefix s.data.toList p.data.toList
def pickB (rs : ByteArray) : Int × List ByteArray :=
 if preB rs (signOf 2) = true then (2, [trimB rs (signOf 2)]) else if preB rs (signOf 1) = true then (1, [trimB rs (signOf 1)]) else
 if preB rs (signOf 3) = true then (3, [trimB rs (signOf 3)]) else if preB rs (signOf 4) = true then (4, partsC 124 (trimB rs (signOf 4))) else (0, [])
def idxB (s : ByteArray) : Int := Lib.indexAny s.data.toList [61, 33, 94, 64]
def mparseB (s : ByteArray) : Option MatB :=
 if idxB s < 0 then none else
 if chkB ((pickB (s.extract (idxB s).toNat s.size)).1, s.extract 0 (idxB s).toNat, (pickB (s.extract (idxB s).toNat s.size)).2) = true then some ((pickB (s.extract (idxB s).toNat s.size)).1, s.extract 0 (idxB s).toNat, (pickB (s.extract (idxB s).toNat s.size)).2) else none
theorem trimB_size (s p : ByteArray) : (trimB s p).size ≤ s.size := by
 unfold trimB Lib.trimPrefix
 have : s.size = s.data.toList.length := by simp
 split
 ·simp only [ByteArray.size, List.size_toArray, List.length_drop, Array.length_toList]
  omega
 ·simp
theorem pick_sizes (rs : ByteArray) : (pickB rs).2.length ≤ rs.size + 1 ∧ ∀ x ∈ (pickB rs).2, x.size ≤ rs.size := by
 have one : ∀ p, [trimB rs p].length ≤ rs.size + 1 ∧ ∀ x ∈ [trimB rs p], x.size ≤ rs.size := fun p => ⟨by simp, fun x hx => by rw [List.mem_singleton.1 hx]; exact trimB_size rs p⟩
 have ht := trimB_size rs (signOf 4)
 obtain ⟨k1, k2⟩ := parts_sizes 124 _ (trimB rs (signOf 4)) (Nat.le_refl _)
 unfold pickB
 split
 ·exact one _
 split
 ·exact one _
 split
 ·exact one _
 split
 ·exact ⟨by show (partsC 124 (trimB rs (signOf 4))).length ≤ _; omega, fun x hx => by have := k2 x hx; omega⟩
 ·exact ⟨by simp, fun x hx => by simp at hx⟩
theorem own_cells {W : World} {q B : Nat} {V : List ByteArray} (hB : B ≤ q) (hq : W.heap[q]? = some (.cells (V.map Value.string).toArray 9 (0, 0))) (hl : V.length ≤ maxLen) :
  W.ownsRow B 9 1 (.slice (some ⟨q, 0, none⟩) V.length V.length) V.length (V.map Value.string) :=
 ⟨by simp, .inr ⟨q, V.length, _, rfl, hB, hq, Nat.le_refl _, hl, by simp, by simp [List.take_of_length_le]⟩⟩
def MPPost (w : World) (r : Option MatB) (e : Ending) (w' : World) : Prop := match r with
 | none => e = .returned (.tuple #[.agg #[.int .i64 0, .string ⟨#[]⟩, .slice none 0 0], .int .i64 3]) ∧ Keeps [] w w'
 | some m => ∃ v, e = .returned (.tuple #[.agg #[.int .i64 m.1, .string m.2.1, v], .int .i64 0]) ∧ w'.ownsRow w.heap.size 9 1 v m.2.2.length (m.2.2.map Value.string) ∧ Keeps [] w w'
theorem mppost_none {w w' : World} {e : Ending} (h : e = .returned (.tuple #[.agg #[.int .i64 0, .string ⟨#[]⟩, .slice none 0 0], .int .i64 3]) ∧ Keeps [] w w') : MPPost w none e w' := h
theorem mppost_some {w w' : World} {m : MatB} {e : Ending} (h : ∃ v, e = .returned (.tuple #[.agg #[.int .i64 m.1, .string m.2.1, v], .int .i64 0]) ∧ w'.ownsRow w.heap.size 9 1 v m.2.2.length (m.2.2.map Value.string) ∧ Keeps [] w w') : MPPost w (some m) e w' := h
theorem signs4_ascii : asciiB ⟨#[61, 33, 94, 64]⟩ := by
 intro j b h
 match j with
 | 0 => cases h; decide
 | 1 => cases h; decide
 | 2 => cases h; decide
 | 3 => cases h; decide
 | n + 4 => simp at h
theorem set3 {w : World} {p : Nat} {x y z : Value} {t : TypeId} (h : w.heap[p]? = some (.cells #[x, y, z] t (0, 0))) (a b c : Value) :
  ∃ W, W = ((w.setCell ⟨p, 0, none⟩ a).setCell ⟨p, 1, none⟩ b).setCell ⟨p, 2, none⟩ c ∧ W.heap[p]? = some (.cells #[a, b, c] t (0, 0)) ∧ Keeps [p] w W :=
 ⟨_, rfl, by simpa using heap_cell_same (i := 2) (heap_cell_same (i := 1) (heap_cell_same (i := 0) h a) b) c, (((Keeps.refl _ w).setCell (.inl (by simp)) _).setCell (.inl (by simp)) _).setCell (.inl (by simp)) _⟩
def zeroMat : Obj := .cells #[.int .i64 0, .string ⟨#[]⟩, .slice none 0 0] 56
def PickAt (w : World) (p5 : Nat) (name : ByteArray) (kv : Int × List ByteArray) (wc : World) : Prop :=
 ∃ v, wc.heap[p5]? = some (.cells #[.int .i64 kv.1, .string name, v] 56 (0, 0)) ∧ wc.ownsRow w.heap.size 9 1 v kv.2.length (kv.2.map Value.string) ∧ wc.heap[w.heap.size]? = some zeroMat ∧ Keeps [] w wc
def MQRel (W : World) (rs : ByteArray) (gk : Nat) (u24 : Value) (wr : World) : Prop := ∃ j, j ≤ 4 ∧ gk = 4 - j ∧ u24 = .int .i64 j ∧ (∀ i, i < j → preB rs (signOf (kindAt i)) = false) ∧ wr = W
theorem mparseA_spec (w : World) (hsg : SignsAt w) (hv : LibVar w) (s : ByteArray) (hs : s.size ≤ 1000000) :
  Calls Tryz.prog 44 #[.string s] w (MPPost w (mparseB s)) := by
 obtain ⟨z, hz⟩ : ∃ z, z = idxB s := ⟨_, rfl⟩
 obtain ⟨R, hR⟩ : ∃ R, R = mparseB s := ⟨_, rfl⟩
 rw [← hR]
 have hge := Lib.indexAny_ge [61, 33, 94, 64] s.data.toList
 have hle := indexAny_le [61, 33, 94, 64] s.data.toList
 have hsz : s.data.toList.length = s.size := by simp
 rw [hsz] at hle
 change -1 ≤ idxB s at hge
 change idxB s ≤ (s.size : Int) at hle
 rw [← hz] at hge hle
 have HR := Lib.hid (show R = (if z < 0 then none else if chkB ((pickB (s.extract z.toNat s.size)).1, s.extract 0 z.toNat, (pickB (s.extract z.toNat s.size)).2) = true then some ((pickB (s.extract z.toNat s.size)).1, s.extract 0 z.toNat, (pickB (s.extract z.toNat s.size)).2) else none) from by rw [hR, hz]; rfl)
 have HZ := Lib.hid hz
 clear hR hz hsz
 have HG := Lib.hid (And.intro hsg hv)
 clear hsg hv
 have n0 := heap_new w zeroMat
 have k0 : Keeps [] w (w.alloc zeroMat) := (Keeps.refl [] w).alloc _
 have H0 := Lib.hid (And.intro n0 k0)
 clear n0 k0
 go_enter Tryz.func44, Tryz.ntmps44
 go_wp2_with fail
 refine (indexAny_spec _ s ⟨#[61, 33, 94, 64]⟩ signs4_ascii (by decide) (by decide) (by omega)).mono ?_
 rintro e w1 ⟨rfl, hk1⟩
 change Keeps [] (w.alloc zeroMat) w1 at hk1
 rw [show Lib.indexAny s.data.toList (⟨#[61, 33, 94, 64]⟩ : ByteArray).data.toList = z from HZ.out.symm]
 have H1 := Lib.hid (And.intro (hk1.at_ H0.out.1 (by simp)) (H0.out.2.trans hk1))
 clear hk1 H0
 have lz := lt_of_at H1.out.1
 have fz := free_at H1.out.1
 have cz0 : w1.cell? ⟨w.heap.size, 0, none⟩ = some (.int .i64 0) := cells_at H1.out.1 0
 have cz1 : w1.cell? ⟨w.heap.size, 1, none⟩ = some (.string ⟨#[]⟩) := cells_at H1.out.1 1
 have cz2 : w1.cell? ⟨w.heap.size, 2, none⟩ = some (.slice none 0 0) := cells_at H1.out.1 2
 by_cases hz0 : z < 0
 ·go_wp2_with fail
  obtain ⟨W9, hW9, n9, k9⟩ := set3 H1.out.1 (.int .i64 0) (.string ⟨#[]⟩) (.slice none 0 0)
  rw [← hW9]
  have x0 : W9.cell? ⟨w.heap.size, 0, none⟩ = some (.int .i64 0) := cells_at n9 0
  have x1 : W9.cell? ⟨w.heap.size, 1, none⟩ = some (.string ⟨#[]⟩) := cells_at n9 1
  have x2 : W9.cell? ⟨w.heap.size, 2, none⟩ = some (.slice none 0 0) := cells_at n9 2
  refine bodyPost_ret (v := .tuple #[.agg #[.int .i64 0, .string ⟨#[]⟩, .slice none 0 0], .int .i64 3]) (by simp [results, Tryz.results44, go_sem, x0, x1, x2]) rfl ?_
  rw [HR.out, if_pos hz0]
  exact mppost_none ⟨rfl, H1.out.2.after k9 (fun y hy => .inr (by rw [show y = w.heap.size from (by simpa using hy)]; exact Nat.le_refl _))⟩
 ·clear cz0 cz1 cz2 fz
  obtain ⟨i, rfl⟩ : ∃ i : Nat, z = (i : Int) := ⟨z.toNat, by omega⟩
  have his : i ≤ s.size := by omega
  rw [if_neg hz0, show ((i : Int)).toNat = i from by omega] at HR
  clear hz0 HZ
  obtain ⟨name, hnm⟩ : ∃ x, x = s.extract 0 i := ⟨_, rfl⟩
  obtain ⟨rs, hrs⟩ : ∃ x, x = s.extract i s.size := ⟨_, rfl⟩
  rw [← hnm, ← hrs] at HR
  have hnz : name.size ≤ s.size := by rw [hnm]; simp; omega
  have hrz : rs.size ≤ s.size := by rw [hrs]; simp
  have Hn := Lib.hid (And.intro hnm hrs)
  clear hnm hrs
  have hgo : (0 : Int) ≤ (i : Int) := by omega
  go_upto_block 0 with fail
  have kA : Keeps [] w1 (w1.alloc (.cells #[.int .i64 0, .string (s.extract 0 i), .slice none 0 0] 56)) := (Keeps.refl [] w1).alloc _
  have kW := H1.out.2.trans kA
  have H2 := Lib.hid (And.intro (heap_new w1 (.cells #[.int .i64 0, .string (s.extract 0 i), .slice none 0 0] 56)) (And.intro (kA.at_ H1.out.1 (by simp)) (And.intro (HG.out.1.keep kW) (And.intro (HG.out.2.keep kW (by simp)) kW))))
  clear kA kW H1
  generalize w1.alloc (.cells #[.int .i64 0, .string (s.extract 0 i), .slice none 0 0] 56) = W at H2 ⊢
  generalize w1.heap.size = p5 at H2 lz ⊢
  rw [← Hn.out.1] at H2 ⊢
  rw [← Hn.out.2]
  clear Hn hgo hge hle his
  have HP := Lib.hid lz
  go_cut [8, 9, 10] from 24 to 46 (fun _ _ _ wc => PickAt w p5 name (pickB rs) wc)
  case first =>
   go_wp2_with fail
   go_loopg [24] 4 (fun gk u24 wr => MQRel W rs gk u24 wr)
   case atStart => exact ⟨0, Nat.zero_le _, rfl, rfl, fun i hi => by omega, rfl⟩
   case round =>
    obtain ⟨j, hj, hgk, rfl, hbef, hw⟩ := hrel
    subst hw
    have Hg := Lib.hid (And.intro hgk hbef)
    clear hgk hbef
    obtain ⟨x0, x1, x2, x3⟩ := kinds_at wr
    have g1 := H2.out.2.2.1.1
    have g2 := H2.out.2.2.1.2.1
    have g3 := H2.out.2.2.1.2.2.1
    have g4 := H2.out.2.2.1.2.2.2
    have f5 := free_at H2.out.1
    have l5 := lt_of_at H2.out.1
    have y0 : wr.cell? ⟨p5, 0, none⟩ = some (.int .i64 0) := cells_at H2.out.1 0
    have y1 : wr.cell? ⟨p5, 1, none⟩ = some (.string name) := cells_at H2.out.1 1
    have y2 : wr.cell? ⟨p5, 2, none⟩ = some (.slice none 0 0) := cells_at H2.out.1 2
    match j, hj with
    | 0, _ =>
     cases hp : preB rs (signOf 2) with
     | false =>
      have hpp : Lib.hasPrefix rs.data.toList (signOf 2).data.toList = false := hp
      have Hp := Lib.hid hp
      clear hp
      go_wp2_with fail
      refine (Tryz.strings_CutPrefix rs _ _).mono ?_
      rintro e w5 ⟨rfl, rfl⟩
      rw [hpp]
      clear hpp
      go_wp2_with fail
      go_roundg 3
      case measure => have := Hg.out.1; omega
      case rel =>
       refine ⟨1, by omega, rfl, by go_num, fun i hi => ?_, rfl⟩
       by_cases e : i < 0
       ·exact Hg.out.2 i e
       ·obtain rfl : i = 0 := by omega
        exact Hp.out
     | true =>
      have hpp : Lib.hasPrefix rs.data.toList (signOf 2).data.toList = true := hp
      have HK := Lib.hid (show pickB rs = (2, [trimB rs (signOf 2)]) from by
       have b0 := hp
       unfold pickB
       rw [if_pos b0])
      clear hp
      go_wp2_with fail
      refine (Tryz.strings_CutPrefix rs _ _).mono ?_
      rintro e w5 ⟨rfl, rfl⟩
      rw [hpp]
      clear hpp
      go_wp2_with fail
      clear y0 y1 y2 f5 l5 g1 g2 g3 g4 x0 x1 x2 x3
      rw [show (⟨(Lib.trimPrefix rs.data.toList (signOf 2).data.toList).toArray⟩ : ByteArray) = trimB rs (signOf 2) from rfl]
      have g0 := heap_cell_same (i := 2) (heap_cell_same (i := 0) H2.out.1 (.int .i64 2)) (.slice (some ⟨w5.heap.size, 0, none⟩) 1 1)
      have kS : Keeps [p5] w5 ((w5.setCell ⟨p5, 0, none⟩ (.int .i64 2)).setCell ⟨p5, 2, none⟩ (.slice (some ⟨w5.heap.size, 0, none⟩) 1 1)) := ((Keeps.refl _ w5).setCell (.inl (by simp)) _).setCell (.inl (by simp)) _
      have kA : Keeps [] ((w5.setCell ⟨p5, 0, none⟩ (.int .i64 2)).setCell ⟨p5, 2, none⟩ (.slice (some ⟨w5.heap.size, 0, none⟩) 1 1)) (((w5.setCell ⟨p5, 0, none⟩ (.int .i64 2)).setCell ⟨p5, 2, none⟩ (.slice (some ⟨w5.heap.size, 0, none⟩) 1 1)).alloc (.cells #[.string (trimB rs (signOf 2))] 9)) := (Keeps.refl _ _).alloc _
      have n5 := kA.at_ g0 (by simp)
      have n2 := kA.at_ (kS.at_ H2.out.2.1 (by have := HP.out; simp; omega)) (by simp)
      have nq := heap_new ((w5.setCell ⟨p5, 0, none⟩ (.int .i64 2)).setCell ⟨p5, 2, none⟩ (.slice (some ⟨w5.heap.size, 0, none⟩) 1 1)) (.cells #[.string (trimB rs (signOf 2))] 9)
      rw [show ((w5.setCell ⟨p5, 0, none⟩ (.int .i64 2)).setCell ⟨p5, 2, none⟩ (.slice (some ⟨w5.heap.size, 0, none⟩) 1 1)).heap.size = w5.heap.size from by simp] at nq
      have hk6 := (H2.out.2.2.2.2.after kS (fun y hy => .inr (by rw [show y = p5 from (by simpa using hy)]; exact Nat.le_of_lt HP.out))).trans kA
      have hq5 := H2.out.2.2.2.2.size
      have lv6 := H2.out.2.2.2.1.keep kS (by have := HG.out.2.lt; have := HP.out; simp; omega) |>.keep kA (by simp)
      generalize ((w5.setCell ⟨p5, 0, none⟩ (.int .i64 2)).setCell ⟨p5, 2, none⟩ (.slice (some ⟨w5.heap.size, 0, none⟩) 1 1)).alloc (.cells #[.string (trimB rs (signOf 2))] 9) = W6 at n5 n2 nq hk6 lv6 ⊢
      go_meet
      rw [HK.out]
      exact ⟨_, by simpa using n5, own_cells (V := [trimB rs (signOf 2)]) hq5 nq (by simp [maxLen]), n2, hk6⟩
    | 1, _ =>
     cases hp : preB rs (signOf 1) with
     | false =>
      have hpp : Lib.hasPrefix rs.data.toList (signOf 1).data.toList = false := hp
      have Hp := Lib.hid hp
      clear hp
      go_wp2_with fail
      refine (Tryz.strings_CutPrefix rs _ _).mono ?_
      rintro e w5 ⟨rfl, rfl⟩
      rw [hpp]
      clear hpp
      go_wp2_with fail
      go_roundg 2
      case measure => have := Hg.out.1; omega
      case rel =>
       refine ⟨2, by omega, rfl, by go_num, fun i hi => ?_, rfl⟩
       by_cases e : i < 1
       ·exact Hg.out.2 i e
       ·obtain rfl : i = 1 := by omega
        exact Hp.out
     | true =>
      have hpp : Lib.hasPrefix rs.data.toList (signOf 1).data.toList = true := hp
      have HK := Lib.hid (show pickB rs = (1, [trimB rs (signOf 1)]) from by
       have b0 := hp
       have c0 := Hg.out.2 0 (by omega)
       simp only [kindAt] at c0
       unfold pickB
       rw [if_neg (by rw [c0]; decide), if_pos b0])
      clear hp
      go_wp2_with fail
      refine (Tryz.strings_CutPrefix rs _ _).mono ?_
      rintro e w5 ⟨rfl, rfl⟩
      rw [hpp]
      clear hpp
      go_wp2_with fail
      clear y0 y1 y2 f5 l5 g1 g2 g3 g4 x0 x1 x2 x3
      rw [show (⟨(Lib.trimPrefix rs.data.toList (signOf 1).data.toList).toArray⟩ : ByteArray) = trimB rs (signOf 1) from rfl]
      have g0 := heap_cell_same (i := 2) (heap_cell_same (i := 0) H2.out.1 (.int .i64 1)) (.slice (some ⟨w5.heap.size, 0, none⟩) 1 1)
      have kS : Keeps [p5] w5 ((w5.setCell ⟨p5, 0, none⟩ (.int .i64 1)).setCell ⟨p5, 2, none⟩ (.slice (some ⟨w5.heap.size, 0, none⟩) 1 1)) := ((Keeps.refl _ w5).setCell (.inl (by simp)) _).setCell (.inl (by simp)) _
      have kA : Keeps [] ((w5.setCell ⟨p5, 0, none⟩ (.int .i64 1)).setCell ⟨p5, 2, none⟩ (.slice (some ⟨w5.heap.size, 0, none⟩) 1 1)) (((w5.setCell ⟨p5, 0, none⟩ (.int .i64 1)).setCell ⟨p5, 2, none⟩ (.slice (some ⟨w5.heap.size, 0, none⟩) 1 1)).alloc (.cells #[.string (trimB rs (signOf 1))] 9)) := (Keeps.refl _ _).alloc _
      have n5 := kA.at_ g0 (by simp)
      have n2 := kA.at_ (kS.at_ H2.out.2.1 (by have := HP.out; simp; omega)) (by simp)
      have nq := heap_new ((w5.setCell ⟨p5, 0, none⟩ (.int .i64 1)).setCell ⟨p5, 2, none⟩ (.slice (some ⟨w5.heap.size, 0, none⟩) 1 1)) (.cells #[.string (trimB rs (signOf 1))] 9)
      rw [show ((w5.setCell ⟨p5, 0, none⟩ (.int .i64 1)).setCell ⟨p5, 2, none⟩ (.slice (some ⟨w5.heap.size, 0, none⟩) 1 1)).heap.size = w5.heap.size from by simp] at nq
      have hk6 := (H2.out.2.2.2.2.after kS (fun y hy => .inr (by rw [show y = p5 from (by simpa using hy)]; exact Nat.le_of_lt HP.out))).trans kA
      have hq5 := H2.out.2.2.2.2.size
      have lv6 := H2.out.2.2.2.1.keep kS (by have := HG.out.2.lt; have := HP.out; simp; omega) |>.keep kA (by simp)
      generalize ((w5.setCell ⟨p5, 0, none⟩ (.int .i64 1)).setCell ⟨p5, 2, none⟩ (.slice (some ⟨w5.heap.size, 0, none⟩) 1 1)).alloc (.cells #[.string (trimB rs (signOf 1))] 9) = W6 at n5 n2 nq hk6 lv6 ⊢
      go_meet
      rw [HK.out]
      exact ⟨_, by simpa using n5, own_cells (V := [trimB rs (signOf 1)]) hq5 nq (by simp [maxLen]), n2, hk6⟩
    | 2, _ =>
     cases hp : preB rs (signOf 3) with
     | false =>
      have hpp : Lib.hasPrefix rs.data.toList (signOf 3).data.toList = false := hp
      have Hp := Lib.hid hp
      clear hp
      go_wp2_with fail
      refine (Tryz.strings_CutPrefix rs _ _).mono ?_
      rintro e w5 ⟨rfl, rfl⟩
      rw [hpp]
      clear hpp
      go_wp2_with fail
      go_roundg 1
      case measure => have := Hg.out.1; omega
      case rel =>
       refine ⟨3, by omega, rfl, by go_num, fun i hi => ?_, rfl⟩
       by_cases e : i < 2
       ·exact Hg.out.2 i e
       ·obtain rfl : i = 2 := by omega
        exact Hp.out
     | true =>
      have hpp : Lib.hasPrefix rs.data.toList (signOf 3).data.toList = true := hp
      have HK := Lib.hid (show pickB rs = (3, [trimB rs (signOf 3)]) from by
       have b0 := hp
       have c0 := Hg.out.2 0 (by omega)
       simp only [kindAt] at c0
       have c1 := Hg.out.2 1 (by omega)
       simp only [kindAt] at c1
       unfold pickB
       rw [if_neg (by rw [c0]; decide), if_neg (by rw [c1]; decide), if_pos b0])
      clear hp
      go_wp2_with fail
      refine (Tryz.strings_CutPrefix rs _ _).mono ?_
      rintro e w5 ⟨rfl, rfl⟩
      rw [hpp]
      clear hpp
      go_wp2_with fail
      clear y0 y1 y2 f5 l5 g1 g2 g3 g4 x0 x1 x2 x3
      rw [show (⟨(Lib.trimPrefix rs.data.toList (signOf 3).data.toList).toArray⟩ : ByteArray) = trimB rs (signOf 3) from rfl]
      have g0 := heap_cell_same (i := 2) (heap_cell_same (i := 0) H2.out.1 (.int .i64 3)) (.slice (some ⟨w5.heap.size, 0, none⟩) 1 1)
      have kS : Keeps [p5] w5 ((w5.setCell ⟨p5, 0, none⟩ (.int .i64 3)).setCell ⟨p5, 2, none⟩ (.slice (some ⟨w5.heap.size, 0, none⟩) 1 1)) := ((Keeps.refl _ w5).setCell (.inl (by simp)) _).setCell (.inl (by simp)) _
      have kA : Keeps [] ((w5.setCell ⟨p5, 0, none⟩ (.int .i64 3)).setCell ⟨p5, 2, none⟩ (.slice (some ⟨w5.heap.size, 0, none⟩) 1 1)) (((w5.setCell ⟨p5, 0, none⟩ (.int .i64 3)).setCell ⟨p5, 2, none⟩ (.slice (some ⟨w5.heap.size, 0, none⟩) 1 1)).alloc (.cells #[.string (trimB rs (signOf 3))] 9)) := (Keeps.refl _ _).alloc _
      have n5 := kA.at_ g0 (by simp)
      have n2 := kA.at_ (kS.at_ H2.out.2.1 (by have := HP.out; simp; omega)) (by simp)
      have nq := heap_new ((w5.setCell ⟨p5, 0, none⟩ (.int .i64 3)).setCell ⟨p5, 2, none⟩ (.slice (some ⟨w5.heap.size, 0, none⟩) 1 1)) (.cells #[.string (trimB rs (signOf 3))] 9)
      rw [show ((w5.setCell ⟨p5, 0, none⟩ (.int .i64 3)).setCell ⟨p5, 2, none⟩ (.slice (some ⟨w5.heap.size, 0, none⟩) 1 1)).heap.size = w5.heap.size from by simp] at nq
      have hk6 := (H2.out.2.2.2.2.after kS (fun y hy => .inr (by rw [show y = p5 from (by simpa using hy)]; exact Nat.le_of_lt HP.out))).trans kA
      have hq5 := H2.out.2.2.2.2.size
      have lv6 := H2.out.2.2.2.1.keep kS (by have := HG.out.2.lt; have := HP.out; simp; omega) |>.keep kA (by simp)
      generalize ((w5.setCell ⟨p5, 0, none⟩ (.int .i64 3)).setCell ⟨p5, 2, none⟩ (.slice (some ⟨w5.heap.size, 0, none⟩) 1 1)).alloc (.cells #[.string (trimB rs (signOf 3))] 9) = W6 at n5 n2 nq hk6 lv6 ⊢
      go_meet
      rw [HK.out]
      exact ⟨_, by simpa using n5, own_cells (V := [trimB rs (signOf 3)]) hq5 nq (by simp [maxLen]), n2, hk6⟩
    | 3, _ =>
     cases hp : preB rs (signOf 4) with
     | false =>
      have hpp : Lib.hasPrefix rs.data.toList (signOf 4).data.toList = false := hp
      have Hp := Lib.hid hp
      clear hp
      go_wp2_with fail
      refine (Tryz.strings_CutPrefix rs _ _).mono ?_
      rintro e w5 ⟨rfl, rfl⟩
      rw [hpp]
      clear hpp
      go_wp2_with fail
      go_roundg 0
      case measure => have := Hg.out.1; omega
      case rel =>
       refine ⟨4, by omega, rfl, by go_num, fun i hi => ?_, rfl⟩
       by_cases e : i < 3
       ·exact Hg.out.2 i e
       ·obtain rfl : i = 3 := by omega
        exact Hp.out
     | true =>
      have hpp : Lib.hasPrefix rs.data.toList (signOf 4).data.toList = true := hp
      have HK := Lib.hid (show pickB rs = (4, partsC 124 (trimB rs (signOf 4))) from by
       have b0 := hp
       have c0 := Hg.out.2 0 (by omega)
       simp only [kindAt] at c0
       have c1 := Hg.out.2 1 (by omega)
       simp only [kindAt] at c1
       have c2 := Hg.out.2 2 (by omega)
       simp only [kindAt] at c2
       unfold pickB
       rw [if_neg (by rw [c0]; decide), if_neg (by rw [c1]; decide), if_neg (by rw [c2]; decide), if_pos b0])
      clear hp
      go_wp2_with fail
      refine (Tryz.strings_CutPrefix rs _ _).mono ?_
      rintro e w5 ⟨rfl, rfl⟩
      rw [hpp]
      clear hpp
      go_wp2_with fail
      clear y0 y1 y2 f5 l5 g1 g2 g3 g4 x0 x1 x2 x3
      rw [show (⟨(Lib.trimPrefix rs.data.toList (signOf 4).data.toList).toArray⟩ : ByteArray) = trimB rs (signOf 4) from rfl]
      have g0 := heap_cell_same (i := 2) (heap_cell_same (i := 0) H2.out.1 (.int .i64 4)) (.slice (some ⟨w5.heap.size, 0, none⟩) 1 1)
      have kS : Keeps [p5] w5 ((w5.setCell ⟨p5, 0, none⟩ (.int .i64 4)).setCell ⟨p5, 2, none⟩ (.slice (some ⟨w5.heap.size, 0, none⟩) 1 1)) := ((Keeps.refl _ w5).setCell (.inl (by simp)) _).setCell (.inl (by simp)) _
      have kA : Keeps [] ((w5.setCell ⟨p5, 0, none⟩ (.int .i64 4)).setCell ⟨p5, 2, none⟩ (.slice (some ⟨w5.heap.size, 0, none⟩) 1 1)) (((w5.setCell ⟨p5, 0, none⟩ (.int .i64 4)).setCell ⟨p5, 2, none⟩ (.slice (some ⟨w5.heap.size, 0, none⟩) 1 1)).alloc (.cells #[.string (trimB rs (signOf 4))] 9)) := (Keeps.refl _ _).alloc _
      have n5 := kA.at_ g0 (by simp)
      have n2 := kA.at_ (kS.at_ H2.out.2.1 (by have := HP.out; simp; omega)) (by simp)
      have nq := heap_new ((w5.setCell ⟨p5, 0, none⟩ (.int .i64 4)).setCell ⟨p5, 2, none⟩ (.slice (some ⟨w5.heap.size, 0, none⟩) 1 1)) (.cells #[.string (trimB rs (signOf 4))] 9)
      rw [show ((w5.setCell ⟨p5, 0, none⟩ (.int .i64 4)).setCell ⟨p5, 2, none⟩ (.slice (some ⟨w5.heap.size, 0, none⟩) 1 1)).heap.size = w5.heap.size from by simp] at nq
      have hk6 := (H2.out.2.2.2.2.after kS (fun y hy => .inr (by rw [show y = p5 from (by simpa using hy)]; exact Nat.le_of_lt HP.out))).trans kA
      have hq5 := H2.out.2.2.2.2.size
      have lv6 := H2.out.2.2.2.1.keep kS (by have := HG.out.2.lt; have := HP.out; simp; omega) |>.keep kA (by simp)
      generalize ((w5.setCell ⟨p5, 0, none⟩ (.int .i64 4)).setCell ⟨p5, 2, none⟩ (.slice (some ⟨w5.heap.size, 0, none⟩) 1 1)).alloc (.cells #[.string (trimB rs (signOf 4))] 9) = W6 at n5 n2 nq hk6 lv6 ⊢
      have Hsp := Lib.hid (splitS_spec W6 lv6 124 (trimB rs (signOf 4)) (by have := trimB_size rs (signOf 4); omega))
      have H6 := Lib.hid (And.intro n5 (And.intro n2 hk6))
      clear n5 n2 nq hk6 lv6 g0 kS kA
      go_wp2_with fail
      refine Hsp.out.mono ?_
      rintro e W7 ⟨rfl, hW7⟩
      have hpz := parts_sizes 124 _ (trimB rs (signOf 4)) (Nat.le_refl _)
      have htz := trimB_size rs (signOf 4)
      have kB : Keeps [] W6 W7 := by rw [hW7]; exact (Keeps.refl [] W6).alloc _
      have l6 := lt_of_at H6.out.1
      have nq7 : W7.heap[W6.heap.size]? = some (.cells ((partsC 124 (trimB rs (signOf 4))).map Value.string).toArray 9 (0, 0)) := by rw [hW7]; exact heap_new W6 _
      have H7 := Lib.hid (And.intro nq7 (go1 kB H6.out))
      have HZ := Lib.hid (show (partsC 124 (trimB rs (signOf 4))).length ≤ maxLen from by have := hpz.1; simp only [maxLen]; omega)
      clear kB nq7 hW7 hpz htz H6 Hsp
      generalize partsC 124 (trimB rs (signOf 4)) = V at H7 HZ HK ⊢
      have f5 := free_at H7.out.2.1
      have l5 := lt_of_at H7.out.2.1
      have y0 : W7.cell? ⟨p5, 0, none⟩ = some (.int .i64 4) := (cells_at H7.out.2.1 0).trans (by simp)
      have y1 : W7.cell? ⟨p5, 1, none⟩ = some (.string name) := (cells_at H7.out.2.1 1).trans (by simp)
      have y2 : W7.cell? ⟨p5, 2, none⟩ = some (.slice (some ⟨w5.heap.size, 0, none⟩) 1 1) := (cells_at H7.out.2.1 2).trans (by simp)
      go_wp2_with fail
      clear y0 y1 y2 f5 l5
      go_meet
      rw [HK.out]
      have m5 := heap_cell_same (i := 2) H7.out.2.1 (.slice (some ⟨W6.heap.size, 0, none⟩) V.length V.length)
      have kC : Keeps [p5] W7 (W7.setCell ⟨p5, 2, none⟩ (.slice (some ⟨W6.heap.size, 0, none⟩) V.length V.length)) := (Keeps.refl _ W7).setCell (.inl (by simp)) _
      have hpp := HP.out
      exact ⟨_, by simpa using m5, own_cells (V := V) (by omega) (kC.at_ H7.out.1 (by simp; omega)) HZ.out, kC.at_ H7.out.2.2.1 (by simp; omega), H7.out.2.2.2.after kC (fun y hy => .inr (by rw [show y = p5 from (by simpa using hy)]; omega))⟩
    | 4, _ =>
     have hk0 : pickB rs = (0, []) := by
      have c0 := Hg.out.2 0 (by omega)
      have c1 := Hg.out.2 1 (by omega)
      have c2 := Hg.out.2 2 (by omega)
      have c3 := Hg.out.2 3 (by omega)
      simp only [kindAt] at c0 c1 c2 c3
      unfold pickB
      rw [if_neg (by rw [c0]; decide), if_neg (by rw [c1]; decide), if_neg (by rw [c2]; decide), if_neg (by rw [c3]; decide)]
     have HK := Lib.hid hk0
     clear hk0 y0 y1 y2 f5 l5 g1 g2 g3 g4 x0 x1 x2 x3
     go_wp2_with fail
     go_meet
     rw [HK.out]
     exact ⟨_, H2.out.1, World.ownsRow_nil _ _ _ 1, H2.out.2.1, H2.out.2.2.2.2⟩
    | n + 5, h => exact absurd h (by omega)
  case rest =>
   obtain ⟨v, n5, hrow, n2, hkc⟩ := hcut
   have hps := pick_sizes rs
   generalize pickB rs = kv at n5 hrow hps HR
   obtain ⟨k, V⟩ := kv
   dsimp only at n5 hrow hps HR
   have y0 : wc.cell? ⟨p5, 0, none⟩ = some (.int .i64 k) := cells_at n5 0
   have y1 : wc.cell? ⟨p5, 1, none⟩ = some (.string name) := cells_at n5 1
   have y2 : wc.cell? ⟨p5, 2, none⟩ = some v := cells_at n5 2
   obtain ⟨av, cv, rfl, -, -, -⟩ := row_slice hrow
   have HC := Lib.hid (And.intro n5 (And.intro hrow (And.intro n2 hkc)))
   have HS := Lib.hid hps
   clear n5 hrow n2 hkc hps H2
   go_wp2_with fail
   refine (mcheck_spec _ k name _ V (row_texts HC.out.2.1) (by omega) (fun x hx => by have := HS.out.2 x hx; omega)).mono ?_
   rintro e w6 ⟨rfl, hk6⟩
   have H6 := Lib.hid (go1 hk6 HC.out)
   clear hk6 HC y0 y1 y2
   have lz := lt_of_at H6.out.2.2.1
   have fz := free_at H6.out.2.2.1
   have cz0 : w6.cell? ⟨w.heap.size, 0, none⟩ = some (.int .i64 0) := cells_at H6.out.2.2.1 0
   have cz1 : w6.cell? ⟨w.heap.size, 1, none⟩ = some (.string ⟨#[]⟩) := cells_at H6.out.2.2.1 1
   have cz2 : w6.cell? ⟨w.heap.size, 2, none⟩ = some (.slice none 0 0) := cells_at H6.out.2.2.1 2
   have l5 := lt_of_at H6.out.1
   have y0 : w6.cell? ⟨p5, 0, none⟩ = some (.int .i64 k) := cells_at H6.out.1 0
   have y1 : w6.cell? ⟨p5, 1, none⟩ = some (.string name) := cells_at H6.out.1 1
   have y2 : w6.cell? ⟨p5, 2, none⟩ = some (.slice av V.length cv) := cells_at H6.out.1 2
   cases hcb : chkB (k, name, V) with
   | false =>
    rw [show errB false = 1 from rfl]
    rw [hcb, if_neg (by decide)] at HR
    clear hcb
    go_wp2_with fail
    obtain ⟨W9, hW9, n9, k9⟩ := set3 H6.out.2.2.1 (.int .i64 0) (.string ⟨#[]⟩) (.slice none 0 0)
    rw [← hW9]
    have x0 : W9.cell? ⟨w.heap.size, 0, none⟩ = some (.int .i64 0) := cells_at n9 0
    have x1 : W9.cell? ⟨w.heap.size, 1, none⟩ = some (.string ⟨#[]⟩) := cells_at n9 1
    have x2 : W9.cell? ⟨w.heap.size, 2, none⟩ = some (.slice none 0 0) := cells_at n9 2
    refine bodyPost_ret (v := .tuple #[.agg #[.int .i64 0, .string ⟨#[]⟩, .slice none 0 0], .int .i64 3]) (by simp [results, Tryz.results44, go_sem, x0, x1, x2]) rfl ?_
    rw [HR.out]
    exact mppost_none ⟨rfl, H6.out.2.2.2.after k9 (fun y hy => .inr (by rw [show y = w.heap.size from (by simpa using hy)]; exact Nat.le_refl _))⟩
   | true =>
    rw [show errB true = 0 from rfl]
    rw [hcb, if_pos rfl] at HR
    clear hcb
    go_wp2_with fail
    obtain ⟨W9, hW9, n9, k9⟩ := set3 H6.out.2.2.1 (.int .i64 k) (.string name) (.slice av V.length cv)
    rw [← hW9]
    have x0 : W9.cell? ⟨w.heap.size, 0, none⟩ = some (.int .i64 k) := cells_at n9 0
    have x1 : W9.cell? ⟨w.heap.size, 1, none⟩ = some (.string name) := cells_at n9 1
    have x2 : W9.cell? ⟨w.heap.size, 2, none⟩ = some (.slice av V.length cv) := cells_at n9 2
    refine bodyPost_ret (v := .tuple #[.agg #[.int .i64 k, .string name, .slice av V.length cv], .int .i64 0]) (by simp [results, Tryz.results44, go_sem, x0, x1, x2]) rfl ?_
    rw [HR.out]
    exact mppost_some ⟨_, rfl, k9.row H6.out.2.1 (fun g hg => fun hm => row_ne_cells H6.out.2.1 H6.out.2.2.1 (by decide) g hg (by simpa using hm)), H6.out.2.2.2.after k9 (fun y hy => .inr (by rw [show y = w.heap.size from (by simpa using hy)]; exact Nat.le_refl _))⟩
end Go.Proofs.YtgcfkhcogllgfaaGreatDoor
