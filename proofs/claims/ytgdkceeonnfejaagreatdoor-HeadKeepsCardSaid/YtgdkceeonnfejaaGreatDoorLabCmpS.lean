/-
  label.Compare of any two sets, walked: the document's Compare; its world is the one ahead, with draws and new blocks alone.
  The first set is of few pairs.

  slices.SortFunc on rows of a table, by their labels (head's rows): the closure walked; the rows then rise.
  At most 1000 rows, of different labels.
-/
import Derived.Test.YtgdkceeonnfejaaGreatDoorTabMk
import Derived.Test.YtgdkceeonnfejaaGreatDoorLabCmpG
import Derived.Deep.CutRange
import Derived.Test.YtgdkceeonnfejaaGreatDoorShelfR
namespace Go.Proofs.YtgdkceeonnfejaaGreatDoor
set_option maxRecDepth 100000
set_option maxHeartbeats 2000000
set_option linter.unusedSimpArgs false
open Go Go.RowKit Go.Conc Go.Sort
open Go.Op (bytesLess)
def Lays (w w' : World) : Prop := ∃ q os, w' = grow (w.drewN q) os
section
variable {w a b : World}
theorem Lays.refl (w : World) : Lays w w := ⟨0, #[], (grow_empty _).symm⟩
theorem Lays.alloc (h : Lays w a) (o : Obj) : Lays w (a.alloc o) := by
 obtain ⟨q, os, rfl⟩ := h
 exact ⟨q, os ++ #[o], by rw [alloc_eq_grow, grow_grow]⟩
theorem Lays.drewN (h : Lays w a) (n : Nat) : Lays w (a.drewN n) := by
 obtain ⟨q, os, rfl⟩ := h
 exact ⟨q + n, os, by rw [← World.drewN_drewN]; rfl⟩
theorem Lays.drew (h : Lays w a) : Lays w a.drew := h.drewN 1
theorem Lays.trans (h : Lays w a) (k : Lays a b) : Lays w b := by
 obtain ⟨q, os, rfl⟩ := h
 obtain ⟨p, os', rfl⟩ := k
 exact ⟨q + p, os ++ os', by rw [← World.drewN_drewN, ← grow_grow]; rfl⟩
theorem Lays.keeps (h : Lays w a) : Keeps [] w a := by
 obtain ⟨q, os, rfl⟩ := h
 exact ⟨rfl, rfl, rfl, by simp [grow], fun k hk _ => heap_grow_old _ _ (by simpa using hk)⟩
end
theorem cmp1_ltS (x y : PairB) (h : ltP x y) (W : World) : Calls Tryz.prog 102 #[.agg #[.string x.1, .string x.2], .agg #[.string y.1, .string y.2]] W fun e w' => e = .returned (.int .i64 (-1)) ∧ Lays W w' := by
 have kW : Lays W ((W.alloc (.cells #[.string x.1, .string x.2] 149)).alloc (.cells #[.string y.1, .string y.2] 149)) := ((Lays.refl W).alloc _).alloc _
 have Hk := Lib.hid kW
 clear kW
 rcases h with h | ⟨e, h⟩
 ·have hc := cmpT_lt h
  have hcon := fun W' => Tryz.strings_Compare x.1 y.1 W'
  rw [hc] at hcon
  have Hc := Lib.hid hcon
  clear hcon hc h
  go_enter Tryz.func102, Tryz.ntmps102
  go_wp2_with fail
  refine (Hc.out _).mono ?_
  rintro e w' ⟨rfl, rfl⟩
  go_wp2_with fail
  go_ret
  first | exact ⟨rfl, Hk.out⟩ | exact ⟨rfl, Hk.out.drewN _⟩ | exact ⟨rfl, Hk.out.drew⟩
 ·have hc := cmpT_lt h
  have hcon := fun W' => Tryz.strings_Compare x.2 y.2 W'
  rw [hc] at hcon
  have hcon0 := fun W' => Tryz.strings_Compare x.1 y.1 W'
  rw [e, cmpb_self] at hcon0
  have Hc := Lib.hid (And.intro hcon0 hcon)
  rw [e]
  clear hcon hcon0 hc h
  rw [e] at Hk
  go_enter Tryz.func102, Tryz.ntmps102
  go_wp2_with fail
  refine (Hc.out.1 _).mono ?_
  rintro e w' ⟨rfl, rfl⟩
  go_wp2_with fail
  refine (Hc.out.2 _).mono ?_
  rintro e w' ⟨rfl, rfl⟩
  go_wp2_with fail
  go_ret
  first | exact ⟨rfl, Hk.out⟩ | exact ⟨rfl, Hk.out.drewN _⟩ | exact ⟨rfl, Hk.out.drew⟩
theorem cmp1_eqS (x : PairB) (W : World) : Calls Tryz.prog 102 #[.agg #[.string x.1, .string x.2], .agg #[.string x.1, .string x.2]] W fun e w' => e = .returned (.int .i64 0) ∧ Lays W w' := by
 have kW : Lays W ((W.alloc (.cells #[.string x.1, .string x.2] 149)).alloc (.cells #[.string x.1, .string x.2] 149)) := ((Lays.refl W).alloc _).alloc _
 have Hk := Lib.hid kW
 have hcon := fun W' => Tryz.strings_Compare x.2 x.2 W'
 rw [cmpb_self] at hcon
 have hcon0 := fun W' => Tryz.strings_Compare x.1 x.1 W'
 rw [cmpb_self] at hcon0
 have Hc := Lib.hid (And.intro hcon0 hcon)
 clear hcon hcon0 kW
 go_enter Tryz.func102, Tryz.ntmps102
 go_wp2_with fail
 refine (Hc.out.1 _).mono ?_
 rintro e w' ⟨rfl, rfl⟩
 go_wp2_with fail
 refine (Hc.out.2 _).mono ?_
 rintro e w' ⟨rfl, rfl⟩
 go_wp2_with fail
 go_ret
 first | exact ⟨rfl, Hk.out⟩ | exact ⟨rfl, Hk.out.drewN _⟩ | exact ⟨rfl, Hk.out.drew⟩
theorem cmp1_gtS (x y : PairB) (h : ltP y x) (W : World) : Calls Tryz.prog 102 #[.agg #[.string x.1, .string x.2], .agg #[.string y.1, .string y.2]] W fun e w' => e = .returned (.int .i64 1) ∧ Lays W w' := by
 have kW : Lays W ((W.alloc (.cells #[.string x.1, .string x.2] 149)).alloc (.cells #[.string y.1, .string y.2] 149)) := ((Lays.refl W).alloc _).alloc _
 have Hk := Lib.hid kW
 clear kW
 rcases h with h | ⟨e', h⟩
 ·have hc := cmpT_gt h
  have hcon := fun W' => Tryz.strings_Compare x.1 y.1 W'
  rw [hc] at hcon
  have Hc := Lib.hid hcon
  clear hcon hc h
  go_enter Tryz.func102, Tryz.ntmps102
  go_wp2_with fail
  refine (Hc.out _).mono ?_
  rintro e w' ⟨rfl, rfl⟩
  go_wp2_with fail
  go_ret
  first | exact ⟨rfl, Hk.out⟩ | exact ⟨rfl, Hk.out.drewN _⟩ | exact ⟨rfl, Hk.out.drew⟩
 ·have e := e'.symm
  clear e'
  have hc := cmpT_gt h
  have hcon := fun W' => Tryz.strings_Compare x.2 y.2 W'
  rw [hc] at hcon
  have hcon0 := fun W' => Tryz.strings_Compare x.1 y.1 W'
  rw [e, cmpb_self] at hcon0
  have Hc := Lib.hid (And.intro hcon0 hcon)
  rw [e]
  clear hcon hcon0 hc h
  rw [e] at Hk
  go_enter Tryz.func102, Tryz.ntmps102
  go_wp2_with fail
  refine (Hc.out.1 _).mono ?_
  rintro e w' ⟨rfl, rfl⟩
  go_wp2_with fail
  refine (Hc.out.2 _).mono ?_
  rintro e w' ⟨rfl, rfl⟩
  go_wp2_with fail
  go_ret
  first | exact ⟨rfl, Hk.out⟩ | exact ⟨rfl, Hk.out.drewN _⟩ | exact ⟨rfl, Hk.out.drew⟩
def CmpRelGS (w : World) (P R : List PairB) (c : Int) (gk : Nat) (u : Value) (wr : World) : Prop := ∃ k, k ≤ P.length ∧ gk = P.length - k ∧ u = .int .i64 (k : Nat) ∧ k ≤ R.length ∧ cmpL (P.drop k) (R.drop k) = c ∧ Lays w wr
theorem cmpFuncGS_spec (w : World) (B C : Nat) (T : TypeId) (va vb : Value) (P R : List PairB) (ha : w.ownsRow B T 2 va P.length (P.flatMap encPB)) (hb : w.ownsRow C T 2 vb R.length (R.flatMap encPB)) (hP : P.length ≤ 1000) (c : Int) (h : cmpL P R = c) :
  Calls Tryz.prog 101 #[va, vb, .func (.func 102) #[] #[]] w fun e w' => e = .returned (.int .i64 c) ∧ Lays w w' := by
 have H := Lib.hid (And.intro ha hb)
 obtain ⟨aa, ca, rfl, -, -, -⟩ := row_slice ha
 obtain ⟨ab, cb, rfl, -, -, -⟩ := row_slice hb
 clear ha hb
 go_enter Tryz.func101, Tryz.ntmps101
 go_wp2_with fail
 go_loopg [13] P.length (CmpRelGS w P R c)
 case atStart => exact ⟨0, Nat.zero_le _, rfl, rfl, Nat.zero_le _, h, Lays.refl _⟩
 case round =>
  clear h
  obtain ⟨k, hk, hgk, rfl, hkR, hcmp, hkr⟩ := hrel
  have Hg := Lib.hid (And.intro hgk hkr)
  by_cases hlt : k < P.length
  ·by_cases hltR : k < R.length
   ·obtain ⟨b1, o1, e1, hb1, c0, c1⟩ := pair_row (hkr.keeps.row H.out.1 (by simp)) k hlt
    obtain ⟨b2, o2, e2, hb2, d0, d1⟩ := pair_row (hkr.keeps.row H.out.2 (by simp)) k hltR
    subst e1 e2
    have hlt1 : (k : Int) < (P.length : Int) := by omega
    have hlt2 : ¬ (k : Int) ≥ (R.length : Int) := by omega
    have hlt3 : (k : Int) < (R.length : Int) := by omega
    rw [List.drop_eq_getElem_cons hlt, List.drop_eq_getElem_cons hltR] at hcmp
    have HE : Hid ((ltP P[k] R[k] ∧ c = -1) ∨ (P[k] = R[k] ∧ cmpL (P.drop (k + 1)) (R.drop (k + 1)) = c) ∨ (ltP R[k] P[k] ∧ c = 1)) := by
     apply Lib.hid
     unfold cmpL at hcmp
     split at hcmp
     ·rename_i h1; exact .inl ⟨h1, hcmp.symm⟩
     ·rename_i h0
      split at hcmp
      ·rename_i h1; exact .inr (.inl ⟨h1, hcmp⟩)
      ·rename_i h1; exact .inr (.inr ⟨ltP_or h1 h0, hcmp.symm⟩)
    clear hgk hkr hcmp
    generalize P[k] = x at c0 c1 HE
    generalize R[k] = y at d0 d1 HE
    have kW : Lays w ((wr.alloc (.cells #[.string x.1, .string x.2] 149)).alloc (.cells #[.string y.1, .string y.2] 149)) := (Hg.out.2.alloc _).alloc _
    have nx := (Keeps.refl [] _).alloc (.cells #[.string y.1, .string y.2] 149) |>.at_ (heap_new wr (.cells #[.string x.1, .string x.2] 149)) (by simp)
    have ny := heap_new (wr.alloc (.cells #[.string x.1, .string x.2] 149)) (.cells #[.string y.1, .string y.2] 149)
    rw [World.size_alloc] at ny
    go_upto_region 7 with fail
    generalize (wr.alloc (.cells #[.string x.1, .string x.2] 149)).alloc (.cells #[.string y.1, .string y.2] 149) = W2 at kW nx ny ⊢
    have cx := cells_at nx
    have cy := cells_at ny
    have lx := lt_of_at nx
    have ly := lt_of_at ny
    have HK := Lib.hid kW
    clear c0 c1 d0 d1 hb1 hb2 kW nx ny
    generalize wr.heap.size = q at cx cy lx ly ⊢
    rcases HE.out with ⟨h1, h2⟩ | ⟨h1, h2⟩ | ⟨h1, h2⟩
    ·have Hc := Lib.hid (And.intro (cmp1_ltS x y h1) h2)
     clear h1 h2 HE
     go_wp2_with (refine wpList_call_value rfl _ _ _ rfl 102 #[] #[] rfl ⟨_, Tryz.func102, by kernel_rfl, by kernel_rfl⟩ ?_)
     refine (Hc.out.1 _).mono ?_
     rintro e w5 ⟨rfl, hk5⟩
     have H5 := Lib.hid (HK.out.trans hk5)
     clear hk5
     go_wp2_with fail
     go_ret
     exact ⟨by rw [Hc.out.2]; rfl, H5.out⟩
    ·subst h1
     have Hc := Lib.hid (cmp1_eqS x)
     have H2 := Lib.hid h2
     clear h2 HE
     go_wp2_with (refine wpList_call_value rfl _ _ _ rfl 102 #[] #[] rfl ⟨_, Tryz.func102, by kernel_rfl, by kernel_rfl⟩ ?_)
     refine (Hc.out _).mono ?_
     rintro e w5 ⟨rfl, hk5⟩
     have H5 := Lib.hid (HK.out.trans hk5)
     clear hk5
     go_wp2_with fail
     go_roundg (P.length - (k + 1))
     case measure => have := Hg.out.1; omega
     case rel => exact ⟨k + 1, hlt, rfl, by go_num, hltR, H2.out, H5.out⟩
    ·have Hc := Lib.hid (And.intro (cmp1_gtS x y h1) h2)
     clear h1 h2 HE
     go_wp2_with (refine wpList_call_value rfl _ _ _ rfl 102 #[] #[] rfl ⟨_, Tryz.func102, by kernel_rfl, by kernel_rfl⟩ ?_)
     refine (Hc.out.1 _).mono ?_
     rintro e w5 ⟨rfl, hk5⟩
     have H5 := Lib.hid (HK.out.trans hk5)
     clear hk5
     go_wp2_with fail
     go_ret
     exact ⟨by rw [Hc.out.2]; rfl, H5.out⟩
   ·obtain ⟨b1, o1, e1, hb1, c0, c1⟩ := pair_row (hkr.keeps.row H.out.1 (by simp)) k hlt
    subst e1
    have hlt1 : (k : Int) < (P.length : Int) := by omega
    have hlt2 : (k : Int) ≥ (R.length : Int) := by omega
    have hlt3 : (R.length : Int) ≤ (k : Int) := by omega
    have HE := Lib.hid (show c = 1 by
     rw [List.drop_eq_nil_of_le (by omega : R.length ≤ k), List.drop_eq_getElem_cons hlt] at hcmp
     simpa [cmpL] using hcmp.symm)
    have HK := Lib.hid (hkr.alloc (.cells #[.string P[k].1, .string P[k].2] 149))
    clear hgk hkr hcmp
    generalize P[k] = x at c0 c1 HK
    go_wp2_with fail
    go_ret
    exact ⟨by rw [HE.out]; rfl, HK.out⟩
  ·have hlt1 : ¬ (k : Int) < (P.length : Int) := by omega
   by_cases hltR : k < R.length
   ·have hlt2 : (P.length : Int) < (R.length : Int) := by omega
    have HE := Lib.hid (show c = -1 by
     rw [List.drop_eq_nil_of_le (by omega : P.length ≤ k), List.drop_eq_getElem_cons hltR] at hcmp
     simpa [cmpL] using hcmp.symm)
    clear hgk hkr hcmp
    go_wp2_with fail
    go_ret
    exact ⟨by rw [HE.out]; rfl, Hg.out.2⟩
   ·have hlt2 : ¬ (P.length : Int) < (R.length : Int) := by omega
    have HE := Lib.hid (show c = 0 by
     rw [List.drop_eq_nil_of_le (by omega : P.length ≤ k), List.drop_eq_nil_of_le (by omega : R.length ≤ k)] at hcmp
     simpa [cmpL] using hcmp.symm)
    clear hgk hkr hcmp
    go_wp2_with fail
    go_ret
    exact ⟨by rw [HE.out]; rfl, Hg.out.2⟩
theorem labCompareGS_spec (w : World) (B C : Nat) (T : TypeId) (va vb : Value) (P R : List PairB) (ha : w.ownsRow B T 2 va P.length (P.flatMap encPB)) (hb : w.ownsRow C T 2 vb R.length (R.flatMap encPB)) (hP : P.length ≤ 1000) :
  Calls Tryz.prog 71 #[va, vb] w fun e w' => e = .returned (.int .i64 (cmpL P R)) ∧ Lays w w' := by
 obtain ⟨c, hc⟩ : ∃ c, c = cmpL P R := ⟨_, rfl⟩
 rw [← hc]
 have Hc := Lib.hid (cmpFuncGS_spec w B C T va vb P R ha hb hP c hc.symm)
 clear ha hb hc
 go_enter Tryz.func71, Tryz.ntmps71
 go_wp2_with fail
 refine Hc.out.mono ?_
 rintro e w5 ⟨rfl, hk5⟩
 have H5 := Lib.hid hk5
 clear hk5
 go_wp2_with fail
 go_ret
 exact ⟨rfl, H5.out⟩
open Go Go.RowKit Go.Sort Go.Conc
theorem rowsCmp_spec (w : World) (x y : RowV) (P R : List PairB) (x2 y2 : List SmpB) (hx : w.ownsRow 0 149 2 x.1 P.length (P.flatMap encPB)) (hy : w.ownsRow 0 149 2 y.1 R.length (R.flatMap encPB)) (hx2 : w.ownsRow 0 42 2 x.2 x2.length (x2.flatMap encSm)) (hy2 : w.ownsRow 0 42 2 y.2 y2.length (y2.flatMap encSm)) (hP : P.length ≤ 1000) :
  Calls Tryz.prog 70 #[.agg #[x.1, x.2], .agg #[y.1, y.2]] w fun e w' => e = .returned (.int .i64 (cmpL P R)) ∧ Lays w w' := by
 obtain ⟨c, hc⟩ : ∃ c, c = cmpL P R := ⟨_, rfl⟩
 obtain ⟨u1, u2⟩ := x
 obtain ⟨v1, v2⟩ := y
 dsimp only at hx hy hx2 hy2 ⊢
 obtain ⟨a1, c1, rfl, -, -, -⟩ := row_slice hx
 obtain ⟨a2, c2, rfl, -, -, -⟩ := row_slice hy
 obtain ⟨a3, c3, rfl, -, -, -⟩ := row_slice hx2
 obtain ⟨a4, c4, rfl, -, -, -⟩ := row_slice hy2
 have kW : Lays w ((w.alloc (.cells #[.slice a1 P.length c1, .slice a3 x2.length c3] 110)).alloc (.cells #[.slice a2 R.length c2, .slice a4 y2.length c4] 110)) := ((Lays.refl w).alloc _).alloc _
 have Hc := Lib.hid (labCompareGS_spec _ 0 0 149 (.slice a1 P.length c1) (.slice a2 R.length c2) P R (go1 kW.keeps hx) (go1 kW.keeps hy) hP)
 rw [← hc] at Hc ⊢
 have Hk := Lib.hid kW
 clear hx hy hx2 hy2 hc kW
 go_enter Tryz.func70, Tryz.ntmps70
 go_wp2_with fail
 refine Hc.out.mono ?_
 rintro e w5 ⟨rfl, hk5⟩
 have H5 := Lib.hid (Hk.out.trans hk5)
 clear hk5
 go_wp2_with fail
 go_ret
 exact ⟨rfl, H5.out⟩
theorem flatK_list {α : Type} [Inhabited α] (enc : α → List Value) (k : Nat) (hk : ∀ x, (enc x).length = k) (hk0 : 0 < k) (d : Array α) : (flatK enc k d).toList = d.toList.flatMap enc := by
 have hfl : ∀ l : List α, (l.flatMap enc).length = l.length * k := fun l => by
  induction l with
  | nil => simp
  | cons a l ih => simp only [List.flatMap_cons, List.length_append, ih, List.length_cons, hk, Nat.add_mul]; omega
 apply List.ext_getElem?
 intro t
 by_cases ht : t < d.size * k
 ·have h1 := get_flatK enc k d t ht
  have hq : t / k < d.toList.length := by rw [Array.length_toList]; exact Nat.div_lt_of_lt_mul (by rw [Nat.mul_comm]; exact ht)
  have hr : t % k < k := Nat.mod_lt _ hk0
  have h2 := flatMap_at enc k hk d.toList (t / k) hq (t % k) hr
  rw [Nat.mul_comm, Nat.div_add_mod] at h2
  rw [h2, Array.getElem?_toList]
  have hqs : t / k < d.size := by simpa using hq
  rw [getElem!_pos (flatK enc k d) t (by simpa using ht), getElem!_pos d (t / k) hqs, getElem!_pos _ (t % k) (by rw [hk]; exact hr)] at h1
  rw [Array.getElem?_eq_getElem (by simpa using ht), h1, List.getElem?_eq_getElem (by rw [hk]; exact hr)]
  simp
 ·rw [List.getElem?_eq_none (by simp; omega), List.getElem?_eq_none (by rw [hfl, Array.length_toList]; omega)]
theorem holds_of_blockV {w : World} {g : Nat} {cur : Array Value} {e : TypeId} {F : Array Value} (hb : w.heap[g]? = some (.cells cur e (0, 0))) (ht : cur.toList.take F.size = F.toList) : Holds id w g 0 F := by
 intro j hj
 refine ⟨?_, by simp [World.frozen?, hb]⟩
 have h1 : (cur.toList.take F.size)[j]? = F.toList[j]? := by rw [ht]
 rw [List.getElem?_take_of_lt hj] at h1
 simp only [World.cell?, hb, Nat.zero_add]
 simp only [Option.isSome_none, Bool.false_eq_true, if_false]
 rw [← Array.getElem?_toList, h1]
 simp [hj]
abbrev RowD := RowV × RowT
theorem ltR_iff {α : Type} (f : α → List PairB) (x y : α) : (ltOf (fun x y => cmpL (f x) (f y)) x y = true ↔ ltL (f x) (f y)) := by
 unfold ltOf ltL
 rw [decide_eq_true_eq]
 show cmpL (f x) (f y) < 0 ↔ _
 rcases cmpL_cases (f x) (f y) with e | e | e <;> omega
theorem ltR_no {α : Type} (f : α → List PairB) (x y : α) : (ltOf (fun x y => cmpL (f x) (f y)) x y = false ↔ ¬ ltL (f x) (f y)) := by
 rw [← ltR_iff f x y]
 simp
theorem swoR {α : Type} (f : α → List PairB) : SWO (ltOf fun x y : α => cmpL (f x) (f y)) where
 irrefl := fun x => (ltR_no f x x).2 (ltL_irr _)
 trans := fun x y z h1 h2 => (ltR_iff f x z).2 (ltL_tr ((ltR_iff f x y).1 h1) ((ltR_iff f y z).1 h2))
 ntrans := fun x y z h1 h2 => by
  rw [ltR_no] at *
  intro h3
  by_cases e : f x = f y
  ·rw [e] at h3
   exact h2 h3
  ·exact h2 (ltL_tr (ltL_or e h1) h3)
def SortRPost (w : World) (B : Nat) (v : Value) (A : TabT) (e : Ending) (w' : World) : Prop :=
 ∃ A' : TabT, e = .returned (.tuple #[]) ∧ A'.Perm A ∧ (A'.Pairwise fun a b => ltL a.1 b.1) ∧ TabAt 110 149 B w' v A' ∧ w.grownBy w' v.ownBlock
theorem zip_fst {α β : Type} : ∀ {l : List α} {m : List β}, l.length = m.length → (l.zip m).map (·.1) = l
 | [], _, _ => rfl
 | _ :: _, [], h => by simp at h
 | a :: l, b :: m, h => by
  rw [List.zip_cons_cons, List.map_cons, zip_fst (by simpa using h)]
theorem zip_snd {α β : Type} : ∀ {l : List α} {m : List β}, l.length = m.length → (l.zip m).map (·.2) = m
 | [], [], _ => rfl
 | [], _ :: _, h => by simp at h
 | _ :: _, [], h => by simp at h
 | a :: l, b :: m, h => by
  rw [List.zip_cons_cons, List.map_cons, zip_snd (by simpa using h)]
theorem encRV_one (D : List RowD) (hs : ∀ d ∈ D, (∃ a n c, d.1.1 = .slice a n c) ∧ ∃ a n c, d.1.2 = .slice a n c) (x : {d // d ∈ D}) : ∀ v ∈ encRV x.1.1, v.oneCell' = true := by
 intro v hv
 obtain ⟨⟨a, n, c, e1⟩, a2, n2, c2, e2⟩ := hs x.1 x.2
 unfold encRV at hv
 rw [e1, e2] at hv
 simp only [List.mem_cons, List.not_mem_nil, or_false] at hv
 rcases hv with rfl | rfl <;> rfl
theorem sortRows_spec (w : World) (B : Nat) (v : Value) (A : TabT) (h : TabAt 110 149 B w v A) (hd : (A.map (·.1)).Nodup) (hl : A.length ≤ 1000) (hr : ∀ r ∈ A, r.1.length ≤ 1000) :
  Calls Tryz.prog 69 #[v, .func (.func 70) #[] #[]] w (SortRPost w B v A) := by
 obtain ⟨E, hE, hel⟩ := h
 by_cases h0 : A = []
 ·subst h0
  have e0 : E = [] := List.length_eq_zero_iff.1 hel.1
  subst e0
  obtain ⟨a, c, rfl, -, -, -⟩ := row_slice hE
  refine (AnyF.slices_SortFunc_none Tryz.sortFR a c _ w).mono ?_
  rintro e w' ⟨rfl, rfl⟩
  exact ⟨[], rfl, List.Perm.refl _, List.Pairwise.nil, ⟨[], hE, hel⟩, ⟨rfl, rfl, rfl, Nat.le_refl _, fun k hk _ => rfl⟩⟩
 ·have hn : 0 < E.length := by
   rw [hel.1]
   exact List.length_pos_iff.2 h0
  have hE' := hE
  obtain ⟨_, ⟨_, he0⟩ | ⟨g, cap, cur, rfl, hbase, hb, h1, h2, h3, h4⟩⟩ := hE'
  ·omega
  obtain ⟨D, hD⟩ : ∃ D : List RowD, D = E.zip A := ⟨_, rfl⟩
  have hD1 : D.map (·.1) = E := by rw [hD]; exact zip_fst hel.1
  have hD2 : D.map (·.2) = A := by rw [hD]; exact zip_snd hel.1
  have hDl : D.length = E.length := by rw [← hD1, List.length_map]
  have hrow : ∀ d ∈ D, w.ownsRow 0 149 2 d.1.1 d.2.1.length (d.2.1.flatMap encPB) ∧ w.ownsRow 0 42 2 d.1.2 d.2.2.length (d.2.2.flatMap encSm) := fun d hd => by
   obtain ⟨i, hi, rfl⟩ := List.mem_iff_getElem.1 hd
   have hi1 : i < E.length := by omega
   have hi2 : i < A.length := by rw [← hel.1]; exact hi1
   have e : D[i] = (E[i], A[i]) := by
    subst hD
    exact List.getElem_zip
   rw [e]
   exact hel.2 i hi1 hi2
  have hsl : ∀ d ∈ D, (∃ a n c, d.1.1 = .slice a n c) ∧ ∃ a n c, d.1.2 = .slice a n c := fun d hd => by
   obtain ⟨a, c, e, -, -, -⟩ := row_slice (hrow d hd).1
   obtain ⟨a2, c2, e2, -, -, -⟩ := row_slice (hrow d hd).2
   exact ⟨⟨a, _, c, e⟩, a2, _, c2, e2⟩
  have hPl : ∀ d ∈ D, d.2.1.length ≤ 1000 := fun d hd => hr _ (by rw [← hD2]; exact List.mem_map.2 ⟨d, hd, rfl⟩)
  have hlab : ∀ {W : World}, w.grownBy W (some g) → ∀ {T : TypeId} {u : Value} {n : Nat} {xs : List Value}, T ≠ 110 → w.ownsRow 0 T 2 u n xs → W.ownsRow 0 T 2 u n xs := fun hg T u n xs hT hu =>
   (Keeps.of_grown (S := [g]) hg (fun k hk => .inl (by simpa using hk.symm))).row hu (fun q hq => by simpa using row_ne_cells hu hb (fun e => hT e.symm) q hq)
  letI : Inhabited {d // d ∈ D} := ⟨⟨D[0]'(by omega), List.getElem_mem _⟩⟩
  obtain ⟨enc, henc⟩ : ∃ enc : {d // d ∈ D} → List Value, enc = fun x => encRV x.1.1 := ⟨_, rfl⟩
  have hk : ∀ x, (enc x).length = 2 := fun x => by rw [henc]; rfl
  have hone : ∀ x, ∀ v ∈ enc x, v.oneCell' = true := fun x => by rw [henc]; exact encRV_one D hsl x
  have hfl : D.attach.flatMap enc = E.flatMap encRV := by
   have : D.attach.map (fun x => x.1.1) = E := by
    have e : D.attach.map (fun x => x.1.1) = (D.attach.map Subtype.val).map (·.1) := by rw [List.map_map]; rfl
    rw [e, List.attach_map_subtype_val, hD1]
   rw [henc, ← this, List.flatMap_map]
  have hH : HoldsK enc 2 w g 0 D.attach.toArray := by
   refine holds_of_blockV hb ?_
   rw [flatK_list enc 2 hk (by decide)]
   simp only [size_flatK, List.size_toArray, List.length_attach]
   rw [hfl, hDl]
   exact h4
  have hcmp : CmpLays Tryz.prog 70 #[] enc 2 (fun x y => cmpL x.1.2.1 y.1.2.1) g 0 D.attach.toArray.size w := fun m os dk _ x y => by
   subst henc
   have hgw : w.grownBy (sortWorldK (fun x : {d // d ∈ D} => encRV x.1.1) 2 w g 0 m dk os) (some g) := grownBy_sortedV _
   have hx := hrow x.1 x.2
   have hy := hrow y.1 y.2
   have := rowsCmp_spec (sortWorldK (fun x : {d // d ∈ D} => encRV x.1.1) 2 w g 0 m dk os) x.1.1 y.1.1 x.1.2.1 y.1.2.1 x.1.2.2 y.1.2.2 (hlab hgw (by decide) hx.1) (hlab hgw (by decide) hy.1) (hlab hgw (by decide) hx.2) (hlab hgw (by decide) hy.2) (hPl x.1 x.2)
   exact this
  have hD1000 : D.length ≤ 1000 := by
   have := hel.1
   omega
  have eg : ∀ args w, (callFunc 70 args).run Tryz.prog w = .ok (.enter 70 args) w := enters_of Tryz.func70 (by kernel_rfl) rfl
  have hcon := AnyQ.slices_SortFunc Tryz.sortFR 2 Tryz.isAgg110 Tryz.sizeOf110 enc hk hone (fun x y => cmpL x.1.2.1 y.1.2.1) (swoR fun x : {d // d ∈ D} => x.1.2.1) 70 #[] g 0 cap D.attach.toArray w eg hcmp hH (lt_of_at hb) (by simp only [List.size_toArray, List.length_attach]; omega)
  rw [show D.attach.toArray.size = E.length by simp only [List.size_toArray, List.length_attach]; exact hDl] at hcon
  change Calls Tryz.prog 69 _ _ _ at hcon
  refine hcon.mono ?_
  rintro e w' ⟨rfl, d', n, os, hp, hs, rfl⟩
  have hd' : d'.size = E.length := by
   have := hp.1
   simpa only [List.size_toArray, List.length_attach, hDl] using this
  have hgw : w.grownBy (sortWorldK enc 2 w g 0 n d' os) (some g) := grownBy_sortedV _
  have hperm : d'.toList.Perm D.attach := by
   have := hp.2.2
   have e1 : List.take E.length d'.toList = d'.toList := List.take_of_length_le (by simp [hd'])
   have e2 : List.take E.length D.attach = D.attach := List.take_of_length_le (by simp [hDl])
   simpa [hd', e1, e2] using this
  have hpA : (d'.toList.map (·.1.2)).Perm A := by
   have h1 := hperm.map (fun x : {d // d ∈ D} => x.1.2)
   have e : D.attach.map (fun x => x.1.2) = A := by
    have e : D.attach.map (fun x => x.1.2) = (D.attach.map Subtype.val).map (·.2) := by rw [List.map_map]; rfl
    rw [e, List.attach_map_subtype_val, hD2]
   rw [e] at h1
   exact h1
  refine ⟨d'.toList.map (·.1.2), rfl, hpA, ?_, ⟨d'.toList.map (·.1.1), ?_, by simp, fun i hi hi' => ?_⟩, hgw⟩
  ·have hnd : ((d'.toList.map (·.1.2)).map (·.1)).Nodup := (hpA.map _).nodup_iff.2 hd
   rw [List.pairwise_iff_getElem]
   intro i j hi hj hij
   have h1 := hs i j (Nat.zero_le _) hij (by simpa [hd'] using hj)
   rw [ltR_no (fun x : {d // d ∈ D} => x.1.2.1), getElem!_pos d' i (by simpa using hi), getElem!_pos d' j (by simpa using hj)] at h1
   simp only [List.getElem_map, Array.getElem_toList]
   refine ltL_or (fun e => ?_) h1
   have h2 := List.pairwise_iff_getElem.1 hnd i j (by simpa using hi) (by simpa using hj) hij
   simp only [List.getElem_map, Array.getElem_toList] at h2
   exact h2 e.symm
  ·have hfs : (flatK enc 2 d').size = E.length * 2 := by simp [hd']
   have hfl' : (d'.toList.map (·.1.1)).flatMap encRV = d'.toList.flatMap enc := by rw [henc, List.flatMap_map]
   have hln : (d'.toList.map (·.1.1)).length = E.length := by simp [hd']
   rw [hln, hfl']
   refine ⟨?_, .inr ⟨g, cap, _, rfl, hbase, heap_sortedV _ hb, h1, h2, by simp [putCells, h3], ?_⟩⟩
   ·rw [← flatK_list enc 2 hk (by decide), Array.length_toList, hfs]
   ·rw [← hfs, take_putCellsV _ _ (by rw [hfs, h3]; exact Nat.mul_le_mul_right 2 h1), flatK_list enc 2 hk (by decide)]
  ·have hi2 : i < d'.toList.length := by simpa using hi
   simp only [List.getElem_map]
   have hm := hrow d'.toList[i].1 (d'.toList[i]).2
   exact ⟨hlab hgw (by decide) hm.1, hlab hgw (by decide) hm.2⟩
end Go.Proofs.YtgdkceeonnfejaaGreatDoor
