/-
  Package posting: remove: a rising list without a number, walked.
  No condition beyond those that each theorem states.

  Package posting: an index that is empty: Add of one series of distinct names, walked.
  No condition beyond those that each theorem states.

  slices.Insert of one number in the middle of a list of numbers, walked: in place where there is room, else a new row.
  No condition beyond those that each theorem states.

  Package posting: insert: a rising list with a number, walked.
  No condition beyond those that each theorem states.

  Package posting: Add of a series of distinct names to an index that is empty, walked.
  No condition beyond those that each theorem states.

  Package posting: Drop of the one series of an index: it is empty again, walked.
  No condition beyond those that each theorem states.
-/
import Derived.Test.YtgdkceeonnfejaaGreatDoorPostAdd
import Derived.Test.YtgdkceeonnfejaaGreatDoorShelfA
import Derived.Sort.OwnSortedInts
import Derived.Test.YtgdkceeonnfejaaGreatDoorMap
import Derived.Test.YtgdkceeonnfejaaGreatDoorPairs
import Derived.Shelf.Spec.SlicesInsertGrow
namespace Go.Proofs.YtgdkceeonnfejaaGreatDoor
set_option maxRecDepth 100000
set_option maxHeartbeats 4000000
set_option linter.unusedSimpArgs false
open Go Go.RowKit Go.Sort
theorem row_prefix {B : Nat} {w : World} {e : TypeId} {size g n cap : Nat} {xs : List Value} (h : w.ownsRow B e size (.slice (some ⟨g, 0, none⟩) n cap) n xs) (k : Nat) (hk : k ≤ n) :
  w.ownsRow B e size (.slice (some ⟨g, 0, none⟩) k cap) k (xs.take (k * size)) := by
 obtain ⟨hl, ⟨hn, -⟩ | ⟨g', cap', cur, hv, h1, h2, h3, h4, h5, h6⟩⟩ := h
 ·cases hn
 ·cases hv
  have hm : k * size ≤ n * size := Nat.mul_le_mul_right size hk
  refine ⟨by rw [List.length_take]; omega, .inr ⟨g, cap, cur, rfl, h1, h2, by omega, h4, h5, ?_⟩⟩
  rw [← h6, List.take_take, Nat.min_eq_left hm]
def remL (l : List Int) (n : Int) : List Int := if n ∈ l then l.take (l.countP (· < n)) ++ l.drop (l.countP (· < n) + 1) else l
theorem countP_lt_of_mem : ∀ (l : List Int) (n : Int), n ∈ l → l.countP (· < n) < l.length := by
 intro l n h
 have h1 := List.countP_le_length (p := fun x => decide (x < n)) (l := l)
 rcases Nat.lt_or_eq_of_le h1 with h2 | h2
 ·exact h2
 ·have h3 := List.countP_eq_length.1 h2 n h
  simp at h3
def RemPost (B : Nat) (w : World) (v : Value) (l : List Int) (n : Int) (e : Ending) (w' : World) : Prop := ∃ v', e = .returned v' ∧ Own B w' v' (remL l n) ∧ Turns v w v' w'
theorem bsearch_spec (B : Nat) (w : World) (v : Value) (l : List Int) (n : Int) (h : Own B w v l) (hs : l.Pairwise (· ≤ ·)) (hl : l.length ≤ 1000000) :
  Calls Tryz.prog 113 #[v, .int .i64 n] w fun e w' => e = .returned (.tuple #[.int .i64 (l.countP (· < n) : Nat), .bool (l.contains n)]) ∧ ∃ q, w' = w.drewN q := by
 obtain ⟨_, ⟨rfl, hn⟩ | ⟨g, cap, cur, rfl, hbase, hb, h1, h2, h3, h4⟩⟩ := h
 ·obtain rfl : l = [] := List.eq_nil_of_length_eq_zero hn
  refine (bsearch0_spec w n).mono ?_
  rintro e w' ⟨rfl, rfl⟩
  exact ⟨rfl, 0, rfl⟩
 ·have hc := AnyG.slices_BinarySearch_int Tryz.bsL g 0 l.length cap l n w (Nat.le_refl _) (by omega) (fun j hj => by
   rw [Nat.zero_add, cells_at hb, ← Array.getElem?_toList, ← List.getElem?_take_of_lt (i := j) (j := l.length * 1) (by omega), h4, List.getElem?_map, List.getElem?_eq_getElem hj, List.getD_eq_getElem?_getD, List.getElem?_eq_getElem hj]
   rfl) (by rw [List.take_length]; exact hs)
  change Calls Tryz.prog 113 _ _ _ at hc
  rw [List.take_length] at hc
  exact hc
theorem remove_spec (B : Nat) (w : World) (v : Value) (l : List Int) (n : Int) (h : Own B w v l) (hs : l.Pairwise (· ≤ ·)) (hl : l.length ≤ 1000000) :
  Calls Tryz.prog 83 #[v, .int .i64 n] w (RemPost B w v l n) := by
 have Hf := Lib.hid h
 have Hb := Lib.hid (bsearch_spec B w v l n h hs hl)
 obtain ⟨a, c, rfl, -, -, -⟩ := row_slice h
 clear h
 go_enter Tryz.func83, Tryz.ntmps83
 go_wp2_with fail
 refine Hb.out.mono ?_
 rintro e w1 ⟨rfl, q, rfl⟩
 have kq : Keeps [] w (w.drewN q) := (Keeps.refl [] w).drewN q
 have H1 := Lib.hid (And.intro (go1 kq Hf.out) kq)
 clear kq Hb
 generalize w.drewN q = w1 at H1 ⊢
 by_cases hm : n ∈ l
 ·have hct : l.contains n = true := List.contains_iff_mem.2 hm
  rw [hct]
  have hlt := countP_lt_of_mem l n hm
  have HR := Lib.hid (show remL l n = l.take (l.countP (· < n)) ++ l.drop (l.countP (· < n) + 1) from if_pos hm)
  obtain ⟨i, hi⟩ : ∃ i, i = l.countP (· < n) := ⟨_, rfl⟩
  rw [← hi] at hlt HR ⊢
  clear hm hct hi
  obtain ⟨hxl, ⟨-, hn⟩ | ⟨g, cap, cur, hv, hbase, hb, h1, h2, h3, h4⟩⟩ := H1.out.1
  ·omega
  cases hv
  unfold maxLen at h2
  have hH : Holds (Value.int .i64) w1 g 0 l.toArray := holds_of_blockI hb (by simpa using h4)
  have hc := AnyG.slices_Delete_int Tryz.delL g 0 c i (i + 1) l w1 hH h1 (by omega) (by omega) (by omega)
  change Calls Tryz.prog 114 _ _ _ at hc
  rw [show i + 1 - i = 1 from by omega] at hc
  have hX : (l.take i ++ l.drop (i + 1)).length = l.length - 1 := by rw [List.length_append, List.length_take, List.length_drop]; omega
  have HB := Lib.hid (And.intro hb (And.intro hbase (And.intro h1 (And.intro h2 h3))))
  generalize hXX : l.take i ++ l.drop (i + 1) = X at hc HR hX
  have HC := Lib.hid hc
  clear hc hH hb h1 h2 h3 h4 hxl hbase hXX
  have hil : (i : Int) + 1 ≤ 1000000 := by omega
  go_wp2_with fail
  have hcc := HC.out
  rw [show ((i + 1 : Nat) : Int) = (i : Int) + 1 from by omega] at hcc
  refine hcc.mono ?_
  rintro e w2 ⟨rfl, q2, rfl⟩
  have hr := ownsRow_sortedI (w := w1) (base := B) (g := g) (cap := c) (n := q2) (e := 3) (os := #[]) (cur := cur) (ss := l) (ts := X ++ List.replicate 1 0) (by rw [List.length_append, hX, List.length_replicate]; omega) HB.out.2.1 HB.out.1 HB.out.2.2.1 (by unfold maxLen; exact HB.out.2.2.2.1) HB.out.2.2.2.2
  have hg := grownBy_sortedI (w := w1) (g := g) (n := q2) (os := #[]) (X ++ List.replicate 1 0).toArray
  rw [← putRow_ahead_heap] at hr hg
  have hr2 := row_prefix hr (l.length - 1) (by omega)
  have H2 := Lib.hid (And.intro (show Own B (putRow (Value.int .i64) (Sort.ahead w1 q2) g 0 (X ++ List.replicate 1 0).toArray) (.slice (some ⟨g, 0, none⟩) (l.length - 1) c) X from by
   unfold Own
   rw [hX]
   rw [List.map_append, Nat.mul_one, ← hX] at hr2
   have e : (X.map (Value.int .i64) ++ (List.replicate 1 (0 : Int)).map (Value.int .i64)).take X.length = X.map (Value.int .i64) := by
    rw [List.take_append_of_le_length (by simp), List.take_of_length_le (by simp)]
   rw [e, hX] at hr2
   exact hr2) (show Turns (.slice (some ⟨g, 0, none⟩) l.length c) w (.slice (some ⟨g, 0, none⟩) (l.length - 1) c) (putRow (Value.int .i64) (Sort.ahead w1 q2) g 0 (X ++ List.replicate 1 0).toArray) from ⟨(H1.out.2.mono (by simp)).trans (Keeps.of_grown hg (fun k hk => .inl (by simpa [Value.ownBlock] using hk.symm))), fun g' hg' => .inl hg'⟩))
  clear hr hg hr2
  go_wp2_with fail
  go_ret
  exact ⟨_, rfl, by rw [HR.out]; exact H2.out.1, H2.out.2⟩
 ·have hct : l.contains n = false := by
   cases hx : l.contains n with
   | false => rfl
   | true => exact absurd (List.contains_iff_mem.1 hx) hm
  rw [hct]
  have HR := Lib.hid (show remL l n = l from if_neg hm)
  clear hm hct
  go_wp2_with fail
  go_ret
  exact ⟨_, rfl, by rw [HR.out]; exact H1.out.1, ⟨H1.out.2.mono (by simp), fun g hg => .inl hg⟩⟩
open Go Go.RowKit
open Go Go.RowKit Go.Lib
theorem keeps_setRow {S : List Nat} {w0 w : World} {g : Nat} {cs : Array Value} (h : Keeps S w0 w) (hg : g ∈ S ∨ w0.heap.size ≤ g) : Keeps S w0 (w.setRow g cs) :=
 ⟨h.os, h.tape, h.output, by simpa [World.setRow] using h.size, fun k hk hn => by
  have hkg : k ≠ g := fun e => by
   rcases hg with hg | hg
   ·exact hn (e ▸ hg)
   ·omega
  rw [setRow_other w g k cs hkg]
  exact h.block k hk hn⟩
theorem ins_cells {cur xs : List Value} {x : Value} {n i : Nat} (hn : xs.length = n) (hcn : n + 1 ≤ cur.length) (ht : cur.take n = xs) (hi : i < n) :
  (((cur.take (i + 1) ++ xs.drop i ++ cur.drop (i + 1 + (xs.drop i).length)).take i ++ [x] ++ (cur.take (i + 1) ++ xs.drop i ++ cur.drop (i + 1 + (xs.drop i).length)).drop (i + [x].length))).take (n + 1) = xs.take i ++ [x] ++ xs.drop i := by
 have e1 : (cur.take (i + 1)).length = i + 1 := by rw [List.length_take]; omega
 have e2 : (xs.drop i).length = n - i := by rw [List.length_drop, hn]
 have e3 : (cur.take (i + 1) ++ xs.drop i ++ cur.drop (i + 1 + (xs.drop i).length)).take i = xs.take i := by
  rw [List.append_assoc, List.take_append_of_le_length (by omega), List.take_take, ← ht, List.take_take]
  congr 1
  omega
 have e4 : (cur.take (i + 1) ++ xs.drop i ++ cur.drop (i + 1 + (xs.drop i).length)).drop (i + [x].length) = xs.drop i ++ cur.drop (i + 1 + (xs.drop i).length) := by
  rw [List.append_assoc, List.drop_append_of_le_length (by rw [e1]; simp), List.drop_eq_nil_of_le (by rw [e1]; simp), List.nil_append]
 rw [e3, e4, ← List.append_assoc, List.take_append_of_le_length (by simp [e2]; omega), List.take_of_length_le (by simp [e2]; omega)]
theorem insShift_spec (w : World) (g n c : Nat) (cur : Array Value) (xs : List Value) (x : Value) (i vb : Nat) (hg : w.heap[g]? = some (.cells cur 3 (0, 0))) (hcs : cur.size = c) (hln : xs.length = n) (htk : cur.toList.take n = xs) (hi : i < n) (hroom : n + 1 ≤ c) (hc63 : c ≤ 9223372036854775807)
  (hv : w.heap[vb]? = some (.cells #[x] 3 (0, 0))) (hvb : vb ≠ g) (h1c : ∀ v ∈ xs, v.oneCell' = true) (h1v : x.oneCell' = true) :
  Calls Tryz.prog 127 #[.slice (some ⟨g, 0, none⟩) n c, .int .i64 i, .slice (some ⟨vb, 0, none⟩) 1 1] w fun e w' =>
   e = .returned (.slice (some ⟨g, 0, none⟩) (n + 1) c) ∧ ∃ cur', w'.heap[g]? = some (.cells cur' 3 (0, 0)) ∧ cur'.size = c ∧ cur'.toList.take (n + 1) = xs.take i ++ [x] ++ xs.drop i ∧ Keeps [g] w w' := by
 have hz2 : ¬ ((i : Int) = (n : Int)) := by omega
 have hsz : (Tryz.prog.info? 3).map (·.size) = some 1 := by
  obtain ⟨i0, hi0, h0, h1, h2⟩ := info_parts infoInt
  rw [hi0]; simp [h1]
 have hov : ∀ lb cb, (callFunc 168 #[.slice (some ⟨vb, 0, none⟩) 1 1, .slice (some ⟨g, i + 1, none⟩) lb cb]).run Tryz.prog w = .ok (.value (.bool false)) w := fun lb cb => by
  rw [run_callFunc_extern Tryz.func168 (by kernel_rfl) (by kernel_rfl) (by kernel_rfl) (e := Extern.SlicesOverlaps.overlaps #[113, 113] #[4]) (by kernel_rfl),
   Lib.run_overlaps_apart w 113 4 3 Tryz.underlying113 1 (fun w => by kernel_rfl) ⟨vb, 0, none⟩ ⟨g, i + 1, none⟩ 1 1 lb cb hvb 3 3 1 c (by simp [World.shape?, hv]) (by simp [World.shape?, hg, hcs]) (by omega) (by simp [World.frozen?, hv]) (by simp [World.frozen?, hv])]
  rfl
 have hdl : (xs.drop i).length = n - i := by rw [List.length_drop, hln]
 have hw1 : IntKind.i64.wrap ((i : Int) + 1) = (i : Int) + 1 := by rw [IntKind.wrap_i64]; omega
 have hb1 : (0 : Int) ≤ (i : Int) + 1 := by omega
 have hin : i ≤ n := by omega
 have htn : ((i : Int) + 1).toNat = i + 1 := by omega
 have hb2 : ¬ (c = i + 1) := by omega
 have hb3 : (i : Int) ≤ (n : Int) + 1 := by omega
 have hb4 : ¬ (c = i) := by omega
 have hcl : ∀ j v, xs[j]? = some v → w.cell? ⟨g, j, none⟩ = some v := fun j v hj => by
  rw [cells_at hg, ← Array.getElem?_toList]
  rw [← htk, List.getElem?_take] at hj
  split at hj
  ·exact hj
  ·cases hj
 obtain ⟨W1, hW1⟩ : ∃ W1, W1 = w.drew.setRow g (cur.toList.take (i + 1) ++ xs.drop i ++ cur.toList.drop (i + 1 + (xs.drop i).length)).toArray := ⟨_, rfl⟩
 have hcp1 : ∀ ty dc sc, (Builtin.copy_ #[114, 114] ty #[.slice (some ⟨g, i + 1, none⟩) (n - i) dc, .slice (some ⟨g, i, none⟩) (n + 1 - i) sc]).run Tryz.prog w.drew = .ok (goInt (xs.drop i).length) W1 := fun ty dc sc => by
  rw [hW1]
  exact run_copy_row Tryz.prog w.drew _ _ ty 3 g (i + 1) (n - i) dc ⟨g, i, none⟩ (n + 1 - i) sc cur 3 (xs.drop i) Tryz.underlying114 hsz hg (by rw [hdl]; simp only [Nat.min_def]; split <;> omega)
   (fun j v hj => by rw [Addr.add_lit]; exact hcl (i + j) v (by rwa [List.getElem?_drop] at hj)) (by rw [hdl]; omega) (fun v hv => h1c v (List.mem_of_mem_drop hv))
 have hg1 : W1.heap[g]? = some (.cells (cur.toList.take (i + 1) ++ xs.drop i ++ cur.toList.drop (i + 1 + (xs.drop i).length)).toArray 3 (0, 0)) := by
  rw [hW1]
  exact setRow_heap w.drew g cur _ _ _ hg
 have k1 : Keeps [g] w W1 := by
  rw [hW1]
  exact keeps_setRow ((Keeps.refl [g] w).drew) (.inl (by simp))
 have hv1 := k1.at_ hv (by simpa using hvb)
 have hs1 : (cur.toList.take (i + 1) ++ xs.drop i ++ cur.toList.drop (i + 1 + (xs.drop i).length)).length = c := by
  rw [hdl, List.length_append, List.length_append, List.length_take, hdl, List.length_drop, Array.length_toList, hcs]
  omega
 have hins := ins_cells (cur := cur.toList) (x := x) hln (by rw [Array.length_toList, hcs]; exact hroom) htk hi
 clear hW1
 generalize hD : cur.toList.take (i + 1) ++ xs.drop i ++ cur.toList.drop (i + 1 + (xs.drop i).length) = D at hg1 hs1 hins
 clear hD
 obtain ⟨W2, hW2⟩ : ∃ W2, W2 = W1.setRow g (D.take i ++ [x] ++ D.drop (i + [x].length)).toArray := ⟨_, rfl⟩
 have hcp2 : ∀ ty dc, (Builtin.copy_ #[114, 113] ty #[.slice (some ⟨g, i, none⟩) (n + 1 - i) dc, .slice (some ⟨vb, 0, none⟩) 1 1]).run Tryz.prog W1 = .ok (goInt [x].length) W2 := fun ty dc => by
  rw [hW2]
  exact run_copy_row Tryz.prog W1 _ _ ty 3 g i (n + 1 - i) dc ⟨vb, 0, none⟩ 1 1 D.toArray 3 [x] Tryz.underlying114 hsz (by simpa using hg1) (by simp only [Nat.min_def, List.length_singleton]; split <;> omega)
   (fun j v hj => by
    obtain ⟨rfl, rfl⟩ : j = 0 ∧ x = v := by
     match j with
     | 0 => simpa using hj
     | j + 1 => simp at hj
    rw [Addr.add_lit, cells_at hv1]
    rfl) (by simp [hs1]; omega) (fun v hv => by
    obtain rfl : v = x := by simpa using hv
    exact h1v)
 have hR := Lib.hid (show W2.heap[g]? = some (.cells (D.take i ++ [x] ++ D.drop (i + [x].length)).toArray 3 (0, 0)) ∧ (D.take i ++ [x] ++ D.drop (i + [x].length)).toArray.size = c ∧ ((D.take i ++ [x] ++ D.drop (i + [x].length)).toArray).toList.take (n + 1) = xs.take i ++ [x] ++ xs.drop i ∧ Keeps [g] w W2 from by
  refine ⟨by rw [hW2]; exact setRow_heap W1 g _ _ _ _ hg1, ?_, by simpa using hins, by rw [hW2]; exact keeps_setRow k1 (.inl (by simp))⟩
  simp [hs1]
  omega)
 clear hW2 hins hg1 hv1 k1 hs1 hcl hsz hdl h1c h1v htk hln
 go_enter Tryz.func127, Tryz.ntmps127
 go_wp2_with (simp only [hov])
 go_region_law (refine step_copy_runI rfl _ _ 114 114 rfl _ _ (by simp [Act.eval, Act.put]) (by simp [Act.eval, Act.put]) (hcp1 _ _ _) ?_)
 go_wp2_with (at_builtin; refine wpList_copy_runI _ rfl _ _ 114 113 rfl _ _ rfl rfl (hcp2 _ _) ?_)
 go_ret
 exact ⟨rfl, _, hR.out⟩
theorem ins_cells2 {D xs : List Value} {x : Value} {n i : Nat} (hn : xs.length = n) (ht : D.take i = xs.take i) (hi : i < n) :
  ((D.take i ++ [x] ++ D.drop (i + [x].length)).take (i + 1) ++ xs.drop i ++ (D.take i ++ [x] ++ D.drop (i + [x].length)).drop (i + 1 + (xs.drop i).length)).take (n + 1) = xs.take i ++ [x] ++ xs.drop i := by
 have e2 : (xs.drop i).length = n - i := by rw [List.length_drop, hn]
 have e1 : (xs.take i).length = i := by rw [List.length_take]; omega
 have e3 : (D.take i ++ [x] ++ D.drop (i + [x].length)).take (i + 1) = xs.take i ++ [x] := by
  rw [ht, List.take_append_of_le_length (by simp [e1]), List.take_of_length_le (by simp [e1])]
 rw [e3, List.take_append_of_le_length (by simp [e2]; omega), List.take_of_length_le (by simp [e2]; omega)]
theorem insGrow_spec (w : World) (g n c : Nat) (cur : Array Value) (xs : List Value) (x : Value) (i vb : Nat) (hg : w.heap[g]? = some (.cells cur 3 (0, 0))) (hln : xs.length = n) (htk : cur.toList.take n = xs) (hi : i < n) (hnc : n ≤ c) (hroom : c < n + 1) (hbig : n ≤ 1000000)
  (hv : w.heap[vb]? = some (.cells #[x] 3 (0, 0))) (h1c : ∀ v ∈ xs, v.oneCell' = true) (h1v : x.oneCell' = true) :
  Calls Tryz.prog 127 #[.slice (some ⟨g, 0, none⟩) n c, .int .i64 i, .slice (some ⟨vb, 0, none⟩) 1 1] w fun e w' =>
   ∃ G, e = .returned (.slice (some ⟨w.heap.size, 0, none⟩) (n + 1) G) ∧ ∃ cur', w'.heap[w.heap.size]? = some (.cells cur' 3 (0, 0)) ∧ n + 1 ≤ G ∧ G ≤ maxLen ∧ cur'.size = G ∧ cur'.toList.take (n + 1) = xs.take i ++ [x] ++ xs.drop i ∧ Keeps [] w w' := by
 obtain ⟨i0, hi0, hz0, hzs, hzb⟩ := info_parts infoInt
 have hz2 : ¬ ((i : Int) = (n : Int)) := by omega
 have hz3 : (c : Int) < (n : Int) + 1 := by omega
 have hsz : (Tryz.prog.info? 3).map (·.size) = some 1 := by rw [hi0]; simp [hzs]
 have hgl := lt_of_at hg
 have hvl := lt_of_at hv
 have hkk : (n : Int) + 1 - (i : Int) = ((n + 1 - i : Nat) : Int) := by omega
 have hik : i + (n + 1 - i) = n + 1 := by omega
 have hcl : ∀ j v, xs[j]? = some v → w.cell? ⟨g, j, none⟩ = some v := fun j v hj => by
  rw [cells_at hg, ← Array.getElem?_toList]
  rw [← htk, List.getElem?_take] at hj
  split at hj
  ·exact hj
  ·cases hj
 have hold : (Builtin.firstCells i0.size i (.slice (some ⟨g, 0, none⟩) i c)).run Tryz.prog w.drew = .ok (xs.take i).toArray w.drew := by
  rw [hzs]
  exact run_firstCells_some w.drew 1 i ⟨g, 0, none⟩ i c (xs.take i) (by rw [List.length_take]; omega) (fun j v hj => by
   rw [Addr.add_lit, Nat.zero_add]
   rw [List.getElem?_take] at hj
   split at hj
   ·exact hcl j v hj
   ·cases hj)
 obtain ⟨G, hG⟩ : ∃ G, G = grownCap w (n + 1) c 3 := ⟨_, rfl⟩
 obtain ⟨ROW, hROW⟩ : ∃ ROW : Array Value, ROW = (xs.take i).toArray ++ Builtin.zeroCells (Value.int .i64 0).cells (n + 1 - i) ++ Builtin.zeroCells (Value.int .i64 0).cells (G - (n + 1)) := ⟨_, rfl⟩
 obtain ⟨W1, hW1⟩ : ∃ W1, W1 = w.drew.alloc (.cells ROW 3) := ⟨_, rfl⟩
 have hrz : ∀ ty, (Builtin.append_ #[114, 3] ty #[.slice (some ⟨g, 0, none⟩) i c, .int .i64 ((n : Int) + 1 - (i : Int))]).run Tryz.prog w = .ok (.slice (some ⟨w.heap.size, 0, none⟩) (n + 1) G) W1 := fun ty => by
  have h := Lib.run_append_grow_zeros w 114 3 ty 3 i0 _ .i64 .i64 Tryz.underlying114 Tryz.underlying3 hi0 hz0 (some ⟨g, 0, none⟩) i c (xs.take i) hold (n + 1 - i) (by omega) (by omega) (by omega) (by omega) (by rw [hzb]; omega) (by rw [hzb, hik]; exact growslice_fits hroom (by omega))
  rw [hik, ← hG, ← hROW, ← hW1] at h
  rw [hkk]
  exact h
 have hGn : n + 1 ≤ G := by rw [hG]; exact grownCap_ge w _ _ _
 have hGm : G ≤ maxLen := by rw [hG]; exact grownCap_le_maxLen w (n + 1) c 3 (by unfold maxLen; omega)
 have hG63 : G ≤ 9223372036854775807 := by unfold maxLen at hGm; omega
 have hRl : ROW.size = G := by
  rw [hROW]
  simp [Builtin.zeroCells, Value.cells]
  omega
 have hRt : ROW.toList.take i = xs.take i := by
  rw [hROW]
  have e1 : (xs.take i).length = i := by rw [List.length_take]; omega
  rw [Array.append_assoc, Array.toList_append, List.take_append_of_le_length (by simp [e1]), List.take_of_length_le (by rw [List.length_take]; omega)]
 have hg1 : W1.heap[w.heap.size]? = some (.cells ROW 3 (0, 0)) := by rw [hW1]; exact heap_new w.drew _
 have k1 : Keeps [] w W1 := by rw [hW1]; exact ((Keeps.refl [] w).drew).alloc _
 clear hROW hW1 hold hkk hik hG
 have hv1 := k1.at_ hv (by simp)
 obtain ⟨W2, hW2⟩ : ∃ W2, W2 = W1.setRow w.heap.size (ROW.toList.take i ++ [x] ++ ROW.toList.drop (i + [x].length)).toArray := ⟨_, rfl⟩
 have hcpA : ∀ ty dc, (Builtin.copy_ #[114, 113] ty #[.slice (some ⟨w.heap.size, i, none⟩) (n + 1 - i) dc, .slice (some ⟨vb, 0, none⟩) 1 1]).run Tryz.prog W1 = .ok (goInt [x].length) W2 := fun ty dc => by
  rw [hW2]
  exact run_copy_row Tryz.prog W1 _ _ ty 3 w.heap.size i (n + 1 - i) dc ⟨vb, 0, none⟩ 1 1 ROW 3 [x] Tryz.underlying114 hsz hg1 (by simp only [Nat.min_def, List.length_singleton]; split <;> omega)
   (fun j v hj => by
    obtain ⟨rfl, rfl⟩ : j = 0 ∧ x = v := by
     match j with
     | 0 => simpa using hj
     | j + 1 => simp at hj
    rw [Addr.add_lit, cells_at hv1]
    rfl) (by simp [hRl]; omega) (fun v hv => by
    obtain rfl : v = x := by simpa using hv
    exact h1v)
 have hg2 : W2.heap[w.heap.size]? = some (.cells (ROW.toList.take i ++ [x] ++ ROW.toList.drop (i + [x].length)).toArray 3 (0, 0)) := by
  rw [hW2]
  exact setRow_heap W1 w.heap.size ROW _ _ _ hg1
 have k2 : Keeps [] w W2 := by rw [hW2]; exact keeps_setRow k1 (.inr (Nat.le_refl _))
 have hs2 : (ROW.toList.take i ++ [x] ++ ROW.toList.drop (i + [x].length)).length = G := by
  rw [List.length_append, List.length_append, List.length_take, List.length_drop, Array.length_toList, hRl, List.length_singleton]
  omega
 have hins := ins_cells2 (D := ROW.toList) (x := x) hln hRt hi
 clear hW2 hg1 hv1
 generalize ROW.toList.take i ++ [x] ++ ROW.toList.drop (i + [x].length) = D at hg2 hs2 hins
 have hdl : (xs.drop i).length = n - i := by rw [List.length_drop, hln]
 obtain ⟨W3, hW3⟩ : ∃ W3, W3 = W2.drew.setRow w.heap.size (D.take (i + 1) ++ xs.drop i ++ D.drop (i + 1 + (xs.drop i).length)).toArray := ⟨_, rfl⟩
 have hcpB : ∀ ty dc sc, (Builtin.copy_ #[114, 114] ty #[.slice (some ⟨w.heap.size, i + 1, none⟩) (n - i) dc, .slice (some ⟨g, i, none⟩) (n - i) sc]).run Tryz.prog W2.drew = .ok (goInt (xs.drop i).length) W3 := fun ty dc sc => by
  rw [hW3]
  exact run_copy_row Tryz.prog W2.drew _ _ ty 3 w.heap.size (i + 1) (n - i) dc ⟨g, i, none⟩ (n - i) sc D.toArray 3 (xs.drop i) Tryz.underlying114 hsz hg2 (by rw [hdl]; simp only [Nat.min_def]; split <;> omega)
   (fun j v hj => by
    rw [Addr.add_lit]
    exact (k2.cell hgl (by simp)).trans (hcl (i + j) v (by rwa [List.getElem?_drop] at hj))) (by rw [hdl]; simp [hs2]; omega) (fun v hv => h1c v (List.mem_of_mem_drop hv))
 have hR := Lib.hid (show W3.heap[w.heap.size]? = some (.cells (D.take (i + 1) ++ xs.drop i ++ D.drop (i + 1 + (xs.drop i).length)).toArray 3 (0, 0)) ∧ n + 1 ≤ G ∧ G ≤ maxLen ∧ (D.take (i + 1) ++ xs.drop i ++ D.drop (i + 1 + (xs.drop i).length)).toArray.size = G ∧ (D.take (i + 1) ++ xs.drop i ++ D.drop (i + 1 + (xs.drop i).length)).toArray.toList.take (n + 1) = xs.take i ++ [x] ++ xs.drop i ∧ Keeps [] w W3 from by
  refine ⟨by rw [hW3]; exact setRow_heap W2.drew w.heap.size _ _ _ _ hg2, hGn, hGm, ?_, by simpa using hins, by rw [hW3]; exact keeps_setRow (k2.drew) (.inr (Nat.le_refl _))⟩
  rw [List.size_toArray, hdl, List.length_append, List.length_append, List.length_take, hdl, List.length_drop, hs2]
  omega)
 have hw1 : IntKind.i64.wrap ((i : Int) + 1) = (i : Int) + 1 := by rw [IntKind.wrap_i64]; omega
 have hb1 : (0 : Int) ≤ (i : Int) + 1 := by omega
 have hin : i ≤ n := by omega
 have htn : ((i : Int) + 1).toNat = i + 1 := by omega
 have hb3 : (i : Int) ≤ (n : Int) := by omega
 have hGi : ¬ (G = i) := by omega
 have hGim : ¬ (G = i + 1) := by omega
 have hci : ¬ (c = i) := by omega
 clear hW3 hins hg2 k1 k2 hs2 hcl hsz hdl h1c h1v htk hln hRl hRt hgl hvl hg hv hGm
 go_enter Tryz.func127, Tryz.ntmps127
 go_wp2_with (first
  | (at_builtin; refine Lib.wpList_append_run _ rfl _ _ _ _ rfl _ _ rfl rfl _ _ (hrz _) ?_)
  | (at_builtin; refine wpList_copy_runI _ rfl _ _ 114 113 rfl _ _ rfl rfl (hcpA _ _) ?_))
 go_region_law (refine step_copy_runI rfl _ _ 114 114 rfl _ _ (by simp [Act.eval, Act.put]) (by simp [Act.eval, Act.put]) (hcpB _ _ _) ?_)
 go_wp2_with fail
 go_ret
 exact ⟨_, rfl, _, hR.out⟩
open Go Go.RowKit
def putAt (l : List Int) (k : Nat) (n : Int) : List Int := l.take k ++ [n] ++ l.drop k
def insI (l : List Int) (n : Int) : List Int := if n ∈ l then l else putAt l (l.countP (· < n)) n
theorem putAt_len {l : List Int} {k : Nat} {n : Int} (hk : k ≤ l.length) : (putAt l k n).length = l.length + 1 := by
 unfold putAt
 simp
 omega
def InsPost (B : Nat) (w : World) (v : Value) (l : List Int) (e : Ending) (w' : World) : Prop := ∃ v', e = .returned v' ∧ Own B w' v' l ∧ Turns v w v' w'
theorem own_of_cells {B g c n : Nat} {w : World} {cur : Array Value} {l : List Int} (hb : B ≤ g) (hg : w.heap[g]? = some (.cells cur 3 (0, 0))) (hc : cur.size = c) (hn : l.length = n) (hnc : n ≤ c) (hcm : c ≤ maxLen) (ht : cur.toList.take n = l.map (Value.int .i64)) : Own B w (.slice (some ⟨g, 0, none⟩) n c) l := by
 unfold Own
 refine ⟨by simp, .inr ⟨g, c, cur, by rw [hn], hb, hg, by omega, hcm, by omega, by rw [hn, Nat.mul_one]; exact ht⟩⟩
theorem insEnd_spec (B : Nat) (w : World) (n : Int) (a : Option Addr) (c : Nat) (l : List Int) (hl : l.length ≤ 1000) (hB : B ≤ w.heap.size) (ho : Own B w (.slice a l.length c) l) (g : Nat) (hg : w.heap[g]? = some (.cells #[.int .i64 n] 3 (0, 0))) : Calls Tryz.prog 127 #[.slice a l.length c, .int .i64 l.length, .slice (some ⟨g, 0, none⟩) 1 1] w (InsPost B w (.slice a l.length c) (l ++ [n])) := by
 by_cases hcl : c = l.length
 ·subst hcl
  have Ho := Lib.hid ho
  clear ho
  go_enter Tryz.func127, Tryz.ntmps127
  go_wp2_with (at_builtin; refine own_append2 rfl (.tmp 23) (.tmp 24) 114 113 Tryz.underlying114 Tryz.underlying113 rfl B (.slice a l.length l.length) l rfl Ho.out ⟨g, 0, none⟩ 1 1 [n] rfl rfl (news_of hg) (by show l.length + 1 ≤ 1000000; omega) hB ?_; intro ao cp w9 hown9 ht9; have H9 := Lib.hid (And.intro hown9 ht9); clear hown9 ht9)
  go_ret
  exact ⟨_, rfl, H9.out.1, H9.out.2⟩
 ·have Ho := Lib.hid ho
  clear ho
  go_enter Tryz.func127, Tryz.ntmps127
  go_wp2_with (at_builtin; refine own_append2 rfl (.tmp 23) (.tmp 24) 114 113 Tryz.underlying114 Tryz.underlying113 rfl B (.slice a l.length c) l rfl Ho.out ⟨g, 0, none⟩ 1 1 [n] rfl rfl (news_of hg) (by show l.length + 1 ≤ 1000000; omega) hB ?_; intro ao cp w9 hown9 ht9; have H9 := Lib.hid (And.intro hown9 ht9); clear hown9 ht9)
  go_ret
  exact ⟨_, rfl, H9.out.1, H9.out.2⟩
theorem insAny_spec (B : Nat) (w : World) (n : Int) (v : Value) (l : List Int) (k : Nat) (hk : k ≤ l.length) (hl : l.length ≤ 1000) (hB : B ≤ w.heap.size) (ho : Own B w v l) (vb : Nat) (hg : w.heap[vb]? = some (.cells #[.int .i64 n] 3 (0, 0))) (hne : ∀ g, v.ownBlock = some g → vb ≠ g) : Calls Tryz.prog 127 #[v, .int .i64 k, .slice (some ⟨vb, 0, none⟩) 1 1] w (InsPost B w v (putAt l k n)) := by
 by_cases hkl : k = l.length
 ·subst hkl
  obtain ⟨a, c, rfl, -, -, -⟩ := row_slice ho
  have h := insEnd_spec B w n a c l hl hB ho vb hg
  have e : putAt l l.length n = l ++ [n] := by simp [putAt]
  rw [e]
  exact h
 ·have hlt : k < l.length := by omega
  obtain ⟨_, ⟨rfl, hn⟩ | ⟨g, c, cur, rfl, hbase, hb, h1, h2, h3, h4⟩⟩ := ho
  ·omega
  ·have h4' : cur.toList.take l.length = l.map (Value.int .i64) := by rw [← h4, Nat.mul_one]
   have e1 : (l.map (Value.int .i64)).take k ++ [Value.int .i64 n] ++ (l.map (Value.int .i64)).drop k = (putAt l k n).map (Value.int .i64) := by
    unfold putAt
    rw [List.map_append, List.map_append, List.map_take, List.map_drop]
    rfl
   by_cases hroom : l.length + 1 ≤ c
   ·have hc := insShift_spec w g l.length c cur (l.map (Value.int .i64)) (.int .i64 n) k vb hb (by omega) (by simp) h4' hlt hroom (by unfold maxLen at h2; omega) hg (hne g rfl) (by
     intro u hu
     obtain ⟨z, -, rfl⟩ := List.mem_map.1 hu
     rfl) rfl
    refine hc.mono ?_
    rintro e w' ⟨rfl, cur', hg', hs', ht', hk'⟩
    rw [e1] at ht'
    have hl2 := putAt_len (n := n) hk
    exact ⟨_, rfl, own_of_cells hbase hg' hs' hl2 hroom h2 ht', ⟨by simpa [Value.ownBlock] using hk', fun g' hg'' => .inl (by simpa [Value.ownBlock] using hg'')⟩⟩
   ·have hc := insGrow_spec w g l.length c cur (l.map (Value.int .i64)) (.int .i64 n) k vb hb (by simp) h4' hlt h1 (by omega) (by omega) hg (by
     intro u hu
     obtain ⟨z, -, rfl⟩ := List.mem_map.1 hu
     rfl) rfl
    refine hc.mono ?_
    rintro e w' ⟨G, rfl, cur', hg', hG1, hG2, hs', ht', hk'⟩
    rw [e1] at ht'
    have hl2 := putAt_len (n := n) hk
    exact ⟨_, rfl, own_of_cells hB hg' hs' hl2 hG1 hG2 ht', ⟨hk'.mono (by simp), fun g' hg'' => .inr (by
     have : w.heap.size = g' := by simpa [Value.ownBlock] using hg''
     omega)⟩⟩
theorem insert_spec (B : Nat) (w : World) (n : Int) (v : Value) (l : List Int) (hs : l.Pairwise (· ≤ ·)) (hl : l.length ≤ 1000) (hB : B ≤ w.heap.size) (ho : Own B w v l) : Calls Tryz.prog 98 #[v, .int .i64 n] w (InsPost B w v (insI l n)) := by
 have Hf := Lib.hid ho
 have Hb := Lib.hid (bsearch_spec B w v l n ho hs (by omega))
 obtain ⟨a, c, rfl, -, -, -⟩ := row_slice ho
 clear ho
 go_enter Tryz.func98, Tryz.ntmps98
 go_wp2_with fail
 refine Hb.out.mono ?_
 rintro e w1 ⟨rfl, q, rfl⟩
 have kq : Keeps [] w (w.drewN q) := (Keeps.refl [] w).drewN q
 have H1 := Lib.hid (And.intro (go1 kq Hf.out) kq)
 clear kq Hb
 generalize w.drewN q = w1 at H1 ⊢
 by_cases hm : n ∈ l
 ·have hct : l.contains n = true := List.contains_iff_mem.2 hm
  rw [hct]
  have HR := Lib.hid (show insI l n = l from if_pos hm)
  clear hm hct
  go_wp2_with fail
  go_ret
  exact ⟨_, rfl, by rw [HR.out]; exact H1.out.1, ⟨H1.out.2.mono (by simp), fun g hg => .inl hg⟩⟩
 ·have hct : l.contains n = false := by
   cases hx : l.contains n with
   | false => rfl
   | true => exact absurd (List.contains_iff_mem.1 hx) hm
  rw [hct]
  have HR := Lib.hid (show insI l n = putAt l (l.countP (· < n)) n from if_neg hm)
  have hkl : l.countP (· < n) ≤ l.length := List.countP_le_length
  obtain ⟨k, hk⟩ : ∃ k, k = l.countP (· < n) := ⟨_, rfl⟩
  rw [← hk] at HR hkl ⊢
  clear hm hct hk
  have k2 : Keeps [] w1 (w1.alloc (.cells #[.int .i64 n] 3)) := (Keeps.refl [] w1).alloc _
  have H2 := Lib.hid (And.intro (heap_new w1 (.cells #[.int .i64 n] 3)) (And.intro (go1 k2 H1.out.1) (And.intro (H1.out.2.trans k2) (show ∀ g, (Value.slice a l.length c).ownBlock = some g → w1.heap.size ≠ g from fun g hg => by have := (World.ownsRow.lt H1.out.1 g hg).2; omega))))
  have hBB := Nat.le_trans hB (H2.out.2.2.1).size
  clear k2
  go_wp2_with fail
  refine (insAny_spec B _ n (.slice a l.length c) l k hkl hl hBB H2.out.2.1 _ H2.out.1 H2.out.2.2.2).mono ?_
  rintro e w2 ⟨v2, rfl, hown, hk⟩
  have H3 := Lib.hid (And.intro hown (Turns.since H2.out.2.2.1 hk))
  clear hown hk
  go_wp2_with fail
  go_ret
  exact ⟨_, rfl, by rw [HR.out]; exact H3.out.1, H3.out.2⟩
open Go Go.RowKit
structure EntI where
 nm : ByteArray
 val : ByteArray
 ib : Nat
 vr : Value
def EntI.kv (e : EntI) : ByteArray × Value := (e.nm, .map (some e.ib))
def EntsAt (w : World) (n : Int) : Nat → Nat → List EntI → Prop
 | lo, hi, [] => lo ≤ hi
 | lo, hi, e :: r => ∃ mid, lo ≤ e.ib ∧ e.ib < mid ∧ MapAt w e.ib [(e.val, e.vr)] ∧ Own (e.ib + 1) w e.vr [n] ∧ (∀ g, e.vr.ownBlock = some g → g < mid) ∧ EntsAt w n mid hi r
theorem EntsAt.le {w : World} {n : Int} {hi : Nat} : ∀ {l : List EntI} {lo : Nat}, EntsAt w n lo hi l → lo ≤ hi
 | [], _, h => h
 | _ :: _, _, ⟨_, h1, h2, _, _, _, h⟩ => by have := EntsAt.le h; omega
theorem EntsAt.keep {S : List Nat} {w w' : World} {n : Int} {hi : Nat} (k : Keeps S w w') : ∀ {l : List EntI} {lo : Nat}, EntsAt w n lo hi l → (∀ y ∈ S, y < lo ∨ hi ≤ y) → EntsAt w' n lo hi l
 | [], _, h, _ => h
 | e :: r, lo, ⟨mid, h1, h2, h3, h4, h5, h⟩, hS => by
  have hle := EntsAt.le h
  refine ⟨mid, h1, h2, h3.keep k (fun hm => ?_), k.row h4 (fun g hg hm => ?_), h5, EntsAt.keep k h (fun y hy => ?_)⟩
  ·have := hS _ hm
   omega
  ·have := hS _ hm
   have h6 := (World.ownsRow.lt h4 g hg).1
   have h7 := h5 g hg
   omega
  ·rcases hS y hy with h | h
   ·exact .inl (by omega)
   ·exact .inr h
instance go1Ents {w w' : World} (n : Int) (lo hi : Nat) (l : List EntI) : Go1 w w' (EntsAt w n lo hi l) (EntsAt w' n lo hi l) := ⟨fun k h => h.keep k (by simp)⟩
theorem EntsAt.snoc {w : World} {n : Int} {hi hi2 : Nat} {e : EntI} (h1 : hi ≤ e.ib) (h2 : e.ib < hi2) (h3 : MapAt w e.ib [(e.val, e.vr)]) (h4 : Own (e.ib + 1) w e.vr [n]) (h5 : ∀ g, e.vr.ownBlock = some g → g < hi2) :
  ∀ {l : List EntI} {lo : Nat}, EntsAt w n lo hi l → EntsAt w n lo hi2 (l ++ [e])
 | [], _, h => ⟨hi2, Nat.le_trans h h1, h2, h3, h4, h5, Nat.le_refl _⟩
 | _ :: _, _, ⟨mid, a1, a2, a3, a4, a5, h⟩ => ⟨mid, a1, a2, a3, a4, a5, EntsAt.snoc h1 h2 h3 h4 h5 h⟩
theorem put_end {m : KV} {k : ByteArray} {v : Value} (h : k ∉ m.map (·.1)) : put m k v = m ++ [(k, v)] := by
 have := put_append m [] k v h
 rw [List.append_nil] at this
 rw [this]
 rfl
open Go Go.RowKit
theorem run_lenD {P : Program} {w : World} {b : Nat} {m : KV} {t k e : TypeId} (h : MapAt w b m) (ht : P.underlying t = some (.map k e)) (ty : TypeId) : (Builtin.len_ #[t] ty #[.map (some b)]).run P w = .ok (.int .i64 m.length) w := by
 obtain ⟨E, c, h1, h2, rfl⟩ := h
 simp [Builtin.len_, run_underlying ht, MapKept.run_getObj_map h1, goInt, Result.andThen, pairs]
theorem step_delete_str {P : Program} {ops : Array Oper} {o : Oper} {a : Act} {w : World} {K : Act → World → Prop} {Q : Exit → Act → World → Prop} {E : Prop}
  (hg : o.guard = none) (m x : Operand) (t kt et : TypeId) (hop : o.op = Op.call { callee := Callee.builtin Builtin.delete, args := #[m, x], argTypes := #[t, kt] }) (ht : P.underlying t = some (.map kt et)) (hk : P.underlying kt = some .string)
  (b : Nat) (M : KV) (key : ByteArray) (hm : a.eval m = .map (some b)) (hx : a.eval x = .string key) (h : MapAt w b M)
  (hK : ∀ w', MapAt w' b (del M key) → Keeps [b] w w' → K (a.put o.dst (.tuple #[])) w') : if Region.wanted o (yielded ops a.tmps) = true then Oper.wp P o a w K Q else E := by
 have hw : Region.wanted o (yielded ops a.tmps) = true := by simp [Region.wanted, hg]
 rw [if_pos hw]
 obtain ⟨ob, hrun, r1⟩ := h.run_delete ht hk key o.type
 unfold Oper.wp
 simp [execOp, hop, resolve, invoke, builtin, hm, hx, hrun, Result.andThen]
 exact hK _ r1 (keeps_setIf ob)
end Go.Proofs.YtgdkceeonnfejaaGreatDoor
