/-
  A matcher as a text: the program's String and the document's Text.
  The matcher is one that may be; the variable matcher.signs holds its five signs.
-/
import Derived.Test.YtjgaidojohgenaaDoorRParse
import Derived.Test.YtjgaidojohgenaaDoorShelfJ
namespace Go.Proofs.YtjgaidojohgenaaDoor
open Go Go.RowKit

def joinL (V : List ByteArray) : List UInt8 := Lib.join (V.map (·.data.toList)) [124]

def textB (m : MatB) : ByteArray := m.2.1 ++ signOf m.1.toNat ++ ⟨(joinL m.2.2).toArray⟩

theorem joinTail_snoc (sep y : List UInt8) (r : List (List UInt8)) : Lib.joinTail sep (r ++ [y]) = Lib.joinTail sep r ++ (sep ++ y) := by simp [Lib.joinTail]

theorem joinL_snoc (V : List ByteArray) (y : ByteArray) (h : V ≠ []) : joinL (V ++ [y]) = joinL V ++ ([124] ++ y.data.toList) := by
  cases V with
  | nil => exact absurd rfl h
  | cons x r =>
    unfold joinL
    rw [List.cons_append, List.map_cons, List.map_cons, Lib.join_cons, Lib.join_cons, List.map_append, List.map_cons, List.map_nil, joinTail_snoc, List.append_assoc]

theorem joinL_one (x : ByteArray) : joinL [x] = x.data.toList := by
  unfold joinL
  exact Lib.join_one _ _

theorem joinL_len : ∀ (V : List ByteArray), (∀ x ∈ V, x.size ≤ 40) → (joinL V).length ≤ 41 * V.length
  | [], _ => by simp [joinL, Lib.join, List.intercalate]
  | x :: r, h => by
    unfold joinL
    rw [List.map_cons, Lib.join_cons, List.length_append, Lib.joinTail_length]
    have hx := h x (List.mem_cons_self ..)
    have hl : Lib.lens (r.map (·.data.toList)) ≤ 40 * r.length := by
      clear hx
      induction r with
      | nil => simp [Lib.lens]
      | cons y r ih =>
        have h1 := ih (fun z hz => h z (by
          rcases List.mem_cons.1 hz with rfl | hz
          · exact List.mem_cons_self ..
          · exact List.mem_cons_of_mem _ (List.mem_cons_of_mem _ hz)))
        have h2 := h y (by simp)
        have h3 : y.data.toList.length = y.size := by simp
        unfold Lib.lens at h1 ⊢
        simp only [List.map_cons, List.sum_cons, List.length_cons]
        omega
    have h3 : x.data.toList.length = x.size := by simp
    simp only [List.length_map, List.length_cons, List.length_nil]
    omega

theorem chk_sizes {k : Int} {n : ByteArray} {V : List ByteArray} (h : chkB (k, n, V) = true) : (k = 1 ∨ k = 2 ∨ k = 3 ∨ k = 4) ∧ n.size ≤ 40 ∧ V.length ≠ 0 ∧ V.length ≤ 10 ∧ ∀ x ∈ V, x.size ≤ 40 := by
  unfold chkB headB at h
  simp only [Bool.and_eq_true, decide_eq_true_eq, List.all_eq_true] at h
  obtain ⟨⟨⟨⟨⟨⟨⟨h1, h2⟩, -⟩, h4⟩, h5⟩, h6⟩, -⟩, h8⟩ := h
  unfold plainB at h4
  simp only [Bool.and_eq_true, decide_eq_true_eq] at h4
  refine ⟨by omega, h4.2, h5, h6, fun x hx => ?_⟩
  have := h8 x hx
  unfold valB plainB at this
  simp only [Bool.and_eq_true, decide_eq_true_eq] at this
  exact this.1.2

theorem joinS_spec (w : World) (B : Nat) (v : Value) (V : List ByteArray) (h : w.ownsRow B 9 1 v V.length (V.map Value.string)) (hV : V.length ≠ 0) (hl : V.length ≤ 10) (hs : ∀ x ∈ V, x.size ≤ 40) :
    Calls Tryd.prog 52 #[v, .string ⟨#[124]⟩] w fun e w' => e = .returned (.string ⟨(joinL V).toArray⟩) ∧ Keeps [] w w' := by
  have hjl := joinL_len V hs
  obtain ⟨b, off, cap, ea, hbW, hc⟩ := texts_at (row_texts h) (by omega)
  obtain ⟨ao, cap', e2, hcap, -, -⟩ := row_slice h
  rw [e2] at ea
  injection ea with ea _ ec
  subst ea ec
  rw [e2]
  have hcells : ∀ (j : Nat) x, V[j]? = some x → w.cell? ⟨b, off + j, none⟩ = some (.string x) := fun j x hx => by
    have hj := (List.getElem?_eq_some_iff.1 hx).1
    rw [hc j hj, List.getD_eq_getElem?_getD, hx]
    rfl
  refine (Tryd.strings_Join b off cap' V ⟨#[124]⟩ w hcells hbW (by omega) hcap (by show (joinL V).length ≤ _; omega)).mono ?_
  rintro e w' ⟨rfl, hb⟩
  exact ⟨rfl, Keeps.of_below hb⟩

theorem sign_at (w : World) (hsg : SignsAt w) (k : Int) (hk : k = 1 ∨ k = 2 ∨ k = 3 ∨ k = 4) : w.cell? ⟨0, k.toNat, none⟩ = some (.string (signOf k.toNat)) ∧ (signOf k.toNat).size ≤ 2 := by
  rcases hk with rfl | rfl | rfl | rfl
  · exact ⟨hsg.1, by decide⟩
  · exact ⟨hsg.2.1, by decide⟩
  · exact ⟨hsg.2.2.1, by decide⟩
  · exact ⟨hsg.2.2.2, by decide⟩

set_option linter.unusedSimpArgs false in
set_option maxRecDepth 100000 in
set_option maxHeartbeats 1000000 in
theorem stringM_spec (w : World) (hsg : SignsAt w) (B : Nat) (k : Int) (n : ByteArray) (v : Value) (V : List ByteArray) (h : w.ownsRow B 9 1 v V.length (V.map Value.string)) (hc : chkB (k, n, V) = true) :
    Calls Tryd.prog 29 #[.agg #[.int .i64 k, .string n, v]] w fun e w' => e = .returned (.string (textB (k, n, V))) ∧ Keeps [] w w' := by
  obtain ⟨hk, hn, hV0, hV10, hVs⟩ := chk_sizes hc
  have hjl := joinL_len V hVs
  have hR : textB (k, n, V) = n ++ signOf k.toNat ++ ⟨(joinL V).toArray⟩ := rfl
  rw [hR]
  obtain ⟨ao, cap, rfl, -, -, -⟩ := row_slice h
  have k1 : ¬ k < 1 := by omega
  have k4 : ¬ 4 < k := by omega
  have kA : Keeps [] w (w.alloc (.cells #[.int .i64 k, .string n, .slice ao V.length cap] 56)) := (Keeps.refl [] w).alloc _
  obtain ⟨W0, hW0⟩ : ∃ W0, W0 = (w.alloc (.cells #[.int .i64 k, .string n, .slice ao V.length cap] 56)).drew := ⟨_, rfl⟩
  have kW : Keeps [] w W0 := by rw [hW0]; exact kA.drew
  have np : W0.heap[w.heap.size]? = some (.cells #[.int .i64 k, .string n, .slice ao V.length cap] 56 (0, 0)) := by rw [hW0]; exact heap_new w (.cells #[.int .i64 k, .string n, .slice ao V.length cap] 56)
  obtain ⟨hsc, hsz⟩ := sign_at W0 (hsg.keep kW) k hk
  have D0 : ∀ s : Kept W0, s.val.cell? ⟨w.heap.size, 0, none⟩ = some (.int .i64 k) := keptCell (cells_at np 0)
  have D1 : ∀ s : Kept W0, s.val.cell? ⟨w.heap.size, 1, none⟩ = some (.string n) := keptCell (cells_at np 1)
  have D2 : ∀ s : Kept W0, s.val.cell? ⟨w.heap.size, 2, none⟩ = some (.slice ao V.length cap) := keptCell (cells_at np 2)
  have D3 : ∀ s : Kept W0, s.val.cell? ⟨0, k.toNat, none⟩ = some (.string (signOf k.toNat)) := keptCell hsc
  have HJ := Lib.hid (joinS_spec W0 B _ V (kW.row h (by simp)) hV0 hV10 hVs)
  have hj : (⟨(joinL V).toArray⟩ : ByteArray).size ≤ 410 := by
    show (joinL V).toArray.size ≤ 410
    simp only [List.size_toArray]
    omega
  generalize (⟨(joinL V).toArray⟩ : ByteArray) = J at hj HJ ⊢
  generalize signOf k.toNat = sg at hsz D3 ⊢
  have HW := Lib.hid (And.intro hW0 kW)
  have hkn : (0 : Int) ≤ k := by omega
  have hk5 : k < 5 := by omega
  have z1 : ¬ 9223372036854775807 < n.size + sg.size := by omega
  have z2 : ¬ 9223372036854775807 < (n ++ sg).size + J.size := by rw [ByteArray.size_append]; omega
  have z3 : ¬ 9223372036854775807 < n.size + sg.size + J.size := by omega
  clear hk hn hV0 hV10 hVs hjl hR h hc kA hW0 np kW hsc hsz hj
  have p0 : (w.alloc (.cells #[.int .i64 k, .string n, .slice ao V.length cap] 56)).cell? ⟨w.heap.size, 0, none⟩ = some (.int .i64 k) := cells_at (heap_new w (.cells #[.int .i64 k, .string n, .slice ao V.length cap] 56)) 0
  go_enter Tryd.func29, Tryd.ntmps29
  go_upto_region 3 with fail
  refine wp_region_held_drew (S := KeptS W0) (by kernel_rfl) (by rw [← HW.out.1]; exact keptS (Keeps.refl _ _)) (fun hS => ?_)
  rw [← HW.out.1] at hS ⊢
  generalize w.heap.size = pk at D0 D1 D2 p0 ⊢
  clear p0
  refine wpAnyH_take (i := 0) (v := ?_) rfl (by kernel_rfl) (by kernel_rfl) (by kernel_rfl) (fun _ _ _ h => h) (Or.inl ⟨by rfl, ?_⟩) (by assumption) ?_
  rotate_left
  · intro w' s1; obtain ⟨s, rfl⟩ := s1; go_simp; (try with_reducible rfl)
  simp only [Act.put, List.getElem_toArray, List.getElem_cons_succ, List.getElem_cons_zero, List.setIfInBounds_toArray, List.set_cons_zero, List.set_cons_succ]
  refine wpAnyH_take (i := 1) (v := ?_) rfl (by kernel_rfl) (by kernel_rfl) (by kernel_rfl) (fun _ _ _ h => h) (Or.inl ⟨by rfl, ?_⟩) (by assumption) ?_
  rotate_left
  · intro w' s1; obtain ⟨s, rfl⟩ := s1; go_simp; (try with_reducible rfl)
  simp only [Act.put, List.getElem_toArray, List.getElem_cons_succ, List.getElem_cons_zero, List.setIfInBounds_toArray, List.set_cons_zero, List.set_cons_succ]
  refine wpAnyH_take (i := 2) (v := ?_) rfl (by kernel_rfl) (by kernel_rfl) (by kernel_rfl) (fun _ _ _ h => h) (Or.inl ⟨by rfl, ?_⟩) (by assumption) ?_
  rotate_left
  · intro w' s1; obtain ⟨s, rfl⟩ := s1; go_simp; (try with_reducible rfl)
  simp only [Act.put, List.getElem_toArray, List.getElem_cons_succ, List.getElem_cons_zero, List.setIfInBounds_toArray, List.set_cons_zero, List.set_cons_succ]
  refine wpAnyH_take (i := 3) (v := ?_) rfl (by kernel_rfl) (by kernel_rfl) (by kernel_rfl) (fun _ _ _ h => h) (Or.inl ⟨by rfl, ?_⟩) (by assumption) ?_
  rotate_left
  · intro w' s1; obtain ⟨s, rfl⟩ := s1; go_simp; (try with_reducible rfl)
  simp only [Act.put, List.getElem_toArray, List.getElem_cons_succ, List.getElem_cons_zero, List.setIfInBounds_toArray, List.set_cons_zero, List.set_cons_succ]
  refine wpAnyH_take (i := 4) (v := ?_) rfl (by kernel_rfl) (by kernel_rfl) (by kernel_rfl) (fun _ _ _ h => h) (Or.inl ⟨by rfl, ?_⟩) (by assumption) ?_
  rotate_left
  · intro w' s1; obtain ⟨s, rfl⟩ := s1; go_simp; (try with_reducible rfl)
  simp only [Act.put, List.getElem_toArray, List.getElem_cons_succ, List.getElem_cons_zero, List.setIfInBounds_toArray, List.set_cons_zero, List.set_cons_succ]
  refine wpAnyH_take (i := 5) (v := ?_) rfl (by kernel_rfl) (by kernel_rfl) (by kernel_rfl) (fun _ _ _ h => h) (Or.inl ⟨by rfl, ?_⟩) (by assumption) ?_
  rotate_left
  · intro w' s1; obtain ⟨s, rfl⟩ := s1; go_simp; (try with_reducible rfl)
  simp only [Act.put, List.getElem_toArray, List.getElem_cons_succ, List.getElem_cons_zero, List.setIfInBounds_toArray, List.set_cons_zero, List.set_cons_succ]
  refine wpAnyH_take (i := 6) (v := ?_) rfl (by kernel_rfl) (by kernel_rfl) (by kernel_rfl) (fun _ _ _ h => h) (Or.inl ⟨by rfl, ?_⟩) (by assumption) ?_
  rotate_left
  · intro w' s1; obtain ⟨s, rfl⟩ := s1; go_simp; (try with_reducible rfl)
  simp only [Act.put, List.getElem_toArray, List.getElem_cons_succ, List.getElem_cons_zero, List.setIfInBounds_toArray, List.set_cons_zero, List.set_cons_succ]
  refine wpAnyH_take (i := 7) (v := ?_) rfl (by kernel_rfl) (by kernel_rfl) (by kernel_rfl) (fun _ _ _ h => h) (Or.inl ⟨by rfl, ?_⟩) (by assumption) ?_
  rotate_left
  · intro w' s1; obtain ⟨s, rfl⟩ := s1; go_simp; (try with_reducible rfl)
  simp only [Act.put, List.getElem_toArray, List.getElem_cons_succ, List.getElem_cons_zero, List.setIfInBounds_toArray, List.set_cons_zero, List.set_cons_succ]
  refine wpAnyH_take (i := 8) (v := ?_) rfl (by kernel_rfl) (by kernel_rfl) (by kernel_rfl) (fun _ _ _ h => h) (Or.inl ⟨by rfl, ?_⟩) (by assumption) ?_
  rotate_left
  · intro w' s1; obtain ⟨s, rfl⟩ := s1; go_simp; (try with_reducible rfl)
  simp only [Act.put, List.getElem_toArray, List.getElem_cons_succ, List.getElem_cons_zero, List.setIfInBounds_toArray, List.set_cons_zero, List.set_cons_succ]
  refine wpAnyH_ready (rs := [9]) (by kernel_rfl) (by simp) ?_
  refine AllReadyH.cons rfl (fun K hK => ?_) AllReadyH.nil
  go_simp
  go_at_call 52
  refine HJ.out.mono ?_
  rintro e A1 ⟨rfl, kA1⟩
  go_simp
  refine hK.out _ _ (keptS kA1) (fun hS => ?_)
  clear hK K
  try simp only [Act.put, List.getElem_toArray, List.getElem_cons_succ, List.getElem_cons_zero, List.setIfInBounds_toArray, List.set_cons_zero, List.set_cons_succ]
  refine wpAnyH_take (i := 10) (v := ?_) rfl (by kernel_rfl) (by kernel_rfl) (by kernel_rfl) (fun _ _ _ h => h) (Or.inl ⟨by rfl, ?_⟩) (by assumption) ?_
  rotate_left
  · intro w' s1; obtain ⟨s, rfl⟩ := s1; go_simp; (try with_reducible rfl)
  simp only [Act.put, List.getElem_toArray, List.getElem_cons_succ, List.getElem_cons_zero, List.setIfInBounds_toArray, List.set_cons_zero, List.set_cons_succ]
  refine wpAnyH_ready (rs := [11]) (by kernel_rfl) (by simp) ?_
  refine AllReadyH.cons rfl (fun K hK => ?_) AllReadyH.nil
  go_simp
  go_simp
  refine hK.out _ _ (keptS kA1) (fun hS => ?_)
  clear hK K
  try simp only [Act.put, List.getElem_toArray, List.getElem_cons_succ, List.getElem_cons_zero, List.setIfInBounds_toArray, List.set_cons_zero, List.set_cons_succ]
  refine wpAnyH_done (by kernel_rfl) ?_ _
  have Hk := Lib.hid (HW.out.2.trans kA1)
  clear hS kA1 D0 D1 D2 D3
  go_wp2_with fail
  go_ret
  exact ⟨rfl, Hk.out⟩

def TxRel (w : World) (n sg : ByteArray) (V : List ByteArray) (gk : Nat) (u3 u27 : Value) (wr : World) : Prop :=
  ∃ (i : Nat) (p : ByteArray), i ≤ V.length ∧ gk = V.length - i ∧ u27 = .int .i64 i ∧ u3 = .string p ∧ p.size ≤ 50 + 41 * i ∧ p.data.toList = n.data.toList ++ sg.data.toList ++ joinL (V.take i) ∧ Keeps [] w wr

theorem joinL_nil : joinL [] = [] := rfl

set_option linter.unusedSimpArgs false in
set_option maxRecDepth 100000 in
set_option maxHeartbeats 1000000 in
theorem textR_spec (w : World) (k : Int) (n : ByteArray) (v : Value) (V : List ByteArray) (h : SliceArg 1 encS1 w v V) (hc : chkB (k, n, V) = true) :
    Calls Tryd.prog 30 #[.agg #[.int .i64 k, .string n, v]] w fun e w' => e = .returned (.string (textB (k, n, V))) ∧ Keeps [] w w' := by
  obtain ⟨hk, hn, hV0, hV10, hVs⟩ := chk_sizes hc
  have hR : (textB (k, n, V)).data.toList = n.data.toList ++ (signOf k.toNat).data.toList ++ joinL V := by
    show (n ++ signOf k.toNat ++ ⟨(joinL V).toArray⟩ : ByteArray).data.toList = _
    simp only [ByteArray.data_append, Array.toList_append]
  generalize textB (k, n, V) = R at hR ⊢
  have hf := h
  obtain ⟨ao, cap, rfl, -, -⟩ := h
  have kA : Keeps [] w (w.alloc (.cells #[.int .i64 k, .string n, .slice ao V.length cap] 59)) := (Keeps.refl [] w).alloc _
  have H0 := Lib.hid (And.intro (heap_new w (.cells #[.int .i64 k, .string n, .slice ao V.length cap] 59)) (And.intro (hf.keep kA) kA))
  obtain ⟨sg, hsg⟩ : ∃ sg, sg = signOf k.toNat := ⟨_, rfl⟩
  rw [← hsg] at hR
  have HR := Lib.hid (And.intro hR (And.intro hVs hsg))
  clear hf kA hR hc hVs hsg
  rcases hk with rfl | rfl | rfl | rfl
  all_goals
    go_enter Tryd.func30, Tryd.ntmps30
    go_wp2_with fail
    generalize w.heap.size = pk at H0 ⊢
    generalize hWa : w.alloc (.cells #[_, .string n, .slice ao V.length cap] 59) = W0 at H0 ⊢
    clear hWa
    go_loopg [3, 27] V.length (TxRel W0 n sg V)
    case atStart =>
      refine ⟨0, _, Nat.zero_le _, rfl, rfl, rfl, ?_, ?_, Keeps.refl _ _⟩
      · rw [ByteArray.size_append]
        first | (show n.size + 1 ≤ _; omega) | (show n.size + 2 ≤ _; omega)
      · rw [HR.out.2.2, ByteArray.data_append, Array.toList_append, List.take_zero, joinL_nil, List.append_nil]
        rfl
    case round =>
      obtain ⟨i, p, hi, hgk, rfl, rfl, hpz, hpl, hkw⟩ := hrel
      have Hg := Lib.hid (And.intro hgk hpl)
      clear hgk hpl
      by_cases hlt : i < V.length
      · have hlt' : (i : Int) < (V.length : Int) := by omega
        obtain ⟨b, off, cap', ea, hbW, hcell⟩ := texts_at (H0.out.2.1.keep hkw) (by omega)
        injection ea with ea _ ec
        subst ea ec
        have d0 := hcell i hlt
        rw [List.getD_eq_getElem?_getD, List.getElem?_eq_getElem hlt, Option.getD_some] at d0
        have hyz := HR.out.2.1 V[i] (List.getElem_mem hlt)
        obtain ⟨y, hy⟩ : ∃ y, y = V[i] := ⟨_, rfl⟩
        rw [← hy] at d0 hyz
        have Htk := Lib.hid (show V.take (i + 1) = V.take i ++ [y] from by rw [List.take_add_one, List.getElem?_eq_getElem hlt, hy]; rfl)
        have Hk := Lib.hid hkw
        clear hcell hy hkw
        by_cases hi0 : i = 0
        · subst hi0
          have x0 : ¬ (0 : Int) < ((0 : Nat) : Int) := by omega
          have z1 : (p.size : Int) + (y.size : Int) ≤ 1000 := by omega
          have d0' : wr.cell? ⟨b, off, none⟩ = some (.string y) := by simpa using d0
          go_wp2_with fail
          go_roundg (V.length - 1)
          case measure => have := Hg.out.1; omega
          case rel =>
            refine ⟨1, p ++ y, hlt, rfl, rfl, rfl, by rw [ByteArray.size_append]; omega, ?_, Hk.out⟩
            rw [ByteArray.data_append, Array.toList_append, Hg.out.2, List.take_zero, joinL_nil, List.append_nil, Htk.out, List.take_zero, List.nil_append, joinL_one]
        · have x0 : (0 : Int) < (i : Int) := by omega
          have z1 : (p.size : Int) + 1 ≤ 1000 := by omega
          have z2 : ((p ++ (⟨#[124]⟩ : ByteArray)).size : Int) + (y.size : Int) ≤ 1000 := by
            rw [ByteArray.size_append]
            show ((p.size + 1 : Nat) : Int) + _ ≤ _
            omega
          go_wp2_with fail
          go_roundg (V.length - (i + 1))
          case measure => have := Hg.out.1; omega
          case rel =>
            refine ⟨i + 1, p ++ (⟨#[124]⟩ : ByteArray) ++ y, hlt, rfl, by go_num, rfl, by rw [ByteArray.size_append, ByteArray.size_append]; show p.size + 1 + y.size ≤ _; omega, ?_, Hk.out⟩
            have hne : V.take i ≠ [] := fun e => by
              have h1 : (V.take i).length = i := by rw [List.length_take]; omega
              rw [e] at h1
              exact hi0 h1.symm
            rw [Htk.out, joinL_snoc _ _ hne, ByteArray.data_append, Array.toList_append, ByteArray.data_append, Array.toList_append, Hg.out.2]
            simp only [List.append_assoc]
      · have hlt' : ¬ (i : Int) < (V.length : Int) := by omega
        have hp := Lib.hid (show p = R from by
          apply ba_ext
          rw [Hg.out.2, HR.out.1, List.take_of_length_le (by omega)])
        have Hk := Lib.hid hkw
        clear hkw
        go_wp2_with fail
        go_ret
        exact ⟨by rw [hp.out]; rfl, H0.out.2.2.trans Hk.out⟩
end Go.Proofs.YtjgaidojohgenaaDoor
