/-
  Matchers as a text, and back: plain.
  No condition beyond those that each theorem states.
-/
import Derived.Test.YtjgaidojohgenaaDoorMText
namespace Go.Proofs.YtjgaidojohgenaaDoor
open Go Go.RowKit

theorem partsL_one (c : UInt8) : ∀ p : List UInt8, c ∉ p → partsL c p = [p]
  | [], _ => rfl
  | x :: p, h => by
    have hx : ¬ x = c := fun e => h (by rw [e]; exact List.mem_cons_self ..)
    have ih := partsL_one c p (fun hm => h (List.mem_cons_of_mem _ hm))
    rw [partsL, if_neg hx, ih]

theorem partsL_sep (c : UInt8) (l : List UInt8) : ∀ p : List UInt8, c ∉ p → partsL c (p ++ c :: l) = p :: partsL c l
  | [], _ => by rw [List.nil_append, partsL, if_pos rfl]
  | x :: p, h => by
    have hx : ¬ x = c := fun e => h (by rw [e]; exact List.mem_cons_self ..)
    have ih := partsL_sep c l p (fun hm => h (List.mem_cons_of_mem _ hm))
    rw [List.cons_append, partsL, if_neg hx, ih]

theorem parts_join (c : UInt8) : ∀ T : List (List UInt8), T ≠ [] → (∀ t ∈ T, c ∉ t) → partsL c (Lib.join T [c]) = T
  | [], h, _ => absurd rfl h
  | [t], _, h => by
    rw [Lib.join_one]
    exact partsL_one c t (h t (List.mem_cons_self ..))
  | t :: u :: r, _, h => by
    have ih := parts_join c (u :: r) (by simp) (fun x hx => h x (List.mem_cons_of_mem _ hx))
    have e : Lib.join (t :: u :: r) [c] = t ++ c :: Lib.join (u :: r) [c] := by
      rw [Lib.join_cons, Lib.join_cons]
      simp [Lib.joinTail]
    rw [e, partsL_sep c _ t (h t (List.mem_cons_self ..)), ih]

theorem plain_no {s : ByteArray} (h : plainB s = true) (c : UInt8) (hc : c ∈ signsL) : c ∉ s.data.toList := by
  intro hm
  unfold plainB at h
  simp only [Bool.and_eq_true, List.all_eq_true] at h
  have h1 := h.1 c hm
  rw [List.contains_iff_mem.2 hc] at h1
  cases h1

theorem chk_plain {k : Int} {n : ByteArray} {V : List ByteArray} (h : chkB (k, n, V) = true) : plainB n = true ∧ n ≠ ⟨#[]⟩ ∧ (k < 4 → V.length = 1) ∧ ∀ x ∈ V, plainB x = true := by
  unfold chkB headB at h
  simp only [Bool.and_eq_true, decide_eq_true_eq, List.all_eq_true, Bool.not_eq_true', Bool.and_eq_false_iff, decide_eq_false_iff_not] at h
  obtain ⟨⟨⟨⟨⟨⟨⟨h1, h2⟩, h3⟩, h4⟩, h5⟩, h6⟩, h7⟩, h8⟩ := h
  refine ⟨h4, h3, fun hk => ?_, fun x hx => ?_⟩
  · rcases h7 with h7 | h7
    · exact absurd hk h7
    · omega
  · have := h8 x hx
    unfold valB at this
    simp only [Bool.and_eq_true] at this
    exact this.1

theorem join_no (c : UInt8) (hc : c ≠ 124) : ∀ V : List ByteArray, (∀ x ∈ V, c ∉ x.data.toList) → c ∉ joinL V
  | [], _ => by simp [joinL, Lib.join, List.intercalate]
  | [x], h => by
    rw [joinL_one]
    exact h x (List.mem_cons_self ..)
  | x :: y :: r, h => by
    have ih := join_no c hc (y :: r) (fun z hz => h z (List.mem_cons_of_mem _ hz))
    have e : joinL (x :: y :: r) = x.data.toList ++ 124 :: joinL (y :: r) := by
      unfold joinL
      rw [List.map_cons, List.map_cons, Lib.join_cons, Lib.join_cons]
      simp [Lib.joinTail]
    rw [e]
    intro hm
    rcases List.mem_append.1 hm with hm | hm
    · exact h x (List.mem_cons_self ..) hm
    · rcases List.mem_cons.1 hm with hm | hm
      · exact hc hm
      · exact ih hm

theorem textB_list (k : Int) (n : ByteArray) (V : List ByteArray) : (textB (k, n, V)).data.toList = n.data.toList ++ ((signOf k.toNat).data.toList ++ joinL V) := by
  show (n ++ signOf k.toNat ++ ⟨(joinL V).toArray⟩ : ByteArray).data.toList = _
  simp only [ByteArray.data_append, Array.toList_append, List.append_assoc]

theorem sign_no (k : Int) (hk : k = 1 ∨ k = 2 ∨ k = 3 ∨ k = 4) : (44 : UInt8) ∉ (signOf k.toNat).data.toList := by
  rcases hk with rfl | rfl | rfl | rfl <;> decide

theorem text_no {m : MatB} (h : chkB m = true) : (44 : UInt8) ∉ (textB m).data.toList := by
  obtain ⟨k, n, V⟩ := m
  obtain ⟨hk, -, -, -, -⟩ := chk_sizes h
  obtain ⟨hn, -, -, hV⟩ := chk_plain h
  rw [textB_list]
  intro hm
  rcases List.mem_append.1 hm with hm | hm
  · exact plain_no hn 44 (by decide) hm
  · rcases List.mem_append.1 hm with hm | hm
    · exact sign_no k hk hm
    · exact join_no 44 (by decide) V (fun x hx => plain_no (hV x hx) 44 (by decide)) hm

theorem parts_values (V : List ByteArray) (hV : V ≠ []) (h : ∀ x ∈ V, plainB x = true) : partsB 124 ⟨(joinL V).toArray⟩ = V := by
  refine parts_of_lists ?_
  show partsL 124 (joinL V) = _
  exact parts_join 124 _ (by simpa using hV) (fun t ht => by
    obtain ⟨x, hx, rfl⟩ := List.mem_map.1 ht
    exact plain_no (h x hx) 124 (by decide))

/-- A matcher's text is that matcher. -/
theorem mparse_text {m : MatB} (h : chkB m = true) : mparseB (textB m) = some m := by
  obtain ⟨k, n, V⟩ := m
  obtain ⟨hk, -, hV0, -, -⟩ := chk_sizes h
  obtain ⟨hn, -, h1, hV⟩ := chk_plain h
  have hl := textB_list k n V
  obtain ⟨t, ht⟩ : ∃ t, t = textB (k, n, V) := ⟨_, rfl⟩
  rw [← ht] at hl ⊢
  have hnz : n.data.toList.length = n.size := by simp
  have hno : Lib.NoAny t.data.toList signs4 n.size := fun j b hj hb => by
    rw [hl, List.getElem?_append_left (by omega)] at hb
    have hm : b ∈ n.data.toList := List.mem_of_getElem? hb
    cases hc : signs4.contains b with
    | false => rfl
    | true =>
      have hb4 : b ∈ signs4 := List.contains_iff_mem.1 hc
      have : b ∈ signsL := by
        simp only [signs4, List.mem_cons, List.not_mem_nil, or_false] at hb4
        rcases hb4 with rfl | rfl | rfl | rfl <;> decide
      exact absurd hm (plain_no hn b this)
  have hex0 : t.extract 0 n.size = n := by
    apply ba_ext
    rw [extract_fst]
    show t.data.toList.take n.size = _
    rw [hl, ← hnz, List.take_left]
  have hrest : (t.extract n.size t.size).data.toList = (signOf k.toNat).data.toList ++ joinL V := by
    rw [extract_lst]
    show t.data.toList.drop n.size = _
    rw [hl, ← hnz, List.drop_left]
  have hidx : idxB t = n.size := by
    have hsg : ∃ x r, (signOf k.toNat).data.toList = x :: r ∧ signs4.contains x = true := by
      rcases hk with rfl | rfl | rfl | rfl
      · exact ⟨61, [], rfl, by decide⟩
      · exact ⟨33, [61], rfl, by decide⟩
      · exact ⟨94, [], rfl, by decide⟩
      · exact ⟨64, [], rfl, by decide⟩
    obtain ⟨x, r, hx, hc⟩ := hsg
    exact Lib.indexAny_hit hno (by rw [hl, List.getElem?_append_right (by omega), hx, hnz, Nat.sub_self]; rfl) hc
  have one : k < 4 → ∃ v, V = [v] := fun hk4 => by
    match V, h1 hk4 with
    | [v], _ => exact ⟨v, rfl⟩
  have hp : pickB (t.extract n.size t.size) = (k, V) := by
    rcases hk with rfl | rfl | rfl | rfl
    · obtain ⟨v, rfl⟩ := one (by decide)
      rw [joinL_one] at hrest
      exact pick_is hrest
    · obtain ⟨v, rfl⟩ := one (by decide)
      rw [joinL_one] at hrest
      exact pick_not hrest
    · obtain ⟨v, rfl⟩ := one (by decide)
      rw [joinL_one] at hrest
      exact pick_begins hrest
    · have hne : V ≠ [] := fun e => hV0 (by rw [e]; rfl)
      rw [pick_among (t := joinL V) hrest, parts_values V hne hV]
  rw [mparseB_at hidx (k, V) hp, hex0, if_pos h]

def formatB (L : List MatB) : ByteArray := ⟨(Lib.join (L.map fun m => (textB m).data.toList) [44]).toArray⟩

theorem mapB_texts : ∀ L : List MatB, (∀ m ∈ L, chkB m = true) → mapB (L.map textB) = some L
  | [], _ => rfl
  | m :: r, h => by
    have ih := mapB_texts r (fun x hx => h x (List.mem_cons_of_mem _ hx))
    rw [List.map_cons, mapB, mparse_text (h m (List.mem_cons_self ..)), ih]

/-- What Format writes, Parse reads. -/
theorem format_back (L : List MatB) (h : ∀ m ∈ L, chkB m = true) : mparsesB (formatB L) = some L := by
  cases L with
  | nil => rfl
  | cons m r =>
    have hm := h m (List.mem_cons_self ..)
    have hne : ¬ formatB (m :: r) = ⟨#[]⟩ := by
      intro e
      have e1 : Lib.join ((m :: r).map fun m => (textB m).data.toList) [44] = [] := by
        have := congrArg (fun s : ByteArray => s.data.toList) e
        simpa [formatB] using this
      rw [List.map_cons, Lib.join_cons] at e1
      have e2 := (List.append_eq_nil_iff.1 e1).1
      obtain ⟨k, n, V⟩ := m
      rw [textB_list] at e2
      have e3 := (List.append_eq_nil_iff.1 e2).1
      exact (chk_plain hm).2.1 (ba_ext e3)
    unfold mparsesB
    rw [if_neg hne]
    have hp : partsB 44 (formatB (m :: r)) = (m :: r).map textB := by
      refine parts_of_lists ?_
      show partsL 44 (Lib.join ((m :: r).map fun m => (textB m).data.toList) [44]) = _
      rw [parts_join 44 _ (by simp) (fun t ht => by
        obtain ⟨x, hx, rfl⟩ := List.mem_map.1 ht
        exact text_no (h x hx)), List.map_map]
      rfl
    rw [hp]
    exact mapB_texts _ h
end Go.Proofs.YtjgaidojohgenaaDoor
