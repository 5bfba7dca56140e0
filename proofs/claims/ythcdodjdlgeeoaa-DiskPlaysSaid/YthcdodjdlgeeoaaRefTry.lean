/-
  The document's fuse (barographref04.Try): over a list of faults that reads as the queue does.
  Each contract holds in every world in which the list can be read; old memory is left as it was.
-/
import Derived.Test.YthcdodjdlgeeoaaFuse
import Derived.Test.YthcdodjdlgeeoaaArgs
import Derived.OwnWalk
import Derived.Lib.SmallJoins
import Derived.Lib.OwnKind
import Derived.OneCell
import Derived.Deep.RegionLaw
import Derived.BigRegion
namespace Go.Proofs.Ythcdodjdlgeeoaa
open Go Go.RowKit Go.ChangeShapes Go.WideShapes Go.Deep

/-- Cell i of the j-th part. -/
theorem flat_ix {α : Type} (enc : α → List Value) (s : Nat) (hs : ∀ x, (enc x).length = s) : ∀ (L : List α) (j : Nat) (hj : j < L.length) (i : Nat), i < s → (L.flatMap enc)[j * s + i]? = (enc L[j])[i]?
  | [], j, hj, _, _ => by simp at hj
  | x :: L, 0, _, i, hi => by
    simp only [List.flatMap_cons, Nat.zero_mul, Nat.zero_add, List.getElem_cons_zero]
    exact List.getElem?_append_left (by rw [hs]; exact hi)
  | x :: L, j + 1, hj, i, hi => by
    have ih := flat_ix enc s hs L j (by simpa using hj) i hi
    simp only [List.flatMap_cons, List.getElem_cons_succ]
    rw [List.getElem?_append_right (by rw [hs, Nat.add_mul]; omega), hs, show (j + 1) * s + i - s = j * s + i from by rw [Nat.add_mul]; omega]
    exact ih
theorem flat_len {α : Type} (enc : α → List Value) (s : Nat) (hs : ∀ x, (enc x).length = s) : ∀ L : List α, (L.flatMap enc).length = L.length * s
  | [] => by simp
  | x :: L => by
    simp only [List.flatMap_cons, List.length_append, List.length_cons, hs, flat_len enc s hs L]
    rw [Nat.add_mul, Nat.one_mul, Nat.add_comm]
/-- What the walk owns reads as a slice that came in. -/
theorem arg_of_row {α : Type} {size base : Nat} {enc : α → List Value} {w : World} {e : TypeId} {v : Value} {L : List α} (hs : ∀ x, (enc x).length = size)
    (h : w.ownsRow base e size v L.length (L.flatMap enc)) : SliceArg size enc w v L := by
  obtain ⟨ao, cap, rfl, h1, h2, h3⟩ := row_slice h
  by_cases h0 : size = 0
  · refine ⟨ao, cap, rfl, by omega, fun i hi => ?_⟩
    subst h0
    obtain ⟨_, ⟨hv, hn⟩ | ⟨g, cap', cur, hv, hg1, hg2, _⟩⟩ := h
    · omega
    · injection hv with e1 e2 e3
      exact ⟨g, 0, e1, lt_of_at hg2, fun j hj => by omega⟩
  · refine ⟨ao, cap, rfl, by omega, fun i hi => ?_⟩
    obtain ⟨g, hg, _, hg2, _⟩ := h3 (i * size) (Nat.mul_lt_mul_of_pos_right hi (by omega))
    refine ⟨g, 0, hg, hg2, fun j hj => ?_⟩
    have hlt : i * size + j < L.length * size := by
      have : (i + 1) * size ≤ L.length * size := Nat.mul_le_mul_right _ hi
      rw [Nat.add_mul] at this
      omega
    obtain ⟨g', hg', _, _, hc⟩ := h3 (i * size + j) hlt
    rw [hg] at hg'
    injection hg' with hg'
    injection hg' with hg'
    subst hg'
    rw [Nat.zero_add, hc, flat_ix enc size hs L i hi j hj]

theorem SliceArg.len {α : Type} {size : Nat} {enc : α → List Value} {w : World} {v : Value} {L : List α} (h : SliceArg size enc w v L) : L.length ≤ maxLen := by
  obtain ⟨_, _, _, h, _⟩ := h
  exact h
theorem sliceArg_nil {α : Type} (size : Nat) (enc : α → List Value) (w : World) : SliceArg size enc w (.slice none 0 0) ([] : List α) := ⟨none, 0, rfl, by simp [maxLen], fun i hi => by simp at hi⟩

def encFo (x : Int × Bool) : List Value := [.int .i64 x.1, .bool x.2]
/-- A slice's value: its length is within its capacity; nil has none. -/
def SlOk (s : Value) : Prop := ∃ ao n cap, s = .slice ao n cap ∧ n ≤ cap ∧ (ao = none → cap = 0)
theorem slOk_row {base size : Nat} {w : World} {e : TypeId} {v : Value} {n : Nat} {xs : List Value} (h : w.ownsRow base e size v n xs) : SlOk v := by
  obtain ⟨_, ⟨rfl, _⟩ | ⟨g, cap, cur, rfl, _, _, h3, _⟩⟩ := h
  · exact ⟨none, 0, 0, rfl, Nat.le_refl _, fun _ => rfl⟩
  · exact ⟨_, _, _, rfl, h3, fun h => by cases h⟩
/-- The block of a slice that is not empty is a row of the type e. -/
def Typed (w : World) (e : TypeId) (v : Value) : Prop := ∀ b n c, v = .slice (some b) n c → 0 < n → ∃ cs fz, w.heap[b.block]? = some (.cells cs e fz)
/-- A list of faults that can be read; its block is one of faults. -/
def FArg (w : World) (s : Value) (Q : List (Int × Bool)) : Prop := SliceArg 2 encFo w s Q ∧ Typed w 72 s
theorem FArg.keep {w w' : World} {s : Value} {Q : List (Int × Bool)} (h : FArg w s Q) (k : Keeps [] w w') : FArg w' s Q := by
  refine ⟨h.1.keep k, fun b n c e hn => ?_⟩
  obtain ⟨cs, fz, hb⟩ := h.2 b n c e hn
  exact ⟨cs, fz, k.at_ hb (by simp)⟩
theorem FArg.form {w : World} {s : Value} {Q : List (Int × Bool)} (h : FArg w s Q) : ∃ ao cap, s = .slice ao Q.length cap := by
  obtain ⟨⟨ao, cap, e, _⟩, _⟩ := h
  exact ⟨ao, cap, e⟩
theorem typed_row {base size : Nat} {w : World} {e : TypeId} {v : Value} {n : Nat} {xs : List Value} (h : w.ownsRow base e size v n xs) : Typed w e v := by
  intro b m c hv hm
  obtain ⟨_, ⟨rfl, _⟩ | ⟨g, cap, cur, rfl, _, h2, _⟩⟩ := h
  · cases hv
  · injection hv with e1 e2 e3
    injection e1 with e1
    subst e1
    exact ⟨_, _, h2⟩
/-- The document's fuse as a value. -/
def RefFuse (w : World) (v : Value) (Q : List (Int × Bool)) : Prop := ∃ s, v = .agg #[s] ∧ SlOk s ∧ FArg w s Q
theorem RefFuse.keep {w w' : World} {v : Value} {Q : List (Int × Bool)} (h : RefFuse w v Q) (k : Keeps [] w w') : RefFuse w' v Q := by
  obtain ⟨s, rfl, ho, hs⟩ := h
  exact ⟨s, rfl, ho, hs.keep k⟩

theorem enc1 (L : List (Int × Bool)) : ∀ u ∈ L.flatMap encFo, u.oneCell' = true := by
  intro u hu
  simp only [List.mem_flatMap, encFo, List.mem_cons, List.not_mem_nil, or_false] at hu
  obtain ⟨x, _, rfl | rfl⟩ := hu <;> rfl
/-- The cells of a slice that came in, as an append's source. -/
theorem SliceArg.src {α : Type} {size : Nat} {enc : α → List Value} {w w' : World} {b off n cap : Nat} {L : List α} (hs : ∀ x, (enc x).length = size) (h : SliceArg size enc w (.slice (some ⟨b, off, none⟩) n cap) L) (k : ∀ i, w'.cell? ⟨b, i, none⟩ = w.cell? ⟨b, i, none⟩) :
    ∀ j u, (L.flatMap enc)[j]? = some u → w'.cell? ((⟨b, off, none⟩ : Addr).add j) = some u := by
  obtain ⟨ao, cp, he, _, hc⟩ := h
  injection he with e1 e2 e3
  subst e1 e2 e3
  intro j u hu
  have hj : j < (L.flatMap enc).length := (List.getElem?_eq_some_iff.1 hu).1
  rw [flat_len enc size hs] at hj
  have hs0 : 0 < size := by
    rcases Nat.eq_zero_or_pos size with h | h
    · subst h; simp at hj
    · exact h
  have hi : j / size < L.length := Nat.div_lt_of_lt_mul (by rwa [Nat.mul_comm] at hj)
  have hm : j % size < size := Nat.mod_lt _ hs0
  obtain ⟨b', off', he, _, hc'⟩ := hc (j / size) hi
  injection he with he
  injection he with e1 e2
  subst e1 e2
  have h1 := hc' (j % size) hm
  have h2 : j / size * size + j % size = j := by have := Nat.div_add_mod j size; rw [Nat.mul_comm] at this; exact this
  have h3 := flat_ix enc size hs L (j / size) hi (j % size) hm
  rw [h2] at h1 h3
  rw [← h3, hu] at h1
  have hadd : (⟨b, off, none⟩ : Addr).add j = ⟨b, off + j, none⟩ := by unfold Addr.add; split <;> simp_all
  rw [hadd, k, h1]

theorem infoFault : (Try.prog.info? 72).map (fun i => (i.zero, i.size, i.bytes)) = some (some (.agg #[.int .i64 0, .bool false]), 2, 16) := by kernel_rfl

def RefTryPost (w : World) (Q : List (Int × Bool)) (e : Ending) (w' : World) : Prop :=
  ∃ v', e = .returned (.tuple #[v', .bool (tryWorks Q), .bool (tryDone Q)]) ∧ RefFuse w' v' (tryQ Q) ∧ Keeps [] w w'

set_option maxRecDepth 100000 in
set_option maxHeartbeats 1000000 in
theorem refTry_nil (w : World) (v : Value) (h : RefFuse w v []) :
    Calls Try.prog 31 #[v] w (RefTryPost w []) := by
  obtain ⟨s, rfl, ho, ⟨ao, cap, rfl, hl, hc⟩, hty⟩ := h
  clear hc hty
  simp only [List.length_nil]
  go_enter Try.func31, Try.ntmps31
  go_wp2_with fail
  have hq := cells_at (new2 w (.cells #[.slice ao 0 cap] 58) (.cells #[.slice ao 0 cap] 58)).2
  refine bodyPost_ret (v := .tuple #[.agg #[.slice ao 0 cap], .bool true, .bool true]) ?_ rfl ?_
  · simp [results, Try.results31, go_sem, hq]
  exact ⟨_, rfl, ⟨_, rfl, ho, ⟨ao, cap, rfl, hl, fun i hi => by simp [tryQ, tryS] at hi⟩, fun b n c e hn => by injection e with _ e; omega⟩, ((Keeps.refl [] w).alloc _).alloc _⟩

set_option maxRecDepth 100000 in
set_option maxHeartbeats 1000000 in
theorem refTry_cons (w : World) (v : Value) (n : Int) (d : Bool) (R : List (Int × Bool)) (hl0 : R.length ≤ 1000) (hn : okF (n, d)) (h : RefFuse w v ((n, d) :: R)) :
    Calls Try.prog 31 #[v] w (RefTryPost w ((n, d) :: R)) := by
  obtain ⟨s, rfl, ⟨_, _, _, hv, hcap, _⟩, hs, hty⟩ := h
  clear hty
  have hs' := hs
  obtain ⟨ao, cap, rfl, hl, hc⟩ := hs
  obtain ⟨b, off, rfl, hb, h0⟩ := hc 0 (by simp)
  have d0 : w.cell? ⟨b, off, none⟩ = some (.int .i64 n) := by simpa [encFo] using h0 0 (by omega)
  have d1 : w.cell? ⟨b, off + 1, none⟩ = some (.bool d) := by simpa [encFo] using h0 1 (by omega)
  have Hn : Hid (∀ w' : World, (∀ i, w'.cell? ⟨b, i, none⟩ = w.cell? ⟨b, i, none⟩) → ∀ j u, (((n, d) :: R).flatMap encFo)[j]? = some u → w'.cell? ((⟨b, off, none⟩ : Addr).add j) = some u) := Lib.hid fun w' k => hs'.src (fun _ => rfl) k
  obtain ⟨hn1, hn2⟩ := hn
  simp only at hn1 hn2
  obtain ⟨ii, hii, hz0, hz1, hz2⟩ := info_parts infoFault
  clear h0 hc
  have hlen : ((n, d) :: R).length = R.length + 1 := by simp
  injection hv with e1 e2 e3
  subst e1 e2 e3
  rw [hlen] at hl hcap ⊢
  clear hlen
  by_cases hp : 0 < n
  · go_enter Try.func31, Try.ntmps31
    have hown : ((((w.alloc (.cells #[.slice (some ⟨b, off, none⟩) (R.length + 1) cap] 58)).alloc (.cells #[.slice none 0 0] 58)).alloc (.cells #[.int .i64 n, .bool d] 72)).alloc (.cells #[] 72)).ownsRow w.heap.size 72 2 (.slice (some ⟨w.heap.size + 1 + 1 + 1, 0, none⟩) 0 0) 0 [] := by
      have := World.ownsRow_made (base := w.heap.size) (e := 72) (size := 2) (((w.alloc (.cells #[.slice (some ⟨b, off, none⟩) (R.length + 1) cap] 58)).alloc (.cells #[.slice none 0 0] 58)).alloc (.cells #[.int .i64 n, .bool d] 72)) #[] 0 (by simp; omega) (by simp [maxLen]) rfl
      simpa using this
    go_wp2_with (at_builtin; refine wpList_append_own _ rfl (.tmp 19) (.tmp 21) 56 rfl w.heap.size 72 ii _ 2 16 Try.underlying56 hii hz0 hz1 hz2 rfl (by decide) (.slice (some ⟨w.heap.size + 1 + 1 + 1, 0, none⟩) 0 0) 0 [] rfl hown ⟨b, off, none⟩ (R.length + 1) cap (((n, d) :: R).flatMap encFo) rfl (by rw [flat_len encFo 2 (fun _ => rfl)]; simp) (Hn.out _ (fun i => Keeps.cell ((((Keeps.refl [] w).alloc _).alloc _).alloc _ |>.alloc _) hb (by simp))) (enc1 _) (by omega) (by omega) (by simp; omega) ?_; intro v' w' hown' hgrow hnil; clear hnil)
    simp only [Nat.zero_add, List.nil_append] at hown'
    have hk4 : Keeps [w.heap.size + 1 + 1 + 1] _ w' := Keeps.of_grown hgrow (fun k hk => by simp [Value.ownBlock] at hk; simp [hk])
    obtain ⟨q0, q1, q2, q3⟩ := new4 w (.cells #[.slice (some ⟨b, off, none⟩) (R.length + 1) cap] 58) (.cells #[.slice none 0 0] 58) (.cells #[.int .i64 n, .bool d] 72) (.cells #[] 72)
    have r1 := hk4.at_ q1 (by simp)
    have hk0 : Keeps [] w w' := (((((Keeps.refl [] w).alloc _).alloc _).alloc _).alloc _).after hk4 (by simp; omega)
    obtain ⟨g, cp, rfl⟩ := Go.Joins.ownsRow_form hown' (by omega)
    clear hgrow hown q0 q1 q2 q3 hk4
    have hB1 : w.heap.size ≤ w.heap.size + 1 := by omega
    generalize w.heap.size + 1 = B1 at r1 hB1 ⊢
    have hg1 := hown'.lt g rfl
    have hg0 : w'.cell? ⟨g, 0, none⟩ = some (.int .i64 n) := by
      have := hown'.cellAt 0 (by omega)
      simpa [encFo] using this
    have hfr := hown'.frozenAt
    have hst := (hown'.stored 0 (.int .i64 (n - 1))).1
    have hne : B1 ≠ g := by
      rintro rfl
      obtain ⟨cur, _, hgc⟩ := Go.Lib.ownsRow_kind hown' B1 rfl
      rw [r1] at hgc
      injection hgc with hgc
      injection hgc with _ e _
      exact absurd e (by decide)
    have hst2 := ownsRow_setCell_other hst (a := ⟨B1, 0, none⟩) (by simpa [Value.ownBlock] using fun h => hne h.symm) (.slice (some ⟨g, 0, none⟩) (R.length + 1) cp)
    have cB := cells_at r1
    have fB := free_at r1
    have cB2 := cells_at (heap_cell_same ((heap_cell_other (p := ⟨g, 0, none⟩) (.int .i64 (n - 1)) hne).trans r1) (i := 0) (.slice (some ⟨g, 0, none⟩) (R.length + 1) cp))
    have Hst := Lib.hid hst2
    clear hst hst2 hown'
    have HB := Lib.hid cB2
    have Hk := Lib.hid hk0
    have Hg := Lib.hid hg1.1
    clear cB2 r1 hg1 hk0
    go_wp2_with fail
    go_simp
    go_wp2_with fail
    go_simp
    go_wp2_with fail
    have cB2 := HB.out
    refine bodyPost_ret (v := .tuple #[.agg #[.slice (some ⟨g, 0, none⟩) (R.length + 1) cp], .bool true, .bool true]) ?_ rfl ?_
    · simp [results, Try.results31, go_sem, cB2]
    refine ⟨.agg #[.slice (some ⟨g, 0, none⟩) (R.length + 1) cp], by simp [tryWorks, tryDone, tryS, hp], ⟨_, rfl, slOk_row Hst.out, ?_, typed_row Hst.out⟩, (Hk.out.setCell (.inr Hg.out) _).setCell (.inr hB1) _⟩
    have h := arg_of_row (enc := encFo) (L := (n - 1, d) :: R) (fun _ => rfl) (by simpa [encFo] using Hst.out)
    simpa [tryQ, tryS, hp] using h
  · go_enter Try.func31, Try.ntmps31
    go_wp2_with fail
    obtain ⟨q0, q1, q2⟩ := new3 w (.cells #[.slice (some ⟨b, off, none⟩) (R.length + 1) cap] 58) (.cells #[.slice none 0 0] 58) (.cells #[.int .i64 n, .bool d] 72)
    have hk3 : Keeps [] w (((w.alloc (.cells #[.slice (some ⟨b, off, none⟩) (R.length + 1) cap] 58)).alloc (.cells #[.slice none 0 0] 58)).alloc (.cells #[.int .i64 n, .bool d] 72)) := (((Keeps.refl [] w).alloc _).alloc _).alloc _
    have hsz : w.heap.size + 3 = (((w.alloc (.cells #[.slice (some ⟨b, off, none⟩) (R.length + 1) cap] 58)).alloc (.cells #[.slice none 0 0] 58)).alloc (.cells #[.int .i64 n, .bool d] 72)).heap.size := by simp
    clear d0 d1
    generalize (((w.alloc (.cells #[.slice (some ⟨b, off, none⟩) (R.length + 1) cap] 58)).alloc (.cells #[.slice none 0 0] 58)).alloc (.cells #[.int .i64 n, .bool d] 72)) = W3 at q0 q1 q2 hk3 hsz ⊢
    have c0 := cells_at q0
    have c1 := cells_at q1
    have f1 := free_at q1
    have c2 := cells_at q2
    have l0 := lt_of_at q0
    have l1 := lt_of_at q1
    have l2 := lt_of_at q2
    have Hq := Lib.hid (And.intro q1 (And.intro hk3 (And.intro hsz q2)))
    clear q0 q1 q2 hk3 hsz
    have h1le : (1 : Int) ≤ R.length + 1 := by omega
    have hown := World.ownsRow_made (base := w.heap.size) (e := 72) (size := 2) W3 #[] 0 Hq.out.2.1.size (by simp [maxLen]) rfl
    have Hs : Hid (∀ j u, (R.flatMap encFo)[j]? = some u → (W3.alloc (.cells #[] 72)).drew.cell? ((⟨b, off + 2, none⟩ : Addr).add j) = some u) := by
      apply Lib.hid
      have h := SliceArg.src (size := 2) (enc := encFo) (fun _ => rfl) hs' (w' := (W3.alloc (.cells #[] 72)).drew) (fun i => Keeps.cell ((Hq.out.2.1.alloc _).drew) hb (by simp))
      intro j u hu
      have := h (j + 2) u (by simpa [encFo] using hu)
      rw [show (⟨b, off, none⟩ : Addr).add (j + 2) = (⟨b, off + 2, none⟩ : Addr).add j from by unfold Addr.add; split <;> split <;> simp_all <;> omega] at this
      exact this
    have hsz3 := Hq.out.2.1.size
    have Hg : Hid (∀ w', (W3.alloc (.cells #[] 72)).drew.grownBy w' (some W3.heap.size) → Keeps [] w w' ∧ w'.heap[w.heap.size + 1]? = some (.cells #[.slice none 0 0] 58 (0, 0)) ∧ w'.heap[w.heap.size + 1 + 1]? = some (.cells #[.int .i64 n, .bool d] 72 (0, 0))) := by
      apply Lib.hid
      intro w' hgrow
      have hk4 : Keeps [W3.heap.size] _ w' := Keeps.of_grown hgrow (fun k hk => by simp at hk; simp [hk])
      refine ⟨((Hq.out.2.1.alloc _).drew).after hk4 (by simp; omega), hk4.at_ (heap_old Hq.out.1 _) ?_, hk4.at_ (heap_old Hq.out.2.2.2 _) ?_⟩
      · simp; omega
      · simp; omega
    by_cases hc1 : cap = 1
    · have hR : R = [] := List.eq_nil_of_length_eq_zero (by omega)
      subst hR
      subst hc1
      go_region_law (refine step_append_own rfl (.tmp 32) (.tmp 35) 56 rfl w.heap.size 72 ii _ 2 16 Try.underlying56 hii hz0 hz1 hz2 rfl (by decide) (.slice (some ⟨W3.heap.size, 0, none⟩) 0 0) 0 [] (by rfl) (own_drew hown) ⟨b, off, none⟩ 0 0 [] (by rfl) rfl (by simp) (by simp) (by simp [maxLen]) (by omega) (by simp; omega) ?_; intro v' w' hown' hgrow; obtain ⟨ao', cp, rfl, _⟩ := row_slice hown'; obtain ⟨hk4, r1, r2⟩ := Hg.out w' hgrow; have c1' := cells_at r1; have f1' := free_at r1; have c2' := cells_at r2; have l1' := lt_of_at r1; have cB := cells_at (heap_cell_same (i := 0) r1 (.slice ao' 0 cp)); have Hr := Lib.hid r1; have HK := Lib.hid (And.intro hk4 (And.intro hown' cB)); clear hk4 r1 r2 cB hown' hgrow)
      all_goals
        go_wp2_with fail
        have HK2 := HK.out.2.2
        refine bodyPost_ret (v := .tuple #[.agg #[.slice ao' 0 cp], .bool false, .bool d]) ?_ rfl ?_
        · simp [results, Try.results31, go_sem, HK2]
        · have hn0 : ¬ 0 < n := by omega
          have hown' := HK.out.2.1
          simp only [Nat.add_zero, List.nil_append] at hown'
          have hne : (Value.slice ao' 0 cp).ownBlock ≠ some (w.heap.size + 1) := by
            intro hbl
            obtain ⟨cur, _, hgc⟩ := Go.Lib.ownsRow_kind hown' _ hbl
            have h1 := HK.out.1
            rw [Hr.out] at hgc
            injection hgc with hgc
            injection hgc with _ e _
            exact absurd e (by decide)
          have hfin := ownsRow_setCell_other hown' (a := ⟨w.heap.size + 1, 0, none⟩) hne (.slice ao' 0 cp)
          refine ⟨.agg #[.slice ao' 0 cp], by simp [tryWorks, tryDone, tryS, hn0], ⟨_, rfl, slOk_row hfin, ?_, typed_row hfin⟩, HK.out.1.setCell (.inr (Nat.le_succ _)) _⟩
          have h := arg_of_row (enc := encFo) (L := []) (fun _ => rfl) hfin
          simpa [tryQ, tryS, hn0] using h
    · go_region_law (refine step_append_own rfl (.tmp 32) (.tmp 35) 56 rfl w.heap.size 72 ii _ 2 16 Try.underlying56 hii hz0 hz1 hz2 rfl (by decide) (.slice (some ⟨W3.heap.size, 0, none⟩) 0 0) 0 [] (by rfl) (own_drew hown) ⟨b, off + 2, none⟩ R.length (cap - 1) (R.flatMap encFo) (by rfl) (by rw [flat_len encFo 2 (fun _ => rfl)]) Hs.out (enc1 _) (by omega) (by omega) (by simp; omega) ?_; intro v' w' hown' hgrow; obtain ⟨ao', cp, rfl, _⟩ := row_slice hown'; obtain ⟨hk4, r1, r2⟩ := Hg.out w' hgrow; have c1' := cells_at r1; have f1' := free_at r1; have c2' := cells_at r2; have l1' := lt_of_at r1; have cB := cells_at (heap_cell_same (i := 0) r1 (.slice ao' R.length cp)); have Hr := Lib.hid r1; have HK := Lib.hid (And.intro hk4 (And.intro hown' cB)); clear hk4 r1 r2 cB hown' hgrow)
      all_goals
        go_wp2_with fail
        have HK2 := HK.out.2.2
        refine bodyPost_ret (v := .tuple #[.agg #[.slice ao' R.length cp], .bool false, .bool d]) ?_ rfl ?_
        · simp [results, Try.results31, go_sem, HK2]
        · have hn0 : ¬ 0 < n := by omega
          have hown' := HK.out.2.1
          simp only [Nat.zero_add, List.nil_append] at hown'
          have hne : (Value.slice ao' R.length cp).ownBlock ≠ some (w.heap.size + 1) := by
            intro hbl
            obtain ⟨cur, _, hgc⟩ := Go.Lib.ownsRow_kind hown' _ hbl
            have h1 := HK.out.1
            rw [Hr.out] at hgc
            injection hgc with hgc
            injection hgc with _ e _
            exact absurd e (by decide)
          have hfin := ownsRow_setCell_other hown' (a := ⟨w.heap.size + 1, 0, none⟩) hne (.slice ao' R.length cp)
          refine ⟨.agg #[.slice ao' R.length cp], by simp [tryWorks, tryDone, tryS, hn0], ⟨_, rfl, slOk_row hfin, ?_, typed_row hfin⟩, HK.out.1.setCell (.inr (Nat.le_succ _)) _⟩
          have h := arg_of_row (enc := encFo) (L := R) (fun _ => rfl) hfin
          simpa [tryQ, tryS, hn0] using h

/-- The document's Try: it answers as the queue does. -/
theorem refTry_spec (w : World) (v : Value) (Q : List (Int × Bool)) (hl : Q.length ≤ 1000) (hQ : ∀ x ∈ Q, okF x) (h : RefFuse w v Q) :
    Calls Try.prog 31 #[v] w (RefTryPost w Q) := by
  match Q, hl, hQ, h with
  | [], _, _, h => exact refTry_nil w v h
  | (n, d) :: R, hl, hQ, h => exact refTry_cons w v n d R (by simp at hl; omega) (hQ _ (by simp)) h

end Go.Proofs.Ythcdodjdlgeeoaa
