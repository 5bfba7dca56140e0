/-
  Package posting: remove: a rising list without a number, walked.
  No condition beyond those that each theorem states.
-/
import Derived.Test.YtejfigbjaiealaaGreatDoorPostAdd
import Derived.Test.YtejfigbjaiealaaGreatDoorShelfD
import Derived.Sort.OwnSortedInts
namespace Go.Proofs.YtejfigbjaiealaaGreatDoor
open Go Go.RowKit Go.Sort

theorem row_prefix {B : Nat} {w : World} {e : TypeId} {size g n cap : Nat} {xs : List Value} (h : w.ownsRow B e size (.slice (some ⟨g, 0, none⟩) n cap) n xs) (k : Nat) (hk : k ≤ n) :
    w.ownsRow B e size (.slice (some ⟨g, 0, none⟩) k cap) k (xs.take (k * size)) := by
  obtain ⟨hl, ⟨hn, -⟩ | ⟨g', cap', cur, hv, h1, h2, h3, h4, h5, h6⟩⟩ := h
  · cases hn
  · cases hv
    have hm : k * size ≤ n * size := Nat.mul_le_mul_right size hk
    refine ⟨by rw [List.length_take]; omega, .inr ⟨g, cap, cur, rfl, h1, h2, by omega, h4, h5, ?_⟩⟩
    rw [← h6, List.take_take, Nat.min_eq_left hm]

def remL (l : List Int) (n : Int) : List Int := if n ∈ l then l.take (l.countP (· < n)) ++ l.drop (l.countP (· < n) + 1) else l

theorem countP_lt_of_mem : ∀ (l : List Int) (n : Int), n ∈ l → l.countP (· < n) < l.length := by
  intro l n h
  have h1 := List.countP_le_length (p := fun x => decide (x < n)) (l := l)
  rcases Nat.lt_or_eq_of_le h1 with h2 | h2
  · exact h2
  · have h3 := List.countP_eq_length.1 h2 n h
    simp at h3

def RemPost (B : Nat) (w : World) (v : Value) (l : List Int) (n : Int) (e : Ending) (w' : World) : Prop := ∃ v', e = .returned v' ∧ Own B w' v' (remL l n) ∧ Turns v w v' w'

theorem bsearch_spec (B : Nat) (w : World) (v : Value) (l : List Int) (n : Int) (h : Own B w v l) (hs : l.Pairwise (· ≤ ·)) (hl : l.length ≤ 1000000) :
    Calls Tryz.prog 65 #[v, .int .i64 n] w fun e w' => e = .returned (.tuple #[.int .i64 (l.countP (· < n) : Nat), .bool (l.contains n)]) ∧ ∃ q, w' = w.drewN q := by
  obtain ⟨_, ⟨rfl, hn⟩ | ⟨g, cap, cur, rfl, hbase, hb, h1, h2, h3, h4⟩⟩ := h
  · obtain rfl : l = [] := List.eq_nil_of_length_eq_zero hn
    refine (bsearch0_spec w n).mono ?_
    rintro e w' ⟨rfl, rfl⟩
    exact ⟨rfl, 0, rfl⟩
  · have hc := AnyG.slices_BinarySearch_int Tryz.bsL g 0 l.length cap l n w (Nat.le_refl _) (by omega) (fun j hj => by
      rw [Nat.zero_add, cells_at hb, ← Array.getElem?_toList, ← List.getElem?_take_of_lt (i := j) (j := l.length * 1) (by omega), h4, List.getElem?_map, List.getElem?_eq_getElem hj, List.getD_eq_getElem?_getD, List.getElem?_eq_getElem hj]
      rfl) (by rw [List.take_length]; exact hs)
    change Calls Tryz.prog 65 _ _ _ at hc
    rw [List.take_length] at hc
    exact hc

set_option linter.unusedSimpArgs false in
set_option maxRecDepth 100000 in
set_option maxHeartbeats 1000000 in
theorem remove_spec (B : Nat) (w : World) (v : Value) (l : List Int) (n : Int) (h : Own B w v l) (hs : l.Pairwise (· ≤ ·)) (hl : l.length ≤ 1000000) :
    Calls Tryz.prog 47 #[v, .int .i64 n] w (RemPost B w v l n) := by
  have Hf := Lib.hid h
  have Hb := Lib.hid (bsearch_spec B w v l n h hs hl)
  obtain ⟨a, c, rfl, -, -, -⟩ := row_slice h
  clear h
  go_enter Tryz.func47, Tryz.ntmps47
  go_wp2_with fail
  refine Hb.out.mono ?_
  rintro e w1 ⟨rfl, q, rfl⟩
  have kq : Keeps [] w (w.drewN q) := (Keeps.refl [] w).drewN q
  have H1 := Lib.hid (And.intro (go1 kq Hf.out) kq)
  clear kq Hb
  generalize w.drewN q = w1 at H1 ⊢
  by_cases hm : n ∈ l
  · have hct : l.contains n = true := List.contains_iff_mem.2 hm
    rw [hct]
    have hlt := countP_lt_of_mem l n hm
    have HR := Lib.hid (show remL l n = l.take (l.countP (· < n)) ++ l.drop (l.countP (· < n) + 1) from if_pos hm)
    obtain ⟨i, hi⟩ : ∃ i, i = l.countP (· < n) := ⟨_, rfl⟩
    rw [← hi] at hlt HR ⊢
    clear hm hct hi
    obtain ⟨hxl, ⟨-, hn⟩ | ⟨g, cap, cur, hv, hbase, hb, h1, h2, h3, h4⟩⟩ := H1.out.1
    · omega
    cases hv
    unfold maxLen at h2
    have hH : Holds (Value.int .i64) w1 g 0 l.toArray := holds_of_blockI hb (by simpa using h4)
    have hc := AnyG.slices_Delete_int Tryz.delL g 0 c i (i + 1) l w1 hH h1 (by omega) (by omega) (by omega)
    change Calls Tryz.prog 67 _ _ _ at hc
    rw [show i + 1 - i = 1 from by omega] at hc
    have hX : (l.take i ++ l.drop (i + 1)).length = l.length - 1 := by rw [List.length_append, List.length_take, List.length_drop]; omega
    have HB := Lib.hid (And.intro hb (And.intro hbase (And.intro h1 (And.intro h2 h3))))
    generalize hXX : l.take i ++ l.drop (i + 1) = X at hc HR hX
    have HC := Lib.hid hc
    clear hc hH hb h1 h2 h3 h4 hxl hbase hXX
    have hil : (i : Int) + 1 ≤ 1000000 := by omega
    go_wp2_with fail
    have hcc := HC.out
    rw [show ((i + 1 : Nat) : Int) = (i : Int) + 1 from by omega] at hcc
    refine hcc.mono ?_
    rintro e w2 ⟨rfl, q2, rfl⟩
    have hr := ownsRow_sortedI (w := w1) (base := B) (g := g) (cap := c) (n := q2) (e := 3) (os := #[]) (cur := cur) (ss := l) (ts := X ++ List.replicate 1 0) (by rw [List.length_append, hX, List.length_replicate]; omega) HB.out.2.1 HB.out.1 HB.out.2.2.1 (by unfold maxLen; exact HB.out.2.2.2.1) HB.out.2.2.2.2
    have hg := grownBy_sortedI (w := w1) (g := g) (n := q2) (os := #[]) (X ++ List.replicate 1 0).toArray
    rw [← putRow_ahead_heap] at hr hg
    have hr2 := row_prefix hr (l.length - 1) (by omega)
    have H2 := Lib.hid (And.intro (show Own B (putRow (Value.int .i64) (Sort.ahead w1 q2) g 0 (X ++ List.replicate 1 0).toArray) (.slice (some ⟨g, 0, none⟩) (l.length - 1) c) X from by
      unfold Own
      rw [hX]
      rw [List.map_append, Nat.mul_one, ← hX] at hr2
      have e : (X.map (Value.int .i64) ++ (List.replicate 1 (0 : Int)).map (Value.int .i64)).take X.length = X.map (Value.int .i64) := by
        rw [List.take_append_of_le_length (by simp), List.take_of_length_le (by simp)]
      rw [e, hX] at hr2
      exact hr2) (show Turns (.slice (some ⟨g, 0, none⟩) l.length c) w (.slice (some ⟨g, 0, none⟩) (l.length - 1) c) (putRow (Value.int .i64) (Sort.ahead w1 q2) g 0 (X ++ List.replicate 1 0).toArray) from ⟨(H1.out.2.mono (by simp)).trans (Keeps.of_grown hg (fun k hk => .inl (by simpa [Value.ownBlock] using hk.symm))), fun g' hg' => .inl hg'⟩))
    clear hr hg hr2
    go_wp2_with fail
    go_ret
    exact ⟨_, rfl, by rw [HR.out]; exact H2.out.1, H2.out.2⟩
  · have hct : l.contains n = false := by
      cases hx : l.contains n with
      | false => rfl
      | true => exact absurd (List.contains_iff_mem.1 hx) hm
    rw [hct]
    have HR := Lib.hid (show remL l n = l from if_neg hm)
    clear hm hct
    go_wp2_with fail
    go_ret
    exact ⟨_, rfl, by rw [HR.out]; exact H1.out.1, ⟨H1.out.2.mono (by simp), fun g hg => .inl hg⟩⟩
end Go.Proofs.YtejfigbjaiealaaGreatDoor
