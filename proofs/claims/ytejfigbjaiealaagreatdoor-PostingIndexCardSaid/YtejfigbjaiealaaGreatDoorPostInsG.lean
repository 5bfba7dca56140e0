/-
  Package posting: insert: a rising list with a number, walked.
  No condition beyond those that each theorem states.
-/
import Derived.Test.YtejfigbjaiealaaGreatDoorPostIns
namespace Go.Proofs.YtejfigbjaiealaaGreatDoor
open Go Go.RowKit

def putAt (l : List Int) (k : Nat) (n : Int) : List Int := l.take k ++ [n] ++ l.drop k

def insI (l : List Int) (n : Int) : List Int := if n ∈ l then l else putAt l (l.countP (· < n)) n

theorem putAt_len {l : List Int} {k : Nat} {n : Int} (hk : k ≤ l.length) : (putAt l k n).length = l.length + 1 := by
  unfold putAt
  simp
  omega

def InsPost (B : Nat) (w : World) (v : Value) (l : List Int) (e : Ending) (w' : World) : Prop := ∃ v', e = .returned v' ∧ Own B w' v' l ∧ Turns v w v' w'

theorem own_of_cells {B g c n : Nat} {w : World} {cur : Array Value} {l : List Int} (hb : B ≤ g) (hg : w.heap[g]? = some (.cells cur 3 (0, 0))) (hc : cur.size = c) (hn : l.length = n) (hnc : n ≤ c) (hcm : c ≤ maxLen) (ht : cur.toList.take n = l.map (Value.int .i64)) : Own B w (.slice (some ⟨g, 0, none⟩) n c) l := by
  unfold Own
  refine ⟨by simp, .inr ⟨g, c, cur, by rw [hn], hb, hg, by omega, hcm, by omega, by rw [hn, Nat.mul_one]; exact ht⟩⟩

set_option maxRecDepth 100000 in
set_option maxHeartbeats 1000000 in
theorem insEnd_spec (B : Nat) (w : World) (n : Int) (a : Option Addr) (c : Nat) (l : List Int) (hl : l.length ≤ 1000) (hB : B ≤ w.heap.size) (ho : Own B w (.slice a l.length c) l) (g : Nat) (hg : w.heap[g]? = some (.cells #[.int .i64 n] 3 (0, 0))) : Calls Tryz.prog 66 #[.slice a l.length c, .int .i64 l.length, .slice (some ⟨g, 0, none⟩) 1 1] w (InsPost B w (.slice a l.length c) (l ++ [n])) := by
  by_cases hcl : c = l.length
  · subst hcl
    have Ho := Lib.hid ho
    clear ho
    go_enter Tryz.func66, Tryz.ntmps66
    go_wp2_with (at_builtin; refine own_append2 rfl (.tmp 23) (.tmp 24) 36 28 Tryz.underlying36 Tryz.underlying28 rfl B (.slice a l.length l.length) l rfl Ho.out ⟨g, 0, none⟩ 1 1 [n] rfl rfl (news_of hg) (by show l.length + 1 ≤ 1000000; omega) hB ?_; intro ao cp w9 hown9 ht9; have H9 := Lib.hid (And.intro hown9 ht9); clear hown9 ht9)
    go_ret
    exact ⟨_, rfl, H9.out.1, H9.out.2⟩
  · have Ho := Lib.hid ho
    clear ho
    go_enter Tryz.func66, Tryz.ntmps66
    go_wp2_with (at_builtin; refine own_append2 rfl (.tmp 23) (.tmp 24) 36 28 Tryz.underlying36 Tryz.underlying28 rfl B (.slice a l.length c) l rfl Ho.out ⟨g, 0, none⟩ 1 1 [n] rfl rfl (news_of hg) (by show l.length + 1 ≤ 1000000; omega) hB ?_; intro ao cp w9 hown9 ht9; have H9 := Lib.hid (And.intro hown9 ht9); clear hown9 ht9)
    go_ret
    exact ⟨_, rfl, H9.out.1, H9.out.2⟩

theorem insAny_spec (B : Nat) (w : World) (n : Int) (v : Value) (l : List Int) (k : Nat) (hk : k ≤ l.length) (hl : l.length ≤ 1000) (hB : B ≤ w.heap.size) (ho : Own B w v l) (vb : Nat) (hg : w.heap[vb]? = some (.cells #[.int .i64 n] 3 (0, 0))) (hne : ∀ g, v.ownBlock = some g → vb ≠ g) : Calls Tryz.prog 66 #[v, .int .i64 k, .slice (some ⟨vb, 0, none⟩) 1 1] w (InsPost B w v (putAt l k n)) := by
  by_cases hkl : k = l.length
  · subst hkl
    obtain ⟨a, c, rfl, -, -, -⟩ := row_slice ho
    have h := insEnd_spec B w n a c l hl hB ho vb hg
    have e : putAt l l.length n = l ++ [n] := by simp [putAt]
    rw [e]
    exact h
  · have hlt : k < l.length := by omega
    obtain ⟨_, ⟨rfl, hn⟩ | ⟨g, c, cur, rfl, hbase, hb, h1, h2, h3, h4⟩⟩ := ho
    · omega
    · have h4' : cur.toList.take l.length = l.map (Value.int .i64) := by rw [← h4, Nat.mul_one]
      have e1 : (l.map (Value.int .i64)).take k ++ [Value.int .i64 n] ++ (l.map (Value.int .i64)).drop k = (putAt l k n).map (Value.int .i64) := by
        unfold putAt
        rw [List.map_append, List.map_append, List.map_take, List.map_drop]
        rfl
      by_cases hroom : l.length + 1 ≤ c
      · have hc := insShift_spec w g l.length c cur (l.map (Value.int .i64)) (.int .i64 n) k vb hb (by omega) (by simp) h4' hlt hroom (by unfold maxLen at h2; omega) hg (hne g rfl) (by
          intro u hu
          obtain ⟨z, -, rfl⟩ := List.mem_map.1 hu
          rfl) rfl
        refine hc.mono ?_
        rintro e w' ⟨rfl, cur', hg', hs', ht', hk'⟩
        rw [e1] at ht'
        have hl2 := putAt_len (n := n) hk
        exact ⟨_, rfl, own_of_cells hbase hg' hs' hl2 hroom h2 ht', ⟨by simpa [Value.ownBlock] using hk', fun g' hg'' => .inl (by simpa [Value.ownBlock] using hg'')⟩⟩
      · have hc := insGrow_spec w g l.length c cur (l.map (Value.int .i64)) (.int .i64 n) k vb hb (by simp) h4' hlt h1 (by omega) (by omega) hg (by
          intro u hu
          obtain ⟨z, -, rfl⟩ := List.mem_map.1 hu
          rfl) rfl
        refine hc.mono ?_
        rintro e w' ⟨G, rfl, cur', hg', hG1, hG2, hs', ht', hk'⟩
        rw [e1] at ht'
        have hl2 := putAt_len (n := n) hk
        exact ⟨_, rfl, own_of_cells hB hg' hs' hl2 hG1 hG2 ht', ⟨hk'.mono (by simp), fun g' hg'' => .inr (by
          have : w.heap.size = g' := by simpa [Value.ownBlock] using hg''
          omega)⟩⟩

set_option maxRecDepth 100000 in
set_option maxHeartbeats 1000000 in
theorem insert_spec (B : Nat) (w : World) (n : Int) (v : Value) (l : List Int) (hs : l.Pairwise (· ≤ ·)) (hl : l.length ≤ 1000) (hB : B ≤ w.heap.size) (ho : Own B w v l) : Calls Tryz.prog 46 #[v, .int .i64 n] w (InsPost B w v (insI l n)) := by
  have Hf := Lib.hid ho
  have Hb := Lib.hid (bsearch_spec B w v l n ho hs (by omega))
  obtain ⟨a, c, rfl, -, -, -⟩ := row_slice ho
  clear ho
  go_enter Tryz.func46, Tryz.ntmps46
  go_wp2_with fail
  refine Hb.out.mono ?_
  rintro e w1 ⟨rfl, q, rfl⟩
  have kq : Keeps [] w (w.drewN q) := (Keeps.refl [] w).drewN q
  have H1 := Lib.hid (And.intro (go1 kq Hf.out) kq)
  clear kq Hb
  generalize w.drewN q = w1 at H1 ⊢
  by_cases hm : n ∈ l
  · have hct : l.contains n = true := List.contains_iff_mem.2 hm
    rw [hct]
    have HR := Lib.hid (show insI l n = l from if_pos hm)
    clear hm hct
    go_wp2_with fail
    go_ret
    exact ⟨_, rfl, by rw [HR.out]; exact H1.out.1, ⟨H1.out.2.mono (by simp), fun g hg => .inl hg⟩⟩
  · have hct : l.contains n = false := by
      cases hx : l.contains n with
      | false => rfl
      | true => exact absurd (List.contains_iff_mem.1 hx) hm
    rw [hct]
    have HR := Lib.hid (show insI l n = putAt l (l.countP (· < n)) n from if_neg hm)
    have hkl : l.countP (· < n) ≤ l.length := List.countP_le_length
    obtain ⟨k, hk⟩ : ∃ k, k = l.countP (· < n) := ⟨_, rfl⟩
    rw [← hk] at HR hkl ⊢
    clear hm hct hk
    have k2 : Keeps [] w1 (w1.alloc (.cells #[.int .i64 n] 3)) := (Keeps.refl [] w1).alloc _
    have H2 := Lib.hid (And.intro (heap_new w1 (.cells #[.int .i64 n] 3)) (And.intro (go1 k2 H1.out.1) (And.intro (H1.out.2.trans k2) (show ∀ g, (Value.slice a l.length c).ownBlock = some g → w1.heap.size ≠ g from fun g hg => by have := (World.ownsRow.lt H1.out.1 g hg).2; omega))))
    have hBB := Nat.le_trans hB (H2.out.2.2.1).size
    clear k2
    go_wp2_with fail
    refine (insAny_spec B _ n (.slice a l.length c) l k hkl hl hBB H2.out.2.1 _ H2.out.1 H2.out.2.2.2).mono ?_
    rintro e w2 ⟨v2, rfl, hown, hk⟩
    have H3 := Lib.hid (And.intro hown (Turns.since H2.out.2.2.1 hk))
    clear hown hk
    go_wp2_with fail
    go_ret
    exact ⟨_, rfl, by rw [HR.out]; exact H3.out.1, H3.out.2⟩
end Go.Proofs.YtejfigbjaiealaaGreatDoor
