/-
  Package label at one pair, a=1: Make, walked.
  No condition beyond those that each theorem states.
-/
import Derived.Test.YtejfigbjaiealaaGreatDoorLabel1
namespace Go.Proofs.YtejfigbjaiealaaGreatDoor
open Go Go.RowKit

theorem infoPair : (Tryz.prog.info? 64).map (fun i => (i.zero, i.size, i.bytes)) = some (some (.agg #[.string ⟨#[]⟩, .string ⟨#[]⟩]), 2, 32) := by kernel_rfl

theorem set1_of {B : Nat} {w : World} {v : Value} (h : w.ownsRow B 64 2 v 1 [.string ⟨#[97]⟩, .string ⟨#[49]⟩]) : Set1 B w v := by
  obtain ⟨_, ⟨_, hn⟩ | ⟨g, cap, cur, rfl, hbg, hg, hnc, hcm, hcs, ht⟩⟩ := h
  · cases hn
  · have h0 : cur.toList[0]? = some (.string ⟨#[97]⟩) := by
      have : (cur.toList.take (1 * 2))[0]? = some (.string ⟨#[97]⟩) := by rw [ht]; rfl
      rwa [List.getElem?_take_of_lt (by decide)] at this
    have h1 : cur.toList[1]? = some (.string ⟨#[49]⟩) := by
      have : (cur.toList.take (1 * 2))[1]? = some (.string ⟨#[49]⟩) := by rw [ht]; rfl
      rwa [List.getElem?_take_of_lt (by decide)] at this
    exact ⟨g, cap, cur, rfl, hbg, hnc, hcm, hg, hcs, by simpa using h0, by simpa using h1⟩

theorem Set1.news {w : World} {g : Nat} {cur : Array Value} (hg : w.heap[g]? = some (.cells cur 64 (0, 0))) (h0 : cur[0]? = some (.string ⟨#[97]⟩)) (h1 : cur[1]? = some (.string ⟨#[49]⟩)) :
    ∀ j u, ([.string ⟨#[97]⟩, .string ⟨#[49]⟩] : List Value)[j]? = some u → w.cell? ((⟨g, 0, none⟩ : Addr).add j) = some u := by
  intro j u hu
  have hadd : (⟨g, 0, none⟩ : Addr).add j = ⟨g, j, none⟩ := by unfold Addr.add; split <;> simp_all
  rw [hadd, cells_at hg]
  match j with
  | 0 => rw [h0]; exact hu
  | 1 => rw [h1]; exact hu
  | n + 2 => simp at hu

theorem Set1.keep {B : Nat} {w w' : World} {v : Value} {S : List Nat} (h : Set1 B w v) (k : Keeps S w w') (hS : ∀ x ∈ S, x < B) : Set1 B w' v := by
  obtain ⟨g, c, cur, e, hb, h1, h2, hg, r⟩ := h
  exact ⟨g, c, cur, e, hb, h1, h2, k.at_ hg (fun hm => by have := hS g hm; omega), r⟩

instance go1Set1 {w w' : World} (B : Nat) (v : Value) : Go1 w w' (Set1 B w v) (Set1 B w' v) := ⟨fun k h => h.keep k (by simp)⟩

theorem Set1.low {B B' : Nat} {w : World} {v : Value} (h : Set1 B w v) (hB : B' ≤ B) : Set1 B' w v := by
  obtain ⟨g, c, cur, e, hb, r⟩ := h
  exact ⟨g, c, cur, e, by omega, r⟩

set_option maxRecDepth 100000 in
set_option maxHeartbeats 1000000 in
theorem cloneP1_spec (B : Nat) (w : World) (v : Value) (h : Set1 B w v) :
    Calls Tryz.prog 70 #[v] w fun e w' => ∃ v', e = .returned v' ∧ Set1 w.heap.size w' v' ∧ Keeps [] w w' := by
  have qT : ∀ (w : World) (a : Option Addr) (n c : Nat), (binOp .eql 58 (.slice a n c) (.slice none 0 0)).run Tryz.prog w = .ok (.bool a.isNone) w := fun w a n c => run_eql_slice_nilP w _ _ a n c Tryz.underlying58
  obtain ⟨ip, hip, hz0, hz1, hz2⟩ := info_parts infoPair
  obtain ⟨g, c, cur, rfl, hb, h1, h2, hg, hcs, hc0, hc1⟩ := h
  have k0 : Keeps [] w (w.alloc (.cells #[] 64)) := (Keeps.refl [] w).alloc _
  have hg2 := k0.at_ hg (by simp)
  have H0 := Lib.hid (And.intro (own_made w w.heap.size 64 2 (Nat.le_refl _)) (And.intro k0 (Set1.news hg2 hc0 hc1)))
  clear k0 hg2 hg hc0 hc1 hcs
  go_enter Tryz.func70, Tryz.ntmps70
  go_wp2_with (at_builtin; refine wpList_append_own _ rfl (.tmp 5) (.tmp 6) 58 rfl w.heap.size 64 ip _ 2 32 Tryz.underlying58 hip hz0 hz1 hz2 rfl (by decide) (.slice (some ⟨w.heap.size, 0, none⟩) 0 0) 0 [] rfl H0.out.1 ⟨g, 0, none⟩ 1 c [.string ⟨#[97]⟩, .string ⟨#[49]⟩] rfl rfl H0.out.2.2 (by simp [Value.oneCell']) (by decide) (by decide) (by simp) ?_; intro v8 w8 hown8 hgrow8 hnil; clear hnil)
  go_ret
  exact ⟨_, rfl, set1_of (by simpa using hown8), keeps_own H0.out.2.1 hgrow8 (fun q hq => (World.ownsRow.lt H0.out.1 q hq).1)⟩

set_option maxRecDepth 100000 in
set_option maxHeartbeats 1000000 in
theorem make1_spec (B : Nat) (w : World) (v : Value) (h : Set1 B w v) :
    Calls Tryz.prog 50 #[v] w fun e w' => ∃ v', e = .returned (.tuple #[v', .int .i64 0]) ∧ Set1 w.heap.size w' v' ∧ Keeps [] w w' := by
  have H0 := Lib.hid h
  obtain ⟨g, c, cur, rfl, -⟩ := h
  go_enter Tryz.func50, Tryz.ntmps50
  go_wp2_with fail
  refine (cloneP1_spec B _ _ H0.out).mono ?_
  rintro e w1 ⟨v1, rfl, hs1, hk1⟩
  have H1 := Lib.hid (And.intro hs1 hk1)
  obtain ⟨g1, c1, cur1, rfl, -, hc1, -, hg1, -, h10, h11⟩ := hs1
  have HG := Lib.hid (And.intro hc1 (And.intro hg1 (And.intro h10 h11)))
  clear hk1 hc1 hg1 h10 h11
  go_wp2_with fail
  refine (sortP1_spec _ g1 c1 _).mono ?_
  rintro e w2 ⟨rfl, rfl⟩
  go_wp2_with fail
  refine (check1_spec _ g1 c1 cur1 HG.out.1 HG.out.2.1 HG.out.2.2.1 HG.out.2.2.2).mono ?_
  rintro e w3 ⟨rfl, hk3⟩
  have H3 := Lib.hid (And.intro (go1 hk3 H1.out.1) (H1.out.2.trans hk3))
  clear hk3
  go_wp2_with fail
  go_ret2
  exact ⟨_, rfl, H3.out.1, H3.out.2⟩
end Go.Proofs.YtejfigbjaiealaaGreatDoor
