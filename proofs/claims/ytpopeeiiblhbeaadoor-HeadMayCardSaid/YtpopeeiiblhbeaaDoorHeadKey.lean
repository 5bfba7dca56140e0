/-
  Package label: the key of the set of one pair, a=1; its copy.
  No condition beyond those that each theorem states.
-/
import Derived.Test.YtpopeeiiblhbeaaDoorHead1
import Derived.Test.YtpopeeiiblhbeaaDoorLebT
namespace Go.Proofs.YtpopeeiiblhbeaaDoor
open Go Go.RowKit

def keyB : ByteArray := ⟨#[1, 1, 97, 1, 49]⟩

def Key1Rel (w : World) (gk : Nat) (u3 u12 : Value) (wr : World) : Prop :=
  (gk = 1 ∧ u12 = .int .i64 0 ∧ Buf wr u3 [1] ∧ (∀ g, u3.ownBlock = some g → w.heap.size ≤ g) ∧ Keeps [] w wr) ∨ (gk = 0 ∧ u12 = .int .i64 1 ∧ Buf wr u3 [1, 1, 97, 1, 49] ∧ Keeps [] w wr)

set_option linter.unusedSimpArgs false in
set_option maxRecDepth 100000 in
set_option maxHeartbeats 1000000 in
theorem key1_spec (w : World) (g c : Nat) (cur : Array Value) (hb : w.heap[g]? = some (.cells cur 117 (0, 0))) (h0 : cur[0]? = some (.string ⟨#[97]⟩)) (h1 : cur[1]? = some (.string ⟨#[49]⟩)) :
    Calls Tryd.prog 78 #[.slice (some ⟨g, 0, none⟩) 1 c] w fun e w' => e = .returned (.string keyB) ∧ Keeps [] w w' := by
  have d0 : w.cell? ⟨g, 0, none⟩ = some (.string ⟨#[97]⟩) := by rw [cells_at hb]; exact h0
  have d1 : w.cell? ⟨g, 1, none⟩ = some (.string ⟨#[49]⟩) := by rw [cells_at hb]; exact h1
  have hl := lt_of_at hb
  clear hb h0 h1
  go_enter Tryd.func78, Tryd.ntmps78
  go_wp2_with fail
  refine (uint_spec w (.slice none 0 0) [] 1 (by decide) (by decide) (buf_nil w)).mono ?_
  rintro e w1 ⟨v1, rfl, hbuf, ht⟩
  have hf := ht.fresh (Keeps.refl [] w) (fun g hg => by simp [Value.ownBlock] at hg)
  have hl1 : lebL 1 = [1] := by decide +kernel
  rw [hl1, List.nil_append] at hbuf
  have H1 := Lib.hid (And.intro hbuf hf)
  clear hbuf ht hf hl1
  go_wp2_with fail
  go_loopg [3, 12] 1 (Key1Rel w)
  case atStart => exact .inl ⟨rfl, rfl, H1.out.1, H1.out.2.2, H1.out.2.1⟩
  case round =>
    rcases hrel with ⟨hgk, rfl, hbuf, hown, hkw⟩ | ⟨hgk, rfl, hbuf, hkw⟩
    · have Hg := Lib.hid hgk
      have e0 := (hkw.cell (i := 0) hl (by simp)).trans d0
      have e1 := (hkw.cell (i := 1) hl (by simp)).trans d1
      have hlw := hkw.lt hl
      have hp := heap_new wr (.cells #[.string ⟨#[97]⟩, .string ⟨#[49]⟩] 117)
      have kp : Keeps [] wr (wr.alloc (.cells #[.string ⟨#[97]⟩, .string ⟨#[49]⟩] 117)) := (Keeps.refl [] wr).alloc _
      have hne : ∀ g, u3.ownBlock = some g → g ≠ wr.heap.size := fun g hg => by have := hbuf.lt g hg; omega
      obtain ⟨W0, hW0⟩ : ∃ W0, W0 = (wr.alloc (.cells #[.string ⟨#[97]⟩, .string ⟨#[49]⟩] 117)).drew := ⟨_, rfl⟩
      have kW : Keeps [] wr W0 := by rw [hW0]; exact kp.drew
      have hp0 : W0.heap[wr.heap.size]? = some (.cells #[.string ⟨#[97]⟩, .string ⟨#[49]⟩] 117 (0, 0)) := by rw [hW0]; exact hp
      obtain ⟨ao, cp, rfl, -, -, -⟩ := row_slice hbuf
      have HB := Lib.hid (And.intro (hbuf.same kW) (And.intro hown (And.intro (hkw.trans kW) (And.intro hp0 hne))))
      have s1 : W0.cell? ⟨wr.heap.size, 0, none⟩ = some (.string ⟨#[97]⟩) := cells_at hp0 0
      have s2 : W0.cell? ⟨wr.heap.size, 1, none⟩ = some (.string ⟨#[49]⟩) := cells_at hp0 1
      have HW := Lib.hid hW0
      clear hkw hbuf hown hp kp hne kW hp0 hW0 hgk d0 d1
      go_upto_region 5 with fail
      generalize wr.heap.size = pb at HB s1 s2 ⊢
      clear e0 e1 hlw
      refine wp_region_held_drew (S := fun w' => w'.cell? ⟨pb, 0, none⟩ = some (.string ⟨#[97]⟩) ∧ w'.cell? ⟨pb, 1, none⟩ = some (.string ⟨#[49]⟩)) (by kernel_rfl) (by rw [← HW.out]; exact ⟨s1, s2⟩) (fun hS => ?_)
      rw [← HW.out] at hS ⊢
      refine wpAnyH_take (i := 0) (v := ?_) rfl (by kernel_rfl) (by kernel_rfl) (by kernel_rfl) (fun _ _ _ h => h) (Or.inl ⟨by rfl, ?_⟩) (by assumption) ?_
      rotate_left
      · intro w' hSw; obtain ⟨s1, s2⟩ := hSw; go_simp; (try with_reducible rfl)
      simp only [Act.put, List.getElem_toArray, List.getElem_cons_succ, List.getElem_cons_zero, List.setIfInBounds_toArray, List.set_cons_zero, List.set_cons_succ]
      refine wpAnyH_take (i := 1) (v := ?_) rfl (by kernel_rfl) (by kernel_rfl) (by kernel_rfl) (fun _ _ _ h => h) (Or.inl ⟨by rfl, ?_⟩) (by assumption) ?_
      rotate_left
      · intro w' hSw; obtain ⟨s1, s2⟩ := hSw; go_simp; (try with_reducible rfl)
      simp only [Act.put, List.getElem_toArray, List.getElem_cons_succ, List.getElem_cons_zero, List.setIfInBounds_toArray, List.set_cons_zero, List.set_cons_succ]
      refine wpAnyH_take (i := 2) (v := ?_) rfl (by kernel_rfl) (by kernel_rfl) (by kernel_rfl) (fun _ _ _ h => h) (Or.inl ⟨by rfl, ?_⟩) (by assumption) ?_
      rotate_left
      · intro w' hSw; obtain ⟨s1, s2⟩ := hSw; go_simp; (try with_reducible rfl)
      simp only [Act.put, List.getElem_toArray, List.getElem_cons_succ, List.getElem_cons_zero, List.setIfInBounds_toArray, List.set_cons_zero, List.set_cons_succ]
      refine wpAnyH_take (i := 4) (v := ?_) rfl (by kernel_rfl) (by kernel_rfl) (by kernel_rfl) (fun _ _ _ h => h) (Or.inl ⟨by rfl, ?_⟩) (by assumption) ?_
      rotate_left
      · intro w' hSw; obtain ⟨s1, s2⟩ := hSw; go_simp; (try with_reducible rfl)
      simp only [Act.put, List.getElem_toArray, List.getElem_cons_succ, List.getElem_cons_zero, List.setIfInBounds_toArray, List.set_cons_zero, List.set_cons_succ]
      refine wpAnyH_take (i := 5) (v := ?_) rfl (by kernel_rfl) (by kernel_rfl) (by kernel_rfl) (fun _ _ _ h => h) (Or.inl ⟨by rfl, ?_⟩) (by assumption) ?_
      rotate_left
      · intro w' hSw; obtain ⟨s1, s2⟩ := hSw; go_simp; (try with_reducible rfl)
      simp only [Act.put, List.getElem_toArray, List.getElem_cons_succ, List.getElem_cons_zero, List.setIfInBounds_toArray, List.set_cons_zero, List.set_cons_succ]
      refine wpAnyH_ready (rs := [3]) (by kernel_rfl) (by simp) ?_
      refine AllReadyH.cons rfl (fun K hK => ?_) AllReadyH.nil
      go_simp
      go_at_call 104
      refine (text_spec W0 _ [1] ⟨#[97]⟩ (by decide) HB.out.1).mono ?_
      rintro e A1 ⟨v2, rfl, hb2, ht2⟩
      have hx2 := ht2.box HB.out.2.2.2.1 HB.out.2.2.2.2
      have hf2 := ht2.fresh HB.out.2.2.1 HB.out.2.1
      have hlx : ([1] ++ textL (⟨#[97]⟩ : ByteArray).data.toList) = [1, 1, 97] := by decide +kernel
      rw [hlx] at hb2
      obtain ⟨ao2, cp2, rfl, -, -, -⟩ := row_slice hb2
      have H2 := Lib.hid (And.intro hb2 (And.intro hx2 hf2))
      have t1 : A1.cell? ⟨pb, 0, none⟩ = some (.string ⟨#[97]⟩) := cells_at hx2.1 0
      have t2 : A1.cell? ⟨pb, 1, none⟩ = some (.string ⟨#[49]⟩) := cells_at hx2.1 1
      clear hb2 ht2 hx2 hf2 hlx
      go_simp
      refine hK.out _ _ ⟨t1, t2⟩ (fun hS => ?_)
      clear hK K
      try simp only [Act.put, List.getElem_toArray, List.getElem_cons_succ, List.getElem_cons_zero, List.setIfInBounds_toArray, List.set_cons_zero, List.set_cons_succ]
      refine wpAnyH_ready (rs := [6]) (by kernel_rfl) (by simp) ?_
      refine AllReadyH.cons rfl (fun K hK => ?_) AllReadyH.nil
      go_simp
      go_at_call 104
      refine (text_spec A1 _ [1, 1, 97] ⟨#[49]⟩ (by decide) H2.out.1).mono ?_
      rintro e A2 ⟨v3, rfl, hb3, ht3⟩
      have hx3 := ht3.box H2.out.2.1.1 H2.out.2.1.2
      have hf3 := ht3.fresh H2.out.2.2.1 H2.out.2.2.2
      have hlx : ([1, 1, 97] ++ textL (⟨#[49]⟩ : ByteArray).data.toList) = [1, 1, 97, 1, 49] := by decide +kernel
      rw [hlx] at hb3
      obtain ⟨ao3, cp3, rfl, -, -, -⟩ := row_slice hb3
      have H3 := Lib.hid (And.intro hb3 hf3.1)
      have r1 : A2.cell? ⟨pb, 0, none⟩ = some (.string ⟨#[97]⟩) := cells_at hx3.1 0
      have r2 : A2.cell? ⟨pb, 1, none⟩ = some (.string ⟨#[49]⟩) := cells_at hx3.1 1
      clear hb3 ht3 hx3 hf3 hlx
      go_simp
      refine hK.out _ _ ⟨r1, r2⟩ (fun hS => ?_)
      clear hK K
      try simp only [Act.put, List.getElem_toArray, List.getElem_cons_succ, List.getElem_cons_zero, List.setIfInBounds_toArray, List.set_cons_zero, List.set_cons_succ]
      refine wpAnyH_ready (rs := [7]) (by kernel_rfl) (by simp) ?_
      refine AllReadyH.cons rfl (fun K hK => ?_) AllReadyH.nil
      go_simp
      go_simp
      refine hK.out _ _ ⟨r1, r2⟩ (fun hS => ?_)
      clear hK K
      try simp only [Act.put, List.getElem_toArray, List.getElem_cons_succ, List.getElem_cons_zero, List.setIfInBounds_toArray, List.set_cons_zero, List.set_cons_succ]
      refine wpAnyH_done (by kernel_rfl) ?_ _
      clear hS s1 s2 t1 t2 r1 r2
      go_wp2_with fail
      go_roundg 0
      case measure => have := Hg.out; omega
      case rel => exact .inr ⟨rfl, rfl, H3.out.1, H3.out.2⟩
    · obtain ⟨ao, cp, rfl, -, -, -⟩ := row_slice hbuf
      have hrun : (convert 162 9 (.slice ao 5 cp)).run Tryd.prog wr = .ok (.string keyB) wr := hbuf.run_string
      have H2 := Lib.hid hkw
      clear hbuf hkw d0 d1
      go_wp2_with fail
      go_ret
      exact ⟨rfl, H2.out⟩

set_option maxRecDepth 100000 in
set_option maxHeartbeats 1000000 in
theorem cloneS1_spec (B : Nat) (w : World) (v : Value) (h : Set1 B w v) :
    Calls Tryd.prog 105 #[v] w fun e w' => ∃ v', e = .returned v' ∧ Set1 w.heap.size w' v' ∧ Keeps [] w w' := by
  have qT : ∀ (w : World) (a : Option Addr) (n c : Nat), (binOp .eql 69 (.slice a n c) (.slice none 0 0)).run Tryd.prog w = .ok (.bool a.isNone) w := fun w a n c => run_eql_slice_nilP w _ _ a n c Tryd.underlying69
  obtain ⟨ip, hip, hz0, hz1, hz2⟩ := info_parts infoPair
  obtain ⟨g, c, cur, rfl, hb, h1, h2, hg, hcs, hc0, hc1⟩ := h
  have k0 : Keeps [] w (w.alloc (.cells #[] 117)) := (Keeps.refl [] w).alloc _
  have hg2 := k0.at_ hg (by simp)
  have H0 := Lib.hid (And.intro (own_made w w.heap.size 117 2 (Nat.le_refl _)) (And.intro k0 (Set1.news hg2 hc0 hc1)))
  clear k0 hg2 hg hc0 hc1 hcs
  go_enter Tryd.func105, Tryd.ntmps105
  go_wp2_with (at_builtin; refine wpList_append_own _ rfl (.tmp 5) (.tmp 6) 69 rfl w.heap.size 117 ip _ 2 32 Tryd.underlying69 hip hz0 hz1 hz2 rfl (by decide) (.slice (some ⟨w.heap.size, 0, none⟩) 0 0) 0 [] rfl H0.out.1 ⟨g, 0, none⟩ 1 c [.string ⟨#[97]⟩, .string ⟨#[49]⟩] rfl rfl H0.out.2.2 (by simp [Value.oneCell']) (by decide) (by decide) (by simp) ?_; intro v8 w8 hown8 hgrow8 hnil; clear hnil)
  go_ret
  exact ⟨_, rfl, set1_of (by simpa using hown8), keeps_own H0.out.2.1 hgrow8 (fun q hq => (World.ownsRow.lt H0.out.1 q hq).1)⟩
end Go.Proofs.YtpopeeiiblhbeaaDoor
