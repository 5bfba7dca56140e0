/-
  DiskPlays: one fault more on the document's disk.
-/
import Derived.Test.YthcdodjdlgeeoaaDiskDoesR
import Derived.Test.YthcdodjdlgeeoaaDoesArm
import Derived.ChangeAlike
import Derived.RegionTactic
namespace Go.Proofs.Ythcdodjdlgeeoaa
open Go Go.RowKit Go.ChangeShapes Go.WideShapes Go.Deep

set_option linter.unusedSimpArgs false in
set_option maxRecDepth 100000 in
set_option maxHeartbeats 1000000 in
theorem armD_full (w : World) (v : Value) (L : List (ByteArray × Ob)) (room : Int) (Q : List (Int × Bool)) (hx : RefD w v L room Q) (h16 : 16 ≤ Q.length) (ak an : Int) (aa ab : ByteArray) (ad : Bool) (co : Option Addr) (cn cc : Nat) :
    Calls Try.prog 66 #[v, .agg #[.int .i64 ak, .int .i64 an, .string aa, .string ab, .bool ad, .slice co cn cc], .int .i64 7] w fun e w' => ∃ x, e = .returned (.tuple #[x, .bool true]) ∧ RefD w' x L room Q ∧ Keeps [] w w' := by
  obtain ⟨a, ca, b, cb, rfl⟩ := hx.form
  have H := Lib.hid hx
  clear hx
  have h16' : decide (16 ≤ (Q.length : Int)) = true := by rw [decide_eq_true_eq]; omega
  clear h16
  go_enter Try.func66, Try.ntmps66
  go_upto_region 2 with fail
  have hk3 : Keeps [] w (((w.alloc (.cells #[.slice a L.length ca, .int .i64 room, .slice b Q.length cb] 96)).alloc (.cells #[.int .i64 ak, .int .i64 an, .string aa, .string ab, .bool ad, .slice co cn cc] 70)).alloc (.cells #[.slice none 0 0, .int .i64 0, .slice none 0 0] 96)) := (((Keeps.refl [] w).alloc _).alloc _).alloc _
  obtain ⟨q0, q1, q2⟩ := new3 w (.cells #[.slice a L.length ca, .int .i64 room, .slice b Q.length cb] 96) (.cells #[.int .i64 ak, .int .i64 an, .string aa, .string ab, .bool ad, .slice co cn cc] 70) (.cells #[.slice none 0 0, .int .i64 0, .slice none 0 0] 96)
  generalize (((w.alloc (.cells #[.slice a L.length ca, .int .i64 room, .slice b Q.length cb] 96)).alloc (.cells #[.int .i64 ak, .int .i64 an, .string aa, .string ab, .bool ad, .slice co cn cc] 70)).alloc (.cells #[.slice none 0 0, .int .i64 0, .slice none 0 0] 96)) = W3 at hk3 q0 q1 q2 ⊢
  have c0 := cells_at q0
  have c2 := cells_at q2
  have f2 := free_at q2
  have l0 := lt_of_at q0
  have l2 := lt_of_at q2
  have kq : Keeps [w.heap.size + 1 + 1] W3 (((W3.setCell ⟨w.heap.size + 1 + 1, 0, none⟩ (.slice a L.length ca)).setCell ⟨w.heap.size + 1 + 1, 1, none⟩ (.int .i64 room)).setCell ⟨w.heap.size + 1 + 1, 2, none⟩ (.slice b Q.length cb)) := (((Keeps.refl _ _).setCell (.inl (by simp)) _).setCell (.inl (by simp)) _).setCell (.inl (by simp)) _
  have hx7 := (H.out.keep hk3).step ⟨_, _, _, _, _, _, _, q2⟩ kq
  have r7 := heap_cell_same (i := 2) (heap_cell_same (i := 1) (heap_cell_same (i := 0) q2 (.slice a L.length ca)) (.int .i64 room)) (.slice b Q.length cb)
  have hk07 : Keeps [] w _ := hk3.after kq (fun q hq => .inr (by simp only [List.mem_singleton] at hq; omega))
  have Hf := Lib.hid (And.intro hx7 (And.intro r7 hk07))
  clear kq hx7 r7 hk07 q0 q1 q2 hk3
  go_region
  go_wp2_with fail
  have hc := cells_at Hf.out.2.1
  refine bodyPost_ret (v := .tuple #[.agg #[.slice a L.length ca, .int .i64 room, .slice b Q.length cb], .bool true]) ?_ rfl ?_
  · simp [results, Try.results66, go_sem, hc, l2]
  · exact ⟨_, rfl, Hf.out.1.keep (Keeps.refl [] _).drew, Hf.out.2.2.drew⟩

theorem armD_end {w W3 w6 : World} {Q : List (Int × Bool)} {L : List (ByteArray × Ob)} {room : Int} {a b ao6 : Option Addr} {ca cb cp6 : Nat} {p : Int × Bool}
    (q0 : W3.heap[w.heap.size]? = some (.cells #[.slice a L.length ca, .int .i64 room, .slice b Q.length cb] 96 (0, 0))) (q2 : W3.heap[w.heap.size + 1 + 1]? = some (.cells #[.slice none 0 0, .int .i64 0, .slice none 0 0] 96 (0, 0)))
    (hk03 : Keeps [] w W3) (hX : RefD W3 (.agg #[.slice a L.length ca, .int .i64 room, .slice b Q.length cb]) L room Q) (hk6 : Keeps [] W3 w6)
    (hown : w6.ownsRow W3.heap.size 72 2 (.slice ao6 (Q.length + 1) cp6) (Q.length + 1) (Q.flatMap encFo ++ [.int .i64 p.1, .bool p.2])) :
    (w6.setCell ⟨w.heap.size, 2, none⟩ (.slice ao6 (Q.length + 1) cp6)).heap[w.heap.size]? = some (.cells #[.slice a L.length ca, .int .i64 room, .slice ao6 (Q.length + 1) cp6] 96 (0, 0)) ∧
    (w6.setCell ⟨w.heap.size, 2, none⟩ (.slice ao6 (Q.length + 1) cp6)).heap[w.heap.size + 1 + 1]? = some (.cells #[.slice none 0 0, .int .i64 0, .slice none 0 0] 96 (0, 0)) ∧
    Keeps [] w (w6.setCell ⟨w.heap.size, 2, none⟩ (.slice ao6 (Q.length + 1) cp6)) ∧
    RefD (w6.setCell ⟨w.heap.size, 2, none⟩ (.slice ao6 (Q.length + 1) cp6)) (.agg #[.slice a L.length ca, .int .i64 room, .slice ao6 (Q.length + 1) cp6]) L room (Q ++ [p]) := by
  have q6 := hk6.at_ q0 (by simp)
  have q62 := hk6.at_ q2 (by simp)
  have h1 := heap_cell_same (i := 2) q6 (.slice ao6 (Q.length + 1) cp6)
  have hkw : Keeps [w.heap.size] w6 (w6.setCell ⟨w.heap.size, 2, none⟩ (.slice ao6 (Q.length + 1) cp6)) := (Keeps.refl _ _).setCell (.inl (by simp)) _
  obtain ⟨sx, sf, he, hx, _, _⟩ := hX
  injection he with he
  simp only [Array.mk.injEq, List.cons.injEq, and_true, true_and] at he
  obtain ⟨rfl, rfl⟩ := he
  have hF : w6.ownsRow W3.heap.size 72 2 (.slice ao6 (Q ++ [p]).length cp6) (Q ++ [p]).length ((Q ++ [p]).flatMap encFo) := by simpa [encFo] using hown
  have hR : RefD w6 (.agg #[.slice a L.length ca, .int .i64 room, .slice ao6 (Q.length + 1) cp6]) L room (Q ++ [p]) := by
    have he : (Q ++ [p]).length = Q.length + 1 := by simp
    rw [← he]
    exact ⟨_, _, rfl, hx.keep hk6, slOk_row hF, arg_of_row (fun _ => rfl) hF, typed_row hF⟩
  exact ⟨h1, (heap_cell_other (p := ⟨w.heap.size, 2, none⟩) _ (by simp only; omega)).trans q62, (hk03.trans hk6).setCell (.inr (Nat.le_refl _)) _, hR.step ⟨_, _, _, _, _, _, _, q6⟩ hkw⟩

set_option linter.unusedSimpArgs false in
set_option maxRecDepth 100000 in
set_option maxHeartbeats 2000000 in
theorem armD_more (w : World) (v : Value) (L : List (ByteArray × Ob)) (room : Int) (Q : List (Int × Bool)) (hQ : Q.length ≤ 17) (hx : RefD w v L room Q) (h16 : Q.length ≤ 16) (ak an : Int) (aa ab : ByteArray) (ad : Bool) (co : Option Addr) (cn cc : Nat) :
    Calls Try.prog 66 #[v, .agg #[.int .i64 ak, .int .i64 an, .string aa, .string ab, .bool ad, .slice co cn cc], .int .i64 0] w fun e w' => ∃ x, e = .returned (.tuple #[x, .bool true]) ∧ RefD w' x L room (Q ++ [(max an 0, ad)]) ∧ Keeps [] w w' := by
  obtain ⟨a, ca, b, cb, rfl⟩ := hx.form
  have H := Lib.hid hx
  clear hx
  have h16' : decide ((Q.length : Int) + 1 ≤ 17) = true := by rw [decide_eq_true_eq]; omega
  go_enter Try.func66, Try.ntmps66
  go_upto_region 3 with fail
  have hk3 : Keeps [] w (((w.alloc (.cells #[.slice a L.length ca, .int .i64 room, .slice b Q.length cb] 96)).alloc (.cells #[.int .i64 ak, .int .i64 an, .string aa, .string ab, .bool ad, .slice co cn cc] 70)).alloc (.cells #[.slice none 0 0, .int .i64 0, .slice none 0 0] 96)) := (((Keeps.refl [] w).alloc _).alloc _).alloc _
  obtain ⟨q0, q1, q2⟩ := new3 w (.cells #[.slice a L.length ca, .int .i64 room, .slice b Q.length cb] 96) (.cells #[.int .i64 ak, .int .i64 an, .string aa, .string ab, .bool ad, .slice co cn cc] 70) (.cells #[.slice none 0 0, .int .i64 0, .slice none 0 0] 96)
  generalize (((w.alloc (.cells #[.slice a L.length ca, .int .i64 room, .slice b Q.length cb] 96)).alloc (.cells #[.int .i64 ak, .int .i64 an, .string aa, .string ab, .bool ad, .slice co cn cc] 70)).alloc (.cells #[.slice none 0 0, .int .i64 0, .slice none 0 0] 96)) = W3 at hk3 q0 q1 q2 ⊢
  have c0 := cells_at q0
  have c1 := cells_at q1
  have f0 := free_at q0
  have l0 := lt_of_at q0
  have l1 := lt_of_at q1
  have hX3 := H.out.keep hk3
  have Hq := Lib.hid (And.intro q0 (And.intro q2 (And.intro hk3 hX3)))
  obtain ⟨ii, hii, hz0, hz1, hz2⟩ := info_parts infoFault
  obtain ⟨_, _, hxe, _, hok, hfa, _⟩ := hX3
  injection hxe with hxe
  simp only [Array.mk.injEq, List.cons.injEq, and_true, true_and] at hxe
  obtain ⟨rfl, rfl⟩ := hxe
  have Hok := Lib.hid hok
  have Hu : Hid (∀ W, Keeps [] W3 W → SliceArg 2 encFo W (.slice b Q.length cb) Q) := Lib.hid fun W k => hfa.keep k
  have Hown : Hid (∀ (W : World) (g : Nat), W3.heap.size ≤ g → W.heap[g]? = some (.cells #[] 72 (0, 0)) → W.ownsRow W3.heap.size 72 2 (.slice (some ⟨g, 0, none⟩) 0 0) 0 []) := by
    apply Lib.hid
    intro W g hg hh
    exact ⟨rfl, .inr ⟨g, 0, #[], rfl, hg, hh, Nat.le_refl _, by simp [maxLen], rfl, rfl⟩⟩
  clear hok hfa hk3 q0 q1 q2
  have d0 : W3.cell? ⟨w.heap.size, 2, none⟩ = some (.slice b Q.length cb) := by rw [c0]; rfl
  have d1 : W3.cell? ⟨w.heap.size + 1, 1, none⟩ = some (.int .i64 an) := by rw [c1]; rfl
  have d2 : W3.cell? ⟨w.heap.size + 1, 4, none⟩ = some (.bool ad) := by rw [c1]; rfl
  clear c0 c1
  refine wp_region_last_n 15 (fun w' => w'.cell? ⟨w.heap.size, 2, none⟩ = some (.slice b Q.length cb) ∧ w'.cell? ⟨w.heap.size + 1, 1, none⟩ = some (.int .i64 an) ∧ w'.cell? ⟨w.heap.size + 1, 4, none⟩ = some (.bool ad)) (by kernel_rfl) (by kernel_rfl) (by kernel_rfl) ?_
  have hS : (fun w' => w'.cell? ⟨w.heap.size, 2, none⟩ = some (.slice b Q.length cb) ∧ w'.cell? ⟨w.heap.size + 1, 1, none⟩ = some (.int .i64 an) ∧ w'.cell? ⟨w.heap.size + 1, 4, none⟩ = some (.bool ad)) W3.drew := ⟨d0, d1, d2⟩
  simp only [List.take_succ_cons, List.take_zero, List.toList_toArray]
  refine wpAnyH_take (i := 1) (v := ?_) rfl (by kernel_rfl) (by kernel_rfl) (by kernel_rfl) (fun _ _ _ h => h) (Or.inl ⟨by rfl, ?_⟩) (by assumption) ?_
  rotate_left
  · intro w' hSw; obtain ⟨s1, s2, s3⟩ := hSw; go_simp; (try with_reducible rfl)
  simp only [Act.put, List.getElem_toArray, List.getElem_cons_succ, List.getElem_cons_zero, List.setIfInBounds_toArray, List.set_cons_zero, List.set_cons_succ]
  refine wpAnyH_take (i := 2) (v := ?_) rfl (by kernel_rfl) (by kernel_rfl) (by kernel_rfl) (fun _ _ _ h => h) (Or.inl ⟨by rfl, ?_⟩) (by assumption) ?_
  rotate_left
  · intro w' hSw; obtain ⟨s1, s2, s3⟩ := hSw; go_simp; (try with_reducible rfl)
  simp only [Act.put, List.getElem_toArray, List.getElem_cons_succ, List.getElem_cons_zero, List.setIfInBounds_toArray, List.set_cons_zero, List.set_cons_succ]
  refine wpAnyH_take (i := 3) (v := ?_) rfl (by kernel_rfl) (by kernel_rfl) (by kernel_rfl) (fun _ _ _ h => h) (Or.inl ⟨by rfl, ?_⟩) (by assumption) ?_
  rotate_left
  · intro w' hSw; obtain ⟨s1, s2, s3⟩ := hSw; go_simp; (try with_reducible rfl)
  simp only [Act.put, List.getElem_toArray, List.getElem_cons_succ, List.getElem_cons_zero, List.setIfInBounds_toArray, List.set_cons_zero, List.set_cons_succ]
  refine wpAnyH_take (i := 5) (v := ?_) rfl (by kernel_rfl) (by kernel_rfl) (by kernel_rfl) (fun _ _ _ h => h) (Or.inl ⟨by rfl, ?_⟩) (by assumption) ?_
  rotate_left
  · intro w' hSw; obtain ⟨s1, s2, s3⟩ := hSw; go_simp; (try with_reducible rfl)
  simp only [Act.put, List.getElem_toArray, List.getElem_cons_succ, List.getElem_cons_zero, List.setIfInBounds_toArray, List.set_cons_zero, List.set_cons_succ]
  refine wpAnyH_take (i := 6) (v := ?_) rfl (by kernel_rfl) (by kernel_rfl) (by kernel_rfl) (fun _ _ _ h => h) (Or.inl ⟨by rfl, ?_⟩) (by assumption) ?_
  rotate_left
  · intro w' hSw; obtain ⟨s1, s2, s3⟩ := hSw; go_simp; (try with_reducible rfl)
  simp only [Act.put, List.getElem_toArray, List.getElem_cons_succ, List.getElem_cons_zero, List.setIfInBounds_toArray, List.set_cons_zero, List.set_cons_succ]
  refine wpAnyH_take (i := 8) (v := ?_) rfl (by kernel_rfl) (by kernel_rfl) (by kernel_rfl) (fun _ _ _ h => h) (Or.inl ⟨by rfl, ?_⟩) (by assumption) ?_
  rotate_left
  · intro w' hSw; obtain ⟨s1, s2, s3⟩ := hSw; go_simp; (try with_reducible rfl)
  simp only [Act.put, List.getElem_toArray, List.getElem_cons_succ, List.getElem_cons_zero, List.setIfInBounds_toArray, List.set_cons_zero, List.set_cons_succ]
  refine wpAnyH_take (i := 9) (v := ?_) rfl (by kernel_rfl) (by kernel_rfl) (by kernel_rfl) (fun _ _ _ h => h) (Or.inl ⟨by rfl, ?_⟩) (by assumption) ?_
  rotate_left
  · intro w' hSw; obtain ⟨s1, s2, s3⟩ := hSw; go_simp; (try with_reducible rfl)
  simp only [Act.put, List.getElem_toArray, List.getElem_cons_succ, List.getElem_cons_zero, List.setIfInBounds_toArray, List.set_cons_zero, List.set_cons_succ]
  refine wpAnyH_take (i := 7) (v := ?_) rfl (by kernel_rfl) (by kernel_rfl) (by kernel_rfl) (fun _ _ _ h => h) (Or.inl ⟨by rfl, ?_⟩) (by assumption) ?_
  rotate_left
  · intro w' hSw; obtain ⟨s1, s2, s3⟩ := hSw; go_simp; (try with_reducible rfl)
  simp only [Act.put, List.getElem_toArray, List.getElem_cons_succ, List.getElem_cons_zero, List.setIfInBounds_toArray, List.set_cons_zero, List.set_cons_succ]
  refine wpAnyH_take (i := 10) (v := ?_) rfl (by kernel_rfl) (by kernel_rfl) (by kernel_rfl) (fun _ _ _ h => h) (Or.inl ⟨by rfl, ?_⟩) (by assumption) ?_
  rotate_left
  · intro w' hSw; obtain ⟨s1, s2, s3⟩ := hSw; go_simp; (try with_reducible rfl)
  simp only [Act.put, List.getElem_toArray, List.getElem_cons_succ, List.getElem_cons_zero, List.setIfInBounds_toArray, List.set_cons_zero, List.set_cons_succ]
  refine wpAnyH_ready (rs := [0, 11]) (by kernel_rfl) (by simp) ?_
  refine AllReadyH.cons rfl (fun K hK => ?_) ?_
  · go_simp
    refine hK.out _ _ ⟨by go_keep, by go_keep, by go_keep⟩ (fun hS => ?_)
    clear hK K
    try simp only [Act.put, List.getElem_toArray, List.getElem_cons_succ, List.getElem_cons_zero, List.setIfInBounds_toArray, List.set_cons_zero, List.set_cons_succ]
    refine wpAnyH_ready (rs := [4, 11]) (by kernel_rfl) (by simp) ?_
    refine AllReadyH.cons rfl (fun K hK => ?_) ?_
    · refine step_append_arg rfl (.tmp 16) (.tmp 19) 56 rfl W3.heap.size 72 ii _ 2 16 Try.underlying56 hii hz0 hz1 hz2 rfl (by decide) (.slice (some ⟨W3.heap.size, 0, none⟩) 0 0) 0 [] (by rfl) (Hown.out _ _ (by omega) (by first | exact heap_new W3 _ | exact (new2 W3 _ _).1)) encFo (fun _ => rfl) Q (.slice b Q.length cb) (by rfl) Hok.out (Hu.out _ (by repeat (first | exact Keeps.refl _ _ | refine Keeps.drew ?_ | refine Keeps.alloc ?_ _))) (enc1 Q) (by simp only [maxLen]; omega) (by omega) (by first | (simp; done) | (simp; omega)) ?_; intro v5 w5 hown5 hgrow5; simp only [Nat.zero_add, List.nil_append] at hown5; have hkg := Keeps.of_grown (S := [W3.heap.size]) hgrow5 (fun q hq => .inl (by simp [Value.ownBlock] at hq; simp [hq])); have hk5 : Keeps [] W3 w5 := Keeps.after (by repeat (first | exact Keeps.refl _ _ | refine Keeps.drew ?_ | refine Keeps.alloc ?_ _)) hkg (by simp); (try have hn5 := hkg.at_ (new2 W3 _ (.cells #[.int .i64 (max an 0), .bool ad] 72)).2 (by simp)); have e0 := (hk5.cell l0 (by simp)).trans d0; have e1 := (hk5.cell l1 (by simp)).trans d1; have e2 := (hk5.cell l1 (by simp)).trans d2; have l50 := hk5.lt l0; have l51 := hk5.lt l1; clear hkg hgrow5
      refine hK.out _ _ ⟨e0, e1, e2⟩ (fun hS => ?_)
      clear hK K
      try simp only [Act.put, List.getElem_toArray, List.getElem_cons_succ, List.getElem_cons_zero, List.setIfInBounds_toArray, List.set_cons_zero, List.set_cons_succ]
      refine wpAnyH_ready (rs := [11]) (by kernel_rfl) (by simp) ?_
      refine AllReadyH.cons rfl (fun K hK => ?_) ?_
      · go_simp
        refine hK.out _ _ ⟨by go_keep, by go_keep, by go_keep⟩ (fun hS => ?_)
        clear hK K
        try simp only [Act.put, List.getElem_toArray, List.getElem_cons_succ, List.getElem_cons_zero, List.setIfInBounds_toArray, List.set_cons_zero, List.set_cons_succ]
        refine wpAnyH_ready (rs := [12]) (by kernel_rfl) (by simp) ?_
        refine AllReadyH.cons rfl (fun K hK => ?_) ?_
        · refine step_append_own rfl (.tmp 20) (.tmp 27) 56 rfl W3.heap.size 72 ii _ 2 16 Try.underlying56 hii hz0 hz1 hz2 rfl (by decide) v5 Q.length (Q.flatMap encFo) (by rfl) (by first | exact hown5 | exact hown5.alloc _) ⟨w5.heap.size, 0, none⟩ 1 1 [.int .i64 (max an 0), .bool ad] (by rfl) rfl (news_of (by first | exact heap_new w5 _ | exact hn5)) (by simp [Value.oneCell']) (by simp only [maxLen]; omega) (by omega) (by first | exact hk5.size | exact Nat.le_trans hk5.size (by simp)) ?_; intro v6 w6 hown6 hgrow6; obtain ⟨ao6, cp6, rfl, _⟩ := row_slice hown6; have hk6 : Keeps [] W3 w6 := Keeps.grown (by first | exact hk5 | exact hk5.alloc _) hgrow6 (fun q hq => .inr (hown5.lt q hq).1); have e0 := (hk6.cell l0 (by simp)).trans d0; have e1 := (hk6.cell l1 (by simp)).trans d1; have e2 := (hk6.cell l1 (by simp)).trans d2; have l60 := hk6.lt l0; have q6 := hk6.at_ Hq.out.1 (by simp); have f6 := free_at q6; clear hgrow6
          refine hK.out _ _ ⟨e0, e1, e2⟩ (fun hS => ?_)
          clear hK K
          try simp only [Act.put, List.getElem_toArray, List.getElem_cons_succ, List.getElem_cons_zero, List.setIfInBounds_toArray, List.set_cons_zero, List.set_cons_succ]
          refine wpAnyH_take (i := 13) (v := ?_) rfl (by kernel_rfl) (by kernel_rfl) (by kernel_rfl) (fun _ _ _ h => h) (Or.inl ⟨by rfl, ?_⟩) (by assumption) ?_
          rotate_left
          · intro w' hSw; obtain ⟨s1, s2, s3⟩ := hSw; go_simp; (try with_reducible rfl)
          try simp only [Act.put, List.getElem_toArray, List.getElem_cons_succ, List.getElem_cons_zero, List.setIfInBounds_toArray, List.set_cons_zero, List.set_cons_succ]
          refine wpAnyH_take (i := 14) (v := ?_) rfl (by kernel_rfl) (by kernel_rfl) (by kernel_rfl) (fun _ _ _ h => h) (Or.inl ⟨by rfl, ?_⟩) (by assumption) ?_
          rotate_left
          · intro w' hSw; obtain ⟨s1, s2, s3⟩ := hSw; go_simp; (try with_reducible rfl)
          try simp only [Act.put, List.getElem_toArray, List.getElem_cons_succ, List.getElem_cons_zero, List.setIfInBounds_toArray, List.set_cons_zero, List.set_cons_succ]
          refine wpAnyH_done (by kernel_rfl) ?_ _
          refine lastQ_step rfl (fun K hK => ?_)
          go_simp
          refine hK _ _ ?_
          clear hK K
          have Hend := Lib.hid (armD_end (p := (max an 0, ad)) Hq.out.1 Hq.out.2.1 Hq.out.2.2.1 Hq.out.2.2.2 hk6 hown6)
          clear hS e0 e1 e2 q6 f6 l60 hk6 hown6
          generalize w6.setCell ⟨w.heap.size, 2, none⟩ (.slice ao6 (Q.length + 1) cp6) = W7 at Hend ⊢
          obtain ⟨r0, r2, hk07, hx7⟩ := Hend.out
          have c0 := cells_at r0
          have c2 := cells_at r2
          have f2 := free_at r2
          have l0 := lt_of_at r0
          have l2 := lt_of_at r2
          have kq : Keeps [w.heap.size + 1 + 1] W7 (((W7.setCell ⟨w.heap.size + 1 + 1, 0, none⟩ (.slice a L.length ca)).setCell ⟨w.heap.size + 1 + 1, 1, none⟩ (.int .i64 room)).setCell ⟨w.heap.size + 1 + 1, 2, none⟩ (.slice ao6 (Q.length + 1) cp6)) := (((Keeps.refl _ _).setCell (.inl (by simp)) _).setCell (.inl (by simp)) _).setCell (.inl (by simp)) _
          have hx8 := hx7.step ⟨_, _, _, _, _, _, _, r2⟩ kq
          have r8 := heap_cell_same (i := 2) (heap_cell_same (i := 1) (heap_cell_same (i := 0) r2 (.slice a L.length ca)) (.int .i64 room)) (.slice ao6 (Q.length + 1) cp6)
          have hk08 : Keeps [] w _ := hk07.after kq (fun q hq => .inr (by simp only [List.mem_singleton] at hq; omega))
          have Hf := Lib.hid (And.intro hx8 (And.intro r8 hk08))
          clear kq hx8 r8 hk08 r0 r2 hk07 hx7 Hend
          go_upto_region 4 with fail
          go_region
          go_wp2_with fail
          have hc := cells_at Hf.out.2.1
          refine bodyPost_ret (v := .tuple #[.agg #[.slice a L.length ca, .int .i64 room, .slice ao6 (Q.length + 1) cp6], .bool true]) ?_ rfl ?_
          · simp [results, Try.results66, go_sem, hc, l2]
          · exact ⟨_, rfl, Hf.out.1.keep (Keeps.refl [] _).drew, Hf.out.2.2.drew⟩
        exact AllReadyH.nil
      exact AllReadyH.nil
    refine AllReadyH.cons rfl (fun K hK => ?_) ?_
    · go_simp
      refine hK.out _ _ ⟨by go_keep, by go_keep, by go_keep⟩ (fun hS => ?_)
      clear hK K
      try simp only [Act.put, List.getElem_toArray, List.getElem_cons_succ, List.getElem_cons_zero, List.setIfInBounds_toArray, List.set_cons_zero, List.set_cons_succ]
      refine wpAnyH_ready (rs := [4]) (by kernel_rfl) (by simp) ?_
      refine AllReadyH.cons rfl (fun K hK => ?_) ?_
      · refine step_append_arg rfl (.tmp 16) (.tmp 19) 56 rfl W3.heap.size 72 ii _ 2 16 Try.underlying56 hii hz0 hz1 hz2 rfl (by decide) (.slice (some ⟨W3.heap.size, 0, none⟩) 0 0) 0 [] (by rfl) (Hown.out _ _ (by omega) (by first | exact heap_new W3 _ | exact (new2 W3 _ _).1)) encFo (fun _ => rfl) Q (.slice b Q.length cb) (by rfl) Hok.out (Hu.out _ (by repeat (first | exact Keeps.refl _ _ | refine Keeps.drew ?_ | refine Keeps.alloc ?_ _))) (enc1 Q) (by simp only [maxLen]; omega) (by omega) (by first | (simp; done) | (simp; omega)) ?_; intro v5 w5 hown5 hgrow5; simp only [Nat.zero_add, List.nil_append] at hown5; have hkg := Keeps.of_grown (S := [W3.heap.size]) hgrow5 (fun q hq => .inl (by simp [Value.ownBlock] at hq; simp [hq])); have hk5 : Keeps [] W3 w5 := Keeps.after (by repeat (first | exact Keeps.refl _ _ | refine Keeps.drew ?_ | refine Keeps.alloc ?_ _)) hkg (by simp); (try have hn5 := hkg.at_ (new2 W3 _ (.cells #[.int .i64 (max an 0), .bool ad] 72)).2 (by simp)); have e0 := (hk5.cell l0 (by simp)).trans d0; have e1 := (hk5.cell l1 (by simp)).trans d1; have e2 := (hk5.cell l1 (by simp)).trans d2; have l50 := hk5.lt l0; have l51 := hk5.lt l1; clear hkg hgrow5
        refine hK.out _ _ ⟨e0, e1, e2⟩ (fun hS => ?_)
        clear hK K
        try simp only [Act.put, List.getElem_toArray, List.getElem_cons_succ, List.getElem_cons_zero, List.setIfInBounds_toArray, List.set_cons_zero, List.set_cons_succ]
        refine wpAnyH_ready (rs := [12]) (by kernel_rfl) (by simp) ?_
        refine AllReadyH.cons rfl (fun K hK => ?_) ?_
        · refine step_append_own rfl (.tmp 20) (.tmp 27) 56 rfl W3.heap.size 72 ii _ 2 16 Try.underlying56 hii hz0 hz1 hz2 rfl (by decide) v5 Q.length (Q.flatMap encFo) (by rfl) (by first | exact hown5 | exact hown5.alloc _) ⟨W3.heap.size + 1, 0, none⟩ 1 1 [.int .i64 (max an 0), .bool ad] (by rfl) rfl (news_of (by first | exact heap_new w5 _ | exact hn5)) (by simp [Value.oneCell']) (by simp only [maxLen]; omega) (by omega) (by first | exact hk5.size | exact Nat.le_trans hk5.size (by simp)) ?_; intro v6 w6 hown6 hgrow6; obtain ⟨ao6, cp6, rfl, _⟩ := row_slice hown6; have hk6 : Keeps [] W3 w6 := Keeps.grown (by first | exact hk5 | exact hk5.alloc _) hgrow6 (fun q hq => .inr (hown5.lt q hq).1); have e0 := (hk6.cell l0 (by simp)).trans d0; have e1 := (hk6.cell l1 (by simp)).trans d1; have e2 := (hk6.cell l1 (by simp)).trans d2; have l60 := hk6.lt l0; have q6 := hk6.at_ Hq.out.1 (by simp); have f6 := free_at q6; clear hgrow6
          refine hK.out _ _ ⟨e0, e1, e2⟩ (fun hS => ?_)
          clear hK K
          try simp only [Act.put, List.getElem_toArray, List.getElem_cons_succ, List.getElem_cons_zero, List.setIfInBounds_toArray, List.set_cons_zero, List.set_cons_succ]
          refine wpAnyH_take (i := 13) (v := ?_) rfl (by kernel_rfl) (by kernel_rfl) (by kernel_rfl) (fun _ _ _ h => h) (Or.inl ⟨by rfl, ?_⟩) (by assumption) ?_
          rotate_left
          · intro w' hSw; obtain ⟨s1, s2, s3⟩ := hSw; go_simp; (try with_reducible rfl)
          try simp only [Act.put, List.getElem_toArray, List.getElem_cons_succ, List.getElem_cons_zero, List.setIfInBounds_toArray, List.set_cons_zero, List.set_cons_succ]
          refine wpAnyH_take (i := 14) (v := ?_) rfl (by kernel_rfl) (by kernel_rfl) (by kernel_rfl) (fun _ _ _ h => h) (Or.inl ⟨by rfl, ?_⟩) (by assumption) ?_
          rotate_left
          · intro w' hSw; obtain ⟨s1, s2, s3⟩ := hSw; go_simp; (try with_reducible rfl)
          try simp only [Act.put, List.getElem_toArray, List.getElem_cons_succ, List.getElem_cons_zero, List.setIfInBounds_toArray, List.set_cons_zero, List.set_cons_succ]
          refine wpAnyH_done (by kernel_rfl) ?_ _
          refine lastQ_step rfl (fun K hK => ?_)
          go_simp
          refine hK _ _ ?_
          clear hK K
          have Hend := Lib.hid (armD_end (p := (max an 0, ad)) Hq.out.1 Hq.out.2.1 Hq.out.2.2.1 Hq.out.2.2.2 hk6 hown6)
          clear hS e0 e1 e2 q6 f6 l60 hk6 hown6
          generalize w6.setCell ⟨w.heap.size, 2, none⟩ (.slice ao6 (Q.length + 1) cp6) = W7 at Hend ⊢
          obtain ⟨r0, r2, hk07, hx7⟩ := Hend.out
          have c0 := cells_at r0
          have c2 := cells_at r2
          have f2 := free_at r2
          have l0 := lt_of_at r0
          have l2 := lt_of_at r2
          have kq : Keeps [w.heap.size + 1 + 1] W7 (((W7.setCell ⟨w.heap.size + 1 + 1, 0, none⟩ (.slice a L.length ca)).setCell ⟨w.heap.size + 1 + 1, 1, none⟩ (.int .i64 room)).setCell ⟨w.heap.size + 1 + 1, 2, none⟩ (.slice ao6 (Q.length + 1) cp6)) := (((Keeps.refl _ _).setCell (.inl (by simp)) _).setCell (.inl (by simp)) _).setCell (.inl (by simp)) _
          have hx8 := hx7.step ⟨_, _, _, _, _, _, _, r2⟩ kq
          have r8 := heap_cell_same (i := 2) (heap_cell_same (i := 1) (heap_cell_same (i := 0) r2 (.slice a L.length ca)) (.int .i64 room)) (.slice ao6 (Q.length + 1) cp6)
          have hk08 : Keeps [] w _ := hk07.after kq (fun q hq => .inr (by simp only [List.mem_singleton] at hq; omega))
          have Hf := Lib.hid (And.intro hx8 (And.intro r8 hk08))
          clear kq hx8 r8 hk08 r0 r2 hk07 hx7 Hend
          go_upto_region 4 with fail
          go_region
          go_wp2_with fail
          have hc := cells_at Hf.out.2.1
          refine bodyPost_ret (v := .tuple #[.agg #[.slice a L.length ca, .int .i64 room, .slice ao6 (Q.length + 1) cp6], .bool true]) ?_ rfl ?_
          · simp [results, Try.results66, go_sem, hc, l2]
          · exact ⟨_, rfl, Hf.out.1.keep (Keeps.refl [] _).drew, Hf.out.2.2.drew⟩
        exact AllReadyH.nil
      exact AllReadyH.nil
    exact AllReadyH.nil
  refine AllReadyH.cons rfl (fun K hK => ?_) ?_
  · go_simp
    refine hK.out _ _ ⟨by go_keep, by go_keep, by go_keep⟩ (fun hS => ?_)
    clear hK K
    try simp only [Act.put, List.getElem_toArray, List.getElem_cons_succ, List.getElem_cons_zero, List.setIfInBounds_toArray, List.set_cons_zero, List.set_cons_succ]
    refine wpAnyH_ready (rs := [0]) (by kernel_rfl) (by simp) ?_
    refine AllReadyH.cons rfl (fun K hK => ?_) ?_
    · go_simp
      refine hK.out _ _ ⟨by go_keep, by go_keep, by go_keep⟩ (fun hS => ?_)
      clear hK K
      try simp only [Act.put, List.getElem_toArray, List.getElem_cons_succ, List.getElem_cons_zero, List.setIfInBounds_toArray, List.set_cons_zero, List.set_cons_succ]
      refine wpAnyH_ready (rs := [4]) (by kernel_rfl) (by simp) ?_
      refine AllReadyH.cons rfl (fun K hK => ?_) ?_
      · refine step_append_arg rfl (.tmp 16) (.tmp 19) 56 rfl W3.heap.size 72 ii _ 2 16 Try.underlying56 hii hz0 hz1 hz2 rfl (by decide) (.slice (some ⟨W3.heap.size + 1, 0, none⟩) 0 0) 0 [] (by rfl) (Hown.out _ _ (by omega) (by exact (new2 W3 _ _).2)) encFo (fun _ => rfl) Q (.slice b Q.length cb) (by rfl) Hok.out (Hu.out _ (by repeat (first | exact Keeps.refl _ _ | refine Keeps.drew ?_ | refine Keeps.alloc ?_ _))) (enc1 Q) (by simp only [maxLen]; omega) (by omega) (by first | (simp; done) | (simp; omega)) ?_; intro v5 w5 hown5 hgrow5; simp only [Nat.zero_add, List.nil_append] at hown5; have hkg := Keeps.of_grown (S := [W3.heap.size + 1]) hgrow5 (fun q hq => .inl (by simp [Value.ownBlock] at hq; simp [hq])); have hk5 : Keeps [] W3 w5 := Keeps.after (by repeat (first | exact Keeps.refl _ _ | refine Keeps.drew ?_ | refine Keeps.alloc ?_ _)) hkg (by simp); (try have hn5 := hkg.at_ (new2 W3 (.cells #[.int .i64 (max an 0), .bool ad] 72) _).1 (by simp)); have e0 := (hk5.cell l0 (by simp)).trans d0; have e1 := (hk5.cell l1 (by simp)).trans d1; have e2 := (hk5.cell l1 (by simp)).trans d2; have l50 := hk5.lt l0; have l51 := hk5.lt l1; clear hkg hgrow5
        refine hK.out _ _ ⟨e0, e1, e2⟩ (fun hS => ?_)
        clear hK K
        try simp only [Act.put, List.getElem_toArray, List.getElem_cons_succ, List.getElem_cons_zero, List.setIfInBounds_toArray, List.set_cons_zero, List.set_cons_succ]
        refine wpAnyH_ready (rs := [12]) (by kernel_rfl) (by simp) ?_
        refine AllReadyH.cons rfl (fun K hK => ?_) ?_
        · refine step_append_own rfl (.tmp 20) (.tmp 27) 56 rfl W3.heap.size 72 ii _ 2 16 Try.underlying56 hii hz0 hz1 hz2 rfl (by decide) v5 Q.length (Q.flatMap encFo) (by rfl) (by first | exact hown5 | exact hown5.alloc _) ⟨W3.heap.size, 0, none⟩ 1 1 [.int .i64 (max an 0), .bool ad] (by rfl) rfl (news_of (by first | exact heap_new w5 _ | exact hn5)) (by simp [Value.oneCell']) (by simp only [maxLen]; omega) (by omega) (by first | exact hk5.size | exact Nat.le_trans hk5.size (by simp)) ?_; intro v6 w6 hown6 hgrow6; obtain ⟨ao6, cp6, rfl, _⟩ := row_slice hown6; have hk6 : Keeps [] W3 w6 := Keeps.grown (by first | exact hk5 | exact hk5.alloc _) hgrow6 (fun q hq => .inr (hown5.lt q hq).1); have e0 := (hk6.cell l0 (by simp)).trans d0; have e1 := (hk6.cell l1 (by simp)).trans d1; have e2 := (hk6.cell l1 (by simp)).trans d2; have l60 := hk6.lt l0; have q6 := hk6.at_ Hq.out.1 (by simp); have f6 := free_at q6; clear hgrow6
          refine hK.out _ _ ⟨e0, e1, e2⟩ (fun hS => ?_)
          clear hK K
          try simp only [Act.put, List.getElem_toArray, List.getElem_cons_succ, List.getElem_cons_zero, List.setIfInBounds_toArray, List.set_cons_zero, List.set_cons_succ]
          refine wpAnyH_take (i := 13) (v := ?_) rfl (by kernel_rfl) (by kernel_rfl) (by kernel_rfl) (fun _ _ _ h => h) (Or.inl ⟨by rfl, ?_⟩) (by assumption) ?_
          rotate_left
          · intro w' hSw; obtain ⟨s1, s2, s3⟩ := hSw; go_simp; (try with_reducible rfl)
          try simp only [Act.put, List.getElem_toArray, List.getElem_cons_succ, List.getElem_cons_zero, List.setIfInBounds_toArray, List.set_cons_zero, List.set_cons_succ]
          refine wpAnyH_take (i := 14) (v := ?_) rfl (by kernel_rfl) (by kernel_rfl) (by kernel_rfl) (fun _ _ _ h => h) (Or.inl ⟨by rfl, ?_⟩) (by assumption) ?_
          rotate_left
          · intro w' hSw; obtain ⟨s1, s2, s3⟩ := hSw; go_simp; (try with_reducible rfl)
          try simp only [Act.put, List.getElem_toArray, List.getElem_cons_succ, List.getElem_cons_zero, List.setIfInBounds_toArray, List.set_cons_zero, List.set_cons_succ]
          refine wpAnyH_done (by kernel_rfl) ?_ _
          refine lastQ_step rfl (fun K hK => ?_)
          go_simp
          refine hK _ _ ?_
          clear hK K
          have Hend := Lib.hid (armD_end (p := (max an 0, ad)) Hq.out.1 Hq.out.2.1 Hq.out.2.2.1 Hq.out.2.2.2 hk6 hown6)
          clear hS e0 e1 e2 q6 f6 l60 hk6 hown6
          generalize w6.setCell ⟨w.heap.size, 2, none⟩ (.slice ao6 (Q.length + 1) cp6) = W7 at Hend ⊢
          obtain ⟨r0, r2, hk07, hx7⟩ := Hend.out
          have c0 := cells_at r0
          have c2 := cells_at r2
          have f2 := free_at r2
          have l0 := lt_of_at r0
          have l2 := lt_of_at r2
          have kq : Keeps [w.heap.size + 1 + 1] W7 (((W7.setCell ⟨w.heap.size + 1 + 1, 0, none⟩ (.slice a L.length ca)).setCell ⟨w.heap.size + 1 + 1, 1, none⟩ (.int .i64 room)).setCell ⟨w.heap.size + 1 + 1, 2, none⟩ (.slice ao6 (Q.length + 1) cp6)) := (((Keeps.refl _ _).setCell (.inl (by simp)) _).setCell (.inl (by simp)) _).setCell (.inl (by simp)) _
          have hx8 := hx7.step ⟨_, _, _, _, _, _, _, r2⟩ kq
          have r8 := heap_cell_same (i := 2) (heap_cell_same (i := 1) (heap_cell_same (i := 0) r2 (.slice a L.length ca)) (.int .i64 room)) (.slice ao6 (Q.length + 1) cp6)
          have hk08 : Keeps [] w _ := hk07.after kq (fun q hq => .inr (by simp only [List.mem_singleton] at hq; omega))
          have Hf := Lib.hid (And.intro hx8 (And.intro r8 hk08))
          clear kq hx8 r8 hk08 r0 r2 hk07 hx7 Hend
          go_upto_region 4 with fail
          go_region
          go_wp2_with fail
          have hc := cells_at Hf.out.2.1
          refine bodyPost_ret (v := .tuple #[.agg #[.slice a L.length ca, .int .i64 room, .slice ao6 (Q.length + 1) cp6], .bool true]) ?_ rfl ?_
          · simp [results, Try.results66, go_sem, hc, l2]
          · exact ⟨_, rfl, Hf.out.1.keep (Keeps.refl [] _).drew, Hf.out.2.2.drew⟩
        exact AllReadyH.nil
      exact AllReadyH.nil
    exact AllReadyH.nil
  exact AllReadyH.nil

end Go.Proofs.Ythcdodjdlgeeoaa
