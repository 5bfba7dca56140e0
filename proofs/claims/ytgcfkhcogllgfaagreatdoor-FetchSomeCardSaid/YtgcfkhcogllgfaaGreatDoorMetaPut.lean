/-
  A meta that may be as bytes (package meta): fields.
  The bytes ahead are few.

  A meta as bytes (package meta, Encode).
  The meta may be.
-/
import Derived.Test.YtgcfkhcogllgfaaGreatDoorTaker
import Derived.Test.YtgcfkhcogllgfaaGreatDoorLebLaw
namespace Go.Proofs.YtgcfkhcogllgfaaGreatDoor
set_option maxRecDepth 100000
set_option maxHeartbeats 1000000
set_option linter.unusedSimpArgs false
open Go Go.RowKit
def numsM (m : MetaS) : List Nat := [m.mn, m.mx, m.level, m.series, m.samples]
theorem metaL_eq (m : MetaS) : metaL m = textB m.id ++ ((numsM m).flatMap lebL ++ (m.files.flatMap fileL ++ (lebL m.sources.length ++ m.sources.flatMap textB))) := by
 unfold metaL numsM
 simp [List.append_assoc]
def PutRelM (l : List UInt8) (v : Value) (w1 : World) (F : Nat → List UInt8) (n gk : Nat) (vb u : Value) (wr : World) : Prop :=
 ∃ k, k ≤ n ∧ gk = n - k ∧ u = .int .i64 k ∧ Buf wr vb (l ++ F k) ∧ Turns v w1 vb wr
theorem flat_nextL {α : Type} (F : α → List UInt8) {L : List α} {k : Nat} (hk : k < L.length) : (L.take (k + 1)).flatMap F = (L.take k).flatMap F ++ F L[k] := by
 rw [List.take_succ_eq_append_getElem hk, List.flatMap_append]
 simp
theorem ix5_0 (a b c d e : Int) (w : World) : (Instr.index 203 (.agg #[.int .u64 a, .int .u64 b, .int .u64 c, .int .u64 d, .int .u64 e]) (.int .i64 0)).run Tryz.prog w = .ok (.int .u64 a) w := by kernel_rfl
theorem ix5_1 (a b c d e : Int) (w : World) : (Instr.index 203 (.agg #[.int .u64 a, .int .u64 b, .int .u64 c, .int .u64 d, .int .u64 e]) (.int .i64 1)).run Tryz.prog w = .ok (.int .u64 b) w := by kernel_rfl
theorem ix5_2 (a b c d e : Int) (w : World) : (Instr.index 203 (.agg #[.int .u64 a, .int .u64 b, .int .u64 c, .int .u64 d, .int .u64 e]) (.int .i64 2)).run Tryz.prog w = .ok (.int .u64 c) w := by kernel_rfl
theorem ix5_3 (a b c d e : Int) (w : World) : (Instr.index 203 (.agg #[.int .u64 a, .int .u64 b, .int .u64 c, .int .u64 d, .int .u64 e]) (.int .i64 3)).run Tryz.prog w = .ok (.int .u64 d) w := by kernel_rfl
theorem ix5_4 (a b c d e : Int) (w : World) : (Instr.index 203 (.agg #[.int .u64 a, .int .u64 b, .int .u64 c, .int .u64 d, .int .u64 e]) (.int .i64 4)).run Tryz.prog w = .ok (.int .u64 e) w := by kernel_rfl
theorem metaPut_spec (B : Nat) (w0 w : World) (vs : List Value) (m : MetaS) (v : Value) (l : List UInt8) (h : MetaV B w0 vs m) (ok : MetaOk m) (hk : Keeps [] w0 w) (hv : ∀ g, v.ownBlock = some g → w0.heap.size ≤ g) (hb : Buf w v l) (hl : l.length ≤ 1000000000) :
  Calls Tryz.prog 74 #[.agg vs.toArray, v] w (BufPost w v (l ++ metaL m)) := by
 obtain ⟨vf, vo, rfl, hf, ho⟩ := h
 obtain ⟨s1, c1, s2, c2, hfs, b1, b2, b3, b4⟩ := ok.files
 rw [hfs] at hf
 have Hf := Lib.hid hf
 have Ho := Lib.hid ho
 obtain ⟨af, cf, rfl, -, -, -, -⟩ := hf
 obtain ⟨ao, co, rfl, hno, -, -, -⟩ := ho
 unfold maxLen at hno
 have hll : [(chunksB, s1, c1), (indexB, s2, c2)].length = 2 := rfl
 rw [hll] at Hf ⊢
 clear hll
 have hidz := id16 ok.id
 obtain ⟨t1, t2⟩ := ok.time
 obtain ⟨t3, t4⟩ := ok.level
 obtain ⟨t5, t6⟩ := ok.samples
 have t7 := ok.few
 have e1 : IntKind.u64.wrap (m.mn : Int) = (m.mn : Int) := IntWalk.u64_in _ (by omega)
 have e2 : IntKind.u64.wrap (m.mx : Int) = (m.mx : Int) := IntWalk.u64_in _ (by omega)
 have e3 : IntKind.u64.wrap (m.level : Int) = (m.level : Int) := IntWalk.u64_in _ (by omega)
 have e4 : IntKind.u64.wrap (m.series : Int) = (m.series : Int) := IntWalk.u64_in _ (by omega)
 have e5 : IntKind.u64.wrap (m.samples : Int) = (m.samples : Int) := IntWalk.u64_in _ (by omega)
 have e6 : IntKind.u64.wrap (m.sources.length : Int) = (m.sources.length : Int) := IntWalk.u64_in _ (by omega)
 have hidl := textB_len (s := m.id) (by omega)
 have Hok := Lib.hid (And.intro ok hfs)
 have n0 := heap_new w (.cells #[.string m.id, .int .i64 m.mn, .int .i64 m.mx, .int .i64 m.level, .int .i64 m.series, .int .i64 m.samples, .slice af 2 cf, .slice ao m.sources.length co] 61)
 have k0 : Keeps [] w (w.alloc (.cells #[.string m.id, .int .i64 m.mn, .int .i64 m.mx, .int .i64 m.level, .int .i64 m.series, .int .i64 m.samples, .slice af 2 cf, .slice ao m.sources.length co] 61)) := (Keeps.refl [] w).alloc _
 have hbne : ∀ g, v.ownBlock = some g → g ≠ w.heap.size := fun g hg => by have := hb.lt g hg; omega
 have H0 := Lib.hid (And.intro n0 (And.intro k0 (And.intro (hk.trans k0) (And.intro hv (And.intro (hb.same k0) hbne)))))
 clear n0 k0 hk hv hb hbne ok hfs
 go_enter Tryz.func74, Tryz.ntmps74
 have nb0 := H0.out.1
 have cb0 := cells_at nb0
 have lb0 := lt_of_at nb0
 clear nb0
 go_wp2_with fail
 refine (text_spec _ v l m.id (by omega) H0.out.2.2.2.2.1).mono ?_
 rintro e w2 ⟨v2, rfl, hb2, ht2⟩
 have H2 := Lib.hid (And.intro hb2 ht2)
 have nb2 := (ht2.box H0.out.1 H0.out.2.2.2.2.2).1
 have cb2 := cells_at nb2
 have lb2 := lt_of_at nb2
 clear hb2 ht2 cb0 lb0 nb2
 go_wp2_with fail
 clear cb2 lb2
 go_loopg [1, 31] 5 (PutRelM l v (w.alloc (.cells #[.string m.id, .int .i64 m.mn, .int .i64 m.mx, .int .i64 m.level, .int .i64 m.series, .int .i64 m.samples, .slice af 2 cf, .slice ao m.sources.length co] 61)) (fun k => textB m.id ++ ((numsM m).take k).flatMap lebL) 5)
 case atStart => exact ⟨0, by decide, rfl, rfl, by unfold textB; simpa using H2.out.1, H2.out.2⟩
 case round =>
  obtain ⟨k, hk, hgk, rfl, hbk, hkT⟩ := hrel
  have Hg := Lib.hid hgk
  have Hk := Lib.hid (And.intro hbk hkT)
  clear hgk hbk hkT H2
  have hpl := flat_len_le lebL 10 ((numsM m).take k) (fun x hx => by
   refine lebL_len10 ?_
   have := List.mem_of_mem_take hx
   simp only [numsM, List.mem_cons, List.not_mem_nil, or_false] at this
   omega)
  have hpk : ((numsM m).take k).length ≤ 5 := by rw [List.length_take]; simp [numsM]; omega
  rcases (by omega : k = 0 ∨ k = 1 ∨ k = 2 ∨ k = 3 ∨ k = 4 ∨ k = 5) with rfl | rfl | rfl | rfl | rfl | rfl
  ·have hix := ix5_0 m.mn m.mx m.level m.series m.samples wr
   go_wp2_with fail
   refine (uint_spec _ u1 _ m.mn (by omega) (by simp only [List.length_append]; omega) Hk.out.1).mono ?_
   rintro e w3 ⟨v3, rfl, hb3, ht3⟩
   have H3 := Lib.hid (And.intro hb3 (Hk.out.2.trans ht3))
   clear hb3 ht3
   go_wp2_with fail
   go_roundg (5 - 1)
   case measure => have := Hg.out; omega
   case rel => exact ⟨1, by decide, rfl, rfl, by simpa [numsM, List.append_assoc] using H3.out.1, H3.out.2⟩
  ·have hix := ix5_1 m.mn m.mx m.level m.series m.samples wr
   go_wp2_with fail
   refine (uint_spec _ u1 _ m.mx (by omega) (by simp only [List.length_append]; omega) Hk.out.1).mono ?_
   rintro e w3 ⟨v3, rfl, hb3, ht3⟩
   have H3 := Lib.hid (And.intro hb3 (Hk.out.2.trans ht3))
   clear hb3 ht3
   go_wp2_with fail
   go_roundg (5 - 2)
   case measure => have := Hg.out; omega
   case rel => exact ⟨2, by decide, rfl, rfl, by simpa [numsM, List.append_assoc] using H3.out.1, H3.out.2⟩
  ·have hix := ix5_2 m.mn m.mx m.level m.series m.samples wr
   go_wp2_with fail
   refine (uint_spec _ u1 _ m.level (by omega) (by simp only [List.length_append]; omega) Hk.out.1).mono ?_
   rintro e w3 ⟨v3, rfl, hb3, ht3⟩
   have H3 := Lib.hid (And.intro hb3 (Hk.out.2.trans ht3))
   clear hb3 ht3
   go_wp2_with fail
   go_roundg (5 - 3)
   case measure => have := Hg.out; omega
   case rel => exact ⟨3, by decide, rfl, rfl, by simpa [numsM, List.append_assoc] using H3.out.1, H3.out.2⟩
  ·have hix := ix5_3 m.mn m.mx m.level m.series m.samples wr
   go_wp2_with fail
   refine (uint_spec _ u1 _ m.series (by omega) (by simp only [List.length_append]; omega) Hk.out.1).mono ?_
   rintro e w3 ⟨v3, rfl, hb3, ht3⟩
   have H3 := Lib.hid (And.intro hb3 (Hk.out.2.trans ht3))
   clear hb3 ht3
   go_wp2_with fail
   go_roundg (5 - 4)
   case measure => have := Hg.out; omega
   case rel => exact ⟨4, by decide, rfl, rfl, by simpa [numsM, List.append_assoc] using H3.out.1, H3.out.2⟩
  ·have hix := ix5_4 m.mn m.mx m.level m.series m.samples wr
   go_wp2_with fail
   refine (uint_spec _ u1 _ m.samples (by omega) (by simp only [List.length_append]; omega) Hk.out.1).mono ?_
   rintro e w3 ⟨v3, rfl, hb3, ht3⟩
   have H3 := Lib.hid (And.intro hb3 (Hk.out.2.trans ht3))
   clear hb3 ht3
   go_wp2_with fail
   go_roundg (5 - 5)
   case measure => have := Hg.out; omega
   case rel => exact ⟨5, by decide, rfl, rfl, by simpa [numsM, List.append_assoc] using H3.out.1, H3.out.2⟩
  ·have nb2 := (Hk.out.2.box H0.out.1 H0.out.2.2.2.2.2).1
   have cb2 := cells_at nb2
   have lb2 := lt_of_at nb2
   have hA0 : Buf wr u1 (l ++ (textB m.id ++ (numsM m).flatMap lebL)) := by simpa [numsM] using Hk.out.1
   obtain ⟨A1, hA1⟩ : ∃ A, A = l ++ (textB m.id ++ (numsM m).flatMap lebL) := ⟨_, rfl⟩
   have hA1l : A1.length ≤ 1000000100 := by
    have hx : (List.take 5 (numsM m)) = numsM m := rfl
    have hx5 : (numsM m).length = 5 := rfl
    rw [hx, hx5] at hpl
    rw [hA1]
    simp only [List.length_append]
    omega
   rw [← hA1] at hA0
   have HA := Lib.hid hA1
   have Hk2 := Lib.hid (And.intro hA0 Hk.out.2)
   clear hA0 hA1 nb2 hpl hpk Hk e1 e2 e3 e4 e5
   go_wp2_with fail
   clear cb2 lb2
   go_loopg [1, 41] 2 (PutRelM A1 v (w.alloc (.cells #[.string m.id, .int .i64 m.mn, .int .i64 m.mx, .int .i64 m.level, .int .i64 m.series, .int .i64 m.samples, .slice af 2 cf, .slice ao m.sources.length co] 61)) (fun k => ([(chunksB, s1, c1), (indexB, s2, c2)].take k).flatMap fileL) 2)
   case atStart => exact ⟨0, by decide, rfl, rfl, by simpa using Hk2.out.1, Hk2.out.2⟩
   case round =>
    obtain ⟨k, hk, hgk, rfl, hbf0, hkT⟩ := hrel
    have Hg := Lib.hid hgk
    clear hgk Hk2
    have hfl1 := fileL_len (f := (chunksB, s1, c1)) (by show chunksB.size < 1000000; decide) (by simp only; omega) (by simp only; omega)
    have hfl2 := fileL_len (f := (indexB, s2, c2)) (by show indexB.size < 1000000; decide) (by simp only; omega) (by simp only; omega)
    have zz1 : chunksB.size = 6 := rfl
    have zz2 : indexB.size = 5 := rfl
    simp only [zz1, zz2] at hfl1 hfl2
    have hACl : (A1 ++ ([(chunksB, s1, c1), (indexB, s2, c2)].take k).flatMap fileL).length ≤ 1000000200 := by
     rcases (by omega : k = 0 ∨ k = 1 ∨ k = 2) with rfl | rfl | rfl <;> simp <;> omega
    obtain ⟨ACC, hACC⟩ : ∃ A, A = A1 ++ ([(chunksB, s1, c1), (indexB, s2, c2)].take k).flatMap fileL := ⟨_, rfl⟩
    have hbf : Buf wr u1 (A1 ++ ([(chunksB, s1, c1), (indexB, s2, c2)].take k).flatMap fileL) := hbf0
    clear hbf0
    rw [← hACC] at hbf hACl
    have HACC := Lib.hid hACC
    clear hACC hfl1 hfl2 zz1 zz2
    rcases (by omega : k = 0 ∨ k = 1 ∨ k = 2) with rfl | rfl | rfl
    ·have nmb := (hkT.box H0.out.1 H0.out.2.2.2.2.2)
     have hfr := hkT.fresh H0.out.2.2.1 H0.out.2.2.2.1
     obtain ⟨b6, of6, ea, -, hb6, hc6⟩ := (Hf.out.keep hfr.1 (by simp)).atI 0 (by simp)
     subst ea
     have d0 : wr.cell? ⟨b6, of6, none⟩ = some (.string chunksB) := hc6 0 (by decide)
     have d1 : wr.cell? ⟨b6, of6 + 1, none⟩ = some (.int .i64 (s1 : Nat)) := hc6 1 (by decide)
     have d2 : wr.cell? ⟨b6, of6 + 2, none⟩ = some (.int .u32 (c1 : Nat)) := hc6 2 (by decide)
     have kr2 : Keeps [] wr (wr.alloc (.cells #[.string chunksB, .int .i64 (s1 : Nat), .int .u32 (c1 : Nat)] 157)) := (Keeps.refl [] wr).alloc _
     have nr2 := heap_new wr (.cells #[.string chunksB, .int .i64 (s1 : Nat), .int .u32 (c1 : Nat)] 157)
     have hbb := hbf.same kr2
     have hnn : ∀ g, u1.ownBlock = some g → g ≠ wr.heap.size := fun g hg => by have := hbf.lt g hg; omega
     have Hk := Lib.hid (And.intro (hkT.keep kr2) (And.intro nr2 (And.intro hbb hnn)))
     have z1 : IntKind.u64.wrap ((s1 : Nat) : Int) = ((s1 : Nat) : Int) := IntWalk.u64_in _ (by omega)
     have z2 : IntKind.u64.wrap ((c1 : Nat) : Int) = ((c1 : Nat) : Int) := IntWalk.u64_in _ (by omega)
     have hnl := textB_len (s := chunksB) (by decide)
     have hnz : chunksB.size ≤ 6 := by decide
     have hs10 := lebL_len10 (v := s1) (by omega)
     clear hc6 kr2 nr2 hbb hnn nmb hfr
     go_upto_region 10 with fail
     clear d0 d1 d2
     generalize wr.alloc (.cells #[.string chunksB, .int .i64 (s1 : Nat), .int .u32 (c1 : Nat)] 157) = W2 at Hk ⊢
     generalize wr.heap.size = bx at Hk ⊢
     have cx := cells_at Hk.out.2.1
     have lx := lt_of_at Hk.out.2.1
     have x0 : W2.cell? ⟨bx, 0, none⟩ = some (.string chunksB) := by rw [cx]; rfl
     have x1 : W2.cell? ⟨bx, 1, none⟩ = some (.int .i64 (s1 : Nat)) := by rw [cx]; rfl
     have x2 : W2.cell? ⟨bx, 2, none⟩ = some (.int .u32 (c1 : Nat)) := by rw [cx]; rfl
     refine wp_region_held_drew (S := fun w' => w'.cell? ⟨bx, 0, none⟩ = some (.string chunksB) ∧ w'.cell? ⟨bx, 1, none⟩ = some (.int .i64 (s1 : Nat)) ∧ w'.cell? ⟨bx, 2, none⟩ = some (.int .u32 (c1 : Nat))) (by kernel_rfl) ⟨x0, x1, x2⟩ (fun hS => ?_)
     refine tk (v := ?_) 0 rfl ?_ ?_; rotate_left
     ·rintro _ ⟨s1, s2, s3⟩; go_simp; (try with_reducible rfl)
     simp only [Act.put, zz]
     refine tk (v := ?_) 1 rfl ?_ ?_; rotate_left
     ·rintro _ ⟨s1, s2, s3⟩; go_simp; (try with_reducible rfl)
     simp only [Act.put, zz]
     refine tk (v := ?_) 2 rfl ?_ ?_; rotate_left
     ·rintro _ ⟨s1, s2, s3⟩; go_simp; (try with_reducible rfl)
     simp only [Act.put, zz]
     refine tk (v := ?_) 4 rfl ?_ ?_; rotate_left
     ·rintro _ ⟨s1, s2, s3⟩; go_simp; (try with_reducible rfl)
     simp only [Act.put, zz]
     refine tk (v := ?_) 5 rfl ?_ ?_; rotate_left
     ·rintro _ ⟨s1, s2, s3⟩; go_simp; (try with_reducible rfl)
     simp only [Act.put, zz]
     refine tk (v := ?_) 6 rfl ?_ ?_; rotate_left
     ·rintro _ ⟨s1, s2, s3⟩; go_simp; (try with_reducible rfl)
     simp only [Act.put, zz]
     refine tk (v := ?_) 8 rfl ?_ ?_; rotate_left
     ·rintro _ ⟨s1, s2, s3⟩; go_simp; (try with_reducible rfl)
     simp only [Act.put, zz]
     refine tk (v := ?_) 9 rfl ?_ ?_; rotate_left
     ·rintro _ ⟨s1, s2, s3⟩; go_simp; (try with_reducible rfl)
     simp only [Act.put, zz]
     refine tk (v := ?_) 10 rfl ?_ ?_; rotate_left
     ·rintro _ ⟨s1, s2, s3⟩; go_simp; (try with_reducible rfl)
     simp only [Act.put, zz]
     have kd : Keeps [] W2 W2.drew := (Keeps.refl [] W2).drew
     refine rd 3 rfl fun K hK => ?_
     go_simp
     go_at_call 103
     refine (text_spec W2.drew u1 ACC chunksB (by omega) (Hk.out.2.2.1.same kd)).mono ?_
     rintro e w3 ⟨v3, rfl, hb3, ht3⟩
     have T3 := Turns.since kd ht3
     have N3 := T3.box Hk.out.2.1 Hk.out.2.2.2
     have c3 := cells_at N3.1
     have y0 : w3.cell? ⟨bx, 0, none⟩ = some (.string chunksB) := by rw [c3]; rfl
     have y1 : w3.cell? ⟨bx, 1, none⟩ = some (.int .i64 (s1 : Nat)) := by rw [c3]; rfl
     have y2 : w3.cell? ⟨bx, 2, none⟩ = some (.int .u32 (c1 : Nat)) := by rw [c3]; rfl
     go_simp
     refine hK.out _ _ ⟨y0, y1, y2⟩ (fun hS => ?_)
     clear hK K c3 y0 y1 y2
     try simp only [Act.put, zz]
     refine rd 7 rfl fun K hK => ?_
     go_simp
     go_at_call 97
     refine (uint_spec w3 v3 _ s1 (by omega) (by simp only [List.length_append]; unfold textB at hnl; omega) hb3).mono ?_
     rintro e w4 ⟨v4, rfl, hb4, ht4⟩
     have N4 := ht4.box N3.1 N3.2
     have c4 := cells_at N4.1
     have y0 : w4.cell? ⟨bx, 0, none⟩ = some (.string chunksB) := by rw [c4]; rfl
     have y1 : w4.cell? ⟨bx, 1, none⟩ = some (.int .i64 (s1 : Nat)) := by rw [c4]; rfl
     have y2 : w4.cell? ⟨bx, 2, none⟩ = some (.int .u32 (c1 : Nat)) := by rw [c4]; rfl
     go_simp
     refine hK.out _ _ ⟨y0, y1, y2⟩ (fun hS => ?_)
     clear hK K c4 y0 y1 y2
     try simp only [Act.put, zz]
     refine rd 11 rfl fun K hK => ?_
     go_simp
     go_at_call 97
     refine (uint_spec w4 v4 _ c1 (by omega) (by simp only [List.length_append]; unfold textB at hnl; omega) hb4).mono ?_
     rintro e w5 ⟨v5, rfl, hb5, ht5⟩
     have N5 := ht5.box N4.1 N4.2
     have c5 := cells_at N5.1
     have y0 : w5.cell? ⟨bx, 0, none⟩ = some (.string chunksB) := by rw [c5]; rfl
     have y1 : w5.cell? ⟨bx, 1, none⟩ = some (.int .i64 (s1 : Nat)) := by rw [c5]; rfl
     have y2 : w5.cell? ⟨bx, 2, none⟩ = some (.int .u32 (c1 : Nat)) := by rw [c5]; rfl
     go_simp
     refine hK.out _ _ ⟨y0, y1, y2⟩ (fun hS => ?_)
     clear hK K c5
     try simp only [Act.put, zz]
     refine rd 12 rfl fun K hK => ?_
     go_simp
     refine hK.out _ _ ⟨y0, y1, y2⟩ (fun hS => ?_)
     clear hK K
     refine wpAnyH_done (by kernel_rfl) ?_ _
     clear hS y0 y1 y2 x0 x1 x2
     have H5 := Lib.hid (And.intro hb5 (Hk.out.1.trans ((T3.trans ht4).trans ht5)))
     clear hb5 ht5 hb4 ht4 hb3 ht3 T3 N3 N4 N5 hS
     go_wp2_with fail
     go_roundg (2 - 1)
     case measure => have := Hg.out; omega
     case rel => exact ⟨1, by decide, rfl, rfl, by have hh := H5.out.1; rw [HACC.out] at hh; simpa [fileL, List.append_assoc] using hh, H5.out.2⟩
    ·have nmb := (hkT.box H0.out.1 H0.out.2.2.2.2.2)
     have hfr := hkT.fresh H0.out.2.2.1 H0.out.2.2.2.1
     obtain ⟨b6, of6, ea, -, hb6, hc6⟩ := (Hf.out.keep hfr.1 (by simp)).atI 1 (by simp)
     subst ea
     have d0 : wr.cell? ⟨b6, of6 + 3, none⟩ = some (.string indexB) := hc6 0 (by decide)
     have d1 : wr.cell? ⟨b6, of6 + 3 + 1, none⟩ = some (.int .i64 (s2 : Nat)) := hc6 1 (by decide)
     have d2 : wr.cell? ⟨b6, of6 + 3 + 2, none⟩ = some (.int .u32 (c2 : Nat)) := hc6 2 (by decide)
     have kr2 : Keeps [] wr (wr.alloc (.cells #[.string indexB, .int .i64 (s2 : Nat), .int .u32 (c2 : Nat)] 157)) := (Keeps.refl [] wr).alloc _
     have nr2 := heap_new wr (.cells #[.string indexB, .int .i64 (s2 : Nat), .int .u32 (c2 : Nat)] 157)
     have hbb := hbf.same kr2
     have hnn : ∀ g, u1.ownBlock = some g → g ≠ wr.heap.size := fun g hg => by have := hbf.lt g hg; omega
     have Hk := Lib.hid (And.intro (hkT.keep kr2) (And.intro nr2 (And.intro hbb hnn)))
     have z1 : IntKind.u64.wrap ((s2 : Nat) : Int) = ((s2 : Nat) : Int) := IntWalk.u64_in _ (by omega)
     have z2 : IntKind.u64.wrap ((c2 : Nat) : Int) = ((c2 : Nat) : Int) := IntWalk.u64_in _ (by omega)
     have hnl := textB_len (s := indexB) (by decide)
     have hnz : indexB.size ≤ 6 := by decide
     have hs10 := lebL_len10 (v := s2) (by omega)
     clear hc6 kr2 nr2 hbb hnn nmb hfr
     go_upto_region 10 with fail
     clear d0 d1 d2
     generalize wr.alloc (.cells #[.string indexB, .int .i64 (s2 : Nat), .int .u32 (c2 : Nat)] 157) = W2 at Hk ⊢
     generalize wr.heap.size = bx at Hk ⊢
     have cx := cells_at Hk.out.2.1
     have lx := lt_of_at Hk.out.2.1
     have x0 : W2.cell? ⟨bx, 0, none⟩ = some (.string indexB) := by rw [cx]; rfl
     have x1 : W2.cell? ⟨bx, 1, none⟩ = some (.int .i64 (s2 : Nat)) := by rw [cx]; rfl
     have x2 : W2.cell? ⟨bx, 2, none⟩ = some (.int .u32 (c2 : Nat)) := by rw [cx]; rfl
     refine wp_region_held_drew (S := fun w' => w'.cell? ⟨bx, 0, none⟩ = some (.string indexB) ∧ w'.cell? ⟨bx, 1, none⟩ = some (.int .i64 (s2 : Nat)) ∧ w'.cell? ⟨bx, 2, none⟩ = some (.int .u32 (c2 : Nat))) (by kernel_rfl) ⟨x0, x1, x2⟩ (fun hS => ?_)
     refine tk (v := ?_) 0 rfl ?_ ?_; rotate_left
     ·rintro _ ⟨s1, s2, s3⟩; go_simp; (try with_reducible rfl)
     simp only [Act.put, zz]
     refine tk (v := ?_) 1 rfl ?_ ?_; rotate_left
     ·rintro _ ⟨s1, s2, s3⟩; go_simp; (try with_reducible rfl)
     simp only [Act.put, zz]
     refine tk (v := ?_) 2 rfl ?_ ?_; rotate_left
     ·rintro _ ⟨s1, s2, s3⟩; go_simp; (try with_reducible rfl)
     simp only [Act.put, zz]
     refine tk (v := ?_) 4 rfl ?_ ?_; rotate_left
     ·rintro _ ⟨s1, s2, s3⟩; go_simp; (try with_reducible rfl)
     simp only [Act.put, zz]
     refine tk (v := ?_) 5 rfl ?_ ?_; rotate_left
     ·rintro _ ⟨s1, s2, s3⟩; go_simp; (try with_reducible rfl)
     simp only [Act.put, zz]
     refine tk (v := ?_) 6 rfl ?_ ?_; rotate_left
     ·rintro _ ⟨s1, s2, s3⟩; go_simp; (try with_reducible rfl)
     simp only [Act.put, zz]
     refine tk (v := ?_) 8 rfl ?_ ?_; rotate_left
     ·rintro _ ⟨s1, s2, s3⟩; go_simp; (try with_reducible rfl)
     simp only [Act.put, zz]
     refine tk (v := ?_) 9 rfl ?_ ?_; rotate_left
     ·rintro _ ⟨s1, s2, s3⟩; go_simp; (try with_reducible rfl)
     simp only [Act.put, zz]
     refine tk (v := ?_) 10 rfl ?_ ?_; rotate_left
     ·rintro _ ⟨s1, s2, s3⟩; go_simp; (try with_reducible rfl)
     simp only [Act.put, zz]
     have kd : Keeps [] W2 W2.drew := (Keeps.refl [] W2).drew
     refine rd 3 rfl fun K hK => ?_
     go_simp
     go_at_call 103
     refine (text_spec W2.drew u1 ACC indexB (by omega) (Hk.out.2.2.1.same kd)).mono ?_
     rintro e w3 ⟨v3, rfl, hb3, ht3⟩
     have T3 := Turns.since kd ht3
     have N3 := T3.box Hk.out.2.1 Hk.out.2.2.2
     have c3 := cells_at N3.1
     have y0 : w3.cell? ⟨bx, 0, none⟩ = some (.string indexB) := by rw [c3]; rfl
     have y1 : w3.cell? ⟨bx, 1, none⟩ = some (.int .i64 (s2 : Nat)) := by rw [c3]; rfl
     have y2 : w3.cell? ⟨bx, 2, none⟩ = some (.int .u32 (c2 : Nat)) := by rw [c3]; rfl
     go_simp
     refine hK.out _ _ ⟨y0, y1, y2⟩ (fun hS => ?_)
     clear hK K c3 y0 y1 y2
     try simp only [Act.put, zz]
     refine rd 7 rfl fun K hK => ?_
     go_simp
     go_at_call 97
     refine (uint_spec w3 v3 _ s2 (by omega) (by simp only [List.length_append]; unfold textB at hnl; omega) hb3).mono ?_
     rintro e w4 ⟨v4, rfl, hb4, ht4⟩
     have N4 := ht4.box N3.1 N3.2
     have c4 := cells_at N4.1
     have y0 : w4.cell? ⟨bx, 0, none⟩ = some (.string indexB) := by rw [c4]; rfl
     have y1 : w4.cell? ⟨bx, 1, none⟩ = some (.int .i64 (s2 : Nat)) := by rw [c4]; rfl
     have y2 : w4.cell? ⟨bx, 2, none⟩ = some (.int .u32 (c2 : Nat)) := by rw [c4]; rfl
     go_simp
     refine hK.out _ _ ⟨y0, y1, y2⟩ (fun hS => ?_)
     clear hK K c4 y0 y1 y2
     try simp only [Act.put, zz]
     refine rd 11 rfl fun K hK => ?_
     go_simp
     go_at_call 97
     refine (uint_spec w4 v4 _ c2 (by omega) (by simp only [List.length_append]; unfold textB at hnl; omega) hb4).mono ?_
     rintro e w5 ⟨v5, rfl, hb5, ht5⟩
     have N5 := ht5.box N4.1 N4.2
     have c5 := cells_at N5.1
     have y0 : w5.cell? ⟨bx, 0, none⟩ = some (.string indexB) := by rw [c5]; rfl
     have y1 : w5.cell? ⟨bx, 1, none⟩ = some (.int .i64 (s2 : Nat)) := by rw [c5]; rfl
     have y2 : w5.cell? ⟨bx, 2, none⟩ = some (.int .u32 (c2 : Nat)) := by rw [c5]; rfl
     go_simp
     refine hK.out _ _ ⟨y0, y1, y2⟩ (fun hS => ?_)
     clear hK K c5
     try simp only [Act.put, zz]
     refine rd 12 rfl fun K hK => ?_
     go_simp
     refine hK.out _ _ ⟨y0, y1, y2⟩ (fun hS => ?_)
     clear hK K
     refine wpAnyH_done (by kernel_rfl) ?_ _
     clear hS y0 y1 y2 x0 x1 x2
     have H5 := Lib.hid (And.intro hb5 (Hk.out.1.trans ((T3.trans ht4).trans ht5)))
     clear hb5 ht5 hb4 ht4 hb3 ht3 T3 N3 N4 N5 hS
     go_wp2_with fail
     go_roundg (2 - 2)
     case measure => have := Hg.out; omega
     case rel => exact ⟨2, by decide, rfl, rfl, by have hh := H5.out.1; rw [HACC.out] at hh; simpa [fileL, List.append_assoc] using hh, H5.out.2⟩
    ·have nb2 := (hkT.box H0.out.1 H0.out.2.2.2.2.2).1
     have cb2 := cells_at nb2
     have lb2 := lt_of_at nb2
     have Hk3 := Lib.hid (And.intro hbf hkT)
     clear hbf hkT nb2
     go_wp2_with fail
     refine (uint_spec wr u1 ACC m.sources.length (by omega) (by omega) Hk3.out.1).mono ?_
     rintro e w3 ⟨v3, rfl, hb3, ht3⟩
     have T3 := Hk3.out.2.trans ht3
     have nb3 := (T3.box H0.out.1 H0.out.2.2.2.2.2).1
     have cb3 := cells_at nb3
     have lb3 := lt_of_at nb3
     have hlb := lebL_len10 (v := m.sources.length) (by omega)
     have hA2l : (ACC ++ lebL m.sources.length).length ≤ 1000000300 := by rw [List.length_append]; omega
     obtain ⟨A2, hA2⟩ : ∃ A, A = ACC ++ lebL m.sources.length := ⟨_, rfl⟩
     rw [← hA2] at hb3 hA2l
     have HA2 := Lib.hid hA2
     have H3 := Lib.hid (And.intro hb3 T3)
     clear hb3 ht3 T3 nb3 hA2 Hk3 cb2 lb2
     go_wp2_with fail
     clear cb3 lb3
     go_loopg [1, 67] m.sources.length (PutRelM A2 v (w.alloc (.cells #[.string m.id, .int .i64 m.mn, .int .i64 m.mx, .int .i64 m.level, .int .i64 m.series, .int .i64 m.samples, .slice af 2 cf, .slice ao m.sources.length co] 61)) (fun k => (m.sources.take k).flatMap textB) m.sources.length)
     case atStart => exact ⟨0, Nat.zero_le _, rfl, rfl, by simpa using H3.out.1, H3.out.2⟩
     case round =>
      obtain ⟨j, hj, hgj, rfl, hbj0, hjT⟩ := hrel
      have hbj : Buf wr u1 (A2 ++ (m.sources.take j).flatMap textB) := hbj0
      clear hbj0 H3
      have Hgj := Lib.hid hgj
      clear hgj
      by_cases hlt : j < m.sources.length
      ·have hfr := hjT.fresh H0.out.2.2.1 H0.out.2.2.2.1
       obtain ⟨b7, of7, ea, -, hb7, hc7⟩ := (Ho.out.keep hfr.1 (by simp)).atI j hlt
       subst ea
       have d7 : wr.cell? ⟨b7, of7 + j, none⟩ = some (.string m.sources[j]) := by simpa [encS1m] using hc7 0 (by decide)
       have hsz := id16 (Hok.out.1.src m.sources[j] (List.getElem_mem _)).1
       have hlt' : (j : Int) < (m.sources.length : Int) := by omega
       have hpl := flat_len_le textB 26 (m.sources.take j) (fun x hx => by
        have h1 := id16 (Hok.out.1.src x (List.mem_of_mem_take hx)).1
        have h2 := textB_len (s := x) (by omega)
        omega)
       have hpk : (m.sources.take j).length ≤ 50 := by rw [List.length_take]; omega
       have Hnx := Lib.hid (flat_nextL textB hlt)
       generalize m.sources[j] = sj at d7 hsz Hnx
       have Hb := Lib.hid (And.intro hbj hjT)
       clear hc7 hbj hjT hfr
       go_wp2_with fail
       refine (text_spec wr u1 _ sj (by simp only [List.length_append]; omega) Hb.out.1).mono ?_
       rintro e w4 ⟨v4, rfl, hb4, ht4⟩
       have H4 := Lib.hid (And.intro hb4 (Hb.out.2.trans ht4))
       clear hb4 ht4
       go_wp2_with fail
       go_roundg (m.sources.length - (j + 1))
       case measure => have := Hgj.out; omega
       case rel => exact ⟨j + 1, by omega, rfl, by go_num, by have hh := H4.out.1; show Buf w4 v4 (A2 ++ (m.sources.take (j + 1)).flatMap textB); rw [Hnx.out, ← List.append_assoc]; exact hh, H4.out.2⟩
      ·obtain rfl : j = m.sources.length := by omega
       rw [List.take_length] at hbj
       have He := Lib.hid (And.intro hbj hjT)
       clear hbj hjT
       go_wp2_with fail
       go_ret
       refine ⟨u1, rfl, ?_, Turns.since H0.out.2.1 He.out.2⟩
       have e : l ++ metaL m = A2 ++ m.sources.flatMap textB := by
        rw [metaL_eq, HA2.out, HACC.out, HA.out, Hok.out.2]
        simp [List.append_assoc]
       rw [e]
       exact He.out.1
open Go.Op (bytesLess)
theorem metaEnc_spec (B : Nat) (w : World) (vs : List Value) (m : MetaS) (h : MetaV B w vs m) (ok : MetaOk m) :
  Calls Tryz.prog 42 #[.agg vs.toArray] w fun e w' => e = .returned (.string ⟨(frameL 1 (metaL m)).toArray⟩) ∧ Keeps [] w w' := by
 have hvs := h
 obtain ⟨vf, vo, rfl, hsf, hso⟩ := hvs
 obtain ⟨af, cf, rfl, -, -, -, -⟩ := hsf
 obtain ⟨ao, co, rfl, -, -, -, -⟩ := hso
 have k0 : Keeps [] w (w.alloc (.cells #[.string m.id, .int .i64 m.mn, .int .i64 m.mx, .int .i64 m.level, .int .i64 m.series, .int .i64 m.samples, .slice af m.files.length cf, .slice ao m.sources.length co] 61)) := (Keeps.refl [] w).alloc _
 have Hp := Lib.hid (metaPut_spec B w _ _ m (.slice none 0 0) [] h ok k0 (by simp [Value.ownBlock]) (buf_nil _) (by simp))
 have Hk := Lib.hid (And.intro k0 ok.len)
 clear h k0
 go_enter Tryz.func42, Tryz.ntmps42
 go_wp2_with fail
 refine Hp.out.mono ?_
 rintro e w1 ⟨v1, rfl, hb1, ht1⟩
 rw [List.nil_append] at hb1
 have k1 := (ht1.fresh (Keeps.refl [] _) (by simp [Value.ownBlock])).1
 have hconv := hb1.run_string
 obtain ⟨ds, hds⟩ : ∃ s : ByteArray, s = ⟨(metaL m).toArray⟩ := ⟨_, rfl⟩
 have hdl : ds.data.toList = metaL m := by rw [hds]
 have hdz : ds.size ≤ 2000 := by
  rw [← dsize, hdl]
  exact Hk.out.2
 rw [← hds] at hconv
 have H2 := Lib.hid (And.intro (Hk.out.1.trans k1) hdl)
 clear hb1 ht1 k1 hds hdl
 go_wp2_with fail
 refine (frameAppend_spec w1 (.slice none 0 0) [] 1 ds (by simp; omega) (buf_nil w1)).mono ?_
 rintro e w3 ⟨v3, rfl, hb3, ht3⟩
 rw [List.nil_append, H2.out.2] at hb3
 have k3 := (ht3.fresh (Keeps.refl [] w1) (by simp [Value.ownBlock])).1
 have hconv3 := hb3.run_string
 have H3 := Lib.hid (H2.out.1.trans k3)
 clear hb3 ht3 k3 hconv
 obtain ⟨ms, hms⟩ : ∃ s : ByteArray, s = ⟨(frameL 1 (metaL m)).toArray⟩ := ⟨_, rfl⟩
 rw [← hms] at hconv3
 have Hms := Lib.hid hms
 clear hms
 go_wp2_with fail
 go_ret
 exact ⟨by rw [← Hms.out]; rfl, H3.out⟩
end Go.Proofs.YtgcfkhcogllgfaaGreatDoor
