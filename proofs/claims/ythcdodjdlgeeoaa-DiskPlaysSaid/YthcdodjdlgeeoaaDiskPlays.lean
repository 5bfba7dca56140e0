/-
  DiskPlays answers true for every room and every list of acts, and leaves all memory that was there as it was.
  No condition: every input that can be read.
-/
import Derived.Test.YthcdodjdlgeeoaaDiskDoesF
import Derived.Test.YthcdodjdlgeeoaaAwakeD
import Derived.Test.YthcdodjdlgeeoaaDiskMine
import Derived.Test.YthcdodjdlgeeoaaBucketPlays
namespace Go.Proofs.Ythcdodjdlgeeoaa
open Go Go.RowKit Go.Conc Go.Deep

theorem doesD_spec (w : World) (d f c mb k room : Nat) (armed : Bool) (Q : List (Int × Bool)) (o : List (ByteArray × Ob)) (v : Value) (x : ActD) (co : Option Addr) (cc : Nat) (hv : x.cv = .slice co x.ch.length cc) (hk40 : k ≤ 40) (hn : okInt x.n)
    (hch : ∀ w', Keeps [f, c, mb, d] w w' → SliceArg 1 encN w' (.slice co x.ch.length cc) x.ch) (hci : ∀ z ∈ x.ch, okInt z)
    (hD : DiskAt w d f c mb armed Q room o) (hx : RefD w v (full o) (room : Int) Q) (hinv : InvD o k) :
    Calls Try.prog 44 #[.pointer (some ⟨d, 0, none⟩), v, .agg #[.int .i64 x.kind, .int .i64 x.n, .string x.a, .string x.b, .bool x.done, .slice co x.ch.length cc]] w (DoesDPost w d f c mb (k + 1) room) := by
  obtain ⟨kd, n, a, b, dn, cv, ch⟩ := x
  simp only at hv hch hci hn ⊢
  by_cases k1 : kd = 1
  · subst k1; exact doesD_app w d f c mb k room armed Q o v n a b dn co _ cc hk40 hD hx hinv
  by_cases k2 : kd = 2
  · subst k2; exact doesD_sync w d f c mb k room armed Q o v n a b dn co _ cc hk40 hD hx hinv
  by_cases k3 : kd = 3
  · subst k3; exact doesD_ren w d f c mb k room armed Q o v n a b dn co _ cc hk40 hD hx hinv
  by_cases k4 : kd = 4
  · subst k4; exact doesD_remove w d f c mb k room armed Q o v n a b dn co _ cc hk40 hD hx hinv
  by_cases k5 : kd = 5
  · subst k5; exact doesD_crash w d f c mb k room armed Q o v n a b dn co cc ch hch hci hk40 hD hx hinv
  by_cases k6 : kd = 6
  · subst k6; exact doesD_arm w d f c mb k room armed Q o v n a b dn co _ cc hn.2 hD hx hinv
  by_cases k7 : kd = 7
  · subst k7; exact doesD_clear w d f c mb k room armed Q o v n a b dn co _ cc hD hx hinv
  by_cases k8 : kd = 8
  · subst k8; exact doesD_trunc w d f c mb k room armed Q o v n a b dn co _ cc hk40 hD hx hinv
  exact doesD_other w d f c mb k room armed Q o v kd (by omega) n a b dn co _ cc hD hx hinv

/-- The state between two acts. -/
def StD (w : World) (d f c mb bx k room : Nat) (wr : World) : Prop :=
  ∃ armed Q o x cx y cy, DiskAt wr d f c mb armed Q room o ∧ wr.heap[bx]? = some (.cells #[.slice x (full o).length cx, .int .i64 (room : Int), .slice y Q.length cy] 96 (0, 0)) ∧
    RefD wr (.agg #[.slice x (full o).length cx, .int .i64 (room : Int), .slice y Q.length cy]) (full o) (room : Int) Q ∧ InvD o k ∧ Keeps [] w wr
def PlaysD (n : Nat) (w : World) (d f c mb bx room gk : Nat) (i : Value) (wr : World) : Prop :=
  ∃ k, k ≤ n ∧ k ≤ 40 ∧ gk = 40 - k ∧ i = .int .i64 k ∧ StD w d f c mb bx k room wr

/-- Behind Does: its answer lies in a block of its own. -/
def MidD (w : World) (d f c mb bx k room : Nat) (u8 u9 : Value) (wc : World) : Prop :=
  ∃ bn xa xn xc xr ya yn yc armed Q o x cx y cy, u8 = .pointer (some ⟨bn, 0, none⟩) ∧ u9 = .bool true ∧ DiskAt wc d f c mb armed Q room o ∧ bx < bn ∧ wc.heap[bx]? = some (.cells #[.slice xa xn xc, .int .i64 xr, .slice ya yn yc] 96 (0, 0)) ∧
    wc.heap[bn]? = some (.cells #[.slice x (full o).length cx, .int .i64 (room : Int), .slice y Q.length cy] 96 (0, 0)) ∧ RefD wc (.agg #[.slice x (full o).length cx, .int .i64 (room : Int), .slice y Q.length cy]) (full o) (room : Int) Q ∧ InvD o k ∧ Keeps [] w wc

set_option maxRecDepth 100000 in
set_option maxHeartbeats 2000000 in
theorem diskPlays_walk (rm : Int) (hrm : okInt rm) (L : List ActD) (v0 : Value) (w : World) (hs : SliceArg 6 encActD w v0 L) (hok : ∀ x ∈ L, okActD w x) :
    Calls Try.prog 13 #[.int .i64 rm, v0] w fun e w' => e = .returned (.bool true) ∧ Keeps [] w w' := by
  obtain ⟨ao, cap, rfl, hl, hc⟩ := hs
  unfold maxLen at hl
  have Hc := Lib.hid hc
  have hrm2 := hrm.2
  clear hc hrm
  obtain ⟨R, hR⟩ : ∃ R : Nat, max rm 0 = (R : Int) := ⟨(max rm 0).toNat, by omega⟩
  have hRl : (R : Int) ≤ 9223372036854775807 := by omega
  go_enter Try.func13, Try.ntmps13
  go_wp2_with fail
  refine (newDisk_spec w rm hrm2).mono ?_
  rintro e w1 ⟨d, f, c, mb, rfl, hd1, hk1, l1, l2, l3, l4⟩
  rw [hR, Int.toNat_natCast] at hd1
  go_wp2_with fail
  have q1 := heap_new w1 (.cells #[.slice none 0 0, .int .i64 (R : Int), .slice none 0 0] 96)
  have hd1' := hd1.same ((Keeps.refl [] w1).alloc (.cells #[.slice none 0 0, .int .i64 (R : Int), .slice none 0 0] 96))
  have hk1' := hk1.alloc (.cells #[.slice none 0 0, .int .i64 (R : Int), .slice none 0 0] 96)
  obtain ⟨bx, hbx⟩ : ∃ bx, bx = w1.heap.size := ⟨_, rfl⟩
  have hwx : w.heap.size ≤ bx := by have := hk1.size; omega
  obtain ⟨p1, p2, p3, p4⟩ := hd1.lt
  rw [← hbx] at p1 p2 p3 p4 q1 ⊢
  generalize w1.alloc (.cells #[.slice none 0 0, .int .i64 (R : Int), .slice none 0 0] 96) = w1' at q1 hd1' hk1' ⊢
  clear hbx hd1 hk1 hR hRl
  refine (awakeD_spec w1').mono ?_
  rintro e w2 ⟨rfl, hk2⟩
  have hd2 := hd1'.same hk2
  have q2 := hk2.at_ q1 (by simp)
  have cd2 := cells_at hd2.cells
  have hk02 := hk1'.trans hk2
  have hR2 : RefD w2 (.agg #[.slice none 0 0, .int .i64 (R : Int), .slice none 0 0]) [] (R : Int) [] := ⟨_, _, rfl, sliceArg_nil _ _ _, ⟨none, 0, 0, rfl, Nat.le_refl _, fun _ => rfl⟩, sliceArg_nil _ _ _, fun b n c e hn => by cases e⟩
  have hk12 : Keeps [] w1' w2 := hk2
  clear hk2
  go_wp2_with fail
  go_loopg [7] 40 (PlaysD L.length w d f c mb bx R)
  case atStart => exact ⟨0, Nat.zero_le _, by omega, rfl, rfl, _, _, [], none, 0, none, 0, hd2, by rw [full_nil]; exact q2, by rw [full_nil]; exact hR2, ⟨by simp, by simp [used], by simp⟩, hk02⟩
  case round =>
    obtain ⟨k, hkl, hk40, hgk, rfl, armed, Q, o, x, cx, y, cy, hd, hq, hR, hinv, hk⟩ := hrel
    have Hg := Lib.hid hgk
    clear hgk hd1' hd2 hk1' hk02 cd2 q1 q2 hR2 hk12
    by_cases hlt : k < L.length ∧ k < 40
    · obtain ⟨hlt, hlt40⟩ := hlt
      obtain ⟨b1, o1, rfl, hb1, hc1⟩ := Hc.out k hlt
      have hokx := hok L[k] (List.getElem_mem _)
      generalize hx : L[k] = act at hc1 hokx
      clear hx
      obtain ⟨ok1, ok2, ok3, ok4, ok5, ok6⟩ := hokx
      obtain ⟨cao, ccap, hcv⟩ : ∃ cao ccap, act.cv = .slice cao act.ch.length ccap := by obtain ⟨a, b, e, _⟩ := ok5; exact ⟨a, b, e⟩
      rw [hcv] at ok5
      have d0 : wr.cell? ⟨b1, o1 + k * 6, none⟩ = some (.int .i64 act.kind) := by rw [hk.cell hb1 (by simp)]; simpa [encActD] using hc1 0 (by omega)
      have d1 : wr.cell? ⟨b1, o1 + k * 6 + 1, none⟩ = some (.int .i64 act.n) := by rw [hk.cell hb1 (by simp)]; rw [Nat.add_assoc]; simpa [encActD] using hc1 1 (by omega)
      have d2 : wr.cell? ⟨b1, o1 + k * 6 + 2, none⟩ = some (.string act.a) := by rw [hk.cell hb1 (by simp)]; rw [Nat.add_assoc]; simpa [encActD] using hc1 2 (by omega)
      have d3 : wr.cell? ⟨b1, o1 + k * 6 + 3, none⟩ = some (.string act.b) := by rw [hk.cell hb1 (by simp)]; rw [Nat.add_assoc]; simpa [encActD] using hc1 3 (by omega)
      have d4 : wr.cell? ⟨b1, o1 + k * 6 + 4, none⟩ = some (.bool act.done) := by rw [hk.cell hb1 (by simp)]; rw [Nat.add_assoc]; simpa [encActD] using hc1 4 (by omega)
      have d5 : wr.cell? ⟨b1, o1 + k * 6 + 5, none⟩ = some (.slice cao act.ch.length ccap) := by rw [hk.cell hb1 (by simp)]; rw [Nat.add_assoc]; simpa [encActD, hcv] using hc1 5 (by omega)
      have lb1 := hk.lt hb1
      clear hc1
      have hlt' : (k : Int) < (L.length : Int) := by omega
      have hlt1 : (k : Int) < 40 := by omega
      have lx := lt_of_at hq
      have hS0 : wr.cell? ⟨bx, 0, none⟩ = some (.slice x (full o).length cx) := by rw [cells_at hq]; rfl
      have hS1 : wr.cell? ⟨bx, 1, none⟩ = some (.int .i64 (R : Int)) := by rw [cells_at hq]; rfl
      have hS2 : wr.cell? ⟨bx, 2, none⟩ = some (.slice y Q.length cy) := by rw [cells_at hq]; rfl
      have H := Lib.hid (And.intro hd (And.intro hq (And.intro hR (And.intro hinv (And.intro hk (And.intro hcv (And.intro ok2 (And.intro ok5 ok6))))))))
      clear hd hq hR hinv hk hcv ok1 ok2 ok3 ok4 ok5 ok6
      have nx : bx ∉ [f, c, mb, d] := by simp; omega
      have nb1 : b1 ∉ [f, c, mb, d] := by simp; omega
      have n0 : bx ≠ wr.heap.size := by omega
      have n1 : b1 ≠ wr.heap.size := by omega
      have hdoes : ∀ W5, Keeps [] wr W5 → Calls Try.prog 44 #[.pointer (some ⟨d, 0, none⟩), .agg #[.slice x (full o).length cx, .int .i64 (R : Int), .slice y Q.length cy], .agg #[.int .i64 act.kind, .int .i64 act.n, .string act.a, .string act.b, .bool act.done, .slice cao act.ch.length ccap]] W5 (DoesDPost W5 d f c mb (k + 1) R) := fun W5 hk5 =>
        doesD_spec W5 d f c mb k R armed Q o _ act cao ccap H.out.2.2.2.2.2.1 hk40 H.out.2.2.2.2.2.2.1 (fun w' k' => H.out.2.2.2.2.2.2.2.1.keep ((H.out.2.2.2.2.1.trans hk5).after k' (by simp; omega))) H.out.2.2.2.2.2.2.2.2 (H.out.1.same hk5) (H.out.2.2.1.keep hk5) H.out.2.2.2.1
      have Hdoes := Lib.hid hdoes
      clear hdoes
      go_upto_region 8 with (fail)
      go_cut [8, 9] from 30 to 58 (MidD w d f c mb bx (k + 1) R)
      case first =>
        go_region_held3 (fun w' => w'.cell? ⟨bx, 0, none⟩ = some (.slice x (full o).length cx) ∧ w'.cell? ⟨bx, 1, none⟩ = some (.int .i64 (R : Int)) ∧ w'.cell? ⟨bx, 2, none⟩ = some (.slice y Q.length cy) ∧ w'.cell? ⟨b1, o1 + k * 6, none⟩ = some (.int .i64 act.kind) ∧ w'.cell? ⟨b1, o1 + k * 6 + 1, none⟩ = some (.int .i64 act.n) ∧ w'.cell? ⟨b1, o1 + k * 6 + 2, none⟩ = some (.string act.a) ∧ w'.cell? ⟨b1, o1 + k * 6 + 3, none⟩ = some (.string act.b) ∧ w'.cell? ⟨b1, o1 + k * 6 + 4, none⟩ = some (.bool act.done) ∧ w'.cell? ⟨b1, o1 + k * 6 + 5, none⟩ = some (.slice cao act.ch.length ccap))
          (first | go_keep | (exact ⟨e0, e1, e2, g0, g1, g2, g3, g4, g5⟩) | (have kk : Keeps [wr.heap.size] w5 (((w5.setCell ⟨wr.heap.size, 0, none⟩ (.slice x5 (full o5).length cx5)).setCell ⟨wr.heap.size, 1, none⟩ (.int .i64 (R : Int))).setCell ⟨wr.heap.size, 2, none⟩ (.slice y5 Q5.length cy5)) := (((Keeps.refl _ w5).setCell (.inl (by simp)) _).setCell (.inl (by simp)) _).setCell (.inl (by simp)) _; exact ⟨(kk.cell m0 (by simpa using n0)).trans e0, (kk.cell m0 (by simpa using n0)).trans e1, (kk.cell m0 (by simpa using n0)).trans e2, (kk.cell m1 (by simpa using n1)).trans g0, (kk.cell m1 (by simpa using n1)).trans g1, (kk.cell m1 (by simpa using n1)).trans g2, (kk.cell m1 (by simpa using n1)).trans g3, (kk.cell m1 (by simpa using n1)).trans g4, (kk.cell m1 (by simpa using n1)).trans g5⟩))
          (first | (go_at_call 44; refine (Hdoes.out _ (by repeat (first | exact Keeps.refl _ _ | refine Keeps.drew ?_ | refine Keeps.alloc ?_ _) : Keeps [] wr _)).mono ?_; rintro e w5 ⟨yv, armed5, Q5, o5, rfl, hB5, hX5, hI5, hk5⟩; obtain ⟨x5, cx5, y5, cy5, rfl⟩ := hX5.form; have hk5' : Keeps [f, c, mb, d] wr w5 := Keeps.after (Keeps.mono (by repeat (first | exact Keeps.refl _ _ | refine Keeps.drew ?_ | refine Keeps.alloc ?_ _) : Keeps [] wr _) (by simp)) hk5 (fun q hq => .inl hq); have e0 := (hk5'.cell lx nx).trans hS0; have e1 := (hk5'.cell lx nx).trans hS1; have e2 := (hk5'.cell lx nx).trans hS2; have g0 := (hk5'.cell lb1 nb1).trans d0; have g1 := (hk5'.cell lb1 nb1).trans d1; have g2 := (hk5'.cell lb1 nb1).trans d2; have g3 := (hk5'.cell lb1 nb1).trans d3; have g4 := (hk5'.cell lb1 nb1).trans d4; have g5 := (hk5'.cell lb1 nb1).trans d5; have m0 := hk5'.lt lx; have m1 := hk5'.lt lb1; (try (have hn5 := hk5.at_ (heap_new wr (.cells #[.slice none 0 0, .int .i64 0, .slice none 0 0] 96)) (by simp; omega); have cn5 := cells_at hn5; have fn5 := free_at hn5; have ln5 := lt_of_at hn5))))
        · have hk05 := H.out.2.2.2.2.1.after hk5' (by simp; omega)
          have qx5 := hk5'.at_ H.out.2.1 nx
          have hB6 := hB5.same ((Keeps.refl [] w5).alloc (.cells #[.slice x5 (full o5).length cx5, .int .i64 (R : Int), .slice y5 Q5.length cy5] 96))
          have hR6 := hX5.keep ((Keeps.refl [] w5).alloc (.cells #[.slice x5 (full o5).length cx5, .int .i64 (R : Int), .slice y5 Q5.length cy5] 96))
          have qx6 := heap_old qx5 (.cells #[.slice x5 (full o5).length cx5, .int .i64 (R : Int), .slice y5 Q5.length cy5] 96)
          have Hm := Lib.hid (And.intro hB6 (And.intro hR6 (And.intro qx6 (And.intro hI5 (hk05.alloc (.cells #[.slice x5 (full o5).length cx5, .int .i64 (R : Int), .slice y5 Q5.length cy5] 96))))))
          clear hk05 qx5 hB6 hR6 qx6 hB5 hX5 hI5 hk5 hk5' e0 e1 e2 g0 g1 g2 g3 g4 g5 d0 d1 d2 d3 d4 d5
          go_wp2_with fail
          go_meet
          case rel => exact ⟨_, _, _, _, _, _, _, _, _, _, _, _, _, _, _, rfl, rfl, Hm.out.1, m0, Hm.out.2.2.1, heap_new w5 _, Hm.out.2.1, Hm.out.2.2.2.1, Hm.out.2.2.2.2⟩
        all_goals
          have hk05 := H.out.2.2.2.2.1.after hk5' (by simp; omega)
          have qx5 := hk5'.at_ H.out.2.1 nx
          have t1 := heap_cell_same (i := 2) (heap_cell_same (i := 1) (heap_cell_same (i := 0) hn5 (.slice x5 (full o5).length cx5)) (.int .i64 (R : Int))) (.slice y5 Q5.length cy5)
          have hkq : Keeps [wr.heap.size] w5 (((w5.setCell ⟨wr.heap.size, 0, none⟩ (.slice x5 (full o5).length cx5)).setCell ⟨wr.heap.size, 1, none⟩ (.int .i64 (R : Int))).setCell ⟨wr.heap.size, 2, none⟩ (.slice y5 Q5.length cy5)) := (((Keeps.refl _ w5).setCell (.inl (by simp)) _).setCell (.inl (by simp)) _).setCell (.inl (by simp)) _
          have hB6 := hB5.keep hkq (by simp; omega) (by simp; omega) (by simp; omega) (by simp; omega)
          have hR6 := hX5.step ⟨_, _, _, _, _, _, _, hn5⟩ hkq
          have qx6 := hkq.at_ qx5 (by simp; omega)
          have hk06 := hk05.after hkq (by simp; have := H.out.2.2.2.2.1.size; omega)
          have Hm := Lib.hid (And.intro hB6 (And.intro hR6 (And.intro qx6 (And.intro hI5 (And.intro hk06 t1)))))
          clear hk05 qx5 t1 hkq hB6 hR6 qx6 hk06 hB5 hX5 hI5 hk5 hk5' e0 e1 e2 g0 g1 g2 g3 g4 g5 d0 d1 d2 d3 d4 d5 hn5 cn5 fn5
          go_wp2_with fail
          go_meet
          case rel => exact ⟨_, _, _, _, _, _, _, _, _, _, _, _, _, _, _, rfl, rfl, Hm.out.1, lx, Hm.out.2.2.1, Hm.out.2.2.2.2.2, Hm.out.2.1, Hm.out.2.2.2.1, Hm.out.2.2.2.2.1⟩
      case rest =>
        obtain ⟨bn, xa, xn, xc, xr, ya, yn, yc, armed2, Q2, o2, x2, cx2, y2, cy2, rfl, rfl, hb, hbn, hqx, hqn, hR, hinv, hk⟩ := hcut
        clear H d0 d1 d2 d3 d4 d5 hS0 hS1 hS2 lx lb1 nx nb1 n0 n1 Hdoes
        have cn := cells_at hqn
        have cx := cells_at hqx
        have fx := free_at hqx
        have lx := lt_of_at hqx
        have t1 := heap_cell_same (i := 2) (heap_cell_same (i := 1) (heap_cell_same (i := 0) hqx (.slice x2 (full o2).length cx2)) (.int .i64 (R : Int))) (.slice y2 Q2.length cy2)
        have hkq : Keeps [bx] wc (((wc.setCell ⟨bx, 0, none⟩ (.slice x2 (full o2).length cx2)).setCell ⟨bx, 1, none⟩ (.int .i64 (R : Int))).setCell ⟨bx, 2, none⟩ (.slice y2 Q2.length cy2)) := (((Keeps.refl _ wc).setCell (.inl (by simp)) _).setCell (.inl (by simp)) _).setCell (.inl (by simp)) _
        have hb9 := hb.keep hkq (by simp; omega) (by simp; omega) (by simp; omega) (by simp; omega)
        have hR9 := hR.step ⟨_, _, _, _, _, _, _, hqx⟩ hkq
        have hk9 := hk.after hkq (by simp; omega)
        have t1' : (((wc.setCell ⟨bx, 0, none⟩ (.slice x2 (full o2).length cx2)).setCell ⟨bx, 1, none⟩ (.int .i64 (R : Int))).setCell ⟨bx, 2, none⟩ (.slice y2 Q2.length cy2)).heap[bx]? = some (.cells #[.slice x2 (full o2).length cx2, .int .i64 (R : Int), .slice y2 Q2.length cy2] 96 (0, 0)) := t1
        have H9 := Lib.hid (And.intro t1' (And.intro hb9 (And.intro hR9 (And.intro hinv hk9))))
        clear t1 t1' hkq hb9 hR9 hk9 hb hqx hqn hR hinv hk
        go_wp2_with fail
        generalize (((wc.setCell ⟨bx, 0, none⟩ (.slice x2 (full o2).length cx2)).setCell ⟨bx, 1, none⟩ (.int .i64 (R : Int))).setCell ⟨bx, 2, none⟩ (.slice y2 Q2.length cy2)) = W9 at H9 ⊢
        clear cn cx fx lx
        have hinv := H9.out.2.2.2.1
        have hu := hinv.usd
        have hlen := hinv.len
        have hkey : ∀ p ∈ o2, p.1.size ≤ maxLen := fun p hp => by have := hinv.key p.1 (List.mem_map.2 ⟨p, hp, rfl⟩); unfold maxLen; omega
        have c0 := cells_at H9.out.1
        have his := is_spec W9 d f c mb armed2 Q2 Q2 R o2 H9.out.2.1 _ H9.out.2.2.1 (by omega) hkey (by omega)
        have His := Lib.hid his
        clear his hkey hinv
        go_wp2_with fail
        refine His.out.mono ?_
        rintro e w11 ⟨rfl, hk11⟩
        have hb11 := H9.out.2.1.same hk11
        have q11 := hk11.at_ H9.out.1 (by simp)
        have hR11 := H9.out.2.2.1.keep hk11
        have hk011 := H9.out.2.2.2.2.trans hk11
        have Hn := Lib.hid (show StD w d f c mb bx (k + 1) R w11 from ⟨armed2, Q2, o2, _, _, _, _, hb11, q11, hR11, H9.out.2.2.2.1, hk011⟩)
        clear hb11 q11 hR11 hk011 hk11 c0 His
        go_wp2_with fail
        go_roundg (40 - (k + 1))
        case measure => have := Hg.out; omega
        case rel => exact ⟨k + 1, by omega, by omega, rfl, by go_num, Hn.out⟩
    · have hnd := hd.nodup
      have lx := lt_of_at hq
      have cq := cells_at hq
      have hix : (look o ⟨#[110, 111, 32, 115, 117, 99, 104, 32, 102, 105, 108, 101]⟩).isSome = true → 0 ≤ findIx (full o) ⟨#[110, 111, 32, 115, 117, 99, 104, 32, 102, 105, 108, 101]⟩ := by
        intro h
        obtain ⟨x, hx⟩ := Option.isSome_iff_exists.1 h
        obtain ⟨i, _, _, e⟩ := ix_some hnd hx
        omega
      have Hx := Lib.hid hix
      have H := Lib.hid (And.intro hd (And.intro hR (And.intro hq hk)))
      clear hix hd hR hq hk hinv hnd cq lx
      go_wp2_with fail
      all_goals
        refine (read_spec wr d f c mb _ _ _ _ H.out.1 _).mono ?_
        rintro e w7 ⟨rfl, hk7⟩
        generalize hs : (look o ⟨#[110, 111, 32, 115, 117, 99, 104, 32, 102, 105, 108, 101]⟩).isSome = s at Hx ⊢
        clear hs
        have hq7 := hk7.at_ H.out.2.2.1 (by simp)
        have hR7 := H.out.2.1.keep hk7
        have hk07 := H.out.2.2.2.trans hk7
        clear hk7
        have cq := cells_at hq7
        have lx := lt_of_at hq7
        have Hf := Lib.hid (findD_spec w7 _ _ _ _ ⟨#[110, 111, 32, 115, 117, 99, 104, 32, 102, 105, 108, 101]⟩ hR7)
        clear hR7 hq7
        cases s with
        | false =>
          simp only [Bool.false_eq_true, if_false]
          go_wp2_with fail
          go_ret
          exact ⟨rfl, hk07⟩
        | true =>
          simp only [if_true]
          go_wp2_with fail
          refine Hf.out.mono ?_
          rintro e w8 ⟨rfl, hk8⟩
          have hge := Hx.out trivial
          generalize findIx (full o) ⟨#[110, 111, 32, 115, 117, 99, 104, 32, 102, 105, 108, 101]⟩ = ix at hge ⊢
          have hk08 := hk07.trans hk8
          clear hk8
          go_wp2_with fail
          go_ret
          exact ⟨by simp, hk08⟩

theorem diskPlays_law (W : World) (rm : Int) (hrm : (Lit.int IntKind.i64 rm).wf = true) (v0 : Value) (h0 : ∃ L : List ActD, SliceArg 6 encActD W v0 L ∧ ∀ x ∈ L, okActD W x) :
    Calls Try.prog 13 #[.int .i64 rm, v0] W fun e w' => e = .returned (.bool true) ∧ Keeps [] W w' := by
  obtain ⟨L, hs, hok⟩ := h0
  exact diskPlays_walk rm (int_wf hrm) L v0 W hs hok

end Go.Proofs.Ythcdodjdlgeeoaa
