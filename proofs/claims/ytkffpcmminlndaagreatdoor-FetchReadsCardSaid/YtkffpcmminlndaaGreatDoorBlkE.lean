/-
  A block's index is read (package block): take, Entries.
  No condition beyond those that each theorem states.
-/
import Derived.Test.YtkffpcmminlndaaGreatDoorBlkR
namespace Go.Proofs.YtkffpcmminlndaaGreatDoor
open Go Go.RowKit Go.Conc

theorem ix4_0 (w : World) : (Instr.index 193 (.agg #[.int .i64 1048576, .int .i64 1048576, .int .i64 1099511627776, .int .i64 1099511627776]) (.int .i64 0)).run Tryz.prog w = .ok (.int .i64 1048576) w := by kernel_rfl

theorem ix4_1 (w : World) : (Instr.index 193 (.agg #[.int .i64 1048576, .int .i64 1048576, .int .i64 1099511627776, .int .i64 1099511627776]) (.int .i64 1)).run Tryz.prog w = .ok (.int .i64 1048576) w := by kernel_rfl

theorem ix4_2 (w : World) : (Instr.index 193 (.agg #[.int .i64 1048576, .int .i64 1048576, .int .i64 1099511627776, .int .i64 1099511627776]) (.int .i64 2)).run Tryz.prog w = .ok (.int .i64 1099511627776) w := by kernel_rfl

theorem ix4_3 (w : World) : (Instr.index 193 (.agg #[.int .i64 1048576, .int .i64 1048576, .int .i64 1099511627776, .int .i64 1099511627776]) (.int .i64 3)).run Tryz.prog w = .ok (.int .i64 1099511627776) w := by kernel_rfl

theorem infoEntR : (Tryz.prog.info? 101).map (fun i => (i.zero, i.size, i.bytes)) = some (some (.agg #[.slice none 0 0, .int .i64 0, .int .i64 0, .int .i64 0, .int .i64 0]), 5, 56) := by kernel_rfl

/-- What is taken of an entry may be. -/
structure EntT (e : EntP) : Prop where
  set : chkSet e.1 = true ∧ e.1.length ≤ 8 ∧ ∀ p ∈ e.1, p.1.size ≤ 40 ∧ p.2.size ≤ 40
  nums : e.2.1 ≤ 1048576 ∧ e.2.2.1 ≤ 1048576 ∧ 0 < e.2.2.1 ∧ e.2.2.2.1 ≤ e.2.2.2.2 ∧ e.2.2.2.2 ≤ 1099511627776

def restT (N : List Nat) (R : List UInt8) (j : Nat) : ByteArray := ⟨((N.drop j).flatMap lebL ++ R).toArray⟩

def numsC (N : List Nat) (j : Nat) : Array Value := ((N.take j ++ List.replicate (4 - j) 0).map fun x => Value.int .i64 ((x : Nat) : Int)).toArray

def ETRel (w : World) (rb xb nb : Nat) (P : List PairB) (v : Value) (N : List Nat) (R : List UInt8) (gk : Nat) (u0 u7 u24 : Value) (wr : World) : Prop :=
  ∃ j, j ≤ 4 ∧ gk = 4 - j ∧ u0 = .string (restT N R j) ∧ u7 = .int .i64 0 ∧ u24 = .int .i64 (j : Nat) ∧ wr.heap[nb]? = some (.cells (numsC N j) 193 (0, 0)) ∧ wr.heap[xb]? = some (.cells #[v, .int .i64 0, .int .i64 0, .int .i64 0, .int .i64 0] 101 (0, 0)) ∧
    wr.heap[rb]? = some (.cells #[.slice none 0 0, .int .i64 0, .int .i64 0, .int .i64 0, .int .i64 0] 101 (0, 0)) ∧ wr.ownsRow w.heap.size 131 2 v P.length (P.flatMap encPB) ∧ Keeps [] w wr

theorem set5of5 {w : World} {p : Nat} {t : TypeId} {a0 a1 a2 a3 a4 v0 v1 v2 v3 v4 : Value} {z : Nat × Nat} (h : w.heap[p]? = some (.cells #[a0, a1, a2, a3, a4] t z)) :
    ((((((w.setCell ⟨p, 0, none⟩ v0).setCell ⟨p, 1, none⟩ v1).setCell ⟨p, 2, none⟩ v2).setCell ⟨p, 3, none⟩ v3).setCell ⟨p, 4, none⟩ v4).heap[p]? = some (.cells #[v0, v1, v2, v3, v4] t z)) ∧ Keeps [p] w (((((w.setCell ⟨p, 0, none⟩ v0).setCell ⟨p, 1, none⟩ v1).setCell ⟨p, 2, none⟩ v2).setCell ⟨p, 3, none⟩ v3).setCell ⟨p, 4, none⟩ v4) := by
  have h0 := heap_cell_same (i := 0) h v0
  have h1 := heap_cell_same (i := 1) h0 v1
  have h2 := heap_cell_same (i := 2) h1 v2
  have h3 := heap_cell_same (i := 3) h2 v3
  have h4 := heap_cell_same (i := 4) h3 v4
  exact ⟨by simpa using h4, (((((Keeps.refl [p] w).setCell (.inl (by simp)) v0).setCell (.inl (by simp)) v1).setCell (.inl (by simp)) v2).setCell (.inl (by simp)) v3).setCell (.inl (by simp)) v4⟩

set_option linter.unusedSimpArgs false in
set_option maxRecDepth 100000 in
set_option maxHeartbeats 4000000 in
theorem entTake_spec (w : World) (s : ByteArray) (P : List PairB) (f n mn mx : Nat) (R : List UInt8) (hs : s.data.toList = entL (P, f, n, mn, mx) ++ R) (ht : EntT (P, f, n, mn, mx)) (hR : R.length ≤ 50000) :
    Calls Tryz.prog 110 #[.string s] w fun e w' => ∃ v, e = .returned (.tuple #[.agg #[v, .int .i64 (f : Nat), .int .i64 (n : Nat), .int .i64 (mn : Nat), .int .i64 (mx : Nat)], .string ⟨R.toArray⟩, .int .i64 0]) ∧ w'.ownsRow w.heap.size 131 2 v P.length (P.flatMap encPB) ∧ Keeps [] w w' := by
  obtain ⟨N, hN⟩ : ∃ N, N = [f, n, mn, mx] := ⟨_, rfl⟩
  obtain ⟨⟨hc, hP8, hpp⟩, hf, hn, hn0, hm, hmx⟩ := ht
  dsimp only at hc hP8 hpp hf hn hn0 hm hmx
  have hlb : ∀ x : Nat, x ≤ 1099511627776 → (lebL x).length ≤ 10 := fun x hx => lebL_len10 (v := x) (by omega)
  have hrl : ∀ j, (restT N R j).size ≤ 50040 := fun j => by
    show ((N.drop j).flatMap lebL ++ R).length ≤ _
    rw [hN]
    have h1 := hlb f (by omega)
    have h2 := hlb n (by omega)
    have h3 := hlb mn (by omega)
    have h4 := hlb mx (by omega)
    rcases (by omega : j = 0 ∨ j = 1 ∨ j = 2 ∨ j = 3 ∨ 4 ≤ j) with rfl | rfl | rfl | rfl | h
    · simp; omega
    · simp; omega
    · simp; omega
    · simp; omega
    · rw [List.drop_eq_nil_of_le (by simpa using h)]
      simp
      omega
  have Hrl := Lib.hid hrl
  have hr0 : (restT N R 0).data.toList = (lebL f ++ (lebL n ++ (lebL mn ++ lebL mx))) ++ R := by rw [hN]; simp [restT]
  obtain ⟨r, hr⟩ : ∃ r, r = w.heap.size := ⟨_, rfl⟩
  obtain ⟨W2, hW2⟩ : ∃ W2, W2 = (w.alloc (.cells #[.slice none 0 0, .int .i64 0, .int .i64 0, .int .i64 0, .int .i64 0] 101)).alloc (.cells #[.slice none 0 0, .int .i64 0, .int .i64 0, .int .i64 0, .int .i64 0] 101) := ⟨_, rfl⟩
  have k2 : Keeps [] w W2 := by rw [hW2]; exact ((Keeps.refl [] w).alloc _).alloc _
  have n2 : W2.heap[r]? = some (.cells #[.slice none 0 0, .int .i64 0, .int .i64 0, .int .i64 0, .int .i64 0] 101 (0, 0)) ∧ W2.heap[r + 1]? = some (.cells #[.slice none 0 0, .int .i64 0, .int .i64 0, .int .i64 0, .int .i64 0] 101 (0, 0)) := by rw [hW2, hr]; exact new2 w _ _
  have hsz2 : W2.heap.size = r + 2 := by rw [hW2, hr]; simp
  have H2 := Lib.hid (And.intro n2 (And.intro k2 (And.intro hsz2 hr)))
  have Hl := Lib.hid (labTake_spec W2 s P ((lebL f ++ (lebL n ++ (lebL mn ++ lebL mx))) ++ R) (by rw [hs]; simp [entL]) hc hP8 hpp (by
    have := Hrl.out 0
    rw [← hr0, dsize]
    omega))
  rw [← hr0, back_arr] at Hl
  obtain ⟨tz, htz⟩ : ∃ tz, tz = restT N R 0 := ⟨_, rfl⟩
  rw [← htz] at Hl
  have Htz := Lib.hid htz
  clear htz
  have HB := Lib.hid (And.intro hf (And.intro hn (And.intro hmx hN)))
  have hmmx : ¬ (mn : Int) > (mx : Int) := by omega
  have hnz : ¬ (n : Int) = 0 := by omega
  have hnzb : ((n : Int) == 0) = false := by rw [beq_eq_false_iff_ne]; exact hnz
  clear hs hc hP8 hpp hf hn hm hmx hlb hrl hr0 k2 n2 hsz2 hn0 hN
  go_enter Tryz.func110, Tryz.ntmps110
  go_upto_region 2 with fail
  rw [← hr, ← hW2]
  clear hW2 hr
  go_wp2_with fail
  refine Hl.out.mono ?_
  rintro e W3 ⟨v, rfl, hrow, hk3⟩
  obtain ⟨av, cv, rfl, -, -, -⟩ := row_slice hrow
  have H3 := Lib.hid (And.intro (hk3.at_ H2.out.1.1 (by simp)) (And.intro (hk3.at_ H2.out.1.2 (by simp)) (And.intro hrow (And.intro (H2.out.2.1.trans hk3) (by have := hk3.size; have := H2.out.2.2.1; omega : r + 2 ≤ W3.heap.size)))))
  clear hrow hk3
  have c5 := cells_at H3.out.2.1
  have f5 := free_at H3.out.2.1
  have l5 := lt_of_at H3.out.2.1
  go_upto_region 6 with fail
  have kS : Keeps [r + 1] W3 (W3.setCell ⟨r + 1, 0, none⟩ (.slice av P.length cv)) := (Keeps.refl _ W3).setCell (.inl (by simp)) _
  have nS : (W3.setCell ⟨r + 1, 0, none⟩ (.slice av P.length cv)).heap[r + 1]? = some (.cells #[.slice av P.length cv, .int .i64 0, .int .i64 0, .int .i64 0, .int .i64 0] 101 (0, 0)) := by
    have := heap_cell_same (i := 0) H3.out.2.1 (.slice av P.length cv)
    simpa using this
  generalize W3.setCell ⟨r + 1, 0, none⟩ (.slice av P.length cv) = W4 at kS nS ⊢
  have hrw : W4.ownsRow W2.heap.size 131 2 (.slice av P.length cv) P.length (P.flatMap encPB) := kS.row H3.out.2.2.1 (fun g hg hm => by
    have h1 := (World.ownsRow.lt H3.out.2.2.1 g hg).1
    have h2 := H2.out.2.2.1
    simp at hm
    omega)
  obtain ⟨nb, hnb⟩ : ∃ nb, nb = W4.heap.size := ⟨_, rfl⟩
  obtain ⟨W5, hW5⟩ : ∃ W5, W5 = W4.alloc (.cells #[.int .i64 0, .int .i64 0, .int .i64 0, .int .i64 0] 193) := ⟨_, rfl⟩
  have k5 : Keeps [] W4 W5 := by rw [hW5]; exact (Keeps.refl [] _).alloc _
  have n5 : W5.heap[nb]? = some (.cells #[.int .i64 0, .int .i64 0, .int .i64 0, .int .i64 0] 193 (0, 0)) := by rw [hW5, hnb]; exact heap_new W4 _
  have hnbr : r + 2 ≤ nb := by rw [hnb]; have := kS.size; have := H3.out.2.2.2.2; omega
  have hnr : ∀ g, (Value.slice av P.length cv).ownBlock = some g → g ≠ nb ∧ g ≠ r + 1 ∧ g ≠ r := fun g hg => by
    have h1 := World.ownsRow.lt hrw g hg
    have h2 := H2.out.2.2.1
    omega
  have H5 := Lib.hid (And.intro n5 (And.intro (k5.at_ nS (by simp)) (And.intro (k5.at_ (kS.at_ H3.out.1 (by simp)) (by simp)) (And.intro (k5.row (row_base hrw (b' := w.heap.size) H2.out.2.1.size) (by simp)) (And.intro ((H3.out.2.2.2.1.after kS (fun x hx => .inr (by simp at hx; have := H2.out.2.2.2; omega))).trans k5) (And.intro hnbr hnr))))))
  clear c5 f5 l5 kS nS hrw k5 n5 hnbr hnr
  go_upto_region 7 with fail
  rw [← hnb, ← hW5]
  clear hnb hW5
  go_wp2_with fail
  go_loopg [0, 7, 24] 4 (ETRel w r (r + 1) nb P (.slice av P.length cv) N R)
  case atStart => exact ⟨0, Nat.zero_le _, rfl, by rw [Htz.out], rfl, rfl, by rw [HB.out.2.2.2]; exact H5.out.1, H5.out.2.1, H5.out.2.2.1, H5.out.2.2.2.1, H5.out.2.2.2.2.1⟩
  case round =>
    obtain ⟨j, hj, hgk, rfl, rfl, rfl, hnb, hxb, hrb, hrow, hkr⟩ := hrel
    rcases (by omega : j = 0 ∨ j = 1 ∨ j = 2 ∨ j = 3 ∨ j = 4) with rfl | rfl | rfl | rfl | rfl
    · have hnb : wr.heap[nb]? = some (.cells #[.int .i64 0, .int .i64 0, .int .i64 0, .int .i64 0] 193 (0, 0)) := by rw [HB.out.2.2.2] at hnb; exact hnb
      have Hc := Lib.hid (takeMost_spec wr (restT N R 0) (by have := Hrl.out 0; unfold maxLen; omega) 1048576 (by decide))
      rw [show (restT N R 0).data.toList = lebL f ++ (restT N R 1).data.toList from by rw [HB.out.2.2.2]; simp [restT], takeM_leb (m := f) _ (by have := HB.out.1; have := HB.out.2.1; have := HB.out.2.2.1; omega) (by decide)] at Hc
      unfold takeMVals at Hc
      dsimp only at Hc
      rw [back_arr] at Hc
      have Hg := Lib.hid (And.intro hgk (And.intro hnb (And.intro hxb (And.intro hrb (And.intro hrow hkr)))))
      obtain ⟨t0, ht0⟩ : ∃ t0, t0 = restT N R 0 := ⟨_, rfl⟩
      obtain ⟨t1, ht1⟩ : ∃ t1, t1 = restT N R 1 := ⟨_, rfl⟩
      rw [← ht0, ← ht1] at Hc
      rw [← ht0]
      have Ht1 := Lib.hid ht1
      clear hgk hnb hxb hrb hrow hkr ht0 ht1
      rw [show ((0 : Nat) : Int) = 0 from rfl]
      have hix := ix4_0
      go_wp2_with fail
      refine Hc.out.mono ?_
      rintro e w2 ⟨rfl, m2, hw2⟩
      have k2 : Keeps [] wr w2 := by rw [hw2]; exact (Keeps.refl [] _).drewN _
      have n2 := k2.at_ Hg.out.2.1 (by simp)
      have cn := cells_at n2
      have fn := free_at n2
      have ln := lt_of_at n2
      have Hk2 := Lib.hid (And.intro n2 k2)
      clear hw2 k2 n2
      go_upto_region 11 with fail
      have kS : Keeps [nb] w2 (w2.setCell ⟨nb, 0, none⟩ (.int .i64 (f : Nat))) := (Keeps.refl _ w2).setCell (.inl (by simp)) _
      have nS : (w2.setCell ⟨nb, 0, none⟩ (.int .i64 (f : Nat))).heap[nb]? = some (.cells #[.int .i64 (f : Nat), .int .i64 0, .int .i64 0, .int .i64 0] 193 (0, 0)) := by
        have := heap_cell_same (i := 0) Hk2.out.1 (.int .i64 (f : Nat))
        simpa using this
      generalize w2.setCell ⟨nb, 0, none⟩ (.int .i64 (f : Nat)) = w3 at kS nS ⊢
      have hnbr := H5.out.2.2.2.2.2.1
      have k13 := (Hk2.out.2.mono (by simp) : Keeps [nb] wr w2).trans kS
      have H3 := Lib.hid (And.intro nS (And.intro (k13.at_ Hg.out.2.2.1 (by simp; omega)) (And.intro (k13.at_ Hg.out.2.2.2.1 (by simp; omega)) (And.intro (k13.row Hg.out.2.2.2.2.1 (fun g hg hm => (H5.out.2.2.2.2.2.2 g hg).1 (by simpa using hm))) (Hg.out.2.2.2.2.2.after k13 (fun x hx => .inr (by simp at hx; have := H2.out.2.2.2; omega)))))))
      clear cn fn ln kS nS k13
      go_wp2_with fail
      go_roundg (3)
      case measure => have := Hg.out.1; omega
      case rel => exact ⟨1, by decide, rfl, (by rw [← Ht1.out]), (by first | rfl | go_num), (by first | rfl | go_num), by rw [HB.out.2.2.2]; exact H3.out.1, H3.out.2.1, H3.out.2.2.1, H3.out.2.2.2.1, H3.out.2.2.2.2⟩
    · have hnb : wr.heap[nb]? = some (.cells #[.int .i64 (f : Nat), .int .i64 0, .int .i64 0, .int .i64 0] 193 (0, 0)) := by rw [HB.out.2.2.2] at hnb; exact hnb
      have Hc := Lib.hid (takeMost_spec wr (restT N R 1) (by have := Hrl.out 1; unfold maxLen; omega) 1048576 (by decide))
      rw [show (restT N R 1).data.toList = lebL n ++ (restT N R 2).data.toList from by rw [HB.out.2.2.2]; simp [restT], takeM_leb (m := n) _ (by have := HB.out.1; have := HB.out.2.1; have := HB.out.2.2.1; omega) (by decide)] at Hc
      unfold takeMVals at Hc
      dsimp only at Hc
      rw [back_arr] at Hc
      have Hg := Lib.hid (And.intro hgk (And.intro hnb (And.intro hxb (And.intro hrb (And.intro hrow hkr)))))
      obtain ⟨t0, ht0⟩ : ∃ t0, t0 = restT N R 1 := ⟨_, rfl⟩
      obtain ⟨t1, ht1⟩ : ∃ t1, t1 = restT N R 2 := ⟨_, rfl⟩
      rw [← ht0, ← ht1] at Hc
      rw [← ht0]
      have Ht1 := Lib.hid ht1
      clear hgk hnb hxb hrb hrow hkr ht0 ht1
      rw [show ((1 : Nat) : Int) = 1 from rfl]
      have hix := ix4_1
      go_wp2_with fail
      refine Hc.out.mono ?_
      rintro e w2 ⟨rfl, m2, hw2⟩
      have k2 : Keeps [] wr w2 := by rw [hw2]; exact (Keeps.refl [] _).drewN _
      have n2 := k2.at_ Hg.out.2.1 (by simp)
      have cn := cells_at n2
      have fn := free_at n2
      have ln := lt_of_at n2
      have Hk2 := Lib.hid (And.intro n2 k2)
      clear hw2 k2 n2
      go_upto_region 11 with fail
      have kS : Keeps [nb] w2 (w2.setCell ⟨nb, 1, none⟩ (.int .i64 (n : Nat))) := (Keeps.refl _ w2).setCell (.inl (by simp)) _
      have nS : (w2.setCell ⟨nb, 1, none⟩ (.int .i64 (n : Nat))).heap[nb]? = some (.cells #[.int .i64 (f : Nat), .int .i64 (n : Nat), .int .i64 0, .int .i64 0] 193 (0, 0)) := by
        have := heap_cell_same (i := 1) Hk2.out.1 (.int .i64 (n : Nat))
        simpa using this
      generalize w2.setCell ⟨nb, 1, none⟩ (.int .i64 (n : Nat)) = w3 at kS nS ⊢
      have hnbr := H5.out.2.2.2.2.2.1
      have k13 := (Hk2.out.2.mono (by simp) : Keeps [nb] wr w2).trans kS
      have H3 := Lib.hid (And.intro nS (And.intro (k13.at_ Hg.out.2.2.1 (by simp; omega)) (And.intro (k13.at_ Hg.out.2.2.2.1 (by simp; omega)) (And.intro (k13.row Hg.out.2.2.2.2.1 (fun g hg hm => (H5.out.2.2.2.2.2.2 g hg).1 (by simpa using hm))) (Hg.out.2.2.2.2.2.after k13 (fun x hx => .inr (by simp at hx; have := H2.out.2.2.2; omega)))))))
      clear cn fn ln kS nS k13
      go_wp2_with fail
      go_roundg (2)
      case measure => have := Hg.out.1; omega
      case rel => exact ⟨2, by decide, rfl, (by rw [← Ht1.out]), (by first | rfl | go_num), (by first | rfl | go_num), by rw [HB.out.2.2.2]; exact H3.out.1, H3.out.2.1, H3.out.2.2.1, H3.out.2.2.2.1, H3.out.2.2.2.2⟩
    · have hnb : wr.heap[nb]? = some (.cells #[.int .i64 (f : Nat), .int .i64 (n : Nat), .int .i64 0, .int .i64 0] 193 (0, 0)) := by rw [HB.out.2.2.2] at hnb; exact hnb
      have Hc := Lib.hid (takeMost_spec wr (restT N R 2) (by have := Hrl.out 2; unfold maxLen; omega) 1099511627776 (by decide))
      rw [show (restT N R 2).data.toList = lebL mn ++ (restT N R 3).data.toList from by rw [HB.out.2.2.2]; simp [restT], takeM_leb (m := mn) _ (by have := HB.out.1; have := HB.out.2.1; have := HB.out.2.2.1; omega) (by decide)] at Hc
      unfold takeMVals at Hc
      dsimp only at Hc
      rw [back_arr] at Hc
      have Hg := Lib.hid (And.intro hgk (And.intro hnb (And.intro hxb (And.intro hrb (And.intro hrow hkr)))))
      obtain ⟨t0, ht0⟩ : ∃ t0, t0 = restT N R 2 := ⟨_, rfl⟩
      obtain ⟨t1, ht1⟩ : ∃ t1, t1 = restT N R 3 := ⟨_, rfl⟩
      rw [← ht0, ← ht1] at Hc
      rw [← ht0]
      have Ht1 := Lib.hid ht1
      clear hgk hnb hxb hrb hrow hkr ht0 ht1
      rw [show ((2 : Nat) : Int) = 2 from rfl]
      have hix := ix4_2
      go_wp2_with fail
      refine Hc.out.mono ?_
      rintro e w2 ⟨rfl, m2, hw2⟩
      have k2 : Keeps [] wr w2 := by rw [hw2]; exact (Keeps.refl [] _).drewN _
      have n2 := k2.at_ Hg.out.2.1 (by simp)
      have cn := cells_at n2
      have fn := free_at n2
      have ln := lt_of_at n2
      have Hk2 := Lib.hid (And.intro n2 k2)
      clear hw2 k2 n2
      go_upto_region 11 with fail
      have kS : Keeps [nb] w2 (w2.setCell ⟨nb, 2, none⟩ (.int .i64 (mn : Nat))) := (Keeps.refl _ w2).setCell (.inl (by simp)) _
      have nS : (w2.setCell ⟨nb, 2, none⟩ (.int .i64 (mn : Nat))).heap[nb]? = some (.cells #[.int .i64 (f : Nat), .int .i64 (n : Nat), .int .i64 (mn : Nat), .int .i64 0] 193 (0, 0)) := by
        have := heap_cell_same (i := 2) Hk2.out.1 (.int .i64 (mn : Nat))
        simpa using this
      generalize w2.setCell ⟨nb, 2, none⟩ (.int .i64 (mn : Nat)) = w3 at kS nS ⊢
      have hnbr := H5.out.2.2.2.2.2.1
      have k13 := (Hk2.out.2.mono (by simp) : Keeps [nb] wr w2).trans kS
      have H3 := Lib.hid (And.intro nS (And.intro (k13.at_ Hg.out.2.2.1 (by simp; omega)) (And.intro (k13.at_ Hg.out.2.2.2.1 (by simp; omega)) (And.intro (k13.row Hg.out.2.2.2.2.1 (fun g hg hm => (H5.out.2.2.2.2.2.2 g hg).1 (by simpa using hm))) (Hg.out.2.2.2.2.2.after k13 (fun x hx => .inr (by simp at hx; have := H2.out.2.2.2; omega)))))))
      clear cn fn ln kS nS k13
      go_wp2_with fail
      go_roundg (1)
      case measure => have := Hg.out.1; omega
      case rel => exact ⟨3, by decide, rfl, (by rw [← Ht1.out]), (by first | rfl | go_num), (by first | rfl | go_num), by rw [HB.out.2.2.2]; exact H3.out.1, H3.out.2.1, H3.out.2.2.1, H3.out.2.2.2.1, H3.out.2.2.2.2⟩
    · have hnb : wr.heap[nb]? = some (.cells #[.int .i64 (f : Nat), .int .i64 (n : Nat), .int .i64 (mn : Nat), .int .i64 0] 193 (0, 0)) := by rw [HB.out.2.2.2] at hnb; exact hnb
      have Hc := Lib.hid (takeMost_spec wr (restT N R 3) (by have := Hrl.out 3; unfold maxLen; omega) 1099511627776 (by decide))
      rw [show (restT N R 3).data.toList = lebL mx ++ (restT N R 4).data.toList from by rw [HB.out.2.2.2]; simp [restT], takeM_leb (m := mx) _ (by have := HB.out.1; have := HB.out.2.1; have := HB.out.2.2.1; omega) (by decide)] at Hc
      unfold takeMVals at Hc
      dsimp only at Hc
      rw [back_arr] at Hc
      have Hg := Lib.hid (And.intro hgk (And.intro hnb (And.intro hxb (And.intro hrb (And.intro hrow hkr)))))
      obtain ⟨t0, ht0⟩ : ∃ t0, t0 = restT N R 3 := ⟨_, rfl⟩
      obtain ⟨t1, ht1⟩ : ∃ t1, t1 = restT N R 4 := ⟨_, rfl⟩
      rw [← ht0, ← ht1] at Hc
      rw [← ht0]
      have Ht1 := Lib.hid ht1
      clear hgk hnb hxb hrb hrow hkr ht0 ht1
      rw [show ((3 : Nat) : Int) = 3 from rfl]
      have hix := ix4_3
      go_wp2_with fail
      refine Hc.out.mono ?_
      rintro e w2 ⟨rfl, m2, hw2⟩
      have k2 : Keeps [] wr w2 := by rw [hw2]; exact (Keeps.refl [] _).drewN _
      have n2 := k2.at_ Hg.out.2.1 (by simp)
      have cn := cells_at n2
      have fn := free_at n2
      have ln := lt_of_at n2
      have Hk2 := Lib.hid (And.intro n2 k2)
      clear hw2 k2 n2
      go_upto_region 11 with fail
      have kS : Keeps [nb] w2 (w2.setCell ⟨nb, 3, none⟩ (.int .i64 (mx : Nat))) := (Keeps.refl _ w2).setCell (.inl (by simp)) _
      have nS : (w2.setCell ⟨nb, 3, none⟩ (.int .i64 (mx : Nat))).heap[nb]? = some (.cells #[.int .i64 (f : Nat), .int .i64 (n : Nat), .int .i64 (mn : Nat), .int .i64 (mx : Nat)] 193 (0, 0)) := by
        have := heap_cell_same (i := 3) Hk2.out.1 (.int .i64 (mx : Nat))
        simpa using this
      generalize w2.setCell ⟨nb, 3, none⟩ (.int .i64 (mx : Nat)) = w3 at kS nS ⊢
      have hnbr := H5.out.2.2.2.2.2.1
      have k13 := (Hk2.out.2.mono (by simp) : Keeps [nb] wr w2).trans kS
      have H3 := Lib.hid (And.intro nS (And.intro (k13.at_ Hg.out.2.2.1 (by simp; omega)) (And.intro (k13.at_ Hg.out.2.2.2.1 (by simp; omega)) (And.intro (k13.row Hg.out.2.2.2.2.1 (fun g hg hm => (H5.out.2.2.2.2.2.2 g hg).1 (by simpa using hm))) (Hg.out.2.2.2.2.2.after k13 (fun x hx => .inr (by simp at hx; have := H2.out.2.2.2; omega)))))))
      clear cn fn ln kS nS k13
      go_wp2_with fail
      go_roundg (0)
      case measure => have := Hg.out.1; omega
      case rel => exact ⟨4, by decide, rfl, (by rw [← Ht1.out]), (by first | rfl | go_num), (by first | rfl | go_num), by rw [HB.out.2.2.2]; exact H3.out.1, H3.out.2.1, H3.out.2.2.1, H3.out.2.2.2.1, H3.out.2.2.2.2⟩
    · have hnb : wr.heap[nb]? = some (.cells #[.int .i64 (f : Nat), .int .i64 (n : Nat), .int .i64 (mn : Nat), .int .i64 (mx : Nat)] 193 (0, 0)) := by rw [HB.out.2.2.2] at hnb; exact hnb
      have htR : restT N R 4 = ⟨R.toArray⟩ := by rw [HB.out.2.2.2]; rfl
      rw [htR]
      obtain ⟨tR, htR2⟩ : ∃ tR : ByteArray, tR = ⟨R.toArray⟩ := ⟨_, rfl⟩
      rw [← htR2]
      have HtR := Lib.hid htR2
      have Hg := Lib.hid (And.intro hnb (And.intro hxb (And.intro hrb (And.intro hrow hkr))))
      clear hgk hrow hkr htR htR2
      rw [show ((4 : Nat) : Int) = 4 from rfl]
      have cn := cells_at hnb
      have ln := lt_of_at hnb
      have cx := cells_at hxb
      have fx := free_at hxb
      have lx := lt_of_at hxb
      clear hnb hxb hrb
      have hne : nb ≠ r + 1 := by have := H5.out.2.2.2.2.2.1; omega
      have hne2 : r + 1 ≠ nb := Ne.symm hne
      go_upto_region 14 with fail
      go_region
      have k9 : Keeps [r + 1] wr ((((wr.setCell ⟨r + 1, 1, none⟩ (.int .i64 (f : Nat))).setCell ⟨r + 1, 2, none⟩ (.int .i64 (n : Nat))).setCell ⟨r + 1, 3, none⟩ (.int .i64 (mn : Nat))).setCell ⟨r + 1, 4, none⟩ (.int .i64 (mx : Nat))).drew := (((((Keeps.refl _ wr).setCell (.inl (by simp)) _).setCell (.inl (by simp)) _).setCell (.inl (by simp)) _).setCell (.inl (by simp)) _).drew
      have n9 : ((((wr.setCell ⟨r + 1, 1, none⟩ (.int .i64 (f : Nat))).setCell ⟨r + 1, 2, none⟩ (.int .i64 (n : Nat))).setCell ⟨r + 1, 3, none⟩ (.int .i64 (mn : Nat))).setCell ⟨r + 1, 4, none⟩ (.int .i64 (mx : Nat))).drew.heap[r + 1]? = some (.cells #[.slice av P.length cv, .int .i64 (f : Nat), .int .i64 (n : Nat), .int .i64 (mn : Nat), .int .i64 (mx : Nat)] 101 (0, 0)) := by
        have h1 := heap_cell_same (i := 1) Hg.out.2.1 (.int .i64 (f : Nat))
        have h2 := heap_cell_same (i := 2) h1 (.int .i64 (n : Nat))
        have h3 := heap_cell_same (i := 3) h2 (.int .i64 (mn : Nat))
        have h4 := heap_cell_same (i := 4) h3 (.int .i64 (mx : Nat))
        simp at h4
        exact h4
      generalize ((((wr.setCell ⟨r + 1, 1, none⟩ (.int .i64 (f : Nat))).setCell ⟨r + 1, 2, none⟩ (.int .i64 (n : Nat))).setCell ⟨r + 1, 3, none⟩ (.int .i64 (mn : Nat))).setCell ⟨r + 1, 4, none⟩ (.int .i64 (mx : Nat))).drew = w9 at k9 n9 ⊢
      have nr9 := k9.at_ Hg.out.2.2.1 (by simp)
      have H9 := Lib.hid (And.intro nr9 (And.intro (k9.row Hg.out.2.2.2.1 (fun g hg hm => (H5.out.2.2.2.2.2.2 g hg).2.1 (by simpa using hm))) (Hg.out.2.2.2.2.after k9 (fun x hx => .inr (by simp at hx; have := H2.out.2.2.2; omega)))))
      clear cn ln cx fx lx k9 hne hne2
      have cx := cells_at n9
      have lx := lt_of_at n9
      have cr := cells_at nr9
      have fr := free_at nr9
      have lr := lt_of_at nr9
      clear n9 nr9
      go_wp2_with fail
      obtain ⟨nF, kF⟩ := set5of5 (v0 := .slice av P.length cv) (v1 := .int .i64 (f : Nat)) (v2 := .int .i64 (n : Nat)) (v3 := .int .i64 (mn : Nat)) (v4 := .int .i64 (mx : Nat)) H9.out.1
      generalize ((((w9.setCell ⟨r, 0, none⟩ (.slice av P.length cv)).setCell ⟨r, 1, none⟩ (.int .i64 (f : Nat))).setCell ⟨r, 2, none⟩ (.int .i64 (n : Nat))).setCell ⟨r, 3, none⟩ (.int .i64 (mn : Nat))).setCell ⟨r, 4, none⟩ (.int .i64 (mx : Nat)) = w10 at nF kF ⊢
      clear cx lx cr fr lr
      have cr := cells_at nF
      have lr := lt_of_at nF
      refine bodyPost_ret (v := .tuple #[.agg #[.slice av P.length cv, .int .i64 (f : Nat), .int .i64 (n : Nat), .int .i64 (mn : Nat), .int .i64 (mx : Nat)], .string tR, .int .i64 0]) (by simp [results, Tryz.results110, go_sem, cr, lr]) rfl ?_
      exact ⟨_, by rw [HtR.out], kF.row H9.out.2.1 (fun g hg hm => (H5.out.2.2.2.2.2.2 g hg).2.2 (by simpa using hm)), H9.out.2.2.after kF (fun x hx => .inr (by simp at hx; have := H2.out.2.2.2; omega))⟩
end Go.Proofs.YtkffpcmminlndaaGreatDoor
