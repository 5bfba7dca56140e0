/-
  The document's one: the matcher of a text.
  The text is no longer than 1000000 bytes.
-/
import Derived.Test.YtjgaidojohgenaaDoorRCut
import Derived.Deep.CutBlock
namespace Go.Proofs.YtjgaidojohgenaaDoor
open Go Go.RowKit

def OneRel (w : World) (s : ByteArray) (gk : Nat) (u4 : Value) (wr : World) : Prop := ∃ i : Nat, i ≤ s.size ∧ gk = s.size - i ∧ u4 = .int .i64 i ∧ Lib.NoAny s.data.toList signs4 i ∧ wr.heap[w.heap.size]? = some (.cells #[.int .i64 0, .string ⟨#[]⟩, .slice none 0 0] 59 (0, 0)) ∧ Keeps [] w wr

/-- What is laid for a byte. -/
def OneAt (wr : World) (s : ByteArray) (i : Nat) (u5 : Value) (wc : World) : Prop := ∃ p5 q, u5 = .pointer (some ⟨p5, 0, none⟩) ∧ wr.heap.size ≤ p5 ∧ wr.heap.size ≤ q ∧
  wc.heap[p5]? = some (.cells #[.int .i64 0, .string (s.extract 0 i), .slice (some ⟨q, 0, none⟩) 1 1] 59 (0, 0)) ∧ wc.heap[q]? = some (.cells #[.string (s.extract (i + 1) s.size)] 9 (0, 0)) ∧ Keeps [] wr wc

theorem oneAt_1 (wr : World) (s : ByteArray) (i : Nat) : OneAt wr s i (.pointer (some ⟨wr.heap.size + 1, 0, none⟩)) (((wr.alloc (.cells #[.string (s.extract (i + 1) s.size)] 9)).alloc (.cells #[.int .i64 0, .string (s.extract 0 i), .slice (some ⟨wr.heap.size, 0, none⟩) 1 1] 59)).drew) :=
  ⟨wr.heap.size + 1, wr.heap.size, rfl, by omega, Nat.le_refl _, (new2 wr (.cells #[.string (s.extract (i + 1) s.size)] 9) (.cells #[.int .i64 0, .string (s.extract 0 i), .slice (some ⟨wr.heap.size, 0, none⟩) 1 1] 59)).2,
    (new2 wr (.cells #[.string (s.extract (i + 1) s.size)] 9) (.cells #[.int .i64 0, .string (s.extract 0 i), .slice (some ⟨wr.heap.size, 0, none⟩) 1 1] 59)).1, (((Keeps.refl [] wr).alloc _).alloc _).drew⟩

theorem oneAt_2 (wr : World) (s : ByteArray) (i : Nat) : OneAt wr s i (.pointer (some ⟨wr.heap.size, 0, none⟩)) (((wr.alloc (.cells #[.int .i64 0, .string (s.extract 0 i), .slice (some ⟨wr.heap.size + 1, 0, none⟩) 1 1] 59)).alloc (.cells #[.string (s.extract (i + 1) s.size)] 9)).drew) :=
  ⟨wr.heap.size, wr.heap.size + 1, rfl, Nat.le_refl _, by omega, (new2 wr (.cells #[.int .i64 0, .string (s.extract 0 i), .slice (some ⟨wr.heap.size + 1, 0, none⟩) 1 1] 59) (.cells #[.string (s.extract (i + 1) s.size)] 9)).1,
    (new2 wr (.cells #[.int .i64 0, .string (s.extract 0 i), .slice (some ⟨wr.heap.size + 1, 0, none⟩) 1 1] 59) (.cells #[.string (s.extract (i + 1) s.size)] 9)).2, (((Keeps.refl [] wr).alloc _).alloc _).drew⟩

def OnePost (w : World) (s : ByteArray) (e : Ending) (w' : World) : Prop := ∃ (k : Int) (n : ByteArray) (V : List ByteArray) (v : Value) (b : Bool), e = .returned (.tuple #[.agg #[.int .i64 k, .string n, v], .bool b]) ∧ w'.ownsRow w.heap.size 9 1 v V.length (V.map Value.string) ∧
  mparseB s = (if b = true then some (k, n, V) else none) ∧ Keeps [] w w'

def OnePick (w : World) (s : ByteArray) (p5 : Nat) (name : ByteArray) (wc : World) : Prop := ∃ (k : Int) (V : List ByteArray) (v : Value), wc.heap[p5]? = some (.cells #[.int .i64 k, .string name, v] 59 (0, 0)) ∧ wc.ownsRow w.heap.size 9 1 v V.length (V.map Value.string) ∧
  (∀ x ∈ V, x.size ≤ maxLen) ∧ mparseB s = (if chkB (k, name, V) = true then some (k, name, V) else none) ∧ wc.heap[w.heap.size]? = some (.cells #[.int .i64 0, .string ⟨#[]⟩, .slice none 0 0] 59 (0, 0)) ∧ Keeps [] w wc

set_option linter.unusedSimpArgs false in
set_option maxRecDepth 100000 in
set_option maxHeartbeats 1000000 in
theorem oneR_spec (w : World) (s : ByteArray) (hs : s.size ≤ 1000000) :
    Calls Tryd.prog 49 #[.string s] w (OnePost w s) := by
  have H0 := Lib.hid (And.intro (heap_new w (.cells #[.int .i64 0, .string ⟨#[]⟩, .slice none 0 0] 59)) ((Keeps.refl [] w).alloc (.cells #[.int .i64 0, .string ⟨#[]⟩, .slice none 0 0] 59)))
  go_enter Tryd.func49, Tryd.ntmps49
  go_wp2_with fail
  go_loopg [4] s.size (OneRel w s)
  case atStart => exact ⟨0, Nat.zero_le _, rfl, rfl, Lib.NoAny.zero _ _, H0.out.1, H0.out.2⟩
  case round =>
    obtain ⟨i, hi, hgk, rfl, hno, hzero, hkw⟩ := hrel
    have Hg := Lib.hid (And.intro hgk (And.intro hno (And.intro hzero hkw)))
    have hws := lt_of_at hzero
    clear hgk hno hzero hkw H0
    by_cases hlt : i < s.size
    · have hlt' : (i : Int) < (s.size : Int) := by omega
      have hi0 : (0 : Int) ≤ (i : Int) := by omega
      have hle : (i : Int) ≤ (s.size : Int) := by omega
      have hle1 : (i : Int) + 1 ≤ (s.size : Int) := by omega
      go_upto_region 4 with fail
      go_cut [5] from 12 to 20 (fun u5 wc => OneAt wr s i u5 wc)
      case first =>
        go_region
        all_goals (go_wp2_with fail; go_meet)
        · exact oneAt_1 wr s i
        · exact oneAt_2 wr s i
      case rest =>
        obtain ⟨p5, q, rfl, hp5, hq5, n5, nq, hkc⟩ := hcut
        have H1 := Lib.hid (And.intro n5 (And.intro nq (And.intro (hkc.at_ Hg.out.2.2.1 (by simp)) (Hg.out.2.2.2.trans hkc))))
        clear hkc
        obtain ⟨x, hx⟩ : ∃ x, x = s[i]'hlt := ⟨_, rfl⟩
        have Hx := Lib.hid hx
        clear hx
        by_cases hsg : signs4.contains x = true
        · have Hi := Lib.hid (idx_hit Hg.out.2.1 hlt Hx.out hsg)
          have hxs : x = 61 ∨ x = 33 ∨ x = 94 ∨ x = 64 := by simpa [signs4] using hsg
          clear hsg
          have Hrest := Lib.hid (show (s.extract i s.size).data.toList = x :: s.data.toList.drop (i + 1) from by rw [Hx.out]; exact rest_at hlt)
          have Hmp := Lib.hid (fun kv hp => mparseB_at Hi.out kv hp)
          go_upto_block 2 with fail
          go_cut [] from 21 to 59 (fun wc2 => OnePick w s p5 (s.extract 0 i) wc2)
          case first =>
            have f5 := free_at H1.out.1
            have l5 := lt_of_at H1.out.1
            have y0 : wc.cell? ⟨p5, 0, none⟩ = some (.int .i64 0) := cells_at H1.out.1 0
            have y1 : wc.cell? ⟨p5, 1, none⟩ = some (.string (s.extract 0 i)) := cells_at H1.out.1 1
            have y2 : wc.cell? ⟨p5, 2, none⟩ = some (.slice (some ⟨q, 0, none⟩) 1 1) := cells_at H1.out.1 2
            rcases hxs with rfl | rfl | rfl | rfl
            · have Hp := Lib.hid (Hmp.out (1, [s.extract (i + 1) s.size]) (by rw [extract_lst s (i + 1)]; exact pick_is Hrest.out))
              have b61 : ((s[i].toNat : Int) == 61) = true := by rw [beq_iff_eq, ← Hx.out]; decide
              go_wp2_with fail
              clear y0 y1 y2 f5 l5
              go_meet
              have g0 := heap_cell_same (i := 0) H1.out.1 (.int .i64 1)
              have kS : Keeps [p5] wc (wc.setCell ⟨p5, 0, none⟩ (.int .i64 1)) := (Keeps.refl _ wc).setCell (.inl (by simp)) _
              exact ⟨1, [s.extract (i + 1) s.size], _, by simpa using g0, own_cells (V := [s.extract (i + 1) s.size]) (by omega) (kS.at_ H1.out.2.1 (by simpa using ne_of_at H1.out.2.1 H1.out.1 (by simp))) (by simp [maxLen]), fun y hy => by rw [List.mem_singleton.1 hy, ByteArray.size_extract]; simp only [maxLen]; omega, Hp.out, kS.at_ H1.out.2.2.1 (by simp; omega), H1.out.2.2.2.after kS (fun y hy => .inr (by rw [show y = p5 from (by simpa using hy)]; omega))⟩
            · by_cases h2 : i + 1 < s.size
              · have h2' : (i : Int) + 1 < (s.size : Int) := by omega
                have h2'' : (i : Int) + 2 ≤ (s.size : Int) := by omega
                have Hr2 := Lib.hid (show s.data.toList.drop (i + 1) = s[i + 1]'h2 :: s.data.toList.drop (i + 2) from by
                  have hl : i + 1 < s.data.toList.length := by simpa using h2
                  rw [List.drop_eq_getElem_cons hl]
                  rfl)
                have b61 : ((s[i].toNat : Int) == 61) = false := by rw [beq_eq_false_iff_ne, ← Hx.out]; decide
                have b94 : ((s[i].toNat : Int) == 94) = false := by rw [beq_eq_false_iff_ne, ← Hx.out]; decide
                have b64 : ((s[i].toNat : Int) == 64) = false := by rw [beq_eq_false_iff_ne, ← Hx.out]; decide
                have b33 : ((s[i].toNat : Int) == 33) = true := by rw [beq_iff_eq, ← Hx.out]; decide
                by_cases h61 : s[i + 1]'h2 = 61
                · have Hp := Lib.hid (Hmp.out (2, [s.extract (i + 2) s.size]) (by rw [extract_lst s (i + 2)]; exact pick_not (by rw [Hrest.out, Hr2.out, h61])))
                  have c61 : ((s[i + 1].toNat : Int) == 61) = true := by rw [h61]; decide
                  go_wp2_with fail
                  clear y0 y1 y2 f5 l5
                  go_meet
                  have g0 := heap_cell_same (i := 2) (heap_cell_same (i := 0) H1.out.1 (.int .i64 2)) (.slice (some ⟨wc.heap.size, 0, none⟩) 1 1)
                  have kS : Keeps [p5] wc ((wc.setCell ⟨p5, 0, none⟩ (.int .i64 2)).setCell ⟨p5, 2, none⟩ (.slice (some ⟨wc.heap.size, 0, none⟩) 1 1)) := ((Keeps.refl _ wc).setCell (.inl (by simp)) _).setCell (.inl (by simp)) _
                  have kA : Keeps [] ((wc.setCell ⟨p5, 0, none⟩ (.int .i64 2)).setCell ⟨p5, 2, none⟩ (.slice (some ⟨wc.heap.size, 0, none⟩) 1 1)) (((wc.setCell ⟨p5, 0, none⟩ (.int .i64 2)).setCell ⟨p5, 2, none⟩ (.slice (some ⟨wc.heap.size, 0, none⟩) 1 1)).alloc (.cells #[.string (s.extract (i + 2) s.size)] 9)) := (Keeps.refl _ _).alloc _
                  have nq := heap_new ((wc.setCell ⟨p5, 0, none⟩ (.int .i64 2)).setCell ⟨p5, 2, none⟩ (.slice (some ⟨wc.heap.size, 0, none⟩) 1 1)) (.cells #[.string (s.extract (i + 2) s.size)] 9)
                  rw [show ((wc.setCell ⟨p5, 0, none⟩ (.int .i64 2)).setCell ⟨p5, 2, none⟩ (.slice (some ⟨wc.heap.size, 0, none⟩) 1 1)).heap.size = wc.heap.size from by simp] at nq
                  exact ⟨2, [s.extract (i + 2) s.size], _, by simpa using kA.at_ g0 (by simp), own_cells (V := [s.extract (i + 2) s.size]) H1.out.2.2.2.size nq (by simp [maxLen]), fun y hy => by rw [List.mem_singleton.1 hy, ByteArray.size_extract]; simp only [maxLen]; omega, Hp.out, kA.at_ (kS.at_ H1.out.2.2.1 (by simp; omega)) (by simp), (H1.out.2.2.2.after kS (fun y hy => .inr (by rw [show y = p5 from (by simpa using hy)]; omega))).trans kA⟩
                · have Hp := Lib.hid (Hmp.out (0, []) (pick_no Hrest.out (by rw [Hr2.out]; simpa using h61)))
                  have c61 : ((s[i + 1].toNat : Int) == 61) = false := by rw [beq_eq_false_iff_ne]; exact fun e => h61 (UInt8.toNat_inj.1 (by show _ = 61; omega))
                  go_wp2_with fail
                  go_meet
                  exact ⟨0, [s.extract (i + 1) s.size], _, H1.out.1, own_cells (V := [s.extract (i + 1) s.size]) (by omega) H1.out.2.1 (by simp [maxLen]), fun y hy => by rw [List.mem_singleton.1 hy, ByteArray.size_extract]; simp only [maxLen]; omega, by rw [Hp.out, chkB_zero, chkB_zero, if_neg (by decide), if_neg (by decide)], H1.out.2.2.1, H1.out.2.2.2⟩
              · have h2' : ¬ (i : Int) + 1 < (s.size : Int) := by omega
                have Hp := Lib.hid (Hmp.out (0, []) (pick_no Hrest.out (by rw [List.drop_of_length_le (by simpa using h2)]; decide)))
                have b61 : ((s[i].toNat : Int) == 61) = false := by rw [beq_eq_false_iff_ne, ← Hx.out]; decide
                have b94 : ((s[i].toNat : Int) == 94) = false := by rw [beq_eq_false_iff_ne, ← Hx.out]; decide
                have b64 : ((s[i].toNat : Int) == 64) = false := by rw [beq_eq_false_iff_ne, ← Hx.out]; decide
                have b33 : ((s[i].toNat : Int) == 33) = true := by rw [beq_iff_eq, ← Hx.out]; decide
                go_wp2_with fail
                go_meet
                exact ⟨0, [s.extract (i + 1) s.size], _, H1.out.1, own_cells (V := [s.extract (i + 1) s.size]) (by omega) H1.out.2.1 (by simp [maxLen]), fun y hy => by rw [List.mem_singleton.1 hy, ByteArray.size_extract]; simp only [maxLen]; omega, by rw [Hp.out, chkB_zero, chkB_zero, if_neg (by decide), if_neg (by decide)], H1.out.2.2.1, H1.out.2.2.2⟩
            · have Hp := Lib.hid (Hmp.out (3, [s.extract (i + 1) s.size]) (by rw [extract_lst s (i + 1)]; exact pick_begins Hrest.out))
              have b61 : ((s[i].toNat : Int) == 61) = false := by rw [beq_eq_false_iff_ne, ← Hx.out]; decide
              have b94 : ((s[i].toNat : Int) == 94) = true := by rw [beq_iff_eq, ← Hx.out]; decide
              go_wp2_with fail
              clear y0 y1 y2 f5 l5
              go_meet
              have g0 := heap_cell_same (i := 0) H1.out.1 (.int .i64 3)
              have kS : Keeps [p5] wc (wc.setCell ⟨p5, 0, none⟩ (.int .i64 3)) := (Keeps.refl _ wc).setCell (.inl (by simp)) _
              exact ⟨3, [s.extract (i + 1) s.size], _, by simpa using g0, own_cells (V := [s.extract (i + 1) s.size]) (by omega) (kS.at_ H1.out.2.1 (by simpa using ne_of_at H1.out.2.1 H1.out.1 (by simp))) (by simp [maxLen]), fun y hy => by rw [List.mem_singleton.1 hy, ByteArray.size_extract]; simp only [maxLen]; omega, Hp.out, kS.at_ H1.out.2.2.1 (by simp; omega), H1.out.2.2.2.after kS (fun y hy => .inr (by rw [show y = p5 from (by simpa using hy)]; omega))⟩
            · have Hp := Lib.hid (Hmp.out (4, partsB 124 (s.extract (i + 1) s.size)) (by rw [extract_lst s (i + 1)]; exact pick_among Hrest.out))
              have b61 : ((s[i].toNat : Int) == 61) = false := by rw [beq_eq_false_iff_ne, ← Hx.out]; decide
              have b94 : ((s[i].toNat : Int) == 94) = false := by rw [beq_eq_false_iff_ne, ← Hx.out]; decide
              have b64 : ((s[i].toNat : Int) == 64) = true := by rw [beq_iff_eq, ← Hx.out]; decide
              go_wp2_with fail
              have g0 := heap_cell_same (i := 0) H1.out.1 (.int .i64 4)
              have kS : Keeps [p5] wc (wc.setCell ⟨p5, 0, none⟩ (.int .i64 4)) := (Keeps.refl _ wc).setCell (.inl (by simp)) _
              have H2 := Lib.hid (And.intro g0 (And.intro (kS.at_ H1.out.2.2.1 (by simp; omega)) (H1.out.2.2.2.after kS (fun y hy => .inr (by rw [show y = p5 from (by simpa using hy)]; omega)))))
              clear y0 y1 y2 f5 l5 g0 kS
              refine (cutR_spec _ (s.extract (i + 1) s.size) 124 (by rw [ByteArray.size_extract]; omega)).mono ?_
              rintro e w6 ⟨v6, rfl, hr6, hk6⟩
              obtain ⟨a6, c6, rfl, -, -, -⟩ := row_slice hr6
              have H6 := Lib.hid (And.intro (row_base (b' := w.heap.size) hr6 (by have := H2.out.2.2.size; omega)) (go1 hk6 H2.out))
              clear hr6 hk6 H2
              have f5 := free_at H6.out.2.1
              have l5 := lt_of_at H6.out.2.1
              have y0 : w6.cell? ⟨p5, 0, none⟩ = some (.int .i64 4) := (cells_at H6.out.2.1 0).trans (by simp)
              have y1 : w6.cell? ⟨p5, 1, none⟩ = some (.string (s.extract 0 i)) := (cells_at H6.out.2.1 1).trans (by simp)
              have y2 : w6.cell? ⟨p5, 2, none⟩ = some (.slice (some ⟨q, 0, none⟩) 1 1) := (cells_at H6.out.2.1 2).trans (by simp)
              have hps := parts_sizes 124 _ (s.extract (i + 1) s.size) (Nat.le_refl _)
              have Hps := Lib.hid hps
              clear hps
              generalize partsB 124 (s.extract (i + 1) s.size) = V at H6 Hp Hps ⊢
              go_wp2_with fail
              clear y0 y1 y2 f5 l5
              go_meet
              have g2 := heap_cell_same (i := 2) H6.out.2.1 (.slice a6 V.length c6)
              have kC : Keeps [p5] w6 (w6.setCell ⟨p5, 2, none⟩ (.slice a6 V.length c6)) := (Keeps.refl _ w6).setCell (.inl (by simp)) _
              exact ⟨4, V, _, by simpa using g2, kC.row H6.out.1 (fun g hg => fun hm => row_ne_cells H6.out.1 H6.out.2.1 (by decide) g hg (by simpa using hm)), fun y hy => by have := Hps.out.2 y hy; rw [ByteArray.size_extract] at this; simp only [maxLen]; omega, Hp.out, kC.at_ H6.out.2.2.1 (by simp; omega), H6.out.2.2.2.after kC (fun y hy => .inr (by rw [show y = p5 from (by simpa using hy)]; omega))⟩
          case rest =>
            obtain ⟨k, V, v, m5, hrow, hVs, hmp, m0, hkw⟩ := hcut
            obtain ⟨av, cv, rfl, -, -, -⟩ := row_slice hrow
            have HC := Lib.hid (And.intro m5 (And.intro hrow (And.intro m0 hkw)))
            have HM := Lib.hid (And.intro hVs hmp)
            clear hrow hVs hmp hxs hlt' hi0 hle hle1 H1 Hmp Hrest Hx
            have hn := Lib.hid (show (s.extract 0 i).size ≤ maxLen from by rw [ByteArray.size_extract]; simp only [maxLen]; omega)
            generalize s.extract 0 i = name at m5 HC HM hn ⊢
            have y0 : wc.drew.cell? ⟨p5, 0, none⟩ = some (.int .i64 k) := cells_at m5 0
            have y1 : wc.drew.cell? ⟨p5, 1, none⟩ = some (.string name) := cells_at m5 1
            have y2 : wc.drew.cell? ⟨p5, 2, none⟩ = some (.slice av V.length cv) := cells_at m5 2
            have HW : Keeps [] wc wc.drew := (Keeps.refl [] wc).drew
            have HD := Lib.hid (go1 HW HC.out)
            clear m5 m0 hkw HW
            go_upto_region 17 with fail
            refine wp_region_held_drew (S := fun w' => w'.cell? ⟨p5, 0, none⟩ = some (.int .i64 k) ∧ w'.cell? ⟨p5, 1, none⟩ = some (.string name) ∧ w'.cell? ⟨p5, 2, none⟩ = some (.slice av V.length cv)) (by kernel_rfl) ⟨y0, y1, y2⟩ (fun hS => ?_)
            generalize wc.drew = W0 at HD hS y0 y1 y2 ⊢
            refine wpAnyH_take (i := 0) (v := ?_) rfl (by kernel_rfl) (by kernel_rfl) (by kernel_rfl) (fun _ _ _ h => h) (Or.inl ⟨by rfl, ?_⟩) (by assumption) ?_
            rotate_left
            · intro w' hSw; obtain ⟨s1, s2, s3⟩ := hSw; go_simp; (try with_reducible rfl)
            simp only [Act.put, List.getElem_toArray, List.getElem_cons_succ, List.getElem_cons_zero, List.setIfInBounds_toArray, List.set_cons_zero, List.set_cons_succ]
            refine wpAnyH_take (i := 1) (v := ?_) rfl (by kernel_rfl) (by kernel_rfl) (by kernel_rfl) (fun _ _ _ h => h) (Or.inl ⟨by rfl, ?_⟩) (by assumption) ?_
            rotate_left
            · intro w' hSw; obtain ⟨s1, s2, s3⟩ := hSw; go_simp; (try with_reducible rfl)
            simp only [Act.put, List.getElem_toArray, List.getElem_cons_succ, List.getElem_cons_zero, List.setIfInBounds_toArray, List.set_cons_zero, List.set_cons_succ]
            refine wpAnyH_ready (rs := [2]) (by kernel_rfl) (by simp) ?_
            refine AllReadyH.cons rfl (fun K hK => ?_) AllReadyH.nil
            go_simp
            go_at_call 28
            refine (chkR_spec W0 k name _ V (row_texts HD.out.2.1) hn.out HM.out.1).mono ?_
            rintro e A1 ⟨rfl, kA1⟩
            have HE := Lib.hid (go1 kA1 HD.out)
            clear y0 y1 y2
            have y0 : A1.cell? ⟨p5, 0, none⟩ = some (.int .i64 k) := cells_at HE.out.1 0
            have y1 : A1.cell? ⟨p5, 1, none⟩ = some (.string name) := cells_at HE.out.1 1
            have y2 : A1.cell? ⟨p5, 2, none⟩ = some (.slice av V.length cv) := cells_at HE.out.1 2
            go_simp
            refine hK.out _ _ ⟨y0, y1, y2⟩ (fun hS => ?_)
            clear hK K
            try simp only [Act.put, List.getElem_toArray, List.getElem_cons_succ, List.getElem_cons_zero, List.setIfInBounds_toArray, List.set_cons_zero, List.set_cons_succ]
            have lz := lt_of_at HE.out.2.2.1
            have fz := free_at HE.out.2.2.1
            have cz0 : A1.cell? ⟨w.heap.size, 0, none⟩ = some (.int .i64 0) := cells_at HE.out.2.2.1 0
            have cz1 : A1.cell? ⟨w.heap.size, 1, none⟩ = some (.string ⟨#[]⟩) := cells_at HE.out.2.2.1 1
            have cz2 : A1.cell? ⟨w.heap.size, 2, none⟩ = some (.slice none 0 0) := cells_at HE.out.2.2.1 2
            obtain ⟨W9, hW9, n9, k9⟩ := set3 HE.out.2.2.1 (.int .i64 k) (.string name) (.slice av V.length cv)
            have m9 := k9.at_ HE.out.1 (by simp; omega)
            refine wpAnyH_ready (rs := [3]) (by kernel_rfl) (by simp) ?_
            refine AllReadyH.cons rfl (fun K hK => ?_) AllReadyH.nil
            go_simp
            rw [← hW9]
            clear hW9
            have z0 : W9.cell? ⟨p5, 0, none⟩ = some (.int .i64 k) := cells_at m9 0
            have z1 : W9.cell? ⟨p5, 1, none⟩ = some (.string name) := cells_at m9 1
            have z2 : W9.cell? ⟨p5, 2, none⟩ = some (.slice av V.length cv) := cells_at m9 2
            go_simp
            refine hK.out _ _ ⟨z0, z1, z2⟩ (fun hS => ?_)
            clear hK K
            try simp only [Act.put, List.getElem_toArray, List.getElem_cons_succ, List.getElem_cons_zero, List.setIfInBounds_toArray, List.set_cons_zero, List.set_cons_succ]
            refine wpAnyH_ready (rs := [4]) (by kernel_rfl) (by simp) ?_
            refine AllReadyH.cons rfl (fun K hK => ?_) AllReadyH.nil
            go_simp
            go_simp
            refine hK.out _ _ ⟨z0, z1, z2⟩ (fun hS => ?_)
            clear hK K
            try simp only [Act.put, List.getElem_toArray, List.getElem_cons_succ, List.getElem_cons_zero, List.setIfInBounds_toArray, List.set_cons_zero, List.set_cons_succ]
            refine wpAnyH_done (by kernel_rfl) ?_ _
            have HF := Lib.hid (And.intro n9 k9)
            clear lz fz cz0 cz1 cz2 n9 k9 m9 z0 z1 z2 hS y0 y1 y2 kA1
            generalize hcb : chkB (k, name, V) = cb
            have HB := Lib.hid hcb
            clear hcb
            go_wp2_with fail
            have x0 : W9.cell? ⟨w.heap.size, 0, none⟩ = some (.int .i64 k) := cells_at HF.out.1 0
            have x1 : W9.cell? ⟨w.heap.size, 1, none⟩ = some (.string name) := cells_at HF.out.1 1
            have x2 : W9.cell? ⟨w.heap.size, 2, none⟩ = some (.slice av V.length cv) := cells_at HF.out.1 2
            refine bodyPost_ret (v := .tuple #[.agg #[.int .i64 k, .string name, .slice av V.length cv], .bool cb]) (by simp [results, Tryd.results49, go_sem, x0, x1, x2]) rfl ?_
            exact ⟨k, name, V, _, cb, rfl, HF.out.2.row HE.out.2.1 (fun g hg => fun hm => row_ne_cells HE.out.2.1 HE.out.2.2.1 (by decide) g hg (by simpa using hm)), by rw [HM.out.2, HB.out], HE.out.2.2.2.after HF.out.2 (fun y hy => .inr (by rw [show y = w.heap.size from (by simpa using hy)]; exact Nat.le_refl _))⟩
        · have Hns := Lib.hid (show signs4.contains x = false from by simpa using hsg)
          have h61 : ¬ x = 61 := fun e => hsg (by rw [e]; decide)
          have h33 : ¬ x = 33 := fun e => hsg (by rw [e]; decide)
          have h94 : ¬ x = 94 := fun e => hsg (by rw [e]; decide)
          have h64 : ¬ x = 64 := fun e => hsg (by rw [e]; decide)
          have toI : ∀ y : UInt8, ¬ x = y → ¬ (s[i].toNat : Int) = (y.toNat : Int) := fun y h e => h (by rw [Hx.out]; exact UInt8.toNat_inj.1 (by omega))
          have b61 : ((s[i].toNat : Int) == 61) = false := by rw [beq_eq_false_iff_ne]; exact toI 61 h61
          have b33 : ((s[i].toNat : Int) == 33) = false := by rw [beq_eq_false_iff_ne]; exact toI 33 h33
          have b94 : ((s[i].toNat : Int) == 94) = false := by rw [beq_eq_false_iff_ne]; exact toI 94 h94
          have b64 : ((s[i].toNat : Int) == 64) = false := by rw [beq_eq_false_iff_ne]; exact toI 64 h64
          clear hsg h61 h33 h94 h64 toI
          go_wp2_with fail
          go_roundg (s.size - (i + 1))
          case measure => have := Hg.out.1; omega
          case rel => exact ⟨i + 1, hlt, rfl, by go_num, Hg.out.2.1.succ (by rw [Hx.out]; exact Lib.data_getElem? s i hlt) Hns.out, H1.out.2.2.1, H1.out.2.2.2⟩
    · have hlt' : ¬ (i : Int) < (s.size : Int) := by omega
      have hie := Lib.hid (show i = s.size from by omega)
      have fz := free_at Hg.out.2.2.1
      have cz0 : wr.cell? ⟨w.heap.size, 0, none⟩ = some (.int .i64 0) := cells_at Hg.out.2.2.1 0
      have cz1 : wr.cell? ⟨w.heap.size, 1, none⟩ = some (.string ⟨#[]⟩) := cells_at Hg.out.2.2.1 1
      have cz2 : wr.cell? ⟨w.heap.size, 2, none⟩ = some (.slice none 0 0) := cells_at Hg.out.2.2.1 2
      go_wp2_with fail
      obtain ⟨W9, hW9, n9, k9⟩ := set3 Hg.out.2.2.1 (.int .i64 0) (.string ⟨#[]⟩) (.slice none 0 0)
      rw [← hW9]
      have x0 : W9.cell? ⟨w.heap.size, 0, none⟩ = some (.int .i64 0) := cells_at n9 0
      have x1 : W9.cell? ⟨w.heap.size, 1, none⟩ = some (.string ⟨#[]⟩) := cells_at n9 1
      have x2 : W9.cell? ⟨w.heap.size, 2, none⟩ = some (.slice none 0 0) := cells_at n9 2
      refine bodyPost_ret (v := .tuple #[.agg #[.int .i64 0, .string ⟨#[]⟩, .slice none 0 0], .bool false]) (by simp [results, Tryd.results49, go_sem, x0, x1, x2]) rfl ?_
      have hn := Hg.out.2.1
      rw [hie.out] at hn
      exact ⟨0, ⟨#[]⟩, [], _, false, rfl, World.ownsRow_nil _ _ _ 1, by rw [mparseB_none (idx_none hn)]; rfl, Hg.out.2.2.2.after k9 (fun y hy => .inr (by rw [show y = w.heap.size from (by simpa using hy)]; exact Nat.le_refl _))⟩
end Go.Proofs.YtjgaidojohgenaaDoor
