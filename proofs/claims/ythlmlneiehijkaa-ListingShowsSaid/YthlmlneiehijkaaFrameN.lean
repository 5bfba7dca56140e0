/-
  The record at the beginning of bytes (frame.Next).
  The contract holds in every world; old memory is left as it was.
-/
import Derived.Test.YthlmlneiehijkaaFrame
import Derived.RegionTactic
import Derived.ChangeAlike
import Derived.Lib.EndianBits
namespace Go.Proofs.Ythlmlneiehijkaa
open Go Go.RowKit

def nextVals (r : UInt8 × List UInt8 × List UInt8 × Int) : Value := .tuple #[.agg #[.int .u8 r.1.toNat, .string ⟨r.2.1.toArray⟩], .string ⟨r.2.2.1.toArray⟩, .int .i64 r.2.2.2]

def NextPost (w : World) (r : UInt8 × List UInt8 × List UInt8 × Int) (e : Ending) (w' : World) : Prop := e = .returned (nextVals r) ∧ Keeps [] w w'


set_option linter.unusedSimpArgs false in
set_option maxRecDepth 100000 in
set_option maxHeartbeats 1000000 in
theorem next_spec (w : World) (s : ByteArray) (hs : s.size ≤ 140737488355000) :
    Calls Try.prog 32 #[.string s] w (NextPost w (nextF s.data.toList)) := by
  have Hb := Lib.hid (fun w => takeByte_spec w s (by unfold maxLen; omega))
  have hd := dsize s
  have q1 := heap_new w (.cells #[.int .u8 0, .string ⟨#[]⟩] 76)
  have k1 := (Keeps.refl [] w).alloc (.cells #[.int .u8 0, .string ⟨#[]⟩] 76)
  cases hl : s.data.toList with
  | nil =>
    rw [hl] at Hb
    have Hr := Lib.hid (show nextF [] = (0, [], [], 2) from rfl)
    clear hl hd
    go_enter Try.func32, Try.ntmps32
    go_wp2_with fail
    generalize w.alloc (.cells #[.int .u8 0, .string ⟨#[]⟩] 76) = w1 at q1 k1 ⊢
    refine (Hb.out w1).mono ?_
    rintro e w2 ⟨rfl, nq, rfl⟩
    simp only [byteVals]
    have k2 := k1.drewN nq
    have q2 : (w1.drewN nq).heap[w.heap.size]? = _ := q1
    clear k1 q1
    generalize w1.drewN nq = w2 at k2 q2 ⊢
    have t := heap_cell_same (i := 1) (heap_cell_same (i := 0) q2 (.int .u8 0)) (.string ⟨#[]⟩)
    have kq : Keeps [] w ((w2.setCell ⟨w.heap.size, 0, none⟩ (.int .u8 0)).setCell ⟨w.heap.size, 1, none⟩ (.string ⟨#[]⟩)) := (k2.setCell (.inr (Nat.le_refl _)) _).setCell (.inr (Nat.le_refl _)) _
    have Hfin := Lib.hid (And.intro t kq)
    have c2 := cells_at q2
    have f2 := free_at q2
    have l2 := lt_of_at q2
    clear t kq k2 q2
    go_wp2_with fail
    have hc := cells_at Hfin.out.1
    refine bodyPost_ret (v := .tuple #[.agg #[.int .u8 0, .string ⟨#[]⟩], .string ⟨#[]⟩, .int .i64 2]) ?_ rfl ⟨by rw [Hr.out]; rfl, Hfin.out.2⟩
    simp [results, Try.results32, go_sem, hc, l2]
  | cons k r =>
    rw [hl] at Hb hd
    simp only [List.length_cons] at hd
    obtain ⟨rs, hrs⟩ : ∃ rs : ByteArray, rs = ⟨r.toArray⟩ := ⟨_, rfl⟩
    have hrd : rs.data.toList = r := by rw [hrs]
    have hrl : rs.size = r.length := by rw [hrs]; rfl
    have Hm := Lib.hid (fun w => takeMost_spec w rs (by unfold maxLen; omega) 1048576 (by decide))
    rw [hrd] at Hm
    have hbd := takeM_bounds r (most := 1048576) (by decide)
    have herr := @takeM_err r 1048576
    have hN : nextF (k :: r) = (if (takeM r 1048576).2.2 ≠ 0 then (0, [], [], (takeM r 1048576).2.2)
      else if ((takeM r 1048576).2.1.length : Int) < 4 + (takeM r 1048576).1 then (0, [], [], 2)
      else if moreN 0 (k :: ((takeM r 1048576).2.1.drop 4).take (takeM r 1048576).1.toNat) ≠ un4 (takeM r 1048576).2.1 then (0, [], [], 4)
      else (k, ((takeM r 1048576).2.1.drop 4).take (takeM r 1048576).1.toNat, (takeM r 1048576).2.1.drop (4 + (takeM r 1048576).1.toNat), 0)) := rfl
    generalize nextF (k :: r) = R at hN
    generalize takeM r 1048576 = m at Hm hbd herr hN
    obtain ⟨n, rest, er⟩ := m
    simp only at hbd hN herr
    have Hrs := Lib.hid hrs
    have Hsl := Lib.hid (And.intro hl hd)
    clear hl hd hrs hrd
    by_cases he : er = 0
    · subst he
      rw [if_neg (fun h => h rfl)] at hN
      obtain ⟨ts, hts⟩ : ∃ ts : ByteArray, ts = ⟨rest.toArray⟩ := ⟨_, rfl⟩
      have htl : ts.size = rest.length := by rw [hts]; rfl
      have Hts := Lib.hid (And.intro hts (show ts.data.toList = rest from by rw [hts]))
      obtain ⟨j, rfl⟩ : ∃ j : Nat, n = j := ⟨n.toNat, by omega⟩
      clear hts herr
      by_cases hsh : (rest.length : Int) < 4 + (j : Int)
      · rw [if_pos hsh] at hN
        have Hr := Lib.hid hN
        have hsh' : (ts.size : Int) < 4 + (j : Int) := by omega
        clear hN hsh htl
        go_enter Try.func32, Try.ntmps32
        go_wp2_with fail
        generalize w.alloc (.cells #[.int .u8 0, .string ⟨#[]⟩] 76) = w1 at q1 k1 ⊢
        refine (Hb.out w1).mono ?_
        rintro e w2 ⟨rfl, nq, rfl⟩
        simp only [byteVals]
        rw [← Hrs.out]
        go_wp2_with fail
        refine (Hm.out _).mono ?_
        rintro e w2 ⟨rfl, nq2, rfl⟩
        simp only [takeMVals]
        rw [← Hts.out.1]
        have k2 := (k1.drewN nq).drewN nq2
        have q2 : ((w1.drewN nq).drewN nq2).heap[w.heap.size]? = _ := q1
        clear k1 q1
        generalize (w1.drewN nq).drewN nq2 = w2 at k2 q2 ⊢
        have t := heap_cell_same (i := 1) (heap_cell_same (i := 0) q2 (.int .u8 0)) (.string ⟨#[]⟩)
        have kq : Keeps [] w ((w2.setCell ⟨w.heap.size, 0, none⟩ (.int .u8 0)).setCell ⟨w.heap.size, 1, none⟩ (.string ⟨#[]⟩)) := (k2.setCell (.inr (Nat.le_refl _)) _).setCell (.inr (Nat.le_refl _)) _
        have Hfin := Lib.hid (And.intro t kq)
        have c2 := cells_at q2
        have f2 := free_at q2
        have l2 := lt_of_at q2
        clear t kq k2 q2
        go_wp2_with fail
        have hc := cells_at Hfin.out.1
        refine bodyPost_ret (v := .tuple #[.agg #[.int .u8 0, .string ⟨#[]⟩], .string ⟨#[]⟩, .int .i64 2]) ?_ rfl ⟨by rw [Hr.out]; rfl, Hfin.out.2⟩
        simp [results, Try.results32, go_sem, hc, l2]
      · rw [if_neg hsh] at hN
        have b0 : 4 + j ≤ ts.size := by omega
        have b1 : (4 : Int) + (j : Int) ≤ (ts.size : Int) := by omega
        have b2 : (0 : Int) < (ts.size : Int) := by omega
        have b3 : (1 : Int) < (ts.size : Int) := by omega
        have b4 : (2 : Int) < (ts.size : Int) := by omega
        have b5 : (3 : Int) < (ts.size : Int) := by omega
        have b6 : 3 < ts.size := by omega
        have b7 : 0 < ts.size := by omega
        have b8 : 1 < ts.size := by omega
        have b9 : 2 < ts.size := by omega
        have g0 := UInt8.toNat_lt ts[0]
        have g1 := UInt8.toNat_lt ts[1]
        have g2 := UInt8.toNat_lt ts[2]
        have g3 := UInt8.toNat_lt ts[3]
        have hsh' : ¬ (ts.size : Int) < 4 + (j : Int) := by omega
        have HN := Lib.hid hN
        have Htl := Lib.hid htl
        clear hN hsh htl
        go_enter Try.func32, Try.ntmps32
        go_wp2_with fail
        generalize w.alloc (.cells #[.int .u8 0, .string ⟨#[]⟩] 76) = w1 at q1 k1 ⊢
        refine (Hb.out w1).mono ?_
        rintro e w2 ⟨rfl, nq, rfl⟩
        simp only [byteVals]
        rw [← Hrs.out]
        go_wp2_with fail
        refine (Hm.out _).mono ?_
        rintro e w2 ⟨rfl, nq2, rfl⟩
        simp only [takeMVals]
        rw [← Hts.out.1]
        have k2 := (k1.drewN nq).drewN nq2
        have q2 : ((w1.drewN nq).drewN nq2).heap[w.heap.size]? = _ := q1
        clear k1 q1
        generalize (w1.drewN nq).drewN nq2 = w2 at k2 q2 ⊢
        go_upto_region 9 with fail
        have r1 : bits .or .u32 (ts[0].toNat : Int) ((ts[1].toNat : Int) * (256 : Int)) = (ts[0].toNat : Int) + (ts[1].toNat : Int) * (256 : Int) := u32_or8 _ _ (by omega) (by omega) (by omega) (by omega) (by omega)
        have r2 : bits .or .u32 ((ts[0].toNat : Int) + (ts[1].toNat : Int) * (256 : Int)) ((ts[2].toNat : Int) * (65536 : Int)) = (ts[0].toNat : Int) + (ts[1].toNat : Int) * (256 : Int) + (ts[2].toNat : Int) * (65536 : Int) := u32_or16 _ _ (by omega) (by omega) (by omega) (by omega) (by omega)
        have r3 : bits .or .u32 ((ts[0].toNat : Int) + (ts[1].toNat : Int) * (256 : Int) + (ts[2].toNat : Int) * (65536 : Int)) ((ts[3].toNat : Int) * (16777216 : Int)) = (ts[0].toNat : Int) + (ts[1].toNat : Int) * (256 : Int) + (ts[2].toNat : Int) * (65536 : Int) + (ts[3].toNat : Int) * (16777216 : Int) := u32_or24 _ _ (by omega) (by omega) (by omega) (by omega) (by omega)
        have hget : ∀ i (h : i < ts.size), rest.getD i 0 = ts[i] := fun i h => by
          have e : rest[i]? = some ts[i] := by
            rw [← Hts.out.2, List.getElem?_eq_getElem (by rw [dsize]; exact h)]
            rfl
          rw [List.getD_eq_getElem?_getD, e]
          rfl
        have hX : (ts[0].toNat : Int) + (ts[1].toNat : Int) * (256 : Int) + (ts[2].toNat : Int) * (65536 : Int) + (ts[3].toNat : Int) * (16777216 : Int) = ((un4 rest : Nat) : Int) := by
          unfold un4
          rw [hget 0 b7, hget 1 b8, hget 2 b9, hget 3 b6]
          omega
        have hX0 : un4 rest < 4294967296 := by omega
        generalize un4 rest = X at hX hX0 HN
        rw [hX] at r3
        clear hget hX
        go_quiet (fail)
        clear r1 r2 r3 g0 g1 g2 g3
        have k3 := k2.drewN nq
        have q3 : (w2.drewN nq).heap[w.heap.size]? = _ := q2
        clear k2 q2
        generalize w2.drewN nq = w3 at k3 q3 ⊢
        have hs1 : 1 ≤ s.size := by have := Hsl.out.2; omega
        have hs2 : (1 : Int) ≤ (s.size : Int) := by omega
        have e1 : (s.extract 0 1).data.toList = [k] := by
          simp only [ByteArray.data_extract, Array.toList_extract, List.extract_eq_take_drop, Hsl.out.1]
          rfl
        have e2 : (ts.extract 4 (4 + j)).data.toList = (rest.drop 4).take j := by
          simp only [ByteArray.data_extract, Array.toList_extract, List.extract_eq_take_drop, Hts.out.2]
          congr 1
          omega
        have Hdd := Lib.hid (show ts.extract 4 (4 + j) = ⟨((rest.drop 4).take j).toArray⟩ from by rw [← e2])
        have Hrr := Lib.hid (show ts.extract (4 + j) ts.size = ⟨(rest.drop (4 + j)).toArray⟩ from by rw [extract_end, Hts.out.2])
        have hds : (ts.extract 4 (4 + j)).size ≤ maxLen := by rw [ByteArray.size_extract]; unfold maxLen; omega
        have Hsum := Lib.hid (sum_spec w3 (s.extract 0 1) (by rw [ByteArray.size_extract]; unfold maxLen; omega))
        have Hmore := Lib.hid (more_spec w3 (moreN 0 [k]) (moreN_lt _ _) (ts.extract 4 (4 + j)) hds)
        rw [e1] at Hsum
        rw [e2, moreN_more, List.singleton_append] at Hmore
        have hSl := moreN_lt 0 (k :: (rest.drop 4).take j)
        have HN2 := Lib.hid HN.out
        clear HN
        have HN := HN2.out
        simp only [Int.toNat_natCast] at HN
        generalize moreN 0 (k :: (rest.drop 4).take j) = S at Hmore HN hSl
        generalize moreN 0 [k] = S1 at Hsum Hmore
        have HN3 := Lib.hid HN
        clear e1 e2 hds HN HN2
        go_wp2_with fail
        refine Hsum.out.mono ?_
        rintro e w4 ⟨rfl, rfl⟩
        go_wp2_with fail
        refine Hmore.out.mono ?_
        rintro e w4 ⟨rfl, rfl⟩
        by_cases hSX : S = X
        · have hne : ((S : Int) != (X : Int)) = false := by simp [hSX]
          have Hr := Lib.hid HN3.out
          rw [if_neg (fun h => h hSX)] at Hr
          have b8 : (0 : Int) ≤ 4 + (j : Int) := by omega
          have b9 : ((4 : Int) + (j : Int)).toNat = 4 + j := by omega
          subst hSX
          clear hne
          have t := heap_cell_same (i := 1) (heap_cell_same (i := 0) q3 (.int .u8 k.toNat)) (.string (ts.extract 4 (4 + j)))
          have kq : Keeps [] w ((w3.setCell ⟨w.heap.size, 0, none⟩ (.int .u8 k.toNat)).setCell ⟨w.heap.size, 1, none⟩ (.string (ts.extract 4 (4 + j)))) := (k3.setCell (.inr (Nat.le_refl _)) _).setCell (.inr (Nat.le_refl _)) _
          have Hfin := Lib.hid (And.intro t kq)
          have c2 := cells_at q3
          have f2 := free_at q3
          have l2 := lt_of_at q3
          clear t kq k3 q3
          go_wp2_with fail
          go_region
          go_wp2_with fail
          have hc := cells_at Hfin.out.1
          refine bodyPost_ret (v := .tuple #[.agg #[.int .u8 k.toNat, .string (ts.extract 4 (4 + j))], .string (ts.extract (4 + j) ts.size), .int .i64 0]) ?_ rfl ⟨by rw [Hr.out, Hdd.out, Hrr.out]; rfl, Hfin.out.2.drew⟩
          simp [results, Try.results32, go_sem, hc, l2]
        · have hne : ((S : Int) != (X : Int)) = true := by simp; omega
          have hne2 : ((S : Int) == (X : Int)) = false := by simp; omega
          have hne3 : ¬ (S : Int) = (X : Int) := by omega
          have Hr := Lib.hid HN3.out
          rw [if_pos hSX] at Hr
          have k2 := k3
          have q2 := q3
          clear hSX q3 k3
          have t := heap_cell_same (i := 1) (heap_cell_same (i := 0) q2 (.int .u8 0)) (.string ⟨#[]⟩)
          have kq : Keeps [] w ((w3.setCell ⟨w.heap.size, 0, none⟩ (.int .u8 0)).setCell ⟨w.heap.size, 1, none⟩ (.string ⟨#[]⟩)) := (k2.setCell (.inr (Nat.le_refl _)) _).setCell (.inr (Nat.le_refl _)) _
          have Hfin := Lib.hid (And.intro t kq)
          have c2 := cells_at q2
          have f2 := free_at q2
          have l2 := lt_of_at q2
          clear t kq k2 q2
          go_wp2_with fail
          have hc := cells_at Hfin.out.1
          refine bodyPost_ret (v := .tuple #[.agg #[.int .u8 0, .string ⟨#[]⟩], .string ⟨#[]⟩, .int .i64 4]) ?_ rfl ⟨by rw [Hr.out]; rfl, Hfin.out.2⟩
          simp [results, Try.results32, go_sem, hc, l2]
    · rw [if_pos he] at hN
      have he' : (er == 0) = false := by simp [he]
      have Hr := Lib.hid hN
      obtain ⟨rfl, rfl⟩ := herr he
      clear hN herr
      go_enter Try.func32, Try.ntmps32
      go_wp2_with fail
      generalize w.alloc (.cells #[.int .u8 0, .string ⟨#[]⟩] 76) = w1 at q1 k1 ⊢
      refine (Hb.out w1).mono ?_
      rintro e w2 ⟨rfl, nq, rfl⟩
      simp only [byteVals]
      rw [← Hrs.out]
      go_wp2_with fail
      refine (Hm.out _).mono ?_
      rintro e w2 ⟨rfl, nq2, rfl⟩
      simp only [takeMVals]
      have k2 := (k1.drewN nq).drewN nq2
      have q2 : ((w1.drewN nq).drewN nq2).heap[w.heap.size]? = _ := q1
      clear k1 q1
      generalize (w1.drewN nq).drewN nq2 = w2 at k2 q2 ⊢
      have t := heap_cell_same (i := 1) (heap_cell_same (i := 0) q2 (.int .u8 0)) (.string ⟨#[]⟩)
      have kq : Keeps [] w ((w2.setCell ⟨w.heap.size, 0, none⟩ (.int .u8 0)).setCell ⟨w.heap.size, 1, none⟩ (.string ⟨#[]⟩)) := (k2.setCell (.inr (Nat.le_refl _)) _).setCell (.inr (Nat.le_refl _)) _
      have Hfin := Lib.hid (And.intro t kq)
      have c2 := cells_at q2
      have f2 := free_at q2
      have l2 := lt_of_at q2
      clear t kq k2 q2
      go_wp2_with fail
      have hc := cells_at Hfin.out.1
      refine bodyPost_ret (v := .tuple #[.agg #[.int .u8 0, .string ⟨#[]⟩], .string ⟨#[]⟩, .int .i64 er]) ?_ rfl ⟨by rw [Hr.out]; rfl, Hfin.out.2⟩
      simp [results, Try.results32, go_sem, hc, l2]

end Go.Proofs.Ythlmlneiehijkaa
