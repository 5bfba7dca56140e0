/-
  Package barographref06: Sorted: as many pairs as there were.
  The pairs are few.

  Package barographlaw12: Grow: plain laws and forms.
  No condition beyond those that each theorem states.
-/
import Derived.Test.YtejfigbjaiealaaGreatDoorPairs
import Derived.Test.YtejfigbjaiealaaGreatDoorPostDropS
namespace Go.Proofs.YtejfigbjaiealaaGreatDoor
open Go Go.RowKit
open Go.Op (bytesLess)

def SortOut (w : World) (L : List PairB) (gk : Nat) (u3 u13 : Value) (wr : World) : Prop :=
  ∃ (k : Nat) (R : List PairB), k ≤ L.length ∧ gk = L.length - k ∧ u13 = .int .i64 k ∧ (R.length = k ∧ ∀ q ∈ R, q ∈ L) ∧ wr.ownsRow w.heap.size 34 2 u3 R.length (R.flatMap encPB) ∧ Keeps [] w wr

def SortIn (L : List PairB) (wb : World) (nb k gk : Nat) (u6 u7 u20 : Value) (wr : World) : Prop :=
  ∃ (j : Nat) (N : List PairB) (d : Bool), j ≤ k ∧ gk = k - j ∧ u20 = .int .i64 j ∧ u7 = .bool d ∧ (N.length = j + (if d = true then 1 else 0) ∧ ∀ q ∈ N, q ∈ L) ∧ wr.ownsRow nb 34 2 u6 N.length (N.flatMap encPB) ∧ Keeps [] wb wr

theorem snoc_row {w : World} {B : Nat} {v : Value} {N : List PairB} {q1 q2 : ByteArray} {T : TypeId} {n : Nat} (hn : n = N.length + 1) (h : w.ownsRow B T 2 v (N.length + 1) (N.flatMap encPB ++ [.string q1, .string q2])) : (N ++ [(q1, q2)]).length = n ∧ w.ownsRow B T 2 v (N ++ [(q1, q2)]).length ((N ++ [(q1, q2)]).flatMap encPB) := by
  rw [List.length_append, List.flatMap_append]
  exact ⟨by rw [hn]; rfl, by simpa [encPB] using h⟩

theorem mem_snocP {N L : List PairB} {p : PairB} (h : ∀ q ∈ N, q ∈ L) (hp : p ∈ L) : ∀ q ∈ N ++ [p], q ∈ L := fun q hq => by
  rcases List.mem_append.1 hq with hq | hq
  · exact h q hq
  · obtain rfl : q = p := by simpa using hq
    exact hp

set_option linter.unusedSimpArgs false in
set_option maxRecDepth 100000 in
set_option maxHeartbeats 1000000 in
theorem sorted6_spec (w : World) (v : Value) (L : List PairB) (h : SliceArg 2 encPB w v L) (hl10 : L.length ≤ 10) :
    Calls Tryz.prog 23 #[v] w fun e w' => ∃ (v' : Value) (R : List PairB), e = .returned v' ∧ (R.length = L.length ∧ ∀ q ∈ R, q ∈ L) ∧ w'.ownsRow w.heap.size 34 2 v' R.length (R.flatMap encPB) ∧ Keeps [] w w' := by
  obtain ⟨ip, hip, hz0, hz1, hz2⟩ := info_parts infoPair6
  have Hf := Lib.hid h
  obtain ⟨ao, cap, rfl, hl, -⟩ := h
  clear hl
  have H0 := Lib.hid (And.intro (own_made w w.heap.size 34 2 (Nat.le_refl _)) ((Keeps.refl [] w).alloc (.cells #[] 34)))
  go_enter Tryz.func23, Tryz.ntmps23
  go_wp2_with fail
  go_loopg [3, 13] L.length (SortOut w L)
  case atStart => exact ⟨0, [], Nat.zero_le _, rfl, rfl, ⟨rfl, by simp⟩, by simpa using H0.out.1, H0.out.2⟩
  case round =>
    obtain ⟨k, R, hk, hgk, rfl, hR, hown, hkw⟩ := hrel
    have Hg := Lib.hid hgk
    clear hgk H0
    obtain ⟨a3, c3, rfl, -, -, -⟩ := row_slice hown
    obtain ⟨hR, hRm⟩ := hR
    have hRl : R.length ≤ 10 := by omega
    have HR := Lib.hid hR
    have HRm := Lib.hid hRm
    clear hR hRm
    by_cases hlt : k < L.length
    · obtain ⟨b, off, cap', ea, hbW, d0, d1⟩ := pair_at (Hf.out.keep hkw) k hlt
      injection ea with ea _ ec
      subst ea ec
      have hlt' : (k : Int) < (L.length : Int) := by omega
      obtain ⟨p, hp⟩ : ∃ p, p = L[k] := ⟨_, rfl⟩
      rw [← hp] at d0 d1
      have Hpm := Lib.hid (show p ∈ L from by rw [hp]; exact List.getElem_mem hlt)
      clear hp
      obtain ⟨p1, p2⟩ := p
      dsimp only at d0 d1
      have kA : Keeps [] wr (wr.alloc (.cells #[.string p1, .string p2] 34)) := (Keeps.refl [] wr).alloc _
      have hzA : (wr.alloc (.cells #[.string p1, .string p2] 34)).heap.size = wr.heap.size + 1 := by simp
      have nA := heap_new wr (.cells #[.string p1, .string p2] 34)
      obtain ⟨wb, hwb⟩ : ∃ wb, wb = wr.alloc (.cells #[.string p1, .string p2] 34) := ⟨_, rfl⟩
      rw [← hwb] at kA hzA nA
      have mk := own_made wb (wr.heap.size + 1) 34 2 (by omega)
      rw [hzA] at mk
      have H1 := Lib.hid (And.intro (go1 kA (And.intro hown hkw)) (And.intro nA (And.intro mk ((Keeps.refl [] wb).alloc (.cells #[] 34)))))
      have HW := Lib.hid hwb
      have hz := hzA
      have hsw := hkw.size
      clear kA nA mk hwb hown hkw hzA
      go_upto_region 7 with fail
      clear d0 d1 hbW
      rw [← HW.out]
      generalize hwe : wb.alloc (.cells #[] 34) = we at H1 ⊢
      clear hwe HW
      generalize hfb : wr.heap.size = fb at H1 hz hsw ⊢
      clear hfb
      go_wp2_with fail
      go_loopg [6, 7, 20] R.length (SortIn L wb (fb + 1) R.length)
      case atStart => exact ⟨0, [], false, Nat.zero_le _, rfl, rfl, rfl, ⟨rfl, by simp⟩, H1.out.2.2.1, H1.out.2.2.2⟩
      case round =>
        obtain ⟨j, N, d, hj, hgj, rfl, rfl, hN, hrow, hkb⟩ := hrel
        have Hgj := Lib.hid hgj
        clear hgj
        obtain ⟨hN, hNm⟩ := hN
        have hN11 : N.length ≤ 11 := by rw [hN]; split <;> omega
        have HN := Lib.hid hN
        have HNm := Lib.hid hNm
        clear hN hNm
        obtain ⟨a6, c6, rfl, -, -, -⟩ := row_slice hrow
        by_cases hltj : j < R.length
        · have hSR : SliceArg 2 encPB wr (.slice a3 R.length c3) R := go1 hkb (sliceFrom_row (enc := encPB) (fun _ => rfl) H1.out.1.1).arg
          obtain ⟨b, off, cap', ea, hbW, d0, d1⟩ := pair_at hSR j hltj
          injection ea with ea _ ec
          subst ea ec
          have hltj' : (j : Int) < (R.length : Int) := by omega
          obtain ⟨q, hq⟩ : ∃ q, q = R[j] := ⟨_, rfl⟩
          rw [← hq] at d0 d1
          have Hqm := Lib.hid (show q ∈ L from by rw [hq]; exact HRm.out _ (List.getElem_mem hltj))
          clear hq hSR
          obtain ⟨q1, q2⟩ := q
          dsimp only at d0 d1
          have kQ : Keeps [] wr (wr.alloc (.cells #[.string q1, .string q2] 34)) := (Keeps.refl [] wr).alloc _
          have nQ := heap_new wr (.cells #[.string q1, .string q2] 34)
          have hcg : ∀ g, (Value.slice a6 N.length c6).ownBlock = some g → g ≠ wr.heap.size := fun g hg => by have := (World.ownsRow.lt hrow g hg).2; omega
          have H2 := Lib.hid (And.intro (go1 kQ (And.intro hrow hkb)) (And.intro (go1 (hkb.trans kQ) H1.out.2.1) (And.intro nQ hcg)))
          clear kQ nQ hrow hkb hcg
          go_upto_region 10 with fail
          clear d0 d1 hbW
          generalize hw2 : wr.alloc (.cells #[.string q1, .string q2] 34) = w2 at H2 ⊢
          generalize hqb : wr.heap.size = qb at H2 ⊢
          clear hw2 hqb
          have cp2 := cells_at H2.out.2.1
          have lp2 := lt_of_at H2.out.2.1
          have cq2 := cells_at H2.out.2.2.1
          have lq2 := lt_of_at H2.out.2.2.1
          have hb2 := H2.out.1.2.size
          have hA2 := Lib.hid (And.intro (heap_new w2 (.cells #[.string q1, .string q2] 34)) (And.intro (heap_new w2 (.cells #[.string p1, .string p2] 34)) (And.intro (H2.out.1.1.alloc (.cells #[.string q1, .string q2] 34)) (And.intro (H2.out.1.1.alloc (.cells #[.string p1, .string p2] 34)) (And.intro (H2.out.1.2.alloc (.cells #[.string q1, .string q2] 34)) (H2.out.1.2.alloc (.cells #[.string p1, .string p2] 34)))))))
          have qq : ∀ d' : Bool, (d = true ∨ (d = false ∧ bytesLess p1.toList q1.toList = false)) ∨ (d = false ∧ bytesLess p1.toList q1.toList = true) := fun _ => by
            cases d with
            | true => exact .inl (.inl rfl)
            | false =>
              cases bytesLess p1.toList q1.toList with
              | true => exact .inr ⟨rfl, rfl⟩
              | false => exact .inl (.inr ⟨rfl, rfl⟩)
          rcases qq true with (rfl | ⟨rfl, hless⟩) | ⟨rfl, hless⟩
          · clear qq
            go_upto_region 13 with fail
            go_wp2_with (at_builtin; refine wpList_append_own _ rfl (.tmp 37) (.tmp 39) 29 rfl (fb + 1) 34 ip _ 2 32 Tryz.underlying29 hip hz0 hz1 hz2 rfl (by decide) (.slice a6 N.length c6) N.length (N.flatMap encPB) rfl hA2.out.2.2.1 ⟨w2.heap.size, 0, none⟩ 1 1 [.string q1, .string q2] rfl rfl (news_two hA2.out.1) (by simp [Value.oneCell']) (by simp only [maxLen]; omega) (by omega) (by rw [World.size_alloc]; omega) ?_; intro v8 w8 hown8 hgrow8 hnil8; clear hnil8; obtain ⟨ao8, cp8, rfl, -, -, -⟩ := row_slice hown8; skip)
            have ha := keeps_own hA2.out.2.2.2.2.1 hgrow8 (fun g hg => by have := (World.ownsRow.lt H2.out.1.1 g hg).1; omega)
            have H4 := Lib.hid (And.intro (snoc_row (q1 := q1) (q2 := q2) rfl hown8) ha)
            clear hown8 hgrow8 ha cp2 lp2 cq2 lq2
            go_wp2_with fail
            go_roundg (R.length - (j + 1))
            case measure => have := Hgj.out; omega
            case rel => exact ⟨j + 1, N ++ [(q1, q2)], true, by omega, rfl, by go_num, rfl, ⟨by rw [H4.out.1.1, HN.out]; simp, mem_snocP HNm.out Hqm.out⟩, by have h := H4.out.1.2; rw [H4.out.1.1] at h ⊢; exact h, H4.out.2⟩
          · clear qq
            go_upto_region 13 with fail
            go_wp2_with (at_builtin; refine wpList_append_own _ rfl (.tmp 37) (.tmp 39) 29 rfl (fb + 1) 34 ip _ 2 32 Tryz.underlying29 hip hz0 hz1 hz2 rfl (by decide) (.slice a6 N.length c6) N.length (N.flatMap encPB) rfl hA2.out.2.2.1 ⟨w2.heap.size, 0, none⟩ 1 1 [.string q1, .string q2] rfl rfl (news_two hA2.out.1) (by simp [Value.oneCell']) (by simp only [maxLen]; omega) (by omega) (by rw [World.size_alloc]; omega) ?_; intro v8 w8 hown8 hgrow8 hnil8; clear hnil8; obtain ⟨ao8, cp8, rfl, -, -, -⟩ := row_slice hown8; skip)
            have ha := keeps_own hA2.out.2.2.2.2.1 hgrow8 (fun g hg => by have := (World.ownsRow.lt H2.out.1.1 g hg).1; omega)
            have H4 := Lib.hid (And.intro (snoc_row (q1 := q1) (q2 := q2) rfl hown8) ha)
            clear hown8 hgrow8 ha cp2 lp2 cq2 lq2
            go_wp2_with fail
            go_roundg (R.length - (j + 1))
            case measure => have := Hgj.out; omega
            case rel => exact ⟨j + 1, N ++ [(q1, q2)], false, by omega, rfl, by go_num, rfl, ⟨by rw [H4.out.1.1, HN.out]; simp, mem_snocP HNm.out Hqm.out⟩, by have h := H4.out.1.2; rw [H4.out.1.1] at h ⊢; exact h, H4.out.2⟩
          · clear qq
            go_upto_region 12 with (at_builtin; refine wpList_append_own _ rfl (.tmp 33) (.tmp 35) 29 rfl (fb + 1) 34 ip _ 2 32 Tryz.underlying29 hip hz0 hz1 hz2 rfl (by decide) (.slice a6 N.length c6) N.length (N.flatMap encPB) rfl hA2.out.2.2.2.1 ⟨w2.heap.size, 0, none⟩ 1 1 [.string p1, .string p2] rfl rfl (news_two hA2.out.2.1) (by simp [Value.oneCell']) (by simp only [maxLen]; omega) (by omega) (by rw [World.size_alloc]; omega) ?_; intro v8 w8 hown8 hgrow8 hnil8; clear hnil8; obtain ⟨ao8, cp8, rfl, -, -, -⟩ := row_slice hown8; skip)
            have kb8 := keeps_row hgrow8
            have nc8 := kb8.at_ (heap_old H2.out.2.2.1 _) (fun hm => H2.out.2.2.2 qb (by simpa using hm) rfl)
            have ha := keeps_own hA2.out.2.2.2.2.2 hgrow8 (fun g hg => by have := (World.ownsRow.lt H2.out.1.1 g hg).1; omega)
            clear cp2 lp2 cq2 lq2
            have cq2 := cells_at nc8
            have lq2 := lt_of_at nc8
            have hb8 := ha.size
            obtain ⟨e8, r8⟩ := snoc_row (q1 := p1) (q2 := p2) rfl hown8
            obtain ⟨M, hM⟩ : ∃ M, M = N ++ [(p1, p2)] := ⟨_, rfl⟩
            have HMm := Lib.hid (show ∀ q ∈ M, q ∈ L from by rw [hM]; exact mem_snocP HNm.out Hpm.out)
            rw [← hM] at e8 r8
            rw [← e8] at r8 ⊢
            have H3 := Lib.hid (And.intro (heap_new w8 (.cells #[.string q1, .string q2] 34)) (And.intro (r8.alloc (.cells #[.string q1, .string q2] 34)) (And.intro (ha.alloc (.cells #[.string q1, .string q2] 34)) (And.intro r8 e8))))
            have hM12 : M.length ≤ 12 := by omega
            clear hown8 hgrow8 kb8 nc8 ha r8 hM e8
            go_upto_region 13 with fail
            go_wp2_with (at_builtin; refine wpList_append_own _ rfl (.tmp 37) (.tmp 39) 29 rfl (fb + 1) 34 ip _ 2 32 Tryz.underlying29 hip hz0 hz1 hz2 rfl (by decide) (.slice ao8 M.length cp8) M.length (M.flatMap encPB) rfl H3.out.2.1 ⟨w8.heap.size, 0, none⟩ 1 1 [.string q1, .string q2] rfl rfl (news_two H3.out.1) (by simp [Value.oneCell']) (by simp only [maxLen]; omega) (by omega) (by rw [World.size_alloc]; omega) ?_; intro v9 w9 hown9 hgrow9 hnil9; clear hnil9; obtain ⟨ao9, cp9, rfl, -, -, -⟩ := row_slice hown9; skip)
            have ha := keeps_own H3.out.2.2.1 hgrow9 (fun g hg => by have := (World.ownsRow.lt H3.out.2.2.2.1 g hg).1; omega)
            have H4 := Lib.hid (And.intro (snoc_row (q1 := q1) (q2 := q2) rfl hown9) ha)
            clear hown9 hgrow9 ha cq2 lq2
            go_wp2_with fail
            go_roundg (R.length - (j + 1))
            case measure => have := Hgj.out; omega
            case rel => exact ⟨j + 1, M ++ [(q1, q2)], true, by omega, rfl, by go_num, rfl, ⟨by rw [H4.out.1.1, H3.out.2.2.2.2, HN.out]; simp, mem_snocP HMm.out Hqm.out⟩, by have h := H4.out.1.2; rw [H4.out.1.1] at h ⊢; exact h, H4.out.2⟩
        · have hge : ¬ (j : Int) < (R.length : Int) := by omega
          have hje : j = R.length := by omega
          have hbz := hkb.size
          cases d with
          | true =>
            have Hr := Lib.hid (And.intro hrow (And.intro (H1.out.1.2.trans hkb) (show N.length = k + 1 from by rw [HN.out, hje, HR.out]; rfl)))
            clear hrow hkb H1
            go_wp2_with fail
            go_roundg (L.length - (k + 1))
            case measure => have := Hg.out; omega
            case rel => exact ⟨k + 1, N, hlt, rfl, by go_num, ⟨Hr.out.2.2, HNm.out⟩, row_base Hr.out.1 (by omega), Hr.out.2.1⟩
          | false =>
            have nP : wr.heap[fb]? = _ := go1 hkb H1.out.2.1
            have cp2 := cells_at nP
            have lp2 := lt_of_at nP
            have hA2 := Lib.hid (And.intro (heap_new wr (.cells #[.string p1, .string p2] 34)) (And.intro (hrow.alloc (.cells #[.string p1, .string p2] 34)) (And.intro (hkb.alloc (.cells #[.string p1, .string p2] 34)) (And.intro hrow (show N.length + 1 = k + 1 from by rw [HN.out, hje, HR.out]; rfl)))))
            clear hrow hkb nP
            go_wp2_with (at_builtin; refine wpList_append_own _ rfl (.tmp 44) (.tmp 46) 29 rfl (fb + 1) 34 ip _ 2 32 Tryz.underlying29 hip hz0 hz1 hz2 rfl (by decide) (.slice a6 N.length c6) N.length (N.flatMap encPB) rfl hA2.out.2.1 ⟨wr.heap.size, 0, none⟩ 1 1 [.string p1, .string p2] rfl rfl (news_two hA2.out.1) (by simp [Value.oneCell']) (by simp only [maxLen]; omega) (by omega) (by rw [World.size_alloc]; omega) ?_; intro v8 w8 hown8 hgrow8 hnil8; clear hnil8; obtain ⟨ao8, cp8, rfl, -, -, -⟩ := row_slice hown8; skip)
            have ha := keeps_own hA2.out.2.2.1 hgrow8 (fun g hg => by have := (World.ownsRow.lt hA2.out.2.2.2.1 g hg).1; omega)
            have H4 := Lib.hid (And.intro (snoc_row (q1 := p1) (q2 := p2) rfl hown8) (H1.out.1.2.trans ha))
            clear hown8 hgrow8 ha cp2 lp2
            go_wp2_with fail
            go_roundg (L.length - (k + 1))
            case measure => have := Hg.out; omega
            case rel => exact ⟨k + 1, N ++ [(p1, p2)], hlt, rfl, by go_num, ⟨by rw [H4.out.1.1]; exact hA2.out.2.2.2.2, mem_snocP HNm.out Hpm.out⟩, row_base (by have h := H4.out.1.2; rw [H4.out.1.1] at h ⊢; exact h) (by omega), H4.out.2⟩
    · have hlt' : ¬ (k : Int) < (L.length : Int) := by omega
      have Hr := Lib.hid (And.intro (show R.length = L.length from by rw [HR.out]; omega) (And.intro hown hkw))
      clear hown hkw
      go_wp2_with fail
      go_ret
      exact ⟨_, rfl, R, ⟨Hr.out.1, fun a b h => HRm.out (a, b) h⟩, Hr.out.2.1, Hr.out.2.2⟩
end Go.Proofs.YtejfigbjaiealaaGreatDoor

namespace Go.Proofs.YtejfigbjaiealaaGreatDoor
open Go Go.RowKit

theorem mem_putG {α : Type} {k : ByteArray} {v : α} {q : ByteArray × α} : ∀ {M : List (ByteArray × α)}, q ∈ put M k v → q = (k, v) ∨ q ∈ M
  | [], h => .inl (by simpa [put] using h)
  | (k', x) :: r, h => by
    unfold put at h
    split at h
    · rcases List.mem_cons.1 h with h | h
      · exact .inl h
      · exact .inr (List.mem_cons_of_mem _ h)
    · rcases List.mem_cons.1 h with h | h
      · exact .inr (by rw [h]; exact List.mem_cons_self)
      · exact (mem_putG h).imp_right (List.mem_cons_of_mem _)

theorem keys_putG {α : Type} {k : ByteArray} {v : α} : ∀ {M : List (ByteArray × α)}, k ∈ (put M k v).map (·.1) ∧ ∀ x ∈ M.map (·.1), x ∈ (put M k v).map (·.1)
  | [] => by simp [put]
  | (k', x) :: r => by
    have ih := keys_putG (k := k) (v := v) (M := r)
    unfold put
    split
    · rename_i h
      subst h
      exact ⟨by simp, fun y hy => by simpa using hy⟩
    · refine ⟨by rw [List.map_cons]; exact List.mem_cons_of_mem _ ih.1, fun y hy => ?_⟩
      rw [List.map_cons] at hy ⊢
      rcases List.mem_cons.1 hy with rfl | hy
      · exact List.mem_cons_self
      · exact List.mem_cons_of_mem _ (ih.2 y hy)

def encOne (x : Value × Bool) : List Value := [x.1, .bool x.2]

def OnesOk (w : World) (XS : List (Value × Bool)) : Prop := ∀ x ∈ XS, ∃ L : List PairB, SliceArg 2 encPB w x.1 L

theorem one_at {w : World} {v : Value} {L : List (Value × Bool)} (h : SliceArg 2 encOne w v L) (k : Nat) (hk : k < L.length) : ∃ b off cap, v = .slice (some ⟨b, off, none⟩) L.length cap ∧ b < w.heap.size ∧ w.cell? ⟨b, off + k * 2, none⟩ = some L[k].1 ∧ w.cell? ⟨b, off + k * 2 + 1, none⟩ = some (.bool L[k].2) := by
  obtain ⟨ao, cap, e, hl, h⟩ := h
  obtain ⟨b, off, e2, hb, hc⟩ := h k hk
  subst e2
  exact ⟨b, off, cap, e, hb, hc 0 (by decide), (by have := hc 1 (by decide); rw [← Nat.add_assoc] at this; exact this)⟩

theorem row_argP {B : Nat} {w : World} {e : TypeId} {v : Value} {P : List PairB} (h : w.ownsRow B e 2 v P.length (P.flatMap encPB)) : SliceArg 2 encPB w v P := (sliceFrom_row (enc := encPB) (fun _ => rfl) h).arg

theorem few6_len (L : List PairB) : (few6 L).length ≤ 10 := by
  unfold few6
  rw [List.length_map, List.length_take]
  omega

theorem row_snoc {w : World} {B : Nat} {v : Value} {N : List PairB} {q1 q2 : ByteArray} {T : TypeId} (h : w.ownsRow B T 2 v (N.length + 1) (N.flatMap encPB ++ [.string q1, .string q2])) : w.ownsRow B T 2 v (N ++ [(q1, q2)]).length ((N ++ [(q1, q2)]).flatMap encPB) := by
  rw [List.length_append, List.flatMap_append]
  simpa [encPB] using h

structure SeenOk (S : List PairB) (M : List (ByteArray × Int)) (j : Nat) : Prop where
  len : S.length ≤ j
  nodup : (S.map (·.1)).Nodup
  keys : ∀ p ∈ S, p.1 ∈ M.map (·.1)
  cnt : ∀ q ∈ M, 1 ≤ q.2 ∧ q.2 ≤ j

theorem SeenOk.bound {S : List PairB} {M : List (ByteArray × Int)} {j : Nat} (h : SeenOk S M j) (k : ByteArray) : 0 ≤ (look M k).getD 0 ∧ (look M k).getD 0 ≤ j ∧ ((look M k).getD 0 = 0 → k ∉ M.map (·.1)) := by
  cases hk : look M k with
  | none => exact ⟨by simp, by simp, fun _ => (look_none_iff k M).1 hk⟩
  | some c =>
    have := h.cnt _ (look_mem hk)
    simp only [Option.getD_some]
    simp only at this
    exact ⟨by omega, by omega, fun e => by omega⟩

theorem SeenOk.again {S : List PairB} {M : List (ByteArray × Int)} {j : Nat} (h : SeenOk S M j) (k : ByteArray) : SeenOk S (put M k ((look M k).getD 0 + 1)) (j + 1) := by
  refine ⟨Nat.le_succ_of_le h.len, h.nodup, fun p hp => keys_putG.2 _ (h.keys p hp), fun q hq => ?_⟩
  rcases mem_putG hq with rfl | hq
  · have := h.bound k
    simp only
    omega
  · have := h.cnt q hq
    omega

theorem SeenOk.first {S : List PairB} {M : List (ByteArray × Int)} {j : Nat} (h : SeenOk S M j) (p1 p2 : ByteArray) (h0 : (look M p1).getD 0 = 0) : SeenOk (S ++ [(p1, p2)]) (put M p1 ((look M p1).getD 0 + 1)) (j + 1) := by
  have ha := h.again p1
  have hn := (h.bound p1).2.2 h0
  refine ⟨by rw [List.length_append]; exact Nat.succ_le_succ h.len, ?_, fun p hp => ?_, ha.cnt⟩
  · rw [List.map_append, List.nodup_append]
    refine ⟨h.nodup, by simp, fun x hx y hy e => ?_⟩
    obtain ⟨p, hp, rfl⟩ := List.mem_map.1 hx
    have : y = p1 := by simpa using hy
    exact hn (this ▸ e ▸ h.keys p hp)
  · rcases List.mem_append.1 hp with hp | hp
    · exact ha.keys p hp
    · obtain rfl : p = (p1, p2) := by simpa using hp
      exact keys_putG.1
end Go.Proofs.YtejfigbjaiealaaGreatDoor
