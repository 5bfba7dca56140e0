/-
  Whether a block goes, as the document says (ref 22): marked, goes.
  Old memory is left as it was.
-/
import Derived.Test.YtbndpegilpgheaaGreatRefIdent
import Derived.Test.YtbndpegilpgheaaGreatArgs
namespace Go.Proofs.YtbndpegilpgheaaGreat
open Go Go.RowKit

def pairE (p : ByteArray × Int) : List Value := [.string p.1, .int .i64 p.2]

theorem pair_cells {w : World} {v : Value} {L : List (ByteArray × Int)} (h : SliceArg 2 pairE w v L) {k : Nat} (hk : k < L.length) :
    ∃ b off cap, v = .slice (some ⟨b, off, none⟩) L.length cap ∧ b < w.heap.size ∧ w.cell? ⟨b, off + k * 2, none⟩ = some (.string L[k].1) ∧ w.cell? ⟨b, off + k * 2 + 1, none⟩ = some (.int .i64 L[k].2) := by
  obtain ⟨ao, cap, rfl, hl, h⟩ := h
  obtain ⟨b, off, rfl, hlt, hc⟩ := h k hk
  exact ⟨b, off, cap, rfl, hlt, hc 0 (by decide), hc 1 (by decide)⟩


def markVals (r : Option Int) : Value := match r with | some n => .tuple #[.int .i64 n, .bool true] | none => .tuple #[.int .i64 0, .bool false]

def MarkedRel (w : World) (M : List (ByteArray × Int)) (id : ByteArray) (gk : Nat) (u : Value) (wr : World) : Prop :=
  ∃ k : Nat, k ≤ M.length ∧ gk = M.length - k ∧ u = .int .i64 k ∧ look M id = look (M.drop k) id ∧ Keeps [] w wr

set_option maxRecDepth 100000 in
set_option maxHeartbeats 1000000 in
theorem refMarked_spec (w : World) (v : Value) (M : List (ByteArray × Int)) (id : ByteArray) (hM : SliceArg 2 pairE w v M) :
    Calls Tryz.prog 108 #[v, .string id] w fun e w' => e = .returned (markVals (look M id)) ∧ Keeps [] w w' := by
  have HM := Lib.hid hM
  obtain ⟨ao, cap, rfl, hl, _⟩ := hM
  unfold maxLen at hl
  go_enter Tryz.func108, Tryz.ntmps108
  go_wp2_with fail
  go_loopg [10] M.length (MarkedRel w M id)
  case atStart => exact ⟨0, Nat.zero_le _, rfl, rfl, rfl, Keeps.refl _ _⟩
  case round =>
    obtain ⟨k, hk, hg, rfl, hN, hkp⟩ := hrel
    by_cases hlt : k < M.length
    · have hlt' : (k : Int) < (M.length : Int) := by omega
      obtain ⟨b, off, cap2, e, hb, h0, h1⟩ := pair_cells (HM.out.keep hkp) hlt
      injection e with e1 e2 e3
      subst e1
      rw [List.drop_eq_getElem_cons hlt] at hN
      generalize M[k] = m at h0 h1 hN
      obtain ⟨mn, ma⟩ := m
      simp only at h0 h1
      have HN := Lib.hid (And.intro hg (And.intro hN hkp))
      have hen := toList_beq mn id
      clear hg hN hkp e2 e3
      by_cases he : mn = id
      · have he2 : (mn.toList == id.toList) = true := by rw [hen]; exact decide_eq_true he
        have He := Lib.hid he
        clear he hen
        go_wp2_with fail
        go_ret2
        refine ⟨?_, HN.out.2.2.trans (by repeat (first | exact Keeps.refl _ _ | assumption | refine Keeps.drew ?_ | refine Keeps.drewN ?_ _ | refine Keeps.alloc ?_ _ | refine Keeps.setCell ?_ (by first | exact .inl (by simp) | exact .inr (by simp; done) | exact .inr (by simp; omega)) _))⟩
        rw [HN.out.2.1, show look ((mn, ma) :: M.drop (k + 1)) id = some ma from if_pos He.out.symm]
        rfl
      · have he2 : (mn.toList == id.toList) = false := by rw [hen]; exact decide_eq_false he
        have He := Lib.hid he
        clear he hen
        go_wp2_with fail
        go_roundg (M.length - (k + 1))
        case measure => have := HN.out.1; omega
        case rel => exact ⟨k + 1, by omega, rfl, by go_num, HN.out.2.1.trans (if_neg fun h => He.out h.symm), HN.out.2.2.trans (by repeat (first | exact Keeps.refl _ _ | assumption | refine Keeps.drew ?_ | refine Keeps.drewN ?_ _ | refine Keeps.alloc ?_ _ | refine Keeps.setCell ?_ (by first | exact .inl (by simp) | exact .inr (by simp; done) | exact .inr (by simp; omega)) _))⟩
    · have : k = M.length := by omega
      rw [List.drop_eq_nil_of_le (by omega)] at hN
      have HN := Lib.hid (And.intro hN hkp)
      have hge : ¬ (k : Int) < (M.length : Int) := by omega
      clear hg hN hkp this
      go_wp2_with fail
      go_ret2
      exact ⟨by rw [HN.out.1]; rfl, HN.out.2⟩


def tickE (p : ByteArray × Ob) : List Value := [.string p.1, .int .i64 p.2.2]

theorem tick_cells {w : World} {v : Value} {L : List (ByteArray × Ob)} (h : SliceArg 2 tickE w v L) {k : Nat} (hk : k < L.length) :
    ∃ b off cap, v = .slice (some ⟨b, off, none⟩) L.length cap ∧ b < w.heap.size ∧ w.cell? ⟨b, off + k * 2, none⟩ = some (.string L[k].1) ∧ w.cell? ⟨b, off + k * 2 + 1, none⟩ = some (.int .i64 L[k].2.2) := by
  obtain ⟨ao, cap, rfl, hl, h⟩ := h
  obtain ⟨b, off, rfl, hlt, hc⟩ := h k hk
  exact ⟨b, off, cap, rfl, hlt, hc 0 (by decide), hc 1 (by decide)⟩

theorem ticksIn_next {L : List (ByteArray × Ob)} {k : Nat} (hk : k < L.length) {id id2 part : ByteArray} (hi : isIDB id2.data.toList = true) (hp : part ∈ partsB) (hn : L[k].1 = objectB id2 part) :
    ticksIn (L.take (k + 1)) id = ticksIn (L.take k) id ++ if id2 = id then [L[k].2.2] else [] := by
  unfold ticksIn
  rw [List.take_succ_eq_append_getElem hk, List.filterMap_append]
  congr 1
  have h1 : splitL L[k].1.data.toList = some (id2.data.toList, part.data.toList) := by rw [hn]; exact object_split hi hp
  simp only [List.filterMap_cons, List.filterMap_nil, h1, show (⟨id2.data.toList.toArray⟩ : ByteArray) = id2 from ba_mk id2]
  by_cases e : id2 = id <;> simp [e]

def metaIn (L : List (ByteArray × Ob)) (id : ByteArray) : Bool := L.any fun p => decide (p.1 = objectB id metaB)

/-- Whether the document lets a block go. -/
def goesR (d g now : Int) (L : List (ByteArray × Ob)) (id : ByteArray) (mk : Option Int) : Bool :=
  match mk with
  | some at_ => decide (d < now - at_)
  | none => !metaIn L id && decide (g < now - leastL (ticksIn L id))

def GoesRel (w : World) (L : List (ByteArray × Ob)) (id : ByteArray) (gk : Nat) (u15 u16 u36 : Value) (wr : World) : Prop :=
  ∃ k : Nat, ∃ old : Int, ∃ b : Bool, k ≤ L.length ∧ gk = L.length - k ∧ u36 = .int .i64 k ∧ u15 = .bool b ∧ u16 = .int .i64 old ∧ b = decide (leastL (ticksIn (L.take k) id) < 0) ∧
    (b = false → old = leastL (ticksIn (L.take k) id)) ∧ 0 ≤ old ∧ old ≤ 1099511627776 ∧ metaIn (L.take k) id = false ∧ Keeps [] w wr

set_option linter.unusedSimpArgs false in
set_option maxRecDepth 100000 in
set_option maxHeartbeats 1000000 in
theorem refGoes_spec (w : World) (d g now : Int) (vo vm : Value) (L : List (ByteArray × Ob)) (M : List (ByteArray × Int)) (id : ByteArray) (hL : SliceArg 2 tickE w vo L) (hM : SliceArg 2 pairE w vm M)
    (hn0 : 0 ≤ now) (hn1 : now ≤ 1099511627776) (hMt : ∀ p ∈ M, 0 ≤ p.2 ∧ p.2 ≤ 1099511627776) (hLt : ∀ p ∈ L, 0 ≤ p.2.2 ∧ p.2.2 ≤ 1099511627776)
    (hLn : ∀ p ∈ L, ∃ id part, isIDB id.data.toList = true ∧ part ∈ partsB ∧ p.1 = objectB id part) (hne : ticksIn L id ≠ []) (hi : isIDB id.data.toList = true) :
    Calls Tryz.prog 61 #[.int .i64 d, .int .i64 g, .int .i64 now, vo, vm, .string id] w fun e w' => e = .returned (.bool (goesR d g now L id (look M id))) ∧ Keeps [] w w' := by
  have Hm := Lib.hid (refMarked_spec w vm M id hM)
  have HL := Lib.hid (And.intro hL (And.intro hLt (And.intro hLn hne)))
  have hmb : ∀ x, look M id = some x → 0 ≤ x ∧ x ≤ 1099511627776 := fun x hx => hMt _ (look_mem hx)
  obtain ⟨ao, cap, rfl, hl, _⟩ := hL
  unfold maxLen at hl
  clear hLt hLn hne hM hMt
  generalize look M id = mk at Hm hmb
  cases mk with
  | some x =>
    obtain ⟨hx0, hx1⟩ := hmb x rfl
    have hwr : IntKind.i64.wrap (now - x) = now - x := IntWalk.i64_in _ (by omega)
    clear hmb
    go_enter Tryz.func61, Tryz.ntmps61
    go_wp2_with fail
    refine Hm.out.mono ?_
    rintro e w1 ⟨rfl, hk1⟩
    have Hk := Lib.hid hk1
    clear hk1
    simp only [markVals]
    go_wp2_with fail
    go_ret
    exact ⟨rfl, Hk.out⟩
  | none =>
    clear hmb
    go_enter Tryz.func61, Tryz.ntmps61
    go_wp2_with fail
    refine Hm.out.mono ?_
    rintro e w1 ⟨rfl, hk1⟩
    simp only [markVals]
    go_wp2_with fail
    go_loopg [15, 16, 36] L.length (GoesRel w L id)
    case atStart => exact ⟨0, 0, true, Nat.zero_le _, rfl, rfl, rfl, rfl, by simp [ticksIn, leastL], by simp, by decide, by decide, by simp [metaIn], hk1⟩
    case round =>
      obtain ⟨k, old, b, hk, hg, rfl, rfl, rfl, hb, hold, ho0, ho1, hmeta, hkp⟩ := hrel
      by_cases hlt : k < L.length
      · have hlt' : (k : Int) < (L.length : Int) := by omega
        obtain ⟨ob, off, cap2, e, hob, h0, h1⟩ := tick_cells (HL.out.1.keep hkp) hlt
        injection e with e1 e2 e3
        subst e1
        clear e2 e3
        obtain ⟨id2, part, hi2, hp2, hn2⟩ := HL.out.2.2.1 L[k] (List.getElem_mem _)
        have hti := HL.out.2.1 L[k] (List.getElem_mem _)
        have htn := ticksIn_next hlt (id := id) hi2 hp2 hn2
        have hmt : metaIn (L.take (k + 1)) id = (metaIn (L.take k) id || decide (L[k].1 = objectB id metaB)) := by
          unfold metaIn
          rw [List.take_succ_eq_append_getElem hlt, List.any_append]
          simp
        have hlv : leastL (ticksIn (L.take (k + 1)) id) = if id2 = id then (if leastL (ticksIn (L.take k) id) < 0 ∨ L[k].2.2 < leastL (ticksIn (L.take k) id) then L[k].2.2 else leastL (ticksIn (L.take k) id)) else leastL (ticksIn (L.take k) id) := by
          rw [htn]
          by_cases e : id2 = id
          · rw [if_pos e, if_pos e]
            exact leastL_step _ _ fun x hx => by
              obtain ⟨p, hp, _, _, e⟩ := mem_ticksIn.1 hx
              rw [← e]; exact (HL.out.2.1 p (List.mem_of_mem_take hp)).1
          · rw [if_neg e, if_neg e, List.append_nil]
        have hmo : decide (L[k].1 = objectB id metaB) = (decide (id2 = id) && decide (part = metaB)) := by
          rw [hn2, ← Bool.decide_and]
          congr 1
          refine propext ⟨fun h => ?_, fun ⟨h1, h2⟩ => by rw [h1, h2]⟩
          have e1 := object_split hi2 hp2
          have hd := congrArg (fun s => s.data.toList) h
          simp only [object_data] at hd
          have hs : id.data.toList.length = id2.data.toList.length := by rw [(isID_signs hi).1, (isID_signs hi2).1]
          obtain ⟨x1, x2⟩ := List.append_inj hd hs.symm
          injection x2 with _ x2
          exact ⟨ba_ext x1, ba_ext x2⟩
        rw [hmo, hmeta, Bool.false_or] at hmt
        have Hs := Lib.hid (fun w => refSplit_spec w id2 part hi2 hp2)
        rw [← hn2] at Hs
        have Hg := Lib.hid hg
        have Hb := Lib.hid (And.intro hb hold)
        have Hlv := Lib.hid hlv
        have Hmt := Lib.hid hmt
        have Hk := Lib.hid hkp
        obtain ⟨ht0, ht1⟩ := hti
        clear hg hb hold hlv hmt hkp htn hmo hn2 hmeta
        generalize L[k] = ent at *
        obtain ⟨en, ed, et⟩ := ent
        simp only at h0 h1 Hs Hlv ht0 ht1
        have hen := toList_beq id2 id
        have hpm : (part.toList == [109, 101, 116, 97]) = decide (part = metaB) := by
          have := toList_beq part metaB
          rw [show metaB.toList = [109, 101, 116, 97] from ByteArray.toList_eq _] at this
          exact this
        by_cases hid : id2 = id
        · have he2 : (id2.toList == id.toList) = true := by rw [hen]; exact decide_eq_true hid
          have Hid2 := Lib.hid hid
          clear hen hid
          by_cases hpt : part = metaB
          · have he3 : (part.toList == [109, 101, 116, 97]) = true := by rw [hpm]; exact decide_eq_true hpt
            have Hpt := Lib.hid hpt
            clear hpm hpt
            go_wp2_with fail
            refine (Hs.out _).mono ?_
            rintro e w2 ⟨rfl, hk2⟩
            go_wp2_with fail
            go_ret
            refine ⟨?_, (Hk.out.trans (by repeat (first | exact Keeps.refl _ _ | assumption | refine Keeps.drew ?_ | refine Keeps.drewN ?_ _ | refine Keeps.alloc ?_ _ | refine Keeps.setCell ?_ (by first | exact .inl (by simp) | exact .inr (by simp; done) | exact .inr (by simp; omega)) _))).trans hk2⟩
            have hm1 : metaIn L id = true := by
              have h1 := Hmt.out
              rw [decide_eq_true Hid2.out, decide_eq_true Hpt.out] at h1
              replace h1 : metaIn (L.take (k + 1)) id = true := h1
              unfold metaIn at h1 ⊢
              rw [List.any_eq_true] at h1 ⊢
              obtain ⟨p, hp, h2⟩ := h1
              exact ⟨p, List.mem_of_mem_take hp, h2⟩
            unfold goesR
            simp only
            rw [hm1]
            rfl
          · have he3 : (part.toList == [109, 101, 116, 97]) = false := by rw [hpm]; exact decide_eq_false hpt
            have Hpt := Lib.hid hpt
            clear hpm hpt
            have hmn : metaIn (L.take (k + 1)) id = false := by rw [Hmt.out, decide_eq_false Hpt.out, Bool.and_false]
            have Hmn := Lib.hid hmn
            clear hmn
            cases b with
            | true =>
              have hneg : leastL (ticksIn (L.take k) id) < 0 := of_decide_eq_true Hb.out.1.symm
              have hst : leastL (ticksIn (L.take (k + 1)) id) = et := by rw [Hlv.out, if_pos Hid2.out, if_pos (.inl hneg)]
              have Hst := Lib.hid hst
              clear hneg hst
              go_wp2_with fail
              refine (Hs.out _).mono ?_
              rintro e w2 ⟨rfl, hk2⟩
              have hq1 := hk2.at_ (heap_new wr (.cells #[.string en, .int .i64 et] 130)) (by simp)
              have hc1 : w2.cell? ⟨wr.heap.size, 1, none⟩ = some (.int .i64 et) := cells_at hq1 1
              have hb1 := lt_of_at hq1
              clear hq1
              go_wp2_with fail
              go_roundg (L.length - (k + 1))
              case measure => have := Hg.out; omega
              case rel => exact ⟨k + 1, et, false, by omega, rfl, by go_num, rfl, rfl, by rw [Hst.out]; exact (decide_eq_false (by omega)).symm, fun _ => Hst.out.symm, ht0, ht1, Hmn.out, (Hk.out.trans (by repeat (first | exact Keeps.refl _ _ | assumption | refine Keeps.drew ?_ | refine Keeps.drewN ?_ _ | refine Keeps.alloc ?_ _ | refine Keeps.setCell ?_ (by first | exact .inl (by simp) | exact .inr (by simp; done) | exact .inr (by simp; omega)) _))).trans hk2⟩
            | false =>
              have hneg : ¬ leastL (ticksIn (L.take k) id) < 0 := of_decide_eq_false Hb.out.1.symm
              have ho := Hb.out.2 rfl
              by_cases hlo : et < old
              · have hst : leastL (ticksIn (L.take (k + 1)) id) = et := by rw [Hlv.out, if_pos Hid2.out, if_pos (.inr (by omega))]
                have Hst := Lib.hid hst
                clear hneg hst ho
                go_wp2_with fail
                refine (Hs.out _).mono ?_
                rintro e w2 ⟨rfl, hk2⟩
                have hq1 := hk2.at_ (heap_new wr (.cells #[.string en, .int .i64 et] 130)) (by simp)
                have hc1 : w2.cell? ⟨wr.heap.size, 1, none⟩ = some (.int .i64 et) := cells_at hq1 1
                have hb1 := lt_of_at hq1
                clear hq1
                go_wp2_with fail
                go_roundg (L.length - (k + 1))
                case measure => have := Hg.out; omega
                case rel => exact ⟨k + 1, et, false, by omega, rfl, by go_num, rfl, rfl, by rw [Hst.out]; exact (decide_eq_false (by omega)).symm, fun _ => Hst.out.symm, ht0, ht1, Hmn.out, (Hk.out.trans (by repeat (first | exact Keeps.refl _ _ | assumption | refine Keeps.drew ?_ | refine Keeps.drewN ?_ _ | refine Keeps.alloc ?_ _ | refine Keeps.setCell ?_ (by first | exact .inl (by simp) | exact .inr (by simp; done) | exact .inr (by simp; omega)) _))).trans hk2⟩
              · have hst : leastL (ticksIn (L.take (k + 1)) id) = old := by rw [Hlv.out, if_pos Hid2.out, if_neg (by omega), ho]
                have Hst := Lib.hid hst
                clear hneg hst ho
                go_wp2_with fail
                refine (Hs.out _).mono ?_
                rintro e w2 ⟨rfl, hk2⟩
                have hq1 := hk2.at_ (heap_new wr (.cells #[.string en, .int .i64 et] 130)) (by simp)
                have hc1 : w2.cell? ⟨wr.heap.size, 1, none⟩ = some (.int .i64 et) := cells_at hq1 1
                have hb1 := lt_of_at hq1
                clear hq1
                go_wp2_with fail
                go_roundg (L.length - (k + 1))
                case measure => have := Hg.out; omega
                case rel => exact ⟨k + 1, old, false, by omega, rfl, by go_num, rfl, rfl, by rw [Hst.out]; exact (decide_eq_false (by omega)).symm, fun _ => Hst.out.symm, ho0, ho1, Hmn.out, (Hk.out.trans (by repeat (first | exact Keeps.refl _ _ | assumption | refine Keeps.drew ?_ | refine Keeps.drewN ?_ _ | refine Keeps.alloc ?_ _ | refine Keeps.setCell ?_ (by first | exact .inl (by simp) | exact .inr (by simp; done) | exact .inr (by simp; omega)) _))).trans hk2⟩
        · have he2 : (id2.toList == id.toList) = false := by rw [hen]; exact decide_eq_false hid
          have Hid2 := Lib.hid hid
          clear hen hid hpm
          go_wp2_with fail
          refine (Hs.out _).mono ?_
          rintro e w2 ⟨rfl, hk2⟩
          go_wp2_with fail
          go_roundg (L.length - (k + 1))
          case measure => have := Hg.out; omega
          case rel => exact ⟨k + 1, old, b, by omega, rfl, by go_num, rfl, rfl, by rw [Hlv.out, if_neg Hid2.out]; exact Hb.out.1, by rw [Hlv.out, if_neg Hid2.out]; exact Hb.out.2, ho0, ho1, by rw [Hmt.out, decide_eq_false Hid2.out]; rfl, (Hk.out.trans (by repeat (first | exact Keeps.refl _ _ | assumption | refine Keeps.drew ?_ | refine Keeps.drewN ?_ _ | refine Keeps.alloc ?_ _ | refine Keeps.setCell ?_ (by first | exact .inl (by simp) | exact .inr (by simp; done) | exact .inr (by simp; omega)) _))).trans hk2⟩
      · have hk' : k = L.length := by omega
        subst hk'
        rw [List.take_length] at hb hold hmeta
        have h0 : 0 ≤ leastL (ticksIn L id) := by
          obtain ⟨p, hp, _, _, e⟩ := mem_ticksIn.1 (leastL_mem HL.out.2.2.2)
          rw [← e]; exact (HL.out.2.1 p hp).1
        have hbf : b = false := by rw [hb]; exact decide_eq_false (by omega)
        have ho := hold hbf
        have Ho := Lib.hid (And.intro ho (And.intro hmeta hkp))
        have hwr : IntKind.i64.wrap (now - old) = now - old := IntWalk.i64_in _ (by omega)
        have hge : ¬ (L.length : Int) < (L.length : Int) := by omega
        clear hg hb hold hmeta hbf ho hkp hk hlt
        go_wp2_with fail
        go_ret
        refine ⟨?_, Ho.out.2.2⟩
        unfold goesR
        simp only
        rw [Ho.out.2.1, ← Ho.out.1]
        rfl
end Go.Proofs.YtbndpegilpgheaaGreat
