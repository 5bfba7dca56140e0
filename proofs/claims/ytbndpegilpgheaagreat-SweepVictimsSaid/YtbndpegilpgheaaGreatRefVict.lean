/-
  The document's victims (ref 22): Victims.
  Old memory is left as it was.
-/
import Derived.Test.YtbndpegilpgheaaGreatRefGoes
import Derived.Test.YtbndpegilpgheaaGreatSweepVict
namespace Go.Proofs.YtbndpegilpgheaaGreat
open Go Go.RowKit Go.Conc

/-- The names of a list that are a block's part. -/
def inP (L : List (ByteArray × Ob)) (id p : ByteArray) : List ByteArray := (L.filter fun q => decide (q.1 = objectB id p)).map (·.1)

theorem inP_next {L : List (ByteArray × Ob)} {m : Nat} (hm : m < L.length) (id p : ByteArray) : inP (L.take (m + 1)) id p = inP (L.take m) id p ++ if L[m].1 = objectB id p then [L[m].1] else [] := by
  unfold inP
  rw [List.take_succ_eq_append_getElem hm, List.filter_append, List.map_append]
  congr 1
  by_cases h : L[m].1 = objectB id p <;> simp [h]

theorem inP_len (L : List (ByteArray × Ob)) (id p : ByteArray) : (inP L id p).length ≤ L.length := by
  unfold inP
  rw [List.length_map]
  exact List.length_filter_le _ _

theorem inP5 {L : List (ByteArray × Ob)} {id p : ByteArray} (hp : p ∈ partsB) : ∀ y ∈ inP L id p, 5 ≤ y.size := by
  intro y hy
  unfold inP at hy
  obtain ⟨q, hq, rfl⟩ := List.mem_map.1 hy
  rw [of_decide_eq_true (List.mem_filter.1 hq).2]
  exact object_size5 _ _ (part_size4 hp)

def partsIn (L : List (ByteArray × Ob)) (id : ByteArray) (i : Nat) : List ByteArray := (partsB.take i).flatMap (inP L id)

theorem partOf_mem (i : Nat) : partOf i ∈ partsB := by
  unfold partOf partsB
  split <;> simp

theorem partsIn_next (L : List (ByteArray × Ob)) (id : ByteArray) {i : Nat} (hi : i < 4) : partsIn L id (i + 1) = partsIn L id i ++ inP L id (partOf i) := by
  have e : partsB.take (i + 1) = partsB.take i ++ [partOf i] := by
    rcases i with _ | _ | _ | _ | i
    · rfl
    · rfl
    · rfl
    · rfl
    · omega
  unfold partsIn
  rw [e, List.flatMap_append]
  simp

theorem partsIn_len (L : List (ByteArray × Ob)) (id : ByteArray) (i : Nat) : (partsIn L id i).length ≤ 4 * L.length := by
  unfold partsIn
  have h := flat_len (inP L id) L.length (inP_len L id) (partsB.take i)
  have h2 : (partsB.take i).length ≤ 4 := by
    rw [List.length_take]
    exact Nat.le_trans (Nat.min_le_right _ _) (by decide)
  have h3 := Nat.mul_le_mul_left L.length h2
  omega

theorem partsIn5 (L : List (ByteArray × Ob)) (id : ByteArray) (i : Nat) : ∀ y ∈ partsIn L id i, 5 ≤ y.size := by
  intro y hy
  unfold partsIn at hy
  obtain ⟨p, hp, hy⟩ := List.mem_flatMap.1 hy
  exact inP5 (List.mem_of_mem_take hp) y hy

def refF (d g now : Int) (L : List (ByteArray × Ob)) (M : List (ByteArray × Int)) (id : ByteArray) : List ByteArray := if goesR d g now L id (look M id) then partsIn L id 4 else []

theorem refF_len (d g now : Int) (L : List (ByteArray × Ob)) (M : List (ByteArray × Int)) (id : ByteArray) : (refF d g now L M id).length ≤ 4 * L.length := by
  unfold refF
  split
  · exact partsIn_len _ _ _
  · simp

theorem refF5 (d g now : Int) (L : List (ByteArray × Ob)) (M : List (ByteArray × Int)) (id : ByteArray) : ∀ y ∈ refF d g now L M id, 5 ≤ y.size := by
  intro y hy
  unfold refF at hy
  split at hy
  · exact partsIn5 _ _ _ y hy
  · cases hy

theorem refVict_len {F : ByteArray → List ByteArray} {c : Nat} (hF : ∀ x, (F x).length ≤ c) {N : List ByteArray} : ∀ k, k ≤ N.length → (refVict F (N.take k)).2.length ≤ c * k
  | 0, _ => by simp [refVict]
  | k + 1, hk => by
    have h := refVict_len hF (N := N) k (by omega)
    rw [refVict_next F (by omega), Nat.mul_add, Nat.mul_one]
    unfold refStep
    split
    · omega
    · split
      · omega
      · rename_i a b _ _
        have := hF ⟨a.toArray⟩
        simp only [List.length_append]
        omega

theorem refVict5 {F : ByteArray → List ByteArray} (hF : ∀ x, ∀ y ∈ F x, 5 ≤ y.size) {N : List ByteArray} : ∀ k, k ≤ N.length → ∀ y ∈ (refVict F (N.take k)).2, 5 ≤ y.size
  | 0, _ => by simp [refVict]
  | k + 1, hk => by
    have h := refVict5 hF (N := N) k (by omega)
    rw [refVict_next F (by omega)]
    unfold refStep
    split
    · exact h
    · split
      · exact h
      · intro y hy
        rcases List.mem_append.1 hy with hy | hy
        · exact h y hy
        · exact hF _ y hy


def RVRel1 (W2 : World) (F : ByteArray → List ByteArray) (N : List ByteArray) (gk : Nat) (u11 u12 u25 : Value) (wr : World) : Prop :=
  ∃ k, k ≤ N.length ∧ gk = N.length - k ∧ u25 = .int .i64 k ∧ u12 = .string (refVict F (N.take k)).1 ∧
    wr.ownsRow W2.heap.size 9 1 u11 (refVict F (N.take k)).2.length ((refVict F (N.take k)).2.map Value.string) ∧ Keeps [] W2 wr

def RVRel2 (w : World) (pb : Nat) (O : List ByteArray) (L : List (ByteArray × Ob)) (id : ByteArray) (gk : Nat) (u11 u54 : Value) (wr : World) : Prop :=
  ∃ i, i ≤ 4 ∧ gk = 4 - i ∧ u54 = .int .i64 i ∧ wr.ownsRow w.heap.size 9 1 u11 (O ++ partsIn L id i).length ((O ++ partsIn L id i).map Value.string) ∧ Keeps [] w wr ∧
    wr.heap[pb]? = some (.cells #[.string metaB, .string indexB, .string chunksB, .string markB] 9 (0, 0)) ∧ u11.ownBlock ≠ some pb

def RVRel3 (w : World) (pb : Nat) (O : List ByteArray) (L : List (ByteArray × Ob)) (id pt : ByteArray) (gk : Nat) (u11 u60 : Value) (wr : World) : Prop :=
  ∃ m, m ≤ L.length ∧ gk = L.length - m ∧ u60 = .int .i64 m ∧ wr.ownsRow w.heap.size 9 1 u11 (O ++ inP (L.take m) id pt).length ((O ++ inP (L.take m) id pt).map Value.string) ∧ Keeps [] w wr ∧
    wr.heap[pb]? = some (.cells #[.string metaB, .string indexB, .string chunksB, .string markB] 9 (0, 0)) ∧ u11.ownBlock ≠ some pb

def RefVictPost (w : World) (R : List ByteArray) (e : Ending) (w' : World) : Prop :=
  ∃ v, e = .returned v ∧ w'.ownsRow w.heap.size 9 1 v R.length (R.map Value.string) ∧ Keeps [] w w'

set_option linter.unusedSimpArgs false in
set_option maxRecDepth 100000 in
set_option maxHeartbeats 1000000 in
theorem refVictims_spec (w : World) (d g now : Int) (vo vm : Value) (L : List (ByteArray × Ob)) (M : List (ByteArray × Int)) (hL : SliceArg 2 tickE w vo L) (hM : SliceArg 2 pairE w vm M)
    (hn0 : 0 ≤ now) (hn1 : now ≤ 1099511627776) (hMt : ∀ p ∈ M, 0 ≤ p.2 ∧ p.2 ≤ 1099511627776) (hLt : ∀ p ∈ L, 0 ≤ p.2.2 ∧ p.2.2 ≤ 1099511627776)
    (hLn : ∀ p ∈ L, ∃ id part, isIDB id.data.toList = true ∧ part ∈ partsB ∧ p.1 = objectB id part) (hll : L.length ≤ 1000) :
    Calls Tryz.prog 19 #[.int .i64 d, .int .i64 g, .int .i64 now, vo, vm] w (RefVictPost w (refVict (refF d g now L M) (L.map (·.1))).2) := by
  have HL := Lib.hid (And.intro hL (And.intro hM (And.intro hMt (And.intro hLt hLn))))
  obtain ⟨ao, cap, rfl, hl, _⟩ := hL
  unfold maxLen at hl
  clear hM hMt hLt hLn
  obtain ⟨ii, hii, hz0, hz1, hz2⟩ := info_parts infoStr
  go_enter Tryz.func19, Tryz.ntmps19
  go_wp2_with fail
  go_loopg [11, 12, 25] (L.map (·.1)).length (RVRel1 w (refF d g now L M) (L.map (·.1)))
  case atStart => exact ⟨0, Nat.zero_le _, rfl, rfl, rfl, World.ownsRow_made w #[] 0 (Nat.le_refl _) (Nat.zero_le _) rfl, (Keeps.refl [] w).alloc _⟩
  case round =>
    obtain ⟨k, hk, hg, rfl, rfl, hrow, hkp⟩ := hrel
    have hnx := fun h => refVict_next (refF d g now L M) (N := L.map (·.1)) (k := k) h
    have hO5 := refVict5 (refF5 d g now L M) (N := L.map (·.1)) k hk
    have hOl := refVict_len (refF_len d g now L M) (N := L.map (·.1)) k hk
    rw [List.length_map] at hk
    have hOl2 : 4 * L.length * k ≤ 4000000 := by
      have h1 : 4 * L.length ≤ 4000 := by omega
      have h2 := Nat.mul_le_mul h1 (show k ≤ 1000 by omega)
      omega
    obtain ⟨st, hst⟩ : ∃ st, st = refVict (refF d g now L M) ((L.map (·.1)).take k) := ⟨_, rfl⟩
    rw [← hst] at hrow hnx hO5 hOl ⊢
    have Hst := Lib.hid hst
    obtain ⟨last, O⟩ := st
    simp only at hrow hO5 hOl
    have Hg := Lib.hid hg
    clear hg hst
    by_cases hlt : k < L.length
    · have hlt' : (k : Int) < (L.length : Int) := by omega
      have hnx := hnx (by rw [List.length_map]; exact hlt)
      obtain ⟨ob, off, cap2, e, hob, h0, h1⟩ := tick_cells (HL.out.1.keep hkp) hlt
      injection e with e1 e2 e3
      subst e1
      clear e2 e3
      obtain ⟨id, part, hi, hp, hn⟩ := HL.out.2.2.2.2 L[k] (List.getElem_mem _)
      have hne : ticksIn L id ≠ [] := by
        intro e
        have : L[k].2.2 ∈ ticksIn L id := mem_ticksIn.2 ⟨L[k], List.getElem_mem _, part.data.toList, by rw [hn]; exact object_split hi hp, rfl⟩
        rw [e] at this
        cases this
      rw [List.getElem_map, hn] at hnx
      unfold refStep at hnx
      rw [object_split hi hp] at hnx
      simp only [show (⟨id.data.toList.toArray⟩ : ByteArray) = id from ba_mk id] at hnx
      have Hs := Lib.hid (fun w => refSplit_spec w id part hi hp)
      rw [← hn] at Hs
      have Hgo := Lib.hid (fun W (hW : Keeps [] w W) => refGoes_spec W d g now _ vm L M id (HL.out.1.keep hW) (HL.out.2.1.keep hW) hn0 hn1 HL.out.2.2.1 HL.out.2.2.2.1 HL.out.2.2.2.2 hne hi)
      have Hk := Lib.hid (And.intro hrow (And.intro hkp hO5))
      have hids : id.size = 16 := id_size hi
      generalize L[k] = ent at *
      obtain ⟨en, ed, et⟩ := ent
      simp only at h0 h1 Hs
      clear hne hrow hkp hO5 hn hi hp
      have hen := toList_beq id last
      by_cases hid : id = last
      · have he2 : (id.toList == last.toList) = true := by rw [hen]; exact decide_eq_true hid
        rw [if_pos hid] at hnx
        have Hnx := Lib.hid hnx
        clear hen hid hnx hids
        go_wp2_with fail
        refine (Hs.out _).mono ?_
        rintro e w2 ⟨rfl, hk2⟩
        have hk3 : Keeps [] wr w2 := Keeps.trans (by repeat (first | exact Keeps.refl _ _ | assumption | refine Keeps.drew ?_ | refine Keeps.drewN ?_ _ | refine Keeps.alloc ?_ _ | refine Keeps.setCell ?_ (by first | exact .inl (by simp) | exact .inr (by simp; done) | exact .inr (by simp; omega)) _)) hk2
        have Hk3 := Lib.hid hk3
        clear hk2 hk3
        go_wp2_with fail
        go_roundg ((L.map (·.1)).length - (k + 1))
        case measure => have := Hg.out; simp only [List.length_map] at this ⊢; omega
        case rel => exact ⟨k + 1, by rw [List.length_map]; omega, rfl, by go_num, by rw [Hnx.out], by rw [Hnx.out]; exact Hk3.out.row Hk.out.1 (by simp), Hk.out.2.1.trans Hk3.out⟩
      · have he2 : (id.toList == last.toList) = false := by rw [hen]; exact decide_eq_false hid
        rw [if_neg hid] at hnx
        have Hnx := Lib.hid hnx
        clear hen hid hnx
        go_wp2_with fail
        refine (Hs.out _).mono ?_
        rintro e w2 ⟨rfl, hk2⟩
        have hk3 : Keeps [] wr w2 := Keeps.trans (by repeat (first | exact Keeps.refl _ _ | assumption | refine Keeps.drew ?_ | refine Keeps.drewN ?_ _ | refine Keeps.alloc ?_ _ | refine Keeps.setCell ?_ (by first | exact .inl (by simp) | exact .inr (by simp; done) | exact .inr (by simp; omega)) _)) hk2
        have Hk3 := Lib.hid hk3
        clear hk2 hk3
        go_wp2_with fail
        refine (Hgo.out _ (Hk.out.2.1.trans Hk3.out)).mono ?_
        rintro e w3 ⟨rfl, hk4⟩
        have Hk4 := Lib.hid (And.intro (hk4.row (Hk3.out.row Hk.out.1 (by simp)) (by simp)) ((Hk.out.2.1.trans Hk3.out).trans hk4))
        clear hk4
        cases hgo : goesR d g now L id (look M id) with
        | false =>
          have hF : refF d g now L M id = [] := by unfold refF; rw [hgo]; rfl
          rw [hF, List.append_nil] at Hnx
          clear hF hgo
          go_wp2_with fail
          go_roundg ((L.map (·.1)).length - (k + 1))
          case measure => have := Hg.out; simp only [List.length_map] at this ⊢; omega
          case rel => exact ⟨k + 1, by rw [List.length_map]; omega, rfl, by go_num, by rw [Hnx.out], by rw [Hnx.out]; exact Hk4.out.1, Hk4.out.2⟩
        | true =>
          have hF : refF d g now L M id = partsIn L id 4 := by unfold refF; rw [hgo]; rfl
          rw [hF] at Hnx
          clear hF hgo
          have np := heap_new w3 (.cells #[.string metaB, .string indexB, .string chunksB, .string markB] 9)
          have hnb : u11.ownBlock ≠ some w3.heap.size := fun e => by have := (Hk4.out.1.lt _ e).2; omega
          have H3 := Lib.hid (And.intro np (And.intro hnb (And.intro (Hk4.out.1.alloc (.cells #[.string metaB, .string indexB, .string chunksB, .string markB] 9)) (Hk4.out.2.alloc (.cells #[.string metaB, .string indexB, .string chunksB, .string markB] 9)))))
          clear np hnb
          go_wp2_with fail
          go_loopg [11, 54] 4 (RVRel2 w w3.heap.size O L id)
          case atStart => exact ⟨0, by decide, rfl, rfl, by rw [show O ++ partsIn L id 0 = O from by simp [partsIn]]; exact H3.out.2.2.1, H3.out.2.2.2, H3.out.1, H3.out.2.1⟩
          case round =>
            obtain ⟨i, hi4, hgi, rfl, hrowi, hki, hpi, hni⟩ := hrel
            have Hgi := Lib.hid hgi
            clear hgi
            have hgl := partsIn_len L id i
            by_cases hit : i < 4
            · have dP : wr.cell? ⟨w3.heap.size, i, none⟩ = some (.string (partOf i)) := by
                rw [cells_at hpi]
                rcases i with _ | _ | _ | _ | i
                · rfl
                · rfl
                · rfl
                · rfl
                · omega
              have lpb' := lt_of_at hpi
              have hps := partOf_size i
              have hit' : (i : Int) < 4 := by omega
              have Hgp := Lib.hid (show O ++ partsIn L id (i + 1) = (O ++ partsIn L id i) ++ inP L id (partOf i) from by rw [partsIn_next L id hit, List.append_assoc])
              have Hi3 := Lib.hid (And.intro hrowi (And.intro hki (And.intro hpi hni)))
              have Hob5 := Lib.hid (object_size5 id (partOf i) (partOf_size4 i))
              have Hpm := Lib.hid (partOf_mem i)
              have HO2 := Lib.hid (show ∀ y ∈ O ++ partsIn L id i, 5 ≤ y.size from fun y hy => (List.mem_append.1 hy).elim (Hk.out.2.2 y) (partsIn5 L id i y))
              have hO2l : (O ++ partsIn L id i).length ≤ 5000000 := by rw [List.length_append]; omega
              clear hrowi hki hpi hni
              generalize partOf i = pt at dP hps Hgp Hob5 Hpm
              obtain ⟨O2, hO2⟩ : ∃ O2, O2 = O ++ partsIn L id i := ⟨_, rfl⟩
              rw [← hO2] at Hi3 HO2 hO2l Hgp
              go_wp2_with fail
              go_loopg [11, 60] L.length (RVRel3 w w3.heap.size O2 L id pt)
              case atStart => exact ⟨0, Nat.zero_le _, rfl, rfl, by rw [show O2 ++ inP (L.take 0) id pt = O2 from by simp [inP]]; exact Hi3.out.1, Hi3.out.2.1, Hi3.out.2.2.1, Hi3.out.2.2.2⟩
              case round =>
                obtain ⟨m, hm, hgm, rfl, hrowm, hkm, hpm, hnm⟩ := hrel
                have Hgm := Lib.hid hgm
                have hinl := inP_len (L.take m) id pt
                have hinl2 : (L.take m).length ≤ 1000 := by rw [List.length_take]; omega
                clear hgm
                by_cases hlm : m < L.length
                · have hlm' : (m : Int) < (L.length : Int) := by omega
                  obtain ⟨ob2, off2, cap3, e, hob2, h20, h21⟩ := tick_cells (HL.out.1.keep hkm) hlm
                  injection e with e1 e2 e3
                  injection e1 with e1
                  injection e1 with e1 e4
                  subst e1 e4
                  clear e2 e3
                  have Hnx2 := Lib.hid (inP_next hlm id pt)
                  generalize L[m] = ent2 at *
                  obtain ⟨en2, ed2, et2⟩ := ent2
                  simp only at h20 h21 Hnx2
                  have hz : (id ++ (⟨#[47]⟩ : ByteArray)).size ≤ 1000 := by rw [ByteArray.size_append]; show id.size + 1 ≤ _; omega
                  have hen2 := toList_beq en2 (id ++ ⟨#[47]⟩ ++ pt)
                  have lpb3 := lt_of_at hpm
                  have Hm3 := Lib.hid (And.intro hrowm (And.intro hkm (And.intro hpm hnm)))
                  clear hrowm hkm hpm hnm
                  by_cases heq : en2 = objectB id pt
                  · have he2 : (en2.toList == (id ++ ⟨#[47]⟩ ++ pt).toList) = true := by rw [hen2]; exact decide_eq_true heq
                    have Heq := Lib.hid heq
                    have hwz : w.heap.size ≤ wr.heap.size := Hm3.out.2.1.size
                    have hll3 : (O2 ++ inP (L.take m) id pt).length ≤ 5001000 := by rw [List.length_append]; omega
                    clear hen2 heq
                    go_wp2_with (at_builtin; refine wpList_append_own _ rfl (.tmp 71) (.tmp 74) 25 rfl w.heap.size 9 ii _ 1 16 Tryz.underlying25 hii hz0 hz1 hz2 rfl (by decide) u11 (O2 ++ inP (L.take m) id pt).length ((O2 ++ inP (L.take m) id pt).map Value.string) rfl ((Hm3.out.1.alloc _).alloc _) ⟨wr.heap.size + 1, 0, none⟩ 1 1 [.string en2] rfl rfl (news_of (new2 wr _ _).2) (by simp [Value.oneCell']) (by simp only [maxLen]; omega) (by omega) (by simp; omega) ?_; intro v8 w8 hown8 hgrow8 hnil; clear hnil)
                    have hk8 : Keeps [] w w8 := keeps_grown ((Hm3.out.2.1.alloc _).alloc _) hgrow8 (fun q hq => (Hm3.out.1.lt q hq).1)
                    have hrow8 : w8.ownsRow w.heap.size 9 1 v8 (O2 ++ inP (L.take (m + 1)) id pt).length ((O2 ++ inP (L.take (m + 1)) id pt).map Value.string) := by
                      rw [Hnx2.out, if_pos Heq.out, ← List.append_assoc]
                      simpa [Nat.add_assoc] using hown8
                    have hp8 := (hgrow8.block w3.heap.size (by have := lpb3; simp; omega) (fun e => Hm3.out.2.2.2 e.symm)).trans (heap_old (heap_old Hm3.out.2.2.1 _) _)
                    go_roundg (L.length - (m + 1))
                    case measure => have := Hgm.out; omega
                    case rel => exact ⟨m + 1, by omega, rfl, by go_num, hrow8, hk8, hp8, row_not_parts hrow8 (by rw [Hnx2.out, if_pos Heq.out]; simp) (fun y hy => (List.mem_append.1 hy).elim (HO2.out y) (inP5 Hpm.out y)) hp8⟩
                  · have he2 : (en2.toList == (id ++ ⟨#[47]⟩ ++ pt).toList) = false := by rw [hen2]; exact decide_eq_false heq
                    have Heq := Lib.hid heq
                    clear hen2 heq
                    go_wp2_with fail
                    go_roundg (L.length - (m + 1))
                    case measure => have := Hgm.out; omega
                    case rel => exact ⟨m + 1, by omega, rfl, by go_num, by rw [Hnx2.out, if_neg Heq.out, List.append_nil]; exact Hm3.out.1.alloc _, Hm3.out.2.1.alloc _, heap_old Hm3.out.2.2.1 _, Hm3.out.2.2.2⟩
                · have hme : m = L.length := by omega
                  have He := Lib.hid (And.intro hrowm (And.intro hkm (And.intro hpm hnm)))
                  rw [hme, List.take_length] at He
                  have hge : ¬ (m : Int) < (L.length : Int) := by omega
                  clear hrowm hkm hpm hnm
                  go_wp2_with fail
                  go_roundg (4 - (i + 1))
                  case measure => have := Hgi.out; omega
                  case rel => exact ⟨i + 1, by omega, rfl, by go_num, by rw [Hgp.out]; exact He.out.1, He.out.2⟩
            · obtain rfl : i = 4 := by omega
              have He := Lib.hid (And.intro hrowi hki)
              clear hrowi hki hpi hni
              go_wp2_with fail
              go_roundg ((L.map (·.1)).length - (k + 1))
              case measure => have := Hg.out; simp only [List.length_map] at this ⊢; omega
              case rel => exact ⟨k + 1, by rw [List.length_map]; omega, rfl, by go_num, by rw [Hnx.out], by rw [Hnx.out]; exact He.out.1, He.out.2⟩
    · have hke : k = L.length := by omega
      have hge : ¬ (k : Int) < (L.length : Int) := by omega
      have He := Lib.hid (And.intro Hst.out (And.intro hrow hkp))
      rw [hke] at He
      clear hrow hkp hnx hO5 hOl hOl2
      go_wp2_with fail
      go_ret
      have h1 := He.out.1
      rw [List.take_of_length_le (by simp)] at h1
      rw [← h1]
      exact ⟨_, rfl, He.out.2.1, He.out.2.2⟩
end Go.Proofs.YtbndpegilpgheaaGreat
