/-
  What a sweep deletes (package sweep): Victims.
  Names are short, ticks not below 0; the library's variable is laid.
-/
import Derived.Test.YtbndpegilpgheaaGreatSweepOldest
import Derived.Test.YtbndpegilpgheaaGreatSortB
import Derived.Test.YtbndpegilpgheaaGreatSweepRound
namespace Go.Proofs.YtbndpegilpgheaaGreat
open Go Go.RowKit Go.Conc

theorem zeroBlk (w : World) : (zeroValue 134).run Tryz.prog w = .ok (.map none) w := by kernel_rfl

theorem addPart_some {m : List (ByteArray × PartsM)} {p : ByteArray × Ob} {a b : List UInt8} (h : splitL p.1.data.toList = some (a, b)) :
    addPart m p = put m ⟨a.toArray⟩ (put ((look m ⟨a.toArray⟩).getD []) ⟨b.toArray⟩ p.2.2) := by unfold addPart; rw [h]

theorem addPart_none {m : List (ByteArray × PartsM)} {p : ByteArray × Ob} (h : splitL p.1.data.toList = none) : addPart m p = m := by unfold addPart; rw [h]

theorem put_put {α : Type} (n : ByteArray) (x y : α) : ∀ m : List (ByteArray × α), put (put m n x) n y = put m n y
  | [] => by simp [put]
  | (k, z) :: m => by
    by_cases e : n = k
    · simp [put, e]
    · simp [put, e, put_put n x y m]

/-- What a new block, and its first part, make of the blocks. -/
theorem plain_new {T : List BlkT} {id part : ByteArray} {nb : Nat} {t : Int} (hid : id ∉ T.map (·.1)) (hk : ((T ++ [((id, nb, []) : BlkT)]).map (·.1)).Nodup) : plainOf (setT (T ++ [((id, nb, []) : BlkT)]) id [(part, t)]) = put (plainOf T) id (put ((look (plainOf T) id).getD []) part t) := by
  rw [setT_plain hk (by simp)]
  have e1 : plainOf (T ++ [(id, nb, [])]) = put (plainOf T) id [] := by
    rw [put_new (by rw [plain_keys]; exact hid)]
    simp [plainOf]
  rw [e1, put_put, (look_none_iff id (plainOf T)).2 (by rw [plain_keys]; exact hid)]
  rfl

theorem plain_more {T : List BlkT} {id part : ByteArray} {n : Nat} {x : PartsM} {t : Int} (hin : (id, n, x) ∈ T) (hk : (T.map (·.1)).Nodup) (hl : look (plainOf T) id = some x) : plainOf (setT T id (put x part t)) = put (plainOf T) id (put ((look (plainOf T) id).getD []) part t) := by
  rw [setT_plain hk (List.mem_map.2 ⟨_, hin, rfl⟩), hl]
  rfl


def VRel1 (W0 : World) (ob : Nat) (L : List (ByteArray × Ob)) (gk : Nat) (vn u : Value) (wr : World) : Prop :=
  ∃ k T, k ≤ L.length ∧ gk = L.length - k ∧ u = .int .i64 k ∧ BlocksAt wr W0.heap.size ob T ∧ plainOf T = blocksOf (L.take k) ∧ T.length ≤ k ∧
    wr.ownsRow W0.heap.size 9 1 vn T.length ((T.map (·.1)).map Value.string) ∧ Keeps [] W0 wr

theorem VRel1.next_no {W0 wr w' : World} {ob k : Nat} {L : List (ByteArray × Ob)} {vn : Value} {T : List BlkT} (hk : k < L.length) (hs : splitL L[k].1.data.toList = none) (hB : BlocksAt wr W0.heap.size ob T) (hp : plainOf T = blocksOf (L.take k)) (hl : T.length ≤ k)
    (hr : wr.ownsRow W0.heap.size 9 1 vn T.length ((T.map (·.1)).map Value.string)) (hkp : Keeps [] W0 wr) (k2 : Keeps [] wr w') : VRel1 W0 ob L (L.length - (k + 1)) vn (.int .i64 ((k + 1 : Nat) : Int)) w' :=
  ⟨k + 1, T, hk, rfl, rfl, hB.same k2, by rw [blocks_next hk, addPart_none hs]; exact hp, by omega, k2.row hr (by simp), hkp.trans k2⟩


theorem row_cells {w : World} {base : Nat} {e : TypeId} {size n : Nat} {v : Value} {xs : List Value} (h : w.ownsRow base e size v n xs) : ∀ x ∈ v.ownBlock.toList, ∃ cs t z, w.heap[x]? = some (.cells cs t z) := by
  intro x hx
  obtain ⟨_, ⟨rfl, _⟩ | ⟨g, cap, cur, rfl, _, hb, _⟩⟩ := h
  · simp [Value.ownBlock] at hx
  · simp [Value.ownBlock] at hx
    subst hx
    exact ⟨_, _, _, hb⟩

theorem keeps_row {w w' : World} {v : Value} (hg : w.grownBy w' v.ownBlock) : Keeps v.ownBlock.toList w w' := Keeps.of_grown hg (fun k hk => .inl (by simp [hk]))

theorem row_ne_map {w : World} {base : Nat} {e : TypeId} {size n b : Nat} {v : Value} {xs : List Value} {m : KV} (h : w.ownsRow base e size v n xs) (hm : MapAt w b m) : ∀ g, v.ownBlock = some g → g ≠ b := by
  intro g hg
  obtain ⟨cs, t, z, hb⟩ := row_cells h g (by simp [hg])
  exact hm.ne hb

theorem VRel1.next {W0 w8 w9 : World} {ob k n : Nat} {L : List (ByteArray × Ob)} {v8 : Value} {T : List BlkT} {id part : ByteArray} {x : PartsM} {t : Int} (hk : k < L.length) (hin : (id, n, x) ∈ T) (hB : BlocksAt w8 W0.heap.size ob T) (hm : MapAt w9 n (put (encMap encI x) part (encI t))) (hk9 : Keeps [n] w8 w9)
    (hrow : w8.ownsRow W0.heap.size 9 1 v8 T.length ((T.map (·.1)).map Value.string)) (hk8 : Keeps [] W0 w8) (hp : plainOf (setT T id (put x part t)) = blocksOf (L.take (k + 1))) (hl : T.length ≤ k + 1) : VRel1 W0 ob L (L.length - (k + 1)) v8 (.int .i64 ((k + 1 : Nat) : Int)) w9 := by
  rw [put_enc] at hm
  have hne := row_ne_map hrow (hB.inner _ hin)
  have e1 : (setT T id (put x part t)).length = T.length := by simp [setT]
  refine ⟨k + 1, setT T id (put x part t), hk, rfl, rfl, hB.set hin hk9 hm, hp, by rw [e1]; exact hl, ?_, hk8.after hk9 (fun y hy => .inr (by
    simp only [List.mem_singleton] at hy
    have := hB.low.2 _ hin
    simp only at this
    omega))⟩
  rw [setT_keys, e1]
  exact hk9.row hrow (fun g hg => by simpa using hne g hg)


theorem encS1_map (L : List ByteArray) : L.map Value.string = L.flatMap encS1 := by
  induction L with
  | nil => rfl
  | cons x L ih => simp [encS1, ih]

def VictPost (w : World) (V : List ByteArray) (e : Ending) (w' : World) : Prop := ∃ v, e = .returned v ∧ SliceFrom w.heap.size 1 encS1 w' v V ∧ Keeps [] w w'

def outV (d g now : Int) (L : List (ByteArray × Ob)) (mk : ByteArray → Option Int) (N : List ByteArray) : List ByteArray := N.flatMap (victimsOf d g now (blocksOf L) mk)


theorem lookVal_int2 (pm : PartsM) (n : ByteArray) : lookVal (encMap encI pm) n (.int .i64 0) true = .tuple #[.int .i64 ((look pm n).getD 0), .bool (look pm n).isSome] := by
  unfold lookVal
  rw [look_enc]
  cases look pm n <;> rfl

def VRel2 (w2 : World) (F : ByteArray → List ByteArray) (N : List ByteArray) (gk : Nat) (vo u : Value) (wr : World) : Prop :=
  ∃ j, j ≤ N.length ∧ gk = N.length - j ∧ u = .int .i64 j ∧ wr.ownsRow w2.heap.size 9 1 vo ((N.take j).flatMap F).length (((N.take j).flatMap F).map Value.string) ∧ Keeps [] w2 wr

theorem flat_next {α β : Type} (F : α → List β) {N : List α} {j : Nat} (hj : j < N.length) : (N.take (j + 1)).flatMap F = (N.take j).flatMap F ++ F N[j] := by
  rw [List.take_succ_eq_append_getElem hj, List.flatMap_append]
  simp

theorem flat_len {α β : Type} (F : α → List β) (c : Nat) (hF : ∀ x, (F x).length ≤ c) : ∀ N : List α, (N.flatMap F).length ≤ c * N.length
  | [] => by simp
  | x :: N => by
    have h1 := hF x
    have h2 := flat_len F c hF N
    simp only [List.flatMap_cons, List.length_append, List.length_cons, Nat.mul_add]
    omega

theorem victimsOf_len (d g now : Int) (m : List (ByteArray × PartsM)) (mk : ByteArray → Option Int) (id : ByteArray) : (victimsOf d g now m mk id).length ≤ 4 := by
  unfold victimsOf
  split
  · rw [List.length_map]
    exact Nat.le_trans (List.length_filter_le _ _) (by decide)
  · simp

/-- The parts that go so far. -/
def goP (x : PartsM) (id : ByteArray) (i : Nat) : List ByteArray := ((partsB.take i).filter fun p => (look x p).isSome).map (objectB id)

def partOf (i : Nat) : ByteArray := match i with | 0 => metaB | 1 => indexB | 2 => chunksB | _ => markB

theorem partOf_size (i : Nat) : (partOf i).size ≤ 6 := by
  unfold partOf
  split <;> decide

theorem goP_len (x : PartsM) (id : ByteArray) (i : Nat) : (goP x id i).length ≤ 4 := by
  unfold goP
  rw [List.length_map]
  refine Nat.le_trans (List.length_filter_le _ _) ?_
  rw [List.length_take]
  exact Nat.le_trans (Nat.min_le_right _ _) (by decide)

theorem goP_next (x : PartsM) (id : ByteArray) {i : Nat} (hi : i < 4) : goP x id (i + 1) = goP x id i ++ if (look x (partOf i)).isSome = true then [objectB id (partOf i)] else [] := by
  have e : partsB.take (i + 1) = partsB.take i ++ [partOf i] := by
    rcases i with _ | _ | _ | _ | i
    · rfl
    · rfl
    · rfl
    · rfl
    · omega
  unfold goP
  rw [e, List.filter_append, List.map_append]
  congr 1
  cases h : (look x (partOf i)).isSome <;> simp [h]

theorem partOf_size4 (i : Nat) : 4 ≤ (partOf i).size := by
  unfold partOf
  split <;> decide

theorem object_size5 (id p : ByteArray) (hp : 4 ≤ p.size) : 5 ≤ (objectB id p).size := by
  unfold objectB
  rw [ByteArray.size_append, ByteArray.size_append]
  have : (⟨#[47]⟩ : ByteArray).size = 1 := rfl
  omega

theorem part_size6 {p : ByteArray} (h : p ∈ partsB) : p.size ≤ 6 := by
  unfold partsB at h
  simp only [List.mem_cons, List.not_mem_nil, or_false] at h
  rcases h with rfl | rfl | rfl | rfl <;> decide

theorem part_size4 {p : ByteArray} (h : p ∈ partsB) : 4 ≤ p.size := by
  unfold partsB at h
  simp only [List.mem_cons, List.not_mem_nil, or_false] at h
  rcases h with rfl | rfl | rfl | rfl <;> decide

theorem goP5 {O : List ByteArray} {x : PartsM} {id : ByteArray} {i : Nat} (hO : ∀ y ∈ O, 5 ≤ y.size) : ∀ y ∈ O ++ goP x id i, 5 ≤ y.size := by
  intro y hy
  rcases List.mem_append.1 hy with hy | hy
  · exact hO y hy
  · unfold goP at hy
    obtain ⟨p, hp, rfl⟩ := List.mem_map.1 hy
    exact object_size5 _ _ (part_size4 (List.mem_of_mem_take (List.mem_filter.1 hp).1))

theorem victims5 (d g now : Int) (m : List (ByteArray × PartsM)) (mk : ByteArray → Option Int) (N : List ByteArray) : ∀ y ∈ N.flatMap (victimsOf d g now m mk), 5 ≤ y.size := by
  intro y hy
  obtain ⟨id, _, hy⟩ := List.mem_flatMap.1 hy
  unfold victimsOf at hy
  split at hy
  · obtain ⟨p, hp, rfl⟩ := List.mem_map.1 hy
    exact object_size5 _ _ (part_size4 (List.mem_filter.1 hp).1)
  · cases hy

/-- A row of objects' names is not the row of the parts. -/
theorem row_not_parts {w : World} {base pb : Nat} {e t : TypeId} {v : Value} {ys : List ByteArray} {z : Nat × Nat} (h : w.ownsRow base e 1 v ys.length (ys.map Value.string)) (hne : ys ≠ []) (h5 : ∀ y ∈ ys, 5 ≤ y.size)
    (hp : w.heap[pb]? = some (.cells #[.string metaB, .string indexB, .string chunksB, .string markB] t z)) : v.ownBlock ≠ some pb := by
  intro hv
  cases ys with
  | nil => exact hne rfl
  | cons y ys =>
    have h' := h
    obtain ⟨_, ⟨rfl, hn⟩ | ⟨g, cap, cur, rfl, _, hb, _⟩⟩ := h
    · simp at hn
    · simp only [Value.ownBlock, Option.some.injEq] at hv
      subst hv
      have h0 := World.ownsRow.cellAt h' 0 (by simp)
      rw [cells_at hp] at h0
      simp at h0
      have := h5 y (by simp)
      rw [← h0] at this
      exact absurd this (by decide)

def VRel3 (w2 : World) (pb : Nat) (O : List ByteArray) (x : PartsM) (id : ByteArray) (gk : Nat) (vo u : Value) (wr : World) : Prop :=
  ∃ i, i ≤ 4 ∧ gk = 4 - i ∧ u = .int .i64 i ∧ wr.ownsRow w2.heap.size 9 1 vo (O ++ goP x id i).length ((O ++ goP x id i).map Value.string) ∧ Keeps [] w2 wr ∧
    wr.heap[pb]? = some (.cells #[.string metaB, .string indexB, .string chunksB, .string markB] 9 (0, 0)) ∧ vo.ownBlock ≠ some pb

theorem parts_spec (w : World) : Calls Tryz.prog 57 #[] w fun e w' => e = .returned (.slice (some ⟨w.heap.size, 0, none⟩) 4 4) ∧ w' = w.alloc (.cells #[.string metaB, .string indexB, .string chunksB, .string markB] 9) := by
  go_enter Tryz.func57, Tryz.ntmps57
  go_wp2_with fail
  go_ret
  exact ⟨rfl, rfl⟩


set_option linter.unusedSimpArgs false in
set_option maxRecDepth 100000 in
set_option maxHeartbeats 1000000 in
theorem victims_spec (w : World) (d g p now : Int) (v : Value) (L : List (ByteArray × Ob)) (mb : Nat) (M : PartsM) (hL : SliceArg 3 infoOf w v L) (hM : MapAt w mb (encMap encI M)) (hv : LibVar w)
    (hLk : ∀ x ∈ L, x.1.size ≤ 40 ∧ 0 ≤ x.2.2 ∧ x.2.2 ≤ 1099511627776) (hLl : L.length ≤ 1000) (hMt : ∀ id t, look M id = some t → 0 ≤ t ∧ t ≤ 1099511627776) (hnow : -1099511627776 ≤ now ∧ now ≤ 1099511627776) (hnd : (L.map (·.1)).Nodup) :
    Calls Tryz.prog 17 #[.agg #[.int .i64 d, .int .i64 g, .int .i64 p], .int .i64 now, v, .map (some mb)] w (VictPost w (victimsL d g now L (look M))) := by
  obtain ⟨ai, ci, rfl, hil, hic⟩ := hL
  unfold maxLen at hil
  have Hi := Lib.hid hic
  have HLk := Lib.hid hLk
  have Hm := Lib.hid (And.intro hM (And.intro hMt (And.intro hv hnd)))
  clear hic hLk hM hMt hv hnd
  obtain ⟨ii, hii, hz0, hz1, hz2⟩ := info_parts infoStr
  have hmm := @run_makeMap Tryz.prog
  have qT : ∀ (w : World) (r : Option Nat), (binOp .eql 134 (.map r) (.map none)).run Tryz.prog w = .ok (.bool r.isNone) w := fun w r => run_eql_map_nil w _ _ _ r Tryz.underlying134
  go_enter Tryz.func17, Tryz.ntmps17
  go_wp2_with fail
  obtain ⟨W0, hW0⟩ : ∃ W, W = w.alloc (.cells #[.int .i64 d, .int .i64 g, .int .i64 p] 50) := ⟨_, rfl⟩
  have k0 : Keeps [] w W0 := by rw [hW0]; exact (Keeps.refl [] w).alloc _
  have n0 : W0.heap[w.heap.size]? = some (.cells #[.int .i64 d, .int .i64 g, .int .i64 p] 50 (0, 0)) := by rw [hW0]; exact heap_new w _
  have hz0' : W0.heap.size = w.heap.size + 1 := by rw [hW0]; simp
  rw [← hW0]
  clear hW0
  have m1 := mapAt_new W0
  have k1 : Keeps [] W0 (W0.alloc (.map #[] 0)) := (Keeps.refl [] W0).alloc _
  have H0 := Lib.hid (And.intro k0 n0)
  have hcb : w.heap.size < W0.heap.size := lt_of_at n0
  obtain ⟨ob, hob⟩ : ∃ n, n = w.heap.size + 1 := ⟨_, rfl⟩
  rw [hz0', ← hob] at m1
  rw [← hob]
  have hobB : W0.heap.size ≤ ob := by omega
  have hB1 : BlocksAt (W0.alloc (.map #[] 0)) W0.heap.size ob [] := ⟨m1, by simp, ⟨hobB, by simp⟩, by simp, by simp⟩
  clear hob k0 n0 m1 hz0'
  generalize W0.alloc (.map #[] 0) = W1 at k1 hB1 ⊢
  clear hmm
  go_loopg [10, 31] L.length (VRel1 W0 ob L)
  case atStart => exact ⟨0, [], Nat.zero_le _, rfl, rfl, hB1, rfl, by simp, World.ownsRow_nil W1 _ _ 1, k1⟩
  case round =>
    obtain ⟨k, T, hkl, hgk, rfl, hBT, hpT, hTl, hrow, hkr⟩ := hrel
    have Hg := Lib.hid hgk
    clear hgk hB1 k1
    by_cases hlt : k < L.length
    · obtain ⟨b2, of2, rfl, hb2, hc2⟩ := Hi.out k hlt
      have kW : Keeps [] w wr := H0.out.1.trans hkr
      have cell : ∀ j, j < 3 → wr.cell? ⟨b2, of2 + (k * 3 + j), none⟩ = (infoOf L[k])[j]? := fun j hj => (kW.cell hb2 (by simp)).trans (hc2 j hj)
      have d0 : wr.cell? ⟨b2, of2 + k * 3, none⟩ = (infoOf L[k])[0]? := cell 0 (by omega)
      have d1 : wr.cell? ⟨b2, of2 + k * 3 + 1, none⟩ = (infoOf L[k])[1]? := by rw [Nat.add_assoc]; exact cell 1 (by omega)
      have d2 : wr.cell? ⟨b2, of2 + k * 3 + 2, none⟩ = (infoOf L[k])[2]? := by rw [Nat.add_assoc]; exact cell 2 (by omega)
      have lb2 := kW.lt hb2
      clear cell hc2
      obtain ⟨x, hx⟩ : ∃ x, x = L[k] := ⟨_, rfl⟩
      have HLx := Lib.hid hx
      have hsm : x.1.size ≤ 40 ∧ 0 ≤ x.2.2 ∧ x.2.2 ≤ 1099511627776 := by rw [hx]; exact HLk.out _ (List.getElem_mem _)
      rw [← hx] at d0 d1 d2
      clear hx
      obtain ⟨nm, dt, tk⟩ := x
      simp only at hsm
      obtain ⟨hsm, htk0, htk1⟩ := hsm
      simp only [infoOf, List.getElem?_cons_zero, List.getElem?_cons_succ, Nat.add_zero] at d0 d1 d2
      obtain ⟨ds, hds⟩ : ∃ n : Int, n = dt.size := ⟨_, rfl⟩
      rw [← hds] at d1
      clear hds
      have hlt' : (k : Int) < (L.length : Int) := by omega
      have ka : Keeps [] wr (wr.alloc (.cells #[.string nm, .int .i64 ds, .int .i64 tk] 128)) := (Keeps.refl [] wr).alloc _
      have Hv4 := Lib.hid ((Hm.out.2.2.1.same kW).same ka)
      have Hr := Lib.hid (And.intro hBT (And.intro hpT (And.intro hrow (And.intro hkr ka))))
      have hwr : W0.heap.size ≤ wr.heap.size := hkr.size
      clear hBT hpT hrow hkr kW ka
      go_wp2_with fail
      refine (split_spec _ Hv4.out nm (by omega)).mono ?_
      rintro e w5 ⟨rfl, hk5⟩
      have Hk5 := Lib.hid (Hr.out.2.2.2.2.trans hk5)
      have n5 := hk5.at_ (heap_new wr (.cells #[.string nm, .int .i64 ds, .int .i64 tk] 128)) (by simp)
      have HS : Hid (splitL nm.data.toList = splitL nm.data.toList) := Lib.hid rfl
      clear HS hk5 d0 d1 d2
      cases hS : splitL nm.data.toList with
      | none =>
        have HS := Lib.hid hS
        clear hS
        simp only [splitVals]
        go_wp2_with fail
        go_roundg (L.length - (k + 1))
        case measure => have := Hg.out; omega
        case rel => exact VRel1.next_no hlt (by rw [← HLx.out]; exact HS.out) Hr.out.1 Hr.out.2.1 hTl Hr.out.2.2.1 Hr.out.2.2.2.1 Hk5.out
      | some ab =>
        obtain ⟨a, q⟩ := ab
        have HS := Lib.hid hS
        clear hS
        obtain ⟨xa, hxa⟩ : ∃ s : ByteArray, s = ⟨a.toArray⟩ := ⟨_, rfl⟩
        obtain ⟨xb, hxb⟩ : ∃ s : ByteArray, s = ⟨q.toArray⟩ := ⟨_, rfl⟩
        simp only [splitVals]
        rw [← hxa, ← hxb]
        have hadd : blocksOf (L.take (k + 1)) = put (blocksOf (L.take k)) xa (put ((look (blocksOf (L.take k)) xa).getD []) xb tk) := by
          rw [blocks_next hlt, addPart_some (a := a) (b := q) (by rw [← HLx.out]; exact HS.out), ← hxa, ← hxb, ← HLx.out]
        rw [← Hr.out.2.1] at hadd
        have Ha := Lib.hid hadd
        clear hxa hxb hadd
        have hlow : ∀ g, u10.ownBlock = some g → g < wr.heap.size := fun g hg => (Hr.out.2.2.1.lt g hg).2
        have hbx : W0.heap.size ≤ wr.heap.size ∧ wr.heap.size ≠ ob := by
          have := Hr.out.1.outer.lt
          omega
        have hB5 := Hr.out.1.same Hk5.out
        have hrow5 := Hk5.out.row Hr.out.2.2.1 (by simp)
        have hk05 := Hr.out.2.2.2.1.trans Hk5.out
        generalize wr.heap.size = bx at n5 hwr hlow hbx ⊢
        obtain ⟨hbx1, hbx2⟩ := hbx
        have l5 := lt_of_at n5
        rcases look_outer T xa with ⟨e1, e2⟩ | ⟨n, x, e0, e1, e2⟩
        · have hid : xa ∉ T.map (·.1) := by rw [← outer_keys, ← look_none_iff]; exact e1
          have hrl := hB5.outer.run_lookup (P := Tryz.prog) Tryz.underlying133 Tryz.underlying9 (zeroBlk _) xa false
          rw [show lookVal (outerOf T) xa (.map none) false = .map none from by unfold lookVal; rw [e1]; rfl] at hrl
          have hmm := @run_makeMap Tryz.prog
          have H5 := Lib.hid (And.intro hB5 (And.intro hrow5 (And.intro hk05 n5)))
          clear hB5 hrow5 hk05 n5 e1 e2 Hk5 Hr Hv4
          go_upto_region 10 with (refine wpList_update_str _ rfl (.tmp 48) (.tmp 49) (.tmp 50) _ _ _ rfl Tryz.underlying133 Tryz.underlying9 ob (outerOf T) xa (.map (some w5.heap.size)) (by rfl) (by rfl) (by rfl) (H5.out.1.same ((Keeps.refl [] w5).alloc _)).outer ?_; intro w7 hm7 hk7)
          obtain ⟨nb, hnb⟩ : ∃ n, n = w5.heap.size := ⟨_, rfl⟩
          rw [← hnb] at hm7 ⊢
          have ka5 : Keeps [] w5 (w5.alloc (.map #[] 0)) := (Keeps.refl [] w5).alloc _
          have hk57 : Keeps [ob] w5 w7 := (ka5.mono (by simp)).trans hk7
          have hin7 : MapAt w7 nb [] := by
            rw [hnb]
            exact (mapAt_new w5).keep hk7 (by have := H5.out.1.outer.lt; simp; omega)
          have hB7 : BlocksAt w7 W0.heap.size ob (T ++ [(xa, nb, [])]) := H5.out.1.add hid (by have := H5.out.2.2.1.size; omega) hnb hin7 hk57 hm7
          have hne := row_ne_map H5.out.2.1 H5.out.1.outer
          have hrow7 := hk57.row H5.out.2.1 (fun g hg => by simpa using hne g hg)
          have hk07 : Keeps [] W0 w7 := H5.out.2.2.1.after hk57 (fun y hy => .inr (by simp only [List.mem_singleton] at hy; omega))
          have n7 := hk57.at_ H5.out.2.2.2 (by simpa using hbx2)
          have H7 := Lib.hid (And.intro hB7 (And.intro hrow7 (And.intro hk07 (And.intro n7 hin7))))
          have hsz7 : W0.heap.size ≤ w7.heap.size := hk07.size
          clear hB7 hrow7 hk07 n7 hin7 hk57 hm7 hk7 H5 ka5 hnb hne hrl hmm
          go_upto_region 11 with (at_builtin; refine wpList_append_own _ rfl (.tmp 51) (.tmp 53) 25 rfl W0.heap.size 9 ii _ 1 16 Tryz.underlying25 hii hz0 hz1 hz2 rfl (by decide) u10 T.length ((T.map (·.1)).map Value.string) rfl (H7.out.2.1.alloc _) ⟨w7.heap.size, 0, none⟩ 1 1 [.string xa] rfl rfl (news_of (heap_new w7 _)) (by simp [Value.oneCell']) (by simp only [maxLen]; omega) (by omega) (by simp; omega) ?_; intro v8 w8 hown8 hgrow8 hnil; clear hnil)
          have ka7 : Keeps [] w7 (w7.alloc (.cells #[.string xa] 9)) := (Keeps.refl [] w7).alloc _
          have hk78 : Keeps u10.ownBlock.toList w7 w8 := (ka7.mono (by simp)).trans (keeps_row hgrow8)
          have hB8 := H7.out.1.keepCells hk78 (row_cells H7.out.2.1)
          have hk08 : Keeps [] W0 w8 := H7.out.2.2.1.after hk78 (fun y hy => .inr (by have := (H7.out.2.1.lt y (by simpa using hy)).1; omega))
          have n8 := hk78.at_ H7.out.2.2.2.1 (by intro hm; have := hlow bx (by simpa using hm); omega)
          have hkk := hB8.keys
          have hlk : look (outerOf (T ++ [(xa, nb, [])])) xa = some (.map (some nb)) := by
            have e : outerOf (T ++ [(xa, nb, [])]) = outerOf T ++ [(xa, Value.map (some nb))] := by simp [outerOf]
            rw [e, look_snoc (xa, Value.map (some nb)) xa (by rw [outer_keys]; exact hid), if_pos rfl]
          have hrl := hB8.outer.run_lookup (P := Tryz.prog) Tryz.underlying133 Tryz.underlying9 (zeroBlk _) xa false
          rw [show lookVal (outerOf (T ++ [(xa, nb, [])])) xa (.map none) false = .map (some nb) from by unfold lookVal; rw [hlk]; rfl] at hrl
          have hin8 := hB8.inner _ (List.mem_append_right T (List.mem_singleton.2 rfl))
          simp only at hin8
          have hp8 := plain_new (t := tk) (part := xb) hid hkk
          have d2 : w8.cell? ⟨bx, 2, none⟩ = some (.int .i64 tk) := by rw [cells_at n8]; rfl
          have l8 := lt_of_at n8
          have hrow8 : w8.ownsRow W0.heap.size 9 1 v8 (T ++ [((xa, nb, []) : BlkT)]).length (((T ++ [((xa, nb, []) : BlkT)]).map (·.1)).map Value.string) := by simpa using hown8
          have H8 := Lib.hid (And.intro hB8 (And.intro hrow8 (And.intro hk08 (And.intro hp8 hin8))))
          clear hB8 hk08 hkk hlk hp8 hin8 hrow8 hown8 hgrow8 H7 hk78 ka7 n8
          go_wp2_with (refine wpList_update_str _ rfl (.tmp 57) (.tmp 58) (.tmp 60) _ _ _ rfl Tryz.underlying134 Tryz.underlying9 nb (encMap encI []) xb (encI tk) (by rfl) (by rfl) (by rfl) H8.out.2.2.2.2 ?_; intro w9 hm9 hk9)
          go_roundg (L.length - (k + 1))
          case measure => have := Hg.out; omega
          case rel => exact VRel1.next hlt (List.mem_append_right T (List.mem_singleton.2 rfl)) H8.out.1 hm9 hk9 H8.out.2.1 H8.out.2.2.1 (by rw [Ha.out]; exact H8.out.2.2.2.1) (by simp; omega)
        · have hrl := hB5.outer.run_lookup (P := Tryz.prog) Tryz.underlying133 Tryz.underlying9 (zeroBlk _) xa false
          rw [show lookVal (outerOf T) xa (.map none) false = .map (some n) from by unfold lookVal; rw [e1]; rfl] at hrl
          have hin5 := hB5.inner _ e0
          simp only at hin5
          have d2 : w5.cell? ⟨bx, 2, none⟩ = some (.int .i64 tk) := by rw [cells_at n5]; rfl
          have H8 := Lib.hid (And.intro hB5 (And.intro hrow5 (And.intro hk05 (And.intro (plain_more (t := tk) (part := xb) e0 hB5.keys e2) hin5))))
          clear hB5 hrow5 hk05 n5 e1 e2 Hk5 Hr Hv4 hin5
          go_wp2_with (refine wpList_update_str _ rfl (.tmp 57) (.tmp 58) (.tmp 60) _ _ _ rfl Tryz.underlying134 Tryz.underlying9 n (encMap encI x) xb (encI tk) (by rfl) (by rfl) (by rfl) H8.out.2.2.2.2 ?_; intro w9 hm9 hk9)
          go_roundg (L.length - (k + 1))
          case measure => have := Hg.out; omega
          case rel => exact VRel1.next hlt e0 H8.out.1 hm9 hk9 H8.out.2.1 H8.out.2.2.1 (by rw [Ha.out]; exact H8.out.2.2.2.1) (by omega)
    · obtain rfl : k = L.length := by omega
      rw [List.take_length] at hpT
      have hrow' : wr.ownsRow W0.heap.size 9 1 u10 (T.map (·.1)).length ((T.map (·.1)).map Value.string) := by simpa using hrow
      have Hs := Lib.hid (sort_spec wr W0.heap.size u10 (T.map (·.1)) hrow' (by simp; omega))
      have hk0r := H0.out.1.trans hkr
      have hkeys : (blocksOf L).map (·.1) = T.map (·.1) := by rw [← hpT, plain_keys]
      have hVe : victimsL d g now L (look M) = (sortB (T.map (·.1))).flatMap (victimsOf d g now (blocksOf L) (look M)) := by unfold victimsL; rw [hkeys]
      have hNm : ∀ y ∈ sortB (T.map (·.1)), y ∈ T.map (·.1) := fun y hy => (sortB_perm _).mem_iff.1 hy
      have hNl : (sortB (T.map (·.1))).length = T.length := by rw [sortB_length, List.length_map]
      obtain ⟨an, cn, rfl, hcn1, hcn2, -⟩ := row_slice hrow
      have hR := Lib.hid (And.intro hBT (And.intro hrow hkr))
      have HN := Lib.hid (And.intro hNm (And.intro hNl hVe))
      clear hrow hrow' hkr hBT hVe hkeys hNm hNl
      unfold maxLen at hcn2
      go_wp2_with fail
      refine Hs.out.mono ?_
      rintro e w2 ⟨rfl, hrow2, hg2⟩
      have hk2 := keeps_row hg2
      have hB2 := hR.out.1.keepCells hk2 (row_cells hR.out.2.1)
      have hk02 : Keeps [] W0 w2 := hR.out.2.2.after hk2 (fun y hy => .inr ((hR.out.2.1.lt y (by simpa using hy)).1))
      have hM2 := Hm.out.1.keep (H0.out.1.trans hk02) (by simp)
      have n2 := hk02.at_ H0.out.2 (by simp)
      have hlen2 : (T.map (·.1)).length = T.length := List.length_map _
      have hN1 := HN.out.1
      have hN2 := HN.out.2.1
      have hN3 := HN.out.2.2
      generalize sortB (T.map (·.1)) = N at hrow2 hN1 hN2 hN3
      rw [hlen2] at hrow2
      have hcell2 : ∀ i, i < N.length → ∃ g, an = some ⟨g, 0, none⟩ ∧ g < w2.heap.size ∧ w2.cell? ⟨g, i, none⟩ = (N.map Value.string)[i]? := by
        intro i hi
        obtain ⟨an', cn', e', -, -, h⟩ := row_slice hrow2
        injection e' with ea _ ec
        subst ea
        obtain ⟨g, h1, _, h2, h3⟩ := h i (by omega)
        exact ⟨g, h1, h2, h3⟩
      have hk0w2 := H0.out.1.trans hk02
      have H2 := Lib.hid (And.intro hcell2 (And.intro hB2 (And.intro hM2 (And.intro n2 hk0w2))))
      have hw2 : W0.heap.size ≤ w2.heap.size := hk02.size
      have hTN : N.length ≤ L.length := by omega
      have hTN3 : N.length ≤ cn := by omega
      have HTN2 := Lib.hid hN2
      have HNm := Lib.hid hN1
      have HN3 := Lib.hid hN3
      clear hN3
      clear hk2 hg2 hrow2 hcell2 hB2 hM2 n2 hk02 hk0w2 Hs hR hlen2 hN1 hN2 HN
      go_wp2_with fail
      go_loopg [16, 66] N.length (VRel2 w2 (victimsOf d g now (blocksOf L) (look M)) N)
      case atStart => exact ⟨0, Nat.zero_le _, rfl, rfl, by simpa using World.ownsRow_nil w2 _ _ 1, Keeps.refl _ _⟩
      case round =>
        obtain ⟨j, hjl, hgj, rfl, hrow, hkr⟩ := hrel
        have Hgj := Lib.hid hgj
        clear hgj
        by_cases hjt : j < N.length
        · obtain ⟨gN, rfl, hgN, hcN⟩ := H2.out.1 j hjt
          have d0 : wr.cell? ⟨gN, j, none⟩ = some (.string N[j]) := by
            rw [hkr.cell hgN (by simp), hcN]
            simp [hjt]
          have lgN := hkr.lt hgN
          have hjt' : (j : Int) < (N.length : Int) := by omega
          have hjt2 : (j : Int) < (T.length : Int) := by have := HTN2.out; omega
          have Hf := Lib.hid (flat_next (victimsOf d g now (blocksOf L) (look M)) hjt)
          have hol := flat_len (victimsOf d g now (blocksOf L) (look M)) 4 (victimsOf_len d g now (blocksOf L) (look M)) (N.take j)
          rw [List.length_take] at hol
          have hO5 := victims5 d g now (blocksOf L) (look M) (N.take j)
          have hin := HNm.out N[j] (List.getElem_mem _)
          generalize (N.take j).flatMap (victimsOf d g now (blocksOf L) (look M)) = O at hrow Hf hol hO5
          generalize N[j] = id at d0 Hf hin
          have hB := H2.out.2.1.same hkr
          have hM := H2.out.2.2.1.keep hkr (by simp)
          have nc := hkr.at_ H2.out.2.2.2.1 (by simp)
          rcases look_outer T id with ⟨e1, _⟩ | ⟨n, x, e0, e1, e2⟩
          · rw [look_none_iff, outer_keys] at e1
            exact absurd hin e1
          · have hmx := hB.inner _ e0
            have hmx2 := H2.out.2.1.inner _ e0
            simp only at hmx hmx2
            have hx : (look (blocksOf L) id).getD [] = x := by rw [← hpT, e2]; rfl
            have hF : victimsOf d g now (blocksOf L) (look M) id = if goesB d g now x (look M id) then goP x id 4 else [] := by unfold victimsOf; rw [hx]; rfl
            rw [hF] at Hf
            have hla : ∀ q ∈ x, q.2 ≤ 1099511627776 := by
              intro q hq
              obtain ⟨y, hy, e⟩ := (blocks_inv Hm.out.2.2.2).ats (id, x) (look_mem (by rw [← hpT]; exact e2)) q hq
              rw [e]
              exact (HLk.out y hy).2.2
            have Hla := Lib.hid hla
            have hat : (∀ q ∈ x, 0 ≤ q.2 ∧ q.2 ≤ 9223372036854775807) ∧ (∀ q ∈ x, q.1.size ≤ 40) ∧ x.length ≤ 1000 := by
              have hkk := (blocks_inv Hm.out.2.2.2).keys (id, x) (look_mem (by rw [← hpT]; exact e2))
              refine ⟨fun q hq => ?_, fun q hq => ?_, ?_⟩
              · obtain ⟨y, hy, e⟩ := (blocks_inv Hm.out.2.2.2).ats (id, x) (look_mem (by rw [← hpT]; exact e2)) q hq
                rw [e]
                have := (HLk.out y hy).2
                omega
              · have := part_size6 (hkk.2 q hq)
                omega
              · have := nodup_len hkk.1 (m := partsB) (fun y hy => by obtain ⟨q, hq, rfl⟩ := List.mem_map.1 hy; exact hkk.2 q hq)
                rw [List.length_map] at this
                exact Nat.le_trans this (by decide)
            clear hla
            have hr1 := hB.outer.run_lookup (P := Tryz.prog) Tryz.underlying133 Tryz.underlying9 (zeroBlk _) id false
            rw [show lookVal (outerOf T) id (.map none) false = .map (some n) from by unfold lookVal; rw [e1]; rfl] at hr1
            have hr2 := hM.run_lookup (P := Tryz.prog) Tryz.underlying30 Tryz.underlying9 (zeroInt _) id true
            have hr3 := hmx.run_lookup (P := Tryz.prog) Tryz.underlying134 Tryz.underlying9 (zeroInt _) metaB true
            rw [lookVal_int2] at hr2 hr3
            have c0 := cells_at nc
            have lc := lt_of_at nc
            have Hr := Lib.hid (And.intro hrow (And.intro hkr (And.intro hmx (And.intro hat (And.intro nc (And.intro hmx2 hO5))))))
            have Hmt := Lib.hid (Hm.out.2.1 id)
            have hids : id.size ≤ 40 := by
              have h := (blocks_inv Hm.out.2.2.2).ok (id, x) (look_mem (by rw [← hpT]; exact e2))
              have := (isID_signs h.1).1
              rw [dsize] at this
              simp only at this
              omega
            clear hB hM nc hrow hkr hmx hmx2 hO5 e0 e1 e2 hx hF hat hin
            have hsz2 : w2.heap.size ≤ wr.heap.size := Hr.out.2.1.size
            unfold metaB at hr3
            cases hmk : look M id with
            | some t =>
              rw [hmk] at hr2 Hf
              simp only [Option.getD_some, Option.isSome_some] at hr2
              obtain ⟨ht0, ht1⟩ := Hmt.out t hmk
              have hsub : IntKind.i64.wrap (now - t) = now - t := IntWalk.i64_in _ (by omega)
              clear hmk
              by_cases hgo : d < now - t
              · have hgg : goesB d g now x (some t) = true := by simpa [goesB] using hgo
                rw [hgg] at Hf
                clear hgg
                go_upto_region 21 with fail
                go_quiet (fail)
                obtain ⟨wq, hwq⟩ : ∃ W, W = wr.drewN nq := ⟨_, rfl⟩
                have hkq : Keeps [] wr wq := by rw [hwq]; exact (Keeps.refl [] wr).drewN _
                rw [← hwq]
                clear hwq
                have hk2q := Hr.out.2.1.trans hkq
                have hrowq := hkq.row Hr.out.1 (by simp)
                have hszq : w2.heap.size ≤ wq.heap.size := hk2q.size
                have hltq : ∀ g, u16.ownBlock = some g → g < wq.heap.size := fun g hg => (hrowq.lt g hg).2
                have Hq := Lib.hid (And.intro hk2q (And.intro hrowq (And.intro Hr.out.2.2.2.2.2.1 (And.intro Hr.out.2.2.2.2.2.2 hltq))))
                clear hk2q hrowq hkq Hr hr1 hr2 hr3 c0 lc d0 lgN hltq
                go_wp2_with fail
                refine (parts_spec _).mono ?_
                rintro e w3 ⟨rfl, hw3⟩
                have np := heap_new wq (.cells #[.string metaB, .string indexB, .string chunksB, .string markB] 9)
                have hq3 : Keeps [] wq (wq.alloc (.cells #[.string metaB, .string indexB, .string chunksB, .string markB] 9)) := (Keeps.refl [] wq).alloc _
                rw [← hw3] at np hq3
                have hnb : u16.ownBlock ≠ some wq.heap.size := fun e => by have := Hq.out.2.2.2.2 _ e; omega
                have H3 := Lib.hid (And.intro (And.intro np hnb) (And.intro (Hq.out.1.trans hq3) (And.intro (hq3.row Hq.out.2.1 (by simp)) (And.intro Hq.out.2.2.1 Hq.out.2.2.2.1))))
                clear hw3 np hq3 Hq hnb
                generalize wq.heap.size = pb at hszq H3 ⊢
                go_wp2_with fail
                go_loopg [16, 112] 4 (VRel3 w2 pb O x id)
                case atStart => exact ⟨0, by decide, rfl, rfl, by simpa [goP] using H3.out.2.2.1, H3.out.2.1, H3.out.1.1, H3.out.1.2⟩
                case round =>
                  obtain ⟨i, hi4, hgi, rfl, hrowi, hki, hpi, hni⟩ := hrel
                  have Hgi := Lib.hid hgi
                  clear hgi
                  have hgl := goP_len x id i
                  by_cases hit : i < 4
                  · have dP : wr.cell? ⟨pb, i, none⟩ = some (.string (partOf i)) := by
                      rw [cells_at hpi]
                      rcases i with _ | _ | _ | _ | i
                      · rfl
                      · rfl
                      · rfl
                      · rfl
                      · omega
                    have lpb' := lt_of_at hpi
                    have hmi := H3.out.2.2.2.1.keep hki (by simp)
                    have hps := partOf_size i
                    have hrp := hmi.run_lookup (P := Tryz.prog) Tryz.underlying134 Tryz.underlying9 (zeroInt _) (partOf i) true
                    rw [lookVal_int2] at hrp
                    have hit' : (i : Int) < 4 := by omega
                    have hsz3 : w2.heap.size ≤ wr.heap.size := hki.size
                    have Hgp := Lib.hid (goP_next x id hit)
                    have Hi3 := Lib.hid (And.intro hrowi (And.intro hki (And.intro hpi hni)))
                    have hob5 := object_size5 id (partOf i) (partOf_size4 i)
                    clear hrowi hki hmi hpi hni
                    generalize partOf i = pt at dP hps hrp Hgp hob5
                    cases hlx : look x pt with
                    | none =>
                      rw [hlx] at hrp Hgp
                      simp only [Option.isSome_none, Option.getD_none] at hrp
                      clear hlx
                      go_wp2_with fail
                      go_roundg (4 - (i + 1))
                      case measure => have := Hgi.out; omega
                      case rel => exact ⟨i + 1, by omega, rfl, by go_num, by rw [Hgp.out]; simpa using Hi3.out.1, Hi3.out.2⟩
                    | some tt =>
                      rw [hlx] at hrp Hgp
                      simp only [Option.isSome_some, Option.getD_some] at hrp
                      clear hlx
                      have hgl2 : (O ++ goP x id i).length ≤ 4 * 1001 := by rw [List.length_append]; omega
                      generalize hob : objectB id pt = nm at Hgp hob5
                      have Hob := Lib.hid hob
                      clear hob
                      go_wp2_with (first | (go_at_call 30; refine (object_spec _ id pt (by omega) (by omega)).mono ?_; rintro e w' ⟨rfl, rfl⟩; rw [Hob.out]) | (at_builtin; refine wpList_append_own _ rfl (.tmp 123) (.tmp 127) 25 rfl w2.heap.size 9 ii _ 1 16 Tryz.underlying25 hii hz0 hz1 hz2 rfl (by decide) u16 (O ++ goP x id i).length ((O ++ goP x id i).map Value.string) rfl (Hi3.out.1.alloc _) ⟨wr.heap.size, 0, none⟩ 1 1 [.string nm] rfl rfl (news_of (heap_new wr _)) (by simp [Value.oneCell']) (by simp only [maxLen]; omega) (by omega) (by simp; omega) ?_; intro v8 w8 hown8 hgrow8 hnil; clear hnil))
                      have hk8 : Keeps [] w2 w8 := keeps_grown (Hi3.out.2.1.alloc _) hgrow8 (fun q hq => (Hi3.out.1.lt q hq).1)
                      have hrow8 : w8.ownsRow w2.heap.size 9 1 v8 (O ++ goP x id (i + 1)).length ((O ++ goP x id (i + 1)).map Value.string) := by rw [Hgp.out]; simpa [Nat.add_assoc] using hown8
                      have hp8 := (hgrow8.block pb (by have := lpb'; simp; omega) (fun e => Hi3.out.2.2.2 e.symm)).trans (heap_old Hi3.out.2.2.1 _)
                      go_roundg (4 - (i + 1))
                      case measure => have := Hgi.out; omega
                      case rel => exact ⟨i + 1, by omega, rfl, by go_num, hrow8, hk8, hp8, row_not_parts hrow8 (by rw [Hgp.out]; simp) (goP5 H3.out.2.2.2.2) hp8⟩
                  · obtain rfl : i = 4 := by omega
                    have He := Lib.hid (And.intro hrowi hki)
                    clear hrowi hki hpi hni
                    go_wp2_with fail
                    go_roundg (N.length - (j + 1))
                    case measure => have := Hgj.out; omega
                    case rel => exact ⟨j + 1, by omega, rfl, by go_num, by rw [Hf.out, if_pos trivial]; exact He.out.1, He.out.2⟩
              · have hgg : goesB d g now x (some t) = false := by simpa [goesB] using hgo
                rw [hgg] at Hf
                clear hgg
                cases hlm : look x ⟨#[109, 101, 116, 97]⟩ with
                | some tt =>
                  rw [hlm] at hr3
                  simp only [Option.getD_some, Option.isSome_some] at hr3
                  clear hlm
                  go_upto_region 21 with fail
                  go_quiet (fail)
                  have hke : Keeps [] wr (wr.drewN nq) := (Keeps.refl [] wr).drewN _
                  have He := Lib.hid (And.intro (hke.row Hr.out.1 (by simp)) (Hr.out.2.1.trans hke))
                  clear hke
                  go_wp2_with fail
                  go_roundg (N.length - (j + 1))
                  case measure => have := Hgj.out; omega
                  case rel => exact ⟨j + 1, by omega, rfl, by go_num, by rw [Hf.out, if_neg (by simp)]; simpa using He.out.1, He.out.2⟩
                | none =>
                  rw [hlm] at hr3
                  simp only [Option.getD_none, Option.isSome_none] at hr3
                  clear hlm
                  go_upto_region 21 with fail
                  go_quiet (fail)
                  have hke : Keeps [] wr (wr.drewN nq) := (Keeps.refl [] wr).drewN _
                  have He := Lib.hid (And.intro (hke.row Hr.out.1 (by simp)) (Hr.out.2.1.trans hke))
                  clear hke
                  go_wp2_with fail
                  go_roundg (N.length - (j + 1))
                  case measure => have := Hgj.out; omega
                  case rel => exact ⟨j + 1, by omega, rfl, by go_num, by rw [Hf.out, if_neg (by simp)]; simpa using He.out.1, He.out.2⟩
            | none =>
              rw [hmk] at hr2 Hf
              simp only [Option.getD_none, Option.isSome_none] at hr2
              clear hmk
              cases hlm : look x ⟨#[109, 101, 116, 97]⟩ with
              | some tt =>
                have hgg : goesB d g now x none = false := by simp [goesB, metaB, hlm]
                rw [hgg] at Hf
                rw [hlm] at hr3
                simp only [Option.getD_some, Option.isSome_some] at hr3
                clear hlm hgg
                go_upto_region 21 with fail
                go_quiet (fail)
                have hke : Keeps [] wr (wr.drewN nq) := (Keeps.refl [] wr).drewN _
                have He := Lib.hid (And.intro (hke.row Hr.out.1 (by simp)) (Hr.out.2.1.trans hke))
                clear hke
                go_wp2_with fail
                go_roundg (N.length - (j + 1))
                case measure => have := Hgj.out; omega
                case rel => exact ⟨j + 1, by omega, rfl, by go_num, by rw [Hf.out, if_neg (by simp)]; simpa using He.out.1, He.out.2⟩
              | none =>
                rw [hlm] at hr3
                simp only [Option.getD_none, Option.isSome_none] at hr3
                have Hol := Lib.hid (fun W (hW : MapAt W n (encMap encI x)) => oldest_spec W n x hW Hr.out.2.2.2.1.1 Hr.out.2.2.2.1.2.1 Hr.out.2.2.2.1.2.2)
                have hgg : goesB d g now x none = decide (g < now - leastL (x.map (·.2))) := by simp [goesB, metaB, hlm]
                rw [hgg] at Hf
                have hlb : -1 ≤ leastL (x.map (·.2)) ∧ leastL (x.map (·.2)) ≤ 1099511627776 := by
                  by_cases hne : x.map (·.2) = []
                  · rw [hne]; simp [leastL]
                  · obtain ⟨q, hq, e⟩ := List.mem_map.1 (leastL_mem hne)
                    have := Hr.out.2.2.2.1.1 q hq
                    have h2 := Hla.out q hq
                    omega
                clear hlm hgg
                generalize leastL (x.map (·.2)) = lt at Hol Hf hlb
                obtain ⟨hlb0, hlb1⟩ := hlb
                have hsub : IntKind.i64.wrap (now - lt) = now - lt := IntWalk.i64_in _ (by omega)
                have cg : wr.cell? ⟨w.heap.size, 1, none⟩ = some (.int .i64 g) := by rw [c0]; rfl
                by_cases hgo : g < now - lt
                · rw [show decide (g < now - lt) = true from by simpa using hgo] at Hf
                  go_upto_region 21 with fail
                  refine wp_region_held_drew (S := fun w' => w'.cell? ⟨w.heap.size, 1, none⟩ = some (.int .i64 g)) (by kernel_rfl) cg (fun hS => ?_)
                  refine wpAnyH_take (i := 0) (v := ?_) rfl (by kernel_rfl) (by kernel_rfl) (by kernel_rfl) (fun _ _ _ h => h) (Or.inl ⟨by rfl, ?_⟩) (by assumption) ?_
                  rotate_left
                  · intro w' s1; go_simp; (try with_reducible rfl)
                  simp only [Act.put, List.getElem_toArray, List.getElem_cons_succ, List.getElem_cons_zero, List.setIfInBounds_toArray, List.set_cons_zero, List.set_cons_succ]
                  refine wpAnyH_take (i := 1) (v := ?_) rfl (by kernel_rfl) (by kernel_rfl) (by kernel_rfl) (fun _ _ _ h => h) (Or.inl ⟨by rfl, ?_⟩) (by assumption) ?_
                  rotate_left
                  · intro w' s1; go_simp; (try with_reducible rfl)
                  simp only [Act.put, List.getElem_toArray, List.getElem_cons_succ, List.getElem_cons_zero, List.setIfInBounds_toArray, List.set_cons_zero, List.set_cons_succ]
                  refine wpAnyH_take (i := 2) (v := undef) rfl (by kernel_rfl) (by kernel_rfl) (by kernel_rfl) (fun _ _ _ h => h) (Or.inr ⟨by rfl, rfl⟩) (by assumption) ?_
                  simp only [Act.put, List.getElem_toArray, List.getElem_cons_succ, List.getElem_cons_zero, List.setIfInBounds_toArray, List.set_cons_zero, List.set_cons_succ]
                  refine wpAnyH_take (i := 3) (v := undef) rfl (by kernel_rfl) (by kernel_rfl) (by kernel_rfl) (fun _ _ _ h => h) (Or.inr ⟨by rfl, rfl⟩) (by assumption) ?_
                  simp only [Act.put, List.getElem_toArray, List.getElem_cons_succ, List.getElem_cons_zero, List.setIfInBounds_toArray, List.set_cons_zero, List.set_cons_succ]
                  refine wpAnyH_take (i := 4) (v := undef) rfl (by kernel_rfl) (by kernel_rfl) (by kernel_rfl) (fun _ _ _ h => h) (Or.inr ⟨by rfl, rfl⟩) (by assumption) ?_
                  simp only [Act.put, List.getElem_toArray, List.getElem_cons_succ, List.getElem_cons_zero, List.setIfInBounds_toArray, List.set_cons_zero, List.set_cons_succ]
                  refine wpAnyH_take (i := 5) (v := undef) rfl (by kernel_rfl) (by kernel_rfl) (by kernel_rfl) (fun _ _ _ h => h) (Or.inr ⟨by rfl, rfl⟩) (by assumption) ?_
                  simp only [Act.put, List.getElem_toArray, List.getElem_cons_succ, List.getElem_cons_zero, List.setIfInBounds_toArray, List.set_cons_zero, List.set_cons_succ]
                  refine wpAnyH_take (i := 6) (v := undef) rfl (by kernel_rfl) (by kernel_rfl) (by kernel_rfl) (fun _ _ _ h => h) (Or.inr ⟨by rfl, rfl⟩) (by assumption) ?_
                  simp only [Act.put, List.getElem_toArray, List.getElem_cons_succ, List.getElem_cons_zero, List.setIfInBounds_toArray, List.set_cons_zero, List.set_cons_succ]
                  refine wpAnyH_take (i := 7) (v := undef) rfl (by kernel_rfl) (by kernel_rfl) (by kernel_rfl) (fun _ _ _ h => h) (Or.inr ⟨by rfl, rfl⟩) (by assumption) ?_
                  simp only [Act.put, List.getElem_toArray, List.getElem_cons_succ, List.getElem_cons_zero, List.setIfInBounds_toArray, List.set_cons_zero, List.set_cons_succ]
                  refine wpAnyH_take (i := 8) (v := ?_) rfl (by kernel_rfl) (by kernel_rfl) (by kernel_rfl) (fun _ _ _ h => h) (Or.inl ⟨by rfl, ?_⟩) (by assumption) ?_
                  rotate_left
                  · intro w' s1; go_simp; (try with_reducible rfl)
                  simp only [Act.put, List.getElem_toArray, List.getElem_cons_succ, List.getElem_cons_zero, List.setIfInBounds_toArray, List.set_cons_zero, List.set_cons_succ]
                  refine wpAnyH_take (i := 9) (v := ?_) rfl (by kernel_rfl) (by kernel_rfl) (by kernel_rfl) (fun _ _ _ h => h) (Or.inl ⟨by rfl, ?_⟩) (by assumption) ?_
                  rotate_left
                  · intro w' s1; go_simp; (try with_reducible rfl)
                  simp only [Act.put, List.getElem_toArray, List.getElem_cons_succ, List.getElem_cons_zero, List.setIfInBounds_toArray, List.set_cons_zero, List.set_cons_succ]
                  refine wpAnyH_take (i := 10) (v := ?_) rfl (by kernel_rfl) (by kernel_rfl) (by kernel_rfl) (fun _ _ _ h => h) (Or.inl ⟨by rfl, ?_⟩) (by assumption) ?_
                  rotate_left
                  · intro w' s1; go_simp; (try with_reducible rfl)
                  simp only [Act.put, List.getElem_toArray, List.getElem_cons_succ, List.getElem_cons_zero, List.setIfInBounds_toArray, List.set_cons_zero, List.set_cons_succ]
                  refine wpAnyH_take (i := 11) (v := ?_) rfl (by kernel_rfl) (by kernel_rfl) (by kernel_rfl) (fun _ _ _ h => h) (Or.inl ⟨by rfl, ?_⟩) (by assumption) ?_
                  rotate_left
                  · intro w' s1; go_simp; (try with_reducible rfl)
                  simp only [Act.put, List.getElem_toArray, List.getElem_cons_succ, List.getElem_cons_zero, List.setIfInBounds_toArray, List.set_cons_zero, List.set_cons_succ]
                  refine wpAnyH_take (i := 12) (v := ?_) rfl (by kernel_rfl) (by kernel_rfl) (by kernel_rfl) (fun _ _ _ h => h) (Or.inl ⟨by rfl, ?_⟩) (by assumption) ?_
                  rotate_left
                  · intro w' s1; go_simp; (try with_reducible rfl)
                  simp only [Act.put, List.getElem_toArray, List.getElem_cons_succ, List.getElem_cons_zero, List.setIfInBounds_toArray, List.set_cons_zero, List.set_cons_succ]
                  refine wpAnyH_take (i := 13) (v := ?_) rfl (by kernel_rfl) (by kernel_rfl) (by kernel_rfl) (fun _ _ _ h => h) (Or.inl ⟨by rfl, ?_⟩) (by assumption) ?_
                  rotate_left
                  · intro w' s1; go_simp; (try with_reducible rfl)
                  simp only [Act.put, List.getElem_toArray, List.getElem_cons_succ, List.getElem_cons_zero, List.setIfInBounds_toArray, List.set_cons_zero, List.set_cons_succ]
                  refine wpAnyH_take (i := 14) (v := ?_) rfl (by kernel_rfl) (by kernel_rfl) (by kernel_rfl) (fun _ _ _ h => h) (Or.inl ⟨by rfl, ?_⟩) (by assumption) ?_
                  rotate_left
                  · intro w' s1; go_simp; (try with_reducible rfl)
                  simp only [Act.put, List.getElem_toArray, List.getElem_cons_succ, List.getElem_cons_zero, List.setIfInBounds_toArray, List.set_cons_zero, List.set_cons_succ]
                  refine wpAnyH_take (i := 15) (v := ?_) rfl (by kernel_rfl) (by kernel_rfl) (by kernel_rfl) (fun _ _ _ h => h) (Or.inl ⟨by rfl, ?_⟩) (by assumption) ?_
                  rotate_left
                  · intro w' s1; go_simp; (try with_reducible rfl)
                  simp only [Act.put, List.getElem_toArray, List.getElem_cons_succ, List.getElem_cons_zero, List.setIfInBounds_toArray, List.set_cons_zero, List.set_cons_succ]
                  refine wpAnyH_take (i := 16) (v := ?_) rfl (by kernel_rfl) (by kernel_rfl) (by kernel_rfl) (fun _ _ _ h => h) (Or.inl ⟨by rfl, ?_⟩) (by assumption) ?_
                  rotate_left
                  · intro w' s1; go_simp; (try with_reducible rfl)
                  simp only [Act.put, List.getElem_toArray, List.getElem_cons_succ, List.getElem_cons_zero, List.setIfInBounds_toArray, List.set_cons_zero, List.set_cons_succ]
                  refine wpAnyH_take (i := 17) (v := ?_) rfl (by kernel_rfl) (by kernel_rfl) (by kernel_rfl) (fun _ _ _ h => h) (Or.inl ⟨by rfl, ?_⟩) (by assumption) ?_
                  rotate_left
                  · intro w' s1; go_simp; (try with_reducible rfl)
                  simp only [Act.put, List.getElem_toArray, List.getElem_cons_succ, List.getElem_cons_zero, List.setIfInBounds_toArray, List.set_cons_zero, List.set_cons_succ]
                  refine wpAnyH_take (i := 18) (v := ?_) rfl (by kernel_rfl) (by kernel_rfl) (by kernel_rfl) (fun _ _ _ h => h) (Or.inl ⟨by rfl, ?_⟩) (by assumption) ?_
                  rotate_left
                  · intro w' s1; go_simp; (try with_reducible rfl)
                  simp only [Act.put, List.getElem_toArray, List.getElem_cons_succ, List.getElem_cons_zero, List.setIfInBounds_toArray, List.set_cons_zero, List.set_cons_succ]
                  refine wpAnyH_take (i := 21) (v := ?_) rfl (by kernel_rfl) (by kernel_rfl) (by kernel_rfl) (fun _ _ _ h => h) (Or.inl ⟨by rfl, ?_⟩) (by assumption) ?_
                  rotate_left
                  · intro w' s1; go_simp; (try with_reducible rfl)
                  simp only [Act.put, List.getElem_toArray, List.getElem_cons_succ, List.getElem_cons_zero, List.setIfInBounds_toArray, List.set_cons_zero, List.set_cons_succ]
                  refine wpAnyH_take (i := 22) (v := ?_) rfl (by kernel_rfl) (by kernel_rfl) (by kernel_rfl) (fun _ _ _ h => h) (Or.inl ⟨by rfl, ?_⟩) (by assumption) ?_
                  rotate_left
                  · intro w' s1; go_simp; (try with_reducible rfl)
                  simp only [Act.put, List.getElem_toArray, List.getElem_cons_succ, List.getElem_cons_zero, List.setIfInBounds_toArray, List.set_cons_zero, List.set_cons_succ]
                  refine wpAnyH_ready (rs := [19]) (by kernel_rfl) (by simp) ?_
                  refine AllReadyH.cons rfl (fun K hK => ?_) AllReadyH.nil
                  go_simp
                  go_at_call 56
                  refine (Hol.out _ (Hr.out.2.2.1.drew)).mono ?_
                  rintro e wq ⟨rfl, hk5⟩
                  have hkq : Keeps [] wr wq := ((Keeps.refl [] wr).drew).trans hk5
                  clear hk5
                  go_simp
                  refine hK.out _ _ ((hkq.cell lc (by simp)).trans cg) (fun hS => ?_)
                  clear hK K
                  try simp only [Act.put, List.getElem_toArray, List.getElem_cons_succ, List.getElem_cons_zero, List.setIfInBounds_toArray, List.set_cons_zero, List.set_cons_succ]
                  refine wpAnyH_take (i := 20) (v := ?_) rfl (by kernel_rfl) (by kernel_rfl) (by kernel_rfl) (fun _ _ _ h => h) (Or.inl ⟨by rfl, ?_⟩) (by assumption) ?_
                  rotate_left
                  · intro w' s1; go_simp; (try with_reducible rfl)
                  simp only [Act.put, List.getElem_toArray, List.getElem_cons_succ, List.getElem_cons_zero, List.setIfInBounds_toArray, List.set_cons_zero, List.set_cons_succ]
                  refine wpAnyH_take (i := 23) (v := ?_) rfl (by kernel_rfl) (by kernel_rfl) (by kernel_rfl) (fun _ _ _ h => h) (Or.inl ⟨by rfl, ?_⟩) (by assumption) ?_
                  rotate_left
                  · intro w' s1; go_simp; (try with_reducible rfl)
                  simp only [Act.put, List.getElem_toArray, List.getElem_cons_succ, List.getElem_cons_zero, List.setIfInBounds_toArray, List.set_cons_zero, List.set_cons_succ]
                  refine wpAnyH_take (i := 24) (v := ?_) rfl (by kernel_rfl) (by kernel_rfl) (by kernel_rfl) (fun _ _ _ h => h) (Or.inl ⟨by rfl, ?_⟩) (by assumption) ?_
                  rotate_left
                  · intro w' s1; go_simp; (try with_reducible rfl)
                  simp only [Act.put, List.getElem_toArray, List.getElem_cons_succ, List.getElem_cons_zero, List.setIfInBounds_toArray, List.set_cons_zero, List.set_cons_succ]
                  refine wpAnyH_take (i := 25) (v := ?_) rfl (by kernel_rfl) (by kernel_rfl) (by kernel_rfl) (fun _ _ _ h => h) (Or.inl ⟨by rfl, ?_⟩) (by assumption) ?_
                  rotate_left
                  · intro w' s1; go_simp; (try with_reducible rfl)
                  simp only [Act.put, List.getElem_toArray, List.getElem_cons_succ, List.getElem_cons_zero, List.setIfInBounds_toArray, List.set_cons_zero, List.set_cons_succ]
                  refine wpAnyH_done (by kernel_rfl) ?_ _
                  clear hS
                  have hk2q := Hr.out.2.1.trans hkq
                  have hrowq := hkq.row Hr.out.1 (by simp)
                  have hszq : w2.heap.size ≤ wq.heap.size := hk2q.size
                  have hltq : ∀ g, u16.ownBlock = some g → g < wq.heap.size := fun g hg => (hrowq.lt g hg).2
                  have Hq := Lib.hid (And.intro hk2q (And.intro hrowq (And.intro Hr.out.2.2.2.2.2.1 (And.intro Hr.out.2.2.2.2.2.2 hltq))))
                  clear hk2q hrowq hkq Hr hr1 hr2 hr3 c0 lc d0 lgN hltq
                  go_wp2_with fail
                  refine (parts_spec _).mono ?_
                  rintro e w3 ⟨rfl, hw3⟩
                  have np := heap_new wq (.cells #[.string metaB, .string indexB, .string chunksB, .string markB] 9)
                  have hq3 : Keeps [] wq (wq.alloc (.cells #[.string metaB, .string indexB, .string chunksB, .string markB] 9)) := (Keeps.refl [] wq).alloc _
                  rw [← hw3] at np hq3
                  have hnb : u16.ownBlock ≠ some wq.heap.size := fun e => by have := Hq.out.2.2.2.2 _ e; omega
                  have H3 := Lib.hid (And.intro (And.intro np hnb) (And.intro (Hq.out.1.trans hq3) (And.intro (hq3.row Hq.out.2.1 (by simp)) (And.intro Hq.out.2.2.1 Hq.out.2.2.2.1))))
                  clear hw3 np hq3 Hq hnb
                  generalize wq.heap.size = pb at hszq H3 ⊢
                  go_wp2_with fail
                  go_loopg [16, 112] 4 (VRel3 w2 pb O x id)
                  case atStart => exact ⟨0, by decide, rfl, rfl, by simpa [goP] using H3.out.2.2.1, H3.out.2.1, H3.out.1.1, H3.out.1.2⟩
                  case round =>
                    obtain ⟨i, hi4, hgi, rfl, hrowi, hki, hpi, hni⟩ := hrel
                    have Hgi := Lib.hid hgi
                    clear hgi
                    have hgl := goP_len x id i
                    by_cases hit : i < 4
                    · have dP : wr.cell? ⟨pb, i, none⟩ = some (.string (partOf i)) := by
                        rw [cells_at hpi]
                        rcases i with _ | _ | _ | _ | i
                        · rfl
                        · rfl
                        · rfl
                        · rfl
                        · omega
                      have lpb' := lt_of_at hpi
                      have hmi := H3.out.2.2.2.1.keep hki (by simp)
                      have hps := partOf_size i
                      have hrp := hmi.run_lookup (P := Tryz.prog) Tryz.underlying134 Tryz.underlying9 (zeroInt _) (partOf i) true
                      rw [lookVal_int2] at hrp
                      have hit' : (i : Int) < 4 := by omega
                      have hsz3 : w2.heap.size ≤ wr.heap.size := hki.size
                      have Hgp := Lib.hid (goP_next x id hit)
                      have Hi3 := Lib.hid (And.intro hrowi (And.intro hki (And.intro hpi hni)))
                      have hob5 := object_size5 id (partOf i) (partOf_size4 i)
                      clear hrowi hki hmi hpi hni
                      generalize partOf i = pt at dP hps hrp Hgp hob5
                      cases hlx : look x pt with
                      | none =>
                        rw [hlx] at hrp Hgp
                        simp only [Option.isSome_none, Option.getD_none] at hrp
                        clear hlx
                        go_wp2_with fail
                        go_roundg (4 - (i + 1))
                        case measure => have := Hgi.out; omega
                        case rel => exact ⟨i + 1, by omega, rfl, by go_num, by rw [Hgp.out]; simpa using Hi3.out.1, Hi3.out.2⟩
                      | some tt =>
                        rw [hlx] at hrp Hgp
                        simp only [Option.isSome_some, Option.getD_some] at hrp
                        clear hlx
                        have hgl2 : (O ++ goP x id i).length ≤ 4 * 1001 := by rw [List.length_append]; omega
                        generalize hob : objectB id pt = nm at Hgp hob5
                        have Hob := Lib.hid hob
                        clear hob
                        go_wp2_with (first | (go_at_call 30; refine (object_spec _ id pt (by omega) (by omega)).mono ?_; rintro e w' ⟨rfl, rfl⟩; rw [Hob.out]) | (at_builtin; refine wpList_append_own _ rfl (.tmp 123) (.tmp 127) 25 rfl w2.heap.size 9 ii _ 1 16 Tryz.underlying25 hii hz0 hz1 hz2 rfl (by decide) u16 (O ++ goP x id i).length ((O ++ goP x id i).map Value.string) rfl (Hi3.out.1.alloc _) ⟨wr.heap.size, 0, none⟩ 1 1 [.string nm] rfl rfl (news_of (heap_new wr _)) (by simp [Value.oneCell']) (by simp only [maxLen]; omega) (by omega) (by simp; omega) ?_; intro v8 w8 hown8 hgrow8 hnil; clear hnil))
                        have hk8 : Keeps [] w2 w8 := keeps_grown (Hi3.out.2.1.alloc _) hgrow8 (fun q hq => (Hi3.out.1.lt q hq).1)
                        have hrow8 : w8.ownsRow w2.heap.size 9 1 v8 (O ++ goP x id (i + 1)).length ((O ++ goP x id (i + 1)).map Value.string) := by rw [Hgp.out]; simpa [Nat.add_assoc] using hown8
                        have hp8 := (hgrow8.block pb (by have := lpb'; simp; omega) (fun e => Hi3.out.2.2.2 e.symm)).trans (heap_old Hi3.out.2.2.1 _)
                        go_roundg (4 - (i + 1))
                        case measure => have := Hgi.out; omega
                        case rel => exact ⟨i + 1, by omega, rfl, by go_num, hrow8, hk8, hp8, row_not_parts hrow8 (by rw [Hgp.out]; simp) (goP5 H3.out.2.2.2.2) hp8⟩
                    · obtain rfl : i = 4 := by omega
                      have He := Lib.hid (And.intro hrowi hki)
                      clear hrowi hki hpi hni
                      go_wp2_with fail
                      go_roundg (N.length - (j + 1))
                      case measure => have := Hgj.out; omega
                      case rel => exact ⟨j + 1, by omega, rfl, by go_num, by rw [Hf.out, if_pos trivial]; exact He.out.1, He.out.2⟩
                · rw [show decide (g < now - lt) = false from by simpa using hgo] at Hf
                  go_upto_region 21 with fail
                  refine wp_region_held_drew (S := fun w' => w'.cell? ⟨w.heap.size, 1, none⟩ = some (.int .i64 g)) (by kernel_rfl) cg (fun hS => ?_)
                  refine wpAnyH_take (i := 0) (v := ?_) rfl (by kernel_rfl) (by kernel_rfl) (by kernel_rfl) (fun _ _ _ h => h) (Or.inl ⟨by rfl, ?_⟩) (by assumption) ?_
                  rotate_left
                  · intro w' s1; go_simp; (try with_reducible rfl)
                  simp only [Act.put, List.getElem_toArray, List.getElem_cons_succ, List.getElem_cons_zero, List.setIfInBounds_toArray, List.set_cons_zero, List.set_cons_succ]
                  refine wpAnyH_take (i := 1) (v := ?_) rfl (by kernel_rfl) (by kernel_rfl) (by kernel_rfl) (fun _ _ _ h => h) (Or.inl ⟨by rfl, ?_⟩) (by assumption) ?_
                  rotate_left
                  · intro w' s1; go_simp; (try with_reducible rfl)
                  simp only [Act.put, List.getElem_toArray, List.getElem_cons_succ, List.getElem_cons_zero, List.setIfInBounds_toArray, List.set_cons_zero, List.set_cons_succ]
                  refine wpAnyH_take (i := 2) (v := undef) rfl (by kernel_rfl) (by kernel_rfl) (by kernel_rfl) (fun _ _ _ h => h) (Or.inr ⟨by rfl, rfl⟩) (by assumption) ?_
                  simp only [Act.put, List.getElem_toArray, List.getElem_cons_succ, List.getElem_cons_zero, List.setIfInBounds_toArray, List.set_cons_zero, List.set_cons_succ]
                  refine wpAnyH_take (i := 3) (v := undef) rfl (by kernel_rfl) (by kernel_rfl) (by kernel_rfl) (fun _ _ _ h => h) (Or.inr ⟨by rfl, rfl⟩) (by assumption) ?_
                  simp only [Act.put, List.getElem_toArray, List.getElem_cons_succ, List.getElem_cons_zero, List.setIfInBounds_toArray, List.set_cons_zero, List.set_cons_succ]
                  refine wpAnyH_take (i := 4) (v := undef) rfl (by kernel_rfl) (by kernel_rfl) (by kernel_rfl) (fun _ _ _ h => h) (Or.inr ⟨by rfl, rfl⟩) (by assumption) ?_
                  simp only [Act.put, List.getElem_toArray, List.getElem_cons_succ, List.getElem_cons_zero, List.setIfInBounds_toArray, List.set_cons_zero, List.set_cons_succ]
                  refine wpAnyH_take (i := 5) (v := undef) rfl (by kernel_rfl) (by kernel_rfl) (by kernel_rfl) (fun _ _ _ h => h) (Or.inr ⟨by rfl, rfl⟩) (by assumption) ?_
                  simp only [Act.put, List.getElem_toArray, List.getElem_cons_succ, List.getElem_cons_zero, List.setIfInBounds_toArray, List.set_cons_zero, List.set_cons_succ]
                  refine wpAnyH_take (i := 6) (v := undef) rfl (by kernel_rfl) (by kernel_rfl) (by kernel_rfl) (fun _ _ _ h => h) (Or.inr ⟨by rfl, rfl⟩) (by assumption) ?_
                  simp only [Act.put, List.getElem_toArray, List.getElem_cons_succ, List.getElem_cons_zero, List.setIfInBounds_toArray, List.set_cons_zero, List.set_cons_succ]
                  refine wpAnyH_take (i := 7) (v := undef) rfl (by kernel_rfl) (by kernel_rfl) (by kernel_rfl) (fun _ _ _ h => h) (Or.inr ⟨by rfl, rfl⟩) (by assumption) ?_
                  simp only [Act.put, List.getElem_toArray, List.getElem_cons_succ, List.getElem_cons_zero, List.setIfInBounds_toArray, List.set_cons_zero, List.set_cons_succ]
                  refine wpAnyH_take (i := 8) (v := ?_) rfl (by kernel_rfl) (by kernel_rfl) (by kernel_rfl) (fun _ _ _ h => h) (Or.inl ⟨by rfl, ?_⟩) (by assumption) ?_
                  rotate_left
                  · intro w' s1; go_simp; (try with_reducible rfl)
                  simp only [Act.put, List.getElem_toArray, List.getElem_cons_succ, List.getElem_cons_zero, List.setIfInBounds_toArray, List.set_cons_zero, List.set_cons_succ]
                  refine wpAnyH_take (i := 9) (v := ?_) rfl (by kernel_rfl) (by kernel_rfl) (by kernel_rfl) (fun _ _ _ h => h) (Or.inl ⟨by rfl, ?_⟩) (by assumption) ?_
                  rotate_left
                  · intro w' s1; go_simp; (try with_reducible rfl)
                  simp only [Act.put, List.getElem_toArray, List.getElem_cons_succ, List.getElem_cons_zero, List.setIfInBounds_toArray, List.set_cons_zero, List.set_cons_succ]
                  refine wpAnyH_take (i := 10) (v := ?_) rfl (by kernel_rfl) (by kernel_rfl) (by kernel_rfl) (fun _ _ _ h => h) (Or.inl ⟨by rfl, ?_⟩) (by assumption) ?_
                  rotate_left
                  · intro w' s1; go_simp; (try with_reducible rfl)
                  simp only [Act.put, List.getElem_toArray, List.getElem_cons_succ, List.getElem_cons_zero, List.setIfInBounds_toArray, List.set_cons_zero, List.set_cons_succ]
                  refine wpAnyH_take (i := 11) (v := ?_) rfl (by kernel_rfl) (by kernel_rfl) (by kernel_rfl) (fun _ _ _ h => h) (Or.inl ⟨by rfl, ?_⟩) (by assumption) ?_
                  rotate_left
                  · intro w' s1; go_simp; (try with_reducible rfl)
                  simp only [Act.put, List.getElem_toArray, List.getElem_cons_succ, List.getElem_cons_zero, List.setIfInBounds_toArray, List.set_cons_zero, List.set_cons_succ]
                  refine wpAnyH_take (i := 12) (v := ?_) rfl (by kernel_rfl) (by kernel_rfl) (by kernel_rfl) (fun _ _ _ h => h) (Or.inl ⟨by rfl, ?_⟩) (by assumption) ?_
                  rotate_left
                  · intro w' s1; go_simp; (try with_reducible rfl)
                  simp only [Act.put, List.getElem_toArray, List.getElem_cons_succ, List.getElem_cons_zero, List.setIfInBounds_toArray, List.set_cons_zero, List.set_cons_succ]
                  refine wpAnyH_take (i := 13) (v := ?_) rfl (by kernel_rfl) (by kernel_rfl) (by kernel_rfl) (fun _ _ _ h => h) (Or.inl ⟨by rfl, ?_⟩) (by assumption) ?_
                  rotate_left
                  · intro w' s1; go_simp; (try with_reducible rfl)
                  simp only [Act.put, List.getElem_toArray, List.getElem_cons_succ, List.getElem_cons_zero, List.setIfInBounds_toArray, List.set_cons_zero, List.set_cons_succ]
                  refine wpAnyH_take (i := 14) (v := ?_) rfl (by kernel_rfl) (by kernel_rfl) (by kernel_rfl) (fun _ _ _ h => h) (Or.inl ⟨by rfl, ?_⟩) (by assumption) ?_
                  rotate_left
                  · intro w' s1; go_simp; (try with_reducible rfl)
                  simp only [Act.put, List.getElem_toArray, List.getElem_cons_succ, List.getElem_cons_zero, List.setIfInBounds_toArray, List.set_cons_zero, List.set_cons_succ]
                  refine wpAnyH_take (i := 15) (v := ?_) rfl (by kernel_rfl) (by kernel_rfl) (by kernel_rfl) (fun _ _ _ h => h) (Or.inl ⟨by rfl, ?_⟩) (by assumption) ?_
                  rotate_left
                  · intro w' s1; go_simp; (try with_reducible rfl)
                  simp only [Act.put, List.getElem_toArray, List.getElem_cons_succ, List.getElem_cons_zero, List.setIfInBounds_toArray, List.set_cons_zero, List.set_cons_succ]
                  refine wpAnyH_take (i := 16) (v := ?_) rfl (by kernel_rfl) (by kernel_rfl) (by kernel_rfl) (fun _ _ _ h => h) (Or.inl ⟨by rfl, ?_⟩) (by assumption) ?_
                  rotate_left
                  · intro w' s1; go_simp; (try with_reducible rfl)
                  simp only [Act.put, List.getElem_toArray, List.getElem_cons_succ, List.getElem_cons_zero, List.setIfInBounds_toArray, List.set_cons_zero, List.set_cons_succ]
                  refine wpAnyH_take (i := 17) (v := ?_) rfl (by kernel_rfl) (by kernel_rfl) (by kernel_rfl) (fun _ _ _ h => h) (Or.inl ⟨by rfl, ?_⟩) (by assumption) ?_
                  rotate_left
                  · intro w' s1; go_simp; (try with_reducible rfl)
                  simp only [Act.put, List.getElem_toArray, List.getElem_cons_succ, List.getElem_cons_zero, List.setIfInBounds_toArray, List.set_cons_zero, List.set_cons_succ]
                  refine wpAnyH_take (i := 18) (v := ?_) rfl (by kernel_rfl) (by kernel_rfl) (by kernel_rfl) (fun _ _ _ h => h) (Or.inl ⟨by rfl, ?_⟩) (by assumption) ?_
                  rotate_left
                  · intro w' s1; go_simp; (try with_reducible rfl)
                  simp only [Act.put, List.getElem_toArray, List.getElem_cons_succ, List.getElem_cons_zero, List.setIfInBounds_toArray, List.set_cons_zero, List.set_cons_succ]
                  refine wpAnyH_take (i := 21) (v := ?_) rfl (by kernel_rfl) (by kernel_rfl) (by kernel_rfl) (fun _ _ _ h => h) (Or.inl ⟨by rfl, ?_⟩) (by assumption) ?_
                  rotate_left
                  · intro w' s1; go_simp; (try with_reducible rfl)
                  simp only [Act.put, List.getElem_toArray, List.getElem_cons_succ, List.getElem_cons_zero, List.setIfInBounds_toArray, List.set_cons_zero, List.set_cons_succ]
                  refine wpAnyH_take (i := 22) (v := ?_) rfl (by kernel_rfl) (by kernel_rfl) (by kernel_rfl) (fun _ _ _ h => h) (Or.inl ⟨by rfl, ?_⟩) (by assumption) ?_
                  rotate_left
                  · intro w' s1; go_simp; (try with_reducible rfl)
                  simp only [Act.put, List.getElem_toArray, List.getElem_cons_succ, List.getElem_cons_zero, List.setIfInBounds_toArray, List.set_cons_zero, List.set_cons_succ]
                  refine wpAnyH_ready (rs := [19]) (by kernel_rfl) (by simp) ?_
                  refine AllReadyH.cons rfl (fun K hK => ?_) AllReadyH.nil
                  go_simp
                  go_at_call 56
                  refine (Hol.out _ (Hr.out.2.2.1.drew)).mono ?_
                  rintro e wq ⟨rfl, hk5⟩
                  have hkq : Keeps [] wr wq := ((Keeps.refl [] wr).drew).trans hk5
                  clear hk5
                  go_simp
                  refine hK.out _ _ ((hkq.cell lc (by simp)).trans cg) (fun hS => ?_)
                  clear hK K
                  try simp only [Act.put, List.getElem_toArray, List.getElem_cons_succ, List.getElem_cons_zero, List.setIfInBounds_toArray, List.set_cons_zero, List.set_cons_succ]
                  refine wpAnyH_take (i := 20) (v := ?_) rfl (by kernel_rfl) (by kernel_rfl) (by kernel_rfl) (fun _ _ _ h => h) (Or.inl ⟨by rfl, ?_⟩) (by assumption) ?_
                  rotate_left
                  · intro w' s1; go_simp; (try with_reducible rfl)
                  simp only [Act.put, List.getElem_toArray, List.getElem_cons_succ, List.getElem_cons_zero, List.setIfInBounds_toArray, List.set_cons_zero, List.set_cons_succ]
                  refine wpAnyH_take (i := 23) (v := ?_) rfl (by kernel_rfl) (by kernel_rfl) (by kernel_rfl) (fun _ _ _ h => h) (Or.inl ⟨by rfl, ?_⟩) (by assumption) ?_
                  rotate_left
                  · intro w' s1; go_simp; (try with_reducible rfl)
                  simp only [Act.put, List.getElem_toArray, List.getElem_cons_succ, List.getElem_cons_zero, List.setIfInBounds_toArray, List.set_cons_zero, List.set_cons_succ]
                  refine wpAnyH_take (i := 24) (v := ?_) rfl (by kernel_rfl) (by kernel_rfl) (by kernel_rfl) (fun _ _ _ h => h) (Or.inl ⟨by rfl, ?_⟩) (by assumption) ?_
                  rotate_left
                  · intro w' s1; go_simp; (try with_reducible rfl)
                  simp only [Act.put, List.getElem_toArray, List.getElem_cons_succ, List.getElem_cons_zero, List.setIfInBounds_toArray, List.set_cons_zero, List.set_cons_succ]
                  refine wpAnyH_take (i := 25) (v := ?_) rfl (by kernel_rfl) (by kernel_rfl) (by kernel_rfl) (fun _ _ _ h => h) (Or.inl ⟨by rfl, ?_⟩) (by assumption) ?_
                  rotate_left
                  · intro w' s1; go_simp; (try with_reducible rfl)
                  simp only [Act.put, List.getElem_toArray, List.getElem_cons_succ, List.getElem_cons_zero, List.setIfInBounds_toArray, List.set_cons_zero, List.set_cons_succ]
                  refine wpAnyH_done (by kernel_rfl) ?_ _
                  clear hS
                  have He := Lib.hid (And.intro (hkq.row Hr.out.1 (by simp)) (Hr.out.2.1.trans hkq))
                  clear hkq
                  go_wp2_with fail
                  go_roundg (N.length - (j + 1))
                  case measure => have := Hgj.out; omega
                  case rel => exact ⟨j + 1, by omega, rfl, by go_num, by rw [Hf.out, if_neg (by simp)]; simpa using He.out.1, He.out.2⟩
        · obtain rfl : j = N.length := by omega
          rw [List.take_length] at hrow
          have He := Lib.hid (And.intro hrow hkr)
          clear hrow hkr
          have hTe := HTN2.out
          have hx1 : ¬ T.length < T.length := by omega
          rw [hTe] at *
          clear hTe
          go_wp2_with fail
          go_ret
          have hsl : SliceFrom w2.heap.size 1 encS1 wr u16 (N.flatMap (victimsOf d g now (blocksOf L) (look M))) := sliceFrom_row (e := 9) (fun _ => rfl) (by rw [← encS1_map]; exact He.out.1)
          rw [HN3.out]
          exact ⟨u16, rfl, hsl.low (by have := H2.out.2.2.2.2.size; omega), H2.out.2.2.2.2.trans He.out.2⟩
end Go.Proofs.YtbndpegilpgheaaGreat
