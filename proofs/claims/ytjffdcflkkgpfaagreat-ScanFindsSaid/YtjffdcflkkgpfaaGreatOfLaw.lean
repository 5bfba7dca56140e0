/-
  The blocks that objects are, in plain words: what the program's listing and the document's hold of them.
  No condition beyond those that each theorem states.
-/
import Derived.Test.YtjffdcflkkgpfaaGreatTakeMG
import Derived.Test.YtjffdcflkkgpfaaGreatLists
import Derived.Test.YtjffdcflkkgpfaaGreatListFind
namespace Go.Proofs.YtjffdcflkkgpfaaGreat
open Go Go.RowKit
open Go.Op (bytesLess)

/-- An object: its name, its bytes. -/
abbrev ObjS := ByteArray × ByteArray

def encObj (o : ObjS) : List Value := [.string o.1, .string o.2]

/-- The bytes of an object: none where there is none. -/
def bytesO (L : List ObjS) (n : ByteArray) : ByteArray := match look L n with
  | some d => d
  | none => ⟨#[]⟩

/-- When a block was marked. -/
def whenO (L : List ObjS) (id : ByteArray) : Int :=
  if (unmarkL (bytesO L (objectB id markB)).data.toList).2.2 = 0 ∧ (unmarkL (bytesO L (objectB id markB)).data.toList).1 = id.data.toList then (unmarkL (bytesO L (objectB id markB)).data.toList).2.1 else -1

/-- The meta that an object is. -/
def metaO (o : ObjS) : Option MetaS := match splitL o.1.data.toList with
  | none => none
  | some (id, part) => if part = metaB.data.toList then (match decS o.2.data.toList with
    | none => none
    | some M => if M.id.data.toList = id then some M else none) else none

def blkO (L : List ObjS) (o : ObjS) : Option BlkS := (metaO o).map fun M => (M, whenO L M.id)

def ofN (L : List ObjS) (k : Nat) : List BlkS := (L.take k).filterMap (blkO L)

theorem ofN_zero (L : List ObjS) : ofN L 0 = [] := by simp [ofN]

theorem ofN_none {L : List ObjS} {k : Nat} (h : k < L.length) (hn : metaO L[k] = none) : ofN L (k + 1) = ofN L k := by
  unfold ofN
  rw [List.take_succ_eq_append_getElem h, List.filterMap_append]
  simp [blkO, hn]

theorem ofN_some {L : List ObjS} {k : Nat} (h : k < L.length) {M : MetaS} (hn : metaO L[k] = some M) : ofN L (k + 1) = ofN L k ++ [(M, whenO L M.id)] := by
  unfold ofN
  rw [List.take_succ_eq_append_getElem h, List.filterMap_append]
  simp [blkO, hn]

theorem ofN_len (L : List ObjS) (k : Nat) : (ofN L k).length ≤ k := by
  unfold ofN
  refine Nat.le_trans (List.length_filterMap_le _ _) ?_
  rw [List.length_take]
  omega

theorem metaO_some {o : ObjS} {M : MetaS} (h : metaO o = some M) : o.1 = objectB M.id metaB ∧ decS o.2.data.toList = some M := by
  unfold metaO at h
  cases hs : splitL o.1.data.toList with
  | none => rw [hs] at h; cases h
  | some r =>
    obtain ⟨id, part⟩ := r
    rw [hs] at h
    dsimp only at h
    by_cases hp : part = metaB.data.toList
    · rw [if_pos hp] at h
      cases hd : decS o.2.data.toList with
      | none => rw [hd] at h; cases h
      | some M' =>
        rw [hd] at h
        dsimp only at h
        by_cases hid : M'.id.data.toList = id
        · rw [if_pos hid] at h
          injection h with h
          subst h
          refine ⟨ba_ext ?_, rfl⟩
          rw [object_data, hid, (splitL_some hs).1, hp]
        · rw [if_neg hid] at h; cases h
    · rw [if_neg hp] at h; cases h

theorem metaO_skip {o : ObjS} (h : splitL o.1.data.toList = none) : metaO o = none := by unfold metaO; rw [h]

theorem metaO_part {o : ObjS} {id part : List UInt8} (h : splitL o.1.data.toList = some (id, part)) (hp : part ≠ metaB.data.toList) : metaO o = none := by unfold metaO; rw [h]; exact if_neg hp

theorem metaO_bad {o : ObjS} {id : List UInt8} (h : splitL o.1.data.toList = some (id, metaB.data.toList)) (hd : decS o.2.data.toList = none) : metaO o = none := by unfold metaO; rw [h, hd]; exact if_pos rfl

theorem metaO_other {o : ObjS} {id : List UInt8} {M : MetaS} (h : splitL o.1.data.toList = some (id, metaB.data.toList)) (hd : decS o.2.data.toList = some M) (hi : M.id.data.toList ≠ id) : metaO o = none := by
  unfold metaO; rw [h, hd]; exact (if_pos rfl).trans (if_neg hi)

theorem metaO_yes {o : ObjS} {id : List UInt8} {M : MetaS} (h : splitL o.1.data.toList = some (id, metaB.data.toList)) (hd : decS o.2.data.toList = some M) (hi : M.id.data.toList = id) : metaO o = some M := by
  unfold metaO; rw [h, hd]; exact (if_pos rfl).trans (if_pos hi)

theorem ofN_mem {L : List ObjS} {k : Nat} {p : BlkS} (h : p ∈ ofN L k) : ∃ o ∈ L, metaO o = some p.1 ∧ p.2 = whenO L p.1.id := by
  unfold ofN at h
  obtain ⟨o, ho, hb⟩ := List.mem_filterMap.1 h
  refine ⟨o, List.mem_of_mem_take ho, ?_⟩
  unfold blkO at hb
  obtain ⟨M, hM, rfl⟩ := Option.map_eq_some_iff.1 hb
  exact ⟨hM, rfl⟩

theorem ofN_nodup {L : List ObjS} (h : (L.map (·.1)).Nodup) (k : Nat) : ((ofN L k).map (fun p => p.1.id)).Nodup := by
  induction k with
  | zero => rw [ofN_zero]; simp
  | succ k ih =>
    by_cases hk : k < L.length
    · cases hm : metaO L[k] with
      | none => rw [ofN_none hk hm]; exact ih
      | some M =>
        rw [ofN_some hk hm, List.map_append, List.nodup_append]
        refine ⟨ih, by simp, fun a ha b hb e => ?_⟩
        simp only [List.map_cons, List.map_nil, List.mem_singleton] at hb
        subst hb e
        obtain ⟨p, hp, hpi⟩ := List.mem_map.1 ha
        unfold ofN at hp
        obtain ⟨o, ho, hb⟩ := List.mem_filterMap.1 hp
        obtain ⟨M', hM', rfl⟩ := Option.map_eq_some_iff.1 hb
        have e1 := (metaO_some hM').1
        have e2 := (metaO_some hm).1
        have e3 : o.1 = L[k].1 := by rw [e1, e2]; exact congrArg (fun x => objectB x metaB) hpi
        obtain ⟨j, hj, hjo⟩ := List.getElem_of_mem ho
        rw [List.length_take] at hj
        rw [List.getElem_take] at hjo
        rw [← hjo] at e3
        rw [List.Nodup, List.pairwise_iff_getElem] at h
        exact h j k (by simp; omega) (by simpa using hk) (by omega) (by simpa using e3)
    · have : ofN L (k + 1) = ofN L k := by
        unfold ofN
        rw [List.take_of_length_le (by omega), List.take_of_length_le (by omega)]
      rw [this]
      exact ih

theorem unmark_range {l : List UInt8} : 0 ≤ (unmarkL l).2.1 ∧ (unmarkL l).2.1 ≤ 1099511627776 := by
  unfold unmarkL
  simp only
  split
  · exact ⟨Int.le_refl _, (by decide : (0 : Int) ≤ 1099511627776)⟩
  · split
    · exact ⟨Int.le_refl _, (by decide : (0 : Int) ≤ 1099511627776)⟩
    · exact tkN_bounds _ (by decide) (by decide)

theorem whenO_range (L : List ObjS) (id : ByteArray) : -1 ≤ whenO L id ∧ whenO L id ≤ 1099511627776 := by
  have h := @unmark_range (bytesO L (objectB id markB)).data.toList
  unfold whenO
  split <;> omega

/-- What is known of the blocks, sorted. -/
structure OfOk (atn : Nat) (T S : List BlkS) : Prop where
  perm : S.Perm T
  rise : (S.map (·.1)).Pairwise fun a b => bytesLess a.id.data.toList b.id.data.toList = true
  files : ∀ p ∈ S, p.1.files.length ≤ 10
  list : ListOk atn (S.map (·.1)) (marksOf T)
  look : ∀ p ∈ S, look (marksOf T) p.1.id = markO p
  len : (marksOf T).length = marked S

theorem ofOk {L : List ObjS} (h : (L.map (·.1)).Nodup) (hl : L.length ≤ 20) {atn : Nat} (ha : atn ≤ 1099511627776) : OfOk atn (ofN L L.length) (sortT (ofN L L.length)) := by
  have hn := ofN_nodup h L.length
  have hln := ofN_len L L.length
  have hok : ∀ p ∈ ofN L L.length, MetaOk p.1 := fun p hp => by
    obtain ⟨o, _, hm, _⟩ := ofN_mem hp
    exact decS_ok (metaO_some hm).2
  have hmk : ∀ p ∈ ofN L L.length, -1 ≤ p.2 ∧ p.2 ≤ 1099511627776 := fun p hp => by
    obtain ⟨o, _, _, e⟩ := ofN_mem hp
    rw [e]
    exact whenO_range L _
  generalize ofN L L.length = T at *
  obtain ⟨hp, hr⟩ := sortT_ok hn
  have hin : ∀ p ∈ sortT T, p ∈ T := fun p hq => hp.subset hq
  have hr2 : ((sortT T).map (·.1)).Pairwise fun a b => bytesLess a.id.data.toList b.id.data.toList = true := by
    rw [List.pairwise_map]; exact hr
  have hsl := hp.length_eq
  refine ⟨hp, hr2, fun p hq => ?_, ⟨ha, by rw [List.length_map]; omega, fun m hm => ?_, hr2, fun p hpm => ?_, by have := marksOf_len T; omega⟩, fun p hq => look_markO hn (hin p hq), by rw [marksOf_marked hn, marked_perm hp]⟩
  · obtain ⟨s1, c1, s2, c2, e, -⟩ := (hok p (hin p hq)).files
    rw [e]
    exact Nat.le_of_ble_eq_true rfl
  · obtain ⟨p, hp2, rfl⟩ := List.mem_map.1 hm
    exact hok p (hin p hp2)
  · obtain ⟨q, hq, e1, e2, e3⟩ := marksOf_mem hpm
    refine ⟨⟨q.1, List.mem_map.2 ⟨q, hp.symm.subset hq, rfl⟩, e1⟩, e3, ?_⟩
    have := (hmk q hq).2
    omega
end Go.Proofs.YtjffdcflkkgpfaaGreat
