/-
  Buckets of things as these runs have them (package barographlaw19), their objects, in plain words; memory beside a bucket.
  No condition beyond those that each theorem states.
-/
import Derived.Test.YtjffdcflkkgpfaaGreatFill19
namespace Go.Proofs.YtjffdcflkkgpfaaGreat
open Go Go.RowKit Go.Conc

theorem del_sub {α : Type} (n : ByteArray) : ∀ o : List (ByteArray × α), (del o n).Sublist o
  | [] => List.Sublist.refl _
  | (k, x) :: r => by
    unfold del
    split
    · exact List.sublist_cons_self _ _
    · exact (del_sub n r).cons_cons _

/-- A bucket as these runs have them. -/
structure MovOk (o : BktS) : Prop where
  nodup : (o.map (·.1)).Nodup
  len : o.length ≤ 15
  small : ∀ p ∈ o, p.1.size ≤ 40 ∧ p.2.1.size ≤ 5000

theorem MovOk.sub {o0 o : BktS} (h : MovOk o0) (s : o.Sublist o0) : MovOk o :=
  ⟨h.nodup.sublist (s.map _), Nat.le_trans s.length_le h.len, fun p hp => h.small p (s.subset hp)⟩

theorem MovOk.at_ {o : BktS} (h : MovOk o) (n : ByteArray) : (obOr (look o n)).1.size ≤ 5000 := by
  unfold obOr
  cases hl : look o n with
  | none => exact Nat.zero_le _
  | some x => exact (h.small _ (look_mem hl)).2

theorem MovOk.run {o : BktS} (h : MovOk o) : RunOk o := ⟨h.nodup, by have := h.len; omega, fun p hp => (h.small p hp).1, fun n _ => h.at_ n⟩

theorem MovOk.bkt {o : BktS} (h : MovOk o) : BktOk o := ⟨by have := h.len; omega, fun p hp => (h.small p hp).1, fun n => by have := h.at_ n; omega⟩

theorem fill_movOk {L : List ObjS} (hl : L.length ≤ 15) (hs : ∀ p ∈ L, p.1.size ≤ 40 ∧ p.2.size ≤ 5000) (hn : ((fillN L L.length).map (·.1)).Nodup) : MovOk (fillN L L.length) :=
  ⟨hn, by have := (fillN_ok L L.length).1; omega, fun p hp => hs _ ((fillN_ok L L.length).2 p hp).1⟩


theorem ofN_in {L : List ObjS} {o : ObjS} {M : MetaS} (h : o ∈ L) (hm : metaO o = some M) : (M, whenO L M.id) ∈ ofN L L.length := by
  unfold ofN
  rw [List.take_length]
  exact List.mem_filterMap.2 ⟨o, h, by unfold blkO; rw [hm]; rfl⟩

theorem objsOf_in {o : BktS} {n : ByteArray} {x : Ob} (h : look o n = some x) : (n, x.1) ∈ objsOf o := by
  unfold objsOf
  rw [listing_nilR, List.map_map]
  refine List.mem_map.2 ⟨n, ?_, ?_⟩
  · exact (sortB_perm _).mem_iff.2 (List.mem_map.2 ⟨_, look_mem h, rfl⟩)
  · simp [h, obOr]

theorem objsOf_of {o : BktS} {p : ObjS} (h : p ∈ objsOf o) : ∃ x, look o p.1 = some x ∧ x.1 = p.2 := by
  unfold objsOf at h
  obtain ⟨q, hq, rfl⟩ := List.mem_map.1 h
  obtain ⟨x, hx, e⟩ := listing_in hq
  exact ⟨x, hx, by rw [e]⟩

theorem meta_wait {o : ObjS} {M : MetaS} (h : metaO o = some M) : isWait o.1 = true := by
  obtain ⟨h1, h2⟩ := metaO_some h
  have hid := (decS_ok h2).id
  have hs := split_object (part := metaB.data.toList) hid (by decide)
  unfold isWait
  rw [h1, object_data, hs]
  simp

theorem bkt_row {w : World} {b f c mb base n : Nat} {armed : Bool} {Q : List (Int × Bool)} {o : BktS} {v : Value} {xs : List Value} (h : BucketAt w b f c mb armed Q o) (hr : w.ownsRow base 28 2 v n xs) : ∀ g, v.ownBlock = some g → g ≠ f ∧ g ≠ c ∧ g ≠ mb := by
  intro g hg
  obtain ⟨now, wait, hf, -⟩ := h.fuse
  obtain ⟨s, r, hch⟩ := hf.chan
  have h1 := row_ne_typeM hr hf.cells (by decide)
  have h2 := row_ne_map hr h.map
  rw [hg] at h1 h2
  refine ⟨fun e => h1 (by simp [e]), fun e => ?_, fun e => h2 (by simp [e])⟩
  obtain ⟨_, ⟨rfl, _⟩ | ⟨g2, c2, r2, rfl, _, hb2, _⟩⟩ := hr
  · simp [Value.ownBlock] at hg
  · obtain rfl : g2 = g := by simpa [Value.ownBlock] using hg
    rw [e, hch] at hb2
    cases hb2

instance mvBkt {w w' : World} (b f c mb : Nat) (armed : Bool) (Q : List (Int × Bool)) (o : BktS) : Mv w w' (BucketAt w b f c mb armed Q o) (BucketAt w' b f c mb armed Q o) := ⟨fun k h => k.keep_bucket h⟩

instance mvScan {X : Nat} {w w' : World} (B q gb : Nat) (S : ScanS) : Mv w w' (ScanAt X w B q gb S) (ScanAt X w' B q gb S) := ⟨fun k h => h.same k⟩

theorem MovOk.objLen {o : BktS} (h : MovOk o) : (objsOf o).length ≤ 15 := by
  rw [objsOf_len]
  have := listing_len o ⟨#[]⟩
  have := h.len
  omega

theorem MovOk.objs {o : BktS} (h : MovOk o) : ∀ p ∈ objsOf o, p.1.size ≤ 1000 ∧ p.2.size ≤ 5000 := fun p hp => by
  obtain ⟨x, hx, e⟩ := objsOf_of hp
  have h1 := h.small _ (look_mem hx)
  rw [← e]
  exact ⟨by have := h1.1; simp only at this; omega, h1.2⟩

theorem MovOk.ofs {o : BktS} (h : MovOk o) : OfOk 0 (ofN (objsOf o) (objsOf o).length) (sortT (ofN (objsOf o) (objsOf o).length)) := ofOk (by rw [show (objsOf o).map (·.1) = (listing o ⟨#[]⟩).map (·.1) from by simp [objsOf, List.map_map, Function.comp_def]]; exact listing_nodupR h.nodup) (by have := h.objLen; omega) (by decide)
end Go.Proofs.YtjffdcflkkgpfaaGreat
