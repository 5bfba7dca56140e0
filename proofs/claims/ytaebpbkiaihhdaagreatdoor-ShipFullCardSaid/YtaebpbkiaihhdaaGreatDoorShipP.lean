/-
  Plain laws of the files that blocks and notes are: which names a list tells. No program in sight.
  No condition beyond those that each theorem states.
-/
import Derived.Test.YtaebpbkiaihhdaaGreatDoorShipDisk
namespace Go.Proofs.YtaebpbkiaihhdaaGreatDoor
open Go

theorem few_keys : ∀ (K l : List ByteArray), l.Nodup → (∀ q ∈ l, q ∈ K) → l.length ≤ K.length
  | K, [], _, _ => Nat.zero_le _
  | K, a :: l, hn, h => by
    have ha := h a (by simp)
    have hn' := List.nodup_cons.1 hn
    have ih := few_keys (K.filter (fun q => decide (q ≠ a))) l hn'.2 (fun q hq => List.mem_filter.2 ⟨h q (by simp [hq]), decide_eq_true (fun e => hn'.1 (by rw [← e]; exact hq))⟩)
    have : (K.filter (fun q => decide (q ≠ a))).length < K.length := List.length_filter_lt_length_iff_exists.2 ⟨a, ha, by simp⟩
    simp only [List.length_cons]
    omega

/-- The names of a disk are these at most. -/
structure KeysIn (o : List (ByteArray × Ob)) (K : List ByteArray) : Prop where
  nodup : (o.map (·.1)).Nodup
  mem : ∀ n ∈ o.map (·.1), n ∈ K

theorem KeysIn.sizes {o : List (ByteArray × Ob)} {K : List ByteArray} (h : KeysIn o K) (hs : ∀ n ∈ K, n.size ≤ 1000) (hl : K.length ≤ 100) : (∀ p ∈ o, p.1.size ≤ maxLen) ∧ o.length * 16 ≤ 140737488355328 := by
  have h1 := few_keys K _ h.nodup h.mem
  rw [List.length_map] at h1
  refine ⟨fun p hp => Nat.le_trans (hs _ (h.mem p.1 (List.mem_map.2 ⟨p, hp, rfl⟩))) (by simp only [maxLen]; omega), by omega⟩

theorem KeysIn.crash {o : List (ByteArray × Ob)} {K : List ByteArray} (h : KeysIn o K) (ch : List Int) : KeysIn (crashO ch o) K := by
  have hc := (crash_keep ch o).1
  exact ⟨by rw [hc]; exact h.nodup, fun n hn => h.mem n (by rw [← hc]; exact hn)⟩

theorem KeysIn.del {o : List (ByteArray × Ob)} {K : List ByteArray} (h : KeysIn o K) (n : ByteArray) : KeysIn (del o n) K := ⟨del_nodup h.nodup _, fun m hm => h.mem m (mem_keys_del hm)⟩

theorem KeysIn.fresh {o o' : List (ByteArray × Ob)} {K : List ByteArray} {n s : ByteArray} (h : KeysIn o K) (f : FreshInv o n s o') (ht : tmpB ∈ K) (hn : n ∈ K) : KeysIn o' K := ⟨f.nodup, fun m hm => by
  rcases f.keys m hm with h1 | rfl | rfl
  · exact h.mem m h1
  · exact ht
  · exact hn⟩

theorem hasPre_app (p s : ByteArray) : hasPre (p ++ s) p = true := by
  simp only [hasPre, Bool.and_eq_true, decide_eq_true_eq]
  exact ⟨by rw [ByteArray.size_append]; omega, ByteArray.extract_append_eq_left rfl⟩

theorem hasPre_other {p q : ByteArray} (s : ByteArray) (h : p.size = q.size) (hne : p ≠ q) : hasPre (p ++ s) q = false := by
  have e : (p ++ s).extract 0 q.size = p := ByteArray.extract_append_eq_left h.symm
  unfold hasPre
  rw [e, decide_eq_false hne, Bool.and_false]

theorem names_nil {o : List (ByteArray × Ob)} {pre : ByteArray} (h : ∀ n ∈ o.map (·.1), hasPre n pre = false) : names o pre = [] := by
  rcases hn : names o pre with _ | ⟨x, l⟩
  · rfl
  · have hm : x ∈ names o pre := by rw [hn]; simp
    have h1 := h x (mem_names hm)
    unfold names at hm
    have h2 := (List.mem_filter.1 hm).2
    rw [h1] at h2
    cases h2

theorem names_nodup {o : List (ByteArray × Ob)} {pre : ByteArray} (h : (o.map (·.1)).Nodup) : (names o pre).Nodup := by
  have h1 : (sortedKeys o).Nodup := (sortB_perm _).nodup_iff.2 h
  unfold names
  exact List.Pairwise.filter _ h1

theorem names_in {o : List (ByteArray × Ob)} {pre n : ByteArray} (h : n ∈ o.map (·.1)) (hp : hasPre n pre = true) : n ∈ names o pre := by
  unfold names
  exact List.mem_filter.2 ⟨(sortB_perm _).mem_iff.2 h, hp⟩

theorem names_pre {o : List (ByteArray × Ob)} {pre n : ByteArray} (h : n ∈ names o pre) : hasPre n pre = true := by
  unfold names at h
  exact (List.mem_filter.1 h).2

theorem names_only {o : List (ByteArray × Ob)} {pre x : ByteArray} (hnd : (o.map (·.1)).Nodup) (hx : x ∈ o.map (·.1)) (hp : hasPre x pre = true) (ho : ∀ n ∈ o.map (·.1), hasPre n pre = true → n = x) : names o pre = [x] := by
  have h1 := names_nodup (pre := pre) hnd
  have h2 := names_in hx hp
  have h3 : ∀ n ∈ names o pre, n = x := fun n hn => ho n (mem_names hn) (names_pre hn)
  revert h1 h2 h3
  generalize names o pre = l
  intro h1 h2 h3
  rcases l with _ | ⟨a, l⟩
  · cases h2
  · obtain rfl := h3 a (by simp)
    rcases l with _ | ⟨b, l⟩
    · rfl
    · have hb := h3 b (by simp)
      subst hb
      simp at h1

theorem look_some_mem {o : List (ByteArray × Ob)} {n : ByteArray} {x : Ob} (h : look o n = some x) : n ∈ o.map (·.1) := List.mem_map.2 ⟨(n, x), look_mem h, rfl⟩

/-- 'blk-' -/
def blkB : ByteArray := ⟨#[98, 108, 107, 45]⟩

theorem fileB_app (id p : ByteArray) : fileB id p = blkB ++ (id ++ ((⟨#[45]⟩ : ByteArray) ++ p)) := by
  unfold fileB
  rw [show (⟨#[98, 108, 107, 45]⟩ : ByteArray) = blkB from rfl, ByteArray.append_assoc, ByteArray.append_assoc]

theorem file_pre (id p : ByteArray) : hasPre (fileB id p) blkB = true := by rw [fileB_app]; exact hasPre_app _ _

theorem file_noNote (id p : ByteArray) : hasPre (fileB id p) ⟨#[115, 104, 112, 45]⟩ = false := by rw [fileB_app]; exact hasPre_other _ rfl (by decide)

theorem note_pre (id : ByteArray) : hasPre (noteB id) ⟨#[115, 104, 112, 45]⟩ = true := hasPre_app _ _

theorem note_noFile (id : ByteArray) : hasPre (noteB id) blkB = false := hasPre_other _ rfl (by decide)

theorem tmp_noNote : hasPre tmpB ⟨#[115, 104, 112, 45]⟩ = false := by decide

theorem tmp_noFile : hasPre tmpB blkB = false := by decide

theorem seq_noNote : hasPre seqB ⟨#[115, 104, 112, 45]⟩ = false := by decide

theorem seq_noFile : hasPre seqB blkB = false := by decide

theorem note_ne {id : ByteArray} : noteB id ≠ tmpB := fun e => by
  have := note_pre id
  rw [e, tmp_noNote] at this
  cases this

theorem file_ne {id p : ByteArray} : fileB id p ≠ tmpB := fun e => by
  have := file_pre id p
  rw [e, tmp_noFile] at this
  cases this

theorem note_file {id i p : ByteArray} : noteB id ≠ fileB i p := fun e => by
  have := file_pre i p
  rw [← e, note_noFile] at this
  cases this

theorem file_part {id : ByteArray} {j k : Nat} (hj : j < 3) (hk : k < 3) (hne : j ≠ k) : fileB id (partN j) ≠ fileB id (partN k) := fun e => by
  have := congrArg ByteArray.size e
  rw [fileB_size, fileB_size] at this
  have s0 : (partN 0).size = 6 := rfl
  have s1 : (partN 1).size = 5 := rfl
  have s2 : (partN 2).size = 4 := rfl
  rcases (by omega : j = 0 ∨ j = 1 ∨ j = 2) with rfl | rfl | rfl <;> rcases (by omega : k = 0 ∨ k = 1 ∨ k = 2) with rfl | rfl | rfl <;> first | exact hne rfl | (simp only [s0, s1, s2] at this; omega)

theorem noteT_size {M : MetaS} (hok : MetaOk M) {a : Nat} (ha : a ≤ 1099511627776) : (noteT M a).size ≤ 3100 := by
  have hm16 : M.id.data.toList.length = 16 := by rw [dsize]; exact id16 hok.id
  have h1 : (encM M).size ≤ 3000 := frame_meta_len hok
  have h2 : (⟨(markL M.id.data.toList a).toArray⟩ : ByteArray).size ≤ 100 := markL_len hm16 ha
  unfold noteT
  rw [ByteArray.size_append]
  omega

/-- A file that is written all at once when nothing fails. -/
theorem fresh_ok {room : Nat} {o : List (ByteArray × Ob)} {name s : ByteArray} (hn : name ≠ tmpB) (hn0 : name.size ≠ 0) (hn40 : name.size ≤ 40) (hnd : (o.map (·.1)).Nodup) (hroom : used o + s.size ≤ room) :
    FreshInv o name s (freshS room [] o name s).2.2 ∧ (freshS room [] o name s).1 = 0 ∧ (freshS room [] o name s).2.1 = [] ∧ look (freshS room [] o name s).2.2 name = some (s, (s.size : Int)) ∧ look (freshS room [] o name s).2.2 tmpB = none := by
  have h1 := fresh_quiet (room := room) (o := o) (name := name) (s := s)
  obtain ⟨h2, ⟨h3, h4, h5⟩ | ⟨h3, _⟩⟩ := fresh_law (room := room) [] hn hn0 hn40 hnd hroom
  · exact ⟨h2, h3, h1.1, h4, h5⟩
  · exact absurd h3 h1.2

/-- Noting when nothing fails: no room, or it is there. -/
theorem note_law {room : Nat} {o : List (ByteArray × Ob)} {M : MetaS} (hok : MetaOk M) {a : Nat} {K : List ByteArray} (hK : KeysIn o K) (ht : tmpB ∈ K) (hn : noteB M.id ∈ K) :
    (noteS room [] o M a).2.1 = [] ∧ KeysIn (noteS room [] o M a).2.2 K ∧ used (noteS room [] o M a).2.2 ≤ used o + (noteT M a).size ∧ (∀ m, m ≠ noteB M.id → m ≠ tmpB → look (noteS room [] o M a).2.2 m = look o m) ∧
      ((noteS room [] o M a).1 = 7 ∧ (noteS room [] o M a).2.2 = o ∧ room < used o + (noteT M a).size ∨ (noteS room [] o M a).1 = 0 ∧ look (noteS room [] o M a).2.2 (noteB M.id) = some (noteT M a, ((noteT M a).size : Int))) := by
  by_cases hr : ((noteT M a).size : Int) > (room : Int) - (used o : Int)
  · have e : noteS room [] o M a = (7, [], o) := if_pos hr
    rw [e]
    exact ⟨rfl, hK, Nat.le_add_right _ _, fun _ _ _ => rfl, .inl ⟨rfl, rfl, by omega⟩⟩
  · have e : noteS room [] o M a = freshS room [] o (noteB M.id) (noteT M a) := if_neg hr
    rw [e]
    have hz := noteB_size M.id
    have := id16 hok.id
    obtain ⟨h1, h2, h3, h4, -⟩ := fresh_ok (room := room) (o := o) (name := noteB M.id) (s := noteT M a) note_ne (by omega) (by omega) hK.nodup (by omega)
    exact ⟨h3, hK.fresh h1 ht hn, h1.used, h1.others, .inr ⟨h2, h4⟩⟩

theorem rm_ok {o : List (ByteArray × Ob)} {n : ByteArray} {x : Ob} (h : look o n = some x) : rmS [] o n = (0, [], del o n) := by
  unfold rmS noneR
  rw [h]
  rfl

theorem rm_none {Q : List (Int × Bool)} {o : List (ByteArray × Ob)} {n : ByteArray} (h : look o n = none) : rmS Q o n = (0, Q, o) := by
  unfold rmS noneR
  rw [h]
  rfl
end Go.Proofs.YtaebpbkiaihhdaaGreatDoor
