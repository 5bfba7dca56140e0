/-
  The buckets that the statements on sweeping look at, and what a round leaves of them, in plain words.
  No condition beyond those that each theorem states.
-/
import Derived.Test.YtbndpegilpgheaaGreatSweepRound
namespace Go.Proofs.YtbndpegilpgheaaGreat
open Go Go.RowKit

structure OneS where
  tick : Int
  seq : Int
  part : Int
  at_ : Int
  when_ : Int
  right : Bool

def encOne (x : OneS) : List Value := [.int .i64 x.tick, .int .i64 x.seq, .int .i64 x.part, .int .i64 x.at_, .int .i64 x.when_, .bool x.right]

def idN (t n : Nat) : ByteArray := ⟨(identL t n).toArray⟩

def idS (x : OneS) : ByteArray := idN (x.tick % 4).toNat (x.seq % 4).toNat

def partN : Nat → ByteArray
  | 0 => chunksB
  | 1 => indexB
  | 2 => metaB
  | _ => markB

def partS (x : OneS) : ByteArray := partN (x.part % 4).toNat

def askB : ByteArray := ⟨#[63]⟩

def markBytes (id : ByteArray) (n : Nat) : ByteArray := ⟨(markL id.data.toList n).toArray⟩

def dataS (x : OneS) : ByteArray := if partS x = markB ∧ x.right = true then markBytes (idS x) (x.when_ % 32).toNat else askB

def marksS (M : PartsM) (x : OneS) : PartsM := if partS x = markB then (if x.right = true then put (del M (idS x)) (idS x) (x.when_ % 32) else del M (idS x)) else M

def fillStep (s : Bkt × PartsM) (x : OneS) : Bkt × PartsM := (put s.1 (objectB (idS x) (partS x)) (dataS x, x.at_ % 32), marksS s.2 x)

def fillS (L : List OneS) : Bkt × PartsM := L.foldl fillStep ([], [])

theorem fill_next {L : List OneS} {k : Nat} (hk : k < L.length) : fillS (L.take (k + 1)) = fillStep (fillS (L.take k)) L[k] := by
  unfold fillS
  rw [List.take_succ_eq_append_getElem hk, List.foldl_append]
  rfl


theorem idN_ok {t n : Nat} (ht : t < 1099511627776) (hn : n < 1099511627776) : isIDB (idN t n).data.toList = true := isID_ident ht hn

theorem idS_ok (x : OneS) : isIDB (idS x).data.toList = true := idN_ok (by omega) (by omega)

theorem partN_mem (k : Nat) : partN k ∈ partsB := by
  unfold partN partsB
  split <;> simp

theorem id_size {id : ByteArray} (h : isIDB id.data.toList = true) : id.size = 16 := by
  have := (isID_signs h).1
  rw [dsize] at this
  exact this

theorem part_size {p : ByteArray} (h : p ∈ partsB) : 4 ≤ p.size ∧ p.size ≤ 6 := by
  unfold partsB at h
  simp only [List.mem_cons, List.not_mem_nil, or_false] at h
  rcases h with rfl | rfl | rfl | rfl <;> decide

theorem object_size {id part : ByteArray} (h : isIDB id.data.toList = true) (hp : part ∈ partsB) : (objectB id part).size ≤ 23 ∧ (objectB id part).size ≠ 0 := by
  have h1 := id_size h
  have h2 := part_size hp
  have h3 : (objectB id part).size = 16 + 1 + part.size := by
    unfold objectB
    rw [ByteArray.size_append, ByteArray.size_append, h1]
    rfl
  omega

/-! ## Marks -/
theorem markSays_ask (id : ByteArray) : markSays id askB = none := by
  unfold markSays
  rw [if_neg]
  intro h
  have : (unmarkL askB.data.toList).2.2 ≠ 0 := by decide
  exact this h.1

theorem markSays_mark {id : ByteArray} (h : isIDB id.data.toList = true) {n : Nat} (hn : n ≤ 1099511627776) : markSays id (markBytes id n) = some (n : Int) := by
  unfold markSays
  have e : (markBytes id n).data.toList = markL id.data.toList n := rfl
  rw [e, unmark_mark h hn, if_pos ⟨rfl, rfl⟩]

theorem markSays_bad {id : ByteArray} (h : isIDB id.data.toList = false) (data : ByteArray) : markSays id data = none := by
  cases hm : markSays id data with
  | none => rfl
  | some t => rw [markSays_id hm] at h; cases h

theorem markIn_bad {id : ByteArray} (h : isIDB id.data.toList = false) (o : Bkt) : markIn o id = none := by
  unfold markIn
  cases look o (objectB id markB) with
  | none => rfl
  | some x => exact markSays_bad h _

theorem markIn_put (o : Bkt) {id0 part0 : ByteArray} (hi : isIDB id0.data.toList = true) (hp : part0 ∈ partsB) (v : Ob) (id : ByteArray) :
    markIn (put o (objectB id0 part0) v) id = if part0 = markB ∧ id = id0 then markSays id v.1 else markIn o id := by
  cases hb : isIDB id.data.toList with
  | false =>
    rw [markIn_bad hb, markIn_bad hb]
    split
    · rw [markSays_bad hb]
    · rfl
  | true =>
    unfold markIn
    rw [look_put]
    by_cases e : objectB id markB = objectB id0 part0
    · obtain ⟨e1, e2⟩ := object_inj hb mark_part hi hp e
      rw [if_pos e, if_pos ⟨e2.symm, e1⟩]
      rfl
    · rw [if_neg e, if_neg]
      rintro ⟨rfl, rfl⟩
      exact e rfl

/-! ## What holds of such a bucket -/
structure Parted (o : Bkt) (k : Nat) : Prop where
  nodup : (o.map (·.1)).Nodup
  len : o.length ≤ k
  obj : ∀ p ∈ o, (∃ id part, isIDB id.data.toList = true ∧ part ∈ partsB ∧ p.1 = objectB id part) ∧ 0 ≤ p.2.2 ∧ p.2.2 ≤ 31 ∧ p.2.1.size ≤ 1000
  mark : ∀ id t, markIn o id = some t → 0 ≤ t ∧ t ≤ 31

theorem parted_nil (k : Nat) : Parted [] k := ⟨by simp, by simp, by simp, by simp [markIn, look]⟩

theorem Parted.put {o : Bkt} {k : Nat} (h : Parted o k) {id part : ByteArray} (hi : isIDB id.data.toList = true) (hp : part ∈ partsB) (v : Ob) (h1 : 0 ≤ v.2) (h2 : v.2 ≤ 31) (h3 : v.1.size ≤ 1000) (h4 : part = markB → ∀ t, markSays id v.1 = some t → 0 ≤ t ∧ t ≤ 31) :
    Parted (put o (objectB id part) v) (k + 1) := by
  refine ⟨put_nodup h.nodup _ _, Nat.le_trans (length_put _ _ _) (by have := h.len; omega), fun p hm => ?_, fun id' t ht => ?_⟩
  · rcases mem_put hm with rfl | hm
    · exact ⟨⟨id, part, hi, hp, rfl⟩, h1, h2, h3⟩
    · exact h.obj p hm
  · rw [markIn_put o hi hp] at ht
    split at ht
    · rename_i hc
      obtain ⟨rfl, rfl⟩ := hc
      exact h4 rfl t ht
    · exact h.mark id' t ht

theorem Parted.key {o : Bkt} {k : Nat} (h : Parted o k) : ∀ p ∈ o, p.1.size ≤ 40 := fun p hp => by
  obtain ⟨⟨id, part, hi, hpp, e⟩, _⟩ := h.obj p hp
  have := (object_size hi hpp).1
  rw [e]; omega

theorem Parted.data {o : Bkt} {k : Nat} (h : Parted o k) (n : ByteArray) : (obOr (look o n)).1.size ≤ 1000 := by
  cases hl : look o n with
  | none => show (⟨#[]⟩ : ByteArray).size ≤ 1000; decide
  | some x => exact (h.obj _ (look_mem hl)).2.2.2

theorem Parted.name {o : Bkt} {k : Nat} (h : Parted o k) {n : ByteArray} (hn : n ∈ o.map (·.1)) : ∃ id part, isIDB id.data.toList = true ∧ part ∈ partsB ∧ n = objectB id part := by
  obtain ⟨p, hp, rfl⟩ := List.mem_map.1 hn
  exact (h.obj p hp).1

theorem Parted.sub {o : Bkt} {k : Nat} (h : Parted o k) (V : List ByteArray) : Parted (delAll o V) k := by
  refine ⟨delAll_nodup h.nodup V, Nat.le_trans (delAll_len o V) h.len, fun p hp => h.obj p (delAll_sub o V p hp), fun id t ht => h.mark id t ?_⟩
  unfold markIn at ht ⊢
  rw [look_delAll h.nodup] at ht
  split at ht
  · cases ht
  · exact ht

/-- When a block's first part was put. -/
theorem Parted.oldest {o : Bkt} {k : Nat} (h : Parted o k) {id part : ByteArray} (hi : isIDB id.data.toList = true) (hp : part ∈ partsB) (hl : (look o (objectB id part)).isSome = true) :
    0 ≤ leastL ((blkOf (listing o ⟨#[]⟩) id).map (·.2)) ∧ leastL ((blkOf (listing o ⟨#[]⟩) id).map (·.2)) ≤ 31 := by
  have hnd := listing_nodup h.nodup
  have inv := blocks_inv hnd
  have hs : (look (blkOf (listing o ⟨#[]⟩) id) part).isSome = true := by
    unfold blkOf
    rw [inv.says, if_pos ⟨hi, isPart_mem.2 hp⟩, listing_look h.nodup]
    simpa using hl
  have hne : (blkOf (listing o ⟨#[]⟩) id).map (·.2) ≠ [] := by
    intro e
    rw [List.map_eq_nil_iff] at e
    rw [e] at hs
    simp [look] at hs
  obtain ⟨q, hq, e⟩ := List.mem_map.1 (leastL_mem hne)
  rw [← e]
  unfold blkOf at hq
  cases hb : look (blocksOf (listing o ⟨#[]⟩)) id with
  | none => rw [hb] at hq; cases hq
  | some x =>
    rw [hb] at hq
    obtain ⟨y, hy, e2⟩ := inv.ats _ (look_mem hb) q hq
    have := h.obj y (listing_of hy)
    rw [e2]
    exact ⟨this.2.1, this.2.2.1⟩

theorem blk_meta {o : Bkt} (hnd : (o.map (·.1)).Nodup) {id : ByteArray} (hi : isIDB id.data.toList = true) : (look (blkOf (listing o ⟨#[]⟩) id) metaB).isNone = (look o (objectB id metaB)).isNone := by
  unfold blkOf
  rw [(blocks_inv (listing_nodup hnd)).says, if_pos ⟨hi, by decide⟩, listing_look hnd]
  cases look o (objectB id metaB) <;> rfl

theorem mem_victR {cfg : Int × Int × Int} {now : Int} {o : Bkt} (hnd : (o.map (·.1)).Nodup) {n : ByteArray} :
    n ∈ victR cfg now o ↔ ∃ id part, isIDB id.data.toList = true ∧ part ∈ partsB ∧ n = objectB id part ∧ n ∈ o.map (·.1) ∧ goesB cfg.1 cfg.2.1 now (blkOf (listing o ⟨#[]⟩) id) (markIn o id) = true := by
  unfold victR
  rw [mem_victims (listing_nodup hnd)]
  constructor
  · rintro ⟨id, part, h1, h2, h3, h4, h5⟩
    rw [listing_look hnd] at h4
    obtain ⟨x, hx⟩ := Option.isSome_iff_exists.1 h4
    unfold waitR at h5
    rw [markOf_got] at h5
    exact ⟨id, part, h1, h2, h3, List.mem_map.2 ⟨_, look_mem hx, rfl⟩, h5⟩
  · rintro ⟨id, part, h1, h2, h3, h4, h5⟩
    obtain ⟨x, hx⟩ := look_isSome h4
    refine ⟨id, part, h1, h2, h3, by rw [listing_look hnd, hx]; rfl, ?_⟩
    unfold waitR
    rw [markOf_got]
    exact h5

theorem isSome_of_mem {o : Bkt} {n : ByteArray} (h : n ∈ o.map (·.1)) : (look o n).isSome = true := by
  obtain ⟨x, hx⟩ := look_isSome h
  rw [hx]; rfl

theorem mem_of_isSome {o : Bkt} {n : ByteArray} (h : (look o n).isSome = true) : n ∈ o.map (·.1) := by
  obtain ⟨x, hx⟩ := Option.isSome_iff_exists.1 h
  exact List.mem_map.2 ⟨_, look_mem hx, rfl⟩


/-- What isn't old enough stays. -/
theorem victR_young {o : Bkt} {k : Nat} (h : Parted o k) {now p : Int} (h1 : now ≤ 31) : victR (31, 31, p) now o = [] := by
  rw [List.eq_nil_iff_forall_not_mem]
  intro n hn
  obtain ⟨id, part, hi, hp, rfl, hm, hg⟩ := (mem_victR h.nodup).1 hn
  unfold goesB at hg
  cases hmk : markIn o id with
  | some t =>
    rw [hmk] at hg
    have := h.mark id t hmk
    simp only [decide_eq_true_eq] at hg
    omega
  | none =>
    rw [hmk] at hg
    have := h.oldest hi hp (isSome_of_mem hm)
    simp only [Bool.and_eq_true, decide_eq_true_eq] at hg
    omega

theorem mem_delAll {o : Bkt} (h : (o.map (·.1)).Nodup) {V : List ByteArray} {n : ByteArray} : n ∈ (delAll o V).map (·.1) ↔ n ∈ o.map (·.1) ∧ n ∉ V := by
  constructor
  · intro hm
    have := isSome_of_mem hm
    rw [look_delAll h] at this
    split at this
    · cases this
    · rename_i hv
      exact ⟨mem_of_isSome this, hv⟩
  · rintro ⟨h1, h2⟩
    refine mem_of_isSome ?_
    rw [look_delAll h, if_neg h2]
    exact isSome_of_mem h1

/-- What is left behind a round, when all is old enough: blocks that have a meta, and aren't marked. -/
theorem victR_clean {o : Bkt} {k : Nat} (h : Parted o k) {d g p now : Int} (hd : d ≤ 31) (hg : g ≤ 31) (hnow : 100 ≤ now) {id part : ByteArray} (hi : isIDB id.data.toList = true) (hp : part ∈ partsB) (hm : objectB id part ∈ o.map (·.1)) (hv : objectB id part ∉ victR (d, g, p) now o) :
    markIn o id = none ∧ objectB id metaB ∈ o.map (·.1) ∧ ∀ part' ∈ partsB, objectB id part' ∉ victR (d, g, p) now o := by
  have hgo : goesB d g now (blkOf (listing o ⟨#[]⟩) id) (markIn o id) = false := by
    cases hc : goesB d g now (blkOf (listing o ⟨#[]⟩) id) (markIn o id) with
    | false => rfl
    | true => exact absurd ((mem_victR h.nodup).2 ⟨id, part, hi, hp, rfl, hm, hc⟩) hv
  have h3 : ∀ part' ∈ partsB, objectB id part' ∉ victR (d, g, p) now o := by
    intro part' hp' hc
    obtain ⟨id2, part2, hi2, hp2, e, _, hg2⟩ := (mem_victR h.nodup).1 hc
    obtain ⟨rfl, _⟩ := object_inj hi hp' hi2 hp2 e
    rw [hgo] at hg2
    cases hg2
  refine ⟨?_, ?_, h3⟩
  · cases hmk : markIn o id with
    | none => rfl
    | some t =>
      unfold goesB at hgo
      rw [hmk] at hgo
      have := h.mark id t hmk
      simp only [decide_eq_false_iff_not] at hgo
      omega
  · unfold goesB at hgo
    cases hmk : markIn o id with
    | some t =>
      rw [hmk] at hgo
      have := h.mark id t hmk
      simp only [decide_eq_false_iff_not] at hgo
      omega
    | none =>
      rw [hmk] at hgo
      have h4 := h.oldest hi hp (isSome_of_mem hm)
      have h5 : decide (g < now - leastL ((blkOf (listing o ⟨#[]⟩) id).map (·.2))) = true := by
        rw [decide_eq_true_iff]; omega
      simp only [h5, Bool.and_true] at hgo
      rw [blk_meta h.nodup hi] at hgo
      refine mem_of_isSome ?_
      cases hl : look o (objectB id metaB) with
      | none => rw [hl] at hgo; cases hgo
      | some x => rfl

theorem markIn_delAll {o : Bkt} (hnd : (o.map (·.1)).Nodup) {V : List ByteArray} {id : ByteArray} (h : objectB id markB ∉ V) : markIn (delAll o V) id = markIn o id := by
  unfold markIn
  rw [look_delAll hnd, if_neg h]

/-- Another round finds nothing. -/
theorem victR_again {o : Bkt} {k : Nat} (h : Parted o k) {d g p now now' : Int} (hd : d ≤ 31) (hg : g ≤ 31) (hnow : 100 ≤ now) : victR (d, g, p) now' (delAll o (victR (d, g, p) now o)) = [] := by
  rw [List.eq_nil_iff_forall_not_mem]
  intro n hn
  have hnd := delAll_nodup h.nodup (victR (d, g, p) now o)
  obtain ⟨id, part, hi, hp, rfl, hm, hgo⟩ := (mem_victR hnd).1 hn
  obtain ⟨h1, h2⟩ := (mem_delAll h.nodup).1 hm
  obtain ⟨c1, c2, c3⟩ := victR_clean h hd hg hnow hi hp h1 h2
  rw [markIn_delAll h.nodup (c3 _ mark_part), c1] at hgo
  unfold goesB at hgo
  have hmem : objectB id metaB ∈ (delAll o (victR (d, g, p) now o)).map (·.1) := (mem_delAll h.nodup).2 ⟨c2, c3 _ (by simp [partsB])⟩
  simp only [blk_meta hnd hi, Bool.and_eq_true] at hgo
  have := isSome_of_mem hmem
  rw [Option.isNone_iff_eq_none] at hgo
  rw [hgo.1] at this
  cases this

/-- A block that is marked, and half deleted, goes on to be deleted. -/
theorem victR_half {o : Bkt} {k : Nat} (h : Parted o k) {d g p now now' t : Int} {id : ByteArray} (hmk : markIn o id = some t) (h1 : d < now - t) (h2 : d < now' - t) (j : Nat) :
    ∀ part ∈ partsB, objectB id part ∉ (delAll (delAll o ((victR (d, g, p) now o).take j)) (victR (d, g, p) now' (delAll o ((victR (d, g, p) now o).take j)))).map (·.1) := by
  intro part hp hm
  have hi : isIDB id.data.toList = true := by
    cases hb : isIDB id.data.toList with
    | true => rfl
    | false => rw [markIn_bad hb] at hmk; cases hmk
  have hnd1 := delAll_nodup h.nodup ((victR (d, g, p) now o).take j)
  obtain ⟨m1, m2⟩ := (mem_delAll hnd1).1 hm
  obtain ⟨m3, m4⟩ := (mem_delAll h.nodup).1 m1
  have hV : objectB id part ∈ victR (d, g, p) now o := (mem_victR h.nodup).2 ⟨id, part, hi, hp, rfl, m3, by rw [hmk]; simpa [goesB] using h1⟩
  by_cases hmark : objectB id markB ∈ (victR (d, g, p) now o).take j
  · have hdrop : objectB id part ∈ (victR (d, g, p) now o).drop j := by
      rw [← List.take_append_drop j (victR (d, g, p) now o)] at hV
      rcases List.mem_append.1 hV with h5 | h5
      · exact absurd h5 m4
      · exact h5
    have hord := victims_order (d := d) (g := g) (now := now) (mk := markOf (gotUp o (waitR o))) (listing_nodup h.nodup)
    have hord : (victR (d, g, p) now o).Pairwise Ahead := hord
    rw [← List.take_append_drop j (victR (d, g, p) now o), List.pairwise_append] at hord
    have := hord.2.2 _ hmark _ hdrop id markB part hi mark_part hp rfl rfl
    have hr : rankP part ≤ 3 := by
      unfold rankP
      repeat' split
      all_goals omega
    have hr3 : rankP markB = 3 := by decide
    omega
  · refine m2 ((mem_victR hnd1).2 ⟨id, part, hi, hp, rfl, m1, ?_⟩)
    rw [markIn_delAll h.nodup hmark, hmk]
    simpa [goesB] using h2


theorem markL_len (id : ByteArray) (n : Nat) (h : id.size ≤ 16) (hn : n ≤ 1099511627776) : (markBytes id n).size ≤ 1000 := by
  show (markL id.data.toList n).length ≤ 1000
  unfold markL frameL textL
  have h0 := dsize id
  have h1 := lebL_len10 (v := id.data.toList.length) (by omega)
  have h2 := lebL_len10 (v := n) (by omega)
  have h3 := lebL_len10 (v := (lebL id.data.toList.length ++ id.data.toList ++ lebL n).length) (by simp only [List.length_append]; omega)
  simp only [List.length_cons, List.length_append, le4, List.length_nil] at *
  omega

/-! ## Filled -/
structure FillInv (s : Bkt × PartsM) (k : Nat) : Prop where
  parted : Parted s.1 k
  marks : ∀ id, look s.2 id = markIn s.1 id
  mnodup : (s.2.map (·.1)).Nodup

theorem FillInv.step {s : Bkt × PartsM} {k : Nat} (h : FillInv s k) (x : OneS) : FillInv (fillStep s x) (k + 1) := by
  have hi := idS_ok x
  have hp : partS x ∈ partsB := partN_mem _
  have hw : 0 ≤ x.when_ % 32 ∧ x.when_ % 32 ≤ 31 := by omega
  have hds : ∀ id, markSays id (dataS x) = if partS x = markB ∧ x.right = true ∧ id = idS x then some (x.when_ % 32) else none := by
    intro id
    unfold dataS
    split
    · rename_i hc
      by_cases e : id = idS x
      · subst e
        rw [if_pos ⟨hc.1, hc.2, rfl⟩, markSays_mark hi (by omega)]
        congr 1
        omega
      · rw [if_neg (fun hx => e hx.2.2)]
        unfold markSays
        have e2 : (markBytes (idS x) (x.when_ % 32).toNat).data.toList = markL (idS x).data.toList (x.when_ % 32).toNat := rfl
        rw [e2, unmark_mark hi (by omega), if_neg]
        rintro ⟨_, h3⟩
        exact e (ba_ext h3.symm)
    · rename_i hc
      rw [markSays_ask, if_neg]
      rintro ⟨h1, h2, _⟩
      exact hc ⟨h1, h2⟩
  have hsz : (dataS x).size ≤ 1000 := by
    unfold dataS
    split
    · have := markL_len (idS x) (x.when_ % 32).toNat (by rw [id_size hi]; omega) (by omega)
      exact this
    · decide
  refine ⟨h.parted.put hi hp _ (by show 0 ≤ x.at_ % 32; omega) (by show x.at_ % 32 ≤ 31; omega) hsz (fun _ t ht => ?_), fun id => ?_, ?_⟩
  · simp only at ht
    rw [hds] at ht
    split at ht
    · injection ht with ht
      omega
    · cases ht
  · show look (marksS s.2 x) id = markIn (put s.1 (objectB (idS x) (partS x)) (dataS x, x.at_ % 32)) id
    rw [markIn_put _ hi hp, hds]
    unfold marksS
    by_cases e1 : partS x = markB
    · rw [if_pos e1]
      by_cases e2 : id = idS x
      · rw [if_pos (show partS x = markB ∧ id = idS x from ⟨e1, e2⟩)]
        by_cases hr : x.right = true
        · rw [if_pos hr, look_put, if_pos e2, if_pos ⟨e1, hr, e2⟩]
        · rw [if_neg hr, look_del _ _ _ h.mnodup, if_pos e2, if_neg (fun hx => hr hx.2.1)]
      · rw [if_neg (fun hx : partS x = markB ∧ id = idS x => e2 hx.2)]
        by_cases hr : x.right = true
        · rw [if_pos hr, look_put, if_neg e2, look_del _ _ _ h.mnodup, if_neg e2, h.marks]
        · rw [if_neg hr, look_del _ _ _ h.mnodup, if_neg e2, h.marks]
    · rw [if_neg e1, if_neg (fun hx : partS x = markB ∧ id = idS x => e1 hx.1), h.marks]
  · show ((marksS s.2 x).map (·.1)).Nodup
    unfold marksS
    split
    · split
      · exact put_nodup (del_nodup h.mnodup _) _ _
      · exact del_nodup h.mnodup _
    · exact h.mnodup

theorem fillInv (L : List OneS) : ∀ k, k ≤ L.length → FillInv (fillS (L.take k)) k
  | 0, _ => ⟨parted_nil 0, fun id => by simp [fillS, markIn, look], by simp [fillS]⟩
  | k + 1, hk => by
    rw [fill_next (by omega)]
    exact (fillInv L k (by omega)).step _
end Go.Proofs.YtbndpegilpgheaaGreat
