/-
  The blocks of a statement on listings, in plain words (package barographlaw10): metas that may be, each once, with sources among each other, and marks.
  No condition beyond those that each theorem states.
-/
import Derived.Test.YthlmlneiehijkaaMade
import Derived.Test.YthlmlneiehijkaaTold9
namespace Go.Proofs.Ythlmlneiehijkaa
open Go Go.RowKit Go.Conc
open Go.Op (bytesLess)

structure OneL where
  m : RawM
  tick : Int
  seq : Int
  mark : Int

def encOneL (o : OneL) : List Value := encRaw o.m ++ [.int .i64 o.tick, .int .i64 o.seq, .int .i64 o.mark]

abbrev BlkS := MetaS × Int

def srcStep (me : ByteArray) (S : List ByteArray) (s : ByteArray) : List ByteArray :=
  if s = me then S else match S.getLast? with
    | none => S ++ [s]
    | some x => if bytesLess x.data.toList s.data.toList = true then S ++ [s] else S

def srcL (me : ByteArray) (ids : List ByteArray) : List ByteArray := ids.foldl (srcStep me) []

def nextM (L : List MetaS) (o : OneL) : MetaS :=
  { madeS o.m o.tick L.length with sources := srcL (madeS o.m o.tick L.length).id ((L.map (·.id)).take o.m.sn) }

def markV (n : Int) : Int := if 0 ≤ n then n % 65536 else -1

def blkStep (T : List BlkS) (o : OneL) : List BlkS := T ++ [(nextM (T.map (·.1)) o, markV o.mark)]

def blkL (O : List OneL) : List BlkS := O.foldl blkStep []

def markStep (M : PartsM) (p : BlkS) : PartsM := if 0 ≤ p.2 then put M p.1.id p.2 else M

def marksOf (T : List BlkS) : PartsM := T.foldl markStep []


/-- Is it told as a source? -/
def takeB (me : ByteArray) (S : List ByteArray) (s : ByteArray) : Bool := !decide (s = me) && (match S.getLast? with | none => true | some x => bytesLess x.data.toList s.data.toList)

theorem srcStep_take (me : ByteArray) (S : List ByteArray) (s : ByteArray) : srcStep me S s = if takeB me S s = true then S ++ [s] else S := by
  unfold srcStep takeB
  by_cases h : s = me
  · simp [h]
  · simp only [h, if_false, decide_false, Bool.not_false, Bool.true_and]
    cases S.getLast? with
    | none => simp
    | some x => simp

theorem srcL_snoc {me : ByteArray} {ids : List ByteArray} {j : Nat} (h : j < ids.length) : srcL me (ids.take (j + 1)) = if takeB me (srcL me (ids.take j)) ids[j] = true then srcL me (ids.take j) ++ [ids[j]] else srcL me (ids.take j) := by
  unfold srcL
  rw [List.take_succ_eq_append_getElem h, List.foldl_append]
  exact srcStep_take _ _ _

theorem takeB_me {me s : ByteArray} (S : List ByteArray) (h : s = me) : takeB me S s = false := by simp [takeB, h]

theorem takeB_nil {me s : ByteArray} (h : ¬ s = me) : takeB me [] s = true := by simp [takeB, h]

theorem takeB_last {me s : ByteArray} (S : List ByteArray) (x : ByteArray) (h : ¬ s = me) : takeB me (S ++ [x]) s = bytesLess x.data.toList s.data.toList := by simp [takeB, h]

theorem blkL_len (O : List OneL) : (blkL O).length = O.length := by
  have : ∀ (O : List OneL) (T : List BlkS), (O.foldl blkStep T).length = T.length + O.length := by
    intro O
    induction O with
    | nil => simp
    | cons o O ih => intro T; rw [List.foldl_cons, ih]; simp [blkStep]; omega
  simpa [blkL] using this O []

theorem blkL_snoc {O : List OneL} {k : Nat} (h : k < O.length) : blkL (O.take (k + 1)) = blkStep (blkL (O.take k)) O[k] := by
  unfold blkL
  rw [List.take_succ_eq_append_getElem h, List.foldl_append]
  rfl

theorem marksOf_snoc (T : List BlkS) (p : BlkS) : marksOf (T ++ [p]) = markStep (marksOf T) p := by simp [marksOf]


/-- What sources are told: they rise, each is among those asked for, none is the block itself. -/
theorem srcL_ok (me : ByteArray) : ∀ (ids : List ByteArray), (∀ s ∈ srcL me ids, s ∈ ids ∧ s ≠ me) ∧ (srcL me ids).Pairwise (fun a b => bytesLess a.data.toList b.data.toList = true) ∧ (srcL me ids).length ≤ ids.length := by
  have key : ∀ (ids S : List ByteArray), S.Pairwise (fun a b => bytesLess a.data.toList b.data.toList = true) →
      (∀ s ∈ ids.foldl (srcStep me) S, s ∈ S ∨ (s ∈ ids ∧ s ≠ me)) ∧ (ids.foldl (srcStep me) S).Pairwise (fun a b => bytesLess a.data.toList b.data.toList = true) ∧ (ids.foldl (srcStep me) S).length ≤ S.length + ids.length := by
    intro ids
    induction ids with
    | nil => intro S hS; exact ⟨fun s hs => .inl hs, hS, by simp⟩
    | cons x ids ih =>
      intro S hS
      have hstep : (srcStep me S x).Pairwise (fun a b => bytesLess a.data.toList b.data.toList = true) ∧ (∀ s ∈ srcStep me S x, s ∈ S ∨ (s = x ∧ s ≠ me)) ∧ (srcStep me S x).length ≤ S.length + 1 := by
        unfold srcStep
        split
        · exact ⟨hS, fun s hs => .inl hs, by omega⟩
        · rename_i hne
          split
          · rename_i hl
            have : S = [] := by simpa using hl
            subst this
            exact ⟨by simp, fun s hs => .inr (by simp at hs; exact ⟨hs, by rw [hs]; exact hne⟩), by simp⟩
          · rename_i y hl
            split
            · rename_i hless
              refine ⟨?_, fun s hs => ?_, by simp⟩
              · rw [List.pairwise_append]
                refine ⟨hS, by simp, fun a ha b hb => ?_⟩
                simp only [List.mem_singleton] at hb
                subst hb
                obtain ⟨ys, rfl⟩ : ∃ ys, S = ys ++ [y] := by
                  obtain ⟨ys, h⟩ := List.getLast?_eq_some_iff.1 hl
                  exact ⟨ys, h⟩
                rw [List.pairwise_append] at hS
                rcases List.mem_append.1 ha with ha | ha
                · exact less_transM (hS.2.2 a ha y (by simp)) hless
                · simp only [List.mem_singleton] at ha
                  subst ha
                  exact hless
              · rcases List.mem_append.1 hs with hs | hs
                · exact .inl hs
                · simp only [List.mem_singleton] at hs
                  exact .inr ⟨hs, by rw [hs]; exact hne⟩
            · exact ⟨hS, fun s hs => .inl hs, by omega⟩
      obtain ⟨h1, h2, h3⟩ := ih _ hstep.1
      rw [List.foldl_cons]
      refine ⟨fun s hs => ?_, h2, by simp only [List.length_cons]; omega⟩
      rcases h1 s hs with h | ⟨h, hn⟩
      · rcases hstep.2.1 s h with h | ⟨h, hn⟩
        · exact .inl h
        · exact .inr ⟨by rw [h]; simp, hn⟩
      · exact .inr ⟨by simp [h], hn⟩
  intro ids
  obtain ⟨h1, h2, h3⟩ := key ids [] (by simp)
  refine ⟨fun s hs => ?_, h2, by simp only [List.length_nil, Nat.zero_add] at h3; exact h3⟩
  rcases h1 s hs with h | h
  · simp at h
  · exact h


/-- What holds of the blocks told so far. -/
structure BlkInv10 (T : List BlkS) : Prop where
  id : ∀ i (h : i < T.length), ∃ t : Nat, t ≤ 1024 ∧ T[i].1.id = identB t i
  ok : ∀ p ∈ T, MetaOk p.1
  few : ∀ p ∈ T, p.1.sources.length ≤ 10
  mark : ∀ p ∈ T, -1 ≤ p.2 ∧ p.2 ≤ 65535

theorem blkInv_step {T : List BlkS} (h : BlkInv10 T) (hl : T.length ≤ 9) (o : OneL) : BlkInv10 (blkStep T o) := by
  have hid : ∀ s ∈ (T.map (·.1)).map (·.id), isIDB s.data.toList = true := fun s hs => by
    simp only [List.map_map, List.mem_map, Function.comp] at hs
    obtain ⟨p, hp, rfl⟩ := hs
    exact (h.ok p hp).id
  have hsrc := srcL_ok (madeS o.m o.tick (T.map (·.1)).length).id (((T.map (·.1)).map (·.id)).take o.m.sn)
  have hlen : (srcL (madeS o.m o.tick (T.map (·.1)).length).id (((T.map (·.1)).map (·.id)).take o.m.sn)).length ≤ 9 := by
    have := hsrc.2.2
    rw [List.length_take] at this
    simp only [List.length_map] at this ⊢
    omega
  have hmk : -1 ≤ markV o.mark ∧ markV o.mark ≤ 65535 := by unfold markV; split <;> omega
  unfold blkStep
  refine ⟨fun i hi => ?_, fun p hp => ?_, fun p hp => ?_, fun p hp => ?_⟩
  · by_cases e : i < T.length
    · rw [List.getElem_append_left e]
      exact h.id i e
    · have e1 : i = T.length := by simp at hi; omega
      subst e1
      rw [List.getElem_append_right (Nat.le_refl _)]
      simp only [Nat.sub_self, List.getElem_cons_zero]
      refine ⟨1 + (o.tick % 1024).toNat, by omega, ?_⟩
      simp only [nextM, madeS, List.length_map]
      congr 1
      omega
  · rcases List.mem_append.1 hp with hp | hp
    · exact h.ok p hp
    · simp only [List.mem_singleton] at hp
      subst hp
      exact made_ok o.m o.tick _ _ (fun s hs => ⟨hid s (List.mem_of_mem_take (hsrc.1 s hs).1), (hsrc.1 s hs).2⟩) hsrc.2.1 (by omega)
  · rcases List.mem_append.1 hp with hp | hp
    · exact h.few p hp
    · simp only [List.mem_singleton] at hp
      subst hp
      show (srcL _ _).length ≤ 10
      omega
  · rcases List.mem_append.1 hp with hp | hp
    · exact h.mark p hp
    · simp only [List.mem_singleton] at hp
      subst hp
      exact hmk

theorem blkInv (O : List OneL) (hO : O.length ≤ 10) : BlkInv10 (blkL O) := by
  have key : ∀ k, k ≤ O.length → BlkInv10 (blkL (O.take k)) := by
    intro k
    induction k with
    | zero => intro _; exact ⟨fun i hi => by simp [blkL] at hi, by simp [blkL], by simp [blkL], by simp [blkL]⟩
    | succ k ih =>
      intro hk
      rw [blkL_snoc (by omega)]
      exact blkInv_step (ih (by omega)) (by rw [blkL_len, List.length_take]; omega) _
  have := key O.length (Nat.le_refl _)
  rwa [List.take_length] at this

theorem BlkInv10.nodup {T : List BlkS} (h : BlkInv10 T) (hl : T.length ≤ 1000) : (T.map (fun p => p.1.id)).Nodup := by
  rw [List.Nodup, List.pairwise_iff_getElem]
  intro i j hi hj hij e
  simp only [List.length_map] at hi hj
  simp only [List.getElem_map] at e
  obtain ⟨t, ht, e1⟩ := h.id i hi
  obtain ⟨t', ht', e2⟩ := h.id j hj
  rw [e1, e2] at e
  have := (identB_inj (by omega) (by omega) (by omega) (by omega) e).2
  omega
end Go.Proofs.Ythlmlneiehijkaa
