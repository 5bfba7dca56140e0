/-
  The blocks of a statement on listings, in plain words (package barographlaw10): metas that may be, each once, with sources among each other, and marks.
  No condition beyond those that each theorem states.

  The document's blocks by rising names (package barographref10): Sorted.
  The blocks are few.
-/
import Derived.Test.YtjffdcflkkgpfaaGreatMade
import Derived.Test.YtjffdcflkkgpfaaGreatTold9
namespace Go.Proofs.YtjffdcflkkgpfaaGreat
open Go Go.RowKit Go.Conc
open Go.Op (bytesLess)

structure OneL where
  m : RawM
  tick : Int
  seq : Int
  mark : Int

def encOneL (o : OneL) : List Value := encRaw o.m ++ [.int .i64 o.tick, .int .i64 o.seq, .int .i64 o.mark]

abbrev BlkS := MetaS × Int

def srcStep (me : ByteArray) (S : List ByteArray) (s : ByteArray) : List ByteArray :=
  if s = me then S else match S.getLast? with
    | none => S ++ [s]
    | some x => if bytesLess x.data.toList s.data.toList = true then S ++ [s] else S

def srcL (me : ByteArray) (ids : List ByteArray) : List ByteArray := ids.foldl (srcStep me) []

def nextM (L : List MetaS) (o : OneL) : MetaS :=
  { madeS o.m o.tick L.length with sources := srcL (madeS o.m o.tick L.length).id ((L.map (·.id)).take o.m.sn) }

def markV (n : Int) : Int := if 0 ≤ n then n % 65536 else -1

def blkStep (T : List BlkS) (o : OneL) : List BlkS := T ++ [(nextM (T.map (·.1)) o, markV o.mark)]

def blkL (O : List OneL) : List BlkS := O.foldl blkStep []

def markStep (M : PartsM) (p : BlkS) : PartsM := if 0 ≤ p.2 then put M p.1.id p.2 else M

def marksOf (T : List BlkS) : PartsM := T.foldl markStep []


/-- Is it told as a source? -/
def takeB (me : ByteArray) (S : List ByteArray) (s : ByteArray) : Bool := !decide (s = me) && (match S.getLast? with | none => true | some x => bytesLess x.data.toList s.data.toList)

theorem srcStep_take (me : ByteArray) (S : List ByteArray) (s : ByteArray) : srcStep me S s = if takeB me S s = true then S ++ [s] else S := by
  unfold srcStep takeB
  by_cases h : s = me
  · simp [h]
  · simp only [h, if_false, decide_false, Bool.not_false, Bool.true_and]
    cases S.getLast? with
    | none => simp
    | some x => simp

theorem srcL_snoc {me : ByteArray} {ids : List ByteArray} {j : Nat} (h : j < ids.length) : srcL me (ids.take (j + 1)) = if takeB me (srcL me (ids.take j)) ids[j] = true then srcL me (ids.take j) ++ [ids[j]] else srcL me (ids.take j) := by
  unfold srcL
  rw [List.take_succ_eq_append_getElem h, List.foldl_append]
  exact srcStep_take _ _ _

theorem takeB_me {me s : ByteArray} (S : List ByteArray) (h : s = me) : takeB me S s = false := by simp [takeB, h]

theorem takeB_nil {me s : ByteArray} (h : ¬ s = me) : takeB me [] s = true := by simp [takeB, h]

theorem takeB_last {me s : ByteArray} (S : List ByteArray) (x : ByteArray) (h : ¬ s = me) : takeB me (S ++ [x]) s = bytesLess x.data.toList s.data.toList := by simp [takeB, h]

theorem blkL_len (O : List OneL) : (blkL O).length = O.length := by
  have : ∀ (O : List OneL) (T : List BlkS), (O.foldl blkStep T).length = T.length + O.length := by
    intro O
    induction O with
    | nil => simp
    | cons o O ih => intro T; rw [List.foldl_cons, ih]; simp [blkStep]; omega
  simpa [blkL] using this O []

theorem blkL_snoc {O : List OneL} {k : Nat} (h : k < O.length) : blkL (O.take (k + 1)) = blkStep (blkL (O.take k)) O[k] := by
  unfold blkL
  rw [List.take_succ_eq_append_getElem h, List.foldl_append]
  rfl

theorem marksOf_snoc (T : List BlkS) (p : BlkS) : marksOf (T ++ [p]) = markStep (marksOf T) p := by simp [marksOf]


/-- What sources are told: they rise, each is among those asked for, none is the block itself. -/
theorem srcL_ok (me : ByteArray) : ∀ (ids : List ByteArray), (∀ s ∈ srcL me ids, s ∈ ids ∧ s ≠ me) ∧ (srcL me ids).Pairwise (fun a b => bytesLess a.data.toList b.data.toList = true) ∧ (srcL me ids).length ≤ ids.length := by
  have key : ∀ (ids S : List ByteArray), S.Pairwise (fun a b => bytesLess a.data.toList b.data.toList = true) →
      (∀ s ∈ ids.foldl (srcStep me) S, s ∈ S ∨ (s ∈ ids ∧ s ≠ me)) ∧ (ids.foldl (srcStep me) S).Pairwise (fun a b => bytesLess a.data.toList b.data.toList = true) ∧ (ids.foldl (srcStep me) S).length ≤ S.length + ids.length := by
    intro ids
    induction ids with
    | nil => intro S hS; exact ⟨fun s hs => .inl hs, hS, by simp⟩
    | cons x ids ih =>
      intro S hS
      have hstep : (srcStep me S x).Pairwise (fun a b => bytesLess a.data.toList b.data.toList = true) ∧ (∀ s ∈ srcStep me S x, s ∈ S ∨ (s = x ∧ s ≠ me)) ∧ (srcStep me S x).length ≤ S.length + 1 := by
        unfold srcStep
        split
        · exact ⟨hS, fun s hs => .inl hs, by omega⟩
        · rename_i hne
          split
          · rename_i hl
            have : S = [] := by simpa using hl
            subst this
            exact ⟨by simp, fun s hs => .inr (by simp at hs; exact ⟨hs, by rw [hs]; exact hne⟩), by simp⟩
          · rename_i y hl
            split
            · rename_i hless
              refine ⟨?_, fun s hs => ?_, by simp⟩
              · rw [List.pairwise_append]
                refine ⟨hS, by simp, fun a ha b hb => ?_⟩
                simp only [List.mem_singleton] at hb
                subst hb
                obtain ⟨ys, rfl⟩ : ∃ ys, S = ys ++ [y] := by
                  obtain ⟨ys, h⟩ := List.getLast?_eq_some_iff.1 hl
                  exact ⟨ys, h⟩
                rw [List.pairwise_append] at hS
                rcases List.mem_append.1 ha with ha | ha
                · exact less_transM (hS.2.2 a ha y (by simp)) hless
                · simp only [List.mem_singleton] at ha
                  subst ha
                  exact hless
              · rcases List.mem_append.1 hs with hs | hs
                · exact .inl hs
                · simp only [List.mem_singleton] at hs
                  exact .inr ⟨hs, by rw [hs]; exact hne⟩
            · exact ⟨hS, fun s hs => .inl hs, by omega⟩
      obtain ⟨h1, h2, h3⟩ := ih _ hstep.1
      rw [List.foldl_cons]
      refine ⟨fun s hs => ?_, h2, by simp only [List.length_cons]; omega⟩
      rcases h1 s hs with h | ⟨h, hn⟩
      · rcases hstep.2.1 s h with h | ⟨h, hn⟩
        · exact .inl h
        · exact .inr ⟨by rw [h]; simp, hn⟩
      · exact .inr ⟨by simp [h], hn⟩
  intro ids
  obtain ⟨h1, h2, h3⟩ := key ids [] (by simp)
  refine ⟨fun s hs => ?_, h2, by simp only [List.length_nil, Nat.zero_add] at h3; exact h3⟩
  rcases h1 s hs with h | h
  · simp at h
  · exact h


/-- What holds of the blocks told so far. -/
structure BlkInv10 (T : List BlkS) : Prop where
  id : ∀ i (h : i < T.length), ∃ t : Nat, t ≤ 1024 ∧ T[i].1.id = identB t i
  ok : ∀ p ∈ T, MetaOk p.1
  few : ∀ p ∈ T, p.1.sources.length ≤ 10
  mark : ∀ p ∈ T, -1 ≤ p.2 ∧ p.2 ≤ 65535

theorem blkInv_step {T : List BlkS} (h : BlkInv10 T) (hl : T.length ≤ 9) (o : OneL) : BlkInv10 (blkStep T o) := by
  have hid : ∀ s ∈ (T.map (·.1)).map (·.id), isIDB s.data.toList = true := fun s hs => by
    simp only [List.map_map, List.mem_map, Function.comp] at hs
    obtain ⟨p, hp, rfl⟩ := hs
    exact (h.ok p hp).id
  have hsrc := srcL_ok (madeS o.m o.tick (T.map (·.1)).length).id (((T.map (·.1)).map (·.id)).take o.m.sn)
  have hlen : (srcL (madeS o.m o.tick (T.map (·.1)).length).id (((T.map (·.1)).map (·.id)).take o.m.sn)).length ≤ 9 := by
    have := hsrc.2.2
    rw [List.length_take] at this
    simp only [List.length_map] at this ⊢
    omega
  have hmk : -1 ≤ markV o.mark ∧ markV o.mark ≤ 65535 := by unfold markV; split <;> omega
  unfold blkStep
  refine ⟨fun i hi => ?_, fun p hp => ?_, fun p hp => ?_, fun p hp => ?_⟩
  · by_cases e : i < T.length
    · rw [List.getElem_append_left e]
      exact h.id i e
    · have e1 : i = T.length := by simp at hi; omega
      subst e1
      rw [List.getElem_append_right (Nat.le_refl _)]
      simp only [Nat.sub_self, List.getElem_cons_zero]
      refine ⟨1 + (o.tick % 1024).toNat, by omega, ?_⟩
      simp only [nextM, madeS, List.length_map]
      congr 1
      omega
  · rcases List.mem_append.1 hp with hp | hp
    · exact h.ok p hp
    · simp only [List.mem_singleton] at hp
      subst hp
      exact made_ok o.m o.tick _ _ (fun s hs => ⟨hid s (List.mem_of_mem_take (hsrc.1 s hs).1), (hsrc.1 s hs).2⟩) hsrc.2.1 (by omega)
  · rcases List.mem_append.1 hp with hp | hp
    · exact h.few p hp
    · simp only [List.mem_singleton] at hp
      subst hp
      show (srcL _ _).length ≤ 10
      omega
  · rcases List.mem_append.1 hp with hp | hp
    · exact h.mark p hp
    · simp only [List.mem_singleton] at hp
      subst hp
      exact hmk

theorem blkInv (O : List OneL) (hO : O.length ≤ 10) : BlkInv10 (blkL O) := by
  have key : ∀ k, k ≤ O.length → BlkInv10 (blkL (O.take k)) := by
    intro k
    induction k with
    | zero => intro _; exact ⟨fun i hi => by simp [blkL] at hi, by simp [blkL], by simp [blkL], by simp [blkL]⟩
    | succ k ih =>
      intro hk
      rw [blkL_snoc (by omega)]
      exact blkInv_step (ih (by omega)) (by rw [blkL_len, List.length_take]; omega) _
  have := key O.length (Nat.le_refl _)
  rwa [List.take_length] at this

theorem BlkInv10.nodup {T : List BlkS} (h : BlkInv10 T) (hl : T.length ≤ 1000) : (T.map (fun p => p.1.id)).Nodup := by
  rw [List.Nodup, List.pairwise_iff_getElem]
  intro i j hi hj hij e
  simp only [List.length_map] at hi hj
  simp only [List.getElem_map] at e
  obtain ⟨t, ht, e1⟩ := h.id i hi
  obtain ⟨t', ht', e2⟩ := h.id j hj
  rw [e1, e2] at e
  have := (identB_inj (by omega) (by omega) (by omega) (by omega) e).2
  omega
end Go.Proofs.YtjffdcflkkgpfaaGreat

namespace Go.Proofs.YtjffdcflkkgpfaaGreat
open Go Go.RowKit Go.Conc
open Go.Op (bytesLess)

/-- Into blocks that rise. -/
def insT (b : BlkS) : List BlkS → List BlkS
  | [] => [b]
  | c :: r => if bytesLess b.1.id.data.toList c.1.id.data.toList = true then b :: c :: r else c :: insT b r

def sortT (T : List BlkS) : List BlkS := T.foldl (fun out b => insT b out) []

theorem insT_perm (b : BlkS) : ∀ L, (insT b L).Perm (b :: L)
  | [] => List.Perm.refl _
  | c :: r => by
    unfold insT
    split
    · exact List.Perm.refl _
    · exact ((insT_perm b r).cons c).trans (List.Perm.swap b c r)

theorem insT_rise {b : BlkS} : ∀ {L : List BlkS}, L.Pairwise (fun x y => bytesLess x.1.id.data.toList y.1.id.data.toList = true) → (∀ c ∈ L, c.1.id ≠ b.1.id) → (insT b L).Pairwise (fun x y => bytesLess x.1.id.data.toList y.1.id.data.toList = true)
  | [], _, _ => by simp [insT]
  | c :: r, h, hn => by
    unfold insT
    rw [List.pairwise_cons] at h
    split
    · rename_i hl
      rw [List.pairwise_cons]
      refine ⟨fun x hx => ?_, List.pairwise_cons.2 h⟩
      rcases List.mem_cons.1 hx with rfl | hx
      · exact hl
      · exact less_transM hl (h.1 x hx)
    · rename_i hl
      have hcb : bytesLess c.1.id.data.toList b.1.id.data.toList = true := by
        cases h3 : bytesLess c.1.id.data.toList b.1.id.data.toList with
        | true => rfl
        | false => exact absurd (ba_ext (less_tri h3 (by simpa using hl))) (hn c (by simp))
      rw [List.pairwise_cons]
      refine ⟨fun x hx => ?_, insT_rise h.2 fun x hx => hn x (by simp [hx])⟩
      rcases List.mem_cons.1 ((insT_perm b r).subset hx) with rfl | hx
      · exact hcb
      · exact h.1 x hx

theorem sortT_ok : ∀ {T : List BlkS}, (T.map (fun p => p.1.id)).Nodup → (sortT T).Perm T ∧ (sortT T).Pairwise (fun x y => bytesLess x.1.id.data.toList y.1.id.data.toList = true) := by
  have key : ∀ (T out : List BlkS), ((out ++ T).map (fun p : BlkS => p.1.id)).Nodup → out.Pairwise (fun x y => bytesLess x.1.id.data.toList y.1.id.data.toList = true) →
      (T.foldl (fun out b => insT b out) out).Perm (out ++ T) ∧ (T.foldl (fun out b => insT b out) out).Pairwise (fun x y => bytesLess x.1.id.data.toList y.1.id.data.toList = true) := by
    intro T
    induction T with
    | nil => intro out _ h; exact ⟨by simp, h⟩
    | cons b T ih =>
      intro out hn hr
      have hp := insT_perm b out
      have hp2 : (insT b out ++ T).Perm (out ++ b :: T) := (hp.append_right T).trans (by simpa using (List.perm_middle (l₁ := out) (a := b) (l₂ := T)).symm)
      have hnb : ∀ c ∈ out, c.1.id ≠ b.1.id := fun c hc e => by
        rw [List.map_append, List.nodup_append] at hn
        exact hn.2.2 c.1.id (List.mem_map.2 ⟨c, hc, rfl⟩) b.1.id (by simp) e
      obtain ⟨h1, h2⟩ := ih (insT b out) ((hp2.map _).nodup_iff.2 hn) (insT_rise hr hnb)
      exact ⟨h1.trans hp2, h2⟩
  intro T hn
  have h := key T [] (by simpa using hn) (by simp)
  rw [List.nil_append] at h
  exact h

/-- A row of blocks of the document's. -/
def BlkV (B : Nat) (w : World) (ts : List Value) (p : BlkS) : Prop := ∃ vs, ts = vs ++ [.int .i64 p.2] ∧ MetaV B w vs p.1

def BlksV (B : Nat) (w : World) (v : Value) (T : List BlkS) : Prop :=
  ∃ VS : List (List Value), SliceFrom B 9 id w v VS ∧ VS.length = T.length ∧ ∀ i (h : i < VS.length) (h' : i < T.length), BlkV B w VS[i] T[i]

theorem BlkV.same {B : Nat} {w w' : World} {ts : List Value} {p : BlkS} (h : BlkV B w ts p) (k : Keeps [] w w') : BlkV B w' ts p := by
  obtain ⟨vs, e, h⟩ := h
  exact ⟨vs, e, h.same k⟩

theorem BlksV.same {B : Nat} {w w' : World} {v : Value} {T : List BlkS} (h : BlksV B w v T) (k : Keeps [] w w') : BlksV B w' v T := by
  obtain ⟨VS, h1, h2, h3⟩ := h
  exact ⟨VS, kp k h1, h2, fun i hi hi' => (h3 i hi hi').same k⟩

instance mvBlks {w w' : World} (B : Nat) (v : Value) (T : List BlkS) : Mv w w' (BlksV B w v T) (BlksV B w' v T) := ⟨fun k h => h.same k⟩

instance mvMetas {w w' : World} (B : Nat) (v : Value) (L : List MetaS) : Mv w w' (MetasV B w v L) (MetasV B w' v L) := ⟨fun k h => h.same k⟩
--WALK
abbrev BlkC := MetaC × Int

def enc9 (c : BlkC) : List Value := encMC c.1 ++ [.int .i64 c.2]

def ofC (c : BlkC) : BlkS := (c.1.1, c.2)

def lessC (b c : BlkC) : Bool := bytesLess b.1.1.id.data.toList c.1.1.id.data.toList

def insC (b : BlkC) : List BlkC → List BlkC
  | [] => [b]
  | c :: r => if lessC b c = true then b :: c :: r else c :: insC b r

theorem insC_of (b : BlkC) : ∀ L, (insC b L).map ofC = insT (ofC b) (L.map ofC)
  | [] => rfl
  | c :: r => by
    have ih := insC_of b r
    have e : lessC b c = bytesLess (ofC b).1.id.data.toList (ofC c).1.id.data.toList := rfl
    simp only [insC, List.map_cons, insT, e]
    split
    · rfl
    · simp only [List.map_cons, ih]

theorem insC_len (b : BlkC) : ∀ L, (insC b L).length = L.length + 1
  | [] => rfl
  | c :: r => by
    have ih := insC_len b r
    unfold insC
    split
    · rfl
    · simp [ih]

theorem mem_insC {b x : BlkC} : ∀ {L}, x ∈ insC b L → x = b ∨ x ∈ L
  | [], h => by simp [insC] at h; exact .inl h
  | c :: r, h => by
    unfold insC at h
    split at h
    · rcases List.mem_cons.1 h with h | h
      · exact .inl h
      · exact .inr h
    · rcases List.mem_cons.1 h with h | h
      · exact .inr (by simp [h])
      · rcases mem_insC h with h | h
        · exact .inl h
        · exact .inr (by simp [h])

def sortC (C : List BlkC) : List BlkC := C.foldl (fun out b => insC b out) []

theorem sortC_of (C : List BlkC) : (sortC C).map ofC = sortT (C.map ofC) := by
  have : ∀ (C out : List BlkC), (C.foldl (fun out b => insC b out) out).map ofC = (C.map ofC).foldl (fun out b => insT b out) (out.map ofC) := by
    intro C
    induction C with
    | nil => intro out; rfl
    | cons b C ih => intro out; rw [List.foldl_cons, ih, List.map_cons, List.foldl_cons, insC_of]
  exact this C []

theorem sortC_mem {C : List BlkC} {x : BlkC} (h : x ∈ sortC C) : x ∈ C := by
  have : ∀ (C out : List BlkC), x ∈ C.foldl (fun out b => insC b out) out → x ∈ C ∨ x ∈ out := by
    intro C
    induction C with
    | nil => intro out h; exact .inr h
    | cons b C ih =>
      intro out h
      rw [List.foldl_cons] at h
      rcases ih _ h with h | h
      · exact .inl (by simp [h])
      · rcases mem_insC h with h | h
        · exact .inl (by simp [h])
        · exact .inr h
  rcases this C [] h with h | h
  · exact h
  · simp at h

theorem sortC_len (C : List BlkC) : (sortC C).length = C.length := by
  have : ∀ (C out : List BlkC), (C.foldl (fun out b => insC b out) out).length = out.length + C.length := by
    intro C
    induction C with
    | nil => intro out; rfl
    | cons b C ih => intro out; rw [List.foldl_cons, ih, insC_len]; simp; omega
  have h := this C []
  simp only [List.length_nil, Nat.zero_add] at h
  exact h

theorem sortC_snoc {C : List BlkC} {k : Nat} (h : k < C.length) : sortC (C.take (k + 1)) = insC C[k] (sortC (C.take k)) := by
  unfold sortC
  rw [List.take_succ_eq_append_getElem h, List.foldl_append]
  rfl

/-- One round of the inner loop: whether b is in, what there is so far. -/
def stepN (b : BlkC) (st : Bool × List BlkC) (c : BlkC) : Bool × List BlkC :=
  if st.1 = false ∧ lessC b c = true then (true, st.2 ++ [b] ++ [c]) else (st.1, st.2 ++ [c])

def runN (b : BlkC) (L : List BlkC) : Bool × List BlkC := L.foldl (stepN b) (false, [])

theorem runN_snoc {b : BlkC} {L : List BlkC} {k : Nat} (h : k < L.length) : runN b (L.take (k + 1)) = stepN b (runN b (L.take k)) L[k] := by
  unfold runN
  rw [List.take_succ_eq_append_getElem h, List.foldl_append]
  rfl

theorem runN_len (b : BlkC) : ∀ L, (runN b L).2.length ≤ 2 * L.length := by
  have : ∀ (L : List BlkC) (st : Bool × List BlkC), (L.foldl (stepN b) st).2.length ≤ st.2.length + 2 * L.length := by
    intro L
    induction L with
    | nil => intro st; simp
    | cons c L ih =>
      intro st
      rw [List.foldl_cons]
      have := ih (stepN b st c)
      have h2 : (stepN b st c).2.length ≤ st.2.length + 2 := by unfold stepN; split <;> simp
      simp only [List.length_cons]
      omega
  intro L
  simpa [runN] using this L (false, [])

theorem runN_done (b : BlkC) (L : List BlkC) : ((runN b L).1 = true → (runN b L).2 = insC b L) ∧ ((runN b L).1 = false → (runN b L).2 ++ [b] = insC b L) := by
  have k1 : ∀ (L acc : List BlkC), L.foldl (stepN b) (true, acc) = (true, acc ++ L) := by
    intro L
    induction L with
    | nil => intro acc; simp
    | cons c L ih => intro acc; rw [List.foldl_cons]; simp [stepN, ih]
  have k2 : ∀ (L acc : List BlkC), ((L.foldl (stepN b) (false, acc)).1 = true → (L.foldl (stepN b) (false, acc)).2 = acc ++ insC b L) ∧ ((L.foldl (stepN b) (false, acc)).1 = false → (L.foldl (stepN b) (false, acc)).2 ++ [b] = acc ++ insC b L) := by
    intro L
    induction L with
    | nil => intro acc; simp [insC]
    | cons c L ih =>
      intro acc
      rw [List.foldl_cons]
      cases hl : lessC b c with
      | true => simp [stepN, hl, k1, insC]
      | false =>
        have h := ih (acc ++ [c])
        have e : stepN b (false, acc) c = (false, acc ++ [c]) := by simp [stepN, hl]
        rw [e]
        simpa [insC, hl] using h
  simpa [runN] using k2 L []

theorem enc9_len (c : BlkC) : (enc9 c).length = 9 := rfl

theorem blks_reps {B : Nat} {w : World} : ∀ (VS : List (List Value)) (T : List BlkS), VS.length = T.length → (∀ i (h : i < VS.length) (h' : i < T.length), BlkV B w VS[i] T[i]) → ∃ C : List BlkC, C.map ofC = T ∧ C.map enc9 = VS ∧ ∀ c ∈ C, MetaV B w (encMC c.1) c.1.1
  | [], [], _, _ => ⟨[], rfl, rfl, by simp⟩
  | [], _ :: _, h, _ => by simp at h
  | _ :: _, [], h, _ => by simp at h
  | vs :: VS, p :: T, hl, h => by
    obtain ⟨C, h1, h2, h3⟩ := blks_reps VS T (by simpa using hl) (fun i hi hi' => by
      have := h (i + 1) (by simp only [List.length_cons]; omega) (by simp only [List.length_cons]; omega)
      simpa using this)
    have h0 := h 0 (by simp) (by simp)
    simp only [List.getElem_cons_zero] at h0
    obtain ⟨xs, rfl, hm⟩ := h0
    have hm' := hm
    obtain ⟨vf, vo, e, hf, ho⟩ := hm
    obtain ⟨af, cf, rfl, -, -, -, -⟩ := hf
    obtain ⟨ao, co, rfl, -, -, -, -⟩ := ho
    obtain ⟨m, n⟩ := p
    refine ⟨((m, (af, m.files.length, cf), (ao, m.sources.length, co)), n) :: C, by simp [h1, ofC], by simp [h2, e, enc9, encMC], fun c hc => ?_⟩
    rcases List.mem_cons.1 hc with rfl | hc
    · rw [e] at hm'
      exact hm'
    · exact h3 c hc

theorem BlksV.reps {B : Nat} {w : World} {v : Value} {T : List BlkS} (h : BlksV B w v T) : ∃ C : List BlkC, C.map ofC = T ∧ SliceFrom B 9 enc9 w v C ∧ ∀ c ∈ C, MetaV B w (encMC c.1) c.1.1 := by
  obtain ⟨VS, h1, h2, h3⟩ := h
  obtain ⟨C, d1, d2, d3⟩ := blks_reps VS T h2 h3
  subst d2
  exact ⟨C, d1, h1.of_map (enc := id), d3⟩

theorem blksV_of {B : Nat} {w : World} {v : Value} {C : List BlkC} (h : SliceFrom B 9 enc9 w v C) (hm : ∀ c ∈ C, MetaV B w (encMC c.1) c.1.1) : BlksV B w v (C.map ofC) := by
  refine ⟨C.map enc9, SliceFrom.to_map (enc := id) h, by simp, fun i hi hi' => ?_⟩
  simp only [List.getElem_map]
  exact ⟨_, rfl, hm _ (List.getElem_mem _)⟩

/-- A slice made of nothing. -/
theorem ownsRow_made (w : World) (base : Nat) (e : TypeId) (size : Nat) (h : base ≤ w.heap.size) : (w.alloc (.cells #[] e)).ownsRow base e size (.slice (some ⟨w.heap.size, 0, none⟩) 0 0) 0 [] :=
  ⟨by simp, .inr ⟨w.heap.size, 0, #[], rfl, h, heap_new w _, Nat.le_refl _, by simp [maxLen], by simp, by simp⟩⟩

theorem infoBlk : (Tryz.prog.info? 68).map (fun i => (i.zero, i.size, i.bytes)) = some (some (.agg #[.string ⟨#[]⟩, .int .i64 0, .int .i64 0, .int .i64 0, .int .i64 0, .int .i64 0, .slice none 0 0, .slice none 0 0, .int .i64 0]), 9, 112) := by kernel_rfl

def SortRel (w : World) (C : List BlkC) (gk : Nat) (u3 u13 : Value) (wr : World) : Prop :=
  ∃ (k : Nat), k ≤ C.length ∧ gk = C.length - k ∧ u13 = .int .i64 k ∧ wr.ownsRow w.heap.size 68 9 u3 (sortC (C.take k)).length ((sortC (C.take k)).flatMap enc9) ∧ Keeps [] w wr

def SortRel2 (W1 : World) (nb : Nat) (b : BlkC) (L : List BlkC) (gk : Nat) (u6 u7 u20 : Value) (wr : World) : Prop :=
  ∃ (j : Nat), j ≤ L.length ∧ gk = L.length - j ∧ u20 = .int .i64 j ∧ u7 = .bool (runN b (L.take j)).1 ∧ wr.ownsRow nb 68 9 u6 (runN b (L.take j)).2.length ((runN b (L.take j)).2.flatMap enc9) ∧ Keeps [] W1 wr

set_option linter.unusedSimpArgs false in
set_option maxRecDepth 100000 in
set_option maxHeartbeats 4000000 in
theorem sortedR_spec (B : Nat) (w : World) (v : Value) (T : List BlkS) (hT : BlksV B w v T) (hl : T.length ≤ 20) (hB : B ≤ w.heap.size) :
    Calls Tryz.prog 52 #[v] w fun e w' => ∃ v', e = .returned v' ∧ BlksV B w' v' (sortT T) ∧ Keeps [] w w' := by
  obtain ⟨C, hC, hs, hm⟩ := hT.reps
  rw [← hC, ← sortC_of]
  have hCl : C.length ≤ 20 := by rw [← hC, List.length_map] at hl; exact hl
  have Hs := Lib.hid (And.intro hs hm)
  obtain ⟨av, cv, rfl, -, -, -, -⟩ := hs
  obtain ⟨ib, hib, hzb0, hzb1, hzb2⟩ := info_parts infoBlk
  have r0 := ownsRow_made w w.heap.size 68 9 (Nat.le_refl _)
  have k0 : Keeps [] w (w.alloc (.cells #[] 68)) := (Keeps.refl [] w).alloc _
  have H0 := Lib.hid (And.intro r0 k0)
  clear hT hl hC hm r0 k0
  go_enter Tryz.func52, Tryz.ntmps52
  go_wp2_with fail
  go_loopg [3, 13] C.length (SortRel w C)
  case atStart => exact ⟨0, Nat.zero_le _, rfl, rfl, H0.out.1, H0.out.2⟩
  case round =>
    obtain ⟨k, hk, hgk, rfl, hrow, hkw⟩ := hrel
    have Hg := Lib.hid hgk
    obtain ⟨ao, co, rfl, hoc, hom, -⟩ := row_slice hrow
    have hol : (sortC (C.take k)).length ≤ 20 := by rw [sortC_len, List.length_take]; omega
    by_cases hlt : k < C.length
    · obtain ⟨b6, of6, ea, -, hb6, hc6⟩ := (Hs.out.1.keep hkw (by simp)).atI k hlt
      subst ea
      have hnx := sortC_snoc hlt
      obtain ⟨b, hbe⟩ : ∃ b, b = C[k] := ⟨_, rfl⟩
      rw [← hbe] at hc6 hnx
      have Hnx := Lib.hid hnx
      have d0 : wr.cell? ⟨b6, of6 + k * 9, none⟩ = some (.string b.1.1.id) := hc6 0 (by decide)
      have d1 : wr.cell? ⟨b6, of6 + k * 9 + 1, none⟩ = some (.int .i64 b.1.1.mn) := hc6 1 (by decide)
      have d2 : wr.cell? ⟨b6, of6 + k * 9 + 2, none⟩ = some (.int .i64 b.1.1.mx) := hc6 2 (by decide)
      have d3 : wr.cell? ⟨b6, of6 + k * 9 + 3, none⟩ = some (.int .i64 b.1.1.level) := hc6 3 (by decide)
      have d4 : wr.cell? ⟨b6, of6 + k * 9 + 4, none⟩ = some (.int .i64 b.1.1.series) := hc6 4 (by decide)
      have d5 : wr.cell? ⟨b6, of6 + k * 9 + 5, none⟩ = some (.int .i64 b.1.1.samples) := hc6 5 (by decide)
      have d6 : wr.cell? ⟨b6, of6 + k * 9 + 6, none⟩ = some (.slice b.1.2.1.1 b.1.2.1.2.1 b.1.2.1.2.2) := hc6 6 (by decide)
      have d7 : wr.cell? ⟨b6, of6 + k * 9 + 7, none⟩ = some (.slice b.1.2.2.1 b.1.2.2.2.1 b.1.2.2.2.2) := hc6 7 (by decide)
      have d8 : wr.cell? ⟨b6, of6 + k * 9 + 8, none⟩ = some (.int .i64 b.2) := hc6 8 (by decide)
      have hlt' : (k : Int) < (C.length : Int) := by omega
      generalize hL : sortC (C.take k) = L at hrow hol Hnx ⊢
      clear hL
      have ka : Keeps [] wr (wr.alloc (.cells #[.string b.1.1.id, .int .i64 b.1.1.mn, .int .i64 b.1.1.mx, .int .i64 b.1.1.level, .int .i64 b.1.1.series, .int .i64 b.1.1.samples, .slice b.1.2.1.1 b.1.2.1.2.1 b.1.2.1.2.2, .slice b.1.2.2.1 b.1.2.2.2.1 b.1.2.2.2.2, .int .i64 b.2] 68)) := (Keeps.refl [] wr).alloc _
      have na := heap_new wr (.cells #[.string b.1.1.id, .int .i64 b.1.1.mn, .int .i64 b.1.1.mx, .int .i64 b.1.1.level, .int .i64 b.1.1.series, .int .i64 b.1.1.samples, .slice b.1.2.1.1 b.1.2.1.2.1 b.1.2.1.2.2, .slice b.1.2.2.1 b.1.2.2.2.1 b.1.2.2.2.2, .int .i64 b.2] 68)
      have kb : Keeps [] (wr.alloc (.cells #[.string b.1.1.id, .int .i64 b.1.1.mn, .int .i64 b.1.1.mx, .int .i64 b.1.1.level, .int .i64 b.1.1.series, .int .i64 b.1.1.samples, .slice b.1.2.1.1 b.1.2.1.2.1 b.1.2.1.2.2, .slice b.1.2.2.1 b.1.2.2.2.1 b.1.2.2.2.2, .int .i64 b.2] 68)) ((wr.alloc (.cells #[.string b.1.1.id, .int .i64 b.1.1.mn, .int .i64 b.1.1.mx, .int .i64 b.1.1.level, .int .i64 b.1.1.series, .int .i64 b.1.1.samples, .slice b.1.2.1.1 b.1.2.1.2.1 b.1.2.1.2.2, .slice b.1.2.2.1 b.1.2.2.2.1 b.1.2.2.2.2, .int .i64 b.2] 68)).alloc (.cells #[] 68)) := (Keeps.refl [] _).alloc _
      have rb := ownsRow_made (wr.alloc (.cells #[.string b.1.1.id, .int .i64 b.1.1.mn, .int .i64 b.1.1.mx, .int .i64 b.1.1.level, .int .i64 b.1.1.series, .int .i64 b.1.1.samples, .slice b.1.2.1.1 b.1.2.1.2.1 b.1.2.1.2.2, .slice b.1.2.2.1 b.1.2.2.2.1 b.1.2.2.2.2, .int .i64 b.2] 68)) (wr.alloc (.cells #[.string b.1.1.id, .int .i64 b.1.1.mn, .int .i64 b.1.1.mx, .int .i64 b.1.1.level, .int .i64 b.1.1.series, .int .i64 b.1.1.samples, .slice b.1.2.1.1 b.1.2.1.2.1 b.1.2.1.2.2, .slice b.1.2.2.1 b.1.2.2.2.1 b.1.2.2.2.2, .int .i64 b.2] 68)).heap.size 68 9 (Nat.le_refl _)
      have hz : (wr.alloc (.cells #[.string b.1.1.id, .int .i64 b.1.1.mn, .int .i64 b.1.1.mx, .int .i64 b.1.1.level, .int .i64 b.1.1.series, .int .i64 b.1.1.samples, .slice b.1.2.1.1 b.1.2.1.2.1 b.1.2.1.2.2, .slice b.1.2.2.1 b.1.2.2.2.1 b.1.2.2.2.2, .int .i64 b.2] 68)).heap.size = wr.heap.size + 1 := by simp
      obtain ⟨nb, hnb⟩ : ∃ n, n = wr.heap.size + 1 := ⟨_, rfl⟩
      rw [hz, ← hnb] at rb
      rw [← hnb] at hz
      have H := Lib.hid (And.intro (kp ka (And.intro hrow hkw)) (And.intro na rb))
      have Hz := Lib.hid (And.intro hz hnb)
      clear hgk hrow hkw hnx hbe hc6 ka na kb rb hz hnb H0
      go_upto_region 7 with fail
      clear d0 d1 d2 d3 d4 d5 d6 d7 d8
      rw [← Hz.out.2]
      have hwn : wr.heap.size < nb ∧ (wr.alloc (.cells #[.string b.1.1.id, .int .i64 b.1.1.mn, .int .i64 b.1.1.mx, .int .i64 b.1.1.level, .int .i64 b.1.1.series, .int .i64 b.1.1.samples, .slice b.1.2.1.1 b.1.2.1.2.1 b.1.2.1.2.2, .slice b.1.2.2.1 b.1.2.2.2.1 b.1.2.2.2.2, .int .i64 b.2] 68)).heap.size ≤ nb ∧ nb ≤ (wr.alloc (.cells #[.string b.1.1.id, .int .i64 b.1.1.mn, .int .i64 b.1.1.mx, .int .i64 b.1.1.level, .int .i64 b.1.1.series, .int .i64 b.1.1.samples, .slice b.1.2.1.1 b.1.2.1.2.1 b.1.2.1.2.2, .slice b.1.2.2.1 b.1.2.2.2.1 b.1.2.2.2.2, .int .i64 b.2] 68)).heap.size ∧ w.heap.size ≤ nb := by
        have h1 := Hz.out.1
        have h2 := H.out.1.2.size
        have h3 := Hz.out.2
        omega
      generalize hWk : wr.alloc (.cells #[.string b.1.1.id, .int .i64 b.1.1.mn, .int .i64 b.1.1.mx, .int .i64 b.1.1.level, .int .i64 b.1.1.series, .int .i64 b.1.1.samples, .slice b.1.2.1.1 b.1.2.1.2.1 b.1.2.1.2.2, .slice b.1.2.2.1 b.1.2.2.2.1 b.1.2.2.2.2, .int .i64 b.2] 68) = Wk at H hwn ⊢
      generalize hfb : wr.heap.size = fb at H hwn ⊢
      clear hWk hfb Hz
      go_wp2_with fail
      have Hdn := Lib.hid (runN_done b L)
      have Hso := Lib.hid (sliceFrom_row (enc := enc9) (fun x => enc9_len x) H.out.1.1)
      go_loopg [6, 7, 20] L.length (SortRel2 Wk nb b L)
      case atStart => exact ⟨0, Nat.zero_le _, rfl, rfl, rfl, H.out.2.2, (Keeps.refl [] Wk).alloc _⟩
      case round =>
        obtain ⟨j, hj, hgj, rfl, rfl, hrw, hkj⟩ := hrel
        have Hgj := Lib.hid hgj
        have hxl : (runN b (L.take j)).2.length ≤ 40 := by have := runN_len b (L.take j); rw [List.length_take] at this; omega
        by_cases hltj : j < L.length
        · obtain ⟨b7, of7, ea, -, hb7, hc7⟩ := (Hso.out.keep hkj (by simp)).atI j hltj
          subst ea
          have hsn := runN_snoc (b := b) hltj
          generalize runN b (L.take j) = st at hrw hxl hsn ⊢
          obtain ⟨c, hce⟩ : ∃ c, c = L[j] := ⟨_, rfl⟩
          rw [← hce] at hc7 hsn
          have e0 : wr.cell? ⟨b7, of7 + j * 9, none⟩ = some (.string c.1.1.id) := hc7 0 (by decide)
          have e1 : wr.cell? ⟨b7, of7 + j * 9 + 1, none⟩ = some (.int .i64 c.1.1.mn) := hc7 1 (by decide)
          have e2 : wr.cell? ⟨b7, of7 + j * 9 + 2, none⟩ = some (.int .i64 c.1.1.mx) := hc7 2 (by decide)
          have e3 : wr.cell? ⟨b7, of7 + j * 9 + 3, none⟩ = some (.int .i64 c.1.1.level) := hc7 3 (by decide)
          have e4 : wr.cell? ⟨b7, of7 + j * 9 + 4, none⟩ = some (.int .i64 c.1.1.series) := hc7 4 (by decide)
          have e5 : wr.cell? ⟨b7, of7 + j * 9 + 5, none⟩ = some (.int .i64 c.1.1.samples) := hc7 5 (by decide)
          have e6 : wr.cell? ⟨b7, of7 + j * 9 + 6, none⟩ = some (.slice c.1.2.1.1 c.1.2.1.2.1 c.1.2.1.2.2) := hc7 6 (by decide)
          have e7 : wr.cell? ⟨b7, of7 + j * 9 + 7, none⟩ = some (.slice c.1.2.2.1 c.1.2.2.2.1 c.1.2.2.2.2) := hc7 7 (by decide)
          have e8 : wr.cell? ⟨b7, of7 + j * 9 + 8, none⟩ = some (.int .i64 c.2) := hc7 8 (by decide)
          have hltj' : (j : Int) < (L.length : Int) := by omega
          obtain ⟨d, Nx⟩ := st
          simp only at hrw hxl ⊢
          have Hsn := Lib.hid hsn
          obtain ⟨ax, cx, rfl, hxc, hxm, -⟩ := row_slice hrw
          have ka := (Keeps.refl [] wr).alloc (.cells #[.string c.1.1.id, .int .i64 c.1.1.mn, .int .i64 c.1.1.mx, .int .i64 c.1.1.level, .int .i64 c.1.1.series, .int .i64 c.1.1.samples, .slice c.1.2.1.1 c.1.2.1.2.1 c.1.2.1.2.2, .slice c.1.2.2.1 c.1.2.2.2.1 c.1.2.2.2.2, .int .i64 c.2] 68)
          have na := heap_new wr (.cells #[.string c.1.1.id, .int .i64 c.1.1.mn, .int .i64 c.1.1.mx, .int .i64 c.1.1.level, .int .i64 c.1.1.series, .int .i64 c.1.1.samples, .slice c.1.2.1.1 c.1.2.1.2.1 c.1.2.1.2.2, .slice c.1.2.2.1 c.1.2.2.2.1 c.1.2.2.2.2, .int .i64 c.2] 68)
          have Hi := Lib.hid (And.intro (kp ka (And.intro hrw (And.intro hkj (hkj.at_ H.out.2.1 (by simp))))) na)
          have hcg : ∀ g, (Value.slice ax Nx.length cx).ownBlock = some g → g ≠ wr.heap.size := fun g hg => by have := (World.ownsRow.lt hrw g hg).2; omega
          have Hcg := Lib.hid hcg
          clear hgj hrw hkj hsn hce hc7 ka na hcg
          go_upto_region 10 with fail
          clear e0 e1 e2 e3 e4 e5 e6 e7 e8
          generalize hW2 : wr.alloc (.cells #[.string c.1.1.id, .int .i64 c.1.1.mn, .int .i64 c.1.1.mx, .int .i64 c.1.1.level, .int .i64 c.1.1.series, .int .i64 c.1.1.samples, .slice c.1.2.1.1 c.1.2.1.2.1 c.1.2.1.2.2, .slice c.1.2.2.1 c.1.2.2.2.1 c.1.2.2.2.2, .int .i64 c.2] 68) = W2 at Hi ⊢
          generalize hcb : wr.heap.size = cb at Hi Hcg ⊢
          clear hW2 hcb
          have cb2 := cells_at Hi.out.1.2.2
          have lb2 := lt_of_at Hi.out.1.2.2
          have cc2 := cells_at Hi.out.2
          have lc2 := lt_of_at Hi.out.2
          have hw2 := Hi.out.1.2.1.size
          cases d with
          | true =>
            go_upto_region 13 with fail
            go_wp2_with (at_builtin; refine wpList_append_own _ rfl (.tmp 39) (.tmp 41) 38 rfl nb 68 ib _ 9 112 Tryz.underlying38 hib hzb0 hzb1 hzb2 rfl (by decide) (.slice ax Nx.length cx) Nx.length (Nx.flatMap enc9) rfl (Hi.out.1.1.alloc _) ⟨W2.heap.size, 0, none⟩ 1 1 [.string c.1.1.id, .int .i64 c.1.1.mn, .int .i64 c.1.1.mx, .int .i64 c.1.1.level, .int .i64 c.1.1.series, .int .i64 c.1.1.samples, .slice c.1.2.1.1 c.1.2.1.2.1 c.1.2.1.2.2, .slice c.1.2.2.1 c.1.2.2.2.1 c.1.2.2.2.2, .int .i64 c.2] rfl rfl (news_of (heap_new W2 _)) (by simp [Value.oneCell']) (by simp only [maxLen]; omega) (by omega) (by simp; omega) ?_; intro v8 w8 hown8 hgrow8 hnil; clear hnil; obtain ⟨ao8, cp8, hv8, -, -, -⟩ := row_slice hown8; subst hv8)
            have ha := keeps_grownM (Hi.out.1.2.1.alloc (.cells #[.string c.1.1.id, .int .i64 c.1.1.mn, .int .i64 c.1.1.mx, .int .i64 c.1.1.level, .int .i64 c.1.1.series, .int .i64 c.1.1.samples, .slice c.1.2.1.1 c.1.2.1.2.1 c.1.2.1.2.2, .slice c.1.2.2.1 c.1.2.2.2.1 c.1.2.2.2.2, .int .i64 c.2] 68)) hgrow8 (fun g hg => by have := (World.ownsRow.lt Hi.out.1.1 g hg).1; omega)
            have H8 := Lib.hid (And.intro hown8 ha)
            clear hown8 hgrow8 ha cb2 lb2 cc2 lc2
            go_wp2_with fail
            go_roundg (L.length - (j + 1))
            case measure => have := Hgj.out; omega
            case rel => exact ⟨j + 1, by omega, rfl, by go_num, by rw [Hsn.out]; simp [stepN], by rw [Hsn.out]; simpa [stepN, enc9, encMC] using H8.out.1, H8.out.2⟩
          | false =>
            cases hless : lessC b c with
            | true =>
              have hl2 : bytesLess b.1.1.id.toList c.1.1.id.toList = true := by rw [ByteArray.toList_eq, ByteArray.toList_eq]; exact hless
              go_upto_region 12 with (at_builtin; refine wpList_append_own _ rfl (.tmp 35) (.tmp 37) 38 rfl nb 68 ib _ 9 112 Tryz.underlying38 hib hzb0 hzb1 hzb2 rfl (by decide) (.slice ax Nx.length cx) Nx.length (Nx.flatMap enc9) rfl (Hi.out.1.1.alloc _) ⟨W2.heap.size, 0, none⟩ 1 1 [.string b.1.1.id, .int .i64 b.1.1.mn, .int .i64 b.1.1.mx, .int .i64 b.1.1.level, .int .i64 b.1.1.series, .int .i64 b.1.1.samples, .slice b.1.2.1.1 b.1.2.1.2.1 b.1.2.1.2.2, .slice b.1.2.2.1 b.1.2.2.2.1 b.1.2.2.2.2, .int .i64 b.2] rfl rfl (news_of (heap_new W2 _)) (by simp [Value.oneCell']) (by simp only [maxLen]; omega) (by omega) (by simp; omega) ?_; intro v8 w8 hown8 hgrow8 hnil; clear hnil; obtain ⟨ao8, cp8, hv8, -, -, -⟩ := row_slice hown8; subst hv8)
              have kb8 := keeps_rowM hgrow8
              have nf8 := kb8.at_ (heap_old Hi.out.1.2.2 _) (fun hm => by
                have hg : (Value.slice ax Nx.length cx).ownBlock = some fb := by simpa using hm
                have := (World.ownsRow.lt Hi.out.1.1 fb hg).1
                omega)
              have nc8 := kb8.at_ (heap_old Hi.out.2 _) (fun hm => Hcg.out cb (by simpa using hm) rfl)
              have ha := keeps_grownM (Hi.out.1.2.1.alloc (.cells #[.string b.1.1.id, .int .i64 b.1.1.mn, .int .i64 b.1.1.mx, .int .i64 b.1.1.level, .int .i64 b.1.1.series, .int .i64 b.1.1.samples, .slice b.1.2.1.1 b.1.2.1.2.1 b.1.2.1.2.2, .slice b.1.2.2.1 b.1.2.2.2.1 b.1.2.2.2.2, .int .i64 b.2] 68)) hgrow8 (fun g hg => by have := (World.ownsRow.lt Hi.out.1.1 g hg).1; omega)
              clear cb2 lb2 cc2 lc2
              have cc2 := cells_at nc8
              have lc2 := lt_of_at nc8
              have hw8 := ha.size
              have Hi8 := Lib.hid (And.intro hown8 ha)
              clear hown8 hgrow8 kb8 nf8 nc8 ha
              go_upto_region 13 with fail
              go_wp2_with (at_builtin; refine wpList_append_own _ rfl (.tmp 39) (.tmp 41) 38 rfl nb 68 ib _ 9 112 Tryz.underlying38 hib hzb0 hzb1 hzb2 rfl (by decide) (.slice ao8 (Nx.length + 1) cp8) (Nx.length + 1) (Nx.flatMap enc9 ++ [.string b.1.1.id, .int .i64 b.1.1.mn, .int .i64 b.1.1.mx, .int .i64 b.1.1.level, .int .i64 b.1.1.series, .int .i64 b.1.1.samples, .slice b.1.2.1.1 b.1.2.1.2.1 b.1.2.1.2.2, .slice b.1.2.2.1 b.1.2.2.2.1 b.1.2.2.2.2, .int .i64 b.2]) rfl (Hi8.out.1.alloc _) ⟨w8.heap.size, 0, none⟩ 1 1 [.string c.1.1.id, .int .i64 c.1.1.mn, .int .i64 c.1.1.mx, .int .i64 c.1.1.level, .int .i64 c.1.1.series, .int .i64 c.1.1.samples, .slice c.1.2.1.1 c.1.2.1.2.1 c.1.2.1.2.2, .slice c.1.2.2.1 c.1.2.2.2.1 c.1.2.2.2.2, .int .i64 c.2] rfl rfl (news_of (heap_new w8 _)) (by simp [Value.oneCell']) (by simp only [maxLen]; omega) (by omega) (by simp; omega) ?_; intro v9 w9 hown9 hgrow9 hnil; clear hnil; obtain ⟨ao9, cp9, hv9, -, -, -⟩ := row_slice hown9; subst hv9)
              have ha := keeps_grownM (Hi8.out.2.alloc (.cells #[.string c.1.1.id, .int .i64 c.1.1.mn, .int .i64 c.1.1.mx, .int .i64 c.1.1.level, .int .i64 c.1.1.series, .int .i64 c.1.1.samples, .slice c.1.2.1.1 c.1.2.1.2.1 c.1.2.1.2.2, .slice c.1.2.2.1 c.1.2.2.2.1 c.1.2.2.2.2, .int .i64 c.2] 68)) hgrow9 (fun g hg => by have := (World.ownsRow.lt Hi8.out.1 g hg).1; omega)
              have H8 := Lib.hid (And.intro hown9 ha)
              clear hown9 hgrow9 ha cc2 lc2
              go_wp2_with fail
              go_roundg (L.length - (j + 1))
              case measure => have := Hgj.out; omega
              case rel => exact ⟨j + 1, by omega, rfl, by go_num, by rw [Hsn.out]; simp [stepN, hless], by rw [Hsn.out]; simpa [stepN, hless, enc9, encMC] using H8.out.1, H8.out.2⟩
            | false =>
              have hl2 : bytesLess b.1.1.id.toList c.1.1.id.toList = false := by rw [ByteArray.toList_eq, ByteArray.toList_eq]; exact hless
              go_upto_region 13 with fail
              go_wp2_with (at_builtin; refine wpList_append_own _ rfl (.tmp 39) (.tmp 41) 38 rfl nb 68 ib _ 9 112 Tryz.underlying38 hib hzb0 hzb1 hzb2 rfl (by decide) (.slice ax Nx.length cx) Nx.length (Nx.flatMap enc9) rfl (Hi.out.1.1.alloc _) ⟨W2.heap.size, 0, none⟩ 1 1 [.string c.1.1.id, .int .i64 c.1.1.mn, .int .i64 c.1.1.mx, .int .i64 c.1.1.level, .int .i64 c.1.1.series, .int .i64 c.1.1.samples, .slice c.1.2.1.1 c.1.2.1.2.1 c.1.2.1.2.2, .slice c.1.2.2.1 c.1.2.2.2.1 c.1.2.2.2.2, .int .i64 c.2] rfl rfl (news_of (heap_new W2 _)) (by simp [Value.oneCell']) (by simp only [maxLen]; omega) (by omega) (by simp; omega) ?_; intro v8 w8 hown8 hgrow8 hnil; clear hnil; obtain ⟨ao8, cp8, hv8, -, -, -⟩ := row_slice hown8; subst hv8)
              have ha := keeps_grownM (Hi.out.1.2.1.alloc (.cells #[.string c.1.1.id, .int .i64 c.1.1.mn, .int .i64 c.1.1.mx, .int .i64 c.1.1.level, .int .i64 c.1.1.series, .int .i64 c.1.1.samples, .slice c.1.2.1.1 c.1.2.1.2.1 c.1.2.1.2.2, .slice c.1.2.2.1 c.1.2.2.2.1 c.1.2.2.2.2, .int .i64 c.2] 68)) hgrow8 (fun g hg => by have := (World.ownsRow.lt Hi.out.1.1 g hg).1; omega)
              have H8 := Lib.hid (And.intro hown8 ha)
              clear hown8 hgrow8 ha cb2 lb2 cc2 lc2
              go_wp2_with fail
              go_roundg (L.length - (j + 1))
              case measure => have := Hgj.out; omega
              case rel => exact ⟨j + 1, by omega, rfl, by go_num, by rw [Hsn.out]; simp [stepN, hless], by rw [Hsn.out]; simpa [stepN, hless, enc9, encMC] using H8.out.1, H8.out.2⟩
        · have hje : j = L.length := by omega
          subst hje
          rw [List.take_length] at hrw hxl ⊢
          have hw2 := hkj.size
          have hge : ¬ (L.length : Int) < (L.length : Int) := by omega
          have hil : (insC b L).length ≤ 40 := by rw [insC_len]; omega
          cases hd : (runN b L).1 with
          | true =>
            have hrn := Hdn.out.1 hd
            rw [hrn] at hrw
            have He := Lib.hid (And.intro hrw (H.out.1.2.trans hkj))
            clear hrw hkj hgj
            go_wp2_with fail
            go_roundg (C.length - (k + 1))
            case measure => have := Hg.out; omega
            case rel => exact ⟨k + 1, by omega, rfl, by go_num, by rw [Hnx.out]; exact row_base He.out.1 (by omega), He.out.2⟩
          | false =>
            have hrn := Hdn.out.2 hd
            have nf := hkj.at_ H.out.2.1 (by simp)
            have cf := cells_at nf
            have lf := lt_of_at nf
            generalize (runN b L).2 = Nx at hrw hxl hrn ⊢
            obtain ⟨ax, cx, rfl, hxc, hxm, -⟩ := row_slice hrw
            have Hi := Lib.hid (And.intro hrw hkj)
            have Hrn := Lib.hid hrn
            clear hrw hkj hgj nf hrn
            go_wp2_with (at_builtin; refine wpList_append_own _ rfl (.tmp 46) (.tmp 48) 38 rfl nb 68 ib _ 9 112 Tryz.underlying38 hib hzb0 hzb1 hzb2 rfl (by decide) (.slice ax Nx.length cx) Nx.length (Nx.flatMap enc9) rfl (Hi.out.1.alloc _) ⟨wr.heap.size, 0, none⟩ 1 1 [.string b.1.1.id, .int .i64 b.1.1.mn, .int .i64 b.1.1.mx, .int .i64 b.1.1.level, .int .i64 b.1.1.series, .int .i64 b.1.1.samples, .slice b.1.2.1.1 b.1.2.1.2.1 b.1.2.1.2.2, .slice b.1.2.2.1 b.1.2.2.2.1 b.1.2.2.2.2, .int .i64 b.2] rfl rfl (news_of (heap_new wr _)) (by simp [Value.oneCell']) (by simp only [maxLen]; omega) (by omega) (by simp; omega) ?_; intro v8 w8 hown8 hgrow8 hnil; clear hnil; obtain ⟨ao8, cp8, hv8, -, -, -⟩ := row_slice hown8; subst hv8)
            have ha := keeps_grownM (Hi.out.2.alloc (.cells #[.string b.1.1.id, .int .i64 b.1.1.mn, .int .i64 b.1.1.mx, .int .i64 b.1.1.level, .int .i64 b.1.1.series, .int .i64 b.1.1.samples, .slice b.1.2.1.1 b.1.2.1.2.1 b.1.2.1.2.2, .slice b.1.2.2.1 b.1.2.2.2.1 b.1.2.2.2.2, .int .i64 b.2] 68)) hgrow8 (fun g hg => by have := (World.ownsRow.lt Hi.out.1 g hg).1; omega)
            have hown : w8.ownsRow nb 68 9 (.slice ao8 (Nx.length + 1) cp8) (insC b L).length ((insC b L).flatMap enc9) := by
              rw [← Hrn.out]
              simpa [enc9, encMC] using hown8
            have H8 := Lib.hid (And.intro hown (H.out.1.2.trans ha))
            clear hown8 hgrow8 ha cf lf hown
            go_wp2_with fail
            go_roundg (C.length - (k + 1))
            case measure => have := Hg.out; omega
            case rel => exact ⟨k + 1, by omega, rfl, by go_num, by rw [Hnx.out]; exact row_base H8.out.1 (by omega), H8.out.2⟩
    · have hke : k = C.length := by omega
      subst hke
      rw [List.take_length] at hrow
      have hge : ¬ (C.length : Int) < (C.length : Int) := by omega
      have hres := blksV_of ((sliceFrom_row (enc := enc9) (fun x => enc9_len x) hrow).low hB) (fun c hc => ((Hs.out.2 c (sortC_mem hc)).same hkw))
      have He := Lib.hid (And.intro hres hkw)
      clear hrow hkw hgk hres H0
      go_wp2_with fail
      go_ret
      exact ⟨_, rfl, He.out.1, He.out.2⟩
end Go.Proofs.YtjffdcflkkgpfaaGreat
