/-
  matcher.Parse at any text.
  The variable matcher.signs holds its five signs; the library's variable internal/bytealg.MaxLen holds some number; the text is no longer than 1000000 bytes.
-/
import Derived.Test.YtlifonflgcfafaaGreatDoorMParseA
namespace Go.Proofs.YtlifonflgcfafaaGreatDoor
open Go Go.RowKit Go.Shelf

attribute [local go_sem] Oper.semAt_some
/-! ### What a loop over a function may keep -/
theorem keepsFrom_of {S : List Nat} {W W' : World} (k : Keeps S W W') (hS : ∀ x ∈ S, ∀ o, W.heap[x]? = some o → o.isCells = true) (B : Nat) : KeepsFrom B W W' :=
  ⟨k.size, fun b o _ hb ho => k.at_ hb (fun hm => by rw [hS b hm o hb] at ho; cases ho)⟩

theorem stands_of {S ks : List Nat} {W W' : World} (k : Keeps S W W') (h : ∀ p ∈ ks, p < W.heap.size ∧ p ∉ S) : Stands ks W W' := fun p hp => k.block p (h p hp).1 (h p hp).2

/-- What is kept wherever no block of cells is turned. -/
theorem ownFrom_keeps {β : Type} {B : Nat} {I : β → World → Prop} (h : ∀ s W W' S, I s W → Keeps S W W' → (∀ x ∈ S, B ≤ x ∧ ∀ o, W.heap[x]? = some o → o.isCells = false) → I s W') : OwnFrom B I := fun s W W' row hs hg hr => by
  refine h s W W' row.toList hs (Keeps.of_grown hg (fun k hk => .inl (by simp [hk]))) fun x hx => ?_
  have hrx : row = some x := by simpa using hx
  obtain ⟨h1, o, ho, hc⟩ := hr x hrx
  exact ⟨h1, fun o' ho' => by rw [ho] at ho'; cases ho'; exact hc⟩

theorem own_block_cells {w : World} {base s n : Nat} {e : TypeId} {v : Value} {xs : List Value} (h : w.ownsRow base e s v n xs) : ∀ g, v.ownBlock = some g → base ≤ g ∧ ∃ o, w.heap[g]? = some o ∧ o.isCells = true := by
  intro g hg
  obtain ⟨_, ⟨rfl, _⟩ | ⟨g', cap, cur, rfl, hb, h1, _⟩⟩ := h
  · simp [Value.ownBlock] at hg
  · simp [Value.ownBlock] at hg
    subst hg
    exact ⟨hb, _, h1, rfl⟩

theorem Keeps.row_cells {S : List Nat} {w w' : World} (k : Keeps S w w') {base s n : Nat} {e : TypeId} {v : Value} {xs : List Value} (h : w.ownsRow base e s v n xs) (hS : ∀ x ∈ S, ∀ o, w.heap[x]? = some o → o.isCells = false) : w'.ownsRow base e s v n xs :=
  k.row h fun g hg hm => by
    obtain ⟨-, o, ho, hc⟩ := own_block_cells h g hg
    rw [hS g hm o ho] at hc
    cases hc

theorem Keeps.row_low {w w' : World} {b2 : Nat} (k : Keeps [b2] w w') {base s n : Nat} {e : TypeId} {v : Value} {xs : List Value} (h : w.ownsRow base e s v n xs) (hb : b2 < base) : w'.ownsRow base e s v n xs :=
  k.row h fun g hg hm => by
    have := (own_block_cells h g hg).1
    have : g = b2 := by simpa using hm
    omega

theorem Keeps.at_cells {S : List Nat} {w w' : World} (k : Keeps S w w') {b : Nat} {cs : Array Value} {t : TypeId} {z : Nat × Nat} (h : w.heap[b]? = some (.cells cs t z)) (hS : ∀ x ∈ S, ∀ o, w.heap[x]? = some o → o.isCells = false) : w'.heap[b]? = some (.cells cs t z) :=
  k.at_ h fun hm => by
    have := hS b hm _ h
    cases this


theorem set_two {w : World} {p q : Nat} {x y : Value} {t u : TypeId} (h1 : w.heap[p]? = some (.cells #[x] t (0, 0))) (h2 : w.heap[q]? = some (.cells #[y] u (0, 0))) (hne : p ≠ q) (a c : Value) :
    ∃ W, W = (w.setCell ⟨p, 0, none⟩ a).setCell ⟨q, 0, none⟩ c ∧ W.heap[p]? = some (.cells #[a] t (0, 0)) ∧ W.heap[q]? = some (.cells #[c] u (0, 0)) ∧ Keeps [p, q] w W := by
  have k1 : Keeps [p] w (w.setCell ⟨p, 0, none⟩ a) := (Keeps.refl _ w).setCell (.inl (by simp)) _
  have k2 : Keeps [q] (w.setCell ⟨p, 0, none⟩ a) ((w.setCell ⟨p, 0, none⟩ a).setCell ⟨q, 0, none⟩ c) := (Keeps.refl _ _).setCell (.inl (by simp)) _
  have n1 := heap_cell_same (i := 0) h1 a
  have n2 := k1.at_ h2 (by simpa using fun e => hne e.symm)
  refine ⟨_, rfl, ?_, ?_, (k1.mono (by simp)).trans (k2.mono (by simp))⟩
  · have := k2.at_ n1 (by simpa using hne)
    simpa using this
  · have := heap_cell_same (i := 0) n2 c
    simpa using this

/-- The matchers of a text's parts: none where one part is none. -/
def mapB : List ByteArray → Option (List MatB)
  | [] => some []
  | p :: r => match mparseB p, mapB r with | some m, some l => some (m :: l) | _, _ => none

theorem mapB_snoc : ∀ (l : List ByteArray) (p : ByteArray), mapB (l ++ [p]) = (match mapB l, mparseB p with | some L, some m => some (L ++ [m]) | _, _ => none)
  | [], p => by
    show mapB [p] = _
    unfold mapB mapB
    cases mparseB p <;> rfl
  | q :: l, p => by
    have ih := mapB_snoc l p
    show mapB (q :: (l ++ [p])) = _
    unfold mapB
    rw [ih]
    cases mparseB q <;> cases mapB l <;> cases mparseB p <;> rfl

theorem mapB_fail : ∀ (l r : List ByteArray), mapB l = none → mapB (l ++ r) = none
  | [], _, h => by cases h
  | q :: l, r, h => by
    have ih := mapB_fail l r
    show mapB (q :: (l ++ r)) = none
    unfold mapB at h ⊢
    cases hq : mparseB q with
    | none => rfl
    | some m =>
      rw [hq] at h
      cases hl : mapB l with
      | none => rw [ih hl]
      | some L => rw [hl] at h; cases h

theorem mapB_len : ∀ (l : List ByteArray) (L : List MatB), mapB l = some L → L.length = l.length
  | [], L, h => by cases h; rfl
  | q :: l, L, h => by
    unfold mapB at h
    cases hq : mparseB q with
    | none => rw [hq] at h; cases h
    | some m =>
      cases hl : mapB l with
      | none => rw [hq, hl] at h; cases h
      | some L' =>
        rw [hq, hl] at h
        cases h
        simp [mapB_len l L' hl]

def mparsesB (s : ByteArray) : Option (List MatB) := if s = ⟨#[]⟩ then some [] else mapB (partsB 44 s)

def MsPost (w : World) (r : Option (List MatB)) (e : Ending) (w' : World) : Prop := match r with
  | none => e = .returned (.tuple #[.slice none 0 0, .int .i64 3]) ∧ Keeps [] w w'
  | some L => ∃ v, e = .returned (.tuple #[v, .int .i64 0]) ∧ MatsAt w' v L ∧ Keeps [] w w'

theorem mats_nil (w : World) : MatsAt w (.slice none 0 0) [] := ⟨[], ⟨none, 0, rfl, by simp [maxLen], fun i hi => by simp at hi⟩, rfl, fun i hi => by simp at hi⟩

/-- Between two rounds. -/
def PIn (w : World) (b : Nat) (pre : List ByteArray) (W : World) : Prop := ∃ v E L, mapB pre = some L ∧ W.heap[b + 2]? = some (.cells #[v] 52 (0, 0)) ∧ W.ownsRow (b + 6) 62 3 v E.length (E.flatMap encMV) ∧ ValsAt (b + 6) W E L ∧
  W.heap[b]? = some (.cells #[.slice none 0 0] 52 (0, 0)) ∧ W.heap[b + 1]? = some (.cells #[.int .i64 0] 24 (0, 0)) ∧ Keeps [] w W ∧ b + 6 ≤ W.heap.size

def PStop (w : World) (b : Nat) (c : Code) (pre : List ByteArray) (W : World) : Prop := c = .ret ∧ mapB pre = none ∧ W.heap[b]? = some (.cells #[.slice none 0 0] 52 (0, 0)) ∧ W.heap[b + 1]? = some (.cells #[.int .i64 3] 24 (0, 0)) ∧ Keeps [] w W

theorem pin_own (w : World) (b : Nat) (hb : b = w.heap.size) : OwnFrom (b + 6) (PIn w b) := ownFrom_keeps fun pre W W' S h k hS => by
  obtain ⟨v, E, L, h1, h2, h3, h4, h5, h6, h7, h8⟩ := h
  have hc : ∀ x ∈ S, ∀ o, W.heap[x]? = some o → o.isCells = false := fun x hx => (hS x hx).2
  exact ⟨v, E, L, h1, k.at_cells h2 hc, k.row_cells h3 hc, h4.keep k (fun v n xs hr g hg hm => by
      obtain ⟨-, o, ho, hcc⟩ := own_block_cells hr g hg
      rw [hc g hm o ho] at hcc
      cases hcc), k.at_cells h5 hc, k.at_cells h6 hc, h7.after k (fun x hx => .inr (by have := (hS x hx).1; omega)), Nat.le_trans h8 k.size⟩

theorem pstop_own (w : World) (b : Nat) (hb : b = w.heap.size) (c : Code) : OwnFrom (b + 6) (PStop w b c) := ownFrom_keeps fun pre W W' S h k hS => by
  obtain ⟨h1, h2, h3, h4, h5⟩ := h
  have hc : ∀ x ∈ S, ∀ o, W.heap[x]? = some o → o.isCells = false := fun x hx => (hS x hx).2
  exact ⟨h1, h2, k.at_cells h3 hc, k.at_cells h4 hc, h5.after k (fun x hx => .inr (by have := (hS x hx).1; omega))⟩

theorem pin_set (w : World) (b : Nat) (hb : b = w.heap.size) (pre : List ByteArray) (W : World) (u : Value) (h : PIn w b pre W) : PIn w b pre (W.setCell ⟨b + 3, 0, none⟩ u) := by
  obtain ⟨v, E, L, h1, h2, h3, h4, h5, h6, h7, h8⟩ := h
  have k : Keeps [b + 3] W (W.setCell ⟨b + 3, 0, none⟩ u) := (Keeps.refl _ W).setCell (.inl (by simp)) _
  exact ⟨v, E, L, h1, k.at_ h2 (by simp), k.row_low h3 (by omega), h4.keep k (fun v n xs hr g hg hm => by
      have := (own_block_cells hr g hg).1
      have : g = b + 3 := by simpa using hm
      omega), k.at_ h5 (by simp), k.at_ h6 (by simp), h7.after k (fun x hx => .inr (by rw [show x = b + 3 from (by simpa using hx)]; omega)), Nat.le_trans h8 k.size⟩

end Go.Proofs.YtlifonflgcfafaaGreatDoor
