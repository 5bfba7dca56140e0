/-
  Of which blocks others are made (package listing): Shadowed.
  The blocks are few.

  The blocks of which none is made (package listing): Live.
  The blocks are few.
-/
import Derived.Test.YtjffdcflkkgpfaaGreatListFind
namespace Go.Proofs.YtjffdcflkkgpfaaGreat
open Go Go.RowKit Go.Conc

def incM (M : PartsM) (s : ByteArray) : PartsM := put M s ((look M s).getD 0 + 1)

def madeM (L : List MetaS) : PartsM := (L.flatMap (·.sources)).foldl incM []

theorem inc_count (s : ByteArray) : ∀ (S : List ByteArray) (M : PartsM), (∀ t, 0 ≤ (look M t).getD 0) → (look (S.foldl incM M) s).getD 0 = (look M s).getD 0 + (S.filter fun x => decide (x = s)).length
  | [], M, _ => by simp
  | x :: S, M, h => by
    have h2 : ∀ t, 0 ≤ (look (incM M x) t).getD 0 := fun t => by
      unfold incM
      rw [look_put]
      split
      · have := h x; simp only [Option.getD_some]; omega
      · exact h t
    rw [List.foldl_cons, inc_count s S _ h2]
    unfold incM
    rw [look_put]
    by_cases e : s = x
    · subst e
      simp
      omega
    · have e2 : ¬ x = s := fun h => e h.symm
      simp [e, e2]

theorem inc_le (S : List ByteArray) (s : ByteArray) : 0 ≤ (look (S.foldl incM []) s).getD 0 ∧ (look (S.foldl incM []) s).getD 0 ≤ S.length := by
  rw [inc_count s S [] (by simp [look])]
  have := List.length_filter_le (fun x => decide (x = s)) S
  simp [look]
  omega

def MadeRel (w W1 : World) (mo : Nat) (L : List MetaS) (gk : Nat) (u : Value) (wr : World) : Prop :=
  ∃ k, k ≤ L.length ∧ gk = L.length - k ∧ u = .int .i64 k ∧ MapAt wr mo (encMap encI (madeM (L.take k))) ∧ Keeps [mo] W1 wr ∧ Keeps [] w wr

def MadeRel2 (w W1 : World) (mo : Nat) (S0 S : List ByteArray) (gk : Nat) (u : Value) (wr : World) : Prop :=
  ∃ j, j ≤ S.length ∧ gk = S.length - j ∧ u = .int .i64 j ∧ MapAt wr mo (encMap encI ((S0 ++ S.take j).foldl incM [])) ∧ Keeps [mo] W1 wr ∧ Keeps [] w wr

def MadePost (w : World) (L : List MetaS) (e : Ending) (w' : World) : Prop := ∃ mo, e = .returned (.map (some mo)) ∧ w.heap.size ≤ mo ∧ MapAt w' mo (encMap encI (madeM L)) ∧ Keeps [] w w'
end Go.Proofs.YtjffdcflkkgpfaaGreat

namespace Go.Proofs.YtjffdcflkkgpfaaGreat
open Go Go.RowKit Go.Conc

theorem infoMeta : (Tryz.prog.info? 63).map (fun i => (i.zero, i.size, i.bytes)) = some (some (.agg #[.string ⟨#[]⟩, .int .i64 0, .int .i64 0, .int .i64 0, .int .i64 0, .int .i64 0, .slice none 0 0, .slice none 0 0]), 8, 104) := by kernel_rfl

def aliveB (L : List MetaS) (m : MetaS) : Bool := decide ((look (madeM L) m.id).getD 0 = 0)

def liveL (L : List MetaS) : List MetaS := L.filter (aliveB L)

theorem filter_yes {α : Type} (p : α → Bool) {L : List α} {k : Nat} (hk : k < L.length) (h : p L[k] = true) : (L.take (k + 1)).filter p = (L.take k).filter p ++ [L[k]] := by
  rw [List.take_succ_eq_append_getElem hk, List.filter_append]
  simp [h]

theorem filter_no {α : Type} (p : α → Bool) {L : List α} {k : Nat} (hk : k < L.length) (h : p L[k] = false) : (L.take (k + 1)).filter p = (L.take k).filter p := by
  rw [List.take_succ_eq_append_getElem hk, List.filter_append]
  simp [h]

/-- A row of metas of the walk's own; their lists lie in the world w. -/
def MetaRow (B base : Nat) (w wr : World) (v : Value) (Q : List MetaS) : Prop :=
  ∃ R : List (List Value), R.length = Q.length ∧ (∀ i (h : i < R.length) (h' : i < Q.length), MetaV B w R[i] Q[i]) ∧ wr.ownsRow base 63 8 v R.length (R.flatMap id)

theorem MetaRow.snoc {B base : Nat} {w w' : World} {v' : Value} {Q : List MetaS} {m : MetaS} {vs : List Value} {R : List (List Value)} (h1 : R.length = Q.length) (h2 : ∀ i (h : i < R.length) (h' : i < Q.length), MetaV B w R[i] Q[i]) (hm : MetaV B w vs m) (hr : w'.ownsRow base 63 8 v' (R.length + 1) (R.flatMap id ++ vs)) : MetaRow B base w w' v' (Q ++ [m]) := by
  refine ⟨R ++ [vs], by simp [h1], fun i hi hi' => ?_, by simpa using hr⟩
  by_cases e : i < R.length
  · rw [List.getElem_append_left e, List.getElem_append_left (by omega)]
    exact h2 i e (by omega)
  · have e1 : i = R.length := by simp at hi; omega
    subst e1
    rw [List.getElem_append_right (by omega), List.getElem_append_right (by omega)]
    simpa [h1] using hm

theorem metaV_len {B : Nat} {w : World} {vs : List Value} {m : MetaS} (h : MetaV B w vs m) : vs.length = 8 := by
  obtain ⟨_, _, rfl, _⟩ := h
  rfl

theorem flat8 {R : List (List Value)} : ∀ (_ : ∀ x ∈ R, x.length = 8) (i : Nat) (hi : i < R.length) (j : Nat), j < 8 → (R.flatMap id)[i * 8 + j]? = (id R[i])[j]? := by
  induction R with
  | nil => intro _ i hi; simp at hi
  | cons x R ih =>
    intro h i hi j hj
    have hx := h x (by simp)
    cases i with
    | zero =>
      simp only [List.flatMap_cons, id, Nat.zero_mul, Nat.zero_add, List.getElem_cons_zero]
      exact List.getElem?_append_left (by omega)
    | succ i =>
      have h2 := ih (fun y hy => h y (by simp [hy])) i (by simpa using hi) j hj
      simp only [List.flatMap_cons, List.getElem_cons_succ] at h2 ⊢
      rw [List.getElem?_append_right (by simp only [id]; omega), ← h2]
      congr 1
      simp only [id]
      omega

theorem MetaRow.metas {B base : Nat} {w wr : World} {v : Value} {Q : List MetaS} (h : MetaRow B base w wr v Q) (k : Keeps [] w wr) (hB : B ≤ base) : MetasV B wr v Q := by
  obtain ⟨R, h1, h2, h3⟩ := h
  have hlen : ∀ x ∈ R, x.length = 8 := fun x hx => by
    obtain ⟨i, hi, rfl⟩ := List.mem_iff_getElem.1 hx
    exact metaV_len (h2 i hi (by omega))
  refine ⟨R, ?_, h1, fun i hi hi' => (h2 i hi hi').same k⟩
  obtain ⟨ao, cap, rfl, hc, hm, hx⟩ := row_slice h3
  refine ⟨ao, cap, rfl, by omega, hc, fun e => ?_, fun i hi => ?_⟩
  · rcases Nat.eq_zero_or_pos R.length with h0 | h0
    · obtain ⟨hl, ⟨e2, _⟩ | ⟨g, cap2, cur, e2, _⟩⟩ := h3
      · injection e2
      · injection e2 with e2 _ _
        rw [e] at e2
        cases e2
    · obtain ⟨g, hg, _⟩ := hx 0 (by omega)
      rw [e] at hg
      cases hg
  · obtain ⟨g, hg, hb, hlt, _⟩ := hx (i * 8) (by omega)
    refine ⟨g, 0, hg, Nat.le_trans hB hb, hlt, fun j hj => ?_⟩
    obtain ⟨g2, hg2, _, _, hcell⟩ := hx (i * 8 + j) (by omega)
    rw [hg] at hg2
    injection hg2 with hg2
    injection hg2 with hg2 _ _
    subst hg2
    rw [Nat.zero_add, hcell]
    exact flat8 hlen i hi j hj


def LiveRel (B : Nat) (w w1 : World) (L : List MetaS) (gk : Nat) (u4 u12 : Value) (wr : World) : Prop :=
  ∃ k, k ≤ L.length ∧ gk = L.length - k ∧ u12 = .int .i64 k ∧ MetaRow B w1.heap.size w wr u4 ((L.take k).filter (aliveB L)) ∧ Keeps [] w1 wr
end Go.Proofs.YtjffdcflkkgpfaaGreat
