/-
  When the first part of a block was put (package sweep): oldest.
  Ticks are not below 0.

  A map of strings to maps of strings to numbers, that a walk holds.
  No condition beyond those that each theorem states.
-/
import Derived.Test.YtbndpegilpgheaaGreatSweepLaw
import Derived.Test.YtbndpegilpgheaaGreatOps
namespace Go.Proofs.YtbndpegilpgheaaGreat
open Go Go.RowKit Go.Conc Go.Maps

def ticksOf (done : KV) : List Int := done.map fun q => intOf q.2

theorem ticks_enc (p : PartsM) : ticksOf (encMap encI p) = p.map (·.2) := by
  unfold ticksOf encMap
  rw [List.map_map]
  rfl

theorem ticks_perm {p : PartsM} {done : KV} (h : (encMap encI p).Perm done) : leastL (ticksOf done) = leastL (p.map (·.2)) := by
  rw [← ticks_enc]
  exact (leastL_perm (h.map _)).symm

theorem mem_enc {α : Type} {enc : α → Value} {p : List (ByteArray × α)} {x : ByteArray} {c : Value} (h : (x, c) ∈ encMap enc p) : ∃ n, c = enc n ∧ (x, n) ∈ p := by
  simp only [encMap, List.mem_map, Prod.mk.injEq] at h
  obtain ⟨q, hq, rfl, rfl⟩ := h
  exact ⟨q.2, rfl, hq⟩

def OldRel (w : World) (b r : Nat) (p : PartsM) (gk : Nat) (u : Value) (wr : World) : Prop :=
  ∃ done : KV, Ranging Tryz.prog 9 wr b r (encMap encI p) done gk ∧ (∀ x ∈ ticksOf done, 0 ≤ x ∧ x ≤ 9223372036854775807) ∧ u = .int .i64 (leastL (ticksOf done)) ∧ Keeps [] w wr


set_option linter.unusedSimpArgs false in
set_option maxRecDepth 100000 in
set_option maxHeartbeats 1000000 in
theorem oldest_spec (w : World) (b : Nat) (p : PartsM) (h : MapAt w b (encMap encI p)) (hp : ∀ q ∈ p, 0 ≤ q.2 ∧ q.2 ≤ 9223372036854775807) (hk : ∀ q ∈ p, q.1.size ≤ 40) (hl : p.length ≤ 1000) :
    Calls Tryz.prog 56 #[.map (some b)] w fun e w' => e = .returned (.int .i64 (leastL (p.map (·.2)))) ∧ Keeps [] w w' := by
  have z3 : ∀ q ∈ encMap encI p, q.1.size ≤ maxLen := by
    intro q hq
    obtain ⟨x, c⟩ := q
    obtain ⟨n, _, hn⟩ := mem_enc hq
    have := hk _ hn
    simp only at this ⊢
    unfold maxLen; omega
  have z4 : (encMap encI p).length ≤ maxLen := by simp only [encMap, List.length_map, maxLen]; omega
  have Hp := Lib.hid hp
  have Hd := Lib.hid (fun done => ticks_perm (p := p) (done := done))
  clear hp hk hl
  go_enter Tryz.func56, Tryz.ntmps56
  go_wp2_with (at_range; refine wpList_range_map rfl _ _ rfl 3 Tryz.underlying134 Tryz.underlying9 b _ rfl h z3 z4 ?_; intro w0 cnt hrg0 hk0)
  clear z3 z4
  go_frame
  go_loopg [3] cnt (OldRel w b w.heap.size p)
  case atStart => exact ⟨[], hrg0, by simp [ticksOf], rfl, hk0⟩
  case round =>
    obtain ⟨done, hrg, hall, rfl, hkr⟩ := hrel
    clear hrg0 hk0
    have Ha := Lib.hid (And.intro hall (leastL_step (ticksOf done)))
    clear hall
    go_wp2_with (at_next; refine wpList_next_map rfl _ rfl Tryz.underlying9 b w.heap.size _ done _ rfl hrg ?_ ?_)
    · intro hperm
      have e := Hd.out done hperm
      have Hk := Lib.hid (And.intro e hkr)
      clear hperm hrg hkr e
      go_wp2_with fail
      go_ret
      exact ⟨by first | (rw [Hk.out.1]; rfl) | rfl, Hk.out.2⟩
    · intro x c w1 cnt1 hmem hnin hxs hrg1 hlt hk1 hen
      obtain ⟨n, rfl, hn⟩ := mem_enc hmem
      simp only [encI] at hen hrg1 ⊢
      obtain ⟨hn0, hn1⟩ := Hp.out _ hn
      simp only at hn0 hn1
      have hst := Ha.out.2 n (fun x hx => (Ha.out.1 x hx).1)
      have hall' : ∀ y ∈ ticksOf (done ++ [(x, Value.int .i64 n)]), 0 ≤ y ∧ y ≤ 9223372036854775807 := by
        intro y hy
        unfold ticksOf at hy
        rw [List.map_append] at hy
        rcases List.mem_append.1 hy with hy | hy
        · exact Ha.out.1 y hy
        · simp [intOf] at hy
          omega
      have ht' : ticksOf (done ++ [(x, Value.int .i64 n)]) = ticksOf done ++ [n] := by simp [ticksOf, intOf]
      have H1 := Lib.hid (And.intro hrg1 (And.intro hall' (And.intro hlt (And.intro ((hkr.after hk1 (fun q hq => .inr (by simp at hq; omega))) : Keeps [] w w1) (ht'.trans rfl)))))
      have Hst := Lib.hid hst
      clear hmem hnin hrg1 hlt hk1 hkr hrg hn hst hall' ht'
      have hzb : -1 ≤ leastL (ticksOf done) ∧ leastL (ticksOf done) ≤ 9223372036854775807 := by
        by_cases hne : ticksOf done = []
        · rw [hne]; simp [leastL]
        · have := Ha.out.1 _ (leastL_mem hne)
          omega
      obtain ⟨hz1, hz2⟩ := hzb
      generalize hz : leastL (ticksOf done) = z at hz1 hz2 Hst ⊢
      clear hz Ha
      by_cases c1 : z < 0
      · go_wp2_with fail
        go_roundg cnt1
        case measure => exact H1.out.2.2.1
        case rel => exact ⟨_, H1.out.1, H1.out.2.1, by rw [H1.out.2.2.2.2, Hst.out, if_pos (.inl c1)], H1.out.2.2.2.1⟩
      · by_cases c2 : n < z
        · go_wp2_with fail
          go_roundg cnt1
          case measure => exact H1.out.2.2.1
          case rel => exact ⟨_, H1.out.1, H1.out.2.1, by rw [H1.out.2.2.2.2, Hst.out, if_pos (.inr c2)], H1.out.2.2.2.1⟩
        · go_wp2_with fail
          go_roundg cnt1
          case measure => exact H1.out.2.2.1
          case rel => exact ⟨_, H1.out.1, H1.out.2.1, by rw [H1.out.2.2.2.2, Hst.out, if_neg (by omega)], H1.out.2.2.2.1⟩
end Go.Proofs.YtbndpegilpgheaaGreat

namespace Go.Proofs.YtbndpegilpgheaaGreat
open Go Go.RowKit

/-- A block's name, the inner map's block, what it holds. -/
abbrev BlkT := ByteArray × Nat × PartsM

def outerOf (T : List BlkT) : KV := T.map fun t => (t.1, Value.map (some t.2.1))

def plainOf (T : List BlkT) : List (ByteArray × PartsM) := T.map fun t => (t.1, t.2.2)

structure BlocksAt (w : World) (base ob : Nat) (T : List BlkT) : Prop where
  outer : MapAt w ob (outerOf T)
  inner : ∀ t ∈ T, MapAt w t.2.1 (encMap encI t.2.2)
  low : base ≤ ob ∧ ∀ t ∈ T, base ≤ t.2.1
  ne : ∀ t ∈ T, t.2.1 ≠ ob
  nodup : (T.map (·.2.1)).Nodup

theorem BlocksAt.keep {w w' : World} {base ob : Nat} {T : List BlkT} {S : List Nat} (h : BlocksAt w base ob T) (k : Keeps S w w') (hS : ∀ x ∈ S, x ≠ ob ∧ ∀ t ∈ T, x ≠ t.2.1) : BlocksAt w' base ob T :=
  ⟨h.outer.keep k (fun hm => (hS _ hm).1 rfl), fun t ht => (h.inner t ht).keep k (fun hm => (hS _ hm).2 t ht rfl), h.low, h.ne, h.nodup⟩

theorem BlocksAt.same {w w' : World} {base ob : Nat} {T : List BlkT} (h : BlocksAt w base ob T) (k : Keeps [] w w') : BlocksAt w' base ob T := h.keep k (by simp)

/-- Blocks of cells are none of them. -/
theorem BlocksAt.keepCells {w w' : World} {base ob : Nat} {T : List BlkT} {S : List Nat} (h : BlocksAt w base ob T) (k : Keeps S w w') (hS : ∀ x ∈ S, ∃ cs t z, w.heap[x]? = some (.cells cs t z)) : BlocksAt w' base ob T :=
  h.keep k fun x hx => by
    obtain ⟨cs, t, z, hb⟩ := hS x hx
    exact ⟨fun e => h.outer.ne hb e, fun u hu e => (h.inner u hu).ne hb e⟩

theorem BlocksAt.drewN {w : World} {base ob : Nat} {T : List BlkT} (h : BlocksAt w base ob T) (n : Nat) : BlocksAt (w.drewN n) base ob T := h.same ((Keeps.refl [] w).drewN n)

theorem outer_keys (T : List BlkT) : (outerOf T).map (·.1) = T.map (·.1) := by simp [outerOf, Function.comp_def]

theorem plain_keys (T : List BlkT) : (plainOf T).map (·.1) = T.map (·.1) := by simp [plainOf, Function.comp_def]

theorem BlocksAt.keys {w : World} {base ob : Nat} {T : List BlkT} (h : BlocksAt w base ob T) : (T.map (·.1)).Nodup := by
  have := h.outer.nodup
  rwa [outer_keys] at this

theorem look_outer : ∀ (T : List BlkT) (id : ByteArray), (look (outerOf T) id = none ∧ look (plainOf T) id = none) ∨ ∃ n x, (id, n, x) ∈ T ∧ look (outerOf T) id = some (.map (some n)) ∧ look (plainOf T) id = some x
  | [], id => .inl ⟨rfl, rfl⟩
  | (k, n, x) :: T, id => by
    by_cases e : id = k
    · subst e
      exact .inr ⟨n, x, by simp, by simp [outerOf, look], by simp [plainOf, look]⟩
    · rcases look_outer T id with ⟨h1, h2⟩ | ⟨n', x', h1, h2, h3⟩
      · refine .inl ⟨?_, ?_⟩
        · simpa [outerOf, look, e] using h1
        · simpa [plainOf, look, e] using h2
      · refine .inr ⟨n', x', by simp [h1], ?_, ?_⟩
        · simpa [outerOf, look, e] using h2
        · simpa [plainOf, look, e] using h3

theorem put_new {α : Type} {id : ByteArray} {v : α} : ∀ {m : List (ByteArray × α)}, id ∉ m.map (·.1) → put m id v = m ++ [(id, v)]
  | [], _ => rfl
  | (k, x) :: m, h => by
    simp only [List.map_cons, List.mem_cons, not_or] at h
    simp [put, h.1, put_new h.2]

/-- One block more. -/
theorem BlocksAt.add {w w' : World} {base ob nb : Nat} {T : List BlkT} (h : BlocksAt w base ob T) {id : ByteArray} (hid : id ∉ T.map (·.1)) (hb : base ≤ w.heap.size) (hnb : nb = w.heap.size) (hm : MapAt w' nb []) (k : Keeps [ob] w w') (ho : MapAt w' ob (put (outerOf T) id (.map (some nb)))) :
    BlocksAt w' base ob (T ++ [(id, nb, [])]) := by
  subst hnb
  have hlt : ∀ t ∈ T, t.2.1 < w.heap.size := fun t ht => (h.inner t ht).lt
  have hob := h.outer.lt
  refine ⟨?_, fun t ht => ?_, ⟨h.low.1, fun t ht => ?_⟩, fun t ht => ?_, ?_⟩
  · rw [put_new (by rw [outer_keys]; exact hid)] at ho
    simpa [outerOf] using ho
  · rcases List.mem_append.1 ht with ht | ht
    · exact (h.inner t ht).keep k (by simpa using h.ne t ht)
    · simp only [List.mem_singleton] at ht
      subst ht
      exact hm
  · rcases List.mem_append.1 ht with ht | ht
    · exact h.low.2 t ht
    · simp only [List.mem_singleton] at ht
      subst ht
      exact hb
  · rcases List.mem_append.1 ht with ht | ht
    · exact h.ne t ht
    · simp only [List.mem_singleton] at ht
      subst ht
      simp only
      omega
  · rw [List.map_append, List.nodup_append]
    refine ⟨h.nodup, by simp, fun x hx y hy => ?_⟩
    obtain ⟨t, ht, rfl⟩ := List.mem_map.1 hx
    simp only [List.map_cons, List.map_nil, List.mem_singleton] at hy
    have := hlt t ht
    omega

def setT (T : List BlkT) (id : ByteArray) (x : PartsM) : List BlkT := T.map fun t => if t.1 = id then (t.1, t.2.1, x) else t

theorem setT_keys (T : List BlkT) (id : ByteArray) (x : PartsM) : (setT T id x).map (·.1) = T.map (·.1) := by
  unfold setT
  rw [List.map_map]
  refine List.map_congr_left fun t _ => ?_
  simp only [Function.comp]
  split <;> rfl

theorem setT_blocks (T : List BlkT) (id : ByteArray) (x : PartsM) : (setT T id x).map (·.2.1) = T.map (·.2.1) := by
  unfold setT
  rw [List.map_map]
  refine List.map_congr_left fun t _ => ?_
  simp only [Function.comp]
  split <;> rfl

theorem setT_outer (T : List BlkT) (id : ByteArray) (x : PartsM) : outerOf (setT T id x) = outerOf T := by
  unfold outerOf setT
  rw [List.map_map]
  refine List.map_congr_left fun t _ => ?_
  simp only [Function.comp]
  split <;> rfl

theorem setT_plain {id : ByteArray} {x : PartsM} : ∀ {T : List BlkT}, (T.map (·.1)).Nodup → id ∈ T.map (·.1) → plainOf (setT T id x) = put (plainOf T) id x
  | [], _, h => by simp at h
  | (k, n, y) :: T, hn, h => by
    simp only [List.map_cons, List.nodup_cons] at hn
    by_cases e : id = k
    · subst e
      have h0 : setT T id x = T := by
        unfold setT
        refine (List.map_congr_left fun t ht => ?_).trans (List.map_id T)
        rw [if_neg (fun e => hn.1 (List.mem_map.2 ⟨t, ht, e⟩))]
        rfl
      have h1 : setT ((id, n, y) :: T) id x = (id, n, x) :: setT T id x := by simp [setT]
      rw [h1, h0]
      simp [plainOf, put]
    · have h2 : id ∈ T.map (·.1) := by simpa [e] using h
      have ih := setT_plain (x := x) hn.2 h2
      have h1 : setT ((k, n, y) :: T) id x = (k, n, y) :: setT T id x := by
        unfold setT
        rw [List.map_cons, if_neg (fun e2 => e e2.symm)]
      rw [h1]
      simp only [plainOf, List.map_cons, put, if_neg e]
      exact congrArg _ ih

theorem nodup_inj {α β : Type} (f : α → β) : ∀ {l : List α}, (l.map f).Nodup → ∀ {s t : α}, s ∈ l → t ∈ l → f s = f t → s = t
  | x :: l, hn, s, t, hs, ht, e => by
    simp only [List.map_cons, List.nodup_cons] at hn
    rcases List.mem_cons.1 hs with h1 | h1 <;> rcases List.mem_cons.1 ht with h2 | h2
    · rw [h1, h2]
    · exact (hn.1 (List.mem_map.2 ⟨t, h2, by rw [← e, h1]⟩)).elim
    · exact (hn.1 (List.mem_map.2 ⟨s, h1, by rw [e, h2]⟩)).elim
    · exact nodup_inj f hn.2 h1 h2 e

/-- One part more. -/
theorem BlocksAt.set {w w' : World} {base ob n : Nat} {T : List BlkT} (h : BlocksAt w base ob T) {id : ByteArray} {x x' : PartsM} (hin : (id, n, x) ∈ T) (k : Keeps [n] w w') (hm : MapAt w' n (encMap encI x')) : BlocksAt w' base ob (setT T id x') := by
  have hkeys := h.keys
  have hob : ob ∉ [n] := by
    have := h.ne _ hin
    simp only at this
    simp only [List.mem_singleton]
    exact fun e => this e.symm
  have hin' : ∀ t' ∈ setT T id x', ∃ t ∈ T, t' = if t.1 = id then (t.1, t.2.1, x') else t := by
    intro t' ht'
    unfold setT at ht'
    obtain ⟨t, ht, e⟩ := List.mem_map.1 ht'
    exact ⟨t, ht, e.symm⟩
  refine ⟨?_, fun t' ht' => ?_, ⟨h.low.1, fun t' ht' => ?_⟩, fun t' ht' => ?_, by rw [setT_blocks]; exact h.nodup⟩
  · rw [setT_outer]
    exact h.outer.keep k hob
  · obtain ⟨t, ht, rfl⟩ := hin' t' ht'
    by_cases e : t.1 = id
    · rw [if_pos e]
      have : t = (id, n, x) := nodup_inj (·.1) hkeys ht hin e
      rw [this]
      exact hm
    · rw [if_neg e]
      refine (h.inner t ht).keep k ?_
      simp only [List.mem_singleton]
      intro e2
      have : t = (id, n, x) := nodup_inj (·.2.1) h.nodup ht hin e2
      rw [this] at e
      exact e rfl
  · obtain ⟨t, ht, rfl⟩ := hin' t' ht'
    split
    · exact h.low.2 t ht
    · exact h.low.2 t ht
  · obtain ⟨t, ht, rfl⟩ := hin' t' ht'
    split
    · exact h.ne t ht
    · exact h.ne t ht
end Go.Proofs.YtbndpegilpgheaaGreat
