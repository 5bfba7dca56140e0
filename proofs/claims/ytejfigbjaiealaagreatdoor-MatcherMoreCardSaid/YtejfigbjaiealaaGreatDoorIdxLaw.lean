/-
  Plain laws of the series that an index holds: the lists of the values of one name are apart, and are as many numbers as there are pairs of that name.
  No program in sight.
-/
import Derived.Test.YtejfigbjaiealaaGreatDoorTextsR
namespace Go.Proofs.YtejfigbjaiealaaGreatDoor
open Go Go.RowKit

/-- Series of distinct numbers, each of distinct names. -/
structure Dist (T : List SerT) : Prop where
  nums : (T.map (·.1)).Nodup
  names : ∀ s ∈ T, (s.2.map (·.1)).Nodup

theorem Dist.same {T : List SerT} (h : Dist T) {s s' : SerT} (hs : s ∈ T) (hs' : s' ∈ T) (e : s.1 = s'.1) : s = s' := by
  have key : ∀ (T : List SerT), (T.map (·.1)).Nodup → s ∈ T → s' ∈ T → s = s' := by
    intro T
    induction T with
    | nil => intro _ h; simp at h
    | cons x T ih =>
      intro hn h1 h2
      rw [List.map_cons, List.nodup_cons] at hn
      rcases List.mem_cons.1 h1 with e1 | h1
      · rcases List.mem_cons.1 h2 with e2 | h2
        · rw [e1, e2]
        · exact absurd (List.mem_map.2 ⟨s', h2, by rw [← e, e1]⟩) hn.1
      · rcases List.mem_cons.1 h2 with e2 | h2
        · exact absurd (List.mem_map.2 ⟨s, h1, by rw [e, e2]⟩) hn.1
        · exact ih hn.2 h1 h2
  exact key T h.nums hs hs'

theorem val_same {P : List PairB} (h : (P.map (·.1)).Nodup) {nm v v' : ByteArray} (h1 : (nm, v) ∈ P) (h2 : (nm, v') ∈ P) : v = v' := by
  induction P with
  | nil => simp at h1
  | cons p P ih =>
    rw [List.map_cons, List.nodup_cons] at h
    rcases List.mem_cons.1 h1 with e1 | h1
    · rcases List.mem_cons.1 h2 with e2 | h2
      · have := e1.trans e2.symm
        injection this
      · exact absurd (List.mem_map.2 ⟨_, h2, by rw [← e1]⟩) h.1
    · rcases List.mem_cons.1 h2 with e2 | h2
      · exact absurd (List.mem_map.2 ⟨_, h1, by rw [← e2]⟩) h.1
      · exact ih h.2 h1 h2

/-- The numbers of the series that have a name, value by value. -/
noncomputable def catL (T : List SerT) (nm : ByteArray) (vs : List ByteArray) : List Int := vs.flatMap fun v => putAll (getXs nm v T)

theorem rises_nodup {l : List Int} (h : Rises l) : l.Nodup := h.imp fun hab e => by subst e; exact absurd hab (Int.lt_irrefl _)

theorem mem_catL {T : List SerT} {nm : ByteArray} {vs : List ByteArray} {n : Int} : n ∈ catL T nm vs ↔ ∃ v ∈ vs, ∃ s ∈ T, s.1 = n ∧ (nm, v) ∈ s.2 := by
  unfold catL
  rw [List.mem_flatMap]
  constructor
  · rintro ⟨v, hv, h⟩
    rw [(putAll_good _).2, mem_getXs] at h
    exact ⟨v, hv, h⟩
  · rintro ⟨v, hv, h⟩
    exact ⟨v, hv, by rw [(putAll_good _).2, mem_getXs]; exact h⟩

theorem catL_nodup {T : List SerT} (h : Dist T) (nm : ByteArray) {vs : List ByteArray} (hv : vs.Nodup) : (catL T nm vs).Nodup := by
  unfold catL
  rw [List.nodup_iff_pairwise_ne, List.pairwise_flatMap]
  refine ⟨fun v _ => rises_nodup (putAll_good _).1, hv.imp fun {v v'} hne x hx y hy e => hne ?_⟩
  rw [(putAll_good _).2, mem_getXs] at hx hy
  obtain ⟨s, hs, e1, h1⟩ := hx
  obtain ⟨s', hs', e2, h2⟩ := hy
  obtain rfl := h.same hs hs' (by rw [e1, e2, e])
  exact val_same (h.names s hs) h1 h2

theorem catL_len {T : List SerT} (h : Dist T) (nm : ByteArray) {vs : List ByteArray} (hv : vs.Nodup) : (catL T nm vs).length ≤ T.length := by
  have := nodup_le (m := T.map (·.1)) (catL_nodup h nm hv) fun n hn => by
    obtain ⟨v, _, s, hs, e, _⟩ := mem_catL.1 hn
    exact List.mem_map.2 ⟨s, hs, e⟩
  rwa [List.length_map] at this
open Classical in
/-- How many pairs bear a name. -/
noncomputable def nmN (nm : ByteArray) (P : List PairB) : Nat := (P.filter fun p => p.1 = nm).length

theorem nmN_app (nm : ByteArray) (P Q : List PairB) : nmN nm (P ++ Q) = nmN nm P + nmN nm Q := by simp [nmN]

theorem nmN_yes {nm : ByteArray} {P : List PairB} {p : PairB} (h : p.1 = nm) : nmN nm (P ++ [p]) = nmN nm P + 1 := by simp [nmN, List.filter_append, h]

theorem nmN_no {nm : ByteArray} {P : List PairB} {p : PairB} (h : ¬ p.1 = nm) : nmN nm (P ++ [p]) = nmN nm P := by simp [nmN, List.filter_append, h]

theorem nmN_len (nm : ByteArray) (P : List PairB) : nmN nm P ≤ P.length := by unfold nmN; exact List.length_filter_le _ _

theorem insAll_nodup (X : List ByteArray) : (insAll X).Nodup := (insAll_good X).1.imp fun hab e => by subst e; exact ltT_irr _ hab
open Classical in
theorem catL_count {T : List SerT} (h : Dist T) (nm : ByteArray) : (catL T nm (insAll (valX nm (allP T)))).length = nmN nm (allP T) := by
  have hD : ∀ T : List SerT, (T.flatMap fun s => (s.2.filter fun p => p.1 = nm).map fun _ => s.1).length = nmN nm (allP T) := by
    intro T
    induction T with
    | nil => rfl
    | cons s T ih =>
      have e : allP (s :: T) = s.2 ++ allP T := by simp [allP]
      rw [List.flatMap_cons, List.length_append, ih, e, nmN_app, List.length_map]
      rfl
  have hmem : ∀ n, (n ∈ T.flatMap fun s => (s.2.filter fun p => p.1 = nm).map fun _ => s.1) ↔ ∃ s ∈ T, s.1 = n ∧ ∃ v, (nm, v) ∈ s.2 := fun n => by
    rw [List.mem_flatMap]
    constructor
    · rintro ⟨s, hs, hn⟩
      obtain ⟨p, hp, e⟩ := List.mem_map.1 hn
      obtain ⟨h1, h2⟩ := List.mem_filter.1 hp
      have h2 : p.1 = nm := by simpa using h2
      exact ⟨s, hs, e, p.2, by rw [← h2]; exact h1⟩
    · rintro ⟨s, hs, e, v, hv⟩
      exact ⟨s, hs, List.mem_map.2 ⟨(nm, v), List.mem_filter.2 ⟨hv, by simp⟩, e⟩⟩
  have hnd : (T.flatMap fun s => (s.2.filter fun p => p.1 = nm).map fun _ => s.1).Nodup := by
    rw [List.nodup_iff_pairwise_ne, List.pairwise_flatMap]
    refine ⟨fun s hs => ?_, ?_⟩
    · have hone : ∀ P : List PairB, (P.map (·.1)).Nodup → (P.filter fun p => p.1 = nm).length ≤ 1 := by
        intro P
        induction P with
        | nil => simp
        | cons p P ih =>
          intro hn
          rw [List.map_cons, List.nodup_cons] at hn
          by_cases hp : p.1 = nm
          · have : P.filter (fun p => p.1 = nm) = [] := by
              rw [List.filter_eq_nil_iff]
              intro q hq hc
              have hc : q.1 = nm := by simpa using hc
              exact hn.1 (List.mem_map.2 ⟨q, hq, by rw [hc, hp]⟩)
            simp [hp, this]
          · have := ih hn.2
            simp only [List.filter_cons, hp, decide_false, Bool.false_eq_true, if_false]
            exact this
      have h1 := hone s.2 (h.names s hs)
      have hF : ∀ F : List PairB, F.length ≤ 1 → (F.map fun _ => s.1).Pairwise fun a b => a ≠ b := by
        intro F hF
        match F, hF with
        | [], _ => simp
        | [p], _ => simp
        | p :: q :: r, h => simp at h
      exact hF _ h1
    · refine (List.pairwise_map.1 h.nums).imp fun {s s'} hne x hx y hy e => hne ?_
      obtain ⟨_, _, rfl⟩ := List.mem_map.1 hx
      obtain ⟨_, _, rfl⟩ := List.mem_map.1 hy
      exact e
  have hcat : ∀ n, n ∈ catL T nm (insAll (valX nm (allP T))) ↔ ∃ s ∈ T, s.1 = n ∧ ∃ v, (nm, v) ∈ s.2 := fun n => by
    rw [mem_catL]
    constructor
    · rintro ⟨v, _, s, hs, e, hm⟩
      exact ⟨s, hs, e, v, hm⟩
    · rintro ⟨s, hs, e, v, hm⟩
      exact ⟨v, by rw [(insAll_good _).2.1, mem_valX]; exact mem_allP.2 ⟨s, hs, hm⟩, s, hs, e, hm⟩
  rw [← hD]
  exact Nat.le_antisymm (nodup_le (catL_nodup h nm (insAll_nodup _)) fun n hn => (hmem n).2 ((hcat n).1 hn)) (nodup_le hnd fun n hn => (hcat n).2 ((hmem n).1 hn))

/-- A value of a name is some series'. -/
theorem val_ne {T : List SerT} {nm v : ByteArray} (hv : v ∈ insAll (valX nm (allP T))) : putAll (getXs nm v T) ≠ [] := by
  rw [(insAll_good _).2.1, mem_valX] at hv
  obtain ⟨s, hs, hm⟩ := mem_allP.1 hv
  intro e
  have := ((putAll_good (getXs nm v T)).2 s.1).2 (mem_getXs.2 ⟨s, hs, rfl, hm⟩)
  rw [e] at this
  cases this

theorem Idx.dist {w : World} {x : Nat} {T : List SerT} (h : Idx w x T) : Dist T ∧ ∀ s ∈ T, 0 ≤ s.1 ∧ s.1 < 12 := by
  obtain ⟨B, mb, va, E, all, _, _, h3⟩ := h
  exact ⟨⟨h3.nod, fun s hs => (h3.ser s hs).nod⟩, h3.range⟩

theorem Idx.few {w : World} {x : Nat} {T : List SerT} (h : Idx w x T) : T.length ≤ 12 := by
  obtain ⟨B, mb, va, E, all, _, _, h3⟩ := h
  exact h3.len

theorem Idx.pairs {w : World} {x : Nat} {T : List SerT} (h : Idx w x T) : (allP T).length ≤ 120 := by
  obtain ⟨B, mb, va, E, all, _, _, h3⟩ := h
  exact allP_len (fun s hs => (h3.ser s hs).len) h3.len
end Go.Proofs.YtejfigbjaiealaaGreatDoor
