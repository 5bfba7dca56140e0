/-
  Package matcher: Select in plain words is what the document selects.
  No program in sight.
-/
import Derived.Test.YtejfigbjaiealaaGreatDoorIdxLaw
import Derived.Test.YtejfigbjaiealaaGreatDoorGetP
namespace Go.Proofs.YtejfigbjaiealaaGreatDoor
open Go Go.RowKit

/-- The values of a name, and their lists. -/
noncomputable def valsOf (T : List SerT) (nm : ByteArray) : List ByteArray := insAll (valX nm (allP T))

noncomputable def listsAt (T : List SerT) (nm : ByteArray) (vs : List ByteArray) : List (List Int) := vs.map fun v => putAll (getXs nm v T)

theorem listsAt_flat (T : List SerT) (nm : ByteArray) (vs : List ByteArray) : (listsAt T nm vs).flatten = catL T nm vs := by unfold listsAt catL; rw [List.flatMap_def]

noncomputable def withL (T : List SerT) (m : MatB) : List Int := anyL (listsAt T m.2.1 ((valsOf T m.2.1).filter (fitsB m.1 m.2.2)))

noncomputable def haveL (T : List SerT) (nm : ByteArray) : List Int := anyL (listsAt T nm (valsOf T nm))

noncomputable def allL (T : List SerT) : List Int := putAll (T.map (·.1))

/-- What one matcher asks for. -/
noncomputable def askL (T : List SerT) (m : MatB) : List Int := if fitsB m.1 m.2.2 ⟨#[]⟩ = true then anyL [withL T m, lessL (allL T) (haveL T m.2.1)] else withL T m

noncomputable def selL (T : List SerT) (L : List MatB) : List Int := L.foldl (fun o m => meetL o (askL T m)) (allL T)

theorem selL_snoc (T : List SerT) (L : List MatB) (m : MatB) : selL T (L ++ [m]) = meetL (selL T L) (askL T m) := by unfold selL; rw [List.foldl_append]; rfl

theorem askL_rises (T : List SerT) (m : MatB) : Rises (askL T m) := by
  unfold askL
  split
  · exact anyL_rises _
  · exact anyL_rises _

theorem allL_rises (T : List SerT) : Rises (allL T) := (putAll_good _).1

theorem selL_rises (T : List SerT) : ∀ (L : List MatB), Rises (selL T L) := by
  intro L
  have key : ∀ (L : List MatB) (o : List Int), Rises o → Rises (L.foldl (fun o m => meetL o (askL T m)) o) := by
    intro L
    induction L with
    | nil => intro o h; exact h
    | cons m L ih => intro o h; exact ih _ (filter_rises _ h)
  exact key L _ (allL_rises T)

theorem mem_meetL2 {a b : List Int} {n : Int} : n ∈ meetL a b ↔ n ∈ a ∧ n ∈ b := by unfold meetL; rw [List.mem_filter, decide_eq_true_eq]

theorem mem_lessL2 {a b : List Int} {n : Int} : n ∈ lessL a b ↔ n ∈ a ∧ n ∉ b := by unfold lessL; rw [List.mem_filter]; simp

theorem mem_selL {T : List SerT} {n : Int} : ∀ {L : List MatB}, n ∈ selL T L ↔ n ∈ allL T ∧ ∀ m ∈ L, n ∈ askL T m := by
  intro L
  have key : ∀ (L : List MatB) (o : List Int), n ∈ L.foldl (fun o m => meetL o (askL T m)) o ↔ n ∈ o ∧ ∀ m ∈ L, n ∈ askL T m := by
    intro L
    induction L with
    | nil => intro o; simp
    | cons m L ih =>
      intro o
      rw [List.foldl_cons, ih, mem_meetL2]
      constructor
      · rintro ⟨⟨h1, h2⟩, h3⟩
        exact ⟨h1, fun x hx => by
          rcases List.mem_cons.1 hx with rfl | hx
          · exact h2
          · exact h3 x hx⟩
      · rintro ⟨h1, h2⟩
        exact ⟨⟨h1, h2 m List.mem_cons_self⟩, fun x hx => h2 x (List.mem_cons_of_mem _ hx)⟩
  exact key L _

theorem mem_listsAt {T : List SerT} {nm : ByteArray} {vs : List ByteArray} {n : Int} : n ∈ anyL (listsAt T nm vs) ↔ ∃ v ∈ vs, ∃ s ∈ T, s.1 = n ∧ (nm, v) ∈ s.2 := by
  rw [mem_anyL, ← mem_catL, ← listsAt_flat, List.mem_flatten]

theorem mem_valsOf {T : List SerT} {nm v : ByteArray} : v ∈ valsOf T nm ↔ (nm, v) ∈ allP T := by unfold valsOf; rw [(insAll_good _).2.1, mem_valX]

theorem valsOf_nodup (T : List SerT) (nm : ByteArray) : (valsOf T nm).Nodup := insAll_nodup _

theorem listsAt_len {T : List SerT} (h : Dist T) (nm : ByteArray) {vs : List ByteArray} (hv : vs.Nodup) : (listsAt T nm vs).flatten.length ≤ T.length := by rw [listsAt_flat]; exact catL_len h nm hv

theorem anyAt_len {T : List SerT} (h : Dist T) (nm : ByteArray) {vs : List ByteArray} (hv : vs.Nodup) : (anyL (listsAt T nm vs)).length ≤ T.length := Nat.le_trans (anyL_len _) (listsAt_len h nm hv)

theorem allL_len (T : List SerT) : (allL T).length ≤ T.length := by have := putAll_len (T.map (·.1)); rwa [List.length_map] at this

theorem askL_len {T : List SerT} (h : Dist T) (m : MatB) : (askL T m).length ≤ T.length + T.length := by
  have h1 : (withL T m).length ≤ T.length := anyAt_len h _ ((valsOf_nodup T _).filter _)
  unfold askL
  split
  · refine Nat.le_trans (anyL_len _) ?_
    simp only [List.flatten_cons, List.flatten_nil, List.append_nil, List.length_append]
    have h2 := lessL_len (allL T) (haveL T m.2.1)
    have h3 := allL_len T
    omega
  · omega

theorem selL_len (T : List SerT) (L : List MatB) : (selL T L).length ≤ T.length := by
  have key : ∀ (L : List MatB) (o : List Int), (L.foldl (fun o m => meetL o (askL T m)) o).length ≤ o.length := by
    intro L
    induction L with
    | nil => intro o; exact Nat.le_refl _
    | cons m L ih => intro o; exact Nat.le_trans (ih _) (meetL_len _ _)
  exact Nat.le_trans (key L _) (allL_len T)

theorem getP_has {S : List PairB} {nm v : ByteArray} (hn : (S.map (·.1)).Nodup) (h : (nm, v) ∈ S) : getP S nm = v := by
  induction S with
  | nil => simp at h
  | cons p S ih =>
    rw [List.map_cons, List.nodup_cons] at hn
    obtain ⟨p1, p2⟩ := p
    rw [show getP ((p1, p2) :: S) nm = if p1 = nm then p2 else getP S nm from rfl]
    rcases List.mem_cons.1 h with e | h
    · injection e with e1 e2
      subst e1 e2
      simp
    · have hne : ¬ p1 = nm := fun e => hn.1 (List.mem_map.2 ⟨_, h, e.symm⟩)
      rw [if_neg hne]
      exact ih hn.2 h

theorem getP_lacks {S : List PairB} {nm : ByteArray} (h : ∀ v, (nm, v) ∉ S) : getP S nm = ⟨#[]⟩ := by
  induction S with
  | nil => rfl
  | cons p S ih =>
    obtain ⟨p1, p2⟩ := p
    have hne : ¬ p1 = nm := fun e => h p2 (by rw [e]; exact List.mem_cons_self)
    rw [show getP ((p1, p2) :: S) nm = if p1 = nm then p2 else getP S nm from rfl, if_neg hne]
    exact ih fun v hv => h v (List.mem_cons_of_mem _ hv)

/-- A series is asked for by a matcher just where it fits. -/
theorem mem_askL {T : List SerT} (h : Dist T) {s : SerT} (hs : s ∈ T) (m : MatB) : s.1 ∈ askL T m ↔ fitsM s.2 m = true := by
  have hall : s.1 ∈ allL T := ((putAll_good _).2 _).2 (List.mem_map.2 ⟨s, hs, rfl⟩)
  have hw : s.1 ∈ withL T m ↔ ∃ v, (m.2.1, v) ∈ s.2 ∧ fitsB m.1 m.2.2 v = true := by
    unfold withL
    rw [mem_listsAt]
    constructor
    · rintro ⟨v, hv, s', hs', e, hm⟩
      obtain rfl := h.same hs' hs e
      exact ⟨v, hm, (List.mem_filter.1 hv).2⟩
    · rintro ⟨v, hm, hf⟩
      exact ⟨v, List.mem_filter.2 ⟨mem_valsOf.2 (mem_allP.2 ⟨s, hs, hm⟩), hf⟩, s, hs, rfl, hm⟩
  have hh : s.1 ∈ haveL T m.2.1 ↔ ∃ v, (m.2.1, v) ∈ s.2 := by
    unfold haveL
    rw [mem_listsAt]
    constructor
    · rintro ⟨v, _, s', hs', e, hm⟩
      obtain rfl := h.same hs' hs e
      exact ⟨v, hm⟩
    · rintro ⟨v, hm⟩
      exact ⟨v, mem_valsOf.2 (mem_allP.2 ⟨s, hs, hm⟩), s, hs, rfl, hm⟩
  unfold fitsM
  by_cases hx : ∃ v, (m.2.1, v) ∈ s.2
  · obtain ⟨v, hv⟩ := hx
    rw [getP_has (h.names s hs) hv]
    have hw' : s.1 ∈ withL T m ↔ fitsB m.1 m.2.2 v = true := by
      rw [hw]
      constructor
      · rintro ⟨v', hv', hf⟩
        rw [val_same (h.names s hs) hv hv']
        exact hf
      · exact fun hf => ⟨v, hv, hf⟩
    unfold askL
    split
    · rw [mem_anyL]
      constructor
      · rintro ⟨l, hl, hn⟩
        simp only [List.mem_cons, List.not_mem_nil, or_false] at hl
        rcases hl with rfl | rfl
        · exact hw'.1 hn
        · exact absurd (hh.2 ⟨v, hv⟩) (mem_lessL2.1 hn).2
      · exact fun hf => ⟨_, List.mem_cons_self, hw'.2 hf⟩
    · exact hw'
  · have hl : ∀ v, (m.2.1, v) ∉ s.2 := fun v hv => hx ⟨v, hv⟩
    rw [getP_lacks hl]
    have hnw : s.1 ∉ withL T m := fun hm => by
      obtain ⟨v, hv, _⟩ := hw.1 hm
      exact hl v hv
    unfold askL
    split
    · rename_i hf
      refine ⟨fun _ => hf, fun _ => ?_⟩
      rw [mem_anyL]
      exact ⟨_, List.mem_cons_of_mem _ List.mem_cons_self, mem_lessL2.2 ⟨hall, fun hm => hx (hh.1 hm)⟩⟩
    · rename_i hf
      exact ⟨fun hm => absurd hm hnw, fun hc => absurd hc hf⟩

/-- SELECT IS MATCH. -/
theorem selL_is {T : List SerT} (h : Dist T) (L : List MatB) : selL T L = putAll ((T.filter fun s => L.all (fitsM s.2)).map (·.1)) := by
  refine rises_uniq (selL_rises T L) (putAll_good _).1 fun n => ?_
  rw [mem_selL, (putAll_good _).2, List.mem_map]
  constructor
  · rintro ⟨h1, h2⟩
    rw [allL, (putAll_good _).2, List.mem_map] at h1
    obtain ⟨s, hs, rfl⟩ := h1
    refine ⟨s, List.mem_filter.2 ⟨hs, ?_⟩, rfl⟩
    rw [List.all_eq_true]
    exact fun m hm => (mem_askL h hs m).1 (h2 m hm)
  · rintro ⟨s, hs, rfl⟩
    obtain ⟨h1, h2⟩ := List.mem_filter.1 hs
    rw [List.all_eq_true] at h2
    exact ⟨((putAll_good _).2 _).2 (List.mem_map.2 ⟨s, h1, rfl⟩), fun m hm => (mem_askL h h1 m).2 (h2 m hm)⟩
end Go.Proofs.YtejfigbjaiealaaGreatDoor
