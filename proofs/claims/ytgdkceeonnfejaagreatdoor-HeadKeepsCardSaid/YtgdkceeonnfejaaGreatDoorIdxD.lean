/-
  The index of series, by what the document says of them: All, Get, Names, Values.
  No condition beyond those that each theorem states.

  Plain laws of the series that an index holds: the lists of the values of one name are apart, and are as many numbers as there are pairs of that name.
  No program in sight.

  Package matcher: Select in plain words is what the document selects.
  No program in sight.

  Package matcher: with and Select; the document's Select; walked.
  The index is one of few series (Idx).
-/
import Derived.Test.YtgdkceeonnfejaaGreatDoorPostGood
import Derived.Test.YtgdkceeonnfejaaGreatDoorNamesE
import Derived.Test.YtgdkceeonnfejaaGreatDoorGetP
namespace Go.Proofs.YtgdkceeonnfejaaGreatDoor
set_option maxRecDepth 100000
set_option maxHeartbeats 4000000
set_option linter.unusedSimpArgs false
open Go Go.RowKit
abbrev Strs (B : Nat) (w : World) (v : Value) (l : List ByteArray) : Prop := SliceFrom B 1 (fun x => [Value.string x]) w v l
abbrev OwnS (B : Nat) (w : World) (v : Value) (l : List ByteArray) : Prop := w.ownsRow B 9 1 v l.length (l.map Value.string)
theorem OwnS.strs {B : Nat} {w : World} {v : Value} {l : List ByteArray} (h : OwnS B w v l) : Strs B w v l := by
 refine sliceFrom_row (e := 9) (fun _ => rfl) ?_
 rw [flat_one]
 exact h
theorem putL_len1 (l : List Int) (n : Int) : (putL l n).length ≤ l.length + 1 := by
 unfold putL
 split
 ·omega
 ·rw [length_insL]; omega
theorem putAll_len (X : List Int) : (putAll X).length ≤ X.length := by
 have key : ∀ (X o : List Int), (X.foldl putL o).length ≤ o.length + X.length := by
  intro X
  induction X with
  | nil => intro o; simp
  | cons x X ih =>
   intro o
   have h1 := ih (putL o x)
   have h2 := putL_len1 o x
   rw [List.foldl_cons, List.length_cons]
   omega
 simpa [putAll] using key X []
theorem valX_len (nm : ByteArray) (P : List PairB) : (valX nm P).length ≤ P.length := by unfold valX; rw [List.length_map]; exact List.length_filter_le _ _
def Idx (w : World) (x : Nat) (T : List SerT) : Prop := ∃ (R : List Int) (B mb : Nat) (va : Value) (E : OutG) (all : List Int), IxG B w x mb va E all ∧ RowsOk R E ∧ IdxI R T (absG E) all
theorem Idx.keep {w w' : World} {x : Nat} {T : List SerT} (h : Idx w x T) (k : Keeps [] w w') : Idx w' x T := by
 obtain ⟨R, B, mb, va, E, all, h1, h2⟩ := h
 exact ⟨R, B, mb, va, E, all, h1.keep k, h2⟩
instance go1Idx {w w' : World} (x : Nat) (T : List SerT) : Go1 w w' (Idx w x T) (Idx w' x T) := ⟨fun k h => h.keep k⟩
theorem allD_spec (w : World) (x : Nat) (T : List SerT) (h : Idx w x T) :
  Calls Tryz.prog 72 #[.pointer (some ⟨x, 0, none⟩)] w fun e w' => ∃ v, e = .returned v ∧ Own w.heap.size w' v (putAll (T.map (·.1))) ∧ Keeps [] w w' := by
 obtain ⟨R, B, mb, va, E, all, h1, h2, h3⟩ := h
 have := allG_spec B w x mb va E all h1 (by have := h3.allOk.len; omega)
 rw [h3.all_doc] at this
 exact this
theorem getD_spec (w : World) (x : Nat) (T : List SerT) (nm val : ByteArray) (h : Idx w x T) :
  Calls Tryz.prog 76 #[.pointer (some ⟨x, 0, none⟩), .string nm, .string val] w fun e w' => ∃ v, e = .returned v ∧ Own w.heap.size w' v (putAll (getXs nm val T)) ∧ Keeps [] w w' := by
 obtain ⟨R, B, mb, va, E, all, h1, h2, h3⟩ := h
 have := getG_spec B w x mb va E all nm val h1 h2
 rw [h3.get_doc] at this
 exact this
theorem size42 {n : Nat} (h : n ≤ 42) : n ≤ maxLen := by unfold maxLen; omega
theorem sortedNil_call (w : World) :
  Calls Tryz.prog 106 #[.func (.func 142) #[] #[.pointer (some ⟨w.heap.size, 0, none⟩)]] (w.alloc (.cells #[.map none] 171))
   fun e w' => ∃ v, e = .returned v ∧ OwnS (w.heap.size + 1) w' v [] ∧ Keeps [] w w' := by
 refine (callsIn_wide.1 (Tryz.slices_Sorted_keys_nil_106_107 w)).mono ?_
 rintro e w' ⟨v, ss, rfl, rfl, hrow, _, hb⟩
 refine ⟨v, rfl, ?_, (Keeps.refl [] w).alloc _ |>.trans (Keeps.of_below hb)⟩
 simpa [OwnS] using hrow
theorem valuesNone_spec (B : Nat) (w : World) (x mb : Nat) (va : Value) (E : OutG) (all : List Int) (nm : ByteArray) (h : IxG B w x mb va E all) (hI : look (absG E) nm = none) :
  Calls Tryz.prog 75 #[.pointer (some ⟨x, 0, none⟩), .string nm] w fun e w' => ∃ v, e = .returned v ∧ OwnS w.heap.size w' v [] ∧ Keeps [] w w' := by
 have c0 := cells_at h.at_
 have l0 := lt_of_at h.at_
 have hlk : look E nm = none := by
  rw [absG_look] at hI
  cases hq : look E nm with
  | none => rfl
  | some e => rw [hq] at hI; cases hI
 have F1 := h.map.run_lookup (P := Tryz.prog) Tryz.underlying140 Tryz.underlying9 (zeroInner w) nm false
 rw [show lookVal (encMap encEntG E) nm (.map none) false = .map none from by simp [lookVal, look_enc, hlk]] at F1
 clear h hI hlk
 go_enter Tryz.func75, Tryz.ntmps75
 go_wp2_with fail
 refine (mapKeysGI_call w none).mono ?_
 rintro e w1 ⟨rfl, rfl⟩
 go_wp2_with fail
 refine (sortedNil_call w).mono ?_
 rintro e w2 ⟨v2, rfl, hrow, hk⟩
 have Hk := Lib.hid (And.intro (row_base (b' := w.heap.size) hrow (by omega)) hk)
 clear hrow hk c0 l0
 go_wp2_with fail
 go_ret
 exact ⟨_, rfl, Hk.out.1, Hk.out.2⟩
theorem valuesD_spec (w : World) (x : Nat) (T : List SerT) (nm : ByteArray) (h : Idx w x T) :
  Calls Tryz.prog 75 #[.pointer (some ⟨x, 0, none⟩), .string nm] w fun e w' => ∃ v, e = .returned v ∧ OwnS w.heap.size w' v (insAll (valX nm (allP T))) ∧ Keeps [] w w' := by
 obtain ⟨R, B, mb, va, E, all, h1, h2, h3⟩ := h
 cases hI : look (absG E) nm with
 | none =>
  rw [h3.values_none hI]
  exact valuesNone_spec B w x mb va E all nm h1 hI
 | some I =>
  have hz := h3.sizes h1.nodupG
  have hm := hz.2 _ (look_memG hI)
  have := valuesG_spec B w x mb va E all nm I h1 hI (fun p hp => size42 (hm.2.2 p hp)) (Nat.le_trans hm.2.1 (by decide))
  rw [h3.values_doc h1.nodupG hI] at this
  exact this
structure Dist (T : List SerT) : Prop where
 nums : (T.map (·.1)).Nodup
 names : ∀ s ∈ T, (s.2.map (·.1)).Nodup
theorem Dist.same {T : List SerT} (h : Dist T) {s s' : SerT} (hs : s ∈ T) (hs' : s' ∈ T) (e : s.1 = s'.1) : s = s' := by
 have key : ∀ (T : List SerT), (T.map (·.1)).Nodup → s ∈ T → s' ∈ T → s = s' := by
  intro T
  induction T with
  | nil => intro _ h; simp at h
  | cons x T ih =>
   intro hn h1 h2
   rw [List.map_cons, List.nodup_cons] at hn
   rcases List.mem_cons.1 h1 with e1 | h1
   ·rcases List.mem_cons.1 h2 with e2 | h2
    ·rw [e1, e2]
    ·exact absurd (List.mem_map.2 ⟨s', h2, by rw [← e, e1]⟩) hn.1
   ·rcases List.mem_cons.1 h2 with e2 | h2
    ·exact absurd (List.mem_map.2 ⟨s, h1, by rw [e, e2]⟩) hn.1
    ·exact ih hn.2 h1 h2
 exact key T h.nums hs hs'
theorem val_same {P : List PairB} (h : (P.map (·.1)).Nodup) {nm v v' : ByteArray} (h1 : (nm, v) ∈ P) (h2 : (nm, v') ∈ P) : v = v' := by
 induction P with
 | nil => simp at h1
 | cons p P ih =>
  rw [List.map_cons, List.nodup_cons] at h
  rcases List.mem_cons.1 h1 with e1 | h1
  ·rcases List.mem_cons.1 h2 with e2 | h2
   ·have := e1.trans e2.symm
    injection this
   ·exact absurd (List.mem_map.2 ⟨_, h2, by rw [← e1]⟩) h.1
  ·rcases List.mem_cons.1 h2 with e2 | h2
   ·exact absurd (List.mem_map.2 ⟨_, h1, by rw [← e2]⟩) h.1
   ·exact ih h.2 h1 h2
noncomputable def catL (T : List SerT) (nm : ByteArray) (vs : List ByteArray) : List Int := vs.flatMap fun v => putAll (getXs nm v T)
theorem mem_catL {T : List SerT} {nm : ByteArray} {vs : List ByteArray} {n : Int} : n ∈ catL T nm vs ↔ ∃ v ∈ vs, ∃ s ∈ T, s.1 = n ∧ (nm, v) ∈ s.2 := by
 unfold catL
 rw [List.mem_flatMap]
 constructor
 ·rintro ⟨v, hv, h⟩
  rw [(putAll_good _).2, mem_getXs] at h
  exact ⟨v, hv, h⟩
 ·rintro ⟨v, hv, h⟩
  exact ⟨v, hv, by rw [(putAll_good _).2, mem_getXs]; exact h⟩
theorem catL_nodup {T : List SerT} (h : Dist T) (nm : ByteArray) {vs : List ByteArray} (hv : vs.Nodup) : (catL T nm vs).Nodup := by
 unfold catL
 rw [List.nodup_iff_pairwise_ne, List.pairwise_flatMap]
 refine ⟨fun v _ => rises_nodup (putAll_good _).1, hv.imp fun {v v'} hne x hx y hy e => hne ?_⟩
 rw [(putAll_good _).2, mem_getXs] at hx hy
 obtain ⟨s, hs, e1, h1⟩ := hx
 obtain ⟨s', hs', e2, h2⟩ := hy
 obtain rfl := h.same hs hs' (by rw [e1, e2, e])
 exact val_same (h.names s hs) h1 h2
theorem catL_len {T : List SerT} (h : Dist T) (nm : ByteArray) {vs : List ByteArray} (hv : vs.Nodup) : (catL T nm vs).length ≤ T.length := by
 have := nodup_le (m := T.map (·.1)) (catL_nodup h nm hv) fun n hn => by
  obtain ⟨v, _, s, hs, e, _⟩ := mem_catL.1 hn
  exact List.mem_map.2 ⟨s, hs, e⟩
 rwa [List.length_map] at this
open Classical in
theorem insAll_nodup (X : List ByteArray) : (insAll X).Nodup := (insAll_good X).1.imp fun hab e => by subst e; exact ltT_irr _ hab
open Classical in
theorem Idx.dist {w : World} {x : Nat} {T : List SerT} (h : Idx w x T) : Dist T ∧ True := by
 obtain ⟨_, B, mb, va, E, all, _, _, h3⟩ := h
 exact ⟨⟨h3.nod, fun s hs => (h3.ser s hs).nod⟩, trivial⟩
theorem Idx.few {w : World} {x : Nat} {T : List SerT} (h : Idx w x T) : T.length ≤ 12 := by
 obtain ⟨_, B, mb, va, E, all, _, _, h3⟩ := h
 exact h3.len
theorem Idx.pairs {w : World} {x : Nat} {T : List SerT} (h : Idx w x T) : (allP T).length ≤ 120 := by
 obtain ⟨_, B, mb, va, E, all, _, _, h3⟩ := h
 exact allP_len (fun s hs => (h3.ser s hs).len) h3.len
noncomputable def valsOf (T : List SerT) (nm : ByteArray) : List ByteArray := insAll (valX nm (allP T))
noncomputable def listsAt (T : List SerT) (nm : ByteArray) (vs : List ByteArray) : List (List Int) := vs.map fun v => putAll (getXs nm v T)
theorem listsAt_flat (T : List SerT) (nm : ByteArray) (vs : List ByteArray) : (listsAt T nm vs).flatten = catL T nm vs := by unfold listsAt catL; rw [List.flatMap_def]
noncomputable def withL (T : List SerT) (m : MatB) : List Int := anyL (listsAt T m.2.1 ((valsOf T m.2.1).filter (fitsB m.1 m.2.2)))
noncomputable def haveL (T : List SerT) (nm : ByteArray) : List Int := anyL (listsAt T nm (valsOf T nm))
noncomputable def allL (T : List SerT) : List Int := putAll (T.map (·.1))
noncomputable def askL (T : List SerT) (m : MatB) : List Int := if fitsB m.1 m.2.2 ⟨#[]⟩ = true then anyL [withL T m, lessL (allL T) (haveL T m.2.1)] else withL T m
noncomputable def selL (T : List SerT) (L : List MatB) : List Int := L.foldl (fun o m => meetL o (askL T m)) (allL T)
theorem selL_snoc (T : List SerT) (L : List MatB) (m : MatB) : selL T (L ++ [m]) = meetL (selL T L) (askL T m) := by unfold selL; rw [List.foldl_append]; rfl
theorem askL_rises (T : List SerT) (m : MatB) : Rises (askL T m) := by
 unfold askL
 split
 ·exact anyL_rises _
 ·exact anyL_rises _
theorem allL_rises (T : List SerT) : Rises (allL T) := (putAll_good _).1
theorem selL_rises (T : List SerT) : ∀ (L : List MatB), Rises (selL T L) := by
 intro L
 have key : ∀ (L : List MatB) (o : List Int), Rises o → Rises (L.foldl (fun o m => meetL o (askL T m)) o) := by
  intro L
  induction L with
  | nil => intro o h; exact h
  | cons m L ih => intro o h; exact ih _ (filter_rises _ h)
 exact key L _ (allL_rises T)
theorem mem_meetL2 {a b : List Int} {n : Int} : n ∈ meetL a b ↔ n ∈ a ∧ n ∈ b := by unfold meetL; rw [List.mem_filter, decide_eq_true_eq]
theorem mem_lessL2 {a b : List Int} {n : Int} : n ∈ lessL a b ↔ n ∈ a ∧ n ∉ b := by unfold lessL; rw [List.mem_filter]; simp
theorem mem_selL {T : List SerT} {n : Int} : ∀ {L : List MatB}, n ∈ selL T L ↔ n ∈ allL T ∧ ∀ m ∈ L, n ∈ askL T m := by
 intro L
 have key : ∀ (L : List MatB) (o : List Int), n ∈ L.foldl (fun o m => meetL o (askL T m)) o ↔ n ∈ o ∧ ∀ m ∈ L, n ∈ askL T m := by
  intro L
  induction L with
  | nil => intro o; simp
  | cons m L ih =>
   intro o
   rw [List.foldl_cons, ih, mem_meetL2]
   constructor
   ·rintro ⟨⟨h1, h2⟩, h3⟩
    exact ⟨h1, fun x hx => by
     rcases List.mem_cons.1 hx with rfl | hx
     ·exact h2
     ·exact h3 x hx⟩
   ·rintro ⟨h1, h2⟩
    exact ⟨⟨h1, h2 m List.mem_cons_self⟩, fun x hx => h2 x (List.mem_cons_of_mem _ hx)⟩
 exact key L _
theorem mem_listsAt {T : List SerT} {nm : ByteArray} {vs : List ByteArray} {n : Int} : n ∈ anyL (listsAt T nm vs) ↔ ∃ v ∈ vs, ∃ s ∈ T, s.1 = n ∧ (nm, v) ∈ s.2 := by
 rw [mem_anyL, ← mem_catL, ← listsAt_flat, List.mem_flatten]
theorem mem_valsOf {T : List SerT} {nm v : ByteArray} : v ∈ valsOf T nm ↔ (nm, v) ∈ allP T := by unfold valsOf; rw [(insAll_good _).2.1, mem_valX]
theorem valsOf_nodup (T : List SerT) (nm : ByteArray) : (valsOf T nm).Nodup := insAll_nodup _
theorem listsAt_len {T : List SerT} (h : Dist T) (nm : ByteArray) {vs : List ByteArray} (hv : vs.Nodup) : (listsAt T nm vs).flatten.length ≤ T.length := by rw [listsAt_flat]; exact catL_len h nm hv
theorem anyAt_len {T : List SerT} (h : Dist T) (nm : ByteArray) {vs : List ByteArray} (hv : vs.Nodup) : (anyL (listsAt T nm vs)).length ≤ T.length := Nat.le_trans (anyL_len _) (listsAt_len h nm hv)
theorem allL_len (T : List SerT) : (allL T).length ≤ T.length := by have := putAll_len (T.map (·.1)); rwa [List.length_map] at this
theorem askL_len {T : List SerT} (h : Dist T) (m : MatB) : (askL T m).length ≤ T.length + T.length := by
 have h1 : (withL T m).length ≤ T.length := anyAt_len h _ ((valsOf_nodup T _).filter _)
 unfold askL
 split
 ·refine Nat.le_trans (anyL_len _) ?_
  simp only [List.flatten_cons, List.flatten_nil, List.append_nil, List.length_append]
  have h2 := lessL_len (allL T) (haveL T m.2.1)
  have h3 := allL_len T
  omega
 ·omega
theorem selL_len (T : List SerT) (L : List MatB) : (selL T L).length ≤ T.length := by
 have key : ∀ (L : List MatB) (o : List Int), (L.foldl (fun o m => meetL o (askL T m)) o).length ≤ o.length := by
  intro L
  induction L with
  | nil => intro o; exact Nat.le_refl _
  | cons m L ih => intro o; exact Nat.le_trans (ih _) (meetL_len _ _)
 exact Nat.le_trans (key L _) (allL_len T)
theorem getP_has {S : List PairB} {nm v : ByteArray} (hn : (S.map (·.1)).Nodup) (h : (nm, v) ∈ S) : getP S nm = v := by
 induction S with
 | nil => simp at h
 | cons p S ih =>
  rw [List.map_cons, List.nodup_cons] at hn
  obtain ⟨p1, p2⟩ := p
  rw [show getP ((p1, p2) :: S) nm = if p1 = nm then p2 else getP S nm from rfl]
  rcases List.mem_cons.1 h with e | h
  ·injection e with e1 e2
   subst e1 e2
   simp
  ·have hne : ¬ p1 = nm := fun e => hn.1 (List.mem_map.2 ⟨_, h, e.symm⟩)
   rw [if_neg hne]
   exact ih hn.2 h
theorem getP_lacks {S : List PairB} {nm : ByteArray} (h : ∀ v, (nm, v) ∉ S) : getP S nm = ⟨#[]⟩ := by
 induction S with
 | nil => rfl
 | cons p S ih =>
  obtain ⟨p1, p2⟩ := p
  have hne : ¬ p1 = nm := fun e => h p2 (by rw [e]; exact List.mem_cons_self)
  rw [show getP ((p1, p2) :: S) nm = if p1 = nm then p2 else getP S nm from rfl, if_neg hne]
  exact ih fun v hv => h v (List.mem_cons_of_mem _ hv)
theorem mem_askL {T : List SerT} (h : Dist T) {s : SerT} (hs : s ∈ T) (m : MatB) : s.1 ∈ askL T m ↔ fitsM s.2 m = true := by
 have hall : s.1 ∈ allL T := ((putAll_good _).2 _).2 (List.mem_map.2 ⟨s, hs, rfl⟩)
 have hw : s.1 ∈ withL T m ↔ ∃ v, (m.2.1, v) ∈ s.2 ∧ fitsB m.1 m.2.2 v = true := by
  unfold withL
  rw [mem_listsAt]
  constructor
  ·rintro ⟨v, hv, s', hs', e, hm⟩
   obtain rfl := h.same hs' hs e
   exact ⟨v, hm, (List.mem_filter.1 hv).2⟩
  ·rintro ⟨v, hm, hf⟩
   exact ⟨v, List.mem_filter.2 ⟨mem_valsOf.2 (mem_allP.2 ⟨s, hs, hm⟩), hf⟩, s, hs, rfl, hm⟩
 have hh : s.1 ∈ haveL T m.2.1 ↔ ∃ v, (m.2.1, v) ∈ s.2 := by
  unfold haveL
  rw [mem_listsAt]
  constructor
  ·rintro ⟨v, _, s', hs', e, hm⟩
   obtain rfl := h.same hs' hs e
   exact ⟨v, hm⟩
  ·rintro ⟨v, hm⟩
   exact ⟨v, mem_valsOf.2 (mem_allP.2 ⟨s, hs, hm⟩), s, hs, rfl, hm⟩
 unfold fitsM
 by_cases hx : ∃ v, (m.2.1, v) ∈ s.2
 ·obtain ⟨v, hv⟩ := hx
  rw [getP_has (h.names s hs) hv]
  have hw' : s.1 ∈ withL T m ↔ fitsB m.1 m.2.2 v = true := by
   rw [hw]
   constructor
   ·rintro ⟨v', hv', hf⟩
    rw [val_same (h.names s hs) hv hv']
    exact hf
   ·exact fun hf => ⟨v, hv, hf⟩
  unfold askL
  split
  ·rw [mem_anyL]
   constructor
   ·rintro ⟨l, hl, hn⟩
    simp only [List.mem_cons, List.not_mem_nil, or_false] at hl
    rcases hl with rfl | rfl
    ·exact hw'.1 hn
    ·exact absurd (hh.2 ⟨v, hv⟩) (mem_lessL2.1 hn).2
   ·exact fun hf => ⟨_, List.mem_cons_self, hw'.2 hf⟩
  ·exact hw'
 ·have hl : ∀ v, (m.2.1, v) ∉ s.2 := fun v hv => hx ⟨v, hv⟩
  rw [getP_lacks hl]
  have hnw : s.1 ∉ withL T m := fun hm => by
   obtain ⟨v, hv, _⟩ := hw.1 hm
   exact hl v hv
  unfold askL
  split
  ·rename_i hf
   refine ⟨fun _ => hf, fun _ => ?_⟩
   rw [mem_anyL]
   exact ⟨_, List.mem_cons_of_mem _ List.mem_cons_self, mem_lessL2.2 ⟨hall, fun hm => hx (hh.1 hm)⟩⟩
  ·rename_i hf
   exact ⟨fun hm => absurd hm hnw, fun hc => absurd hc hf⟩
theorem selL_is {T : List SerT} (h : Dist T) (L : List MatB) : selL T L = putAll ((T.filter fun s => L.all (fitsM s.2)).map (·.1)) := by
 refine rises_uniq (selL_rises T L) (putAll_good _).1 fun n => ?_
 rw [mem_selL, (putAll_good _).2, List.mem_map]
 constructor
 ·rintro ⟨h1, h2⟩
  rw [allL, (putAll_good _).2, List.mem_map] at h1
  obtain ⟨s, hs, rfl⟩ := h1
  refine ⟨s, List.mem_filter.2 ⟨hs, ?_⟩, rfl⟩
  rw [List.all_eq_true]
  exact fun m hm => (mem_askL h hs m).1 (h2 m hm)
 ·rintro ⟨s, hs, rfl⟩
  obtain ⟨h1, h2⟩ := List.mem_filter.1 hs
  rw [List.all_eq_true] at h2
  exact ⟨((putAll_good _).2 _).2 (List.mem_map.2 ⟨s, h1, rfl⟩), fun m hm => (mem_askL h h1 m).2 (h2 m hm)⟩
theorem infoListS : (Tryz.prog.info? 114).map (fun i => (i.zero, i.size, i.bytes)) = some (some (.slice none 0 0), 1, 24) := by kernel_rfl
def RowsD (B : Nat) (w : World) (v : Value) (VS : List Value) (LL : List (List Int)) : Prop :=
 w.ownsRow B 114 1 v VS.length VS ∧ VS.length = LL.length ∧ ∀ i (_ : i < VS.length) (h' : i < LL.length), Own B w VS[i] LL[i]
theorem RowsD.keep {B : Nat} {w w' : World} {v : Value} {VS : List Value} {LL : List (List Int)} (h : RowsD B w v VS LL) (k : Keeps [] w w') : RowsD B w' v VS LL := ⟨go1 k h.1, h.2.1, fun i hi hi' => go1 k (h.2.2 i hi hi')⟩
instance go1RowsD {w w' : World} (B : Nat) (v : Value) (VS : List Value) (LL : List (List Int)) : Go1 w w' (RowsD B w v VS LL) (RowsD B w' v VS LL) := ⟨fun k h => h.keep k⟩
theorem RowsD.rows {B : Nat} {w : World} {v : Value} {VS : List Value} {LL : List (List Int)} (h : RowsD B w v VS LL) : Rows2 B w v LL := rows2_of h.1 h.2.1 fun i hi hi' => (h.2.2 i hi hi').ints
theorem rowsD_nil (B : Nat) (w : World) : RowsD B w (.slice none 0 0) [] [] := ⟨World.ownsRow_nil _ _ _ 1, rfl, fun i hi => by simp at hi⟩
theorem rowsD_snoc {B : Nat} {w w' : World} {v v' u : Value} {VS : List Value} {LL : List (List Int)} {l : List Int} (h : RowsD B w v VS LL) (ho : Own B w u l) (t : Turns v w v' w') (hr : w'.ownsRow B 114 1 v' (VS.length + 1) (VS ++ [u])) : RowsD B w' v' (VS ++ [u]) (LL ++ [l]) := by
 have k : ∀ {u : Value} {l : List Int}, Own B w u l → Own B w' u l := fun hu => t.keeps.row hu (rows_ne2 h.1 hu (by decide))
 refine ⟨by rw [List.length_append]; exact hr, by simp [h.2.1], fun i hi hi' => ?_⟩
 by_cases hlt : i < VS.length
 ·rw [List.getElem_append_left hlt, List.getElem_append_left (by have := h.2.1; omega)]
  exact k (h.2.2 i hlt (by have := h.2.1; omega))
 ·have e1 : i = VS.length := by simp at hi; omega
  subst e1
  have e2 := h.2.1
  rw [List.getElem_append_right (Nat.le_refl _), List.getElem_append_right (by omega)]
  simp [e2]
  exact k ho
theorem listsAt_snoc (T : List SerT) (nm : ByteArray) (V : List ByteArray) (y : ByteArray) : listsAt T nm (V ++ [y]) = listsAt T nm V ++ [putAll (getXs nm y T)] := by simp [listsAt]
theorem rows_pair {W : World} {u v : Value} {l m : List Int} (h : Ints 0 W u l) (h2 : Ints 0 W v m) : Rows2 0 (W.alloc (.cells #[u, v] 114)) (.slice (some ⟨W.heap.size, 0, none⟩) 2 2) [l, m] :=
 rows2_new2 (heap_new W _) (Nat.zero_le _) (h.keep ((Keeps.refl [] W).alloc _) (by simp)) (h2.keep ((Keeps.refl [] W).alloc _) (by simp))
def WithRel (wb : World) (T : List SerT) (m : MatB) (vals : List ByteArray) (gk : Nat) (u5 u13 : Value) (wr : World) : Prop :=
 ∃ (i : Nat) (VS : List Value), i ≤ vals.length ∧ VS.length ≤ i ∧ gk = vals.length - i ∧ u13 = .int .i64 i ∧ RowsD wb.heap.size wr u5 VS (listsAt T m.2.1 ((vals.take i).filter (fitsB m.1 m.2.2))) ∧ Keeps [] wb wr
theorem filter_snocT {p : ByteArray → Bool} {V : List ByteArray} {y : ByteArray} (h : p y = true) : (V ++ [y]).filter p = V.filter p ++ [y] := by simp [List.filter_append, h]
theorem filter_snocF {p : ByteArray → Bool} {V : List ByteArray} {y : ByteArray} (h : p y = false) : (V ++ [y]).filter p = V.filter p := by simp [List.filter_append, h]
theorem with_spec (w : World) (x : Nat) (T : List SerT) (h : Idx w x T) (k : Int) (name : ByteArray) (v : Value) (V : List ByteArray) (hv : SliceArg 1 encS1 w v V) (hmay : mayK (k, name, V)) :
  Calls Tryz.prog 73 #[.agg #[.int .i64 k, .string name, v], .pointer (some ⟨x, 0, none⟩)] w fun e w' => ∃ v', e = .returned v' ∧ Own w.heap.size w' v' (withL T (k, name, V)) ∧ Keeps [] w w' := by
 have Hd := Lib.hid (And.intro h.dist.1 (And.intro h.few hmay))
 obtain ⟨a0, c0, rfl, -, -⟩ := id hv
 have kA : Keeps [] w (w.alloc (.cells #[.int .i64 k, .string name, .slice a0 V.length c0] 161)) := (Keeps.refl [] w).alloc _
 have H0 := Lib.hid (And.intro (go1 kA (And.intro h hv)) (And.intro (heap_new w (.cells #[.int .i64 k, .string name, .slice a0 V.length c0] 161)) kA))
 clear kA h hv hmay
 go_enter Tryz.func73, Tryz.ntmps73
 go_upto_region 2 with fail
 generalize hwa : w.alloc (.cells #[.int .i64 k, .string name, .slice a0 V.length c0] 161) = wa at H0 ⊢
 clear hwa
 have cs := cells_at H0.out.2.1
 have ls := lt_of_at H0.out.2.1
 go_wp2_with fail
 refine (valuesD_spec wa x T name H0.out.1.1).mono ?_
 rintro e w1 ⟨v1, rfl, hrow1, hk1⟩
 obtain ⟨vals, hvals⟩ : ∃ vals, vals = valsOf T name := ⟨_, rfl⟩
 rw [show insAll (valX name (allP T)) = vals from hvals.symm] at hrow1
 have HV := Lib.hid hvals
 clear hvals
 have H1 := Lib.hid (And.intro (go1 hk1 H0.out) (OwnS.strs hrow1))
 have hvl : vals.length ≤ 1000000 := by
  have h1 : vals.length ≤ (allP T).length := by
   rw [HV.out]
   exact Nat.le_trans (insAll_good _).2.2 (valX_len _ _)
  have h2 := Idx.pairs H0.out.1.1
  omega
 obtain ⟨a1, c1, rfl, -, -, -⟩ := row_slice hrow1
 clear hrow1 hk1 cs ls H0
 go_wp2_with fail
 go_loopg [5, 13] vals.length (WithRel w1 T (k, name, V) vals)
 case atStart => exact ⟨0, [], Nat.zero_le _, Nat.le_refl _, rfl, rfl, rowsD_nil _ _, Keeps.refl [] w1⟩
 case round =>
  obtain ⟨i, VS, hi, hVS, hgk, rfl, hrd, hkw⟩ := hrel
  have Hg := Lib.hid hgk
  clear hgk
  obtain ⟨a5, c5, rfl, -, -, -⟩ := row_slice hrd.1
  by_cases hlt : i < vals.length
  ·obtain ⟨b, of, ea, hb, d0⟩ := sf_at1 (go1 hkw H1.out.2) i hlt
   subst ea
   have hlt' : (i : Int) < (vals.length : Int) := by omega
   have htk := List.take_succ_eq_append_getElem hlt
   generalize vals[i] = y at d0 htk
   have Htk := Lib.hid htk
   have H2 := Lib.hid (And.intro (go1 hkw H1.out.1) (And.intro hrd hkw))
   have cs := cells_at H2.out.1.2.1
   have ls := lt_of_at H2.out.1.2.1
   clear hrd hkw htk
   go_wp2_with fail
   refine (fits_spec _ k Hd.out.2.2.1 name _ V H2.out.1.1.2 Hd.out.2.2.2 y).mono ?_
   rintro e w2 ⟨rfl, hk2⟩
   have H3 := Lib.hid (And.intro (go1 hk2 H2.out.1) (go1 hk2 H2.out.2))
   clear hk2 H2 cs ls d0 hb
   have cs := cells_at H3.out.1.2.1
   have ls := lt_of_at H3.out.1.2.1
   cases hf : fitsB k V y with
   | true =>
    have Hf := Lib.hid hf
    clear hf
    go_wp2_with fail
    refine (getD_spec w2 x T name y H3.out.1.1.1).mono ?_
    rintro e w3 ⟨v3, rfl, hrow3, hk3⟩
    have H4 := Lib.hid (And.intro (row_base (b' := w1.heap.size) hrow3 H3.out.2.2.size) (go1 hk3 H3.out.2))
    have hsz := (H3.out.2.2.trans hk3).size
    obtain ⟨a3, c3, rfl, -, -, -⟩ := row_slice hrow3
    clear hrow3 hk3 cs ls H3
    go_wp2_with (at_builtin; refine row_append1 rfl (.tmp 20) (.tmp 26) 163 114 infoListS (by rfl) (by decide) Tryz.underlying163 rfl w1.heap.size (.slice a5 VS.length c5) VS (.slice a3 (putAll (getXs name y T)).length c3) (by rfl) VS.length rfl rfl H4.out.2.1.1 rfl (by omega) hsz ?_; intro ao9 cp9 w9 hown9 hturn9)
    have h9 := rowsD_snoc H4.out.2.1 H4.out.1 hturn9 hown9
    have k9 : Keeps [] w1 w9 := H4.out.2.2.after hturn9.keeps (fun y hy => .inr (by
     exact (World.ownsRow.lt H4.out.2.1.1 y (by simpa using hy)).1))
    have H5 := Lib.hid (And.intro h9 k9)
    clear hown9 hturn9 h9 k9
    go_wp2_with fail
    go_roundg (vals.length - (i + 1))
    case measure => have := Hg.out; omega
    case rel =>
     refine ⟨i + 1, VS ++ [.slice a3 (putAll (getXs name y T)).length c3], hlt, by rw [List.length_append]; simpa using hVS, rfl, by go_num, ?_, H5.out.2⟩
     rw [Htk.out, filter_snocT (p := fitsB k V) Hf.out, listsAt_snoc]
     have h := H5.out.1
     exact h
   | false =>
    have Hf := Lib.hid hf
    clear hf cs ls
    go_wp2_with fail
    go_roundg (vals.length - (i + 1))
    case measure => have := Hg.out; omega
    case rel => exact ⟨i + 1, VS, hlt, by omega, rfl, by go_num, by rw [Htk.out, filter_snocF (p := fitsB k V) Hf.out]; exact H3.out.2.1, H3.out.2.2⟩
  ·have hge : ¬ (i : Int) < (vals.length : Int) := by omega
   have hin := Lib.hid (show vals.take i = vals from List.take_of_length_le (by omega))
   have H2 := Lib.hid (And.intro hrd.rows (H1.out.1.2.2.trans hkw))
   clear hrd hkw
   go_wp2_with fail
   refine (any_spec w1.heap.size _ _ _ H2.out.1 (Nat.le_trans (listsAt_len Hd.out.1 _ ((by rw [hin.out, HV.out]; exact valsOf_nodup T name : ((vals.take i)).Nodup).filter _)) (by have := Hd.out.2.1; omega))).mono ?_
   rintro e w3 ⟨v3, rfl, hrow3, hk3⟩
   have H3 := Lib.hid (And.intro (row_base (b' := w.heap.size) hrow3 H2.out.2.size) (H2.out.2.trans hk3))
   clear hrow3 hk3
   go_wp2_with fail
   go_ret
   refine ⟨_, rfl, ?_, H3.out.2⟩
   have h := H3.out.1
   rw [hin.out, HV.out] at h
   exact h
def HaveRel (wb : World) (T : List SerT) (nm : ByteArray) (vals : List ByteArray) (gk : Nat) (u9 u30 : Value) (wr : World) : Prop :=
 ∃ (i : Nat) (VS : List Value), i ≤ vals.length ∧ VS.length ≤ i ∧ gk = vals.length - i ∧ u30 = .int .i64 i ∧ RowsD wb.heap.size wr u9 VS (listsAt T nm (vals.take i)) ∧ Keeps [] wb wr
def SelRel (w : World) (T : List SerT) (L : List MatB) (gk : Nat) (u5 u16 : Value) (wr : World) : Prop :=
 ∃ i, i ≤ L.length ∧ gk = L.length - i ∧ u16 = .int .i64 i ∧ Own w.heap.size wr u5 (selL T (L.take i)) ∧ Keeps [] w wr
theorem bothP_two (a b : List Int) : bothP [a, b] = meetL a b := rfl
theorem select_spec (w : World) (x : Nat) (T : List SerT) (h : Idx w x T) (vm : Value) (L : List MatB) (hm : MatsAt w vm L) (hmay : ∀ m ∈ L, mayK m) :
  Calls Tryz.prog 44 #[.pointer (some ⟨x, 0, none⟩), vm] w fun e w' => ∃ v', e = .returned v' ∧ Own w.heap.size w' v' (selL T L) ∧ Keeps [] w w' := by
 have Hd := Lib.hid (And.intro h.dist.1 (And.intro h.few (And.intro hmay h.pairs)))
 have H0 := Lib.hid (And.intro h hm)
 obtain ⟨am, cm, rfl, hLm⟩ := hm.form
 unfold maxLen at hLm
 clear h hm hmay
 go_enter Tryz.func44, Tryz.ntmps44
 go_wp2_with fail
 refine (allD_spec w x T H0.out.1).mono ?_
 rintro e w1 ⟨v1, rfl, hrow1, hk1⟩
 have H1 := Lib.hid (And.intro (show Own w.heap.size w1 v1 (selL T (L.take 0)) from hrow1) hk1)
 obtain ⟨a1, c1, rfl, -, -, -⟩ := row_slice hrow1
 clear hrow1 hk1
 go_wp2_with fail
 go_loopg [5, 16] L.length (SelRel w T L)
 case atStart => exact ⟨0, Nat.zero_le _, rfl, rfl, H1.out.1, H1.out.2⟩
 case round =>
  obtain ⟨i, hi, hgk, rfl, hout, hkw⟩ := hrel
  have Hg := Lib.hid hgk
  clear hgk H1
  obtain ⟨O, hO⟩ : ∃ O, O = selL T (L.take i) := ⟨_, rfl⟩
  rw [← hO] at hout
  have HO := Lib.hid hO
  have hOl : O.length ≤ 12 := by rw [hO]; exact Nat.le_trans (selL_len T _) Hd.out.2.1
  have hOr : Rises O := by rw [hO]; exact selL_rises T _
  have HOr := Lib.hid hOr
  clear hO hOr
  obtain ⟨a5, c5, rfl, -, -, -⟩ := row_slice hout
  by_cases hlt : i < L.length
  ·obtain ⟨b, off, cap', u, ea, hbW, d0, d1, d2, hu⟩ := (H0.out.2.keep hkw).at_ i hlt
   injection ea with ea _ ec
   subst ea ec
   have hlt' : (i : Int) < (L.length : Int) := by omega
   have hmk := Hd.out.2.2.1 L[i] (List.getElem_mem hlt)
   have htk := List.take_succ_eq_append_getElem hlt
   generalize L[i] = m at d0 d1 hu hmk htk
   obtain ⟨mk, mn, mv⟩ := m
   dsimp only at d0 d1 hu hmk
   have HM := Lib.hid (And.intro hmk (show selL T (L.take (i + 1)) = meetL O (askL T (mk, mn, mv)) from by rw [htk, selL_snoc, HO.out]))
   obtain ⟨ua, uc, rfl, -, -⟩ := id hu
   have kA : Keeps [] wr (wr.alloc (.cells #[.int .i64 mk, .string mn, .slice ua mv.length uc] 161)) := (Keeps.refl [] wr).alloc _
   have H2 := Lib.hid (And.intro (go1 kA (And.intro (go1 hkw H0.out.1) (And.intro hu trivial))) (And.intro (heap_new wr (.cells #[.int .i64 mk, .string mn, .slice ua mv.length uc] 161)) (go1 kA (And.intro hout hkw))))
   clear kA hout hkw hu hmk htk
   go_upto_region 5 with fail
   clear d0 d1 d2 hbW
   generalize hwa : wr.alloc (.cells #[.int .i64 mk, .string mn, .slice ua mv.length uc] 161) = wa at H2 ⊢
   generalize hpb : wr.heap.size = pb at H2 ⊢
   clear hwa hpb
   have cs := cells_at H2.out.2.1
   have ls := lt_of_at H2.out.2.1
   go_wp2_with fail
   refine (with_spec wa x T H2.out.1.1 mk mn _ mv H2.out.1.2.1 HM.out.1).mono ?_
   rintro e w3 ⟨v3, rfl, hrow3, hk3⟩
   have H3 := Lib.hid (And.intro hrow3.ints (go1 hk3 H2.out))
   have hWr := Lib.hid (And.intro (show Rises (withL T (mk, mn, mv)) from anyL_rises _) (Nat.le_trans (anyAt_len Hd.out.1 mn ((valsOf_nodup T mn).filter (fitsB mk mv))) Hd.out.2.1 : (withL T (mk, mn, mv)).length ≤ 12))
   obtain ⟨a3, c3, rfl, -, -, -⟩ := row_slice hrow3
   clear hrow3 hk3 H2 cs ls
   have cs := cells_at H3.out.2.2.1
   have ls := lt_of_at H3.out.2.2.1
   go_wp2_with fail
   refine (fits_spec w3 mk HM.out.1.1 mn _ mv H3.out.2.1.2.1 HM.out.1.2 ⟨#[]⟩).mono ?_
   rintro e w4 ⟨rfl, hk4⟩
   have H4 := Lib.hid (go1 hk4 H3.out)
   clear hk4 H3 cs ls
   cases hf : fitsB mk mv ⟨#[]⟩ with
   | true =>
    have Hf := Lib.hid (show askL T (mk, mn, mv) = anyL [withL T (mk, mn, mv), lessL (allL T) (haveL T mn)] from if_pos hf)
    clear hf
    have cs := cells_at H4.out.2.2.1
    have ls := lt_of_at H4.out.2.2.1
    go_wp2_with fail
    refine (valuesD_spec w4 x T mn H4.out.2.1.1).mono ?_
    rintro e w5 ⟨v5, rfl, hrow5, hk5⟩
    obtain ⟨vals, hvals⟩ : ∃ vals, vals = valsOf T mn := ⟨_, rfl⟩
    rw [show insAll (valX mn (allP T)) = vals from hvals.symm] at hrow5
    have HV := Lib.hid hvals
    clear hvals
    have hvl : vals.length ≤ 1000000 := by
     have h1 : vals.length ≤ (allP T).length := by
      rw [HV.out]
      exact Nat.le_trans (insAll_good _).2.2 (valX_len _ _)
     have h2 := Hd.out.2.2.2
     omega
    have H5 := Lib.hid (And.intro (go1 hk5 H4.out) (OwnS.strs hrow5))
    obtain ⟨a5', c5', rfl, -, -, -⟩ := row_slice hrow5
    clear hrow5 hk5 H4 cs ls
    go_wp2_with fail
    go_loopg [9, 30] vals.length (HaveRel w5 T mn vals)
    case atStart => exact ⟨0, [], Nat.zero_le _, Nat.le_refl _, rfl, rfl, rowsD_nil _ _, Keeps.refl [] w5⟩
    case round =>
     obtain ⟨j, VS, hj, hVS, hgj, rfl, hrd, hkb⟩ := hrel
     have Hgj := Lib.hid hgj
     clear hgj
     obtain ⟨a9, c9, rfl, -, -, -⟩ := row_slice hrd.1
     by_cases hltj : j < vals.length
     ·obtain ⟨b7, of7, ea, hb7, d0⟩ := sf_at1 (go1 hkb H5.out.2) j hltj
      subst ea
      have hltj' : (j : Int) < (vals.length : Int) := by omega
      have htk := List.take_succ_eq_append_getElem hltj
      generalize vals[j] = y at d0 htk
      have Htk := Lib.hid htk
      have H6 := Lib.hid (And.intro (go1 hkb H5.out.1) (And.intro hrd hkb))
      have cs := cells_at H6.out.1.2.2.1
      have ls := lt_of_at H6.out.1.2.2.1
      clear hrd hkb htk
      go_wp2_with fail
      refine (getD_spec _ x T mn y H6.out.1.2.1.1).mono ?_
      rintro e w7 ⟨v7, rfl, hrow7, hk7⟩
      have H7 := Lib.hid (And.intro (row_base (b' := w5.heap.size) hrow7 H6.out.2.2.size) (go1 hk7 H6.out.2))
      have hsz := (H6.out.2.2.trans hk7).size
      obtain ⟨a7, c7, rfl, -, -, -⟩ := row_slice hrow7
      clear hrow7 hk7 cs ls H6 d0 hb7
      go_wp2_with (at_builtin; refine row_append1 rfl (.tmp 34) (.tmp 40) 163 114 infoListS (by rfl) (by decide) Tryz.underlying163 rfl w5.heap.size (.slice a9 VS.length c9) VS (.slice a7 (putAll (getXs mn y T)).length c7) (by rfl) VS.length rfl rfl H7.out.2.1.1 rfl (by omega) hsz ?_; intro ao9 cp9 w9 hown9 hturn9)
      have h9 := rowsD_snoc H7.out.2.1 H7.out.1 hturn9 hown9
      have k9 : Keeps [] w5 w9 := H7.out.2.2.after hturn9.keeps (fun y hy => .inr (by
       exact (World.ownsRow.lt H7.out.2.1.1 y (by simpa using hy)).1))
      have H8 := Lib.hid (And.intro h9 k9)
      clear hown9 hturn9 h9 k9
      go_wp2_with fail
      go_roundg (vals.length - (j + 1))
      case measure => have := Hgj.out; omega
      case rel =>
       refine ⟨j + 1, VS ++ [.slice a7 (putAll (getXs mn y T)).length c7], hltj, by rw [List.length_append]; simpa using hVS, rfl, by go_num, ?_, H8.out.2⟩
       rw [Htk.out, listsAt_snoc]
       have h := H8.out.1
       exact h
     ·have hgej : ¬ (j : Int) < (vals.length : Int) := by omega
      have hin : vals.take j = vals := List.take_of_length_le (by omega)
      rw [hin, HV.out] at hrd
      have H6 := Lib.hid (And.intro hrd.rows (go1 hkb H5.out.1))
      clear hrd hkb hin
      go_wp2_with fail
      refine (allD_spec _ x T H6.out.2.2.1.1).mono ?_
      rintro e wB ⟨vB, rfl, hrowB, hkB⟩
      have HB := Lib.hid (And.intro (show Ints _ wB vB (allL T) from hrowB.ints) (go1 hkB H6.out))
      obtain ⟨aB, cB, rfl, -, -, -⟩ := row_slice hrowB
      clear hrowB hkB H6
      go_wp2_with fail
      refine (any_spec w5.heap.size _ _ _ HB.out.2.1 (Nat.le_trans (listsAt_len Hd.out.1 _ (valsOf_nodup T mn)) (by have := Hd.out.2.1; omega))).mono ?_
      rintro e wC ⟨vC, rfl, hrowC, hkC⟩
      have HC := Lib.hid (And.intro (show Ints _ wC vC (haveL T mn) from hrowC.ints) (go1 hkC (And.intro HB.out.1 HB.out.2.2)))
      have hHl : (haveL T mn).length ≤ 12 := Nat.le_trans (anyAt_len Hd.out.1 mn (valsOf_nodup T mn)) Hd.out.2.1
      have hHr : Rises (haveL T mn) := anyL_rises _
      have HHr := Lib.hid hHr
      clear hHr
      obtain ⟨aC, cC, rfl, -, -, -⟩ := row_slice hrowC
      clear hrowC hkC HB
      have hAl : (allL T).length ≤ 12 := Nat.le_trans (allL_len T) Hd.out.2.1
      go_wp2_with fail
      refine (less_spec 0 _ _ _ (allL T) (haveL T mn) (HC.out.2.1.low (Nat.zero_le _)) (HC.out.1.low (Nat.zero_le _)) (allL_rises T) HHr.out (by omega) (by omega)).mono ?_
      rintro e wD ⟨vD, rfl, hrowD, hkD⟩
      have HD := Lib.hid (And.intro (hrowD.ints.low (Nat.zero_le _)) (go1 hkD HC.out.2.2))
      have hDl := lessL_len (allL T) (haveL T mn)
      obtain ⟨aD, cD, rfl, -, -, -⟩ := row_slice hrowD
      clear hrowD hkD HC
      have hWl := hWr.out.2
      go_wp2_with fail
      refine (any_spec 0 _ _ [withL T (mk, mn, mv), lessL (allL T) (haveL T mn)] (rows_pair (HD.out.2.1.low (Nat.zero_le _)) HD.out.1) (by simp only [List.flatten_cons, List.flatten_nil, List.append_nil, List.length_append]; omega)).mono ?_
      rintro e wE ⟨vE, rfl, hrowE, hkE⟩
      rw [← Hf.out] at hrowE
      have kE := ((Keeps.refl [] wD).alloc (.cells #[.slice a3 (withL T (mk, mn, mv)).length c3, .slice aD (lessL (allL T) (haveL T mn)).length cD] 114)).trans hkE
      have HE := Lib.hid (And.intro (hrowE.ints.low (Nat.zero_le _)) (go1 kE HD.out.2.2.2.2))
      have hEl := askL_len Hd.out.1 (mk, mn, mv)
      have hTl := Hd.out.2.1
      obtain ⟨aE, cE, rfl, -, -, -⟩ := row_slice hrowE
      clear hrowE hkE HD kE
      go_wp2_with fail
      refine (both_spec 0 _ _ [O, askL T (mk, mn, mv)] (rows_pair ((Own.ints HE.out.2.1).low (Nat.zero_le _)) HE.out.1) (by
       intro l hl
       simp only [List.mem_cons, List.not_mem_nil, or_false] at hl
       rcases hl with rfl | rfl
       ·exact HOr.out
       ·exact askL_rises T _) (by
       intro l hl
       simp only [List.mem_cons, List.not_mem_nil, or_false] at hl
       rcases hl with rfl | rfl <;> omega) (Nat.zero_le _)).mono ?_
      rintro e wF ⟨vF, rfl, hrowF, hkF⟩
      rw [bothP_two, ← HM.out.2] at hrowF
      have kF := HE.out.2.2.trans (((Keeps.refl [] _).alloc _).trans hkF)
      have HF := Lib.hid (And.intro (row_base (b' := w.heap.size) hrowF (HE.out.2.2.trans ((Keeps.refl [] _).alloc _)).size) kF)
      clear hrowF hkF kF
      go_wp2_with fail
      go_roundg (L.length - (i + 1))
      case measure => have := Hg.out; omega
      case rel => exact ⟨i + 1, hlt, rfl, by go_num, HF.out.1, HF.out.2⟩
   | false =>
    have Hf := Lib.hid (show askL T (mk, mn, mv) = withL T (mk, mn, mv) from if_neg (by rw [hf]; decide))
    clear hf
    have hEl := askL_len Hd.out.1 (mk, mn, mv)
    have hTl := Hd.out.2.1
    have h40 := H4.out.1.low (Nat.zero_le _)
    rw [← Hf.out] at h40
    have HE := Lib.hid (And.intro h40 (H4.out.2.2.2))
    clear h40 H4
    rw [← Hf.out]
    go_wp2_with fail
    refine (both_spec 0 _ _ [O, askL T (mk, mn, mv)] (rows_pair ((Own.ints HE.out.2.1).low (Nat.zero_le _)) HE.out.1) (by
     intro l hl
     simp only [List.mem_cons, List.not_mem_nil, or_false] at hl
     rcases hl with rfl | rfl
     ·exact HOr.out
     ·exact askL_rises T _) (by
     intro l hl
     simp only [List.mem_cons, List.not_mem_nil, or_false] at hl
     rcases hl with rfl | rfl <;> omega) (Nat.zero_le _)).mono ?_
    rintro e wF ⟨vF, rfl, hrowF, hkF⟩
    rw [bothP_two, ← HM.out.2] at hrowF
    have kF := HE.out.2.2.trans (((Keeps.refl [] _).alloc _).trans hkF)
    have HF := Lib.hid (And.intro (row_base (b' := w.heap.size) hrowF (HE.out.2.2.trans ((Keeps.refl [] _).alloc _)).size) kF)
    clear hrowF hkF kF
    go_wp2_with fail
    go_roundg (L.length - (i + 1))
    case measure => have := Hg.out; omega
    case rel => exact ⟨i + 1, hlt, rfl, by go_num, HF.out.1, HF.out.2⟩
  ·have hge : ¬ (i : Int) < (L.length : Int) := by omega
   have hin := Lib.hid (show L.take i = L from List.take_of_length_le (by omega))
   have H2 := Lib.hid (And.intro hout hkw)
   clear hout hkw
   go_wp2_with fail
   go_ret
   refine ⟨_, rfl, ?_, H2.out.2⟩
   have e : O = selL T L := by rw [HO.out, hin.out]
   rw [← e]
   exact H2.out.1
end Go.Proofs.YtgdkceeonnfejaaGreatDoor
