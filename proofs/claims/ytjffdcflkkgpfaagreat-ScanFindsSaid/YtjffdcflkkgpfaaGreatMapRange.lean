/-
  A range over a map of strings to anything: what it gives, in whatever order, each once.
  No condition beyond those that each theorem states.
-/
import Derived.Sort.KeysCollected
import Derived.Test.YtjffdcflkkgpfaaGreatMap
import Derived.Maps.RangeWalk
namespace Go.Proofs.YtjffdcflkkgpfaaGreat
open Go Go.RowKit Go.Maps

theorem look_of_mem {α : Type} {n : ByteArray} {v : α} : ∀ {o : List (ByteArray × α)}, (o.map (·.1)).Nodup → (n, v) ∈ o → look o n = some v
  | (k, x) :: r, hnd, h => by
    simp only [List.map_cons, List.nodup_cons] at hnd
    rcases List.mem_cons.1 h with h | h
    · injection h with h1 h2
      subst h1 h2
      simp [look]
    · have hne : n ≠ k := fun e => hnd.1 (by rw [← e]; exact List.mem_map.2 ⟨_, h, rfl⟩)
      simp only [look, if_neg hne]
      exact look_of_mem hnd.2 h

theorem look_perm {α : Type} {o o' : List (ByteArray × α)} (h : o.Perm o') (hnd : (o.map (·.1)).Nodup) (n : ByteArray) : look o n = look o' n := by
  have hnd' : (o'.map (·.1)).Nodup := (h.map _).nodup_iff.1 hnd
  cases hl : look o n with
  | some v => exact (look_of_mem hnd' (h.mem_iff.1 (look_mem hl))).symm
  | none =>
    rw [look_none_iff] at hl
    exact ((look_none_iff n o').2 fun hm => hl ((h.map _).mem_iff.2 hm)).symm


/-- Each value reads as itself. -/
def heldR : Value → Option (DataW Value × List MemPlace) := fun v => some (.held v, [])


theorem MapAt.ownsH {P : Program} {kt : TypeId} {w : World} {b : Nat} {m : KV} (h : MapAt w b m) (hk : P.underlying kt = some .string) (hsz : ∀ p ∈ m, p.1.size ≤ maxLen) (hl : m.length ≤ maxLen) :
    ∃ D : DataW Value, w.ownsMap P kt heldR b m.length D := by
  obtain ⟨E, c, h1, h2, rfl⟩ := h
  have hlen : (pairs E).length = E.length := by simp [pairs]
  have hkey : ∀ t ∈ E, keyOf P kt (.string t.1) = some (.string t.1.data.toList) := fun t ht =>
    Go.WideMaps.keyOf_string_mk hk (hsz (t.1, t.2.1) (by simp only [pairs, List.mem_map]; exact ⟨t, ht, rfl⟩))
  refine ⟨_, _, c, h1, ⟨?_, ?_, ?_⟩, ?_, rfl⟩
  · simpa [hlen] using hl
  · refine ⟨?_, ?_, ?_⟩
    · intro x hx
      simp only [List.mem_map] at hx
      obtain ⟨t, ht, rfl⟩ := hx
      exact h2.lt t ht
    · rw [List.map_map]
      rw [List.nodup_iff_pairwise_ne]
      exact List.pairwise_map.2 (h2.born.imp_of_mem fun _ _ hab => Nat.ne_of_lt hab)
    · rw [List.map_map]
      have := h2.nodup
      refine List.pairwise_map.2 ?_
      exact (List.pairwise_map.1 this).imp_of_mem fun {a b} _ _ hne e => hne (by simpa [entry] using e)
  · intro x hx
    simp only [List.mem_map] at hx
    obtain ⟨t, ht, rfl⟩ := hx
    exact ⟨_, by simp [Go.WideElems.rd, entry, hkey t ht, heldR]; rfl⟩
  · simp [hlen]


/-- A range over the map at b, by the iterator at r: 'done' is what it has given so far, in this order. -/
def Ranging (P : Program) (kt : TypeId) (w : World) (b r : Nat) (m done : KV) (cnt : Nat) : Prop :=
  ∃ (D : DataW Value) (n : Nat) (left : Lit → Bool) (todo : KV), w.ranges P kt heldR b r n D left cnt ∧ MapAt w b m ∧ m.Perm (done ++ todo) ∧ ∀ p ∈ m, left (.string p.1.data.toList) = true ↔ p ∈ todo


theorem Ranging.keep {P : Program} {kt : TypeId} {w w' : World} {b r cnt : Nat} {m done : KV} {S : List Nat} (h : Ranging P kt w b r m done cnt) (k : Keeps S w w') (hb : b ∉ S) (hr : r ∉ S) : Ranging P kt w' b r m done cnt := by
  obtain ⟨D, n, left, todo, ⟨es, clock, since, seen, c0, h1, F, hs, hD, h2, rest⟩, hm, hp⟩ := h
  exact ⟨D, n, left, todo, ⟨es, clock, since, seen, c0, k.at_ h1 hb, F, hs, hD, k.at_ h2 hr, rest⟩, hm.keep k hb, hp⟩

theorem Ranging.lt {P : Program} {kt : TypeId} {w : World} {b r cnt : Nat} {m done : KV} (h : Ranging P kt w b r m done cnt) : r < w.heap.size := by
  obtain ⟨D, n, left, todo, h, _⟩ := h
  exact h.lt

theorem Ranging.mem {P : Program} {kt : TypeId} {w : World} {b r cnt : Nat} {m done : KV} (h : Ranging P kt w b r m done cnt) : (∀ p ∈ done, p ∈ m) ∧ (done.map (·.1)).Nodup := by
  obtain ⟨D, n, left, todo, _, hm, hp, _⟩ := h
  have hnd := hm.nodup
  refine ⟨fun p h => hp.mem_iff.2 (by simp [h]), ?_⟩
  have := (hp.map (·.1)).nodup_iff.1 hnd
  rw [List.map_append, List.nodup_append] at this
  exact this.1


theorem rg_entry {P : Program} {kt : TypeId} {E : List Ent} {clock : Nat} (hk : P.underlying kt = some .string) (F : Go.WideElems.Fit P kt heldR (E.map entry).toArray clock) {t : Ent} (ht : t ∈ E) :
    Go.WideElems.rg P kt heldR (entry t) = (.string t.1.data.toList, .held t.2.1) := by
  obtain ⟨y, hy⟩ := F.reads (entry t) (by simp only [List.mem_map]; exact ⟨t, ht, rfl⟩)
  have hky := Go.WideElems.rd_key hy
  obtain ⟨x, ex, e2, _⟩ := Maps.keyOf_str hk hky
  have ex : Value.string t.1 = encStr x := ex
  simp only [encStr, Value.string.injEq] at ex
  have hx : t.1.data.toList = x := by rw [ex]
  rw [Go.WideElems.rg_of hy]
  have hv := Go.WideElems.rd_val hy
  obtain ⟨y1, y2⟩ := y
  simp only at e2
  subst e2
  rw [hx]
  congr 1
  obtain ⟨q, hq1, hq2⟩ := hv
  simp only [heldR, entry, Option.some.injEq] at hq1
  subst hq1
  first | exact hq2 | exact hq2.symm


theorem ranges_parts {P : Program} {kt : TypeId} {w : World} {b r n cnt : Nat} {D : DataW Value} {left : Lit → Bool} {m : KV} (hk : P.underlying kt = some .string) (h : w.ranges P kt heldR b r n D left cnt) (hm : MapAt w b m) :
    (∀ kl, left kl = true → ∃ p ∈ m, kl = .string p.1.data.toList) ∧ ∀ p ∈ m, ∀ zd, D.atKey (.string p.1.data.toList) zd = .held p.2 := by
  obtain ⟨es, clock, since, seen, c0, hb, F, hs, hD, hr, hborn, hc, hleft, hin, _, _⟩ := h
  obtain ⟨E, c, h1, h2, rfl⟩ := hm
  rw [hb] at h1
  injection h1 with h1
  injection h1 with h1 _
  subst h1
  constructor
  · intro kl hkl
    obtain ⟨x, hx, he⟩ := hin kl hkl
    simp only [List.mem_map] at hx
    obtain ⟨t, ht, rfl⟩ := hx
    rw [rg_entry hk F ht] at he
    exact ⟨(t.1, t.2.1), by simp only [pairs, List.mem_map]; exact ⟨t, ht, rfl⟩, he.symm⟩
  · intro p hp zd
    simp only [pairs, List.mem_map] at hp
    obtain ⟨t, ht, rfl⟩ := hp
    rw [hD]
    refine WideAt.atKey_mem zd trivial (((Go.WideShapes.sorted_perm _).pairwise_iff (fun {_ _} hne => Ne.symm hne)).2 (Maps.fit_apart (string_keyed hk) F)) (mem_sorted.2 (List.mem_map.2 ⟨entry t, ?_, rg_entry hk F ht⟩))
    simp only [List.mem_map]
    exact ⟨t, ht, rfl⟩

section
variable {P : Program} {kt : TypeId} {w : World} {ops : Array Oper} {rest : List Oper} {o : Oper} {a : Act} {Q : Exit → Act → World → Prop}
theorem wpList_range_map (hg : o.guard = none) (mo : Operand) (t : TypeId) (hop : o.op = Op.range t mo) (et : TypeId) (ht : P.underlying t = some (.map kt et)) (hk : P.underlying kt = some .string) (b : Nat) (m : KV)
    (hmo : a.eval mo = .map (some b)) (h : MapAt w b m) (hsz : ∀ p ∈ m, p.1.size ≤ maxLen) (hl : m.length ≤ maxLen)
    (hK : ∀ w' cnt, Ranging P kt w' b w.heap.size m [] cnt → Keeps [] w w' → wpList P ops Q rest (a.put o.dst (.pointer (some ⟨w.heap.size, 0, none⟩))) w') :
    wpList P ops Q (o :: rest) a w := by
  obtain ⟨D, hown⟩ := h.ownsH hk hsz hl
  refine wpList_range_own w hg mo t hop kt et (string_keyed hk) ht heldR b m.length D hmo hown ?_
  intro w' hr hgr _
  have hkp : Keeps [] w w' := Keeps.of_grown hgr (by simp)
  refine hK w' _ ⟨D, m.length, Maps.has D, m, hr, h.keep hkp (by simp), by simp, fun p hp => ⟨fun _ => hp, fun _ => ?_⟩⟩ hkp
  exact Maps.has_true_of_atKey ((ranges_parts hk hr (h.keep hkp (by simp))).2 p hp)


theorem wpList_next_map (hg : o.guard = none) (it : Operand) (hop : o.op = Op.next it false) (hk : P.underlying kt = some .string) (b r : Nat) (m done : KV) (cnt : Nat)
    (hit : a.eval it = .pointer (some ⟨r, 0, none⟩)) (h : Ranging P kt w b r m done cnt)
    (hDone : m.Perm done → wpList P ops Q rest (a.put o.dst (.tuple #[.bool false])) w)
    (hMore : ∀ (x : ByteArray) (c : Value) (w' : World) (cnt' : Nat), (x, c) ∈ m → x ∉ done.map (·.1) → x.size ≤ maxLen → Ranging P kt w' b r m (done ++ [(x, c)]) cnt' → cnt' < cnt → Keeps [r] w w' →
      (Instr.entry (.pointer (some ⟨r, 0, none⟩))).run P w' = .ok (.tuple #[.string x, c]) w' → wpList P ops Q rest (a.put o.dst (.tuple #[.bool true, .string x, c])) w') :
    wpList P ops Q (o :: rest) a w := by
  obtain ⟨D, n, left, todo, hr, hm, hp, hl⟩ := h
  obtain ⟨q1, q2⟩ := ranges_parts hk hr hm
  have hnd := hm.nodup
  refine wpList_next_ranges w hg it hop kt (string_keyed hk) heldR encStr id (fun key kl h => by obtain ⟨x, hx, _⟩ := Maps.keyOf_str hk h; exact ⟨x, hx⟩) (fun v _ _ => ⟨v, rfl⟩) b r n D left cnt hit hr ?_ ?_
  · intro _ hl0
    refine hDone ?_
    have : todo = [] := by
      cases todo with
      | nil => rfl
      | cons p l =>
        have hpm : p ∈ m := hp.mem_iff.2 (by simp)
        have := (hl p hpm).2 (by simp)
        rw [hl0] at this
        cases this
    subst this
    simpa using hp
  · intro x c kl y w' cnt' hkey hlk hv hat hrg hlt hgr hsz hen
    obtain ⟨x', ex, rfl, hxl⟩ := Maps.keyOf_str hk hkey
    obtain rfl := encStr_inj ex
    obtain ⟨p, hpm, hpe'⟩ := q1 _ hlk
    have hpe : x = p.1.data.toList := Lit.string.inj hpe'
    have hv2 : y.1 = .held p.2 := (hat (.held c)).symm.trans ((congrArg (fun k => D.atKey (.string k) (.held c)) hpe).trans (q2 p hpm _))
    simp only [heldR, id, Option.some.injEq] at hv
    rw [← hv] at hv2
    have hc : c = p.2 := DataW.held.inj hv2
    have hxp : (⟨x.toArray⟩ : ByteArray) = p.1 := by rw [hpe]
    obtain ⟨p1, p2⟩ := p
    simp only at hxp hc hpe
    subst hc
    have hpt : (p1, c) ∈ todo := (hl _ hpm).1 (by rw [← hpe]; exact hlk)
    obtain ⟨t1, t2, rfl⟩ := List.append_of_mem hpt
    have hnd2 : ((done ++ (t1 ++ (p1, c) :: t2)).map (·.1)).Nodup := (hp.map _).nodup_iff.1 hnd
    have hp2 : m.Perm (done ++ [(p1, c)] ++ (t1 ++ t2)) := by
      refine hp.trans ?_
      rw [List.append_assoc]
      exact List.Perm.append_left done List.perm_middle
    have hkp : Keeps [r] w w' := Keeps.of_grown hgr (fun k hk => by injection hk with hk; subst hk; exact .inl (by simp))
    have hrb : b ≠ r := fun e => hr.ne e.symm
    have hm' := hm.keep hkp (by simpa using hrb)
    have hnin : p1 ∉ done.map (·.1) := by
      rw [List.map_append, List.nodup_append] at hnd2
      exact fun hmem => hnd2.2.2 p1 hmem p1 (by simp) rfl
    have hsz1 : p1.size ≤ maxLen := by
      rw [← hxp]
      exact hxl
    have e1 : encStr x = .string p1 := by rw [← hxp]
    rw [e1] at hen ⊢
    refine hMore p1 c w' cnt' hpm hnin hsz1 ⟨D, n, _, t1 ++ t2, hrg, hm', hp2, fun q hq => ?_⟩ hlt hkp hen
    have hql := hl q hq
    have hpnot : (p1, c) ∉ t1 ++ t2 := by
      intro hmem
      rw [List.map_append, List.nodup_append] at hnd2
      have h3 : ((t1 ++ (p1, c) :: t2).map (·.1)).Nodup := hnd2.2.1
      have h4 : (((p1, c) :: (t1 ++ t2)).map (·.1)).Nodup := ((List.perm_middle (a := (p1, c)) (l₁ := t1) (l₂ := t2)).map _).nodup_iff.1 h3
      simp only [List.map_cons, List.nodup_cons] at h4
      exact h4.1 (List.mem_map.2 ⟨_, hmem, rfl⟩)
    by_cases hqp : q.1 = p1
    · have hq2 : q = (p1, c) := by
        have h5 := look_of_mem hnd (n := q.1) (v := q.2) hq
        rw [hqp, look_of_mem hnd hpm] at h5
        injection h5 with h5
        exact Prod.ext hqp h5.symm
      rw [hq2]
      constructor
      · intro h
        rw [← hpe, show (Lit.string x).sameKey (.string x) = true from WideAt.sameKey_self trivial] at h
        simp at h
      · intro h
        exact absurd h hpnot
    · have hne : (Lit.string q.1.data.toList) ≠ .string x := fun e => hqp (by
        injection e with e
        rw [hpe] at e
        exact ba_ext e)
      rw [Maps.sameKey_ne hne]
      simp only [Bool.not_false, Bool.and_true]
      rw [hql]
      have hqne : q ≠ (p1, c) := fun e => hqp (by rw [e])
      simp [hqne]
end
end Go.Proofs.YtjffdcflkkgpfaaGreat
