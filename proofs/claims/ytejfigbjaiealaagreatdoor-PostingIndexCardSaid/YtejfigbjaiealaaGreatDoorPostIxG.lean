/-
  Package posting: an index in general: a map of maps of lists, and what one step of Add changes.
  No condition beyond those that each theorem states.
-/
import Derived.Test.YtejfigbjaiealaaGreatDoorPostInsG
import Derived.Test.YtejfigbjaiealaaGreatDoorPostAddS
namespace Go.Proofs.YtejfigbjaiealaaGreatDoor
open Go Go.RowKit

structure RowG where
  g : Nat
  c : Nat
  l : List Int

def RowG.val (r : RowG) : Value := .slice (some ⟨r.g, 0, none⟩) r.l.length r.c

abbrev EntG := Nat × List (ByteArray × RowG)

def encEntG (e : EntG) : Value := .map (some e.1)

abbrev OutG := List (ByteArray × EntG)

/-- What an index says, no addresses. -/
def absG (E : OutG) : List (ByteArray × List (ByteArray × List Int)) := E.map fun p => (p.1, p.2.2.map fun q => (q.1, q.2.l))

structure IxG (B : Nat) (w : World) (x mb : Nat) (va : Value) (E : OutG) (all : List Int) : Prop where
  at_ : IxAt w x mb va
  own : Own B w va all
  map : MapAt w mb (encMap encEntG E)
  ent : ∀ p ∈ E, MapAt w p.2.1 (encMap RowG.val p.2.2) ∧ B ≤ p.2.1 ∧ p.2.1 ≠ mb
  row : ∀ p ∈ E, ∀ q ∈ p.2.2, q.2.l ≠ [] ∧ Own B w q.2.val q.2.l ∧ va.ownBlock ≠ some q.2.g
  apartE : ∀ p ∈ E, ∀ p' ∈ E, p.1 ≠ p'.1 → p.2.1 ≠ p'.2.1
  apartR : ∀ p ∈ E, ∀ q ∈ p.2.2, ∀ p' ∈ E, ∀ q' ∈ p'.2.2, (p.1, q.1) ≠ (p'.1, q'.1) → q.2.g ≠ q'.2.g

theorem IxG.keep {B : Nat} {w w' : World} {x mb : Nat} {va : Value} {E : OutG} {all : List Int} (h : IxG B w x mb va E all) (k : Keeps [] w w') : IxG B w' x mb va E all :=
  ⟨go1 k h.at_, go1 k h.own, go1 k h.map, fun p hp => ⟨go1 k (h.ent p hp).1, (h.ent p hp).2⟩, fun p hp q hq => ⟨(h.row p hp q hq).1, go1 k (h.row p hp q hq).2.1, (h.row p hp q hq).2.2⟩, h.apartE, h.apartR⟩

instance go1IxG {w w' : World} (B x mb : Nat) (va : Value) (E : OutG) (all : List Int) : Go1 w w' (IxG B w x mb va E all) (IxG B w' x mb va E all) := ⟨fun k h => h.keep k⟩

theorem keysG_enc {α : Type} (enc : α → Value) (m : List (ByteArray × α)) : (encMap enc m).map (·.1) = m.map (·.1) := by
  induction m with
  | nil => rfl
  | cons a m ih => simp [encMap]

theorem IxG.names {B : Nat} {w : World} {x mb : Nat} {va : Value} {E : OutG} {all : List Int} (h : IxG B w x mb va E all) : (E.map (·.1)).Nodup := by
  have := h.map.nodup
  rwa [keysG_enc] at this

theorem IxG.vals {B : Nat} {w : World} {x mb : Nat} {va : Value} {E : OutG} {all : List Int} (h : IxG B w x mb va E all) {p : ByteArray × EntG} (hp : p ∈ E) : (p.2.2.map (·.1)).Nodup := by
  have := (h.ent p hp).1.nodup
  rwa [keysG_enc] at this

theorem mem_putN {α : Type} {k : ByteArray} {v : α} {q : ByteArray × α} : ∀ {M : List (ByteArray × α)}, (M.map (·.1)).Nodup → q ∈ put M k v → q = (k, v) ∨ (q ∈ M ∧ q.1 ≠ k)
  | [], _, h => .inl (by simpa [put] using h)
  | (k', x) :: r, hn, h => by
    rw [List.map_cons, List.nodup_cons] at hn
    unfold put at h
    split at h
    · rename_i e
      subst e
      rcases List.mem_cons.1 h with h | h
      · exact .inl h
      · exact .inr ⟨List.mem_cons_of_mem _ h, fun e => hn.1 (List.mem_map.2 ⟨q, h, e⟩)⟩
    · rename_i e
      rcases List.mem_cons.1 h with h | h
      · exact .inr ⟨by rw [h]; exact List.mem_cons_self, by rw [h]; exact fun e' => e e'.symm⟩
      · rcases mem_putN hn.2 h with h | ⟨h1, h2⟩
        · exact .inl h
        · exact .inr ⟨List.mem_cons_of_mem _ h1, h2⟩

/-- A row's block. -/
theorem RowG.block (r : RowG) : r.val.ownBlock = some r.g := rfl

theorem IxG.row_lt {B : Nat} {w : World} {x mb : Nat} {va : Value} {E : OutG} {all : List Int} (h : IxG B w x mb va E all) {p : ByteArray × EntG} (hp : p ∈ E) {q : ByteArray × RowG} (hq : q ∈ p.2.2) : B ≤ q.2.g ∧ q.2.g < w.heap.size := World.ownsRow.lt (h.row p hp q hq).2.1 _ rfl

/-- A name that is not there gets an empty map. -/
theorem IxG.newEnt {B : Nat} {w w1 w2 : World} {x mb : Nat} {va : Value} {E : OutG} {all : List Int} (h : IxG B w x mb va E all) {nm : ByteArray} {ib : Nat} (hib : w.heap.size ≤ ib) (hB : B ≤ w.heap.size) (k1 : Keeps [] w w1) (hm : MapAt w1 ib []) (hxm : x ≠ mb) (k2 : Keeps [mb] w1 w2) (hp : MapAt w2 mb (encMap encEntG (E ++ [(nm, (ib, []))]))) :
    IxG B w2 x mb va (E ++ [(nm, (ib, []))]) all := by
  have h1 := h.keep k1
  have hmb : mb < w.heap.size := h.map.lt
  have hlt : ∀ p ∈ E, p.2.1 < w.heap.size := fun p hp => (h.ent p hp).1.lt
  refine ⟨k2.at_ h1.at_ (by simpa using hxm), k2.row h1.own (fun g hg => by have := row_ne_map h1.own h1.map g hg; simpa using this), hp, fun p hp => ?_, fun p hp q hq => ?_, fun p hp p' hp' hne => ?_, fun p hp q hq p' hp' q' hq' hne => ?_⟩
  · rcases List.mem_append.1 hp with hp | hp
    · exact ⟨(h1.ent p hp).1.keep k2 (by simpa using (h1.ent p hp).2.2), (h1.ent p hp).2⟩
    · obtain rfl : p = (nm, (ib, [])) := by simpa using hp
      exact ⟨hm.keep k2 (by have : ib ≠ mb := by omega
                            simpa using this), by show B ≤ ib; omega, by show ib ≠ mb; omega⟩
  · rcases List.mem_append.1 hp with hp | hp
    · have hr := h1.row p hp q hq
      exact ⟨hr.1, k2.row hr.2.1 (fun g hg => by have := row_ne_map hr.2.1 h1.map g hg; simpa using this), hr.2.2⟩
    · obtain rfl : p = (nm, (ib, [])) := by simpa using hp
      simp at hq
  · rcases List.mem_append.1 hp with hp | hp
    · rcases List.mem_append.1 hp' with hp' | hp'
      · exact h.apartE p hp p' hp' hne
      · obtain rfl : p' = (nm, (ib, [])) := by simpa using hp'
        have := hlt p hp
        show p.2.1 ≠ ib
        omega
    · obtain rfl : p = (nm, (ib, [])) := by simpa using hp
      rcases List.mem_append.1 hp' with hp' | hp'
      · have := hlt p' hp'
        show ib ≠ p'.2.1
        omega
      · obtain rfl : p' = (nm, (ib, [])) := by simpa using hp'
        exact absurd rfl hne
  · rcases List.mem_append.1 hp with hp | hp
    · rcases List.mem_append.1 hp' with hp' | hp'
      · exact h.apartR p hp q hq p' hp' q' hq' hne
      · obtain rfl : p' = (nm, (ib, [])) := by simpa using hp'
        simp at hq'
    · obtain rfl : p = (nm, (ib, [])) := by simpa using hp
      simp at hq

/-- One row of one entry is another one. -/
theorem IxG.setRow {B : Nat} {w w1 w2 : World} {x mb : Nat} {va : Value} {E : OutG} {all : List Int} (h : IxG B w x mb va E all) {nm val : ByteArray} {ib : Nat} {inner : List (ByteArray × RowG)} (he : (nm, (ib, inner)) ∈ E) {v0 : Value} {r : RowG}
    (hv0 : v0 = .slice none 0 0 ∨ ∃ r0, (val, r0) ∈ inner ∧ v0 = r0.val) (k1 : Turns v0 w r.val w1) (hr : Own B w1 r.val r.l) (hne : r.l ≠ []) (k2 : Keeps [ib] w1 w2) (hm : MapAt w2 ib (encMap RowG.val (put inner val r))) :
    IxG B w2 x mb va (put E nm (ib, put inner val r)) all := by
  have hEn := h.names
  have hIn := h.vals he
  have hmI := (h.ent _ he).1
  -- what turned ahead of the map: a row of this entry, or nothing
  have hb0 : ∀ y, v0.ownBlock = some y → ∃ r0, (val, r0) ∈ inner ∧ r0.g = y := fun y hy => by
    rcases hv0 with rfl | ⟨r0, h1, rfl⟩
    · simp [Value.ownBlock] at hy
    · exact ⟨r0, h1, Option.some.inj hy⟩
  have hg : (∃ r0, (val, r0) ∈ inner ∧ r0.g = r.g) ∨ w.heap.size ≤ r.g := by
    rcases k1.own r.g rfl with e | e
    · exact .inl (hb0 _ e)
    · exact .inr e
  have hmap1 : ∀ (b : Nat) (m : KV), MapAt w b m → MapAt w1 b m := fun b m hbm => hbm.keep k1.keeps (fun hy => by
    obtain ⟨r0, h1, e⟩ := hb0 b (by simpa using hy)
    have := row_ne_map (h.row _ he _ h1).2.1 hbm r0.g rfl
    exact this e)
  have hcell1 : IxAt w1 x mb va := k1.keeps.at_ h.at_ (fun hy => by
    obtain ⟨r0, h1, e⟩ := hb0 x (by simpa using hy)
    exact row_ne_cells (h.row _ he _ h1).2.1 h.at_ (by decide) r0.g rfl e)
  have hmI1 := hmap1 _ _ hmI
  have hrow1 : ∀ p ∈ E, ∀ q ∈ p.2.2, (p.1, q.1) ≠ (nm, val) → Own B w1 q.2.val q.2.l := fun p hp q hq hne => k1.keeps.row (h.row p hp q hq).2.1 (fun g hg hy => by
    obtain ⟨r0, h1, e⟩ := hb0 g (by simpa using hy)
    have e2 : q.2.g = g := Option.some.inj hg
    exact h.apartR p hp q hq _ he _ h1 hne (e2.trans e.symm))
  have hown1 : Own B w1 va all := k1.keeps.row h.own (fun g hg hy => by
    obtain ⟨r0, h1, e⟩ := hb0 g (by simpa using hy)
    exact (h.row _ he _ h1).2.2 (hg.trans (by rw [← e])))
  have hrow2 : ∀ {v : Value} {l : List Int}, Own B w1 v l → Own B w2 v l := fun ho => k2.row ho (fun g hg => by have := row_ne_map ho hmI1 g hg; simpa using this)
  -- the entries that are there
  have hE : ∀ p ∈ put E nm (ib, put inner val r), p = (nm, (ib, put inner val r)) ∨ (p ∈ E ∧ p.1 ≠ nm) := fun p hp => mem_putN hEn hp
  have hI : ∀ q ∈ put inner val r, q = (val, r) ∨ (q ∈ inner ∧ q.1 ≠ val) := fun q hq => mem_putN hIn hq
  have hva : va.ownBlock ≠ some r.g := fun e => by
    rcases hg with ⟨r0, h1, e1⟩ | h1
    · exact (h.row _ he _ h1).2.2 (e.trans (by rw [e1]))
    · have := (World.ownsRow.lt h.own r.g e).2
      omega
  have hgr : ∀ p ∈ E, ∀ q ∈ p.2.2, (p.1, q.1) ≠ (nm, val) → q.2.g ≠ r.g := fun p hp q hq hne e => by
    rcases hg with ⟨r0, h1, e1⟩ | h1
    · exact h.apartR p hp q hq _ he _ h1 hne (e.trans e1.symm)
    · have := (h.row_lt hp hq).2
      omega
  refine ⟨k2.at_ hcell1 (by simpa using hmI1.ne hcell1), hrow2 hown1, ?_, fun p hp => ?_, fun p hp q hq => ?_, fun p hp p' hp' hne => ?_, fun p hp q hq p' hp' q' hq' hne => ?_⟩
  · have e : encMap encEntG (put E nm (ib, put inner val r)) = encMap encEntG E := by
      rw [← put_enc]
      have : ∀ (M : OutG), (nm, (ib, inner)) ∈ M → (M.map (·.1)).Nodup → put (encMap encEntG M) nm (encEntG (ib, put inner val r)) = encMap encEntG M := by
        intro M
        induction M with
        | nil => intro hM; cases hM
        | cons a M ih =>
          intro hM hn
          obtain ⟨a1, a2⟩ := a
          rw [List.map_cons, List.nodup_cons] at hn
          by_cases e : nm = a1
          · subst e
            rcases List.mem_cons.1 hM with hM | hM
            · injection hM with _ e2
              subst e2
              simp [encMap, put, encEntG]
            · exact absurd (List.mem_map.2 ⟨_, hM, rfl⟩) hn.1
          · rcases List.mem_cons.1 hM with hM | hM
            · injection hM with e1 _
              exact absurd e1 e
            · have := ih hM hn.2
              simp only [encMap, List.map_cons, put, if_neg e] at this ⊢
              rw [this]
      exact this E he hEn
    rw [e]
    exact (hmap1 _ _ h.map).keep k2 (by have := (h.ent _ he).2.2; simpa using fun e => this e.symm)
  · rcases hE p hp with rfl | ⟨hp, hpn⟩
    · exact ⟨hm, (h.ent _ he).2⟩
    · exact ⟨(hmap1 _ _ (h.ent p hp).1).keep k2 (by simpa using h.apartE p hp _ he hpn), (h.ent p hp).2⟩
  · rcases hE p hp with rfl | ⟨hp, hpn⟩
    · rcases hI q hq with rfl | ⟨hq, hqn⟩
      · exact ⟨hne, hrow2 hr, hva⟩
      · have hr0 := h.row _ he q hq
        exact ⟨hr0.1, hrow2 (hrow1 _ he q hq (fun e => hqn (by injection e))), hr0.2.2⟩
    · have hr0 := h.row p hp q hq
      exact ⟨hr0.1, hrow2 (hrow1 p hp q hq (fun e => hpn (by injection e))), hr0.2.2⟩
  · rcases hE p hp with rfl | ⟨hp, hpn⟩
    · rcases hE p' hp' with rfl | ⟨hp', hpn'⟩
      · exact absurd rfl hne
      · exact h.apartE (nm, (ib, inner)) he p' hp' hne
    · rcases hE p' hp' with rfl | ⟨hp', hpn'⟩
      · exact h.apartE p hp (nm, (ib, inner)) he hne
      · exact h.apartE p hp p' hp' hne
  · have one : ∀ p ∈ put E nm (ib, put inner val r), ∀ q ∈ p.2.2, (p.1 = nm ∧ q = (val, r)) ∨ ∃ p0 ∈ E, p0.1 = p.1 ∧ q ∈ p0.2.2 ∧ (p0.1, q.1) ≠ (nm, val) := fun p hp q hq => by
      rcases hE p hp with rfl | ⟨hp, hpn⟩
      · rcases hI q hq with rfl | ⟨hq, hqn⟩
        · exact .inl ⟨rfl, rfl⟩
        · exact .inr ⟨_, he, rfl, hq, fun e => hqn (by injection e)⟩
      · exact .inr ⟨p, hp, rfl, hq, fun e => hpn (by injection e)⟩
    rcases one p hp q hq with ⟨e1, rfl⟩ | ⟨p0, h1, h2, h3, h4⟩
    · rcases one p' hp' q' hq' with ⟨e2, rfl⟩ | ⟨p1, g1, g2, g3, g4⟩
      · exact absurd (by rw [e1, e2]) hne
      · exact fun e => hgr p1 g1 q' g3 g4 e.symm
    · rcases one p' hp' q' hq' with ⟨e2, rfl⟩ | ⟨p1, g1, g2, g3, g4⟩
      · exact hgr p0 h1 q h3 h4
      · exact h.apartR p0 h1 q h3 p1 g1 q' g3 (by rw [h2, g2]; exact hne)

/-- The list of all is another one. -/
theorem IxG.setAll {B : Nat} {w w1 w2 : World} {x mb : Nat} {va v1 : Value} {E : OutG} {all all' : List Int} (h : IxG B w x mb va E all) (k1 : Turns va w v1 w1) (ho : Own B w1 v1 all') (k2 : Keeps [x] w1 w2) (hx2 : IxAt w2 x mb v1) : IxG B w2 x mb v1 E all' := by
  have hx1 := k1.box h.at_ (row_ne_cells h.own h.at_ (by decide))
  have hmap : ∀ (b : Nat) (m : KV), MapAt w b m → MapAt w2 b m := fun b m hbm =>
    (hbm.keep k1.keeps (fun hy => row_ne_map h.own hbm b (by simpa using hy) rfl)).keep k2 (fun hy => by
      obtain rfl : b = x := by simpa using hy
      exact (hbm.ne h.at_) rfl)
  refine ⟨hx2, k2.row ho (fun g hg => by have := row_ne_cells ho hx1.1 (by decide) g hg; simpa using this), hmap _ _ h.map, fun p hp => ⟨hmap _ _ (h.ent p hp).1, (h.ent p hp).2⟩, fun p hp q hq => ?_, h.apartE, h.apartR⟩
  have hr := h.row p hp q hq
  have h1 : Own B w1 q.2.val q.2.l := k1.keeps.row hr.2.1 (fun g hg hy => hr.2.2 (by
    have e : va.ownBlock = some g := by simpa using hy
    rw [e]
    exact hg.symm.trans rfl))
  refine ⟨hr.1, k2.row h1 (fun g hg => by have := row_ne_cells h1 hx1.1 (by decide) g hg; simpa using this), fun e => ?_⟩
  rcases k1.own q.2.g e with e | e
  · exact hr.2.2 e
  · have := (h.row_lt hp hq).2
    omega

theorem look_mapV {α β : Type} (f : α → β) (k : ByteArray) : ∀ M : List (ByteArray × α), look (M.map fun p => (p.1, f p.2)) k = (look M k).map f
  | [] => rfl
  | (k', x) :: r => by
    have ih := look_mapV f k r
    simp only [List.map_cons, look]
    split
    · rfl
    · exact ih

theorem put_mapV {α β : Type} (f : α → β) (k : ByteArray) (v : α) : ∀ M : List (ByteArray × α), (put M k v).map (fun p => (p.1, f p.2)) = put (M.map fun p => (p.1, f p.2)) k (f v)
  | [] => rfl
  | (k', x) :: r => by
    have ih := put_mapV f k v r
    simp only [List.map_cons, put]
    split
    · simp
    · simp [ih]

/-- What Add does with one pair. -/
def addA (A : List (ByteArray × List (ByteArray × List Int))) (n : Int) (p : PairB) : List (ByteArray × List (ByteArray × List Int)) :=
  put A p.1 (put ((look A p.1).getD []) p.2 (insI ((look ((look A p.1).getD []) p.2).getD []) n))

theorem absG_put (E : OutG) (nm val : ByteArray) (ib : Nat) (inner : List (ByteArray × RowG)) (r : RowG) : absG (put E nm (ib, put inner val r)) = put (absG E) nm (put (inner.map fun q => (q.1, q.2.l)) val r.l) := by
  have h1 := put_mapV (fun e : EntG => e.2.map fun q : ByteArray × RowG => (q.1, q.2.l)) nm (ib, put inner val r) E
  have h2 := put_mapV RowG.l val r inner
  unfold absG
  rw [h1, ← h2]

theorem absG_look (E : OutG) (nm : ByteArray) : look (absG E) nm = (look E nm).map fun e => e.2.map fun q => (q.1, q.2.l) := look_mapV (fun e : EntG => e.2.map fun q : ByteArray × RowG => (q.1, q.2.l)) nm E

theorem absG_add {E : OutG} {nm val : ByteArray} {ib : Nat} {inner : List (ByteArray × RowG)} {r : RowG} {n : Int} (h : look E nm = some (ib, inner)) (hr : r.l = insI (((look inner val).map RowG.l).getD []) n) : absG (put E nm (ib, put inner val r)) = addA (absG E) n (nm, val) := by
  rw [absG_put]
  unfold addA
  rw [absG_look, h, Option.map_some, Option.getD_some, look_mapV RowG.l, hr]

theorem put_end2 {α : Type} {k : ByteArray} {v x : α} : ∀ {M : List (ByteArray × α)}, look M k = none → put (M ++ [(k, x)]) k v = put M k v ∧ look (M ++ [(k, x)]) k = some x
  | [], _ => by simp [put, look]
  | (k', y) :: r, h => by
    unfold look at h
    split at h
    · cases h
    · rename_i e
      have ih := put_end2 (v := v) (x := x) (M := r) h
      simp only [List.cons_append, put, look, if_neg e]
      exact ⟨by rw [ih.1], ih.2⟩

theorem absG_new {E : OutG} {nm : ByteArray} (ib : Nat) (n : Int) (val : ByteArray) (h : look E nm = none) : addA (absG (E ++ [(nm, (ib, []))])) n (nm, val) = addA (absG E) n (nm, val) := by
  have e : absG (E ++ [(nm, (ib, []))]) = absG E ++ [(nm, [])] := by simp [absG]
  have hl : look (absG E) nm = none := by rw [absG_look, h]; rfl
  unfold addA
  rw [e, (put_end2 (v := []) hl).2, hl, (put_end2 hl).1]
  rfl

/-- A list of the index's. -/
def RowOk (l : List Int) : Prop := Rises l ∧ ∀ z ∈ l, 0 ≤ z ∧ z < 12

theorem rises_len : ∀ {l : List Int} {a : Int}, Rises l → (∀ z ∈ l, a ≤ z ∧ z < 12) → (l.length : Int) ≤ max 0 (12 - a)
  | [], a, _, _ => by simp; omega
  | x :: l, a, h, hz => by
    have h' := List.pairwise_cons.1 h
    have ih := rises_len (a := x + 1) h'.2 fun z hzl => ⟨by have := h'.1 z hzl; omega, (hz z (by simp [hzl])).2⟩
    have := hz x (by simp)
    rw [List.length_cons]
    omega

theorem RowOk.len {l : List Int} (h : RowOk l) : l.length ≤ 12 := by
  have := rises_len (a := 0) h.1 h.2
  omega

theorem insI_eq : ∀ {l : List Int} {n : Int}, Rises l → n ∉ l → putAt l (l.countP (· < n)) n = insL n l
  | [], _, _, _ => rfl
  | x :: l, n, h, hn => by
    have h' := List.pairwise_cons.1 h
    have hn' : n ≠ x ∧ n ∉ l := by simpa using hn
    unfold insL
    by_cases hx : n < x
    · have h0 : (x :: l).countP (· < n) = 0 := by
        rw [List.countP_eq_zero]
        intro z hz
        rcases List.mem_cons.1 hz with rfl | hz
        · simp; omega
        · have := h'.1 z hz
          simp; omega
      rw [if_pos hx, h0]
      rfl
    · have h1 : (x :: l).countP (· < n) = l.countP (· < n) + 1 := List.countP_cons_of_pos (by simp; omega)
      rw [if_neg hx, h1, ← insI_eq h'.2 hn'.2]
      rfl

theorem insI_put {l : List Int} {n : Int} (h : Rises l) : insI l n = putL l n := by
  unfold insI putL
  split
  · rfl
  · rename_i hn
    exact insI_eq h hn

theorem RowOk.ins {l : List Int} {n : Int} (h : RowOk l) (hn : 0 ≤ n ∧ n < 12) : RowOk (insI l n) ∧ insI l n ≠ [] := by
  rw [insI_put h.1]
  refine ⟨⟨putL_rises h.1, fun z hz => ?_⟩, fun e => ?_⟩
  · unfold putL at hz
    split at hz
    · exact h.2 z hz
    · rcases mem_insL.1 hz with rfl | hz
      · exact hn
      · exact h.2 z hz
  · have : n ∈ putL l n := by
      unfold putL
      split
      · assumption
      · exact mem_insL.2 (.inl rfl)
    rw [e] at this
    simp at this

theorem own_form {B : Nat} {w : World} {v : Value} {l : List Int} (h : Own B w v l) (hne : l ≠ []) : ∃ r : RowG, r.l = l ∧ v = r.val := by
  obtain ⟨_, ⟨rfl, hn⟩ | ⟨g, cap, cur, rfl, _⟩⟩ := h
  · exact absurd (List.eq_nil_of_length_eq_zero hn) hne
  · exact ⟨⟨g, cap, l⟩, rfl, rfl⟩
end Go.Proofs.YtejfigbjaiealaaGreatDoor
