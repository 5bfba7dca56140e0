/-
  Package posting: an index in general: a map of maps of lists, and what one step of Add changes.
  No condition beyond those that each theorem states.

  Package posting: Add, in general, walked.
  No condition beyond those that each theorem states.
-/
import Derived.Test.YtgdkceeonnfejaaGreatDoorPostRem
import Derived.Deep.CutRange
namespace Go.Proofs.YtgdkceeonnfejaaGreatDoor
set_option maxRecDepth 100000
set_option maxHeartbeats 2000000
set_option linter.unusedSimpArgs false
open Go Go.RowKit
structure RowG where
 g : Nat
 c : Nat
 l : List Int
def RowG.val (r : RowG) : Value := .slice (some ⟨r.g, 0, none⟩) r.l.length r.c
abbrev EntG := Nat × List (ByteArray × RowG)
def encEntG (e : EntG) : Value := .map (some e.1)
abbrev OutG := List (ByteArray × EntG)
def absG (E : OutG) : List (ByteArray × List (ByteArray × List Int)) := E.map fun p => (p.1, p.2.2.map fun q => (q.1, q.2.l))
structure IxG (B : Nat) (w : World) (x mb : Nat) (va : Value) (E : OutG) (all : List Int) : Prop where
 at_ : IxAt w x mb va
 own : Own B w va all
 map : MapAt w mb (encMap encEntG E)
 ent : ∀ p ∈ E, MapAt w p.2.1 (encMap RowG.val p.2.2) ∧ B ≤ p.2.1 ∧ p.2.1 ≠ mb
 row : ∀ p ∈ E, ∀ q ∈ p.2.2, q.2.l ≠ [] ∧ Own B w q.2.val q.2.l ∧ va.ownBlock ≠ some q.2.g
 apartE : ∀ p ∈ E, ∀ p' ∈ E, p.1 ≠ p'.1 → p.2.1 ≠ p'.2.1
 apartR : ∀ p ∈ E, ∀ q ∈ p.2.2, ∀ p' ∈ E, ∀ q' ∈ p'.2.2, (p.1, q.1) ≠ (p'.1, q'.1) → q.2.g ≠ q'.2.g
theorem IxG.keep {B : Nat} {w w' : World} {x mb : Nat} {va : Value} {E : OutG} {all : List Int} (h : IxG B w x mb va E all) (k : Keeps [] w w') : IxG B w' x mb va E all :=
 ⟨go1 k h.at_, go1 k h.own, go1 k h.map, fun p hp => ⟨go1 k (h.ent p hp).1, (h.ent p hp).2⟩, fun p hp q hq => ⟨(h.row p hp q hq).1, go1 k (h.row p hp q hq).2.1, (h.row p hp q hq).2.2⟩, h.apartE, h.apartR⟩
instance go1IxG {w w' : World} (B x mb : Nat) (va : Value) (E : OutG) (all : List Int) : Go1 w w' (IxG B w x mb va E all) (IxG B w' x mb va E all) := ⟨fun k h => h.keep k⟩
theorem keysG_enc {α : Type} (enc : α → Value) (m : List (ByteArray × α)) : (encMap enc m).map (·.1) = m.map (·.1) := by
 induction m with
 | nil => rfl
 | cons a m ih => simp [encMap]
theorem IxG.names {B : Nat} {w : World} {x mb : Nat} {va : Value} {E : OutG} {all : List Int} (h : IxG B w x mb va E all) : (E.map (·.1)).Nodup := by
 have := h.map.nodup
 rwa [keysG_enc] at this
theorem IxG.vals {B : Nat} {w : World} {x mb : Nat} {va : Value} {E : OutG} {all : List Int} (h : IxG B w x mb va E all) {p : ByteArray × EntG} (hp : p ∈ E) : (p.2.2.map (·.1)).Nodup := by
 have := (h.ent p hp).1.nodup
 rwa [keysG_enc] at this
theorem mem_putN {α : Type} {k : ByteArray} {v : α} {q : ByteArray × α} : ∀ {M : List (ByteArray × α)}, (M.map (·.1)).Nodup → q ∈ put M k v → q = (k, v) ∨ (q ∈ M ∧ q.1 ≠ k)
 | [], _, h => .inl (by simpa [put] using h)
 | (k', x) :: r, hn, h => by
  rw [List.map_cons, List.nodup_cons] at hn
  unfold put at h
  split at h
  ·rename_i e
   subst e
   rcases List.mem_cons.1 h with h | h
   ·exact .inl h
   ·exact .inr ⟨List.mem_cons_of_mem _ h, fun e => hn.1 (List.mem_map.2 ⟨q, h, e⟩)⟩
  ·rename_i e
   rcases List.mem_cons.1 h with h | h
   ·exact .inr ⟨by rw [h]; exact List.mem_cons_self, by rw [h]; exact fun e' => e e'.symm⟩
   ·rcases mem_putN hn.2 h with h | ⟨h1, h2⟩
    ·exact .inl h
    ·exact .inr ⟨List.mem_cons_of_mem _ h1, h2⟩
theorem RowG.block (r : RowG) : r.val.ownBlock = some r.g := rfl
theorem IxG.row_lt {B : Nat} {w : World} {x mb : Nat} {va : Value} {E : OutG} {all : List Int} (h : IxG B w x mb va E all) {p : ByteArray × EntG} (hp : p ∈ E) {q : ByteArray × RowG} (hq : q ∈ p.2.2) : B ≤ q.2.g ∧ q.2.g < w.heap.size := World.ownsRow.lt (h.row p hp q hq).2.1 _ rfl
theorem IxG.newEnt {B : Nat} {w w1 w2 : World} {x mb : Nat} {va : Value} {E : OutG} {all : List Int} (h : IxG B w x mb va E all) {nm : ByteArray} {ib : Nat} (hib : w.heap.size ≤ ib) (hB : B ≤ w.heap.size) (k1 : Keeps [] w w1) (hm : MapAt w1 ib []) (hxm : x ≠ mb) (k2 : Keeps [mb] w1 w2) (hp : MapAt w2 mb (encMap encEntG (E ++ [(nm, (ib, []))]))) :
  IxG B w2 x mb va (E ++ [(nm, (ib, []))]) all := by
 have h1 := h.keep k1
 have hmb : mb < w.heap.size := h.map.lt
 have hlt : ∀ p ∈ E, p.2.1 < w.heap.size := fun p hp => (h.ent p hp).1.lt
 refine ⟨k2.at_ h1.at_ (by simpa using hxm), k2.row h1.own (fun g hg => by have := row_ne_map h1.own h1.map g hg; simpa using this), hp, fun p hp => ?_, fun p hp q hq => ?_, fun p hp p' hp' hne => ?_, fun p hp q hq p' hp' q' hq' hne => ?_⟩
 ·rcases List.mem_append.1 hp with hp | hp
  ·exact ⟨(h1.ent p hp).1.keep k2 (by simpa using (h1.ent p hp).2.2), (h1.ent p hp).2⟩
  ·obtain rfl : p = (nm, (ib, [])) := by simpa using hp
   exact ⟨hm.keep k2 (by have : ib ≠ mb := by omega
                         simpa using this), by show B ≤ ib; omega, by show ib ≠ mb; omega⟩
 ·rcases List.mem_append.1 hp with hp | hp
  ·have hr := h1.row p hp q hq
   exact ⟨hr.1, k2.row hr.2.1 (fun g hg => by have := row_ne_map hr.2.1 h1.map g hg; simpa using this), hr.2.2⟩
  ·obtain rfl : p = (nm, (ib, [])) := by simpa using hp
   simp at hq
 ·rcases List.mem_append.1 hp with hp | hp
  ·rcases List.mem_append.1 hp' with hp' | hp'
   ·exact h.apartE p hp p' hp' hne
   ·obtain rfl : p' = (nm, (ib, [])) := by simpa using hp'
    have := hlt p hp
    show p.2.1 ≠ ib
    omega
  ·obtain rfl : p = (nm, (ib, [])) := by simpa using hp
   rcases List.mem_append.1 hp' with hp' | hp'
   ·have := hlt p' hp'
    show ib ≠ p'.2.1
    omega
   ·obtain rfl : p' = (nm, (ib, [])) := by simpa using hp'
    exact absurd rfl hne
 ·rcases List.mem_append.1 hp with hp | hp
  ·rcases List.mem_append.1 hp' with hp' | hp'
   ·exact h.apartR p hp q hq p' hp' q' hq' hne
   ·obtain rfl : p' = (nm, (ib, [])) := by simpa using hp'
    simp at hq'
  ·obtain rfl : p = (nm, (ib, [])) := by simpa using hp
   simp at hq
theorem IxG.setRow {B : Nat} {w w1 w2 : World} {x mb : Nat} {va : Value} {E : OutG} {all : List Int} (h : IxG B w x mb va E all) {nm val : ByteArray} {ib : Nat} {inner : List (ByteArray × RowG)} (he : (nm, (ib, inner)) ∈ E) {v0 : Value} {r : RowG}
  (hv0 : v0 = .slice none 0 0 ∨ ∃ r0, (val, r0) ∈ inner ∧ v0 = r0.val) (k1 : Turns v0 w r.val w1) (hr : Own B w1 r.val r.l) (hne : r.l ≠ []) (k2 : Keeps [ib] w1 w2) (hm : MapAt w2 ib (encMap RowG.val (put inner val r))) :
  IxG B w2 x mb va (put E nm (ib, put inner val r)) all := by
 have hEn := h.names
 have hIn := h.vals he
 have hmI := (h.ent _ he).1
 -- what turned ahead of the map: a row of this entry, or nothing
 have hb0 : ∀ y, v0.ownBlock = some y → ∃ r0, (val, r0) ∈ inner ∧ r0.g = y := fun y hy => by
  rcases hv0 with rfl | ⟨r0, h1, rfl⟩
  ·simp [Value.ownBlock] at hy
  ·exact ⟨r0, h1, Option.some.inj hy⟩
 have hg : (∃ r0, (val, r0) ∈ inner ∧ r0.g = r.g) ∨ w.heap.size ≤ r.g := by
  rcases k1.own r.g rfl with e | e
  ·exact .inl (hb0 _ e)
  ·exact .inr e
 have hmap1 : ∀ (b : Nat) (m : KV), MapAt w b m → MapAt w1 b m := fun b m hbm => hbm.keep k1.keeps (fun hy => by
  obtain ⟨r0, h1, e⟩ := hb0 b (by simpa using hy)
  have := row_ne_map (h.row _ he _ h1).2.1 hbm r0.g rfl
  exact this e)
 have hcell1 : IxAt w1 x mb va := k1.keeps.at_ h.at_ (fun hy => by
  obtain ⟨r0, h1, e⟩ := hb0 x (by simpa using hy)
  exact row_ne_cells (h.row _ he _ h1).2.1 h.at_ (by decide) r0.g rfl e)
 have hmI1 := hmap1 _ _ hmI
 have hrow1 : ∀ p ∈ E, ∀ q ∈ p.2.2, (p.1, q.1) ≠ (nm, val) → Own B w1 q.2.val q.2.l := fun p hp q hq hne => k1.keeps.row (h.row p hp q hq).2.1 (fun g hg hy => by
  obtain ⟨r0, h1, e⟩ := hb0 g (by simpa using hy)
  have e2 : q.2.g = g := Option.some.inj hg
  exact h.apartR p hp q hq _ he _ h1 hne (e2.trans e.symm))
 have hown1 : Own B w1 va all := k1.keeps.row h.own (fun g hg hy => by
  obtain ⟨r0, h1, e⟩ := hb0 g (by simpa using hy)
  exact (h.row _ he _ h1).2.2 (hg.trans (by rw [← e])))
 have hrow2 : ∀ {v : Value} {l : List Int}, Own B w1 v l → Own B w2 v l := fun ho => k2.row ho (fun g hg => by have := row_ne_map ho hmI1 g hg; simpa using this)
 -- the entries that are there
 have hE : ∀ p ∈ put E nm (ib, put inner val r), p = (nm, (ib, put inner val r)) ∨ (p ∈ E ∧ p.1 ≠ nm) := fun p hp => mem_putN hEn hp
 have hI : ∀ q ∈ put inner val r, q = (val, r) ∨ (q ∈ inner ∧ q.1 ≠ val) := fun q hq => mem_putN hIn hq
 have hva : va.ownBlock ≠ some r.g := fun e => by
  rcases hg with ⟨r0, h1, e1⟩ | h1
  ·exact (h.row _ he _ h1).2.2 (e.trans (by rw [e1]))
  ·have := (World.ownsRow.lt h.own r.g e).2
   omega
 have hgr : ∀ p ∈ E, ∀ q ∈ p.2.2, (p.1, q.1) ≠ (nm, val) → q.2.g ≠ r.g := fun p hp q hq hne e => by
  rcases hg with ⟨r0, h1, e1⟩ | h1
  ·exact h.apartR p hp q hq _ he _ h1 hne (e.trans e1.symm)
  ·have := (h.row_lt hp hq).2
   omega
 refine ⟨k2.at_ hcell1 (by simpa using hmI1.ne hcell1), hrow2 hown1, ?_, fun p hp => ?_, fun p hp q hq => ?_, fun p hp p' hp' hne => ?_, fun p hp q hq p' hp' q' hq' hne => ?_⟩
 ·have e : encMap encEntG (put E nm (ib, put inner val r)) = encMap encEntG E := by
   rw [← put_enc]
   have : ∀ (M : OutG), (nm, (ib, inner)) ∈ M → (M.map (·.1)).Nodup → put (encMap encEntG M) nm (encEntG (ib, put inner val r)) = encMap encEntG M := by
    intro M
    induction M with
    | nil => intro hM; cases hM
    | cons a M ih =>
     intro hM hn
     obtain ⟨a1, a2⟩ := a
     rw [List.map_cons, List.nodup_cons] at hn
     by_cases e : nm = a1
     ·subst e
      rcases List.mem_cons.1 hM with hM | hM
      ·injection hM with _ e2
       subst e2
       simp [encMap, put, encEntG]
      ·exact absurd (List.mem_map.2 ⟨_, hM, rfl⟩) hn.1
     ·rcases List.mem_cons.1 hM with hM | hM
      ·injection hM with e1 _
       exact absurd e1 e
      ·have := ih hM hn.2
       simp only [encMap, List.map_cons, put, if_neg e] at this ⊢
       rw [this]
   exact this E he hEn
  rw [e]
  exact (hmap1 _ _ h.map).keep k2 (by have := (h.ent _ he).2.2; simpa using fun e => this e.symm)
 ·rcases hE p hp with rfl | ⟨hp, hpn⟩
  ·exact ⟨hm, (h.ent _ he).2⟩
  ·exact ⟨(hmap1 _ _ (h.ent p hp).1).keep k2 (by simpa using h.apartE p hp _ he hpn), (h.ent p hp).2⟩
 ·rcases hE p hp with rfl | ⟨hp, hpn⟩
  ·rcases hI q hq with rfl | ⟨hq, hqn⟩
   ·exact ⟨hne, hrow2 hr, hva⟩
   ·have hr0 := h.row _ he q hq
    exact ⟨hr0.1, hrow2 (hrow1 _ he q hq (fun e => hqn (by injection e))), hr0.2.2⟩
  ·have hr0 := h.row p hp q hq
   exact ⟨hr0.1, hrow2 (hrow1 p hp q hq (fun e => hpn (by injection e))), hr0.2.2⟩
 ·rcases hE p hp with rfl | ⟨hp, hpn⟩
  ·rcases hE p' hp' with rfl | ⟨hp', hpn'⟩
   ·exact absurd rfl hne
   ·exact h.apartE (nm, (ib, inner)) he p' hp' hne
  ·rcases hE p' hp' with rfl | ⟨hp', hpn'⟩
   ·exact h.apartE p hp (nm, (ib, inner)) he hne
   ·exact h.apartE p hp p' hp' hne
 ·have one : ∀ p ∈ put E nm (ib, put inner val r), ∀ q ∈ p.2.2, (p.1 = nm ∧ q = (val, r)) ∨ ∃ p0 ∈ E, p0.1 = p.1 ∧ q ∈ p0.2.2 ∧ (p0.1, q.1) ≠ (nm, val) := fun p hp q hq => by
   rcases hE p hp with rfl | ⟨hp, hpn⟩
   ·rcases hI q hq with rfl | ⟨hq, hqn⟩
    ·exact .inl ⟨rfl, rfl⟩
    ·exact .inr ⟨_, he, rfl, hq, fun e => hqn (by injection e)⟩
   ·exact .inr ⟨p, hp, rfl, hq, fun e => hpn (by injection e)⟩
  rcases one p hp q hq with ⟨e1, rfl⟩ | ⟨p0, h1, h2, h3, h4⟩
  ·rcases one p' hp' q' hq' with ⟨e2, rfl⟩ | ⟨p1, g1, g2, g3, g4⟩
   ·exact absurd (by rw [e1, e2]) hne
   ·exact fun e => hgr p1 g1 q' g3 g4 e.symm
  ·rcases one p' hp' q' hq' with ⟨e2, rfl⟩ | ⟨p1, g1, g2, g3, g4⟩
   ·exact hgr p0 h1 q h3 h4
   ·exact h.apartR p0 h1 q h3 p1 g1 q' g3 (by rw [h2, g2]; exact hne)
theorem IxG.setAll {B : Nat} {w w1 w2 : World} {x mb : Nat} {va v1 : Value} {E : OutG} {all all' : List Int} (h : IxG B w x mb va E all) (k1 : Turns va w v1 w1) (ho : Own B w1 v1 all') (k2 : Keeps [x] w1 w2) (hx2 : IxAt w2 x mb v1) : IxG B w2 x mb v1 E all' := by
 have hx1 := k1.box h.at_ (row_ne_cells h.own h.at_ (by decide))
 have hmap : ∀ (b : Nat) (m : KV), MapAt w b m → MapAt w2 b m := fun b m hbm =>
  (hbm.keep k1.keeps (fun hy => row_ne_map h.own hbm b (by simpa using hy) rfl)).keep k2 (fun hy => by
   obtain rfl : b = x := by simpa using hy
   exact (hbm.ne h.at_) rfl)
 refine ⟨hx2, k2.row ho (fun g hg => by have := row_ne_cells ho hx1.1 (by decide) g hg; simpa using this), hmap _ _ h.map, fun p hp => ⟨hmap _ _ (h.ent p hp).1, (h.ent p hp).2⟩, fun p hp q hq => ?_, h.apartE, h.apartR⟩
 have hr := h.row p hp q hq
 have h1 : Own B w1 q.2.val q.2.l := k1.keeps.row hr.2.1 (fun g hg hy => hr.2.2 (by
  have e : va.ownBlock = some g := by simpa using hy
  rw [e]
  exact hg.symm.trans rfl))
 refine ⟨hr.1, k2.row h1 (fun g hg => by have := row_ne_cells h1 hx1.1 (by decide) g hg; simpa using this), fun e => ?_⟩
 rcases k1.own q.2.g e with e | e
 ·exact hr.2.2 e
 ·have := (h.row_lt hp hq).2
  omega
theorem look_mapV {α β : Type} (f : α → β) (k : ByteArray) : ∀ M : List (ByteArray × α), look (M.map fun p => (p.1, f p.2)) k = (look M k).map f
 | [] => rfl
 | (k', x) :: r => by
  have ih := look_mapV f k r
  simp only [List.map_cons, look]
  split
  ·rfl
  ·exact ih
theorem put_mapV {α β : Type} (f : α → β) (k : ByteArray) (v : α) : ∀ M : List (ByteArray × α), (put M k v).map (fun p => (p.1, f p.2)) = put (M.map fun p => (p.1, f p.2)) k (f v)
 | [] => rfl
 | (k', x) :: r => by
  have ih := put_mapV f k v r
  simp only [List.map_cons, put]
  split
  ·simp
  ·simp [ih]
def addA (A : List (ByteArray × List (ByteArray × List Int))) (n : Int) (p : PairB) : List (ByteArray × List (ByteArray × List Int)) :=
 put A p.1 (put ((look A p.1).getD []) p.2 (insI ((look ((look A p.1).getD []) p.2).getD []) n))
theorem absG_put (E : OutG) (nm val : ByteArray) (ib : Nat) (inner : List (ByteArray × RowG)) (r : RowG) : absG (put E nm (ib, put inner val r)) = put (absG E) nm (put (inner.map fun q => (q.1, q.2.l)) val r.l) := by
 have h1 := put_mapV (fun e : EntG => e.2.map fun q : ByteArray × RowG => (q.1, q.2.l)) nm (ib, put inner val r) E
 have h2 := put_mapV RowG.l val r inner
 unfold absG
 rw [h1, ← h2]
theorem absG_look (E : OutG) (nm : ByteArray) : look (absG E) nm = (look E nm).map fun e => e.2.map fun q => (q.1, q.2.l) := look_mapV (fun e : EntG => e.2.map fun q : ByteArray × RowG => (q.1, q.2.l)) nm E
theorem absG_add {E : OutG} {nm val : ByteArray} {ib : Nat} {inner : List (ByteArray × RowG)} {r : RowG} {n : Int} (h : look E nm = some (ib, inner)) (hr : r.l = insI (((look inner val).map RowG.l).getD []) n) : absG (put E nm (ib, put inner val r)) = addA (absG E) n (nm, val) := by
 rw [absG_put]
 unfold addA
 rw [absG_look, h, Option.map_some, Option.getD_some, look_mapV RowG.l, hr]
theorem put_end2 {α : Type} {k : ByteArray} {v x : α} : ∀ {M : List (ByteArray × α)}, look M k = none → put (M ++ [(k, x)]) k v = put M k v ∧ look (M ++ [(k, x)]) k = some x
 | [], _ => by simp [put, look]
 | (k', y) :: r, h => by
  unfold look at h
  split at h
  ·cases h
  ·rename_i e
   have ih := put_end2 (v := v) (x := x) (M := r) h
   simp only [List.cons_append, put, look, if_neg e]
   exact ⟨by rw [ih.1], ih.2⟩
theorem absG_new {E : OutG} {nm : ByteArray} (ib : Nat) (n : Int) (val : ByteArray) (h : look E nm = none) : addA (absG (E ++ [(nm, (ib, []))])) n (nm, val) = addA (absG E) n (nm, val) := by
 have e : absG (E ++ [(nm, (ib, []))]) = absG E ++ [(nm, [])] := by simp [absG]
 have hl : look (absG E) nm = none := by rw [absG_look, h]; rfl
 unfold addA
 rw [e, (put_end2 (v := []) hl).2, hl, (put_end2 hl).1]
 rfl
theorem nodup_le {α : Type} [DecidableEq α] : ∀ {l m : List α}, l.Nodup → (∀ x ∈ l, x ∈ m) → l.length ≤ m.length
 | [], _, _, _ => Nat.zero_le _
 | a :: l, m, hn, hs => by
  rw [List.nodup_cons] at hn
  have ha : a ∈ m := hs a List.mem_cons_self
  have ih := nodup_le (l := l) (m := m.erase a) hn.2 fun x hx => (List.mem_erase_of_ne (fun e => hn.1 (by rw [← e]; exact hx))).2 (hs x (List.mem_cons_of_mem _ hx))
  have := List.length_erase_of_mem ha
  have := List.length_pos_of_mem ha
  rw [List.length_cons]
  omega
theorem rises_nodup {l : List Int} (h : Rises l) : l.Nodup := h.imp fun hab e => by subst e; exact absurd hab (Int.lt_irrefl _)
def RowOk (R l : List Int) : Prop := Rises l ∧ (∀ z ∈ l, z ∈ R) ∧ R.length ≤ 12
theorem RowOk.len {R l : List Int} (h : RowOk R l) : l.length ≤ 12 := Nat.le_trans (nodup_le (rises_nodup h.1) h.2.1) h.2.2
theorem RowOk.nil {R : List Int} (h : R.length ≤ 12) : RowOk R [] := ⟨List.Pairwise.nil, by simp, h⟩
theorem insI_eq : ∀ {l : List Int} {n : Int}, Rises l → n ∉ l → putAt l (l.countP (· < n)) n = insL n l
 | [], _, _, _ => rfl
 | x :: l, n, h, hn => by
  have h' := List.pairwise_cons.1 h
  have hn' : n ≠ x ∧ n ∉ l := by simpa using hn
  unfold insL
  by_cases hx : n < x
  ·have h0 : (x :: l).countP (· < n) = 0 := by
    rw [List.countP_eq_zero]
    intro z hz
    rcases List.mem_cons.1 hz with rfl | hz
    ·simp; omega
    ·have := h'.1 z hz
     simp; omega
   rw [if_pos hx, h0]
   rfl
  ·have h1 : (x :: l).countP (· < n) = l.countP (· < n) + 1 := List.countP_cons_of_pos (by simp; omega)
   rw [if_neg hx, h1, ← insI_eq h'.2 hn'.2]
   rfl
theorem insI_put {l : List Int} {n : Int} (h : Rises l) : insI l n = putL l n := by
 unfold insI putL
 split
 ·rfl
 ·rename_i hn
  exact insI_eq h hn
theorem RowOk.ins {R l : List Int} {n : Int} (h : RowOk R l) (hn : n ∈ R) : RowOk R (insI l n) ∧ insI l n ≠ [] := by
 rw [insI_put h.1]
 refine ⟨⟨putL_rises h.1, fun z hz => ?_, h.2.2⟩, fun e => ?_⟩
 ·unfold putL at hz
  split at hz
  ·exact h.2.1 z hz
  ·rcases mem_insL.1 hz with rfl | hz
   ·exact hn
   ·exact h.2.1 z hz
 ·have : n ∈ putL l n := by
   unfold putL
   split
   ·assumption
   ·exact mem_insL.2 (.inl rfl)
  rw [e] at this
  simp at this
theorem own_form {B : Nat} {w : World} {v : Value} {l : List Int} (h : Own B w v l) (hne : l ≠ []) : ∃ r : RowG, r.l = l ∧ v = r.val := by
 obtain ⟨_, ⟨rfl, hn⟩ | ⟨g, cap, cur, rfl, _⟩⟩ := h
 ·exact absurd (List.eq_nil_of_length_eq_zero hn) hne
 ·exact ⟨⟨g, cap, l⟩, rfl, rfl⟩
def Still2 (w w' : World) : Prop := ∀ (b : Nat) (cs : Array Value) (t : TypeId), t ≠ 3 → t ≠ 142 → w.heap[b]? = some (.cells cs t (0, 0)) → w'.heap[b]? = some (.cells cs t (0, 0))
def StillM (X : List Nat) (w w' : World) : Prop := ∀ c ∈ X, ∀ o, w.heap[c]? = some o → w'.heap[c]? = some o
def K2 (X : List Nat) (w0 w wr : World) : Prop := Keeps [] w0 wr ∧ Still2 w wr ∧ StillM X w wr ∧ w.heap.size ≤ wr.heap.size
theorem row_ne_mapO {w : World} {base s n b : Nat} {e : TypeId} {v : Value} {xs : List Value} {es : Array MapEntry} {k : Nat} (h : w.ownsRow base e s v n xs) (hb : w.heap[b]? = some (.map es k)) : ∀ g, v.ownBlock = some g → g ≠ b := by
 intro g hg e2
 subst e2
 obtain ⟨_, ⟨rfl, _⟩ | ⟨g', cap, cur, rfl, _, h1, _⟩⟩ := h
 ·simp [Value.ownBlock] at hg
 ·obtain rfl : g' = g := by simpa [Value.ownBlock] using hg
  rw [h1] at hb
  cases hb
theorem K2.start {X : List Nat} {w0 w : World} (k : Keeps [] w0 w) : K2 X w0 w w := ⟨k, fun _ _ _ _ _ h => h, fun _ _ _ h => h, Nat.le_refl _⟩
theorem K2.keep {X : List Nat} {w0 w a b : World} (h : K2 X w0 w a) (k : Keeps [] a b) : K2 X w0 w b := ⟨h.1.trans k, fun c cs t h1 h2 hc => k.at_ (h.2.1 c cs t h1 h2 hc) (by simp), fun c hx o hc => k.at_ (h.2.2.1 c hx o hc) (by simp), Nat.le_trans h.2.2.2 k.size⟩
theorem K2.after_turns {X : List Nat} {w0 w a b : World} {v v' : Value} {B : Nat} {l : List Int} (h : K2 X w0 w a) (k : Turns v a v' b) (ho : Own B a v l) (hB : w0.heap.size ≤ B) (hx : ∀ g, v.ownBlock = some g → g ∉ X) : K2 X w0 w b :=
 ⟨h.1.after k.keeps (fun y hy => .inr (by have := (World.ownsRow.lt ho y (by simpa using hy)).1; omega)), fun c cs t h1 h2 hc => k.keeps.at_ (h.2.1 c cs t h1 h2 hc) (fun hy => row_ne_cells ho (h.2.1 c cs t h1 h2 hc) h1 c (by simpa using hy) rfl),
  fun c hc o ho => k.keeps.at_ (h.2.2.1 c hc o ho) (fun hy => hx c (by simpa using hy) hc), Nat.le_trans h.2.2.2 k.keeps.size⟩
theorem K2.map {X : List Nat} {w0 w a b : World} {m : Nat} {kv : KV} (h : K2 X w0 w a) (k : Keeps [m] a b) (hm : MapAt a m kv) (hB : w0.heap.size ≤ m) (hx : m ∉ X) : K2 X w0 w b :=
 ⟨h.1.after k (fun y hy => .inr (by
  obtain rfl : y = m := by simpa using hy
  exact hB)), fun c cs t h1 h2 hc => k.at_ (h.2.1 c cs t h1 h2 hc) (by simpa using hm.ne (h.2.1 c cs t h1 h2 hc)),
  fun c hc o ho => k.at_ (h.2.2.1 c hc o ho) (fun hy => by
   obtain rfl : c = m := by simpa using hy
   exact hx hc), Nat.le_trans h.2.2.2 k.size⟩
theorem K2.ix {X : List Nat} {w0 w a b : World} {x mb : Nat} {va : Value} (h : K2 X w0 w a) (k : Keeps [x] a b) (hx : IxAt a x mb va) (hB : w0.heap.size ≤ x) (hxX : x ∉ X) : K2 X w0 w b :=
 ⟨h.1.after k (fun y hy => .inr (by
  obtain rfl : y = x := by simpa using hy
  exact hB)), fun c cs t h1 h2 hc => k.at_ (h.2.1 c cs t h1 h2 hc) (fun hy => by
  obtain rfl : c = x := by simpa using hy
  have h3 := h.2.1 _ cs t h1 h2 hc
  unfold IxAt at hx
  rw [hx] at h3
  injection h3 with h3
  injection h3 with _ h3 _
  exact h2 h3.symm), fun c hc o ho => k.at_ (h.2.2.1 c hc o ho) (fun hy => by
  obtain rfl : c = x := by simpa using hy
  exact hxX hc), Nat.le_trans h.2.2.2 k.size⟩
structure ApX (X : List Nat) (x mb : Nat) (va : Value) (E : OutG) : Prop where
 ix : x ∉ X
 mb : mb ∉ X
 va : ∀ g, va.ownBlock = some g → g ∉ X
 ent : ∀ p ∈ E, p.2.1 ∉ X
 row : ∀ p ∈ E, ∀ q ∈ p.2.2, q.2.g ∉ X
theorem turns_ap {X : List Nat} {v v' : Value} {w w' : World} (ht : Turns v w v' w') (hv : ∀ g, v.ownBlock = some g → g ∉ X) (hX : ∀ c ∈ X, c < w.heap.size) : ∀ g, v'.ownBlock = some g → g ∉ X := fun g hg hx => by
 rcases ht.own g hg with e | e
 ·exact hv g e hx
 ·have := hX g hx
  omega
theorem ApX.all {X : List Nat} {x mb : Nat} {va v1 : Value} {E : OutG} {w w1 : World} (h : ApX X x mb va E) (ht : Turns va w v1 w1) (hX : ∀ c ∈ X, c < w.heap.size) : ApX X x mb v1 E := ⟨h.ix, h.mb, turns_ap ht h.va hX, h.ent, h.row⟩
theorem ApX.snoc {X : List Nat} {x mb ib : Nat} {va : Value} {E : OutG} {nm : ByteArray} (h : ApX X x mb va E) (hib : ib ∉ X) : ApX X x mb va (E ++ [(nm, (ib, []))]) :=
 ⟨h.ix, h.mb, h.va, fun p hp => by
  rcases List.mem_append.1 hp with hp | hp
  ·exact h.ent p hp
  ·obtain rfl : p = (nm, (ib, [])) := by simpa using hp
   exact hib, fun p hp q hq => by
  rcases List.mem_append.1 hp with hp | hp
  ·exact h.row p hp q hq
  ·obtain rfl : p = (nm, (ib, [])) := by simpa using hp
   simp at hq⟩
theorem ApX.put {X : List Nat} {x mb ib : Nat} {va : Value} {E : OutG} {nm : ByteArray} {inner inner' : List (ByteArray × RowG)} (h : ApX X x mb va E) (hn : (E.map (·.1)).Nodup) (he : (nm, (ib, inner)) ∈ E) (hr : ∀ q ∈ inner', q ∈ inner ∨ q.2.g ∉ X) : ApX X x mb va (put E nm (ib, inner')) :=
 ⟨h.ix, h.mb, h.va, fun p hp => by
  rcases mem_putN hn hp with rfl | ⟨hp, _⟩
  ·have h1 := h.ent _ he
   exact h1
  ·exact h.ent p hp, fun p hp q hq => by
  rcases mem_putN hn hp with rfl | ⟨hp, _⟩
  ·rcases hr q hq with hq | hq
   ·have h1 := h.row _ he q hq
    exact h1
   ·exact hq
  ·exact h.row p hp q hq⟩
instance go1K2 {w w' : World} (X : List Nat) (w0 a : World) : Go1 w w' (K2 X w0 a w) (K2 X w0 a w') := ⟨fun k h => h.keep k⟩
def RowsOk (R : List Int) (E : OutG) : Prop := ∀ p ∈ E, ∀ q ∈ p.2.2, RowOk R q.2.l
def RowsX (R : List Int) (X : List Nat) (x mb : Nat) (va : Value) (E : OutG) : Prop := RowsOk R E ∧ ApX X x mb va E
def AddPostG (R : List Int) (X : List Nat) (B x mb : Nat) (n : Int) (P : List PairB) (E : OutG) (all : List Int) (v : Value) (w0 w : World) (e : Ending) (w' : World) : Prop :=
 ∃ va E', e = .returned (.tuple #[]) ∧ IxG B w' x mb va E' (insI all n) ∧ absG E' = P.foldl (fun A p => addA A n p) (absG E) ∧ RowsX R X x mb va E' ∧ w'.ownsRow 0 149 2 v P.length (P.flatMap encPB) ∧ K2 X w0 w w'
def AddRelG (R : List Int) (X : List Nat) (w0 w : World) (B x mb : Nat) (n : Int) (v va : Value) (P : List PairB) (E : OutG) (all : List Int) (gk : Nat) (u20 : Value) (wr : World) : Prop :=
 ∃ (i : Nat) (E' : OutG), i ≤ P.length ∧ gk = P.length - i ∧ u20 = .int .i64 i ∧ IxG B wr x mb va E' (insI all n) ∧ absG E' = (P.take i).foldl (fun A p => addA A n p) (absG E) ∧ RowsX R X x mb va E' ∧ wr.ownsRow 0 149 2 v P.length (P.flatMap encPB) ∧ K2 X w0 w wr
def CutG (R : List Int) (X : List Nat) (w0 w : World) (B x mb pb : Nat) (n : Int) (v va : Value) (P : List PairB) (p1 p2 : ByteArray) (A : List (ByteArray × List (ByteArray × List Int))) (all : List Int) (u8 : Value) (wc : World) : Prop :=
 ∃ (ib : Nat) (inner : List (ByteArray × RowG)) (E1 : OutG), u8 = .map (some ib) ∧ IxG B wc x mb va E1 all ∧ (p1, (ib, inner)) ∈ E1 ∧ look E1 p1 = some (ib, inner) ∧ addA (absG E1) n (p1, p2) = addA A n (p1, p2) ∧ RowsX R X x mb va E1 ∧ wc.ownsRow 0 149 2 v P.length (P.flatMap encPB) ∧ wc.heap[pb]? = some (.cells #[.string p1, .string p2] 149 (0, 0)) ∧ K2 X w0 w wc
theorem look_memG {α : Type} {k : ByteArray} {v : α} : ∀ {M : List (ByteArray × α)}, look M k = some v → (k, v) ∈ M
 | (k', x) :: r, h => by
  unfold look at h
  split at h
  ·rename_i e
   subst e
   injection h with h
   rw [h]
   exact List.mem_cons_self
  ·exact List.mem_cons_of_mem _ (look_memG h)
theorem addG_spec (R : List Int) (X : List Nat) (B : Nat) (w0 w : World) (x mb : Nat) (n : Int) (va v : Value) (E : OutG) (all : List Int) (P : List PairB) (k0 : Keeps [] w0 w) (hB0 : w0.heap.size ≤ B) (hB : B ≤ w.heap.size) (hx0 : B ≤ x) (hm0 : B ≤ mb) (hix : IxG B w x mb va E all) (hall : RowOk R all) (hrows : RowsX R X x mb va E) (hn : n ∈ R) (hX : ∀ c ∈ X, c < w.heap.size) (hs : w.ownsRow 0 149 2 v P.length (P.flatMap encPB)) (hl : P.length ≤ 1000) :
  Calls Tryz.prog 68 #[.pointer (some ⟨x, 0, none⟩), .int .i64 n, v] w (AddPostG R X B x mb n P E all v w0 w) := by
 have hmm := @run_makeMap Tryz.prog
 have qM : ∀ (w : World) (r : Option Nat), (binOp .eql 171 (.map r) (.map none)).run Tryz.prog w = .ok (.bool r.isNone) w := fun w r => run_eql_map_nil w _ _ _ r Tryz.underlying171
 have hxm : x ≠ mb := hix.map.ne hix.at_
 have c0 := cells_at hix.at_
 have l0 := lt_of_at hix.at_
 have Hadd := Lib.hid (insert_spec B w n va all (hall.1.imp fun h => Int.le_of_lt h) (by have := hall.len; omega) hB hix.own)
 obtain ⟨aa, ca, rfl, -, -, -⟩ := row_slice hix.own
 obtain ⟨vs, vc, rfl, -, -, -⟩ := row_slice hs
 have HX := Lib.hid hX
 have HR := Lib.hid hall.2.2
 have H0 := Lib.hid (And.intro hix (And.intro hs (And.intro k0 (And.intro hrows hn))))
 clear hix hs k0 hrows hn hall hX
 go_enter Tryz.func68, Tryz.ntmps68
 go_wp2_with fail
 refine Hadd.out.mono ?_
 rintro e w1 ⟨v1, rfl, hown1, ht1⟩
 have hne1 : insI all n ≠ [] ∨ True := .inr trivial
 clear hne1
 obtain ⟨a1, cp1, rfl, -, -, -⟩ := row_slice hown1
 have hx1 := ht1.box H0.out.1.at_ (row_ne_cells H0.out.1.own H0.out.1.at_ (by decide))
 have H1 := Lib.hid (And.intro hx1 (And.intro hown1 ht1))
 have hso : w1.ownsRow 0 149 2 (.slice vs P.length vc) P.length (P.flatMap encPB) := ht1.keeps.row H0.out.2.1 (rows_ne2 H0.out.1.own H0.out.2.1 (by decide))
 have hk01 : K2 X w0 w w1 := (K2.start H0.out.2.2.1).after_turns ht1 H0.out.1.own hB0 H0.out.2.2.2.1.2.va
 have hrows1 := And.intro H0.out.2.2.2.1.1 (H0.out.2.2.2.1.2.all ht1 HX.out)
 have Hs := Lib.hid (And.intro hso (And.intro hk01 (show RowsX R X x mb _ E from hrows1)))
 clear hown1 ht1 c0 l0 Hadd hx1 hso hk01 hrows1
 have c1 := cells_at H1.out.1.1
 have f1 := free_at H1.out.1.1
 have l1 := lt_of_at H1.out.1.1
 go_wp2_with fail
 clear c1 f1 l1
 have k12 : Keeps [x] w1 (w1.setCell ⟨x, 1, none⟩ (.slice a1 (insI all n).length cp1)) := (Keeps.refl _ w1).setCell (.inl (by simp)) _
 have hx2 : IxAt (w1.setCell ⟨x, 1, none⟩ (.slice a1 (insI all n).length cp1)) x mb (.slice a1 (insI all n).length cp1) := (heap_cell_same (i := 1) H1.out.1.1 _).trans (by simp)
 have H2 := Lib.hid (And.intro (H0.out.1.setAll H1.out.2.2 H1.out.2.1 k12 hx2) (And.intro (k12.row Hs.out.1 (fun g hg => by have := row_ne_cells Hs.out.1 H1.out.1.1 (by decide) g hg; simpa using this)) (And.intro (Hs.out.2.1.ix k12 H1.out.1.1 (Nat.le_trans hB0 hx0) H0.out.2.2.2.1.2.ix) (And.intro Hs.out.2.2 H0.out.2.2.2.2))))
 clear k12 hx2 H1 H0 Hs
 generalize w1.setCell ⟨x, 1, none⟩ (.slice a1 (insI all n).length cp1) = w2 at H2 ⊢
 go_loopg [20] P.length (AddRelG R X w0 w B x mb n (.slice vs P.length vc) (.slice a1 (insI all n).length cp1) P E all)
 case atStart => exact ⟨0, E, Nat.zero_le _, rfl, rfl, H2.out.1, rfl, H2.out.2.2.2.1, H2.out.2.1, H2.out.2.2.1⟩
 case round =>
  obtain ⟨i, E', hi, hgk, rfl, hixr, habs, hrows, hvr, hkw⟩ := hrel
  have Hg := Lib.hid hgk
  have Hn := Lib.hid H2.out.2.2.2.2
  clear hgk H2
  by_cases hlt : i < P.length
  ·have hSA : SliceArg 2 encPB wr (.slice vs P.length vc) P := (sliceFrom_row (enc := encPB) (fun _ => rfl) hvr).arg
   obtain ⟨b, off, cap', ea, hbW, d0, d1⟩ := pair_at hSA i hlt
   injection ea with ea _ ec
   subst ea ec
   have hlt' : (i : Int) < (P.length : Int) := by omega
   obtain ⟨p, hp⟩ : ∃ p, p = P[i] := ⟨_, rfl⟩
   rw [← hp] at d0 d1
   have Hp := Lib.hid (And.intro hp habs)
   obtain ⟨p1, p2⟩ := p
   dsimp only at d0 d1
   have kp : Keeps [] wr (wr.alloc (.cells #[.string p1, .string p2] 149)) := (Keeps.refl [] wr).alloc _
   have H3a := Lib.hid (And.intro (go1 kp (And.intro hixr (And.intro hvr hkw))) (And.intro (heap_new wr (.cells #[.string p1, .string p2] 149)) hrows))
   clear hixr hvr hkw hSA hp habs hrows kp
   go_upto_region 4 with fail
   clear d0 d1 hbW
   generalize hwa : wr.alloc (.cells #[.string p1, .string p2] 149) = wa at H3a ⊢
   generalize hpb : wr.heap.size = pb at H3a ⊢
   clear hwa hpb
   obtain ⟨o, ho⟩ : ∃ o, o = (look E' p1).map (·.1) := ⟨_, rfl⟩
   obtain ⟨W0, hW0⟩ : ∃ W0, W0 = wa.drew := ⟨_, rfl⟩
   have kW : Keeps [] wa W0 := by rw [hW0]; exact (Keeps.refl [] wa).drew
   have H3 := Lib.hid (go1 kW H3a.out)
   have HW := Lib.hid hW0
   have hpx := lt_of_at H3.out.2.1
   clear kW hW0 H3a
   have F0 : ∀ s : Kept W0, s.val.cell? ⟨x, 0, none⟩ = some (.map (some mb)) := keptCell (by rw [cells_at H3.out.1.1.at_]; rfl)
   have F1 : ∀ s : Kept W0, s.val.cell? ⟨pb, 0, none⟩ = some (.string p1) := keptCell (by rw [cells_at H3.out.2.1]; rfl)
   have L0 : ∀ s : Kept W0, x < s.val.heap.size := fun s => s.property.lt (lt_of_at H3.out.1.1.at_)
   have F2 : ∀ s : Kept W0, (Instr.lookup 140 (.map (some mb)) (.string p1) false).run Tryz.prog s.val = .ok (.map o) s.val := fun s => by
    have := (go1 s.property H3.out.1.1.map).run_lookup (P := Tryz.prog) Tryz.underlying140 Tryz.underlying9 (zeroInner _) p1 false
    rwa [show lookVal (encMap encEntG E') p1 (.map none) false = .map o from by
     rw [ho]
     cases hlk : look E' p1 <;> simp [lookVal, look_enc, hlk, encEntG]] at this
   have Ho := Lib.hid ho
   clear ho
   refine wp_region_held_drew (S := KeptS W0) (by kernel_rfl) (by rw [← HW.out]; exact keptS (Keeps.refl _ _)) (fun hS => ?_)
   rw [← HW.out] at hS ⊢
   clear HW
   refine tk (v := ?_) 0 rfl ?_ ?_; rotate_left
   ·rintro _ ⟨s, rfl⟩; go_simp; (try with_reducible rfl)
   simp only [Act.put, zz]
   refine tk (v := ?_) 1 rfl ?_ ?_; rotate_left
   ·rintro _ ⟨s, rfl⟩; go_simp; (try with_reducible rfl)
   simp only [Act.put, zz]
   refine tk (v := ?_) 2 rfl ?_ ?_; rotate_left
   ·rintro _ ⟨s, rfl⟩; go_simp; (try with_reducible rfl)
   simp only [Act.put, zz]
   refine tk (v := ?_) 3 rfl ?_ ?_; rotate_left
   ·rintro _ ⟨s, rfl⟩; go_simp; (try with_reducible rfl)
   simp only [Act.put, zz]
   refine tk (v := ?_) 4 rfl ?_ ?_; rotate_left
   ·rintro _ ⟨s, rfl⟩; go_simp; (try with_reducible rfl)
   simp only [Act.put, zz]
   refine tk (v := ?_) 5 rfl ?_ ?_; rotate_left
   ·rintro _ ⟨s, rfl⟩; go_simp; (try with_reducible rfl)
   simp only [Act.put, zz]
   refine tk (v := ?_) 6 rfl ?_ ?_; rotate_left
   ·rintro _ ⟨s, rfl⟩; go_simp; (try with_reducible rfl)
   simp only [Act.put, zz]
   refine rd 7 rfl fun K hK => ?_
   go_simp
   go_simp
   refine hK.out _ _ (keptS (Keeps.refl _ _)) (fun hS => ?_)
   clear hK K
   try simp only [Act.put, zz]
   refine wpAnyH_done (by kernel_rfl) ?_ _
   clear F0 F1 F2 L0 hS
   go_upto_if 32 with fail
   go_cut [8] from 33 to 40 (CutG R X w0 w B x mb pb n (.slice (some ⟨b, off, none⟩) P.length vc) (.slice a1 (insI all n).length cp1) P p1 p2 (absG E') (insI all n))
   case first =>
    cases hlk : look E' p1 with
    | none =>
     have hon : o = none := by rw [Ho.out, hlk]; rfl
     subst hon
     have Hlk := Lib.hid hlk
     clear hlk
     have k4 : Keeps [] W0 (W0.alloc (.map #[] 0)).drew := ((Keeps.refl [] W0).alloc _).drew
     obtain ⟨W4, hW4⟩ : ∃ W4, W4 = (W0.alloc (.map #[] 0)).drew := ⟨_, rfl⟩
     rw [← hW4] at k4
     obtain ⟨ib, hib⟩ : ∃ ib, ib = W0.heap.size := ⟨_, rfl⟩
     have hmI : MapAt W4 ib [] := by rw [hW4, hib]; exact mapAt_new W0
     have H4 := Lib.hid (And.intro (go1 k4 H3.out) (And.intro hmI (And.intro k4 H3.out.1.1)))
     have HW := Lib.hid (And.intro hW4 hib)
     have hib1 : W0.heap.size ≤ ib := by omega
     have hBW : B ≤ W0.heap.size := Nat.le_trans hx0 (Nat.le_of_lt (lt_of_at H3.out.1.1.at_))
     have hsz : w.heap.size ≤ ib := Nat.le_trans H3.out.1.2.2.2.2.2 hib1
     clear hW4 k4 hmI hib H3
     go_upto_region 7 with fail
     rw [← HW.out.2]
     have F0 : ∀ s : Kept W4, s.val.cell? ⟨x, 0, none⟩ = some (.map (some mb)) := keptCell (by rw [cells_at H4.out.1.1.1.at_]; rfl)
     have F1 : ∀ s : Kept W4, s.val.cell? ⟨pb, 0, none⟩ = some (.string p1) := keptCell (by rw [cells_at H4.out.1.2.1]; rfl)
     have L0 : ∀ s : Kept W4, x < s.val.heap.size := fun s => s.property.lt (lt_of_at H4.out.1.1.1.at_)
     refine wp_region_last_n 7 (KeptS W4) (by kernel_rfl) (by kernel_rfl) (by kernel_rfl) ?_
     rw [← HW.out.1]
     have hS : KeptS W4 W4 := keptS (Keeps.refl _ _)
     simp only [List.take_succ_cons, List.take_zero, List.toList_toArray]
     refine tk (v := ?_) 0 rfl ?_ ?_; rotate_left
     ·rintro _ ⟨s, rfl⟩; go_simp; (try with_reducible rfl)
     simp only [Act.put, zz]
     refine tk (v := ?_) 1 rfl ?_ ?_; rotate_left
     ·rintro _ ⟨s, rfl⟩; go_simp; (try with_reducible rfl)
     simp only [Act.put, zz]
     refine tk (v := ?_) 2 rfl ?_ ?_; rotate_left
     ·rintro _ ⟨s, rfl⟩; go_simp; (try with_reducible rfl)
     simp only [Act.put, zz]
     refine tk (v := ?_) 3 rfl ?_ ?_; rotate_left
     ·rintro _ ⟨s, rfl⟩; go_simp; (try with_reducible rfl)
     simp only [Act.put, zz]
     refine tk (v := ?_) 4 rfl ?_ ?_; rotate_left
     ·rintro _ ⟨s, rfl⟩; go_simp; (try with_reducible rfl)
     simp only [Act.put, zz]
     refine tk (v := ?_) 5 rfl ?_ ?_; rotate_left
     ·rintro _ ⟨s, rfl⟩; go_simp; (try with_reducible rfl)
     simp only [Act.put, zz]
     refine tk (v := ?_) 6 rfl ?_ ?_; rotate_left
     ·rintro _ ⟨s, rfl⟩; go_simp; (try with_reducible rfl)
     simp only [Act.put, zz]
     refine wpAnyH_done (by kernel_rfl) ?_ _
     refine lastQ_step rfl (fun K hK => ?_)
     refine step_update_str rfl (.tmp 37) (.tmp 39) (.tmp 40) _ _ _ rfl Tryz.underlying140 Tryz.underlying9 mb (encMap encEntG E') p1 (.map (some ib)) rfl rfl rfl H4.out.1.1.1.map ?_
     intro w5 hm5 hk5
     refine hK _ _ ?_
     clear hK K hS F0 F1 L0 HW
     have hnk : p1 ∉ (encMap encEntG E').map (·.1) := by rw [keysG_enc]; exact (look_none_iff p1 E').1 Hlk.out
     have hm5' : MapAt w5 mb (encMap encEntG (E' ++ [(p1, (ib, []))])) := by
      rw [put_end hnk] at hm5
      have e : encMap encEntG (E' ++ [(p1, (ib, []))]) = encMap encEntG E' ++ [(p1, .map (some ib))] := by simp [encMap, encEntG]
      rw [e]
      exact hm5
     have hpe := put_end2 (v := ((ib, []) : EntG)) (x := ((ib, []) : EntG)) Hlk.out
     have hR := Lib.hid (show CutG R X w0 w B x mb pb n (.slice (some ⟨b, off, none⟩) P.length vc) (.slice a1 (insI all n).length cp1) P p1 p2 (absG E') (insI all n) (.map (some ib)) w5 from
      ⟨ib, [], E' ++ [(p1, (ib, []))], rfl, H4.out.2.2.2.newEnt hib1 hBW H4.out.2.2.1 H4.out.2.1 hxm hk5 hm5', by simp, hpe.2, absG_new ib n p2 Hlk.out, ⟨fun p hp q hq => by
       rcases List.mem_append.1 hp with hp | hp
       ·exact H4.out.1.2.2.1 p hp q hq
       ·obtain rfl : p = (p1, (ib, [])) := by simpa using hp
        simp at hq, H4.out.1.2.2.2.snoc (fun hx => by
       have h1 := HX.out _ hx
       have h2 := hsz
       omega)⟩, hk5.row H4.out.1.1.2.1 (fun g hg => by have := row_ne_map H4.out.1.1.2.1 H4.out.1.1.1.map g hg; simpa using this), hk5.at_ H4.out.1.2.1 (by simpa using H4.out.1.1.1.map.ne H4.out.1.2.1), H4.out.1.1.2.2.map hk5 H4.out.1.1.1.map (Nat.le_trans hB0 hm0) H4.out.1.2.2.2.mb⟩)
     clear hm5 hk5 H4 hm5' hpe hnk
     go_wp2_with fail
     go_meet
     exact hR.out
    | some e =>
     obtain ⟨ib, inner⟩ := e
     have hon : o = some ib := by rw [Ho.out, hlk]; rfl
     subst hon
     have Hlk := Lib.hid hlk
     clear hlk
     have hR := Lib.hid (show CutG R X w0 w B x mb pb n (.slice (some ⟨b, off, none⟩) P.length vc) (.slice a1 (insI all n).length cp1) P p1 p2 (absG E') (insI all n) (.map (some ib)) W0 from
      ⟨ib, inner, E', rfl, H3.out.1.1, look_memG Hlk.out, Hlk.out, rfl, H3.out.2.2, H3.out.1.2.1, H3.out.2.1, H3.out.1.2.2⟩)
     clear H3
     go_wp2_with fail
     go_meet
     exact hR.out
   case rest =>
    obtain ⟨ib, inner, E1, rfl, hixc, hmem, hlk, habs1, hrows1, hvc, hpc, hkc⟩ := hcut
    clear H3
    obtain ⟨W6, hW6⟩ : ∃ W6, W6 = wc.drew := ⟨_, rfl⟩
    have k6 : Keeps [] wc W6 := by rw [hW6]; exact (Keeps.refl [] wc).drew
    have H6 := Lib.hid (And.intro (go1 k6 hixc) (And.intro (go1 k6 hvc) (And.intro (go1 k6 hpc) (And.intro (hkc.keep k6) (And.intro hmem (And.intro hlk (And.intro habs1 hrows1)))))))
    have HW := Lib.hid hW6
    clear hW6 k6 hixc hvc hpc hkc hmem hlk habs1 hrows1
    have hI := (H6.out.1.ent _ H6.out.2.2.2.2.1).1
    -- the list that is there
    obtain ⟨v0, l0, hv0, hl0, ho0, hlv, hrow0, hap0⟩ : ∃ (v0 : Value) (l0 : List Int), (v0 = .slice none 0 0 ∨ ∃ r0, (p2, r0) ∈ inner ∧ v0 = r0.val) ∧ l0 = ((look inner p2).map RowG.l).getD [] ∧ Own B W6 v0 l0 ∧ lookVal (encMap RowG.val inner) p2 (.slice none 0 0) false = v0 ∧ RowOk R l0 ∧ ∀ g, v0.ownBlock = some g → g ∉ X := by
     cases hq : look inner p2 with
     | none => exact ⟨.slice none 0 0, [], .inl rfl, rfl, World.ownsRow_nil _ _ _ 1, by simp [lookVal, look_enc, hq], RowOk.nil HR.out, fun g hg => by simp [Value.ownBlock] at hg⟩
     | some r0 =>
      have hm := look_memG hq
      exact ⟨r0.val, r0.l, .inr ⟨r0, hm, rfl⟩, rfl, (H6.out.1.row _ H6.out.2.2.2.2.1 _ hm).2.1, by simp [lookVal, look_enc, hq], H6.out.2.2.2.2.2.2.2.1 _ H6.out.2.2.2.2.1 _ hm, fun g hg => by
       obtain rfl : r0.g = g := by simpa [RowG.val, Value.ownBlock] using hg
       exact H6.out.2.2.2.2.2.2.2.2.row _ H6.out.2.2.2.2.1 _ hm⟩
    have s1 : W6.cell? ⟨pb, 1, none⟩ = some (.string p2) := by rw [cells_at H6.out.2.2.1]; rfl
    have hlook : ∀ W : World, MapAt W ib (encMap RowG.val inner) → (Instr.lookup 171 (.map (some ib)) (.string p2) false).run Tryz.prog W = .ok v0 W := fun W hW => by
     have := hW.run_lookup (P := Tryz.prog) Tryz.underlying171 Tryz.underlying9 (zeroList _) p2 false
     rwa [hlv] at this
    have s2 := hlook W6 hI
    have Hlook := Lib.hid hlook
    clear hlook
    go_upto_region 8 with fail
    have hBW : B ≤ W6.heap.size := Nat.le_trans hx0 (Nat.le_of_lt (lt_of_at H6.out.1.at_))
    have Hl := Lib.hid (And.intro hv0 (And.intro hl0 (And.intro ho0 (And.intro hrow0 (And.intro hI hap0)))))
    clear hv0 hl0 hlv hI hap0
    obtain ⟨a0, cp0, rfl, -, -, -⟩ := row_slice ho0
    clear ho0 hrow0
    refine wp_region_last_n 9 (fun w' => w'.cell? ⟨pb, 1, none⟩ = some (.string p2) ∧ (Instr.lookup 171 (.map (some ib)) (.string p2) false).run Tryz.prog w' = .ok (.slice a0 l0.length cp0) w') (by kernel_rfl) (by kernel_rfl) (by kernel_rfl) ?_
    rw [← HW.out]
    have hS : W6.cell? ⟨pb, 1, none⟩ = some (.string p2) ∧ (Instr.lookup 171 (.map (some ib)) (.string p2) false).run Tryz.prog W6 = .ok (.slice a0 l0.length cp0) W6 := ⟨s1, s2⟩
    have HS := Lib.hid hS
    clear s1 s2
    simp only [List.take_succ_cons, List.take_zero, List.toList_toArray]
    refine tk (v := ?_) 0 rfl ?_ ?_; rotate_left
    ·rintro _ ⟨s1, s2⟩; go_simp; (try with_reducible rfl)
    simp only [Act.put, zz]
    refine tk (v := ?_) 1 rfl ?_ ?_; rotate_left
    ·rintro _ ⟨s1, s2⟩; go_simp; (try with_reducible rfl)
    simp only [Act.put, zz]
    refine tk (v := ?_) 2 rfl ?_ ?_; rotate_left
    ·rintro _ ⟨s1, s2⟩; go_simp; (try with_reducible rfl)
    simp only [Act.put, zz]
    refine tk (v := ?_) 3 rfl ?_ ?_; rotate_left
    ·rintro _ ⟨s1, s2⟩; go_simp; (try with_reducible rfl)
    simp only [Act.put, zz]
    refine tk (v := ?_) 4 rfl ?_ ?_; rotate_left
    ·rintro _ ⟨s1, s2⟩; go_simp; (try with_reducible rfl)
    simp only [Act.put, zz]
    refine tk (v := ?_) 5 rfl ?_ ?_; rotate_left
    ·rintro _ ⟨s1, s2⟩; go_simp; (try with_reducible rfl)
    simp only [Act.put, zz]
    refine tk (v := ?_) 6 rfl ?_ ?_; rotate_left
    ·rintro _ ⟨s1, s2⟩; go_simp; (try with_reducible rfl)
    simp only [Act.put, zz]
    refine tk (v := ?_) 7 rfl ?_ ?_; rotate_left
    ·rintro _ ⟨s1, s2⟩; go_simp; (try with_reducible rfl)
    simp only [Act.put, zz]
    refine rd 8 rfl fun K hK => ?_
    go_simp
    go_at_call 98
    refine (insert_spec B W6 n (.slice a0 l0.length cp0) l0 (Hl.out.2.2.2.1.1.imp fun h => Int.le_of_lt h) (by have := Hl.out.2.2.2.1.len; omega) hBW Hl.out.2.2.1).mono ?_
    rintro e A1 ⟨v9, rfl, hown9, kA1⟩
    have hr9 := Hl.out.2.2.2.1.ins Hn.out
    obtain ⟨r9, hr9l, rfl⟩ := own_form hown9 hr9.2
    rw [← hr9l] at hown9 hr9
    have hI := Hl.out.2.2.2.2.1
    have hmA : MapAt A1 ib (encMap RowG.val inner) := hI.keep kA1.keeps (fun hy => row_ne_map Hl.out.2.2.1 hI ib (by simpa using hy) rfl)
    have hpA := kA1.keeps.at_ H6.out.2.2.1 (fun hy => row_ne_cells Hl.out.2.2.1 H6.out.2.2.1 (by decide) pb (by simpa using hy) rfl)
    have hvA := kA1.keeps.row H6.out.2.1 (rows_ne2 Hl.out.2.2.1 H6.out.2.1 (by decide))
    have hapA := turns_ap kA1 Hl.out.2.2.2.2.2 (fun c hc => Nat.lt_of_lt_of_le (HX.out c hc) H6.out.2.2.2.1.2.2.2)
    have hkA := H6.out.2.2.2.1.after_turns kA1 Hl.out.2.2.1 hB0 Hl.out.2.2.2.2.2
    have q1 : A1.cell? ⟨pb, 1, none⟩ = some (.string p2) := by rw [cells_at hpA]; rfl
    have q2 := Hlook.out A1 hmA
    have HA := Lib.hid (And.intro hmA (And.intro hvA (And.intro hkA (And.intro hown9 (And.intro kA1 (And.intro hr9 (And.intro hr9l (hapA r9.g rfl))))))))
    clear hmA hpA hvA hkA hown9 kA1 hr9 hr9l hI hapA
    go_simp
    refine hK.out _ _ ⟨q1,q2⟩ (fun hS => ?_)
    clear hK K
    try simp only [Act.put, zz]
    refine wpAnyH_done (by kernel_rfl) ?_ _
    refine lastQ_step rfl (fun K hK => ?_)
    refine step_update_str rfl (.tmp 41) (.tmp 43) (.tmp 49) _ _ _ rfl Tryz.underlying171 Tryz.underlying9 ib (encMap RowG.val inner) p2 r9.val rfl rfl rfl HA.out.1 ?_
    intro w8 hm8 hk8
    refine hK _ _ ?_
    clear hK K hS HS q1 q2 HW
    rw [put_enc] at hm8
    have hix8 := H6.out.1.setRow H6.out.2.2.2.2.1 Hl.out.1 HA.out.2.2.2.2.1 HA.out.2.2.2.1 HA.out.2.2.2.2.2.1.2 hk8 hm8
    have habs8 : absG (put E1 p1 (ib, put inner p2 r9)) = (P.take (i + 1)).foldl (fun A p => addA A n p) (absG E) := by
     rw [absG_add H6.out.2.2.2.2.2.1 (n := n) (by rw [HA.out.2.2.2.2.2.2.1, Hl.out.2.1]), H6.out.2.2.2.2.2.2.1, List.take_succ_eq_append_getElem hlt, List.foldl_append, ← Hp.out.1, Hp.out.2]
     rfl
    have hrows8 : RowsX R X x mb (.slice a1 (insI all n).length cp1) (put E1 p1 (ib, put inner p2 r9)) := ⟨fun p hp q hq => by
     rcases mem_putN H6.out.1.names hp with rfl | ⟨hp, _⟩
     ·rcases mem_putN (H6.out.1.vals H6.out.2.2.2.2.1) hq with rfl | ⟨hq, _⟩
      ·exact HA.out.2.2.2.2.2.1.1
      ·exact H6.out.2.2.2.2.2.2.2.1 _ H6.out.2.2.2.2.1 q hq
     ·exact H6.out.2.2.2.2.2.2.2.1 p hp q hq, H6.out.2.2.2.2.2.2.2.2.put H6.out.1.names H6.out.2.2.2.2.1 fun q hq => by
     rcases mem_putN (H6.out.1.vals H6.out.2.2.2.2.1) hq with rfl | ⟨hq, _⟩
     ·exact .inr HA.out.2.2.2.2.2.2.2
     ·exact .inl hq⟩
    have H8 := Lib.hid (And.intro hix8 (And.intro habs8 (And.intro hrows8 (And.intro (hk8.row HA.out.2.1 (fun g hg => by have := row_ne_map HA.out.2.1 HA.out.1 g hg; simpa using this)) (HA.out.2.2.1.map hk8 HA.out.1 (Nat.le_trans hB0 (H6.out.1.ent _ H6.out.2.2.2.2.1).2.1) (H6.out.2.2.2.2.2.2.2.2.ent _ H6.out.2.2.2.2.1))))))
    clear hm8 hk8 hix8 habs8 hrows8 H6 HA Hl Hlook
    go_wp2_with fail
    go_roundg (P.length - (i + 1))
    case measure => have := Hg.out; omega
    case rel => exact ⟨i + 1, _, hlt, rfl, by go_num, H8.out.1, H8.out.2.1, H8.out.2.2.1, H8.out.2.2.2.1, H8.out.2.2.2.2⟩
  ·have hkn := Lib.hid (show i = P.length from by omega)
   have hlt' : ¬ (i : Int) < (P.length : Int) := by omega
   have Hr := Lib.hid (And.intro hixr (And.intro habs (And.intro hrows (And.intro hvr hkw))))
   clear hixr habs hrows hvr hkw
   go_wp2_with fail
   go_end0
   exact ⟨_, E', rfl, Hr.out.1, by rw [Hr.out.2.1, hkn.out, List.take_length], Hr.out.2.2.1, Hr.out.2.2.2.1, Hr.out.2.2.2.2⟩
end Go.Proofs.YtgdkceeonnfejaaGreatDoor
