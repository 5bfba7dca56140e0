/-
  Package posting: an index in general: what one step of Drop changes.
  No condition beyond those that each theorem states.

  Package posting: Drop, in general, walked.
  No condition beyond those that each theorem states.
-/
import Derived.Test.YtgdkceeonnfejaaGreatDoorPostIxG
import Derived.Test.YtgdkceeonnfejaaGreatDoorPostRem
namespace Go.Proofs.YtgdkceeonnfejaaGreatDoor
set_option maxRecDepth 100000
set_option maxHeartbeats 2000000
set_option linter.unusedSimpArgs false
open Go Go.RowKit
theorem mem_delN {α : Type} {k : ByteArray} {q : ByteArray × α} : ∀ {M : List (ByteArray × α)}, (M.map (·.1)).Nodup → q ∈ del M k → q ∈ M ∧ q.1 ≠ k
 | [], _, h => by simp [del] at h
 | (k', x) :: r, hn, h => by
  rw [List.map_cons, List.nodup_cons] at hn
  unfold del at h
  split at h
  ·rename_i e
   subst e
   exact ⟨List.mem_cons_of_mem _ h, fun e => hn.1 (List.mem_map.2 ⟨q, h, e⟩)⟩
  ·rename_i e
   rcases List.mem_cons.1 h with h | h
   ·exact ⟨by rw [h]; exact List.mem_cons_self, by rw [h]; exact fun e' => e e'.symm⟩
   ·have := mem_delN hn.2 h
    exact ⟨List.mem_cons_of_mem _ this.1, this.2⟩
theorem enc_put_same {nm : ByteArray} {ib : Nat} {inner inner' : List (ByteArray × RowG)} : ∀ (M : OutG), (nm, (ib, inner)) ∈ M → (M.map (·.1)).Nodup → encMap encEntG (put M nm (ib, inner')) = encMap encEntG M := by
 intro M hM hn
 rw [← put_enc]
 induction M with
 | nil => cases hM
 | cons a M ih =>
  obtain ⟨a1, a2⟩ := a
  rw [List.map_cons, List.nodup_cons] at hn
  by_cases e : nm = a1
  ·subst e
   rcases List.mem_cons.1 hM with hM | hM
   ·injection hM with _ e2
    subst e2
    simp [encMap, put, encEntG]
   ·exact absurd (List.mem_map.2 ⟨_, hM, rfl⟩) hn.1
  ·rcases List.mem_cons.1 hM with hM | hM
   ·injection hM with e1 _
    exact absurd e1 e
   ·have := ih hM hn.2
    simp only [encMap, List.map_cons, put, if_neg e] at this ⊢
    rw [this]
theorem IxG.delVal {B : Nat} {w w1 w2 : World} {x mb : Nat} {va : Value} {E : OutG} {all : List Int} (h : IxG B w x mb va E all) {nm val : ByteArray} {ib : Nat} {inner : List (ByteArray × RowG)} (he : (nm, (ib, inner)) ∈ E) {v0 v1 : Value}
  (hv0 : ∃ r0, (val, r0) ∈ inner ∧ v0 = r0.val) (k1 : Turns v0 w v1 w1) (k2 : Keeps [ib] w1 w2) (hm : MapAt w2 ib (encMap RowG.val (del inner val))) :
  IxG B w2 x mb va (put E nm (ib, del inner val)) all := by
 have hEn := h.names
 have hIn := h.vals he
 have hmI := (h.ent _ he).1
 have hb0 : ∀ y, v0.ownBlock = some y → ∃ r0, (val, r0) ∈ inner ∧ r0.g = y := fun y hy => by
  obtain ⟨r0, h1, rfl⟩ := hv0
  exact ⟨r0, h1, Option.some.inj hy⟩
 have hmap1 : ∀ (b : Nat) (m : KV), MapAt w b m → MapAt w1 b m := fun b m hbm => hbm.keep k1.keeps (fun hy => by
  obtain ⟨r0, h1, e⟩ := hb0 b (by simpa using hy)
  have := row_ne_map (h.row _ he _ h1).2.1 hbm r0.g rfl
  exact this e)
 have hcell1 : IxAt w1 x mb va := k1.keeps.at_ h.at_ (fun hy => by
  obtain ⟨r0, h1, e⟩ := hb0 x (by simpa using hy)
  exact row_ne_cells (h.row _ he _ h1).2.1 h.at_ (by decide) r0.g rfl e)
 have hmI1 := hmap1 _ _ hmI
 have hrow1 : ∀ p ∈ E, ∀ q ∈ p.2.2, (p.1, q.1) ≠ (nm, val) → Own B w1 q.2.val q.2.l := fun p hp q hq hne => k1.keeps.row (h.row p hp q hq).2.1 (fun g hg hy => by
  obtain ⟨r0, h1, e⟩ := hb0 g (by simpa using hy)
  have e2 : q.2.g = g := Option.some.inj hg
  exact h.apartR p hp q hq _ he _ h1 hne (e2.trans e.symm))
 have hown1 : Own B w1 va all := k1.keeps.row h.own (fun g hg hy => by
  obtain ⟨r0, h1, e⟩ := hb0 g (by simpa using hy)
  exact (h.row _ he _ h1).2.2 (hg.trans (by rw [← e])))
 have hrow2 : ∀ {v : Value} {l : List Int}, Own B w1 v l → Own B w2 v l := fun ho => k2.row ho (fun g hg => by have := row_ne_map ho hmI1 g hg; simpa using this)
 have hE : ∀ p ∈ put E nm (ib, del inner val), p = (nm, (ib, del inner val)) ∨ (p ∈ E ∧ p.1 ≠ nm) := fun p hp => mem_putN hEn hp
 have hI : ∀ q ∈ del inner val, q ∈ inner ∧ q.1 ≠ val := fun q hq => mem_delN hIn hq
 refine ⟨k2.at_ hcell1 (by simpa using hmI1.ne hcell1), hrow2 hown1, ?_, fun p hp => ?_, fun p hp q hq => ?_, fun p hp p' hp' hne => ?_, fun p hp q hq p' hp' q' hq' hne => ?_⟩
 ·rw [enc_put_same E he hEn]
  exact (hmap1 _ _ h.map).keep k2 (by have := (h.ent _ he).2.2; simpa using fun e => this e.symm)
 ·rcases hE p hp with rfl | ⟨hp, hpn⟩
  ·exact ⟨hm, (h.ent _ he).2⟩
  ·exact ⟨(hmap1 _ _ (h.ent p hp).1).keep k2 (by simpa using h.apartE p hp _ he hpn), (h.ent p hp).2⟩
 ·rcases hE p hp with rfl | ⟨hp, hpn⟩
  ·obtain ⟨hq, hqn⟩ := hI q hq
   have hr0 := h.row _ he q hq
   exact ⟨hr0.1, hrow2 (hrow1 _ he q hq (fun e => hqn (by injection e))), hr0.2.2⟩
  ·have hr0 := h.row p hp q hq
   exact ⟨hr0.1, hrow2 (hrow1 p hp q hq (fun e => hpn (by injection e))), hr0.2.2⟩
 ·rcases hE p hp with rfl | ⟨hp, hpn⟩
  ·rcases hE p' hp' with rfl | ⟨hp', hpn'⟩
   ·exact absurd rfl hne
   ·exact h.apartE (nm, (ib, inner)) he p' hp' hne
  ·rcases hE p' hp' with rfl | ⟨hp', hpn'⟩
   ·exact h.apartE p hp (nm, (ib, inner)) he hne
   ·exact h.apartE p hp p' hp' hne
 ·have one : ∀ p ∈ put E nm (ib, del inner val), ∀ q ∈ p.2.2, ∃ p0 ∈ E, p0.1 = p.1 ∧ q ∈ p0.2.2 := fun p hp q hq => by
   rcases hE p hp with rfl | ⟨hp, _⟩
   ·exact ⟨_, he, rfl, (hI q hq).1⟩
   ·exact ⟨p, hp, rfl, hq⟩
  obtain ⟨p0, h1, h2, h3⟩ := one p hp q hq
  obtain ⟨p1, g1, g2, g3⟩ := one p' hp' q' hq'
  exact h.apartR p0 h1 q h3 p1 g1 q' g3 (by rw [h2, g2]; exact hne)
theorem IxG.delEnt {B : Nat} {w w2 : World} {x mb : Nat} {va : Value} {E : OutG} {all : List Int} (h : IxG B w x mb va E all) (nm : ByteArray) (k2 : Keeps [mb] w w2) (hm : MapAt w2 mb (encMap encEntG (del E nm))) :
  IxG B w2 x mb va (del E nm) all := by
 have hsub : ∀ p ∈ del E nm, p ∈ E := fun p hp => (mem_delN h.names hp).1
 have hrow : ∀ {v : Value} {l : List Int}, Own B w v l → Own B w2 v l := fun ho => k2.row ho (fun g hg => by have := row_ne_map ho h.map g hg; simpa using this)
 exact ⟨k2.at_ h.at_ (by simpa using h.map.ne h.at_), hrow h.own, hm, fun p hp => ⟨(h.ent p (hsub p hp)).1.keep k2 (by simpa using (h.ent p (hsub p hp)).2.2), (h.ent p (hsub p hp)).2⟩,
  fun p hp q hq => ⟨(h.row p (hsub p hp) q hq).1, hrow (h.row p (hsub p hp) q hq).2.1, (h.row p (hsub p hp) q hq).2.2⟩,
  fun p hp p' hp' => h.apartE p (hsub p hp) p' (hsub p' hp'), fun p hp q hq p' hp' q' hq' => h.apartR p (hsub p hp) q hq p' (hsub p' hp') q' hq'⟩
theorem del_mapV {α β : Type} (f : α → β) (k : ByteArray) : ∀ M : List (ByteArray × α), (del M k).map (fun p => (p.1, f p.2)) = del (M.map fun p => (p.1, f p.2)) k
 | [] => rfl
 | (k', x) :: r => by
  have ih := del_mapV f k r
  simp only [List.map_cons, del]
  split
  ·rfl
  ·simp [ih]
def dropA (A : List (ByteArray × List (ByteArray × List Int))) (n : Int) (p : PairB) : List (ByteArray × List (ByteArray × List Int)) :=
 let inner := (look A p.1).getD []
 let l := remL ((look inner p.2).getD []) n
 let inner' := if l = [] then del inner p.2 else put inner p.2 l
 if inner' = [] then del A p.1 else put A p.1 inner'
theorem RowOk.rem {R l : List Int} (h : RowOk R l) (n : Int) : RowOk R (remL l n) := by
 unfold remL
 split
 ·have hsub : (l.take (l.countP (· < n)) ++ l.drop (l.countP (· < n) + 1)).Sublist l := by
   have h1 : (l.drop (l.countP (· < n) + 1)).Sublist (l.drop (l.countP (· < n))) := by
    rw [← List.drop_drop]
    exact List.drop_sublist _ _
   have h2 := (List.Sublist.refl (l.take (l.countP (· < n)))).append h1
   rwa [List.take_append_drop] at h2
  exact ⟨h.1.sublist hsub, fun z hz => h.2.1 z (hsub.subset hz), h.2.2⟩
 ·exact h
theorem del_put {α : Type} (k : ByteArray) (v : α) : ∀ M : List (ByteArray × α), del (put M k v) k = del M k
 | [] => by simp [put, del]
 | (k', x) :: r => by
  have ih := del_put k v r
  by_cases e : k = k'
  ·subst e
   simp [put, del]
  ·simp only [put, del, if_neg e]
   simp [ih]
theorem look_del_ne {α : Type} {k m : ByteArray} (h : m ≠ k) : ∀ M : List (ByteArray × α), look (del M k) m = look M m
 | [] => rfl
 | (k', x) :: r => by
  have ih := look_del_ne h r
  by_cases e : k = k'
  ·subst e
   simp [del, look, h]
  ·simp only [del, if_neg e, look]
   split
   ·rfl
   ·exact ih
theorem dropA_other {A : List (ByteArray × List (ByteArray × List Int))} {n : Int} {p : PairB} {nm : ByteArray} (h : nm ≠ p.1) : look (dropA A n p) nm = look A nm := by
 unfold dropA
 dsimp only
 repeat' split
 all_goals first
  | exact look_del_ne h A
  | rw [look_put, if_neg h]
theorem dropA_fold {n : Int} {nm : ByteArray} : ∀ (Q : List PairB) (A : List (ByteArray × List (ByteArray × List Int))), (∀ p ∈ Q, nm ≠ p.1) → look (Q.foldl (fun A p => dropA A n p) A) nm = look A nm
 | [], _, _ => rfl
 | p :: Q, A, h => by
  rw [List.foldl_cons, dropA_fold Q _ fun q hq => h q (List.mem_cons_of_mem _ hq), dropA_other (h p List.mem_cons_self)]
theorem absG_putX (E : OutG) (nm : ByteArray) (ib : Nat) (X : List (ByteArray × RowG)) : absG (put E nm (ib, X)) = put (absG E) nm (X.map fun q => (q.1, q.2.l)) := put_mapV (fun e : EntG => e.2.map fun q : ByteArray × RowG => (q.1, q.2.l)) nm (ib, X) E
theorem absG_del (E : OutG) (nm : ByteArray) : absG (del E nm) = del (absG E) nm := del_mapV (fun e : EntG => e.2.map fun q : ByteArray × RowG => (q.1, q.2.l)) nm E
theorem dropA_put {E : OutG} {nm val : ByteArray} {ib : Nat} {inner : List (ByteArray × RowG)} {r0 r : RowG} {n : Int} (h : look E nm = some (ib, inner)) (h0 : look inner val = some r0) (hr : r.l = remL r0.l n) (hne : r.l ≠ []) : absG (put E nm (ib, put inner val r)) = dropA (absG E) n (nm, val) := by
 have e1 : look (inner.map fun q => (q.1, q.2.l)) val = some r0.l := by rw [look_mapV RowG.l, h0]; rfl
 have e2 : put (inner.map fun q => (q.1, q.2.l)) val r.l ≠ [] := by
  cases inner with
  | nil => simp [put]
  | cons a r => simp only [List.map_cons, put]; split <;> simp
 rw [absG_put]
 unfold dropA
 rw [absG_look, h]
 dsimp only [Option.map_some, Option.getD_some]
 rw [e1, Option.getD_some, ← hr, if_neg hne, if_neg e2]
theorem dropA_del {E : OutG} {nm val : ByteArray} {ib : Nat} {inner : List (ByteArray × RowG)} {r0 : RowG} {n : Int} (h : look E nm = some (ib, inner)) (h0 : look inner val = some r0) (hr : remL r0.l n = []) (hne : del inner val ≠ []) : absG (put E nm (ib, del inner val)) = dropA (absG E) n (nm, val) := by
 have e1 : look (inner.map fun q => (q.1, q.2.l)) val = some r0.l := by rw [look_mapV RowG.l, h0]; rfl
 have e2 : del (inner.map fun q => (q.1, q.2.l)) val ≠ [] := by
  rw [← del_mapV RowG.l]
  simpa using hne
 rw [absG_putX, del_mapV RowG.l]
 unfold dropA
 rw [absG_look, h]
 dsimp only [Option.map_some, Option.getD_some]
 rw [e1, Option.getD_some, if_pos hr, if_neg e2]
theorem dropA_gone {E : OutG} {nm val : ByteArray} {ib : Nat} {inner : List (ByteArray × RowG)} {r0 : RowG} {n : Int} (h : look E nm = some (ib, inner)) (h0 : look inner val = some r0) (hr : remL r0.l n = []) (hne : del inner val = []) : absG (del (put E nm (ib, del inner val)) nm) = dropA (absG E) n (nm, val) := by
 have e1 : look (inner.map fun q => (q.1, q.2.l)) val = some r0.l := by rw [look_mapV RowG.l, h0]; rfl
 have e2 : del (inner.map fun q => (q.1, q.2.l)) val = [] := by
  rw [← del_mapV RowG.l, hne]
  rfl
 rw [del_put, absG_del]
 unfold dropA
 rw [absG_look, h]
 dsimp only [Option.map_some, Option.getD_some]
 rw [e1, Option.getD_some, if_pos hr, if_pos e2]
def DropPostG (R : List Int) (X : List Nat) (B x mb : Nat) (n : Int) (P : List PairB) (E : OutG) (all : List Int) (w0 w : World) (e : Ending) (w' : World) : Prop :=
 ∃ va E', e = .returned (.tuple #[]) ∧ IxG B w' x mb va E' (remL all n) ∧ absG E' = P.foldl (fun A p => dropA A n p) (absG E) ∧ RowsX R X x mb va E' ∧ K2 X w0 w w'
def DropRelG (R : List Int) (X : List Nat) (w0 w : World) (B x mb : Nat) (n : Int) (v va : Value) (P : List PairB) (E : OutG) (all : List Int) (gk : Nat) (u21 : Value) (wr : World) : Prop :=
 ∃ (i : Nat) (E' : OutG), i ≤ P.length ∧ gk = P.length - i ∧ u21 = .int .i64 i ∧ IxG B wr x mb va E' (remL all n) ∧ absG E' = (P.take i).foldl (fun A p => dropA A n p) (absG E) ∧ RowsX R X x mb va E' ∧ wr.ownsRow 0 149 2 v P.length (P.flatMap encPB) ∧ K2 X w0 w wr
theorem dropG_spec (R : List Int) (X : List Nat) (B : Nat) (w0 w : World) (x mb : Nat) (n : Int) (va v : Value) (E : OutG) (all : List Int) (P : List PairB) (k0 : Keeps [] w0 w) (hB0 : w0.heap.size ≤ B) (hx0 : B ≤ x) (hm0 : B ≤ mb) (hix : IxG B w x mb va E all) (hall : RowOk R all) (hrows : RowsX R X x mb va E) (hX : ∀ c ∈ X, c < w.heap.size) (hd : (P.map (·.1)).Nodup) (hin : ∀ p ∈ P, ∃ I l, look (absG E) p.1 = some I ∧ look I p.2 = some l) (hs : w.ownsRow 0 149 2 v P.length (P.flatMap encPB)) (hl : P.length ≤ 1000) :
  Calls Tryz.prog 48 #[.pointer (some ⟨x, 0, none⟩), .int .i64 n, v] w (DropPostG R X B x mb n P E all w0 w) := by
 have hxm : x ≠ mb := hix.map.ne hix.at_
 have c0 := cells_at hix.at_
 have l0 := lt_of_at hix.at_
 have Hrem := Lib.hid (remove_spec B w va all n hix.own (hall.1.imp fun h => Int.le_of_lt h) (by have := hall.len; omega))
 obtain ⟨aa, ca, rfl, -, -, -⟩ := row_slice hix.own
 obtain ⟨vs, vc, rfl, -, -, -⟩ := row_slice hs
 have H0 := Lib.hid (And.intro hix (And.intro hs (And.intro k0 (And.intro hrows (And.intro hd hin)))))
 clear hix hs k0 hrows hall hd hin
 go_enter Tryz.func48, Tryz.ntmps48
 go_wp2_with fail
 refine Hrem.out.mono ?_
 rintro e w1 ⟨v1, rfl, hown1, ht1⟩
 obtain ⟨a1, cp1, rfl, -, -, -⟩ := row_slice hown1
 have hx1 := ht1.box H0.out.1.at_ (row_ne_cells H0.out.1.own H0.out.1.at_ (by decide))
 have H1 := Lib.hid (And.intro hx1 (And.intro hown1 ht1))
 have hso : w1.ownsRow 0 149 2 (.slice vs P.length vc) P.length (P.flatMap encPB) := ht1.keeps.row H0.out.2.1 (rows_ne2 H0.out.1.own H0.out.2.1 (by decide))
 have hk01 : K2 X w0 w w1 := (K2.start H0.out.2.2.1).after_turns ht1 H0.out.1.own hB0 H0.out.2.2.2.1.2.va
 have hrows1 := And.intro H0.out.2.2.2.1.1 (H0.out.2.2.2.1.2.all ht1 hX)
 have HX := Lib.hid hX
 have Hs := Lib.hid (And.intro hso (And.intro hk01 (show RowsX R X x mb _ E from hrows1)))
 clear hown1 ht1 c0 l0 Hrem hx1 hso hk01 hrows1 hX
 have c1 := cells_at H1.out.1.1
 have f1 := free_at H1.out.1.1
 have l1 := lt_of_at H1.out.1.1
 go_wp2_with fail
 clear c1 f1 l1
 have k12 : Keeps [x] w1 (w1.setCell ⟨x, 1, none⟩ (.slice a1 (remL all n).length cp1)) := (Keeps.refl _ w1).setCell (.inl (by simp)) _
 have hx2 : IxAt (w1.setCell ⟨x, 1, none⟩ (.slice a1 (remL all n).length cp1)) x mb (.slice a1 (remL all n).length cp1) := (heap_cell_same (i := 1) H1.out.1.1 _).trans (by simp)
 have H2 := Lib.hid (And.intro (H0.out.1.setAll H1.out.2.2 H1.out.2.1 k12 hx2) (And.intro (k12.row Hs.out.1 (fun g hg => by have := row_ne_cells Hs.out.1 H1.out.1.1 (by decide) g hg; simpa using this)) (And.intro (Hs.out.2.1.ix k12 H1.out.1.1 (Nat.le_trans hB0 hx0) H0.out.2.2.2.1.2.ix) (And.intro Hs.out.2.2 H0.out.2.2.2.2))))
 clear k12 hx2 H1 H0 Hs
 generalize w1.setCell ⟨x, 1, none⟩ (.slice a1 (remL all n).length cp1) = w2 at H2 ⊢
 go_loopg [21] P.length (DropRelG R X w0 w B x mb n (.slice vs P.length vc) (.slice a1 (remL all n).length cp1) P E all)
 case atStart => exact ⟨0, E, Nat.zero_le _, rfl, rfl, H2.out.1, rfl, H2.out.2.2.2.1, H2.out.2.1, H2.out.2.2.1⟩
 case round =>
  obtain ⟨i, E', hi, hgk, rfl, hixr, habs, hrows, hvr, hkw⟩ := hrel
  have Hg := Lib.hid hgk
  have Hn := Lib.hid H2.out.2.2.2.2
  clear hgk H2
  by_cases hlt : i < P.length
  ·have hSA : SliceArg 2 encPB wr (.slice vs P.length vc) P := (sliceFrom_row (enc := encPB) (fun _ => rfl) hvr).arg
   obtain ⟨b, off, cap', ea, hbW, d0, d1⟩ := pair_at hSA i hlt
   injection ea with ea _ ec
   subst ea ec
   have hlt' : (i : Int) < (P.length : Int) := by omega
   have hthere : ∃ ib inner r0, look E' P[i].1 = some (ib, inner) ∧ look inner P[i].2 = some r0 := by
    obtain ⟨I, l, g1, g2⟩ := Hn.out.2 P[i] (List.getElem_mem hlt)
    have g3 : look (absG E') P[i].1 = some I := by
     rw [habs, dropA_fold _ _ (fun p hp e => by
      have hd := Hn.out.1
      rw [← List.take_append_drop i P, List.map_append, List.nodup_append] at hd
      exact hd.2.2 p.1 (List.mem_map.2 ⟨p, hp, rfl⟩) P[i].1 (List.mem_map.2 ⟨P[i], by rw [List.drop_eq_getElem_cons hlt]; exact List.mem_cons_self, rfl⟩) e.symm)]
     exact g1
    rw [absG_look] at g3
    cases hq : look E' P[i].1 with
    | none => rw [hq] at g3; cases g3
    | some e =>
     obtain ⟨ib, inner⟩ := e
     rw [hq] at g3
     simp only [Option.map_some, Option.some.injEq] at g3
     rw [← g3, look_mapV RowG.l] at g2
     cases hr : look inner P[i].2 with
     | none => rw [hr] at g2; cases g2
     | some r0 => exact ⟨ib, inner, r0, rfl, hr⟩
   obtain ⟨p, hp⟩ : ∃ p, p = P[i] := ⟨_, rfl⟩
   rw [← hp] at d0 d1 hthere
   have Hp := Lib.hid (And.intro hp habs)
   obtain ⟨p1, p2⟩ := p
   dsimp only at d0 d1 hthere
   obtain ⟨ib, inner, r0, hlk, hlr⟩ := hthere
   have hmem := look_memG hlk
   have hmr := look_memG hlr
   have kp : Keeps [] wr (wr.alloc (.cells #[.string p1, .string p2] 149)) := (Keeps.refl [] wr).alloc _
   obtain ⟨W0, hW0⟩ : ∃ W0, W0 = (wr.alloc (.cells #[.string p1, .string p2] 149)).drew := ⟨_, rfl⟩
   have kW : Keeps [] wr W0 := by rw [hW0]; exact kp.drew
   have hpc : W0.heap[wr.heap.size]? = some (.cells #[.string p1, .string p2] 149 (0, 0)) := by rw [hW0]; exact heap_new wr _
   have H3 := Lib.hid (And.intro (go1 kW hixr) (And.intro (go1 kW hvr) (And.intro hpc (And.intro (hkw.keep kW) (And.intro hrows (And.intro hlk (And.intro hlr (And.intro hmem hmr))))))))
   have HW := Lib.hid hW0
   clear kp kW hpc hW0 hixr hvr hkw hSA hp habs hrows hlk hlr hmem hmr
   go_upto_region 4 with fail
   clear d0 d1 hbW
   have F0 : ∀ s : Kept W0, s.val.cell? ⟨x, 0, none⟩ = some (.map (some mb)) := keptCell (by rw [cells_at H3.out.1.at_]; rfl)
   have F1 : ∀ s : Kept W0, s.val.cell? ⟨wr.heap.size, 0, none⟩ = some (.string p1) := keptCell (by rw [cells_at H3.out.2.2.1]; rfl)
   have F2 : ∀ s : Kept W0, (Instr.lookup 140 (.map (some mb)) (.string p1) false).run Tryz.prog s.val = .ok (.map (some ib)) s.val := fun s => by
    have := (go1 s.property H3.out.1.map).run_lookup (P := Tryz.prog) Tryz.underlying140 Tryz.underlying9 (zeroInner _) p1 false
    rwa [show lookVal (encMap encEntG E') p1 (.map none) false = .map (some ib) from by simp [lookVal, look_enc, H3.out.2.2.2.2.2.1, encEntG]] at this
   have L0 : ∀ s : Kept W0, x < s.val.heap.size := fun s => s.property.lt (lt_of_at H3.out.1.at_)
   have hpx := lt_of_at H3.out.2.2.1
   refine wp_region_held_drew (S := KeptS W0) (by kernel_rfl) (by rw [← HW.out]; exact keptS (Keeps.refl _ _)) (fun hS => ?_)
   rw [← HW.out] at hS ⊢
   clear HW
   refine tk (v := ?_) 0 rfl ?_ ?_; rotate_left
   ·rintro _ ⟨s, rfl⟩; go_simp; (try with_reducible rfl)
   simp only [Act.put, zz]
   refine tk (v := ?_) 1 rfl ?_ ?_; rotate_left
   ·rintro _ ⟨s, rfl⟩; go_simp; (try with_reducible rfl)
   simp only [Act.put, zz]
   refine tk (v := ?_) 2 rfl ?_ ?_; rotate_left
   ·rintro _ ⟨s, rfl⟩; go_simp; (try with_reducible rfl)
   simp only [Act.put, zz]
   refine tk (v := ?_) 3 rfl ?_ ?_; rotate_left
   ·rintro _ ⟨s, rfl⟩; go_simp; (try with_reducible rfl)
   simp only [Act.put, zz]
   refine tk (v := ?_) 4 rfl ?_ ?_; rotate_left
   ·rintro _ ⟨s, rfl⟩; go_simp; (try with_reducible rfl)
   simp only [Act.put, zz]
   refine tk (v := ?_) 5 rfl ?_ ?_; rotate_left
   ·rintro _ ⟨s, rfl⟩; go_simp; (try with_reducible rfl)
   simp only [Act.put, zz]
   refine tk (v := ?_) 6 rfl ?_ ?_; rotate_left
   ·rintro _ ⟨s, rfl⟩; go_simp; (try with_reducible rfl)
   simp only [Act.put, zz]
   refine rd 7 rfl fun K hK => ?_
   go_simp
   go_simp
   refine hK.out _ _ (keptS (Keeps.refl _ _)) (fun hS => ?_)
   clear hK K
   try simp only [Act.put, zz]
   refine wpAnyH_done (by kernel_rfl) ?_ _
   clear F0 F1 F2 L0 hS
   generalize wr.heap.size = pb at H3 hpx ⊢
   have hI := (H3.out.1.ent _ H3.out.2.2.2.2.2.2.2.1).1
   have hR0 : r0.l ≠ [] ∧ Own B W0 r0.val r0.l ∧ (Value.slice a1 (remL all n).length cp1).ownBlock ≠ some r0.g := H3.out.1.row _ H3.out.2.2.2.2.2.2.2.1 _ H3.out.2.2.2.2.2.2.2.2
   have hro : RowOk R r0.l := H3.out.2.2.2.2.1.1 _ H3.out.2.2.2.2.2.2.2.1 _ H3.out.2.2.2.2.2.2.2.2
   have F2 := hI.run_lookup (P := Tryz.prog) Tryz.underlying171 Tryz.underlying9 (zeroList W0) p2 false
   rw [show lookVal (encMap RowG.val inner) p2 (.slice none 0 0) false = .slice (some ⟨r0.g, 0, none⟩) r0.l.length r0.c from by simp [lookVal, look_enc, H3.out.2.2.2.2.2.2.1, RowG.val]] at F2
   have q1 : W0.cell? ⟨pb, 1, none⟩ = some (.string p2) := by rw [cells_at H3.out.2.2.1]; rfl
   have Hrem := Lib.hid (remove_spec B W0 r0.val r0.l n hR0.2.1 (hro.1.imp fun h => Int.le_of_lt h) (by have := hro.len; omega))
   have Hr0 := Lib.hid (And.intro hR0 (And.intro hro hI))
   clear hR0 hro hI
   go_wp2_with fail
   refine Hrem.out.mono ?_
   rintro e w5 ⟨v5, rfl, hown5, ht5⟩
   have hI := Hr0.out.2.2
   have hm5 : MapAt w5 ib (encMap RowG.val inner) := hI.keep ht5.keeps (fun hy => row_ne_map Hr0.out.1.2.1 hI ib (by simpa using hy) rfl)
   have hp5 := ht5.keeps.at_ H3.out.2.2.1 (fun hy => row_ne_cells Hr0.out.1.2.1 H3.out.2.2.1 (by decide) pb (by simpa using hy) rfl)
   have hv5 := ht5.keeps.row H3.out.2.1 (rows_ne2 Hr0.out.1.2.1 H3.out.2.1 (by decide))
   have hap0 : ∀ g, r0.val.ownBlock = some g → g ∉ X := fun g hg => by
    obtain rfl : r0.g = g := by simpa [RowG.val, Value.ownBlock] using hg
    exact H3.out.2.2.2.2.1.2.row _ H3.out.2.2.2.2.2.2.2.1 _ H3.out.2.2.2.2.2.2.2.2
   have hap5 := turns_ap ht5 hap0 (fun c hc => Nat.lt_of_lt_of_le (HX.out c hc) H3.out.2.2.2.1.2.2.2)
   have hk5 := H3.out.2.2.2.1.after_turns ht5 Hr0.out.1.2.1 hB0 hap0
   have H5 := Lib.hid (And.intro hm5 (And.intro hp5 (And.intro hv5 (And.intro hk5 ht5))))
   have Hap := Lib.hid hap5
   have hibB : B ≤ ib := (H3.out.1.ent _ H3.out.2.2.2.2.2.2.2.1).2.1
   clear F2 q1 Hrem hI hm5 hp5 hv5 hk5 ht5 hap0 hap5
   have q1 : w5.cell? ⟨pb, 1, none⟩ = some (.string p2) := by rw [cells_at H5.out.2.1]; rfl
   have q2 := lt_of_at H5.out.2.1
   by_cases hnil : remL r0.l n = []
   ·rw [hnil] at hown5
    obtain ⟨a5, c5, rfl, -, -, -⟩ := row_slice hown5
    have Hnil := Lib.hid hnil
    clear hown5 hnil
    go_upto_region 9 with (refine wpList_delete_str _ rfl (.tmp 45) (.tmp 47) _ _ 114 rfl Tryz.underlying171 Tryz.underlying9 ib (encMap RowG.val inner) p2 (by rfl) (by rfl) H5.out.1 ?_; intro w6 hm6 hk6)
    rw [del_enc] at hm6
    have q6 := run_lenD (P := Tryz.prog) hm6 Tryz.underlying171 3
    rw [show (encMap RowG.val (del inner p2)).length = (del inner p2).length from by simp [encMap]] at q6
    have hix6 := H3.out.1.delVal H3.out.2.2.2.2.2.2.2.1 ⟨r0, H3.out.2.2.2.2.2.2.2.2, rfl⟩ H5.out.2.2.2.2 hk6 hm6
    have H6 := Lib.hid (And.intro hix6 (And.intro (hk6.row H5.out.2.2.1 (fun g hg => by have := row_ne_map H5.out.2.2.1 H5.out.1 g hg; simpa using this)) (And.intro (hk6.at_ H5.out.2.1 (by simpa using H5.out.1.ne H5.out.2.1)) (H5.out.2.2.2.1.map hk6 H5.out.1 (Nat.le_trans hB0 hibB) (H3.out.2.2.2.2.1.2.ent _ H3.out.2.2.2.2.2.2.2.1)))))
    have hrows6 : RowsX R X x mb (.slice a1 (remL all n).length cp1) (put E' p1 (ib, del inner p2)) := ⟨fun p hp q hq => by
     rcases mem_putN H3.out.1.names hp with rfl | ⟨hp, _⟩
     ·exact H3.out.2.2.2.2.1.1 _ H3.out.2.2.2.2.2.2.2.1 q (mem_delN (H3.out.1.vals H3.out.2.2.2.2.2.2.2.1) hq).1
     ·exact H3.out.2.2.2.2.1.1 p hp q hq, H3.out.2.2.2.2.1.2.put H3.out.1.names H3.out.2.2.2.2.2.2.2.1 fun q hq => .inl (mem_delN (H3.out.1.vals H3.out.2.2.2.2.2.2.2.1) hq).1⟩
    have Hw6 := Lib.hid hrows6
    clear hk6 hix6 q1 q2 hm6 hrows6
    by_cases hem : del inner p2 = []
    ·have hq0 : (del inner p2).length = 0 := by rw [hem]; rfl
     rw [hq0] at q6
     have Hem := Lib.hid hem
     clear hq0 hem
     obtain ⟨W7, hW7⟩ : ∃ W7, W7 = w6.drew := ⟨_, rfl⟩
     have k7 : Keeps [] w6 W7 := by rw [hW7]; exact (Keeps.refl [] w6).drew
     have H7 := Lib.hid (go1 k7 H6.out)
     have HW := Lib.hid hW7
     clear hW7 k7 H6
     go_upto_region 10 with fail
     clear q6
     have s1 : W7.cell? ⟨x, 0, none⟩ = some (.map (some mb)) := by rw [cells_at H7.out.1.at_]; rfl
     have s2 : W7.cell? ⟨pb, 0, none⟩ = some (.string p1) := by rw [cells_at H7.out.2.2.1]; rfl
     have s3 : x < W7.heap.size := lt_of_at H7.out.1.at_
     refine wp_region_held_drew (S := fun w' => w'.cell? ⟨x, 0, none⟩ = some (.map (some mb)) ∧ w'.cell? ⟨pb, 0, none⟩ = some (.string p1) ∧ x < w'.heap.size) (by kernel_rfl) (by rw [← HW.out]; exact ⟨s1, s2, s3⟩) (fun hS => ?_)
     rw [← HW.out] at hS ⊢
     clear HW
     have HS := Lib.hid (And.intro s1 (And.intro s2 s3))
     clear s1 s2 s3
     refine tk (v := ?_) 0 rfl ?_ ?_; rotate_left
     ·rintro _ ⟨s1, s2, s3⟩; go_simp; (try with_reducible rfl)
     simp only [Act.put, zz]
     refine tk (v := ?_) 1 rfl ?_ ?_; rotate_left
     ·rintro _ ⟨s1, s2, s3⟩; go_simp; (try with_reducible rfl)
     simp only [Act.put, zz]
     refine tk (v := ?_) 2 rfl ?_ ?_; rotate_left
     ·rintro _ ⟨s1, s2, s3⟩; go_simp; (try with_reducible rfl)
     simp only [Act.put, zz]
     refine tk (v := ?_) 3 rfl ?_ ?_; rotate_left
     ·rintro _ ⟨s1, s2, s3⟩; go_simp; (try with_reducible rfl)
     simp only [Act.put, zz]
     refine tk (v := ?_) 4 rfl ?_ ?_; rotate_left
     ·rintro _ ⟨s1, s2, s3⟩; go_simp; (try with_reducible rfl)
     simp only [Act.put, zz]
     refine tk (v := ?_) 5 rfl ?_ ?_; rotate_left
     ·rintro _ ⟨s1, s2, s3⟩; go_simp; (try with_reducible rfl)
     simp only [Act.put, zz]
     refine rd 6 rfl fun K hK => ?_
     refine step_delete_str rfl (.tmp 54) (.tmp 56) _ _ _ rfl Tryz.underlying140 Tryz.underlying9 mb (encMap encEntG (put E' p1 (ib, del inner p2))) p1 rfl rfl H7.out.1.map ?_
     intro w8 hm8 hk8
     refine hK.out _ _ ⟨(hk8.cell (lt_of_at H7.out.1.at_) (by simpa using hxm)).trans HS.out.1, (hk8.cell (lt_of_at H7.out.2.2.1) (by simpa using H7.out.1.map.ne H7.out.2.2.1)).trans HS.out.2.1, hk8.lt HS.out.2.2⟩ (fun hS => ?_)
     clear hK K
     try simp only [Act.put, zz]
     refine wpAnyH_done (by kernel_rfl) ?_ _
     clear hS HS
     rw [del_enc] at hm8
     have H8 := Lib.hid (And.intro (H7.out.1.delEnt p1 hk8 hm8) (And.intro (hk8.row H7.out.2.1 (fun g hg => by have := row_ne_map H7.out.2.1 H7.out.1.map g hg; simpa using this)) (H7.out.2.2.2.map hk8 H7.out.1.map (Nat.le_trans hB0 hm0) Hw6.out.2.mb)))
     have hrows8 : RowsX R X x mb (.slice a1 (remL all n).length cp1) (del (put E' p1 (ib, del inner p2)) p1) := ⟨fun p hp q hq => Hw6.out.1 p (mem_delN H7.out.1.names hp).1 q hq, ⟨Hw6.out.2.ix, Hw6.out.2.mb, Hw6.out.2.va, fun p hp => Hw6.out.2.ent p (mem_delN H7.out.1.names hp).1, fun p hp => Hw6.out.2.row p (mem_delN H7.out.1.names hp).1⟩⟩
     have Ha := Lib.hid (And.intro hrows8 (dropA_gone H3.out.2.2.2.2.2.1 H3.out.2.2.2.2.2.2.1 Hnil.out Hem.out))
     clear hm8 hk8 H7 hrows8
     go_wp2_with fail
     go_roundg (P.length - (i + 1))
     case measure => have := Hg.out; omega
     case rel => exact ⟨i + 1, _, hlt, rfl, by go_num, H8.out.1, by rw [Ha.out.2, List.take_succ_eq_append_getElem hlt, List.foldl_append, ← Hp.out.1, Hp.out.2]; rfl, Ha.out.1, H8.out.2.1, H8.out.2.2⟩
    ·have hlen : 0 < (del inner p2).length := List.length_pos_iff.2 hem
     have hz0 : ¬ ((del inner p2).length : Int) = 0 := by omega
     have Ha := Lib.hid (dropA_del H3.out.2.2.2.2.2.1 H3.out.2.2.2.2.2.2.1 Hnil.out hem)
     clear hem hlen
     go_wp2_with fail
     go_roundg (P.length - (i + 1))
     case measure => have := Hg.out; omega
     case rel => exact ⟨i + 1, _, hlt, rfl, by go_num, H6.out.1, by rw [Ha.out, List.take_succ_eq_append_getElem hlt, List.foldl_append, ← Hp.out.1, Hp.out.2]; rfl, Hw6.out, H6.out.2.1, H6.out.2.2.2⟩
   ·obtain ⟨r5, hr5, rfl⟩ := own_form hown5 hnil
    rw [← hr5] at hown5 hnil
    have hpos : 0 < r5.l.length := List.length_pos_iff.2 hnil
    have hpos' : (0 : Int) < (r5.l.length : Int) := by omega
    have Hr5 := Lib.hid (And.intro hown5 (And.intro hnil hr5))
    clear hown5 hnil hpos hr5
    unfold RowG.val at *
    go_upto_region 9 with (refine wpList_update_str _ rfl (.tmp 41) (.tmp 43) (.tmp 44) _ _ _ rfl Tryz.underlying171 Tryz.underlying9 ib (encMap RowG.val inner) p2 r5.val (by rfl) (by rfl) (by rfl) H5.out.1 ?_; intro w6 hm6 hk6)
    rw [put_enc] at hm6
    have q6 := run_lenD (P := Tryz.prog) hm6 Tryz.underlying171 3
    have hlen : 0 < (encMap RowG.val (put inner p2 r5)).length := by
     cases inner with
     | nil => simp [put, encMap]
     | cons a r => simp only [encMap, List.length_map, put]; split <;> simp
    have hz0 : ¬ ((encMap RowG.val (put inner p2 r5)).length : Int) = 0 := by omega
    have hix6 := H3.out.1.setRow H3.out.2.2.2.2.2.2.2.1 (.inr ⟨r0, H3.out.2.2.2.2.2.2.2.2, rfl⟩) H5.out.2.2.2.2 Hr5.out.1 Hr5.out.2.1 hk6 hm6
    have hrows6 : RowsX R X x mb (.slice a1 (remL all n).length cp1) (put E' p1 (ib, put inner p2 r5)) := ⟨fun p hp q hq => by
     rcases mem_putN H3.out.1.names hp with rfl | ⟨hp, _⟩
     ·rcases mem_putN (H3.out.1.vals H3.out.2.2.2.2.2.2.2.1) hq with rfl | ⟨hq, _⟩
      ·show RowOk R r5.l
       rw [Hr5.out.2.2]
       exact Hr0.out.2.1.rem n
      ·exact H3.out.2.2.2.2.1.1 _ H3.out.2.2.2.2.2.2.2.1 q hq
     ·exact H3.out.2.2.2.2.1.1 p hp q hq, H3.out.2.2.2.2.1.2.put H3.out.1.names H3.out.2.2.2.2.2.2.2.1 fun q hq => by
     rcases mem_putN (H3.out.1.vals H3.out.2.2.2.2.2.2.2.1) hq with rfl | ⟨hq, _⟩
     ·exact .inr (Hap.out r5.g rfl)
     ·exact .inl hq⟩
    have H6 := Lib.hid (And.intro hix6 (And.intro (hk6.row H5.out.2.2.1 (fun g hg => by have := row_ne_map H5.out.2.2.1 H5.out.1 g hg; simpa using this)) (And.intro hrows6 (And.intro (H5.out.2.2.2.1.map hk6 H5.out.1 (Nat.le_trans hB0 hibB) (H3.out.2.2.2.2.1.2.ent _ H3.out.2.2.2.2.2.2.2.1)) (dropA_put H3.out.2.2.2.2.2.1 H3.out.2.2.2.2.2.2.1 Hr5.out.2.2 Hr5.out.2.1)))))
    clear hk6 hix6 q1 q2 hm6 hrows6 hlen
    go_wp2_with fail
    go_roundg (P.length - (i + 1))
    case measure => have := Hg.out; omega
    case rel => exact ⟨i + 1, _, hlt, rfl, by go_num, H6.out.1, by rw [H6.out.2.2.2.2, List.take_succ_eq_append_getElem hlt, List.foldl_append, ← Hp.out.1, Hp.out.2]; rfl, H6.out.2.2.1, H6.out.2.1, H6.out.2.2.2.1⟩
  ·have hkn := Lib.hid (show i = P.length from by omega)
   have hlt' : ¬ (i : Int) < (P.length : Int) := by omega
   have Hr := Lib.hid (And.intro hixr (And.intro habs (And.intro hrows hkw)))
   clear hixr habs hrows hvr hkw
   go_wp2_with fail
   go_end0
   exact ⟨_, E', rfl, Hr.out.1, by rw [Hr.out.2.1, hkn.out, List.take_length], Hr.out.2.2.1, Hr.out.2.2.2⟩
end Go.Proofs.YtgdkceeonnfejaaGreatDoor
