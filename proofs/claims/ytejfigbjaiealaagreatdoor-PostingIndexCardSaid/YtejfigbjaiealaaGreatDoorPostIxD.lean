/-
  Package posting: an index in general: what one step of Drop changes.
  No condition beyond those that each theorem states.
-/
import Derived.Test.YtejfigbjaiealaaGreatDoorPostAddG
import Derived.Test.YtejfigbjaiealaaGreatDoorPostDropS
namespace Go.Proofs.YtejfigbjaiealaaGreatDoor
open Go Go.RowKit

theorem mem_delN {α : Type} {k : ByteArray} {q : ByteArray × α} : ∀ {M : List (ByteArray × α)}, (M.map (·.1)).Nodup → q ∈ del M k → q ∈ M ∧ q.1 ≠ k
  | [], _, h => by simp [del] at h
  | (k', x) :: r, hn, h => by
    rw [List.map_cons, List.nodup_cons] at hn
    unfold del at h
    split at h
    · rename_i e
      subst e
      exact ⟨List.mem_cons_of_mem _ h, fun e => hn.1 (List.mem_map.2 ⟨q, h, e⟩)⟩
    · rename_i e
      rcases List.mem_cons.1 h with h | h
      · exact ⟨by rw [h]; exact List.mem_cons_self, by rw [h]; exact fun e' => e e'.symm⟩
      · have := mem_delN hn.2 h
        exact ⟨List.mem_cons_of_mem _ this.1, this.2⟩

theorem enc_put_same {nm : ByteArray} {ib : Nat} {inner inner' : List (ByteArray × RowG)} : ∀ (M : OutG), (nm, (ib, inner)) ∈ M → (M.map (·.1)).Nodup → encMap encEntG (put M nm (ib, inner')) = encMap encEntG M := by
  intro M hM hn
  rw [← put_enc]
  induction M with
  | nil => cases hM
  | cons a M ih =>
    obtain ⟨a1, a2⟩ := a
    rw [List.map_cons, List.nodup_cons] at hn
    by_cases e : nm = a1
    · subst e
      rcases List.mem_cons.1 hM with hM | hM
      · injection hM with _ e2
        subst e2
        simp [encMap, put, encEntG]
      · exact absurd (List.mem_map.2 ⟨_, hM, rfl⟩) hn.1
    · rcases List.mem_cons.1 hM with hM | hM
      · injection hM with e1 _
        exact absurd e1 e
      · have := ih hM hn.2
        simp only [encMap, List.map_cons, put, if_neg e] at this ⊢
        rw [this]

/-- One value of one entry goes. -/
theorem IxG.delVal {B : Nat} {w w1 w2 : World} {x mb : Nat} {va : Value} {E : OutG} {all : List Int} (h : IxG B w x mb va E all) {nm val : ByteArray} {ib : Nat} {inner : List (ByteArray × RowG)} (he : (nm, (ib, inner)) ∈ E) {v0 v1 : Value}
    (hv0 : ∃ r0, (val, r0) ∈ inner ∧ v0 = r0.val) (k1 : Turns v0 w v1 w1) (k2 : Keeps [ib] w1 w2) (hm : MapAt w2 ib (encMap RowG.val (del inner val))) :
    IxG B w2 x mb va (put E nm (ib, del inner val)) all := by
  have hEn := h.names
  have hIn := h.vals he
  have hmI := (h.ent _ he).1
  have hb0 : ∀ y, v0.ownBlock = some y → ∃ r0, (val, r0) ∈ inner ∧ r0.g = y := fun y hy => by
    obtain ⟨r0, h1, rfl⟩ := hv0
    exact ⟨r0, h1, Option.some.inj hy⟩
  have hmap1 : ∀ (b : Nat) (m : KV), MapAt w b m → MapAt w1 b m := fun b m hbm => hbm.keep k1.keeps (fun hy => by
    obtain ⟨r0, h1, e⟩ := hb0 b (by simpa using hy)
    have := row_ne_map (h.row _ he _ h1).2.1 hbm r0.g rfl
    exact this e)
  have hcell1 : IxAt w1 x mb va := k1.keeps.at_ h.at_ (fun hy => by
    obtain ⟨r0, h1, e⟩ := hb0 x (by simpa using hy)
    exact row_ne_cells (h.row _ he _ h1).2.1 h.at_ (by decide) r0.g rfl e)
  have hmI1 := hmap1 _ _ hmI
  have hrow1 : ∀ p ∈ E, ∀ q ∈ p.2.2, (p.1, q.1) ≠ (nm, val) → Own B w1 q.2.val q.2.l := fun p hp q hq hne => k1.keeps.row (h.row p hp q hq).2.1 (fun g hg hy => by
    obtain ⟨r0, h1, e⟩ := hb0 g (by simpa using hy)
    have e2 : q.2.g = g := Option.some.inj hg
    exact h.apartR p hp q hq _ he _ h1 hne (e2.trans e.symm))
  have hown1 : Own B w1 va all := k1.keeps.row h.own (fun g hg hy => by
    obtain ⟨r0, h1, e⟩ := hb0 g (by simpa using hy)
    exact (h.row _ he _ h1).2.2 (hg.trans (by rw [← e])))
  have hrow2 : ∀ {v : Value} {l : List Int}, Own B w1 v l → Own B w2 v l := fun ho => k2.row ho (fun g hg => by have := row_ne_map ho hmI1 g hg; simpa using this)
  have hE : ∀ p ∈ put E nm (ib, del inner val), p = (nm, (ib, del inner val)) ∨ (p ∈ E ∧ p.1 ≠ nm) := fun p hp => mem_putN hEn hp
  have hI : ∀ q ∈ del inner val, q ∈ inner ∧ q.1 ≠ val := fun q hq => mem_delN hIn hq
  refine ⟨k2.at_ hcell1 (by simpa using hmI1.ne hcell1), hrow2 hown1, ?_, fun p hp => ?_, fun p hp q hq => ?_, fun p hp p' hp' hne => ?_, fun p hp q hq p' hp' q' hq' hne => ?_⟩
  · rw [enc_put_same E he hEn]
    exact (hmap1 _ _ h.map).keep k2 (by have := (h.ent _ he).2.2; simpa using fun e => this e.symm)
  · rcases hE p hp with rfl | ⟨hp, hpn⟩
    · exact ⟨hm, (h.ent _ he).2⟩
    · exact ⟨(hmap1 _ _ (h.ent p hp).1).keep k2 (by simpa using h.apartE p hp _ he hpn), (h.ent p hp).2⟩
  · rcases hE p hp with rfl | ⟨hp, hpn⟩
    · obtain ⟨hq, hqn⟩ := hI q hq
      have hr0 := h.row _ he q hq
      exact ⟨hr0.1, hrow2 (hrow1 _ he q hq (fun e => hqn (by injection e))), hr0.2.2⟩
    · have hr0 := h.row p hp q hq
      exact ⟨hr0.1, hrow2 (hrow1 p hp q hq (fun e => hpn (by injection e))), hr0.2.2⟩
  · rcases hE p hp with rfl | ⟨hp, hpn⟩
    · rcases hE p' hp' with rfl | ⟨hp', hpn'⟩
      · exact absurd rfl hne
      · exact h.apartE (nm, (ib, inner)) he p' hp' hne
    · rcases hE p' hp' with rfl | ⟨hp', hpn'⟩
      · exact h.apartE p hp (nm, (ib, inner)) he hne
      · exact h.apartE p hp p' hp' hne
  · have one : ∀ p ∈ put E nm (ib, del inner val), ∀ q ∈ p.2.2, ∃ p0 ∈ E, p0.1 = p.1 ∧ q ∈ p0.2.2 := fun p hp q hq => by
      rcases hE p hp with rfl | ⟨hp, _⟩
      · exact ⟨_, he, rfl, (hI q hq).1⟩
      · exact ⟨p, hp, rfl, hq⟩
    obtain ⟨p0, h1, h2, h3⟩ := one p hp q hq
    obtain ⟨p1, g1, g2, g3⟩ := one p' hp' q' hq'
    exact h.apartR p0 h1 q h3 p1 g1 q' g3 (by rw [h2, g2]; exact hne)

/-- One entry goes. -/
theorem IxG.delEnt {B : Nat} {w w2 : World} {x mb : Nat} {va : Value} {E : OutG} {all : List Int} (h : IxG B w x mb va E all) (nm : ByteArray) (k2 : Keeps [mb] w w2) (hm : MapAt w2 mb (encMap encEntG (del E nm))) :
    IxG B w2 x mb va (del E nm) all := by
  have hsub : ∀ p ∈ del E nm, p ∈ E := fun p hp => (mem_delN h.names hp).1
  have hrow : ∀ {v : Value} {l : List Int}, Own B w v l → Own B w2 v l := fun ho => k2.row ho (fun g hg => by have := row_ne_map ho h.map g hg; simpa using this)
  exact ⟨k2.at_ h.at_ (by simpa using h.map.ne h.at_), hrow h.own, hm, fun p hp => ⟨(h.ent p (hsub p hp)).1.keep k2 (by simpa using (h.ent p (hsub p hp)).2.2), (h.ent p (hsub p hp)).2⟩,
    fun p hp q hq => ⟨(h.row p (hsub p hp) q hq).1, hrow (h.row p (hsub p hp) q hq).2.1, (h.row p (hsub p hp) q hq).2.2⟩,
    fun p hp p' hp' => h.apartE p (hsub p hp) p' (hsub p' hp'), fun p hp q hq p' hp' q' hq' => h.apartR p (hsub p hp) q hq p' (hsub p' hp') q' hq'⟩

theorem del_mapV {α β : Type} (f : α → β) (k : ByteArray) : ∀ M : List (ByteArray × α), (del M k).map (fun p => (p.1, f p.2)) = del (M.map fun p => (p.1, f p.2)) k
  | [] => rfl
  | (k', x) :: r => by
    have ih := del_mapV f k r
    simp only [List.map_cons, del]
    split
    · rfl
    · simp [ih]

/-- What Drop does with one pair. -/
def dropA (A : List (ByteArray × List (ByteArray × List Int))) (n : Int) (p : PairB) : List (ByteArray × List (ByteArray × List Int)) :=
  let inner := (look A p.1).getD []
  let l := remL ((look inner p.2).getD []) n
  let inner' := if l = [] then del inner p.2 else put inner p.2 l
  if inner' = [] then del A p.1 else put A p.1 inner'

theorem RowOk.rem {l : List Int} (h : RowOk l) (n : Int) : RowOk (remL l n) := by
  unfold remL
  split
  · have hsub : (l.take (l.countP (· < n)) ++ l.drop (l.countP (· < n) + 1)).Sublist l := by
      have h1 : (l.drop (l.countP (· < n) + 1)).Sublist (l.drop (l.countP (· < n))) := by
        rw [← List.drop_drop]
        exact List.drop_sublist _ _
      have h2 := (List.Sublist.refl (l.take (l.countP (· < n)))).append h1
      rwa [List.take_append_drop] at h2
    exact ⟨h.1.sublist hsub, fun z hz => h.2 z (hsub.subset hz)⟩
  · exact h
end Go.Proofs.YtejfigbjaiealaaGreatDoor
