/-
  HeadKeeps, in plain words: what holds of a head's series and of the table that is wanted, sample by sample.
  No program in sight.
-/
import Derived.Test.YtgdkceeonnfejaaGreatDoorHeadChkG
import Derived.Test.YtgdkceeonnfejaaGreatDoorHeadTab
import Derived.Test.YtgdkceeonnfejaaGreatDoorHeadDrop
import Derived.Test.YtgdkceeonnfejaaGreatDoorHeadSel
import Derived.Test.YtgdkceeonnfejaaGreatDoorKeyG
import Derived.Test.YtgdkceeonnfejaaGreatDoorHeadPts
namespace Go.Proofs.YtgdkceeonnfejaaGreatDoor
open Go Go.RowKit
def Five : List (List PairB) := [labA1, labA1B2, labA2, labB1, labJ]
theorem labN_five (n : Int) : labN n ∈ Five := by
 unfold labN Five
 repeat' split
 all_goals simp
theorem five_chk {P : List PairB} (h : P ∈ Five) : chkSet P = true := by
 unfold Five at h
 simp only [List.mem_cons, List.not_mem_nil, or_false] at h
 rcases h with rfl | rfl | rfl | rfl | rfl <;> decide +kernel
structure KeepI (st : StH) (A : TabT) (i : Nat) : Prop where
 labs : ∀ s ∈ st.1, s.lab ∈ Five
 nod : (st.1.map (·.lab)).Nodup
 ref : ∀ s ∈ st.1, 1 ≤ s.ref ∧ s.ref < st.2.1
 smp : ∀ s ∈ st.1, s.l.Pairwise ltS ∧ s.l ≠ [] ∧ (∀ y ∈ s.l, 0 ≤ y.1 ∧ y.1 ≤ s.last) ∧ s.last < 1099511627776 ∧ s.l.length ≤ i
 n : 0 ≤ st.2.2.1 ∧ st.2.2.1 ≤ i
 next : 1 ≤ st.2.1 ∧ st.2.1 ≤ i + 1
 tab : TabOf st.1 A
theorem KeepI.start : KeepI ([], 1, 0, -1) [] 0 := ⟨by simp, by simp, by simp, by simp, by simp, by simp, TabOf.nil⟩
theorem KeepI.more {st : StH} {A : TabT} {i : Nat} (h : KeepI st A i) : KeepI st A (i + 1) := ⟨h.labs, h.nod, h.ref, fun s hs => by
 have := h.smp s hs
 exact ⟨this.1, this.2.1, this.2.2.1, this.2.2.2.1, by omega⟩, ⟨h.n.1, by have := h.n.2; omega⟩, ⟨h.next.1, by have := h.next.2; omega⟩, h.tab⟩
theorem KeepI.len {st : StH} {A : TabT} {i : Nat} (h : KeepI st A i) : st.1.length ≤ 5 := by
 have := nodup_le h.nod (m := Five) (fun x hx => by
  obtain ⟨s, hs, rfl⟩ := List.mem_map.1 hx
  exact h.labs s hs)
 simpa [Five] using this
theorem KeepI.pre {st : StH} {A : TabT} {i : Nat} (h : KeepI st A i) (hi : i ≤ 1000) : AddPre st := ⟨fun s hs e => by have := h.ref s hs; omega, by have := h.len; omega, fun s hs => by have := (h.smp s hs).2.2.2.2; omega, ⟨h.n.1, by have := h.n.2; omega⟩, ⟨by have := h.next.1; omega, by have := h.next.2; omega⟩⟩
theorem KeepI.sel {st : StH} {A : TabT} {i : Nat} (h : KeepI st A i) (hi : i ≤ 500) : SelOk st.1 := ⟨h.nod, fun s hs => by
 obtain ⟨h1, _, h3⟩ := serOk_of 0 (five_chk (h.labs s hs))
 exact ⟨h3, h1.len⟩, fun s hs => by
 have := h.smp s hs
 exact ⟨this.2.1, by omega⟩⟩
theorem ltS_snoc {l : List SmpB} {p : SmpB} (h : l.Pairwise ltS) (h2 : ∀ y ∈ l, y.1 < p.1) : (l ++ [p]).Pairwise ltS := List.pairwise_append.2 ⟨h, List.pairwise_singleton _ _, fun y hy z hz => by
 obtain rfl : z = p := by simpa using hz
 exact h2 y hy⟩
theorem KeepI.step {st st' : StH} {A : TabT} {i : Nat} {p : PtB} (h : KeepI st A i) (hp : p.1 ∈ Five) (htm : 0 ≤ p.2.1 ∧ p.2.1 < 1099511627776) (hlast : ∀ s ∈ st.1, s.lab = p.1 → s.last < p.2.1) (hs : stepH st p st') : KeepI st' (addT p.1 p.2 A) (i + 1) := by
 obtain ⟨S', next', n', top'⟩ := st'
 obtain ⟨S, next, n, top⟩ := st
 obtain ⟨ref, ⟨S1, s, S2, va', hr, hS', -⟩, hn', -⟩ := hs
 dsimp only at hr hS' hn' hlast
 have small : ∀ P ∈ Five, SmallP P := fun P hP => (serOk_of 0 (five_chk hP)).2.1
 rcases hr with ⟨rfl, hk, rfl⟩ | ⟨rfl, rfl, hno, hsl, hl0, hrf, rfl⟩
 ·have hsm : s ∈ S1 ++ s :: S2 := by simp
  have el : s.lab = p.1 := keyP_inj (small _ (h.labs s hsm)) (small _ hp) hk
  obtain ⟨s', hs'⟩ : ∃ s' : SerH, s' = { s with va := va', l := s.l ++ [p.2], last := p.2.1 } := ⟨_, rfl⟩
  rw [← hs'] at hS'
  have hls := hlast s hsm el
  have h0 := h.smp s hsm
  have hlt : ∀ y ∈ s.l, y.1 < p.2.1 := fun y hy => by have := h0.2.2.1 y hy; omega
  have hmem : ∀ t ∈ S1 ++ s' :: S2, t = s' ∨ t ∈ S1 ++ s :: S2 := fun t ht => by
   rcases List.mem_append.1 ht with ht | ht
   ·exact .inr (List.mem_append_left _ ht)
   ·rcases List.mem_cons.1 ht with rfl | ht
    ·exact .inl rfl
    ·exact .inr (List.mem_append_right _ (List.mem_cons_of_mem _ ht))
  have e1 : s'.lab = s.lab := by rw [hs']
  have e2 : s'.ref = s.ref := by rw [hs']
  have e3 : s'.l = s.l ++ [p.2] := by rw [hs']
  have e4 : s'.last = p.2.1 := by rw [hs']
  clear hs'
  subst hS'
  refine ⟨fun t ht => ?_, ?_, fun t ht => ?_, fun t ht => ?_, ?_, ?_, ?_⟩
  ·rcases hmem t ht with rfl | ht
   ·rw [e1]; exact h.labs s hsm
   ·exact h.labs t ht
  ·have := h.nod
   simpa [e1] using this
  ·rcases hmem t ht with rfl | ht
   ·rw [e2]; exact h.ref s hsm
   ·exact h.ref t ht
  ·rcases hmem t ht with rfl | ht
   ·rw [e3, e4]
    refine ⟨ltS_snoc h0.1 hlt, by simp, fun y hy => ?_, htm.2, by rw [List.length_append, List.length_singleton]; omega⟩
    rcases List.mem_append.1 hy with hy | hy
    ·have := h0.2.2.1 y hy
     omega
    ·obtain rfl : y = p.2 := by simpa using hy
     exact ⟨htm.1, Int.le_refl _⟩
   ·have := h.smp t ht
    exact ⟨this.1, this.2.1, this.2.2.1, this.2.2.2.1, by omega⟩
  ·have := h.n
   dsimp only at this ⊢
   omega
  ·have := h.next
   dsimp only at this ⊢
   omega
  ·rw [← el]
   exact h.tab.old h.nod e1 e3 hlt
 ·obtain ⟨s', hs'⟩ : ∃ s' : SerH, s' = { s with va := va', l := s.l ++ [p.2], last := p.2.1 } := ⟨_, rfl⟩
  rw [← hs'] at hS'
  have e1 : s'.lab = p.1 := by rw [hs']; exact hsl
  have e2 : s'.ref = next := by rw [hs']; exact hrf
  have e3 : s'.l = [p.2] := by rw [hs', hl0]; rfl
  have e4 : s'.last = p.2.1 := by rw [hs']
  clear hs'
  subst hS'
  have hne : ∀ t ∈ S1, t.lab ≠ s'.lab := fun t ht e => hno t ht (by rw [e, e1])
  have hmem : ∀ t ∈ S1 ++ [s'], t = s' ∨ t ∈ S1 := fun t ht => by
   rcases List.mem_append.1 ht with ht | ht
   ·exact .inr ht
   ·exact .inl (by simpa using ht)
  refine ⟨fun t ht => ?_, ?_, fun t ht => ?_, fun t ht => ?_, ?_, ?_, ?_⟩
  ·rcases hmem t ht with rfl | ht
   ·rw [e1]; exact hp
   ·exact h.labs t ht
  ·show ((S1 ++ [s']).map (·.lab)).Nodup
   rw [List.map_append, List.nodup_append]
   refine ⟨h.nod, by simp, fun x hx y hy e => ?_⟩
   obtain ⟨t, ht, rfl⟩ := List.mem_map.1 hx
   have : y = s'.lab := by simpa using hy
   exact hne t ht (e.trans this)
  ·have hn := h.next
   dsimp only at hn ⊢
   rcases hmem t ht with rfl | ht
   ·rw [e2]; omega
   ·have := h.ref t ht
    dsimp only at this
    omega
  ·rcases hmem t ht with rfl | ht
   ·rw [e3, e4]
    exact ⟨List.pairwise_singleton _ _, by simp, fun y hy => by
     obtain rfl : y = p.2 := by simpa using hy
     exact ⟨htm.1, Int.le_refl _⟩, htm.2, by simp⟩
   ·have := h.smp t ht
    exact ⟨this.1, this.2.1, this.2.2.1, this.2.2.2.1, by omega⟩
  ·have := h.n
   dsimp only at this ⊢
   omega
  ·have := h.next
   dsimp only at this ⊢
   omega
  ·rw [← e1]
   exact h.tab.new hne e3
theorem chk_one {a b floor n : Int} {S : List SerH} {p : PtB} (h : chkP a b floor n S [] 0 0 p = 0) (hnod : (S.map (·.lab)).Nodup) (hS : ∀ s ∈ S, SmallP s.lab) (hP : SmallP p.1) : chkSet p.1 = true ∧ (0 ≤ p.2.1 ∧ p.2.1 < 1099511627776) ∧ ∀ s ∈ S, s.lab = p.1 → s.last < p.2.1 := by
 unfold chkP at h
 split at h
 ·cases h
 ·rename_i h1
  split at h
  ·cases h
  ·rename_i h2
   refine ⟨by simpa using h1, by omega, fun s hs e => ?_⟩
   have hl : lastM S [] (keyP p.1) = some s.last := by
    have hf : ∃ t, (S.find? fun s => decide (keyP s.lab = keyP p.1)) = some t := by
     cases hq : S.find? fun s => decide (keyP s.lab = keyP p.1) with
     | none => exact absurd (List.find?_eq_none.1 hq s hs) (by simp [e])
     | some t => exact ⟨t, rfl⟩
    obtain ⟨t, ht⟩ := hf
    have h3 := List.mem_of_find?_eq_some ht
    have h4 : keyP t.lab = keyP p.1 := by simpa using List.find?_some ht
    have h5 : t.lab = s.lab := (keyP_inj (hS t h3) hP h4).trans e.symm
    have h6 : t = s := map_inj hnod h3 hs h5
    show ((S.find? fun s => decide (keyP s.lab = keyP p.1)).map (·.last)) = _
    rw [ht, h6]
    rfl
   rw [hl, chkW_some] at h
   split at h
   ·cases h
   ·rename_i h7
    split at h
    ·cases h
    ·omega
theorem chkG_one (a b floor n : Int) (S : List SerH) (p : PtB) : (chkP a b floor n S [] 0 0 p = 0 ∧ chkG a b floor n S [p] 0 [] 0 = (-1, 0)) ∨ (chkP a b floor n S [] 0 0 p ≠ 0 ∧ chkG a b floor n S [p] 0 [] 0 = (0, chkP a b floor n S [] 0 0 p)) := by
 by_cases h : chkP a b floor n S [] 0 0 p = 0
 ·exact .inl ⟨h, by rw [chkG_ok h]; rfl⟩
 ·exact .inr ⟨h, chkG_bad rfl h⟩
theorem betT_whole {f u : Int} {A : TabT} (h : ∀ r ∈ A, r.2 ≠ [] ∧ ∀ y ∈ r.2, f ≤ y.1 ∧ y.1 < u) : betT f u A = A := by
 unfold betT
 have e : A.map (fun r => (r.1, betS f u r.2)) = A := by
  have : ∀ C : TabT, (∀ r ∈ C, ∀ y ∈ r.2, f ≤ y.1 ∧ y.1 < u) → C.map (fun r => (r.1, betS f u r.2)) = C := fun C hC => by
   induction C with
   | nil => rfl
   | cons c C ih =>
    rw [List.map_cons, ih fun r hr => hC r (List.mem_cons_of_mem _ hr)]
    have : betS f u c.2 = c.2 := by
     unfold betS
     rw [List.filter_eq_self]
     intro y hy
     exact decide_eq_true (hC c List.mem_cons_self y hy)
    rw [this]
  exact this A fun r hr => (h r hr).2
 rw [e, List.filter_eq_self]
 intro r hr
 have := (h r hr).1
 simpa using this
theorem KeepI.whole {st : StH} {A : TabT} {i : Nat} (h : KeepI st A i) : betT 0 1099511627776 A = A := betT_whole fun r hr => by
 obtain ⟨s, hs, rfl⟩ := (h.tab.mem r).1 hr
 have := h.smp s hs
 exact ⟨this.2.1, fun y hy => by have := this.2.2.1 y hy; omega⟩
theorem KeepI.few {st : StH} {A : TabT} {i : Nat} (h : KeepI st A i) (hi : i ≤ 100) : A.length ≤ 5 ∧ FewT A ∧ GoodT A := by
 have hA : ∀ r ∈ A, ∃ s ∈ st.1, r = (s.lab, s.l) := fun r hr => (h.tab.mem r).1 hr
 have hn : (A.map (·.1)).Nodup := by
  rw [List.nodup_iff_pairwise_ne, List.pairwise_map]
  exact h.tab.rows.imp fun hab e => by rw [e] at hab; exact ltL_irr _ hab
 have hl : A.length ≤ 5 := by
  have := nodup_le hn (m := Five) (fun x hx => by
   obtain ⟨r, hr, rfl⟩ := List.mem_map.1 hx
   obtain ⟨s, hs, rfl⟩ := hA r hr
   exact h.labs s hs)
  simpa [Five] using this
 refine ⟨hl, ⟨by omega, fun r hr => ?_⟩, h.tab.good fun s hs => ⟨(h.smp s hs).1, (h.smp s hs).2.1⟩⟩
 obtain ⟨s, hs, rfl⟩ := hA r hr
 have h1 := (serOk_of 0 (five_chk (h.labs s hs))).1.len
 have h2 := (h.smp s hs).2.2.2.2
 show s.lab.length ≤ 1000 ∧ s.l.length ≤ 500
 dsimp only at h1
 omega
theorem KeepI.cut {st : StH} {A : TabT} {i : Nat} (h : KeepI st A i) {S' : List SerH} {f : Int} (hf : S'.map coreS = (st.1.map coreS).filterMap (cutOne f)) : TabOf S' (betT f 1125899906842624 A) ∧ ∀ t ∈ S', ∃ s ∈ st.1, t.ref = s.ref ∧ t.lab = s.lab ∧ t.l = cutS f s.l ∧ cutS f s.l ≠ [] := by
 have key : ∀ t, t ∈ S' → ∃ s ∈ st.1, t.ref = s.ref ∧ t.lab = s.lab ∧ t.l = cutS f s.l ∧ cutS f s.l ≠ [] := fun t ht => by
  have h1 : coreS t ∈ S'.map coreS := List.mem_map.2 ⟨t, ht, rfl⟩
  rw [hf] at h1
  obtain ⟨c, hc, e⟩ := List.mem_filterMap.1 h1
  obtain ⟨s, hs, rfl⟩ := List.mem_map.1 hc
  unfold cutOne at e
  split at e
  ·cases e
  ·rename_i hne
   injection e with e
   unfold coreS at e hne
   injection e with e1 e
   injection e with e2 e
   injection e with e3 _
   exact ⟨s, hs, e1.symm, e2.symm, e3.symm, hne⟩
 refine ⟨h.tab.cut (f := f) (fun s hs => ⟨(h.smp s hs).1, fun y hy => by have := h.smp s hs; have := this.2.2.1 y hy; omega⟩) fun r => ?_, key⟩
 constructor
 ·rintro ⟨t, ht, rfl⟩
  obtain ⟨s, hs, _, e2, e3, hne⟩ := key t ht
  exact ⟨s, hs, by rw [e2, e3], hne⟩
 ·rintro ⟨s, hs, rfl, hne⟩
  have h1 : (s.ref, s.lab, cutS f s.l, s.last) ∈ S'.map coreS := by
   rw [hf]
   refine List.mem_filterMap.2 ⟨coreS s, List.mem_map.2 ⟨s, hs, rfl⟩, ?_⟩
   unfold cutOne
   rw [if_neg (by exact hne)]
   rfl
  obtain ⟨t, ht, e⟩ := List.mem_map.1 h1
  unfold coreS at e
  injection e with e1 e
  injection e with e2 e
  injection e with e3 _
  exact ⟨t, ht, by rw [e2, e3]⟩
theorem KeepI.left {st : StH} {A : TabT} {i : Nat} (h : KeepI st A i) (hi : i ≤ 100) {S' : List SerH} {f : Int} (h0 : 0 ≤ f) (hf : S'.map coreS = (st.1.map coreS).filterMap (cutOne f)) : SelOk S' ∧ FewT (betT f 1125899906842624 A) ∧ betT 0 1099511627776 (betT f 1125899906842624 A) = betT f 1125899906842624 A ∧ betT f 1099511627776 (betT f 1125899906842624 A) = betT f 1125899906842624 A ∧ TabOf S' (betT f 1125899906842624 A) := by
 obtain ⟨htab, key⟩ := h.cut hf
 have hy : ∀ s ∈ st.1, ∀ y ∈ cutS f s.l, f ≤ y.1 ∧ y.1 < 1099511627776 := fun s hs y hy => by
  have h1 := h.smp s hs
  rw [cutS_bet (upt := 1125899906842624) h1.1 (fun z hz => by have := h1.2.2.1 z hz; omega)] at hy
  unfold betS at hy
  obtain ⟨hm, hd⟩ := List.mem_filter.1 hy
  have h2 := h1.2.2.1 y hm
  have h3 := of_decide_eq_true hd
  omega
 have hrow : ∀ r ∈ betT f 1125899906842624 A, r.2 ≠ [] ∧ ∀ y ∈ r.2, f ≤ y.1 ∧ y.1 < 1099511627776 := fun r hr => by
  obtain ⟨t, ht, rfl⟩ := (htab.mem r).1 hr
  obtain ⟨s, hs, _, _, e3, hne⟩ := key t ht
  show t.l ≠ [] ∧ ∀ y ∈ t.l, _
  rw [e3]
  exact ⟨hne, hy s hs⟩
 refine ⟨⟨?_, fun t ht => ?_, fun t ht => ?_⟩, ⟨?_, fun r hr => ?_⟩, betT_whole fun r hr => ⟨(hrow r hr).1, fun y hy => by have := (hrow r hr).2 y hy; omega⟩, betT_whole hrow, htab⟩
 ·have e : ∀ T : List SerH, T.map (·.lab) = (T.map coreS).map (·.2.1) := fun T => by rw [List.map_map]; rfl
  have hn := h.nod
  rw [e, List.nodup_iff_pairwise_ne, List.pairwise_map] at hn
  rw [e, hf, List.nodup_iff_pairwise_ne, List.pairwise_map]
  refine List.Pairwise.filterMap (cutOne f) (fun a a' hne b hb b' hb' => ?_) hn
  have lab : ∀ {c d : Core}, cutOne f c = some d → d.2.1 = c.2.1 := fun {c d} hcd => by
   unfold cutOne at hcd
   split at hcd
   ·cases hcd
   ·injection hcd with hcd
    rw [← hcd]
  rw [lab hb, lab hb']
  exact hne
 ·obtain ⟨s, hs, _, e2, _, _⟩ := key t ht
  rw [e2]
  exact (h.sel (by omega)).lab s hs
 ·obtain ⟨s, hs, _, _, e3, hne⟩ := key t ht
  rw [e3]
  have h1 := (h.smp s hs).2.2.2.2
  have h2 := cut_len (f := f) s.l
  exact ⟨hne, by omega⟩
 ·have h1 := (h.few hi).1
  have h2 : (betT f 1125899906842624 A).length ≤ A.length := by
   unfold betT
   exact Nat.le_trans (List.length_filter_le _ _) (by rw [List.length_map]; exact Nat.le_refl _)
  omega
 ·obtain ⟨t, ht, rfl⟩ := (htab.mem r).1 hr
  obtain ⟨s, hs, _, e2, e3, _⟩ := key t ht
  have h1 := (h.smp s hs).2.2.2.2
  have h2 := cut_len (f := f) s.l
  have h3 := ((h.sel (by omega)).lab s hs).2
  show t.lab.length ≤ 1000 ∧ t.l.length ≤ 500
  rw [e2, e3]
  omega
theorem KeepI.drop {st : StH} {A : TabT} {i : Nat} (h : KeepI st A i) (hi : i ≤ 100) : DropOk st.1 := ⟨fun s hs => (h.smp s hs).2.1, fun s hs => (serOk_of 0 (five_chk (h.labs s hs))).2.1, fun s hs => by have := (h.smp s hs).2.2.2.2; omega, fun s hs => by have := h.ref s hs; have := h.next; omega⟩
end Go.Proofs.YtgdkceeonnfejaaGreatDoor
