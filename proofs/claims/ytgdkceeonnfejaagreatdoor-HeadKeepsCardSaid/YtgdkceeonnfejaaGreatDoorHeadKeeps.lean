/-
  HeadKeeps: a sample is there until it is dropped; each time of a series once: the law's walk.
  The library's variable internal/bytealg.MaxLen holds some number.
-/
import Derived.Test.YtgdkceeonnfejaaGreatDoorKeepLaw
import Derived.Test.YtgdkceeonnfejaaGreatDoorHeadDrop
import Derived.Test.YtgdkceeonnfejaaGreatDoorHeadKey
import Derived.Test.YtgdkceeonnfejaaGreatDoorTabAddX
import Derived.Test.YtgdkceeonnfejaaGreatDoorTabQ
namespace Go.Proofs.YtgdkceeonnfejaaGreatDoor
set_option maxRecDepth 100000
set_option maxHeartbeats 4000000
set_option linter.unusedSimpArgs false
open Go Go.RowKit Go.Maps
theorem mats_none (w : World) : MatsAt w (.slice none 0 0) [] := ⟨[], ⟨none, 0, rfl, by simp [maxLen], fun i hi => by simp at hi⟩, rfl, fun i hi => by simp at hi⟩
theorem head0_at {B : Nat} {w : World} {h : Nat} {a b c : Int} (H : Head0 B w h a b c) (hB : B ≤ h) : HeadAt B [] w h a b c [] 1 0 0 (-1) := by
 obtain ⟨rb, ob, x, mb, hhc, hmr, hob, hix, hmm, n1, n2, n3, l1, l2, l3, l4⟩ := H
 have hx := hix
 unfold IxAt at hx
 refine ⟨rb, ob, x, mb, .slice none 0 0, [], [], ⟨hhc, hmr, ⟨[], 0, hob, ⟨by simp, by simp, by simp⟩, rfl⟩, ⟨hix, World.ownsRow_nil _ _ _ _, hmm, by simp, by simp, by simp, by simp⟩, by simp⟩, ⟨n1, ⟨?_, ?_, by simp [Value.ownBlock], by simp, by simp⟩, by simp, by simp, List.Pairwise.nil, ⟨l1, l2, l3, l4, hB⟩⟩, IdxI.start (by simp), by simp⟩
 ·simp only [List.mem_cons, List.not_mem_nil, or_false, not_or]
  exact ⟨hmr.ne hx, ne_of_at hx hob (by simp)⟩
 ·simp only [List.mem_cons, List.not_mem_nil, or_false, not_or]
  exact ⟨fun e => n2 e.symm, fun e => n3 e.symm⟩
theorem TabG.fr {X : List Nat} {tr tp : TypeId} {B : Nat} {w0 w w' : World} {v : Value} {A : TabT} (h : TabG (· ∈ X) tr tp B w v A) (f : HFr X w0 w w') (h1 : Calm tr) (h2 : Calm tp) : TabG (· ∈ X) tr tp B w' v A := by
 obtain ⟨E, g1, g2, g3⟩ := h
 refine ⟨E, f.row g1 h1, ⟨g2.1, fun i hi hi' => ⟨f.row (g2.2 i hi hi').1 h2, ?_⟩⟩, g3⟩
 have h4 := (g2.2 i hi hi').2
 have h5 := g3 _ (List.getElem_mem hi)
 obtain ⟨h0, h6 | ⟨g', cap, cur, e1, e2, e3, e4⟩⟩ := h4
 ·exact ⟨h0, .inl h6⟩
 ·exact ⟨h0, .inr ⟨g', cap, cur, e1, e2, f.x g' (h5 g' (by rw [e1]; rfl)) _ e3, e4⟩⟩
theorem o14_one {w : World} {b off n cap : Nat} {L : List One14} (h : SliceArg 3 encO14 w (.slice (some ⟨b, off, none⟩) n cap) L) (k : Nat) (hk : k < L.length) (c' : Nat) : SliceArg 3 encO14 w (.slice (some ⟨b, off + k * 3, none⟩) 1 c') [L[k]] := by
 obtain ⟨ao, cp, e, hl, hx⟩ := h
 obtain ⟨b', off', e2, hb, hc⟩ := hx k hk
 subst e2
 injection e with e _ _
 injection e with e
 injection e with e1 e2 _
 subst e1 e2
 refine ⟨some ⟨b, off + k * 3, none⟩, c', rfl, by simp [maxLen], fun i hi => ⟨b, off + k * 3, rfl, hb, fun j hj => ?_⟩⟩
 obtain rfl : i = 0 := by simpa using hi
 have := hc j hj
 rw [← Nat.add_assoc] at this
 simpa using this
theorem filt_none (S : List SerH) : S.filter (fun s => ([] : List MatB).all (fitsM s.lab)) = S := List.filter_eq_self.2 (by simp)
theorem ptOf_five (x : One14) : (ptOf x).1 ∈ Five ∨ (ptOf x).1 = [] := by
 unfold ptOf
 dsimp only
 split
 ·exact .inr rfl
 ·exact .inl (labN_five _)
theorem small_or {P : List PairB} (h : P ∈ Five ∨ P = []) : SmallP P ∧ (chkSet P = true ∨ P = []) := by
 rcases h with h | rfl
 ·exact ⟨(serOk_of 0 (five_chk h)).2.1, .inl (five_chk h)⟩
 ·exact ⟨⟨by simp, by simp⟩, .inr rfl⟩
def KeepRel (w : World) (h : Nat) (m gk : Nat) (u7 u8 : Value) (wr : World) : Prop :=
 ∃ i st A X, i ≤ m ∧ gk = m - i ∧ u8 = .int .i64 (i : Nat) ∧ HeadAt w.heap.size X wr h 10 100 10 st.1 st.2.1 st.2.2.1 0 st.2.2.2 ∧ TabG (· ∈ X) 106 152 0 wr u7 A ∧ KeepI st A i ∧ Keeps [] w wr
theorem headKeeps_walk (w : World) (hv : LibVar w) (v : Value) (L : List One14) (hL : SliceArg 3 encO14 w v L) (hb : ∀ x ∈ L, 0 ≤ x.1) (hc : ∀ a n c, v = .slice a n c → n ≤ c) (to_ : Int) :
  Calls Tryz.prog 3 #[v, .int .i64 to_] w fun e w' => e = .returned (.bool true) ∧ Keeps [] w w' := by
 have Hf := Lib.hid (And.intro hL (And.intro hb hv))
 obtain ⟨ao, cap, rfl, hlm, -⟩ := hL
 have hcap := hc _ _ _ rfl
 unfold maxLen at hlm
 obtain ⟨m, hm⟩ : ∃ m : Nat, m = min L.length 30 := ⟨_, rfl⟩
 have hm1 : m ≤ L.length := by omega
 have hm2 : m ≤ 30 := by omega
 have hm3 : m = L.length ∨ m = 30 := by omega
 clear hm hb hv hc
 go_enter Tryz.func3, Tryz.ntmps3
 go_wp2_with fail
 refine (newYes_spec w 10 100 10 (by decide)).mono ?_
 rintro e w1 ⟨h, rfl, hh, hwh, hk1⟩
 have H1 := Lib.hid (And.intro (head0_at hh hwh) (And.intro (go1 hk1 Hf.out.2.2) hk1))
 clear hh hk1
 go_wp2_with fail
 refine (awake15_spec w1 H1.out.2.1).mono ?_
 rintro e w2 ⟨rfl, hk2⟩
 have kA : Keeps [] w2 (w2.alloc (.cells #[] 106)) := (Keeps.refl [] w2).alloc _
 have H2 := Lib.hid (And.intro ((H1.out.1.keep hk2).keep kA) (And.intro (tabG_made (G := (· ∈ ([] : List Nat))) (tp := 152) (own_made w2 0 106 2 (Nat.zero_le _))) ((H1.out.2.2.trans hk2).trans kA)))
 clear hk2 kA H1
 go_wp2_with fail
 go_loopg [7, 8] m (KeepRel w h m)
 case atStart => exact ⟨0, ([], 1, 0, -1), [], [], Nat.zero_le _, rfl, rfl, H2.out.1, H2.out.2.1, KeepI.start, H2.out.2.2⟩
 case round =>
  obtain ⟨i, st, A, X, hi, hgk, rfl, hH, hT, hI, hkw⟩ := hrel
  have Hg := Lib.hid hgk
  clear hgk H2
  obtain ⟨au, cu, rfl⟩ := hT.form
  have hAf := hI.few (by omega)
  have hwsz : w.heap.size ≤ wr.heap.size := hkw.size
  have hS5 := hI.len
  by_cases hlt : i < m
  ·have hltL : i < L.length := by omega
   obtain ⟨b, off, cap', ea, hbW, -, -, -⟩ := o14_at (Hf.out.1.keep hkw) i hltL
   injection ea with ea _ ec
   subst ea ec
   have hlt1 : (i : Int) < (L.length : Int) := by omega
   have hlt2 : (i : Int) < 30 := by omega
   have hone := o14_one (Hf.out.1.keep hkw) i hltL (cap - i)
   have hx0 := Hf.out.2.1 L[i] (List.getElem_mem hltL)
   generalize L[i] = x at hone hx0
   have hpt := small_or (ptOf_five x)
   have H3 := Lib.hid (And.intro hH (And.intro hT (And.intro hI (And.intro hkw (And.intro (go1 hkw Hf.out.2.2) (And.intro hone (And.intro hAf hpt)))))))
   have hci : ¬ cap = i := by omega
   clear hH hT hI hkw hone hAf hpt
   go_wp2_with fail
   refine (points_spec wr H3.out.2.2.2.2.1 _ [x] H3.out.2.2.2.2.2.1 (fun y hy => by
    obtain rfl : y = x := by simpa using hy
    exact hx0)).mono ?_
   rintro e w2 ⟨va, vb, rfl, hpa, hpb, hk2⟩
   replace hpa : PtsG wr.heap.size 89 149 w2 va [ptOf x] := hpa
   replace hpb : PtsG wr.heap.size 44 152 w2 vb [ptOf x] := hpb
   have Hck := chkG_spec w.heap.size X w2 h 10 100 10 st.1 st.2.1 st.2.2.1 0 st.2.2.2 va [ptOf x] (H3.out.1.keep hk2) hpa.pts (fun p hp => by
    obtain rfl : p = ptOf x := by simpa using hp
    exact H3.out.2.2.2.2.2.2.2.2) (by simp) (by omega) ⟨H3.out.2.2.1.n.1, by have := H3.out.2.2.1.n.2; omega⟩
   obtain ⟨a1, c1, rfl⟩ := hpa.form
   obtain ⟨a2, c2, rfl⟩ := hpb.form
   have H4 := Lib.hid (And.intro (H3.out.1.keep hk2) (And.intro (H3.out.2.1.keep hk2) (And.intro (H3.out.2.2.2.1.trans hk2) (And.intro hpa hpb))))
   have HI := Lib.hid (And.intro H3.out.2.2.1 H3.out.2.2.2.2.2.2)
   clear hpa hpb hk2 H3 hbW
   rcases chkG_one 10 100 0 st.2.2.1 st.1 (ptOf x) with ⟨hz, hR⟩ | ⟨hz, hR⟩
   ·rw [hR] at Hck
    have hch := chk_one hz HI.out.1.nod (fun s hs => (serOk_of 0 (five_chk (HI.out.1.labs s hs))).2.1) HI.out.2.2.1
    have hfive : (ptOf x).1 ∈ Five := by
     rcases ptOf_five x with h1 | h1
     ·exact h1
     ·rw [h1] at hch
      exact absurd hch.1 (by decide)
    have Hch := Lib.hid (And.intro hch hfive)
    have HCK := Lib.hid Hck
    clear hz hR hch hfive Hck
    go_wp2_with fail
    refine HCK.out.mono ?_
    rintro e w3 ⟨rfl, hk3⟩
    have H5 := Lib.hid (go1 hk3 H4.out)
    clear hk3 H4 HCK
    go_wp2_with fail
    refine (addAll_spec w.heap.size X w w3 h 10 100 10 0 st _ [ptOf x] (fun k st' => (k = 0 ∧ st' = st) ∨ (k = 1 ∧ KeepI st' (addT (ptOf x).1 (ptOf x).2 A) (i + 1))) H5.out.1 H5.out.2.2.1 (Nat.le_refl _) H5.out.2.2.1.size H5.out.2.2.2.1.pts (fun p hp => by
     obtain rfl : p = ptOf x := by simpa using hp
     exact Hch.out.1.1) (by simp) (.inl ⟨rfl, rfl⟩) (fun k st' hk hI' => by
     rcases hI' with ⟨-, rfl⟩ | ⟨rfl, -⟩
     ·exact HI.out.1.pre (by omega)
     ·simp at hk) (fun k st1 st2 hk hI' hst => by
     obtain rfl : k = 0 := by simpa using hk
     rcases hI' with ⟨-, rfl⟩ | ⟨h1, -⟩
     ·exact .inr ⟨rfl, HI.out.1.step Hch.out.2 Hch.out.1.2.1 Hch.out.1.2.2 hst⟩
     ·omega)).mono ?_
    rintro e w4 ⟨st', rfl, hH4, hf4, -, hI4⟩
    have hI5 : KeepI st' (addT (ptOf x).1 (ptOf x).2 A) (i + 1) := by
     rcases hI4 with ⟨h1, -⟩ | ⟨-, h1⟩
     ·simp at h1
     ·exact h1
    have k4 : Keeps [] w4 w4.drew := (Keeps.refl [] w4).drew
    obtain ⟨W5, hW5⟩ : ∃ W5, W5 = w4.drew := ⟨_, rfl⟩
    rw [← hW5] at k4
    have hpb5 := (H5.out.2.2.2.2.fr hf4 (by decide) (by decide)).keep k4
    obtain ⟨b2, off2, u, ea, hb2, e0, e1, e2, hru⟩ := hpb5.at_ 0 (by simp)
    subst ea
    simp only [Nat.zero_mul, Nat.add_zero, List.getElem_cons_zero] at e0 e1 e2 hru
    have H6 := Lib.hid (And.intro (hH4.keep k4) (And.intro ((H5.out.2.1.fr hf4 (by decide) (by decide)).keep k4) (And.intro hI5 (And.intro (hf4.keeps.trans k4) hru))))
    obtain ⟨a6, c6, rfl, -, -, -⟩ := row_slice hru
    have D0 : ∀ s : Kept W5, s.val.cell? ⟨b2, off2, none⟩ = some (.slice a6 (ptOf x).1.length c6) := fun s => (s.property.cell hb2 (by simp)).trans e0
    have D1 : ∀ s : Kept W5, s.val.cell? ⟨b2, off2 + 1, none⟩ = some (.int .i64 (ptOf x).2.1) := fun s => (s.property.cell hb2 (by simp)).trans e1
    have D2 : ∀ s : Kept W5, s.val.cell? ⟨b2, off2 + 2, none⟩ = some (.int .u64 (ptOf x).2.2) := fun s => (s.property.cell hb2 (by simp)).trans e2
    have L2 : ∀ s : Kept W5, b2 < s.val.heap.size := fun s => s.property.lt hb2
    have HW := Lib.hid hW5
    clear hH4 hf4 hI4 hI5 k4 hW5 hpb5 e0 e1 e2 hru hb2 H5
    generalize ptOf x = p at *
    obtain ⟨P, t, y⟩ := p
    dsimp only at D0 D1 D2
    go_upto_region 12 with fail
    refine wp_region_held_drew (S := KeptS W5) (by kernel_rfl) (by rw [← HW.out]; exact keptS (Keeps.refl _ _)) (fun hS => ?_)
    rw [← HW.out] at hS ⊢
    clear HW
    refine tk (v := ?_) 0 rfl ?_ ?_; rotate_left
    ·rintro _ ⟨s, rfl⟩; go_simp; (try with_reducible rfl)
    simp only [Act.put, zz]
    refine tk (v := ?_) 1 rfl ?_ ?_; rotate_left
    ·rintro _ ⟨s, rfl⟩; go_simp; (try with_reducible rfl)
    simp only [Act.put, zz]
    refine tk (v := ?_) 2 rfl ?_ ?_; rotate_left
    ·rintro _ ⟨s, rfl⟩; go_simp; (try with_reducible rfl)
    simp only [Act.put, zz]
    refine tk (v := ?_) 3 rfl ?_ ?_; rotate_left
    ·rintro _ ⟨s, rfl⟩; go_simp; (try with_reducible rfl)
    simp only [Act.put, zz]
    refine tk (v := ?_) 4 rfl ?_ ?_; rotate_left
    ·rintro _ ⟨s, rfl⟩; go_simp; (try with_reducible rfl)
    simp only [Act.put, zz]
    refine tk (v := ?_) 5 rfl ?_ ?_; rotate_left
    ·rintro _ ⟨s, rfl⟩; go_simp; (try with_reducible rfl)
    simp only [Act.put, zz]
    refine tk (v := ?_) 6 rfl ?_ ?_; rotate_left
    ·rintro _ ⟨s, rfl⟩; go_simp; (try with_reducible rfl)
    simp only [Act.put, zz]
    refine tk (v := ?_) 7 rfl ?_ ?_; rotate_left
    ·rintro _ ⟨s, rfl⟩; go_simp; (try with_reducible rfl)
    simp only [Act.put, zz]
    refine tk (v := ?_) 8 rfl ?_ ?_; rotate_left
    ·rintro _ ⟨s, rfl⟩; go_simp; (try with_reducible rfl)
    simp only [Act.put, zz]
    refine rd 9 rfl fun K hK => ?_
    go_simp
    go_at_call 13
    refine (addX_spec X W5 _ _ A P (t, y) H6.out.2.1 HI.out.2.1.2.1 HI.out.1.tab.rows H6.out.2.2.2.2 (by have := (serOk_of 0 (five_chk Hch.out.2)).1.len; dsimp only at this; omega)).mono ?_
    rintro e w6 ⟨v6, rfl, hT6, k6⟩
    obtain ⟨X', hX1, hX2⟩ := hT6.list
    have H7 := Lib.hid (And.intro (H6.out.1.other (X' := X') k6 (fun d hd => (hX2 d hd).2) (fun d hd => (hX2 d hd).1)) (And.intro (hX1.base (Nat.zero_le _)) (And.intro H6.out.2.2.1 (H6.out.2.2.2.1.trans k6))))
    obtain ⟨a7, c7, rfl⟩ := hT6.form
    clear hT6 hX1 hX2 H6
    go_simp
    refine hK.out _ _ (keptS k6) (fun hS => ?_)
    clear hK K
    try simp only [Act.put, zz]
    refine rd 10 rfl fun K hK => ?_
    go_simp
    go_simp
    refine hK.out _ _ (keptS k6) (fun hS => ?_)
    clear hK K
    try simp only [Act.put, zz]
    refine wpAnyH_done (by kernel_rfl) ?_ _
    clear hS D0 D1 D2 L2 k6
    go_wp2_with fail
    go_roundg (m - (i + 1))
    case measure => have := Hg.out; omega
    case rel => exact ⟨i + 1, st', _, X', hlt, rfl, by go_num, H7.out.1, H7.out.2.1, H7.out.2.2.1, H7.out.2.2.2⟩
   ·rw [hR] at Hck
    have HCK := Lib.hid Hck
    clear hz hR Hck
    go_wp2_with fail
    refine HCK.out.mono ?_
    rintro e w3 ⟨rfl, hk3⟩
    have H5 := Lib.hid (And.intro (H4.out.1.keep hk3) (And.intro (H4.out.2.1.keep hk3) (And.intro HI.out.1.more (H4.out.2.2.1.trans hk3))))
    clear hk3 H4 HCK
    go_wp2_with fail
    go_roundg (m - (i + 1))
    case measure => have := Hg.out; omega
    case rel => exact ⟨i + 1, st, A, X, hlt, rfl, by go_num, H5.out.1, H5.out.2.1, H5.out.2.2.1, H5.out.2.2.2⟩
  ·have hS0 := selectH_spec w.heap.size X wr h 10 100 10 st.1 st.2.1 st.2.2.1 0 st.2.2.2 0 1099511627776 (.slice none 0 0) [] hH (hI.sel (by omega)) (mats_none _) (by simp)
   have H3 := Lib.hid (And.intro hH (And.intro hT (And.intro hI (And.intro hkw hAf))))
   have HS := Lib.hid hS0
   have hcond : (¬ (i : Int) < (L.length : Int)) ∨ ((i : Int) < (L.length : Int) ∧ ¬ (i : Int) < 30) := by omega
   clear hH hT hI hkw hAf hS0
   rcases hcond with h1 | ⟨h1, h2⟩
   all_goals
    go_wp2_with fail
    refine HS.out.mono ?_
    rintro e w2 ⟨v2, A2, rfl, ht2, hta2, hk2⟩
    rw [filt_none] at ht2
    have e2 : A2 = A := ht2.uniq H3.out.2.2.1.tab
    rw [e2, H3.out.2.2.1.whole] at hta2
    have HT := Lib.hid (told14_spec w2 v2 A (hta2.base (Nat.zero_le _)) H3.out.2.2.2.2.2.1)
    obtain ⟨a2, c2, rfl⟩ := hta2.form
    have H4 := Lib.hid (And.intro (H3.out.1.keep hk2) (And.intro (H3.out.2.1.keep hk2) (H3.out.2.2.2.1.trans hk2)))
    have HI := Lib.hid (And.intro H3.out.2.2.1 H3.out.2.2.2.2.2)
    clear ht2 e2 hta2 hk2 H3 HS
    go_wp2_with fail
    refine HT.out.mono ?_
    rintro e w3 ⟨v3, rfl, hta3, hk3⟩
    have H5 := Lib.hid (And.intro (H4.out.1.keep hk3) (And.intro (H4.out.2.1.keep hk3) (H4.out.2.2.trans hk3)))
    have HS := Lib.hid (same14_spec w3 v3 (.slice au A.length cu) A (hta3.base (Nat.zero_le _)) H5.out.2.1.tab HI.out.2.1)
    obtain ⟨a3, c3, rfl⟩ := hta3.form
    clear hta3 hk3 H4 HT
    go_wp2_with fail
    refine HS.out.mono ?_
    rintro e w4 ⟨rfl, hk4⟩
    have H6 := Lib.hid (And.intro (H5.out.1.keep hk4) (And.intro (H5.out.2.1.keep hk4) (H5.out.2.2.trans hk4)))
    clear hk4 H5 HS
    go_upto_region 16 with fail
    have hf0 : 0 ≤ max (to_.tmod 1100) 0 := Int.le_max_right _ _
    generalize max (to_.tmod 1100) 0 = f at hf0 ⊢
    have Hd := Lib.hid (dropH_spec w.heap.size X w w4 h 10 100 10 st.1 st.2.1 st.2.2.1 0 st.2.2.2 f H6.out.1 H6.out.2.2 (Nat.le_refl _) (HI.out.1.drop (by omega)) ⟨HI.out.1.n.1, by have := HI.out.1.n.2; omega⟩)
    go_wp2_with fail
    refine Hd.out.mono ?_
    rintro e w5 ⟨S', n', rfl, hH5, hf5, hcore, -⟩
    rw [show max 0 f = f from by omega] at hH5 hcore
    have hleft := HI.out.1.left (by omega) hf0 hcore
    obtain ⟨A', hA'⟩ : ∃ A', A' = betT f 1125899906842624 A := ⟨_, rfl⟩
    rw [← hA'] at hleft
    have HA := Lib.hid (And.intro hA' hleft)
    have H7 := Lib.hid (And.intro hH5 (And.intro (H6.out.2.1.fr hf5 (by decide) (by decide)) hf5.keeps))
    have HS := Lib.hid (selectH_spec w.heap.size X w5 h 10 100 10 S' st.2.1 n' f st.2.2.2 0 1099511627776 (.slice none 0 0) [] H7.out.1 hleft.1 (mats_none _) (by simp))
    clear hH5 hf5 hcore hleft hA' H6 Hd
    go_wp2_with fail
    refine HS.out.mono ?_
    rintro e w6 ⟨v6, A6, rfl, ht6, hta6, hk6⟩
    rw [filt_none] at ht6
    have e6 : A6 = A' := ht6.uniq HA.out.2.2.2.2.2
    rw [e6, HA.out.2.2.2.1] at hta6
    have HT := Lib.hid (told14_spec w6 v6 A' (hta6.base (Nat.zero_le _)) HA.out.2.2.1)
    obtain ⟨a6, c6, rfl⟩ := hta6.form
    have H8 := Lib.hid (And.intro (H7.out.1.keep hk6) (And.intro (H7.out.2.1.keep hk6) (H7.out.2.2.trans hk6)))
    clear ht6 e6 hta6 hk6 H7 HS
    go_wp2_with fail
    refine HT.out.mono ?_
    rintro e w7 ⟨v7, rfl, hta7, hk7⟩
    have H9 := Lib.hid (And.intro (H8.out.1.keep hk7) (And.intro (H8.out.2.1.keep hk7) (And.intro (H8.out.2.2.trans hk7) (hta7.base (Nat.zero_le _)))))
    have HB := Lib.hid (betweenR_spec w7 (.slice au A.length cu) A f 1125899906842624 H9.out.2.1.tab HI.out.2.1 HI.out.2.2)
    rw [← HA.out.1] at HB
    obtain ⟨a7, c7, rfl⟩ := hta7.form
    clear hta7 hk7 H8 HT
    go_wp2_with fail
    refine HB.out.mono ?_
    rintro e w8 ⟨v8, rfl, hta8, hk8⟩
    have Hx := Lib.hid (And.intro (H9.out.1.keep hk8) (And.intro (H9.out.2.1.keep hk8) (H9.out.2.2.1.trans hk8)))
    have HS := Lib.hid (same14_spec w8 (.slice a7 A'.length c7) v8 A' (H9.out.2.2.2.keep hk8) (hta8.base (Nat.zero_le _)) HA.out.2.2.1)
    obtain ⟨a8, c8, rfl⟩ := hta8.form
    clear hta8 hk8 H9 HB
    go_wp2_with fail
    refine HS.out.mono ?_
    rintro e w9 ⟨rfl, hk9⟩
    have Hy := Lib.hid (And.intro (Hx.out.1.keep hk9) (And.intro (Hx.out.2.1.keep hk9) (Hx.out.2.2.trans hk9)))
    clear hk9 Hx HS
    have HS := Lib.hid (selectH_spec w.heap.size X w9 h 10 100 10 S' st.2.1 n' f st.2.2.2 f 1099511627776 (.slice none 0 0) [] Hy.out.1 HA.out.2.1 (mats_none _) (by simp))
    go_wp2_with fail
    refine HS.out.mono ?_
    rintro e wa ⟨v6, A6, rfl, ht6, hta6, hk6⟩
    rw [filt_none] at ht6
    have e6 : A6 = A' := ht6.uniq HA.out.2.2.2.2.2
    rw [e6, HA.out.2.2.2.2.1] at hta6
    have HT := Lib.hid (told14_spec wa v6 A' (hta6.base (Nat.zero_le _)) HA.out.2.2.1)
    obtain ⟨a9, c9, rfl⟩ := hta6.form
    have H8 := Lib.hid (And.intro (Hy.out.2.1.keep hk6) (Hy.out.2.2.trans hk6))
    clear ht6 e6 hta6 hk6 Hy HS
    go_wp2_with fail
    refine HT.out.mono ?_
    rintro e wb ⟨v7, rfl, hta7, hk7⟩
    have H9 := Lib.hid (And.intro (H8.out.1.keep hk7) (And.intro (H8.out.2.trans hk7) (hta7.base (Nat.zero_le _))))
    have HB := Lib.hid (betweenR_spec wb (.slice au A.length cu) A f 1125899906842624 H9.out.1.tab HI.out.2.1 HI.out.2.2)
    rw [← HA.out.1] at HB
    obtain ⟨ab, cb, rfl⟩ := hta7.form
    clear hta7 hk7 H8 HT
    go_wp2_with fail
    refine HB.out.mono ?_
    rintro e wc ⟨v8, rfl, hta8, hk8⟩
    have Hx := Lib.hid (H9.out.2.1.trans hk8)
    have HS := Lib.hid (same14_spec wc (.slice ab A'.length cb) v8 A' (H9.out.2.2.keep hk8) (hta8.base (Nat.zero_le _)) HA.out.2.2.1)
    obtain ⟨ac, cc, rfl⟩ := hta8.form
    clear hta8 hk8 H9 HB
    go_wp2_with fail
    refine HS.out.mono ?_
    rintro e wd ⟨rfl, hk9⟩
    have Hz := Lib.hid (Hx.out.trans hk9)
    clear hk9 Hx HS
    go_wp2_with fail
    go_ret
    exact ⟨rfl, Hz.out⟩
def O14C (w : World) (v : Value) : Prop := O14W w v ∧ ∀ a n c, v = .slice a n c → n ≤ c
open Go.ChangeShapes Go.WideShapes Go.Deep in
theorem open_o14c {H : Type} {e0 : TypeId × Value → H} {W : World} {r : Reach} {b0 : Nat} {v : Value} {d : DataW H} {p : List MemPlace} (hok : Value.okWide Tryz.prog W r b0 22 v) (h : DataW.Trod e0 Tryz.prog W 0 (fun _ => true) true 22 v d p) : O14C W v := by
 refine ⟨open_o14w hok h, fun a n c e => ?_⟩
 subst e
 obtain ⟨fuel, hf⟩ := h
 rcases open_slice Tryz.underlying22 hf with ⟨hcs, _⟩ | ⟨a', len, cap, m, n', D, Pl, hcs, _, hl, -⟩
 ·simp [Value.cells] at hcs
  omega
 ·simp [Value.cells] at hcs
  omega
theorem headKeeps_law (w : World) (hv : LibVar w) (v0 : Value) (h0 : O14C w v0) (a1 : Int) (_ : (Lit.int .i64 a1).wf = true) :
  Calls Tryz.prog 3 #[v0, .int .i64 a1] w fun e w' => e = .returned (.bool true) ∧ Keeps [] w w' := by
 obtain ⟨⟨L, hL, hb⟩, hc⟩ := h0
 exact headKeeps_walk w hv v0 L hL (fun x hx => (hb x hx).1) hc a1
end Go.Proofs.YtgdkceeonnfejaaGreatDoor
