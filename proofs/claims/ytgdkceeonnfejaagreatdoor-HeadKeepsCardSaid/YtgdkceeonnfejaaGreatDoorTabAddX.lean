/-
  Package barographref14: Add, walked: the blocks of samples of the table's rows are the old ones', or new (printed by tabxgen.py out of the text on tables).
  No condition beyond those that each theorem states.
-/
import Derived.Test.YtgdkceeonnfejaaGreatDoorTabLaw
namespace Go.Proofs.YtgdkceeonnfejaaGreatDoor
set_option maxRecDepth 100000
set_option maxHeartbeats 4000000
set_option linter.unusedSimpArgs false
open Go Go.RowKit
def TabG (G : Nat → Prop) (tr tp : TypeId) (B : Nat) (w : World) (v : Value) (A : TabT) : Prop := ∃ E : List RowV, w.ownsRow B tr 2 v E.length (E.flatMap encRV) ∧ ElemsAt tp w E A ∧ ∀ e ∈ E, ∀ g, e.2.ownBlock = some g → G g
section
variable {G : Nat → Prop} {tr tp : TypeId} {B : Nat} {w w' : World} {v : Value} {A : TabT}
theorem TabG.tab (h : TabG G tr tp B w v A) : TabAt tr tp B w v A := by
 obtain ⟨E, h1, h2, _⟩ := h
 exact ⟨E, h1, h2⟩
theorem TabG.keep (h : TabG G tr tp B w v A) (k : Keeps [] w w') : TabG G tr tp B w' v A := by
 obtain ⟨E, h1, h2, h3⟩ := h
 exact ⟨E, go1 k h1, h2.keep k, h3⟩
instance go1TabG : Go1 w w' (TabG G tr tp B w v A) (TabG G tr tp B w' v A) := ⟨fun k h => h.keep k⟩
theorem TabG.base {B' : Nat} (h : TabG G tr tp B w v A) (hB : B' ≤ B) : TabG G tr tp B' w v A := by
 obtain ⟨E, h1, h2, h3⟩ := h
 exact ⟨E, row_base h1 hB, h2, h3⟩
theorem TabG.form (h : TabG G tr tp B w v A) : ∃ a c, v = .slice a A.length c := h.tab.form
theorem tabG_made (h : w.ownsRow B tr 2 v 0 []) : TabG G tr tp B w v [] := ⟨[], by simpa using h, ⟨rfl, fun i hi => by simp at hi⟩, by simp⟩
theorem g_snoc {E : List RowV} {u1 u2 : Value} (h : ∀ e ∈ E, ∀ g, e.2.ownBlock = some g → G g) (h2 : ∀ g, u2.ownBlock = some g → G g) : ∀ e ∈ E ++ [(u1, u2)], ∀ g, e.2.ownBlock = some g → G g := fun e he g hg => by
 rcases List.mem_append.1 he with he | he
 ·exact h e he g hg
 ·obtain rfl : e = (u1, u2) := by simpa using he
  exact h2 g hg
theorem TabG.list (h : TabG G tr tp B w v A) : ∃ X : List Nat, TabG (· ∈ X) tr tp B w v A ∧ ∀ g ∈ X, G g ∧ g < w.heap.size := by
 obtain ⟨E, h1, h2, h3⟩ := h
 refine ⟨E.filterMap (·.2.ownBlock), ⟨E, h1, h2, fun e he g hg => List.mem_filterMap.2 ⟨e, he, hg⟩⟩, fun g hg => ?_⟩
 obtain ⟨e, he, hg⟩ := List.mem_filterMap.1 hg
 refine ⟨h3 e he g hg, ?_⟩
 obtain ⟨i, hi, rfl⟩ := List.mem_iff_getElem.1 he
 exact (World.ownsRow.lt (h2.2 i hi (by rw [← h2.1]; exact hi)).2 g hg).2
end
theorem TabG.at_ {G : Nat → Prop} {tr tp : TypeId} {B n c : Nat} {w : World} {a : Option Addr} {A : TabT} (h : TabG G tr tp B w (.slice a n c) A) (k : Nat) (hk : k < A.length) :
  ∃ b off u1 u2, a = some ⟨b, off, none⟩ ∧ b < w.heap.size ∧ w.cell? ⟨b, off + k * 2, none⟩ = some u1 ∧ w.cell? ⟨b, off + k * 2 + 1, none⟩ = some u2 ∧ w.ownsRow 0 tp 2 u1 A[k].1.length (A[k].1.flatMap encPB) ∧ w.ownsRow 0 42 2 u2 A[k].2.length (A[k].2.flatMap encSm) ∧ ∀ g, u2.ownBlock = some g → G g := by
 obtain ⟨E, h1, h2, h3⟩ := h
 have hk' : k < E.length := by rw [h2.1]; exact hk
 obtain ⟨b, off, e, _, hb, hc⟩ := sf_at (sliceFrom_row (enc := encRV) (fun _ => rfl) h1) k hk'
 obtain ⟨g1, g2⟩ := h2.2 k hk' hk
 exact ⟨b, off, E[k].1, E[k].2, e, hb, by simpa [encRV] using hc 0 (by decide), by have := hc 1 (by decide); rw [← Nat.add_assoc] at this; simpa [encRV] using this, g1, g2, h3 _ (List.getElem_mem hk')⟩
def ARelX (X : List Nat) (w : World) (lab : List PairB) (s : SmpB) (A : TabT) (sb : Nat) (gk : Nat) (u7 u8 u15 : Value) (wr : World) : Prop :=
 ∃ k, k ≤ A.length ∧ gk = A.length - k ∧ u15 = .int .i64 k ∧ u8 = .bool (aSo lab s A k).2 ∧ TabG (fun g => g ∈ X ∨ w.heap.size ≤ g) 106 152 (w.heap.size + 1) wr u7 (aSo lab s A k).1 ∧ wr.heap[sb]? = some (.cells #[.int .i64 s.1, .int .u64 s.2] 42 (0, 0)) ∧ Keeps [] w wr
theorem addX_spec (X : List Nat) (w : World) (v vl : Value) (A : TabT) (lab : List PairB) (s : SmpB) (h : TabG (· ∈ X) 106 152 0 w v A) (hf : FewT A) (hg : A.Pairwise fun a b => ltL a.1 b.1) (hlab : w.ownsRow 0 152 2 vl lab.length (lab.flatMap encPB)) (hll : lab.length ≤ 1000) :
  Calls Tryz.prog 13 #[v, vl, .agg #[.int .i64 s.1, .int .u64 s.2]] w fun e w' => ∃ v', e = .returned v' ∧ TabG (fun g => g ∈ X ∨ w.heap.size ≤ g) 106 152 w.heap.size w' v' (addT lab s A) ∧ Keeps [] w w' := by
 obtain ⟨ir, hir, hy0, hy1, hy2⟩ := info_parts infoRow14
 obtain ⟨s1, s2⟩ := s
 have kA : Keeps [] w (w.alloc (.cells #[.int .i64 s1, .int .u64 s2] 42)) := (Keeps.refl [] w).alloc _
 have kB := (Keeps.refl [] (w.alloc (.cells #[.int .i64 s1, .int .u64 s2] 42))).alloc (.cells #[] 106)
 have hzA : (w.alloc (.cells #[.int .i64 s1, .int .u64 s2] 42)).heap.size = w.heap.size + 1 := by simp
 have mk := own_made (w.alloc (.cells #[.int .i64 s1, .int .u64 s2] 42)) (w.heap.size + 1) 106 2 (by omega)
 rw [hzA] at mk
 have Hf := Lib.hid (And.intro h (And.intro hlab hf.2))
 have H0 := Lib.hid (And.intro (tabG_made (G := fun g => g ∈ X ∨ w.heap.size ≤ g) (tp := 152) mk) (And.intro (go1 kB (heap_new w (.cells #[.int .i64 s1, .int .u64 s2] 42))) (kA.trans kB)))
 have hA100 := hf.1
 obtain ⟨ao, cap, rfl⟩ := h.form
 obtain ⟨al, cl, rfl, -, -, -⟩ := row_slice hlab
 have Hput := Lib.hid (addT_so (lab := lab) (s := (s1, s2)) hg)
 generalize addT lab (s1, s2) A = R at Hput ⊢
 clear kA kB hzA mk h hlab hf hg
 go_enter Tryz.func13, Tryz.ntmps13
 go_wp2_with fail
 go_loopg [7, 8, 15] A.length (ARelX X w lab (s1, s2) A w.heap.size)
 case atStart => exact ⟨0, Nat.zero_le _, rfl, rfl, rfl, H0.out.1, H0.out.2.1, H0.out.2.2⟩
 case round =>
  obtain ⟨k, hk, hgk, rfl, rfl, hrow, hsb, hkw⟩ := hrel
  have Hg := Lib.hid hgk
  have hsl := (aSo_len lab (s1, s2) A k).1
  clear hgk H0
  by_cases hlt : k < A.length
  ·obtain ⟨b, off, u1, u2, ea, hb, d0, d1, g1, g2, gG⟩ := (go1 hkw Hf.out.1).at_ k hlt
   subst ea
   have hlt' : (k : Int) < (A.length : Int) := by omega
   have Hs := Lib.hid (aSo_succ lab (s1, s2) A hlt)
   have hr := Hf.out.2.2 A[k] (List.getElem_mem hlt)
   generalize A[k] = r at d0 d1 g1 g2 Hs hr
   obtain ⟨r1, r2⟩ := r
   dsimp only at g1 g2 hr
   obtain ⟨ar1, cr1, rfl, -, -, -⟩ := row_slice g1
   obtain ⟨ar2, cr2, rfl, -, -, -⟩ := row_slice g2
   have HG := Lib.hid gG
   clear gG
   generalize aSo lab (s1, s2) A k = st at hrow hsl Hs ⊢
   obtain ⟨S, d⟩ := st
   dsimp only at hrow hsl ⊢
   have kP : Keeps [] wr (wr.alloc (.cells #[.slice ar1 r1.length cr1, .slice ar2 r2.length cr2] 106)) := (Keeps.refl [] wr).alloc _
   obtain ⟨E, hE1, hE2, hE3⟩ := hrow
   have HE3 := Lib.hid hE3
   clear hE3
   obtain ⟨ax, cx, rfl, hxc, hxm, -⟩ := row_slice hE1
   have hEl : E.length ≤ 102 := by have := hE2.1; omega
   have H1 := Lib.hid (And.intro (go1 kP (And.intro hE1 (And.intro hE2 (And.intro hsb hkw)))) (And.intro (heap_new wr (.cells #[.slice ar1 r1.length cr1, .slice ar2 r2.length cr2] 106)) (go1 kP (And.intro g1 (And.intro g2 (go1 hkw Hf.out.2.1))))))
   have Hne := Lib.hid (show ∀ g, (Value.slice ax E.length cx).ownBlock = some g → g ≠ wr.heap.size from fun g hg => by have := (World.ownsRow.lt hE1 g hg).2; omega)
   have hwlt : w.heap.size < wr.heap.size := lt_of_at hsb
   clear kP hE1 hE2 hsb hkw g1 g2
   go_upto_region 6 with fail
   clear d0 d1 hb
   generalize hwp : wr.alloc (.cells #[.slice ar1 r1.length cr1, .slice ar2 r2.length cr2] 106) = wp at H1 ⊢
   have hpw : w.heap.size ≤ wr.heap.size := Nat.le_trans (Nat.le_of_lt (show w.heap.size < wr.heap.size from by omega)) (Nat.le_refl _)
   generalize hpb : wr.heap.size = pb at H1 Hne hpw ⊢
   clear hwp hpb
   have cp := cells_at H1.out.2.1
   have lp := lt_of_at H1.out.2.1
   go_wp2_with fail
   refine (compareR_spec wp _ _ lab r1 (rowP H1.out.2.2.2.2) (rowP H1.out.2.2.1) (by omega)).mono ?_
   rintro e w2 ⟨rfl, hk2⟩
   have H2 := Lib.hid (And.intro (go1 hk2 H1.out.1) (go1 hk2 H1.out.2))
   clear hk2 H1 cp lp
   have cp := cells_at H2.out.2.1
   have fp := free_at H2.out.2.1
   have lp := lt_of_at H2.out.2.1
   have cs := cells_at H2.out.1.2.2.1
   have ls := lt_of_at H2.out.1.2.2.1
   have hws2 : w.heap.size + 1 ≤ w2.heap.size := by omega
   have hways : (cmpL lab r1 = 0 ∧ aStep lab (s1, s2) (S, d) (r1, r2) = (S ++ [(r1, putS (s1, s2) r2)], true)) ∨ (¬ cmpL lab r1 = 0 ∧ d = true ∧ aStep lab (s1, s2) (S, d) (r1, r2) = (S ++ [(r1, r2)], d)) ∨ (¬ cmpL lab r1 = 0 ∧ d = false ∧ ¬ cmpL lab r1 < 0 ∧ aStep lab (s1, s2) (S, d) (r1, r2) = (S ++ [(r1, r2)], d)) ∨ (¬ cmpL lab r1 = 0 ∧ d = false ∧ cmpL lab r1 < 0 ∧ aStep lab (s1, s2) (S, d) (r1, r2) = (S ++ [(lab, [(s1, s2)])] ++ [(r1, r2)], true)) := by
    by_cases h1 : lab = r1
    ·exact .inl ⟨by rw [h1]; exact cmpL_self _, aStep_eq h1⟩
    ·have h0 : ¬ cmpL lab r1 = 0 := fun e => h1 (cmpL_zero e)
     cases d with
     | true => exact .inr (.inl ⟨h0, rfl, aStep_on h1 (by simp)⟩)
     | false =>
      by_cases h2 : ltL lab r1
      ·exact .inr (.inr (.inr ⟨h0, rfl, by unfold ltL at h2; omega, aStep_put h1 h2⟩))
      ·exact .inr (.inr (.inl ⟨h0, rfl, fun hc => by
        rcases cmpL_cases lab r1 with e | e | e
        ·exact h2 e
        ·exact h0 e
        ·omega, aStep_on h1 (fun h => h2 h.2)⟩))
   generalize cmpL lab r1 = c at hways ⊢
   rcases hways with ⟨hx, hst⟩ | ⟨hx, rfl, hst⟩ | ⟨hx, rfl, hlt2, hst⟩ | ⟨hx, rfl, hlt2, hst⟩
   ·have Hst := Lib.hid hst
    clear hst
    go_wp2_with fail
    refine (putM_spec w2 _ r2 (s1, s2) H2.out.2.2.2.1 (by omega)).mono ?_
    rintro e w3 ⟨v3, rfl, hown3, hk3⟩
    have h3 := row_base (b' := 0) hown3 (Nat.zero_le _)
    have HG3 := Lib.hid (fun g hg => (show w.heap.size ≤ g from by have := (World.ownsRow.lt hown3 g hg).1; omega))
    obtain ⟨a3, c3, rfl, -, -, -⟩ := row_slice hown3
    have H3 := Lib.hid (And.intro (go1 hk3 H2.out.1) (And.intro (go1 hk3 H2.out.2.1) (And.intro (go1 hk3 H2.out.2.2.1) h3)))
    have hw3 := hk3.size
    clear hk3 hown3 h3 H2 cp fp lp cs ls
    have cp := cells_at H3.out.2.1
    have fp := free_at H3.out.2.1
    have lp := lt_of_at H3.out.2.1
    go_upto_region 9 with fail
    clear cp fp lp
    have k4 : Keeps [pb] w3 (w3.setCell ⟨pb, 1, none⟩ (.slice a3 (putS (s1, s2) r2).length c3)) := (Keeps.refl _ w3).setCell (.inl (by simp)) _
    have n4 : (w3.setCell ⟨pb, 1, none⟩ (.slice a3 (putS (s1, s2) r2).length c3)).heap[pb]? = some (.cells #[.slice ar1 r1.length cr1, .slice a3 (putS (s1, s2) r2).length c3] 106 (0, 0)) := (heap_cell_same (i := 1) H3.out.2.1 _).trans (by simp)
    have nepb : w.heap.size ≠ pb := fun e => by
     have h1 := H3.out.1.2.2.1
     have h2 := H3.out.2.1
     rw [e, h2] at h1
     injection h1 with h1
     injection h1 with _ h1 _
     exact absurd h1 (by decide)
    have kpw : Keeps [] w (w3.setCell ⟨pb, 1, none⟩ (.slice a3 (putS (s1, s2) r2).length c3)) := H3.out.1.2.2.2.after k4 (fun y hy => .inr (by
     obtain rfl : y = pb := by simpa using hy
     exact hpw))
    have rowk : ∀ {T : TypeId} {v : Value} {n : Nat} {xs : List Value}, T ≠ 106 → w3.ownsRow 0 T 2 v n xs → (w3.setCell ⟨pb, 1, none⟩ (.slice a3 (putS (s1, s2) r2).length c3)).ownsRow 0 T 2 v n xs := fun hT ho => k4.row ho (fun g hg => by have := row_ne_cells ho H3.out.2.1 (fun e => hT e.symm) g hg; simpa using this)
    have H4 := Lib.hid (And.intro (And.intro (k4.row H3.out.1.1 (fun g hg => by have := Hne.out g hg; simpa using this)) (And.intro (⟨H3.out.1.2.1.1, fun i hi hi' => ⟨rowk (by decide) (H3.out.1.2.1.2 i hi hi').1, rowk (by decide) (H3.out.1.2.1.2 i hi hi').2⟩⟩ : ElemsAt 152 _ E S) (And.intro (k4.at_ H3.out.1.2.2.1 (by simpa using nepb)) kpw))) (And.intro (rowk (by decide) H3.out.2.2.1) (And.intro (rowk (by decide) H3.out.2.2.2) n4)))
    have hw4 : w.heap.size + 1 ≤ (w3.setCell ⟨pb, 1, none⟩ (.slice a3 (putS (s1, s2) r2).length c3)).heap.size := by have := k4.size; omega
    clear k4 n4 kpw rowk H3
    generalize w3.setCell ⟨pb, 1, none⟩ (.slice a3 (putS (s1, s2) r2).length c3) = w4 at H4 hw4 ⊢
    have cp := cells_at H4.out.2.2.2
    have lp := lt_of_at H4.out.2.2.2
    go_wp2_with (at_builtin; refine wpList_append_own _ rfl (.tmp 43) (.tmp 45) 30 rfl (w.heap.size + 1) 106 ir _ 2 48 Tryz.underlying30 hir hy0 hy1 hy2 rfl (by decide) (.slice ax E.length cx) E.length (E.flatMap encRV) rfl (H4.out.1.1.alloc _) ⟨w4.heap.size, 0, none⟩ 1 1 [.slice ar1 r1.length cr1, .slice a3 (putS (s1, s2) r2).length c3] rfl rfl (news_two (heap_new w4 _)) (by simp [Value.oneCell']) (by simp only [maxLen]; omega) (by omega) (by rw [World.size_alloc]; omega) ?_; intro v9 w9 hown9 hgrow9 hnil9; clear hnil9; obtain ⟨ao9, cp9, rfl, -, -, -⟩ := row_slice hown9; skip)
    have hgr := keeps_row hgrow9
    have hs9 := hgr.at_ (heap_old H4.out.1.2.2.1 _) (fun hm => by have := (World.ownsRow.lt H4.out.1.1 w.heap.size (by simpa using hm)).1; omega)
    have hk9 := keeps_own (H4.out.1.2.2.2.alloc _) hgrow9 (fun g hg => by have := (World.ownsRow.lt H4.out.1.1 g hg).1; omega)
    have kN : Keeps [] w4 (w4.alloc (.cells #[.slice ar1 r1.length cr1, .slice a3 (putS (s1, s2) r2).length c3] 106)) := (Keeps.refl [] w4).alloc _
    have hel := ((ElemsAt.keep H4.out.1.2.1 kN).snoc (r := (r1, putS (s1, s2) r2)) (go1 kN H4.out.2.1) (go1 kN H4.out.2.2.1)).grown (go1 kN H4.out.1.1) hgr (by decide) (by decide)
    have H9 := Lib.hid (And.intro (rv_snoc hown9) (And.intro hel (And.intro hs9 hk9)))
    clear hown9 hgrow9 hgr hs9 hk9 kN hel
    try clear cs ls cp lp fp
    go_wp2_with fail
    go_roundg (A.length - (k + 1))
    case measure => have := Hg.out; omega
    case rel => exact ⟨k + 1, hlt, rfl, by go_num, by rw [Hs.out, Hst.out], by rw [Hs.out, Hst.out]; exact ⟨_, H9.out.1, H9.out.2.1, g_snoc HE3.out (fun g hg => .inr (HG3.out g hg))⟩, H9.out.2.2.1, H9.out.2.2.2⟩
   ·have Hst := Lib.hid hst
    have H4 := Lib.hid (And.intro H2.out.1 (And.intro H2.out.2.2.1 H2.out.2.2.2.1))
    clear hst
    go_wp2_with (at_builtin; refine wpList_append_own _ rfl (.tmp 43) (.tmp 45) 30 rfl (w.heap.size + 1) 106 ir _ 2 48 Tryz.underlying30 hir hy0 hy1 hy2 rfl (by decide) (.slice ax E.length cx) E.length (E.flatMap encRV) rfl (H4.out.1.1.alloc _) ⟨w2.heap.size, 0, none⟩ 1 1 [.slice ar1 r1.length cr1, .slice ar2 r2.length cr2] rfl rfl (news_two (heap_new w2 _)) (by simp [Value.oneCell']) (by simp only [maxLen]; omega) (by omega) (by rw [World.size_alloc]; omega) ?_; intro v9 w9 hown9 hgrow9 hnil9; clear hnil9; obtain ⟨ao9, cp9, rfl, -, -, -⟩ := row_slice hown9; skip)
    have hgr := keeps_row hgrow9
    have hs9 := hgr.at_ (heap_old H4.out.1.2.2.1 _) (fun hm => by have := (World.ownsRow.lt H4.out.1.1 w.heap.size (by simpa using hm)).1; omega)
    have hk9 := keeps_own (H4.out.1.2.2.2.alloc _) hgrow9 (fun g hg => by have := (World.ownsRow.lt H4.out.1.1 g hg).1; omega)
    have kN : Keeps [] w2 (w2.alloc (.cells #[.slice ar1 r1.length cr1, .slice ar2 r2.length cr2] 106)) := (Keeps.refl [] w2).alloc _
    have hel := ((ElemsAt.keep H4.out.1.2.1 kN).snoc (r := (r1, r2)) (go1 kN H4.out.2.1) (go1 kN H4.out.2.2)).grown (go1 kN H4.out.1.1) hgr (by decide) (by decide)
    have H9 := Lib.hid (And.intro (rv_snoc hown9) (And.intro hel (And.intro hs9 hk9)))
    clear hown9 hgrow9 hgr hs9 hk9 kN hel
    try clear cs ls cp lp fp
    go_wp2_with fail
    go_roundg (A.length - (k + 1))
    case measure => have := Hg.out; omega
    case rel => exact ⟨k + 1, hlt, rfl, by go_num, by rw [Hs.out, Hst.out], by rw [Hs.out, Hst.out]; exact ⟨_, H9.out.1, H9.out.2.1, g_snoc HE3.out (fun g hg => .inl (HG.out g hg))⟩, H9.out.2.2.1, H9.out.2.2.2⟩
   ·have Hst := Lib.hid hst
    have H4 := Lib.hid (And.intro H2.out.1 (And.intro H2.out.2.2.1 H2.out.2.2.2.1))
    clear hst
    go_wp2_with (at_builtin; refine wpList_append_own _ rfl (.tmp 43) (.tmp 45) 30 rfl (w.heap.size + 1) 106 ir _ 2 48 Tryz.underlying30 hir hy0 hy1 hy2 rfl (by decide) (.slice ax E.length cx) E.length (E.flatMap encRV) rfl (H4.out.1.1.alloc _) ⟨w2.heap.size, 0, none⟩ 1 1 [.slice ar1 r1.length cr1, .slice ar2 r2.length cr2] rfl rfl (news_two (heap_new w2 _)) (by simp [Value.oneCell']) (by simp only [maxLen]; omega) (by omega) (by rw [World.size_alloc]; omega) ?_; intro v9 w9 hown9 hgrow9 hnil9; clear hnil9; obtain ⟨ao9, cp9, rfl, -, -, -⟩ := row_slice hown9; skip)
    have hgr := keeps_row hgrow9
    have hs9 := hgr.at_ (heap_old H4.out.1.2.2.1 _) (fun hm => by have := (World.ownsRow.lt H4.out.1.1 w.heap.size (by simpa using hm)).1; omega)
    have hk9 := keeps_own (H4.out.1.2.2.2.alloc _) hgrow9 (fun g hg => by have := (World.ownsRow.lt H4.out.1.1 g hg).1; omega)
    have kN : Keeps [] w2 (w2.alloc (.cells #[.slice ar1 r1.length cr1, .slice ar2 r2.length cr2] 106)) := (Keeps.refl [] w2).alloc _
    have hel := ((ElemsAt.keep H4.out.1.2.1 kN).snoc (r := (r1, r2)) (go1 kN H4.out.2.1) (go1 kN H4.out.2.2)).grown (go1 kN H4.out.1.1) hgr (by decide) (by decide)
    have H9 := Lib.hid (And.intro (rv_snoc hown9) (And.intro hel (And.intro hs9 hk9)))
    clear hown9 hgrow9 hgr hs9 hk9 kN hel
    try clear cs ls cp lp fp
    go_wp2_with fail
    go_roundg (A.length - (k + 1))
    case measure => have := Hg.out; omega
    case rel => exact ⟨k + 1, hlt, rfl, by go_num, by rw [Hs.out, Hst.out], by rw [Hs.out, Hst.out]; exact ⟨_, H9.out.1, H9.out.2.1, g_snoc HE3.out (fun g hg => .inl (HG.out g hg))⟩, H9.out.2.2.1, H9.out.2.2.2⟩
   ·have Hst := Lib.hid hst
    clear hst
    have kS : Keeps [] w2 (w2.alloc (.cells #[.int .i64 s1, .int .u64 s2] 42)) := (Keeps.refl [] w2).alloc _
    have hoS := own_one w2 s1 s2
    obtain ⟨ws, hws⟩ : ∃ ws, ws = w2.alloc (.cells #[.int .i64 s1, .int .u64 s2] 42) := ⟨_, rfl⟩
    rw [← hws] at kS hoS
    have HS := Lib.hid (And.intro (go1 kS H2.out.1) (And.intro (go1 kS H2.out.2.2.2.2) (And.intro hoS (go1 kS H2.out.2))))
    have hwsz : w.heap.size + 1 ≤ ws.heap.size := by have := kS.size; omega
    have Hws := Lib.hid hws
    clear kS hoS hws
    obtain ⟨nb, hnb⟩ : ∃ nb, nb = w2.heap.size := ⟨_, rfl⟩
    rw [← hnb] at HS
    have Hnb := Lib.hid hnb
    have HszE := Lib.hid (show ws.heap.size = nb + 1 from by rw [Hws.out, Hnb.out]; simp)
    clear hnb
    go_upto_region 12 with (at_builtin; rw [← Hws.out, ← Hnb.out, ← HszE.out]; refine wpList_append_own _ rfl (.tmp 36) (.tmp 41) 30 rfl (w.heap.size + 1) 106 ir _ 2 48 Tryz.underlying30 hir hy0 hy1 hy2 rfl (by decide) (.slice ax E.length cx) E.length (E.flatMap encRV) rfl (HS.out.1.1.alloc _) ⟨ws.heap.size, 0, none⟩ 1 1 [.slice al lab.length cl, .slice (some ⟨nb, 0, none⟩) 1 1] rfl rfl (news_two (heap_new ws _)) (by simp [Value.oneCell']) (by simp only [maxLen]; omega) (by omega) (by rw [World.size_alloc]; omega) ?_; intro v9 w9 hown9 hgrow9 hnil9; clear hnil9; obtain ⟨ao9, cp9, rfl, -, -, -⟩ := row_slice hown9; skip)
    have hgr := keeps_row hgrow9
    have kN : Keeps [] ws (ws.alloc (.cells #[.slice al lab.length cl, .slice (some ⟨nb, 0, none⟩) 1 1] 106)) := (Keeps.refl [] ws).alloc _
    have hs9 := hgr.at_ (heap_old HS.out.1.2.2.1 _) (fun hm => by have := (World.ownsRow.lt HS.out.1.1 w.heap.size (by simpa using hm)).1; omega)
    have hk9 := keeps_own (HS.out.1.2.2.2.alloc _) hgrow9 (fun g hg => by have := (World.ownsRow.lt HS.out.1.1 g hg).1; omega)
    have hel := ((ElemsAt.keep HS.out.1.2.1 kN).snoc (r := (lab, [(s1, s2)])) (go1 kN HS.out.2.1) (go1 kN HS.out.2.2.1)).grown (go1 kN HS.out.1.1) hgr (by decide) (by decide)
    have rowk : ∀ {T : TypeId} {v : Value} {n : Nat} {xs : List Value}, T ≠ 106 → ws.ownsRow 0 T 2 v n xs → w9.ownsRow 0 T 2 v n xs := fun hT ho => hgr.row (go1 kN ho) (rows_ne2 (go1 kN HS.out.1.1) (go1 kN ho) (fun e => hT e.symm))
    have hp9 := hgr.at_ (go1 kN HS.out.2.2.2.1) (fun hm => Hne.out pb (by simpa using hm) rfl)
    have h9l : (E ++ [((.slice al lab.length cl : Value), (.slice (some ⟨nb, 0, none⟩) 1 1 : Value))]).length = E.length + 1 := by simp
    have H4 := Lib.hid (And.intro (And.intro (rv_snoc hown9) (And.intro hel (And.intro hs9 hk9))) (And.intro (rowk (by decide) HS.out.2.2.2.2.1) (And.intro (rowk (by decide) HS.out.2.2.2.2.2.1) hp9)))
    have hw9b : w.heap.size + 1 ≤ w9.heap.size := by have := lt_of_at hs9; omega
    clear hown9 hgrow9 hgr hs9 hk9 kN hel rowk hp9 HS H2 cp fp lp cs ls
    have HE9 := Lib.hid (g_snoc (u1 := (.slice al lab.length cl : Value)) (u2 := (.slice (some ⟨nb, 0, none⟩) 1 1 : Value)) HE3.out (fun g hg => .inr (show w.heap.size ≤ g from by
     obtain rfl : nb = g := by simpa [Value.ownBlock] using hg
     have := Hnb.out
     omega)))
    generalize hE9 : (E ++ [((.slice al lab.length cl : Value), (.slice (some ⟨nb, 0, none⟩) 1 1 : Value))]) = E9 at H4 h9l HE9
    rw [← h9l] at H4 ⊢
    have hEl9 : E9.length ≤ 103 := by omega
    clear h9l hE9
    have cp := cells_at H4.out.2.2.2
    have lp := lt_of_at H4.out.2.2.2
    go_wp2_with (at_builtin; refine wpList_append_own _ rfl (.tmp 43) (.tmp 45) 30 rfl (w.heap.size + 1) 106 ir _ 2 48 Tryz.underlying30 hir hy0 hy1 hy2 rfl (by decide) (.slice ao9 E9.length cp9) E9.length (E9.flatMap encRV) rfl (H4.out.1.1.alloc _) ⟨w9.heap.size, 0, none⟩ 1 1 [.slice ar1 r1.length cr1, .slice ar2 r2.length cr2] rfl rfl (news_two (heap_new w9 _)) (by simp [Value.oneCell']) (by simp only [maxLen]; omega) (by omega) (by rw [World.size_alloc]; omega) ?_; intro v10 w10 hown10 hgrow10 hnil10; clear hnil10; obtain ⟨ao10, cp10, rfl, -, -, -⟩ := row_slice hown10; skip)
    have hgr := keeps_row hgrow10
    have hs10 := hgr.at_ (heap_old H4.out.1.2.2.1 _) (fun hm => by have := (World.ownsRow.lt H4.out.1.1 w.heap.size (by simpa using hm)).1; omega)
    have hk10 := keeps_own (H4.out.1.2.2.2.alloc _) hgrow10 (fun g hg => by have := (World.ownsRow.lt H4.out.1.1 g hg).1; omega)
    have kN : Keeps [] w9 (w9.alloc (.cells #[.slice ar1 r1.length cr1, .slice ar2 r2.length cr2] 106)) := (Keeps.refl [] w9).alloc _
    have hel := ((ElemsAt.keep H4.out.1.2.1 kN).snoc (r := (r1, r2)) (go1 kN H4.out.2.1) (go1 kN H4.out.2.2.1)).grown (go1 kN H4.out.1.1) hgr (by decide) (by decide)
    have H10 := Lib.hid (And.intro (rv_snoc hown10) (And.intro hel (And.intro hs10 hk10)))
    clear hown10 hgrow10 hgr hs10 hk10 kN hel
    try clear cs ls cp lp fp
    go_wp2_with fail
    go_roundg (A.length - (k + 1))
    case measure => have := Hg.out; omega
    case rel => exact ⟨k + 1, hlt, rfl, by go_num, by rw [Hs.out, Hst.out], by rw [Hs.out, Hst.out]; exact ⟨_, H10.out.1, H10.out.2.1, g_snoc HE9.out (fun g hg => .inl (HG.out g hg))⟩, H10.out.2.2.1, H10.out.2.2.2⟩
  ·have hkn : k = A.length := by omega
   have hge : ¬ (k : Int) < (A.length : Int) := by omega
   subst hkn
   generalize aSo lab (s1, s2) A A.length = st at hrow hsl Hput ⊢
   obtain ⟨S, d⟩ := st
   dsimp only at hrow hsl ⊢
   obtain ⟨E, hE1, hE2, hE3⟩ := hrow
   have HE3 := Lib.hid hE3
   clear hE3
   obtain ⟨ax, cx, rfl, hxc, hxm, -⟩ := row_slice hE1
   have hEl : E.length ≤ 102 := by have := hE2.1; omega
   have H2 := Lib.hid (And.intro (And.intro hE1 (And.intro hE2 (And.intro hsb hkw))) (go1 hkw Hf.out.2.1))
   have hws2 : w.heap.size + 1 ≤ wr.heap.size := by have := lt_of_at hsb; omega
   have cs := cells_at hsb
   have ls := lt_of_at hsb
   clear hE1 hE2 hsb hkw
   cases d with
   | true =>
    go_wp2_with fail
    go_ret
    exact ⟨_, rfl, by rw [← Hput.out]; exact TabG.base ⟨E, H2.out.1.1, H2.out.1.2.1, HE3.out⟩ (by omega), H2.out.1.2.2.2⟩
   | false =>
    have kS : Keeps [] wr (wr.alloc (.cells #[.int .i64 s1, .int .u64 s2] 42)) := (Keeps.refl [] wr).alloc _
    have hoS := own_one wr s1 s2
    obtain ⟨ws, hws⟩ : ∃ ws, ws = wr.alloc (.cells #[.int .i64 s1, .int .u64 s2] 42) := ⟨_, rfl⟩
    rw [← hws] at kS hoS
    have HS := Lib.hid (And.intro (go1 kS H2.out.1) (And.intro (go1 kS H2.out.2) (And.intro hoS trivial)))
    have hwsz : w.heap.size + 1 ≤ ws.heap.size := by have := kS.size; omega
    have Hws := Lib.hid hws
    clear kS hoS hws
    obtain ⟨nb, hnb⟩ : ∃ nb, nb = wr.heap.size := ⟨_, rfl⟩
    rw [← hnb] at HS
    have Hnb := Lib.hid hnb
    have HszE := Lib.hid (show ws.heap.size = nb + 1 from by rw [Hws.out, Hnb.out]; simp)
    clear hnb
    go_wp2_with (at_builtin; rw [← Hws.out, ← Hnb.out, ← HszE.out]; refine wpList_append_own _ rfl (.tmp 50) (.tmp 55) 30 rfl (w.heap.size + 1) 106 ir _ 2 48 Tryz.underlying30 hir hy0 hy1 hy2 rfl (by decide) (.slice ax E.length cx) E.length (E.flatMap encRV) rfl (HS.out.1.1.alloc _) ⟨ws.heap.size, 0, none⟩ 1 1 [.slice al lab.length cl, .slice (some ⟨nb, 0, none⟩) 1 1] rfl rfl (news_two (heap_new ws _)) (by simp [Value.oneCell']) (by simp only [maxLen]; omega) (by omega) (by rw [World.size_alloc]; omega) ?_; intro v9 w9 hown9 hgrow9 hnil9; clear hnil9; obtain ⟨ao9, cp9, rfl, -, -, -⟩ := row_slice hown9; skip)
    have hgr := keeps_row hgrow9
    have kN : Keeps [] ws (ws.alloc (.cells #[.slice al lab.length cl, .slice (some ⟨nb, 0, none⟩) 1 1] 106)) := (Keeps.refl [] ws).alloc _
    have hs9 := hgr.at_ (heap_old HS.out.1.2.2.1 _) (fun hm => by have := (World.ownsRow.lt HS.out.1.1 w.heap.size (by simpa using hm)).1; omega)
    have hk9 := keeps_own (HS.out.1.2.2.2.alloc _) hgrow9 (fun g hg => by have := (World.ownsRow.lt HS.out.1.1 g hg).1; omega)
    have hel := ((ElemsAt.keep HS.out.1.2.1 kN).snoc (r := (lab, [(s1, s2)])) (go1 kN HS.out.2.1) (go1 kN HS.out.2.2.1)).grown (go1 kN HS.out.1.1) hgr (by decide) (by decide)
    have H9 := Lib.hid (And.intro (rv_snoc hown9) (And.intro hel hk9))
    clear hown9 hgrow9 hgr hs9 hk9 kN hel
    go_wp2_with fail
    go_ret
    refine ⟨_, rfl, ?_, H9.out.2.2⟩
    rw [← Hput.out]
    exact TabG.base ⟨_, H9.out.1, H9.out.2.1, g_snoc HE3.out (fun g hg => .inr (show w.heap.size ≤ g from by
     obtain rfl : nb = g := by simpa [Value.ownBlock] using hg
     have := Hnb.out
     have := lt_of_at H2.out.1.2.2.1
     omega))⟩ (by omega)
end Go.Proofs.YtgdkceeonnfejaaGreatDoor
