/-
  Package barographlaw14: Labels, and the document's half of Table, walked.
  The library's variable internal/bytealg.MaxLen holds some number.

  Arguments of the laws on tables: samples, each a name, a time, a value; and plain facts on the tables that they make.
  No condition beyond those that each theorem states.
-/
import Derived.Test.YtlifonflgcfafaaGreatDoorTabRows
import Derived.Test.YtlifonflgcfafaaGreatDoorLabelP
import Derived.Test.YtlifonflgcfafaaGreatDoorPlain
import Derived.Test.YtlifonflgcfafaaGreatDoorArgs
namespace Go.Proofs.YtlifonflgcfafaaGreatDoor
open Go Go.RowKit

def labA1 : List PairB := [(⟨#[97]⟩, ⟨#[49]⟩)]

def labA1B2 : List PairB := [(⟨#[97]⟩, ⟨#[49]⟩), (⟨#[98]⟩, ⟨#[50]⟩)]

def labA2 : List PairB := [(⟨#[97]⟩, ⟨#[50]⟩)]

def labB1 : List PairB := [(⟨#[98]⟩, ⟨#[49]⟩)]

def labJ : List PairB := [(⟨#[106, 111, 98]⟩, ⟨#[120]⟩)]

def labN (n : Int) : List PairB := if n % 5 = 0 then labA1 else if n % 5 = 1 then labA1B2 else if n % 5 = 2 then labA2 else if n % 5 = 3 then labB1 else labJ

theorem labN_len (n : Int) : (labN n).length ≤ 2 := by
  unfold labN
  repeat' split
  all_goals decide

set_option linter.unusedSimpArgs false in
set_option maxRecDepth 100000 in
set_option maxHeartbeats 1000000 in
theorem labels_spec (w : World) (hv : LibVar w) (n : Int) (h0 : 0 ≤ n) :
    Calls Tryz.prog 27 #[.int .u8 n] w fun e w' => ∃ v, e = .returned v ∧ SliceArg 2 encPB w' v (labN n) ∧ Keeps [] w w' := by
  obtain ⟨W, hW⟩ : ∃ W, W = w.alloc (.cells #[.string ⟨#[97, 61, 49]⟩, .string ⟨#[97, 61, 49, 44, 98, 61, 50]⟩, .string ⟨#[97, 61, 50]⟩, .string ⟨#[98, 61, 49]⟩, .string ⟨#[106, 111, 98, 61, 120]⟩] 9) := ⟨_, rfl⟩
  have kW : Keeps [] w W := by rw [hW]; exact (Keeps.refl [] w).alloc _
  have H0 := Lib.hid (And.intro (go1 kW hv) kW)
  have HW := Lib.hid hW
  clear kW hW hv
  have hm : n % 5 = 0 ∨ n % 5 = 1 ∨ n % 5 = 2 ∨ n % 5 = 3 ∨ n % 5 = 4 := by omega
  obtain ⟨R, hR⟩ : ∃ R, R = labN n := ⟨_, rfl⟩
  rw [← hR]
  have HR := Lib.hid hR
  clear hR
  rcases hm with hm | hm | hm | hm | hm
  all_goals
    have Hm := Lib.hid hm
    go_enter Tryz.func27, Tryz.ntmps27
    go_wp2_with fail
    rw [← HW.out]
  · refine (labParse_spec W H0.out.1 ⟨#[97, 61, 49]⟩ (by decide) labA1 (by decide +kernel) (by decide) (by decide) (by decide +kernel)).mono ?_
    rintro e w2 ⟨v2, rfl, hs2, hk2⟩
    rw [show sortP labA1 = labA1 from by decide +kernel] at hs2
    have H2 := Lib.hid (And.intro hs2 (H0.out.2.trans hk2))
    obtain ⟨a2, c2, rfl, -, -⟩ := hs2
    clear hk2
    go_wp2_with fail
    go_ret
    exact ⟨_, rfl, by rw [HR.out]; unfold labN; rw [if_pos Hm.out]; exact H2.out.1, H2.out.2⟩
  · refine (labParse_spec W H0.out.1 ⟨#[97, 61, 49, 44, 98, 61, 50]⟩ (by decide) labA1B2 (by decide +kernel) (by decide) (by decide) (by decide +kernel)).mono ?_
    rintro e w2 ⟨v2, rfl, hs2, hk2⟩
    rw [show sortP labA1B2 = labA1B2 from by decide +kernel] at hs2
    have H2 := Lib.hid (And.intro hs2 (H0.out.2.trans hk2))
    obtain ⟨a2, c2, rfl, -, -⟩ := hs2
    clear hk2
    go_wp2_with fail
    go_ret
    exact ⟨_, rfl, by rw [HR.out]; unfold labN; rw [Hm.out, if_neg (by decide), if_pos rfl]; exact H2.out.1, H2.out.2⟩
  · refine (labParse_spec W H0.out.1 ⟨#[97, 61, 50]⟩ (by decide) labA2 (by decide +kernel) (by decide) (by decide) (by decide +kernel)).mono ?_
    rintro e w2 ⟨v2, rfl, hs2, hk2⟩
    rw [show sortP labA2 = labA2 from by decide +kernel] at hs2
    have H2 := Lib.hid (And.intro hs2 (H0.out.2.trans hk2))
    obtain ⟨a2, c2, rfl, -, -⟩ := hs2
    clear hk2
    go_wp2_with fail
    go_ret
    exact ⟨_, rfl, by rw [HR.out]; unfold labN; rw [Hm.out, if_neg (by decide), if_neg (by decide), if_pos rfl]; exact H2.out.1, H2.out.2⟩
  · refine (labParse_spec W H0.out.1 ⟨#[98, 61, 49]⟩ (by decide) labB1 (by decide +kernel) (by decide) (by decide) (by decide +kernel)).mono ?_
    rintro e w2 ⟨v2, rfl, hs2, hk2⟩
    rw [show sortP labB1 = labB1 from by decide +kernel] at hs2
    have H2 := Lib.hid (And.intro hs2 (H0.out.2.trans hk2))
    obtain ⟨a2, c2, rfl, -, -⟩ := hs2
    clear hk2
    go_wp2_with fail
    go_ret
    exact ⟨_, rfl, by rw [HR.out]; unfold labN; rw [Hm.out, if_neg (by decide), if_neg (by decide), if_neg (by decide), if_pos rfl]; exact H2.out.1, H2.out.2⟩
  · refine (labParse_spec W H0.out.1 ⟨#[106, 111, 98, 61, 120]⟩ (by decide) labJ (by decide +kernel) (by decide) (by decide) (by decide +kernel)).mono ?_
    rintro e w2 ⟨v2, rfl, hs2, hk2⟩
    rw [show sortP labJ = labJ from by decide +kernel] at hs2
    have H2 := Lib.hid (And.intro hs2 (H0.out.2.trans hk2))
    obtain ⟨a2, c2, rfl, -, -⟩ := hs2
    clear hk2
    go_wp2_with fail
    go_ret
    exact ⟨_, rfl, by rw [HR.out]; unfold labN; rw [Hm.out, if_neg (by decide), if_neg (by decide), if_neg (by decide), if_neg (by decide)]; exact H2.out.1, H2.out.2⟩
/-! ## Table -/
/-- A sample of a series: its name, a time, a value. -/
abbrev One14 := Int × Int × Int

def encO14 (x : One14) : List Value := [.int .u8 x.1, .int .i64 x.2.1, .int .u64 x.2.2]

def timeT (t : Int) : Int := (IntKind.i64.wrap (t.tmod 1000 + 1000)).tmod 1000

noncomputable def tblL (L : List One14) : TabT := L.foldl (fun A x => addT (labN x.1) (timeT x.2.1, x.2.2) A) []

theorem tblL_snoc (L : List One14) (x : One14) : tblL (L ++ [x]) = addT (labN x.1) (timeT x.2.1, x.2.2) (tblL L) := by unfold tblL; rw [List.foldl_append]; rfl

theorem addT_len {lab : List PairB} {s : SmpB} : ∀ {A : TabT}, (addT lab s A).length ≤ A.length + 1
  | [] => by simp [addT]
  | r :: A => by
    have ih := addT_len (lab := lab) (s := s) (A := A)
    unfold addT
    split
    · simp
    · split
      · simp
      · simp only [List.length_cons]; omega

theorem tblL_good (L : List One14) : GoodT (tblL L) ∧ (tblL L).length ≤ L.length ∧ ∀ r ∈ tblL L, r.1.length ≤ 2 ∧ r.2.length ≤ L.length := by
  have key : ∀ (L : List One14) (A : TabT) (n : Nat), GoodT A → A.length ≤ n → (∀ r ∈ A, r.1.length ≤ 2 ∧ r.2.length ≤ n) → GoodT (L.foldl (fun A x => addT (labN x.1) (timeT x.2.1, x.2.2) A) A) ∧ (L.foldl (fun A x => addT (labN x.1) (timeT x.2.1, x.2.2) A) A).length ≤ n + L.length ∧ ∀ r ∈ L.foldl (fun A x => addT (labN x.1) (timeT x.2.1, x.2.2) A) A, r.1.length ≤ 2 ∧ r.2.length ≤ n + L.length := by
    intro L
    induction L with
    | nil => intro A n h1 h2 h3; exact ⟨h1, by simpa using h2, by simpa using h3⟩
    | cons x L ih =>
      intro A n h1 h2 h3
      rw [List.foldl_cons]
      have h4 := ih (addT (labN x.1) (timeT x.2.1, x.2.2) A) (n + 1) (addT_good h1) (by have := addT_len (lab := labN x.1) (s := (timeT x.2.1, x.2.2)) (A := A); omega) (fun r hr => by
        rcases addT_mem hr with hr | ⟨e1, e2 | ⟨q, hq, _, e2⟩⟩
        · have := h3 r hr; omega
        · rw [e1, e2]
          exact ⟨labN_len _, by simp⟩
        · rw [e1, e2]
          have := (h3 q hq).2
          have := putS_len (s := (timeT x.2.1, x.2.2)) (l := q.2)
          exact ⟨labN_len _, by omega⟩)
      rw [List.length_cons]
      exact ⟨h4.1, by have := h4.2.1; omega, fun r hr => by have := h4.2.2 r hr; omega⟩
  have := key L [] 0 ⟨by simp, by simp⟩ (by simp) (by simp)
  simpa [tblL] using this

theorem tblL_few {L : List One14} (h : L.length ≤ 40) : FewT (tblL L) := ⟨by have := (tblL_good L).2.1; omega, fun r hr => by have := (tblL_good L).2.2 r hr; omega⟩

theorem o14_at {w : World} {v : Value} {L : List One14} (h : SliceArg 3 encO14 w v L) (k : Nat) (hk : k < L.length) : ∃ b off cap, v = .slice (some ⟨b, off, none⟩) L.length cap ∧ b < w.heap.size ∧ w.cell? ⟨b, off + k * 3, none⟩ = some (.int .u8 L[k].1) ∧ w.cell? ⟨b, off + k * 3 + 1, none⟩ = some (.int .i64 L[k].2.1) ∧ w.cell? ⟨b, off + k * 3 + 2, none⟩ = some (.int .u64 L[k].2.2) := by
  obtain ⟨ao, cap, e, hl, h⟩ := h
  obtain ⟨b, off, e2, hb, hc⟩ := h k hk
  subst e2
  exact ⟨b, off, cap, e, hb, hc 0 (by decide), (by have := hc 1 (by decide); rw [← Nat.add_assoc] at this; exact this), (by have := hc 2 (by decide); rw [← Nat.add_assoc] at this; exact this)⟩

def TblRel (w : World) (L : List One14) (m gk : Nat) (u4 u5 : Value) (wr : World) : Prop :=
  ∃ i, i ≤ m ∧ gk = m - i ∧ u5 = .int .i64 i ∧ TabAt 96 140 w.heap.size wr u4 (tblL (L.take i)) ∧ Keeps [] w wr

set_option linter.unusedSimpArgs false in
set_option maxRecDepth 100000 in
set_option maxHeartbeats 4000000 in
theorem table_spec (w : World) (hv : LibVar w) (v : Value) (L : List One14) (h : SliceArg 3 encO14 w v L) (hb : ∀ x ∈ L, 0 ≤ x.1) :
    Calls Tryz.prog 16 #[v] w fun e w' => ∃ va vb, e = .returned (.tuple #[va, vb]) ∧ TabAt 100 138 w.heap.size w' va (tblL (L.take 40)) ∧ TabAt 96 140 w.heap.size w' vb (tblL (L.take 40)) ∧ Keeps [] w w' := by
  have Hf := Lib.hid (And.intro h (And.intro hb hv))
  obtain ⟨ao, cap, rfl, hlm, -⟩ := h
  unfold maxLen at hlm
  obtain ⟨m, hm⟩ : ∃ m : Nat, m = min L.length 40 := ⟨_, rfl⟩
  have hm1 : m ≤ L.length := by omega
  have hm2 : m ≤ 40 := by omega
  have hm3 : m = L.length ∨ m = 40 := by omega
  have Hm := Lib.hid hm
  clear hm hb hv
  have H0 := Lib.hid (And.intro (tab_made (tp := 140) (own_made w w.heap.size 96 2 (Nat.le_refl _))) ((Keeps.refl [] w).alloc (.cells #[] 96)))
  go_enter Tryz.func16, Tryz.ntmps16
  go_wp2_with fail
  go_loopg [4, 5] m (TblRel w L m)
  case atStart => exact ⟨0, Nat.zero_le _, rfl, rfl, H0.out.1, H0.out.2⟩
  case round =>
    obtain ⟨i, hi, hgk, rfl, hrow, hkw⟩ := hrel
    have Hg := Lib.hid hgk
    clear hgk H0
    obtain ⟨A, hA⟩ : ∃ A, A = tblL (L.take i) := ⟨_, rfl⟩
    rw [← hA] at hrow
    have HA := Lib.hid hA
    have hgood := tblL_good (L.take i)
    have hfew : FewT A := by rw [hA]; exact tblL_few (by rw [List.length_take]; omega)
    rw [← hA] at hgood
    have HG := Lib.hid (And.intro hgood.1 hfew)
    clear hA hgood hfew
    obtain ⟨a4, c4, rfl⟩ := hrow.form
    by_cases hlt : i < m
    · have hltL : i < L.length := by omega
      obtain ⟨b, off, cap', ea, hbW, d0, d1, d2⟩ := o14_at (Hf.out.1.keep hkw) i hltL
      injection ea with ea _ ec
      subst ea ec
      have hlt1 : (i : Int) < (L.length : Int) := by omega
      have hlt2 : (i : Int) < 40 := by omega
      have hx0 := Hf.out.2.1 L[i] (List.getElem_mem hltL)
      have Htk := Lib.hid (show L.take (i + 1) = L.take i ++ [L[i]] from List.take_succ_eq_append_getElem hltL)
      generalize L[i] = x at d0 d1 d2 hx0 Htk
      obtain ⟨xn, xt, xv⟩ := x
      dsimp only at d0 d1 d2 hx0
      obtain ⟨W0, hW0⟩ : ∃ W0, W0 = (wr.alloc (.cells #[.int .u8 xn, .int .i64 xt, .int .u64 xv] 84)).drew := ⟨_, rfl⟩
      have kW : Keeps [] wr W0 := by rw [hW0]; exact ((Keeps.refl [] wr).alloc _).drew
      have hp : W0.heap[wr.heap.size]? = some (.cells #[.int .u8 xn, .int .i64 xt, .int .u64 xv] 84 (0, 0)) := by rw [hW0]; exact heap_new wr (.cells #[.int .u8 xn, .int .i64 xt, .int .u64 xv] 84)
      have H1 := Lib.hid (And.intro (go1 kW hrow) (And.intro (hkw.trans kW) (go1 (hkw.trans kW) Hf.out.2.2)))
      have D0 : ∀ s : Kept W0, s.val.cell? ⟨wr.heap.size, 0, none⟩ = some (.int .u8 xn) := keptCell (cells_at hp 0)
      have D1 : ∀ s : Kept W0, s.val.cell? ⟨wr.heap.size, 1, none⟩ = some (.int .i64 xt) := keptCell (cells_at hp 1)
      have D2 : ∀ s : Kept W0, s.val.cell? ⟨wr.heap.size, 2, none⟩ = some (.int .u64 xv) := keptCell (cells_at hp 2)
      have HW := Lib.hid hW0
      clear hkw kW hp hW0 hrow
      go_upto_region 6 with fail
      refine wp_region_held_drew (S := KeptS W0) (by kernel_rfl) (by rw [← HW.out]; exact keptS (Keeps.refl _ _)) (fun hS => ?_)
      rw [← HW.out] at hS ⊢
      generalize wr.heap.size = pk at D0 D1 D2 ⊢
      clear d0 d1 d2 HW hbW
      refine wpAnyH_take (i := 0) (v := ?_) rfl (by kernel_rfl) (by kernel_rfl) (by kernel_rfl) (fun _ _ _ h => h) (Or.inl ⟨by rfl, ?_⟩) (by assumption) ?_
      rotate_left
      · intro w' s1; obtain ⟨s, rfl⟩ := s1; go_simp; (try with_reducible rfl)
      simp only [Act.put, List.getElem_toArray, List.getElem_cons_succ, List.getElem_cons_zero, List.setIfInBounds_toArray, List.set_cons_zero, List.set_cons_succ]
      refine wpAnyH_take (i := 1) (v := ?_) rfl (by kernel_rfl) (by kernel_rfl) (by kernel_rfl) (fun _ _ _ h => h) (Or.inl ⟨by rfl, ?_⟩) (by assumption) ?_
      rotate_left
      · intro w' s1; obtain ⟨s, rfl⟩ := s1; go_simp; (try with_reducible rfl)
      simp only [Act.put, List.getElem_toArray, List.getElem_cons_succ, List.getElem_cons_zero, List.setIfInBounds_toArray, List.set_cons_zero, List.set_cons_succ]
      refine wpAnyH_take (i := 2) (v := ?_) rfl (by kernel_rfl) (by kernel_rfl) (by kernel_rfl) (fun _ _ _ h => h) (Or.inl ⟨by rfl, ?_⟩) (by assumption) ?_
      rotate_left
      · intro w' s1; obtain ⟨s, rfl⟩ := s1; go_simp; (try with_reducible rfl)
      simp only [Act.put, List.getElem_toArray, List.getElem_cons_succ, List.getElem_cons_zero, List.setIfInBounds_toArray, List.set_cons_zero, List.set_cons_succ]
      refine wpAnyH_take (i := 5) (v := ?_) rfl (by kernel_rfl) (by kernel_rfl) (by kernel_rfl) (fun _ _ _ h => h) (Or.inl ⟨by rfl, ?_⟩) (by assumption) ?_
      rotate_left
      · intro w' s1; obtain ⟨s, rfl⟩ := s1; go_simp; (try with_reducible rfl)
      simp only [Act.put, List.getElem_toArray, List.getElem_cons_succ, List.getElem_cons_zero, List.setIfInBounds_toArray, List.set_cons_zero, List.set_cons_succ]
      refine wpAnyH_take (i := 6) (v := ?_) rfl (by kernel_rfl) (by kernel_rfl) (by kernel_rfl) (fun _ _ _ h => h) (Or.inl ⟨by rfl, ?_⟩) (by assumption) ?_
      rotate_left
      · intro w' s1; obtain ⟨s, rfl⟩ := s1; go_simp; (try with_reducible rfl)
      simp only [Act.put, List.getElem_toArray, List.getElem_cons_succ, List.getElem_cons_zero, List.setIfInBounds_toArray, List.set_cons_zero, List.set_cons_succ]
      refine wpAnyH_take (i := 7) (v := ?_) rfl (by kernel_rfl) (by kernel_rfl) (by kernel_rfl) (fun _ _ _ h => h) (Or.inl ⟨by rfl, ?_⟩) (by assumption) ?_
      rotate_left
      · intro w' s1; obtain ⟨s, rfl⟩ := s1; go_simp; (try with_reducible rfl)
      simp only [Act.put, List.getElem_toArray, List.getElem_cons_succ, List.getElem_cons_zero, List.setIfInBounds_toArray, List.set_cons_zero, List.set_cons_succ]
      refine wpAnyH_take (i := 8) (v := ?_) rfl (by kernel_rfl) (by kernel_rfl) (by kernel_rfl) (fun _ _ _ h => h) (Or.inl ⟨by rfl, ?_⟩) (by assumption) ?_
      rotate_left
      · intro w' s1; obtain ⟨s, rfl⟩ := s1; go_simp; (try with_reducible rfl)
      simp only [Act.put, List.getElem_toArray, List.getElem_cons_succ, List.getElem_cons_zero, List.setIfInBounds_toArray, List.set_cons_zero, List.set_cons_succ]
      refine wpAnyH_take (i := 9) (v := ?_) rfl (by kernel_rfl) (by kernel_rfl) (by kernel_rfl) (fun _ _ _ h => h) (Or.inl ⟨by rfl, ?_⟩) (by assumption) ?_
      rotate_left
      · intro w' s1; obtain ⟨s, rfl⟩ := s1; go_simp; (try with_reducible rfl)
      simp only [Act.put, List.getElem_toArray, List.getElem_cons_succ, List.getElem_cons_zero, List.setIfInBounds_toArray, List.set_cons_zero, List.set_cons_succ]
      refine wpAnyH_take (i := 10) (v := ?_) rfl (by kernel_rfl) (by kernel_rfl) (by kernel_rfl) (fun _ _ _ h => h) (Or.inl ⟨by rfl, ?_⟩) (by assumption) ?_
      rotate_left
      · intro w' s1; obtain ⟨s, rfl⟩ := s1; go_simp; (try with_reducible rfl)
      simp only [Act.put, List.getElem_toArray, List.getElem_cons_succ, List.getElem_cons_zero, List.setIfInBounds_toArray, List.set_cons_zero, List.set_cons_succ]
      refine wpAnyH_take (i := 11) (v := ?_) rfl (by kernel_rfl) (by kernel_rfl) (by kernel_rfl) (fun _ _ _ h => h) (Or.inl ⟨by rfl, ?_⟩) (by assumption) ?_
      rotate_left
      · intro w' s1; obtain ⟨s, rfl⟩ := s1; go_simp; (try with_reducible rfl)
      simp only [Act.put, List.getElem_toArray, List.getElem_cons_succ, List.getElem_cons_zero, List.setIfInBounds_toArray, List.set_cons_zero, List.set_cons_succ]
      refine wpAnyH_take (i := 12) (v := ?_) rfl (by kernel_rfl) (by kernel_rfl) (by kernel_rfl) (fun _ _ _ h => h) (Or.inl ⟨by rfl, ?_⟩) (by assumption) ?_
      rotate_left
      · intro w' s1; obtain ⟨s, rfl⟩ := s1; go_simp; (try with_reducible rfl)
      simp only [Act.put, List.getElem_toArray, List.getElem_cons_succ, List.getElem_cons_zero, List.setIfInBounds_toArray, List.set_cons_zero, List.set_cons_succ]
      rw [show (IntKind.i64.wrap (xt.tmod 1000 + 1000)).tmod 1000 = timeT xt from rfl]
      generalize hty : timeT xt = ty
      have Hty := Lib.hid hty
      clear hty
      refine wpAnyH_ready (rs := [3]) (by kernel_rfl) (by simp) ?_
      refine AllReadyH.cons rfl (fun K hK => ?_) AllReadyH.nil
      go_simp
      go_at_call 27
      refine (labels_spec W0 H1.out.2.2 xn hx0).mono ?_
      rintro e A1 ⟨v1, rfl, hs1, q1⟩
      have E1 := Lib.hid (And.intro hs1 q1)
      obtain ⟨a1, c1, rfl, -, -⟩ := hs1
      clear q1
      go_simp
      refine hK.out _ _ (keptS E1.out.2) (fun hS => ?_)
      clear hK K
      try simp only [Act.put, List.getElem_toArray, List.getElem_cons_succ, List.getElem_cons_zero, List.setIfInBounds_toArray, List.set_cons_zero, List.set_cons_succ]
      refine wpAnyH_ready (rs := [4]) (by kernel_rfl) (by simp) ?_
      refine AllReadyH.cons rfl (fun K hK => ?_) AllReadyH.nil
      go_simp
      go_at_call 28
      refine (told6_spec A1 _ (labN xn) E1.out.1 (by have := labN_len xn; omega)).mono ?_
      rintro e A2 ⟨v2, rfl, hrow2, q2⟩
      have E2 := Lib.hid (And.intro (row_base (b' := 0) hrow2 (Nat.zero_le _)) (E1.out.2.trans q2))
      obtain ⟨a2, c2, rfl, -, -, -⟩ := row_slice hrow2
      clear hrow2 q2 E1
      go_simp
      refine hK.out _ _ (keptS E2.out.2) (fun hS => ?_)
      clear hK K
      try simp only [Act.put, List.getElem_toArray, List.getElem_cons_succ, List.getElem_cons_zero, List.setIfInBounds_toArray, List.set_cons_zero, List.set_cons_succ]
      refine wpAnyH_ready (rs := [13]) (by kernel_rfl) (by simp) ?_
      refine AllReadyH.cons rfl (fun K hK => ?_) AllReadyH.nil
      go_simp
      go_at_call 10
      refine (addM_spec A2 _ _ A (labN xn) (ty, xv) ((go1 E2.out.2 H1.out.1).base (Nat.zero_le _)) HG.out.2 HG.out.1.rows E2.out.1 (by have := labN_len xn; omega)).mono ?_
      rintro e A3 ⟨v3, rfl, ht3, q3⟩
      have E3 := Lib.hid (And.intro (ht3.base (B' := w.heap.size) (H1.out.2.1.trans E2.out.2).size) (E2.out.2.trans q3))
      obtain ⟨a3, c3, rfl⟩ := ht3.form
      clear ht3 q3 E2
      go_simp
      refine hK.out _ _ (keptS E3.out.2) (fun hS => ?_)
      clear hK K
      try simp only [Act.put, List.getElem_toArray, List.getElem_cons_succ, List.getElem_cons_zero, List.setIfInBounds_toArray, List.set_cons_zero, List.set_cons_succ]
      refine wpAnyH_ready (rs := [14]) (by kernel_rfl) (by simp) ?_
      refine AllReadyH.cons rfl (fun K hK => ?_) AllReadyH.nil
      go_simp
      go_simp
      refine hK.out _ _ (keptS E3.out.2) (fun hS => ?_)
      clear hK K
      try simp only [Act.put, List.getElem_toArray, List.getElem_cons_succ, List.getElem_cons_zero, List.setIfInBounds_toArray, List.set_cons_zero, List.set_cons_succ]
      refine wpAnyH_done (by kernel_rfl) ?_ _
      have H9 := Lib.hid (And.intro E3.out.1 (H1.out.2.1.trans E3.out.2))
      clear D0 D1 D2 hS E3 H1
      go_wp2_with fail
      go_roundg (m - (i + 1))
      case measure => have := Hg.out; omega
      case rel => exact ⟨i + 1, hlt, rfl, by go_num, by rw [Htk.out, tblL_snoc, ← HA.out, Hty.out]; exact H9.out.1, H9.out.2⟩
    · have him : i = m := by omega
      have Hend := Lib.hid (show A = tblL (L.take 40) from by
        rw [HA.out, him, Hm.out]
        rcases hm3 with h3 | h3
        · rw [show min L.length 40 = L.length from by omega, List.take_length, List.take_of_length_le (by omega)]
        · rw [show min L.length 40 = 40 from by omega])
      have Hr := Lib.hid (And.intro hrow (And.intro hkw HG.out))
      have hne := Lib.hid (fun (r : RowT) (hr : r ∈ A) => (HG.out.1.smps r hr).2)
      clear hrow hkw
      have hways : (¬ (i : Int) < (L.length : Int)) ∨ ((i : Int) < (L.length : Int) ∧ ¬ (i : Int) < 40) := by omega
      clear him hm3
      rcases hways with hw1 | ⟨hw1, hw2⟩
      all_goals
        go_wp2_with fail
        refine (rows_spec wr _ A (Hr.out.1.base (Nat.zero_le _)) Hr.out.2.2.2 hne.out).mono ?_
        rintro e w5 ⟨v5, rfl, ht5, hk5⟩
        have H5 := Lib.hid (And.intro (ht5.base (B' := w.heap.size) Hr.out.2.1.size) (And.intro (go1 hk5 Hr.out.1) (Hr.out.2.1.trans hk5)))
        obtain ⟨a5, c5, rfl⟩ := ht5.form
        clear ht5 hk5
        go_wp2_with fail
        go_ret2
        exact ⟨_, _, rfl, by rw [← Hend.out]; exact H5.out.1, by rw [← Hend.out]; exact H5.out.2.1, H5.out.2.2⟩
end Go.Proofs.YtlifonflgcfafaaGreatDoor

namespace Go.Proofs.YtlifonflgcfafaaGreatDoor
open Go Go.RowKit Go.ChangeShapes Go.WideShapes Go.Deep

def O14At (w : World) (v : Value) : Prop := ∃ L : List One14, SliceArg 3 encO14 w v L ∧ ∀ x ∈ L, 0 ≤ x.1

set_option maxRecDepth 100000 in
theorem open_o14 {H : Type} {e0 : TypeId × Value → H} {W : World} {r : Reach} {b0 : Nat} {v : Value} {d : DataW H} {p : List MemPlace} (hok : Value.okWide Tryz.prog W r b0 22 v) (h : DataW.Trod e0 Tryz.prog W 0 (fun _ => true) true 22 v d p) : O14At W v := by
  refine open_structArg (fs := _) encO14 (fun _ x => 0 ≤ x.1) Tryz.underlying22 Tryz.underlying84 (by kernel_rfl) (by kernel_rfl) (Nat.zero_lt_succ _) ?_ hok h
  intro us n hl hf
  obtain ⟨y0, u0, g0, h0⟩ := hf 0 _ rfl
  obtain ⟨y1, u1, g1, h1⟩ := hf 1 _ rfl
  obtain ⟨y2, u2, g2, h2⟩ := hf 2 _ rfl
  obtain ⟨n0, e0', _, hw⟩ := DataW.trod_int Tryz.underlying5 h0
  obtain ⟨n1, e1, _, _⟩ := DataW.trod_int Tryz.underlying2 h1
  obtain ⟨n2, e2, _, _⟩ := DataW.trod_int Tryz.underlying40 h2
  simp only [List.cons.injEq, and_true] at e0' e1 e2
  subst e0' e1 e2
  have h0' : 0 ≤ n0 := by
    simp [Lit.wf, IntKind.min, IntKind.max, IntKind.signed, IntKind.bits] at hw
    omega
  refine ⟨⟨n0, n1, n2⟩, h0', ?_⟩
  match us, hl with
  | [a0, a1, a2], _ =>
    simp only [List.getElem?_cons_zero, List.getElem?_cons_succ, Option.some.injEq] at g0 g1 g2
    subst g0 g1 g2
    rfl

theorem labN_ne (n : Int) : labN n ≠ [] := by
  unfold labN
  repeat' split
  all_goals decide

theorem tblL_ne (L : List One14) : ∀ r ∈ tblL L, r.1 ≠ [] := by
  have key : ∀ (L : List One14) (A : TabT), (∀ r ∈ A, r.1 ≠ []) → ∀ r ∈ L.foldl (fun A x => addT (labN x.1) (timeT x.2.1, x.2.2) A) A, r.1 ≠ [] := by
    intro L
    induction L with
    | nil => intro A h; exact h
    | cons x L ih =>
      intro A h
      rw [List.foldl_cons]
      refine ih _ fun r hr => ?_
      rcases addT_mem hr with hr | ⟨e1, -⟩
      · exact h r hr
      · rw [e1]; exact labN_ne _
  exact key L [] (by simp)

/-- Matchers that may be are of short texts. -/
theorem chkB_sizes {m : MatB} (h : chkB m = true) : m.2.1.size ≤ 40 ∧ ∀ x ∈ m.2.2, x.size ≤ 40 := by
  unfold chkB headB at h
  simp only [Bool.and_eq_true, decide_eq_true_eq] at h
  obtain ⟨⟨⟨⟨⟨⟨⟨h1, h2⟩, -⟩, h4⟩, h5⟩, -⟩, -⟩, h8⟩ := h
  refine ⟨?_, fun x hx => ?_⟩
  · unfold plainB at h4
    simp only [Bool.and_eq_true, decide_eq_true_eq] at h4
    exact h4.2
  · have h9 := List.all_eq_true.1 h8 x hx
    unfold valB plainB at h9
    simp only [Bool.and_eq_true, decide_eq_true_eq] at h9
    exact h9.1.2

/-- One table of one sample: the document's awake. -/
theorem tblL_one : tblL [((0 : Int), (5 : Int), (1 : Int))] = [(labA1, [((5 : Int), (1 : Int))])] := by
  have h5 : timeT 5 = 5 := by decide +kernel
  unfold tblL
  simp only [List.foldl_cons, List.foldl_nil, h5]
  rfl
end Go.Proofs.YtlifonflgcfafaaGreatDoor
