/-
  Package label at few pairs that may be a set, each name once: goodName, Check, Make (twelve pairs at most), walked.
  No condition beyond those that each theorem states.
-/
import Derived.Test.YtlifonflgcfafaaGreatDoorLabel1
import Derived.Test.YtlifonflgcfafaaGreatDoorPairs
import Derived.Test.YtlifonflgcfafaaGreatDoorShelfA
import Derived.Test.YtlifonflgcfafaaGreatDoorFew13
namespace Go.Proofs.YtlifonflgcfafaaGreatDoor
open Go Go.RowKit Go.Sort Go.Lib

attribute [local go_sem] Oper.semAt_some
@[local go_sem] theorem binOp_geqS (t : TypeId) (a b : ByteArray) : binOp .geq t (.string a) (.string b) = pure (.bool !(Op.bytesLess a.toList b.toList)) := by simp [binOp, Op.stringOp]
/-! ### goodName -/
def letterN (c : Nat) : Bool := (decide (97 ≤ c) && decide (c ≤ 122)) || (decide (65 ≤ c) && decide (c ≤ 90)) || decide (c = 95)

def okAt (i c : Nat) : Bool := letterN c || (decide (i ≠ 0) && decide (48 ≤ c) && decide (c ≤ 57))

def goodB (s : ByteArray) : Bool := decide (s ≠ ⟨#[]⟩) && decide (s.size ≤ 40) && (List.range s.size).all fun i => okAt i (s.data.toList.getD i 0).toNat

theorem goodB_at {s : ByteArray} (h : goodB s = true) (i : Nat) (hi : i < s.size) : okAt i (s[i]'hi).toNat = true := by
  unfold goodB at h
  simp only [Bool.and_eq_true, List.all_eq_true, List.mem_range] at h
  have := h.2 i hi
  rwa [List.getD_eq_getElem?_getD, Lib.data_getElem? s i hi, Option.getD_some] at this

set_option linter.unusedSimpArgs false in
set_option maxRecDepth 100000 in
set_option maxHeartbeats 1000000 in
theorem goodN_spec (w : World) (s : ByteArray) (h : goodB s = true) :
    Calls Tryz.prog 56 #[.string s] w fun e w' => e = .returned (.bool true) ∧ Keeps [] w w' := by
  obtain ⟨cp, W, hrun, hkW, hlW, hcW⟩ := run_stringBy w s
  have HC := Lib.hid (And.intro hcW (goodB_at h))
  have h40 : s.size ≤ 40 ∧ s ≠ ⟨#[]⟩ := by
    unfold goodB at h
    simp only [Bool.and_eq_true, decide_eq_true_eq] at h
    exact ⟨h.1.2, h.1.1⟩
  have HW := Lib.hid (And.intro hkW h40)
  have hz : (s.size : Int) ≤ 40 := by omega
  clear hkW hcW h h40
  go_enter Tryz.func56, Tryz.ntmps56
  go_wp2_with fail
  clear hrun
  generalize w.heap.size = sb at hlW HC ⊢
  go_loopg [9] s.size (fun gk u9 wr => ∃ k : Nat, k ≤ s.size ∧ gk = s.size - k ∧ u9 = .int .i64 k ∧ wr = W)
  case atStart => exact ⟨0, by omega, rfl, rfl, rfl⟩
  case round =>
    obtain ⟨k, hk, hgk, rfl, rfl⟩ := hrel
    have Hg := Lib.hid hgk
    clear hgk
    by_cases hlt : k < s.size
    · have hlt' : (k : Int) < (s.size : Int) := by omega
      have hc := HC.out.1 k hlt
      have hok := HC.out.2 k hlt
      generalize (s[k]'hlt).toNat = c at hc hok
      unfold okAt letterN at hok
      simp only [Bool.or_eq_true, Bool.and_eq_true, decide_eq_true_eq] at hok
      by_cases a1 : 97 ≤ c ∧ c ≤ 122
      · have x1 : (97 : Int) ≤ (c : Int) := by omega
        have x2 : (c : Int) ≤ 122 := by omega
        clear a1 hok
        go_wp2_with fail
        go_roundg (s.size - (k + 1))
        case measure => have := Hg.out; omega
        case rel => exact ⟨k + 1, hlt, rfl, by go_num, rfl⟩
      by_cases a2 : 65 ≤ c ∧ c ≤ 90
      · have x1 : ¬ (97 : Int) ≤ (c : Int) := by omega
        have x2 : (65 : Int) ≤ (c : Int) := by omega
        have x3 : (c : Int) ≤ 90 := by omega
        clear a1 a2 hok
        go_wp2_with fail
        go_roundg (s.size - (k + 1))
        case measure => have := Hg.out; omega
        case rel => exact ⟨k + 1, hlt, rfl, by go_num, rfl⟩
      by_cases a3 : c = 95
      · subst a3
        clear a1 a2 hok
        go_wp2_with fail
        go_roundg (s.size - (k + 1))
        case measure => have := Hg.out; omega
        case rel => exact ⟨k + 1, hlt, rfl, by go_num, rfl⟩
      · have hd : k ≠ 0 ∧ 48 ≤ c ∧ c ≤ 57 := by omega
        have x1 : ¬ (97 : Int) ≤ (c : Int) := by omega
        have x2 : ¬ (65 : Int) ≤ (c : Int) := by omega
        have x3 : ((c : Int) == 95) = false := by rw [beq_eq_false_iff_ne]; omega
        have x4 : ((k : Int) == 0) = false := by rw [beq_eq_false_iff_ne]; omega
        have x5 : ¬ (c : Int) < 48 := by omega
        have x6 : ¬ (57 : Int) < (c : Int) := by omega
        clear a1 a2 a3 hok hd
        go_wp2_with fail
        go_roundg (s.size - (k + 1))
        case measure => have := Hg.out; omega
        case rel => exact ⟨k + 1, hlt, rfl, by go_num, rfl⟩
    · have hlt' : ¬ (k : Int) < (s.size : Int) := by omega
      obtain ⟨q1, q2, q3⟩ := not_empty HW.out.2.2
      go_wp2_with fail
      go_ret
      exact ⟨rfl, HW.out.1⟩
/-! ### Check -/
def pairOk (P : List PairB) (i : Nat) : Bool := match P[i]? with
  | none => false
  | some p => goodB p.1 && decide (p.2 ≠ ⟨#[]⟩) && decide (p.2.size ≤ 40) && (match i with | 0 => true | j + 1 => match P[j]? with | some q => Op.bytesLess q.1.toList p.1.toList | none => false)

def chkSet (P : List PairB) : Bool := decide (P.length ≠ 0) && decide (P.length ≤ 8) && (List.range P.length).all (pairOk P)

theorem chkSet_at {P : List PairB} (h : chkSet P = true) (i : Nat) (hi : i < P.length) : goodB P[i].1 = true ∧ P[i].2 ≠ ⟨#[]⟩ ∧ P[i].2.size ≤ 40 ∧ ∀ j, i = j + 1 → ∀ hj : j < P.length, Op.bytesLess P[j].1.toList P[i].1.toList = true := by
  unfold chkSet at h
  simp only [Bool.and_eq_true, List.all_eq_true, List.mem_range] at h
  have h1 := h.2 i hi
  unfold pairOk at h1
  rw [List.getElem?_eq_getElem hi] at h1
  simp only [Bool.and_eq_true, decide_eq_true_eq] at h1
  refine ⟨h1.1.1.1, h1.1.1.2, h1.1.2, fun j e hj => ?_⟩
  subst e
  have h2 := h1.2
  simp only [List.getElem?_eq_getElem hj] at h2
  exact h2

def CkRel (w : World) (n : Nat) (gk : Nat) (u15 : Value) (wr : World) : Prop := ∃ k, k ≤ n ∧ gk = n - k ∧ u15 = .int .i64 k ∧ Keeps [] w wr

set_option linter.unusedSimpArgs false in
set_option maxRecDepth 100000 in
set_option maxHeartbeats 1000000 in
theorem checkN_spec (w : World) (v : Value) (P : List PairB) (h : SliceArg 2 encPB w v P) (hc : chkSet P = true) :
    Calls Tryz.prog 29 #[v] w fun e w' => e = .returned (.int .i64 0) ∧ Keeps [] w w' := by
  have Hf := Lib.hid h
  obtain ⟨ao, cap, rfl, hl, -⟩ := h
  have hn : P.length ≠ 0 ∧ P.length ≤ 8 := by
    unfold chkSet at hc
    simp only [Bool.and_eq_true, decide_eq_true_eq] at hc
    exact hc.1
  have n0 : ((P.length : Int) == 0) = false := by rw [beq_eq_false_iff_ne]; omega
  have n8 : ¬ (8 : Int) < (P.length : Int) := by omega
  have HC := Lib.hid (And.intro (chkSet_at hc) hn.2)
  clear hc hl hn
  go_enter Tryz.func29, Tryz.ntmps29
  go_wp2_with fail
  clear n0 n8
  go_loopg [15] P.length (CkRel w P.length)
  case atStart => exact ⟨0, Nat.zero_le _, rfl, rfl, Keeps.refl _ _⟩
  case round =>
    obtain ⟨k, hk, hgk, rfl, hkw⟩ := hrel
    have Hg := Lib.hid hgk
    clear hgk
    by_cases hlt : k < P.length
    · have hlt' : (k : Int) < (P.length : Int) := by omega
      have hl8 : (P.length : Int) ≤ 8 := by have := HC.out.2; omega
      obtain ⟨b, off, cap', ea, hbW, d0, d1⟩ := pair_at (Hf.out.keep hkw) k hlt
      injection ea with ea _ ec
      subst ea ec
      obtain ⟨c1, c2, c3, c4⟩ := HC.out.1 k hlt
      generalize hp : P[k] = p at d0 d1 c1 c2 c3 c4
      obtain ⟨p1, p2⟩ := p
      dsimp only at d0 d1 c1 c2 c3 c4
      obtain ⟨q1, q2, q3⟩ := not_empty c2
      have c3' : ¬ (40 : Int) < (p2.size : Int) := by omega
      have Hgood := Lib.hid c1
      obtain ⟨W0, hW0⟩ : ∃ W0, W0 = (wr.alloc (.cells #[.string p1, .string p2] 138)).drew := ⟨_, rfl⟩
      have hpn := heap_new wr (.cells #[.string p1, .string p2] 138)
      have F0 : ∀ s : Kept W0, s.val.cell? ⟨wr.heap.size, 0, none⟩ = some (.string p1) := keptCell (by rw [hW0]; exact cells_at hpn 0)
      have F1 : ∀ s : Kept W0, s.val.cell? ⟨wr.heap.size, 1, none⟩ = some (.string p2) := keptCell (by rw [hW0]; exact cells_at hpn 1)
      have kW : Keeps [] wr W0 := by rw [hW0]; exact ((Keeps.refl [] wr).alloc _).drew
      match k, hk, hlt, hlt', hkw, Hg, d0, d1, c4, hp with
      | 0, hk, hlt, hlt', hkw, Hg, d0, d1, c4, hp =>
        have d0' : wr.cell? ⟨b, off, none⟩ = some (.string p1) := by simpa using d0
        have d1' : wr.cell? ⟨b, off + 1, none⟩ = some (.string p2) := by simpa using d1
        have HW := Lib.hid (And.intro hW0 (hkw.trans kW))
        clear hkw hW0 hpn c1 c2 c3 c4 hp kW
        go_upto_region 6 with fail
        refine wp_region_held_drew (S := KeptS W0) (by kernel_rfl) (by rw [← HW.out.1]; exact keptS (Keeps.refl _ _)) (fun hS => ?_)
        rw [← HW.out.1] at hS ⊢
        generalize wr.heap.size = pb at F0 F1 ⊢
        clear d0 d1 d0' d1'
        refine wpAnyH_take (i := 0) (v := ?_) rfl (by kernel_rfl) (by kernel_rfl) (by kernel_rfl) (fun _ _ _ h => h) (Or.inl ⟨by rfl, ?_⟩) (by assumption) ?_
        rotate_left
        · intro w' s1; obtain ⟨s, rfl⟩ := s1; go_simp; (try with_reducible rfl)
        simp only [Act.put, List.getElem_toArray, List.getElem_cons_succ, List.getElem_cons_zero, List.setIfInBounds_toArray, List.set_cons_zero, List.set_cons_succ]
        refine wpAnyH_take (i := 1) (v := ?_) rfl (by kernel_rfl) (by kernel_rfl) (by kernel_rfl) (fun _ _ _ h => h) (Or.inl ⟨by rfl, ?_⟩) (by assumption) ?_
        rotate_left
        · intro w' s1; obtain ⟨s, rfl⟩ := s1; go_simp; (try with_reducible rfl)
        simp only [Act.put, List.getElem_toArray, List.getElem_cons_succ, List.getElem_cons_zero, List.setIfInBounds_toArray, List.set_cons_zero, List.set_cons_succ]
        refine wpAnyH_ready (rs := [2]) (by kernel_rfl) (by simp) ?_
        refine AllReadyH.cons rfl (fun K hK => ?_) AllReadyH.nil
        go_simp
        go_at_call 56
        refine (goodN_spec _ p1 Hgood.out).mono ?_
        rintro e A1 ⟨rfl, kA1⟩
        go_simp
        refine hK.out _ _ (keptS kA1) (fun hS => ?_)
        clear hK K
        try simp only [Act.put, List.getElem_toArray, List.getElem_cons_succ, List.getElem_cons_zero, List.setIfInBounds_toArray, List.set_cons_zero, List.set_cons_succ]
        refine wpAnyH_take (i := 3) (v := ?_) rfl (by kernel_rfl) (by kernel_rfl) (by kernel_rfl) (fun _ _ _ h => h) (Or.inl ⟨by rfl, ?_⟩) (by assumption) ?_
        rotate_left
        · intro w' s1; obtain ⟨s, rfl⟩ := s1; go_simp; (try with_reducible rfl)
        simp only [Act.put, List.getElem_toArray, List.getElem_cons_succ, List.getElem_cons_zero, List.setIfInBounds_toArray, List.set_cons_zero, List.set_cons_succ]
        refine wpAnyH_take (i := 4) (v := ?_) rfl (by kernel_rfl) (by kernel_rfl) (by kernel_rfl) (fun _ _ _ h => h) (Or.inl ⟨by rfl, ?_⟩) (by assumption) ?_
        rotate_left
        · intro w' s1; obtain ⟨s, rfl⟩ := s1; go_simp; (try with_reducible rfl)
        simp only [Act.put, List.getElem_toArray, List.getElem_cons_succ, List.getElem_cons_zero, List.setIfInBounds_toArray, List.set_cons_zero, List.set_cons_succ]
        refine wpAnyH_take (i := 5) (v := ?_) rfl (by kernel_rfl) (by kernel_rfl) (by kernel_rfl) (fun _ _ _ h => h) (Or.inl ⟨by rfl, ?_⟩) (by assumption) ?_
        rotate_left
        · intro w' s1; obtain ⟨s, rfl⟩ := s1; go_simp; (try with_reducible rfl)
        simp only [Act.put, List.getElem_toArray, List.getElem_cons_succ, List.getElem_cons_zero, List.setIfInBounds_toArray, List.set_cons_zero, List.set_cons_succ]
        refine wpAnyH_take (i := 6) (v := ?_) rfl (by kernel_rfl) (by kernel_rfl) (by kernel_rfl) (fun _ _ _ h => h) (Or.inl ⟨by rfl, ?_⟩) (by assumption) ?_
        rotate_left
        · intro w' s1; obtain ⟨s, rfl⟩ := s1; go_simp; (try with_reducible rfl)
        simp only [Act.put, List.getElem_toArray, List.getElem_cons_succ, List.getElem_cons_zero, List.setIfInBounds_toArray, List.set_cons_zero, List.set_cons_succ]
        refine wpAnyH_take (i := 7) (v := ?_) rfl (by kernel_rfl) (by kernel_rfl) (by kernel_rfl) (fun _ _ _ h => h) (Or.inl ⟨by rfl, ?_⟩) (by assumption) ?_
        rotate_left
        · intro w' s1; obtain ⟨s, rfl⟩ := s1; go_simp; (try with_reducible rfl)
        simp only [Act.put, List.getElem_toArray, List.getElem_cons_succ, List.getElem_cons_zero, List.setIfInBounds_toArray, List.set_cons_zero, List.set_cons_succ]
        refine wpAnyH_take (i := 8) (v := ?_) rfl (by kernel_rfl) (by kernel_rfl) (by kernel_rfl) (fun _ _ _ h => h) (Or.inl ⟨by rfl, ?_⟩) (by assumption) ?_
        rotate_left
        · intro w' s1; obtain ⟨s, rfl⟩ := s1; go_simp; (try with_reducible rfl)
        simp only [Act.put, List.getElem_toArray, List.getElem_cons_succ, List.getElem_cons_zero, List.setIfInBounds_toArray, List.set_cons_zero, List.set_cons_succ]
        refine wpAnyH_take (i := 9) (v := ?_) rfl (by kernel_rfl) (by kernel_rfl) (by kernel_rfl) (fun _ _ _ h => h) (Or.inl ⟨by rfl, ?_⟩) (by assumption) ?_
        rotate_left
        · intro w' s1; obtain ⟨s, rfl⟩ := s1; go_simp; (try with_reducible rfl)
        simp only [Act.put, List.getElem_toArray, List.getElem_cons_succ, List.getElem_cons_zero, List.setIfInBounds_toArray, List.set_cons_zero, List.set_cons_succ]
        refine wpAnyH_take (i := 10) (v := ?_) rfl (by kernel_rfl) (by kernel_rfl) (by kernel_rfl) (fun _ _ _ h => h) (Or.inl ⟨by rfl, ?_⟩) (by assumption) ?_
        rotate_left
        · intro w' s1; obtain ⟨s, rfl⟩ := s1; go_simp; (try with_reducible rfl)
        simp only [Act.put, List.getElem_toArray, List.getElem_cons_succ, List.getElem_cons_zero, List.setIfInBounds_toArray, List.set_cons_zero, List.set_cons_succ]
        refine wpAnyH_take (i := 11) (v := ?_) rfl (by kernel_rfl) (by kernel_rfl) (by kernel_rfl) (fun _ _ _ h => h) (Or.inl ⟨by rfl, ?_⟩) (by assumption) ?_
        rotate_left
        · intro w' s1; obtain ⟨s, rfl⟩ := s1; go_simp; (try with_reducible rfl)
        simp only [Act.put, List.getElem_toArray, List.getElem_cons_succ, List.getElem_cons_zero, List.setIfInBounds_toArray, List.set_cons_zero, List.set_cons_succ]
        refine wpAnyH_take (i := 12) (v := ?_) rfl (by kernel_rfl) (by kernel_rfl) (by kernel_rfl) (fun _ _ _ h => h) (Or.inl ⟨by rfl, ?_⟩) (by assumption) ?_
        rotate_left
        · intro w' s1; obtain ⟨s, rfl⟩ := s1; go_simp; (try with_reducible rfl)
        simp only [Act.put, List.getElem_toArray, List.getElem_cons_succ, List.getElem_cons_zero, List.setIfInBounds_toArray, List.set_cons_zero, List.set_cons_succ]
        refine wpAnyH_take (i := 13) (v := ?_) rfl (by kernel_rfl) (by kernel_rfl) (by kernel_rfl) (fun _ _ _ h => h) (Or.inl ⟨by rfl, ?_⟩) (by assumption) ?_
        rotate_left
        · intro w' s1; obtain ⟨s, rfl⟩ := s1; go_simp; (try with_reducible rfl)
        simp only [Act.put, List.getElem_toArray, List.getElem_cons_succ, List.getElem_cons_zero, List.setIfInBounds_toArray, List.set_cons_zero, List.set_cons_succ]
        refine wpAnyH_take (i := 14) (v := ?_) rfl (by kernel_rfl) (by kernel_rfl) (by kernel_rfl) (fun _ _ _ h => h) (Or.inl ⟨by rfl, ?_⟩) (by assumption) ?_
        rotate_left
        · intro w' s1; obtain ⟨s, rfl⟩ := s1; go_simp; (try with_reducible rfl)
        simp only [Act.put, List.getElem_toArray, List.getElem_cons_succ, List.getElem_cons_zero, List.setIfInBounds_toArray, List.set_cons_zero, List.set_cons_succ]
        refine wpAnyH_take (i := 15) (v := ?_) rfl (by kernel_rfl) (by kernel_rfl) (by kernel_rfl) (fun _ _ _ h => h) (Or.inl ⟨by rfl, ?_⟩) (by assumption) ?_
        rotate_left
        · intro w' s1; obtain ⟨s, rfl⟩ := s1; go_simp; (try with_reducible rfl)
        simp only [Act.put, List.getElem_toArray, List.getElem_cons_succ, List.getElem_cons_zero, List.setIfInBounds_toArray, List.set_cons_zero, List.set_cons_succ]
        refine wpAnyH_take (i := 16) (v := ?_) rfl (by kernel_rfl) (by kernel_rfl) (by kernel_rfl) (fun _ _ _ h => h) (Or.inl ⟨by rfl, ?_⟩) (by assumption) ?_
        rotate_left
        · intro w' s1; obtain ⟨s, rfl⟩ := s1; go_simp; (try with_reducible rfl)
        simp only [Act.put, List.getElem_toArray, List.getElem_cons_succ, List.getElem_cons_zero, List.setIfInBounds_toArray, List.set_cons_zero, List.set_cons_succ]
        refine wpAnyH_take (i := 17) (v := ?_) rfl (by kernel_rfl) (by kernel_rfl) (by kernel_rfl) (fun _ _ _ h => h) (Or.inl ⟨by rfl, ?_⟩) (by assumption) ?_
        rotate_left
        · intro w' s1; obtain ⟨s, rfl⟩ := s1; go_simp; (try with_reducible rfl)
        simp only [Act.put, List.getElem_toArray, List.getElem_cons_succ, List.getElem_cons_zero, List.setIfInBounds_toArray, List.set_cons_zero, List.set_cons_succ]
        refine wpAnyH_take (i := 18) (v := ?_) rfl (by kernel_rfl) (by kernel_rfl) (by kernel_rfl) (fun _ _ _ h => h) (Or.inl ⟨by rfl, ?_⟩) (by assumption) ?_
        rotate_left
        · intro w' s1; obtain ⟨s, rfl⟩ := s1; go_simp; (try with_reducible rfl)
        simp only [Act.put, List.getElem_toArray, List.getElem_cons_succ, List.getElem_cons_zero, List.setIfInBounds_toArray, List.set_cons_zero, List.set_cons_succ]
        refine wpAnyH_take (i := 19) (v := undef) rfl (by kernel_rfl) (by kernel_rfl) (by kernel_rfl) (fun _ _ _ h => h) (Or.inr ⟨by rfl, rfl⟩) (by assumption) ?_
        simp only [Act.put, List.getElem_toArray, List.getElem_cons_succ, List.getElem_cons_zero, List.setIfInBounds_toArray, List.set_cons_zero, List.set_cons_succ]
        refine wpAnyH_take (i := 20) (v := undef) rfl (by kernel_rfl) (by kernel_rfl) (by kernel_rfl) (fun _ _ _ h => h) (Or.inr ⟨by rfl, rfl⟩) (by assumption) ?_
        simp only [Act.put, List.getElem_toArray, List.getElem_cons_succ, List.getElem_cons_zero, List.setIfInBounds_toArray, List.set_cons_zero, List.set_cons_succ]
        refine wpAnyH_take (i := 21) (v := undef) rfl (by kernel_rfl) (by kernel_rfl) (by kernel_rfl) (fun _ _ _ h => h) (Or.inr ⟨by rfl, rfl⟩) (by assumption) ?_
        simp only [Act.put, List.getElem_toArray, List.getElem_cons_succ, List.getElem_cons_zero, List.setIfInBounds_toArray, List.set_cons_zero, List.set_cons_succ]
        refine wpAnyH_take (i := 22) (v := undef) rfl (by kernel_rfl) (by kernel_rfl) (by kernel_rfl) (fun _ _ _ h => h) (Or.inr ⟨by rfl, rfl⟩) (by assumption) ?_
        simp only [Act.put, List.getElem_toArray, List.getElem_cons_succ, List.getElem_cons_zero, List.setIfInBounds_toArray, List.set_cons_zero, List.set_cons_succ]
        refine wpAnyH_take (i := 23) (v := undef) rfl (by kernel_rfl) (by kernel_rfl) (by kernel_rfl) (fun _ _ _ h => h) (Or.inr ⟨by rfl, rfl⟩) (by assumption) ?_
        simp only [Act.put, List.getElem_toArray, List.getElem_cons_succ, List.getElem_cons_zero, List.setIfInBounds_toArray, List.set_cons_zero, List.set_cons_succ]
        refine wpAnyH_take (i := 24) (v := undef) rfl (by kernel_rfl) (by kernel_rfl) (by kernel_rfl) (fun _ _ _ h => h) (Or.inr ⟨by rfl, rfl⟩) (by assumption) ?_
        simp only [Act.put, List.getElem_toArray, List.getElem_cons_succ, List.getElem_cons_zero, List.setIfInBounds_toArray, List.set_cons_zero, List.set_cons_succ]
        refine wpAnyH_take (i := 25) (v := undef) rfl (by kernel_rfl) (by kernel_rfl) (by kernel_rfl) (fun _ _ _ h => h) (Or.inr ⟨by rfl, rfl⟩) (by assumption) ?_
        simp only [Act.put, List.getElem_toArray, List.getElem_cons_succ, List.getElem_cons_zero, List.setIfInBounds_toArray, List.set_cons_zero, List.set_cons_succ]
        refine wpAnyH_take (i := 26) (v := undef) rfl (by kernel_rfl) (by kernel_rfl) (by kernel_rfl) (fun _ _ _ h => h) (Or.inr ⟨by rfl, rfl⟩) (by assumption) ?_
        simp only [Act.put, List.getElem_toArray, List.getElem_cons_succ, List.getElem_cons_zero, List.setIfInBounds_toArray, List.set_cons_zero, List.set_cons_succ]
        refine wpAnyH_take (i := 27) (v := undef) rfl (by kernel_rfl) (by kernel_rfl) (by kernel_rfl) (fun _ _ _ h => h) (Or.inr ⟨by rfl, rfl⟩) (by assumption) ?_
        simp only [Act.put, List.getElem_toArray, List.getElem_cons_succ, List.getElem_cons_zero, List.setIfInBounds_toArray, List.set_cons_zero, List.set_cons_succ]
        refine wpAnyH_take (i := 28) (v := ?_) rfl (by kernel_rfl) (by kernel_rfl) (by kernel_rfl) (fun _ _ _ h => h) (Or.inl ⟨by rfl, ?_⟩) (by assumption) ?_
        rotate_left
        · intro w' s1; obtain ⟨s, rfl⟩ := s1; go_simp; (try with_reducible rfl)
        simp only [Act.put, List.getElem_toArray, List.getElem_cons_succ, List.getElem_cons_zero, List.setIfInBounds_toArray, List.set_cons_zero, List.set_cons_succ]
        refine wpAnyH_take (i := 29) (v := ?_) rfl (by kernel_rfl) (by kernel_rfl) (by kernel_rfl) (fun _ _ _ h => h) (Or.inl ⟨by rfl, ?_⟩) (by assumption) ?_
        rotate_left
        · intro w' s1; obtain ⟨s, rfl⟩ := s1; go_simp; (try with_reducible rfl)
        simp only [Act.put, List.getElem_toArray, List.getElem_cons_succ, List.getElem_cons_zero, List.setIfInBounds_toArray, List.set_cons_zero, List.set_cons_succ]
        refine wpAnyH_done (by kernel_rfl) ?_ _
        have H1 := Lib.hid (HW.out.2.trans kA1)
        clear hS kA1 F0 F1
        go_wp2_with fail
        go_roundg (P.length - 1)
        case measure => have := Hg.out; omega
        case rel => exact ⟨1, by omega, rfl, rfl, H1.out⟩
      | j + 1, hk, hlt, hlt', hkw, Hg, d0, d1, c4, hp =>
        have hj : j < P.length := by omega
        obtain ⟨b', off', cap', ea, -, e0, -⟩ := pair_at (Hf.out.keep hkw) j hj
        injection ea with ea _ ec
        injection ea with ea
        injection ea with eb eo _
        subst eb eo ec
        have hless := c4 j rfl hj
        generalize P[j].1 = pr at e0 hless
        have E0 : ∀ s : Kept W0, s.val.cell? ⟨b, off + j * 2, none⟩ = some (.string pr) := keptCell ((kW.cell hbW (by simp)).trans e0)
        have hwr : IntKind.i64.wrap (j : Int) = (j : Int) := IntWalk.i64_in _ (by have := HC.out.2; omega)
        have hj0 : (0 : Int) < (j : Int) + 1 := by omega
        have hjl : (j : Int) < (P.length : Int) := by omega
        have HW := Lib.hid (And.intro hW0 (hkw.trans kW))
        clear hkw hW0 hpn c1 c2 c3 c4 hp kW
        go_upto_region 6 with fail
        refine wp_region_held_drew (S := KeptS W0) (by kernel_rfl) (by rw [← HW.out.1]; exact keptS (Keeps.refl _ _)) (fun hS => ?_)
        rw [← HW.out.1] at hS ⊢
        generalize wr.heap.size = pb at F0 F1 ⊢
        clear d0 d1 e0
        refine wpAnyH_take (i := 0) (v := ?_) rfl (by kernel_rfl) (by kernel_rfl) (by kernel_rfl) (fun _ _ _ h => h) (Or.inl ⟨by rfl, ?_⟩) (by assumption) ?_
        rotate_left
        · intro w' s1; obtain ⟨s, rfl⟩ := s1; go_simp; (try with_reducible rfl)
        simp only [Act.put, List.getElem_toArray, List.getElem_cons_succ, List.getElem_cons_zero, List.setIfInBounds_toArray, List.set_cons_zero, List.set_cons_succ]
        refine wpAnyH_take (i := 1) (v := ?_) rfl (by kernel_rfl) (by kernel_rfl) (by kernel_rfl) (fun _ _ _ h => h) (Or.inl ⟨by rfl, ?_⟩) (by assumption) ?_
        rotate_left
        · intro w' s1; obtain ⟨s, rfl⟩ := s1; go_simp; (try with_reducible rfl)
        simp only [Act.put, List.getElem_toArray, List.getElem_cons_succ, List.getElem_cons_zero, List.setIfInBounds_toArray, List.set_cons_zero, List.set_cons_succ]
        refine wpAnyH_ready (rs := [2]) (by kernel_rfl) (by simp) ?_
        refine AllReadyH.cons rfl (fun K hK => ?_) AllReadyH.nil
        go_simp
        go_at_call 56
        refine (goodN_spec _ p1 Hgood.out).mono ?_
        rintro e A1 ⟨rfl, kA1⟩
        go_simp
        refine hK.out _ _ (keptS kA1) (fun hS => ?_)
        clear hK K
        try simp only [Act.put, List.getElem_toArray, List.getElem_cons_succ, List.getElem_cons_zero, List.setIfInBounds_toArray, List.set_cons_zero, List.set_cons_succ]
        refine wpAnyH_take (i := 3) (v := ?_) rfl (by kernel_rfl) (by kernel_rfl) (by kernel_rfl) (fun _ _ _ h => h) (Or.inl ⟨by rfl, ?_⟩) (by assumption) ?_
        rotate_left
        · intro w' s1; obtain ⟨s, rfl⟩ := s1; go_simp; (try with_reducible rfl)
        simp only [Act.put, List.getElem_toArray, List.getElem_cons_succ, List.getElem_cons_zero, List.setIfInBounds_toArray, List.set_cons_zero, List.set_cons_succ]
        refine wpAnyH_take (i := 4) (v := ?_) rfl (by kernel_rfl) (by kernel_rfl) (by kernel_rfl) (fun _ _ _ h => h) (Or.inl ⟨by rfl, ?_⟩) (by assumption) ?_
        rotate_left
        · intro w' s1; obtain ⟨s, rfl⟩ := s1; go_simp; (try with_reducible rfl)
        simp only [Act.put, List.getElem_toArray, List.getElem_cons_succ, List.getElem_cons_zero, List.setIfInBounds_toArray, List.set_cons_zero, List.set_cons_succ]
        refine wpAnyH_take (i := 5) (v := ?_) rfl (by kernel_rfl) (by kernel_rfl) (by kernel_rfl) (fun _ _ _ h => h) (Or.inl ⟨by rfl, ?_⟩) (by assumption) ?_
        rotate_left
        · intro w' s1; obtain ⟨s, rfl⟩ := s1; go_simp; (try with_reducible rfl)
        simp only [Act.put, List.getElem_toArray, List.getElem_cons_succ, List.getElem_cons_zero, List.setIfInBounds_toArray, List.set_cons_zero, List.set_cons_succ]
        refine wpAnyH_take (i := 6) (v := ?_) rfl (by kernel_rfl) (by kernel_rfl) (by kernel_rfl) (fun _ _ _ h => h) (Or.inl ⟨by rfl, ?_⟩) (by assumption) ?_
        rotate_left
        · intro w' s1; obtain ⟨s, rfl⟩ := s1; go_simp; (try with_reducible rfl)
        simp only [Act.put, List.getElem_toArray, List.getElem_cons_succ, List.getElem_cons_zero, List.setIfInBounds_toArray, List.set_cons_zero, List.set_cons_succ]
        refine wpAnyH_take (i := 7) (v := ?_) rfl (by kernel_rfl) (by kernel_rfl) (by kernel_rfl) (fun _ _ _ h => h) (Or.inl ⟨by rfl, ?_⟩) (by assumption) ?_
        rotate_left
        · intro w' s1; obtain ⟨s, rfl⟩ := s1; go_simp; (try with_reducible rfl)
        simp only [Act.put, List.getElem_toArray, List.getElem_cons_succ, List.getElem_cons_zero, List.setIfInBounds_toArray, List.set_cons_zero, List.set_cons_succ]
        refine wpAnyH_take (i := 8) (v := ?_) rfl (by kernel_rfl) (by kernel_rfl) (by kernel_rfl) (fun _ _ _ h => h) (Or.inl ⟨by rfl, ?_⟩) (by assumption) ?_
        rotate_left
        · intro w' s1; obtain ⟨s, rfl⟩ := s1; go_simp; (try with_reducible rfl)
        simp only [Act.put, List.getElem_toArray, List.getElem_cons_succ, List.getElem_cons_zero, List.setIfInBounds_toArray, List.set_cons_zero, List.set_cons_succ]
        refine wpAnyH_take (i := 9) (v := ?_) rfl (by kernel_rfl) (by kernel_rfl) (by kernel_rfl) (fun _ _ _ h => h) (Or.inl ⟨by rfl, ?_⟩) (by assumption) ?_
        rotate_left
        · intro w' s1; obtain ⟨s, rfl⟩ := s1; go_simp; (try with_reducible rfl)
        simp only [Act.put, List.getElem_toArray, List.getElem_cons_succ, List.getElem_cons_zero, List.setIfInBounds_toArray, List.set_cons_zero, List.set_cons_succ]
        refine wpAnyH_take (i := 10) (v := ?_) rfl (by kernel_rfl) (by kernel_rfl) (by kernel_rfl) (fun _ _ _ h => h) (Or.inl ⟨by rfl, ?_⟩) (by assumption) ?_
        rotate_left
        · intro w' s1; obtain ⟨s, rfl⟩ := s1; go_simp; (try with_reducible rfl)
        simp only [Act.put, List.getElem_toArray, List.getElem_cons_succ, List.getElem_cons_zero, List.setIfInBounds_toArray, List.set_cons_zero, List.set_cons_succ]
        refine wpAnyH_take (i := 11) (v := ?_) rfl (by kernel_rfl) (by kernel_rfl) (by kernel_rfl) (fun _ _ _ h => h) (Or.inl ⟨by rfl, ?_⟩) (by assumption) ?_
        rotate_left
        · intro w' s1; obtain ⟨s, rfl⟩ := s1; go_simp; (try with_reducible rfl)
        simp only [Act.put, List.getElem_toArray, List.getElem_cons_succ, List.getElem_cons_zero, List.setIfInBounds_toArray, List.set_cons_zero, List.set_cons_succ]
        refine wpAnyH_take (i := 12) (v := ?_) rfl (by kernel_rfl) (by kernel_rfl) (by kernel_rfl) (fun _ _ _ h => h) (Or.inl ⟨by rfl, ?_⟩) (by assumption) ?_
        rotate_left
        · intro w' s1; obtain ⟨s, rfl⟩ := s1; go_simp; (try with_reducible rfl)
        simp only [Act.put, List.getElem_toArray, List.getElem_cons_succ, List.getElem_cons_zero, List.setIfInBounds_toArray, List.set_cons_zero, List.set_cons_succ]
        refine wpAnyH_take (i := 13) (v := ?_) rfl (by kernel_rfl) (by kernel_rfl) (by kernel_rfl) (fun _ _ _ h => h) (Or.inl ⟨by rfl, ?_⟩) (by assumption) ?_
        rotate_left
        · intro w' s1; obtain ⟨s, rfl⟩ := s1; go_simp; (try with_reducible rfl)
        simp only [Act.put, List.getElem_toArray, List.getElem_cons_succ, List.getElem_cons_zero, List.setIfInBounds_toArray, List.set_cons_zero, List.set_cons_succ]
        refine wpAnyH_take (i := 14) (v := ?_) rfl (by kernel_rfl) (by kernel_rfl) (by kernel_rfl) (fun _ _ _ h => h) (Or.inl ⟨by rfl, ?_⟩) (by assumption) ?_
        rotate_left
        · intro w' s1; obtain ⟨s, rfl⟩ := s1; go_simp; (try with_reducible rfl)
        simp only [Act.put, List.getElem_toArray, List.getElem_cons_succ, List.getElem_cons_zero, List.setIfInBounds_toArray, List.set_cons_zero, List.set_cons_succ]
        refine wpAnyH_take (i := 15) (v := ?_) rfl (by kernel_rfl) (by kernel_rfl) (by kernel_rfl) (fun _ _ _ h => h) (Or.inl ⟨by rfl, ?_⟩) (by assumption) ?_
        rotate_left
        · intro w' s1; obtain ⟨s, rfl⟩ := s1; go_simp; (try with_reducible rfl)
        simp only [Act.put, List.getElem_toArray, List.getElem_cons_succ, List.getElem_cons_zero, List.setIfInBounds_toArray, List.set_cons_zero, List.set_cons_succ]
        refine wpAnyH_take (i := 16) (v := ?_) rfl (by kernel_rfl) (by kernel_rfl) (by kernel_rfl) (fun _ _ _ h => h) (Or.inl ⟨by rfl, ?_⟩) (by assumption) ?_
        rotate_left
        · intro w' s1; obtain ⟨s, rfl⟩ := s1; go_simp; (try with_reducible rfl)
        simp only [Act.put, List.getElem_toArray, List.getElem_cons_succ, List.getElem_cons_zero, List.setIfInBounds_toArray, List.set_cons_zero, List.set_cons_succ]
        refine wpAnyH_take (i := 17) (v := ?_) rfl (by kernel_rfl) (by kernel_rfl) (by kernel_rfl) (fun _ _ _ h => h) (Or.inl ⟨by rfl, ?_⟩) (by assumption) ?_
        rotate_left
        · intro w' s1; obtain ⟨s, rfl⟩ := s1; go_simp; (try with_reducible rfl)
        simp only [Act.put, List.getElem_toArray, List.getElem_cons_succ, List.getElem_cons_zero, List.setIfInBounds_toArray, List.set_cons_zero, List.set_cons_succ]
        refine wpAnyH_take (i := 18) (v := ?_) rfl (by kernel_rfl) (by kernel_rfl) (by kernel_rfl) (fun _ _ _ h => h) (Or.inl ⟨by rfl, ?_⟩) (by assumption) ?_
        rotate_left
        · intro w' s1; obtain ⟨s, rfl⟩ := s1; go_simp; (try with_reducible rfl)
        simp only [Act.put, List.getElem_toArray, List.getElem_cons_succ, List.getElem_cons_zero, List.setIfInBounds_toArray, List.set_cons_zero, List.set_cons_succ]
        refine wpAnyH_take (i := 19) (v := ?_) rfl (by kernel_rfl) (by kernel_rfl) (by kernel_rfl) (fun _ _ _ h => h) (Or.inl ⟨by rfl, ?_⟩) (by assumption) ?_
        rotate_left
        · intro w' s1; obtain ⟨s, rfl⟩ := s1; go_simp; (try with_reducible rfl)
        simp only [Act.put, List.getElem_toArray, List.getElem_cons_succ, List.getElem_cons_zero, List.setIfInBounds_toArray, List.set_cons_zero, List.set_cons_succ]
        refine wpAnyH_take (i := 20) (v := ?_) rfl (by kernel_rfl) (by kernel_rfl) (by kernel_rfl) (fun _ _ _ h => h) (Or.inl ⟨by rfl, ?_⟩) (by assumption) ?_
        rotate_left
        · intro w' s1; obtain ⟨s, rfl⟩ := s1; go_simp; (try with_reducible rfl)
        simp only [Act.put, List.getElem_toArray, List.getElem_cons_succ, List.getElem_cons_zero, List.setIfInBounds_toArray, List.set_cons_zero, List.set_cons_succ]
        refine wpAnyH_take (i := 21) (v := ?_) rfl (by kernel_rfl) (by kernel_rfl) (by kernel_rfl) (fun _ _ _ h => h) (Or.inl ⟨by rfl, ?_⟩) (by assumption) ?_
        rotate_left
        · intro w' s1; obtain ⟨s, rfl⟩ := s1; go_simp; (try with_reducible rfl)
        simp only [Act.put, List.getElem_toArray, List.getElem_cons_succ, List.getElem_cons_zero, List.setIfInBounds_toArray, List.set_cons_zero, List.set_cons_succ]
        refine wpAnyH_take (i := 22) (v := ?_) rfl (by kernel_rfl) (by kernel_rfl) (by kernel_rfl) (fun _ _ _ h => h) (Or.inl ⟨by rfl, ?_⟩) (by assumption) ?_
        rotate_left
        · intro w' s1; obtain ⟨s, rfl⟩ := s1; go_simp; (try with_reducible rfl)
        simp only [Act.put, List.getElem_toArray, List.getElem_cons_succ, List.getElem_cons_zero, List.setIfInBounds_toArray, List.set_cons_zero, List.set_cons_succ]
        refine wpAnyH_take (i := 23) (v := ?_) rfl (by kernel_rfl) (by kernel_rfl) (by kernel_rfl) (fun _ _ _ h => h) (Or.inl ⟨by rfl, ?_⟩) (by assumption) ?_
        rotate_left
        · intro w' s1; obtain ⟨s, rfl⟩ := s1; go_simp; (try with_reducible rfl)
        simp only [Act.put, List.getElem_toArray, List.getElem_cons_succ, List.getElem_cons_zero, List.setIfInBounds_toArray, List.set_cons_zero, List.set_cons_succ]
        refine wpAnyH_take (i := 24) (v := ?_) rfl (by kernel_rfl) (by kernel_rfl) (by kernel_rfl) (fun _ _ _ h => h) (Or.inl ⟨by rfl, ?_⟩) (by assumption) ?_
        rotate_left
        · intro w' s1; obtain ⟨s, rfl⟩ := s1; go_simp; (try with_reducible rfl)
        simp only [Act.put, List.getElem_toArray, List.getElem_cons_succ, List.getElem_cons_zero, List.setIfInBounds_toArray, List.set_cons_zero, List.set_cons_succ]
        refine wpAnyH_take (i := 25) (v := ?_) rfl (by kernel_rfl) (by kernel_rfl) (by kernel_rfl) (fun _ _ _ h => h) (Or.inl ⟨by rfl, ?_⟩) (by assumption) ?_
        rotate_left
        · intro w' s1; obtain ⟨s, rfl⟩ := s1; go_simp; (try with_reducible rfl)
        simp only [Act.put, List.getElem_toArray, List.getElem_cons_succ, List.getElem_cons_zero, List.setIfInBounds_toArray, List.set_cons_zero, List.set_cons_succ]
        refine wpAnyH_take (i := 26) (v := ?_) rfl (by kernel_rfl) (by kernel_rfl) (by kernel_rfl) (fun _ _ _ h => h) (Or.inl ⟨by rfl, ?_⟩) (by assumption) ?_
        rotate_left
        · intro w' s1; obtain ⟨s, rfl⟩ := s1; go_simp; (try with_reducible rfl)
        simp only [Act.put, List.getElem_toArray, List.getElem_cons_succ, List.getElem_cons_zero, List.setIfInBounds_toArray, List.set_cons_zero, List.set_cons_succ]
        refine wpAnyH_take (i := 27) (v := ?_) rfl (by kernel_rfl) (by kernel_rfl) (by kernel_rfl) (fun _ _ _ h => h) (Or.inl ⟨by rfl, ?_⟩) (by assumption) ?_
        rotate_left
        · intro w' s1; obtain ⟨s, rfl⟩ := s1; go_simp; (try with_reducible rfl)
        simp only [Act.put, List.getElem_toArray, List.getElem_cons_succ, List.getElem_cons_zero, List.setIfInBounds_toArray, List.set_cons_zero, List.set_cons_succ]
        refine wpAnyH_take (i := 28) (v := ?_) rfl (by kernel_rfl) (by kernel_rfl) (by kernel_rfl) (fun _ _ _ h => h) (Or.inl ⟨by rfl, ?_⟩) (by assumption) ?_
        rotate_left
        · intro w' s1; obtain ⟨s, rfl⟩ := s1; go_simp; (try with_reducible rfl)
        simp only [Act.put, List.getElem_toArray, List.getElem_cons_succ, List.getElem_cons_zero, List.setIfInBounds_toArray, List.set_cons_zero, List.set_cons_succ]
        refine wpAnyH_take (i := 29) (v := ?_) rfl (by kernel_rfl) (by kernel_rfl) (by kernel_rfl) (fun _ _ _ h => h) (Or.inl ⟨by rfl, ?_⟩) (by assumption) ?_
        rotate_left
        · intro w' s1; obtain ⟨s, rfl⟩ := s1; go_simp; (try with_reducible rfl)
        simp only [Act.put, List.getElem_toArray, List.getElem_cons_succ, List.getElem_cons_zero, List.setIfInBounds_toArray, List.set_cons_zero, List.set_cons_succ]
        refine wpAnyH_done (by kernel_rfl) ?_ _
        have H1 := Lib.hid (HW.out.2.trans kA1)
        clear hS kA1 F0 F1 E0
        go_wp2_with fail
        go_roundg (P.length - (j + 1 + 1))
        case measure => have := Hg.out; omega
        case rel => exact ⟨j + 1 + 1, by omega, rfl, by go_num, H1.out⟩
    · have hlt' : ¬ (k : Int) < (P.length : Int) := by omega
      have HW := Lib.hid hkw
      clear hkw
      go_wp2_with fail
      go_ret
      exact ⟨rfl, HW.out⟩
/-! ### Make: twelve pairs at most -/
def cfP (x y : PairB) : Int := Lib.compareBytes x.1.data.toList y.1.data.toList

def insUpto : Nat → Nat → Array PairB → Array PairB
  | 0, _, d => d
  | n + 1, i, d => insUpto n (i + 1) (insInner (ltOf cfP) 0 i d)

def sortP (P : List PairB) : List PairB := (insUpto (P.length - 1) 1 P.toArray).toList

theorem insOuter_upto (b : Nat) : ∀ (n i : Nat) (d : Array PairB), b - i = n → insOuter (ltOf cfP) 0 b i d = insUpto n i d
  | 0, i, d, h => by
    rw [insOuter, if_neg (by omega)]
    rfl
  | n + 1, i, d, h => by
    rw [insOuter, if_pos (by omega), insOuter_upto b n (i + 1) _ (by omega)]
    rfl

theorem size_insInnerP : ∀ (j : Nat) (d : Array PairB), (insInner (ltOf cfP) 0 j d).size = d.size
  | 0, d => rfl
  | j + 1, d => by
    unfold insInner
    split
    · rw [size_insInnerP j]
      simp [swp]
    · rfl

theorem size_insUpto : ∀ (n i : Nat) (d : Array PairB), (insUpto n i d).size = d.size
  | 0, _, _ => rfl
  | n + 1, i, d => by
    unfold insUpto
    rw [size_insUpto n, size_insInnerP]

theorem sortP_len (P : List PairB) : (sortP P).length = P.length := by
  unfold sortP
  rw [Array.length_toList, size_insUpto]
  simp

theorem insertionSortP (P : List PairB) : Sort.insertionSort (ltOf cfP) P.toArray 0 P.toArray.size = (sortP P).toArray := by
  unfold Sort.insertionSort sortP
  rw [insOuter_upto _ (P.length - 1) (0 + 1) P.toArray (by simp)]

theorem flatK_pairs (P : List PairB) : (flatK encPB 2 P.toArray).toList = P.flatMap encPB := by
  have hl : (P.flatMap encPB).length = P.length * 2 := by
    induction P with
    | nil => rfl
    | cons p P ih =>
      rw [List.flatMap_cons, List.length_append, ih, List.length_cons]
      show 2 + _ = _
      omega
  apply List.ext_getElem?
  intro t
  by_cases ht : t < P.length * 2
  · have h1 := flatMap_at encPB 2 (fun _ => rfl) P (t / 2) (by omega) (t % 2) (by omega)
    rw [show t / 2 * 2 + t % 2 = t from by omega] at h1
    rw [h1]
    have h2 := get_flatK encPB 2 P.toArray t (by simpa using ht)
    have hs : t < (flatK encPB 2 P.toArray).size := by rw [size_flatK]; simpa using ht
    rw [Array.getElem?_toList, Array.getElem?_eq_getElem hs, ← getElem!_pos (flatK encPB 2 P.toArray) t hs, h2]
    have h3 : P.toArray[t / 2]! = P[t / 2] := by rw [getElem!_pos P.toArray (t / 2) (by simp; omega)]; simp
    rw [h3, getElem!_pos (encPB P[t / 2]) (t % 2) (by show t % 2 < 2; omega), List.getElem?_eq_getElem (by show t % 2 < 2; omega)]
  · rw [List.getElem?_eq_none (show (P.flatMap encPB).length ≤ t by rw [hl]; omega), List.getElem?_eq_none (show (flatK encPB 2 P.toArray).toList.length ≤ t by rw [Array.length_toList, size_flatK]; simp; omega)]

theorem heap_sortedV {w : World} {g n : Nat} {os : Array Obj} {cur : Array Value} {e : TypeId} {fr : Nat × Nat} (d : Array Value) (hb : w.heap[g]? = some (.cells cur e fr)) :
    (grow (putRow id (Sort.ahead w n) g 0 d) os).heap[g]? = some (.cells (putCells id 0 d cur) e fr) := by
  have hg : g < w.heap.size := (Array.getElem?_eq_some_iff.1 hb).1
  rw [heap_grow_old _ _ (by simpa using hg)]
  simp [putRow, mapBlock, Sort.ahead, Array.getElem?_modify, hb, onCells]

theorem grownBy_sortedV {w : World} {g n : Nat} {os : Array Obj} (d : Array Value) : w.grownBy (grow (putRow id (Sort.ahead w n) g 0 d) os) (some g) := by
  refine ⟨rfl, rfl, rfl, by simp, fun k hk hne => ?_⟩
  rw [heap_grow_old _ _ (by simpa using hk)]
  have : g ≠ k := fun e => hne (by rw [e])
  simp [putRow, mapBlock, Sort.ahead, Array.getElem?_modify, this]

theorem take_putCellsV (cur : Array Value) (F : Array Value) (h : F.size ≤ cur.size) : (putCells id 0 F cur).toList.take F.size = F.toList := by
  apply List.ext_getElem?
  intro j
  by_cases hj : j < F.size
  · rw [List.getElem?_take_of_lt hj, Array.getElem?_toList]
    simp [putCells, hj, show j < cur.size by omega]
  · rw [List.getElem?_take_eq_none (by omega), List.getElem?_eq_none (by simp; omega)]

theorem holdsK_pairs {w : World} {g : Nat} {cur : Array Value} {e : TypeId} {P : List PairB} (hb : w.heap[g]? = some (.cells cur e (0, 0))) (ht : cur.toList.take (P.length * 2) = P.flatMap encPB) : HoldsK encPB 2 w g 0 P.toArray := by
  intro j hj
  have hj' : j < P.length * 2 := by simpa using hj
  refine ⟨?_, by simp [World.frozen?, hb]⟩
  have h1 : (cur.toList.take (P.length * 2))[j]? = (flatK encPB 2 P.toArray).toList[j]? := by rw [ht, flatK_pairs]
  rw [List.getElem?_take_of_lt hj', Array.getElem?_toList, Array.getElem?_toList, Array.getElem?_eq_getElem hj] at h1
  rw [Nat.zero_add, cells_at hb, h1, getElem!_pos _ j hj]
  rfl

set_option linter.unusedSimpArgs false in
set_option maxRecDepth 100000 in
set_option maxHeartbeats 1000000 in
theorem make1N_spec (x y : PairB) (W : World) : Calls Tryz.prog 94 #[.agg #[.string x.1, .string x.2], .agg #[.string y.1, .string y.2]] W fun e w' => e = .returned (.int .i64 (cfP x y)) ∧ ∃ q os', w' = grow (W.drewN q) os' := by
  have hcon := fun W' => Tryz.strings_Compare x.1 y.1 W'
  unfold cfP
  generalize Lib.compareBytes x.1.data.toList y.1.data.toList = r at hcon ⊢
  go_enter Tryz.func94, Tryz.ntmps94
  go_wp2_with (go_at_call 95; refine (hcon _).mono ?_; rintro e w' ⟨rfl, rfl⟩)
  go_ret
  exact ⟨rfl, 0, _, by rw [alloc_eq_grow, alloc_eq_grow, grow_grow]; rfl⟩

theorem cmpLaysP (blk off size : Nat) (w : World) : CmpLays Tryz.prog 94 #[] encPB 2 cfP blk off size w :=
  fun _ _ _ _ x y => make1N_spec x y _

theorem pdqN_spec (w : World) (base g cap : Nat) (P : List PairB) (h : w.ownsRow base 138 2 (.slice (some ⟨g, 0, none⟩) P.length cap) P.length (P.flatMap encPB)) (h12 : P.length ≤ 12) (lim : Int) :
    Calls Tryz.prog 133 #[.slice (some ⟨g, 0, none⟩) P.length cap, .int .i64 0, .int .i64 P.length, .int .i64 lim, .func (.func 94) #[] #[]] w fun e w' => e = .returned (.tuple #[]) ∧
      w'.ownsRow base 138 2 (.slice (some ⟨g, 0, none⟩) P.length cap) P.length ((sortP P).flatMap encPB) ∧ w.grownBy w' (some g) := by
  obtain ⟨hxl, ⟨hn, -⟩ | ⟨g', cap', cur, hv, hbase, hb, h1, h2, h3, h4⟩⟩ := h
  · cases hn
  cases hv
  have eg : ∀ args w, (callFunc 94 args).run Tryz.prog w = .ok (.enter 94 args) w := enters_of Tryz.func94 (by kernel_rfl) rfl
  have hs : P.toArray.size = P.length := by simp
  have hcon := AnyQ.pdqsortCmpFunc_small Tryz.pdqP 2 Tryz.isAgg138 Tryz.sizeOf138 encPB (fun _ => rfl) (fun x v hv => by simp [encPB] at hv; rcases hv with rfl | rfl <;> rfl) cfP 94 #[] g 0 cap 0 P.toArray.size lim P.toArray w eg (cmpLaysP g 0 _ w) (holdsK_pairs hb h4) (lt_of_at hb) (Nat.zero_le _) (Nat.le_refl _) (by omega) (by omega)
  change Calls Tryz.prog 133 _ _ _ at hcon
  rw [insertionSortP, hs] at hcon
  refine hcon.mono ?_
  rintro e w' ⟨rfl, n, os, rfl⟩
  unfold sortWorldK putRowK
  have hfs : (flatK encPB 2 (sortP P).toArray).size = P.length * 2 := by rw [size_flatK]; simp [sortP_len]
  refine ⟨rfl, ⟨by rw [← flatK_pairs, Array.length_toList, hfs], .inr ⟨g, cap, _, rfl, hbase, heap_sortedV _ hb, h1, h2, by simp [putCells, h3], ?_⟩⟩, grownBy_sortedV _⟩
  have := take_putCellsV cur (flatK encPB 2 (sortP P).toArray) (by rw [hfs, h3]; omega)
  rw [hfs, flatK_pairs] at this
  exact this

set_option linter.unusedSimpArgs false in
set_option maxRecDepth 100000 in
set_option maxHeartbeats 1000000 in
theorem sortN_spec (w : World) (base g cap : Nat) (P : List PairB) (h : w.ownsRow base 138 2 (.slice (some ⟨g, 0, none⟩) P.length cap) P.length (P.flatMap encPB)) (h12 : P.length ≤ 12) :
    Calls Tryz.prog 93 #[.slice (some ⟨g, 0, none⟩) P.length cap, .func (.func 94) #[] #[]] w fun e w' => e = .returned (.tuple #[]) ∧
      w'.ownsRow base 138 2 (.slice (some ⟨g, 0, none⟩) P.length cap) P.length ((sortP P).flatMap encPB) ∧ w.grownBy w' (some g) := by
  have HP := Lib.hid (fun lim => pdqN_spec w base g cap P h h12 lim)
  have hl12 : (P.length : Int) ≤ 12 := by omega
  clear h
  go_enter Tryz.func93, Tryz.ntmps93
  go_wp2_with fail
  refine (Tryz.bits_Len _ w (by omega) (by omega)).mono ?_
  rintro e w ⟨rfl, rfl⟩
  go_wp2_with fail
  refine (HP.out _).mono ?_
  rintro e w1 ⟨rfl, hr, hg⟩
  have H1 := Lib.hid (And.intro hr hg)
  clear hr hg
  go_wp2_with fail
  go_end0
  exact ⟨rfl, H1.out⟩

set_option maxRecDepth 100000 in
set_option maxHeartbeats 1000000 in
theorem cloneN_spec (w : World) (B : Nat) (v : Value) (P : List PairB) (h : w.ownsRow B 138 2 v P.length (P.flatMap encPB)) (h0 : 0 < P.length) (h12 : P.length ≤ 12) :
    Calls Tryz.prog 92 #[v] w fun e w' => ∃ v', e = .returned v' ∧ w'.ownsRow w.heap.size 138 2 v' P.length (P.flatMap encPB) ∧ Keeps [] w w' := by
  have qT : ∀ (w : World) (a : Option Addr) (n c : Nat), (binOp .eql 73 (.slice a n c) (.slice none 0 0)).run Tryz.prog w = .ok (.bool a.isNone) w := fun w a n c => run_eql_slice_nilP w _ _ a n c Tryz.underlying73
  obtain ⟨ip, hip, hz0, hz1, hz2⟩ := info_parts infoPair
  obtain ⟨hxl, ⟨-, hn⟩ | ⟨g, c, cur, rfl, hbase, hg, h1, h2, h3, h4⟩⟩ := h
  · omega
  have k0 : Keeps [] w (w.alloc (.cells #[] 138)) := (Keeps.refl [] w).alloc _
  have hg2 := k0.at_ hg (by simp)
  have hnews : ∀ j u, (P.flatMap encPB)[j]? = some u → (w.alloc (.cells #[] 138)).cell? ((⟨g, 0, none⟩ : Addr).add j) = some u := fun j u hu => by
    have hadd : (⟨g, 0, none⟩ : Addr).add j = ⟨g, j, none⟩ := by unfold Addr.add; split <;> simp_all
    have hj : j < P.length * 2 := by rw [← hxl]; exact (List.getElem?_eq_some_iff.1 hu).1
    rw [hadd, cells_at hg2, ← Array.getElem?_toList, ← List.getElem?_take_of_lt hj, h4]
    exact hu
  have hone : ∀ u ∈ P.flatMap encPB, u.oneCell' = true := fun u hu => by
    obtain ⟨p, -, hp⟩ := List.mem_flatMap.1 hu
    simp [encPB] at hp
    rcases hp with rfl | rfl <;> rfl
  have H0 := Lib.hid (And.intro (own_made w w.heap.size 138 2 (Nat.le_refl _)) (And.intro k0 (And.intro hnews (And.intro hone hxl))))
  clear k0 hg2 hg hnews hone hxl h3 h4
  go_enter Tryz.func92, Tryz.ntmps92
  go_wp2_with (at_builtin; refine wpList_append_own _ rfl (.tmp 5) (.tmp 6) 73 rfl w.heap.size 138 ip _ 2 32 Tryz.underlying73 hip hz0 hz1 hz2 rfl (by decide) (.slice (some ⟨w.heap.size, 0, none⟩) 0 0) 0 [] rfl H0.out.1 ⟨g, 0, none⟩ P.length c (P.flatMap encPB) rfl H0.out.2.2.2.2 H0.out.2.2.1 H0.out.2.2.2.1 (by simp only [maxLen]; omega) (by omega) (by simp) ?_; intro v8 w8 hown8 hgrow8 hnil; clear hnil)
  go_ret
  exact ⟨_, rfl, by simpa using hown8, keeps_own H0.out.2.1 hgrow8 (fun q hq => (World.ownsRow.lt H0.out.1 q hq).1)⟩

def MakeNPost (w : World) (P : List PairB) (e : Ending) (w' : World) : Prop := ∃ v, e = .returned (.tuple #[v, .int .i64 0]) ∧ w'.ownsRow w.heap.size 138 2 v P.length ((sortP P).flatMap encPB) ∧ Keeps [] w w'

set_option maxRecDepth 100000 in
set_option maxHeartbeats 1000000 in
theorem makeN_spec (w : World) (B : Nat) (v : Value) (P : List PairB) (h : w.ownsRow B 138 2 v P.length (P.flatMap encPB)) (h0 : 0 < P.length) (h12 : P.length ≤ 12) (hc : chkSet (sortP P) = true) :
    Calls Tryz.prog 55 #[v] w (MakeNPost w P) := by
  have H0 := Lib.hid h
  obtain ⟨av, cv, rfl, -, -, -⟩ := row_slice h
  have HC := Lib.hid hc
  clear h hc
  go_enter Tryz.func55, Tryz.ntmps55
  go_wp2_with fail
  refine (cloneN_spec w B _ P H0.out h0 h12).mono ?_
  rintro e w1 ⟨v1, rfl, hr1, hk1⟩
  have H1 := Lib.hid (And.intro hr1 hk1)
  obtain ⟨_, ⟨-, hn⟩ | ⟨g1, c1, cur1, rfl, -⟩⟩ := hr1
  · omega
  clear hk1
  go_wp2_with fail
  refine (sortN_spec w1 _ g1 c1 P H1.out.1 h12).mono ?_
  rintro e w2 ⟨rfl, hr2, hg2⟩
  have hk2 : Keeps [] w w2 := keeps_own H1.out.2 hg2 (fun q hq => (World.ownsRow.lt H1.out.1 q (by simpa [Value.ownBlock] using hq)).1)
  have H2 := Lib.hid (And.intro hr2 hk2)
  clear hr2 hg2 hk2
  have Hl := Lib.hid (sortP_len P)
  go_wp2_with fail
  refine (checkN_spec w2 _ (sortP P) (row_pairs (P := sortP P) (by rw [Hl.out]; exact H2.out.1)) HC.out).mono ?_
  rintro e w3 ⟨rfl, hk3⟩
  have H3 := Lib.hid (go1 hk3 H2.out)
  clear hk3
  go_wp2_with fail
  go_ret2
  exact ⟨_, rfl, H3.out.1, H3.out.2⟩
end Go.Proofs.YtlifonflgcfafaaGreatDoor
