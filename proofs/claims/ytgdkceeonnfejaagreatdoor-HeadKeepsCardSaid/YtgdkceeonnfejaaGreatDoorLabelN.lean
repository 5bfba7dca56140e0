/-
  Package label at few pairs that may be a set, each name once: goodName, Check, Make (twelve pairs at most), walked.
  No condition beyond those that each theorem states.

  slices.Clone of a set of labels: the same pairs in a row of the walk's own.
  The set has at least one pair, at most a thousand.

  A range over a function whose iterator stores into ONE cell of its own between its rounds: the loop's law; strings.SplitSeq at a separator of one byte, whatever the text: the contract of the function that it hands back.
  The text is shorter than 4294967281 bytes; the library's variable internal/bytealg.MaxLen holds some number.

  label.Parse at a text of twelve pairs at most that may be a set.
  The library's variable internal/bytealg.MaxLen holds some number; the text is no longer than 1000000 bytes.
-/
import Derived.Test.YtgdkceeonnfejaaGreatDoorLabel1
import Derived.Test.YtgdkceeonnfejaaGreatDoorPairs
import Derived.Test.YtgdkceeonnfejaaGreatDoorShelfA
import Derived.Test.YtgdkceeonnfejaaGreatDoorGetP
import Derived.Test.YtgdkceeonnfejaaGreatDoorPostLaw
import Derived.RangeFuncWrites
namespace Go.Proofs.YtgdkceeonnfejaaGreatDoor
set_option maxRecDepth 100000
set_option maxHeartbeats 2000000
set_option linter.unusedSimpArgs false
open Go Go.RowKit Go.Sort Go.Lib
attribute [local go_sem] Oper.semAt_some
@[local go_sem] theorem binOp_geqS (t : TypeId) (a b : ByteArray) : binOp .geq t (.string a) (.string b) = pure (.bool !(Op.bytesLess a.toList b.toList)) := by simp [binOp, Op.stringOp]
/-! ### goodName -/
def letterN (c : Nat) : Bool := (decide (97 ≤ c) && decide (c ≤ 122)) || (decide (65 ≤ c) && decide (c ≤ 90)) || decide (c = 95)
def okAt (i c : Nat) : Bool := letterN c || (decide (i ≠ 0) && decide (48 ≤ c) && decide (c ≤ 57))
def goodB (s : ByteArray) : Bool := decide (s ≠ ⟨#[]⟩) && decide (s.size ≤ 40) && (List.range s.size).all fun i => okAt i (s.data.toList.getD i 0).toNat
theorem goodB_at {s : ByteArray} (h : goodB s = true) (i : Nat) (hi : i < s.size) : okAt i (s[i]'hi).toNat = true := by
 unfold goodB at h
 simp only [Bool.and_eq_true, List.all_eq_true, List.mem_range] at h
 have := h.2 i hi
 rwa [List.getD_eq_getElem?_getD, Lib.data_getElem? s i hi, Option.getD_some] at this
theorem goodN_spec (w : World) (s : ByteArray) (h : goodB s = true) :
  Calls Tryz.prog 65 #[.string s] w fun e w' => e = .returned (.bool true) ∧ Keeps [] w w' := by
 obtain ⟨cp, W, hrun, hkW, hlW, hcW⟩ := run_stringBy w s
 have HC := Lib.hid (And.intro hcW (goodB_at h))
 have h40 : s.size ≤ 40 ∧ s ≠ ⟨#[]⟩ := by
  unfold goodB at h
  simp only [Bool.and_eq_true, decide_eq_true_eq] at h
  exact ⟨h.1.2, h.1.1⟩
 have HW := Lib.hid (And.intro hkW h40)
 have hz : (s.size : Int) ≤ 40 := by omega
 clear hkW hcW h h40
 go_enter Tryz.func65, Tryz.ntmps65
 go_wp2_with fail
 clear hrun
 generalize w.heap.size = sb at hlW HC ⊢
 go_loopg [9] s.size (fun gk u9 wr => ∃ k : Nat, k ≤ s.size ∧ gk = s.size - k ∧ u9 = .int .i64 k ∧ wr = W)
 case atStart => exact ⟨0, by omega, rfl, rfl, rfl⟩
 case round =>
  obtain ⟨k, hk, hgk, rfl, rfl⟩ := hrel
  have Hg := Lib.hid hgk
  clear hgk
  by_cases hlt : k < s.size
  ·have hlt' : (k : Int) < (s.size : Int) := by omega
   have hc := HC.out.1 k hlt
   have hok := HC.out.2 k hlt
   generalize (s[k]'hlt).toNat = c at hc hok
   unfold okAt letterN at hok
   simp only [Bool.or_eq_true, Bool.and_eq_true, decide_eq_true_eq] at hok
   by_cases a1 : 97 ≤ c ∧ c ≤ 122
   ·have x1 : (97 : Int) ≤ (c : Int) := by omega
    have x2 : (c : Int) ≤ 122 := by omega
    clear a1 hok
    go_wp2_with fail
    go_roundg (s.size - (k + 1))
    case measure => have := Hg.out; omega
    case rel => exact ⟨k + 1, hlt, rfl, by go_num, rfl⟩
   by_cases a2 : 65 ≤ c ∧ c ≤ 90
   ·have x1 : ¬ (97 : Int) ≤ (c : Int) := by omega
    have x2 : (65 : Int) ≤ (c : Int) := by omega
    have x3 : (c : Int) ≤ 90 := by omega
    clear a1 a2 hok
    go_wp2_with fail
    go_roundg (s.size - (k + 1))
    case measure => have := Hg.out; omega
    case rel => exact ⟨k + 1, hlt, rfl, by go_num, rfl⟩
   by_cases a3 : c = 95
   ·subst a3
    clear a1 a2 hok
    go_wp2_with fail
    go_roundg (s.size - (k + 1))
    case measure => have := Hg.out; omega
    case rel => exact ⟨k + 1, hlt, rfl, by go_num, rfl⟩
   ·have hd : k ≠ 0 ∧ 48 ≤ c ∧ c ≤ 57 := by omega
    have x1 : ¬ (97 : Int) ≤ (c : Int) := by omega
    have x2 : ¬ (65 : Int) ≤ (c : Int) := by omega
    have x3 : ((c : Int) == 95) = false := by rw [beq_eq_false_iff_ne]; omega
    have x4 : ((k : Int) == 0) = false := by rw [beq_eq_false_iff_ne]; omega
    have x5 : ¬ (c : Int) < 48 := by omega
    have x6 : ¬ (57 : Int) < (c : Int) := by omega
    clear a1 a2 a3 hok hd
    go_wp2_with fail
    go_roundg (s.size - (k + 1))
    case measure => have := Hg.out; omega
    case rel => exact ⟨k + 1, hlt, rfl, by go_num, rfl⟩
  ·have hlt' : ¬ (k : Int) < (s.size : Int) := by omega
   obtain ⟨q1, q2, q3⟩ := not_empty HW.out.2.2
   go_wp2_with fail
   go_ret
   exact ⟨rfl, HW.out.1⟩
/-! ### Check -/
def pairOk (P : List PairB) (i : Nat) : Bool := match P[i]? with
 | none => false
 | some p => goodB p.1 && decide (p.2 ≠ ⟨#[]⟩) && decide (p.2.size ≤ 40) && (match i with | 0 => true | j + 1 => match P[j]? with | some q => Op.bytesLess q.1.toList p.1.toList | none => false)
def chkSet (P : List PairB) : Bool := decide (P.length ≠ 0) && decide (P.length ≤ 8) && (List.range P.length).all (pairOk P)
theorem chkSet_at {P : List PairB} (h : chkSet P = true) (i : Nat) (hi : i < P.length) : goodB P[i].1 = true ∧ P[i].2 ≠ ⟨#[]⟩ ∧ P[i].2.size ≤ 40 ∧ ∀ j, i = j + 1 → ∀ hj : j < P.length, Op.bytesLess P[j].1.toList P[i].1.toList = true := by
 unfold chkSet at h
 simp only [Bool.and_eq_true, List.all_eq_true, List.mem_range] at h
 have h1 := h.2 i hi
 unfold pairOk at h1
 rw [List.getElem?_eq_getElem hi] at h1
 simp only [Bool.and_eq_true, decide_eq_true_eq] at h1
 refine ⟨h1.1.1.1, h1.1.1.2, h1.1.2, fun j e hj => ?_⟩
 subst e
 have h2 := h1.2
 simp only [List.getElem?_eq_getElem hj] at h2
 exact h2
def CkRel (w : World) (n : Nat) (gk : Nat) (u15 : Value) (wr : World) : Prop := ∃ k, k ≤ n ∧ gk = n - k ∧ u15 = .int .i64 k ∧ Keeps [] w wr
theorem checkN_spec (w : World) (v : Value) (P : List PairB) (h : SliceArg 2 encPB w v P) (hc : chkSet P = true) :
  Calls Tryz.prog 37 #[v] w fun e w' => e = .returned (.int .i64 0) ∧ Keeps [] w w' := by
 have Hf := Lib.hid h
 obtain ⟨ao, cap, rfl, hl, -⟩ := h
 have hn : P.length ≠ 0 ∧ P.length ≤ 8 := by
  unfold chkSet at hc
  simp only [Bool.and_eq_true, decide_eq_true_eq] at hc
  exact hc.1
 have n0 : ((P.length : Int) == 0) = false := by rw [beq_eq_false_iff_ne]; omega
 have n8 : ¬ (8 : Int) < (P.length : Int) := by omega
 have HC := Lib.hid (And.intro (chkSet_at hc) hn.2)
 clear hc hl hn
 go_enter Tryz.func37, Tryz.ntmps37
 go_wp2_with fail
 clear n0 n8
 go_loopg [15] P.length (CkRel w P.length)
 case atStart => exact ⟨0, Nat.zero_le _, rfl, rfl, Keeps.refl _ _⟩
 case round =>
  obtain ⟨k, hk, hgk, rfl, hkw⟩ := hrel
  have Hg := Lib.hid hgk
  clear hgk
  by_cases hlt : k < P.length
  ·have hlt' : (k : Int) < (P.length : Int) := by omega
   have hl8 : (P.length : Int) ≤ 8 := by have := HC.out.2; omega
   obtain ⟨b, off, cap', ea, hbW, d0, d1⟩ := pair_at (Hf.out.keep hkw) k hlt
   injection ea with ea _ ec
   subst ea ec
   obtain ⟨c1, c2, c3, c4⟩ := HC.out.1 k hlt
   generalize hp : P[k] = p at d0 d1 c1 c2 c3 c4
   obtain ⟨p1, p2⟩ := p
   dsimp only at d0 d1 c1 c2 c3 c4
   obtain ⟨q1, q2, q3⟩ := not_empty c2
   have c3' : ¬ (40 : Int) < (p2.size : Int) := by omega
   have Hgood := Lib.hid c1
   obtain ⟨W0, hW0⟩ : ∃ W0, W0 = (wr.alloc (.cells #[.string p1, .string p2] 149)).drew := ⟨_, rfl⟩
   have hpn := heap_new wr (.cells #[.string p1, .string p2] 149)
   have F0 : ∀ s : Kept W0, s.val.cell? ⟨wr.heap.size, 0, none⟩ = some (.string p1) := keptCell (by rw [hW0]; exact cells_at hpn 0)
   have F1 : ∀ s : Kept W0, s.val.cell? ⟨wr.heap.size, 1, none⟩ = some (.string p2) := keptCell (by rw [hW0]; exact cells_at hpn 1)
   have kW : Keeps [] wr W0 := by rw [hW0]; exact ((Keeps.refl [] wr).alloc _).drew
   match k, hk, hlt, hlt', hkw, Hg, d0, d1, c4, hp with
   | 0, hk, hlt, hlt', hkw, Hg, d0, d1, c4, hp =>
    have d0' : wr.cell? ⟨b, off, none⟩ = some (.string p1) := by simpa using d0
    have d1' : wr.cell? ⟨b, off + 1, none⟩ = some (.string p2) := by simpa using d1
    have HW := Lib.hid (And.intro hW0 (hkw.trans kW))
    clear hkw hW0 hpn c1 c2 c3 c4 hp kW
    go_upto_region 6 with fail
    refine wp_region_held_drew (S := KeptS W0) (by kernel_rfl) (by rw [← HW.out.1]; exact keptS (Keeps.refl _ _)) (fun hS => ?_)
    rw [← HW.out.1] at hS ⊢
    generalize wr.heap.size = pb at F0 F1 ⊢
    clear d0 d1 d0' d1'
    refine tk (v := ?_) 0 rfl ?_ ?_; rotate_left
    ·rintro _ ⟨s, rfl⟩; go_simp; (try with_reducible rfl)
    simp only [Act.put, zz]
    refine tk (v := ?_) 1 rfl ?_ ?_; rotate_left
    ·rintro _ ⟨s, rfl⟩; go_simp; (try with_reducible rfl)
    simp only [Act.put, zz]
    refine rd 2 rfl fun K hK => ?_
    go_simp
    go_at_call 65
    refine (goodN_spec _ p1 Hgood.out).mono ?_
    rintro e A1 ⟨rfl, kA1⟩
    go_simp
    refine hK.out _ _ (keptS kA1) (fun hS => ?_)
    clear hK K
    try simp only [Act.put, zz]
    refine tk (v := ?_) 3 rfl ?_ ?_; rotate_left
    ·rintro _ ⟨s, rfl⟩; go_simp; (try with_reducible rfl)
    simp only [Act.put, zz]
    refine tk (v := ?_) 4 rfl ?_ ?_; rotate_left
    ·rintro _ ⟨s, rfl⟩; go_simp; (try with_reducible rfl)
    simp only [Act.put, zz]
    refine tk (v := ?_) 5 rfl ?_ ?_; rotate_left
    ·rintro _ ⟨s, rfl⟩; go_simp; (try with_reducible rfl)
    simp only [Act.put, zz]
    refine tk (v := ?_) 6 rfl ?_ ?_; rotate_left
    ·rintro _ ⟨s, rfl⟩; go_simp; (try with_reducible rfl)
    simp only [Act.put, zz]
    refine tk (v := ?_) 7 rfl ?_ ?_; rotate_left
    ·rintro _ ⟨s, rfl⟩; go_simp; (try with_reducible rfl)
    simp only [Act.put, zz]
    refine tk (v := ?_) 8 rfl ?_ ?_; rotate_left
    ·rintro _ ⟨s, rfl⟩; go_simp; (try with_reducible rfl)
    simp only [Act.put, zz]
    refine tk (v := ?_) 9 rfl ?_ ?_; rotate_left
    ·rintro _ ⟨s, rfl⟩; go_simp; (try with_reducible rfl)
    simp only [Act.put, zz]
    refine tk (v := ?_) 10 rfl ?_ ?_; rotate_left
    ·rintro _ ⟨s, rfl⟩; go_simp; (try with_reducible rfl)
    simp only [Act.put, zz]
    refine tk (v := ?_) 11 rfl ?_ ?_; rotate_left
    ·rintro _ ⟨s, rfl⟩; go_simp; (try with_reducible rfl)
    simp only [Act.put, zz]
    refine tk (v := ?_) 12 rfl ?_ ?_; rotate_left
    ·rintro _ ⟨s, rfl⟩; go_simp; (try with_reducible rfl)
    simp only [Act.put, zz]
    refine tk (v := ?_) 13 rfl ?_ ?_; rotate_left
    ·rintro _ ⟨s, rfl⟩; go_simp; (try with_reducible rfl)
    simp only [Act.put, zz]
    refine tk (v := ?_) 14 rfl ?_ ?_; rotate_left
    ·rintro _ ⟨s, rfl⟩; go_simp; (try with_reducible rfl)
    simp only [Act.put, zz]
    refine tk (v := ?_) 15 rfl ?_ ?_; rotate_left
    ·rintro _ ⟨s, rfl⟩; go_simp; (try with_reducible rfl)
    simp only [Act.put, zz]
    refine tk (v := ?_) 16 rfl ?_ ?_; rotate_left
    ·rintro _ ⟨s, rfl⟩; go_simp; (try with_reducible rfl)
    simp only [Act.put, zz]
    refine tk (v := ?_) 17 rfl ?_ ?_; rotate_left
    ·rintro _ ⟨s, rfl⟩; go_simp; (try with_reducible rfl)
    simp only [Act.put, zz]
    refine tk (v := ?_) 18 rfl ?_ ?_; rotate_left
    ·rintro _ ⟨s, rfl⟩; go_simp; (try with_reducible rfl)
    simp only [Act.put, zz]
    refine sk 19 rfl ?_
    simp only [Act.put, zz]
    refine sk 20 rfl ?_
    simp only [Act.put, zz]
    refine sk 21 rfl ?_
    simp only [Act.put, zz]
    refine sk 22 rfl ?_
    simp only [Act.put, zz]
    refine sk 23 rfl ?_
    simp only [Act.put, zz]
    refine sk 24 rfl ?_
    simp only [Act.put, zz]
    refine sk 25 rfl ?_
    simp only [Act.put, zz]
    refine sk 26 rfl ?_
    simp only [Act.put, zz]
    refine sk 27 rfl ?_
    simp only [Act.put, zz]
    refine tk (v := ?_) 28 rfl ?_ ?_; rotate_left
    ·rintro _ ⟨s, rfl⟩; go_simp; (try with_reducible rfl)
    simp only [Act.put, zz]
    refine tk (v := ?_) 29 rfl ?_ ?_; rotate_left
    ·rintro _ ⟨s, rfl⟩; go_simp; (try with_reducible rfl)
    simp only [Act.put, zz]
    refine wpAnyH_done (by kernel_rfl) ?_ _
    have H1 := Lib.hid (HW.out.2.trans kA1)
    clear hS kA1 F0 F1
    go_wp2_with fail
    go_roundg (P.length - 1)
    case measure => have := Hg.out; omega
    case rel => exact ⟨1, by omega, rfl, rfl, H1.out⟩
   | j + 1, hk, hlt, hlt', hkw, Hg, d0, d1, c4, hp =>
    have hj : j < P.length := by omega
    obtain ⟨b', off', cap', ea, -, e0, -⟩ := pair_at (Hf.out.keep hkw) j hj
    injection ea with ea _ ec
    injection ea with ea
    injection ea with eb eo _
    subst eb eo ec
    have hless := c4 j rfl hj
    generalize P[j].1 = pr at e0 hless
    have E0 : ∀ s : Kept W0, s.val.cell? ⟨b, off + j * 2, none⟩ = some (.string pr) := keptCell ((kW.cell hbW (by simp)).trans e0)
    have hwr : IntKind.i64.wrap (j : Int) = (j : Int) := IntWalk.i64_in _ (by have := HC.out.2; omega)
    have hj0 : (0 : Int) < (j : Int) + 1 := by omega
    have hjl : (j : Int) < (P.length : Int) := by omega
    have HW := Lib.hid (And.intro hW0 (hkw.trans kW))
    clear hkw hW0 hpn c1 c2 c3 c4 hp kW
    go_upto_region 6 with fail
    refine wp_region_held_drew (S := KeptS W0) (by kernel_rfl) (by rw [← HW.out.1]; exact keptS (Keeps.refl _ _)) (fun hS => ?_)
    rw [← HW.out.1] at hS ⊢
    generalize wr.heap.size = pb at F0 F1 ⊢
    clear d0 d1 e0
    refine tk (v := ?_) 0 rfl ?_ ?_; rotate_left
    ·rintro _ ⟨s, rfl⟩; go_simp; (try with_reducible rfl)
    simp only [Act.put, zz]
    refine tk (v := ?_) 1 rfl ?_ ?_; rotate_left
    ·rintro _ ⟨s, rfl⟩; go_simp; (try with_reducible rfl)
    simp only [Act.put, zz]
    refine rd 2 rfl fun K hK => ?_
    go_simp
    go_at_call 65
    refine (goodN_spec _ p1 Hgood.out).mono ?_
    rintro e A1 ⟨rfl, kA1⟩
    go_simp
    refine hK.out _ _ (keptS kA1) (fun hS => ?_)
    clear hK K
    try simp only [Act.put, zz]
    refine tk (v := ?_) 3 rfl ?_ ?_; rotate_left
    ·rintro _ ⟨s, rfl⟩; go_simp; (try with_reducible rfl)
    simp only [Act.put, zz]
    refine tk (v := ?_) 4 rfl ?_ ?_; rotate_left
    ·rintro _ ⟨s, rfl⟩; go_simp; (try with_reducible rfl)
    simp only [Act.put, zz]
    refine tk (v := ?_) 5 rfl ?_ ?_; rotate_left
    ·rintro _ ⟨s, rfl⟩; go_simp; (try with_reducible rfl)
    simp only [Act.put, zz]
    refine tk (v := ?_) 6 rfl ?_ ?_; rotate_left
    ·rintro _ ⟨s, rfl⟩; go_simp; (try with_reducible rfl)
    simp only [Act.put, zz]
    refine tk (v := ?_) 7 rfl ?_ ?_; rotate_left
    ·rintro _ ⟨s, rfl⟩; go_simp; (try with_reducible rfl)
    simp only [Act.put, zz]
    refine tk (v := ?_) 8 rfl ?_ ?_; rotate_left
    ·rintro _ ⟨s, rfl⟩; go_simp; (try with_reducible rfl)
    simp only [Act.put, zz]
    refine tk (v := ?_) 9 rfl ?_ ?_; rotate_left
    ·rintro _ ⟨s, rfl⟩; go_simp; (try with_reducible rfl)
    simp only [Act.put, zz]
    refine tk (v := ?_) 10 rfl ?_ ?_; rotate_left
    ·rintro _ ⟨s, rfl⟩; go_simp; (try with_reducible rfl)
    simp only [Act.put, zz]
    refine tk (v := ?_) 11 rfl ?_ ?_; rotate_left
    ·rintro _ ⟨s, rfl⟩; go_simp; (try with_reducible rfl)
    simp only [Act.put, zz]
    refine tk (v := ?_) 12 rfl ?_ ?_; rotate_left
    ·rintro _ ⟨s, rfl⟩; go_simp; (try with_reducible rfl)
    simp only [Act.put, zz]
    refine tk (v := ?_) 13 rfl ?_ ?_; rotate_left
    ·rintro _ ⟨s, rfl⟩; go_simp; (try with_reducible rfl)
    simp only [Act.put, zz]
    refine tk (v := ?_) 14 rfl ?_ ?_; rotate_left
    ·rintro _ ⟨s, rfl⟩; go_simp; (try with_reducible rfl)
    simp only [Act.put, zz]
    refine tk (v := ?_) 15 rfl ?_ ?_; rotate_left
    ·rintro _ ⟨s, rfl⟩; go_simp; (try with_reducible rfl)
    simp only [Act.put, zz]
    refine tk (v := ?_) 16 rfl ?_ ?_; rotate_left
    ·rintro _ ⟨s, rfl⟩; go_simp; (try with_reducible rfl)
    simp only [Act.put, zz]
    refine tk (v := ?_) 17 rfl ?_ ?_; rotate_left
    ·rintro _ ⟨s, rfl⟩; go_simp; (try with_reducible rfl)
    simp only [Act.put, zz]
    refine tk (v := ?_) 18 rfl ?_ ?_; rotate_left
    ·rintro _ ⟨s, rfl⟩; go_simp; (try with_reducible rfl)
    simp only [Act.put, zz]
    refine tk (v := ?_) 19 rfl ?_ ?_; rotate_left
    ·rintro _ ⟨s, rfl⟩; go_simp; (try with_reducible rfl)
    simp only [Act.put, zz]
    refine tk (v := ?_) 20 rfl ?_ ?_; rotate_left
    ·rintro _ ⟨s, rfl⟩; go_simp; (try with_reducible rfl)
    simp only [Act.put, zz]
    refine tk (v := ?_) 21 rfl ?_ ?_; rotate_left
    ·rintro _ ⟨s, rfl⟩; go_simp; (try with_reducible rfl)
    simp only [Act.put, zz]
    refine tk (v := ?_) 22 rfl ?_ ?_; rotate_left
    ·rintro _ ⟨s, rfl⟩; go_simp; (try with_reducible rfl)
    simp only [Act.put, zz]
    refine tk (v := ?_) 23 rfl ?_ ?_; rotate_left
    ·rintro _ ⟨s, rfl⟩; go_simp; (try with_reducible rfl)
    simp only [Act.put, zz]
    refine tk (v := ?_) 24 rfl ?_ ?_; rotate_left
    ·rintro _ ⟨s, rfl⟩; go_simp; (try with_reducible rfl)
    simp only [Act.put, zz]
    refine tk (v := ?_) 25 rfl ?_ ?_; rotate_left
    ·rintro _ ⟨s, rfl⟩; go_simp; (try with_reducible rfl)
    simp only [Act.put, zz]
    refine tk (v := ?_) 26 rfl ?_ ?_; rotate_left
    ·rintro _ ⟨s, rfl⟩; go_simp; (try with_reducible rfl)
    simp only [Act.put, zz]
    refine tk (v := ?_) 27 rfl ?_ ?_; rotate_left
    ·rintro _ ⟨s, rfl⟩; go_simp; (try with_reducible rfl)
    simp only [Act.put, zz]
    refine tk (v := ?_) 28 rfl ?_ ?_; rotate_left
    ·rintro _ ⟨s, rfl⟩; go_simp; (try with_reducible rfl)
    simp only [Act.put, zz]
    refine tk (v := ?_) 29 rfl ?_ ?_; rotate_left
    ·rintro _ ⟨s, rfl⟩; go_simp; (try with_reducible rfl)
    simp only [Act.put, zz]
    refine wpAnyH_done (by kernel_rfl) ?_ _
    have H1 := Lib.hid (HW.out.2.trans kA1)
    clear hS kA1 F0 F1 E0
    go_wp2_with fail
    go_roundg (P.length - (j + 1 + 1))
    case measure => have := Hg.out; omega
    case rel => exact ⟨j + 1 + 1, by omega, rfl, by go_num, H1.out⟩
  ·have hlt' : ¬ (k : Int) < (P.length : Int) := by omega
   have HW := Lib.hid hkw
   clear hkw
   go_wp2_with fail
   go_ret
   exact ⟨rfl, HW.out⟩
/-! ### Make: twelve pairs at most -/
def cfP (x y : PairB) : Int := Lib.compareBytes x.1.data.toList y.1.data.toList
def insUpto : Nat → Nat → Array PairB → Array PairB
 | 0, _, d => d
 | n + 1, i, d => insUpto n (i + 1) (insInner (ltOf cfP) 0 i d)
def sortP (P : List PairB) : List PairB := (insUpto (P.length - 1) 1 P.toArray).toList
theorem insOuter_upto (b : Nat) : ∀ (n i : Nat) (d : Array PairB), b - i = n → insOuter (ltOf cfP) 0 b i d = insUpto n i d
 | 0, i, d, h => by
  rw [insOuter, if_neg (by omega)]
  rfl
 | n + 1, i, d, h => by
  rw [insOuter, if_pos (by omega), insOuter_upto b n (i + 1) _ (by omega)]
  rfl
theorem size_insInnerP : ∀ (j : Nat) (d : Array PairB), (insInner (ltOf cfP) 0 j d).size = d.size
 | 0, d => rfl
 | j + 1, d => by
  unfold insInner
  split
  ·rw [size_insInnerP j]
   simp [swp]
  ·rfl
theorem size_insUpto : ∀ (n i : Nat) (d : Array PairB), (insUpto n i d).size = d.size
 | 0, _, _ => rfl
 | n + 1, i, d => by
  unfold insUpto
  rw [size_insUpto n, size_insInnerP]
theorem sortP_len (P : List PairB) : (sortP P).length = P.length := by
 unfold sortP
 rw [Array.length_toList, size_insUpto]
 simp
theorem insertionSortP (P : List PairB) : Sort.insertionSort (ltOf cfP) P.toArray 0 P.toArray.size = (sortP P).toArray := by
 unfold Sort.insertionSort sortP
 rw [insOuter_upto _ (P.length - 1) (0 + 1) P.toArray (by simp)]
theorem flatK_pairs (P : List PairB) : (flatK encPB 2 P.toArray).toList = P.flatMap encPB := by
 have hl : (P.flatMap encPB).length = P.length * 2 := by
  induction P with
  | nil => rfl
  | cons p P ih =>
   rw [List.flatMap_cons, List.length_append, ih, List.length_cons]
   show 2 + _ = _
   omega
 apply List.ext_getElem?
 intro t
 by_cases ht : t < P.length * 2
 ·have h1 := flatMap_at encPB 2 (fun _ => rfl) P (t / 2) (by omega) (t % 2) (by omega)
  rw [show t / 2 * 2 + t % 2 = t from by omega] at h1
  rw [h1]
  have h2 := get_flatK encPB 2 P.toArray t (by simpa using ht)
  have hs : t < (flatK encPB 2 P.toArray).size := by rw [size_flatK]; simpa using ht
  rw [Array.getElem?_toList, Array.getElem?_eq_getElem hs, ← getElem!_pos (flatK encPB 2 P.toArray) t hs, h2]
  have h3 : P.toArray[t / 2]! = P[t / 2] := by rw [getElem!_pos P.toArray (t / 2) (by simp; omega)]; simp
  rw [h3, getElem!_pos (encPB P[t / 2]) (t % 2) (by show t % 2 < 2; omega), List.getElem?_eq_getElem (by show t % 2 < 2; omega)]
 ·rw [List.getElem?_eq_none (show (P.flatMap encPB).length ≤ t by rw [hl]; omega), List.getElem?_eq_none (show (flatK encPB 2 P.toArray).toList.length ≤ t by rw [Array.length_toList, size_flatK]; simp; omega)]
theorem heap_sortedV {w : World} {g n : Nat} {os : Array Obj} {cur : Array Value} {e : TypeId} {fr : Nat × Nat} (d : Array Value) (hb : w.heap[g]? = some (.cells cur e fr)) :
  (grow (putRow id (Sort.ahead w n) g 0 d) os).heap[g]? = some (.cells (putCells id 0 d cur) e fr) := by
 have hg : g < w.heap.size := (Array.getElem?_eq_some_iff.1 hb).1
 rw [heap_grow_old _ _ (by simpa using hg)]
 simp [putRow, mapBlock, Sort.ahead, Array.getElem?_modify, hb, onCells]
theorem grownBy_sortedV {w : World} {g n : Nat} {os : Array Obj} (d : Array Value) : w.grownBy (grow (putRow id (Sort.ahead w n) g 0 d) os) (some g) := by
 refine ⟨rfl, rfl, rfl, by simp, fun k hk hne => ?_⟩
 rw [heap_grow_old _ _ (by simpa using hk)]
 have : g ≠ k := fun e => hne (by rw [e])
 simp [putRow, mapBlock, Sort.ahead, Array.getElem?_modify, this]
theorem take_putCellsV (cur : Array Value) (F : Array Value) (h : F.size ≤ cur.size) : (putCells id 0 F cur).toList.take F.size = F.toList := by
 apply List.ext_getElem?
 intro j
 by_cases hj : j < F.size
 ·rw [List.getElem?_take_of_lt hj, Array.getElem?_toList]
  simp [putCells, hj, show j < cur.size by omega]
 ·rw [List.getElem?_take_eq_none (by omega), List.getElem?_eq_none (by simp; omega)]
theorem holdsK_pairs {w : World} {g : Nat} {cur : Array Value} {e : TypeId} {P : List PairB} (hb : w.heap[g]? = some (.cells cur e (0, 0))) (ht : cur.toList.take (P.length * 2) = P.flatMap encPB) : HoldsK encPB 2 w g 0 P.toArray := by
 intro j hj
 have hj' : j < P.length * 2 := by simpa using hj
 refine ⟨?_, by simp [World.frozen?, hb]⟩
 have h1 : (cur.toList.take (P.length * 2))[j]? = (flatK encPB 2 P.toArray).toList[j]? := by rw [ht, flatK_pairs]
 rw [List.getElem?_take_of_lt hj', Array.getElem?_toList, Array.getElem?_toList, Array.getElem?_eq_getElem hj] at h1
 rw [Nat.zero_add, cells_at hb, h1, getElem!_pos _ j hj]
 rfl
theorem make1N_spec (x y : PairB) (W : World) : Calls Tryz.prog 96 #[.agg #[.string x.1, .string x.2], .agg #[.string y.1, .string y.2]] W fun e w' => e = .returned (.int .i64 (cfP x y)) ∧ ∃ q os', w' = grow (W.drewN q) os' := by
 have hcon := fun W' => Tryz.strings_Compare x.1 y.1 W'
 unfold cfP
 generalize Lib.compareBytes x.1.data.toList y.1.data.toList = r at hcon ⊢
 go_enter Tryz.func96, Tryz.ntmps96
 go_wp2_with (go_at_call 97; refine (hcon _).mono ?_; rintro e w' ⟨rfl, rfl⟩)
 go_ret
 exact ⟨rfl, 0, _, by rw [alloc_eq_grow, alloc_eq_grow, grow_grow]; rfl⟩
theorem cmpLaysP (blk off size : Nat) (w : World) : CmpLays Tryz.prog 96 #[] encPB 2 cfP blk off size w :=
 fun _ _ _ _ x y => make1N_spec x y _
theorem pdqN_spec (w : World) (base g cap : Nat) (P : List PairB) (h : w.ownsRow base 149 2 (.slice (some ⟨g, 0, none⟩) P.length cap) P.length (P.flatMap encPB)) (h12 : P.length ≤ 12) (lim : Int) :
  Calls Tryz.prog 125 #[.slice (some ⟨g, 0, none⟩) P.length cap, .int .i64 0, .int .i64 P.length, .int .i64 lim, .func (.func 96) #[] #[]] w fun e w' => e = .returned (.tuple #[]) ∧
   w'.ownsRow base 149 2 (.slice (some ⟨g, 0, none⟩) P.length cap) P.length ((sortP P).flatMap encPB) ∧ w.grownBy w' (some g) := by
 obtain ⟨hxl, ⟨hn, -⟩ | ⟨g', cap', cur, hv, hbase, hb, h1, h2, h3, h4⟩⟩ := h
 ·cases hn
 cases hv
 have eg : ∀ args w, (callFunc 96 args).run Tryz.prog w = .ok (.enter 96 args) w := enters_of Tryz.func96 (by kernel_rfl) rfl
 have hs : P.toArray.size = P.length := by simp
 have hcon := AnyQ.pdqsortCmpFunc_small Tryz.pdqP 2 Tryz.isAgg149 Tryz.sizeOf149 encPB (fun _ => rfl) (fun x v hv => by simp [encPB] at hv; rcases hv with rfl | rfl <;> rfl) cfP 96 #[] g 0 cap 0 P.toArray.size lim P.toArray w eg (cmpLaysP g 0 _ w) (holdsK_pairs hb h4) (lt_of_at hb) (Nat.zero_le _) (Nat.le_refl _) (by omega) (by omega)
 change Calls Tryz.prog 125 _ _ _ at hcon
 rw [insertionSortP, hs] at hcon
 refine hcon.mono ?_
 rintro e w' ⟨rfl, n, os, rfl⟩
 unfold sortWorldK putRowK
 have hfs : (flatK encPB 2 (sortP P).toArray).size = P.length * 2 := by rw [size_flatK]; simp [sortP_len]
 refine ⟨rfl, ⟨by rw [← flatK_pairs, Array.length_toList, hfs], .inr ⟨g, cap, _, rfl, hbase, heap_sortedV _ hb, h1, h2, by simp [putCells, h3], ?_⟩⟩, grownBy_sortedV _⟩
 have := take_putCellsV cur (flatK encPB 2 (sortP P).toArray) (by rw [hfs, h3]; omega)
 rw [hfs, flatK_pairs] at this
 exact this
theorem sortN_spec (w : World) (base g cap : Nat) (P : List PairB) (h : w.ownsRow base 149 2 (.slice (some ⟨g, 0, none⟩) P.length cap) P.length (P.flatMap encPB)) (h12 : P.length ≤ 12) :
  Calls Tryz.prog 95 #[.slice (some ⟨g, 0, none⟩) P.length cap, .func (.func 96) #[] #[]] w fun e w' => e = .returned (.tuple #[]) ∧
   w'.ownsRow base 149 2 (.slice (some ⟨g, 0, none⟩) P.length cap) P.length ((sortP P).flatMap encPB) ∧ w.grownBy w' (some g) := by
 have HP := Lib.hid (fun lim => pdqN_spec w base g cap P h h12 lim)
 have hl12 : (P.length : Int) ≤ 12 := by omega
 clear h
 go_enter Tryz.func95, Tryz.ntmps95
 go_wp2_with fail
 refine (Tryz.bits_Len _ w (by omega) (by omega)).mono ?_
 rintro e w ⟨rfl, rfl⟩
 go_wp2_with fail
 refine (HP.out _).mono ?_
 rintro e w1 ⟨rfl, hr, hg⟩
 have H1 := Lib.hid (And.intro hr hg)
 clear hr hg
 go_wp2_with fail
 go_end0
 exact ⟨rfl, H1.out⟩
theorem cloneN_spec (w : World) (B : Nat) (v : Value) (P : List PairB) (h : w.ownsRow B 149 2 v P.length (P.flatMap encPB)) (h0 : 0 < P.length) (h12 : P.length ≤ 12) :
  Calls Tryz.prog 94 #[v] w fun e w' => ∃ v', e = .returned v' ∧ w'.ownsRow w.heap.size 149 2 v' P.length (P.flatMap encPB) ∧ Keeps [] w w' := by
 have qT : ∀ (w : World) (a : Option Addr) (n c : Nat), (binOp .eql 84 (.slice a n c) (.slice none 0 0)).run Tryz.prog w = .ok (.bool a.isNone) w := fun w a n c => run_eql_slice_nilP w _ _ a n c Tryz.underlying84
 obtain ⟨ip, hip, hz0, hz1, hz2⟩ := info_parts infoPair
 obtain ⟨hxl, ⟨-, hn⟩ | ⟨g, c, cur, rfl, hbase, hg, h1, h2, h3, h4⟩⟩ := h
 ·omega
 have k0 : Keeps [] w (w.alloc (.cells #[] 149)) := (Keeps.refl [] w).alloc _
 have hg2 := k0.at_ hg (by simp)
 have hnews : ∀ j u, (P.flatMap encPB)[j]? = some u → (w.alloc (.cells #[] 149)).cell? ((⟨g, 0, none⟩ : Addr).add j) = some u := fun j u hu => by
  have hadd : (⟨g, 0, none⟩ : Addr).add j = ⟨g, j, none⟩ := by unfold Addr.add; split <;> simp_all
  have hj : j < P.length * 2 := by rw [← hxl]; exact (List.getElem?_eq_some_iff.1 hu).1
  rw [hadd, cells_at hg2, ← Array.getElem?_toList, ← List.getElem?_take_of_lt hj, h4]
  exact hu
 have hone : ∀ u ∈ P.flatMap encPB, u.oneCell' = true := fun u hu => by
  obtain ⟨p, -, hp⟩ := List.mem_flatMap.1 hu
  simp [encPB] at hp
  rcases hp with rfl | rfl <;> rfl
 have H0 := Lib.hid (And.intro (own_made w w.heap.size 149 2 (Nat.le_refl _)) (And.intro k0 (And.intro hnews (And.intro hone hxl))))
 clear k0 hg2 hg hnews hone hxl h3 h4
 go_enter Tryz.func94, Tryz.ntmps94
 go_wp2_with (at_builtin; refine wpList_append_own _ rfl (.tmp 5) (.tmp 6) 84 rfl w.heap.size 149 ip _ 2 32 Tryz.underlying84 hip hz0 hz1 hz2 rfl (by decide) (.slice (some ⟨w.heap.size, 0, none⟩) 0 0) 0 [] rfl H0.out.1 ⟨g, 0, none⟩ P.length c (P.flatMap encPB) rfl H0.out.2.2.2.2 H0.out.2.2.1 H0.out.2.2.2.1 (by simp only [maxLen]; omega) (by omega) (by simp) ?_; intro v8 w8 hown8 hgrow8 hnil; clear hnil)
 go_ret
 exact ⟨_, rfl, by simpa using hown8, keeps_own H0.out.2.1 hgrow8 (fun q hq => (World.ownsRow.lt H0.out.1 q hq).1)⟩
def MakeNPost (w : World) (P : List PairB) (e : Ending) (w' : World) : Prop := ∃ v, e = .returned (.tuple #[v, .int .i64 0]) ∧ w'.ownsRow w.heap.size 149 2 v P.length ((sortP P).flatMap encPB) ∧ Keeps [] w w'
theorem makeN_spec (w : World) (B : Nat) (v : Value) (P : List PairB) (h : w.ownsRow B 149 2 v P.length (P.flatMap encPB)) (h0 : 0 < P.length) (h12 : P.length ≤ 12) (hc : chkSet (sortP P) = true) :
  Calls Tryz.prog 64 #[v] w (MakeNPost w P) := by
 have H0 := Lib.hid h
 obtain ⟨av, cv, rfl, -, -, -⟩ := row_slice h
 have HC := Lib.hid hc
 clear h hc
 go_enter Tryz.func64, Tryz.ntmps64
 go_wp2_with fail
 refine (cloneN_spec w B _ P H0.out h0 h12).mono ?_
 rintro e w1 ⟨v1, rfl, hr1, hk1⟩
 have H1 := Lib.hid (And.intro hr1 hk1)
 obtain ⟨_, ⟨-, hn⟩ | ⟨g1, c1, cur1, rfl, -⟩⟩ := hr1
 ·omega
 clear hk1
 go_wp2_with fail
 refine (sortN_spec w1 _ g1 c1 P H1.out.1 h12).mono ?_
 rintro e w2 ⟨rfl, hr2, hg2⟩
 have hk2 : Keeps [] w w2 := keeps_own H1.out.2 hg2 (fun q hq => (World.ownsRow.lt H1.out.1 q (by simpa [Value.ownBlock] using hq)).1)
 have H2 := Lib.hid (And.intro hr2 hk2)
 clear hr2 hg2 hk2
 have Hl := Lib.hid (sortP_len P)
 go_wp2_with fail
 refine (checkN_spec w2 _ (sortP P) (row_pairs (P := sortP P) (by rw [Hl.out]; exact H2.out.1)) HC.out).mono ?_
 rintro e w3 ⟨rfl, hk3⟩
 have H3 := Lib.hid (go1 hk3 H2.out)
 clear hk3
 go_wp2_with fail
 go_ret2
 exact ⟨_, rfl, H3.out.1, H3.out.2⟩
open Go Go.RowKit
theorem cloneT_spec (w : World) (B : Nat) (v : Value) (P : List PairB) (h : w.ownsRow B 149 2 v P.length (P.flatMap encPB)) (h0 : 0 < P.length) (h12 : P.length ≤ 1000) :
  Calls Tryz.prog 67 #[v] w fun e w' => ∃ v', e = .returned v' ∧ w'.ownsRow w.heap.size 149 2 v' P.length (P.flatMap encPB) ∧ Keeps [] w w' := by
 have qT : ∀ (w : World) (a : Option Addr) (n c : Nat), (binOp .eql 85 (.slice a n c) (.slice none 0 0)).run Tryz.prog w = .ok (.bool a.isNone) w := fun w a n c => run_eql_slice_nilP w _ _ a n c Tryz.underlying85
 obtain ⟨ip, hip, hz0, hz1, hz2⟩ := info_parts infoPair
 obtain ⟨hxl, ⟨-, hn⟩ | ⟨g, c, cur, rfl, hbase, hg, h1, h2, h3, h4⟩⟩ := h
 ·omega
 have k0 : Keeps [] w (w.alloc (.cells #[] 149)) := (Keeps.refl [] w).alloc _
 have hg2 := k0.at_ hg (by simp)
 have hnews : ∀ j u, (P.flatMap encPB)[j]? = some u → (w.alloc (.cells #[] 149)).cell? ((⟨g, 0, none⟩ : Addr).add j) = some u := fun j u hu => by
  have hadd : (⟨g, 0, none⟩ : Addr).add j = ⟨g, j, none⟩ := by unfold Addr.add; split <;> simp_all
  have hj : j < P.length * 2 := by rw [← hxl]; exact (List.getElem?_eq_some_iff.1 hu).1
  rw [hadd, cells_at hg2, ← Array.getElem?_toList, ← List.getElem?_take_of_lt hj, h4]
  exact hu
 have hone : ∀ u ∈ P.flatMap encPB, u.oneCell' = true := fun u hu => by
  obtain ⟨p, -, hp⟩ := List.mem_flatMap.1 hu
  simp [encPB] at hp
  rcases hp with rfl | rfl <;> rfl
 have H0 := Lib.hid (And.intro (own_made w w.heap.size 149 2 (Nat.le_refl _)) (And.intro k0 (And.intro hnews (And.intro hone hxl))))
 clear k0 hg2 hg hnews hone hxl h3 h4
 go_enter Tryz.func67, Tryz.ntmps67
 go_wp2_with (at_builtin; refine wpList_append_own _ rfl (.tmp 5) (.tmp 6) 85 rfl w.heap.size 149 ip _ 2 32 Tryz.underlying85 hip hz0 hz1 hz2 rfl (by decide) (.slice (some ⟨w.heap.size, 0, none⟩) 0 0) 0 [] rfl H0.out.1 ⟨g, 0, none⟩ P.length c (P.flatMap encPB) rfl H0.out.2.2.2.2 H0.out.2.2.1 H0.out.2.2.2.1 (by simp only [maxLen]; omega) (by omega) (by simp) ?_; intro v8 w8 hown8 hgrow8 hnil; clear hnil)
 go_ret
 exact ⟨_, rfl, by simpa using hown8, keeps_own H0.out.2.1 hgrow8 (fun q hq => (World.ownsRow.lt H0.out.1 q hq).1)⟩
open Go Go.RowKit
def Stands (ks : List Nat) (W W' : World) : Prop := ∀ p ∈ ks, W'.heap[p]? = W.heap[p]?
theorem Stands.trans {ks : List Nat} {A B C : World} (h : Stands ks A B) (k : Stands ks B C) : Stands ks A C := fun p hp => (k p hp).trans (h p hp)
theorem Stands.put {ks : List Nat} {W : World} {d : Nat} (hk : ∀ p ∈ ks, p < d) (o : Obj) : Stands ks W (W.putObj (d + 1) o) := fun p hp => World.putObj_heap_other (by have := hk p hp; omega)
def SeqB {α : Type} (F : Fence) (n : Nat) (P : Program) (g : Nat) (lb : Array Value) (encs : α → Array Value) (b : Nat) (ks : List Nat) (S Sp : List α → Prop) (N : Nat) (Pre : World → Prop) : Prop :=
 ∀ (l : Nat) (J Jx : List α → World → Prop) (W : World), Pre W → (∀ s W v, J s W → J s (W.setCell ⟨b, 0, none⟩ v)) →
  (∀ pre x W1, J pre W1 → pre.length < N → Sp (pre ++ [x]) → YieldAt F (n - 1) P l (encs x) W1 fun e W' => (e = .returned (.bool true) ∧ J (pre ++ [x]) W' ∧ Stands ks W1 W') ∨ (e = .returned (.bool false) ∧ Jx (pre ++ [x]) W')) →
  J [] W → CallsIn F n P g (#[.func (.yield l) #[] #[]] ++ lb) W fun e W' => (∃ v, e = .returned v) ∧ ((∃ xs, S xs ∧ J xs W') ∨ (∃ pre, Sp pre ∧ Jx pre W'))
structure LoopAt (W : World) (d : Nat) (r : Loop) : Prop where
 rcd : W.heap[d + 1]? = some (.loop r)
 def_ : W.heap[d]? = some (.deferred (some []))
theorem LoopAt.put {W : World} {d : Nat} {r : Loop} (h : LoopAt W d r) (r' : Loop) : LoopAt (W.putObj (d + 1) (.loop r')) d r' :=
 ⟨World.putObj_heap_same (lt_of_at h.rcd), (World.putObj_heap_other (by omega)).trans h.def_⟩
theorem LoopAt.from {W W' : World} {d : Nat} {r : Loop} (h : LoopAt W d r) (k : KeepsFrom d W W') : LoopAt W' d r := ⟨k.same _ _ (by omega) h.rcd rfl, k.same _ _ (Nat.le_refl _) h.def_ rfl⟩
theorem LoopAt.set {W : World} {d b : Nat} {r : Loop} (h : LoopAt W d r) (hb : b < d) (v : Value) : LoopAt (W.setCell ⟨b, 0, none⟩ v) d r :=
 ⟨(Below.heap_setCell W ⟨b, 0, none⟩ v (d + 1) (fun e => by have : d + 1 = b := e; omega)).trans h.rcd, (Below.heap_setCell W ⟨b, 0, none⟩ v d (fun e => by have : d = b := e; omega)).trans h.def_⟩
theorem LoopAt.new (w : World) (r : Loop) : LoopAt ((w.alloc (.deferred (some []))).alloc (.loop r)) w.heap.size r :=
 ⟨(new2 w (.deferred (some [])) (.loop r)).2, (new2 w (.deferred (some [])) (.loop r)).1⟩
section
variable {F : Fence} {n : Nat} {P : Program}
theorem wpIn_rangeFunc_B {α : Type} {g : Operand} {ps : Array Tmp} {assign body : Code} {Q : Exit → Act → World → Prop} {a : Act} {w : World}
  (hro : F.round = none) (h1 : 1 ≤ n) {gf : Nat} {lb : Array Value} (hg : a.eval g = .func (.func gf) #[] lb) (hFg : F.fn gf) (eg : ∀ args w, (callFunc gf args).run P w = .ok (.enter gf args) w)
  {encs : α → Array Value} {b : Nat} {ks : List Nat} {S Sp : List α → Prop} {N : Nat} {Pre : World → Prop} (hseq : SeqB F (n - 1) P gf lb encs b ks S Sp N Pre) (hPre : ∀ W, Keeps [] w W → Pre W)
  (hb : b < w.heap.size) (hks : ∀ p ∈ ks, p < w.heap.size) (hps : ∀ x, (encs x).size = ps.size)
  (I : List α → World → Prop) (Ix : Code → List α → World → Prop) (hI : OwnFrom w.heap.size I) (hIx : ∀ c, OwnFrom w.heap.size (Ix c)) (hIb : ∀ s W v, I s W → I s (W.setCell ⟨b, 0, none⟩ v)) (h0 : I [] w) (a₁ : α → Act)
  (hassign : ∀ (l : Nat) (x : α) (W : World) (K : Act → World → Prop), K (a₁ x) W →
   assign.wpIn (F.inRound l) (n - 1 - 1) P (Exit.then K (fun _ _ _ => False)) { tmps := (ps.zip (encs x)).foldl (fun t (p, v) => t.setIfInBounds p v) a.tmps, defers := [] } W)
  (hbody : ∀ (l : Nat) (pre : List α) (x : α) (W : World), I pre W → pre.length < N → Sp (pre ++ [x]) → body.wpIn (F.inRound l) (n - 1 - 1) P (ownPostG w.heap.size (Stands ks) I Ix (pre ++ [x]) W) (a₁ x) W)
  (hdone : ∀ (D : Nat) (xs : List α) (W : World), w.heap.size ≤ D → S xs → I xs W → W.heap[D]? = some (.deferred (some [])) → Q .normal { a with defers := { target := .collected D, args := #[] } :: a.defers } W)
  (hstop : ∀ (D : Nat) (c : Code) (pre : List α) (W : World), w.heap.size ≤ D → Sp pre → Ix c pre W → W.heap[D]? = some (.deferred (some [])) → c.wpIn F n P Q { a with defers := { target := .collected D, args := #[] } :: a.defers } W) :
  (Code.rangeFunc g ps assign body).wpIn F n P Q a w := by
 refine wpIn_rangeFunc fun fn hfn => ?_
 rw [hro]
 -- the record in its states
 let r : LoopState → Option Code → Loop := fun st pe => { state := st, pending := pe, fn, tmps := a.tmps, params := ps, assign, body, defers := w.heap.size }
 have hnew := LoopAt.new w (r .ready none)
 have kW : Keeps [] w ((w.alloc (.deferred (some []))).alloc (.loop (r .ready none))) := ((Keeps.refl [] w).alloc _).alloc _
 have hI1 : I [] ((w.alloc (.deferred (some []))).alloc (.loop (r .ready none))) := hI.alloc _ (hI.alloc _ h0)
 obtain ⟨W1, hW1⟩ : ∃ W1, (w.alloc (.deferred (some []))).alloc (.loop (r .ready none)) = W1 := ⟨_, rfl⟩
 rw [hW1] at hnew kW hI1
 refine ⟨w.heap.size + 1, [{ target := .collected w.heap.size, args := #[] }], W1, { target := .fn (.func gf) lb, args := #[.func (.yield (w.heap.size + 1)) #[] #[]] }, W1, gf,
  #[.func (.yield (w.heap.size + 1)) #[] #[]] ++ lb, W1, by rw [← hW1]; exact run_enterLoop_outer _ _ _ _ _, ?_, ?_, ?_, fun _ => h1, ?_⟩
 ·simp only [resolve, hg]
  simp [go_sem]
 ·intro f' hf'
  simp [Target.leads] at hf'
  subst hf'
  exact hFg
 ·simp [invoke, go_sem, eg]
 refine (hseq (w.heap.size + 1) (fun pre W => I pre W ∧ LoopAt W w.heap.size (r .ready none)) (fun pre W => ∃ c, Ix c pre W ∧ LoopAt W w.heap.size (r .done (some c))) _ (hPre _ kW) (fun s W v h => ⟨hIb s W v h.1, h.2.set hb v⟩) ?_ ⟨hI1, hnew⟩).mono ?_
 ·-- a round: the record goes busy, the body runs, the record goes ready or done
  rintro pre x W ⟨hi, hl⟩ hlen hsp
  refine ⟨fn, _, assign, body, run_yield hl.rcd (hps x), roundIn_of_wpIn hfn (hassign _ x W _ ⟨_, run_beginRound hl.rcd rfl, ?_⟩)⟩
  have hl2 := hl.put { r .ready none with state := .busy }
  refine wpIn_mono (hbody _ pre x _ (hI.putObj _ hi (by omega) hl.rcd rfl) hlen hsp) ?_
  have fin : ∀ (jump : Option Code) (W3 : World), LoopAt W3 w.heap.size { r .ready none with state := .busy } → (Instr.endRound (w.heap.size + 1) jump).run P W3 = .ok (.bool jump.isNone) (W3.putObj (w.heap.size + 1) (.loop (r (if jump.isNone then .ready else .done) jump))) :=
   fun jump W3 h3 => run_endRound jump h3.rcd
  have out : ∀ (c : Code) (W3 : World), KeepsFrom w.heap.size (W.putObj (w.heap.size + 1) (.loop { r .ready none with state := .busy })) W3 → Ix c (pre ++ [x]) W3 → ∃ c', Ix c' (pre ++ [x]) (W3.putObj (w.heap.size + 1) (.loop (r .done (some c)))) ∧ LoopAt (W3.putObj (w.heap.size + 1) (.loop (r .done (some c)))) w.heap.size (r .done (some c')) :=
   fun c W3 k3 h => ⟨c, (hIx c).putObj _ h (by omega) (hl2.from k3).rcd rfl, (hl2.from k3).put _⟩
  intro e a3 W3 hp
  match e, hp with
  | .normal, ⟨k3, s3, i3⟩ => exact ⟨_, _, fin none W3 (hl2.from k3), .inl ⟨rfl, ⟨hI.putObj _ i3 (by omega) (hl2.from k3).rcd rfl, (hl2.from k3).put _⟩, ((Stands.put hks _).trans s3).trans (Stands.put hks _)⟩⟩
  | .ret, ⟨k3, i3⟩ => exact ⟨_, _, fin (some .ret) W3 (hl2.from k3), .inr ⟨rfl, out .ret W3 k3 i3⟩⟩
  | .exit id, ⟨k3, i3⟩ => exact ⟨_, _, fin (some (.exit id)) W3 (hl2.from k3), .inr ⟨rfl, out (.exit id) W3 k3 i3⟩⟩
  | .goto t, ⟨k3, i3⟩ => exact ⟨_, _, fin (some (.goto t)) W3 (hl2.from k3), .inr ⟨rfl, out (.goto t) W3 k3 i3⟩⟩
  | .panic _, h => exact h.elim
  | .outgrown, h => exact h.elim
 ·rintro e W2 ⟨⟨v, rfl⟩, ⟨xs, hS, hi, hl⟩ | ⟨pre, hSp, c, hi, hl⟩⟩
  ·exact ⟨none, _, run_endLoop hl.rcd (by simp [r]), hdone _ xs _ (Nat.le_refl _) hS (hI.putObj _ hi (by omega) hl.rcd rfl) ((World.putObj_heap_other (by omega)).trans hl.def_)⟩
  ·exact ⟨some c, _, run_endLoop hl.rcd (by simp [r]), hstop _ c pre _ (Nat.le_refl _) hSp ((hIx c).putObj _ hi (by omega) hl.rcd rfl) ((World.putObj_heap_other (by omega)).trans hl.def_)⟩
end
def partsL (c : UInt8) : List UInt8 → List (List UInt8)
 | [] => [[]]
 | x :: r => if x = c then [] :: partsL c r else (match partsL c r with | [] => [[x]] | p :: ps => (x :: p) :: ps)
theorem partsL_index (c : UInt8) : ∀ l : List UInt8, (Lib.index l [c] = -1 ∧ partsL c l = [l]) ∨ ∃ i : Nat, Lib.index l [c] = (i : Int) ∧ i < l.length ∧ partsL c l = l.take i :: partsL c (l.drop (i + 1))
 | [] => .inl ⟨rfl, rfl⟩
 | x :: r => by
  have hp : [c].isPrefixOf (x :: r) = (c == x) := by simp [List.isPrefixOf]
  by_cases h : x = c
  ·subst h
   exact .inr ⟨0, by simp [Lib.index, hp], by simp, by simp [partsL]⟩
  ·have hx : (c == x) = false := by simpa using fun e : c = x => h e.symm
   rcases partsL_index c r with ⟨h1, h2⟩ | ⟨i, h1, h2, h3⟩
   ·exact .inl ⟨by simp [Lib.index, hp, hx, h1], by simp [partsL, h, h2]⟩
   ·refine .inr ⟨i + 1, ?_, by simp; omega, by simp [partsL, h, h3]⟩
    have hn : ((i : Int) == -1) = false := by rw [beq_eq_false_iff_ne]; omega
    unfold Lib.index
    rw [hp, hx, h1, hn]
    rfl
def partsC (c : UInt8) (s : ByteArray) : List ByteArray := (partsL c s.data.toList).map fun p => ⟨p.toArray⟩
theorem extract_fst (s : ByteArray) (k : Nat) : s.extract 0 k = ⟨(s.data.toList.take k).toArray⟩ := by
 apply ba_ext
 simp [ByteArray.data_extract, Array.toList_extract, List.extract_eq_take_drop]
theorem extract_lst (s : ByteArray) (k : Nat) : s.extract k s.size = ⟨(s.data.toList.drop k).toArray⟩ := by
 apply ba_ext
 simp only [ByteArray.data_extract, Array.toList_extract, List.extract_eq_take_drop]
 exact List.take_of_length_le (by simp)
theorem partsC_index (c : UInt8) (s : ByteArray) : (Lib.index s.data.toList [c] = -1 ∧ partsC c s = [s]) ∨ ∃ i : Nat, Lib.index s.data.toList [c] = (i : Int) ∧ i < s.size ∧ partsC c s = s.extract 0 i :: partsC c (s.extract (i + 1) s.size) := by
 rcases partsL_index c s.data.toList with ⟨h1, h2⟩ | ⟨i, h1, h2, h3⟩
 ·exact .inl ⟨h1, by unfold partsC; rw [h2]; simp⟩
 ·exact .inr ⟨i, h1, by simpa using h2, by unfold partsC; rw [h3, extract_fst, extract_lst]; simp⟩
def leftB (b : Nat) (w : World) : Nat := match w.cell? ⟨b, 0, none⟩ with | some (.string t) => t.size | _ => 0
theorem leftB_of {b : Nat} {w : World} {t : ByteArray} (h : w.cell? ⟨b, 0, none⟩ = some (.string t)) : leftB b w = t.size := by unfold leftB; rw [h]
def SplitAt (w : World) (b1 b2 b3 : Nat) (c : UInt8) (t : ByteArray) (m : Int) : Prop :=
 Boxed w b1 9 (.string ⟨#[c]⟩) ∧ Boxed w b2 9 (.string t) ∧ Boxed w b3 3 (.int .i64 0) ∧ w.cell? ⟨0, 0, none⟩ = some (.int .i64 m) ∧ b1 ≠ b2 ∧ b3 ≠ b2 ∧ 0 ≠ b2
theorem SplitAt.stands {w w' : World} {b1 b2 b3 : Nat} {c : UInt8} {t : ByteArray} {m : Int} (h : SplitAt w b1 b2 b3 c t m) (k : Stands [b1, b2, b3, 0] w w') : SplitAt w' b1 b2 b3 c t m := by
 obtain ⟨h1, h2, h3, h4, h5⟩ := h
 exact ⟨(k b1 (by simp)).trans h1, (k b2 (by simp)).trans h2, (k b3 (by simp)).trans h3, (World.cell?_of_block (k 0 (by simp))).trans h4, h5⟩
theorem SplitAt.set {w : World} {b1 b2 b3 : Nat} {c : UInt8} {t : ByteArray} {m : Int} (h : SplitAt w b1 b2 b3 c t m) (t' : ByteArray) : SplitAt (w.setCell ⟨b2, 0, none⟩ (.string t')) b1 b2 b3 c t' m := by
 obtain ⟨h1, h2, h3, h4, h5, h6, h7⟩ := h
 exact ⟨h1.other h5 _, h2.set _, h3.other h6 _, (World.cell?_of_block (Below.heap_setCell w ⟨b2, 0, none⟩ _ _ h7)).trans h4, h5, h6, h7⟩
theorem splitB_seq (n : Nat) (hn : 1 ≤ n) (b1 b2 b3 : Nat) (c : UInt8) (s : ByteArray) (m : Int) (hs : s.size < 4294967281) :
  SeqB Fence.wide n Tryz.prog 121 #[.pointer (some ⟨b1, 0, none⟩), .pointer (some ⟨b2, 0, none⟩), .pointer (some ⟨b3, 0, none⟩)] (fun x : ByteArray => #[Value.string x]) b2 [b1, b2, b3, 0]
   (fun ys => ys = partsC c s) (fun pre => ∃ r, pre ++ r = partsC c s) (partsC c s).length (fun w => SplitAt w b1 b2 b3 c s m) := by
 intro l J Jx W hW hJb hY h0
 have Hs0 := Lib.hid (And.intro hW h0)
 have c1 := hW.1.cell
 have h1c : 0 < (1 : Int) := by decide
 clear hW h0
 refine callsIn_of_wp Tryz.func121 rfl trivial ?_ rfl
 simp only [Tryz.ntmps121, List.size_toArray, List.length_cons, List.length_nil, Nat.reduceAdd, Nat.reduceSub, Array.replicate_succ, Array.replicate_zero, List.push_toArray, List.append_toArray, List.nil_append, List.cons_append]
 gi_wp2
 gi_loopw [7] (fun _ wr => ∃ pre t, pre ++ partsC c t = partsC c s ∧ t.size ≤ s.size ∧ SplitAt wr b1 b2 b3 c t m ∧ J pre wr) (fun _ wr => leftB b2 wr)
 case atStart => exact ⟨[], s, rfl, Nat.le_refl _, Hs0.out.1, Hs0.out.2⟩
 case round =>
  clear c1 Hs0
  obtain ⟨pre, t, hpt, hts, hat, hJ⟩ := hrel
  have hm := hat.2.2.2.1
  have Hi := Lib.hid (Tryz.strings_Index t ⟨#[c]⟩ m wr (by omega) hm)
  have x1 := hat.1.cell
  have x2 := hat.2.1.cell
  have x3 := hat.2.2.1.cell
  have HA := Lib.hid (And.intro hat (And.intro hpt (And.intro hJ hts)))
  clear hat hpt hJ hm hts
  gi_wp2
  refine ⟨trivial, (callsIn_wide.2 Hi.out).mono ?_⟩
  rintro e w' ⟨rfl, rfl⟩
  rcases partsC_index c t with ⟨h1, h2⟩ | ⟨i, h1, h2, h3⟩
  ·have hix : Lib.index t.data.toList (⟨#[c]⟩ : ByteArray).data.toList = -1 := h1
   rw [hix]
   have hlen : pre.length < (partsC c s).length := by rw [← HA.out.2.1, h2]; simp
   obtain ⟨fn, tmps, assign, body, hy, hR⟩ := hY pre t w' HA.out.2.2.1 hlen ⟨[], by rw [List.append_nil, ← HA.out.2.1, h2]⟩
   have H2 := Lib.hid (show pre ++ [t] = partsC c s from by rw [← HA.out.2.1, h2])
   clear h1 h2 hix hlen
   gi_wp2
   refine hR.mono ?_
   rintro e W1 (⟨rfl, hJ1, _⟩ | ⟨rfl, hx1⟩)
   ·gi_wp2
    go_end0
    exact ⟨⟨_, rfl⟩, .inl ⟨_, H2.out, hJ1⟩⟩
   ·gi_wp2
    go_end0
    exact ⟨⟨_, rfl⟩, .inr ⟨_, ⟨[], by rw [List.append_nil]; exact H2.out⟩, hx1⟩⟩
  ·have hix : Lib.index t.data.toList (⟨#[c]⟩ : ByteArray).data.toList = (i : Int) := h1
   rw [hix]
   have hlen : pre.length < (partsC c s).length := by
    rw [← HA.out.2.1, h3, List.length_append, List.length_cons]
    omega
   obtain ⟨fn, tmps, assign, body, hy, hR⟩ := hY pre (t.extract 0 i) w' HA.out.2.2.1 hlen ⟨partsC c (t.extract (i + 1) t.size), by rw [← HA.out.2.1, h3]; simp⟩
   have hts := HA.out.2.2.2
   have hn0 : ¬ ((i : Int) < 0) := by omega
   have hle : (i : Int) ≤ (t.size : Int) := by omega
   have hle1 : (i : Int) + 1 ≤ (t.size : Int) := by omega
   have H2 := Lib.hid (show (pre ++ [t.extract 0 i]) ++ partsC c (t.extract (i + 1) t.size) = partsC c s from by rw [← HA.out.2.1, h3]; simp)
   have HL := Lib.hid (leftB_of x2)
   clear h1 h3 hix hlen
   gi_wp2
   refine hR.mono ?_
   rintro e W1 (⟨rfl, hJ1, hst⟩ | ⟨rfl, hx1⟩)
   ·have hat1 := HA.out.1.stands hst
    have y1 := hat1.1.cell
    have y2 := hat1.2.1.cell
    have f2 := hat1.2.1.frozen
    have l2 := hat1.2.1.lt
    have H3 := Lib.hid (And.intro (hat1.set (t.extract (i + 1) t.size)) (hJb _ _ (.string (t.extract (i + 1) t.size)) hJ1))
    clear hJ1 hst hat1
    gi_wp2
    go_roundw
    case rel => exact ⟨_, _, H2.out, by simp; omega, H3.out.1, H3.out.2⟩
    case measure =>
     rw [leftB_of H3.out.1.2.1.cell, HL.out]
     simp
     omega
   ·gi_wp2
    refine bodyPost_ret (results_none rfl _ _ _) rfl ?_
    exact ⟨⟨_, rfl⟩, .inr ⟨_, ⟨_, H2.out⟩, hx1⟩⟩
/-! ### What a loop over a function may keep -/
theorem keepsFrom_of {S : List Nat} {W W' : World} (k : Keeps S W W') (hS : ∀ x ∈ S, ∀ o, W.heap[x]? = some o → o.isCells = true) (B : Nat) : KeepsFrom B W W' :=
 ⟨k.size, fun b o _ hb ho => k.at_ hb (fun hm => by rw [hS b hm o hb] at ho; cases ho)⟩
theorem stands_of {S ks : List Nat} {W W' : World} (k : Keeps S W W') (h : ∀ p ∈ ks, p < W.heap.size ∧ p ∉ S) : Stands ks W W' := fun p hp => k.block p (h p hp).1 (h p hp).2
theorem ownFrom_keeps {β : Type} {B : Nat} {I : β → World → Prop} (h : ∀ s W W' S, I s W → Keeps S W W' → (∀ x ∈ S, B ≤ x ∧ ∀ o, W.heap[x]? = some o → o.isCells = false) → I s W') : OwnFrom B I := fun s W W' row hs hg hr => by
 refine h s W W' row.toList hs (Keeps.of_grown hg (fun k hk => .inl (by simp [hk]))) fun x hx => ?_
 have hrx : row = some x := by simpa using hx
 obtain ⟨h1, o, ho, hc⟩ := hr x hrx
 exact ⟨h1, fun o' ho' => by rw [ho] at ho'; cases ho'; exact hc⟩
theorem own_block_cells {w : World} {base s n : Nat} {e : TypeId} {v : Value} {xs : List Value} (h : w.ownsRow base e s v n xs) : ∀ g, v.ownBlock = some g → base ≤ g ∧ ∃ o, w.heap[g]? = some o ∧ o.isCells = true := by
 intro g hg
 obtain ⟨_, ⟨rfl, _⟩ | ⟨g', cap, cur, rfl, hb, h1, _⟩⟩ := h
 ·simp [Value.ownBlock] at hg
 ·simp [Value.ownBlock] at hg
  subst hg
  exact ⟨hb, _, h1, rfl⟩
theorem Keeps.row_cells {S : List Nat} {w w' : World} (k : Keeps S w w') {base s n : Nat} {e : TypeId} {v : Value} {xs : List Value} (h : w.ownsRow base e s v n xs) (hS : ∀ x ∈ S, ∀ o, w.heap[x]? = some o → o.isCells = false) : w'.ownsRow base e s v n xs :=
 k.row h fun g hg hm => by
  obtain ⟨-, o, ho, hc⟩ := own_block_cells h g hg
  rw [hS g hm o ho] at hc
  cases hc
theorem Keeps.row_low {w w' : World} {b2 : Nat} (k : Keeps [b2] w w') {base s n : Nat} {e : TypeId} {v : Value} {xs : List Value} (h : w.ownsRow base e s v n xs) (hb : b2 < base) : w'.ownsRow base e s v n xs :=
 k.row h fun g hg hm => by
  have := (own_block_cells h g hg).1
  have : g = b2 := by simpa using hm
  omega
theorem Keeps.at_cells {S : List Nat} {w w' : World} (k : Keeps S w w') {b : Nat} {cs : Array Value} {t : TypeId} {z : Nat × Nat} (h : w.heap[b]? = some (.cells cs t z)) (hS : ∀ x ∈ S, ∀ o, w.heap[x]? = some o → o.isCells = false) : w'.heap[b]? = some (.cells cs t z) :=
 k.at_ h fun hm => by
  have := hS b hm _ h
  cases this
theorem set_two {w : World} {p q : Nat} {x y : Value} {t u : TypeId} (h1 : w.heap[p]? = some (.cells #[x] t (0, 0))) (h2 : w.heap[q]? = some (.cells #[y] u (0, 0))) (hne : p ≠ q) (a c : Value) :
  ∃ W, W = (w.setCell ⟨p, 0, none⟩ a).setCell ⟨q, 0, none⟩ c ∧ W.heap[p]? = some (.cells #[a] t (0, 0)) ∧ W.heap[q]? = some (.cells #[c] u (0, 0)) ∧ Keeps [p, q] w W := by
 have k1 : Keeps [p] w (w.setCell ⟨p, 0, none⟩ a) := (Keeps.refl _ w).setCell (.inl (by simp)) _
 have k2 : Keeps [q] (w.setCell ⟨p, 0, none⟩ a) ((w.setCell ⟨p, 0, none⟩ a).setCell ⟨q, 0, none⟩ c) := (Keeps.refl _ _).setCell (.inl (by simp)) _
 have n1 := heap_cell_same (i := 0) h1 a
 have n2 := k1.at_ h2 (by simpa using fun e => hne e.symm)
 refine ⟨_, rfl, ?_, ?_, (k1.mono (by simp)).trans (k2.mono (by simp))⟩
 ·have := k2.at_ n1 (by simpa using hne)
  simpa using this
 ·have := heap_cell_same (i := 0) n2 c
  simpa using this
theorem parts_sizes (c : UInt8) : ∀ (n : Nat) (s : ByteArray), s.size ≤ n → (partsC c s).length ≤ s.size + 1 ∧ ∀ x ∈ partsC c s, x.size ≤ s.size := by
 intro n
 induction n with
 | zero =>
  intro s hs
  rcases partsC_index c s with ⟨h1, h2⟩ | ⟨i, h1, h2, h3⟩
  ·rw [h2]
   exact ⟨by simp, fun x hx => by rw [List.mem_singleton.1 hx]; exact Nat.le_refl _⟩
  ·omega
 | succ n ih =>
  intro s hs
  rcases partsC_index c s with ⟨h1, h2⟩ | ⟨i, h1, h2, h3⟩
  ·rw [h2]
   exact ⟨by simp, fun x hx => by rw [List.mem_singleton.1 hx]; exact Nat.le_refl _⟩
  ·obtain ⟨k1, k2⟩ := ih (s.extract (i + 1) s.size) (by simp; omega)
   have hz : (s.extract (i + 1) s.size).size = s.size - (i + 1) := by simp
   rw [hz] at k1 k2
   rw [h3]
   refine ⟨by rw [List.length_cons]; omega, fun x hx => ?_⟩
   rcases List.mem_cons.1 hx with rfl | hx
   ·simp; omega
   ·have := k2 x hx
    omega
open Go Go.RowKit Go.Shelf
attribute [local go_sem] Oper.semAt_some
def cutP (x : ByteArray) : Option PairB := if (Lib.cut x.data.toList [61]).2.2 = true then some (⟨(Lib.cut x.data.toList [61]).1.toArray⟩, ⟨(Lib.cut x.data.toList [61]).2.1.toArray⟩) else none
def mapP : List ByteArray → Option (List PairB)
 | [] => some []
 | p :: r => match cutP p, mapP r with | some m, some l => some (m :: l) | _, _ => none
theorem mapP_snoc : ∀ (l : List ByteArray) (p : ByteArray), mapP (l ++ [p]) = (match mapP l, cutP p with | some L, some m => some (L ++ [m]) | _, _ => none)
 | [], p => by
  show mapP [p] = _
  unfold mapP mapP
  cases cutP p <;> rfl
 | q :: l, p => by
  have ih := mapP_snoc l p
  show mapP (q :: (l ++ [p])) = _
  unfold mapP
  rw [ih]
  cases cutP q <;> cases mapP l <;> cases cutP p <;> rfl
theorem mapP_mem : ∀ (l : List ByteArray) (P : List PairB) (x : ByteArray), mapP l = some P → x ∈ l → ∃ p, cutP x = some p
 | [], _, _, _, h => by cases h
 | q :: l, P, x, h, hx => by
  unfold mapP at h
  cases hq : cutP q with
  | none => rw [hq] at h; cases h
  | some m =>
   cases hl : mapP l with
   | none => rw [hq, hl] at h; cases h
   | some L' =>
    rcases List.mem_cons.1 hx with rfl | hx
    ·exact ⟨m, hq⟩
    ·exact mapP_mem l L' x hl hx
theorem mapP_len : ∀ (l : List ByteArray) (L : List PairB), mapP l = some L → L.length = l.length
 | [], L, h => by cases h; rfl
 | q :: l, L, h => by
  unfold mapP at h
  cases hq : cutP q with
  | none => rw [hq] at h; cases h
  | some m =>
   cases hl : mapP l with
   | none => rw [hq, hl] at h; cases h
   | some L' =>
    rw [hq, hl] at h
    cases h
    simp [mapP_len l L' hl]
def LIn (w : World) (b : Nat) (pre : List ByteArray) (W : World) : Prop := ∃ v P, mapP pre = some P ∧ W.heap[b + 2]? = some (.cells #[v] 84 (0, 0)) ∧ W.ownsRow (b + 6) 149 2 v P.length (P.flatMap encPB) ∧
 W.heap[b]? = some (.cells #[.slice none 0 0] 85 (0, 0)) ∧ W.heap[b + 1]? = some (.cells #[.int .i64 0] 24 (0, 0)) ∧ Keeps [] w W ∧ b + 6 ≤ W.heap.size
theorem lin_own (w : World) (b : Nat) (hb : b = w.heap.size) : OwnFrom (b + 6) (LIn w b) := ownFrom_keeps fun pre W W' S h k hS => by
 obtain ⟨v, P, h1, h2, h3, h5, h6, h7, h8⟩ := h
 have hc : ∀ x ∈ S, ∀ o, W.heap[x]? = some o → o.isCells = false := fun x hx => (hS x hx).2
 exact ⟨v, P, h1, k.at_cells h2 hc, k.row_cells h3 hc, k.at_cells h5 hc, k.at_cells h6 hc, h7.after k (fun x hx => .inr (by have := (hS x hx).1; omega)), Nat.le_trans h8 k.size⟩
theorem lin_set (w : World) (b : Nat) (hb : b = w.heap.size) (pre : List ByteArray) (W : World) (u : Value) (h : LIn w b pre W) : LIn w b pre (W.setCell ⟨b + 3, 0, none⟩ u) := by
 obtain ⟨v, P, h1, h2, h3, h5, h6, h7, h8⟩ := h
 have k : Keeps [b + 3] W (W.setCell ⟨b + 3, 0, none⟩ u) := (Keeps.refl _ W).setCell (.inl (by simp)) _
 exact ⟨v, P, h1, k.at_ h2 (by simp), k.row_low h3 (by omega), k.at_ h5 (by simp), k.at_ h6 (by simp), h7.after k (fun x hx => .inr (by rw [show x = b + 3 from (by simpa using hx)]; omega)), Nat.le_trans h8 k.size⟩
def LPostO (w : World) (P : List PairB) (e : Ending) (w' : World) : Prop := ∃ v, e = .returned (.tuple #[v, .int .i64 0]) ∧ w'.ownsRow 0 149 2 v (sortP P).length ((sortP P).flatMap encPB) ∧ Keeps [] w w'
theorem labParseO_spec (w : World) (hv : LibVar w) (s : ByteArray) (hs : s.size ≤ 1000000) (PP : List PairB) (hmp : mapP (partsC 44 s) = some PP) (h0 : 0 < PP.length) (h12 : PP.length ≤ 12) (hck : chkSet (sortP PP) = true) :
  Calls Tryz.prog 33 #[.string s] w (LPostO w PP) := by
 obtain ⟨ip, hip, hz0, hz1, hz2⟩ := info_parts infoPair
 obtain ⟨b, hb⟩ : ∃ b, b = w.heap.size := ⟨_, rfl⟩
 have HPP := Lib.hid (And.intro hmp (And.intro h0 (And.intro h12 hck)))
 clear hmp h0 h12 hck
 refine (callsIn_wide (n := 6)).1 ?_
 refine callsIn_of_wp_marks Tryz.func33 rfl trivial ?_ rfl
 simp only [Tryz.ntmps33, List.size_toArray, List.length_cons, List.length_nil, Nat.reduceAdd, Nat.reduceSub, Array.replicate_succ, Array.replicate_zero, List.push_toArray, List.append_toArray, List.nil_append, List.cons_append]
 have kw : Keeps [] w ((((((w.alloc (.cells #[.slice none 0 0] 85)).alloc (.cells #[.int .i64 0] 24)).alloc (.cells #[.slice none 0 0] 84)).alloc (.cells #[.string s] 9)).alloc (.cells #[.string ⟨#[44]⟩] 9)).alloc (.cells #[.int .i64 0] 3)) := ((((((Keeps.refl [] w).alloc _).alloc _).alloc _).alloc _).alloc _).alloc _
 have n1 := new5 w (.cells #[.slice none 0 0] 85) (.cells #[.int .i64 0] 24) (.cells #[.slice none 0 0] 84) (.cells #[.string s] 9) (.cells #[.string ⟨#[44]⟩] 9)
 have n6 := heap_new (((((w.alloc (.cells #[.slice none 0 0] 85)).alloc (.cells #[.int .i64 0] 24)).alloc (.cells #[.slice none 0 0] 84)).alloc (.cells #[.string s] 9)).alloc (.cells #[.string ⟨#[44]⟩] 9)) (.cells #[.int .i64 0] 3)
 have k6 : Keeps [] (((((w.alloc (.cells #[.slice none 0 0] 85)).alloc (.cells #[.int .i64 0] 24)).alloc (.cells #[.slice none 0 0] 84)).alloc (.cells #[.string s] 9)).alloc (.cells #[.string ⟨#[44]⟩] 9)) ((((((w.alloc (.cells #[.slice none 0 0] 85)).alloc (.cells #[.int .i64 0] 24)).alloc (.cells #[.slice none 0 0] 84)).alloc (.cells #[.string s] 9)).alloc (.cells #[.string ⟨#[44]⟩] 9)).alloc (.cells #[.int .i64 0] 3)) := (Keeps.refl [] _).alloc _
 have nn := go1 k6 n1
 have hsz : (((((w.alloc (.cells #[.slice none 0 0] 85)).alloc (.cells #[.int .i64 0] 24)).alloc (.cells #[.slice none 0 0] 84)).alloc (.cells #[.string s] 9)).alloc (.cells #[.string ⟨#[44]⟩] 9)).heap.size = w.heap.size + 1 + 1 + 1 + 2 := by simp
 have hsz6 : ((((((w.alloc (.cells #[.slice none 0 0] 85)).alloc (.cells #[.int .i64 0] 24)).alloc (.cells #[.slice none 0 0] 84)).alloc (.cells #[.string s] 9)).alloc (.cells #[.string ⟨#[44]⟩] 9)).alloc (.cells #[.int .i64 0] 3)).heap.size = w.heap.size + 6 := by simp
 rw [hsz] at n6
 have hlv := go1 kw hv
 have Hv := Lib.hid hv
 have hgl := hv.lt
 have H1 := Lib.hid (And.intro kw (And.intro nn (And.intro n6 (And.intro hsz6 hlv))))
 clear kw n1 n6 k6 nn hsz hsz6 hlv hv
 gi_wp2
 refine ⟨trivial, (callsIn_wide.2 (splitSeq_spec _ s ⟨#[44]⟩)).mono ?_⟩
 rintro e w1 ⟨rfl, rfl⟩
 gi_wp2
 generalize (((((w.alloc (.cells #[.slice none 0 0] 85)).alloc (.cells #[.int .i64 0] 24)).alloc (.cells #[.slice none 0 0] 84)).alloc (.cells #[.string s] 9)).alloc (.cells #[.string ⟨#[44]⟩] 9)).alloc (.cells #[.int .i64 0] 3) = W6 at H1 ⊢
 rw [← hb] at H1 ⊢
 have hN : (partsC 44 s).length ≤ 1000001 := by have := (parts_sizes 44 _ s (Nat.le_refl _)).1; omega
 have HN := Lib.hid (And.intro hN (parts_sizes 44 _ s (Nat.le_refl _)).2)
 have HB := Lib.hid hb
 have HS6 := H1.out.2.2.2.1
 obtain ⟨m, hm⟩ := H1.out.2.2.2.2
 have hat : SplitAt W6 (b + 1 + 1 + 1 + 1) (b + 1 + 1 + 1) (b + 1 + 1 + 1 + 2) 44 s m := ⟨H1.out.2.1.2.2.2.2, H1.out.2.1.2.2.2.1, H1.out.2.2.1, hm, by omega, by omega, by rw [← hb] at hgl; omega⟩
 have Hat := Lib.hid hat
 rw [← hb] at hgl
 clear hb hm hat hN
 refine wpIn_rangeFunc_B rfl (by omega) (gf := 121) (lb := #[.pointer (some ⟨b + 1 + 1 + 1 + 1, 0, none⟩), .pointer (some ⟨b + 1 + 1 + 1, 0, none⟩), .pointer (some ⟨b + 1 + 1 + 1 + 2, 0, none⟩)]) rfl trivial (enters_of Tryz.func121 (by kernel_rfl) rfl)
  (splitB_seq 5 (by omega) (b + 1 + 1 + 1 + 1) (b + 1 + 1 + 1) (b + 1 + 1 + 1 + 2) 44 s m (by omega)) (fun W k => ?pre) (by omega) ?ks (fun _ => rfl)
  (LIn w b) (fun _ _ _ => False) (by rw [HS6]; exact lin_own w b HB.out) (fun _ _ _ _ _ hs _ _ => hs) (fun pre W u h => lin_set w b HB.out pre W u h) ?start
  (fun x => { tmps := #[.string s, undef, .pointer (some ⟨b, 0, none⟩), .pointer (some ⟨b + 1, 0, none⟩), .pointer (some ⟨b + 1 + 1, 0, none⟩), .string x, undef, undef, undef, undef, undef, .string s,
    .func (.func 121) #[] #[.pointer (some ⟨b + 1 + 1 + 1 + 1, 0, none⟩), .pointer (some ⟨b + 1 + 1 + 1, 0, none⟩), .pointer (some ⟨b + 1 + 1 + 1 + 2, 0, none⟩)], .string x,
    undef, undef, undef, undef, undef, undef, undef, undef, undef, undef, undef, undef, undef, undef, undef, undef, undef, undef, undef, undef, undef, undef, undef], defers := [] }) ?assign ?body ?done ?stop
 case pre =>
  obtain ⟨h1, h2, h3, h4, h5⟩ := Hat.out
  exact ⟨k.at_ h1 (by simp), k.at_ h2 (by simp), k.at_ h3 (by simp), (k.cell (by rw [HS6]; omega) (by simp)).trans h4, h5⟩
 case ks =>
  intro p hp
  rw [HS6]
  simp at hp
  omega
 case start => exact ⟨.slice none 0 0, [], rfl, H1.out.2.1.2.2.1, World.ownsRow_nil _ _ _ 2, H1.out.2.1.1, H1.out.2.1.2.1, H1.out.1, Nat.le_of_eq HS6.symm⟩
 case assign =>
  intro l x W K hK
  gi_wp2
  exact hK
 case body =>
  rintro l pre x W ⟨v, P, hmap, c2, hrow, c0, c1, hkw, hsz⟩ hlt ⟨r, hr⟩
  have hmem : x ∈ partsC 44 s := by rw [← hr]; simp
  have hxz : x.size ≤ s.size := HN.out.2 x hmem
  obtain ⟨⟨p1, p2⟩, hcp⟩ := mapP_mem _ _ x HPP.out.1 hmem
  have hcut : (Lib.cut x.data.toList [61]).2.2 = true ∧ (⟨(Lib.cut x.data.toList [61]).1.toArray⟩ : ByteArray) = p1 ∧ (⟨(Lib.cut x.data.toList [61]).2.1.toArray⟩ : ByteArray) = p2 := by
   have h := hcp
   unfold cutP at h
   split at h
   ·rename_i hh
    injection h with h
    injection h with e1 e2
    exact ⟨hh, e1, e2⟩
   ·cases h
  obtain ⟨m', hm'⟩ := H1.out.2.2.2.2
  have hPn : P.length ≤ 1000001 := by
   have h2 := mapP_len _ _ hmap
   have h4 := HN.out.1
   omega
  have hmW : LibVar W := Hv.out.keep hkw (by simp)
  obtain ⟨mm, hmm⟩ := hmW
  have Hcut := Lib.hid (Tryz.strings_Cut x ⟨#[61]⟩ mm W (by omega) hmm)
  have HI := Lib.hid (And.intro c2 (And.intro hrow (And.intro c0 (And.intro c1 hkw))))
  have HM := Lib.hid (And.intro hmap (And.intro hcp hsz))
  have HQ := Lib.hid hcut
  clear hmap c2 hrow c0 c1 hkw hlt hr hsz hcp hcut hmem hmm m' hm'
  gi_wp2
  refine ⟨trivial, (CallsIn.inRound l (callsIn_wide.2 Hcut.out)).mono ?_⟩
  rintro e w2 ⟨rfl, nq, rfl⟩
  rw [HQ.out.1, HQ.out.2.1, HQ.out.2.2]
  have kq : Keeps [] W (W.drewN nq) := (Keeps.refl [] W).drewN nq
  have H2 := Lib.hid (And.intro (go1 kq HI.out) kq)
  clear kq Hcut
  generalize W.drewN nq = w2 at H2 ⊢
  obtain ⟨aE, cE, rfl, -, -, -⟩ := row_slice H2.out.1.2.1
  have d3 : w2.cell? ⟨b + 1 + 1, 0, none⟩ = some (.slice aE P.length cE) := cells_at H2.out.1.1 0
  have l3 : b + 1 + 1 < w2.heap.size := lt_of_at H2.out.1.1
  have kB : Keeps [] w2 (w2.alloc (.cells #[.string p1, .string p2] 149)) := (Keeps.refl [] _).alloc _
  have H3 := Lib.hid (And.intro (heap_new w2 (.cells #[.string p1, .string p2] 149)) (go1 kB H2.out))
  clear kB
  gi_wp2_with (gi_at_builtin; refine wpListIn_append_own _ rfl _ _ 84 rfl (b + 6) 149 ip _ 2 32 Tryz.underlying84 hip hz0 hz1 hz2 rfl (by decide) (.slice aE P.length cE) P.length (P.flatMap encPB) rfl H3.out.2.1.2.1 ⟨w2.heap.size, 0, none⟩ 1 1 [.string p1, .string p2] rfl rfl (news_two H3.out.1) (by simp [Value.oneCell']) (by simp only [maxLen]; omega) (by omega) (by have := H3.out.2.2.size; have := HM.out.2.2; omega) ?_; intro v' w4 hown4 hgrow4 hnil4; clear hnil4; obtain ⟨a4, c4, rfl, -, -, -⟩ := row_slice hown4; have hN := H3.out.2.1.2.1; have k4 := keeps_row hgrow4; have n4 := k4.at_ H3.out.2.1.1 (fun hm => row_ne_cells hN H3.out.2.1.1 (by decide) _ (by simpa using hm) rfl); have c4' : w4.cell? ⟨b + 1 + 1, 0, none⟩ = some (.slice aE P.length cE) := cells_at n4 0; have f4 : ∀ i, w4.frozen? ⟨b + 1 + 1, i, none⟩ = false := free_at n4; have l4 : b + 1 + 1 < w4.heap.size := lt_of_at n4)
  have k5 : Keeps [b + 1 + 1] w4 (w4.setCell ⟨b + 1 + 1, 0, none⟩ (.slice a4 (P.length + 1) c4)) := (Keeps.refl _ w4).setCell (.inl (by simp)) _
  have n5 : (w4.setCell ⟨b + 1 + 1, 0, none⟩ (.slice a4 (P.length + 1) c4)).heap[b + 1 + 1]? = some (.cells #[.slice a4 (P.length + 1) c4] 84 (0, 0)) := by
   have := heap_cell_same (i := 0) n4 (.slice a4 (P.length + 1) c4)
   simpa using this
  generalize w4.setCell ⟨b + 1 + 1, 0, none⟩ (.slice a4 (P.length + 1) c4) = W5 at k5 n5 ⊢
  have hob : ∀ g, g ∈ (Value.slice aE P.length cE).ownBlock.toList → b + 6 ≤ g ∧ ∀ o, W.heap[g]? = some o → o.isCells = true := fun g hg => by
   obtain ⟨h1, o, ho, hc⟩ := own_block_cells HI.out.2.1 g (by simpa using hg)
   exact ⟨h1, fun o' ho' => by rw [ho] at ho'; cases ho'; exact hc⟩
  have kT : Keeps ((Value.slice aE P.length cE).ownBlock.toList ++ [b + 1 + 1]) W W5 := ((H3.out.2.2.mono (by simp)).trans (k4.mono (fun y hy => List.mem_append_left _ hy))).trans (k5.mono (fun y hy => List.mem_append_right _ hy))
  have hwW := HI.out.2.2.2.2.size
  refine ⟨keepsFrom_of kT ?cells _, stands_of kT ?stands, ?inv⟩
  case cells =>
   intro y hy o ho
   rcases List.mem_append.1 hy with hy | hy
   ·exact (hob y hy).2 o ho
   ·obtain rfl : y = b + 1 + 1 := by simpa using hy
    have e := HI.out.1
    change W.heap[b + 1 + 1]? = _ at e
    rw [e] at ho
    cases ho
    rfl
  case stands =>
   intro y hy
   have hz := HM.out.2.2
   refine ⟨by simp at hy; omega, fun hm => ?_⟩
   rcases List.mem_append.1 hm with hm | hm
   ·have := (hob y hm).1
    simp at hy
    omega
   ·simp at hm hy
    omega
  case inv =>
   have m0 := k5.at_ (k4.at_ H3.out.2.1.2.2.1 (fun hm => row_ne_cells hN H3.out.2.1.2.2.1 (by decide) _ (by simpa using hm) rfl)) (by simp; omega)
   have m1 := k5.at_ (k4.at_ H3.out.2.1.2.2.2.1 (fun hm => row_ne_cells hN H3.out.2.1.2.2.2.1 (by decide) _ (by simpa using hm) rfl)) (by simp)
   refine ⟨_, P ++ [(p1, p2)], by rw [mapP_snoc, HM.out.1, HM.out.2.1], n5, ?_, m0, m1, ?_, ?_⟩
   ·have h6 := k5.row_low hown4 (by omega)
    rw [List.length_append, List.flatMap_append]
    simpa [encPB] using h6
   ·exact HI.out.2.2.2.2.after kT (fun y hy => .inr (by
     have := HB.out
     rcases List.mem_append.1 hy with hy | hy
     ·have := (hob y hy).1
      omega
     ·simp at hy
      omega))
   ·have := kT.size
    have := HM.out.2.2
    omega
 case done =>
  rintro D ys W hD rfl ⟨v, P, hmap, n2, hrow, n0, n1, hkw, hsz⟩ hK
  obtain rfl : PP = P := by rw [HPP.out.1] at hmap; injection hmap
  have c2 : W.cell? ⟨b + 1 + 1, 0, none⟩ = some v := cells_at n2 0
  have l2 : b + 1 + 1 < W.heap.size := lt_of_at n2
  obtain ⟨aE, cE, rfl, -, -, -⟩ := row_slice hrow
  have HD := Lib.hid (And.intro n0 (And.intro n1 (And.intro hrow (And.intro hkw hK))))
  clear n0 n1 n2 hrow hkw hK hmap
  gi_wp2
  refine ⟨trivial, (callsIn_wide.2 (makeN_spec W (b + 6) _ PP HD.out.2.2.1 HPP.out.2.1 HPP.out.2.2.1 HPP.out.2.2.2)).mono ?_⟩
  rintro e w3 ⟨v3, rfl, hr3, hk3⟩
  obtain ⟨a3, c3, rfl, -, -, -⟩ := row_slice hr3
  have HE := Lib.hid (And.intro (hk3.at_ HD.out.1 (by simp)) (And.intro (hk3.at_ HD.out.2.1 (by simp)) (And.intro hr3 (And.intro (HD.out.2.2.2.1.trans hk3) (hk3.at_ HD.out.2.2.2.2 (by simp))))))
  have hsW : b + 6 ≤ W.heap.size := hsz
  clear hk3 hr3 HD c2 l2
  have c0 := cells_at HE.out.1
  have f0 := free_at HE.out.1
  have l0 := lt_of_at HE.out.1
  have c1 := cells_at HE.out.2.1
  have f1 := free_at HE.out.2.1
  have l1 := lt_of_at HE.out.2.1
  gi_wp2
  obtain ⟨W9, hW9, nA, nB, k9⟩ := set_two HE.out.1 HE.out.2.1 (by omega) (.slice a3 PP.length c3) (.int .i64 0)
  rw [← hW9]
  have hD2 : W9.heap[D]? = some (.deferred (some [])) := k9.at_ HE.out.2.2.2.2 (by simp; omega)
  have hDW := lt_of_at hD2
  refine ⟨by simp, .inl ⟨_, _, rfl, run_takeDeferred hD2, ?_⟩⟩
  have q10 : Keeps [D] W9 (W9.putObj D (.deferred none)) := Keeps.of_grown (grownBy_putObj' W9 D _) (fun k hk => .inl (by simp at hk; simp [hk]))
  have hnc : ∀ y ∈ [D], ∀ o, W9.heap[y]? = some o → o.isCells = false := fun y hy o ho => by
   obtain rfl : y = D := by simpa using hy
   rw [hD2] at ho
   cases ho
   rfl
  have hl9 : ∀ g, g ∈ [b, b + 1] → g < b + 6 := fun g hg => by simp at hg; omega
  have r9 := k9.row HE.out.2.2.1 (fun g hg hm => by have := (own_block_cells HE.out.2.2.1 g hg).1; have := hl9 g hm; omega)
  have r10 := q10.row_cells r9 hnc
  have nA3 := q10.at_cells nA hnc
  have nB3 := q10.at_cells nB hnc
  have hbw := HB.out
  have kF : Keeps [] w (W9.putObj D (.deferred none)) := (HE.out.2.2.2.1.after k9 (fun x hx => .inr (by simp at hx; omega))).after q10 (fun x hx => .inr (by simp at hx; omega))
  generalize W9.putObj D (.deferred none) = W10 at r10 nA3 nB3 kF ⊢
  have cA3 := cells_at nA3 0
  have cB3 := cells_at nB3 0
  simp at cA3 cB3
  refine ⟨.tuple #[.slice a3 PP.length c3, .int .i64 0], by simp [results, Tryz.results33, go_sem, cA3, cB3], ⟨_, rfl, ?_, kF⟩⟩
  rw [sortP_len]
  exact row_base r10 (Nat.zero_le _)
 case stop =>
  rintro D c pre W _ _ h _
  exact h.elim
end Go.Proofs.YtgdkceeonnfejaaGreatDoor
