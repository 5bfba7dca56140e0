/-
  A listing of no metas, with marks (package listing): New.
  No condition beyond those that each theorem states.

  The listing of objects (package listing, Of), looked up in a map of strings: the blocks that they are.
  At most 15 objects, each name once; their texts are short; the library's variable stands.
-/
import Derived.Test.YtjffdcflkkgpfaaGreatListNew
import Derived.Test.YtjffdcflkkgpfaaGreatOfLaw
namespace Go.Proofs.YtjffdcflkkgpfaaGreat
open Go Go.RowKit

set_option linter.unusedSimpArgs false in
set_option maxRecDepth 100000 in
theorem isortMn_spec (w : World) (v f : Value) : Calls Tryz.prog 129 #[v, .int .i64 0, .int .i64 0, f] w fun e w' => e = .returned (.tuple #[]) ∧ w' = w := by
  go_enter Tryz.func129, Tryz.ntmps129
  go_wp2_with fail
  go_loopg [8] 0 (fun (gk : Nat) (u8 : Value) (wr : World) => gk = 0 ∧ u8 = .int .i64 1 ∧ wr = w)
  case atStart => exact ⟨rfl, rfl, rfl⟩
  case round =>
    obtain ⟨hgk, rfl, rfl⟩ := hrel
    go_wp2_with fail
    refine bodyPost_end (results_none rfl _ _ _) rfl ?_
    exact ⟨rfl, rfl⟩

set_option linter.unusedSimpArgs false in
set_option maxRecDepth 100000 in
theorem pdqMn_spec (w : World) (v x f : Value) : Calls Tryz.prog 113 #[v, .int .i64 0, .int .i64 0, x, f] w fun e w' => e = .returned (.tuple #[]) ∧ w' = w := by
  go_enter Tryz.func113, Tryz.ntmps113
  go_wp2_with fail
  go_loopg [1, 2] 0 (fun (gk : Nat) (u1 u2 : Value) (wr : World) => gk = 0 ∧ u1 = .int .i64 0 ∧ u2 = .int .i64 0 ∧ wr = w)
  case atStart => exact ⟨rfl, rfl, rfl, rfl⟩
  case round =>
    obtain ⟨hgk, rfl, rfl, rfl⟩ := hrel
    go_wp2_with fail
    refine (isortMn_spec wr v f).mono ?_
    rintro e w2 ⟨rfl, rfl⟩
    go_wp2_with fail
    refine bodyPost_ret (results_none rfl _ _ _) rfl ?_
    exact ⟨rfl, rfl⟩

set_option linter.unusedSimpArgs false in
set_option maxRecDepth 100000 in
theorem sortMn_spec (w : World) (f : Value) : Calls Tryz.prog 84 #[.slice none 0 0, f] w fun e w' => e = .returned (.tuple #[]) ∧ w' = w := by
  go_enter Tryz.func84, Tryz.ntmps84
  go_wp2_with fail
  refine (Tryz.bits_Len 0 w (by decide) (by decide)).mono ?_
  rintro e w2 ⟨rfl, rfl⟩
  go_wp2_with fail
  refine (pdqMn_spec w2 _ _ f).mono ?_
  rintro e w3 ⟨rfl, rfl⟩
  go_wp2_with fail
  refine bodyPost_end (results_none rfl _ _ _) rfl ?_
  exact ⟨rfl, rfl⟩

set_option linter.unusedSimpArgs false in
set_option maxRecDepth 100000 in
theorem cloneMn_spec (w : World) : Calls Tryz.prog 82 #[.slice none 0 0] w fun e w' => e = .returned (.slice none 0 0) ∧ w' = w := by
  have qT : ∀ (w : World) (a : Option Addr) (n c : Nat), (binOp .eql 29 (.slice a n c) (.slice none 0 0)).run Tryz.prog w = .ok (.bool a.isNone) w := fun w a n c => run_eql_slice_nilM w _ _ a n c Tryz.underlying29
  go_enter Tryz.func82, Tryz.ntmps82
  go_wp2_with fail
  go_ret
  exact ⟨rfl, rfl⟩

theorem metasV_nil (B : Nat) (w : World) : MetasV B w (.slice none 0 0) [] := ⟨[], sliceFrom_nil _ _ _ _, rfl, fun i h => by simp at h⟩

set_option linter.unusedSimpArgs false in
set_option maxRecDepth 100000 in
theorem newNil_spec (B : Nat) (w : World) (at_ : Int) (mb : Nat) (M : PartsM) (hM : MapAt w mb (encMap encI M)) :
    Calls Tryz.prog 43 #[.int .i64 at_, .slice none 0 0, .map (some mb)] w (NewLPost B w at_ [] M) := by
  have qM : ∀ (w : World) (r : Option Nat), (binOp .eql 30 (.map r) (.map none)).run Tryz.prog w = .ok (.bool r.isNone) w := fun w r => run_eql_map_nil w _ _ _ r Tryz.underlying30
  obtain ⟨rb, hrb⟩ : ∃ n, n = w.heap.size := ⟨_, rfl⟩
  have n0 := heap_new w (.cells #[.int .i64 0, .slice none 0 0, .map none] 32)
  have k0 : Keeps [] w (w.alloc (.cells #[.int .i64 0, .slice none 0 0, .map none] 32)) := (Keeps.refl [] w).alloc _
  rw [← hrb] at n0
  have hrw : w.heap.size ≤ rb := by omega
  have HB := Lib.hid hrb
  have H0 := Lib.hid (And.intro n0 (And.intro k0 (hM.keep k0 (by simp))))
  clear n0 k0 hM hrb
  go_enter Tryz.func43, Tryz.ntmps43
  go_wp2_with fail
  rw [← HB.out]
  generalize w.alloc (.cells #[.int .i64 0, .slice none 0 0, .map none] 32) = W0 at H0 ⊢
  refine (cloneMn_spec _).mono ?_
  rintro e w1 ⟨rfl, rfl⟩
  obtain ⟨E, clock, hm, hr, hpp⟩ := H0.out.2.2
  have Hc := Lib.hid (AnyW.maps_Clone Tryz.cloneSI mb (E.map entry).toArray clock w1 hm)
  have Hm := Lib.hid (And.intro hr hpp)
  clear hm hr hpp
  have hrlt := lt_of_at H0.out.1
  go_wp2_with fail
  refine Hc.out.mono ?_
  rintro e w2 ⟨rfl, rfl⟩
  obtain ⟨mb2, hmb2⟩ : ∃ n, n = w1.heap.size := ⟨_, rfl⟩
  obtain ⟨lb, hlb⟩ : ∃ n, n = w1.heap.size + 1 := ⟨_, rfl⟩
  have hw1 := H0.out.2.1.size
  have hne : w.heap.size ≤ mb2 ∧ w.heap.size ≤ lb ∧ lb ≠ rb ∧ lb ≠ mb2 ∧ rb ≠ mb2 := by omega
  have hz2 : (w1.alloc (.map (E.map entry).toArray clock)).heap.size = w1.heap.size + 1 := by simp
  have k12 : Keeps [] w1 ((w1.alloc (.map (E.map entry).toArray clock)).alloc (.cells #[.int .i64 at_, .slice none 0 0, .map (some w1.heap.size)] 32)) := ((Keeps.refl [] w1).alloc _).alloc _
  have m1 : MapAt (w1.alloc (.map (E.map entry).toArray clock)) w1.heap.size (encMap encI M) := ⟨E, clock, heap_new w1 _, Hm.out.1, Hm.out.2⟩
  have m2 : MapAt ((w1.alloc (.map (E.map entry).toArray clock)).alloc (.cells #[.int .i64 at_, .slice none 0 0, .map (some w1.heap.size)] 32)) w1.heap.size (encMap encI M) := m1.keep ((Keeps.refl [] (w1.alloc (.map (E.map entry).toArray clock))).alloc _) (by simp)
  have nl2 := heap_new (w1.alloc (.map (E.map entry).toArray clock)) (.cells #[.int .i64 at_, .slice none 0 0, .map (some w1.heap.size)] 32)
  rw [hz2] at nl2
  have HL := Lib.hid (And.intro hlb hmb2)
  have H2 := Lib.hid (And.intro nl2 (And.intro (k12.at_ H0.out.1 (by simp)) (And.intro m2 (H0.out.2.1.trans k12))))
  clear hz2 k12 m1 m2 nl2 H0 Hc hlb hmb2
  go_upto_region 2 with fail
  rw [← HL.out.1, ← HL.out.2] at H2 ⊢
  generalize (w1.alloc (.map (E.map entry).toArray clock)).alloc (.cells #[.int .i64 at_, .slice none 0 0, .map (some mb2)] 32) = W2 at H2 ⊢
  clear Hm
  have c2 := cells_at H2.out.1
  have l2 := lt_of_at H2.out.1
  go_wp2_with fail
  refine (sortMn_spec W2 _).mono ?_
  rintro e w3 ⟨rfl, rfl⟩
  have cr3 := cells_at H2.out.2.1
  have fr3 := free_at H2.out.2.1
  have lr3 := lt_of_at H2.out.2.1
  go_wp2_with fail
  have se := set3 (v0 := .int .i64 at_) (v1 := .slice none 0 0) (v2 := .map (some mb2)) H2.out.2.1
  have hbr := HB.out
  have kwF : Keeps [] w _ := H2.out.2.2.2.after se.2 (fun x hx => .inr (by simp only [List.mem_singleton] at hx; omega))
  have hc := cells_at se.1
  have hlr := lt_of_at se.1
  refine bodyPost_ret (v := .agg #[.int .i64 at_, .slice none 0 0, .map (some mb2)]) ?_ rfl ⟨[], .slice none 0 0, mb2, rfl, List.Perm.refl _, List.Pairwise.nil, metasV_nil _ _, H2.out.2.2.1.keep se.2 (by simp; omega), hne.1, kwF⟩
  simp [results, Tryz.results43, go_sem, hc, hlr]
end Go.Proofs.YtjffdcflkkgpfaaGreat

namespace Go.Proofs.YtjffdcflkkgpfaaGreat
open Go Go.RowKit Go.Conc
open Go.Op (bytesLess)

def encS (b : ByteArray) : Value := .string b

theorem zeroStrO (w : World) : (zeroValue 9).run Tryz.prog w = .ok (.string ⟨#[]⟩) w := by kernel_rfl

theorem lookVal_str (L : List ObjS) (n : ByteArray) : lookVal (encMap encS L) n (.string ⟨#[]⟩) true = .tuple #[.string (bytesO L n), .bool (look L n).isSome] := by
  unfold lookVal bytesO
  rw [look_enc]
  cases look L n <;> rfl

/-- The statement's closure: the bytes of an object. -/
def LookAt (w : World) (bb mb : Nat) (L : List ObjS) : Prop := w.heap[bb]? = some (.cells #[.map (some mb)] 26 (0, 0)) ∧ MapAt w mb (encMap encS L)

theorem LookAt.same {w w' : World} {bb mb : Nat} {L : List ObjS} (h : LookAt w bb mb L) (k : Keeps [] w w') : LookAt w' bb mb L := ⟨k.at_ h.1 (by simp), h.2.keep k (by simp)⟩

set_option linter.unusedSimpArgs false in
theorem lookC_spec (w : World) (bb mb : Nat) (L : List ObjS) (n : ByteArray) (h : LookAt w bb mb L) :
    Calls Tryz.prog 10 #[.string n, .pointer (some ⟨bb, 0, none⟩)] w fun e w' => e = .returned (.tuple #[.string (bytesO L n), .bool (look L n).isSome]) ∧ w' = w := by
  have hrl := h.2.run_lookup (P := Tryz.prog) Tryz.underlying26 Tryz.underlying9 (zeroStrO _) n true
  rw [lookVal_str] at hrl
  have cb := cells_at h.1
  have lb := lt_of_at h.1
  clear h
  go_enter Tryz.func10, Tryz.ntmps10
  go_wp2_with fail
  go_ret2
  exact ⟨rfl, rfl⟩

theorem RowsR.snoc2 {base : Nat} {w : World} {R : List (List Value)} {Ls : List MetaS} {vs : List Value} {m : MetaS} (h : RowsR base w R Ls) (hl : R.length = Ls.length) (hm : MetaR base w vs m) : RowsR base w (R ++ [vs]) (Ls ++ [m]) := by
  intro i hi hi'
  by_cases e : i < R.length
  · rw [List.getElem_append_left e, List.getElem_append_left (by omega)]
    exact h i e (by omega)
  · have e1 : i = R.length := by simp at hi; omega
    subst e1
    rw [List.getElem_append_right (by omega), List.getElem_append_right (by omega)]
    simpa using hm

theorem look_nodup {L : List ObjS} (h : (L.map (fun o : ObjS => o.1)).Nodup) {k : Nat} (hk : k < L.length) : look L L[k].1 = some L[k].2 := by
  induction L generalizing k with
  | nil => simp at hk
  | cons a L ih =>
    obtain ⟨x, y⟩ := a
    simp only [List.map_cons, List.nodup_cons] at h
    cases k with
    | zero => simp [look]
    | succ k =>
      simp only [List.getElem_cons_succ, look]
      have hk' : k < L.length := by simpa using hk
      rw [if_neg ?_]
      · exact ih h.2 hk'
      · intro e
        exact h.1 (by rw [← e]; exact List.mem_map.2 ⟨L[k], List.getElem_mem _, rfl⟩)

theorem bytesO_nodup {L : List ObjS} (h : (L.map (fun o : ObjS => o.1)).Nodup) {k : Nat} (hk : k < L.length) : bytesO L L[k].1 = L[k].2 := by
  unfold bytesO
  rw [look_nodup h hk]

theorem bytesO_size {L : List ObjS} (h : ∀ o ∈ L, o.1.size ≤ 1000 ∧ o.2.size ≤ 5000) (n : ByteArray) : (bytesO L n).size ≤ 5000 := by
  unfold bytesO
  cases hl : look L n with
  | none => exact Nat.zero_le _
  | some d => exact (h _ (look_mem hl)).2

def OfRel (w : World) (L : List ObjS) (rb kb : Nat) (gk : Nat) (u7 u24 : Value) (wr : World) : Prop :=
  ∃ (k : Nat) (R : List (List Value)), k ≤ L.length ∧ gk = L.length - k ∧ u24 = .int .i64 k ∧ R.length = (ofN L k).length ∧ RowsR (w.heap.size + 1) wr R ((ofN L k).map (·.1)) ∧ wr.ownsRow (w.heap.size + 1) 63 8 u7 R.length (R.flatMap id) ∧ MapAt wr kb (encMap encI (marksOf (ofN L k))) ∧
    wr.heap[rb]? = some (.cells #[.int .i64 0, .slice none 0 0, .map none] 32 (0, 0)) ∧ Keeps [] w wr

theorem markStep_none {A : PartsM} {M : MetaS} {t : Int} (h : t < 0) : markStep A (M, t) = A := by unfold markStep; exact if_neg (by simp only; omega)

theorem markStep_some {A : PartsM} {M : MetaS} {t : Int} (h : 0 ≤ t) : markStep A (M, t) = put A M.id t := by unfold markStep; exact if_pos h

theorem whenO_no {L : List ObjS} {id : ByteArray} {U : List UInt8 × Int × Int} (hU : unmarkL (bytesO L (objectB id markB)).data.toList = U) (h : ¬ (U.2.2 = 0 ∧ U.1 = id.data.toList)) : whenO L id < 0 := by
  unfold whenO
  rw [hU, if_neg h]
  decide

theorem whenO_yes {L : List ObjS} {id : ByteArray} {U : List UInt8 × Int × Int} (hU : unmarkL (bytesO L (objectB id markB)).data.toList = U) (h : U.2.2 = 0 ∧ U.1 = id.data.toList) : whenO L id = U.2.1 := by
  unfold whenO
  rw [hU, if_pos h]


set_option linter.unusedSimpArgs false in
set_option maxRecDepth 100000 in
set_option maxHeartbeats 4000000 in
theorem listOfG_spec (w : World) (at_ : Int) (v : Value) (L : List ObjS) (fn : FuncId) (cv0 : Value) (hfn : GoFn Tryz.prog fn) (hv : LibVar w) (hn : SliceArg 1 encS1m w v (L.map (·.1))) (hlk : ∀ W, Keeps [] w W → ∀ n, Calls Tryz.prog fn #[.string n, cv0] W fun e w' => (∃ ok, e = .returned (.tuple #[.string (bytesO L n), .bool ok])) ∧ w' = W) (hsz : ∀ o ∈ L, o.1.size ≤ 1000 ∧ o.2.size ≤ 5000) (hl : L.length ≤ 20) (hnd : (L.map (fun o : ObjS => o.1)).Nodup) :
    Calls Tryz.prog 9 #[.int .i64 at_, v, .func (.func fn) #[] #[cv0]] w (NewLPost w.heap.size w at_ ((ofN L L.length).map (·.1)) (marksOf (ofN L L.length))) := by
  obtain ⟨TF, hTF⟩ : ∃ T, T = ofN L L.length := ⟨_, rfl⟩
  rw [← hTF]
  have HTF := Lib.hid hTF
  have HN := Lib.hid hn
  have HV := Lib.hid (And.intro hv (And.intro hlk (And.intro hsz hnd)))
  have Hfn := Lib.hid hfn
  obtain ⟨av, cv, rfl, hvm, -⟩ := hn
  rw [List.length_map] at hvm ⊢
  obtain ⟨im, him, hzm0, hzm1, hzm2⟩ := info_parts infoMeta
  have hmm := @run_makeMap Tryz.prog
  obtain ⟨rb, hrb⟩ : ∃ n, n = w.heap.size := ⟨_, rfl⟩
  obtain ⟨kb, hkb⟩ : ∃ n, n = w.heap.size + 1 := ⟨_, rfl⟩
  have n0 := new2 w (.cells #[.int .i64 0, .slice none 0 0, .map none] 32) (.map #[] 0)
  have k0 : Keeps [] w ((w.alloc (.cells #[.int .i64 0, .slice none 0 0, .map none] 32)).alloc (.map #[] 0)) := ((Keeps.refl [] w).alloc _).alloc _
  have hz0 : ((w.alloc (.cells #[.int .i64 0, .slice none 0 0, .map none] 32)).alloc (.map #[] 0)).heap.size = w.heap.size + 2 := by simp
  have hw0 : w.heap.size ≤ rb ∧ rb < w.heap.size + 1 ∧ w.heap.size + 1 ≤ kb := by omega
  have HB := Lib.hid (And.intro hrb hkb)
  have H0 := Lib.hid (And.intro n0.1 (And.intro n0.2 (And.intro k0 hz0)))
  clear n0 k0 hz0 hrb hkb hv hlk hsz hnd hTF hfn
  go_enter Tryz.func9, Tryz.ntmps9
  go_upto_region 3 with fail
  clear hmm
  rw [← HB.out.2] at H0 ⊢
  rw [← HB.out.1] at H0 ⊢
  generalize (w.alloc (.cells #[.int .i64 0, .slice none 0 0, .map none] 32)).alloc (.map #[] 0) = W0 at H0 ⊢
  have hm0 : MapAt W0 kb (encMap encI []) := ⟨[], 0, H0.out.2.1, ⟨by simp, by simp, by simp⟩, rfl⟩
  have H1 := Lib.hid (And.intro H0.out.1 (And.intro hm0 H0.out.2.2.1))
  clear hm0 H0
  go_wp2_with fail
  go_loopg [7, 24] L.length (OfRel w L rb kb)
  case atStart => exact ⟨0, [], Nat.zero_le _, rfl, rfl, by rw [ofN_zero]; rfl, by rw [ofN_zero]; intro i h; simp at h, World.ownsRow_nil W0 (w.heap.size + 1) _ 8, by rw [ofN_zero]; exact H1.out.2.1, H1.out.1, H1.out.2.2⟩
  case round =>
    obtain ⟨k, R, hk, hgk, rfl, hRl, hRR, hrow, hmap, hrb, hkr⟩ := hrel
    rename_i vm wr0
    have Hg := Lib.hid hgk
    clear H1 hgk
    obtain ⟨avm, cvm, rfl, -, -, -⟩ := row_slice hrow
    have hR15 : R.length ≤ 20 := by have := ofN_len L k; omega
    by_cases hlt : k < L.length
    · have hlt' : (k : Int) < (L.length : Int) := by omega
      obtain ⟨b6, of6, ea, hb6w, hc6w⟩ := HN.out.atI k (by rw [List.length_map]; exact hlt)
      subst ea
      have hb6 := hkr.lt hb6w
      have d0 : wr.cell? ⟨b6, of6 + k, none⟩ = some (.string L[k].1) := (hkr.cell hb6w (by simp)).trans (by simpa [encS1m] using hc6w 0 (by decide))
      have hnone := ofN_none hlt
      have hsome := fun M => ofN_some (L := L) (k := k) hlt (M := M)
      have hon : L[k].1.size ≤ 1000 := (HV.out.2.2.1 _ (List.getElem_mem hlt)).1
      have hod : L[k].2.size ≤ 5000 := (HV.out.2.2.1 _ (List.getElem_mem hlt)).2
      have hby := bytesO_nodup HV.out.2.2.2 hlt
      clear hc6w hb6w
      obtain ⟨o, hoe⟩ : ∃ o, o = L[k] := ⟨_, rfl⟩
      rw [← hoe] at d0 hnone hsome hon hod hby
      clear hoe
      obtain ⟨nm, dt⟩ := o
      dsimp only at d0 hon hod hby
      have HO := Lib.hid (And.intro hnone (And.intro hsome hby))
      have H := Lib.hid (And.intro hRl (And.intro hRR (And.intro hrow (And.intro hmap (And.intro hrb hkr)))))
      clear hnone hsome hby hRl hRR hrow hmap hrb hkr
      have Hsp := Lib.hid (split_spec wr (HV.out.1.same H.out.2.2.2.2.2) nm (by omega))
      go_wp2_with fail
      refine Hsp.out.mono ?_
      rintro e w1 ⟨rfl, hk1⟩
      have kw1 := H.out.2.2.2.2.2.trans hk1
      have H2 := Lib.hid (And.intro H.out.1 (And.intro (fun i h h' => (H.out.2.1 i h h').same hk1) (And.intro (hk1.row H.out.2.2.1 (by simp)) (And.intro (H.out.2.2.2.1.keep hk1 (by simp)) (And.intro (hk1.at_ H.out.2.2.2.2.1 (by simp)) (H.out.2.2.2.2.2.trans hk1))))))
      clear hk1 kw1 d0 Hsp H
      cases hsp : splitL nm.data.toList with
      | none =>
        have hst := HO.out.1 (metaO_skip hsp)
        have Hst := Lib.hid hst
        clear hst hsp
        simp only [splitVals]
        go_wp2_with fail
        go_roundg (L.length - (k + 1))
        case measure => have := Hg.out; omega
        case rel => exact ⟨k + 1, R, by omega, rfl, by go_num, by rw [Hst.out]; exact H2.out.1, by rw [Hst.out]; exact H2.out.2.1, H2.out.2.2.1, by rw [Hst.out]; exact H2.out.2.2.2.1, H2.out.2.2.2.2.1, H2.out.2.2.2.2.2⟩
      | some r =>
        obtain ⟨idn, part⟩ := r
        simp only [splitVals]
        obtain ⟨ib, hib⟩ : ∃ b : ByteArray, b = ⟨idn.toArray⟩ := ⟨_, rfl⟩
        obtain ⟨pb, hpb⟩ : ∃ b : ByteArray, b = ⟨part.toArray⟩ := ⟨_, rfl⟩
        have hid : ib.data.toList = idn := by rw [hib]
        have hpd : pb.data.toList = part := by rw [hpb]
        rw [← hib, ← hpb]
        have Hib := Lib.hid (And.intro hid hpd)
        clear hib hpb hid hpd
        by_cases hpm : part = metaB.data.toList
        rotate_left
        · have hst := HO.out.1 (metaO_part hsp hpm)
          have Hst := Lib.hid hst
          have m3 : (pb.toList == [109, 101, 116, 97]) = false := by rw [ByteArray.toList_eq, Hib.out.2, beq_eq_false_iff_ne]; exact hpm
          have p3 : (pb.toList != [109, 101, 116, 97]) = true := by rw [bne, m3]; rfl
          clear hst hsp hpm
          go_wp2_with fail
          go_roundg (L.length - (k + 1))
          case measure => have := Hg.out; omega
          case rel => exact ⟨k + 1, R, by omega, rfl, by go_num, by rw [Hst.out]; exact H2.out.1, by rw [Hst.out]; exact H2.out.2.1, H2.out.2.2.1, by rw [Hst.out]; exact H2.out.2.2.2.1, H2.out.2.2.2.2.1, H2.out.2.2.2.2.2⟩
        subst hpm
        have m3 : (pb.toList == [109, 101, 116, 97]) = true := by rw [ByteArray.toList_eq, Hib.out.2]; rfl
        have p3 : (pb.toList != [109, 101, 116, 97]) = false := by rw [bne, m3]; rfl
        have hiid : isIDB idn = true := (splitL_some hsp).2.1
        have Hsp := Lib.hid (And.intro hsp hiid)
        clear hsp hiid
        go_wp2_with (refine wpList_call_value rfl _ _ _ rfl fn #[] #[cv0] rfl Hfn.out ?_)
        refine (HV.out.2.1 w1 H2.out.2.2.2.2.2 nm).mono ?_
        rintro e w2 ⟨⟨ok1, rfl⟩, rfl⟩
        dsimp only
        rw [HO.out.2.2]
        go_wp2_with fail
        refine (decodeM_spec w2 dt (by omega)).mono ?_
        rintro e w3 hdec
        have hbw2 := H2.out.2.2.2.2.2.size
        cases hd : decS dt.data.toList with
        | none =>
          rw [hd] at hdec
          obtain ⟨c, hc, rfl, hk3⟩ := hdec
          have hst := HO.out.1 (metaO_bad Hsp.out.1 hd)
          have Hst := Lib.hid hst
          have hc1 : (c == 0) = false := by simp [hc]
          have hc2 : (c != 0) = true := by simp [hc]
          have k3a := hk3.trans ((Keeps.refl [] w3).alloc (.cells #[.string ⟨#[]⟩, .int .i64 0, .int .i64 0, .int .i64 0, .int .i64 0, .int .i64 0, .slice none 0 0, .slice none 0 0] 63))
          have H3 := Lib.hid (And.intro H2.out.1 (And.intro (fun i h h' => (H2.out.2.1 i h h').same k3a) (And.intro (k3a.row H2.out.2.2.1 (by simp)) (And.intro (H2.out.2.2.2.1.keep k3a (by simp)) (And.intro (k3a.at_ H2.out.2.2.2.2.1 (by simp)) (H2.out.2.2.2.2.2.trans k3a))))))
          clear hst hd hc hk3 k3a H2
          unfold zeroM
          go_wp2_with fail
          go_roundg (L.length - (k + 1))
          case measure => have := Hg.out; omega
          case rel => exact ⟨k + 1, R, by omega, rfl, by go_num, by rw [Hst.out]; exact H3.out.1, by rw [Hst.out]; exact H3.out.2.1, H3.out.2.2.1, by rw [Hst.out]; exact H3.out.2.2.2.1, H3.out.2.2.2.2.1, H3.out.2.2.2.2.2⟩
        | some M =>
          rw [hd] at hdec
          obtain ⟨vs, rfl, hmr, hk3⟩ := hdec
          have hvs := hmr
          obtain ⟨vf, vo, rfl, hsf, hso⟩ := hvs
          obtain ⟨af, cf, rfl, -, -, -⟩ := row_slice hsf
          obtain ⟨ao, co, rfl, -, -, -⟩ := row_slice hso
          clear hsf hso
          have ka : Keeps [] w3 (w3.alloc (.cells #[.string M.id, .int .i64 M.mn, .int .i64 M.mx, .int .i64 M.level, .int .i64 M.series, .int .i64 M.samples, .slice af M.files.length cf, .slice ao M.sources.length co] 63)) := (Keeps.refl [] w3).alloc _
          have na := heap_new w3 (.cells #[.string M.id, .int .i64 M.mn, .int .i64 M.mx, .int .i64 M.level, .int .i64 M.series, .int .i64 M.samples, .slice af M.files.length cf, .slice ao M.sources.length co] 63)
          obtain ⟨tb, htb⟩ : ∃ n, n = w3.heap.size := ⟨_, rfl⟩
          rw [← htb] at na
          have Htb := Lib.hid htb
          have k3a := hk3.trans ka
          have hlow : w.heap.size + 1 ≤ w2.heap.size := by have := lt_of_at H2.out.2.2.2.2.1; omega
          have H3 := Lib.hid (And.intro H2.out.1 (And.intro (fun i h h' => (H2.out.2.1 i h h').same k3a) (And.intro (k3a.row H2.out.2.2.1 (by simp)) (And.intro (H2.out.2.2.2.1.keep k3a (by simp)) (And.intro (k3a.at_ H2.out.2.2.2.2.1 (by simp)) (And.intro (H2.out.2.2.2.2.2.trans k3a) (And.intro na ((hmr.same ka).low hlow))))))))
          clear na ka htb hk3 k3a hmr H2
          go_upto_region 10 with fail
          rw [← Htb.out]
          clear Htb
          generalize w3.alloc (.cells #[.string M.id, .int .i64 M.mn, .int .i64 M.mx, .int .i64 M.level, .int .i64 M.series, .int .i64 M.samples, .slice af M.files.length cf, .slice ao M.sources.length co] 63) = W4 at H3 ⊢
          have ct := cells_at H3.out.2.2.2.2.2.2.1
          have lt := lt_of_at H3.out.2.2.2.2.2.2.1
          by_cases hii : M.id.data.toList = idn
          rotate_left
          · have hst := HO.out.1 (metaO_other Hsp.out.1 hd hii)
            have Hst := Lib.hid hst
            have i1 : (M.id.toList == ib.toList) = false := by rw [ByteArray.toList_eq, ByteArray.toList_eq, Hib.out.1, beq_eq_false_iff_ne]; exact hii
            have i2 : (M.id.toList != ib.toList) = true := by rw [bne, i1]; rfl
            clear hst hd hii
            go_wp2_with fail
            go_roundg (L.length - (k + 1))
            case measure => have := Hg.out; omega
            case rel => exact ⟨k + 1, R, by omega, rfl, by go_num, by rw [Hst.out]; exact H3.out.1, by rw [Hst.out]; exact H3.out.2.1, H3.out.2.2.1, by rw [Hst.out]; exact H3.out.2.2.2.1, H3.out.2.2.2.2.1, H3.out.2.2.2.2.2.1⟩
          have hst := HO.out.2.1 M (metaO_yes Hsp.out.1 hd hii)
          have Hst := Lib.hid hst
          have i1 : (M.id.toList == ib.toList) = true := by rw [ByteArray.toList_eq, ByteArray.toList_eq, Hib.out.1, hii]; simp
          have i2 : (M.id.toList != ib.toList) = false := by rw [bne, i1]; rfl
          have hie : ib = M.id := ba_ext (by rw [Hib.out.1, hii])
          have hi16 : M.id.size ≤ 16 := by rw [← hie]; have := (isID_signs Hsp.out.2).1; rw [← dsize, Hib.out.1]; omega
          have Hie := Lib.hid hie
          clear hst hd hii hie
          have hwz := H3.out.2.2.2.2.2.1.size
          go_upto_region 11 with fail
          clear i1 i2
          have hvl : ∀ g, (Value.slice avm R.length cvm).ownBlock = some g → w.heap.size ≤ g := fun g hg => Nat.le_of_succ_le (World.ownsRow.lt H3.out.2.2.1 g hg).1
          have Hvl := Lib.hid hvl
          clear hvl
          have hrlt := lt_of_at H3.out.2.2.2.2.1
          go_upto_region 12 with (at_builtin; refine wpList_append_own _ rfl (.tmp 59) (.tmp 61) 29 rfl (w.heap.size + 1) 63 im _ 8 104 Tryz.underlying29 him hzm0 hzm1 hzm2 rfl (by decide) (.slice avm R.length cvm) R.length (R.flatMap id) rfl (H3.out.2.2.1.alloc _) ⟨W4.heap.size, 0, none⟩ 1 1 [.string M.id, .int .i64 M.mn, .int .i64 M.mx, .int .i64 M.level, .int .i64 M.series, .int .i64 M.samples, .slice af M.files.length cf, .slice ao M.sources.length co] rfl rfl (news_of (heap_new W4 _)) (by simp [Value.oneCell']) (by simp only [maxLen]; omega) (by omega) (by simp; omega) ?_; intro v8 w8 hown8 hgrow8 hnil)
          obtain ⟨ao8, cp8, rfl, -, -, -⟩ := row_slice hown8
          clear hnil ct lt
          have ka : Keeps [] W4 (W4.alloc (.cells #[.string M.id, .int .i64 M.mn, .int .i64 M.mx, .int .i64 M.level, .int .i64 M.series, .int .i64 M.samples, .slice af M.files.length cf, .slice ao M.sources.length co] 63)) := (Keeps.refl [] W4).alloc _
          have kg := keeps_rowM hgrow8
          have hrowa := H3.out.2.2.1.alloc (.cells #[.string M.id, .int .i64 M.mn, .int .i64 M.mx, .int .i64 M.level, .int .i64 M.series, .int .i64 M.samples, .slice af M.files.length cf, .slice ao M.sources.length co] 63)
          have hRs9 : RowsR (w.heap.size + 1) w8 R ((ofN L k).map (·.1)) := fun i h h' => ((H3.out.2.1 i h h').same ka).keepRow hrowa kg
          have hm9 : MetaR (w.heap.size + 1) w8 [.string M.id, .int .i64 M.mn, .int .i64 M.mx, .int .i64 M.level, .int .i64 M.series, .int .i64 M.samples, .slice af M.files.length cf, .slice ao M.sources.length co] M := (H3.out.2.2.2.2.2.2.2.same ka).keepRow hrowa kg
          have hmapa := H3.out.2.2.2.1.keep ka (by simp)
          have hmap9 := hmapa.keep kg (row_ne_map hrowa hmapa)
          have hra := ka.at_ H3.out.2.2.2.2.1 (by simp)
          have nr9 := kg.at_ hra (row_ne_typeM hrowa hra (by decide))
          have hk9 : Keeps [] w w8 := keeps_grownM (H3.out.2.2.2.2.2.1.alloc _) hgrow8 Hvl.out
          have hrow9 : w8.ownsRow (w.heap.size + 1) 63 8 (.slice ao8 (R ++ [([.string M.id, .int .i64 M.mn, .int .i64 M.mx, .int .i64 M.level, .int .i64 M.series, .int .i64 M.samples, .slice af M.files.length cf, .slice ao M.sources.length co] : List Value)]).length cp8) (R ++ [([.string M.id, .int .i64 M.mn, .int .i64 M.mx, .int .i64 M.level, .int .i64 M.series, .int .i64 M.samples, .slice af M.files.length cf, .slice ao M.sources.length co] : List Value)]).length ((R ++ [([.string M.id, .int .i64 M.mn, .int .i64 M.mx, .int .i64 M.level, .int .i64 M.series, .int .i64 M.samples, .slice af M.files.length cf, .slice ao M.sources.length co] : List Value)]).flatMap id) := by
            rw [List.flatMap_append, List.length_append]
            simpa using hown8
          have HR9 := Lib.hid (And.intro (show (R ++ [([.string M.id, .int .i64 M.mn, .int .i64 M.mx, .int .i64 M.level, .int .i64 M.series, .int .i64 M.samples, .slice af M.files.length cf, .slice ao M.sources.length co] : List Value)]).length = (ofN L (k + 1)).length from by rw [Hst.out, List.length_append, List.length_append, H3.out.1]; rfl) (show RowsR (w.heap.size + 1) w8 (R ++ [([.string M.id, .int .i64 M.mn, .int .i64 M.mx, .int .i64 M.level, .int .i64 M.series, .int .i64 M.samples, .slice af M.files.length cf, .slice ao M.sources.length co] : List Value)]) ((ofN L (k + 1)).map (·.1)) from by rw [Hst.out, List.map_append]; exact hRs9.snoc2 (by rw [List.length_map]; exact H3.out.1) hm9))
          have H9 := Lib.hid (And.intro hmap9 (And.intro nr9 (And.intro hk9 hrow9)))
          have hR1 : (R ++ [([.string M.id, .int .i64 M.mn, .int .i64 M.mx, .int .i64 M.level, .int .i64 M.series, .int .i64 M.samples, .slice af M.files.length cf, .slice ao M.sources.length co] : List Value)]).length = R.length + 1 := by simp
          have HR1 := Lib.hid hR1
          clear ka kg hrowa hRs9 hm9 hmapa hmap9 hra nr9 hk9 hrow9 hown8 hgrow8 Hvl H3 hR1
          have Hob := Lib.hid (fun W => object_spec W ib markB (by rw [Hie.out]; omega) (by decide))
          go_wp2_with fail
          refine (Hob.out _).mono ?_
          rintro e w9 ⟨rfl, rfl⟩
          clear Hob
          go_wp2_with (refine wpList_call_value rfl _ _ _ rfl fn #[] #[cv0] rfl Hfn.out ?_)
          refine (HV.out.2.1 w8 H9.out.2.2.1 _).mono ?_
          rintro e w10 ⟨⟨ok2, rfl⟩, rfl⟩
          dsimp only
          have hbz := bytesO_size HV.out.2.2.1 (objectB ib markB)
          obtain ⟨U, hU⟩ : ∃ U, unmarkL (bytesO L (objectB ib markB)).data.toList = U := ⟨_, rfl⟩
          have Hdm := Lib.hid (fun W => by
            have h := decodeMark_spec W (bytesO L (objectB ib markB)) (by omega)
            rw [hU] at h
            exact h)
          have HU := Lib.hid (show unmarkL (bytesO L (objectB M.id markB)).data.toList = U from by rw [← Hie.out]; exact hU)
          clear hU
          generalize bytesO L (objectB ib markB) = md at hbz Hdm ⊢
          go_wp2_with fail
          refine (Hdm.out _).mono ?_
          rintro e w11 ⟨rfl, hk11⟩
          obtain ⟨um, ut, ue⟩ := U
          simp only [unmarkVals]
          obtain ⟨ub, hub⟩ : ∃ b : ByteArray, b = ⟨um.toArray⟩ := ⟨_, rfl⟩
          have hud : ub.data.toList = um := by rw [hub]
          rw [← hub]
          have Hub := Lib.hid hud
          clear hub hud Hdm
          have H11 := Lib.hid (And.intro (H9.out.1.keep hk11 (by simp)) (And.intro (hk11.at_ H9.out.2.1 (by simp)) (And.intro (H9.out.2.2.1.trans hk11) (And.intro (hk11.row H9.out.2.2.2 (by simp)) (fun i h h' => (HR9.out.2 i h h').same hk11)))))
          clear hk11 H9
          by_cases hmk : ue = 0 ∧ um = M.id.data.toList
          · obtain ⟨rfl, hum⟩ := hmk
            have hwh := whenO_yes HU.out ⟨rfl, hum⟩
            have hrg := whenO_range L M.id
            have hpos : 0 ≤ ut := by
              have := @unmark_range (bytesO L (objectB M.id markB)).data.toList
              rw [HU.out] at this
              exact this.1
            have hmst : marksOf (ofN L (k + 1)) = put (marksOf (ofN L k)) ib ut := by
              rw [Hst.out, marksOf_snoc, Hie.out, hwh, markStep_some hpos]
            have Hms := Lib.hid hmst
            have i3 : (ub.toList == ib.toList) = true := by rw [ByteArray.toList_eq, ByteArray.toList_eq, Hub.out, Hie.out, hum]; simp
            clear hum hwh hrg hpos hmst
            have hmap11 := H11.out.1
            generalize marksOf (ofN L k) = D at hmap11 Hms H11
            go_wp2_with (refine wpList_update_str _ rfl (.tmp 83) (.tmp 84) (.tmp 85) _ _ _ rfl Tryz.underlying30 Tryz.underlying9 kb (encMap encI D) ib (encI ut) (by rfl) (by rfl) (by rfl) hmap11 ?_; intro w12 hm12 hk12)
            rw [put_enc] at hm12
            have hbm : ∀ b ∈ [kb], (∃ kv, MapAt w11 b kv) ∨ ∃ cs t z, w11.heap[b]? = some (.cells cs t z) ∧ t ≠ 149 ∧ t ≠ 9 := fun b hb => by
              simp only [List.mem_singleton] at hb
              subst hb
              exact .inl ⟨_, hmap11⟩
            have H12 := Lib.hid (And.intro (fun i h h' => (H11.out.2.2.2.2 i h h').out hk12 hbm) (And.intro (hk12.row H11.out.2.2.2.1 (fun g hg hm => row_ne_map H11.out.2.2.2.1 hmap11 (by simp only [List.mem_singleton] at hm; subst hm; rw [hg]; simp))) (And.intro hm12 (And.intro (hk12.at_ H11.out.2.1 (by simp; omega)) (H11.out.2.2.1.after hk12 (fun x hx => .inr (by simp only [List.mem_singleton] at hx; omega)))))))
            clear hm12 hk12 hbm hmap11 H11
            rw [← HR1.out]
            go_roundg (L.length - (k + 1))
            case measure => have := Hg.out; omega
            case rel => exact ⟨k + 1, R ++ [([.string M.id, .int .i64 M.mn, .int .i64 M.mx, .int .i64 M.level, .int .i64 M.series, .int .i64 M.samples, .slice af M.files.length cf, .slice ao M.sources.length co] : List Value)], by omega, rfl, by go_num, HR9.out.1, H12.out.1, H12.out.2.1, by rw [Hms.out]; exact H12.out.2.2.1, H12.out.2.2.2.1, H12.out.2.2.2.2⟩
          · have hwh := whenO_no HU.out hmk
            have hmst : marksOf (ofN L (k + 1)) = marksOf (ofN L k) := by
              rw [Hst.out, marksOf_snoc, markStep_none hwh]
            have Hms := Lib.hid hmst
            clear hwh hmst
            rw [← HR1.out]
            by_cases hue : ue = 0
            · subst hue
              have i3 : (ub.toList == ib.toList) = false := by rw [ByteArray.toList_eq, ByteArray.toList_eq, Hub.out, Hie.out, beq_eq_false_iff_ne]; exact fun e => hmk ⟨rfl, e⟩
              clear hmk
              go_wp2_with fail
              go_roundg (L.length - (k + 1))
              case measure => have := Hg.out; omega
              case rel => exact ⟨k + 1, R ++ [([.string M.id, .int .i64 M.mn, .int .i64 M.mx, .int .i64 M.level, .int .i64 M.series, .int .i64 M.samples, .slice af M.files.length cf, .slice ao M.sources.length co] : List Value)], by omega, rfl, by go_num, HR9.out.1, H11.out.2.2.2.2, H11.out.2.2.2.1, by rw [Hms.out]; exact H11.out.1, H11.out.2.1, H11.out.2.2.1⟩
            · have hu1 : (ue == 0) = false := by simp [hue]
              clear hmk hue
              go_wp2_with fail
              go_roundg (L.length - (k + 1))
              case measure => have := Hg.out; omega
              case rel => exact ⟨k + 1, R ++ [([.string M.id, .int .i64 M.mn, .int .i64 M.mx, .int .i64 M.level, .int .i64 M.series, .int .i64 M.samples, .slice af M.files.length cf, .slice ao M.sources.length co] : List Value)], by omega, rfl, by go_num, HR9.out.1, H11.out.2.2.2.2, H11.out.2.2.2.1, by rw [Hms.out]; exact H11.out.1, H11.out.2.1, H11.out.2.2.1⟩
    · obtain rfl : k = L.length := by omega
      rw [← HTF.out] at hRl hRR hmap
      have hge : ¬ (L.length : Int) < (L.length : Int) := by omega
      have hnd : ((TF.map (·.1)).map (·.id)).Nodup := by
        rw [List.map_map, HTF.out]
        exact ofN_nodup HV.out.2.2.2 L.length
      have hwz := hkr.size
      have hrlt := lt_of_at hrb
      clear hlt
      by_cases hnl : avm = none
      · subst hnl
        have hR0 : R.length = 0 ∧ cvm = 0 := by
          obtain ⟨_, ⟨e, h0⟩ | ⟨g, cp, cur, e, _⟩⟩ := hrow
          · injection e with _ e1 e2
            exact ⟨e1, e2⟩
          · cases e
        obtain ⟨hR0, rfl⟩ := hR0
        have hT0 : TF = [] := List.eq_nil_of_length_eq_zero (by omega)
        have hN := newNil_spec (w.heap.size + 1) wr at_ kb (marksOf TF) hmap
        have HN2 := Lib.hid (And.intro hN (And.intro hrb hkr))
        have HT0 := Lib.hid hT0
        rw [hR0]
        clear hN hrb hkr hmap hRl hRR hrow hR0 hT0
        go_wp2_with fail
        refine HN2.out.1.mono ?_
        rintro e w2 ⟨L', vm, mb2, rfl, hp, hr, hm2, hmp2, hmb2, hk2⟩
        have nr := hk2.at_ HN2.out.2.1 (by simp)
        have H3 := Lib.hid (And.intro nr (And.intro hp (And.intro hr (And.intro hm2 (And.intro hmp2 (HN2.out.2.2.trans hk2))))))
        obtain ⟨am, cm, rfl⟩ := hm2.form
        have cr := cells_at nr
        have fr := free_at nr
        have lr := lt_of_at nr
        clear nr hp hr hm2 hmp2 hk2
        go_wp2_with fail
        have se := set3 (v0 := .int .i64 at_) (v1 := .slice am L'.length cm) (v2 := .map (some mb2)) H3.out.1
        have hc := cells_at se.1
        have hlr := lt_of_at se.1
        refine bodyPost_ret (v := .agg #[.int .i64 at_, .slice am L'.length cm, .map (some mb2)]) ?_ rfl ⟨L', .slice am L'.length cm, mb2, rfl, ?_, H3.out.2.2.1, (H3.out.2.2.2.1.keep se.2 (by simp only [List.mem_singleton]; rintro x rfl; omega)).low (by omega), H3.out.2.2.2.2.1.keep se.2 (by simp; omega), by omega, H3.out.2.2.2.2.2.after se.2 (fun x hx => .inr (by simp only [List.mem_singleton] at hx; omega))⟩
        · simp [results, Tryz.results9, go_sem, hc, hlr]
        · rw [HT0.out]
          exact H3.out.2.1
      · obtain ⟨a, rfl⟩ : ∃ a, avm = some a := by cases avm with | none => exact absurd rfl hnl | some a => exact ⟨a, rfl⟩
        have hms := RowsR.metas hRR (by rw [List.length_map]; exact hRl) hrow
        have hN := new_spec (w.heap.size + 1) wr at_ a R.length cvm (TF.map (·.1)) (some kb) (marksOf TF) hms (by rw [List.length_map, ← hRl]; omega) hnd (by omega) (.inl ⟨kb, rfl, hmap⟩)
        have HN2 := Lib.hid (And.intro hN (And.intro hrb hkr))
        clear hN hrb hkr hmap hRl hRR hrow hms
        go_wp2_with fail
        refine HN2.out.1.mono ?_
        rintro e w2 ⟨L', vm, mb2, rfl, hp, hr, hm2, hmp2, hmb2, hk2⟩
        have nr := hk2.at_ HN2.out.2.1 (by simp)
        have H3 := Lib.hid (And.intro nr (And.intro hp (And.intro hr (And.intro hm2 (And.intro hmp2 (HN2.out.2.2.trans hk2))))))
        obtain ⟨am, cm, rfl⟩ := hm2.form
        have cr := cells_at nr
        have fr := free_at nr
        have lr := lt_of_at nr
        clear nr hp hr hm2 hmp2 hk2
        go_wp2_with fail
        have se := set3 (v0 := .int .i64 at_) (v1 := .slice am L'.length cm) (v2 := .map (some mb2)) H3.out.1
        have hc := cells_at se.1
        have hlr := lt_of_at se.1
        refine bodyPost_ret (v := .agg #[.int .i64 at_, .slice am L'.length cm, .map (some mb2)]) ?_ rfl ⟨L', .slice am L'.length cm, mb2, rfl, H3.out.2.1, H3.out.2.2.1, (H3.out.2.2.2.1.keep se.2 (by simp only [List.mem_singleton]; rintro x rfl; omega)).low (by omega), H3.out.2.2.2.2.1.keep se.2 (by simp; omega), by omega, H3.out.2.2.2.2.2.after se.2 (fun x hx => .inr (by simp only [List.mem_singleton] at hx; omega))⟩
        simp [results, Tryz.results9, go_sem, hc, hlr]

/-- With the closure of the statement on objects. -/
theorem listOf_spec (w : World) (at_ : Int) (v : Value) (L : List ObjS) (bb mb : Nat) (hv : LibVar w) (hn : SliceArg 1 encS1m w v (L.map (·.1))) (hlk : LookAt w bb mb L) (hsz : ∀ o ∈ L, o.1.size ≤ 1000 ∧ o.2.size ≤ 5000) (hl : L.length ≤ 15) (hnd : (L.map (fun o : ObjS => o.1)).Nodup) :
    Calls Tryz.prog 9 #[.int .i64 at_, v, .func (.func 10) #[] #[.pointer (some ⟨bb, 0, none⟩)]] w (NewLPost w.heap.size w at_ ((ofN L L.length).map (·.1)) (marksOf (ofN L L.length))) :=
  listOfG_spec w at_ v L 10 (.pointer (some ⟨bb, 0, none⟩)) ⟨_, Tryz.func10, by kernel_rfl, by kernel_rfl⟩ hv hn (fun W hk n => (lookC_spec W bb mb L n (hlk.same hk)).mono fun _ _ ⟨he, hw⟩ => ⟨⟨_, he⟩, hw⟩) hsz (by omega) hnd
end Go.Proofs.YtjffdcflkkgpfaaGreat
