/-
  The document's disk: Do and Cut in the words of the disk's calls (opErr, opQ, opO).
-/
import Derived.Test.YthcdodjdlgeeoaaRefDoRen
import Derived.Test.YthcdodjdlgeeoaaRefCut
import Derived.Test.YthcdodjdlgeeoaaRefCrash
namespace Go.Proofs.Ythcdodjdlgeeoaa
open Go Go.RowKit Go.ChangeShapes Go.WideShapes Go.Deep

theorem ix_none {o : List (ByteArray × Ob)} {n : ByteArray} (h : look o n = none) : findIx (full o) n = -1 := by
  refine findIx_no fun j hj e => ?_
  have hm := (full_sorts.mem ((full o)[j]).1 ((full o)[j]).2).1 (List.getElem_mem hj)
  rw [e, h] at hm
  cases hm
theorem ix_some {o : List (ByteArray × Ob)} (hn : (o.map (·.1)).Nodup) {n : ByteArray} {x : Ob} (h : look o n = some x) : ∃ i, ∃ hi : i < (full o).length, (full o)[i] = (n, x) ∧ findIx (full o) n = i := by
  obtain ⟨i, hi, e⟩ := List.mem_iff_getElem.1 ((full_sorts.mem n x).2 h)
  refine ⟨i, hi, e, findIx_at hi (by rw [e]) fun j hj hjl e2 => ?_⟩
  have hnd := full_nodup hn
  have h1 := List.pairwise_iff_getElem.1 hnd j i (by simpa using hjl) (by simpa using hi) hj
  simp [e, e2] at h1
/-- Lists of files that read alike are told alike. -/
theorem full_congr {o o' : List (ByteArray × Ob)} (hn : (o.map (·.1)).Nodup) (hn' : (o'.map (·.1)).Nodup) (h : ∀ n, look o n = look o' n) : full o = full o' :=
  sorts_unique full_sorts ⟨full_sorts.srt, fun n x => by rw [full_sorts.mem, h]⟩ (full_nodup hn) (full_nodup hn')
theorem full_put' {o : List (ByteArray × Ob)} (hn : (o.map (·.1)).Nodup) (n : ByteArray) (x : Ob) : full (put o n x) = insL ((full o).filter fun p => !decide (p.1 = n)) (n, x) := full_put hn (fun n v => put_nodup hn n v) n x
theorem full_ren {o : List (ByteArray × Ob)} (hn : (o.map (·.1)).Nodup) (a b : ByteArray) {x : Ob} (hx : look o a = some x) : full (renO o a b) = renL (full o) a b x := by
  unfold renO renL
  rw [← full_del hn a (del_nodup hn a), ← full_put' (del_nodup hn a) b x]
  split
  · rename_i e
    subst e
    refine full_congr hn (put_nodup (del_nodup hn a) a x) fun m => ?_
    rw [look_put, look_del a m o hn]
    split
    · rename_i e
      subst e
      exact hx
    · rfl
  · rw [hx]
    rfl
theorem chg_full (Q : List (Int × Bool)) (o o' : List (ByteArray × Ob)) (M : List (ByteArray × Ob)) (h : full o' = M) : full (chg Q o o') = putL Q (full o) M := by
  unfold chg putL
  split
  · exact h
  · rfl

section
variable (w : World) (v : Value) (o : List (ByteArray × Ob)) (room : Nat) (Q : List (Int × Bool)) (hnd : (o.map (·.1)).Nodup) (hroom : room ≤ 9223372036854775807) (hfit : used o ≤ room) (hu : used o ≤ 100000) (hL : o.length ≤ 900) (hQ : Q.length ≤ 1000) (hQk : ∀ x ∈ Q, okF x) (h : RefD w v (full o) (room : Int) Q)

set_option linter.unusedSectionVars false
/-- The document's answer to a call: what the disk's call has. -/
def RefPost (w : World) (o o' : List (ByteArray × Ob)) (room : Nat) (Q : List (Int × Bool)) (r : Option Int) : Ending → World → Prop := DoDPost w (full (opO r Q o o')) (room : Int) (opQ r Q) (opErr r Q)

include hnd hroom hfit hu hL hQ hQk h
theorem refDo1 (n s : ByteArray) (hn : n.size ≤ 1000) (hs : s.size ≤ 1000) :
    Calls Try.prog 69 #[v, .int .i64 1, .string n, .string s] w (RefPost w o (appO o n s) room Q (appR room o n s)) := by
  have hsum := sumL_full hnd
  unfold RefPost appR
  by_cases hb : n.size = 0 ∨ 40 < n.size
  · rw [if_pos hb]
    exact do_bad w v (full o) room Q n s hn hb h
  · rw [if_neg hb]
    by_cases hf : room < used o + s.size
    · rw [if_pos hf]
      exact do_full w v (full o) room Q n s hn hb (by omega) (by omega) (by omega) (by omega) h
    · rw [if_neg hf]
      show Calls _ _ _ _ (DoDPost w (full (chg Q o (appO o n s))) (room : Int) (tryQ Q) (ioErr Q))
      cases hl : look o n with
      | none =>
        have e1 : full (appO o n s) = insL ((full o).filter fun p => !decide (p.1 = n)) (n, ((⟨#[]⟩ : ByteArray) ++ s, 0)) := by unfold appO; rw [hl]; exact full_put' hnd n _
        rw [chg_full Q o (appO o n s) _ e1]
        exact do_app_new w v (full o) room Q n s hn hb (by omega) (by omega) (by omega) (by rw [full_len]; exact hL) hQ hQk (ix_none hl) h
      | some x =>
        obtain ⟨i, hi, e, hix⟩ := ix_some hnd hl
        have hx : x.1.size ≤ used o := by have := look_le (n := n) o; rw [hl] at this; exact this
        have e1 : full (appO o n s) = insL ((full o).filter fun p => !decide (p.1 = n)) (n, (x.1 ++ s, x.2)) := by unfold appO; rw [hl]; exact full_put' hnd n _
        rw [chg_full Q o (appO o n s) _ e1]
        exact do_app_old w v (full o) room Q n s hn hb (by omega) (by omega) (by omega) (by rw [full_len]; exact hL) hQ hQk hs i hi x e hix (by omega) h
theorem refDo2 (n s : ByteArray) :
    Calls Try.prog 69 #[v, .int .i64 2, .string n, .string s] w (RefPost w o (syncO o n) room Q (noneR o n)) := by
  unfold RefPost noneR
  cases hl : look o n with
  | none => exact do_none w v (full o) room Q n s 2 (by omega) (ix_none hl) h
  | some x =>
    obtain ⟨i, hi, e, hix⟩ := ix_some hnd hl
    have hx : x.1.size ≤ used o := by have := look_le (n := n) o; rw [hl] at this; exact this
    show Calls _ _ _ _ (DoDPost w (full (chg Q o (syncO o n))) (room : Int) (tryQ Q) (ioErr Q))
    have e1 : full (syncO o n) = insL ((full o).filter fun p => !decide (p.1 = n)) (n, (x.1, (x.1.size : Int))) := by unfold syncO; rw [hl]; exact full_put' hnd n _
    rw [chg_full Q o (syncO o n) _ e1]
    exact do_sync w v (full o) room Q n s (by rw [full_len]; exact hL) hQ hQk i hi x e hix (by omega) h
theorem refDo4 (n s : ByteArray) :
    Calls Try.prog 69 #[v, .int .i64 4, .string n, .string s] w (RefPost w o (del o n) room Q (noneR o n)) := by
  unfold RefPost noneR
  cases hl : look o n with
  | none => exact do_none w v (full o) room Q n s 4 (by omega) (ix_none hl) h
  | some x =>
    obtain ⟨i, hi, e, hix⟩ := ix_some hnd hl
    show Calls _ _ _ _ (DoDPost w (full (chg Q o (del o n))) (room : Int) (tryQ Q) (ioErr Q))
    rw [chg_full Q o (del o n) _ (full_del hnd n (del_nodup hnd n))]
    exact do_remove w v (full o) room Q n s (by rw [full_len]; exact hL) hQ hQk i hi x e hix h
theorem refDo3 (n s : ByteArray) (hs : s.size ≤ 1000) :
    Calls Try.prog 69 #[v, .int .i64 3, .string n, .string s] w (RefPost w o (renO o n s) room Q (renR o n s)) := by
  unfold RefPost renR
  cases hl : look o n with
  | none => exact do_none w v (full o) room Q n s 3 (by omega) (ix_none hl) h
  | some x =>
    obtain ⟨i, hi, e, hix⟩ := ix_some hnd hl
    rw [if_pos (show (some x).isSome = true from rfl)]
    by_cases hb : s.size = 0 ∨ 40 < s.size
    · rw [if_pos hb]
      exact do_bad3 w v (full o) room Q n s hs hb (by omega) h
    · rw [if_neg hb]
      show Calls _ _ _ _ (DoDPost w (full (chg Q o (renO o n s))) (room : Int) (tryQ Q) (ioErr Q))
      rw [chg_full Q o (renO o n s) _ (full_ren hnd n s hl)]
      exact do_rename w v (full o) room Q n s (by rw [full_len]; exact hL) hQ hQk i hi x e hix hs hb h
theorem refCut (n : ByteArray) (k : Int) :
    Calls Try.prog 68 #[v, .string n, .int .i64 k] w (RefPost w o (truncO o n k.toNat) room Q (truncR o n k)) := by
  unfold RefPost truncR
  cases hl : look o n with
  | none => exact cut_none w v (full o) room Q n k (ix_none hl) h
  | some x =>
    obtain ⟨i, hi, e, hix⟩ := ix_some hnd hl
    have hx : x.1.size ≤ used o := by have := look_le (n := n) o; rw [hl] at this; exact this
    rw [if_pos (show (some x).isSome = true from rfl)]
    by_cases hb : k < 0 ∨ (x.1.size : Int) < k
    · rw [if_pos (by simpa [obOr] using hb)]
      exact cut_bad w v (full o) room Q n k i hi x e hix (by omega) hb h
    · rw [if_neg (by simpa [obOr] using hb)]
      show Calls _ _ _ _ (DoDPost w (full (chg Q o (truncO o n k.toNat))) (room : Int) (tryQ Q) (ioErr Q))
      have hk : ((k.toNat : Nat) : Int) = k := by omega
      have e1 : full (truncO o n k.toNat) = insL ((full o).filter fun p => !decide (p.1 = n)) (n, (x.1.extract 0 k.toNat, k)) := by unfold truncO; rw [hl, hk]; exact full_put' hnd n _
      rw [chg_full Q o (truncO o n k.toNat) _ e1]
      exact cut_do w v (full o) room Q n k (by rw [full_len]; exact hL) hQ hQk i hi x e hix (by omega) (by omega) (by omega) h
end

end Go.Proofs.Ythcdodjdlgeeoaa
