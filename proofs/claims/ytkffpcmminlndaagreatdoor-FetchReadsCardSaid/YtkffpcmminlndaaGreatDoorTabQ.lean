/-
  The document's Add of what is asked for of a table (package barographref23), walked.
  The tables are of few rows; the matchers may be.
-/
import Derived.Test.YtkffpcmminlndaaGreatDoorTabLaw
import Derived.Test.YtkffpcmminlndaaGreatDoorGetP
namespace Go.Proofs.YtkffpcmminlndaaGreatDoor
open Go Go.RowKit

def betB (from_ upt : Int) (s : SmpB) : Prop := from_ ≤ s.1 ∧ s.1 < upt

theorem betS_yes {from_ upt : Int} {l : List SmpB} {s : SmpB} (h : betB from_ upt s) : betS from_ upt (l ++ [s]) = betS from_ upt l ++ [s] := by
  have : decide (from_ ≤ s.1 ∧ s.1 < upt) = true := decide_eq_true h
  simp only [betS, List.filter_append, List.filter_cons, List.filter_nil, this, if_true]

theorem betS_no {from_ upt : Int} {l : List SmpB} {s : SmpB} (h : ¬ betB from_ upt s) : betS from_ upt (l ++ [s]) = betS from_ upt l := by
  have : [s].filter (fun s => decide (from_ ≤ s.1 ∧ s.1 < upt)) = [] := by
    rw [List.filter_eq_nil_iff]
    intro q hq hc
    obtain rfl : q = s := by simpa using hq
    exact h (show from_ ≤ q.1 ∧ q.1 < upt from by simpa using hc)
  unfold betS
  rw [List.filter_append, this, List.append_nil]

theorem betT_one (from_ upt : Int) (lab : List PairB) (l : List SmpB) : betT from_ upt [(lab, l)] = if betS from_ upt l = [] then [] else [(lab, betS from_ upt l)] := by
  unfold betT
  by_cases h : betS from_ upt l = []
  · simp [h]
  · simp [h]

/-- A sample more. -/
theorem bet_step {from_ upt : Int} {C : TabT} {lab : List PairB} {l : List SmpB} {s : SmpB} (hC : ∀ r ∈ C, ltL r.1 lab) (hl : (l ++ [s]).Pairwise ltS) (h : betB from_ upt s) : addT lab s (betT from_ upt (C ++ [(lab, l)])) = betT from_ upt (C ++ [(lab, l ++ [s])]) := by
  have hC' : ∀ r ∈ betT from_ upt C, ltL r.1 lab := fun r hr => by
    obtain ⟨q, hq, rfl, _⟩ := betT_mem hr
    exact hC q hq
  rw [betT_app, betT_app, betT_one, betT_one, betS_yes h]
  rw [if_neg (show ¬ (betS from_ upt l ++ [s] = []) from by simp)]
  by_cases h0 : betS from_ upt l = []
  · rw [if_pos h0, h0, List.append_nil, addT_end hC']
    rfl
  · rw [if_neg h0, addT_last (l := betS from_ upt l) hC' (fun y hy => (List.pairwise_append.1 hl).2.2 y (List.mem_filter.1 hy).1 s List.mem_cons_self)]

theorem bet_stay {from_ upt : Int} {C : TabT} {lab : List PairB} {l : List SmpB} {s : SmpB} (h : ¬ betB from_ upt s) : betT from_ upt (C ++ [(lab, l ++ [s])]) = betT from_ upt (C ++ [(lab, l)]) := by
  rw [betT_app, betT_app, betT_one, betT_one, betS_no h]

theorem betT_few {from_ upt : Int} {A : TabT} (h : FewT A) : FewT (betT from_ upt A) := by
  refine ⟨?_, fun q hq => ?_⟩
  · unfold betT
    refine Nat.le_trans (List.length_filter_le _ _) ?_
    rw [List.length_map]
    exact h.1
  · obtain ⟨r, hr, rfl, _⟩ := betT_mem hq
    have h1 := h.2 r hr
    have h2 : (betS from_ upt r.2).length ≤ r.2.length := List.length_filter_le _ _
    exact ⟨h1.1, by show (betS from_ upt r.2).length ≤ 500; omega⟩

def fitR (L : List MatB) (r : RowT) : Bool := L.all (fitsM r.1)

end Go.Proofs.YtkffpcmminlndaaGreatDoor
