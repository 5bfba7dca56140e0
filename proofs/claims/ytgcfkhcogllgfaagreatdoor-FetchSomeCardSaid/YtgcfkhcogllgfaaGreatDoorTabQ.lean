/-
  The document's Add of what is asked for of a table (package barographref23), walked.
  The tables are of few rows; the matchers may be.
-/
import Derived.Test.YtgcfkhcogllgfaaGreatDoorTabLaw
import Derived.Test.YtgcfkhcogllgfaaGreatDoorGetP
namespace Go.Proofs.YtgcfkhcogllgfaaGreatDoor
open Go Go.RowKit
def betB (from_ upt : Int) (s : SmpB) : Prop := from_ ≤ s.1 ∧ s.1 < upt
theorem betS_yes {from_ upt : Int} {l : List SmpB} {s : SmpB} (h : betB from_ upt s) : betS from_ upt (l ++ [s]) = betS from_ upt l ++ [s] := by
 have : decide (from_ ≤ s.1 ∧ s.1 < upt) = true := decide_eq_true h
 simp only [betS, List.filter_append, List.filter_cons, List.filter_nil, this, if_true]
theorem betS_no {from_ upt : Int} {l : List SmpB} {s : SmpB} (h : ¬ betB from_ upt s) : betS from_ upt (l ++ [s]) = betS from_ upt l := by
 have : [s].filter (fun s => decide (from_ ≤ s.1 ∧ s.1 < upt)) = [] := by
  rw [List.filter_eq_nil_iff]
  intro q hq hc
  obtain rfl : q = s := by simpa using hq
  exact h (show from_ ≤ q.1 ∧ q.1 < upt from by simpa using hc)
 unfold betS
 rw [List.filter_append, this, List.append_nil]
theorem betT_one (from_ upt : Int) (lab : List PairB) (l : List SmpB) : betT from_ upt [(lab, l)] = if betS from_ upt l = [] then [] else [(lab, betS from_ upt l)] := by
 unfold betT
 by_cases h : betS from_ upt l = []
 ·simp [h]
 ·simp [h]
def fitR (L : List MatB) (r : RowT) : Bool := L.all (fitsM r.1)
end Go.Proofs.YtgcfkhcogllgfaaGreatDoor
