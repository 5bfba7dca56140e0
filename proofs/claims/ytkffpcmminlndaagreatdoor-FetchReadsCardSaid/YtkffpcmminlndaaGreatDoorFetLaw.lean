/-
  What a fetch reads of a table, in plain words: the rows that fit and meet the times; between two times they are the table's rows between them that fit.
  No condition beyond those that each theorem states.
-/
import Derived.Test.YtkffpcmminlndaaGreatDoorTabQ
import Derived.Test.YtkffpcmminlndaaGreatDoorBldS
namespace Go.Proofs.YtkffpcmminlndaaGreatDoor
open Go Go.RowKit

/-- Are a row's first and last times so that it is to be read? -/
def meetsR (fr up : Int) (r : RowT) : Bool := decide ((firstT r.2 : Int) < up) && decide (fr ≤ (lastT r.2 : Int))

def wantR (fr up : Int) (L : List MatB) (r : RowT) : Bool := meetsR fr up r && fitR L r

def wantT (fr up : Int) (L : List MatB) (A : TabT) : TabT := A.filter (wantR fr up L)

theorem betS_none {fr up : Int} {l : List SmpB} (h : ∀ s ∈ l, ¬ (fr ≤ s.1 ∧ s.1 < up)) : betS fr up l = [] := by
  unfold betS
  rw [List.filter_eq_nil_iff]
  intro s hs
  simpa using h s hs

theorem first_le {l : List SmpB} (hp : l.Pairwise ltS) (hb : ∀ s ∈ l, 0 ≤ s.1) : ∀ s ∈ l, (firstT l : Int) ≤ s.1 ∧ s.1 ≤ (lastT l : Int) := by
  intro s hs
  obtain ⟨i, hi, rfl⟩ := List.mem_iff_getElem.1 hs
  have h0 : 0 < l.length := by omega
  have e1 : firstT l = (l[0].1).toNat := by
    unfold firstT
    rw [List.headD_eq_head?_getD, List.head?_eq_getElem?, List.getElem?_eq_getElem h0]
    rfl
  have e2 : lastT l = ((l[l.length - 1]'(by omega)).1).toNat := by
    unfold lastT
    rw [List.getLastD_eq_getLast?, List.getLast?_eq_getElem?, List.getElem?_eq_getElem (by omega)]
    rfl
  have b0 := hb l[0] (List.getElem_mem h0)
  have b1 := hb (l[l.length - 1]'(by omega)) (List.getElem_mem _)
  have hlt : ∀ a b (ha : a < l.length) (hb : b < l.length), a < b → l[a].1 < l[b].1 := fun a b ha hb hab => List.pairwise_iff_getElem.1 hp a b ha hb hab
  constructor
  · rcases Nat.eq_zero_or_pos i with rfl | hp'
    · omega
    · have := hlt 0 i h0 hi hp'
      omega
  · rcases Nat.lt_or_ge i (l.length - 1) with h | h
    · have := hlt i (l.length - 1) hi (by omega) h
      omega
    · have : i = l.length - 1 := by omega
      subst this
      omega

theorem meets_none {fr up : Int} {r : RowT} (hp : r.2.Pairwise ltS) (hb : ∀ s ∈ r.2, 0 ≤ s.1) (h : meetsR fr up r = false) : betS fr up r.2 = [] := betS_none fun s hs hc => by
  have h1 := first_le hp hb s hs
  unfold meetsR at h
  rw [Bool.and_eq_false_iff, decide_eq_false_iff_not, decide_eq_false_iff_not] at h
  omega

theorem betT_drop {fr up : Int} {q : RowT → Bool} {A : TabT} (h : ∀ r ∈ A, q r = false → betS fr up r.2 = []) : betT fr up (A.filter q) = betT fr up A := by
  induction A with
  | nil => rfl
  | cons r A ih =>
    have ih := ih (fun x hx => h x (by simp [hx]))
    rw [List.filter_cons]
    have e : ∀ C : TabT, betT fr up (r :: C) = betT fr up [r] ++ betT fr up C := fun C => betT_app fr up [r] C
    split
    · rw [e (A.filter q), e A, ih]
    · rename_i hq
      have hb := h r (by simp) (by simpa using hq)
      rw [ih, e A]
      have : betT fr up [r] = [] := by simp [betT, hb]
      rw [this]
      rfl

/-- What is read, between the times, is what is asked for. -/
theorem want_bet {fr up : Int} {L : List MatB} {A : TabT} (h : ∀ r ∈ A, r.2.Pairwise ltS ∧ ∀ s ∈ r.2, 0 ≤ s.1) : betT fr up (wantT fr up L A) = (betT fr up A).filter (fitR L) := by
  have e : wantT fr up L A = (A.filter (fitR L)).filter (meetsR fr up) := by
    unfold wantT wantR
    rw [List.filter_filter]
  rw [e, betT_drop]
  · exact (betT_filter fr up A (fun l => L.all (fitsM l))).symm
  · intro r hr hq
    have hr := (List.mem_filter.1 hr).1
    exact meets_none (h r hr).1 (h r hr).2 hq
end Go.Proofs.YtkffpcmminlndaaGreatDoor
