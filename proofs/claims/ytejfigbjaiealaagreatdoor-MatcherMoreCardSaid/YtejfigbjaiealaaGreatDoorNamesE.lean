/-
  Package posting: All and Names of an index that is empty.
  No condition beyond those that each theorem states.
-/
import Derived.Test.YtejfigbjaiealaaGreatDoorKeys
import Derived.Test.YtejfigbjaiealaaGreatDoorPostAdd
namespace Go.Proofs.YtejfigbjaiealaaGreatDoor
open Go Go.RowKit

/-- The contract of slices.Sorted(maps.Keys(m)) at a map of nothing. -/
theorem keysE_call (w : World) (mb : Nat) (h : MapAt w mb []) :
    Calls Tryz.prog 32 #[.func (.func 55) #[] #[.pointer (some ⟨w.heap.size, 0, none⟩)]] (w.alloc (.cells #[.map (some mb)] 73))
      fun e w' => ∃ v, e = .returned v ∧ w'.ownsRow (w.heap.size + 1) 9 1 v 0 [] ∧ Keeps [] w w' := by
  obtain ⟨D, hown, hD, hsz⟩ := h.owns (P := Tryz.prog) Tryz.underlying9 (fun p hp => by simp at hp) (by simp)
  refine (callsIn_wide.1 (Tryz.slices_Sorted_keys_32_35 mb _ D anyR w hown (by rw [hsz]; simp) (by rw [hsz]; simp))).mono ?_
  rintro e w' ⟨v, ss, rfl, hp, hrow, _, hb⟩
  have h0 := (hp.trans hD).length_eq
  have hs : ss = [] := by simpa using h0
  subst hs
  refine ⟨v, rfl, ?_, (Keeps.refl [] w).alloc _ |>.trans (Keeps.of_below hb)⟩
  simpa using hrow

theorem mapKeysE_call (w : World) (mb : Nat) :
    Calls Tryz.prog 35 #[.map (some mb)] w
      fun e w' => e = .returned (.func (.func 55) #[] #[.pointer (some ⟨w.heap.size, 0, none⟩)]) ∧ w' = w.alloc (.cells #[.map (some mb)] 73) :=
  callsIn_wide.1 (Tryz.maps_Keys_35 (some mb) w)

set_option maxRecDepth 100000 in
set_option maxHeartbeats 1000000 in
theorem namesE_spec (w : World) (x mb : Nat) (va : Value) (hx : IxAt w x mb va) (hm : MapAt w mb []) :
    Calls Tryz.prog 16 #[.pointer (some ⟨x, 0, none⟩)] w fun e w' => ∃ a c, e = .returned (.slice a 0 c) ∧ Keeps [] w w' := by
  have c0 := cells_at hx
  have l0 := lt_of_at hx
  have Hm := Lib.hid hm
  clear hm hx
  go_enter Tryz.func16, Tryz.ntmps16
  go_wp2_with fail
  refine (mapKeysE_call w mb).mono ?_
  rintro e w1 ⟨rfl, rfl⟩
  go_wp2_with fail
  refine (keysE_call w mb Hm.out).mono ?_
  rintro e w2 ⟨v2, rfl, hrow, hk⟩
  obtain ⟨a, c, rfl, -, -, -⟩ := row_slice hrow
  have Hk := Lib.hid hk
  clear hrow hk c0 l0
  go_wp2_with fail
  go_ret
  exact ⟨_, _, rfl, Hk.out⟩

set_option maxRecDepth 100000 in
set_option maxHeartbeats 1000000 in
theorem allE_spec (w : World) (x mb : Nat) (a : Option Addr) (c : Nat) (hx : IxAt w x mb (.slice a 0 c)) (ho : Own 0 w (.slice a 0 c) []) :
    Calls Tryz.prog 15 #[.pointer (some ⟨x, 0, none⟩)] w fun e w' => ∃ a c, e = .returned (.slice a 0 c) ∧ Keeps [] w w' := by
  have c0 := cells_at hx
  have l0 := lt_of_at hx
  have Hr := Lib.hid ho.ints
  clear hx ho
  go_enter Tryz.func15, Tryz.ntmps15
  go_wp2_with fail
  refine (cloneL_spec 0 _ _ [] Hr.out (by simp)).mono ?_
  rintro e w1 ⟨v1, rfl, hown, hk⟩
  obtain ⟨a1, c1, rfl, -, -, -⟩ := row_slice hown
  have H1 := Lib.hid hk
  clear hown hk
  go_wp2_with fail
  go_ret
  exact ⟨_, _, rfl, H1.out⟩
end Go.Proofs.YtejfigbjaiealaaGreatDoor
