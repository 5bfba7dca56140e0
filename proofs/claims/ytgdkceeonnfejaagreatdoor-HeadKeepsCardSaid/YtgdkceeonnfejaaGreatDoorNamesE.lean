/-
  Package posting: All and Names of an index that is empty.
  No condition beyond those that each theorem states.

  Package posting: Get, All, Names, Values of an index in general.
  No condition beyond those that each theorem states.
-/
import Derived.Test.YtgdkceeonnfejaaGreatDoorKeys
import Derived.Test.YtgdkceeonnfejaaGreatDoorPostAdd
import Derived.Test.YtgdkceeonnfejaaGreatDoorPostIxD
namespace Go.Proofs.YtgdkceeonnfejaaGreatDoor
set_option maxRecDepth 100000
set_option maxHeartbeats 1000000
open Go Go.RowKit
def look2 (A : List (ByteArray × List (ByteArray × List Int))) (nm val : ByteArray) : List Int := (look ((look A nm).getD []) val).getD []
theorem allG_spec (B : Nat) (w : World) (x mb : Nat) (va : Value) (E : OutG) (all : List Int) (h : IxG B w x mb va E all) (hl : all.length ≤ 1000) :
  Calls Tryz.prog 72 #[.pointer (some ⟨x, 0, none⟩)] w fun e w' => ∃ v, e = .returned v ∧ Own w.heap.size w' v all ∧ Keeps [] w w' := by
 have c0 := cells_at h.at_
 have l0 := lt_of_at h.at_
 obtain ⟨a, c, rfl, -, -, -⟩ := row_slice h.own
 have Hr := Lib.hid (Own.ints (row_base (b' := 0) h.own (Nat.zero_le _)))
 clear h
 go_enter Tryz.func72, Tryz.ntmps72
 go_wp2_with fail
 refine (cloneL_spec 0 _ _ all Hr.out (by omega)).mono ?_
 rintro e w1 ⟨v1, rfl, hown, hk⟩
 have H1 := Lib.hid (And.intro hown hk)
 clear hown hk
 go_wp2_with fail
 go_ret
 exact ⟨_, rfl, H1.out.1, H1.out.2⟩
theorem run_lookup_none (w : World) (val : ByteArray) : (Instr.lookup 171 (.map none) (.string val) false).run Tryz.prog w = .ok (.slice none 0 0) w := by kernel_rfl
theorem getG_spec {R : List Int} (B : Nat) (w : World) (x mb : Nat) (va : Value) (E : OutG) (all : List Int) (nm val : ByteArray) (h : IxG B w x mb va E all) (hrows : RowsOk R E) :
  Calls Tryz.prog 76 #[.pointer (some ⟨x, 0, none⟩), .string nm, .string val] w fun e w' => ∃ v, e = .returned v ∧ Own w.heap.size w' v (look2 (absG E) nm val) ∧ Keeps [] w w' := by
 have c0 := cells_at h.at_
 have l0 := lt_of_at h.at_
 obtain ⟨o, ho⟩ : ∃ o, o = (look E nm).map (·.1) := ⟨_, rfl⟩
 have F1 := h.map.run_lookup (P := Tryz.prog) Tryz.underlying140 Tryz.underlying9 (zeroInner w) nm false
 rw [show lookVal (encMap encEntG E) nm (.map none) false = .map o from by
  rw [ho]
  cases hlk : look E nm <;> simp [lookVal, look_enc, hlk, encEntG]] at F1
 obtain ⟨v0, F2, hi, hlen⟩ : ∃ v0, (Instr.lookup 171 (.map o) (.string val) false).run Tryz.prog w = .ok v0 w ∧ Ints 0 w v0 (look2 (absG E) nm val) ∧ (look2 (absG E) nm val).length ≤ 12 := by
  unfold look2
  rw [absG_look]
  cases hlk : look E nm with
  | none =>
   rw [hlk] at ho
   subst ho
   exact ⟨_, run_lookup_none w val, sliceFrom_nil _ _ _ _, by simp [look]⟩
  | some e =>
   obtain ⟨ib, inner⟩ := e
   rw [hlk] at ho
   subst ho
   have hm := look_memG hlk
   have hl := (h.ent _ hm).1.run_lookup (P := Tryz.prog) Tryz.underlying171 Tryz.underlying9 (zeroList w) val false
   refine ⟨_, hl, ?_, ?_⟩
   ·simp only [Option.map_some, Option.getD_some, look_mapV RowG.l]
    cases hq : look inner val with
    | none =>
     simp only [lookVal, look_enc, hq, Option.map_none, Option.getD_none]
     exact sliceFrom_nil _ _ _ _
    | some r0 =>
     simp only [lookVal, look_enc, hq, Option.map_some, Option.getD_some]
     exact Own.ints (row_base (b' := 0) (h.row _ hm _ (look_memG hq)).2.1 (Nat.zero_le _))
   ·simp only [Option.map_some, Option.getD_some, look_mapV RowG.l]
    cases hq : look inner val with
    | none => simp
    | some r0 => exact (hrows _ hm _ (look_memG hq)).len
 have Hr := Lib.hid (And.intro hi hlen)
 obtain ⟨a0, cp0, rfl, -⟩ := hi
 clear h ho hlen
 go_enter Tryz.func76, Tryz.ntmps76
 go_wp2_with fail
 refine (cloneL_spec 0 _ _ _ Hr.out.1 (by have := Hr.out.2; omega)).mono ?_
 rintro e w1 ⟨v1, rfl, hown, hk⟩
 have H1 := Lib.hid (And.intro hown hk)
 clear hown hk
 go_wp2_with fail
 go_ret
 exact ⟨_, rfl, H1.out.1, H1.out.2⟩
theorem keysGI_call (w : World) (mb : Nat) (m : KV) (h : MapAt w mb m) (hsz : ∀ p ∈ m, p.1.size ≤ maxLen) (hl : m.length ≤ 1000) :
  Calls Tryz.prog 106 #[.func (.func 142) #[] #[.pointer (some ⟨w.heap.size, 0, none⟩)]] (w.alloc (.cells #[.map (some mb)] 171))
   fun e w' => ∃ v, e = .returned v ∧ w'.ownsRow (w.heap.size + 1) 9 1 v (sortB (m.map (·.1))).length ((sortB (m.map (·.1))).map Value.string) ∧ Keeps [] w w' := by
 obtain ⟨D, hown, hD, hs⟩ := h.owns (P := Tryz.prog) Tryz.underlying9 hsz (by unfold maxLen; omega)
 refine (callsIn_wide.1 (Tryz.slices_Sorted_keys_106_107 mb _ D anyR w hown (by rw [hs]; unfold maxLen; omega) (by rw [hs]; omega))).mono ?_
 rintro e w' ⟨v, ss, rfl, hp, hrow, _, hb⟩
 have := sorted_of hp hD hrow
 refine ⟨v, rfl, ?_, (Keeps.refl [] w).alloc _ |>.trans (Keeps.of_below hb)⟩
 simpa using this
theorem mapKeysGI_call (w : World) (mb : Option Nat) :
  Calls Tryz.prog 107 #[.map mb] w
   fun e w' => e = .returned (.func (.func 142) #[] #[.pointer (some ⟨w.heap.size, 0, none⟩)]) ∧ w' = w.alloc (.cells #[.map mb] 171) :=
 callsIn_wide.1 (Tryz.maps_Keys_107 mb w)
theorem valuesG_spec (B : Nat) (w : World) (x mb : Nat) (va : Value) (E : OutG) (all : List Int) (nm : ByteArray) (I : List (ByteArray × List Int)) (h : IxG B w x mb va E all) (hI : look (absG E) nm = some I) (hsz : ∀ p ∈ I, p.1.size ≤ maxLen) (hl : I.length ≤ 1000) :
  Calls Tryz.prog 75 #[.pointer (some ⟨x, 0, none⟩), .string nm] w fun e w' => ∃ v, e = .returned v ∧ w'.ownsRow w.heap.size 9 1 v (sortB (I.map (·.1))).length ((sortB (I.map (·.1))).map Value.string) ∧ Keeps [] w w' := by
 have c0 := cells_at h.at_
 have l0 := lt_of_at h.at_
 obtain ⟨ib, inner, hlk, rfl⟩ : ∃ ib inner, look E nm = some (ib, inner) ∧ I = inner.map fun q => (q.1, q.2.l) := by
  rw [absG_look] at hI
  cases hq : look E nm with
  | none => rw [hq] at hI; cases hI
  | some e =>
   rw [hq] at hI
   injection hI with hI
   exact ⟨e.1, e.2, rfl, hI.symm⟩
 have hm := (h.ent _ (look_memG hlk)).1
 have F1 := h.map.run_lookup (P := Tryz.prog) Tryz.underlying140 Tryz.underlying9 (zeroInner w) nm false
 rw [show lookVal (encMap encEntG E) nm (.map none) false = .map (some ib) from by simp [lookVal, look_enc, hlk, encEntG]] at F1
 have e0 : (inner.map fun q : ByteArray × RowG => (q.1, q.2.l)).map (·.1) = (encMap RowG.val inner).map (·.1) := by rw [keysG_enc]; simp [Function.comp_def]
 have hsz' : ∀ p ∈ encMap RowG.val inner, p.1.size ≤ maxLen := fun p hp => by
  simp only [encMap, List.mem_map] at hp
  obtain ⟨q, hq, rfl⟩ := hp
  exact hsz (q.1, q.2.l) (List.mem_map.2 ⟨q, hq, rfl⟩)
 have hl' : (encMap RowG.val inner).length ≤ 1000 := by simpa [encMap] using hl
 have Hm := Lib.hid (And.intro (show MapAt w ib (encMap RowG.val inner) from hm) (And.intro e0 (And.intro hsz' hl')))
 clear h hI hlk hm e0 hsz hsz' hl hl'
 go_enter Tryz.func75, Tryz.ntmps75
 go_wp2_with fail
 refine (mapKeysGI_call w (some ib)).mono ?_
 rintro e w1 ⟨rfl, rfl⟩
 go_wp2_with fail
 refine (keysGI_call w ib _ Hm.out.1 Hm.out.2.2.1 Hm.out.2.2.2).mono ?_
 rintro e w2 ⟨v2, rfl, hrow, hk⟩
 have Hk := Lib.hid (And.intro (row_base (b' := w.heap.size) hrow (by omega)) hk)
 clear hrow hk c0 l0
 go_wp2_with fail
 go_ret
 refine ⟨_, rfl, ?_, Hk.out.2⟩
 rw [Hm.out.2.1]
 exact Hk.out.1
end Go.Proofs.YtgdkceeonnfejaaGreatDoor
