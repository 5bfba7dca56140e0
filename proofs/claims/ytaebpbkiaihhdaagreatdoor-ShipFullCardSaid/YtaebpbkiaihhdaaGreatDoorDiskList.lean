/-
  The disk's List: the names of its files, rising.
  It holds for every world in which the disk's blocks are laid as DiskAt says.
-/
import Derived.Test.YtaebpbkiaihhdaaGreatDoorDiskCall
import Derived.Test.YtaebpbkiaihhdaaGreatDoorKeys
import Derived.Test.YtaebpbkiaihhdaaGreatDoorRefTry
namespace Go.Proofs.YtaebpbkiaihhdaaGreatDoor
open Go Go.RowKit Go.Conc

theorem sortedKeys_disk (w : World) (mb : Nat) (o : List (ByteArray × Ob)) (h : MapAt w mb (encMap encOb o)) (hk : ∀ p ∈ o, p.1.size ≤ maxLen) (hl : o.length * 16 ≤ 140737488355328) :
    Calls Tryz.prog 40 #[.func (.func 94) #[] #[.pointer (some ⟨w.heap.size, 0, none⟩)]] (w.alloc (.cells #[.map (some mb)] 65))
      fun e w' => ∃ v, e = .returned v ∧ w'.ownsRow (w.heap.size + 1) 9 1 v (sortedKeys o).length ((sortedKeys o).map Value.string) ∧ Keeps [] w w' := by
  obtain ⟨D, hown, hD, hsz⟩ := h.owns (P := Tryz.prog) Tryz.underlying9 (fun p hp => by
    simp only [encMap, List.mem_map] at hp
    obtain ⟨q, hq, rfl⟩ := hp
    exact hk q hq) (by simp only [encMap, List.length_map, maxLen]; omega)
  have hlen : (encMap encOb o).length = o.length := by simp [encMap]
  refine (callsIn_wide.1 (Tryz.slices_Sorted_keys_40_54 mb _ D anyR w hown (by rw [hsz, hlen]; simp only [maxLen]; omega) (by rw [hsz, hlen]; omega))).mono ?_
  rintro e w' ⟨v, ss, rfl, hp, hrow, _, hb⟩
  have := sorted_of hp hD hrow
  rw [keys_enc] at this
  refine ⟨v, rfl, ?_, (Keeps.refl [] w).alloc _ |>.trans (Keeps.of_below hb)⟩
  simpa [sortedKeys] using this


/-- maps.Keys: a function value over one new block. -/
theorem mapKeys_disk (w : World) (mb : Nat) :
    Calls Tryz.prog 54 #[.map (some mb)] w
      fun e w' => e = .returned (.func (.func 94) #[] #[.pointer (some ⟨w.heap.size, 0, none⟩)]) ∧ w' = w.alloc (.cells #[.map (some mb)] 65) :=
  callsIn_wide.1 (Tryz.maps_Keys_54 (some mb) w)



/-- The names that begin so, rising. -/
def names (o : List (ByteArray × Ob)) (pre : ByteArray) : List ByteArray := (sortedKeys o).filter (hasPre · pre)

def encS (s : ByteArray) : List Value := [.string s]

theorem flat_encS (l : List ByteArray) : l.flatMap encS = l.map Value.string := by
  induction l with
  | nil => rfl
  | cons a l ih => simp [encS] at ih ⊢; exact ih

theorem infoString : (Tryz.prog.info? 9).map (fun i => (i.zero, i.size, i.bytes)) = some (some (.string ⟨#[]⟩), 1, 16) := by kernel_rfl

def NamesPost (w : World) (L : List ByteArray) (e : Ending) (w' : World) : Prop :=
  ∃ v, e = .returned v ∧ w'.ownsRow w.heap.size 9 1 v L.length (L.map Value.string) ∧ Keeps [] w w'

theorem take_yes {α : Type} (L : List α) (p : α → Bool) (k : Nat) (hk : k < L.length) (h : p L[k] = true) : (L.take (k + 1)).filter p = (L.take k).filter p ++ [L[k]] := by
  rw [List.take_succ_eq_append_getElem hk, List.filter_append]
  simp [h]

theorem take_no {α : Type} (L : List α) (p : α → Bool) (k : Nat) (hk : k < L.length) (h : p L[k] = false) : (L.take (k + 1)).filter p = (L.take k).filter p := by
  rw [List.take_succ_eq_append_getElem hk, List.filter_append]
  simp [h]

theorem take_le {α : Type} (L : List α) (p : α → Bool) (k : Nat) : ((L.take k).filter p).length ≤ k := Nat.le_trans (List.length_filter_le _ _) (by rw [List.length_take]; omega)


def NamesRel (w1 : World) (ks : List ByteArray) (pre : ByteArray) (gk : Nat) (v i : Value) (wr : World) : Prop :=
  ∃ k, k ≤ ks.length ∧ i = .int .i64 k ∧ gk = ks.length - k ∧ wr.ownsRow w1.heap.size 9 1 v ((ks.take k).filter (hasPre · pre)).length (((ks.take k).filter (hasPre · pre)).map Value.string) ∧ Below w1.heap.size w1 wr


set_option maxRecDepth 100000 in
set_option maxHeartbeats 1000000 in
theorem listD_spec (w : World) (d f c mb : Nat) (armed : Bool) (Q : List (Int × Bool)) (room : Nat) (o : List (ByteArray × Ob)) (h : DiskAt w d f c mb armed Q room o) (pre : ByteArray)
    (hk : ∀ p ∈ o, p.1.size ≤ maxLen) (hl : o.length * 16 ≤ 140737488355328) :
    Calls Tryz.prog 28 #[.pointer (some ⟨d, 0, none⟩), .string pre] w (NamesPost w (names o pre)) := by
  have cb := cells_at h.cells
  obtain ⟨l0, lf, lc, lm⟩ := h.lt
  obtain ⟨ii, hii, hz0, hz1, hz2⟩ := info_parts infoString
  go_enter Tryz.func28, Tryz.ntmps28
  go_wp2_with fail
  refine (mapKeys_disk w mb).mono ?_
  rintro e w1 ⟨rfl, rfl⟩
  go_wp2_with fail
  refine (sortedKeys_disk w mb o h.map hk (by omega)).mono ?_
  rintro e w1 ⟨v0, rfl, hrow, hk1⟩
  have hlen : (sortedKeys o).length = o.length := by simp [sortedKeys, sortB_length]
  have Hfin : Hid (names o pre = ((sortedKeys o).take (sortedKeys o).length).filter (hasPre · pre)) := by
    apply Lib.hid
    simp [names]
  generalize sortedKeys o = ks at hrow hlen Hfin
  obtain ⟨ao, cap, rfl, hcap, hcap2, hcell⟩ := row_slice hrow
  have Hc := Lib.hid hcell
  have Hrow := Lib.hid hrow
  have Hlen := Lib.hid hlen
  clear hcell hrow hlen
  unfold maxLen at hcap2
  go_wp2_with fail
  go_loopg [5, 15] ks.length (NamesRel w1 ks pre)
  case atStart => exact ⟨0, Nat.zero_le _, rfl, rfl, by simpa using World.ownsRow_nil w1 _ _ 1, Below.refl _ _⟩
  case round =>
    obtain ⟨k, hkl, rfl, hgk, hown, hbel⟩ := hrel
    have Hg := Lib.hid hgk
    clear hgk
    by_cases hlt : k < ks.length
    · obtain ⟨g, rfl, hg1, hg2, hg3⟩ := Hc.out k (by omega)
      have hck : wr.cell? ⟨g, k, none⟩ = some (.string ks[k]) := by
        rw [hbel.cell (p := ⟨g, k, none⟩) hg2, hg3]
        simp [hlt]
      have Hb := Lib.hid hbel
      have Ho := Lib.hid hown
      have hle := take_le ks (hasPre · pre) k
      have hlen := Nat.le_of_eq Hlen.out
      clear hbel hown
      have hcap3 : k < cap := by omega
      cases hpb : hasPre ks[k] pre with
      | false =>
        have Hpb := Lib.hid hpb
        clear hpb
        go_wp2_with (go_at_call 42; refine (hasPrefix_any _ _ _).mono ?_; rintro e w' ⟨rfl, rfl⟩; rw [Hpb.out])
        go_roundg (ks.length - (k + 1))
        case measure => have := Hg.out; omega
        case rel => exact ⟨k + 1, by omega, by go_num, rfl, by rw [take_no _ _ _ hlt Hpb.out]; exact Ho.out, Hb.out⟩
      | true =>
        have Hpb := Lib.hid hpb
        clear hpb
        have Hx := Lib.hid (take_yes ks (hasPre · pre) k hlt Hpb.out)
        generalize (ks.take k).filter (hasPre · pre) = G at Ho hle Hx
        go_wp2_with (first | (go_at_call 42; refine (hasPrefix_any _ _ _).mono ?_; rintro e w' ⟨rfl, rfl⟩; rw [Hpb.out]) | (at_builtin; refine wpList_append_own _ rfl (.tmp 22) (.tmp 24) 24 rfl w1.heap.size 9 ii _ 1 16 Tryz.underlying24 hii hz0 hz1 hz2 rfl (by decide) u5 G.length (G.map Value.string) rfl (Ho.out.alloc _) ⟨wr.heap.size, 0, none⟩ 1 1 [.string ks[k]] rfl rfl (news_of (heap_new wr _)) (by simp [Value.oneCell']) (by simp only [maxLen]; omega) (by omega) (by simp; have := Hb.out.size; omega) ?_; intro v' w' hown' hgrow hnil; clear hnil))
        have hbl : ∀ q, u5.ownBlock = some q → w1.heap.size ≤ q := fun q hq => (Ho.out.lt q hq).1
        have hbel' : Below w1.heap.size w1 w' := (Hb.out.alloc Hb.out.size _).grown hgrow (by simp; have := Hb.out.size; omega) hbl
        go_roundg (ks.length - (k + 1))
        case measure => have := Hg.out; omega
        case rel => exact ⟨k + 1, by omega, by go_num, rfl, by rw [Hx.out]; simpa using hown', hbel'⟩
    · have Hb := Lib.hid hbel
      have Ho := Lib.hid hown
      clear hbel hown
      go_wp2_with fail
      go_ret
      have hkk : k = ks.length := by omega
      subst hkk
      refine ⟨_, rfl, ?_, hk1.trans (Keeps.of_below Hb.out)⟩
      rw [Hfin.out]
      exact row_base Ho.out (by have := hk1.size; omega)

end Go.Proofs.YtaebpbkiaihhdaaGreatDoor
