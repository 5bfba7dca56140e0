/-
  Do matchers match a set of pairs: the program's Match and the document's.
  Every matcher is one that may be: kind 1 to 4, at least one value.
-/
import Derived.Test.YtjgaidojohgenaaDoorFitsR
namespace Go.Proofs.YtjgaidojohgenaaDoor
open Go Go.RowKit

/-- A matcher: its kind, its name, its values. -/
abbrev MatB := Int × ByteArray × List ByteArray

abbrev MatV := Int × ByteArray × Value

def encMV (m : MatV) : List Value := [.int .i64 m.1, .string m.2.1, m.2.2]

/-- The slice v holds the matchers L. -/
def MatsAt (w : World) (v : Value) (L : List MatB) : Prop :=
  ∃ E : List MatV, SliceArg 3 encMV w v E ∧ E.length = L.length ∧ ∀ i (h : i < E.length) (h' : i < L.length), E[i].1 = L[i].1 ∧ E[i].2.1 = L[i].2.1 ∧ SliceArg 1 encS1 w E[i].2.2 L[i].2.2

theorem MatsAt.keep {w w' : World} {v : Value} {L : List MatB} (h : MatsAt w v L) (k : Keeps [] w w') : MatsAt w' v L := by
  obtain ⟨E, h1, h2, h3⟩ := h
  exact ⟨E, h1.keep k, h2, fun i hi hi' => ⟨(h3 i hi hi').1, (h3 i hi hi').2.1, (h3 i hi hi').2.2.keep k⟩⟩

theorem MatsAt.form {w : World} {v : Value} {L : List MatB} (h : MatsAt w v L) : ∃ ao cap, v = .slice ao L.length cap ∧ L.length ≤ maxLen := by
  obtain ⟨E, ⟨ao, cap, e, hl, -⟩, h2, -⟩ := h
  exact ⟨ao, cap, by rw [e, h2], by omega⟩

theorem MatsAt.at_ {w : World} {v : Value} {L : List MatB} (h : MatsAt w v L) (k : Nat) (hk : k < L.length) : ∃ b off cap u, v = .slice (some ⟨b, off, none⟩) L.length cap ∧ b < w.heap.size ∧
    w.cell? ⟨b, off + k * 3, none⟩ = some (.int .i64 L[k].1) ∧ w.cell? ⟨b, off + k * 3 + 1, none⟩ = some (.string L[k].2.1) ∧ w.cell? ⟨b, off + k * 3 + 2, none⟩ = some u ∧ SliceArg 1 encS1 w u L[k].2.2 := by
  obtain ⟨E, ⟨ao, cap, e, hl, hc⟩, h2, h3⟩ := h
  have hk' : k < E.length := by omega
  obtain ⟨b, off, e2, hb, hcell⟩ := hc k hk'
  obtain ⟨x1, x2, x3⟩ := h3 k hk' hk
  subst e2
  refine ⟨b, off, cap, E[k].2.2, by rw [e, h2], hb, ?_, ?_, ?_, x3⟩
  · rw [← x1]; exact hcell 0 (by decide)
  · rw [← x2]; have := hcell 1 (by decide); rw [← Nat.add_assoc] at this; exact this
  · have := hcell 2 (by decide); rw [← Nat.add_assoc] at this; exact this

def mayK (m : MatB) : Prop := (m.1 = 1 ∨ m.1 = 2 ∨ m.1 = 3 ∨ m.1 = 4) ∧ 0 < m.2.2.length

def fitsM (S : List PairB) (m : MatB) : Bool := fitsB m.1 m.2.2 (getP S m.2.1)

def MatchRel (w : World) (S : List PairB) (L : List MatB) (gk : Nat) (u9 : Value) (wr : World) : Prop := ∃ k, k ≤ L.length ∧ gk = L.length - k ∧ u9 = .int .i64 k ∧ (L.take k).all (fitsM S) = true ∧ Keeps [] w wr

set_option linter.unusedSimpArgs false in
set_option maxRecDepth 100000 in
set_option maxHeartbeats 1000000 in
theorem match_spec (w : World) (vs vm : Value) (S : List PairB) (L : List MatB) (hS : SliceArg 2 encPB w vs S) (hm : MatsAt w vm L) (hmay : ∀ m ∈ L, mayK m) :
    Calls Tryd.prog 18 #[vs, vm] w fun e w' => e = .returned (.bool (L.all (fitsM S))) ∧ Keeps [] w w' := by
  have Hf := Lib.hid (And.intro hS hm)
  obtain ⟨ao, cap, rfl, hl⟩ := hm.form
  unfold maxLen at hl
  clear hS hm
  obtain ⟨R, hR⟩ : ∃ R, R = L.all (fitsM S) := ⟨_, rfl⟩
  rw [← hR]
  have HR := Lib.hid hR
  clear hR
  go_enter Tryd.func18, Tryd.ntmps18
  go_wp2_with fail
  go_loopg [9] L.length (MatchRel w S L)
  case atStart => exact ⟨0, Nat.zero_le _, rfl, rfl, rfl, Keeps.refl _ _⟩
  case round =>
    obtain ⟨k, hk, hgk, rfl, hall, hkw⟩ := hrel
    have Hg := Lib.hid (And.intro hgk hall)
    clear hgk hall
    by_cases hlt : k < L.length
    · obtain ⟨b, off, cap', u, ea, hbW, d0, d1, d2, hu⟩ := (Hf.out.2.keep hkw).at_ k hlt
      injection ea with ea _ ec
      subst ea ec
      have hlt' : (k : Int) < (L.length : Int) := by omega
      have hmk := hmay L[k] (List.getElem_mem hlt)
      obtain ⟨m, hmm⟩ : ∃ m, m = L[k] := ⟨_, rfl⟩
      rw [← hmm] at d0 d1 hu hmk
      have Hm := Lib.hid hmm
      obtain ⟨mk, mn, mv⟩ := m
      dsimp only at d0 d1 hu hmk
      obtain ⟨W0, hW0⟩ : ∃ W0, W0 = (wr.alloc (.cells #[.int .i64 mk, .string mn, u] 56)).drew := ⟨_, rfl⟩
      have kW : Keeps [] wr W0 := by rw [hW0]; exact ((Keeps.refl [] wr).alloc _).drew
      have hp : W0.heap[wr.heap.size]? = some (.cells #[.int .i64 mk, .string mn, u] 56 (0, 0)) := by rw [hW0]; exact heap_new wr (.cells #[.int .i64 mk, .string mn, u] 56)
      have Hu := Lib.hid (And.intro (hu.keep kW) (And.intro hmk (And.intro (hkw.trans kW) ((Hf.out.1.keep hkw).keep kW))))
      obtain ⟨ua, uc, rfl, -, -⟩ := hu
      have D0 : ∀ s : Kept W0, s.val.cell? ⟨wr.heap.size, 0, none⟩ = some (.int .i64 mk) := keptCell (cells_at hp 0)
      have D1 : ∀ s : Kept W0, s.val.cell? ⟨wr.heap.size, 1, none⟩ = some (.string mn) := keptCell (cells_at hp 1)
      have D2 : ∀ s : Kept W0, s.val.cell? ⟨wr.heap.size, 2, none⟩ = some (.slice ua mv.length uc) := keptCell (cells_at hp 2)
      have HW := Lib.hid hW0
      clear hkw kW hp hW0 hmm hmk
      go_upto_region 4 with fail
      refine wp_region_held_drew (S := KeptS W0) (by kernel_rfl) (by rw [← HW.out]; exact keptS (Keeps.refl _ _)) (fun hS => ?_)
      rw [← HW.out] at hS ⊢
      generalize wr.heap.size = pk at D0 D1 D2 ⊢
      clear d0 d1 d2 HW
      refine wpAnyH_take (i := 0) (v := ?_) rfl (by kernel_rfl) (by kernel_rfl) (by kernel_rfl) (fun _ _ _ h => h) (Or.inl ⟨by rfl, ?_⟩) (by assumption) ?_
      rotate_left
      · intro w' s1; obtain ⟨s, rfl⟩ := s1; go_simp; (try with_reducible rfl)
      simp only [Act.put, List.getElem_toArray, List.getElem_cons_succ, List.getElem_cons_zero, List.setIfInBounds_toArray, List.set_cons_zero, List.set_cons_succ]
      refine wpAnyH_take (i := 1) (v := ?_) rfl (by kernel_rfl) (by kernel_rfl) (by kernel_rfl) (fun _ _ _ h => h) (Or.inl ⟨by rfl, ?_⟩) (by assumption) ?_
      rotate_left
      · intro w' s1; obtain ⟨s, rfl⟩ := s1; go_simp; (try with_reducible rfl)
      simp only [Act.put, List.getElem_toArray, List.getElem_cons_succ, List.getElem_cons_zero, List.setIfInBounds_toArray, List.set_cons_zero, List.set_cons_succ]
      refine wpAnyH_take (i := 2) (v := ?_) rfl (by kernel_rfl) (by kernel_rfl) (by kernel_rfl) (fun _ _ _ h => h) (Or.inl ⟨by rfl, ?_⟩) (by assumption) ?_
      rotate_left
      · intro w' s1; obtain ⟨s, rfl⟩ := s1; go_simp; (try with_reducible rfl)
      simp only [Act.put, List.getElem_toArray, List.getElem_cons_succ, List.getElem_cons_zero, List.setIfInBounds_toArray, List.set_cons_zero, List.set_cons_succ]
      refine wpAnyH_take (i := 3) (v := ?_) rfl (by kernel_rfl) (by kernel_rfl) (by kernel_rfl) (fun _ _ _ h => h) (Or.inl ⟨by rfl, ?_⟩) (by assumption) ?_
      rotate_left
      · intro w' s1; obtain ⟨s, rfl⟩ := s1; go_simp; (try with_reducible rfl)
      simp only [Act.put, List.getElem_toArray, List.getElem_cons_succ, List.getElem_cons_zero, List.setIfInBounds_toArray, List.set_cons_zero, List.set_cons_succ]
      refine wpAnyH_ready (rs := [4]) (by kernel_rfl) (by simp) ?_
      refine AllReadyH.cons rfl (fun K hK => ?_) AllReadyH.nil
      go_simp
      go_at_call 42
      refine (getS_spec W0 _ S mn Hu.out.2.2.2).mono ?_
      rintro e A1 ⟨rfl, kA1⟩
      go_simp
      refine hK.out _ _ (keptS kA1) (fun hS => ?_)
      clear hK K
      try simp only [Act.put, List.getElem_toArray, List.getElem_cons_succ, List.getElem_cons_zero, List.setIfInBounds_toArray, List.set_cons_zero, List.set_cons_succ]
      refine wpAnyH_ready (rs := [5]) (by kernel_rfl) (by simp) ?_
      refine AllReadyH.cons rfl (fun K hK => ?_) AllReadyH.nil
      go_simp
      go_at_call 21
      refine (fits_spec A1 mk Hu.out.2.1.1 mn _ mv (Hu.out.1.keep kA1) Hu.out.2.1.2 (getP S mn)).mono ?_
      rintro e A2 ⟨rfl, kA2⟩
      have kA12 := kA1.trans kA2
      have Hk := Lib.hid (Hu.out.2.2.1.trans kA12)
      go_simp
      refine hK.out _ _ (keptS kA12) (fun hS => ?_)
      clear hK K
      try simp only [Act.put, List.getElem_toArray, List.getElem_cons_succ, List.getElem_cons_zero, List.setIfInBounds_toArray, List.set_cons_zero, List.set_cons_succ]
      refine wpAnyH_take (i := 6) (v := ?_) rfl (by kernel_rfl) (by kernel_rfl) (by kernel_rfl) (fun _ _ _ h => h) (Or.inl ⟨by rfl, ?_⟩) (by assumption) ?_
      rotate_left
      · intro w' s1; obtain ⟨s, rfl⟩ := s1; go_simp; (try with_reducible rfl)
      simp only [Act.put, List.getElem_toArray, List.getElem_cons_succ, List.getElem_cons_zero, List.setIfInBounds_toArray, List.set_cons_zero, List.set_cons_succ]
      refine wpAnyH_done (by kernel_rfl) ?_ _
      have Hfit := Lib.hid (show fitsB mk mv (getP S mn) = fitsM S L[k] from by rw [← Hm.out]; rfl)
      have Hsp := Lib.hid (show (L.take (k + 1)).all (fitsM S) = ((L.take k).all (fitsM S) && fitsM S L[k]) from by rw [List.take_add_one, List.getElem?_eq_getElem hlt, Option.toList_some, List.all_append]; simp)
      have Hall := Lib.hid (show fitsM S L[k] = false → L.all (fitsM S) = false from fun h => by
        rw [List.all_eq_false]
        exact ⟨L[k], List.getElem_mem hlt, by rw [h]; decide⟩)
      generalize fitsB mk mv (getP S mn) = ft at Hfit ⊢
      clear kA1 kA2 kA12 hS D0 D1 D2
      cases ft with
      | false =>
        go_wp2_with fail
        go_ret
        exact ⟨by rw [HR.out, Hall.out Hfit.out.symm]; rfl, Hk.out⟩
      | true =>
        go_wp2_with fail
        go_roundg (L.length - (k + 1))
        case measure => have := Hg.out.1; omega
        case rel => exact ⟨k + 1, hlt, rfl, by go_num, by rw [Hsp.out, Hg.out.2, ← Hfit.out]; rfl, Hk.out⟩
    · have hjn := Lib.hid (show k = L.length from by omega)
      have hlt' : ¬ (k : Int) < (L.length : Int) := by omega
      have Hk := Lib.hid hkw
      clear hkw
      go_wp2_with fail
      go_ret
      refine ⟨?_, Hk.out⟩
      have h1 := Hg.out.2
      rw [hjn.out, List.take_length] at h1
      rw [HR.out, h1]
      rfl

set_option linter.unusedSimpArgs false in
set_option maxRecDepth 100000 in
set_option maxHeartbeats 1000000 in
theorem matchR_spec (w : World) (vs vm : Value) (S : List PairB) (L : List MatB) (hS : SliceArg 2 encPB w vs S) (hm : MatsAt w vm L) (hmay : ∀ m ∈ L, mayK m) :
    Calls Tryd.prog 19 #[vs, vm] w fun e w' => e = .returned (.bool (L.all (fitsM S))) ∧ Keeps [] w w' := by
  have Hf := Lib.hid (And.intro hS hm)
  obtain ⟨ao, cap, rfl, hl⟩ := hm.form
  unfold maxLen at hl
  clear hS hm
  obtain ⟨R, hR⟩ : ∃ R, R = L.all (fitsM S) := ⟨_, rfl⟩
  rw [← hR]
  have HR := Lib.hid hR
  clear hR
  go_enter Tryd.func19, Tryd.ntmps19
  go_wp2_with fail
  go_loopg [9] L.length (MatchRel w S L)
  case atStart => exact ⟨0, Nat.zero_le _, rfl, rfl, rfl, Keeps.refl _ _⟩
  case round =>
    obtain ⟨k, hk, hgk, rfl, hall, hkw⟩ := hrel
    have Hg := Lib.hid (And.intro hgk hall)
    clear hgk hall
    by_cases hlt : k < L.length
    · obtain ⟨b, off, cap', u, ea, hbW, d0, d1, d2, hu⟩ := (Hf.out.2.keep hkw).at_ k hlt
      injection ea with ea _ ec
      subst ea ec
      have hlt' : (k : Int) < (L.length : Int) := by omega
      have hmk := hmay L[k] (List.getElem_mem hlt)
      obtain ⟨m, hmm⟩ : ∃ m, m = L[k] := ⟨_, rfl⟩
      rw [← hmm] at d0 d1 hu hmk
      have Hm := Lib.hid hmm
      obtain ⟨mk, mn, mv⟩ := m
      dsimp only at d0 d1 hu hmk
      obtain ⟨W0, hW0⟩ : ∃ W0, W0 = (wr.alloc (.cells #[.int .i64 mk, .string mn, u] 59)).drew := ⟨_, rfl⟩
      have kW : Keeps [] wr W0 := by rw [hW0]; exact ((Keeps.refl [] wr).alloc _).drew
      have hp : W0.heap[wr.heap.size]? = some (.cells #[.int .i64 mk, .string mn, u] 59 (0, 0)) := by rw [hW0]; exact heap_new wr (.cells #[.int .i64 mk, .string mn, u] 59)
      have Hu := Lib.hid (And.intro (hu.keep kW) (And.intro hmk (And.intro (hkw.trans kW) ((Hf.out.1.keep hkw).keep kW))))
      obtain ⟨ua, uc, rfl, -, -⟩ := hu
      have D0 : ∀ s : Kept W0, s.val.cell? ⟨wr.heap.size, 0, none⟩ = some (.int .i64 mk) := keptCell (cells_at hp 0)
      have D1 : ∀ s : Kept W0, s.val.cell? ⟨wr.heap.size, 1, none⟩ = some (.string mn) := keptCell (cells_at hp 1)
      have D2 : ∀ s : Kept W0, s.val.cell? ⟨wr.heap.size, 2, none⟩ = some (.slice ua mv.length uc) := keptCell (cells_at hp 2)
      have HW := Lib.hid hW0
      clear hkw kW hp hW0 hmm hmk
      go_upto_region 4 with fail
      refine wp_region_held_drew (S := KeptS W0) (by kernel_rfl) (by rw [← HW.out]; exact keptS (Keeps.refl _ _)) (fun hS => ?_)
      rw [← HW.out] at hS ⊢
      generalize wr.heap.size = pk at D0 D1 D2 ⊢
      clear d0 d1 d2 HW
      refine wpAnyH_take (i := 0) (v := ?_) rfl (by kernel_rfl) (by kernel_rfl) (by kernel_rfl) (fun _ _ _ h => h) (Or.inl ⟨by rfl, ?_⟩) (by assumption) ?_
      rotate_left
      · intro w' s1; obtain ⟨s, rfl⟩ := s1; go_simp; (try with_reducible rfl)
      simp only [Act.put, List.getElem_toArray, List.getElem_cons_succ, List.getElem_cons_zero, List.setIfInBounds_toArray, List.set_cons_zero, List.set_cons_succ]
      refine wpAnyH_take (i := 1) (v := ?_) rfl (by kernel_rfl) (by kernel_rfl) (by kernel_rfl) (fun _ _ _ h => h) (Or.inl ⟨by rfl, ?_⟩) (by assumption) ?_
      rotate_left
      · intro w' s1; obtain ⟨s, rfl⟩ := s1; go_simp; (try with_reducible rfl)
      simp only [Act.put, List.getElem_toArray, List.getElem_cons_succ, List.getElem_cons_zero, List.setIfInBounds_toArray, List.set_cons_zero, List.set_cons_succ]
      refine wpAnyH_take (i := 2) (v := ?_) rfl (by kernel_rfl) (by kernel_rfl) (by kernel_rfl) (fun _ _ _ h => h) (Or.inl ⟨by rfl, ?_⟩) (by assumption) ?_
      rotate_left
      · intro w' s1; obtain ⟨s, rfl⟩ := s1; go_simp; (try with_reducible rfl)
      simp only [Act.put, List.getElem_toArray, List.getElem_cons_succ, List.getElem_cons_zero, List.setIfInBounds_toArray, List.set_cons_zero, List.set_cons_succ]
      refine wpAnyH_take (i := 3) (v := ?_) rfl (by kernel_rfl) (by kernel_rfl) (by kernel_rfl) (fun _ _ _ h => h) (Or.inl ⟨by rfl, ?_⟩) (by assumption) ?_
      rotate_left
      · intro w' s1; obtain ⟨s, rfl⟩ := s1; go_simp; (try with_reducible rfl)
      simp only [Act.put, List.getElem_toArray, List.getElem_cons_succ, List.getElem_cons_zero, List.setIfInBounds_toArray, List.set_cons_zero, List.set_cons_succ]
      refine wpAnyH_ready (rs := [4]) (by kernel_rfl) (by simp) ?_
      refine AllReadyH.cons rfl (fun K hK => ?_) AllReadyH.nil
      go_simp
      go_at_call 43
      refine (getR_spec W0 _ S mn Hu.out.2.2.2).mono ?_
      rintro e A1 ⟨rfl, kA1⟩
      go_simp
      refine hK.out _ _ (keptS kA1) (fun hS => ?_)
      clear hK K
      try simp only [Act.put, List.getElem_toArray, List.getElem_cons_succ, List.getElem_cons_zero, List.setIfInBounds_toArray, List.set_cons_zero, List.set_cons_succ]
      refine wpAnyH_ready (rs := [5]) (by kernel_rfl) (by simp) ?_
      refine AllReadyH.cons rfl (fun K hK => ?_) AllReadyH.nil
      go_simp
      go_at_call 22
      refine (fitsR_spec A1 mk Hu.out.2.1.1 mn _ mv (Hu.out.1.keep kA1) Hu.out.2.1.2 (getP S mn)).mono ?_
      rintro e A2 ⟨rfl, kA2⟩
      have kA12 := kA1.trans kA2
      have Hk := Lib.hid (Hu.out.2.2.1.trans kA12)
      go_simp
      refine hK.out _ _ (keptS kA12) (fun hS => ?_)
      clear hK K
      try simp only [Act.put, List.getElem_toArray, List.getElem_cons_succ, List.getElem_cons_zero, List.setIfInBounds_toArray, List.set_cons_zero, List.set_cons_succ]
      refine wpAnyH_take (i := 6) (v := ?_) rfl (by kernel_rfl) (by kernel_rfl) (by kernel_rfl) (fun _ _ _ h => h) (Or.inl ⟨by rfl, ?_⟩) (by assumption) ?_
      rotate_left
      · intro w' s1; obtain ⟨s, rfl⟩ := s1; go_simp; (try with_reducible rfl)
      simp only [Act.put, List.getElem_toArray, List.getElem_cons_succ, List.getElem_cons_zero, List.setIfInBounds_toArray, List.set_cons_zero, List.set_cons_succ]
      refine wpAnyH_done (by kernel_rfl) ?_ _
      have Hfit := Lib.hid (show fitsB mk mv (getP S mn) = fitsM S L[k] from by rw [← Hm.out]; rfl)
      have Hsp := Lib.hid (show (L.take (k + 1)).all (fitsM S) = ((L.take k).all (fitsM S) && fitsM S L[k]) from by rw [List.take_add_one, List.getElem?_eq_getElem hlt, Option.toList_some, List.all_append]; simp)
      have Hall := Lib.hid (show fitsM S L[k] = false → L.all (fitsM S) = false from fun h => by
        rw [List.all_eq_false]
        exact ⟨L[k], List.getElem_mem hlt, by rw [h]; decide⟩)
      generalize fitsB mk mv (getP S mn) = ft at Hfit ⊢
      clear kA1 kA2 kA12 hS D0 D1 D2
      cases ft with
      | false =>
        go_wp2_with fail
        go_ret
        exact ⟨by rw [HR.out, Hall.out Hfit.out.symm]; rfl, Hk.out⟩
      | true =>
        go_wp2_with fail
        go_roundg (L.length - (k + 1))
        case measure => have := Hg.out.1; omega
        case rel => exact ⟨k + 1, hlt, rfl, by go_num, by rw [Hsp.out, Hg.out.2, ← Hfit.out]; rfl, Hk.out⟩
    · have hjn := Lib.hid (show k = L.length from by omega)
      have hlt' : ¬ (k : Int) < (L.length : Int) := by omega
      have Hk := Lib.hid hkw
      clear hkw
      go_wp2_with fail
      go_ret
      refine ⟨?_, Hk.out⟩
      have h1 := Hg.out.2
      rw [hjn.out, List.take_length] at h1
      rw [HR.out, h1]
      rfl
end Go.Proofs.YtjgaidojohgenaaDoor
