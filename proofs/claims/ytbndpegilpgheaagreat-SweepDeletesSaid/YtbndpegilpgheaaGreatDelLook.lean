/-
  What the test sees of a bucket (law 22): look: a map from names to when each was put, its bytes.
  Names are short, bytes small, the objects few.
-/
import Derived.Test.YtbndpegilpgheaaGreatDelLaw
namespace Go.Proofs.YtbndpegilpgheaaGreat
open Go Go.RowKit Go.Conc Go.Maps

def encT (x : Ob) : Value := .agg #[.int .i64 x.2, .string x.1]

def SeenPost (w : World) (L : Bkt) (e : Ending) (w' : World) : Prop := ∃ m, e = .returned (.map (some m)) ∧ w.heap.size ≤ m ∧ MapAt w' m (encMap encT L) ∧ Keeps [] w w'

def SeenRel (w1 : World) (m : Nat) (L : Bkt) (gk : Nat) (u : Value) (wr : World) : Prop :=
  ∃ k, k ≤ L.length ∧ gk = L.length - k ∧ u = .int .i64 k ∧ MapAt wr m (encMap encT (L.take k)) ∧ Keeps [m] w1 wr

theorem put_snoc {α : Type} {p : ByteArray × α} : ∀ {o : List (ByteArray × α)}, p.1 ∉ o.map (·.1) → put o p.1 p.2 = o ++ [p]
  | [], _ => rfl
  | (k, x) :: o, h => by
    simp only [List.map_cons, List.mem_cons, not_or] at h
    have ih := put_snoc h.2
    unfold put
    rw [if_neg h.1, ih]
    rfl

theorem enc_take {L : Bkt} (hnd : (L.map (·.1)).Nodup) {k : Nat} (hk : k < L.length) : put (encMap encT (L.take k)) L[k].1 (encT L[k].2) = encMap encT (L.take (k + 1)) := by
  rw [put_enc, List.take_succ_eq_append_getElem hk]
  congr 1
  refine put_snoc (p := L[k]) fun hm => ?_
  obtain ⟨q, hq, e⟩ := List.mem_map.1 hm
  rw [← List.take_append_drop k L, List.map_append, List.nodup_append] at hnd
  refine hnd.2.2 q.1 (List.mem_map.2 ⟨q, hq, rfl⟩) L[k].1 (List.mem_map.2 ⟨L[k], ?_, rfl⟩) e
  rw [List.drop_eq_getElem_cons hk]
  exact List.mem_cons_self


set_option linter.unusedSimpArgs false in
set_option maxRecDepth 100000 in
set_option maxHeartbeats 1000000 in
theorem seen_spec (w : World) (b f c mb : Nat) (armed : Bool) (Q : List (Int × Bool)) (o : Bkt) (i : Nat) (now : Int) (h : BucketAt w b f c mb armed Q o) (hB : BInv i now o) (hi : i ≤ 900) :
    Calls Tryz.prog 22 #[.pointer (some ⟨b, 0, none⟩)] w (SeenPost w (listing o ⟨#[]⟩)) := by
  have hkey : ∀ p ∈ o, p.1.size ≤ 40 := fun p hp => by
    obtain ⟨id, part, h1, h2, e⟩ := (hB.obj p hp).name
    rw [e]
    have := (object_size h1 h2).1
    omega
  have hdat : ∀ n, (obOr (look o n)).1.size ≤ 1000 := fun n => by
    cases hl : look o n with
    | none => show (⟨#[]⟩ : ByteArray).size ≤ 1000; decide
    | some x => exact (hB.obj _ (look_mem hl)).small
  have Hlk := Lib.hid (fun W (hW : Keeps [] w W) => look_spec W b f c mb armed Q o (h.keep hW (by simp) (by simp) (by simp) (by simp)) ⟨#[]⟩ (fun p hp => by have := hkey p hp; unfold maxLen; omega) (fun n => by have := hdat n; omega) (by have := hB.len; omega))
  have Hpk := Lib.hid (fun W n (hW : Keeps [] w W) => peek_spec W b f c mb armed Q o (h.keep hW (by simp) (by simp) (by simp) (by simp)) n)
  have hll : (listing o ⟨#[]⟩).length ≤ 1000 := by rw [listing_len]; have := hB.len; omega
  have Hnd := Lib.hid (listing_nodup hB.nodup)
  have Hat := Lib.hid (fun p (hp : p ∈ listing o ⟨#[]⟩) => (look_in hB.nodup (listing_of hp) : look o p.1 = some p.2))
  obtain ⟨L, hL⟩ : ∃ L, L = listing o ⟨#[]⟩ := ⟨_, rfl⟩
  rw [← hL] at hll Hnd Hat Hlk ⊢
  clear hL
  have hmm := @run_makeMap Tryz.prog
  have m1 := mapAt_new w
  have k1 : Keeps [] w (w.alloc (.map #[] 0)) := (Keeps.refl [] w).alloc _
  have hz1 : (w.alloc (.map #[] 0)).heap.size = w.heap.size + 1 := by simp
  have H1 := Lib.hid (And.intro m1 (And.intro k1 hz1))
  clear h hkey hdat m1 hz1
  go_enter Tryz.func22, Tryz.ntmps22
  go_wp2_with fail
  refine (Hlk.out _ k1).mono ?_
  rintro e w1 ⟨v, rfl, hrow, hk1⟩
  clear k1 hmm
  have hsl := sliceFrom_row (enc := infoOf) (size := 3) (fun _ => rfl) hrow
  rw [H1.out.2.2] at hsl
  have hm1 : MapAt w1 w.heap.size (encMap encT []) := H1.out.1.keep hk1 (by simp)
  have hk01 : Keeps [] w w1 := H1.out.2.1.trans hk1
  clear hrow hk1
  obtain ⟨m, hm⟩ : ∃ n, n = w.heap.size := ⟨_, rfl⟩
  have hle : w.heap.size ≤ m := by omega
  rw [← hm] at hsl hm1 ⊢
  clear hm H1
  have Hsl := Lib.hid hsl
  obtain ⟨ao, cap, rfl, _, _⟩ := hsl
  have H2 := Lib.hid (And.intro hm1 hk01)
  clear hm1 hk01
  go_wp2_with fail
  go_loopg [12] L.length (SeenRel w1 m L)
  case atStart => exact ⟨0, Nat.zero_le _, rfl, rfl, H2.out.1, Keeps.refl _ _⟩
  case round =>
    obtain ⟨k, hkl, hgk, rfl, hmr, hkr⟩ := hrel
    have Hg := Lib.hid hgk
    clear hgk
    have hkw : Keeps [] w wr := H2.out.2.after hkr (fun x hx => .inr (by simp only [List.mem_singleton] at hx; omega))
    by_cases hlt : k < L.length
    · obtain ⟨_, _, e0, _, hc⟩ := (Hsl.out.keep hkr (by simp)).arg
      obtain ⟨b2, of2, e1, hb2, hc2⟩ := hc k hlt
      injection e0 with e2 _ e3
      subst e2 e3
      subst e1
      have d0 : wr.cell? ⟨b2, of2 + k * 3, none⟩ = (infoOf L[k])[0]? := hc2 0 (by omega)
      have d1 : wr.cell? ⟨b2, of2 + k * 3 + 1, none⟩ = (infoOf L[k])[1]? := by rw [Nat.add_assoc]; exact hc2 1 (by omega)
      have d2 : wr.cell? ⟨b2, of2 + k * 3 + 2, none⟩ = (infoOf L[k])[2]? := by rw [Nat.add_assoc]; exact hc2 2 (by omega)
      clear hc2 hc
      have Htk := Lib.hid (enc_take Hnd.out hlt)
      have Hlo := Lib.hid (Hat.out L[k] (List.getElem_mem _))
      generalize L[k] = ent at d0 d1 d2 Htk Hlo
      obtain ⟨nm, dt, tk⟩ := ent
      simp only [infoOf, List.getElem?_cons_zero, List.getElem?_cons_succ] at d0 d1 d2
      simp only at Htk Hlo
      obtain ⟨ds, hds⟩ : ∃ n : Int, n = dt.size := ⟨_, rfl⟩
      rw [← hds] at d1
      clear hds
      have hlt' : (k : Int) < (L.length : Int) := by omega
      have ka : Keeps [] wr (wr.alloc (.cells #[.string nm, .int .i64 ds, .int .i64 tk] 128)) := (Keeps.refl [] wr).alloc _
      have Hr := Lib.hid (And.intro hmr (And.intro hkr (And.intro hkw ka)))
      clear hmr hkr hkw ka
      go_wp2_with fail
      refine (Hpk.out _ nm (Hr.out.2.2.1.trans Hr.out.2.2.2)).mono ?_
      rintro e w5 ⟨rfl, hk5⟩
      rw [Hlo.out]
      have n5 := hk5.at_ (heap_new wr (.cells #[.string nm, .int .i64 ds, .int .i64 tk] 128)) (by simp)
      have c5 := cells_at n5
      have l5 := lt_of_at n5
      have hm5 := Hr.out.1.keep (Hr.out.2.2.2.trans hk5) (by simp)
      have Hk5 := Lib.hid (Hr.out.2.1.trans ((Hr.out.2.2.2.trans hk5).mono (by simp)))
      clear hk5 d0 d1 d2 n5
      generalize wr.heap.size = bx at c5 l5 ⊢
      go_wp2_with (refine wpList_update_str _ rfl (.tmp 23) (.tmp 25) (.tmp 29) _ _ _ rfl Tryz.underlying70 Tryz.underlying9 m (encMap encT (L.take k)) nm (encT (dt, tk)) (by rfl) (by rfl) (by rfl) hm5 ?_; intro w7 hm7 hk7)
      go_roundg (L.length - (k + 1))
      case measure => have := Hg.out; omega
      case rel => exact ⟨k + 1, by omega, rfl, by go_num, by rw [← Htk.out]; exact hm7, Hk5.out.trans hk7⟩
    · have hme : k = L.length := by omega
      rw [hme, List.take_length] at hmr
      have He := Lib.hid (And.intro hmr hkw)
      clear hmr hkr hkw
      go_wp2_with fail
      go_ret
      exact ⟨m, rfl, hle, He.out.1, He.out.2⟩
end Go.Proofs.YtbndpegilpgheaaGreat
