/-
  What the test tells the document (law 22): told.
  Old memory is left as it was.

  What the document's Victims says is what the program's says, in plain words.
  No program in sight.
-/
import Derived.Test.YtbndpegilpgheaaGreatRefVict
namespace Go.Proofs.YtbndpegilpgheaaGreat
open Go Go.RowKit

theorem inP_nodup {L : List (ByteArray × Ob)} (hnd : (L.map (·.1)).Nodup) (id p : ByteArray) : inP L id p = if (look L (objectB id p)).isSome = true then [objectB id p] else [] := by
  unfold inP
  induction L with
  | nil => simp [look]
  | cons x L ih =>
    obtain ⟨n, o⟩ := x
    simp only [List.map_cons, List.nodup_cons] at hnd
    have ih := ih hnd.2
    by_cases h : n = objectB id p
    · have : look L (objectB id p) = none := by
        cases hl : look L (objectB id p) with
        | none => rfl
        | some v => exact absurd (List.mem_map.2 ⟨_, look_mem hl, rfl⟩) (by rw [← h]; exact hnd.1)
      rw [this] at ih
      subst h
      simpa [look] using ih
    · have h2 : ¬ objectB id p = n := fun e => h e.symm
      simpa [look, h, h2] using ih

theorem partsIn_goP {L : List (ByteArray × Ob)} (hnd : (L.map (·.1)).Nodup) {id : ByteArray} (hi : isIDB id.data.toList = true) : partsIn L id 4 = (partsB.filter fun p => (look (blkOf L id) p).isSome).map (objectB id) := by
  have inv := blocks_inv hnd
  have h : ∀ p ∈ partsB, inP L id p = if (look (blkOf L id) p).isSome = true then [objectB id p] else [] := by
    intro p hp
    rw [inP_nodup hnd]
    have h1 := inv.says id p
    rw [if_pos ⟨hi, isPart_mem.2 hp⟩] at h1
    unfold blkOf
    rw [h1]
    cases look L (objectB id p) <;> rfl
  unfold partsIn
  rw [show partsB.take 4 = partsB from rfl]
  generalize partsB = P at h ⊢
  induction P with
  | nil => rfl
  | cons p P ih =>
    rw [List.flatMap_cons, h p (by simp), ih fun q hq => h q (by simp [hq])]
    by_cases e : (look (blkOf L id) p).isSome = true <;> simp [e]

theorem goesR_goesB {L : List (ByteArray × Ob)} (hnd : (L.map (·.1)).Nodup) {id : ByteArray} (hi : isIDB id.data.toList = true) (d g now : Int) (mk : Option Int) : goesR d g now L id mk = goesB d g now (blkOf L id) mk := by
  cases mk with
  | some t => rfl
  | none =>
    unfold goesR goesB
    simp only
    rw [ticks_blk hnd]
    congr 1
    have inv := blocks_inv hnd
    have h1 := inv.says id metaB
    rw [if_pos ⟨hi, isPart_mem.2 (by simp [partsB])⟩] at h1
    unfold blkOf
    rw [h1]
    unfold metaIn
    cases hl : look L (objectB id metaB) with
    | none =>
      rw [Bool.eq_iff_iff]
      simp only [Option.map_none, Option.isNone_none, Bool.not_eq_true', List.any_eq_false, decide_eq_true_eq]
      refine ⟨fun _ => trivial, fun _ p hp e => ?_⟩
      obtain ⟨v, hv⟩ := look_isSome (o := L) (n := objectB id metaB) (List.mem_map.2 ⟨p, hp, e⟩)
      rw [hl] at hv
      cases hv
    | some v =>
      have : (L.any fun p => decide (p.1 = objectB id metaB)) = true := List.any_eq_true.2 ⟨_, look_mem hl, decide_eq_true rfl⟩
      rw [this]
      rfl

theorem refF_eq {L : List (ByteArray × Ob)} (hnd : (L.map (·.1)).Nodup) {id : ByteArray} (hi : isIDB id.data.toList = true) (d g now : Int) (M : List (ByteArray × Int)) : refF d g now L M id = victimsOf d g now (blocksOf L) (look M) id := by
  unfold refF victimsOf
  rw [goesR_goesB hnd hi, partsIn_goP hnd hi]
  rfl

/-- The document asks at blocks of the names alone. -/
theorem refVict_congr {F G : ByteArray → List ByteArray} : ∀ {N : List ByteArray}, (∀ n ∈ N, ∀ id part, splitL n.data.toList = some (id, part) → F ⟨id.toArray⟩ = G ⟨id.toArray⟩) → refVict F N = refVict G N := by
  intro N h
  unfold refVict
  generalize ((⟨#[]⟩ : ByteArray), ([] : List ByteArray)) = s
  induction N generalizing s with
  | nil => rfl
  | cons n N ih =>
    simp only [List.foldl_cons]
    have h1 : refStep F s n = refStep G s n := by
      unfold refStep
      cases hs : splitL n.data.toList with
      | none => rfl
      | some ab => simp only [h n (by simp) ab.1 ab.2 hs]
    rw [h1]
    exact ih (fun m hm => h m (by simp [hm])) _

/-- What the document's Victims says of a bucket and marks that it was told. -/
theorem ref_all {d g now : Int} {o : Bkt} {k : Nat} (h : Parted o k) (M M' : List (ByteArray × Int)) (hM : ∀ n ∈ (listing o ⟨#[]⟩).map (·.1), ∀ id part, splitL n.data.toList = some (id, part) → look M' ⟨id.toArray⟩ = look M ⟨id.toArray⟩) :
    (refVict (refF d g now (listing o ⟨#[]⟩) M') ((listing o ⟨#[]⟩).map (·.1))).2 = victimsL d g now (listing o ⟨#[]⟩) (look M) := by
  rw [← ref_victims h (look M)]
  congr 1
  refine refVict_congr fun n hn id part hs => ?_
  have hi : isIDB (⟨id.toArray⟩ : ByteArray).data.toList = true := (split_name hs).2.1
  unfold refF victimsOf
  rw [hM n hn id part hs, goesR_goesB (listing_nodup h.nodup) hi, partsIn_goP (listing_nodup h.nodup) hi]
  rfl
end Go.Proofs.YtbndpegilpgheaaGreat

namespace Go.Proofs.YtbndpegilpgheaaGreat
open Go Go.RowKit Go.Conc

/-- The marks that were told of the names so far. -/
structure ToldM (M T : List (ByteArray × Int)) (N : List ByteArray) (last : ByteArray) : Prop where
  says : ∀ p ∈ T, look M p.1 = some p.2
  has : ∀ n ∈ N, ∀ id part, splitL n.data.toList = some (id, part) → ∀ v, look M ⟨id.toArray⟩ = some v → ((⟨id.toArray⟩ : ByteArray), v) ∈ T
  last : last = ⟨#[]⟩ ∨ ∃ n ∈ N, ∃ part, splitL n.data.toList = some (last.data.toList, part)

theorem toldM_nil (M : List (ByteArray × Int)) : ToldM M [] [] ⟨#[]⟩ := ⟨by simp, by simp, .inl rfl⟩

theorem mem_look {T : List (ByteArray × Int)} {id : ByteArray} {v : Int} (h : (id, v) ∈ T) : ∃ u, look T id = some u := by
  obtain ⟨u, hu⟩ := look_isSome (o := T) (n := id) (List.mem_map.2 ⟨_, h, rfl⟩)
  exact ⟨u, hu⟩

theorem ToldM.look {M T : List (ByteArray × Int)} {N : List ByteArray} {last : ByteArray} (h : ToldM M T N last) : ∀ n ∈ N, ∀ id part, splitL n.data.toList = some (id, part) → look T ⟨id.toArray⟩ = look M ⟨id.toArray⟩ := by
  intro n hn id part hs
  cases hl : Go.Proofs.YtbndpegilpgheaaGreat.look M ⟨id.toArray⟩ with
  | none =>
    cases ht : Go.Proofs.YtbndpegilpgheaaGreat.look T ⟨id.toArray⟩ with
    | none => rfl
    | some v =>
      have := h.says _ (look_mem ht)
      simp only at this
      rw [hl] at this
      cases this
  | some v =>
    obtain ⟨u, hu⟩ := mem_look (h.has n hn id part hs v hl)
    have := h.says _ (look_mem hu)
    simp only at this
    rw [hl] at this
    rw [hu, this]

theorem ToldM.old {M T : List (ByteArray × Int)} {N : List ByteArray} {last n : ByteArray} {id part : List UInt8} (h : ToldM M T N last) (hs : splitL n.data.toList = some (id, part)) (e : (⟨id.toArray⟩ : ByteArray) = last) : ToldM M T (N ++ [n]) last := by
  have hl : last.data.toList = id := by rw [← e]
  refine ⟨h.says, fun m hm a b hab v hv => ?_, ?_⟩
  · rcases List.mem_append.1 hm with hm | hm
    · exact h.has m hm a b hab v hv
    · simp only [List.mem_singleton] at hm
      subst hm
      rw [hs] at hab
      simp only [Option.some.injEq, Prod.mk.injEq] at hab
      obtain ⟨rfl, rfl⟩ := hab
      rcases h.last with h1 | ⟨q, hq, c, hc⟩
      · rw [h1] at hl
        have := (isID_signs (splitL_some hs).2.1).1
        rw [← hl] at this
        simp at this
      · rw [hl] at hc
        exact h.has q hq id c hc v hv
  · rcases h.last with h1 | ⟨q, hq, c, hc⟩
    · exact .inl h1
    · exact .inr ⟨q, List.mem_append_left _ hq, c, hc⟩

theorem ToldM.new {M T : List (ByteArray × Int)} {N : List ByteArray} {last n : ByteArray} {id part : List UInt8} (h : ToldM M T N last) (hs : splitL n.data.toList = some (id, part)) :
    ToldM M (T ++ match Go.Proofs.YtbndpegilpgheaaGreat.look M ⟨id.toArray⟩ with | some v => [((⟨id.toArray⟩ : ByteArray), v)] | none => []) (N ++ [n]) ⟨id.toArray⟩ := by
  refine ⟨fun p hp => ?_, fun m hm a b hab v hv => ?_, .inr ⟨n, by simp, part, hs⟩⟩
  · rcases List.mem_append.1 hp with hp | hp
    · exact h.says p hp
    · cases hl : Go.Proofs.YtbndpegilpgheaaGreat.look M ⟨id.toArray⟩ with
      | none => rw [hl] at hp; cases hp
      | some v =>
        rw [hl] at hp
        simp only [List.mem_singleton] at hp
        rw [hp]
        exact hl
  · rcases List.mem_append.1 hm with hm | hm
    · exact List.mem_append_left _ (h.has m hm a b hab v hv)
    · simp only [List.mem_singleton] at hm
      subst hm
      rw [hs] at hab
      simp only [Option.some.injEq, Prod.mk.injEq] at hab
      obtain ⟨rfl, rfl⟩ := hab
      rw [hv]
      simp


theorem rows_ne {w : World} {b1 b2 s1 s2 n1 n2 : Nat} {e1 e2 : TypeId} {v1 v2 : Value} {x1 x2 : List Value} (h1 : w.ownsRow b1 e1 s1 v1 n1 x1) (h2 : w.ownsRow b2 e2 s2 v2 n2 x2) (he : e1 ≠ e2) : ∀ g, v2.ownBlock = some g → g ∉ v1.ownBlock.toList := by
  intro g hg hm
  obtain ⟨_, ⟨rfl, _⟩ | ⟨g1, c1, r1, rfl, _, hb1, _⟩⟩ := h1
  · simp [Value.ownBlock] at hm
  · obtain ⟨_, ⟨rfl, _⟩ | ⟨g2, c2, r2, rfl, _, hb2, _⟩⟩ := h2
    · simp [Value.ownBlock] at hg
    · simp [Value.ownBlock] at hg hm
      subst hg hm
      rw [hb1] at hb2
      injection hb2 with hb2
      injection hb2 with _ hb2 _
      exact he hb2

theorem infoObj : (Tryz.prog.info? 130).map (fun i => (i.zero, i.size, i.bytes)) = some (some (.agg #[.string ⟨#[]⟩, .int .i64 0]), 2, 24) := by kernel_rfl

theorem infoMrk : (Tryz.prog.info? 132).map (fun i => (i.zero, i.size, i.bytes)) = some (some (.agg #[.string ⟨#[]⟩, .int .i64 0]), 2, 24) := by kernel_rfl

theorem flat_snoc2 {α : Type} (enc : α → List Value) {L : List α} {k : Nat} (hk : k < L.length) : (L.take (k + 1)).flatMap enc = (L.take k).flatMap enc ++ enc L[k] ∧ (L.take (k + 1)).length = (L.take k).length + 1 := by
  rw [List.take_succ_eq_append_getElem hk, List.flatMap_append, List.length_append]
  simp


theorem ToldM.skip {M T : List (ByteArray × Int)} {N : List ByteArray} {last n : ByteArray} (h : ToldM M T N last) (hs : splitL n.data.toList = none) : ToldM M T (N ++ [n]) last := by
  refine ⟨h.says, fun m hm a b hab v hv => ?_, ?_⟩
  · rcases List.mem_append.1 hm with hm | hm
    · exact h.has m hm a b hab v hv
    · simp only [List.mem_singleton] at hm
      subst hm
      rw [hs] at hab
      cases hab
  · rcases h.last with h1 | ⟨q, hq, c, hc⟩
    · exact .inl h1
    · exact .inr ⟨q, List.mem_append_left _ hq, c, hc⟩

def ToldRel (w : World) (vL : Value) (L : List (ByteArray × Ob)) (M : List (ByteArray × Int)) (gk : Nat) (u6 u7 u8 u21 : Value) (wr : World) : Prop :=
  ∃ k T last, k ≤ L.length ∧ gk = L.length - k ∧ u21 = .int .i64 k ∧ u8 = .string last ∧ ToldM M T ((L.take k).map (·.1)) last ∧ T.length ≤ k ∧
    wr.ownsRow w.heap.size 130 2 u6 (L.take k).length ((L.take k).flatMap tickE) ∧
    wr.ownsRow w.heap.size 132 2 u7 T.length (T.flatMap pairE) ∧
    wr.ownsRow w.heap.size 128 3 vL L.length (L.flatMap infoOf) ∧ Keeps [] w wr

def ToldPost (w : World) (L : List (ByteArray × Ob)) (M : List (ByteArray × Int)) (e : Ending) (w' : World) : Prop :=
  ∃ vo vm T, e = .returned (.tuple #[vo, vm]) ∧ SliceArg 2 tickE w' vo L ∧ SliceArg 2 pairE w' vm T ∧ (∀ p ∈ T, look M p.1 = some p.2) ∧
    (∀ n ∈ L.map (·.1), ∀ id part, splitL n.data.toList = some (id, part) → look T ⟨id.toArray⟩ = look M ⟨id.toArray⟩) ∧ Keeps [] w w'

set_option linter.unusedSimpArgs false in
set_option maxRecDepth 100000 in
set_option maxHeartbeats 1000000 in
theorem told_spec (w : World) (hv : LibVar w) (b f c mb : Nat) (o : Bkt) (k : Nat) (h : BucketAt w b f c mb false [] o) (hP : Parted o k) (hk : k ≤ 15) (mr : Nat) (M : PartsM) (hM : MapAt w mr (encMap encI M)) :
    Calls Tryz.prog 16 #[.pointer (some ⟨b, 0, none⟩), .map (some mr)] w (ToldPost w (listing o ⟨#[]⟩) M) := by
  have Hlk := Lib.hid (fun W (hW : Keeps [] w W) => look_spec W b f c mb false [] o (h.keep hW (by simp) (by simp) (by simp) (by simp)) ⟨#[]⟩ (fun p hp => by have := hP.key p hp; unfold maxLen; omega) (fun n => by have := hP.data n; omega) (by have := hP.len; omega))
  have Hm := Lib.hid (And.intro hv (And.intro hM (fun p (hp : p ∈ listing o ⟨#[]⟩) => hP.key p (listing_of hp))))
  clear hv hM
  have hll : (listing o ⟨#[]⟩).length ≤ 15 := by rw [listing_len]; have := hP.len; omega
  obtain ⟨L, hL⟩ : ∃ L, L = listing o ⟨#[]⟩ := ⟨_, rfl⟩
  rw [← hL] at hll Hm Hlk ⊢
  clear hL h hP hk
  obtain ⟨io, hio, hzo0, hzo1, hzo2⟩ := info_parts infoObj
  obtain ⟨im, him, hzm0, hzm1, hzm2⟩ := info_parts infoMrk
  go_enter Tryz.func16, Tryz.ntmps16
  go_wp2_with fail
  refine (Hlk.out _ (by repeat (first | exact Keeps.refl _ _ | assumption | refine Keeps.drew ?_ | refine Keeps.drewN ?_ _ | refine Keeps.alloc ?_ _ | refine Keeps.setCell ?_ (by first | exact .inl (by simp) | exact .inr (by simp; done) | exact .inr (by simp; omega)) _))).mono ?_
  rintro e w1 ⟨v, rfl, hrow, hk1⟩
  have hk0 : Keeps [] w w1 := Keeps.trans (by repeat (first | exact Keeps.refl _ _ | assumption | refine Keeps.drew ?_ | refine Keeps.drewN ?_ _ | refine Keeps.alloc ?_ _ | refine Keeps.setCell ?_ (by first | exact .inl (by simp) | exact .inr (by simp; done) | exact .inr (by simp; omega)) _)) hk1
  have r6 := hk1.row ((World.ownsRow_made w #[] 0 (base := w.heap.size) (e := 130) (size := 2) (Nat.le_refl _) (Nat.zero_le _) rfl).alloc (.cells #[] 132)) (by simp)
  have r7 := hk1.row (World.ownsRow_made (w.alloc (.cells #[] 130)) #[] 0 (base := w.heap.size) (e := 132) (size := 2) (by simp) (Nat.zero_le _) rfl) (by simp)
  rw [show (w.alloc (.cells #[] 130)).heap.size = w.heap.size + 1 from by simp] at r7
  have hrow := row_base hrow (b' := w.heap.size) (by simp; omega)
  obtain ⟨ao, cap, rfl, _, _⟩ := (sliceFrom_row (enc := infoOf) (size := 3) (fun _ => rfl) hrow).arg
  have H1 := Lib.hid (And.intro r6 (And.intro r7 (And.intro hrow hk0)))
  clear hrow hk1 r6 r7 hk0
  go_wp2_with fail
  go_loopg [6, 7, 8, 21] L.length (ToldRel w (.slice ao L.length cap) L M)
  case atStart => exact ⟨0, [], ⟨#[]⟩, Nat.zero_le _, rfl, rfl, rfl, toldM_nil M, Nat.zero_le _, H1.out.1, H1.out.2.1, H1.out.2.2⟩
  case round =>
    obtain ⟨k, T, last, hkl, hgk, rfl, rfl, hT, hTl, hr6, hr7, hrL, hkr⟩ := hrel
    have Hg := Lib.hid hgk
    clear hgk
    by_cases hlt : k < L.length
    · obtain ⟨_, _, e0, _, hc⟩ := (sliceFrom_row (enc := infoOf) (size := 3) (fun _ => rfl) hrL).arg
      obtain ⟨b2, of2, e1, hb2, hc2⟩ := hc k hlt
      injection e0 with e2 _ e3
      subst e2 e3
      subst e1
      have d0 : wr.cell? ⟨b2, of2 + k * 3, none⟩ = (infoOf L[k])[0]? := hc2 0 (by omega)
      have d1 : wr.cell? ⟨b2, of2 + k * 3 + 1, none⟩ = (infoOf L[k])[1]? := by rw [Nat.add_assoc]; exact hc2 1 (by omega)
      have d2 : wr.cell? ⟨b2, of2 + k * 3 + 2, none⟩ = (infoOf L[k])[2]? := by rw [Nat.add_assoc]; exact hc2 2 (by omega)
      clear hc2 hc
      have hsm := Hm.out.2.2 L[k] (List.getElem_mem _)
      have Hfo := Lib.hid (flat_snoc2 tickE hlt)
      have Hnm : Hid ((L.take (k + 1)).map (·.1) = (L.take k).map (·.1) ++ [L[k].1]) := Lib.hid (by rw [List.take_succ_eq_append_getElem hlt, List.map_append]; rfl)
      generalize L[k] = ent at d0 d1 d2 hsm Hfo Hnm
      obtain ⟨nm, dt, tk⟩ := ent
      simp only [infoOf, List.getElem?_cons_zero, List.getElem?_cons_succ] at d0 d1 d2
      simp only at hsm
      obtain ⟨ds, hds⟩ : ∃ n : Int, n = dt.size := ⟨_, rfl⟩
      rw [← hds] at d1
      clear hds
      have hlt' : (k : Int) < (L.length : Int) := by omega
      have hwz := hkr.size
      have htk : (L.take k).length ≤ 15 := by rw [List.length_take]; omega
      have Hr := Lib.hid (And.intro hr6 (And.intro hr7 (And.intro hrL (And.intro hkr hT))))
      clear hr6 hr7 hrL hkr hT
      go_upto_region 8 with (at_builtin; refine wpList_append_own _ rfl (.tmp 25) (.tmp 31) 52 rfl w.heap.size 130 io _ 2 24 Tryz.underlying52 hio hzo0 hzo1 hzo2 rfl (by decide) u6 (L.take k).length ((L.take k).flatMap tickE) rfl ((Hr.out.1.alloc _).alloc _) ⟨wr.heap.size + 1, 0, none⟩ 1 1 [.string nm, .int .i64 tk] rfl rfl (news_of (new2 wr _ _).2) (by simp [Value.oneCell']) (by simp only [maxLen]; omega) (by omega) (by simp; omega) ?_; intro v8 w8 hown8 hgrow8 hnil; clear hnil)
      have hlow : ∀ g, u6.ownBlock = some g → g < wr.heap.size := fun g hg => (Hr.out.1.lt g hg).2
      have n8 := (hgrow8.block wr.heap.size (by simp; omega) (fun e => by have := hlow _ e.symm; omega)).trans (heap_old (heap_new wr _) _)
      have k8 := keeps_row hgrow8
      have hr7 := k8.row ((Hr.out.2.1.alloc (.cells #[.string nm, .int .i64 ds, .int .i64 tk] 128)).alloc (.cells #[.string nm, .int .i64 tk] 130)) (rows_ne Hr.out.1 Hr.out.2.1 (by decide))
      have hrL := k8.row ((Hr.out.2.2.1.alloc (.cells #[.string nm, .int .i64 ds, .int .i64 tk] 128)).alloc (.cells #[.string nm, .int .i64 tk] 130)) (rows_ne Hr.out.1 Hr.out.2.2.1 (by decide))
      have hk8 : Keeps [] w w8 := keeps_grown ((Hr.out.2.2.2.1.alloc _).alloc _) hgrow8 (fun q hq => (Hr.out.1.lt q hq).1)
      have hr6 : w8.ownsRow w.heap.size 130 2 v8 (L.take (k + 1)).length ((L.take (k + 1)).flatMap tickE) := by
        rw [Hfo.out.1, Hfo.out.2]
        exact hown8
      have H8 := Lib.hid (And.intro hr6 (And.intro hr7 (And.intro hrL (And.intro hk8 Hr.out.2.2.2.2))))
      have c8 := cells_at n8
      have l8 := lt_of_at n8
      clear hr6 hr7 hrL hk8 hown8 hgrow8 k8 hlow d0 d1 d2 n8 Hr
      generalize wr.heap.size = bx at c8 l8 hwz ⊢
      go_wp2_with fail
      refine (split_spec _ (Hm.out.1.same H8.out.2.2.2.1) nm (by omega)).mono ?_
      rintro e w5 ⟨rfl, hk5⟩
      have H5 := Lib.hid (And.intro (hk5.row H8.out.1 (by simp)) (And.intro (hk5.row H8.out.2.1 (by simp)) (And.intro (hk5.row H8.out.2.2.1 (by simp)) (And.intro (H8.out.2.2.2.1.trans hk5) H8.out.2.2.2.2))))
      clear hk5 H8 c8 l8
      cases hS : splitL nm.data.toList with
      | none =>
        have HS := Lib.hid hS
        clear hS
        simp only [splitVals]
        go_wp2_with fail
        go_roundg (L.length - (k + 1))
        case measure => have := Hg.out; omega
        case rel => exact ⟨k + 1, T, last, by omega, rfl, by go_num, rfl, by rw [Hnm.out]; exact H5.out.2.2.2.2.skip HS.out, by omega, H5.out.1, H5.out.2.1, H5.out.2.2.1, H5.out.2.2.2.1⟩
      | some ab =>
        obtain ⟨a, q⟩ := ab
        have HS := Lib.hid hS
        clear hS
        obtain ⟨xa, hxa⟩ : ∃ s : ByteArray, s = ⟨a.toArray⟩ := ⟨_, rfl⟩
        obtain ⟨xb, hxb⟩ : ∃ s : ByteArray, s = ⟨q.toArray⟩ := ⟨_, rfl⟩
        simp only [splitVals]
        rw [← hxa, ← hxb]
        have Hxa := Lib.hid hxa
        clear hxa hxb
        have hen := toList_beq xa last
        by_cases hid : xa = last
        · have he2 : (xa.toList == last.toList) = true := by rw [hen]; exact decide_eq_true hid
          have Hid2 := Lib.hid hid
          clear hen hid
          go_wp2_with fail
          go_roundg (L.length - (k + 1))
          case measure => have := Hg.out; omega
          case rel => exact ⟨k + 1, T, last, by omega, rfl, by go_num, rfl, by rw [Hnm.out]; exact H5.out.2.2.2.2.old HS.out (by rw [← Hxa.out]; exact Hid2.out), by omega, H5.out.1, H5.out.2.1, H5.out.2.2.1, H5.out.2.2.2.1⟩
        · have he2 : (xa.toList == last.toList) = false := by rw [hen]; exact decide_eq_false hid
          clear hen hid
          have hM5 := Hm.out.2.1.keep H5.out.2.2.2.1 (by simp)
          have hl := hM5.run_lookup (P := Tryz.prog) Tryz.underlying30 Tryz.underlying9 (zeroInt _) xa true
          rw [lookVal_int2] at hl
          have HN := Lib.hid (H5.out.2.2.2.2.new HS.out)
          rw [← Hxa.out] at HN
          cases hlk : look M xa with
          | none =>
            rw [hlk] at hl HN
            simp only [List.append_nil] at HN
            simp only [Option.getD_none, Option.isSome_none] at hl
            clear hlk hM5
            go_wp2_with fail
            go_roundg (L.length - (k + 1))
            case measure => have := Hg.out; omega
            case rel => exact ⟨k + 1, T, xa, by omega, rfl, by go_num, rfl, by rw [Hnm.out]; exact HN.out, by omega, H5.out.1, H5.out.2.1, H5.out.2.2.1, H5.out.2.2.2.1⟩
          | some tm =>
            rw [hlk] at hl HN
            simp only at HN
            simp only [Option.getD_some, Option.isSome_some] at hl
            clear hlk hM5
            have hwz5 := H5.out.2.2.2.1.size
            go_wp2_with (at_builtin; refine wpList_append_own _ rfl (.tmp 54) (.tmp 58) 53 rfl w.heap.size 132 im _ 2 24 Tryz.underlying53 him hzm0 hzm1 hzm2 rfl (by decide) u7 T.length (T.flatMap pairE) rfl (H5.out.2.1.alloc _) ⟨w5.heap.size, 0, none⟩ 1 1 [.string xa, .int .i64 tm] rfl rfl (news_of (heap_new w5 _)) (by simp [Value.oneCell']) (by simp only [maxLen]; omega) (by omega) (by simp; omega) ?_; intro v9 w9 hown9 hgrow9 hnil; clear hnil)
            have k9 := keeps_row hgrow9
            have hk9 : Keeps [] w w9 := keeps_grown (H5.out.2.2.2.1.alloc _) hgrow9 (fun q hq => (H5.out.2.1.lt q hq).1)
            go_roundg (L.length - (k + 1))
            case measure => have := Hg.out; omega
            case rel => exact ⟨k + 1, T ++ [(xa, tm)], xa, by omega, rfl, by go_num, rfl, by rw [Hnm.out]; exact HN.out, by simp; omega, k9.row (H5.out.1.alloc _) (rows_ne H5.out.2.1 H5.out.1 (by decide)), by simpa [pairE] using hown9, k9.row (H5.out.2.2.1.alloc _) (rows_ne H5.out.2.1 H5.out.2.2.1 (by decide)), hk9⟩
    · obtain rfl : k = L.length := by omega
      rw [List.take_length] at hr6 hT
      have He := Lib.hid (And.intro hr6 (And.intro hr7 (And.intro hT hkr)))
      clear hr6 hr7 hrL hT hkr
      go_wp2_with fail
      exact bodyPost_ret (v := .tuple #[u6, u7]) (by simp [results, Tryz.results16, go_sem]) rfl ⟨u6, u7, T, rfl, (sliceFrom_row (enc := tickE) (size := 2) (fun _ => rfl) He.out.1).arg, (sliceFrom_row (enc := pairE) (size := 2) (fun _ => rfl) He.out.2.1).arg, He.out.2.2.1.says, He.out.2.2.1.look, He.out.2.2.2⟩
end Go.Proofs.YtbndpegilpgheaaGreat
