/-
  What lies in a bucket behind some steps of an upload, in plain words; is it complete (barographlaw18, complete), walked; the upload's block.
  The meta is one that may be.
-/
import Derived.Test.YtaebpbkiaihhdaaGreatDoorShipThree
namespace Go.Proofs.YtaebpbkiaihhdaaGreatDoor
open Go Go.RowKit

/-- The objects from part j on, put at these times. -/
def upO (M : MetaS) (cb ib : ByteArray) : Nat → List Int → List (ByteArray × Ob)
  | _, [] => []
  | j, t :: T => (objectB M.id (partN j), (dataN M cb ib j, t)) :: upO M cb ib (j + 1) T
section
variable {M : MetaS} {cb ib : ByteArray}
theorem upO_len : ∀ (T : List Int) (j : Nat), (upO M cb ib j T).length = T.length
  | [], _ => rfl
  | _ :: T, j => by show (upO M cb ib (j + 1) T).length + 1 = _; rw [upO_len T (j + 1)]; rfl

theorem upO_none : ∀ (T : List Int) (j i : Nat), i < 3 → j + T.length ≤ 3 → (i < j ∨ j + T.length ≤ i) → look (upO M cb ib j T) (objectB M.id (partN i)) = none
  | [], _, _, _, _, _ => rfl
  | t :: T, j, i, hi, hj, h => by
    have hl : (t :: T).length = T.length + 1 := rfl
    show look ((objectB M.id (partN j), (dataN M cb ib j, t)) :: upO M cb ib (j + 1) T) _ = none
    unfold look
    rw [if_neg (part_ne hi (by omega) (by omega))]
    exact upO_none T (j + 1) i hi (by omega) (by omega)

theorem upO_some : ∀ (T : List Int) (j i : Nat), j + T.length ≤ 3 → j ≤ i → i < j + T.length → ∃ t, t ∈ T ∧ look (upO M cb ib j T) (objectB M.id (partN i)) = some (dataN M cb ib i, t)
  | [], j, i, _, h1, h2 => by simp at h2; omega
  | t :: T, j, i, hj, h1, h2 => by
    have hl : (t :: T).length = T.length + 1 := rfl
    show ∃ t', t' ∈ t :: T ∧ look ((objectB M.id (partN j), (dataN M cb ib j, t)) :: upO M cb ib (j + 1) T) _ = _
    unfold look
    by_cases e : i = j
    · subst e
      exact ⟨t, by simp, by rw [if_pos rfl]⟩
    · obtain ⟨t', h3, h4⟩ := upO_some T (j + 1) i (by omega) (by omega) (by omega)
      exact ⟨t', by simp [h3], by rw [if_neg (part_ne (by omega) (by omega) e)]; exact h4⟩

theorem upO_put : ∀ (T R : List Int) (j k : Nat) (now : Int), k = j + T.length → k < 3 → (R = [] ∨ ∃ t, R = [t]) → put (upO M cb ib j (T ++ R)) (objectB M.id (partN k)) (dataN M cb ib k, now) = upO M cb ib j (T ++ [now])
  | [], R, j, k, now, hk, _, hR => by
    obtain rfl : k = j := by simpa using hk
    rcases hR with rfl | ⟨t, rfl⟩
    · rfl
    · show put [(objectB M.id (partN k), (dataN M cb ib k, t))] _ _ = _
      unfold put
      rw [if_pos rfl]
      rfl
  | t :: T, R, j, k, now, hk, h3, hR => by
    have hl : (t :: T).length = T.length + 1 := rfl
    show put ((objectB M.id (partN j), (dataN M cb ib j, t)) :: upO M cb ib (j + 1) (T ++ R)) _ _ = _
    unfold put
    rw [if_neg (part_ne h3 (by omega) (by omega)), upO_put T R (j + 1) k now (by omega) h3 hR]
    rfl

theorem upO_mem : ∀ (T : List Int) (j : Nat), ∀ p ∈ upO M cb ib j T, ∃ i t, t ∈ T ∧ p = (objectB M.id (partN i), (dataN M cb ib i, t))
  | [], _, p, hp => by cases hp
  | t :: T, j, p, hp => by
    rcases List.mem_cons.1 (show p ∈ (objectB M.id (partN j), (dataN M cb ib j, t)) :: upO M cb ib (j + 1) T from hp) with h | h
    · exact ⟨j, t, by simp, h⟩
    · obtain ⟨i, t', h1, h2⟩ := upO_mem T (j + 1) p h
      exact ⟨i, t', by simp [h1], h2⟩
end
/-- Behind k steps that were done: times of the objects; one more may lie there whose Put failed. -/
structure UpInv (T : List Int) (k : Nat) (born now grace : Int) : Prop where
  le : k ≤ 3
  len : T.length = k ∨ (T.length = k + 1 ∧ k < 3)
  at_ : ∀ t ∈ T, born ≤ t ∧ t ≤ now ∧ t - born < grace

theorem UpInv.later {T : List Int} {k : Nat} {born now now' grace : Int} (h : UpInv T k born now grace) (hn : now ≤ now') : UpInv T k born now' grace := ⟨h.le, h.len, fun t ht => by have := h.at_ t ht; omega⟩

/-- Behind a Put that may fail: the object is there or it isn't. -/
theorem upInv_put {M : MetaS} {cb ib : ByteArray} {T : List Int} {k : Nat} {born now grace : Int} (h : UpInv T k born now grace) (hk : k < 3) (hb : born ≤ now) (hg : now - born < grace) :
    ∃ T', put (upO M cb ib 0 T) (objectB M.id (partN k)) (dataN M cb ib k, now) = upO M cb ib 0 T' ∧ UpInv T' (k + 1) born now grace ∧ UpInv T' k born now grace := by
  have key : ∀ (S R : List Int), T = S ++ R → S.length = k → (R = [] ∨ ∃ t, R = [t]) → ∃ T', put (upO M cb ib 0 T) (objectB M.id (partN k)) (dataN M cb ib k, now) = upO M cb ib 0 T' ∧ UpInv T' (k + 1) born now grace ∧ UpInv T' k born now grace := by
    intro S R hT hS hR
    have hat : ∀ t ∈ S ++ [now], born ≤ t ∧ t ≤ now ∧ t - born < grace := fun t ht => by
      rcases List.mem_append.1 ht with ht | ht
      · exact h.at_ t (by rw [hT]; simp [ht])
      · obtain rfl : t = now := by simpa using ht
        exact ⟨hb, Int.le_refl _, hg⟩
    refine ⟨S ++ [now], ?_, ⟨by omega, .inl (by simp [hS]), hat⟩, ⟨h.le, .inr ⟨by simp [hS], hk⟩, hat⟩⟩
    rw [hT]
    exact upO_put S R 0 k now (by omega) hk hR
  rcases h.len with h1 | ⟨h1, h2⟩
  · exact key T [] (by simp) h1 (.inl rfl)
  · have hd := List.take_append_drop k T
    have hl : (T.drop k).length = 1 := by rw [List.length_drop]; omega
    obtain ⟨t, ht⟩ := List.length_eq_one_iff.1 hl
    exact key (T.take k) (T.drop k) hd.symm (by rw [List.length_take]; omega) (.inr ⟨t, ht⟩)

theorem UpInv.done {T : List Int} {born now grace : Int} (h : UpInv T 3 born now grace) : T.length = 3 := by
  rcases h.len with h1 | ⟨_, h2⟩
  · exact h1
  · omega

theorem UpInv.le3 {T : List Int} {k : Nat} {born now grace : Int} (h : UpInv T k born now grace) : T.length ≤ 3 := by
  have := h.le
  rcases h.len with h1 | ⟨h1, h2⟩ <;> omega

/-- What a look at it asks for. -/
theorem upO_sizes {M : MetaS} {cb ib : ByteArray} (hok : MetaOk M) (h1 : cb.size ≤ 160000) (h2 : ib.size ≤ 14000) {T : List Int} (hT : T.length ≤ 3) :
    (∀ p ∈ upO M cb ib 0 T, p.1.size ≤ maxLen) ∧ (∀ n, (obOr (look (upO M cb ib 0 T) n)).1.size ≤ 9223372036854775807) ∧ (upO M cb ib 0 T).length * 32 ≤ 140737488355328 := by
  have hid := id16 hok.id
  refine ⟨fun p hp => ?_, fun n => ?_, by rw [upO_len]; omega⟩
  · obtain ⟨i, t, _, e⟩ := upO_mem T 0 p hp
    have hpz : (partN i).size ≤ 6 := by unfold partN; split <;> decide
    rw [e, objectB_size, hid]
    simp only [maxLen]
    omega
  · cases hx : look (upO M cb ib 0 T) n with
    | none => exact Nat.zero_le _
    | some x =>
      obtain ⟨i, t, _, e⟩ := upO_mem T 0 _ (look_mem hx)
      injection e with _ e
      subst e
      exact Nat.le_trans (dataN_size hok h1 h2 i) (by decide)

set_option linter.unusedSimpArgs false in
set_option maxRecDepth 100000 in
set_option maxHeartbeats 2000000 in
theorem complete_spec (w : World) (b f c mb B : Nat) (armed : Bool) (Q : List (Int × Bool)) (M : MetaS) (af ao : Option Addr) (nf cf no co : Nat) (cb ib : ByteArray) (T : List Int) (hT : T.length ≤ 3) (hb : BucketAt w b f c mb armed Q (upO M cb ib 0 T)) (hM : MetaV B w (metaCs M (.slice af nf cf) (.slice ao no co)) M) (hok : MetaOk M) :
    Calls Tryz.prog 17 #[.pointer (some ⟨b, 0, none⟩), .agg #[.string M.id, .int .i64 M.mn, .int .i64 M.mx, .int .i64 M.level, .int .i64 M.series, .int .i64 M.samples, .slice af nf cf, .slice ao no co, .string cb, .string ib]] w fun e w' => e = .returned (.bool true) ∧ Keeps [] w w' := by
  obtain ⟨q, hq⟩ : ∃ q, q = w.heap.size := ⟨_, rfl⟩
  obtain ⟨W1, hW1⟩ : ∃ W1, W1 = w.alloc (.cells #[.string M.id, .int .i64 M.mn, .int .i64 M.mx, .int .i64 M.level, .int .i64 M.series, .int .i64 M.samples, .slice af nf cf, .slice ao no co, .string cb, .string ib] 28) := ⟨_, rfl⟩
  have k1 : Keeps [] w W1 := by rw [hW1]; exact (Keeps.refl [] w).alloc _
  have n1 : W1.heap[q]? = some (.cells #[.string M.id, .int .i64 M.mn, .int .i64 M.mx, .int .i64 M.level, .int .i64 M.series, .int .i64 M.samples, .slice af nf cf, .slice ao no co, .string cb, .string ib] 28 (0, 0)) := by rw [hW1, hq]; exact heap_new w _
  have hb1 := hb.keep k1 (by simp) (by simp) (by simp) (by simp)
  have H1 := Lib.hid (And.intro n1 (And.intro k1 (And.intro hb1 (And.intro hM hok))))
  have c1 := cells_at n1
  have l1 := lt_of_at n1
  have hid := id16 hok.id
  have Ho := Lib.hid (fun (W : World) (i : Nat) => object_spec W M.id (partN i) (by omega) (by unfold partN; split <;> decide))
  have Hp := Lib.hid (fun (W : World) (hk : Keeps [] W1 W) (i : Nat) => peek_spec W b f c mb armed Q _ (hb1.keep hk (by simp) (by simp) (by simp) (by simp)) (objectB M.id (partN i)))
  clear k1 n1 hb1 hM hok hb
  by_cases h3 : T.length = 3
  · obtain ⟨t2, -, e2⟩ := upO_some (M := M) (cb := cb) (ib := ib) T 0 2 (by omega) (by omega) (by omega)
    obtain ⟨t1, -, e1⟩ := upO_some (M := M) (cb := cb) (ib := ib) T 0 1 (by omega) (by omega) (by omega)
    obtain ⟨t0, -, e0⟩ := upO_some (M := M) (cb := cb) (ib := ib) T 0 0 (by omega) (by omega) (by omega)
    have HE := Lib.hid (And.intro e0 (And.intro e1 e2))
    clear e0 e1 e2
    go_enter Tryz.func17, Tryz.ntmps17
    go_wp2_with fail
    rw [← hq, ← hW1]
    clear hq hW1
    refine (Ho.out _ 2).mono ?_
    rintro e w2 ⟨rfl, rfl⟩
    go_wp2_with fail
    refine (Hp.out _ (Keeps.refl _ _) 2).mono ?_
    rw [HE.out.2.2, show (obOr (some (dataN M cb ib 2, t2))).1 = encM M from rfl]
    rintro e w3 ⟨rfl, k3⟩
    have n3 := k3.at_ H1.out.1 (by simp)
    have H3 := Lib.hid (And.intro k3 n3)
    clear c1 l1 k3
    have c1 := cells_at n3
    have l1 := lt_of_at n3
    clear n3
    go_wp2_with fail
    refine (Ho.out _ 0).mono ?_
    rintro e w4 ⟨rfl, rfl⟩
    go_wp2_with fail
    refine (Hp.out _ H3.out.1 0).mono ?_
    rw [HE.out.1, show (obOr (some (dataN M cb ib 0, t0))).1 = cb from rfl]
    rintro e w5 ⟨rfl, k5⟩
    have n5 := k5.at_ H3.out.2 (by simp)
    have H5 := Lib.hid (And.intro (H3.out.1.trans k5) n5)
    clear c1 l1 k5
    have c1 := cells_at n5
    have l1 := lt_of_at n5
    clear n5
    go_wp2_with fail
    refine (Ho.out _ 1).mono ?_
    rintro e w6 ⟨rfl, rfl⟩
    go_wp2_with fail
    refine (Hp.out _ H5.out.1 1).mono ?_
    rw [HE.out.2.1, show (obOr (some (dataN M cb ib 1, t1))).1 = ib from rfl]
    rintro e w7 ⟨rfl, k7⟩
    have n7 := k7.at_ H5.out.2 (by simp)
    have k17 := H5.out.1.trans k7
    have H7 := Lib.hid (And.intro k17 n7)
    have HE7 := Lib.hid (metaEnc_spec B w7 _ M (H1.out.2.2.2.1.same (H1.out.2.1.trans k17)) H1.out.2.2.2.2)
    clear c1 l1 k7 k17
    have c1 := cells_at n7
    have l1 := lt_of_at n7
    clear n7
    go_wp2_with fail
    refine HE7.out.mono ?_
    rintro e w8 ⟨rfl, k8⟩
    have n8 := k8.at_ H7.out.2 (by simp)
    have H8 := Lib.hid (H1.out.2.1.trans (H7.out.1.trans k8))
    clear c1 l1 k8
    have c1 := cells_at n8
    have l1 := lt_of_at n8
    clear n8
    rw [show (⟨(frameL 1 (metaL M)).toArray⟩ : ByteArray) = encM M from rfl]
    generalize encM M = em
    go_wp2_with fail
    go_ret
    exact ⟨rfl, H8.out⟩
  · have HE := Lib.hid (upO_none (M := M) (cb := cb) (ib := ib) T 0 2 (by omega) (by omega) (.inr (by omega)))
    go_enter Tryz.func17, Tryz.ntmps17
    go_wp2_with fail
    rw [← hq, ← hW1]
    clear hq hW1
    refine (Ho.out _ 2).mono ?_
    rintro e w2 ⟨rfl, rfl⟩
    go_wp2_with fail
    refine (Hp.out _ (Keeps.refl _ _) 2).mono ?_
    rw [HE.out]
    rintro e w3 ⟨rfl, k3⟩
    have H3 := Lib.hid (H1.out.2.1.trans k3)
    clear k3 c1 l1
    go_wp2_with fail
    go_ret
    exact ⟨rfl, H3.out⟩
end Go.Proofs.YtaebpbkiaihhdaaGreatDoor
