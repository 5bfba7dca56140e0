/-
  Plain laws of a block that is saved and erased with faults and crashes between: its meta is there only with its files. No program in sight.
  No condition beyond those that each theorem states.
-/
import Derived.Test.YtaebpbkiaihhdaaGreatDoorLocals
namespace Go.Proofs.YtaebpbkiaihhdaaGreatDoor
open Go

theorem dataN_size2 {M : MetaS} {cb ib : ByteArray} (hok : MetaOk M) (h1 : cb.size ≤ 160000) (h2 : ib.size ≤ 14000) (j : Nat) : (dataN M cb ib j).size ≤ 160000 := by
  unfold dataN
  split
  · exact h1
  · omega
  · have : (encM M).size ≤ 3000 := frame_meta_len hok
    omega

theorem used_keys : ∀ (K : List ByteArray) (o : List (ByteArray × Ob)), (o.map (·.1)).Nodup → (∀ n ∈ o.map (·.1), n ∈ K) → used o ≤ (K.map fun n => (obOr (look o n)).1.size).sum
  | [], o, _, h => by
    rcases o with _ | ⟨a, o⟩
    · exact Nat.le_refl _
    · exact absurd (h a.1 (by simp)) (by simp)
  | n :: K, o, hn, h => by
    have hd := used_del n o
    have ih := used_keys K (del o n) (del_nodup hn _) (fun m hm => by
      have h1 := h m (mem_keys_del hm)
      rcases List.mem_cons.1 h1 with rfl | h1
      · exact absurd hm ((look_none_iff _ _).1 (by rw [look_del _ _ _ hn, if_pos rfl]))
      · exact h1)
    have hle : ∀ K : List ByteArray, (K.map fun m => (obOr (look (del o n) m)).1.size).sum ≤ (K.map fun m => (obOr (look o m)).1.size).sum := by
      intro K
      induction K with
      | nil => exact Nat.le_refl _
      | cons a K ihK =>
        have ha : (obOr (look (del o n) a)).1.size ≤ (obOr (look o a)).1.size := by
          rw [look_del n a o hn]
          split
          · exact Nat.zero_le _
          · exact Nat.le_refl _
        simp only [List.map_cons, List.sum_cons]
        omega
    have := hle K
    simp only [List.map_cons, List.sum_cons]
    omega

theorem crash_le (ch : List Int) (o : List (ByteArray × Ob)) (p : ByteArray) : (obOr (look (crashO ch o) p)).1.size ≤ (obOr (look o p)).1.size := by
  suffices hs : ∀ (M : List ByteArray) (s : List (ByteArray × Ob) × Nat), (obOr (look (M.foldl (crashStep ch) s).1 p)).1.size ≤ (obOr (look s.1 p)).1.size by
    exact hs _ (o, 0)
  intro M
  induction M with
  | nil => intro s; exact Nat.le_refl _
  | cons n M ih =>
    intro s
    refine Nat.le_trans (ih (crashStep ch s n)) ?_
    unfold crashStep
    dsimp only
    split
    · exact Nat.le_refl _
    · rw [look_put]
      split
      · rename_i e
        subst e
        simp only [obOr, Option.getD_some, ByteArray.size_extract]
        omega
      · exact Nat.le_refl _

def svK (M : MetaS) : List ByteArray := [tmpB, fileB M.id (partN 0), fileB M.id (partN 1), fileB M.id (partN 2)]

/-- What holds of the disk while a block is saved and erased. -/
structure SvInv (M : MetaS) (cb ib : ByteArray) (o : List (ByteArray × Ob)) : Prop where
  keys : KeysIn o (svK M)
  part : ∀ j, j < 3 → look o (fileB M.id (partN j)) = none ∨ look o (fileB M.id (partN j)) = some (dataN M cb ib j, ((dataN M cb ib j).size : Int))
  last : look o (fileB M.id (partN 2)) ≠ none → ∀ j, j < 3 → look o (fileB M.id (partN j)) ≠ none
  tmp : (obOr (look o tmpB)).1.size ≤ 160000
section
variable {M : MetaS} {cb ib : ByteArray} {o : List (ByteArray × Ob)}
theorem svInv_nil : SvInv M cb ib [] := ⟨⟨List.nodup_nil, fun n hn => by cases hn⟩, fun _ _ => .inl rfl, fun h => absurd rfl h, Nat.zero_le _⟩

theorem svK_mem {k : Nat} (hk : k < 3) : fileB M.id (partN k) ∈ svK M := by
  rcases (by omega : k = 0 ∨ k = 1 ∨ k = 2) with rfl | rfl | rfl <;> simp [svK]

theorem SvInv.size (i : SvInv M cb ib o) (hok : MetaOk M) (hc : cb.size ≤ 160000) (hi : ib.size ≤ 14000) : used o ≤ 340000 := by
  have h := used_keys _ o i.keys.nodup i.keys.mem
  have hp : ∀ j, j < 3 → (obOr (look o (fileB M.id (partN j)))).1.size ≤ (dataN M cb ib j).size := fun j hj => by
    rcases i.part j hj with e | e <;> rw [e]
    · exact Nat.zero_le _
    · exact Nat.le_refl _
  have h0 : (dataN M cb ib 0).size ≤ 160000 := hc
  have h1 : (dataN M cb ib 1).size ≤ 14000 := hi
  have h2 : (dataN M cb ib 2).size ≤ 3000 := frame_meta_len hok
  have p0 := hp 0 (by decide)
  have p1 := hp 1 (by decide)
  have p2 := hp 2 (by decide)
  have pt := i.tmp
  simp only [svK, List.map_cons, List.map_nil, List.sum_cons, List.sum_nil] at h
  omega

theorem SvInv.whole (i : SvInv M cb ib o) (h : look o (fileB M.id (partN 2)) ≠ none) : WholeAt o M cb ib := by
  have hp : ∀ j, j < 3 → look o (fileB M.id (partN j)) = some (dataN M cb ib j, ((dataN M cb ib j).size : Int)) := fun j hj => by
    rcases i.part j hj with e | e
    · exact absurd e (i.last h j hj)
    · exact e
  exact ⟨_, _, _, hp 0 (by decide), hp 1 (by decide), hp 2 (by decide)⟩

theorem SvInv.crash_part (i : SvInv M cb ib o) (ch : List Int) : ∀ j, j < 3 → look (crashO ch o) (fileB M.id (partN j)) = look o (fileB M.id (partN j)) := fun j hj => by
  have hc := crash_keep ch o
  rcases i.part j hj with e | e
  · rw [e]
    rw [look_none_iff] at e ⊢
    rw [hc.1]
    exact e
  · rw [e, hc.2.2 _ _ e]

theorem SvInv.crash (i : SvInv M cb ib o) (ch : List Int) : SvInv M cb ib (crashO ch o) := by
  have hp := i.crash_part ch
  refine ⟨i.keys.crash ch, fun j hj => by rw [hp j hj]; exact i.part j hj, fun h j hj => ?_, Nat.le_trans (crash_le ch o tmpB) i.tmp⟩
  rw [hp 2 (by decide)] at h
  rw [hp j hj]
  exact i.last h j hj

theorem SvInv.fresh {o' : List (ByteArray × Ob)} (i : SvInv M cb ib o) (hd : ∀ j, (dataN M cb ib j).size ≤ 160000) {k : Nat} (hk : k < 3) (h2 : k = 2 → ∀ j, j < 2 → look o (fileB M.id (partN j)) ≠ none) (f : FreshInv o (fileB M.id (partN k)) (dataN M cb ib k) o') (hl : look o' (fileB M.id (partN k)) = look o (fileB M.id (partN k)) ∨ look o' (fileB M.id (partN k)) = some (dataN M cb ib k, ((dataN M cb ib k).size : Int))) : SvInv M cb ib o' := by
  have ho : ∀ j, j < 3 → j ≠ k → look o' (fileB M.id (partN j)) = look o (fileB M.id (partN j)) := fun j hj hne => f.others _ (file_part hj hk hne) file_ne
  refine ⟨i.keys.fresh f (by simp [svK]) (svK_mem hk), fun j hj => ?_, fun h j hj => ?_, ?_⟩
  · by_cases e : j = k
    · subst e
      rcases hl with hl | hl
      · rw [hl]; exact i.part j hj
      · exact .inr hl
    · rw [ho j hj e]; exact i.part j hj
  · by_cases e2 : j = 2
    · subst e2; exact h
    · by_cases ek : k = 2
      · rw [ho j hj (by omega)]
        exact h2 ek j (by omega)
      · rw [ho 2 (by decide) (Ne.symm ek)] at h
        have h3 := i.last h j hj
        by_cases e : j = k
        · subst e
          rcases hl with hl | hl
          · rw [hl]; exact h3
          · rw [hl]; simp
        · rw [ho j hj e]; exact h3
  · rcases ht : look o' tmpB with _ | x
    · exact Nat.zero_le _
    · rcases f.tmp x ht with h | h
      · have := i.tmp
        rw [h] at this
        exact this
      · show x.1.size ≤ 160000
        rw [h]
        exact hd k

theorem save_law {room : Nat} (hr : 700000 ≤ room) (Q : List (Int × Bool)) (hok : MetaOk M) (hc : cb.size ≤ 160000) (hi : ib.size ≤ 14000) (i : SvInv M cb ib o) : ∀ k, k ≤ 3 →
    SvInv M cb ib (saveK room Q o M cb ib k).2.2 ∧ ((saveK room Q o M cb ib k).1 = 0 ∨ (saveK room Q o M cb ib k).1 = 8) ∧ ((saveK room Q o M cb ib k).1 = 0 → ∀ j, j < k → look (saveK room Q o M cb ib k).2.2 (fileB M.id (partN j)) ≠ none)
  | 0, _ => ⟨i, .inl rfl, fun _ j hj => absurd hj (Nat.not_lt_zero _)⟩
  | k + 1, hk => by
    obtain ⟨h1, h2, h3⟩ := save_law hr Q hok hc hi i k (by omega)
    have hdz := dataN_size2 (M := M) (cb := cb) (ib := ib) hok hc hi
    by_cases hz : (saveK room Q o M cb ib k).1 = 0
    · have e : saveK room Q o M cb ib (k + 1) = freshS room (saveK room Q o M cb ib k).2.1 (saveK room Q o M cb ib k).2.2 (fileB M.id (partN k)) (dataN M cb ib k) := if_pos hz
      rw [e]
      generalize saveK room Q o M cb ib k = S at h1 h3 hz
      have hu := h1.size hok hc hi
      have hd := hdz k
      have hfz := fileB_size M.id (partN k)
      have hpz := partN_size k
      have hid := id16 hok.id
      obtain ⟨f, hf⟩ := fresh_law (room := room) S.2.1 (o := S.2.2) (name := fileB M.id (partN k)) (s := dataN M cb ib k) file_ne (by omega) (by omega) h1.keys.nodup (by omega)
      have hinv := h1.fresh hdz (k := k) (by omega) (fun e2 j hj => h3 hz j (by omega)) f (by
        rcases hf with ⟨_, h, _⟩ | ⟨_, h⟩
        · exact .inr h
        · exact h)
      refine ⟨hinv, ?_, fun hz2 j hj => ?_⟩
      · rcases hf with ⟨h, _⟩ | ⟨h, _⟩
        · exact .inl h
        · exact .inr h
      · rcases hf with ⟨_, h, _⟩ | ⟨h, _⟩
        · by_cases e2 : j = k
          · subst e2; rw [h]; simp
          · rw [f.others _ (file_part (by omega) (by omega) e2) file_ne]
            exact h3 hz j (by omega)
        · rw [hz2] at h; cases h
    · have e : saveK room Q o M cb ib (k + 1) = saveK room Q o M cb ib k := if_neg hz
      rw [e]
      exact ⟨h1, h2, fun h => absurd h hz⟩

theorem saveS_is {room : Nat} (hr : 700000 ≤ room) (Q : List (Int × Bool)) (hok : MetaOk M) (hc : cb.size ≤ 160000) (hi : ib.size ≤ 14000) (i : SvInv M cb ib o) : saveS room Q o M cb ib = saveK room Q o M cb ib 3 := by
  have hu := i.size hok hc hi
  have h2 : (encM M).size ≤ 3000 := frame_meta_len hok
  unfold saveS
  rw [if_neg (by omega)]

theorem saveK_quiet {room : Nat} : ∀ k, (saveK room [] o M cb ib k).2.1 = [] ∧ (saveK room [] o M cb ib k).1 ≠ 8
  | 0 => ⟨rfl, by show (0 : Int) ≠ 8; decide⟩
  | k + 1 => by
    have ih := saveK_quiet (room := room) k
    by_cases hz : (saveK room [] o M cb ib k).1 = 0
    · have e : saveK room [] o M cb ib (k + 1) = freshS room (saveK room [] o M cb ib k).2.1 (saveK room [] o M cb ib k).2.2 (fileB M.id (partN k)) (dataN M cb ib k) := if_pos hz
      rw [e, ih.1]
      exact fresh_quiet
    · have e : saveK room [] o M cb ib (k + 1) = saveK room [] o M cb ib k := if_neg hz
      rw [e]
      exact ih

theorem rm_cases (Q : List (Int × Bool)) (o : List (ByteArray × Ob)) (n : ByteArray) : (rmS Q o n).1 = 0 ∧ (rmS Q o n).2.2 = o ∧ look o n = none ∨ (rmS Q o n).1 = 0 ∧ (rmS Q o n).2.2 = del o n ∨ (rmS Q o n).1 = 8 ∧ ((rmS Q o n).2.2 = del o n ∨ (rmS Q o n).2.2 = o) := by
  rcases hl : look o n with _ | x
  · rw [rm_none hl]
    exact .inl ⟨rfl, rfl, rfl⟩
  · have hr : noneR o n = none := by unfold noneR; rw [hl]; rfl
    have e1 : (rmS Q o n).1 = if opErr none Q = 5 then 0 else opErr none Q := by unfold rmS; rw [hr]
    have e2 : (rmS Q o n).2.2 = opO none Q o (del o n) := by unfold rmS; rw [hr]
    rw [e1, e2]
    rcases opO_try Q o (del o n) with ⟨a, b⟩ | ⟨a, b⟩
    · rw [a, b]; exact .inr (.inl ⟨rfl, rfl⟩)
    · rw [a]; exact .inr (.inr ⟨rfl, b⟩)

theorem SvInv.del (i : SvInv M cb ib o) {k : Nat} (hk : k < 3) (h0 : k ≠ 2 → look o (fileB M.id (partN 2)) = none) : SvInv M cb ib (Go.Proofs.YtaebpbkiaihhdaaGreatDoor.del o (fileB M.id (partN k))) := by
  have hd := fun n => look_del (fileB M.id (partN k)) n o i.keys.nodup
  refine ⟨i.keys.del _, fun j hj => ?_, fun h => ?_, ?_⟩
  · rw [hd]
    split
    · exact .inl rfl
    · exact i.part j hj
  · rw [hd] at h
    by_cases e : k = 2
    · subst e
      rw [if_pos rfl] at h
      exact absurd rfl h
    · rw [if_neg (file_part (by decide) hk (Ne.symm e)), h0 e] at h
      exact absurd rfl h
  · rw [hd, if_neg (Ne.symm file_ne)]
    exact i.tmp

theorem erase_law (Q : List (Int × Bool)) (i : SvInv M cb ib o) : ∀ k, k ≤ 3 →
    SvInv M cb ib (eraseK Q o M.id k).2.2 ∧ ((eraseK Q o M.id k).1 = 0 ∨ (eraseK Q o M.id k).1 = 8) ∧ ((eraseK Q o M.id k).1 = 0 → ∀ j, j < k → look (eraseK Q o M.id k).2.2 (fileB M.id (partE j)) = none)
  | 0, _ => ⟨i, .inl rfl, fun _ j hj => absurd hj (Nat.not_lt_zero _)⟩
  | k + 1, hk => by
    obtain ⟨h1, h2, h3⟩ := erase_law Q i k (by omega)
    by_cases hz : (eraseK Q o M.id k).1 = 0
    · have e : eraseK Q o M.id (k + 1) = rmS (eraseK Q o M.id k).2.1 (eraseK Q o M.id k).2.2 (fileB M.id (partE k)) := if_pos hz
      rw [e]
      generalize eraseK Q o M.id k = S at h1 h3 hz
      have hdel : SvInv M cb ib (del S.2.2 (fileB M.id (partE k))) := h1.del (k := 2 - k) (by omega) (fun hne => by
        have := h3 hz 0 (by omega)
        exact this)
      have hlk : ∀ j, j < k + 1 → look (del S.2.2 (fileB M.id (partE k))) (fileB M.id (partE j)) = none := fun j hj => by
        rw [look_del _ _ _ h1.keys.nodup]
        split
        · rfl
        · rename_i hne
          exact h3 hz j (by
            rcases Nat.lt_or_ge j k with h | h
            · exact h
            · exact absurd (by rw [show j = k by omega]) hne)
      rcases rm_cases S.2.1 S.2.2 (fileB M.id (partE k)) with ⟨a, b, c⟩ | ⟨a, b⟩ | ⟨a, b⟩
      · rw [a, b]
        refine ⟨h1, .inl rfl, fun _ j hj => ?_⟩
        rcases Nat.lt_or_ge j k with h | h
        · exact h3 hz j h
        · rw [show j = k by omega]; exact c
      · rw [a, b]
        exact ⟨hdel, .inl rfl, fun _ => hlk⟩
      · rw [a]
        refine ⟨?_, .inr rfl, fun h => by cases h⟩
        rcases b with b | b <;> rw [b]
        · exact hdel
        · exact h1
    · have e : eraseK Q o M.id (k + 1) = eraseK Q o M.id k := if_neg hz
      rw [e]
      exact ⟨h1, h2, fun h => absurd h hz⟩

theorem eraseK_quiet {id : ByteArray} : ∀ k, (eraseK [] o id k).2.1 = [] ∧ (eraseK [] o id k).1 ≠ 8
  | 0 => ⟨rfl, by show (0 : Int) ≠ 8; decide⟩
  | k + 1 => by
    have ih := eraseK_quiet (id := id) k
    by_cases hz : (eraseK [] o id k).1 = 0
    · have e : eraseK [] o id (k + 1) = rmS (eraseK [] o id k).2.1 (eraseK [] o id k).2.2 (fileB id (partE k)) := if_pos hz
      rw [e, ih.1]
      rcases hl : look (eraseK [] o id k).2.2 (fileB id (partE k)) with _ | x
      · rw [rm_none hl]; exact ⟨rfl, by show (0 : Int) ≠ 8; decide⟩
      · rw [rm_ok hl]; exact ⟨rfl, by show (0 : Int) ≠ 8; decide⟩
    · have e : eraseK [] o id (k + 1) = eraseK [] o id k := if_neg hz
      rw [e]
      exact ih

theorem SvInv.sizes (i : SvInv M cb ib o) (hok : MetaOk M) : (∀ p ∈ o, p.1.size ≤ maxLen) ∧ o.length * 16 ≤ 140737488355328 := i.keys.sizes (fun n hn => by
  have hid := id16 hok.id
  have hf : ∀ k, (fileB M.id (partN k)).size ≤ 1000 := fun k => by
    have := fileB_size M.id (partN k)
    have := partN_size k
    omega
  simp only [svK, List.mem_cons, List.not_mem_nil, or_false] at hn
  rcases hn with rfl | rfl | rfl | rfl
  · decide
  · exact hf 0
  · exact hf 1
  · exact hf 2) (by show 4 ≤ 100; decide)

theorem SvInv.names (i : SvInv M cb ib o) : ∀ n ∈ Go.Proofs.YtaebpbkiaihhdaaGreatDoor.names o blkB, ∃ j, j < 3 ∧ n = fileB M.id (partN j) := fun n hn => by
  have h1 := i.keys.mem n (mem_names hn)
  have h2 := names_pre hn
  simp only [svK, List.mem_cons, List.not_mem_nil, or_false] at h1
  rcases h1 with rfl | rfl | rfl | rfl
  · rw [tmp_noFile] at h2; cases h2
  · exact ⟨0, by decide, rfl⟩
  · exact ⟨1, by decide, rfl⟩
  · exact ⟨2, by decide, rfl⟩

theorem filter_one {x : ByteArray} : ∀ {l : List ByteArray}, l.Nodup → x ∈ l → (l.filter fun n => decide (n = x)).length = 1
  | [], _, h => by cases h
  | a :: l, hn, h => by
    have hn' := List.nodup_cons.1 hn
    by_cases e : a = x
    · subst e
      have h0 : l.filter (fun n => decide (n = a)) = [] := List.filter_eq_nil_iff.2 (fun n hm => by
        simp only [decide_eq_true_eq]
        intro e
        exact hn'.1 (by rw [← e]; exact hm))
      rw [List.filter_cons, if_pos (by simp), h0]
      rfl
    · rw [List.filter_cons, if_neg (by simp [e])]
      rcases List.mem_cons.1 h with h | h
      · exact absurd h.symm e
      · exact filter_one hn'.2 h

theorem meta_one (hnd : (o.map (·.1)).Nodup) (h : look o (fileB M.id metaB) ≠ none) : ((Go.Proofs.YtaebpbkiaihhdaaGreatDoor.names o blkB).filter (metaN M)).length = 1 := by
  have hm : fileB M.id metaB ∈ o.map (·.1) := Classical.byContradiction fun hc => h ((look_none_iff _ _).2 hc)
  exact filter_one (names_nodup hnd) (names_in hm (file_pre _ _))

theorem meta_no (h : look o (fileB M.id metaB) = none) : ((Go.Proofs.YtaebpbkiaihhdaaGreatDoor.names o blkB).filter (metaN M)).length = 0 := by
  have h0 : (Go.Proofs.YtaebpbkiaihhdaaGreatDoor.names o blkB).filter (metaN M) = [] := List.filter_eq_nil_iff.2 (fun n hm => by
    unfold metaN
    simp only [decide_eq_true_eq]
    intro e
    exact (look_none_iff _ _).1 h (by rw [← e]; exact mem_names hm))
  rw [h0]
  rfl

/-- One step: the block is saved, or erased. -/
def svStep (er : Bool) (room : Nat) (Q : List (Int × Bool)) (o : List (ByteArray × Ob)) (M : MetaS) (cb ib : ByteArray) : OpS := if er = true then eraseK Q o M.id 3 else saveS room Q o M cb ib

theorem step_law {room : Nat} (hr : 700000 ≤ room) (er : Bool) (Q : List (Int × Bool)) (hok : MetaOk M) (hc : cb.size ≤ 160000) (hi : ib.size ≤ 14000) (i : SvInv M cb ib o) :
    SvInv M cb ib (svStep er room Q o M cb ib).2.2 ∧ ((svStep er room Q o M cb ib).1 = 0 ∨ (svStep er room Q o M cb ib).1 = 8) ∧ ((svStep er room Q o M cb ib).1 = 0 → if er = true then look (svStep er room Q o M cb ib).2.2 (fileB M.id metaB) = none else look (svStep er room Q o M cb ib).2.2 (fileB M.id metaB) ≠ none) := by
  cases er
  · show SvInv M cb ib (saveS room Q o M cb ib).2.2 ∧ _
    have e : svStep false room Q o M cb ib = saveK room Q o M cb ib 3 := saveS_is hr Q hok hc hi i
    have h := save_law hr Q hok hc hi i 3 (Nat.le_refl _)
    rw [← e] at h
    exact ⟨h.1, h.2.1, fun hz => h.2.2 hz 2 (by decide)⟩
  · have h := erase_law Q i 3 (Nat.le_refl _)
    exact ⟨h.1, h.2.1, fun hz => h.2.2 hz 0 (by decide)⟩

theorem step_quiet2 {room : Nat} (hr : 700000 ≤ room) (er : Bool) (hok : MetaOk M) (hc : cb.size ≤ 160000) (hi : ib.size ≤ 14000) (i : SvInv M cb ib o) : (svStep er room [] o M cb ib).2.1 = [] ∧ (svStep er room [] o M cb ib).1 = 0 := by
  have h := (step_law hr er [] hok hc hi i).2.1
  have hq : (svStep er room [] o M cb ib).2.1 = [] ∧ (svStep er room [] o M cb ib).1 ≠ 8 := by
    cases er
    · have e : svStep false room [] o M cb ib = saveK room [] o M cb ib 3 := saveS_is hr [] hok hc hi i
      rw [e]
      exact saveK_quiet 3
    · exact eraseK_quiet 3
  refine ⟨hq.1, ?_⟩
  rcases h with h | h
  · exact h
  · exact absurd h hq.2

theorem erase_none {room : Nat} (hr : 700000 ≤ room) (hok : MetaOk M) (hc : cb.size ≤ 160000) (hi : ib.size ≤ 14000) (i : SvInv M cb ib o) : Go.Proofs.YtaebpbkiaihhdaaGreatDoor.names (eraseK [] o M.id 3).2.2 blkB = [] := by
  have h := erase_law [] i 3 (Nat.le_refl _)
  have hz : (eraseK [] o M.id 3).1 = 0 := (step_quiet2 hr true hok hc hi i).2
  refine names_nil (fun n hn => ?_)
  have hm := h.1.keys.mem n hn
  have hno : ∀ k, k < 3 → n ≠ fileB M.id (partN k) := fun k hk e => by
    subst e
    have := h.2.2 hz (2 - k) (by omega)
    unfold partE at this
    rw [show 2 - (2 - k) = k by omega] at this
    exact (look_none_iff _ _).1 this hn
  simp only [svK, List.mem_cons, List.not_mem_nil, or_false] at hm
  rcases hm with rfl | e | e | e
  · exact tmp_noFile
  · exact absurd e (hno 0 (by decide))
  · exact absurd e (hno 1 (by decide))
  · exact absurd e (hno 2 (by decide))
end
end Go.Proofs.YtaebpbkiaihhdaaGreatDoor
