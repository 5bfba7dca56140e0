/-
  A round of a sweep when nothing fails, in plain words: its states, one behind the other.
  No condition beyond those that each theorem states.
-/
import Derived.Test.YtbndpegilpgheaaGreatSweepLaw
namespace Go.Proofs.YtbndpegilpgheaaGreat
open Go Go.RowKit

abbrev Bkt := List (ByteArray × Ob)

theorem nodup_len {α : Type} : ∀ {l m : List α}, l.Nodup → (∀ x ∈ l, x ∈ m) → l.length ≤ m.length
  | [], _, _, _ => Nat.zero_le _
  | x :: l, m, hn, h => by
    simp only [List.nodup_cons] at hn
    obtain ⟨m1, m2, rfl⟩ := List.append_of_mem (h x (by simp))
    have ih := nodup_len (m := m1 ++ m2) hn.2 fun y hy => by
      have := h y (by simp [hy])
      simp only [List.mem_append, List.mem_cons] at this ⊢
      rcases this with h1 | rfl | h1
      · exact .inl h1
      · exact absurd hy hn.1
      · exact .inr h1
    simp only [List.length_append, List.length_cons] at ih ⊢
    omega
/-! ## A listing of all -/
theorem hasPre_none (s : ByteArray) : hasPre s ⟨#[]⟩ = true := by
  have e : s.extract 0 0 = ⟨#[]⟩ := by
    apply ba_ext
    simp
  simp only [hasPre, Bool.and_eq_true, decide_eq_true_eq]
  exact ⟨Nat.zero_le _, e⟩

theorem listing_nil (o : Bkt) : listing o ⟨#[]⟩ = (sortedKeys o).map fun n => (n, obOr (look o n)) := by
  unfold listing
  rw [List.filter_eq_self.2 (fun a _ => hasPre_none a)]

theorem listing_keys (o : Bkt) : (listing o ⟨#[]⟩).map (·.1) = sortB (o.map (·.1)) := by
  rw [listing_nil, List.map_map]
  show (sortedKeys o).map id = _
  rw [List.map_id]
  rfl

theorem listing_nodup {o : Bkt} (h : (o.map (·.1)).Nodup) : ((listing o ⟨#[]⟩).map (·.1)).Nodup := by
  rw [listing_keys]
  exact (sortB_perm _).nodup_iff.2 h

theorem listing_mem {o : Bkt} {n : ByteArray} : n ∈ (listing o ⟨#[]⟩).map (·.1) ↔ n ∈ o.map (·.1) := by
  rw [listing_keys]
  exact (sortB_perm _).mem_iff

theorem listing_look {o : Bkt} (h : (o.map (·.1)).Nodup) (n : ByteArray) : look (listing o ⟨#[]⟩) n = look o n := by
  cases hl : look o n with
  | none =>
    rw [look_none_iff] at hl ⊢
    exact fun hm => hl (listing_mem.1 hm)
  | some x =>
    refine look_of_mem (listing_nodup h) ?_
    rw [listing_nil, List.mem_map]
    refine ⟨n, (sortB_perm _).mem_iff.2 (List.mem_map.2 ⟨_, look_mem hl, rfl⟩), ?_⟩
    simp [hl, obOr]

theorem listing_len (o : Bkt) : (listing o ⟨#[]⟩).length = o.length := by
  have := congrArg List.length (listing_keys o)
  rwa [List.length_map, sortB_length, List.length_map] at this

theorem listing_of {o : Bkt} {p : ByteArray × Ob} (h : p ∈ listing o ⟨#[]⟩) : p ∈ o := by
  obtain ⟨x, hx, e⟩ := listing_in h
  have := look_mem hx
  rw [← e] at this
  exact this

/-! ## Objects that go -/
def delAll (o : Bkt) (V : List ByteArray) : Bkt := V.foldl del o

theorem delAll_nodup {o : Bkt} (h : (o.map (·.1)).Nodup) : ∀ V : List ByteArray, ((delAll o V).map (·.1)).Nodup := by
  intro V
  induction V generalizing o with
  | nil => exact h
  | cons n V ih => exact ih (del_nodup h n)

theorem look_delAll {o : Bkt} (h : (o.map (·.1)).Nodup) (n : ByteArray) : ∀ V : List ByteArray, look (delAll o V) n = if n ∈ V then none else look o n := by
  intro V
  induction V generalizing o with
  | nil => simp [delAll]
  | cons m V ih =>
    have := ih (del_nodup h m)
    show look (delAll (del o m) V) n = _
    rw [this, look_del m n o h]
    by_cases e : n = m <;> by_cases e2 : n ∈ V <;> simp [e, e2]

theorem delAll_next (o : Bkt) {V : List ByteArray} {k : Nat} (hk : k < V.length) : delAll o (V.take (k + 1)) = del (delAll o (V.take k)) V[k] := by
  unfold delAll
  rw [List.take_succ_eq_append_getElem hk, List.foldl_append]
  rfl

theorem delAll_sub (o : Bkt) : ∀ V : List ByteArray, ∀ p ∈ delAll o V, p ∈ o := by
  have hsub : ∀ (n : ByteArray) (o : Bkt), ∀ p ∈ del o n, p ∈ o := by
    intro n o
    induction o with
    | nil => intro p hp; exact hp
    | cons q o ih =>
      obtain ⟨k, x⟩ := q
      intro p hp
      unfold del at hp
      split at hp
      · exact List.mem_cons_of_mem _ hp
      · rcases List.mem_cons.1 hp with h | h
        · simp [h]
        · exact List.mem_cons_of_mem _ (ih p h)
  intro V
  induction V generalizing o with
  | nil => intro p hp; exact hp
  | cons n V ih => intro p hp; exact hsub n o p (ih (del o n) p hp)

theorem delAll_len (o : Bkt) : ∀ V : List ByteArray, (delAll o V).length ≤ o.length := by
  intro V
  induction V generalizing o with
  | nil => exact Nat.le_refl _
  | cons n V ih => exact Nat.le_trans (ih (del o n)) (length_del n o)

/-! ## What is got -/
def gotUp (o : Bkt) (W : List ByteArray) : List (ByteArray × ByteArray) := W.foldl (fun G n => put G n (obOr (look o n)).1) []

theorem gotUp_next (o : Bkt) {W : List ByteArray} {k : Nat} (hk : k < W.length) : gotUp o (W.take (k + 1)) = put (gotUp o (W.take k)) W[k] (obOr (look o W[k])).1 := by
  unfold gotUp
  rw [List.take_succ_eq_append_getElem hk, List.foldl_append]
  rfl

theorem look_gotUp (o : Bkt) (n : ByteArray) : ∀ (W : List ByteArray) (G : List (ByteArray × ByteArray)), look (W.foldl (fun G n => put G n (obOr (look o n)).1) G) n = if n ∈ W then some (obOr (look o n)).1 else look G n
  | [], G => by simp
  | m :: W, G => by
    rw [List.foldl_cons, look_gotUp o n W, look_put]
    by_cases e : n = m <;> by_cases e2 : n ∈ W <;> simp [e, e2]

theorem gotUp_nodup (o : Bkt) : ∀ (W : List ByteArray) (G : List (ByteArray × ByteArray)), (G.map (·.1)).Nodup → ((W.foldl (fun G n => put G n (obOr (look o n)).1) G).map (·.1)).Nodup
  | [], _, h => h
  | _ :: W, _, h => gotUp_nodup o W _ (put_nodup h _ _)

/-- The mark of a block, of a bucket. -/
def markIn (o : Bkt) (id : ByteArray) : Option Int := (look o (objectB id markB)).bind fun x => markSays id x.1

theorem isWait_mark {id : ByteArray} (h : isIDB id.data.toList = true) : isWait (objectB id markB) = true := by
  unfold isWait
  rw [object_split h mark_part]
  simp

theorem mem_wait {o : Bkt} {n : ByteArray} : n ∈ waitOf (listing o ⟨#[]⟩) ↔ n ∈ o.map (·.1) ∧ isWait n = true := by
  unfold waitOf
  rw [List.mem_filter, listing_mem]

theorem markOf_got (o : Bkt) (id : ByteArray) : markOf (gotUp o (waitOf (listing o ⟨#[]⟩))) id = markIn o id := by
  unfold markOf gotUp markIn
  rw [look_gotUp]
  by_cases hm : objectB id markB ∈ waitOf (listing o ⟨#[]⟩)
  · rw [if_pos hm]
    obtain ⟨x, hx⟩ := look_isSome (mem_wait.1 hm).1
    rw [hx]
    rfl
  · rw [if_neg hm]
    cases hl : look o (objectB id markB) with
    | none => rfl
    | some x =>
      simp only [look, Option.bind_some, Option.bind_none]
      cases hs : markSays id x.1 with
      | none => rfl
      | some t =>
        exfalso
        exact hm (mem_wait.2 ⟨List.mem_map.2 ⟨_, look_mem hl, rfl⟩, isWait_mark (markSays_id hs)⟩)

/-! ## The states of a round -/
/-- What a scan's step makes of a sweeper that is not ready. -/
def readyZ (Z : SweepS) (S : ScanS) : SweepS :=
  if S.begun = true ∧ S.wait = [] then ⟨Z.cfg, S, victimsL Z.cfg.1 Z.cfg.2.1 S.tick S.infos (markOf S.got), true, Z.gone⟩ else ⟨Z.cfg, S, Z.left, false, Z.gone⟩
section
variable (cfg : Int × Int × Int) (now g0 : Int) (o : Bkt)
def waitR : List ByteArray := waitOf (listing o ⟨#[]⟩)

def victR : List ByteArray := victimsL cfg.1 cfg.2.1 now (listing o ⟨#[]⟩) (markOf (gotUp o (waitR o)))

def stA : SweepS := ⟨cfg, scan0, [], false, g0⟩

def stB (j : Nat) : SweepS := ⟨cfg, ⟨true, now, listing o ⟨#[]⟩, (waitR o).drop j, gotUp o ((waitR o).take j)⟩, [], false, g0⟩

def stC (k : Nat) : SweepS := ⟨cfg, ⟨true, now, listing o ⟨#[]⟩, [], gotUp o (waitR o)⟩, (victR cfg now o).drop k, true, g0 + k⟩

inductive Rnd : Nat → SweepS → Bkt → Prop
  | a : Rnd 0 (stA cfg g0) o
  | b (j : Nat) (hj : j < (waitR o).length) : Rnd (1 + j) (stB cfg now g0 o j) o
  | c (k : Nat) (hk : k ≤ (victR cfg now o).length) : Rnd (1 + (waitR o).length + k) (stC cfg now g0 o k) (delAll o ((victR cfg now o).take k))
end
section
variable {cfg : Int × Int × Int} {now g0 : Int} {o : Bkt}
theorem rnd_begin : readyZ (stA cfg g0) (scanOf [] now (listing o ⟨#[]⟩) scan0) = if waitR o = [] then stC cfg now g0 o 0 else stB cfg now g0 o 0 := by
  have e : scanOf [] now (listing o ⟨#[]⟩) scan0 = ⟨true, now, listing o ⟨#[]⟩, waitR o, []⟩ := rfl
  rw [e]
  unfold readyZ
  by_cases h : waitR o = []
  · rw [if_pos ⟨rfl, h⟩, if_pos h]
    unfold stC victR stA
    rw [h]
    simp [gotUp]
  · rw [if_neg (fun hc => h hc.2), if_neg h]
    unfold stB stA
    simp [gotUp]

theorem rnd_first : Rnd cfg now g0 o 1 (readyZ (stA cfg g0) (scanOf [] now (listing o ⟨#[]⟩) scan0)) o := by
  rw [rnd_begin]
  by_cases h : waitR o = []
  · rw [if_pos h]
    have := Rnd.c (cfg := cfg) (now := now) (g0 := g0) (o := o) 0 (Nat.zero_le _)
    rw [h] at this
    exact this
  · rw [if_neg h]
    exact Rnd.b 0 (List.length_pos_iff.2 h)

theorem rnd_wait {j : Nat} (hj : j < (waitR o).length) : (stB cfg now g0 o j).scan.wait = (waitR o)[j] :: (waitR o).drop (j + 1) := by
  show (waitR o).drop j = _
  rw [List.drop_eq_getElem_cons hj]

theorem got_scan {j : Nat} (hj : j < (waitR o).length) : gotOf (getVal [] o (waitR o)[j]) (waitR o)[j] ((waitR o).drop (j + 1)) (stB cfg now g0 o j).scan = ⟨true, now, listing o ⟨#[]⟩, (waitR o).drop (j + 1), gotUp o ((waitR o).take (j + 1))⟩ := by
  obtain ⟨x, hx⟩ := look_isSome (mem_wait.1 (List.getElem_mem hj)).1
  have hg : getVal [] o (waitR o)[j] = (x.1, 0) := by
    unfold getVal
    rw [if_pos (show tryWorks [] = true from rfl)]
    show (match look o (waitR o)[j] with | none => ((⟨#[]⟩ : ByteArray), (5 : Int)) | some x => (x.1, 0)) = _
    rw [show look o (waitR o)[j] = some x from hx]
  rw [hg, gotUp_next o hj, show look o (waitR o)[j] = some x from hx]
  rfl

theorem rnd_got {j : Nat} (hj : j < (waitR o).length) : gotErr (getVal [] o (waitR o)[j]) = 0 ∧
    Rnd cfg now g0 o (1 + j + 1) (readyZ (stB cfg now g0 o j) (gotOf (getVal [] o (waitR o)[j]) (waitR o)[j] ((waitR o).drop (j + 1)) (stB cfg now g0 o j).scan)) o := by
  obtain ⟨x, hx⟩ := look_isSome (mem_wait.1 (List.getElem_mem hj)).1
  have hg : getVal [] o (waitR o)[j] = (x.1, 0) := by
    unfold getVal
    rw [if_pos (show tryWorks [] = true from rfl)]
    show (match look o (waitR o)[j] with | none => ((⟨#[]⟩ : ByteArray), (5 : Int)) | some x => (x.1, 0)) = _
    rw [show look o (waitR o)[j] = some x from hx]
  rw [hg]
  refine ⟨rfl, ?_⟩
  have e : gotOf (x.1, 0) (waitR o)[j] ((waitR o).drop (j + 1)) (stB cfg now g0 o j).scan = ⟨true, now, listing o ⟨#[]⟩, (waitR o).drop (j + 1), gotUp o ((waitR o).take (j + 1))⟩ := by
    rw [gotUp_next o hj, show look o (waitR o)[j] = some x from hx]
    rfl
  rw [e]
  unfold readyZ
  by_cases h : (waitR o).drop (j + 1) = []
  · rw [if_pos ⟨rfl, h⟩]
    have hl : (waitR o).length = j + 1 := by
      have := List.drop_eq_nil_iff.1 h
      omega
    have ht : (waitR o).take (j + 1) = waitR o := by rw [← hl]; exact List.take_length
    rw [h, ht]
    have := Rnd.c (cfg := cfg) (now := now) (g0 := g0) (o := o) 0 (Nat.zero_le _)
    rw [hl] at this
    rw [show 1 + j + 1 = 1 + (j + 1) + 0 from by omega]
    have e2 : stC cfg now g0 o 0 = ⟨cfg, ⟨true, now, listing o ⟨#[]⟩, [], gotUp o (waitR o)⟩, victimsL cfg.1 cfg.2.1 now (listing o ⟨#[]⟩) (markOf (gotUp o (waitR o))), true, g0⟩ := by
      unfold stC victR
      simp
    rw [e2] at this
    exact this
  · rw [if_neg (fun hc => h hc.2)]
    have hl : j + 1 < (waitR o).length := by
      have := mt List.drop_eq_nil_iff.2 h
      omega
    rw [show 1 + j + 1 = 1 + (j + 1) from by omega]
    exact Rnd.b (j + 1) hl

theorem rnd_left {k : Nat} (hk : k < (victR cfg now o).length) : (stC cfg now g0 o k).left = (victR cfg now o)[k] :: (victR cfg now o).drop (k + 1) := by
  show (victR cfg now o).drop k = _
  rw [List.drop_eq_getElem_cons hk]

theorem rnd_del {k : Nat} (hk : k < (victR cfg now o).length) : Rnd cfg now g0 o (1 + (waitR o).length + k + 1) ⟨cfg, (stC cfg now g0 o k).scan, (victR cfg now o).drop (k + 1), true, g0 + k + 1⟩ (del (delAll o ((victR cfg now o).take k)) (victR cfg now o)[k]) := by
  have := Rnd.c (cfg := cfg) (now := now) (g0 := g0) (o := o) (k + 1) hk
  rw [delAll_next o hk] at this
  rw [show 1 + (waitR o).length + k + 1 = 1 + (waitR o).length + (k + 1) from by omega]
  have e : stC cfg now g0 o (k + 1) = ⟨cfg, (stC cfg now g0 o k).scan, (victR cfg now o).drop (k + 1), true, g0 + k + 1⟩ := by
    unfold stC
    simp only [SweepS.mk.injEq, true_and]
    push_cast
    omega
  rw [e] at this
  exact this

theorem wait_len : (waitR o).length ≤ o.length := by
  have := waitOf_len (listing o ⟨#[]⟩)
  rw [listing_len] at this
  exact this

theorem vict_sub (hnd : (o.map (·.1)).Nodup) {n : ByteArray} (h : n ∈ victR cfg now o) : n ∈ o.map (·.1) := by
  obtain ⟨_, _, _, _, _, hl, _⟩ := (mem_victims (listing_nodup hnd)).1 h
  rw [listing_look hnd] at hl
  obtain ⟨x, hx⟩ := Option.isSome_iff_exists.1 hl
  exact List.mem_map.2 ⟨_, look_mem hx, rfl⟩

theorem vict_len (hnd : (o.map (·.1)).Nodup) : (victR cfg now o).length ≤ o.length := by
  have h1 : (victR cfg now o).Nodup := victims_nodup (listing_nodup hnd)
  have := nodup_len h1 (m := o.map (·.1)) (fun n hn => vict_sub hnd hn)
  rwa [List.length_map] at this

/-- A round is at its end behind so many steps. -/
theorem rnd_end {i : Nat} {Z : SweepS} {o' : Bkt} (h : Rnd cfg now g0 o i Z o') (hd : (Z.ready && Z.left.isEmpty) = true) : Z = stC cfg now g0 o (victR cfg now o).length ∧ o' = delAll o (victR cfg now o) := by
  cases h with
  | a => cases hd
  | b j hj => cases hd
  | c k hk =>
    have hl : ((victR cfg now o).drop k).isEmpty = true := by simpa [stC] using hd
    have := List.drop_eq_nil_iff.1 (List.isEmpty_iff.1 hl)
    obtain rfl : k = (victR cfg now o).length := by omega
    exact ⟨rfl, by rw [List.take_length]⟩

theorem rnd_late {i : Nat} {Z : SweepS} {o' : Bkt} (h : Rnd cfg now g0 o i Z o') : i ≤ 1 + (waitR o).length + (victR cfg now o).length := by
  cases h <;> omega
end
end Go.Proofs.YtbndpegilpgheaaGreat
