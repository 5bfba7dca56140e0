/-
  An update's steps on a bucket whose calls may fail, each in turn, in plain words: what it scanned, what it put (package scan).
  No condition beyond those that each theorem states.
-/
import Derived.Test.YtjffdcflkkgpfaaGreatMovP
namespace Go.Proofs.YtjffdcflkkgpfaaGreat
open Go Go.RowKit Go.Conc

/-! ## What is to be got is all that tells of blocks -/
theorem look_filt {α : Type} (f : ByteArray → Bool) {n : ByteArray} (hn : f n = true) : ∀ L : List (ByteArray × α), look (L.filter fun p => f p.1) n = look L n
  | [] => rfl
  | (k, x) :: r => by
    have ih := look_filt f hn r
    by_cases hk : f k = true
    · rw [List.filter_cons_of_pos (by exact hk)]
      simp only [look, ih]
    · rw [List.filter_cons_of_neg (by exact hk), ih]
      simp only [look]
      rw [if_neg (fun e => hk (by rw [← e]; exact hn))]

theorem mark_wait {id : ByteArray} {d : ByteArray} {M : MetaS} (h : decS d.data.toList = some M) (hid : M.id = id) : isWait (objectB id markB) = true := by
  subst hid
  have hs := split_object (part := markB.data.toList) (decS_ok h).id (by decide)
  unfold isWait
  rw [object_data, hs]
  simp

theorem fmap_congr {α β : Type} {f g : α → Option β} : ∀ {l : List α}, (∀ x ∈ l, f x = g x) → l.filterMap f = l.filterMap g
  | [], _ => rfl
  | x :: l, h => by rw [List.filterMap_cons, List.filterMap_cons, h x (by simp), fmap_congr (fun y hy => h y (by simp [hy]))]

theorem ofN_filt (L : List ObjS) : ofN (L.filter fun p => isWait p.1) (L.filter fun p => isWait p.1).length = ofN L L.length := by
  unfold ofN
  rw [List.take_length, List.take_length, List.filterMap_filter]
  refine fmap_congr fun p _ => ?_
  by_cases hp : isWait p.1 = true
  · rw [if_pos hp]
    unfold blkO
    cases hm : metaO p with
    | none => rfl
    | some M =>
      have hmk := mark_wait (metaO_some hm).2 rfl
      simp only [Option.map_some]
      unfold whenO bytesO
      rw [look_filt isWait hmk]
  · rw [if_neg hp]
    unfold blkO
    cases hm : metaO p with
    | none => rfl
    | some M => exact absurd (meta_wait hm) hp

theorem waits_objs (o : BktS) : waitsObj o = (objsOf o).filter fun p => isWait p.1 := by
  unfold waitsObj objsOf
  rw [waitsOf_eq, listing_nilR, List.map_map, List.filter_map]
  rfl

theorem blks_ref {o0 o : BktS} (h : RunOk o) (hw : waitsObj o = waitsObj o0) (t : Int) : blksS (stS o t (waitsOf o).length) = ofN (objsOf o0) (objsOf o0).length := by
  unfold blksS
  rw [gotS_end h.nodup t, hw, waits_objs, ofN_filt]
/-! ## A bucket, with an index or without -/
theorem put_keysP {α : Type} {n : ByteArray} {v : α} : ∀ {m : List (ByteArray × α)}, (m.map (·.1)).Nodup → ((put m n v).map (·.1)).Nodup ∧ ∀ x ∈ (put m n v).map (·.1), x = n ∨ x ∈ m.map (·.1)
  | [], _ => by simp [put]
  | (k, x) :: m, h => by
    rw [List.map_cons, List.nodup_cons] at h
    obtain ⟨i1, i2⟩ := put_keysP (n := n) (v := v) h.2
    unfold put
    by_cases e : n = k
    · rw [if_pos e]
      subst e
      refine ⟨?_, fun y hy => ?_⟩
      · rw [List.map_cons, List.nodup_cons]; exact h
      · rw [List.map_cons, List.mem_cons] at hy
        exact hy.imp id (fun h => by simp [h])
    · rw [if_neg e]
      refine ⟨?_, fun y hy => ?_⟩
      · rw [List.map_cons, List.nodup_cons]
        refine ⟨fun hm => ?_, i1⟩
        rcases i2 _ hm with hm | hm
        · exact e hm.symm
        · exact h.1 hm
      · rw [List.map_cons, List.mem_cons] at hy
        rcases hy with hy | hy
        · exact .inr (by simp [hy])
        · rcases i2 _ hy with hy | hy
          · exact .inl hy
          · exact .inr (by simp [hy])

theorem put_putP {α : Type} (n : ByteArray) (x y : α) : ∀ m : List (ByteArray × α), put (put m n x) n y = put m n y
  | [] => by simp [put]
  | (k, z) :: m => by
    have ih := put_putP n x y m
    by_cases e : n = k
    · subst e
      simp [put]
    · simp only [put, if_neg e, ih]

def bk (o0 : BktS) : Option Ob → BktS
  | none => o0
  | some x => put o0 indexB x

theorem bk_put (o0 : BktS) (X : Option Ob) (y : Ob) : put (bk o0 X) indexB y = bk o0 (some y) := by
  cases X with
  | none => rfl
  | some x => exact put_putP _ _ _ _

def XOk (X : Option Ob) : Prop := ∀ x, X = some x → x.1.size ≤ 1000000

structure BkOk (o0 o : BktS) : Prop where
  run : RunOk o
  big : ∀ n, (obOr (look o n)).1.size ≤ 1000000
  waits : waitsObj o = waitsObj o0

theorem bk_ok {o0 : BktS} (h : MovOk o0) {X : Option Ob} (hX : XOk X) : BkOk o0 (bk o0 X) := by
  cases X with
  | none => exact ⟨h.run, h.bkt.data, rfl⟩
  | some y =>
    have hk := put_keysP (n := indexB) (v := y) h.nodup
    have hw := waitsObj_put h.nodup index_wait y hk.1
    have hl := h.len
    refine ⟨⟨hk.1, ?_, fun p hp => ?_, fun n hn => ?_⟩, fun n => ?_, hw⟩
    · have := put_leF indexB y o0
      show (put o0 indexB y).length ≤ 16
      omega
    · rcases mem_put hp with rfl | hp
      · show indexB.size ≤ 40
        decide
      · exact (h.small p hp).1
    · have h1 : (n, dataOf (put o0 indexB y) n) ∈ waitsObj (put o0 indexB y) := List.mem_map.2 ⟨n, hn, rfl⟩
      rw [hw] at h1
      obtain ⟨x, hx, he⟩ := List.mem_map.1 h1
      injection he with e1 e2
      show (dataOf (put o0 indexB y) n).size ≤ 5000
      rw [← e2]
      exact h.run.data x hx
    · show (obOr (look (put o0 indexB y) n)).1.size ≤ 1000000
      rw [look_put]
      split
      · exact hX y rfl
      · exact h.bkt.data n

theorem waits_len {o0 o : BktS} (h : waitsObj o = waitsObj o0) : (waitsOf o).length = (waitsOf o0).length := by
  have := congrArg List.length h
  simpa [waitsObj] using this

theorem lstL_fewP {at_ : Nat} {L : List MetaS} {M : PartsM} (ok : ListOk at_ L M) : (lstL at_ L M).length ≤ 50020 := by
  have l1 := lebL_len10 (v := at_) (by have := ok.at_; omega)
  have l2 := lebL_len10 (v := L.length) (by have := ok.few; omega)
  have l3 := restL_len ok 0
  have e : lstL at_ L M = lebL at_ ++ (lebL L.length ++ restL L M 0) := rfl
  rw [e]
  simp only [List.length_append]
  omega

theorem encR_sizeP {o : BktS} (h : RunOk o) {t : Nat} (ht : t ≤ 1099511627776) : (encR o t).size ≤ 100000 := by
  have hof := (h.scan t (waitsOf o).length).of (tn := t) ht
  show (frameL 3 (lstL t ((sortT (blksS (stS o t (waitsOf o).length))).map (·.1)) (marksOf (blksS (stS o t (waitsOf o).length))))).length ≤ 100000
  have h1 := lstL_fewP hof.list
  rw [frameL_len]
  have := lebL_len10 (v := (lstL t ((sortT (blksS (stS o t (waitsOf o).length))).map (·.1)) (marksOf (blksS (stS o t (waitsOf o).length)))).length) (by omega)
  omega
/-! ## Calls that fail -/
theorem try_len (Q : List (Int × Bool)) : (tryQ Q).length ≤ Q.length ∧ (tryWorks Q = false → (tryQ Q).length + 1 = Q.length) := by
  unfold tryQ tryWorks tryS
  match Q with
  | [] => exact ⟨Nat.le_refl _, fun h => by cases h⟩
  | (n, d) :: r =>
    by_cases h : 0 < n
    · simp [h]
    · simp [h]

/-- How far a scan is from its end. -/
def far (n : Nat) (S : ScanS) : Nat := if S.begun then 1 + S.wait.length else 2 + n

/-- What a scan holds, whose bucket has the index X now. -/
def ScanP (o0 : BktS) (X : Option Ob) (S : ScanS) (now : Int) : Prop :=
  S = scan0 ∨ ∃ (Y : Option Ob) (t k : Nat), S = stS (bk o0 Y) t k ∧ k ≤ (waitsOf o0).length ∧ (t : Int) ≤ now ∧ XOk Y ∧ (k < (waitsOf o0).length → Y = X)

/-- A step of a scan that isn't at its end: the next state, what it answers. -/
theorem scanP_begin {o0 : BktS} {X : Option Ob} {now : Nat} (hX : XOk X) (Q : List (Int × Bool)) : ScanP o0 X (scanOf Q now (listing (bk o0 X) ⟨#[]⟩) scan0) now ∧ ((ioErr Q = 0 ∧ (scanOf Q now (listing (bk o0 X) ⟨#[]⟩) scan0) = stS (bk o0 X) now 0) ∨ (ioErr Q = 8 ∧ tryWorks Q = false ∧ scanOf Q now (listing (bk o0 X) ⟨#[]⟩) scan0 = scan0)) := by
  unfold scanOf ioErr
  rcases Bool.eq_false_or_eq_true (tryWorks Q) with h | h
  · rw [if_pos h, if_pos h]
    exact ⟨.inr ⟨X, now, 0, rfl, Nat.zero_le _, Int.le_refl _, hX, fun _ => rfl⟩, .inl ⟨rfl, rfl⟩⟩
  · rw [if_neg (by rw [h]; decide), if_neg (by rw [h]; decide)]
    exact ⟨.inl rfl, .inr ⟨rfl, h, rfl⟩⟩

theorem getVal_works {Q : List (Int × Bool)} (h : tryWorks Q = true) (o : BktS) (n : ByteArray) : getVal Q o n = getVal [] o n := by
  unfold getVal
  rw [if_pos h, if_pos (show tryWorks [] = true from rfl)]

theorem scanP_get {o0 : BktS} (h0 : MovOk o0) {X : Option Ob} (hX : XOk X) {t k : Nat} (hk : k < (waitsOf (bk o0 X)).length) (Q : List (Int × Bool)) :
    (gotErr (getVal Q (bk o0 X) (waitsOf (bk o0 X))[k]) = 0 ∧ gotOf (getVal Q (bk o0 X) (waitsOf (bk o0 X))[k]) (waitsOf (bk o0 X))[k] ((waitsOf (bk o0 X)).drop (k + 1)) (stS (bk o0 X) t k) = stS (bk o0 X) t (k + 1)) ∨
    (gotErr (getVal Q (bk o0 X) (waitsOf (bk o0 X))[k]) = 8 ∧ tryWorks Q = false ∧ gotOf (getVal Q (bk o0 X) (waitsOf (bk o0 X))[k]) (waitsOf (bk o0 X))[k] ((waitsOf (bk o0 X)).drop (k + 1)) (stS (bk o0 X) t k) = stS (bk o0 X) t k) := by
  rcases Bool.eq_false_or_eq_true (tryWorks Q) with h | h
  · rw [getVal_works h]
    obtain ⟨e1, e2⟩ := scan_next (bk_ok h0 hX).run.nodup t hk
    exact .inl ⟨e2, e1⟩
  · have hg : getVal Q (bk o0 X) (waitsOf (bk o0 X))[k] = (⟨#[]⟩, 8) := by unfold getVal; rw [if_neg (by rw [h]; decide)]
    rw [hg]
    exact .inr ⟨rfl, h, rfl⟩
/-! ## Steps -/
theorem ScanAt.lower {X : Nat} {w : World} {B B' q gb : Nat} {S : ScanS} (h : ScanAt X w B q gb S) (hB : B' ≤ B) : ScanAt X w B' q gb S := ⟨Nat.le_trans hB h.1, Nat.le_trans hB h.2.1, h.2.2⟩

set_option linter.unusedSimpArgs false in
set_option maxRecDepth 100000 in
set_option maxHeartbeats 4000000 in
theorem updStale_spec {X : Nat} (w : World) (ub q gb b B : Nat) (S : ScanS) (now pat : Int) (hu : UpdAt w ub q false) (hS : ScanAt X w B q gb S) (hbg : S.begun = true)
    (hst : IntKind.i64.wrap (now - S.tick) = now - S.tick ∧ pat < now - S.tick) :
    Calls Tryz.prog 19 #[.pointer (some ⟨ub, 0, none⟩), .pointer (some ⟨b, 0, none⟩), .int .i64 now, .int .i64 pat] w fun e w' => ∃ q' gb', e = .returned (.int .i64 14) ∧ UpdAt w' ub q' false ∧ ScanAt (ub + 1) w' w.heap.size q' gb' scan0 ∧ Keeps [ub] w w' := by
  have cu := cells_at hu
  have lu := lt_of_at hu
  have lm := lt_more lu
  have Hu := Lib.hid hu
  obtain ⟨-, -, B1, vi, vw, -, -, hq, -, -, -, -⟩ := hS
  have cq := cells_at hq
  have lq := lt_of_at hq
  have lqm := lt_more lq
  clear hu hq
  obtain ⟨bg, tick, infos, wait, got⟩ := S
  dsimp only at hbg hst cq
  subst hbg
  obtain ⟨hs1, hs⟩ := hst
  have hs2 : now - tick > pat := by omega
  have hs3 : decide (now - tick > pat) = true := decide_eq_true hs2
  clear hs
  go_enter Tryz.func19, Tryz.ntmps19
  go_wp2_with fail
  refine (scanNew_spec w).mono ?_
  rintro e w1 ⟨q', gb', rfl, hS1, hk1⟩
  have hu1 := hk1.at_ Hu.out (by simp)
  have cu1 := cells_at hu1
  have lu1 := lt_of_at hu1
  have lm1 := lt_more lu1
  have fu1 := free_at hu1
  have hqq := hS1.1
  have hqg := hS1.2.1
  have H1 := Lib.hid (And.intro hu1 (And.intro hS1 hk1))
  clear hu1 hS1 hk1 cu cq
  go_wp2_with fail
  have hk2 : Keeps [ub] w1 (w1.setCell ⟨ub, 0, none⟩ (.pointer (some ⟨q', 0, none⟩))) := (Keeps.refl [ub] w1).setCell (.inl (by simp)) _
  have nu : UpdAt (w1.setCell ⟨ub, 0, none⟩ (.pointer (some ⟨q', 0, none⟩))) ub q' false := heap_cell_same H1.out.1 _
  have hS2 : ScanAt (ub + 1) (w1.setCell ⟨ub, 0, none⟩ (.pointer (some ⟨q', 0, none⟩))) w.heap.size q' gb' scan0 := (H1.out.2.1.keep hk2 (fun x hx => by simp only [List.mem_singleton] at hx; omega)).up (by simp; omega)
  go_ret
  exact ⟨q', gb', rfl, nu, hS2, (H1.out.2.2.mono (by simp)).trans hk2⟩

theorem i64_and4P (n : Int) : bits .and .i64 n 4 = if n % 8 < 4 then 0 else 4 := by
  have h3 : (BitVec.ofInt 64 4).toNat = 4 := by decide
  have key : (BitVec.ofInt 64 n &&& BitVec.ofInt 64 4).toNat = (n % ((2 ^ 64 : Nat) : Int)).toNat &&& 4 := by
    rw [BitVec.toNat_and, BitVec.toNat_ofInt, h3]
  have k2 : ∀ m : Nat, m &&& 4 = if m % 8 < 4 then 0 else 4 := by
    intro m
    have e : m &&& 4 = (m % 8) &&& 4 := by
      have := Nat.and_two_pow_sub_one_eq_mod m 3
      rw [show m % 8 = m &&& 7 from this.symm, Nat.and_assoc]
      rfl
    rw [e]
    have : m % 8 < 8 := Nat.mod_lt _ (by omega)
    generalize m % 8 = r at *
    match r, this with
    | 0, _ | 1, _ | 2, _ | 3, _ | 4, _ | 5, _ | 6, _ | 7, _ => rfl
  show IntKind.i64.wrap ((BitVec.ofInt 64 n &&& BitVec.ofInt 64 4).toNat : Nat) = _
  rw [key, k2]
  have e8 : (n % ((2 ^ 64 : Nat) : Int)).toNat % 8 < 4 ↔ n % 8 < 4 := by omega
  simp only [e8]
  split <;> rfl

/-- Is a scan older than it may be? -/
def Stale (S : ScanS) (now pat : Int) : Prop := S.begun = true ∧ pat < now - S.tick

/-- What is put is a scan's. -/
def PutOk (o0 : BktS) (X : Option Ob) (S : ScanS) (now pat : Int) : Prop :=
  ∃ (Y : Option Ob) (t : Nat) (x : Int), S = stS (bk o0 Y) t (waitsOf (bk o0 Y)).length ∧ XOk Y ∧ X = some (encR (bk o0 Y) t, x) ∧ (t : Int) ≤ now ∧ now - t ≤ pat

structure UpLow (w : World) (b f c mb B ub : Nat) : Prop where
  low : b < B ∧ f < B ∧ c < B ∧ mb < B
  up : B ≤ ub
  lib : LibVar w
  libB : 0 < B

def UpSt (w : World) (b f c mb B ub : Nat) (o0 : BktS) (now : Int) (armed : Bool) (Q : List (Int × Bool)) (X : Option Ob) (S : ScanS) (p : Bool) (q gb : Nat) : Prop :=
  BucketAt w b f c mb armed Q (bk o0 X) ∧ UpdAt w ub q p ∧ ScanAt (ub + 1) w B q gb S ∧ (ub ≠ q ∧ ub ≠ gb) ∧ ScanP o0 X S now ∧ XOk X

instance mvUpd {w w' : World} (ub q : Nat) (p : Bool) : Mv w w' (UpdAt w ub q p) (UpdAt w' ub q p) := ⟨fun k h => k.at_ h (by simp)⟩

theorem updStep_spec (w : World) (b f c mb B ub q gb : Nat) (o0 : BktS) (armed : Bool) (Q : List (Int × Bool)) (X : Option Ob) (S : ScanS) (now pat : Nat) (h : UpSt w b f c mb B ub o0 now armed Q X S false q gb) (hl : UpLow w b f c mb B ub) (h0 : MovOk o0) (hnow : now ≤ 1000000) (hpat : pat ≤ 1000) :
    Calls Tryz.prog 19 #[.pointer (some ⟨ub, 0, none⟩), .pointer (some ⟨b, 0, none⟩), .int .i64 now, .int .i64 pat] w fun e w' => ∃ (err : Int) (armed' : Bool) (Q' : List (Int × Bool)) (X' : Option Ob) (S' : ScanS) (p' : Bool) (q' gb' : Nat), e = .returned (.int .i64 err) ∧ UpSt w' b f c mb B ub o0 now armed' Q' X' S' p' q' gb' ∧ Keeps [f, c, mb, ub, q, gb] w w' ∧
      ((Stale S now pat ∧ err = 14 ∧ p' = false) ∨ (¬ Stale S now pat ∧ (err = 0 ∨ err = 8) ∧ (if p' then 0 else far (waitsOf o0).length S') + Q'.length + 1 ≤ far (waitsOf o0).length S + Q.length ∧ (p' = true → PutOk o0 X' S' now pat))) := by
  obtain ⟨hb, hu, hS, hne, hP, hX⟩ := h
  have hlw := hl.low
  have hup := hl.up
  have hqB := hS.1
  have hgB := hS.2.1
  have hbO := bk_ok h0 hX
  obtain ⟨tl1, tl2⟩ := try_len Q
  rcases hP with rfl | ⟨Y, t, k, rfl, hk, ht, hY, hYX⟩
  · refine (updScan_spec w ub q gb b B scan0 now pat (ioErr Q) (fun w' => ScanAt (ub + 1) w' B q gb (scanOf Q now (listing (bk o0 X) ⟨#[]⟩) scan0) ∧ BucketAt w' b f c mb (tryArmed Q) (tryQ Q) (bk o0 X) ∧ Keeps [f, c, q, gb] w w') hu hS rfl (fun h => by cases h) ?_).mono ?_
    · refine (scanStep_begin w b f c mb B q gb armed Q (bk o0 X) scan0 now hb hS rfl hlw hl.lib hl.libB hbO.run.name (fun n => by have := hbO.big n; omega) (by have := hbO.run.len; omega)).mono ?_
      rintro e w' ⟨rfl, h1, h2, h3⟩
      exact ⟨rfl, h1, h2, h3⟩
    · rintro e w' ⟨rfl, h1, h2, h3⟩
      obtain ⟨hp1, hp2⟩ := scanP_begin (o0 := o0) (now := now) hX Q
      refine ⟨_, _, _, X, _, false, q, gb, rfl, ⟨h2, h3.at_ hu (by simp; omega), h1, hne, hp1, hX⟩, h3.mono (by simp), .inr ⟨(fun h => by cases h.1), ?_, ?_, fun h => by cases h⟩⟩
      · rcases hp2 with ⟨e, -⟩ | ⟨e, -⟩
        · exact .inl e
        · exact .inr e
      · rcases hp2 with ⟨-, e⟩ | ⟨-, hq, e⟩
        · rw [e]
          have hw := waits_len hbO.waits
          have e1 : far (waitsOf o0).length (stS (bk o0 X) now 0) = 1 + (waitsOf o0).length := by
            unfold far
            rw [if_pos (show (stS (bk o0 X) now 0).begun = true from rfl)]
            show 1 + (waitsOf (bk o0 X)).length = _
            rw [hw]
          have e2 : far (waitsOf o0).length scan0 = 2 + (waitsOf o0).length := rfl
          simp only [Bool.false_eq_true, if_false]
          omega
        · rw [e]
          have := tl2 hq
          simp only [Bool.false_eq_true, if_false]
          omega
  · have hbY := bk_ok h0 hY
    have hwY := waits_len hbY.waits
    have htick : (stS (bk o0 Y) t k).tick = (t : Int) := rfl
    have hwr : IntKind.i64.wrap ((now : Int) - (stS (bk o0 Y) t k).tick) = (now : Int) - (stS (bk o0 Y) t k).tick := by
      rw [htick]
      exact IntWalk.i64_in _ (by omega)
    by_cases hst : Stale (stS (bk o0 Y) t k) now pat
    · refine (updStale_spec w ub q gb b B _ now pat hu hS rfl ⟨hwr, hst.2⟩).mono ?_
      rintro e w' ⟨q', gb', rfl, hu', hS', hk'⟩
      have hqw := hS'.1
      have hgw := hS'.2.1
      have hub := lt_of_at hu
      have hBw : B ≤ w.heap.size := by have := hS.lt; omega
      refine ⟨14, armed, Q, X, scan0, false, q', gb', rfl, ⟨hb.keep hk' (by simp; omega) (by simp; omega) (by simp; omega) (by simp; omega), hu', hS'.lower hBw, by omega, .inl rfl, hX⟩, hk'.mono (by simp), .inl ⟨hst, rfl, rfl⟩⟩
    · have hns : (now : Int) - (stS (bk o0 Y) t k).tick ≤ pat := by
        have : ¬ ((pat : Int) < (now : Int) - (stS (bk o0 Y) t k).tick) := fun h => hst ⟨rfl, h⟩
        omega
      by_cases hlt : k < (waitsOf o0).length
      · obtain rfl := hYX hlt
        have hk' : k < (waitsOf (bk o0 Y)).length := by omega
        have hw := stS_wait (t := (t : Int)) hk'
        have hg := scanP_get h0 hX hk' (t := t) Q
        refine (updScan_spec w ub q gb b B (stS (bk o0 Y) t k) now pat (gotErr (getVal Q (bk o0 Y) (waitsOf (bk o0 Y))[k])) (fun w' => ScanAt (ub + 1) w' B q gb (gotOf (getVal Q (bk o0 Y) (waitsOf (bk o0 Y))[k]) (waitsOf (bk o0 Y))[k] ((waitsOf (bk o0 Y)).drop (k + 1)) (stS (bk o0 Y) t k)) ∧ BucketAt w' b f c mb (tryArmed Q) (tryQ Q) (bk o0 Y) ∧ Keeps [f, c, q, gb] w w') hu hS (by rw [hw]; rfl) (fun _ => ⟨hwr, hns⟩) ?_).mono ?_
        · refine (scanStep_get w b f c mb B q gb armed Q (bk o0 Y) (stS (bk o0 Y) t k) now _ _ hb hS rfl hw hlw).mono ?_
          rintro e w' ⟨rfl, h1, h2, h3⟩
          exact ⟨rfl, h1, h2, h3⟩
        · rintro e w' ⟨rfl, h1, h2, h3⟩
          have hf : ∀ j, j ≤ (waitsOf (bk o0 Y)).length → far (waitsOf o0).length (stS (bk o0 Y) t j) = 1 + ((waitsOf o0).length - j) := fun j hj => by
            unfold far
            rw [if_pos (show (stS (bk o0 Y) t j).begun = true from rfl)]
            show 1 + ((waitsOf (bk o0 Y)).drop j).length = _
            rw [List.length_drop, hwY]
          rcases hg with ⟨e1, e2⟩ | ⟨e1, hq, e2⟩
          · rw [e2] at h1
            refine ⟨_, _, _, Y, _, false, q, gb, rfl, ⟨h2, h3.at_ hu (by simp; omega), h1, hne, .inr ⟨Y, t, k + 1, rfl, by omega, ht, hY, fun _ => rfl⟩, hX⟩, h3.mono (by simp), .inr ⟨hst, .inl e1, ?_, fun h => by cases h⟩⟩
            rw [hf _ (by omega), hf _ (by omega)]
            simp only [Bool.false_eq_true, if_false]
            omega
          · rw [e2] at h1
            refine ⟨_, _, _, Y, _, false, q, gb, rfl, ⟨h2, h3.at_ hu (by simp; omega), h1, hne, .inr ⟨Y, t, k, rfl, hk, ht, hY, fun _ => rfl⟩, hX⟩, h3.mono (by simp), .inr ⟨hst, .inr e1, ?_, fun h => by cases h⟩⟩
            have := tl2 hq
            simp only [Bool.false_eq_true, if_false]
            omega
      · obtain rfl : k = (waitsOf (bk o0 Y)).length := by omega
        have hen : encU (stS (bk o0 Y) t (waitsOf (bk o0 Y)).length) t = encR (bk o0 Y) t := rfl
        have hput := updPut_spec w ub q gb b f c mb B armed Q (bk o0 X) (stS (bk o0 Y) t (waitsOf (bk o0 Y)).length) now pat t hb hu hS (hbY.run.scan t _) hl.lib rfl (stS_end (bk o0 Y) t) ⟨hwr, hns⟩ (by show max (t : Int) 0 = (t : Int); omega) (by omega) ⟨hne.1, hne.2, by omega, by omega, by omega, by omega⟩ hlw
        rw [hen, bk_put] at hput
        refine hput.mono ?_
        rintro e w' ⟨rfl, hu', hS', hb', hk'⟩
        have hsz := encR_sizeP hbY.run (t := t) (by omega)
        have hX2 : XOk (some (encR (bk o0 Y) t, (now : Int))) := fun x hx => by
          injection hx with hx
          rw [← hx]
          show (encR (bk o0 Y) t).size ≤ 1000000
          omega
        have hSP : ∀ X', ScanP o0 X' (stS (bk o0 Y) t (waitsOf (bk o0 Y)).length) now := fun X' => .inr ⟨Y, t, _, rfl, by omega, ht, hY, fun h => by omega⟩
        have hfe : far (waitsOf o0).length (stS (bk o0 Y) t (waitsOf (bk o0 Y)).length) = 1 := by
          unfold far
          rw [if_pos (show (stS (bk o0 Y) t (waitsOf (bk o0 Y)).length).begun = true from rfl), stS_end]
          rfl
        have hkm : Keeps [f, c, mb, ub, q, gb] w w' := hk'.mono (by simp)
        rcases Bool.eq_false_or_eq_true (tryWorks Q) with hwk | hwk
        · have hio : ioErr Q = 0 := by unfold ioErr; rw [if_pos hwk]
          have hch : chg Q (bk o0 X) (bk o0 (some (encR (bk o0 Y) t, (now : Int)))) = bk o0 (some (encR (bk o0 Y) t, (now : Int))) := by unfold chg; rw [if_pos (tryDone_of Q hwk)]
          rw [hch] at hb'
          rw [hio] at hu' ⊢
          refine ⟨0, _, _, some (encR (bk o0 Y) t, (now : Int)), _, true, q, gb, rfl, ⟨hb', hu', hS', hne, hSP _, hX2⟩, hkm, .inr ⟨hst, .inl rfl, ?_, fun _ => ⟨Y, t, now, rfl, hY, rfl, ht, hns⟩⟩⟩
          rw [hfe]
          simp only [if_true]
          omega
        · have hio : ioErr Q = 8 := by unfold ioErr; rw [if_neg (by rw [hwk]; decide)]
          rw [hio] at hu' ⊢
          have hq := tl2 hwk
          rcases Bool.eq_false_or_eq_true (tryDone Q) with hd | hd
          · have hch : chg Q (bk o0 X) (bk o0 (some (encR (bk o0 Y) t, (now : Int)))) = bk o0 (some (encR (bk o0 Y) t, (now : Int))) := by unfold chg; rw [if_pos hd]
            rw [hch] at hb'
            refine ⟨8, _, _, some (encR (bk o0 Y) t, (now : Int)), _, false, q, gb, rfl, ⟨hb', hu', hS', hne, hSP _, hX2⟩, hkm, .inr ⟨hst, .inr rfl, ?_, fun h => by cases h⟩⟩
            rw [hfe]
            simp only [Bool.false_eq_true, if_false]
            omega
          · have hch : chg Q (bk o0 X) (bk o0 (some (encR (bk o0 Y) t, (now : Int)))) = bk o0 X := by unfold chg; rw [if_neg (by rw [hd]; decide)]
            rw [hch] at hb'
            refine ⟨8, _, _, X, _, false, q, gb, rfl, ⟨hb', hu', hS', hne, hSP _, hX⟩, hkm, .inr ⟨hst, .inr rfl, ?_, fun h => by cases h⟩⟩
            rw [hfe]
            simp only [Bool.false_eq_true, if_false]
            omega

theorem took_marked {SS : List BlkS} {M : PartsM} (hn : (SS.map fun p => p.1.id).Nodup) (hl : ∀ p ∈ SS, look M p.1.id = markO p) : (tookM M (SS.map (·.1))).length = marked SS := by
  have key : ∀ k, k ≤ SS.length → (tookM M ((SS.map (·.1)).take k)).length = marked (SS.take k) := by
    intro k
    induction k with
    | zero => intro _; rfl
    | succ k ih =>
      intro hk
      have hk' : k < SS.length := by omega
      have ih := ih (by omega)
      have hm : k < (SS.map (·.1)).length := by rw [List.length_map]; exact hk'
      rw [tookM_snoc M hm, List.getElem_map]
      have hlk := hl SS[k] (List.getElem_mem hk')
      have hno : look (tookM M ((SS.map (·.1)).take k)) SS[k].1.id = none := by
        rw [look_none_iff]
        intro hin
        obtain ⟨p, hp, hpe⟩ := List.mem_map.1 hin
        obtain ⟨⟨m, hm1, hm2⟩, -⟩ := mem_tookM hp
        obtain ⟨j, hj, hje⟩ := List.getElem_of_mem hm1
        rw [List.length_take, List.length_map] at hj
        rw [List.getElem_take, List.getElem_map] at hje
        rw [List.Nodup, List.pairwise_iff_getElem] at hn
        refine hn j k (by rw [List.length_map]; omega) (by rw [List.length_map]; omega) (by omega) ?_
        rw [List.getElem_map, List.getElem_map, hje, hm2, hpe]
      unfold tookStep
      rw [hlk]
      unfold markO
      by_cases h0 : 0 ≤ SS[k].2
      · rw [if_pos h0, marked_yes hk' h0]
        simp only
        rw [put_newK hno, List.length_append, ih]
        rfl
      · rw [if_neg h0, marked_no hk' h0]
        exact ih
  have := key SS.length (Nat.le_refl _)
  rwa [List.take_of_length_le (by rw [List.length_map]; exact Nat.le_refl _), List.take_length] at this
end Go.Proofs.YtjffdcflkkgpfaaGreat
