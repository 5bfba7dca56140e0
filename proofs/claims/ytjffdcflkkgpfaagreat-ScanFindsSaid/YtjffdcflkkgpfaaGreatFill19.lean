/-
  A bucket with objects, and the document's of them (package barographlaw19): Objects, Filled.
  No condition beyond those that each theorem states.

  The listing that a scan has found (package scan, Listing): listing.Of the objects that it got.
  The scan's names are each once, short, at most 20; what it got is among them.

  An update of a bucket's index (package scan): NewUpdate, Done, Step while nothing is stale.
  The contracts hold where the bucket lies in blocks below a bound B, the scan in blocks from B on.

  A scan of a bucket that does not change and of which no call fails, in plain words: its states, what it got.
  No condition beyond those that each theorem states.

  An update that runs on a bucket that does not change, no call failing: each step in turn (package scan, Update.Step).
  The bucket lies in blocks below a bound B, the update in blocks from B on.

  The answers that the document fixes of scans (package barographlaw19, awake): true.
  The library's variable stands.
-/
import Derived.Test.YtjffdcflkkgpfaaGreatScan
import Derived.Test.YtjffdcflkkgpfaaGreatOfArg
import Derived.Test.YtjffdcflkkgpfaaGreatListNil
namespace Go.Proofs.YtjffdcflkkgpfaaGreat
open Go Go.RowKit Go.Conc

abbrev BktS := List (ByteArray × Ob)

/-- A bucket's objects, by rising names. -/
def objsOf (o : BktS) : List ObjS := (listing o ⟨#[]⟩).map fun p => (p.1, p.2.1)

theorem objsOf_len (o : BktS) : (objsOf o).length = (listing o ⟨#[]⟩).length := by simp [objsOf]

theorem listing_len (o : BktS) (pre : ByteArray) : (listing o pre).length ≤ o.length := by
  unfold listing
  rw [List.length_map]
  refine Nat.le_trans (List.length_filter_le _ _) ?_
  unfold sortedKeys
  rw [sortB_length, List.length_map]
  exact Nat.le_refl _

theorem listing_at {o : BktS} {pre : ByteArray} {k : Nat} (h : k < (listing o pre).length) : (listing o pre)[k].2 = obOr (look o (listing o pre)[k].1) := by
  have hm : (listing o pre)[k] ∈ listing o pre := List.getElem_mem h
  generalize (listing o pre)[k] = p at hm ⊢
  unfold listing at hm
  obtain ⟨n, _, rfl⟩ := List.mem_map.1 hm
  rfl

theorem objsOf_snoc {o : BktS} {k : Nat} (h : k < (listing o ⟨#[]⟩).length) : (objsOf o).take (k + 1) = (objsOf o).take k ++ [((listing o ⟨#[]⟩)[k].1, (obOr (look o (listing o ⟨#[]⟩)[k].1)).1)] := by
  rw [List.take_succ_eq_append_getElem (by rw [objsOf_len]; exact h)]
  have : (objsOf o)[k]'(by rw [objsOf_len]; exact h) = ((listing o ⟨#[]⟩)[k].1, (listing o ⟨#[]⟩)[k].2.1) := by simp [objsOf]
  rw [this, listing_at h]

/-- What a bucket holds behind the first k. -/
def fillN (L : List ObjS) : Nat → BktS
  | 0 => []
  | k + 1 => match L[k]? with
    | none => fillN L k
    | some o => if o.1.size = 0 then fillN L k else put (fillN L k) o.1 (o.2, (k : Int))

theorem fillN_skip {L : List ObjS} {k : Nat} (h : k < L.length) (h0 : L[k].1.size = 0) : fillN L (k + 1) = fillN L k := by
  show (match L[k]? with | none => fillN L k | some o => if o.1.size = 0 then fillN L k else put (fillN L k) o.1 (o.2, (k : Int))) = _
  rw [List.getElem?_eq_getElem h]
  exact if_pos h0

theorem fillN_put {L : List ObjS} {k : Nat} (h : k < L.length) (h0 : L[k].1.size ≠ 0) : fillN L (k + 1) = put (fillN L k) L[k].1 (L[k].2, (k : Int)) := by
  show (match L[k]? with | none => fillN L k | some o => if o.1.size = 0 then fillN L k else put (fillN L k) o.1 (o.2, (k : Int))) = _
  rw [List.getElem?_eq_getElem h]
  exact if_neg h0

theorem put_leF {α : Type} (n : ByteArray) (v : α) : ∀ m : List (ByteArray × α), (put m n v).length ≤ m.length + 1
  | [] => by simp [put]
  | (k, x) :: m => by
    have ih := put_leF n v m
    unfold put
    split
    · simp
    · simp only [List.length_cons]; omega

/-- Every object of it was handed in. -/
theorem fillN_ok (L : List ObjS) : ∀ k, (fillN L k).length ≤ k ∧ ∀ p ∈ fillN L k, (p.1, p.2.1) ∈ L ∧ p.1.size ≠ 0
  | 0 => ⟨Nat.le_refl _, by simp [fillN]⟩
  | k + 1 => by
    have ih := fillN_ok L k
    by_cases h : k < L.length
    · by_cases h0 : L[k].1.size = 0
      · rw [fillN_skip h h0]
        exact ⟨by omega, ih.2⟩
      · rw [fillN_put h h0]
        refine ⟨by have := put_leF L[k].1 (L[k].2, (k : Int)) (fillN L k); omega, fun p hp => ?_⟩
        rcases mem_put hp with rfl | hp
        · exact ⟨List.getElem_mem h, h0⟩
        · exact ih.2 p hp
    · have : fillN L (k + 1) = fillN L k := by
        show (match L[k]? with | none => fillN L k | some o => if o.1.size = 0 then fillN L k else put (fillN L k) o.1 (o.2, (k : Int))) = _
        rw [List.getElem?_eq_none (by omega)]
      rw [this]
      exact ⟨by omega, ih.2⟩

/-- A bucket that the laws' calls can read. -/
structure BktOk (o : BktS) : Prop where
  len : o.length ≤ 16
  name : ∀ p ∈ o, p.1.size ≤ 40
  data : ∀ n, (obOr (look o n)).1.size ≤ 1000000

def ObjRel19 (w : World) (o : BktS) (vi : Value) (gk : Nat) (u3 u12 : Value) (wr : World) : Prop :=
  ∃ k, k ≤ (listing o ⟨#[]⟩).length ∧ gk = (listing o ⟨#[]⟩).length - k ∧ u12 = .int .i64 k ∧ wr.ownsRow w.heap.size 28 2 u3 k (((objsOf o).take k).flatMap encObj) ∧ wr.ownsRow w.heap.size 135 3 vi (listing o ⟨#[]⟩).length ((listing o ⟨#[]⟩).flatMap infoOf) ∧ Keeps [] w wr

def Obj19Post (w : World) (o : BktS) (e : Ending) (w' : World) : Prop := ∃ u, e = .returned u ∧ w'.ownsRow w.heap.size 28 2 u (objsOf o).length ((objsOf o).flatMap encObj) ∧ Keeps [] w w'

theorem infoOf_len (p : ByteArray × Ob) : (infoOf p).length = 3 := rfl

set_option linter.unusedSimpArgs false in
set_option maxRecDepth 100000 in
set_option maxHeartbeats 4000000 in
theorem objects19_spec (w : World) (b f c mb : Nat) (armed : Bool) (Q : List (Int × Bool)) (o : BktS) (h : BucketAt w b f c mb armed Q o) (ok : BktOk o) :
    Calls Tryz.prog 28 #[.pointer (some ⟨b, 0, none⟩)] w (Obj19Post w o) := by
  obtain ⟨io, hio, hzo0, hzo1, hzo2⟩ := info_parts infoObj
  have hll := listing_len o ⟨#[]⟩
  have hol := ok.len
  have HB := Lib.hid (And.intro h ok)
  have n0 := heap_new w (.cells #[] 28)
  have k0 : Keeps [] w (w.alloc (.cells #[] 28)) := (Keeps.refl [] w).alloc _
  obtain ⟨gb, hgb⟩ : ∃ n, n = w.heap.size := ⟨_, rfl⟩
  rw [← hgb] at n0
  have hgw : w.heap.size ≤ gb := by omega
  have Hgb := Lib.hid hgb
  have H0 := Lib.hid (And.intro n0 k0)
  clear n0 k0 hgb h ok
  go_enter Tryz.func28, Tryz.ntmps28
  go_upto_region 2 with fail
  rw [← Hgb.out]
  generalize w.alloc (.cells #[] 28) = W0 at H0 ⊢
  have Hlk := Lib.hid (look_spec W0 b f c mb armed Q o (H0.out.2.keep_bucket HB.out.1) ⟨#[]⟩ (fun p hp => by have := HB.out.2.name p hp; unfold maxLen; omega) (fun n => by have := HB.out.2.data n; omega) (by omega))
  go_wp2_with fail
  refine Hlk.out.mono ?_
  rintro e w1 ⟨vi, rfl, hrow, hk1⟩
  have hr0 : W0.ownsRow w.heap.size 28 2 (.slice (some ⟨gb, 0, none⟩) 0 0) 0 [] := ⟨rfl, .inr ⟨gb, 0, #[], rfl, hgw, H0.out.1, Nat.le_refl _, by simp [maxLen], by simp, by simp⟩⟩
  have H1 := Lib.hid (And.intro (hk1.row hr0 (by simp)) (And.intro (row_base hrow H0.out.2.size) (H0.out.2.trans hk1)))
  obtain ⟨LI, hLI⟩ : ∃ L, L = listing o ⟨#[]⟩ := ⟨_, rfl⟩
  obtain ⟨ai, ci, rfl, -, -, -⟩ := row_slice hrow
  clear hrow hk1 hr0 Hlk H0
  go_wp2_with fail
  go_loopg [3, 12] (listing o ⟨#[]⟩).length (ObjRel19 w o (.slice ai (listing o ⟨#[]⟩).length ci))
  case atStart => exact ⟨0, Nat.zero_le _, rfl, rfl, by simpa using H1.out.1, H1.out.2.1, H1.out.2.2⟩
  case round =>
    obtain ⟨k, hk, hgk, rfl, hout, hinf, hkr⟩ := hrel
    have Hg := Lib.hid hgk
    clear H1 hgk
    obtain ⟨an, cn, rfl, -, -, -⟩ := row_slice hout
    by_cases hlt : k < (listing o ⟨#[]⟩).length
    · have hlt' : (k : Int) < ((listing o ⟨#[]⟩).length : Int) := by omega
      obtain ⟨b6, of6, ea, -, hb6, hc6⟩ := (sliceFrom_row (enc := infoOf) infoOf_len hinf).atI k hlt
      subst ea
      have hsn := objsOf_snoc hlt
      obtain ⟨p, hp⟩ : ∃ p, p = (listing o ⟨#[]⟩)[k] := ⟨_, rfl⟩
      rw [← hp] at hc6 hsn
      clear hp
      obtain ⟨nm, dz, z2⟩ := p
      dsimp only at hsn
      obtain ⟨z1, hz1⟩ : ∃ z : Int, z = (dz.size : Int) := ⟨_, rfl⟩
      have d0 : wr.cell? ⟨b6, of6 + k * 3, none⟩ = some (.string nm) := hc6 0 (by decide)
      have d1 : wr.cell? ⟨b6, of6 + k * 3 + 1, none⟩ = some (.int .i64 z1) := by rw [hz1]; exact hc6 1 (by decide)
      have d2 : wr.cell? ⟨b6, of6 + k * 3 + 2, none⟩ = some (.int .i64 z2) := hc6 2 (by decide)
      have Hsn := Lib.hid hsn
      have ka : Keeps [] wr (wr.alloc (.cells #[.string nm, .int .i64 z1, .int .i64 z2] 135)) := (Keeps.refl [] wr).alloc _
      have na := heap_new wr (.cells #[.string nm, .int .i64 z1, .int .i64 z2] 135)
      obtain ⟨tb, htb⟩ : ∃ n, n = wr.heap.size := ⟨_, rfl⟩
      rw [← htb] at na
      have Htb := Lib.hid htb
      have H := Lib.hid (And.intro (ka.row hout (by simp)) (And.intro (ka.row hinf (by simp)) (And.intro na (hkr.trans ka))))
      clear hsn hz1 hc6 ka na htb hout hinf hkr
      go_upto_region 5 with fail
      clear d0 d1 d2
      rw [← Htb.out]
      clear Htb
      generalize wr.alloc (.cells #[.string nm, .int .i64 z1, .int .i64 z2] 135) = W1 at H ⊢
      have ct := cells_at H.out.2.2.1
      have lt := lt_of_at H.out.2.2.1
      have Hpk := Lib.hid (peek_spec W1 b f c mb armed Q o (H.out.2.2.2.keep_bucket HB.out.1) nm)
      go_wp2_with fail
      clear ct lt
      refine Hpk.out.mono ?_
      rintro e w2 ⟨rfl, hk2⟩
      have H2 := Lib.hid (And.intro (hk2.row H.out.1 (by simp)) (And.intro (hk2.row H.out.2.1 (by simp)) (And.intro (hk2.at_ H.out.2.2.1 (by simp)) (H.out.2.2.2.trans hk2))))
      clear hk2 Hpk H
      obtain ⟨dt, hdt⟩ : ∃ d, d = (obOr (look o nm)).1 := ⟨_, rfl⟩
      rw [← hdt] at Hsn ⊢
      clear hdt
      generalize (look o nm).isSome = okb
      have ct := cells_at H2.out.2.2.1
      have lt := lt_of_at H2.out.2.2.1
      have hwz := H2.out.2.2.2.size
      have hvl : ∀ g, (Value.slice an k cn).ownBlock = some g → w.heap.size ≤ g := fun g hg => (World.ownsRow.lt H2.out.1 g hg).1
      have Hvl := Lib.hid hvl
      have hk16 : k ≤ 16 := by omega
      clear hvl
      go_upto_region 7 with (at_builtin; refine wpList_append_own _ rfl (.tmp 23) (.tmp 28) 23 rfl w.heap.size 28 io _ 2 32 Tryz.underlying23 hio hzo0 hzo1 hzo2 rfl (by decide) (.slice an k cn) k (((objsOf o).take k).flatMap encObj) rfl (H2.out.1.alloc _) ⟨w2.heap.size, 0, none⟩ 1 1 [.string nm, .string dt] rfl rfl (news_of (heap_new w2 _)) (by simp [Value.oneCell']) (by simp only [maxLen]; omega) (by omega) (by simp; omega) ?_; intro v8 w8 hown8 hgrow8 hnil)
      clear hnil ct lt
      have kg := keeps_rowM hgrow8
      have hrowa := H2.out.1.alloc (.cells #[.string nm, .string dt] 28)
      have hinfa := H2.out.2.1.alloc (.cells #[.string nm, .string dt] 28)
      have hinf8 := kg.row hinfa (rows_neM hrowa hinfa (by decide))
      have hk8 : Keeps [] w w8 := keeps_grownM (H2.out.2.2.2.alloc _) hgrow8 Hvl.out
      have hown9 : w8.ownsRow w.heap.size 28 2 v8 (k + 1) (((objsOf o).take (k + 1)).flatMap encObj) := by
        rw [Hsn.out, List.flatMap_append]
        simpa [encObj] using hown8
      have H8 := Lib.hid (And.intro hown9 (And.intro hinf8 hk8))
      clear kg hrowa hinfa hinf8 hk8 hown9 hown8 hgrow8 Hvl H2
      go_wp2_with fail
      go_roundg ((listing o ⟨#[]⟩).length - (k + 1))
      case measure => have := Hg.out; omega
      case rel => exact ⟨k + 1, by omega, rfl, by go_num, H8.out.1, H8.out.2.1, H8.out.2.2⟩
    · have hkn : k = (listing o ⟨#[]⟩).length := by omega
      have hge : ¬ (k : Int) < ((listing o ⟨#[]⟩).length : Int) := by omega
      have hout2 : wr.ownsRow w.heap.size 28 2 (.slice an k cn) (objsOf o).length ((objsOf o).flatMap encObj) := by
        have h1 := hout
        rw [show (objsOf o).take k = objsOf o from List.take_of_length_le (by rw [objsOf_len]; omega), hkn] at h1
        rw [objsOf_len, hkn]
        exact h1
      have HE := Lib.hid (And.intro hout2 hkr)
      clear hout hinf hkr hout2 hkn
      go_wp2_with fail
      go_ret
      exact ⟨_, rfl, HE.out.1, HE.out.2⟩

def Fill19Post (w : World) (L : List ObjS) (e : Ending) (w' : World) : Prop :=
  ∃ b f c mb u, e = .returned (.tuple #[.pointer (some ⟨b, 0, none⟩), u]) ∧ BucketAt w' b f c mb false [] (fillN L L.length) ∧ w'.ownsRow w.heap.size 28 2 u (objsOf (fillN L L.length)).length ((objsOf (fillN L L.length)).flatMap encObj) ∧ Keeps [] w w' ∧ w.heap.size ≤ b ∧ w.heap.size ≤ f ∧ w.heap.size ≤ c ∧ w.heap.size ≤ mb

def FillRel19 (w w2 : World) (b f c mb g cg : Nat) (L : List ObjS) (gk : Nat) (u20 : Value) (wr : World) : Prop :=
  ∃ k, k ≤ L.length ∧ gk = L.length - k ∧ u20 = .int .i64 k ∧ BucketAt wr b f c mb false [] (fillN L k) ∧ wr.ownsRow w2.heap.size 28 2 (.slice (some ⟨g, 0, none⟩) L.length cg) L.length (L.flatMap encObj) ∧ Keeps [] w wr

theorem fill_bktOk {L : List ObjS} (hl : L.length ≤ 15) (hs : ∀ p ∈ L, p.1.size ≤ 40 ∧ p.2.size ≤ 5000) : BktOk (fillN L L.length) where
  len := by have := (fillN_ok L L.length).1; omega
  name := fun p hp => (hs _ ((fillN_ok L L.length).2 p hp).1).1
  data := fun n => by
    unfold obOr
    cases hl : look (fillN L L.length) n with
    | none => exact Nat.zero_le _
    | some x => have := (hs _ ((fillN_ok L L.length).2 _ (look_mem hl)).1).2; simp only [Option.getD_some] at this ⊢; omega

set_option linter.unusedSimpArgs false in
set_option maxRecDepth 100000 in
set_option maxHeartbeats 4000000 in
theorem filled19_spec (w : World) (v : Value) (O : List ThingL) (hO : SliceArg 13 encThing w v O) :
    Calls Tryz.prog 16 #[v] w (Fill19Post w (objsL (O.take 15))) := by
  obtain ⟨L, hL⟩ : ∃ L, L = objsL (O.take 15) := ⟨_, rfl⟩
  have hlo := objsL_ok (O.take 15)
  rw [← hL] at hlo ⊢
  have hl : L.length ≤ 15 := by have := hlo.1; rw [List.length_take] at this; omega
  have HO := Lib.hid hO
  have HLo := Lib.hid (And.intro hlo.2.2 hL)
  obtain ⟨av, cv, rfl, -, -⟩ := hO
  clear hlo hL
  go_enter Tryz.func16, Tryz.ntmps16
  go_wp2_with fail
  refine (newBucket_spec w).mono ?_
  rintro e w1 ⟨b, f, c, mb, rfl, hb1, hk1, l1, l2, l3, l4⟩
  have hlt1 := hb1.lt
  have cb := cells_at hb1.cells
  have lb := hlt1.1
  have Hob := Lib.hid (objects_spec w1 _ O (HO.out.keep hk1))
  rw [← HLo.out.2] at Hob
  have H1 := Lib.hid (And.intro hb1 hk1)
  clear hb1 hk1
  go_wp2_with fail
  clear cb lb
  refine Hob.out.mono ?_
  rintro e w2 ⟨g, cg, rfl, hobj, hk2⟩
  have H2 := Lib.hid (And.intro (hk2.keep_bucket H1.out.1) (And.intro hobj (H1.out.2.trans hk2)))
  clear hobj hk2 H1 Hob
  go_wp2_with fail
  go_loopg [20] L.length (FillRel19 w w1 b f c mb g cg L)
  case atStart => exact ⟨0, Nat.zero_le _, rfl, rfl, H2.out.1, H2.out.2.1, H2.out.2.2⟩
  case round =>
    obtain ⟨k, hk, hgk, rfl, hbk, hobj, hkr⟩ := hrel
    have Hg := Lib.hid hgk
    clear H2 hgk
    by_cases hlt : k < L.length
    · have hlt' : (k : Int) < (L.length : Int) := by omega
      obtain ⟨b6, of6, ea, hb6, hbl, hc6⟩ := (sliceFrom_row (enc := encObj) encObj_len hobj).atI k hlt
      injection ea with ea
      injection ea with e1 e2 _
      subst e1 e2
      have c0 : wr.cell? ⟨g, k * 2, none⟩ = some (.string L[k].1) := by simpa [encObj] using hc6 0 (by decide)
      have c1 : wr.cell? ⟨g, k * 2 + 1, none⟩ = some (.string L[k].2) := by simpa [encObj] using hc6 1 (by decide)
      have hsk := fillN_skip hlt
      have hpt := fillN_put hlt
      have hsz := (HLo.out.1 _ (List.getElem_mem hlt)).1
      obtain ⟨ob, hob⟩ : ∃ o, o = L[k] := ⟨_, rfl⟩
      rw [← hob] at c0 c1 hsk hpt hsz
      clear hob hc6
      obtain ⟨nm, dt⟩ := ob
      dsimp only at c0 c1 hsk hpt hsz
      have Hst := Lib.hid (And.intro hsk hpt)
      have ka : Keeps [] wr (wr.alloc (.cells #[.string nm, .string dt] 28)) := (Keeps.refl [] wr).alloc _
      have na := heap_new wr (.cells #[.string nm, .string dt] 28)
      obtain ⟨tb, htb⟩ : ∃ n, n = wr.heap.size := ⟨_, rfl⟩
      have hbt := hbk.lt
      have hbn : f ≠ tb ∧ c ≠ tb ∧ mb ≠ tb ∧ tb ≠ f ∧ tb ≠ c ∧ tb ≠ mb := by omega
      rw [← htb] at na
      have Htb := Lib.hid htb
      have H := Lib.hid (And.intro (ka.keep_bucket hbk) (And.intro (ka.row hobj (by simp)) (And.intro na (hkr.trans ka))))
      clear hsk hpt ka na htb hbk hobj hkr hbt
      go_upto_region 7 with fail
      clear c0 c1
      rw [← Htb.out]
      clear Htb
      generalize wr.alloc (.cells #[.string nm, .string dt] 28) = W3 at H ⊢
      have ct := cells_at H.out.2.2.1
      have lt := lt_of_at H.out.2.2.1
      by_cases h0 : nm.size = 0
      · have hne : (nm.toList != []) = false := by
          have : nm.data.toList = [] := List.eq_nil_of_length_eq_zero (by rw [dsize]; exact h0)
          rw [ByteArray.toList_eq, this]
          rfl
        have hst := Hst.out.1 h0
        have Hs2 := Lib.hid hst
        obtain ⟨z1, z2⟩ := is_empty h0
        clear hst
        go_wp2_with fail
        refine (put_bad W3 b nm dt _ (.inl h0)).mono ?_
        rintro e w4 ⟨rfl, hk4⟩
        have nt4 := hk4.at_ H.out.2.2.1 (by simp)
        have ct4 := cells_at nt4
        have lt4 := lt_of_at nt4
        have H4 := Lib.hid (And.intro (hk4.keep_bucket H.out.1) (And.intro (hk4.row H.out.2.1 (by simp)) (H.out.2.2.2.trans hk4)))
        clear hk4 nt4 ct lt H
        go_wp2_with fail
        go_roundg (L.length - (k + 1))
        case measure => have := Hg.out; omega
        case rel => exact ⟨k + 1, by omega, rfl, by go_num, by rw [Hs2.out]; exact H4.out.1, H4.out.2.1, H4.out.2.2⟩
      · have hst := Hst.out.2 h0
        have Hs2 := Lib.hid hst
        have Hpt := Lib.hid (put_spec W3 b f c mb false [] (fillN L k) H.out.1 nm dt k h0 hsz)
        clear hst
        go_wp2_with fail
        refine Hpt.out.mono ?_
        rintro e w4 ⟨rfl, hb4, hk4⟩
        have hb4' : BucketAt w4 b f c mb false [] (put (fillN L k) nm (dt, (k : Int))) := hb4
        have hio0 : ioErr [] = 0 := rfl
        have hrow4 := hk4.row H.out.2.1 (fun g2 hg2 hm => by
          have h1 := (World.ownsRow.lt H.out.2.1 g2 hg2).1
          simp only [List.mem_cons, List.not_mem_nil, or_false] at hm
          omega)
        have hkw4 : Keeps [] w w4 := H.out.2.2.2.after hk4 (fun x hx => .inr (by simp only [List.mem_cons, List.not_mem_nil, or_false] at hx; omega))
        have H4 := Lib.hid (And.intro hb4' (And.intro hrow4 hkw4))
        rw [hio0]
        clear hb4 hb4' hk4 hio0 hrow4 hkw4 ct lt Hpt H
        go_wp2_with fail
        go_roundg (L.length - (k + 1))
        case measure => have := Hg.out; omega
        case rel => exact ⟨k + 1, by omega, rfl, by go_num, by rw [Hs2.out]; exact H4.out.1, H4.out.2.1, H4.out.2.2⟩
    · obtain rfl : k = L.length := by omega
      have hge : ¬ (L.length : Int) < (L.length : Int) := by omega
      have Hoo := Lib.hid (objects19_spec wr b f c mb false [] (fillN L L.length) hbk (fill_bktOk hl HLo.out.1))
      have HE := Lib.hid (And.intro hbk hkr)
      clear hlt hobj hbk hkr
      go_wp2_with fail
      refine Hoo.out.mono ?_
      rintro e w5 ⟨u, rfl, hu, hk5⟩
      have H5 := Lib.hid (And.intro (hk5.keep_bucket HE.out.1) (And.intro (row_base hu HE.out.2.size) (HE.out.2.trans hk5)))
      clear hu hk5 Hoo
      go_wp2_with fail
      go_ret2
      exact ⟨b, f, c, mb, u, rfl, H5.out.1, H5.out.2.1, H5.out.2.2, l1, l2, l3, l4⟩
end Go.Proofs.YtjffdcflkkgpfaaGreat

namespace Go.Proofs.YtjffdcflkkgpfaaGreat
open Go Go.RowKit Go.Conc

/-- The objects that were got, of the first k listed. -/
def gotF (G : List (ByteArray × ByteArray)) (p : ByteArray × Ob) : Option ObjS := (look G p.1).map fun d => (p.1, d)

def gotN (S : ScanS) (k : Nat) : List ObjS := (S.infos.take k).filterMap (gotF S.got)

structure ScanOk (S : ScanS) : Prop where
  nodup : (S.infos.map (·.1)).Nodup
  in_ : ∀ n d, look S.got n = some d → n ∈ S.infos.map (·.1)
  len : S.infos.length ≤ 20
  data : ∀ n d, look S.got n = some d → d.size ≤ 5000
  names : ∀ p ∈ S.infos, p.1.size ≤ 1000

theorem gotN_none {S : ScanS} {k : Nat} (h : k < S.infos.length) (hn : look S.got S.infos[k].1 = none) : gotN S (k + 1) = gotN S k := by
  unfold gotN
  rw [List.take_succ_eq_append_getElem h, List.filterMap_append]
  simp [gotF, hn]

theorem gotN_some {S : ScanS} {k : Nat} (h : k < S.infos.length) {d : ByteArray} (hn : look S.got S.infos[k].1 = some d) : gotN S (k + 1) = gotN S k ++ [(S.infos[k].1, d)] := by
  unfold gotN
  rw [List.take_succ_eq_append_getElem h, List.filterMap_append]
  simp [gotF, hn]

theorem gotN_len (S : ScanS) (k : Nat) : (gotN S k).length ≤ k := by
  unfold gotN
  refine Nat.le_trans (List.length_filterMap_le _ _) ?_
  rw [List.length_take]
  omega

theorem look_got {G : List (ByteArray × ByteArray)} {n : ByteArray} : ∀ {I : List (ByteArray × Ob)}, (I.map (·.1)).Nodup → (n ∈ I.map (·.1) → look (I.filterMap (gotF G)) n = look G n) ∧ (n ∉ I.map (·.1) → look (I.filterMap (gotF G)) n = none)
  | [], _ => ⟨fun h => by simp at h, fun _ => rfl⟩
  | (x, y) :: I, hn => by
    rw [List.map_cons, List.nodup_cons] at hn
    have ih := look_got (n := n) (G := G) hn.2
    cases hx : look G x with
    | none =>
      have e : ((x, y) :: I).filterMap (gotF G) = I.filterMap (gotF G) := List.filterMap_cons_none (by simp [gotF, hx])
      rw [e]
      refine ⟨fun hm => ?_, fun hm => ih.2 (fun h => hm (by simp [h]))⟩
      by_cases en : n = x
      · subst en
        rw [ih.2 hn.1, hx]
      · exact ih.1 (by simpa [en] using hm)
    | some d =>
      have e : ((x, y) :: I).filterMap (gotF G) = (x, d) :: I.filterMap (gotF G) := List.filterMap_cons_some (by simp [gotF, hx])
      rw [e]
      have e2 : look ((x, d) :: I.filterMap (gotF G)) n = if n = x then some d else look (I.filterMap (gotF G)) n := rfl
      rw [e2]
      by_cases en : n = x
      · subst en
        rw [if_pos rfl]
        exact ⟨fun _ => hx.symm, fun hm => absurd (by simp) hm⟩
      · rw [if_neg en]
        refine ⟨fun hm => ih.1 (by simpa [en] using hm), fun hm => ih.2 (fun h => hm (by simp [h]))⟩

theorem ScanOk.look {S : ScanS} (h : ScanOk S) (n : ByteArray) : look (gotN S S.infos.length) n = Go.Proofs.YtjffdcflkkgpfaaGreat.look S.got n := by
  have hg := look_got (n := n) (G := S.got) h.nodup
  unfold gotN
  rw [List.take_length]
  cases hl : Go.Proofs.YtjffdcflkkgpfaaGreat.look S.got n with
  | some d => rw [hg.1 (h.in_ n d hl), hl]
  | none =>
    by_cases hm : n ∈ S.infos.map (·.1)
    · rw [hg.1 hm, hl]
    · exact hg.2 hm

theorem ScanOk.nodupL {S : ScanS} (h : ScanOk S) : ((gotN S S.infos.length).map (fun o : ObjS => o.1)).Nodup := by
  have key : ∀ I : List (ByteArray × Ob), (I.map (·.1)).Nodup → ((I.filterMap (gotF S.got)).map (fun o : ObjS => o.1)).Nodup ∧ ∀ n ∈ (I.filterMap (gotF S.got)).map (fun o : ObjS => o.1), n ∈ I.map (·.1) := by
    intro I
    induction I with
    | nil => intro _; exact ⟨by simp, by simp⟩
    | cons p I ih =>
      intro hn
      rw [List.map_cons, List.nodup_cons] at hn
      obtain ⟨h1, h2⟩ := ih hn.2
      cases hx : Go.Proofs.YtjffdcflkkgpfaaGreat.look S.got p.1 with
      | none =>
        rw [List.filterMap_cons_none (by simp [gotF, hx])]
        exact ⟨h1, fun n hm => by simp only [List.map_cons, List.mem_cons]; exact .inr (h2 n hm)⟩
      | some d =>
        rw [List.filterMap_cons_some (b := (p.1, d)) (by simp [gotF, hx])]
        refine ⟨?_, fun n hm => ?_⟩
        · rw [List.map_cons, List.nodup_cons]
          exact ⟨fun hm => hn.1 (h2 _ hm), h1⟩
        · rw [List.map_cons, List.mem_cons] at hm
          simp only [List.map_cons, List.mem_cons]
          rcases hm with hm | hm
          · exact .inl hm
          · exact .inr (h2 n hm)
  unfold gotN
  rw [List.take_length]
  exact (key _ h.nodup).1

theorem gotN_mem {S : ScanS} {k : Nat} {o : ObjS} (h : o ∈ gotN S k) : ∃ p ∈ S.infos, p.1 = o.1 ∧ look S.got o.1 = some o.2 := by
  unfold gotN at h
  obtain ⟨p, hp, he⟩ := List.mem_filterMap.1 h
  unfold gotF at he
  obtain ⟨d, hd, rfl⟩ := Option.map_eq_some_iff.1 he
  exact ⟨p, List.mem_of_mem_take hp, rfl, hd⟩

theorem ScanOk.sizes {S : ScanS} (h : ScanOk S) (k : Nat) : ∀ o ∈ gotN S k, o.1.size ≤ 1000 ∧ o.2.size ≤ 5000 := fun o ho => by
  obtain ⟨p, hp, e, hl⟩ := gotN_mem ho
  exact ⟨by rw [← e]; exact h.names p hp, h.data _ _ hl⟩

theorem ScanOk.bytes {S : ScanS} (h : ScanOk S) (n : ByteArray) : bytesO (gotN S S.infos.length) n = bytesO S.got n := by unfold bytesO; rw [h.look]

/-- The closure's ground: the box, the scan, its map. -/
def BoxAt (w : World) (xb q gb : Nat) (c0 c1 vi vw : Value) (G : List (ByteArray × ByteArray)) : Prop := w.heap[xb]? = some (.cells #[.pointer (some ⟨q, 0, none⟩)] 56 (0, 0)) ∧ w.heap[q]? = some (.cells #[c0, c1, vi, vw, .map (some gb)] 118 (0, 0)) ∧ MapAt w gb (encMap Value.string G)

theorem BoxAt.same {w w' : World} {xb q gb : Nat} {c0 c1 vi vw : Value} {G : List (ByteArray × ByteArray)} (h : BoxAt w xb q gb c0 c1 vi vw G) (k : Keeps [] w w') : BoxAt w' xb q gb c0 c1 vi vw G := ⟨k.at_ h.1 (by simp), k.at_ h.2.1 (by simp), h.2.2.keep k (by simp)⟩

set_option linter.unusedSimpArgs false in
theorem lookS_spec (w : World) (xb q gb : Nat) (c0 c1 vi vw : Value) (G : List (ByteArray × ByteArray)) (n : ByteArray) (h : BoxAt w xb q gb c0 c1 vi vw G) :
    Calls Tryz.prog 65 #[.string n, .pointer (some ⟨xb, 0, none⟩)] w fun e w' => (∃ ok, e = .returned (.tuple #[.string (bytesO G n), .bool ok])) ∧ w' = w := by
  have hrl := h.2.2.run_lookup (P := Tryz.prog) Tryz.underlying26 Tryz.underlying9 (zeroStrO _) n true
  rw [show lookVal (encMap Value.string G) n (.string ⟨#[]⟩) true = .tuple #[.string (bytesO G n), .bool (look G n).isSome] from lookVal_str G n] at hrl
  have cb := cells_at h.1
  have lb := lt_of_at h.1
  have cq := cells_at h.2.1
  have lq := lt_of_at h.2.1
  have l0 := lt_more lq
  clear h
  go_enter Tryz.func65, Tryz.ntmps65
  go_wp2_with fail
  go_ret2
  exact ⟨⟨_, rfl⟩, rfl⟩

def LstRelS (w : World) (S : ScanS) (xb rb q : Nat) (gk : Nat) (u3 u13 : Value) (wr : World) : Prop :=
  ∃ k, k ≤ S.infos.length ∧ gk = S.infos.length - k ∧ u13 = .int .i64 k ∧ wr.ownsRow w.heap.size 9 1 u3 (gotN S k).length (((gotN S k).map (·.1)).flatMap encS1m) ∧ wr.heap[xb]? = some (.cells #[.pointer (some ⟨q, 0, none⟩)] 56 (0, 0)) ∧ wr.heap[rb]? = some (.cells #[.int .i64 0, .slice none 0 0, .map none] 32 (0, 0)) ∧ Keeps [] w wr


set_option linter.unusedSimpArgs false in
set_option maxRecDepth 100000 in
set_option maxHeartbeats 4000000 in
theorem scanLst_spec {X : Nat} (w : World) (B q gb : Nat) (S : ScanS) (h : ScanAt X w B q gb S) (ok : ScanOk S) (hv : LibVar w) (tn : Nat) (htn : max S.tick 0 = (tn : Int)) :
    Calls Tryz.prog 27 #[.pointer (some ⟨q, 0, none⟩)] w (NewLPost w.heap.size w tn ((ofN (gotN S S.infos.length) (gotN S S.infos.length).length).map (·.1)) (marksOf (ofN (gotN S S.infos.length) (gotN S S.infos.length).length))) := by
  obtain ⟨LF, hLF⟩ : ∃ L, L = gotN S S.infos.length := ⟨_, rfl⟩
  have hnd := ok.nodupL
  have hsz := ok.sizes S.infos.length
  have hby := ok.bytes
  have hlen := gotN_len S S.infos.length
  rw [← hLF] at hnd hsz hby hlen ⊢
  have HLF := Lib.hid (And.intro hLF (And.intro hnd (And.intro hsz hby)))
  obtain ⟨-, -, B1, vi, vw, -, -, hq, hsi, -, hmp, -⟩ := h
  obtain ⟨ist, his, hzs0, hzs1, hzs2⟩ := info_parts infoStrM
  have HS := Lib.hid hsi
  obtain ⟨ai, ci, rfl, -, -, -, -⟩ := hsi
  have hil := ok.len
  have HQ := Lib.hid (And.intro hq (And.intro hmp (And.intro hv ok)))
  obtain ⟨xb, hxb⟩ : ∃ n, n = w.heap.size := ⟨_, rfl⟩
  obtain ⟨rb, hrb⟩ : ∃ n, n = w.heap.size + 1 := ⟨_, rfl⟩
  have n0 := new2 w (.cells #[.pointer (some ⟨q, 0, none⟩)] 56) (.cells #[.int .i64 0, .slice none 0 0, .map none] 32)
  have k0 : Keeps [] w ((w.alloc (.cells #[.pointer (some ⟨q, 0, none⟩)] 56)).alloc (.cells #[.int .i64 0, .slice none 0 0, .map none] 32)) := ((Keeps.refl [] w).alloc _).alloc _
  have hw0 : w.heap.size ≤ xb ∧ w.heap.size ≤ rb ∧ xb ≠ rb := by omega
  have HB := Lib.hid (And.intro hxb hrb)
  have H0 := Lib.hid (And.intro n0.1 (And.intro n0.2 k0))
  clear n0 k0 hxb hrb hq hmp hv ok hLF hnd hsz hby
  go_enter Tryz.func27, Tryz.ntmps27
  go_upto_region 1 with fail
  rw [← HB.out.2] at H0 ⊢
  rw [← HB.out.1] at H0 ⊢
  generalize (w.alloc (.cells #[.pointer (some ⟨q, 0, none⟩)] 56)).alloc (.cells #[.int .i64 0, .slice none 0 0, .map none] 32) = W0 at H0 ⊢
  have cx := cells_at H0.out.1
  have lx := lt_of_at H0.out.1
  have nq := H0.out.2.2.at_ HQ.out.1 (by simp)
  have cq := cells_at nq
  have lq := lt_of_at nq
  have lqm := lt_more lq
  go_wp2_with fail
  clear cx lx nq cq lq lqm
  go_loopg [3, 13] S.infos.length (LstRelS w S xb rb q)
  case atStart => exact ⟨0, Nat.zero_le _, rfl, rfl, by simpa [gotN] using World.ownsRow_nil W0 w.heap.size _ 1, H0.out.1, H0.out.2.1, H0.out.2.2⟩
  case round =>
    obtain ⟨k, hk, hgk, rfl, hrow, hxb, hrb, hkr⟩ := hrel
    have Hg := Lib.hid hgk
    clear H0 hgk
    obtain ⟨an, cn, rfl, -, -, -⟩ := row_slice hrow
    have hgl := gotN_len S k
    by_cases hlt : k < S.infos.length
    · have hlt' : (k : Int) < (S.infos.length : Int) := by omega
      obtain ⟨b6, of6, ea, -, hb6w, hc6w⟩ := HS.out.atI k hlt
      subst ea
      have hb6 := hkr.lt hb6w
      have c6 : ∀ j, j < 3 → wr.cell? ⟨b6, of6 + (k * 3 + j), none⟩ = (infoOf S.infos[k])[j]? := fun j hj => (hkr.cell hb6w (by simp)).trans (hc6w j hj)
      have hno := gotN_none hlt
      have hye := fun d => gotN_some hlt (d := d)
      obtain ⟨p, hp⟩ : ∃ p, p = S.infos[k] := ⟨_, rfl⟩
      rw [← hp] at c6 hno hye
      clear hp hc6w hb6w
      obtain ⟨nm, dz, z2⟩ := p
      dsimp only at hno hye
      obtain ⟨z1, hz1⟩ : ∃ z : Int, z = (dz.size : Int) := ⟨_, rfl⟩
      have d0 : wr.cell? ⟨b6, of6 + k * 3, none⟩ = some (.string nm) := c6 0 (by decide)
      have d1 : wr.cell? ⟨b6, of6 + k * 3 + 1, none⟩ = some (.int .i64 z1) := by rw [hz1]; exact c6 1 (by decide)
      have d2 : wr.cell? ⟨b6, of6 + k * 3 + 2, none⟩ = some (.int .i64 z2) := c6 2 (by decide)
      have Hst := Lib.hid (And.intro hno hye)
      have ka : Keeps [] wr (wr.alloc (.cells #[.string nm, .int .i64 z1, .int .i64 z2] 135)) := (Keeps.refl [] wr).alloc _
      have na := heap_new wr (.cells #[.string nm, .int .i64 z1, .int .i64 z2] 135)
      obtain ⟨tb, htb⟩ : ∃ n, n = wr.heap.size := ⟨_, rfl⟩
      rw [← htb] at na
      have Htb := Lib.hid htb
      have H := Lib.hid (And.intro (ka.row hrow (by simp)) (And.intro (ka.at_ hxb (by simp)) (And.intro (ka.at_ hrb (by simp)) (And.intro na (hkr.trans ka)))))
      clear hno hye hz1 c6 ka na htb hrow hxb hrb hkr
      go_upto_region 5 with fail
      clear d0 d1 d2
      rw [← Htb.out]
      clear Htb
      generalize wr.alloc (.cells #[.string nm, .int .i64 z1, .int .i64 z2] 135) = W1 at H ⊢
      have ct := cells_at H.out.2.2.2.1
      have lt := lt_of_at H.out.2.2.2.1
      have cx := cells_at H.out.2.1
      have lx := lt_of_at H.out.2.1
      have nq := H.out.2.2.2.2.at_ HQ.out.1 (by simp)
      have cq := cells_at nq
      have lq := lt_of_at nq
      have lqm := lt_more lq
      have hmp1 := HQ.out.2.1.keep H.out.2.2.2.2 (by simp)
      have hrl : ∀ m, (Instr.lookup 26 (.map (some gb)) (.string nm) true).run Tryz.prog (W1.drewN m) = .ok (.tuple #[.string (bytesO S.got nm), .bool (look S.got nm).isSome]) (W1.drewN m) := fun m => by
        have h1 := (hmp1.drewN m).run_lookup (P := Tryz.prog) Tryz.underlying26 Tryz.underlying9 (zeroStrO _) nm true
        rw [show lookVal (encMap Value.string S.got) nm (.string ⟨#[]⟩) true = .tuple #[.string (bytesO S.got nm), .bool (look S.got nm).isSome] from lookVal_str S.got nm] at h1
        exact h1
      clear nq hmp1
      go_quiet (fail)
      rename_i nq
      have kq : Keeps [] W1 (W1.drewN nq) := (Keeps.refl [] W1).drewN nq
      have H2 := Lib.hid (And.intro (kq.row H.out.1 (by simp)) (And.intro (kq.at_ H.out.2.1 (by simp)) (And.intro (kq.at_ H.out.2.2.1 (by simp)) (And.intro (kq.at_ H.out.2.2.2.1 (by simp)) (H.out.2.2.2.2.trans kq)))))
      clear ct lt cx lx cq lq lqm hrl kq H
      generalize W1.drewN nq = W2 at H2 ⊢
      cases hlk : look S.got nm with
      | none =>
        have hst := Hst.out.1 hlk
        have Hs2 := Lib.hid hst
        simp only [Option.isSome_none]
        clear hst hlk
        go_wp2_with fail
        go_roundg (S.infos.length - (k + 1))
        case measure => have := Hg.out; omega
        case rel => exact ⟨k + 1, by omega, rfl, by go_num, by rw [Hs2.out]; exact H2.out.1, H2.out.2.1, H2.out.2.2.1, H2.out.2.2.2.2⟩
      | some d =>
        have hst := Hst.out.2 d hlk
        have Hs2 := Lib.hid hst
        simp only [Option.isSome_some]
        have ct := cells_at H2.out.2.2.2.1
        have lt := lt_of_at H2.out.2.2.2.1
        have hwz := H2.out.2.2.2.2.size
        have hvl : ∀ g, (Value.slice an (gotN S k).length cn).ownBlock = some g → w.heap.size ≤ g := fun g hg => (World.ownsRow.lt H2.out.1 g hg).1
        have Hvl := Lib.hid hvl
        clear hst hlk hvl
        go_upto_region 8 with (at_builtin; refine wpList_append_own _ rfl (.tmp 28) (.tmp 31) 25 rfl w.heap.size 9 ist _ 1 16 Tryz.underlying25 his hzs0 hzs1 hzs2 rfl (by decide) (.slice an (gotN S k).length cn) (gotN S k).length (((gotN S k).map (·.1)).flatMap encS1m) rfl (H2.out.1.alloc _) ⟨W2.heap.size, 0, none⟩ 1 1 [.string nm] rfl rfl (news_of (heap_new W2 _)) (by simp [Value.oneCell']) (by simp only [maxLen]; omega) (by omega) (by simp; omega) ?_; intro v8 w8 hown8 hgrow8 hnil)
        clear hnil ct lt
        have ka : Keeps [] W2 (W2.alloc (.cells #[.string nm] 9)) := (Keeps.refl [] W2).alloc _
        have kg := keeps_rowM hgrow8
        have hrowa := H2.out.1.alloc (.cells #[.string nm] 9)
        have hxa := ka.at_ H2.out.2.1 (by simp)
        have hra := ka.at_ H2.out.2.2.1 (by simp)
        have nx8 := kg.at_ hxa (row_ne_typeM hrowa hxa (by decide))
        have nr8 := kg.at_ hra (row_ne_typeM hrowa hra (by decide))
        have hk8 : Keeps [] w w8 := keeps_grownM (H2.out.2.2.2.2.alloc _) hgrow8 Hvl.out
        have hown9 : w8.ownsRow w.heap.size 9 1 v8 (gotN S (k + 1)).length (((gotN S (k + 1)).map (·.1)).flatMap encS1m) := by
          rw [Hs2.out, List.map_append, List.flatMap_append, List.length_append]
          simpa [encS1m] using hown8
        have H8 := Lib.hid (And.intro hown9 (And.intro nx8 (And.intro nr8 hk8)))
        clear ka kg hrowa hxa hra nx8 nr8 hk8 hown9 hown8 hgrow8 Hvl H2
        go_wp2_with fail
        go_roundg (S.infos.length - (k + 1))
        case measure => have := Hg.out; omega
        case rel => exact ⟨k + 1, by omega, rfl, by go_num, H8.out.1, H8.out.2.1, H8.out.2.2.1, H8.out.2.2.2⟩
    · obtain rfl : k = S.infos.length := by omega
      have hge : ¬ (S.infos.length : Int) < (S.infos.length : Int) := by omega
      rw [← HLF.out.1] at hrow hgl ⊢
      have hns : SliceArg 1 encS1m wr (.slice an LF.length cn) (LF.map (·.1)) := by
        have h1 : wr.ownsRow w.heap.size 9 1 (.slice an LF.length cn) (LF.map (·.1)).length ((LF.map (·.1)).flatMap encS1m) := by
          rw [List.length_map]; exact hrow
        exact (sliceFrom_row (enc := encS1m) (fun _ => rfl) h1).arg
      have hbox : BoxAt wr xb q gb (.bool S.begun) (.int .i64 S.tick) (.slice ai S.infos.length ci) vw S.got := ⟨hxb, hkr.at_ HQ.out.1 (by simp), HQ.out.2.1.keep hkr (by simp)⟩
      have Hof := Lib.hid (listOfG_spec wr tn (.slice an LF.length cn) LF 65 (.pointer (some ⟨xb, 0, none⟩)) ⟨_, Tryz.func65, by kernel_rfl, by kernel_rfl⟩ (HQ.out.2.2.1.same hkr) hns (fun W hk n => by have h1 := lookS_spec W xb q gb _ _ _ _ S.got n (hbox.same hk); rw [← HLF.out.2.2.2 n] at h1; exact h1) HLF.out.2.2.1 (by omega) HLF.out.2.1)
      have HE := Lib.hid (And.intro hrb hkr)
      have cx := cells_at hxb
      have lx := lt_of_at hxb
      have nq := hkr.at_ HQ.out.1 (by simp)
      have cq := cells_at nq
      have lq := lt_of_at nq
      have lqm := lt_more lq
      have hrlt := lt_of_at hrb
      have hwz := hkr.size
      clear hlt hrow hns hbox hxb hrb hkr nq
      go_wp2_with fail
      clear cx lx cq lq lqm
      refine Hof.out.mono ?_
      rintro e w2 ⟨L', vm, mb2, rfl, hp, hr, hm2, hmp2, hmb2, hk2⟩
      have nr := hk2.at_ HE.out.1 (by simp)
      have H3 := Lib.hid (And.intro nr (And.intro hp (And.intro hr (And.intro hm2 (And.intro hmp2 (HE.out.2.trans hk2))))))
      obtain ⟨am, cm, rfl⟩ := hm2.form
      have cr := cells_at nr
      have fr := free_at nr
      have lr := lt_of_at nr
      clear nr hp hr hm2 hmp2 hk2
      go_wp2_with fail
      have se := set3 (v0 := .int .i64 tn) (v1 := .slice am L'.length cm) (v2 := .map (some mb2)) H3.out.1
      have hc := cells_at se.1
      have hlr := lt_of_at se.1
      refine bodyPost_ret (v := .agg #[.int .i64 tn, .slice am L'.length cm, .map (some mb2)]) ?_ rfl ⟨L', .slice am L'.length cm, mb2, rfl, H3.out.2.1, H3.out.2.2.1, (H3.out.2.2.2.1.keep se.2 (by simp only [List.mem_singleton]; rintro x rfl; omega)).low (by omega), H3.out.2.2.2.2.1.keep se.2 (by simp; omega), by omega, H3.out.2.2.2.2.2.after se.2 (fun x hx => .inr (by simp only [List.mem_singleton] at hx; omega))⟩
      simp [results, Tryz.results27, go_sem, hc, hlr]
end Go.Proofs.YtjffdcflkkgpfaaGreat

namespace Go.Proofs.YtjffdcflkkgpfaaGreat
open Go Go.RowKit Go.Conc
open Go.Op (bytesLess)

def UpdAt (w : World) (ub q : Nat) (p : Bool) : Prop := w.heap[ub]? = some (.cells #[.pointer (some ⟨q, 0, none⟩), .bool p] 80 (0, 0))

set_option linter.unusedSimpArgs false in
set_option maxRecDepth 100000 in
set_option maxHeartbeats 1000000 in
theorem newUpdate_spec (w : World) : Calls Tryz.prog 17 #[] w fun e w' => ∃ ub q gb, e = .returned (.pointer (some ⟨ub, 0, none⟩)) ∧ UpdAt w' ub q false ∧ ScanAt (ub + 1) w' w.heap.size q gb scan0 ∧ Keeps [] w w' ∧ w.heap.size ≤ ub ∧ ub ≠ q ∧ ub ≠ gb := by
  go_enter Tryz.func17, Tryz.ntmps17
  go_wp2_with fail
  refine (scanNew_spec w).mono ?_
  rintro e w1 ⟨q, gb, rfl, hS, hk⟩
  have hlt := hS.lt
  have hwz := hk.size
  have ka : Keeps [] w1 (w1.alloc (.cells #[.pointer (some ⟨q, 0, none⟩), .bool false] 80)) := (Keeps.refl [] w1).alloc _
  have na := heap_new w1 (.cells #[.pointer (some ⟨q, 0, none⟩), .bool false] 80)
  have hz : (w1.alloc (.cells #[.pointer (some ⟨q, 0, none⟩), .bool false] 80)).heap.size = w1.heap.size + 1 := by simp
  have hS2 : ScanAt (w1.heap.size + 1) (w1.alloc (.cells #[.pointer (some ⟨q, 0, none⟩), .bool false] 80)) w.heap.size q gb scan0 := (hS.same ka).up (by omega)
  have H := Lib.hid (And.intro na (And.intro hS2 (hk.trans ka)))
  clear hS hk ka na hz hS2
  go_wp2_with fail
  go_ret
  exact ⟨w1.heap.size, q, gb, rfl, H.out.1, H.out.2.1, H.out.2.2, hwz, by omega, by omega⟩

set_option linter.unusedSimpArgs false in
set_option maxRecDepth 100000 in
set_option maxHeartbeats 1000000 in
theorem updDone_spec (w : World) (ub q : Nat) (p : Bool) (h : UpdAt w ub q p) : Calls Tryz.prog 18 #[.pointer (some ⟨ub, 0, none⟩)] w fun e w' => e = .returned (.bool p) ∧ w = w' := by
  have cu := cells_at h
  have lu := lt_of_at h
  have lm := lt_more lu
  clear h
  go_enter Tryz.func18, Tryz.ntmps18
  go_wp2_with fail
  go_ret
  exact ⟨rfl, rfl⟩

set_option linter.unusedSimpArgs false in
set_option maxRecDepth 100000 in
set_option maxHeartbeats 4000000 in
theorem updIdle_spec (w : World) (ub q : Nat) (vb : Value) (now pat : Int) (h : UpdAt w ub q true) : Calls Tryz.prog 19 #[.pointer (some ⟨ub, 0, none⟩), vb, .int .i64 now, .int .i64 pat] w fun e w' => e = .returned (.int .i64 17) ∧ w = w' := by
  have cu := cells_at h
  have lu := lt_of_at h
  have lm := lt_more lu
  clear h
  go_enter Tryz.func19, Tryz.ntmps19
  go_wp2_with fail
  go_ret
  exact ⟨rfl, rfl⟩

set_option linter.unusedSimpArgs false in
set_option maxRecDepth 100000 in
set_option maxHeartbeats 4000000 in
theorem updScan_spec {X : Nat} (w : World) (ub q gb b B : Nat) (S : ScanS) (now pat err : Int) (R : World → Prop) (hu : UpdAt w ub q false) (hS : ScanAt X w B q gb S) (hnd : (S.begun && S.wait.isEmpty) = false)
    (hst : S.begun = true → IntKind.i64.wrap (now - S.tick) = now - S.tick ∧ now - S.tick ≤ pat)
    (hstep : Calls Tryz.prog 25 #[.pointer (some ⟨q, 0, none⟩), .pointer (some ⟨b, 0, none⟩), .int .i64 now] w fun e w' => e = .returned (.int .i64 err) ∧ R w') :
    Calls Tryz.prog 19 #[.pointer (some ⟨ub, 0, none⟩), .pointer (some ⟨b, 0, none⟩), .int .i64 now, .int .i64 pat] w fun e w' => e = .returned (.int .i64 err) ∧ R w' := by
  have Hd := Lib.hid (scanDone_spec w B q gb S hS)
  rw [hnd] at Hd
  have Hst := Lib.hid hstep
  have cu := cells_at hu
  have lu := lt_of_at hu
  have lm := lt_more lu
  obtain ⟨-, -, B1, vi, vw, -, -, hq, -, -, -, -⟩ := hS
  have cq := cells_at hq
  have lq := lt_of_at hq
  have lqm := lt_more lq
  clear hu hq hnd hstep
  obtain ⟨bg, tick, infos, wait, got⟩ := S
  dsimp only at hst cq
  cases bg with
  | false =>
    clear hst
    go_enter Tryz.func19, Tryz.ntmps19
    go_wp2_with fail
    refine Hd.out.mono ?_
    rintro e w1 ⟨rfl, rfl⟩
    go_wp2_with fail
    refine Hst.out.mono ?_
    rintro e w2 ⟨rfl, hR⟩
    have HR := Lib.hid hR
    clear hR cu lu lm cq lq lqm
    go_wp2_with fail
    go_ret
    exact ⟨rfl, HR.out⟩
  | true =>
    obtain ⟨hs1, hs⟩ := hst rfl
    have hs2 : ¬ now - tick > pat := by omega
    have hs3 : decide (now - tick > pat) = false := by rw [decide_eq_false_iff_not]; omega
    clear hst hs
    go_enter Tryz.func19, Tryz.ntmps19
    go_wp2_with fail
    refine Hd.out.mono ?_
    rintro e w1 ⟨rfl, rfl⟩
    go_wp2_with fail
    refine Hst.out.mono ?_
    rintro e w2 ⟨rfl, hR⟩
    have HR := Lib.hid hR
    clear hR cu lu lm cq lq lqm
    go_wp2_with fail
    go_ret
    exact ⟨rfl, HR.out⟩

def gotS (S : ScanS) : List ObjS := gotN S S.infos.length

def blksS (S : ScanS) : List BlkS := ofN (gotS S) (gotS S).length

/-- The bytes of the listing that a scan found. -/
def encU (S : ScanS) (tn : Nat) : ByteArray := ⟨(frameL 3 (lstL tn ((sortT (blksS S)).map (·.1)) (marksOf (blksS S)))).toArray⟩

theorem ScanOk.of {S : ScanS} (h : ScanOk S) {tn : Nat} (ht : tn ≤ 1099511627776) : OfOk tn (blksS S) (sortT (blksS S)) := ofOk h.nodupL (by have := gotN_len S S.infos.length; have := h.len; show (gotN S S.infos.length).length ≤ 20; omega) ht

set_option linter.unusedSimpArgs false in
set_option maxRecDepth 100000 in
set_option maxHeartbeats 4000000 in
theorem updPut_spec (w : World) (ub q gb b f c mb B : Nat) (armed : Bool) (Q : List (Int × Bool)) (o : List (ByteArray × Ob)) (S : ScanS) (now pat : Int) (tn : Nat) (hb : BucketAt w b f c mb armed Q o) (hu : UpdAt w ub q false) (hS : ScanAt (ub + 1) w B q gb S) (ok : ScanOk S) (hv : LibVar w)
    (hbg : S.begun = true) (hwt : S.wait = []) (hst : IntKind.i64.wrap (now - S.tick) = now - S.tick ∧ now - S.tick ≤ pat) (htn : max S.tick 0 = (tn : Int)) (htl : tn ≤ 1099511627776) (hne : ub ≠ q ∧ ub ≠ gb ∧ ub ≠ f ∧ ub ≠ c ∧ ub ≠ mb ∧ b ≠ ub) (hlow : b < B ∧ f < B ∧ c < B ∧ mb < B) :
    Calls Tryz.prog 19 #[.pointer (some ⟨ub, 0, none⟩), .pointer (some ⟨b, 0, none⟩), .int .i64 now, .int .i64 pat] w fun e w' => e = .returned (.int .i64 (ioErr Q)) ∧ UpdAt w' ub q (ioErr Q == 0) ∧ ScanAt (ub + 1) w' B q gb S ∧ BucketAt w' b f c mb (tryArmed Q) (tryQ Q) (chg Q o (put o indexB (encU S tn, now))) ∧ Keeps [f, c, mb, ub] w w' := by
  obtain ⟨er, her⟩ : ∃ x, x = ioErr Q := ⟨_, rfl⟩
  rw [← her]
  have Her := Lib.hid her
  clear her
  have hof := ok.of htl
  have Hd := Lib.hid (scanDone_spec w B q gb S hS)
  rw [show (S.begun && S.wait.isEmpty) = true from by rw [hbg, hwt]; rfl] at Hd
  have hl0 := scanLst_spec w B q gb S hS ok hv tn htn
  have hbk : blksS S = ofN (gotN S S.infos.length) (gotN S S.infos.length).length := rfl
  rw [← hbk] at hl0
  have hen : encU S tn = ⟨(frameL 3 (lstL tn ((sortT (blksS S)).map (·.1)) (marksOf (blksS S)))).toArray⟩ := rfl
  obtain ⟨TT, hTT⟩ : ∃ T, T = blksS S := ⟨_, rfl⟩
  rw [← hTT] at hl0 hen
  have Hl := Lib.hid hl0
  clear hbk hl0
  obtain ⟨SS, hSS⟩ : ∃ T, T = sortT TT := ⟨_, rfl⟩
  obtain ⟨enc, henc⟩ : ∃ e, e = encU S tn := ⟨_, rfl⟩
  have henc2 : enc = ⟨(frameL 3 (lstL tn (SS.map (·.1)) (marksOf TT))).toArray⟩ := by rw [henc, hen, ← hSS]
  rw [← henc]
  rw [← hTT] at hof
  clear hen
  rw [← hSS] at hof
  have HO := Lib.hid (And.intro hof henc2)
  have HW := Lib.hid (And.intro hb (And.intro hu hS))
  have cu := cells_at hu
  have lu := lt_of_at hu
  have lm := lt_more lu
  have HS := hS
  obtain ⟨-, -, B1, vi, vw, -, -, hq, -, -, -, -⟩ := HS
  have cq := cells_at hq
  have lq := lt_of_at hq
  have lqm := lt_more lq
  rw [hbg] at cq
  obtain ⟨hs1, hst⟩ := hst
  have hs2 : ¬ now - S.tick > pat := by omega
  have hs3 : decide (now - S.tick > pat) = false := by rw [decide_eq_false_iff_not]; omega
  have hlu := lt_of_at hu
  clear hb hu hS hq hof henc henc2 hTT hSS hbg hwt hst ok
  go_enter Tryz.func19, Tryz.ntmps19
  go_wp2_with fail
  refine Hd.out.mono ?_
  rintro e w1 ⟨rfl, rfl⟩
  go_wp2_with fail
  clear cu lu lm cq lq lqm hs1 hs2 hs3
  refine Hl.out.mono ?_
  rintro e w2 ⟨L', vm, mb2, rfl, hp, hr, hm2, hmp2, -, hk2⟩
  obtain rfl : L' = SS.map (·.1) := rise_eq (fun m : MetaS => m.id.data.toList) (hp.trans (HO.out.1.perm.map _).symm) hr HO.out.1.rise
  obtain ⟨am, cm, rfl⟩ := hm2.form
  obtain ⟨sl, hsl⟩ : ∃ n, n = (SS.map (·.1)).length := ⟨_, rfl⟩
  rw [← hsl] at hm2 ⊢
  have Hen := Lib.hid (by
    have h := listEnc_spec w.heap.size w2 (.slice am sl cm) (SS.map (·.1)) tn mb2 (marksOf TT) hm2 HO.out.1.list.ok hmp2 (fun id t h => HO.out.1.list.mark h) htl HO.out.1.list.few
    rw [← HO.out.2] at h
    exact h)
  have H2 := Lib.hid (And.intro (hk2.keep_bucket HW.out.1) (And.intro (hk2.at_ HW.out.2.1 (by simp)) (And.intro (HW.out.2.2.same hk2) hk2)))
  clear hp hr hm2 hmp2 hk2 Hl Hd hsl
  go_wp2_with fail
  refine Hen.out.mono ?_
  rintro e w3 ⟨rfl, hk3⟩
  have H3 := Lib.hid (And.intro (hk3.keep_bucket H2.out.1) (And.intro (hk3.at_ H2.out.2.1 (by simp)) (And.intro (H2.out.2.2.1.same hk3) (H2.out.2.2.2.trans hk3))))
  have Hpt := Lib.hid (put_spec w3 b f c mb armed Q o H3.out.1 indexB enc now (by decide) (by decide))
  clear hk3 Hen H2
  go_wp2_with fail
  refine Hpt.out.mono ?_
  rintro e w4 ⟨rfl, hb4, hk4⟩
  rw [← Her.out]
  have nu4 := hk4.at_ H3.out.2.1 (by simp only [List.mem_cons, List.not_mem_nil, or_false]; omega)
  have hS4 := H3.out.2.2.1.keep hk4 (by simp only [List.mem_cons, List.not_mem_nil, or_false]; omega)
  have cu := cells_at nu4
  have fu := free_at nu4
  have lu := lt_of_at nu4
  have lm := lt_more lu
  have nu5 : (w4.setCell ⟨ub, 1, none⟩ (.bool (er == 0))).heap[ub]? = some (.cells #[.pointer (some ⟨q, 0, none⟩), .bool (er == 0)] 80 (0, 0)) := (heap_cell_same (i := 1) nu4 _).trans (by simp)
  have k5 : Keeps [ub] w4 (w4.setCell ⟨ub, 1, none⟩ (.bool (er == 0))) := (Keeps.refl [ub] w4).setCell (.inl (by simp)) _
  have hS5 := hS4.keepX k5 (by simp only [List.mem_singleton]; rintro x rfl; exact ⟨by omega, hne.1, hne.2.1⟩)
  have hb5 := hb4.keep k5 (by simp; omega) (by simp; omega) (by simp; omega) (by simp; omega)
  have hkw : Keeps [f, c, mb, ub] w (w4.setCell ⟨ub, 1, none⟩ (.bool (er == 0))) := ((H3.out.2.2.2.mono (by simp)).trans (hk4.mono (by simp))).trans (k5.mono (by simp))
  have H5 := Lib.hid (And.intro nu5 (And.intro hS5 (And.intro hb5 hkw)))
  clear hb4 hk4 nu4 hS4 nu5 k5 hS5 hb5 hkw H3 Hpt
  go_wp2_with fail
  go_ret
  exact ⟨rfl, H5.out.1, H5.out.2.1, H5.out.2.2.1, H5.out.2.2.2⟩
end Go.Proofs.YtjffdcflkkgpfaaGreat

namespace Go.Proofs.YtjffdcflkkgpfaaGreat
open Go Go.RowKit

/-! ## Names, by rising bytes -/
theorem hasPre_noneR (s : ByteArray) : hasPre s ⟨#[]⟩ = true := by
  have e : s.extract 0 0 = ⟨#[]⟩ := by
    apply ba_ext
    simp
  simp only [hasPre, Bool.and_eq_true, decide_eq_true_eq]
  exact ⟨Nat.zero_le _, e⟩

theorem listing_nilR (o : BktS) : listing o ⟨#[]⟩ = (sortedKeys o).map fun n => (n, obOr (look o n)) := by
  unfold listing
  rw [List.filter_eq_self.2 (fun a _ => hasPre_noneR a)]

theorem listing_keysR (o : BktS) : (listing o ⟨#[]⟩).map (·.1) = sortB (o.map (·.1)) := by
  rw [listing_nilR, List.map_map]
  show (sortedKeys o).map id = _
  rw [List.map_id]
  rfl

theorem listing_nodupR {o : BktS} (h : (o.map (·.1)).Nodup) : ((listing o ⟨#[]⟩).map (·.1)).Nodup := by
  rw [listing_keysR]
  exact (sortB_perm _).nodup_iff.2 h

theorem listing_memR {o : BktS} {n : ByteArray} : n ∈ (listing o ⟨#[]⟩).map (·.1) ↔ n ∈ o.map (·.1) := by
  rw [listing_keysR]
  exact (sortB_perm _).mem_iff

def ltR (a b : ByteArray) : Prop := a.data.toList < b.data.toList

theorem sortB_ltR {l : List ByteArray} (h : l.Nodup) : (sortB l).Pairwise ltR := by
  unfold sortB
  rw [List.pairwise_map]
  have tr : ∀ a b c : List UInt8, leB a b = true → leB b c = true → leB a c = true := fun a b c h1 h2 => by simp only [leB, decide_eq_true_eq] at *; exact List.le_trans h1 h2
  have to' : ∀ a b : List UInt8, (leB a b || leB b a) = true := fun a b => by simp only [leB, Bool.or_eq_true, decide_eq_true_eq]; exact List.le_total a b
  have h1 := List.pairwise_mergeSort tr to' (l.map (·.data.toList))
  have h2 : ((l.map (·.data.toList)).mergeSort leB).Nodup := by
    rw [(List.mergeSort_perm _ leB).nodup_iff]
    exact List.pairwise_map.2 (h.imp fun hne e => hne (ba_ext e))
  refine (h1.and h2).imp fun {a b} ⟨hle, hne⟩ => ?_
  simp only [leB, decide_eq_true_eq] at hle
  show a < b
  rcases Classical.em (a < b) with hlt | hlt
  · exact hlt
  · exact absurd (List.le_antisymm hle (List.not_lt.1 hlt)) hne

theorem ltR_unique : ∀ {A B : List ByteArray}, A.Pairwise ltR → B.Pairwise ltR → (∀ z, z ∈ A ↔ z ∈ B) → A = B
  | [], [], _, _, _ => rfl
  | [], b :: B, _, _, h => absurd ((h b).2 (by simp)) (by simp)
  | a :: A, [], _, _, h => absurd ((h a).1 (by simp)) (by simp)
  | a :: A, b :: B, hA, hB, h => by
    rw [List.pairwise_cons] at hA hB
    have irr : ∀ x : ByteArray, ¬ ltR x x := fun x => List.lt_irrefl _
    have hab : a = b := by
      rcases List.mem_cons.1 ((h a).1 (by simp)) with e | e
      · exact e
      · rcases List.mem_cons.1 ((h b).2 (by simp)) with e2 | e2
        · exact e2.symm
        · exact absurd (List.lt_trans (show a.data.toList < b.data.toList from hA.1 b e2) (hB.1 a e)) (irr a)
    subst hab
    congr 1
    refine ltR_unique hA.2 hB.2 fun z => ⟨fun hz => ?_, fun hz => ?_⟩
    · rcases List.mem_cons.1 ((h z).1 (by simp [hz])) with e | e
      · subst e; exact absurd (hA.1 z hz) (irr z)
      · exact e
    · rcases List.mem_cons.1 ((h z).2 (by simp [hz])) with e | e
      · subst e; exact absurd (hB.1 z hz) (irr z)
      · exact e
/-! ## The states -/
def dataOf (o : BktS) (n : ByteArray) : ByteArray := (obOr (look o n)).1

def waitsOf (o : BktS) : List ByteArray := waitOf (listing o ⟨#[]⟩)

def gotK (o : BktS) (k : Nat) : List (ByteArray × ByteArray) := ((waitsOf o).take k).map fun n => (n, dataOf o n)

def stS (o : BktS) (t : Int) (k : Nat) : ScanS := ⟨true, t, listing o ⟨#[]⟩, (waitsOf o).drop k, gotK o k⟩

theorem waitsOf_eq (o : BktS) : waitsOf o = (sortB (o.map (·.1))).filter isWait := by
  unfold waitsOf waitOf
  rw [listing_keysR]

theorem waitsOf_mem {o : BktS} {n : ByteArray} (h : n ∈ waitsOf o) : n ∈ o.map (·.1) ∧ isWait n = true := by
  rw [waitsOf_eq, List.mem_filter] at h
  exact ⟨(sortB_perm _).mem_iff.1 h.1, h.2⟩

theorem waitsOf_len (o : BktS) : (waitsOf o).length ≤ o.length := by
  rw [waitsOf_eq]
  refine Nat.le_trans (List.length_filter_le _ _) ?_
  rw [sortB_length, List.length_map]
  exact Nat.le_refl _

theorem waitsOf_nodup {o : BktS} (h : (o.map (·.1)).Nodup) : (waitsOf o).Nodup := by
  rw [waitsOf_eq]
  exact ((sortB_perm _).nodup_iff.2 h).filter _

theorem scan_first (o : BktS) (t : Int) : scanOf [] t (listing o ⟨#[]⟩) scan0 = stS o t 0 := by
  have h : tryWorks [] = true := rfl
  unfold scanOf
  rw [if_pos h]
  rfl

theorem gotK_snoc {o : BktS} {k : Nat} (h : k < (waitsOf o).length) : gotK o (k + 1) = gotK o k ++ [((waitsOf o)[k], dataOf o (waitsOf o)[k])] := by
  unfold gotK
  rw [List.take_succ_eq_append_getElem h, List.map_append]
  rfl

theorem gotK_keys (o : BktS) (k : Nat) : (gotK o k).map (·.1) = (waitsOf o).take k := by
  unfold gotK
  rw [List.map_map]
  show ((waitsOf o).take k).map id = _
  rw [List.map_id]

theorem scan_next {o : BktS} (hn : (o.map (·.1)).Nodup) (t : Int) {k : Nat} (h : k < (waitsOf o).length) :
    gotOf (getVal [] o (waitsOf o)[k]) (waitsOf o)[k] ((waitsOf o).drop (k + 1)) (stS o t k) = stS o t (k + 1) ∧ gotErr (getVal [] o (waitsOf o)[k]) = 0 := by
  have hm := (waitsOf_mem (List.getElem_mem h)).1
  cases hl : look o (waitsOf o)[k] with
  | none => exact absurd hm ((look_none_iff _ _).1 hl)
  | some y =>
    have hw : tryWorks [] = true := rfl
    have hg : getVal [] o (waitsOf o)[k] = (y.1, 0) := by
      unfold getVal
      rw [if_pos hw, hl]
    have hd : dataOf o (waitsOf o)[k] = y.1 := by unfold dataOf; rw [hl]; rfl
    have hno : look (gotK o k) (waitsOf o)[k] = none := by
      rw [look_none_iff, gotK_keys]
      intro hmem
      obtain ⟨j, hj, he⟩ := List.getElem_of_mem hmem
      rw [List.length_take] at hj
      rw [List.getElem_take] at he
      have := waitsOf_nodup hn
      rw [List.Nodup, List.pairwise_iff_getElem] at this
      exact this j k (by omega) h (by omega) he
    rw [hg]
    refine ⟨?_, rfl⟩
    show (⟨true, t, listing o ⟨#[]⟩, (waitsOf o).drop (k + 1), put (gotK o k) (waitsOf o)[k] y.1⟩ : ScanS) = _
    rw [put_newK hno, ← hd, ← gotK_snoc h]
    rfl

theorem stS_wait {o : BktS} {t : Int} {k : Nat} (h : k < (waitsOf o).length) : (stS o t k).wait = (waitsOf o)[k] :: (waitsOf o).drop (k + 1) := List.drop_eq_getElem_cons h

theorem stS_end (o : BktS) (t : Int) : (stS o t (waitsOf o).length).wait = [] := List.drop_length

/-- What a bucket's readers ask. -/
structure RunOk (o : BktS) : Prop where
  nodup : (o.map (·.1)).Nodup
  len : o.length ≤ 16
  name : ∀ p ∈ o, p.1.size ≤ 40
  data : ∀ n ∈ waitsOf o, (dataOf o n).size ≤ 5000

theorem RunOk.scan {o : BktS} (h : RunOk o) (t : Int) (k : Nat) : ScanOk (stS o t k) where
  nodup := listing_nodupR h.nodup
  in_ := fun n d hl => by
    have hm := look_mem hl
    have : n ∈ (gotK o k).map (·.1) := List.mem_map.2 ⟨_, hm, rfl⟩
    rw [gotK_keys] at this
    exact listing_memR.2 (waitsOf_mem (List.mem_of_mem_take this)).1
  len := by
    have := listing_len o ⟨#[]⟩
    have := h.len
    show (listing o ⟨#[]⟩).length ≤ 20
    omega
  data := fun n d hl => by
    have hm := look_mem hl
    unfold stS gotK at hm
    obtain ⟨x, hx, he⟩ := List.mem_map.1 hm
    injection he with e1 e2
    rw [← e2]
    exact h.data x (List.mem_of_mem_take hx)
  names := fun p hp => by
    have : p.1 ∈ o.map (·.1) := listing_memR.1 (List.mem_map.2 ⟨p, hp, rfl⟩)
    obtain ⟨q, hq, e⟩ := List.mem_map.1 this
    have := h.name q hq
    rw [← e]
    omega

/-- The objects that the scan got in the end. -/
def waitsObj (o : BktS) : List ObjS := (waitsOf o).map fun n => (n, dataOf o n)

theorem gotS_end {o : BktS} (hn : (o.map (·.1)).Nodup) (t : Int) : gotS (stS o t (waitsOf o).length) = waitsObj o := by
  have hG : gotK o (waitsOf o).length = waitsObj o := by unfold gotK waitsObj; rw [List.take_length]
  show ((listing o ⟨#[]⟩).take (listing o ⟨#[]⟩).length).filterMap (gotF (gotK o (waitsOf o).length)) = waitsObj o
  rw [List.take_length, hG]
  have hkey : (waitsObj o).map (·.1) = waitsOf o := by
    unfold waitsObj
    rw [List.map_map]
    show (waitsOf o).map id = _
    rw [List.map_id]
  have hlk : ∀ n ∈ (listing o ⟨#[]⟩).map (·.1), look (waitsObj o) n = if isWait n = true then some (dataOf o n) else none := fun n hm => by
    by_cases hw : isWait n = true
    · rw [if_pos hw]
      refine look_of_mem (by rw [hkey]; exact waitsOf_nodup hn) (List.mem_map.2 ⟨n, ?_, rfl⟩)
      exact List.mem_filter.2 ⟨hm, hw⟩
    · rw [if_neg hw, look_none_iff, hkey]
      intro h
      exact hw (waitsOf_mem h).2
  have key : ∀ I : List (ByteArray × Ob), (∀ p ∈ I, p.1 ∈ (listing o ⟨#[]⟩).map (·.1)) → I.filterMap (gotF (waitsObj o)) = ((I.map (·.1)).filter isWait).map fun n => (n, dataOf o n) := by
    intro I
    induction I with
    | nil => intro _; rfl
    | cons p I ih =>
      intro hI
      have h1 := hlk p.1 (hI p (by simp))
      have h2 := ih (fun q hq => hI q (by simp [hq]))
      by_cases hw : isWait p.1 = true
      · rw [if_pos hw] at h1
        rw [List.filterMap_cons_some (b := (p.1, dataOf o p.1)) (by unfold gotF; rw [h1]; rfl), h2, List.map_cons, List.filter_cons_of_pos hw]
        rfl
      · rw [if_neg hw] at h1
        rw [List.filterMap_cons_none (by unfold gotF; rw [h1]; rfl), h2, List.map_cons, List.filter_cons_of_neg hw]
  exact key _ (fun p hp => List.mem_map.2 ⟨p, hp, rfl⟩)

/-- An object that is neither a meta nor a mark changes nothing of it. -/
theorem waitsObj_put {o : BktS} (hn : (o.map (·.1)).Nodup) {n : ByteArray} (hw : isWait n = false) (x : Ob) (hn2 : ((put o n x).map (·.1)).Nodup) : waitsObj (put o n x) = waitsObj o := by
  have e1 : waitsOf (put o n x) = waitsOf o := by
    rw [waitsOf_eq, waitsOf_eq]
    refine ltR_unique ((sortB_ltR hn2).filter _) ((sortB_ltR hn).filter _) fun z => ?_
    rw [List.mem_filter, List.mem_filter, (sortB_perm _).mem_iff, (sortB_perm _).mem_iff]
    have hk : isWait z = true → (z ∈ (put o n x).map (·.1) ↔ z ∈ o.map (·.1)) := fun hz => by
      have hne : z ≠ n := fun e => by rw [e, hw] at hz; cases hz
      have h1 := look_none_iff z (put o n x)
      have h2 := look_none_iff z o
      rw [look_put, if_neg hne] at h1
      constructor
      · intro hm
        exact Classical.byContradiction fun h => (h1.1 (h2.2 h)) hm
      · intro hm
        exact Classical.byContradiction fun h => (h2.1 (h1.2 h)) hm
    exact ⟨fun ⟨h1, h2⟩ => ⟨(hk h2).1 h1, h2⟩, fun ⟨h1, h2⟩ => ⟨(hk h2).2 h1, h2⟩⟩
  unfold waitsObj
  rw [e1]
  refine List.map_congr_left fun z hz => ?_
  have hne : z ≠ n := fun e => by have := (waitsOf_mem hz).2; rw [e, hw] at this; cases this
  unfold dataOf
  rw [look_put, if_neg hne]

theorem index_wait : isWait indexB = false := by decide +kernel
end Go.Proofs.YtjffdcflkkgpfaaGreat

namespace Go.Proofs.YtjffdcflkkgpfaaGreat
open Go Go.RowKit

def encR (o : BktS) (t : Nat) : ByteArray := encU (stS o t (waitsOf o).length) t

def scanJ (o : BktS) (t : Nat) (j : Nat) : ScanS := if j = 0 then scan0 else stS o t (min (j - 1) (waitsOf o).length)

def bktJ (o : BktS) (t : Nat) (j : Nat) : BktS := if (waitsOf o).length + 2 ≤ j then put o indexB (encR o t, (t : Int)) else o

def RunAt (w : World) (b f c mb B ub q gb : Nat) (o : BktS) (t j : Nat) : Prop :=
  BucketAt w b f c mb false [] (bktJ o t j) ∧ UpdAt w ub q (decide ((waitsOf o).length + 2 ≤ j)) ∧ ScanAt (ub + 1) w B q gb (scanJ o t j)

structure RunLow (w : World) (b f c mb B ub q gb : Nat) : Prop where
  low : b < B ∧ f < B ∧ c < B ∧ mb < B
  up : B ≤ ub ∧ ub ≠ q ∧ ub ≠ gb
  lib : LibVar w
  libB : 0 < B

theorem updRun_spec (w : World) (b f c mb B ub q gb : Nat) (o : BktS) (t pat : Nat) (j : Nat) (h : RunAt w b f c mb B ub q gb o t j) (hl : RunLow w b f c mb B ub q gb) (ok : RunOk o) (hd : ∀ n, (obOr (look o n)).1.size ≤ 1000000) (ht : t ≤ 1099511627776) (hj : j ≤ (waitsOf o).length + 1) :
    Calls Tryz.prog 19 #[.pointer (some ⟨ub, 0, none⟩), .pointer (some ⟨b, 0, none⟩), .int .i64 t, .int .i64 pat] w fun e w' => e = .returned (.int .i64 0) ∧ RunAt w' b f c mb B ub q gb o t (j + 1) ∧ Keeps [f, c, mb, ub, q, gb] w w' := by
  obtain ⟨hb, hu, hS⟩ := h
  have hnj : ¬ (waitsOf o).length + 2 ≤ j := by omega
  rw [show bktJ o t j = o from if_neg hnj] at hb
  rw [decide_eq_false hnj] at hu
  have hlen := ok.len
  have hqgb := hS.1
  have hgbB := hS.2.1
  by_cases h0 : j = 0
  · subst h0
    rw [show scanJ o t 0 = scan0 from rfl] at hS
    refine updScan_spec w ub q gb b B scan0 t pat 0 (fun w' => RunAt w' b f c mb B ub q gb o t (0 + 1) ∧ Keeps [f, c, mb, ub, q, gb] w w') hu hS rfl (fun h => by cases h) ?_
    refine (scanStep_begin w b f c mb B q gb false [] o scan0 t hb hS rfl hl.low hl.lib hl.libB ok.name (fun n => by have := hd n; omega) (by omega)).mono ?_
    rintro e w' ⟨rfl, hS', hb', hk⟩
    refine ⟨rfl, ⟨?_, ?_, ?_⟩, hk.mono (by simp)⟩
    · rw [show bktJ o t (0 + 1) = o from if_neg (by omega)]
      exact hb'
    · rw [decide_eq_false (by omega)]
      exact hk.at_ hu (by have := hl.low; have := hl.up; simp; omega)
    · rw [scan_first] at hS'
      have e : scanJ o t (0 + 1) = stS o t 0 := by
        unfold scanJ
        rw [if_neg (by omega), Nat.zero_add, Nat.sub_self, Nat.zero_min]
      rw [e]
      exact hS'
  · have hj1 : scanJ o t j = stS o t (j - 1) := by
      unfold scanJ
      rw [if_neg h0, Nat.min_eq_left (by omega)]
    rw [hj1] at hS
    by_cases hlt : j ≤ (waitsOf o).length
    · have hk1 : j - 1 < (waitsOf o).length := by omega
      have hw := stS_wait (t := t) hk1
      have hnx := scan_next ok.nodup t hk1
      rw [show j - 1 + 1 = j from by omega] at hw hnx
      refine updScan_spec w ub q gb b B (stS o t (j - 1)) t pat 0 (fun w' => RunAt w' b f c mb B ub q gb o t (j + 1) ∧ Keeps [f, c, mb, ub, q, gb] w w') hu hS ?_ ?_ ?_
      · rw [hw]; rfl
      · intro _
        show IntKind.i64.wrap ((t : Int) - (t : Int)) = (t : Int) - (t : Int) ∧ (t : Int) - (t : Int) ≤ (pat : Int)
        exact ⟨IntWalk.i64_in _ (by omega), by omega⟩
      · refine (scanStep_get w b f c mb B q gb false [] o (stS o t (j - 1)) t _ _ hb hS rfl hw hl.low).mono ?_
        rintro e w' ⟨rfl, hS', hb', hk⟩
        rw [hnx.1] at hS'
        refine ⟨by rw [hnx.2], ⟨?_, ?_, ?_⟩, hk.mono (by simp)⟩
        · rw [show bktJ o t (j + 1) = o from if_neg (by omega)]
          exact hb'
        · rw [decide_eq_false (by omega)]
          exact hk.at_ hu (by have := hl.low; have := hl.up; simp; omega)
        · have e : scanJ o t (j + 1) = stS o t j := by
            unfold scanJ
            rw [if_neg (by omega), Nat.add_sub_cancel, Nat.min_eq_left (by omega)]
          rw [e]
          exact hS'
    · have hje : j - 1 = (waitsOf o).length := by omega
      rw [hje] at hS
      have hup := hl.up
      have hlw := hl.low
      refine (updPut_spec w ub q gb b f c mb B false [] o (stS o t (waitsOf o).length) t pat t hb hu hS (ok.scan t _) hl.lib rfl (stS_end o t) ⟨IntWalk.i64_in _ (by show -9223372036854775808 ≤ (t : Int) - (t : Int) ∧ (t : Int) - (t : Int) ≤ 9223372036854775807; omega), by show (t : Int) - (t : Int) ≤ (pat : Int); omega⟩ (by show max (t : Int) 0 = (t : Int); omega) ht ⟨hup.2.1, hup.2.2, by omega, by omega, by omega, by omega⟩ hlw).mono ?_
      rintro e w' ⟨rfl, hu', hS', hb', hk⟩
      refine ⟨rfl, ⟨?_, ?_, ?_⟩, hk.mono (by simp)⟩
      · rw [show bktJ o t (j + 1) = put o indexB (encR o t, (t : Int)) from if_pos (by omega)]
        exact hb'
      · rw [decide_eq_true (by omega : (waitsOf o).length + 2 ≤ j + 1)]
        exact hu'
      · have e : scanJ o t (j + 1) = stS o t (waitsOf o).length := by
          unfold scanJ
          rw [if_neg (by omega), Nat.add_sub_cancel, Nat.min_eq_right (by omega)]
        rw [e]
        exact hS'
end Go.Proofs.YtjffdcflkkgpfaaGreat

namespace Go.Proofs.YtjffdcflkkgpfaaGreat
open Go Go.RowKit Go.Conc

def awT : ThingL := ⟨1, 1, 2, ⟨⟨#[]⟩, 0, 0, 0, 0, 0, none, 0, 0, none, 0, 0⟩, true, ⟨#[]⟩⟩

def o19 : BktS := [((objT awT).1, ((objT awT).2, 0))]

theorem aw_objs : objsL ([awT].take 15) = [objT awT] := rfl

theorem aw_size : (objT awT).1.size ≠ 0 := by decide +kernel

theorem aw_fill : fillN [objT awT] [objT awT].length = o19 := by
  have h := fillN_put (L := [objT awT]) (k := 0) (by simp) (by simpa using aw_size)
  exact h

theorem aw_wait : isWait (objT awT).1 = true := by decide +kernel

theorem aw_meta : (metaO (objT awT)).isSome = true := by decide +kernel

theorem aw_waits : waitsOf o19 = [(objT awT).1] := by
  rw [waitsOf_eq]
  have h1 : sortB (o19.map (·.1)) = [(objT awT).1] := List.perm_singleton.1 (sortB_perm _)
  rw [h1, List.filter_cons_of_pos aw_wait]
  rfl

theorem aw_data : dataOf o19 (objT awT).1 = (objT awT).2 := by
  unfold dataOf o19
  simp [look, obOr]

theorem aw_ok : RunOk o19 where
  nodup := by simp [o19]
  len := by simp [o19]
  name := fun p hp => by
    simp only [o19, List.mem_singleton] at hp
    subst hp
    exact (objT_size awT).1
  data := fun n hn => by
    rw [aw_waits] at hn
    simp only [List.mem_singleton] at hn
    subst hn
    rw [aw_data]
    exact (objT_size awT).2

theorem aw_big (n : ByteArray) : (obOr (look o19 n)).1.size ≤ 1000000 := by
  unfold o19 look
  split
  · exact Nat.le_trans (objT_size awT).2 (by decide)
  · exact Nat.zero_le _

theorem aw_blks (t : Int) : (blksS (stS o19 t (waitsOf o19).length)).length = 1 := by
  have hg := gotS_end aw_ok.nodup t
  have hw : waitsObj o19 = [objT awT] := by
    unfold waitsObj
    rw [aw_waits, List.map_cons, aw_data]
    rfl
  unfold blksS
  rw [hg, hw]
  obtain ⟨M, hM⟩ := Option.isSome_iff_exists.1 aw_meta
  have := ofN_some (L := [objT awT]) (k := 0) (by simp) (M := M) hM
  rw [show [objT awT].length = 0 + 1 from rfl, this, ofN_zero]
  rfl

def AwRel (w : World) (b f c mb B ub q gb : Nat) (gk : Nat) (u4 : Value) (wr : World) : Prop :=
  ∃ j, j ≤ 3 ∧ gk = 3 - j ∧ u4 = .int .i64 j ∧ RunAt wr b f c mb B ub q gb o19 7 j ∧ Keeps [] w wr

set_option linter.unusedSimpArgs false in
set_option maxRecDepth 100000 in
set_option maxHeartbeats 4000000 in
theorem awake19_spec (w : World) (hv : LibVar w) : Calls Tryz.prog 15 #[] w fun e w' => e = .returned (.bool true) ∧ Keeps [] w w' := by
  have Hv := Lib.hid hv
  have n0 := heap_new w (.cells #[.int .i64 1, .int .i64 1, .int .i64 2, .string ⟨#[]⟩, .int .i64 0, .int .i64 0, .int .i64 0, .int .i64 0, .int .i64 0, .slice none 0 0, .slice none 0 0, .bool true, .string ⟨#[]⟩] 88)
  have k0 : Keeps [] w (w.alloc (.cells #[.int .i64 1, .int .i64 1, .int .i64 2, .string ⟨#[]⟩, .int .i64 0, .int .i64 0, .int .i64 0, .int .i64 0, .int .i64 0, .slice none 0 0, .slice none 0 0, .bool true, .string ⟨#[]⟩] 88)) := (Keeps.refl [] w).alloc _
  obtain ⟨sb, hsb⟩ : ∃ n, n = w.heap.size := ⟨_, rfl⟩
  rw [← hsb] at n0
  have hO : SliceArg 13 encThing (w.alloc (.cells #[.int .i64 1, .int .i64 1, .int .i64 2, .string ⟨#[]⟩, .int .i64 0, .int .i64 0, .int .i64 0, .int .i64 0, .int .i64 0, .slice none 0 0, .slice none 0 0, .bool true, .string ⟨#[]⟩] 88)) (.slice (some ⟨sb, 0, none⟩) 1 1) [awT] := sliceArg_block (size := 13) (enc := encThing) encThing_len (O := [awT]) n0 rfl (by simp [maxLen])
  have Hsb := Lib.hid hsb
  have H0 := Lib.hid (And.intro hO k0)
  clear n0 k0 hsb hO hv
  go_enter Tryz.func15, Tryz.ntmps15
  go_wp2_with fail
  rw [← Hsb.out]
  generalize w.alloc (.cells #[.int .i64 1, .int .i64 1, .int .i64 2, .string ⟨#[]⟩, .int .i64 0, .int .i64 0, .int .i64 0, .int .i64 0, .int .i64 0, .slice none 0 0, .slice none 0 0, .bool true, .string ⟨#[]⟩] 88) = W0 at H0 ⊢
  refine (filled19_spec W0 _ [awT] H0.out.1).mono ?_
  rintro e w1 ⟨b, f, c, mb, u, rfl, hb1, -, hk1, l1, l2, l3, l4⟩
  rw [aw_objs, aw_fill] at hb1
  have hlt := hb1.lt
  have hz0 := H0.out.2.size
  have H1 := Lib.hid (And.intro hb1 (H0.out.2.trans hk1))
  clear hb1 hk1 H0
  go_wp2_with fail
  refine (newUpdate_spec w1).mono ?_
  rintro e w2 ⟨ub, q, gb, rfl, hu, hS, hk2, hub, hne⟩
  obtain ⟨B, hB⟩ : ∃ n, n = w1.heap.size := ⟨_, rfl⟩
  have hvB : 0 < B := by
    rw [hB]
    exact (Hv.out.same H1.out.2).lt
  rw [← hB] at hlt hS hub
  have hwB : w.heap.size ≤ B := by rw [hB]; exact H1.out.2.size
  have hrun : RunAt w2 b f c mb B ub q gb o19 7 0 := by
    refine ⟨?_, ?_, hS⟩
    · rw [show bktJ o19 7 0 = o19 from if_neg (by omega)]
      exact hk2.keep_bucket H1.out.1
    · rw [decide_eq_false (by omega)]
      exact hu
  have hqB := hS.1
  have hgB := hS.2.1
  have H2 := Lib.hid (And.intro hrun (H1.out.2.trans hk2))
  have Hlow := Lib.hid (fun wr (hk : Keeps [] w wr) => (⟨hlt, ⟨hub, hne⟩, Hv.out.same hk, hvB⟩ : RunLow wr b f c mb B ub q gb))
  clear hu hS hk2 hrun hB H1
  go_wp2_with fail
  go_loopg [4] 3 (AwRel w b f c mb B ub q gb)
  case atStart => exact ⟨0, by decide, rfl, rfl, H2.out.1, H2.out.2⟩
  case round =>
    obtain ⟨j, hj, hgj, rfl, hrun, hkr⟩ := hrel
    have Hg := Lib.hid hgj
    clear H2 hgj
    by_cases hlt3 : j < 3
    · have hlt' : (j : Int) < 3 := by omega
      have hdn : decide ((waitsOf o19).length + 2 ≤ j) = false := by rw [decide_eq_false_iff_not, aw_waits]; simp; omega
      have Hd := Lib.hid (updDone_spec wr ub q _ hrun.2.1)
      rw [hdn] at Hd
      have Hs := Lib.hid (updRun_spec wr b f c mb B ub q gb o19 7 9 j hrun (Hlow.out wr hkr) aw_ok aw_big (by decide) (by rw [aw_waits]; simp; omega))
      have Hkr := Lib.hid hkr
      clear hdn hrun hkr
      go_wp2_with fail
      refine Hd.out.mono ?_
      rintro e w3 ⟨rfl, rfl⟩
      go_wp2_with fail
      refine Hs.out.mono ?_
      rintro e w4 ⟨rfl, hr4, hk4⟩
      have H4 := Lib.hid (And.intro hr4 (Hkr.out.after hk4 (fun x hx => .inr (by simp only [List.mem_cons, List.not_mem_nil, or_false] at hx; omega))))
      clear hr4 hk4 Hd Hs
      go_wp2_with fail
      go_roundg (3 - (j + 1))
      case measure => have := Hg.out; omega
      case rel => exact ⟨j + 1, by omega, rfl, by go_num, H4.out.1, H4.out.2⟩
    · obtain rfl : j = 3 := by omega
      have hbk : bktJ o19 7 3 = put o19 indexB (encR o19 7, 7) := if_pos (by rw [aw_waits]; decide)
      have hup : decide ((waitsOf o19).length + 2 ≤ 3) = true := decide_eq_true (by rw [aw_waits]; decide)
      obtain ⟨hb, hu, hS⟩ := hrun
      rw [hbk] at hb
      rw [hup] at hu
      have hlk : look (put o19 indexB (encR o19 7, 7)) indexB = some (encR o19 7, 7) := by rw [look_put, if_pos rfl]
      have Hpk := Lib.hid (peek_spec wr b f c mb false [] _ hb indexB)
      rw [hlk] at Hpk
      have hof := (aw_ok.scan 7 (waitsOf o19).length).of (tn := 7) (by decide)
      obtain ⟨LL, hLL⟩ : ∃ L, L = (sortT (blksS (stS o19 7 (waitsOf o19).length))).map (·.1) := ⟨_, rfl⟩
      obtain ⟨MM, hMM⟩ : ∃ M, M = marksOf (blksS (stS o19 7 (waitsOf o19).length)) := ⟨_, rfl⟩
      have hlok : ListOk 7 LL MM := by rw [hLL, hMM]; exact hof.list
      have hL1 : LL.length = 1 := by rw [hLL, List.length_map, hof.perm.length_eq]; exact aw_blks 7
      obtain ⟨enc, hen⟩ : ∃ e, e = encR o19 7 := ⟨_, rfl⟩
      have hed : enc.data.toList = frameL 3 (lstL 7 LL MM) := by rw [hen, hLL, hMM]; rfl
      have Hdc := Lib.hid (fun W => listDec_spec W enc 7 LL MM hed hlok)
      rw [← hen] at Hpk
      have HE := Lib.hid (And.intro hu (And.intro hkr hL1))
      clear hlt3 hbk hup hb hu hS hlk hof hLL hMM hlok hL1 hen hed hkr
      dsimp only [obOr, Option.getD, Option.isSome] at Hpk
      go_wp2_with fail
      refine Hpk.out.mono ?_
      rintro e w3 ⟨rfl, hk3⟩
      have Hk3 := Lib.hid hk3
      clear hk3 Hpk
      go_wp2_with fail
      refine (Hdc.out _).mono ?_
      rintro e w4 ⟨vm, mb4, rfl, hm4, -, hk4⟩
      obtain ⟨am, cm, rfl⟩ := hm4.form
      rw [HE.out.2.2]
      have ka : Keeps [] w4 (w4.alloc (.cells #[.int .i64 7, .slice am 1 cm, .map (some mb4)] 32)) := (Keeps.refl [] w4).alloc _
      have na := heap_new w4 (.cells #[.int .i64 7, .slice am 1 cm, .map (some mb4)] 32)
      have k34 := (Hk3.out.trans hk4).trans ka
      have H5 := Lib.hid (And.intro na (And.intro (show UpdAt _ ub q true from k34.at_ HE.out.1 (by simp)) (HE.out.2.1.trans k34)))
      clear hm4 hk4 ka na k34 Hdc
      go_upto_region 12 with fail
      generalize hW5 : w4.alloc (.cells #[.int .i64 7, .slice am 1 cm, .map (some mb4)] 32) = W5 at H5 ⊢
      generalize hlb : w4.heap.size = lb at H5 ⊢
      clear hW5 hlb
      have cl := cells_at H5.out.1
      have ll := lt_of_at H5.out.1
      have Hd := Lib.hid (updDone_spec W5 ub q true H5.out.2.1)
      have Hi := Lib.hid (fun vb now pat => updIdle_spec W5 ub q vb now pat H5.out.2.1)
      go_wp2_with fail
      refine Hd.out.mono ?_
      rintro e w6 ⟨rfl, rfl⟩
      go_wp2_with fail
      refine (Hi.out _ _ _).mono ?_
      rintro e w7 ⟨rfl, rfl⟩
      go_wp2_with fail
      go_ret
      exact ⟨rfl, H5.out.2.2⟩
end Go.Proofs.YtjffdcflkkgpfaaGreat
