/-
  SweepHalf answers true for all lists of objects and every number of steps, and leaves all memory that was there as it was.
  No condition: every input that can be read.
-/
import Derived.Test.YtaccjmdljiignaaSweepYoungL
namespace Go.Proofs.Ytaccjmdljiignaa
open Go Go.RowKit Go.Conc

def CfgPost (w : World) (a b c : Int) (e : Ending) (w' : World) : Prop := e = .returned (.agg #[.int .i64 a, .int .i64 b, .int .i64 c]) ∧ Keeps [] w w'

set_option maxRecDepth 100000 in
set_option maxHeartbeats 1000000 in
theorem config_spec (w : World) (a b c : Int) : Calls Try.prog 34 #[.int .i64 a, .int .i64 b, .int .i64 c] w (CfgPost w (a % 32) (b % 32) (1 + c % 64)) := by
  have q1 := i64_and31 a
  have q2 := i64_and31 b
  have q3 := i64_and63 c
  obtain ⟨an, han, han3⟩ : ∃ n : Nat, a % 32 = (n : Int) ∧ n ≤ 31 := ⟨(a % 32).toNat, by omega, by omega⟩
  obtain ⟨bn, hbn, hbn3⟩ : ∃ n : Nat, b % 32 = (n : Int) ∧ n ≤ 31 := ⟨(b % 32).toNat, by omega, by omega⟩
  obtain ⟨cn, hcn, hcn3⟩ : ∃ n : Nat, c % 64 = (n : Int) ∧ n ≤ 63 := ⟨(c % 64).toNat, by omega, by omega⟩
  rw [han] at q1 ⊢
  rw [hbn] at q2 ⊢
  rw [hcn] at q3 ⊢
  clear han hbn hcn
  have hs : IntKind.i64.wrap (1 + (cn : Int)) = 1 + (cn : Int) := IntWalk.i64_in _ (by omega)
  go_enter Try.func34, Try.ntmps34
  go_wp2_with fail
  exact bodyPost_ret (v := .agg #[.int .i64 an, .int .i64 bn, .int .i64 (1 + (cn : Int))]) (by simp [results, Try.results34, go_sem]) rfl ⟨rfl, (Keeps.refl [] w).alloc _⟩


def idH : ByteArray := idN 9 9

theorem idH_ok : isIDB idH.data.toList = true := idN_ok (by decide) (by decide)

/-- The bucket with so many parts of the block more. -/
def halfN (o : Bkt) : Nat → Bkt
  | 0 => o
  | i + 1 => put (halfN o i) (objectB idH (partN i)) (askB, 1)

def halfO (o : Bkt) : Bkt := put (halfN o 3) (objectB idH markB) (markBytes idH 1, 1)

theorem halfN_parted {o : Bkt} {k : Nat} (h : Parted o k) : ∀ i, Parted (halfN o i) (k + i)
  | 0 => h
  | i + 1 => (halfN_parted h i).put idH_ok (partN_mem i) _ (by decide) (by decide) (by decide) (fun e t ht => by rw [markSays_ask] at ht; cases ht)

theorem halfO_parted {o : Bkt} {k : Nat} (h : Parted o k) : Parted (halfO o) (k + 4) :=
  (halfN_parted h 3).put idH_ok mark_part _ (by decide) (by decide) (markL_len idH 1 (by rw [id_size idH_ok]; omega) (by decide)) (fun _ t ht => by
    have ht' : markSays idH (markBytes idH 1) = some t := ht
    rw [markSays_mark idH_ok (by decide)] at ht'
    injection ht' with ht'
    omega)

theorem halfO_mark (o : Bkt) : markIn (halfO o) idH = some 1 := by
  unfold halfO
  rw [markIn_put _ idH_ok mark_part, if_pos ⟨rfl, rfl⟩]
  exact markSays_mark idH_ok (by decide)

/-- What a round, not always whole, has left. -/
theorem rnd_some {cfg : Int × Int × Int} {now g0 : Int} {o o1 : Bkt} {i : Nat} {Z : SweepS} (h : Rnd cfg now g0 o i Z o1) : ∃ j, o1 = delAll o ((victR cfg now o).take j) := by
  cases h with
  | a => exact ⟨0, rfl⟩
  | b j hj => exact ⟨0, rfl⟩
  | c k hk => exact ⟨k, rfl⟩


def HPutRel (w : World) (b f c mb pb : Nat) (o : Bkt) (gk : Nat) (u : Value) (wr : World) : Prop :=
  ∃ i, i ≤ 3 ∧ gk = 3 - i ∧ u = .int .i64 i ∧ BucketAt wr b f c mb false [] (halfN o i) ∧ wr.heap[pb]? = some (.cells #[.string chunksB, .string indexB, .string metaB] 9 (0, 0)) ∧ Keeps [] w wr

def HStepRel (w : World) (b f c mb B p q gb cb : Nat) (o : Bkt) (gk : Nat) (u : Value) (wr : World) : Prop :=
  ∃ i Z o1, i ≤ 40 ∧ gk = 40 - i ∧ u = .int .i64 i ∧ Rnd (3, 5, 64) 90 0 o i Z o1 ∧ SweepAt wr B p q gb Z ∧ BucketAt wr b f c mb false [] o1 ∧ wr.heap[cb]? = some (.cells #[.int .i64 3, .int .i64 5, .int .i64 64] 78 (0, 0)) ∧ Keeps [] w wr

def HLookRel (w5 : World) (n gk : Nat) (u : Value) (wr : World) : Prop := ∃ i, i ≤ n ∧ gk = n - i ∧ u = .int .i64 i ∧ Keeps [] w5 wr

/-- Behind a round that a part of one went ahead of nothing of the block is left. -/
theorem half_left {o o1 : Bkt} {k j : Nat} (h : Parted o k) (ho : o1 = delAll (halfO o) ((victR (3, 5, 64) 90 (halfO o)).take j)) {n : ByteArray} (hn : n ∈ (delAll o1 (victR (3, 5, 64) 91 o1)).map (·.1)) :
    ∃ id part : ByteArray, splitL n.data.toList = some (id.data.toList, part.data.toList) ∧ (id.toList == idH.toList) = false := by
  subst ho
  have hP := halfO_parted h
  have hP2 := (hP.sub ((victR (3, 5, 64) 90 (halfO o)).take j)).sub (victR (3, 5, 64) 91 (delAll (halfO o) ((victR (3, 5, 64) 90 (halfO o)).take j)))
  obtain ⟨id, part, hi, hp, rfl⟩ := hP2.name hn
  refine ⟨id, part, object_split hi hp, ?_⟩
  rw [toList_beq, decide_eq_false_iff_not]
  rintro rfl
  exact victR_half hP (halfO_mark o) (by decide) (by decide) j part hp hn

theorem part3_cells {w : World} {pb : Nat} {t : TypeId} {z : Nat × Nat} (h : w.heap[pb]? = some (.cells #[.string chunksB, .string indexB, .string metaB] t z)) {i : Nat} (hi : i < 3) : w.cell? ⟨pb, i, none⟩ = some (.string (partN i)) := by
  rw [cells_at h]
  rcases i with _ | _ | _ | i
  · rfl
  · rfl
  · rfl
  · omega


set_option linter.unusedSimpArgs false in
set_option maxRecDepth 100000 in
set_option maxHeartbeats 1000000 in
theorem sweepHalf_walk (w : World) (hv : LibVar w) (v : Value) (L : List OneS) (hL : SliceArg 6 encOne w v L) (st : Int) :
    Calls Try.prog 6 #[v, .int .i64 st] w fun e w' => e = .returned (.bool true) ∧ Keeps [] w w' := by
  have HL := Lib.hid hL
  have Haw := Lib.hid (awake22_spec w hv)
  have hI := fill15 L
  clear hL
  generalize hS : fillS (L.take 15) = S at hI
  have HS := Lib.hid hS
  have hP := hI.parted
  have HP := Lib.hid (And.intro hP (And.intro (halfO_parted hP) hv))
  have Hmk := Lib.hid (fun W => make_spec W 9 9 (by decide) (by decide))
  rw [show (⟨(identL 9 9).toArray⟩ : ByteArray) = idH from rfl] at Hmk
  have hids : idH.size ≤ 16 := by rw [id_size idH_ok]; omega
  clear hS hI hP hv
  go_enter Try.func6, Try.ntmps6
  go_wp2_with fail
  refine Haw.out.mono ?_
  rintro e w1 ⟨rfl, hk1⟩
  have Hf := Lib.hid (filled_spec w1 v L (HL.out.keep hk1))
  have H1 := Lib.hid hk1
  clear hk1
  go_wp2_with fail
  refine Hf.out.mono ?_
  rintro e w2 ⟨b, f, c, mb, mm, rfl, hb2, hm2, hk2, l1, l2, l3, l4, l5⟩
  rw [HS.out] at hb2
  have hw1 : w.heap.size ≤ w1.heap.size := H1.out.size
  have H2 := Lib.hid (And.intro hb2 (H1.out.trans hk2))
  have hlt := hb2.lt
  clear hb2 hm2 hk2 H1 Hf
  go_wp2_with fail
  refine (Hmk.out w2).mono ?_
  rintro e w3 ⟨rfl, hk3⟩
  have n3 := heap_new w3 (.cells #[.string chunksB, .string indexB, .string metaB] 9)
  have k3 : Keeps [] w3 (w3.alloc (.cells #[.string chunksB, .string indexB, .string metaB] 9)) := (Keeps.refl [] w3).alloc _
  have hb3 := (hk3.trans k3).keep_bucket H2.out.1
  have hk03 := H2.out.2.trans (hk3.trans k3)
  have hw3 : w2.heap.size ≤ w3.heap.size := hk3.size
  have Hn3 := Lib.hid (And.intro n3 (And.intro hb3 hk03))
  clear n3 k3 hb3 hk03 hk3
  unfold chunksB indexB metaB at Hn3
  go_wp2_with fail
  generalize w3.alloc _ = W3 at Hn3 ⊢
  generalize w3.heap.size = pb at Hn3 hw3 ⊢
  go_loopg [35] 3 (HPutRel w b f c mb pb S.1)
  case atStart => exact ⟨0, by decide, rfl, rfl, Hn3.out.2.1, Hn3.out.1, Hn3.out.2.2⟩
  case round =>
    obtain ⟨i, hi3, hgk, rfl, hb, hn, hkr⟩ := hrel
    have Hgk := Lib.hid hgk
    clear hgk Hn3
    by_cases hit : i < 3
    · have dp := part3_cells hn hit
      have lp := lt_of_at hn
      have hit' : (i : Int) < 3 := by omega
      have hos := object_size idH_ok (partN_mem i)
      have hpz := part_size (partN_mem i)
      have Hput := Lib.hid (put_spec wr b f c mb false [] (halfN S.1 i) hb (objectB idH (partN i)) askB 1 hos.2 (by omega))
      have H := Lib.hid (And.intro hn hkr)
      have hnx : halfN S.1 (i + 1) = put (halfN S.1 i) (objectB idH (partN i)) (askB, 1) := rfl
      have Hnx := Lib.hid hnx
      clear hb hn hkr hnx
      unfold askB at Hput Hnx
      generalize partN i = pt at dp hpz Hput Hnx
      go_wp2_with fail
      refine (object_spec wr idH pt (by omega) (by omega)).mono ?_
      rintro e w4 ⟨rfl, rfl⟩
      go_wp2_with fail
      refine Hput.out.mono ?_
      rintro e w5 ⟨rfl, hb5, hk5⟩
      have H5 := Lib.hid (And.intro hb5 (And.intro (hk5.at_ H.out.1 (by simp; omega)) (H.out.2.after hk5 (by simp; omega))))
      clear hb5 hk5
      go_wp2_with fail
      go_roundg (3 - (i + 1))
      case measure => have := Hgk.out; omega
      case rel => exact ⟨i + 1, by omega, rfl, by go_num, by rw [Hnx.out]; exact H5.out.1, H5.out.2.1, H5.out.2.2⟩
    · obtain rfl : i = 3 := by omega
      have Hobj := object_size idH_ok mark_part
      have Hput := Lib.hid (fun W hW => put_spec W b f c mb false [] (halfN S.1 3) hW (objectB idH markB) (markBytes idH 1) 1 Hobj.2 (by omega))
      have Hem := Lib.hid (encodeMark_spec wr idH (by omega) 1 1 (by decide) (by decide))
      rw [show (⟨(markL idH.data.toList 1).toArray⟩ : ByteArray) = markBytes idH 1 from rfl] at Hem
      have hmz : markB.size ≤ 4 := by decide
      have H := Lib.hid (And.intro hb hkr)
      have hnx : halfO S.1 = put (halfN S.1 3) (objectB idH markB) (markBytes idH 1, 1) := rfl
      have Hnx := Lib.hid hnx
      have Hos := Lib.hid (fun W => object_spec W idH markB (by omega) (by omega))
      clear hb hn hkr hnx Hobj
      unfold markB at Hput Hnx Hos
      generalize markBytes idH 1 = md at Hput Hem Hnx
      go_wp2_with fail
      refine (Hos.out wr).mono ?_
      rintro e w4 ⟨rfl, rfl⟩
      go_wp2_with fail
      refine Hem.out.mono ?_
      rintro e w4 ⟨rfl, hk4⟩
      have hb4 := hk4.keep_bucket H.out.1
      have hk04 := H.out.2.trans hk4
      have Hput4 := Lib.hid (Hput.out w4 hb4)
      have Hk04 := Lib.hid hk04
      clear hb4 hk04 hk4
      go_wp2_with fail
      refine Hput4.out.mono ?_
      rintro e w5 ⟨rfl, hb5', hk5⟩
      have hb5 : BucketAt w5 b f c mb false [] (halfO S.1) := by rw [Hnx.out]; exact hb5'
      have H5 := Lib.hid (And.intro hb5 (Hk04.out.after hk5 (by simp; omega)))
      have Hc := Lib.hid (config_spec w5 3 5 63)
      rw [show (3 : Int) % 32 = 3 from rfl, show (5 : Int) % 32 = 5 from rfl, show 1 + (63 : Int) % 64 = 64 from rfl] at Hc
      clear hb5' hb5 hk5 Hput4
      go_wp2_with fail
      refine Hc.out.mono ?_
      rintro e w6 ⟨rfl, hk6⟩
      have n6 := heap_new w6 (.cells #[.int .i64 3, .int .i64 5, .int .i64 64] 78)
      have k6 : Keeps [] w6 (w6.alloc (.cells #[.int .i64 3, .int .i64 5, .int .i64 64] 78)) := (Keeps.refl [] w6).alloc _
      have hk6' := hk6.trans k6
      have H6 := Lib.hid (And.intro (hk6'.keep_bucket H5.out.1) (And.intro n6 (H5.out.2.trans hk6')))
      have hlt5 := H5.out.1.lt
      have hw5 : w5.heap.size ≤ w6.heap.size := hk6.size
      have hcc := cells_at n6
      have hlc := lt_of_at n6
      clear n6 k6 hk6' hk6
      go_upto_region 14 with fail
      generalize w6.alloc _ = W6 at H6 hcc hlc ⊢
      generalize w6.heap.size = cb at H6 hw5 hcc hlc ⊢
      have Hn := Lib.hid (sweepNew_spec W6 (3, 5, 64))
      go_wp2_with fail
      refine Hn.out.mono ?_
      rintro e w7 ⟨p, q, gb, rfl, hz7, hk7⟩
      have hlow : b < W6.heap.size ∧ f < W6.heap.size ∧ c < W6.heap.size ∧ mb < W6.heap.size := H6.out.1.lt
      have H7 := Lib.hid (And.intro hz7 (And.intro (hk7.keep_bucket H6.out.1) (And.intro (hk7.at_ H6.out.2.1 (by simp)) (H6.out.2.2.trans hk7))))
      have hwB : w.heap.size ≤ W6.heap.size := H6.out.2.2.size
      have hbase : w.heap.size ≤ b ∧ w.heap.size ≤ f ∧ w.heap.size ≤ c ∧ w.heap.size ≤ mb := by omega
      have hvl := HP.out.2.2.lt
      clear hz7 hk7 hcc Hn Hc Hmk Hem Hput Hos
      go_wp2_with fail
      go_loopg [13] 40 (HStepRel w b f c mb W6.heap.size p q gb cb (halfO S.1))
      case atStart => exact ⟨0, stA (3, 5, 64) 0, _, by decide, rfl, rfl, Rnd.a, H7.out.1, H7.out.2.1, H7.out.2.2.1, H7.out.2.2.2⟩
      case round =>
        obtain ⟨i, Z1, o1, hi40, hgk, rfl, hR, hz, hb, hn, hkr⟩ := hrel
        have Hgk2 := Lib.hid hgk
        clear hgk H7
        have Hd := Lib.hid (sweepDone_spec wr W6.heap.size p q gb Z1 hz)
        have hpq : W6.heap.size ≤ p ∧ W6.heap.size ≤ q ∧ W6.heap.size ≤ gb := by
          obtain ⟨h1, _, _, _, _, _, _, _, _, _, h8⟩ := hz
          exact ⟨h1, h8.1, h8.2.1⟩
        by_cases hstep : (i : Int) < min (max st 0) 40 ∧ (Z1.ready && Z1.left.isEmpty) = false
        · obtain ⟨hgo, hd⟩ := hstep
          have hi39 : i + 1 ≤ 40 := by omega
          have Hst := Lib.hid (rnd_step wr b f c mb W6.heap.size p q gb (3, 5, 64) 90 0 (halfO S.1) o1 i 19 Z1 hR hd hb hz hlow (HP.out.2.2.same hkr) (by omega) HP.out.2.1 (by decide) (by decide) (by decide) (by decide))
          rw [hd] at Hd
          have H := Lib.hid (And.intro hn hkr)
          clear hR hz hb hn hkr hd
          go_wp2_with fail
          refine Hd.out.mono ?_
          rintro e w8 ⟨rfl, rfl⟩
          go_wp2_with fail
          refine Hst.out.mono ?_
          rintro e w8 ⟨Z2, o2, ⟨rfl, hz2, hb2, hk2⟩, hR2⟩
          have H2 := Lib.hid (And.intro hR2 (And.intro hz2 (And.intro hb2 (And.intro (hk2.at_ H.out.1 (by simp; omega)) (H.out.2.after hk2 (fun x hx => .inr (by
            simp only [List.mem_cons, List.not_mem_nil, or_false] at hx
            omega)))))))
          clear hz2 hb2 hk2 hR2
          go_wp2_with fail
          go_roundg (40 - (i + 1))
          case measure => have := Hgk2.out; omega
          case rel => exact ⟨i + 1, Z2, o2, hi39, rfl, by go_num, H2.out.1, H2.out.2.1, H2.out.2.2.1, H2.out.2.2.2.1, H2.out.2.2.2.2⟩
        · obtain ⟨j, hj⟩ := rnd_some hR
          have hP1 : Parted o1 19 := by rw [hj]; exact HP.out.2.1.sub _
          have hPf := hP1.sub (victR (3, 5, 64) 91 o1)
          have Hnone := Lib.hid (fun n hn => half_left HP.out.1 hj (n := n) hn)
          have hb' := hb.lt
          have Hn8 := Lib.hid (sweepNew_spec wr (3, 5, 64))
          have H := Lib.hid (And.intro hb (And.intro hkr hn))
          have hwr : w.heap.size ≤ wr.heap.size := hkr.size
          have cc := cells_at hn
          have lc := lt_of_at hn
          have HP1 := Lib.hid (And.intro hP1 hPf)
          clear hR hz hb hn hkr hj hP1 hPf
          by_cases hgo : (i : Int) < min (max st 0) 40
          case' pos =>
            have hd : (Z1.ready && Z1.left.isEmpty) = true := by
              cases hx : (Z1.ready && Z1.left.isEmpty) with
              | true => rfl
              | false => exact absurd ⟨hgo, hx⟩ hstep
            rw [hd] at Hd
            clear hd hstep
            go_wp2_with fail
            refine Hd.out.mono ?_
            rintro e w8 ⟨rfl, rfl⟩
            go_upto_region 20 with fail
          case' neg =>
            clear hstep
            go_upto_region 20 with fail
          all_goals
            go_wp2_with fail
            refine Hn8.out.mono ?_
            rintro e w8 ⟨p2, q2, gb2, rfl, hz8, hk8⟩
            have Hr := Lib.hid (round_spec w w8 b f c mb wr.heap.size p2 q2 gb2 19 o1 ⟨(3, 5, 64), scan0, [], false, 0⟩ 91 (hk8.keep_bucket H.out.1) hz8 hb' (by omega) (H.out.2.1.trans hk8) HP.out.2.2 HP1.out.1 (by decide) (by decide) (by decide) (by decide))
            clear hz8 hk8
            go_wp2_with fail
            refine Hr.out.mono ?_
            rintro e w9 ⟨m, rfl, q9, gb9, -, hb9, hk9, -⟩
            have hm0 : ¬ ((m : Int) < 0) := by omega
            have hb9' : BucketAt w9 b f c mb false [] (delAll o1 (victR (3, 5, 64) 91 o1)) := hb9
            have HP2 := Lib.hid HP1.out.2
            generalize delAll o1 (victR (3, 5, 64) 91 o1) = o2 at hb9' HP2 Hnone
            have Hlk := Lib.hid (look_parted hb9' HP2.out (by decide))
            have H9 := Lib.hid hk9
            clear hb9 hb9' hk9 Hr
            go_wp2_with fail
            refine Hlk.out.mono ?_
            rintro e wA ⟨vA, rfl, hsA, hkA⟩
            obtain ⟨aA, cA, rfl, xA1, xA2, -, xA4⟩ := hsA
            have Hi := Lib.hid xA4
            have hll := listing_len o2
            have hlP := HP2.out.len
            have Hlm := Lib.hid (fun x (hx : x ∈ listing o2 ⟨#[]⟩) => HP2.out.key x (listing_of hx))
            have Hlk2 := Lib.hid (fun x (hx : x ∈ listing o2 ⟨#[]⟩) => Hnone.out x.1 (listing_mem.1 (List.mem_map.2 ⟨x, hx, rfl⟩)))
            have hl19 : (listing o2 ⟨#[]⟩).length ≤ 19 := by omega
            generalize listing o2 ⟨#[]⟩ = LL at xA1 xA2 Hi Hlm Hlk2 hl19 ⊢
            have HA := Lib.hid (H9.out.trans hkA)
            clear xA4 hll hkA Hlk
            go_wp2_with fail
            go_loopg [79] LL.length (HLookRel wA LL.length)
            case atStart => exact ⟨0, Nat.zero_le _, rfl, rfl, Keeps.refl _ _⟩
            case round =>
              obtain ⟨z, hzl, hgk, rfl, hkr⟩ := hrel
              have Hgk3 := Lib.hid hgk
              clear hgk
              by_cases hzt : z < LL.length
              · obtain ⟨b2, of2, rfl, _, hb2, hc2⟩ := Hi.out z hzt
                have cell : ∀ j, j < 3 → wr.cell? ⟨b2, of2 + (z * 3 + j), none⟩ = (infoOf LL[z])[j]? := fun j hj => (hkr.cell hb2 (by simp)).trans (hc2 j hj)
                have d0 : wr.cell? ⟨b2, of2 + z * 3, none⟩ = (infoOf LL[z])[0]? := cell 0 (by omega)
                have d1 : wr.cell? ⟨b2, of2 + z * 3 + 1, none⟩ = (infoOf LL[z])[1]? := by rw [Nat.add_assoc]; exact cell 1 (by omega)
                have d2 : wr.cell? ⟨b2, of2 + z * 3 + 2, none⟩ = (infoOf LL[z])[2]? := by rw [Nat.add_assoc]; exact cell 2 (by omega)
                have lb2 := hkr.lt hb2
                clear cell hc2
                have hsm := Hlm.out LL[z] (List.getElem_mem _)
                have hleft := Hlk2.out LL[z] (List.getElem_mem _)
                generalize LL[z] = x at d0 d1 d2 hsm hleft
                obtain ⟨nm, dt, tk⟩ := x
                simp only at hsm hleft
                obtain ⟨id, part, hs1, hs2⟩ := hleft
                simp only [infoOf, List.getElem?_cons_zero, List.getElem?_cons_succ] at d0 d1 d2
                obtain ⟨ds, hds⟩ : ∃ n : Int, n = dt.size := ⟨_, rfl⟩
                rw [← hds] at d1
                clear hds
                have hzt' : (z : Int) < (LL.length : Int) := by omega
                have ka : Keeps [] wr (wr.alloc (.cells #[.string nm, .int .i64 ds, .int .i64 tk] 87)) := (Keeps.refl [] wr).alloc _
                have Hsp := Lib.hid (split_spec _ (((HP.out.2.2.same HA.out).same hkr).same ka) nm (by omega))
                have H3 := Lib.hid (hkr.trans ka)
                rw [hs1] at Hsp
                clear hkr ka hs1
                go_wp2_with fail
                refine Hsp.out.mono ?_
                rintro e wB ⟨rfl, hkB⟩
                simp only [splitVals, ba_mk]
                have H4 := Lib.hid (H3.out.trans hkB)
                clear hkB d0 d1 d2
                go_wp2_with fail
                go_roundg (LL.length - (z + 1))
                case measure => have := Hgk3.out; omega
                case rel => exact ⟨z + 1, by omega, rfl, by go_num, H4.out⟩
              · obtain rfl : z = LL.length := by omega
                have HE := Lib.hid (HA.out.trans hkr)
                clear hkr
                go_wp2_with fail
                go_ret
                exact ⟨rfl, HE.out⟩


theorem sweepHalf_law (W : World) (hv : LibVar W) (v0 : Value) (h0 : ∃ L : List OneS, SliceArg 6 encOne W v0 L ∧ ∀ x ∈ L, True) (n : Int) (_ : (Lit.int .i64 n).wf = true) :
    Calls Try.prog 6 #[v0, .int .i64 n] W fun e w' => e = .returned (.bool true) ∧ Keeps [] W w' := by
  obtain ⟨L, hs, _⟩ := h0
  exact sweepHalf_walk W hv v0 L hs n

end Go.Proofs.Ytaccjmdljiignaa
