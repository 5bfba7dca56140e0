/-
  SweepDeletes answers true for every input, and leaves all memory that was there as it was.
  No condition: every input that can be read.
-/
import Derived.Test.YtbndpegilpgheaaGreatSweepAwake
import Derived.Test.YtbndpegilpgheaaGreatSweepGround
import Derived.Test.YtbndpegilpgheaaGreatDelMay
import Derived.Test.YtbndpegilpgheaaGreatDelStep
import Derived.Maps.OwnSet
import Derived.Deep.CutBlock
import Derived.Deep.CutRange
namespace Go.Proofs.YtbndpegilpgheaaGreat
open Go Go.RowKit Go.Conc Go.Maps

theorem MapAt.run_len {P : Program} {w : World} {b : Nat} {m : KV} {t k e : TypeId} (h : MapAt w b m) (ht : P.underlying t = some (.map k e)) (ty : TypeId) : (Builtin.len_ #[t] ty #[.map (some b)]).run P w = .ok (.int .i64 m.length) w := by
  obtain ⟨E, c, h1, h2, rfl⟩ := h
  simp [Builtin.len_, run_underlying ht, MapKept.run_getObj_map h1, goInt, Result.andThen, pairs]

/-- What holds between two rounds. -/
structure DAt (w wr : World) (b f c mb B p q gb cb mo : Nat) (cfg : Int × Int × Int) (k : Nat) (now : Int) (g : Nat) (armed : Bool) (Q : List (Int × Bool)) (o : Bkt) (Z : SweepS) (H : PartsM) : Prop where
  inv : DInv cfg k now o Z H g
  at_ : BucketAt wr b f c mb armed Q o
  swp : SweepAt wr B p q gb Z
  map : MapAt wr mo (encMap encI H)
  cell : wr.heap[cb]? = some (.cells #[.int .i64 cfg.1, .int .i64 cfg.2.1, .int .i64 cfg.2.2] 50 (0, 0))
  keep : Keeps [] w wr
  now0 : 31 ≤ now ∧ now ≤ 31 + 15 * k
  few : g ≤ 100 * k

/-- The blocks lie apart. -/
structure Apart (w : World) (b f c mb B p cb mo : Nat) : Prop where
  new : w.heap.size ≤ b ∧ w.heap.size ≤ f ∧ w.heap.size ≤ c ∧ w.heap.size ≤ mb ∧ w.heap.size ≤ cb ∧ w.heap.size ≤ mo ∧ w.heap.size ≤ B
  low : b < B ∧ f < B ∧ c < B ∧ mb < B
  ne : mo ≠ b ∧ mo ≠ f ∧ mo ≠ c ∧ mo ≠ mb ∧ mo ≠ p ∧ mo ≠ cb ∧ cb ≠ b ∧ cb ≠ f ∧ cb ≠ c ∧ cb ≠ mb ∧ cb < B ∧ p < mo

def DRel (w : World) (b f c mb B p cb mo : Nat) (cfg : Int × Int × Int) (gk : Nat) (u17 u18 u19 : Value) (wr : World) : Prop :=
  ∃ k now g q gb armed Q o Z H, k ≤ 50 ∧ gk = 50 - k ∧ u19 = .int .i64 k ∧ u17 = .int .i64 now ∧ u18 = .int .i64 (g : Nat) ∧ q ≠ mo ∧ gb ≠ mo ∧ DAt w wr b f c mb B p q gb cb mo cfg k now g armed Q o Z H

def ArmRel2 (w w2 : World) (b f c mb : Nat) (o : Bkt) (n gk : Nat) (u : Value) (wr : World) : Prop :=
  ∃ (k : Nat) (armed : Bool) (Q : List (Int × Bool)), k ≤ n ∧ k ≤ 8 ∧ gk = 8 - k ∧ u = .int .i64 k ∧ BucketAt wr b f c mb armed Q o ∧ Keeps [f, c] w2 wr ∧ Keeps [] w wr


theorem Noted.of_listing {H : PartsM} {o : Bkt} (h : Noted H (listing o ⟨#[]⟩)) (hnd : (o.map (·.1)).Nodup) : Noted H o := fun id part hi hp x hx => h id part hi hp x (by rw [listing_look hnd]; exact hx)

/-- What a step, and Again behind an idle one, leave. -/
structure DMid (w wx : World) (b f c mb B p cb mo m : Nat) (cfg : Int × Int × Int) (now : Int) (Q : List (Int × Bool)) (o : Bkt) (Z : SweepS) (H : PartsM) (armed1 : Bool) (Q1 : List (Int × Bool)) (o1 : Bkt) : Prop where
  ex : ∃ err Z2 q2 gb2, DStep now Q o Z err Z2 o1 ∧ SweepAt wx B p q2 gb2 Z2 ∧ q2 ≠ mo ∧ gb2 ≠ mo
  at_ : BucketAt wx b f c mb armed1 Q1 o1
  map : MapAt wx mo (encMap encI H)
  was : MapAt wx m (encMap encT (listing o ⟨#[]⟩))
  cell : wx.heap[cb]? = some (.cells #[.int .i64 cfg.1, .int .i64 cfg.2.1, .int .i64 cfg.2.2] 50 (0, 0))
  keep : Keeps [] w wx


def cntD (D o1 : Bkt) : Nat := (D.filter fun p => (look o1 p.1).isNone).length

theorem cntD_le (D o1 : Bkt) : cntD D o1 ≤ D.length := List.length_filter_le _ _

theorem cntD_snoc (D o1 : Bkt) (p : ByteArray × Ob) : cntD (D ++ [p]) o1 = cntD D o1 + if (look o1 p.1).isNone then 1 else 0 := by
  unfold cntD
  rw [List.filter_append, List.length_append]
  congr 1
  cases h : (look o1 p.1).isNone <;> simp [h]

theorem cntD_all {D o o1 : Bkt} (h : (listing o ⟨#[]⟩).Perm D) : cntD D o1 = cntK o o1 := by
  have h1 : cntD D o1 = cntD (listing o ⟨#[]⟩) o1 := (h.filter _).length_eq.symm
  have h2 : cntD (listing o ⟨#[]⟩) o1 = (((listing o ⟨#[]⟩).map (·.1)).filter fun n => decide (n ∉ o1.map (·.1))).length := by
    unfold cntD
    rw [List.filter_map, List.length_map]
    congr 1
    apply List.filter_congr
    intro p _
    rw [Bool.eq_iff_iff, Option.isNone_iff_eq_none, look_none_iff, Function.comp_apply, decide_eq_true_iff]
  rw [h1, h2, listing_keys]
  exact ((sortB_perm _).filter _).length_eq

theorem cntK_le (o o1 : Bkt) : cntK o o1 ≤ o.length := by
  have := List.length_filter_le (fun n => decide (n ∉ o1.map (·.1))) (o.map (·.1))
  rwa [List.length_map] at this

theorem ranging_len {w : World} {m r cnt : Nat} {L D : Bkt} (h : Ranging Tryz.prog 9 w m r (encMap encT L) (encMap encT D) cnt) : D.length ≤ L.length := by
  obtain ⟨h1, h2⟩ := h.mem
  rw [keys_enc] at h2
  have := nodup_len h2 (m := L.map (·.1)) fun n hn => by
    obtain ⟨p, hp, rfl⟩ := List.mem_map.1 hn
    have h3 := h1 (p.1, encT p.2) (List.mem_map.2 ⟨p, hp, rfl⟩)
    obtain ⟨y, _, hy⟩ := mem_enc h3
    exact List.mem_map.2 ⟨_, hy, rfl⟩
  simpa using this

def GoneRel (w5 : World) (m r g : Nat) (L o1 : Bkt) (gk : Nat) (u : Value) (wr : World) : Prop :=
  ∃ D : Bkt, Ranging Tryz.prog 9 wr m r (encMap encT L) (encMap encT D) gk ∧ u = .int .i64 ((g + cntD D o1 : Nat) : Int) ∧ Keeps [] w5 wr

def newB : ByteArray := ⟨#[110, 101, 119]⟩

theorem new_ok {now : Int} {id part : ByteArray} (hn : 0 ≤ now) (hi : isIDB id.data.toList = true) (hp : part = chunksB ∨ part = indexB) : ObjOk now (objectB id part, (newB, now)) := by
  have hpp : part ∈ partsB := by rcases hp with rfl | rfl <;> simp [partsB]
  refine ⟨⟨id, part, hi, hpp, rfl⟩, hn, Int.le_refl _, by show newB.size ≤ 1000; decide, fun id' t e ht => ?_⟩
  have h2 := (object_inj hi hpp (markSays_id ht) mark_part e).2
  rcases hp with rfl | rfl <;> exact absurd h2 (by decide)


set_option linter.unusedSimpArgs false in
set_option maxRecDepth 100000 in
set_option maxHeartbeats 4000000 in
theorem sweepDeletes_walk (w : World) (hv : LibVar w) (v0 v1 v3 v4 : Value) (L : List OneS) (L1 L3 L4 : List Int) (hL : SliceArg 6 encOne w v0 L) (h1 : SliceArg 1 (fun n => [.int .i64 n]) w v1 L1) (h3 : SliceArg 1 (fun n => [.int .i64 n]) w v3 L3) (h4 : SliceArg 1 (fun n => [.int .i64 n]) w v4 L4) (c0 c1 c2 : Int) :
    Calls Tryz.prog 5 #[v0, v1, .agg #[.int .i64 c0, .int .i64 c1, .int .i64 c2], v3, v4] w fun e w' => e = .returned (.bool true) ∧ Keeps [] w w' := by
  obtain ⟨a1, q1, rfl, hm1, hx1⟩ := h1
  obtain ⟨a3, q3, rfl, hm3, hx3⟩ := h3
  obtain ⟨a4, q4, rfl, hm4, hx4⟩ := h4
  unfold maxLen at hm1 hm3 hm4
  have Hx := Lib.hid (And.intro hx1 (And.intro hx3 hx4))
  have HL := Lib.hid hL
  have Haw := Lib.hid (fun W (hk : Keeps [] w W) => awake22_spec W (hv.same hk))
  have hI := fill15 L
  have hid := fill_ids (L.take 15)
  clear hL hx1 hx3 hx4
  generalize hS : fillS (L.take 15) = S at hI hid
  have HS := Lib.hid hS
  have hP := hI.parted
  obtain ⟨cfg, hcfg⟩ : ∃ cfg : Int × Int × Int, cfg = (c0 % 32, c1 % 32, 1 + c2 % 64) := ⟨_, rfl⟩
  have hcf := fun W => config_spec W c0 c1 c2
  rw [show c0 % 32 = cfg.1 from by rw [hcfg], show c1 % 32 = cfg.2.1 from by rw [hcfg], show 1 + c2 % 64 = cfg.2.2 from by rw [hcfg]] at hcf
  have Hcf := Lib.hid hcf
  have HP := Lib.hid (And.intro (DInv.first (cfg := cfg) hP hid) hv)
  clear hS hI hP hid hv hcf hcfg
  obtain ⟨o0, M0⟩ := S
  simp only at HP
  go_enter Tryz.func5, Tryz.ntmps5
  go_wp2_with fail
  refine (Haw.out _ (by repeat (first | exact Keeps.refl _ _ | assumption | refine Keeps.drew ?_ | refine Keeps.drewN ?_ _ | refine Keeps.alloc ?_ _ | refine Keeps.setCell ?_ (by first | exact .inl (by simp) | exact .inr (by simp; done) | exact .inr (by simp; omega)) _))).mono ?_
  rintro e w1 ⟨rfl, hk1⟩
  have n1 := hk1.at_ (heap_new w _) (by simp)
  have k1 : Keeps [] w w1 := Keeps.trans (by repeat (first | exact Keeps.refl _ _ | assumption | refine Keeps.drew ?_ | refine Keeps.drewN ?_ _ | refine Keeps.alloc ?_ _ | refine Keeps.setCell ?_ (by first | exact .inl (by simp) | exact .inr (by simp; done) | exact .inr (by simp; omega)) _)) hk1
  have Hf := Lib.hid (filled_spec w1 v0 L (HL.out.keep k1))
  have H1 := Lib.hid (And.intro n1 k1)
  have hw1 : w.heap.size < w1.heap.size := lt_of_at n1
  clear hk1 n1 k1
  go_wp2_with fail
  refine Hf.out.mono ?_
  rintro e w2 ⟨b, f, c, mb, mm, rfl, hb2, hm2, hk2, l1, l2, l3, l4, l5⟩
  rw [HS.out] at hb2
  have n2 := hk2.at_ H1.out.1 (by simp)
  have c2' := cells_at n2
  have ll2 := lt_of_at n2
  have H2 := Lib.hid (And.intro (show BucketAt w2 b f c mb false [] o0 from hb2) (H1.out.2.trans hk2))
  have hlt2 := hb2.lt
  clear hb2 hm2 hk2 H1 Hf n2
  go_wp2_with fail
  refine (Hcf.out _).mono ?_
  rintro e w3 ⟨rfl, hk3⟩
  have n4 := heap_new w3 (.cells #[.int .i64 cfg.1, .int .i64 cfg.2.1, .int .i64 cfg.2.2] 50)
  have k24 : Keeps [] w2 (w3.alloc (.cells #[.int .i64 cfg.1, .int .i64 cfg.2.1, .int .i64 cfg.2.2] 50)) := hk3.trans ((Keeps.refl [] w3).alloc _)
  have H4 := Lib.hid (And.intro (k24.keep_bucket H2.out.1) (And.intro (H2.out.2.trans k24) n4))
  have hw3 : w2.heap.size ≤ w3.heap.size := hk3.size
  clear hk3 n4 k24 H2 c2' ll2
  have hcb0 : w2.heap.size ≤ w3.heap.size ∧ w3.heap.size < (w3.alloc (.cells #[.int .i64 cfg.1, .int .i64 cfg.2.1, .int .i64 cfg.2.2] 50)).heap.size := ⟨hw3, by simp⟩
  go_upto_block 0 with fail
  generalize w3.alloc (.cells #[.int .i64 cfg.1, .int .i64 cfg.2.1, .int .i64 cfg.2.2] 50) = W4 at H4 hcb0 ⊢
  generalize w3.heap.size = cb at H4 hcb0 hw3 ⊢
  have hnew : w.heap.size ≤ b ∧ w.heap.size ≤ f ∧ w.heap.size ≤ c ∧ w.heap.size ≤ mb := by omega
  have hcbn : b < cb ∧ f < cb ∧ c < cb ∧ mb < cb := by omega
  clear l1 l2 l3 l4 l5 hw3 hw1 hlt2
  go_cut [14] from 44 (fun _ wc => ∃ armed Q, BucketAt wc b f c mb armed Q o0 ∧ Keeps [f, c] W4 wc ∧ Keeps [] w wc)
  case first =>
    go_wp2_with fail
    go_loopg [14] 8 (ArmRel2 w W4 b f c mb o0 L4.length)
    case atStart => exact ⟨0, false, [], Nat.zero_le _, Nat.zero_le _, rfl, rfl, H4.out.1, Keeps.refl _ _, H4.out.2.1⟩
    case round =>
      obtain ⟨k, armed, Q, hk, hk8, hgk, rfl, hbr, hkr, hkw⟩ := hrel
      have Hg := Lib.hid hgk
      clear hgk
      by_cases hlt : k < L4.length
      · by_cases hlt8 : k < 8
        · obtain ⟨b2, of2, rfl, hb2, hc2⟩ := Hx.out.2.2 k hlt
          have d0 : wr.cell? ⟨b2, of2 + k, none⟩ = some (.int .i64 L4[k]) := by
            rw [hkw.cell hb2 (by simp)]
            simpa using hc2 0 (by omega)
          have lb2 := hkw.lt hb2
          generalize L4[k] = xk at d0
          have hlt' : (k : Int) < (L4.length : Int) := by omega
          have hlt8' : (k : Int) < 8 := by omega
          have cbk := cells_at hbr.cells
          have lbk := hbr.lt.1
          have Hr := Lib.hid (And.intro hbr (And.intro hkr hkw))
          clear hbr hkr hkw hc2
          go_wp2_with fail
          go_still_tail 15, (by kernel_rfl)
          change wpList _ _ _ _ _ wr.drew
          go_wp2_with fail
          refine (arm_weak wr.drew f c armed Q _ _ (bits_hi_i64 _ _ _) (((Keeps.refl [] wr).drew).keep_bucket Hr.out.1).fuse).mono ?_
          rintro e w5 ⟨r, Q5, rfl, hq5, hk5⟩
          have H5 := Lib.hid (And.intro ((((Keeps.refl [] wr).drew).keep_bucket Hr.out.1).tried hk5 hq5) (And.intro (Hr.out.2.1.drew.trans hk5) (Hr.out.2.2.drew.after hk5 (by simp; omega))))
          clear hq5 hk5 d0 cbk lbk lb2 Hr
          go_wp2_with fail
          go_roundg (8 - (k + 1))
          case measure => have := Hg.out; omega
          case rel => exact ⟨k + 1, armed, Q5, by omega, by omega, rfl, by go_num, H5.out.1, H5.out.2.1, H5.out.2.2⟩
        · have He := Lib.hid (And.intro hbr (And.intro hkr hkw))
          have hlt' : (k : Int) < (L4.length : Int) := by omega
          have hlt8' : ¬ (k : Int) < 8 := by omega
          clear hbr hkr hkw
          go_wp2_with fail
          go_meet
          case rel => exact ⟨armed, Q, He.out.1, He.out.2.1, He.out.2.2⟩
      · have He := Lib.hid (And.intro hbr (And.intro hkr hkw))
        have hlt' : ¬ (k : Int) < (L4.length : Int) := by omega
        clear hbr hkr hkw
        go_wp2_with fail
        go_meet
        case rel => exact ⟨armed, Q, He.out.1, He.out.2.1, He.out.2.2⟩
  case rest =>
    obtain ⟨armed, Q, hb5, hk5, hkw5⟩ := hcut
    have n5 := hk5.at_ H4.out.2.2 (by simp; omega)
    have c5 := cells_at n5
    have l5 := lt_of_at n5
    have H5 := Lib.hid (And.intro hb5 (And.intro n5 hkw5))
    clear hb5 hk5 hkw5 n5
    go_wp2_with fail
    refine (sweepNew_spec _ cfg).mono ?_
    rintro e w6 ⟨p, q, gb, rfl, hz6, hk6⟩
    have n6 := hk6.at_ H5.out.2.1 (by simp)
    have hmm := @run_makeMap Tryz.prog
    have m6 := mapAt_new w6
    have k7 : Keeps [] w6 (w6.alloc (.map #[] 0)) := (Keeps.refl [] w6).alloc _
    have hlt6 : b < wc.heap.size ∧ f < wc.heap.size ∧ c < wc.heap.size ∧ mb < wc.heap.size := H5.out.1.lt
    have hz6' := hz6
    obtain ⟨hpB, hpq, hpg, _, _, _, _, _, hp6, _, hs6⟩ := hz6'
    have hp6 := lt_of_at hp6
    have hs6 := hs6.lt
    have hw6 : w.heap.size ≤ wc.heap.size := H5.out.2.2.size
    have hap : Apart w b f c mb wc.heap.size p cb w6.heap.size := ⟨by have := hk6.size; omega, hlt6, by have := hk6.size; omega⟩
    have hat : DAt w (w6.alloc (.map #[] 0)) b f c mb wc.heap.size p q gb cb w6.heap.size cfg 0 31 0 armed Q o0 ⟨cfg, scan0, [], false, 0⟩ [] :=
      ⟨HP.out.1, (hk6.trans k7).keep_bucket H5.out.1, hz6.keep k7 (by simp), m6, k7.at_ n6 (by simp), (H5.out.2.2.trans hk6).trans k7, by omega, by omega⟩
    obtain ⟨mo, hmo⟩ : ∃ n, n = w6.heap.size := ⟨_, rfl⟩
    have hqm : q ≠ mo ∧ gb ≠ mo := by omega
    obtain ⟨B, hBe⟩ : ∃ n, n = wc.heap.size := ⟨_, rfl⟩
    rw [← hmo, ← hBe] at hap hat
    have Hap := Lib.hid hap
    have Hat := Lib.hid (And.intro hat hqm)
    have Hmo := Lib.hid hmo
    clear n6 m6 k7 hlt6 hz6 hk6 hpB hpq hpg hp6 hs6 hw6 hap hat hqm hmo hBe H5 c5 l5 H4 hcb0 hnew hcbn
    go_upto_region 13 with fail
    rw [← Hmo.out]
    clear Hmo
    go_wp2_with fail
    go_loopg [17, 18, 19] 50 (DRel w b f c mb B p cb mo cfg)
    case atStart => exact ⟨0, 31, 0, q, gb, armed, Q, o0, _, [], by decide, rfl, rfl, rfl, rfl, Hat.out.2.1, Hat.out.2.2, Hat.out.1⟩
    case round =>
      clear Hat
      obtain ⟨k, now, g, q, gb, armed, Q, o, Z, H, hk, hgk, rfl, rfl, rfl, hq, hgb, hD⟩ := hrel
      have Hg := Lib.hid hgk
      clear hgk
      by_cases hlt : k < 50
      · have hlt' : (k : Int) < 50 := by omega
        obtain ⟨hn0, hn1⟩ := hD.now0
        have HD := Lib.hid hD
        clear hD
        go_upto_if 80 with fail
        go_cut [17] from 73 to 182 (fun u17 wc => ∃ now1, u17 = .int .i64 now1 ∧ now ≤ now1 ∧ now1 ≤ now + 15 ∧ wc = wr)
        case first =>
          by_cases hl3 : k < L3.length
          · obtain ⟨b2, of2, rfl, hb2, hc2⟩ := Hx.out.2.1 k hl3
            have d0 : wr.cell? ⟨b2, of2 + k, none⟩ = some (.int .i64 L3[k]) := by
              rw [HD.out.keep.cell hb2 (by simp)]
              simpa using hc2 0 (by omega)
            have lb2 := HD.out.keep.lt hb2
            generalize L3[k] = xk at d0
            have hl3' : (k : Int) < (L3.length : Int) := by omega
            have q15 := i64_and15 xk
            obtain ⟨m, hm, hm15⟩ : ∃ m : Nat, xk % 16 = (m : Int) ∧ m ≤ 15 := ⟨(xk % 16).toNat, by omega, by omega⟩
            rw [hm] at q15
            have hadd : IntKind.i64.wrap (now + (m : Int)) = now + m := IntWalk.i64_in _ (by omega)
            clear hm hc2
            go_wp2_with fail
            go_meet
            case rel => exact ⟨now + m, rfl, by omega, by omega, rfl⟩
          · have hl3' : ¬ (k : Int) < (L3.length : Int) := by omega
            go_wp2_with fail
            go_meet
            case rel => exact ⟨now, rfl, by omega, by omega, rfl⟩
        case rest =>
          obtain ⟨now1, rfl, hnw0, hnw1, rfl⟩ := hcut
          obtain ⟨nt, hnt⟩ : ∃ nt : Nat, now1 = (nt : Int) := ⟨now1.toNat, by omega⟩
          subst hnt
          have hvm : 0 < w.heap.size := HP.out.2.lt
          have hpn := Hap.out.new
          have hmo0 := HD.out.map.lt
          have hlz := HD.out.swp.lt
          have hlb := HD.out.at_.lt
          have Hsn := Lib.hid (seen_spec wc b f c mb armed Q o k (nt : Int) HD.out.at_ (HD.out.inv.b.now hnw0) (by omega))
          go_wp2_with fail
          refine Hsn.out.mono ?_
          rintro e w1 ⟨m, rfl, hmw, hm1, hk1⟩
          have hk01 := HD.out.keep.trans hk1
          have Hnt := Lib.hid (note_spec w1 (HP.out.2.same hk01) mo m H (listing o ⟨#[]⟩) (nt : Int) (HD.out.map.keep hk1 (by simp)) hm1 (by omega) (by omega) (fun p hp => by
              have h1 := HD.out.inv.b.obj p (listing_of hp)
              obtain ⟨id, part, i1, i2, i3⟩ := h1.name
              have h2 := (object_size i1 i2).1
              have h3 := h1.at0
              have h4 := h1.at1
              rw [i3]
              omega) (by rw [listing_len]; have := HD.out.inv.b.len; omega) (fun id t ht => by have := HD.out.inv.hb id t ht; omega))
          have H1 := Lib.hid (And.intro hm1 (And.intro hk1 hk01))
          clear hm1 hk1 hk01 Hsn
          go_wp2_with fail
          refine Hnt.out.mono ?_
          rintro e w2 ⟨rfl, H', hO2, hN, hk2⟩
          have hno : Noted H' o := hN.noted.of_listing HD.out.inv.b.nodup
          have hD2 : DInv cfg k (nt : Int) o Z H' g := (HD.out.inv.now hnw0).note ⟨hN.keep, hno, hN.hb⟩
          have hne := Hap.out.ne
          have hlow := Hap.out.low
          have hw1 := H1.out.2.1.size
          have hz2 : SweepAt w2 B p q gb Z := (HD.out.swp.keep H1.out.2.1 (by simp)).keepMap hk2 (HD.out.map.keep H1.out.2.1 (by simp)) hgb
          have hb2 : BucketAt w2 b f c mb armed Q o := (H1.out.2.1.keep_bucket HD.out.at_).keep hk2 (by simp; omega) (by simp; omega) (by simp; omega) (by simp; omega)
          have hk02 : Keeps [] w w2 := H1.out.2.2.after hk2 (fun x hx => .inr (by simp only [List.mem_singleton] at hx; omega))
          have Hst := Lib.hid (dstep_spec w2 b f c mb B p q gb armed Q o Z (nt : Int) cfg k H' g hD2 hno (by omega) (by omega) (by have := HD.out.few; omega) hb2 hz2 Hap.out.low (HP.out.2.same hk02) (by omega))
          have H2 := Lib.hid (And.intro hO2 (And.intro (H1.out.1.keep hk2 (by simp; omega)) (And.intro (hk2.at_ (H1.out.2.1.at_ HD.out.cell (by simp)) (by simp; omega)) (And.intro hk02 (And.intro hD2 hno)))))
          have hw2 : w1.heap.size ≤ w2.heap.size := hk2.size
          clear hO2 hN hk2 hno hD2 hz2 hb2 hk02 Hnt H1
          go_wp2_with fail
          refine Hst.out.mono ?_
          rintro e w3 ⟨err, Z1, o1, q1, gb1, armed1, Q1, rfl, hz3, hb3, hk3, hq3, hcase⟩
          have hk03 : Keeps [] w w3 := H2.out.2.2.2.1.after hk3 (fun x hx => .inr (by
            simp only [List.mem_cons, List.not_mem_nil, or_false] at hx
            omega))
          have hqm1 : q1 ≠ mo ∧ gb1 ≠ mo := by omega
          have H3 := Lib.hid (And.intro hz3 (And.intro hb3 (And.intro (H2.out.1.keep hk3 (by simp; omega)) (And.intro (H2.out.2.1.keep hk3 (by simp; omega)) (And.intro (hk3.at_ H2.out.2.2.1 (by simp; omega)) (And.intro hk03 (And.intro hqm1 hcase)))))))
          have hw3 : w2.heap.size ≤ w3.heap.size := hk3.size
          clear hz3 hb3 hk3 hq3 hk03 hqm1 hcase Hst
          go_upto_if 98 with fail
          go_cut [] from 73 to 182 (fun wx => DMid w wx b f c mb B p cb mo m cfg (nt : Int) Q o Z H' armed1 Q1 o1)
          case first =>
            obtain ⟨hz3, hb3, hm3, hs3, hc3, hk3, hqm3, hcase⟩ := H3.out
            rcases hcase with ⟨rfl, rfl, rfl, hst⟩ | ⟨he, hst⟩
            · have Hs := Lib.hid (And.intro hb3 (And.intro hm3 (And.intro hs3 (And.intro hc3 (And.intro hk3 hst)))))
              have Hag := Lib.hid (sweepAgain_spec w3 B p q1 gb1 Z1 hz3)
              clear hz3 hb3 hm3 hs3 hc3 hk3 hst
              go_wp2_with fail
              refine Hag.out.mono ?_
              rintro e w4 ⟨rfl, q4, gb4, hz4, hk4, hq4, hgb4⟩
              have H4 := Lib.hid (show DMid w w4 b f c mb B p cb mo m cfg (nt : Int) Q _ _ H' armed1 Q1 _ from ⟨⟨17, _, q4, gb4, Hs.out.2.2.2.2.2, hz4, by omega, by omega⟩, Hs.out.1.keep hk4 (by simp; omega) (by simp; omega) (by simp; omega) (by simp; omega), Hs.out.2.1.keep hk4 (by simp; omega), Hs.out.2.2.1.keep hk4 (by simp; omega), hk4.at_ Hs.out.2.2.2.1 (by simp; omega), Hs.out.2.2.2.2.1.after hk4 (fun x hx => .inr (by simp only [List.mem_singleton] at hx; omega))⟩)
              clear hz4 hk4 hq4 hgb4
              go_wp2_with fail
              go_meet
              case rel => exact H4.out
            · have H4 := Lib.hid (show DMid w w3 b f c mb B p cb mo m cfg (nt : Int) Q o Z H' armed1 Q1 o1 from ⟨⟨err, Z1, q1, gb1, hst, hz3, hqm3.1, hqm3.2⟩, hb3, hm3, hs3, hc3, hk3⟩)
              clear hz3 hb3 hm3 hs3 hc3 hk3 hst hqm3
              rcases he with rfl | rfl | rfl
              all_goals
                go_wp2_with fail
                go_meet
                case rel => exact H4.out
          case rest =>
            have HM := Lib.hid hcut
            clear hcut H3
            obtain ⟨err2, Z2, q2, gb2, hst, hz4, hq4, hgb4⟩ := HM.out.ex
            obtain ⟨hD3, hmay, hlen1, hlen2⟩ := H2.out.2.2.2.2.1.step H2.out.2.2.2.2.2 (by omega) hst
            have hol := HD.out.inv.b.len
            have hgf := HD.out.few
            have hcle := cntK_le o o1
            have Hsn2 := Lib.hid (seen_spec wc b f c mb armed1 Q1 o1 k (nt : Int) HM.out.at_ hD3.b (by omega))
            have hobj := fun p hp => HD.out.inv.b.obj p hp
            have hnd := HD.out.inv.b.nodup
            have H4 := Lib.hid (And.intro hz4 (And.intro hD3 (And.intro hmay (And.intro hlen1 hlen2))))
            have hmx := HM.out.was.lt
            clear hst hz4 hD3 hmay
            go_wp2_with fail
            refine Hsn2.out.mono ?_
            rintro e w5 ⟨m2, rfl, hm2w, hm2, hk5⟩
            have hs5 := HM.out.was.keep hk5 (by simp)
            have z3 : ∀ x ∈ encMap encT (listing o ⟨#[]⟩), x.1.size ≤ maxLen := by
              intro x hx
              obtain ⟨x, cv⟩ := x
              obtain ⟨n, _, hn⟩ := mem_enc hx
              obtain ⟨id, part, i1, i2, i3⟩ := (hobj _ (listing_of hn)).name
              have h2 := (object_size i1 i2).1
              simp only at i3 ⊢
              rw [i3]
              unfold maxLen; omega
            have z4 : (encMap encT (listing o ⟨#[]⟩)).length ≤ maxLen := by simp only [encMap, List.length_map, maxLen]; rw [listing_len]; omega
            have H5 := Lib.hid (And.intro hm2 (And.intro hk5 (And.intro hobj hnd)))
            have hw5 : wc.heap.size ≤ w5.heap.size := hk5.size
            clear hm2 hk5 Hsn2 hobj hnd
            go_wp2_with (at_range; refine wpList_range_map rfl _ _ rfl 75 Tryz.underlying70 Tryz.underlying9 m _ rfl hs5 z3 z4 ?_; intro w6 cnt hrg0 hk6)
            clear z3 z4 hs5
            go_frame
            have hr0 : w5.heap.size < w6.heap.size := hrg0.lt
            obtain ⟨r, hr⟩ : ∃ n, n = w5.heap.size := ⟨_, rfl⟩
            have hrle : w5.heap.size ≤ r := by omega
            rw [← hr] at hrg0 ⊢
            have H6 := Lib.hid (And.intro hrg0 hk6)
            clear hrg0 hk6 hr hr0
            go_loopg [18] cnt (GoneRel w5 m r g (listing o ⟨#[]⟩) o1)
            case atStart => exact ⟨[], H6.out.1, rfl, H6.out.2⟩
            case round =>
              clear H6
              obtain ⟨D, hrg, rfl, hkr⟩ := hrel
              have hDl := ranging_len hrg
              rw [listing_len] at hDl
              have hcd := cntD_le D o1
              have Hkr := Lib.hid hkr
              clear hkr
              go_wp2_with (at_next; refine wpList_next_map rfl _ rfl Tryz.underlying9 m r _ _ _ rfl hrg ?_ ?_)
              · intro hperm
                have e := cntD_all (o1 := o1) (encT_perm hperm)
                obtain ⟨gn, hgn⟩ : ∃ n : Nat, n = g + cntK o o1 := ⟨_, rfl⟩
                rw [e, show ((g : Int) + (cntK o o1 : Int)) = (gn : Int) from by omega]
                have kxr := H5.out.2.1.trans Hkr.out
                have hmA := (H5.out.1.keep Hkr.out (by simp)).run_len (P := Tryz.prog) Tryz.underlying70 3
                have hmB := (HM.out.was.keep kxr (by simp)).run_len (P := Tryz.prog) Tryz.underlying70 3
                rw [show (encMap encT (listing o1 ⟨#[]⟩)).length = o1.length from by simp only [encMap, List.length_map]; exact listing_len o1] at hmA
                rw [show (encMap encT (listing o ⟨#[]⟩)).length = o.length from by simp only [encMap, List.length_map]; exact listing_len o] at hmB
                have hinv : DInv cfg k (nt : Int) o1 Z2 H' (gn : Int) := by
                  have := H4.out.2.1
                  rw [hgn]
                  push_cast
                  exact this
                have H9 := Lib.hid (And.intro hinv (And.intro (kxr.keep_bucket HM.out.at_) (And.intro (H4.out.1.keep kxr (by simp)) (And.intro (HM.out.map.keep kxr (by simp)) (And.intro (kxr.at_ HM.out.cell (by simp)) (HM.out.keep.trans kxr))))))
                obtain ⟨n1, hn1⟩ : ∃ n, n = o1.length := ⟨_, rfl⟩
                obtain ⟨n0, hn0'⟩ : ∃ n, n = o.length := ⟨_, rfl⟩
                rw [← hn1] at hmA hlen1 hlen2
                rw [← hn0'] at hmB hlen1 hlen2 hcle hol
                have hsum : IntKind.i64.wrap ((n1 : Int) + (gn : Int)) = (n1 : Int) + gn := IntWalk.i64_in _ (by omega)
                have hA : ¬ ((n1 : Int) + (gn : Int) < (n0 : Int)) := by omega
                have hB : ¬ ((n1 : Int) > (n0 : Int)) := by omega
                have hgn100 : gn ≤ 100 * (k + 1) := by omega
                clear hperm hrg e kxr hinv hgn hn1 hn0' hcd hDl
                by_cases hl1 : k < L1.length
                · have hl1' : (k : Int) < (L1.length : Int) := by omega
                  by_cases hk15 : k < 15
                  · have hk15' : (k : Int) < 15 := by omega
                    obtain ⟨b2, of2, rfl, hb2, hc2⟩ := Hx.out.1 k hl1
                    have d0 : w.cell? ⟨b2, of2 + k, none⟩ = some (.int .i64 L1[k]) := by simpa using hc2 0 (by omega)
                    generalize L1[k] = xk at d0
                    have q2' := i64_and1 xk
                    obtain ⟨s, hs⟩ : ∃ s : Nat, s = 100 + k := ⟨_, rfl⟩
                    have hadd : IntKind.i64.wrap (100 + (k : Int)) = (s : Int) := by rw [IntWalk.i64_in _ (by omega)]; omega
                    have Hs := Lib.hid hs
                    have Hmk := Lib.hid (fun W => make_spec W nt s (by omega) (by omega))
                    have hidok : isIDB (idN nt s).data.toList = true := idN_ok (by omega) (by omega)
                    have hids : (idN nt s).size = 16 := id_size hidok
                    have Hd0 := Lib.hid (And.intro d0 hb2)
                    clear hc2 d0 hb2 hs
                    go_wp2_with fail
                    refine (Hmk.out _).mono ?_
                    rintro e w9 ⟨rfl, hk9⟩
                    rw [show (⟨(identL nt s).toArray⟩ : ByteArray) = idN nt s from rfl]
                    have hb9 := hk9.keep_bucket H9.out.2.1
                    have cb9 := cells_at hb9.cells
                    have lb9 := hb9.lt.1
                    have Hb9 := Lib.hid (And.intro hb9 hk9)
                    clear hb9 hk9 hmA hmB
                    go_wp2_with fail
                    refine (clear_spec w9 f c armed1 Q1 Hb9.out.1.fuse).mono ?_
                    rintro e w10 ⟨rfl, hf10, hk10⟩
                    have k9 := Hb9.out.2
                    have hkw10 : Keeps [] w w10 := (H9.out.2.2.2.2.2.trans k9).after hk10 (fun x hx => .inr (by simp only [List.mem_cons, List.not_mem_nil, or_false] at hx; omega))
                    have H10 := Lib.hid (And.intro (show BucketAt w10 b f c mb false [] o1 from Hb9.out.1.tried hk10 hf10) (And.intro ((H9.out.2.2.1.keep k9 (by simp)).keep hk10 (by simp; omega)) (And.intro ((H9.out.2.2.2.1.keep k9 (by simp)).keep hk10 (by simp; omega)) (And.intro (hk10.at_ (k9.at_ H9.out.2.2.2.2.1 (by simp)) (by simp; omega)) hkw10))))
                    have kbs : Keeps [] w10 (w10.alloc (.cells #[.string ⟨#[99, 104, 117, 110, 107, 115]⟩, .string ⟨#[105, 110, 100, 101, 120]⟩] 9)) := (Keeps.refl [] w10).alloc _
                    have d0 : (w10.alloc (.cells #[.string ⟨#[99, 104, 117, 110, 107, 115]⟩, .string ⟨#[105, 110, 100, 101, 120]⟩] 9)).cell? ⟨b2, of2 + k, none⟩ = some (.int .i64 xk) := ((hkw10.trans kbs).cell Hd0.out.2 (by simp)).trans Hd0.out.1
                    have lb2 := (hkw10.trans kbs).lt Hd0.out.2
                    clear hk10 hf10 k9 hkw10 cb9 lb9 Hb9
                    rcases (by omega : xk % 2 = 0 ∨ xk % 2 = 1) with hx2 | hx2
                    · rw [hx2] at q2'
                      clear hx2
                      go_wp2_with fail
                      refine (object_spec _ _ _ (by omega) (by decide)).mono ?_
                      rintro e w11 ⟨rfl, rfl⟩
                      go_wp2_with fail
                      have hos := object_size hidok (part := chunksB) (by simp [partsB])
                      refine (put_spec _ b f c mb false [] o1 (kbs.keep_bucket H10.out.1) (objectB (idN nt s) chunksB) newB (nt : Int) hos.2 (by omega)).mono ?_
                      rintro e w12 ⟨rfl, hb12, hk12⟩
                      have hb12' : BucketAt w12 b f c mb false [] (put o1 (objectB (idN nt s) chunksB) (newB, (nt : Int))) := hb12
                      have kall : Keeps [f, c, mb] w10 w12 := (kbs.mono (by simp)).trans hk12
                      have H12 := Lib.hid (And.intro hb12' kall)
                      clear hb12 hb12' hk12 kall
                      rw [show ioErr [] = 0 from rfl]
                      go_wp2_with fail
                      go_roundg (50 - (k + 1))
                      case measure => have := Hg.out; omega
                      case rel =>
                        have hput := H9.out.1.put (part := chunksB) (t := nt) (v := (newB, (nt : Int))) (by omega) (by omega) (by simp [partsB]) (new_ok (by omega) (idN_ok (by omega) (by omega)) (by simp))
                        rw [← Hs.out] at hput
                        exact ⟨k + 1, nt, gn, q2, gb2, false, [], _, Z2, H', by omega, rfl, by go_num, rfl, rfl, hq4, hgb4,
                          ⟨hput, H12.out.1, H10.out.2.1.keep H12.out.2 (by simp; omega), H10.out.2.2.1.keep H12.out.2 (by simp; omega), H12.out.2.at_ H10.out.2.2.2.1 (by simp; omega), H10.out.2.2.2.2.after H12.out.2 (fun x hx => .inr (by simp only [List.mem_cons, List.not_mem_nil, or_false] at hx; omega)), by push_cast; omega, by omega⟩⟩
                    · rw [hx2] at q2'
                      clear hx2
                      go_wp2_with fail
                      refine (object_spec _ _ _ (by omega) (by decide)).mono ?_
                      rintro e w11 ⟨rfl, rfl⟩
                      go_wp2_with fail
                      have hos := object_size hidok (part := indexB) (by simp [partsB])
                      refine (put_spec _ b f c mb false [] o1 (kbs.keep_bucket H10.out.1) (objectB (idN nt s) indexB) newB (nt : Int) hos.2 (by omega)).mono ?_
                      rintro e w12 ⟨rfl, hb12, hk12⟩
                      have hb12' : BucketAt w12 b f c mb false [] (put o1 (objectB (idN nt s) indexB) (newB, (nt : Int))) := hb12
                      have kall : Keeps [f, c, mb] w10 w12 := (kbs.mono (by simp)).trans hk12
                      have H12 := Lib.hid (And.intro hb12' kall)
                      clear hb12 hb12' hk12 kall
                      rw [show ioErr [] = 0 from rfl]
                      go_wp2_with fail
                      go_roundg (50 - (k + 1))
                      case measure => have := Hg.out; omega
                      case rel =>
                        have hput := H9.out.1.put (part := indexB) (t := nt) (v := (newB, (nt : Int))) (by omega) (by omega) (by simp [partsB]) (new_ok (by omega) (idN_ok (by omega) (by omega)) (by simp))
                        rw [← Hs.out] at hput
                        exact ⟨k + 1, nt, gn, q2, gb2, false, [], _, Z2, H', by omega, rfl, by go_num, rfl, rfl, hq4, hgb4,
                          ⟨hput, H12.out.1, H10.out.2.1.keep H12.out.2 (by simp; omega), H10.out.2.2.1.keep H12.out.2 (by simp; omega), H12.out.2.at_ H10.out.2.2.2.1 (by simp; omega), H10.out.2.2.2.2.after H12.out.2 (fun x hx => .inr (by simp only [List.mem_cons, List.not_mem_nil, or_false] at hx; omega)), by push_cast; omega, by omega⟩⟩
                  · have hk15' : ¬ (k : Int) < 15 := by omega
                    go_wp2_with fail
                    go_roundg (50 - (k + 1))
                    case measure => have := Hg.out; omega
                    case rel => exact ⟨k + 1, nt, gn, q2, gb2, armed1, Q1, o1, Z2, H', by omega, rfl, by go_num, rfl, rfl, hq4, hgb4, ⟨H9.out.1.next, H9.out.2.1, H9.out.2.2.1, H9.out.2.2.2.1, H9.out.2.2.2.2.1, H9.out.2.2.2.2.2, by push_cast; omega, by omega⟩⟩
                · have hl1' : ¬ (k : Int) < (L1.length : Int) := by omega
                  go_wp2_with fail
                  go_roundg (50 - (k + 1))
                  case measure => have := Hg.out; omega
                  case rel => exact ⟨k + 1, nt, gn, q2, gb2, armed1, Q1, o1, Z2, H', by omega, rfl, by go_num, rfl, rfl, hq4, hgb4, ⟨H9.out.1.next, H9.out.2.1, H9.out.2.2.1, H9.out.2.2.2.1, H9.out.2.2.2.2.1, H9.out.2.2.2.2.2, by push_cast; omega, by omega⟩⟩
              · intro x cv w7 cnt1 hmem hnin hxs hrg1 hltc hk7 hen
                obtain ⟨ob, rfl, hdm⟩ := mem_enc hmem
                rw [enc_snoc] at hrg1
                have hk57 : Keeps [] w5 w7 := Hkr.out.after hk7 (fun q hq => .inr (by simp only [List.mem_singleton] at hq; omega))
                have hm27 := H5.out.1.keep hk57 (by simp)
                have hl := hm27.run_lookup (P := Tryz.prog) Tryz.underlying70 Tryz.underlying9 (zeroThing _) x true
                rw [lookVal_T] at hl
                have Hlo := Lib.hid (listing_look H4.out.2.1.b.nodup x)
                have Hxo : Hid (x ∈ o.map (·.1)) := Lib.hid (listing_mem.1 (List.mem_map.2 ⟨_, hdm, rfl⟩))
                have hx40 : x.size ≤ 40 := by
                  obtain ⟨id, part, i1, i2, i3⟩ := (H5.out.2.2.1 _ (listing_of hdm)).name
                  have h2 := (object_size i1 i2).1
                  simp only at i3
                  rw [i3]
                  omega
                have H7 := Lib.hid (And.intro hrg1 (And.intro hk57 hltc))
                clear hmem hnin hxs hrg1 hltc hk7 hrg hdm hm27 hk57 Hkr
                simp only [encT] at hen ⊢
                cases hlk : look (listing o1 ⟨#[]⟩) x with
                | some y =>
                  rw [hlk] at hl
                  simp only [obOr, Option.getD_some, Option.isSome_some] at hl
                  have Hc := Lib.hid (show cntD (D ++ [(x, ob)]) o1 = cntD D o1 from by rw [cntD_snoc, show look o1 x = some y from by rw [← Hlo.out]; exact hlk]; rfl)
                  clear hlk
                  have H8 := Lib.hid (show Keeps [] w7 (w7.alloc (.cells #[.int .i64 y.2, .string y.1] 75)) from (Keeps.refl [] w7).alloc _)
                  go_wp2_with fail
                  go_roundg cnt1
                  case measure => exact H7.out.2.2
                  case rel => exact ⟨D ++ [(x, ob)], H7.out.1.keep H8.out (by simp) (by simp), by rw [Hc.out]; congr 1 <;> omega, H7.out.2.1.trans H8.out⟩
                | none =>
                  rw [hlk] at hl
                  simp only [obOr, Option.getD_none, Option.isSome_none] at hl
                  have hno1 : x ∉ o1.map (·.1) := (look_none_iff x o1).1 (by rw [← Hlo.out]; exact hlk)
                  have Hc := Lib.hid (show cntD (D ++ [(x, ob)]) o1 = cntD D o1 + 1 from by rw [cntD_snoc, show look o1 x = none from by rw [← Hlo.out]; exact hlk]; rfl)
                  have hmx := H4.out.2.2.1 x Hxo.out hno1
                  rw [← mayB_congr (fun n => listing_look H5.out.2.2.2 n) x] at hmx
                  clear hlk
                  have ka : Keeps [] w7 (w7.alloc (.cells #[.int .i64 0, .string ⟨#[]⟩] 75)) := (Keeps.refl [] w7).alloc _
                  have kx8 := (H5.out.2.1.trans H7.out.2.1).trans ka
                  have n8 := kx8.at_ HM.out.cell (by simp)
                  have c8 := cells_at n8
                  have l8 := lt_of_at n8
                  have hmy := may_spec _ (HP.out.2.same (HM.out.keep.trans kx8)) mo m cfg.1 cfg.2.1 cfg.2.2 (nt : Int) H' (listing o ⟨#[]⟩) x (HM.out.map.keep kx8 (by simp)) (HM.out.was.keep kx8 (by simp)) hx40 (by omega)
                    (fun y _ => by
                      cases hy : look (listing o ⟨#[]⟩) y with
                      | none => show (⟨#[]⟩ : ByteArray).size ≤ 1000; decide
                      | some z => exact (H5.out.2.2.1 _ (listing_of (look_mem hy))).small)
                    (fun id t ht => by
                      unfold markIn at ht
                      cases hy : look (listing o ⟨#[]⟩) (objectB id markB) with
                      | none => rw [hy] at ht; cases ht
                      | some z => rw [hy] at ht; exact (H5.out.2.2.1 _ (listing_of (look_mem hy))).mark id t rfl ht)
                    (fun id t ht => H4.out.2.1.hb id t ht)
                  rw [hmx] at hmy
                  have Hmy := Lib.hid hmy
                  have H8 := Lib.hid ka
                  have hadd : IntKind.i64.wrap (((g + cntD D o1 : Nat) : Int) + 1) = ((g + (cntD D o1 + 1) : Nat) : Int) := by
                    rw [IntWalk.i64_in _ (by omega)]
                    push_cast
                    omega
                  clear hno1 hmx ka kx8 n8 hmy
                  generalize g + cntD D o1 = gd at hadd ⊢
                  go_wp2_with fail
                  refine Hmy.out.mono ?_
                  rintro e w9 ⟨rfl, hk9⟩
                  have H9 := Lib.hid (H8.out.trans hk9)
                  clear hk9 c8 l8
                  go_wp2_with fail
                  go_roundg cnt1
                  case measure => exact H7.out.2.2
                  case rel => exact ⟨D ++ [(x, ob)], H7.out.1.keep H9.out (by simp) (by simp), by rw [Hc.out]; congr 1 <;> omega, H7.out.2.1.trans H9.out⟩
      · obtain rfl : k = 50 := by omega
        have hgn := hD.inv.goneLe
        have hg0 := hD.inv.gone0
        have Hgo := Lib.hid (sweepGone_spec wr B p q gb Z hD.swp)
        have He := Lib.hid hD.keep
        generalize Z.gone = zg at hgn hg0 Hgo
        clear hD
        go_wp2_with fail
        refine Hgo.out.mono ?_
        rintro e w7 ⟨rfl, rfl⟩
        go_wp2_with fail
        go_ret
        exact ⟨by first | rfl | (congr 2; simp; omega), He.out⟩
end Go.Proofs.YtbndpegilpgheaaGreat
