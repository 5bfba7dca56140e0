/-
  A sweeper's step (package sweep), whatever fails: Step, as the plain law has it.
  As in the scan's file; names are short, ticks and bytes small.
-/
import Derived.Test.YtbndpegilpgheaaGreatDelLaw
namespace Go.Proofs.YtbndpegilpgheaaGreat
open Go Go.RowKit Go.Conc

def StalePost (w : World) (b f c mb B p : Nat) (armed : Bool) (Q : List (Int × Bool)) (o : Bkt) (Z : SweepS) (e : Ending) (w' : World) : Prop :=
  ∃ q1 gb1, e = .returned (.int .i64 14) ∧ SweepAt w' B p q1 gb1 (againZ Z) ∧ BucketAt w' b f c mb armed Q o ∧ Keeps [p] w w' ∧ w.heap.size ≤ q1 ∧ w.heap.size ≤ gb1

set_option maxRecDepth 100000 in
set_option maxHeartbeats 1000000 in
theorem sweepStep_stale (w : World) (b f c mb B p q gb : Nat) (armed : Bool) (Q : List (Int × Bool)) (o : Bkt) (Z : SweepS) (now : Int) (hb : BucketAt w b f c mb armed Q o) (hz : SweepAt w B p q gb Z) (hr : Z.ready = false) (hbg : Z.scan.begun = true) (ht : 0 ≤ Z.scan.tick ∧ Z.scan.tick ≤ now) (hnow : now ≤ 1099511627776) (hst : Z.cfg.2.2 < now - Z.scan.tick) (hlow : b < B ∧ f < B ∧ c < B ∧ mb < B) :
    Calls Tryz.prog 24 #[.pointer (some ⟨p, 0, none⟩), .pointer (some ⟨b, 0, none⟩), .int .i64 now] w (StalePost w b f c mb B p armed Q o Z) := by
  have Hd := Lib.hid (sweepDone_spec w B p q gb Z hz)
  rw [hr] at Hd
  have Hag := Lib.hid (sweepAgain_spec w B p q gb Z hz)
  obtain ⟨hB, hpq, hpg, B2, vl, hb1', hb2, hb3, h6, h7, h8⟩ := hz
  have hat := scanAt_spec w B q gb Z.scan h8
  rw [hbg] at hat
  simp only [if_true] at hat
  have Ha := Lib.hid hat
  have H0 := Lib.hid hb
  have c5 := cells_at h6
  have l5 := lt_of_at h6
  rw [hr] at c5
  have hsub : IntKind.i64.wrap (now - Z.scan.tick) = now - Z.scan.tick := IntWalk.i64_in _ (by omega)
  clear h6 h7 h8 hat hb
  obtain ⟨t, hT⟩ : ∃ t, t = Z.scan.tick := ⟨_, rfl⟩
  rw [← hT] at Ha hsub ht hst
  obtain ⟨ht0, ht1⟩ := ht
  have hg1 : decide (t ≥ 0) = true := by rw [decide_eq_true_iff]; omega
  have hg2 : decide (now - t > Z.cfg.2.2) = true := by rw [decide_eq_true_iff]; omega
  clear hT
  go_enter Tryz.func24, Tryz.ntmps24
  go_wp2_with fail
  refine Hd.out.mono ?_
  rintro e w1 ⟨rfl, rfl⟩
  rw [Bool.false_and]
  go_wp2_with fail
  refine Ha.out.mono ?_
  rintro e w1 ⟨rfl, rfl⟩
  go_wp2_with fail
  refine Hag.out.mono ?_
  rintro e w2 ⟨rfl, q1, gb1, hz2, hk2, hq1, hgb1⟩
  have H2 := Lib.hid (And.intro hz2 (And.intro (H0.out.keep hk2 (by simp; omega) (by simp; omega) (by simp; omega) (by simp; omega)) hk2))
  clear hz2 hk2
  go_wp2_with fail
  go_ret
  exact ⟨q1, gb1, rfl, H2.out.1, H2.out.2.1, H2.out.2.2, hq1, hgb1⟩


theorem SliceFrom.keepMap {α : Type} {B size : Nat} {enc : α → List Value} {w w' : World} {v : Value} {L : List α} (h : SliceFrom B size enc w v L) {m : Nat} {M : KV} (k : Keeps [m] w w') (hm : MapAt w m M) (hs : 0 < size) (he : ∀ x, enc x ≠ []) : SliceFrom B size enc w' v L := by
  obtain ⟨ao, cap, e, hl, hc, hn, h⟩ := h
  refine ⟨ao, cap, e, hl, hc, hn, fun i hi => ?_⟩
  obtain ⟨b, off, e2, hb, hlt, hcell⟩ := h i hi
  have hne : b ∉ [m] := by
    simp only [List.mem_singleton]
    rintro rfl
    have h0 := hcell 0 hs
    obtain ⟨E, c, h1, _⟩ := hm
    have : w.cell? ⟨b, off + (i * size + 0), none⟩ = none := by simp [World.cell?, h1]
    rw [this] at h0
    cases hx : enc L[i] with
    | nil => exact he _ hx
    | cons a l => rw [hx] at h0; simp at h0
  exact ⟨b, off, e2, hb, k.lt hlt, fun j hj => (k.cell hlt hne).trans (hcell j hj)⟩

/-- A sweeper stays while another map turns. -/
theorem SweepAt.keepMap {w w' : World} {B p q gb : Nat} {Z : SweepS} (h : SweepAt w B p q gb Z) {m : Nat} {M : KV} (k : Keeps [m] w w') (hm : MapAt w m M) (hg : gb ≠ m) : SweepAt w' B p q gb Z := by
  obtain ⟨h1, h2, h2', B2, vl, h3, h4, h5, h6, h7, h8⟩ := h
  obtain ⟨g1, g2, B1, vi, vw, g3, g4, g5, g6, g7, g8, g9⟩ := h8
  have np : p ≠ m := hm.ne h6
  have nq : q ≠ m := hm.ne g5
  exact ⟨h1, h2, h2', B2, vl, h3, h4, h5, k.at_ h6 (by simpa using np), h7.keepMap k hm (by decide) (fun _ => by simp [encS1]), g1, g2, B1, vi, vw, by have := k.size; omega, g4, k.at_ g5 (by simpa using nq), g6.keepMap k hm (by decide) (fun _ => by simp [infoOf]), g7.keepMap k hm (by decide) (fun _ => by simp [encS1]), g8.keep k (by simpa using hg), g9⟩

theorem SweepAt.lt {w : World} {B p q gb : Nat} {Z : SweepS} (h : SweepAt w B p q gb Z) : p < w.heap.size ∧ q < w.heap.size ∧ gb < w.heap.size ∧ B ≤ p ∧ B ≤ q ∧ B ≤ gb := by
  obtain ⟨h1, _, _, _, _, _, _, _, h6, _, h8⟩ := h
  have := h8.lt
  exact ⟨lt_of_at h6, this.1, this.2, h1, h8.1, h8.2.1⟩


def DStepPost (w : World) (b f c mb B p q gb : Nat) (now : Int) (Q : List (Int × Bool)) (o : Bkt) (Z : SweepS) (e : Ending) (w' : World) : Prop :=
  ∃ err Z1 o1 q1 gb1 armed1 Q1, e = .returned (.int .i64 err) ∧ SweepAt w' B p q1 gb1 Z1 ∧ BucketAt w' b f c mb armed1 Q1 o1 ∧ Keeps [f, c, mb, p, q, gb] w w' ∧ ((q1 = q ∧ gb1 = gb) ∨ (w.heap.size ≤ q1 ∧ w.heap.size ≤ gb1)) ∧
    ((err = 17 ∧ Z1 = Z ∧ o1 = o ∧ DStep now Q o Z 17 (againZ Z) o) ∨ ((err = 0 ∨ err = 8 ∨ err = 14) ∧ DStep now Q o Z err Z1 o1))

theorem ioErr_or (Q : List (Int × Bool)) : ioErr Q = 0 ∨ ioErr Q = 8 ∨ ioErr Q = 14 := by
  unfold ioErr
  split <;> simp

theorem gotErr_or (Q : List (Int × Bool)) (o : Bkt) (x : ByteArray) : gotErr (getVal Q o x) = 0 ∨ gotErr (getVal Q o x) = 8 ∨ gotErr (getVal Q o x) = 14 := by
  unfold gotErr getVal
  split
  · cases look o x <;> simp
  · simp

theorem dstep_spec (w : World) (b f c mb B p q gb : Nat) (armed : Bool) (Q : List (Int × Bool)) (o : Bkt) (Z : SweepS) (now : Int) (cfg : Int × Int × Int) (i : Nat) (H : PartsM) (g : Int) (h : DInv cfg i now o Z H g) (hn : Noted H o) (hi : i ≤ 900) (hnow : 0 ≤ now ∧ now ≤ 1099511627776) (hg : g ≤ 1000000)
    (hb : BucketAt w b f c mb armed Q o) (hz : SweepAt w B p q gb Z) (hlow : b < B ∧ f < B ∧ c < B ∧ mb < B) (hv : LibVar w) (hvB : 0 < B) :
    Calls Tryz.prog 24 #[.pointer (some ⟨p, 0, none⟩), .pointer (some ⟨b, 0, none⟩), .int .i64 now] w (DStepPost w b f c mb B p q gb now Q o Z) := by
  have hvn := hb.fuse.neLib hv
  have h8 := hz.2.2.2
  obtain ⟨_, _, _, _, _, _, _, h8⟩ := h8
  have hkey : ∀ x ∈ o, x.1.size ≤ 40 := fun x hx => by
    obtain ⟨id, part, h1, h2, e⟩ := (h.b.obj x hx).name
    rw [e]
    have := (object_size h1 h2).1
    omega
  have hd : ∀ n, (obOr (look o n)).1.size ≤ 9223372036854775807 := fun n => by
    cases hl : look o n with
    | none => show (⟨#[]⟩ : ByteArray).size ≤ _; decide
    | some x => have := (h.b.obj _ (look_mem hl)).small; show x.1.size ≤ _; simp only at this; omega
  have hlen := h.b.len
  cases hr : Z.ready with
  | true =>
    cases hl : Z.left with
    | nil =>
      refine (sweepStep_idle w b f c mb B p q gb armed Q o Z now hb hz (by rw [hr, hl]; rfl)).mono ?_
      rintro e w' ⟨he, h1, h2, h3⟩
      exact ⟨17, Z, o, q, gb, armed, Q, he, h1, h2, h3, .inl ⟨rfl, rfl⟩, .inl ⟨rfl, rfl, rfl, .idle hr hl⟩⟩
    | cons x r =>
      have h0 := h.gone0
      have h1 := h.goneLe
      refine (sweepStep_del w b f c mb B p q gb armed Q o Z now x r hb hz hr hl hlow (by omega)).mono ?_
      rintro e w' ⟨he, h1, h2, h3⟩
      exact ⟨_, _, _, q, gb, _, _, he, h1, h2, h3, .inl ⟨rfl, rfl⟩, .inr ⟨ioErr_or Q, .del x r hr hl⟩⟩
  | false =>
    obtain ⟨s1, s2, s3, s4⟩ := h.scan hr
    cases hbg : Z.scan.begun with
    | false =>
      have hst := scanStep_begin (X := p + 1) w b f c mb B q gb armed Q o Z.scan now hb h8 hbg hlow hv hvB hkey hd (by omega)
      have hF : Found (scanOf Q now (listing o ⟨#[]⟩) Z.scan) := by
        unfold scanOf
        split
        · rw [h.s.un hbg]
          exact DInv.found (SInv.start h.b hn) (listing_binv h.b) (fun _ => ⟨hnow.1, Int.le_refl _⟩) hi hnow.2
        · exact DInv.found h.s h.c h.tick hi hnow.2
      refine (sweepStep_scan w b f c mb B p q gb o Z now hz hr hlow hv hvB hvn _ _ _ _ hst (fun hc => by rw [hbg] at hc; cases hc) hnow hF).mono ?_
      rintro e w' ⟨he, h1, h2, h3⟩
      exact ⟨_, _, _, q, gb, _, _, he, h1, h2, h3, .inl ⟨rfl, rfl⟩, .inr ⟨ioErr_or Q, .start hr hbg⟩⟩
    | true =>
      obtain ⟨t0, t1⟩ := h.tick hbg
      by_cases hst : Z.cfg.2.2 < now - Z.scan.tick
      · refine (sweepStep_stale w b f c mb B p q gb armed Q o Z now hb hz hr hbg ⟨t0, t1⟩ hnow.2 hst hlow).mono ?_
        rintro e w' ⟨q1, gb1, he, h1, h2, h3, h4, h5⟩
        exact ⟨_, _, _, q1, gb1, _, _, he, h1, h2, h3.mono (by simp), .inr ⟨h4, h5⟩, .inr ⟨.inr (.inr rfl), .stale hr⟩⟩
      · cases hw : Z.scan.wait with
        | nil => exact absurd hw (s3 hbg)
        | cons x r =>
          have hsg := scanStep_get (X := p + 1) w b f c mb B q gb armed Q o Z.scan now x r hb h8 hbg hw hlow
          have hF : Found (gotOf (getVal Q o x) x r Z.scan) := by
            obtain ⟨y, hy⟩ := look_isSome (s2 x (h.s.waitIn x (by rw [hw]; simp)))
            have hgt : gotOf (getVal Q o x) x r Z.scan = ⟨Z.scan.begun, Z.scan.tick, Z.scan.infos, r, put Z.scan.got x y.1⟩ ∨ gotOf (getVal Q o x) x r Z.scan = Z.scan := by
              unfold getVal
              rw [hy]
              split
              · left; rfl
              · right; rfl
            rcases hgt with e | e
            · rw [e]
              exact DInv.found (h.s.get hw hy hbg) h.c h.tick hi hnow.2
            · rw [e]
              exact DInv.found h.s h.c h.tick hi hnow.2
          refine (sweepStep_scan w b f c mb B p q gb o Z now hz hr hlow hv hvB hvn _ _ _ _ hsg (fun _ => ⟨t0, by omega, by omega⟩) hnow hF).mono ?_
          rintro e w' ⟨he, h1, h2, h3⟩
          exact ⟨_, _, _, q, gb, _, _, he, h1, h2, h3, .inl ⟨rfl, rfl⟩, .inr ⟨gotErr_or Q o x, .get x r hr hbg hw⟩⟩
end Go.Proofs.YtbndpegilpgheaaGreat
