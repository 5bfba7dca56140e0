/-
  A round of a sweep when nothing fails (barographlaw22.round).
  The bucket's objects are parts of blocks, ticks are small.
-/
import Derived.Test.YtaccjmdljiignaaSweepRnd
namespace Go.Proofs.Ytaccjmdljiignaa
open Go Go.RowKit

def RoundPost (w0 w : World) (b f c mb B p : Nat) (cfg : Int × Int × Int) (now g0 : Int) (o : Bkt) (e : Ending) (w' : World) : Prop :=
  ∃ n : Nat, e = .returned (.int .i64 n) ∧ ∃ q gb, SweepAt w' B p q gb (stC cfg now g0 o (victR cfg now o).length) ∧ BucketAt w' b f c mb false [] (delAll o (victR cfg now o)) ∧ Keeps [] w0 w' ∧ Keeps [f, c, mb, p] w w'

def RoundRel (w0 w : World) (b f c mb B p q gb : Nat) (cfg : Int × Int × Int) (now g0 : Int) (o : Bkt) (gk : Nat) (u : Value) (wr : World) : Prop :=
  ∃ i Z o1, i ≤ 100 ∧ gk = 100 - i ∧ u = .int .i64 i ∧ Rnd cfg now g0 o i Z o1 ∧ SweepAt wr B p q gb Z ∧ BucketAt wr b f c mb false [] o1 ∧ Keeps [] w0 wr ∧ Keeps [f, c, mb, p] w wr


set_option linter.unusedSimpArgs false in
set_option maxRecDepth 100000 in
set_option maxHeartbeats 1000000 in
theorem round_spec (w0 w : World) (b f c mb B p q gb k : Nat) (o : Bkt) (Z : SweepS) (now : Int) (hb : BucketAt w b f c mb false [] o) (hz : SweepAt w B p q gb Z) (hlow : b < B ∧ f < B ∧ c < B ∧ mb < B) (hbase : w0.heap.size ≤ b ∧ w0.heap.size ≤ f ∧ w0.heap.size ≤ c ∧ w0.heap.size ≤ mb ∧ w0.heap.size ≤ B)
    (hk0 : Keeps [] w0 w) (hv : LibVar w0) (hP : Parted o k) (hk : k ≤ 20) (hn : 0 ≤ now ∧ now ≤ 1099511627776) (hc : 0 ≤ Z.cfg.2.2) (hg : 0 ≤ Z.gone ∧ Z.gone ≤ 1000000) :
    Calls Try.prog 38 #[.pointer (some ⟨p, 0, none⟩), .pointer (some ⟨b, 0, none⟩), .int .i64 now] w (RoundPost w0 w b f c mb B p Z.cfg now Z.gone o) := by
  have Ha := Lib.hid (sweepAgain_spec w B p q gb Z hz)
  have Hb := Lib.hid hb
  have hBp := hz.1
  have hpq : p ≠ b ∧ p ≠ f ∧ p ≠ c ∧ p ≠ mb := by omega
  clear hb hz
  go_enter Try.func38, Try.ntmps38
  go_wp2_with fail
  refine Ha.out.mono ?_
  rintro e w1 ⟨rfl, q1, gb1, hz1, hk1, hqw, hgw⟩
  have hb1 := Hb.out.keep hk1 (by simp; omega) (by simp; omega) (by simp; omega) (by simp; omega)
  have hk01 : Keeps [] w0 w1 := hk0.after hk1 (fun x hx => .inr (by simp only [List.mem_singleton] at hx; omega))
  have H1 := Lib.hid (And.intro hz1 (And.intro hb1 (And.intro hk01 (hk1.mono (by simp) : Keeps [f, c, mb, p] w w1))))
  clear hz1 hb1 hk1 hk01
  go_wp2_with fail
  go_loopg [7] 100 (RoundRel w0 w b f c mb B p q1 gb1 Z.cfg now Z.gone o)
  case atStart => exact ⟨0, _, o, by decide, rfl, rfl, Rnd.a, H1.out.1, H1.out.2.1, H1.out.2.2.1, H1.out.2.2.2⟩
  case round =>
    obtain ⟨i, Z1, o1, hi100, hgk, rfl, hR, hz1, hb1, hkr, hkw⟩ := hrel
    have Hgk := Lib.hid hgk
    clear hgk
    have hlate := rnd_late hR
    have hl1 := wait_len (o := o)
    have hl2 := vict_len (cfg := Z.cfg) (now := now) hP.nodup
    have hl3 := hP.len
    have hi99 : (i : Int) < 100 := by omega
    have hi98 : i + 1 ≤ 100 := by omega
    clear hlate hl1 hl2 hl3
    have Hd := Lib.hid (sweepDone_spec wr B p q1 gb1 Z1 hz1)
    have H := Lib.hid (And.intro hR (And.intro hz1 (And.intro hb1 (And.intro hkr hkw))))
    cases hd : (Z1.ready && Z1.left.isEmpty) with
    | true =>
      rw [hd] at Hd
      have He := Lib.hid (rnd_end hR hd)
      clear hR hz1 hb1 hkr hkw hd
      go_wp2_with fail
      refine Hd.out.mono ?_
      rintro e w2 ⟨rfl, rfl⟩
      go_wp2_with fail
      go_ret
      refine ⟨i, rfl, q1, gb1, ?_, ?_, H.out.2.2.2.1, H.out.2.2.2.2⟩
      · rw [← He.out.1]; exact H.out.2.1
      · rw [← He.out.2]; exact H.out.2.2.1
    | false =>
      rw [hd] at Hd
      have hvl := hv.lt
      have Hst := Lib.hid (rnd_step wr b f c mb B p q1 gb1 Z.cfg now Z.gone o o1 i k Z1 hR hd hb1 hz1 hlow (hv.same hkr) (by omega) hP (by omega) hn hc hg)
      have hq1 : B ≤ q1 ∧ B ≤ gb1 := by obtain ⟨_, _, _, _, _, _, _, _, _, _, h8⟩ := hz1; exact ⟨h8.1, h8.2.1⟩
      clear hR hz1 hb1 hkr hkw hd
      go_wp2_with fail
      refine Hd.out.mono ?_
      rintro e w2 ⟨rfl, rfl⟩
      go_wp2_with fail
      refine Hst.out.mono ?_
      rintro e w2 ⟨Z2, o2, ⟨rfl, hz2, hb2, hk2⟩, hR2⟩
      have H2 := Lib.hid (And.intro hR2 (And.intro hz2 (And.intro hb2 (And.intro (H.out.2.2.2.1.after hk2 (fun x hx => .inr (by
        simp only [List.mem_cons, List.not_mem_nil, or_false] at hx
        omega))) (H.out.2.2.2.2.after hk2 (fun x hx => by
        simp only [List.mem_cons, List.not_mem_nil, or_false] at hx ⊢
        omega))))))
      clear hz2 hb2 hk2 hR2
      go_wp2_with fail
      go_roundg (100 - (i + 1))
      case measure => have := Hgk.out; omega
      case rel => exact ⟨i + 1, Z2, o2, hi98, rfl, by go_num, H2.out.1, H2.out.2.1, H2.out.2.2.1, H2.out.2.2.2.1, H2.out.2.2.2.2⟩
end Go.Proofs.Ytaccjmdljiignaa
