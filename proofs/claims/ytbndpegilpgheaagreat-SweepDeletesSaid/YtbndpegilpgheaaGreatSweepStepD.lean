/-
  A sweeper's step (package sweep): Step, where it deletes.
  As in the scan's file.
-/
import Derived.Test.YtbndpegilpgheaaGreatSweepStep
namespace Go.Proofs.YtbndpegilpgheaaGreat
open Go Go.RowKit

/-- What a step that deletes leaves. -/
def goneZ (Q : List (Int × Bool)) (Z : SweepS) (r : List ByteArray) : SweepS := if tryWorks Q then ⟨Z.cfg, Z.scan, r, true, Z.gone + 1⟩ else Z

theorem del_of {w w1 W : World} {b f c mb B p q gb B2 : Nat} {armed : Bool} {Q : List (Int × Bool)} {o : List (ByteArray × Ob)} {Z : SweepS} {r : List ByteArray} {v v' : Value} (hB : B ≤ p) (hpq : p ≠ q) (hpg : p ≠ gb) (hb1 : p < B2) (hb2 : q < B2) (hb3 : gb < B2) (hlow : b < B ∧ f < B ∧ c < B ∧ mb < B)
    (hS : ScanAt (p + 1) w B q gb Z.scan) (hk : Keeps [f, c, mb] w w1) (hBk : BucketAt w1 b f c mb armed Q o) (h6 : w1.heap[p]? = some (.cells #[.int .i64 Z.cfg.1, .int .i64 Z.cfg.2.1, .int .i64 Z.cfg.2.2, .pointer (some ⟨q, 0, none⟩), v, .bool true, .int .i64 Z.gone] 153 (0, 0)))
    (hs : SliceFrom B2 1 encS1 w v' r) (hW : W = (w1.setCell ⟨p, 4, none⟩ v').setCell ⟨p, 6, none⟩ (.int .i64 (Z.gone + 1))) : SweepAt W B p q gb ⟨Z.cfg, Z.scan, r, true, Z.gone + 1⟩ ∧ BucketAt W b f c mb armed Q o ∧ Keeps [f, c, mb, p, q, gb] w W := by
  have t4 := heap_cell_same (i := 4) h6 v'
  have t6 := heap_cell_same (i := 6) t4 (.int .i64 (Z.gone + 1))
  have k2 : Keeps [p] w1 W := by rw [hW]; exact ((Keeps.refl [p] w1).setCell (.inl (by simp)) _).setCell (.inl (by simp)) _
  rw [← hW] at t6
  have hq := hS.1
  have hg := hS.2.1
  exact ⟨⟨hB, hpq, hpg, B2, v', hb1, hb2, hb3, t6.trans (by simp), (hs.keep hk (by simp; omega)).keep k2 (by simp; omega), (hS.keep hk (by simp; omega)).keepX k2 (by simp; omega)⟩,
    hBk.keep k2 (by simp; omega) (by simp; omega) (by simp; omega) (by simp; omega), (hk.mono (by simp)).trans (k2.mono (by simp))⟩


set_option linter.unusedSimpArgs false in
set_option maxRecDepth 100000 in
set_option maxHeartbeats 1000000 in
theorem sweepStep_del (w : World) (b f c mb B p q gb : Nat) (armed : Bool) (Q : List (Int × Bool)) (o : List (ByteArray × Ob)) (Z : SweepS) (now : Int) (x : ByteArray) (r : List ByteArray) (hb : BucketAt w b f c mb armed Q o) (hz : SweepAt w B p q gb Z) (hr : Z.ready = true) (hl : Z.left = x :: r) (hlow : b < B ∧ f < B ∧ c < B ∧ mb < B) (hgn : 0 ≤ Z.gone ∧ Z.gone ≤ 1000000000) :
    Calls Tryz.prog 24 #[.pointer (some ⟨p, 0, none⟩), .pointer (some ⟨b, 0, none⟩), .int .i64 now] w (StepZ w b f c mb B p q gb (tryArmed Q) (tryQ Q) (chg Q o (del o x)) (goneZ Q Z r) (ioErr Q)) := by
  have Hd := Lib.hid (sweepDone_spec w B p q gb Z hz)
  rw [hr, hl] at Hd
  have Hdel := Lib.hid (delete_spec w b f c mb armed Q o hb x)
  have HZ := Lib.hid hz
  obtain ⟨hB, hpq, hpg, B2, vl, hb1, hb2, hb3, h6, h7, h8⟩ := hz
  rw [hl] at h7
  have h7' := h7
  obtain ⟨ao, cap, rfl, hlm, hc, hn, hx⟩ := h7
  obtain ⟨b2, off, rfl, hB2, hlt2, hcell⟩ := hx 0 (by simp)
  have d0 : w.cell? ⟨b2, off, none⟩ = some (.string x) := by simpa [encS1] using hcell 0 (by decide)
  obtain ⟨_, _, he, _, _, _, _, ht1, ht2⟩ := h7'.tail
  injection he with he
  injection he with he1 he2 _
  subst he1 he2
  have hpos : (0 : Int) < (((x :: r).length : Nat) : Int) := by simp only [List.length_cons]; omega
  have hge : (1 : Int) ≤ (((x :: r).length : Nat) : Int) := by omega
  have hlr : (x :: r).length = r.length + 1 := rfl
  unfold maxLen at hlm
  rw [hr] at h6
  have c5 := cells_at h6
  have l5 := lt_of_at h6
  have H0 := Lib.hid (And.intro h6 (And.intro h8 (And.intro ht1 ht2)))
  generalize (x :: r).length = n at c5 hlm hc hpos hge hlr H0
  clear hx hcell ht1 ht2 h6 h7' h8 hb hl hn
  go_enter Tryz.func24, Tryz.ntmps24
  go_wp2_with fail
  refine Hd.out.mono ?_
  rintro e w1 ⟨rfl, rfl⟩
  simp only [List.isEmpty_cons, Bool.and_false]
  go_wp2_with fail
  refine Hdel.out.mono ?_
  rintro e w1 ⟨rfl, hb1', hk1⟩
  have hq8 := H0.out.2.1.1
  have hg8 := H0.out.2.1.2.1
  have hpn : p ∉ [f, c, mb] := by simp; omega
  have h6 := hk1.at_ H0.out.1 hpn
  have c5 := cells_at h6
  have l5 := lt_of_at h6
  have f5 := free_at h6
  have H1 := Lib.hid (And.intro h6 (And.intro hb1' hk1))
  have hgs : IntKind.i64.wrap (Z.gone + 1) = Z.gone + 1 := IntWalk.i64_in _ (by omega)
  clear h6 hb1' hk1 d0
  cases hw : tryWorks Q with
  | true =>
    have hio : ioErr Q = 0 := by unfold ioErr; rw [if_pos hw]
    have hgz : goneZ Q Z r = ⟨Z.cfg, Z.scan, r, true, Z.gone + 1⟩ := by unfold goneZ; rw [if_pos hw]
    have Hgz := Lib.hid (And.intro hgz hio)
    rw [hio]
    clear hio hgz hw
    go_wp2_with fail
    · go_ret
      have hx := del_of hB hpq hpg hb1 hb2 hb3 hlow H0.out.2.1 H1.out.2.2 H1.out.2.1 H1.out.1 (v' := .slice (some ⟨b2, off, none⟩) r.length 0) (r := r) (by
        rw [H0.out.2.2.2 (by assumption)]
        exact ⟨_, _, rfl, by simp [maxLen], Nat.le_refl _, (fun e => by cases e), fun i hi => by simp at hi⟩) rfl
      exact ⟨by rw [Hgz.out.2]; try rfl, by rw [Hgz.out.1]; exact hx.1, hx.2.1, hx.2.2⟩
    · go_ret
      have hx := del_of hB hpq hpg hb1 hb2 hb3 hlow H0.out.2.1 H1.out.2.2 H1.out.2.1 H1.out.1 (v' := .slice (some ⟨b2, off + 1, none⟩) r.length (cap - 1)) (r := r) (H0.out.2.2.1 (by omega)) rfl
      exact ⟨by rw [Hgz.out.2]; try rfl, by rw [Hgz.out.1]; exact hx.1, hx.2.1, hx.2.2⟩
  | false =>
    have hio : ioErr Q = 8 := by unfold ioErr; rw [if_neg (by rw [hw]; simp)]
    have hgz : goneZ Q Z r = Z := by unfold goneZ; rw [if_neg (by rw [hw]; simp)]
    have Hgz := Lib.hid (And.intro hgz hio)
    rw [hio]
    clear hio hgz hw
    go_wp2_with fail
    go_ret
    exact ⟨by rw [Hgz.out.2]; try rfl, by rw [Hgz.out.1]; exact HZ.out.keep H1.out.2.2 (by simp; omega), H1.out.2.1, H1.out.2.2.mono (by simp)⟩
end Go.Proofs.YtbndpegilpgheaaGreat
