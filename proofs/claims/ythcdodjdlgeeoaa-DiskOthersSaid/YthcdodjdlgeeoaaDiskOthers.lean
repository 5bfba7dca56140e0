/-
  DiskOthers answers true for every text and all acts, and leaves all memory that was there as it was.
  No condition: every input that can be read.
-/
import Derived.Test.YthcdodjdlgeeoaaDiskMine
import Derived.Deep.CutBlock
import Derived.Deep.CutRange
namespace Go.Proofs.Ythcdodjdlgeeoaa
open Go Go.RowKit Go.Conc Go.Deep

def OthRel (w : World) (d f c mb n : Nat) (m : ByteArray) (gk : Nat) (i : Value) (wr : World) : Prop :=
  ∃ k, k ≤ n ∧ k ≤ 25 ∧ gk = 25 - k ∧ i = .int .i64 k ∧ ∃ armed Q o, DiskAt wr d f c mb armed Q 100000 o ∧ InvM o m k ∧ Keeps [] w wr

set_option maxRecDepth 100000 in
set_option maxHeartbeats 1000000 in
theorem diskOthers_walk (w : World) (m0 : ByteArray) (v : Value) (L : List ActD) (hs : SliceArg 6 encActD w v L) (hok : ∀ x ∈ L, okActD w x) :
    Calls Try.prog 12 #[.string m0, v] w fun e w' => e = .returned (.bool true) ∧ Keeps [] w w' := by
  obtain ⟨ao, cap, rfl, hl, hc⟩ := hs
  unfold maxLen at hl
  have Hc := Lib.hid hc
  have Hok := Lib.hid hok
  have hm := cut_size m0 60
  clear hc hok
  go_enter Try.func12, Try.ntmps12
  go_wp2_with fail
  refine (cut_any m0 60 _ (by decide)).mono ?_
  rintro e w' ⟨rfl, rfl⟩
  generalize cut m0 60 = m at hm ⊢
  go_wp2_with fail
  refine (newDisk_spec w 100000 (by decide)).mono ?_
  rintro e w1 ⟨d, f, c, mb, rfl, hd1', hk1, l1, l2, l3, l4⟩
  have hd1 : DiskAt w1 d f c mb false [] 100000 [] := hd1'
  clear hd1'
  go_wp2_with fail
  refine (awakeD_spec w1).mono ?_
  rintro e w2 ⟨rfl, hk2⟩
  have hd2 := hd1.same hk2
  clear hd1
  go_wp2_with fail
  refine (append_spec w2 d f c mb _ _ _ _ hd2 dM m (by decide)).mono ?_
  rintro e w3 ⟨rfl, hd3', hk3⟩
  have hr3 : appR 100000 [] dM m = none := by
    unfold appR
    rw [if_neg (by decide), if_neg (by simp [used]; omega)]
  rw [hr3] at hd3' ⊢
  have hd3 : DiskAt w3 d f c mb false [] 100000 [(dM, (⟨#[]⟩ ++ m, 0))] := hd3'
  rw [show opErr none [] = 0 from rfl]
  have e0 : (⟨#[]⟩ : ByteArray) ++ m = m := by show ByteArray.empty ++ m = m; simp
  rw [e0] at hd3
  clear hr3 hd3' e0
  go_wp2_with fail
  refine (sync_spec w3 d f c mb _ _ _ _ hd3 dM).mono ?_
  rintro e w4 ⟨rfl, hd4', hk4⟩
  have hd4 : DiskAt w4 d f c mb false [] 100000 [(dM, (m, m.size))] := hd4'
  rw [show opErr (noneR [(dM, (m, 0))] dM) [] = 0 from rfl]
  have hk04 : Keeps [] w w4 := (((hk1.trans hk2).after hk3 (by simp; omega)).after hk4 (by simp; omega))
  have hinv0 : InvM [(dM, (m, (m.size : Int)))] m 0 := ⟨by simp, by simp only [used]; omega, by intro q hq; simp only [List.map_cons, List.map_nil, List.mem_singleton] at hq; subst hq; decide, rfl⟩
  clear hd4' hd2 hd3 hk1 hk2 hk3 hk4
  go_wp2_with fail
  go_loopg [6] 25 (OthRel w d f c mb L.length m)
  case atStart => exact ⟨0, Nat.zero_le _, by omega, rfl, rfl, _, _, _, hd4, hinv0, hk04⟩
  case round =>
    obtain ⟨k, hkl, hk25, hgk, rfl, armed, Q, o, hd, hinv, hk⟩ := hrel
    have Hg := Lib.hid hgk
    clear hgk hd4 hinv0 hk04
    by_cases hlt : k < L.length ∧ k < 25
    · obtain ⟨hlt, hlt25⟩ := hlt
      obtain ⟨b1, o1, rfl, hb1, hc1⟩ := Hc.out k hlt
      have hokx := Hok.out L[k] (List.getElem_mem _)
      generalize hx : L[k] = x at hc1 hokx
      clear hx
      obtain ⟨⟨ok1, ok2⟩, ⟨ok3, ok4⟩, oka, okb, okc, okd⟩ := hokx
      have d0 : wr.cell? ⟨b1, o1 + k * 6, none⟩ = some (.int .i64 x.kind) := by rw [hk.cell hb1 (by simp)]; simpa [encActD] using hc1 0 (by omega)
      have d1 : wr.cell? ⟨b1, o1 + k * 6 + 1, none⟩ = some (.int .i64 x.n) := by rw [hk.cell hb1 (by simp)]; rw [Nat.add_assoc]; simpa [encActD] using hc1 1 (by omega)
      have d2 : wr.cell? ⟨b1, o1 + k * 6 + 2, none⟩ = some (.string x.a) := by rw [hk.cell hb1 (by simp)]; rw [Nat.add_assoc]; simpa [encActD] using hc1 2 (by omega)
      have d3 : wr.cell? ⟨b1, o1 + k * 6 + 3, none⟩ = some (.string x.b) := by rw [hk.cell hb1 (by simp)]; rw [Nat.add_assoc]; simpa [encActD] using hc1 3 (by omega)
      have d4 : wr.cell? ⟨b1, o1 + k * 6 + 4, none⟩ = some (.bool x.done) := by rw [hk.cell hb1 (by simp)]; rw [Nat.add_assoc]; simpa [encActD] using hc1 4 (by omega)
      have d5 : wr.cell? ⟨b1, o1 + k * 6 + 5, none⟩ = some x.cv := by rw [hk.cell hb1 (by simp)]; rw [Nat.add_assoc]; simpa [encActD] using hc1 5 (by omega)
      clear hc1
      have hlt' : (k : Int) < (L.length : Int) := by omega
      have hlt2 : (k : Int) < 25 := by omega
      obtain ⟨cao, ccap, ecv⟩ : ∃ ao cap, x.cv = .slice ao x.ch.length cap := by obtain ⟨ao, cap, e, _⟩ := okc; exact ⟨ao, cap, e⟩
      rw [ecv] at d5 okc
      have hchl := okc.len
      unfold maxLen at hchl
      clear ecv
      have hna := ne_mine 120 (cut x.a 8) (by decide)
      have hnb := ne_mine 121 (cut x.b 8) (by decide)
      have hsa : ((⟨#[120]⟩ : ByteArray) ++ cut x.a 8).size ≤ 40 := by rw [ByteArray.size_append]; have := cut_size x.a 8; have := cut_size x.b 8; show 1 + _ ≤ 40; omega
      have hsb : ((⟨#[121]⟩ : ByteArray) ++ cut x.b 8).size ≤ 40 := by rw [ByteArray.size_append]; have := cut_size x.a 8; have := cut_size x.b 8; show 1 + _ ≤ 40; omega
      have hnod := hd.nodup
      have hlt4 := hd.lt
      have Hx := Lib.hid (And.intro okc okd)
      have H := Lib.hid (And.intro hd (And.intro hinv hk))
      have hws := hk.size
      clear okc okd hd hinv hk
      have hca := cut_size x.a 8
      have hcb := cut_size x.b 8
      by_cases k3 : x.kind = 3
      · have k3' : (x.kind == 3) = true := by simp [k3]
        go_upto_block 2 with (go_at_call 14; refine (cut_any _ 8 _ (by decide)).mono ?_; rintro e w' ⟨rfl, rfl⟩)
        have hk4 := H.out.2.2.alloc (.cells #[.int .i64 3, .int .i64 x.n, .string (⟨#[120]⟩ ++ cut x.a 8), .string (⟨#[121]⟩ ++ cut x.b 8), .bool x.done, .slice cao x.ch.length ccap] 70)
        have hd4 := H.out.1.same ((Keeps.refl [] wr).alloc (.cells #[.int .i64 3, .int .i64 x.n, .string (⟨#[120]⟩ ++ cut x.a 8), .string (⟨#[121]⟩ ++ cut x.b 8), .bool x.done, .slice cao x.ch.length ccap] 70))
        have hq4 := heap_new wr (.cells #[.int .i64 3, .int .i64 x.n, .string (⟨#[120]⟩ ++ cut x.a 8), .string (⟨#[121]⟩ ++ cut x.b 8), .bool x.done, .slice cao x.ch.length ccap] 70)
        have hinv := H.out.2.1
        clear d0 d1 d2 d3 d4 d5
        generalize wr.alloc (.cells #[.int .i64 3, .int .i64 x.n, .string (⟨#[120]⟩ ++ cut x.a 8), .string (⟨#[121]⟩ ++ cut x.b 8), .bool x.done, .slice cao x.ch.length ccap] 70) = W4 at hk4 hd4 hq4 ⊢
        have cq := cells_at hq4
        have lq := lt_of_at hq4
        generalize (⟨#[120]⟩ : ByteArray) ++ cut x.a 8 = na at hna hsa cq hq4 ⊢
        generalize (⟨#[121]⟩ : ByteArray) ++ cut x.b 8 = nb at hnb hsb cq hq4 ⊢
        go_wp2_with fail
        refine (ren_spec W4 d f c mb _ _ _ _ hd4 na nb (by omega)).mono ?_
        rintro e w5 ⟨rfl, hd5, hk5⟩
        have hk05 := hk4.after hk5 (by simp; omega)
        have Hi := Lib.hid (InvM.op (renR o na nb) Q hinv (hinv.ren hnod hna hnb hsb))
        clear hd4 hk4 hk5 hq4 cq hinv hna hnb
        go_wp2_with fail
        go_roundg (25 - (k + 1))
        case measure => have := Hg.out; omega
        case rel => exact ⟨k + 1, by omega, by omega, rfl, by go_num, _, _, _, hd5, Hi.out, hk05⟩
      · have k3' : (x.kind == 3) = false := by simp [k3]
        go_upto_block 2 with (go_at_call 14; refine (cut_any _ 8 _ (by decide)).mono ?_; rintro e w' ⟨rfl, rfl⟩)
        have hk4 := H.out.2.2.alloc (.cells #[.int .i64 x.kind, .int .i64 x.n, .string (⟨#[120]⟩ ++ cut x.a 8), .string x.b, .bool x.done, .slice cao x.ch.length ccap] 70)
        have hd4 := H.out.1.same ((Keeps.refl [] wr).alloc (.cells #[.int .i64 x.kind, .int .i64 x.n, .string (⟨#[120]⟩ ++ cut x.a 8), .string x.b, .bool x.done, .slice cao x.ch.length ccap] 70))
        have hq4 := heap_new wr (.cells #[.int .i64 x.kind, .int .i64 x.n, .string (⟨#[120]⟩ ++ cut x.a 8), .string x.b, .bool x.done, .slice cao x.ch.length ccap] 70)
        have hinv := H.out.2.1
        clear d0 d1 d2 d3 d4 d5
        generalize wr.alloc (.cells #[.int .i64 x.kind, .int .i64 x.n, .string (⟨#[120]⟩ ++ cut x.a 8), .string x.b, .bool x.done, .slice cao x.ch.length ccap] 70) = W4 at hk4 hd4 hq4 ⊢
        have cq := cells_at hq4
        have lq := lt_of_at hq4
        generalize (⟨#[120]⟩ : ByteArray) ++ cut x.a 8 = na at hna hsa cq hq4 ⊢
        clear k3 hnb hsb
        have hdata : Hid (∀ W, Calls Try.prog 14 #[.string x.b, .int .i64 50] W fun e w' => e = .returned (.string (cut x.b 50)) ∧ w' = W) := by
          apply Lib.hid
          intro W
          exact (cut_any x.b 50 W (by decide)).mono fun _ _ h => ⟨h.1, h.2.symm⟩
        have hd50 := cut_size x.b 50
        generalize cut x.b 50 = data at hd50 hdata
        by_cases k1 : x.kind = 1
        · have k1' : (x.kind == 1) = true := by simp [k1]
          clear k1
          go_wp2_with fail
          go_still_tail 6, (by kernel_rfl)
          still_call (hdata.out _)
          repeat still_step
          (try refine wpStill_nil ?_)
          change wpList _ _ _ _ _ W4.drew
          go_wp2_with fail
          refine (append_spec W4.drew d f c mb _ _ _ _ hd4.drew na data (by omega)).mono ?_
          rintro e w5 ⟨rfl, hd5, hk5⟩
          have hk05 := hk4.drew.after hk5 (by simp; omega)
          have Hi := Lib.hid (InvM.op (appR 100000 o na data) Q hinv (hinv.app data hna hsa hd50))
          clear hd4 hk4 hk5 hq4 cq hinv hna
          go_wp2_with fail
          go_roundg (25 - (k + 1))
          case measure => have := Hg.out; omega
          case rel => exact ⟨k + 1, by omega, by omega, rfl, by go_num, _, _, _, hd5, Hi.out, hk05⟩
        have k1' : (x.kind == 1) = false := by simp [k1]
        clear k1 hdata
        by_cases k2 : x.kind = 2
        · have k2' : (x.kind == 2) = true := by simp [k2]
          clear k2
          go_wp2_with fail
          refine (sync_spec W4 d f c mb _ _ _ _ hd4 na).mono ?_
          rintro e w5 ⟨rfl, hd5, hk5⟩
          have hk05 := hk4.after hk5 (by simp; omega)
          have Hi := Lib.hid (InvM.op (noneR o na) Q hinv (hinv.syn hna hsa))
          clear hd4 hk4 hk5 hq4 cq hinv
          go_wp2_with fail
          go_roundg (25 - (k + 1))
          case measure => have := Hg.out; omega
          case rel => exact ⟨k + 1, by omega, by omega, rfl, by go_num, _, _, _, hd5, Hi.out, hk05⟩
        have k2' : (x.kind == 2) = false := by simp [k2]
        clear k2
        by_cases k4 : x.kind = 4
        · have k4' : (x.kind == 4) = true := by simp [k4]
          clear k4
          go_wp2_with fail
          refine (remove_spec W4 d f c mb _ _ _ _ hd4 na).mono ?_
          rintro e w5 ⟨rfl, hd5, hk5⟩
          have hk05 := hk4.after hk5 (by simp; omega)
          have Hi := Lib.hid (InvM.op (noneR o na) Q hinv (hinv.del hnod hna).next)
          clear hd4 hk4 hk5 hq4 cq hinv
          go_wp2_with fail
          go_roundg (25 - (k + 1))
          case measure => have := Hg.out; omega
          case rel => exact ⟨k + 1, by omega, by omega, rfl, by go_num, _, _, _, hd5, Hi.out, hk05⟩
        have k4' : (x.kind == 4) = false := by simp [k4]
        clear k4
        by_cases k5 : x.kind = 5
        · have k5' : (x.kind == 5) = true := by simp [k5]
          clear k5
          have hst : ∀ w', Keeps [f, c, mb, d] W4 w' → SliceArg 1 encN w' (.slice cao x.ch.length ccap) x.ch := fun w' k => Hx.out.1.keep (hk4.after k (by simp; omega))
          obtain ⟨z1, z2, z3⟩ := hinv.sizes (by omega)
          go_wp2_with fail
          refine (crash_spec W4 d f c mb _ _ _ _ hd4 _ x.ch hst Hx.out.2 z1 z2 z3).mono ?_
          rintro e w5 ⟨rfl, hd5, hk5⟩
          have hk05 := hk4.after hk5 (by simp; omega)
          have Hi := Lib.hid (hinv.crash x.ch)
          clear hd4 hk4 hk5 hq4 cq hinv hst z1 z2 z3
          go_wp2_with fail
          go_roundg (25 - (k + 1))
          case measure => have := Hg.out; omega
          case rel => exact ⟨k + 1, by omega, by omega, rfl, by go_num, _, _, _, hd5, Hi.out, hk05⟩
        have k5' : (x.kind == 5) = false := by simp [k5]
        clear k5
        have Hi := Lib.hid hinv.next
        clear hinv
        by_cases k6 : x.kind = 6
        · have k6' : (x.kind == 6) = true := by simp [k6]
          clear k6
          have cd := cells_at hd4.cells
          have ld := hd4.lt.1
          go_wp2_with fail
          go_still_tail 8, (by kernel_rfl)
          change wpList _ _ _ _ _ W4.drew
          go_wp2_with fail
          refine (arm_weak W4.drew f c _ _ x.n x.done ok4 hd4.drew.fuse).mono ?_
          rintro e w5 ⟨r, Q', rfl, hq5, hk5⟩
          have hd5 := hd4.drew.tried hk5 hq5
          have hk05 := hk4.drew.after hk5 (by simp; omega)
          clear hd4 hk4 hk5 hq4 cq cd hq5
          go_wp2_with fail
          go_roundg (25 - (k + 1))
          case measure => have := Hg.out; omega
          case rel => exact ⟨k + 1, by omega, by omega, rfl, by go_num, _, _, _, hd5, Hi.out, hk05⟩
        have k6' : (x.kind == 6) = false := by simp [k6]
        clear k6 cq hq4
        go_wp2_with fail
        go_roundg (25 - (k + 1))
        case measure => have := Hg.out; omega
        case rel => exact ⟨k + 1, by omega, by omega, rfl, by go_num, _, _, _, hd4, Hi.out, hk4⟩
    · go_wp2_with fail
      all_goals
        refine (read_spec wr d f c mb _ _ _ _ hd dM).mono ?_
        rintro e w7 ⟨rfl, hk7⟩
        rw [hinv.mn]
        simp only [obOr, Option.getD_some, Option.isSome_some, if_true]
        have hk07 := hk.trans hk7
        clear hd hk7 hk hinv
        go_wp2_with fail
        go_ret
        exact ⟨rfl, hk07⟩

theorem diskOthers_law (W : World) (m : ByteArray) (_ : m.size ≤ maxLen) (v : Value) (h : ∃ L : List ActD, SliceArg 6 encActD W v L ∧ ∀ x ∈ L, okActD W x) :
    Calls Try.prog 12 #[.string m, v] W fun e w' => e = .returned (.bool true) ∧ Keeps [] W w' := by
  obtain ⟨L, h1, h2⟩ := h
  exact diskOthers_walk W m v L h1 h2

end Go.Proofs.Ythcdodjdlgeeoaa
