/-
  May a meta that was read be said: the document's Check (package barographref09) is okT.
  No condition beyond those that each theorem states.
-/
import Derived.Test.YtjffdcflkkgpfaaGreatTakeMG
import Derived.Test.YtjffdcflkkgpfaaGreatRefIdent
namespace Go.Proofs.YtjffdcflkkgpfaaGreat
open Go Go.RowKit
open Go.Op (bytesLess)

/-- A meta's values as they are read, its lists in blocks from B on. -/
def MetaVT (B : Nat) (w : World) (vs : List Value) (m : MetaT) : Prop :=
  ∃ vf vo, vs = [.string ⟨m.id.toArray⟩, .int .i64 m.mn, .int .i64 m.mx, .int .i64 m.level, .int .i64 m.series, .int .i64 m.samples, vf, vo] ∧ SliceFrom B 3 encFileT w vf m.files ∧ SliceFrom B 1 encS1T w vo m.sources

theorem MetaVT.keep {B : Nat} {w w' : World} {vs : List Value} {m : MetaT} {S : List Nat} (h : MetaVT B w vs m) (k : Keeps S w w') (hS : ∀ x ∈ S, x < B) : MetaVT B w' vs m := by
  obtain ⟨vf, vo, e, h1, h2⟩ := h
  exact ⟨vf, vo, e, h1.keep k hS, h2.keep k hS⟩

theorem MetaVT.low {B B' : Nat} {w : World} {vs : List Value} {m : MetaT} (h : MetaVT B w vs m) (hB : B' ≤ B) : MetaVT B' w vs m := by
  obtain ⟨vf, vo, e, h1, h2⟩ := h
  exact ⟨vf, vo, e, h1.low hB, h2.low hB⟩

theorem okT_parts (m : MetaT) : okT m = (saneT m && (match m.files with
    | [(n1, s1, _), (n2, s2, _)] => decide (n1 = chunksB.data.toList) && decide (n2 = indexB.data.toList) && decide (0 ≤ s1) && decide (s1 ≤ 1048576) && decide (0 ≤ s2) && decide (s2 ≤ 1048576)
    | _ => false) && decide (m.sources.length ≤ 50) && m.sources.all (fun s => isIDB s && decide (s ≠ m.id)) && risesT m.sources) := rfl

def sizeOk (z : Int) : Prop := 0 ≤ z ∧ z ≤ 1048576

def RkRel1 (w : World) (s1 s2 : Int) (gk : Nat) (u : Value) (wr : World) : Prop := ∃ k, k ≤ 2 ∧ gk = 2 - k ∧ u = .int .i64 k ∧ (1 ≤ k → sizeOk s1) ∧ (2 ≤ k → sizeOk s2) ∧ Keeps [] w wr

def lastS (S : List (List UInt8)) : Nat → List UInt8
  | 0 => []
  | j + 1 => S[j]?.getD []

def RkRel2 (w : World) (S : List (List UInt8)) (id : List UInt8) (gk : Nat) (u5 u : Value) (wr : World) : Prop := ∃ j, j ≤ S.length ∧ gk = S.length - j ∧ u = .int .i64 j ∧ u5 = .string ⟨(lastS S j).toArray⟩ ∧ (∀ x ∈ S.take j, isIDB x = true ∧ x ≠ id) ∧ (∀ i (_ : i + 1 < S.length), i + 1 < j → bytesLess S[i] S[i + 1] = true) ∧ Keeps [] w wr

set_option linter.unusedSimpArgs false in
set_option maxRecDepth 100000 in
set_option maxHeartbeats 4000000 in
theorem rMetaCheck_spec (B : Nat) (w : World) (vs : List Value) (m : MetaT) (h : MetaVT B w vs m) :
    Calls Tryz.prog 117 #[.agg vs.toArray] w fun e w' => e = .returned (.bool (okT m)) ∧ Keeps [] w w' := by
  obtain ⟨vf, vo, rfl, hf, ho⟩ := h
  have Hf := Lib.hid (And.intro hf ho)
  obtain ⟨af, cf, rfl, -, -, -, -⟩ := hf
  obtain ⟨ao, co, rfl, -, hno, -, -⟩ := ho
  have Hid := Lib.hid (fun W s => rId_spec W s)
  obtain ⟨mb, hmb⟩ : ∃ n, n = w.heap.size := ⟨_, rfl⟩
  have n0 := heap_new w (.cells #[.string ⟨m.id.toArray⟩, .int .i64 m.mn, .int .i64 m.mx, .int .i64 m.level, .int .i64 m.series, .int .i64 m.samples, .slice af m.files.length cf, .slice ao m.sources.length co] 66)
  have k0 : Keeps [] w (w.alloc (.cells #[.string ⟨m.id.toArray⟩, .int .i64 m.mn, .int .i64 m.mx, .int .i64 m.level, .int .i64 m.series, .int .i64 m.samples, .slice af m.files.length cf, .slice ao m.sources.length co] 66)) := (Keeps.refl [] w).alloc _
  rw [← hmb] at n0
  have H0 := Lib.hid (And.intro n0 (And.intro (Hf.out.1.keep k0 (by simp)) (And.intro (Hf.out.2.keep k0 (by simp)) k0)))
  have Hmb := Lib.hid hmb
  clear n0 k0 hmb
  have cb0 := cells_at H0.out.1
  have lb0 := lt_of_at H0.out.1
  go_enter Tryz.func117, Tryz.ntmps117
  go_upto_region 1 with fail
  rw [← Hmb.out]
  generalize w.alloc (.cells #[.string ⟨m.id.toArray⟩, .int .i64 m.mn, .int .i64 m.mx, .int .i64 m.level, .int .i64 m.series, .int .i64 m.samples, .slice af m.files.length cf, .slice ao m.sources.length co] 66) = W0 at H0 cb0 lb0 ⊢
  go_wp2_with fail
  refine (Hid.out _ _).mono ?_
  rintro e w1 ⟨rfl, hk1⟩
  rw [show (⟨m.id.toArray⟩ : ByteArray).data.toList = m.id from rfl]
  clear cb0 lb0
  have H1 := Lib.hid (And.intro (hk1.at_ H0.out.1 (by simp)) (And.intro (H0.out.2.1.keep hk1 (by simp)) (And.intro (H0.out.2.2.1.keep hk1 (by simp)) (H0.out.2.2.2.trans hk1))))
  clear H0 hk1 Hf
  have cb := cells_at H1.out.1
  have lb := lt_of_at H1.out.1
  cases g0 : isIDB m.id with
  | false =>
    have HS := Lib.hid (okT_not (m := m) (by unfold saneT; simp [g0]))
    clear g0
    go_wp2_with fail
    go_ret
    exact ⟨by rw [HS.out]; rfl, H1.out.2.2.2⟩
  | true =>
    by_cases g1 : m.mn < 0
    · have HS := Lib.hid (okT_not (m := m) (by have hh : decide (0 ≤ m.mn) = false := by { rw [decide_eq_false_iff_not]; omega }; unfold saneT; simp [hh]))
      go_wp2_with fail
      go_ret
      exact ⟨by rw [HS.out]; rfl, H1.out.2.2.2⟩
    by_cases g2 : m.mx > 1099511627776
    · have HS := Lib.hid (okT_not (m := m) (by have hh : decide (m.mx ≤ 1099511627776) = false := by { rw [decide_eq_false_iff_not]; omega }; unfold saneT; simp [hh]))
      go_wp2_with fail
      go_ret
      exact ⟨by rw [HS.out]; rfl, H1.out.2.2.2⟩
    by_cases g3 : m.mn ≥ m.mx
    · have HS := Lib.hid (okT_not (m := m) (by have hh : decide (m.mn < m.mx) = false := by { rw [decide_eq_false_iff_not]; omega }; unfold saneT; simp [hh]))
      go_wp2_with fail
      go_ret
      exact ⟨by rw [HS.out]; rfl, H1.out.2.2.2⟩
    by_cases g4 : m.level < 1
    · have HS := Lib.hid (okT_not (m := m) (by have hh : decide (1 ≤ m.level) = false := by { rw [decide_eq_false_iff_not]; omega }; unfold saneT; simp [hh]))
      go_wp2_with fail
      go_ret
      exact ⟨by rw [HS.out]; rfl, H1.out.2.2.2⟩
    by_cases g5 : m.level > 9
    · have HS := Lib.hid (okT_not (m := m) (by have hh : decide (m.level ≤ 9) = false := by { rw [decide_eq_false_iff_not]; omega }; unfold saneT; simp [hh]))
      go_wp2_with fail
      go_ret
      exact ⟨by rw [HS.out]; rfl, H1.out.2.2.2⟩
    by_cases g6 : m.series < 0
    · have HS := Lib.hid (okT_not (m := m) (by have hh : decide (0 ≤ m.series) = false := by { rw [decide_eq_false_iff_not]; omega }; unfold saneT; simp [hh]))
      go_wp2_with fail
      go_ret
      exact ⟨by rw [HS.out]; rfl, H1.out.2.2.2⟩
    by_cases g7 : m.samples < m.series
    · have HS := Lib.hid (okT_not (m := m) (by have hh : decide (m.series ≤ m.samples) = false := by { rw [decide_eq_false_iff_not]; omega }; unfold saneT; simp [hh]))
      go_wp2_with fail
      go_ret
      exact ⟨by rw [HS.out]; rfl, H1.out.2.2.2⟩
    by_cases g8 : m.samples > 1073741824
    · have HS := Lib.hid (okT_not (m := m) (by have hh : decide (m.samples ≤ 1073741824) = false := by { rw [decide_eq_false_iff_not]; omega }; unfold saneT; simp [hh]))
      go_wp2_with fail
      go_ret
      exact ⟨by rw [HS.out]; rfl, H1.out.2.2.2⟩
    have hsane : saneT m = true := by
      unfold saneT
      simp only [g0, Bool.true_and, Bool.and_eq_true, decide_eq_true_eq]
      omega
    by_cases hl2 : m.files.length = 2
    rotate_left
    · have HS := Lib.hid (okT_files (m := m) hl2)
      have hl2' : ¬ (m.files.length : Int) = 2 := by omega
      have hl3 : ((m.files.length : Int) == 2) = false := by rw [beq_eq_false_iff_ne]; omega
      have hl4 : ((m.files.length : Int) != 2) = true := by rw [bne, hl3]; rfl
      go_wp2_with fail
      go_ret
      exact ⟨by rw [HS.out]; rfl, H1.out.2.2.2⟩
    obtain ⟨⟨n1, s1, c1⟩, ⟨n2, s2, c2⟩, hfs⟩ : ∃ f1 f2, m.files = [f1, f2] := by
      match hf : m.files with
      | [f1, f2] => exact ⟨f1, f2, rfl⟩
      | [] => rw [hf] at hl2; simp at hl2
      | [_] => rw [hf] at hl2; simp at hl2
      | _ :: _ :: _ :: _ => rw [hf] at hl2; simp at hl2
    have hrow := H1.out.2.1
    rw [hfs] at hrow
    have Hrow := Lib.hid (show SliceFrom B 3 encFileT w1 (.slice af 2 cf) [(n1, s1, c1), (n2, s2, c2)] from hrow)
    have Hok := Lib.hid (And.intro hsane hfs)
    clear hrow hfs hsane
    obtain ⟨b6, of6, ea, -, hb6, hc6⟩ := Hrow.out.atI 0 (by simp)
    obtain ⟨b6', of6', ea', -, -, hc7⟩ := Hrow.out.atI 1 (by simp)
    subst ea
    injection ea' with ea'
    injection ea' with eb eo _
    subst eb eo
    obtain ⟨nb, hnb⟩ : ∃ b : ByteArray, b = ⟨n1.toArray⟩ := ⟨_, rfl⟩
    obtain ⟨nc, hnc⟩ : ∃ b : ByteArray, b = ⟨n2.toArray⟩ := ⟨_, rfl⟩
    have d0 : w1.cell? ⟨b6, of6, none⟩ = some (.string nb) := by rw [hnb]; exact hc6 0 (by decide)
    have d3 : w1.cell? ⟨b6, of6 + 3, none⟩ = some (.string nc) := by rw [hnc]; exact hc7 0 (by decide)
    have hnd : nb.data.toList = n1 := by rw [hnb]
    have hne : nc.data.toList = n2 := by rw [hnc]
    have Hnd := Lib.hid (And.intro hnd hne)
    have hl3 : ((m.files.length : Int) == 2) = true := by rw [beq_iff_eq]; omega
    have hl4 : ((m.files.length : Int) != 2) = false := by rw [bne, hl3]; rfl
    rw [hl2] at cb ⊢
    clear hl2 hl3 hl4 hc6 hc7 hnb hnc hnd hne
    by_cases hn : n1 = chunksB.data.toList
    rotate_left
    · have HS := Lib.hid (okT_bad Hok.out.2 (fun h => hn h.1.1))
      have hse : (nb.toList == [99, 104, 117, 110, 107, 115]) = false := by rw [ByteArray.toList_eq, Hnd.out.1, beq_eq_false_iff_ne]; exact fun e => hn (e.trans (by decide))
      have hse2 : (nb.toList != [99, 104, 117, 110, 107, 115]) = true := by rw [bne, hse]; rfl
      clear hn
      go_wp2_with fail
      go_ret
      exact ⟨by rw [HS.out]; rfl, H1.out.2.2.2⟩
    have hse : (nb.toList == [99, 104, 117, 110, 107, 115]) = true := by rw [ByteArray.toList_eq, Hnd.out.1, hn]; decide
    have hse2 : (nb.toList != [99, 104, 117, 110, 107, 115]) = false := by rw [bne, hse]; rfl
    by_cases hn2 : n2 = indexB.data.toList
    rotate_left
    · have HS := Lib.hid (okT_bad Hok.out.2 (fun h => hn2 h.2.1))
      have hsf : (nc.toList == [105, 110, 100, 101, 120]) = false := by rw [ByteArray.toList_eq, Hnd.out.2, beq_eq_false_iff_ne]; exact fun e => hn2 (e.trans (by decide))
      have hsf2 : (nc.toList != [105, 110, 100, 101, 120]) = true := by rw [bne, hsf]; rfl
      clear hn hn2
      go_wp2_with fail
      go_ret
      exact ⟨by rw [HS.out]; rfl, H1.out.2.2.2⟩
    have hsf : (nc.toList == [105, 110, 100, 101, 120]) = true := by rw [ByteArray.toList_eq, Hnd.out.2, hn2]; decide
    have hsf2 : (nc.toList != [105, 110, 100, 101, 120]) = false := by rw [bne, hsf]; rfl
    by_cases hs50 : m.sources.length ≤ 50
    rotate_left
    · have HS := Lib.hid (okT_many (m := m) hs50)
      have hs5 : (m.sources.length : Int) > 50 := by omega
      clear hn hn2
      go_wp2_with fail
      go_ret
      exact ⟨by rw [HS.out]; rfl, H1.out.2.2.2⟩
    have hs51 : ¬ (m.sources.length : Int) > 50 := by omega
    have hs52 : ¬ 50 < m.sources.length := by omega
    have hs53 : decide (50 < m.sources.length) = false := by rw [decide_eq_false_iff_not]; omega
    have Hn := Lib.hid (And.intro hn (And.intro hn2 hs50))
    clear hn hn2
    go_wp2_with fail
    clear g0 g1 g2 g3 g4 g5 g6 g7 g8 d0 d3 hse hse2 hsf hsf2
    go_loopg [85] 2 (RkRel1 w1 s1 s2)
    case atStart => exact ⟨0, by decide, rfl, rfl, fun h => absurd h (by decide), fun h => absurd h (by decide), Keeps.refl _ _⟩
    case round =>
      obtain ⟨k, hk, hgk, rfl, hf1, hf2, hkr⟩ := hrel
      have Hg := Lib.hid (And.intro hgk (And.intro hf1 hf2))
      clear hgk hf1 hf2 cb lb
      rcases (by omega : k = 0 ∨ k = 1 ∨ k = 2) with rfl | rfl | rfl
      · obtain ⟨bx, ox, ea, -, hbx, hcx⟩ := (Hrow.out.keep hkr (by simp)).atI 0 (by simp)
        injection ea with ea
        injection ea with eb eo _
        subst eb eo
        obtain ⟨nb, hnb⟩ : ∃ b : ByteArray, b = ⟨n1.toArray⟩ := ⟨_, rfl⟩
        have d0 : wr.cell? ⟨b6, of6, none⟩ = some (.string nb) := by rw [hnb]; exact hcx 0 (by decide)
        have d1 : wr.cell? ⟨b6, of6 + 1, none⟩ = some (.int .i64 s1) := hcx 1 (by decide)
        have d2 : wr.cell? ⟨b6, of6 + 2, none⟩ = some (.int .u32 c1) := hcx 2 (by decide)
        clear hcx hnb
        have kr2 : Keeps [] wr (wr.alloc (.cells #[.string nb, .int .i64 s1, .int .u32 c1] 170)) := (Keeps.refl [] wr).alloc _
        have nr2 := heap_new wr (.cells #[.string nb, .int .i64 s1, .int .u32 c1] 170)
        have Hk := Lib.hid (hkr.trans kr2)
        clear kr2 hkr
        go_upto_region 8 with fail
        clear d0 d1 d2
        generalize wr.alloc (.cells #[.string nb, .int .i64 s1, .int .u32 c1] 170) = W2 at nr2 Hk ⊢
        generalize wr.heap.size = bx at nr2 ⊢
        have cx := cells_at nr2
        have lx := lt_of_at nr2
        by_cases hz0 : s1 < 0
        · have HS := Lib.hid (okT_bad Hok.out.2 (fun h => by have := h.1.2.1; omega))
          go_wp2_with fail
          go_ret
          exact ⟨by rw [HS.out]; rfl, H1.out.2.2.2.trans Hk.out⟩
        by_cases hz1 : s1 > 1048576
        · have HS := Lib.hid (okT_bad Hok.out.2 (fun h => by have := h.1.2.2; omega))
          go_wp2_with fail
          go_ret
          exact ⟨by rw [HS.out]; rfl, H1.out.2.2.2.trans Hk.out⟩
        have Hok1 := Lib.hid (show sizeOk s1 from ⟨by omega, by omega⟩)
        go_wp2_with fail
        go_roundg (2 - 1)
        case measure => have := Hg.out.1; omega
        case rel => exact ⟨1, by decide, rfl, rfl, fun _ => Hok1.out, fun h => absurd h (by decide), Hk.out⟩
      · obtain ⟨bx, ox, ea, -, hbx, hcx⟩ := (Hrow.out.keep hkr (by simp)).atI 1 (by simp)
        injection ea with ea
        injection ea with eb eo _
        subst eb eo
        obtain ⟨nb, hnb⟩ : ∃ b : ByteArray, b = ⟨n2.toArray⟩ := ⟨_, rfl⟩
        have d0 : wr.cell? ⟨b6, of6 + 3, none⟩ = some (.string nb) := by rw [hnb]; exact hcx 0 (by decide)
        have d1 : wr.cell? ⟨b6, of6 + 3 + 1, none⟩ = some (.int .i64 s2) := hcx 1 (by decide)
        have d2 : wr.cell? ⟨b6, of6 + 3 + 2, none⟩ = some (.int .u32 c2) := hcx 2 (by decide)
        clear hcx hnb
        have kr2 : Keeps [] wr (wr.alloc (.cells #[.string nb, .int .i64 s2, .int .u32 c2] 170)) := (Keeps.refl [] wr).alloc _
        have nr2 := heap_new wr (.cells #[.string nb, .int .i64 s2, .int .u32 c2] 170)
        have Hk := Lib.hid (hkr.trans kr2)
        clear kr2 hkr
        go_upto_region 8 with fail
        clear d0 d1 d2
        generalize wr.alloc (.cells #[.string nb, .int .i64 s2, .int .u32 c2] 170) = W2 at nr2 Hk ⊢
        generalize wr.heap.size = bx at nr2 ⊢
        have cx := cells_at nr2
        have lx := lt_of_at nr2
        by_cases hz0 : s2 < 0
        · have HS := Lib.hid (okT_bad Hok.out.2 (fun h => by have := h.2.2.1; omega))
          go_wp2_with fail
          go_ret
          exact ⟨by rw [HS.out]; rfl, H1.out.2.2.2.trans Hk.out⟩
        by_cases hz1 : s2 > 1048576
        · have HS := Lib.hid (okT_bad Hok.out.2 (fun h => by have := h.2.2.2; omega))
          go_wp2_with fail
          go_ret
          exact ⟨by rw [HS.out]; rfl, H1.out.2.2.2.trans Hk.out⟩
        have Hok1 := Lib.hid (show sizeOk s2 from ⟨by omega, by omega⟩)
        go_wp2_with fail
        go_roundg (2 - 2)
        case measure => have := Hg.out.1; omega
        case rel => exact ⟨2, by decide, rfl, rfl, fun _ => Hg.out.2.1 (by decide), fun _ => Hok1.out, Hk.out⟩
      · have HF := Lib.hid (And.intro (Hg.out.2.1 (by decide)) (Hg.out.2.2 (by decide)))
        have He := Lib.hid hkr
        have nb := hkr.at_ H1.out.1 (by simp)
        have cb := cells_at nb
        have lb := lt_of_at nb
        clear hkr nb Hg
        go_wp2_with fail
        clear cb lb
        go_loopg [5, 101] m.sources.length (RkRel2 w1 m.sources m.id)
        case atStart => exact ⟨0, Nat.zero_le _, rfl, rfl, rfl, by simp, fun i _ h => absurd h (by omega), He.out⟩
        case round =>
          obtain ⟨j, hj, hgj, rfl, rfl, hall, hris, hkj⟩ := hrel
          have Hgj := Lib.hid (And.intro hgj (And.intro hall hris))
          clear hgj He hall hris
          by_cases hlt : j < m.sources.length
          · obtain ⟨b7, of7, ea, -, hb7, hc7⟩ := (H1.out.2.2.1.keep hkj (by simp)).atI j hlt
            subst ea
            have hj1 := List.take_succ_eq_append_getElem hlt
            have hmem : m.sources[j] ∈ m.sources := List.getElem_mem hlt
            have d7 : wr.cell? ⟨b7, of7 + j, none⟩ = some (.string ⟨m.sources[j].toArray⟩) := by simpa [encS1T] using hc7 0 (by decide)
            have hlt' : (j : Int) < (m.sources.length : Int) := by omega
            obtain ⟨sb, hsb⟩ : ∃ b : ByteArray, b = ⟨m.sources[j].toArray⟩ := ⟨_, rfl⟩
            have hsd : sb.data.toList = m.sources[j] := by rw [hsb]
            rw [← hsb] at d7
            have hls : (⟨(lastS m.sources (j + 1)).toArray⟩ : ByteArray) = sb := by
              rw [hsb]
              show (⟨(m.sources[j]?.getD []).toArray⟩ : ByteArray) = _
              rw [List.getElem?_eq_getElem hlt]
              rfl
            obtain ⟨lb0, hlb0⟩ : ∃ b : ByteArray, b = ⟨(lastS m.sources j).toArray⟩ := ⟨_, rfl⟩
            have hlbd : lb0.data.toList = lastS m.sources j := by rw [hlb0]
            rw [← hlb0]
            have Hsd := Lib.hid (And.intro hsd (And.intro hls hlbd))
            have Hkj := Lib.hid (And.intro hkj hj1)
            clear hc7 hsb hsd hj1 hls hlb0 hlbd hkj
            go_wp2_with fail
            refine (Hid.out _ _).mono ?_
            rintro e w3 ⟨rfl, hk3⟩
            rw [Hsd.out.1]
            have hk13 := Hkj.out.1.trans hk3
            have nb := hk13.at_ H1.out.1 (by simp)
            have cb := cells_at nb
            have lb := lt_of_at nb
            have Hk3 := Lib.hid hk13
            clear nb hk3 hk13 d7
            cases hid : isIDB m.sources[j] with
            | false =>
              have HS := Lib.hid (okT_one hmem (fun h => by rw [hid] at h; exact absurd h.1 (by simp)))
              clear hid hmem
              go_wp2_with fail
              go_ret
              exact ⟨by rw [HS.out]; rfl, H1.out.2.2.2.trans Hk3.out⟩
            | true =>
              obtain ⟨ib, hib⟩ : ∃ b : ByteArray, b = ⟨m.id.toArray⟩ := ⟨_, rfl⟩
              have hibd : ib.data.toList = m.id := by rw [hib]
              rw [← hib] at cb
              clear hib
              by_cases hne : m.sources[j] = m.id
              · have HS := Lib.hid (okT_one hmem (fun h => h.2 hne))
                have hbe : (sb.toList == ib.toList) = true := by rw [ByteArray.toList_eq, ByteArray.toList_eq, Hsd.out.1, hne, hibd]; simp
                clear hid hmem hne hibd
                go_wp2_with fail
                go_ret
                exact ⟨by rw [HS.out]; rfl, H1.out.2.2.2.trans Hk3.out⟩
              have hbe : (sb.toList == ib.toList) = false := by rw [ByteArray.toList_eq, ByteArray.toList_eq, Hsd.out.1, hibd]; simpa using hne
              have Hone := Lib.hid (show ∀ x ∈ m.sources.take (j + 1), isIDB x = true ∧ x ≠ m.id from fun x hx => by
                rw [Hkj.out.2] at hx
                rcases List.mem_append.1 hx with hx | hx
                · exact Hgj.out.2.1 x hx
                · obtain rfl := List.mem_singleton.1 hx
                  exact ⟨hid, hne⟩)
              obtain ⟨gb, hgb⟩ : ∃ g, g = (bytesLess sb.toList lb0.toList || sb.toList == lb0.toList) := ⟨_, rfl⟩
              have hgq : (bytesLess sb.toList lb0.toList || sb.toList == lb0.toList) = gb := hgb.symm
              have hls2 : bytesLess lb0.toList sb.toList = !gb := by rw [less_triG, hgb]
              have hless : bytesLess (lastS m.sources j) m.sources[j] = !gb := by rw [← hls2, ByteArray.toList_eq, ByteArray.toList_eq, Hsd.out.1, Hsd.out.2.2]
              have h16 := (isID_signs hid).1
              have Hless := Lib.hid (And.intro hless h16)
              clear hid hne hibd hmem hgb hless h16
              cases gb with
              | true =>
                simp only [Bool.not_true] at hls2
                have HS := Lib.hid (show okT m = false from by
                  have h := Hless.out.1
                  have h16 := Hless.out.2
                  rcases j with _ | i
                  · unfold lastS at h
                    cases hx : m.sources[0] with
                    | nil => rw [hx] at h16; simp at h16
                    | cons a l => rw [hx] at h; simp [bytesLess] at h
                  · refine okT_fall (i := i) hlt ?_
                    change bytesLess (m.sources[i]?.getD []) _ = _ at h
                    rw [List.getElem?_eq_getElem (by omega)] at h
                    simpa using h)
                go_wp2_with fail
                go_ret
                exact ⟨by rw [HS.out]; rfl, H1.out.2.2.2.trans Hk3.out⟩
              | false =>
                simp only [Bool.not_false] at hls2
                go_wp2_with fail
                go_roundg (m.sources.length - (j + 1))
                case measure => have := Hgj.out.1; omega
                case rel => exact ⟨j + 1, by omega, rfl, by go_num, by rw [Hsd.out.2.1], Hone.out, fun q hq h => by
                  by_cases e : q + 1 = j
                  · subst e
                    have h := Hless.out.1
                    change bytesLess (m.sources[q]?.getD []) _ = _ at h
                    rw [List.getElem?_eq_getElem (by omega)] at h
                    simpa using h
                  · exact Hgj.out.2.2 q hq (by omega), Hk3.out⟩
          · have hjn : j = m.sources.length := by omega
            have HS := Lib.hid (okT_yes Hok.out.1 Hok.out.2 ⟨Hn.out.1, HF.out.1⟩ ⟨Hn.out.2.1, HF.out.2⟩ Hn.out.2.2 (fun x hx => Hgj.out.2.1 x (by rw [hjn, List.take_length]; exact hx)) (risesT_of fun i hi => Hgj.out.2.2 i hi (by omega)))
            have He := Lib.hid hkj
            have hge : ¬ (j : Int) < (m.sources.length : Int) := by omega
            clear hkj hjn
            go_wp2_with fail
            go_ret
            exact ⟨by rw [HS.out]; rfl, H1.out.2.2.2.trans He.out⟩
end Go.Proofs.YtjffdcflkkgpfaaGreat
