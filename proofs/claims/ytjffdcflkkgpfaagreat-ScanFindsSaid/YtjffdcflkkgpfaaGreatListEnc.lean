/-
  A listing as bytes (package listing): Encode, of metas that may be.
  The blocks are few, ticks small.
-/
import Derived.Test.YtjffdcflkkgpfaaGreatMetaTake
import Derived.Test.YtjffdcflkkgpfaaGreatPartsM
namespace Go.Proofs.YtjffdcflkkgpfaaGreat
open Go Go.RowKit Go.Conc

/-- A slice of metas in memory. -/
def MetasV (B : Nat) (w : World) (v : Value) (L : List MetaS) : Prop :=
  ∃ VS : List (List Value), SliceFrom B 8 id w v VS ∧ VS.length = L.length ∧ ∀ i (h : i < VS.length) (h' : i < L.length), MetaV B w VS[i] L[i]

theorem MetasV.keep {B : Nat} {w w' : World} {v : Value} {L : List MetaS} {S : List Nat} (h : MetasV B w v L) (k : Keeps S w w') (hS : ∀ x ∈ S, x < B) : MetasV B w' v L := by
  obtain ⟨VS, h1, h2, h3⟩ := h
  exact ⟨VS, h1.keep k hS, h2, fun i hi hi' => (h3 i hi hi').keep k hS⟩

theorem MetasV.same {B : Nat} {w w' : World} {v : Value} {L : List MetaS} (h : MetasV B w v L) (k : Keeps [] w w') : MetasV B w' v L := h.keep k (by simp)


set_option maxRecDepth 100000 in
set_option maxHeartbeats 1000000 in
theorem mput_spec (B : Nat) (w0 w : World) (vs : List Value) (m : MetaS) (v : Value) (l : List UInt8) (h : MetaV B w0 vs m) (ok : MetaOk m) (hk : Keeps [] w0 w) (hv : ∀ g, v.ownBlock = some g → w0.heap.size ≤ g) (hb : Buf w v l) (hl : l.length ≤ 1000000000) :
    Calls Tryz.prog 59 #[v, .agg vs.toArray] w (BufPost w v (l ++ metaL m)) := by
  have hvs := h
  obtain ⟨vf, vo, rfl, hsf, hso⟩ := hvs
  obtain ⟨af, cf, rfl, -, -, -, -⟩ := hsf
  obtain ⟨ao, co, rfl, -, -, -, -⟩ := hso
  have k0 : Keeps [] w (w.alloc (.cells #[.string m.id, .int .i64 m.mn, .int .i64 m.mx, .int .i64 m.level, .int .i64 m.series, .int .i64 m.samples, .slice af m.files.length cf, .slice ao m.sources.length co] 63)) := (Keeps.refl [] w).alloc _
  have Hp := Lib.hid (metaPut_spec B w0 _ _ m v l h ok (hk.trans k0) hv (hb.same k0) hl)
  have Hk := Lib.hid k0
  clear h k0 hb
  go_enter Tryz.func59, Tryz.ntmps59
  go_wp2_with fail
  refine Hp.out.mono ?_
  rintro e w1 ⟨v1, rfl, hb1, ht1⟩
  have H1 := Lib.hid (And.intro hb1 (Turns.since Hk.out ht1))
  clear hb1 ht1
  go_wp2_with fail
  go_ret
  exact ⟨v1, rfl, H1.out.1, H1.out.2⟩


theorem lookVal_intM (pm : PartsM) (n : ByteArray) : lookVal (encMap encI pm) n (.int .i64 0) true = .tuple #[.int .i64 ((look pm n).getD 0), .bool (look pm n).isSome] := by
  unfold lookVal
  rw [look_enc]
  cases look pm n <;> rfl

def markN (M : PartsM) (id : ByteArray) : Nat := match look M id with
  | some t => t.toNat + 1
  | none => 0

def blockL (M : PartsM) (m : MetaS) : List UInt8 := metaL m ++ lebL (markN M m.id)

def lstL (at_ : Nat) (L : List MetaS) (M : PartsM) : List UInt8 := lebL at_ ++ (lebL L.length ++ L.flatMap (blockL M))

def EncRel (W1 : World) (A : List UInt8) (F : Nat → List UInt8) (n gk : Nat) (vb u : Value) (wr : World) : Prop :=
  ∃ k, k ≤ n ∧ gk = n - k ∧ u = .int .i64 k ∧ Buf wr vb (A ++ F k) ∧ Turns (.slice none 0 0) W1 vb wr


set_option linter.unusedSimpArgs false in
set_option maxRecDepth 100000 in
set_option maxHeartbeats 4000000 in
theorem listEnc_spec (B : Nat) (w : World) (v : Value) (L : List MetaS) (at_ mb : Nat) (M : PartsM) (hL : MetasV B w v L) (ok : ∀ m ∈ L, MetaOk m) (hM : MapAt w mb (encMap encI M)) (hMb : ∀ id t, look M id = some t → 0 ≤ t ∧ t ≤ 1099511627776) (hat : at_ ≤ 1099511627776) (hl : L.length ≤ 20) :
    Calls Tryz.prog 22 #[.agg #[.int .i64 at_, v, .map (some mb)]] w fun e w' => e = .returned (.string ⟨(frameL 3 (lstL at_ L M)).toArray⟩) ∧ Keeps [] w w' := by
  obtain ⟨VS, hV1, hV2, hV3⟩ := hL
  have Hv := Lib.hid (And.intro hV1 (And.intro hV2 hV3))
  obtain ⟨av, cv, rfl, hvm, -, -, -⟩ := hV1
  rw [hV2]
  unfold maxLen at hvm
  have e1 : IntKind.u64.wrap (at_ : Int) = (at_ : Int) := IntWalk.u64_in _ (by omega)
  have e2 : IntKind.u64.wrap (L.length : Int) = (L.length : Int) := IntWalk.u64_in _ (by omega)
  have l1 := lebL_len10 (v := at_) (by omega)
  have l2 := lebL_len10 (v := L.length) (by omega)
  have n0 := heap_new w (.cells #[.int .i64 at_, .slice av L.length cv, .map (some mb)] 32)
  have k0 : Keeps [] w (w.alloc (.cells #[.int .i64 at_, .slice av L.length cv, .map (some mb)] 32)) := (Keeps.refl [] w).alloc _
  have H0 := Lib.hid (And.intro n0 (And.intro k0 (And.intro hM (And.intro hMb ok))))
  clear n0 k0 hM hMb ok hV2 hV3
  obtain ⟨R, hR⟩ : ∃ R, R = lstL at_ L M := ⟨_, rfl⟩
  have HR := Lib.hid hR
  rw [← hR]
  clear hR
  go_enter Tryz.func22, Tryz.ntmps22
  go_wp2_with fail
  refine (uint_spec _ (.slice none 0 0) [] at_ (by omega) (by simp) (buf_nil _)).mono ?_
  rintro e w2 ⟨v2, rfl, hb2, ht2⟩
  rw [List.nil_append] at hb2
  have nb2 := (ht2.box H0.out.1 (by simp [Value.ownBlock])).1
  have cb2 := cells_at nb2
  have lb2 := lt_of_at nb2
  clear nb2
  go_wp2_with fail
  refine (uint_spec w2 v2 (lebL at_) L.length (by omega) (by omega) hb2).mono ?_
  rintro e w3 ⟨v3, rfl, hb3, ht3⟩
  have T3 := ht2.trans ht3
  have nb3 := (T3.box H0.out.1 (by simp [Value.ownBlock])).1
  clear cb2 lb2
  have cb3 := cells_at nb3
  have lb3 := lt_of_at nb3
  have hAl : (lebL at_ ++ lebL L.length).length ≤ 20 := by rw [List.length_append]; omega
  obtain ⟨A, hA⟩ : ∃ A, A = lebL at_ ++ lebL L.length := ⟨_, rfl⟩
  rw [← hA] at hb3 hAl
  have HA := Lib.hid hA
  have H3 := Lib.hid (And.intro hb3 T3)
  clear hb2 ht2 hb3 ht3 T3 nb3 hA
  go_wp2_with fail
  clear cb3 lb3
  go_loopg [3, 21] L.length (EncRel (w.alloc (.cells #[.int .i64 at_, .slice av L.length cv, .map (some mb)] 32)) A (fun k => (L.take k).flatMap (blockL M)) L.length)
  case atStart => exact ⟨0, Nat.zero_le _, rfl, rfl, by simpa using H3.out.1, H3.out.2⟩
  case round =>
    obtain ⟨k, hk, hgk, rfl, hbk0, hkT⟩ := hrel
    have hbk : Buf wr u3 (A ++ (L.take k).flatMap (blockL M)) := hbk0
    clear hbk0 H3
    have Hg := Lib.hid hgk
    clear hgk
    have hbl : ∀ m ∈ L, (blockL M m).length ≤ 2010 := fun m hm => by
      unfold blockL
      rw [List.length_append]
      have h1 := (H0.out.2.2.2.2 m hm).len
      have h2 : markN M m.id < 18446744073709551616 := by
        unfold markN
        cases hlk : look M m.id with
        | none => simp
        | some t => have := H0.out.2.2.2.1 _ _ hlk; simp only; omega
      have := lebL_len10 h2
      omega
    have hpl := flat_len_le (blockL M) 2010 (L.take k) (fun m hm => hbl m (List.mem_of_mem_take hm))
    have hpk : (L.take k).length ≤ 20 := by rw [List.length_take]; omega
    have hACl : (A ++ (L.take k).flatMap (blockL M)).length ≤ 50000 := by rw [List.length_append]; omega
    by_cases hlt : k < L.length
    · have hfr := hkT.fresh H0.out.2.1 (by simp [Value.ownBlock])
      obtain ⟨b6, of6, ea, -, hb6, hc6⟩ := (Hv.out.1.keep hfr.1 (by simp)).atI k (by rw [Hv.out.2.1]; exact hlt)
      subst ea
      have hmv := Hv.out.2.2 k (by rw [Hv.out.2.1]; exact hlt) hlt
      obtain ⟨vf, vo, hvs, hsf, hso⟩ := hmv
      obtain ⟨af, cf, rfl, -, -, -, -⟩ := hsf
      obtain ⟨ao, co, rfl, -, -, -, -⟩ := hso
      rw [hvs] at hc6
      have Hmv := Lib.hid (Hv.out.2.2 k (by rw [Hv.out.2.1]; exact hlt) hlt)
      rw [hvs] at Hmv
      have Hokm := Lib.hid (H0.out.2.2.2.2 L[k] (List.getElem_mem _))
      have Hnx := Lib.hid (flat_nextL (blockL M) hlt)
      have d0 : wr.cell? ⟨b6, of6 + k * 8, none⟩ = some (.string L[k].id) := hc6 0 (by decide)
      have d1 : wr.cell? ⟨b6, of6 + k * 8 + 1, none⟩ = some (.int .i64 L[k].mn) := hc6 1 (by decide)
      have d2 : wr.cell? ⟨b6, of6 + k * 8 + 2, none⟩ = some (.int .i64 L[k].mx) := hc6 2 (by decide)
      have d3 : wr.cell? ⟨b6, of6 + k * 8 + 3, none⟩ = some (.int .i64 L[k].level) := hc6 3 (by decide)
      have d4 : wr.cell? ⟨b6, of6 + k * 8 + 4, none⟩ = some (.int .i64 L[k].series) := hc6 4 (by decide)
      have d5 : wr.cell? ⟨b6, of6 + k * 8 + 5, none⟩ = some (.int .i64 L[k].samples) := hc6 5 (by decide)
      have d6 : wr.cell? ⟨b6, of6 + k * 8 + 6, none⟩ = some (.slice af L[k].files.length cf) := hc6 6 (by decide)
      have d7 : wr.cell? ⟨b6, of6 + k * 8 + 7, none⟩ = some (.slice ao L[k].sources.length co) := hc6 7 (by decide)
      clear hc6 hvs
      generalize L[k] = m at d0 d1 d2 d3 d4 d5 d6 d7 Hmv Hokm Hnx
      have hlt' : (k : Int) < (L.length : Int) := by omega
      have ka : Keeps [] wr (wr.alloc (.cells #[.string m.id, .int .i64 m.mn, .int .i64 m.mx, .int .i64 m.level, .int .i64 m.series, .int .i64 m.samples, .slice af m.files.length cf, .slice ao m.sources.length co] 63)) := (Keeps.refl [] wr).alloc _
      have na := heap_new wr (.cells #[.string m.id, .int .i64 m.mn, .int .i64 m.mx, .int .i64 m.level, .int .i64 m.series, .int .i64 m.samples, .slice af m.files.length cf, .slice ao m.sources.length co] 63)
      have hnn : ∀ g, u3.ownBlock = some g → g ≠ wr.heap.size := fun g hg => by have := hbk.lt g hg; omega
      have Hp := Lib.hid (mput_spec B w _ _ m u3 _ Hmv.out Hokm.out (hfr.1.trans ka) hfr.2 (hbk.same ka) (by omega))
      have HK := Lib.hid (And.intro (hkT.keep ka) (And.intro na hnn))
      clear ka na hnn hbk hkT hfr
      go_wp2_with fail
      refine Hp.out.mono ?_
      rintro e w5 ⟨v5, rfl, hb5, ht5⟩
      have N5 := ht5.box HK.out.2.1 HK.out.2.2
      have T5 := HK.out.1.trans ht5
      have B5 := T5.box H0.out.1 (by simp [Value.ownBlock])
      have F5 := T5.fresh H0.out.2.1 (by simp [Value.ownBlock])
      have hM5 := H0.out.2.2.1.keep F5.1 (by simp)
      have hlo := hM5.run_lookup (P := Tryz.prog) Tryz.underlying30 Tryz.underlying9 (zeroInt _) m.id true
      rw [lookVal_intM] at hlo
      have cx := cells_at N5.1
      have lx := lt_of_at N5.1
      have cb := cells_at B5.1
      have lb := lt_of_at B5.1
      have hml := Hokm.out.len
      have Hb5 := Lib.hid (And.intro hb5 T5)
      clear d0 d1 d2 d3 d4 d5 d6 d7 hb5 ht5 N5 T5 B5 F5 hM5 Hp HK
      generalize wr.heap.size = bx at cx lx ⊢
      cases hlk : look M m.id with
      | none =>
        rw [hlk] at hlo
        simp only [Option.getD_none, Option.isSome_none] at hlo
        have Hmk := Lib.hid (show markN M m.id = 0 from by unfold markN; rw [hlk])
        have z0 : IntKind.u64.wrap 0 = ((0 : Nat) : Int) := IntWalk.u64_in _ (by omega)
        clear hlk
        go_wp2_with fail
        refine (uint_spec w5 v5 _ 0 (by decide) (by rw [List.length_append]; omega) Hb5.out.1).mono ?_
        rintro e w6 ⟨v6, rfl, hb6', ht6⟩
        have H6 := Lib.hid (And.intro hb6' (Hb5.out.2.trans ht6))
        clear hb6' ht6
        go_wp2_with fail
        go_roundg (L.length - (k + 1))
        case measure => have := Hg.out; omega
        case rel =>
          refine ⟨k + 1, by omega, rfl, by go_num, ?_, H6.out.2⟩
          have hh := H6.out.1
          show Buf w6 v6 (A ++ (L.take (k + 1)).flatMap (blockL M))
          rw [Hnx.out]
          unfold blockL at hh ⊢
          rw [Hmk.out]
          simpa [List.append_assoc] using hh
      | some t =>
        rw [hlk] at hlo
        simp only [Option.getD_some, Option.isSome_some] at hlo
        obtain ⟨ht0, ht1⟩ := H0.out.2.2.2.1 _ _ hlk
        obtain ⟨tn, htn⟩ : ∃ n : Nat, t = (n : Int) := ⟨t.toNat, by omega⟩
        subst htn
        have Hmk := Lib.hid (show markN M m.id = tn + 1 from by unfold markN; rw [hlk]; rfl)
        have z1 : IntKind.i64.wrap ((tn : Int) + 1) = ((tn + 1 : Nat) : Int) := by rw [IntWalk.i64_in _ (by omega)]; omega
        have z2 : IntKind.u64.wrap ((tn + 1 : Nat) : Int) = ((tn + 1 : Nat) : Int) := IntWalk.u64_in _ (by omega)
        obtain ⟨t1, ht1e⟩ : ∃ n, n = tn + 1 := ⟨_, rfl⟩
        rw [← ht1e] at z1 z2 Hmk
        have ht1l : t1 < 18446744073709551616 := by omega
        clear hlk ht1e ht0 ht1
        go_wp2_with fail
        refine (uint_spec w5 v5 _ t1 ht1l (by rw [List.length_append]; omega) Hb5.out.1).mono ?_
        rintro e w6 ⟨v6, rfl, hb6', ht6⟩
        have H6 := Lib.hid (And.intro hb6' (Hb5.out.2.trans ht6))
        clear hb6' ht6
        go_wp2_with fail
        go_roundg (L.length - (k + 1))
        case measure => have := Hg.out; omega
        case rel =>
          refine ⟨k + 1, by omega, rfl, by go_num, ?_, H6.out.2⟩
          have hh := H6.out.1
          show Buf w6 v6 (A ++ (L.take (k + 1)).flatMap (blockL M))
          rw [Hnx.out]
          unfold blockL at hh ⊢
          rw [Hmk.out]
          simpa [List.append_assoc] using hh
    · obtain rfl : k = L.length := by omega
      rw [List.take_length] at hbk hACl
      have hfr := hkT.fresh H0.out.2.1 (by simp [Value.ownBlock])
      have hconv := hbk.run_string
      obtain ⟨ds, hds⟩ : ∃ s : ByteArray, s = ⟨(A ++ L.flatMap (blockL M)).toArray⟩ := ⟨_, rfl⟩
      have hdl : ds.data.toList = R := by rw [hds, HR.out, HA.out]; unfold lstL; simp [List.append_assoc]
      have hdz : ds.size ≤ 50000 := by rw [hds]; exact hACl
      rw [← hds] at hconv
      have He := Lib.hid (And.intro hfr.1 hdl)
      clear hbk hkT hfr hds hdl
      go_wp2_with fail
      refine (frameAppend_spec wr (.slice none 0 0) [] 3 ds (by simp; omega) (buf_nil wr)).mono ?_
      rintro e w7 ⟨v7, rfl, hb7, ht7⟩
      rw [List.nil_append, He.out.2] at hb7
      have k7 := (ht7.fresh (Keeps.refl [] wr) (by simp [Value.ownBlock])).1
      have hconv7 := hb7.run_string
      have H7 := Lib.hid (He.out.1.trans k7)
      clear hb7 ht7 k7 hconv
      obtain ⟨ms, hms⟩ : ∃ s : ByteArray, s = ⟨(frameL 3 R).toArray⟩ := ⟨_, rfl⟩
      rw [← hms] at hconv7
      have Hms := Lib.hid hms
      clear hms
      go_wp2_with fail
      go_ret
      exact ⟨by rw [← Hms.out]; rfl, H7.out⟩
end Go.Proofs.YtjffdcflkkgpfaaGreat
