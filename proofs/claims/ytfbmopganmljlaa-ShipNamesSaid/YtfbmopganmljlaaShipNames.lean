/-
  ShipNames answers true for all lists of ticks, faults and choices, and leaves all memory that was there as it was.
  No condition: every input that can be read.
-/
import Derived.Test.YtfbmopganmljlaaShipAwake
import Derived.Test.YtfbmopganmljlaaMapInt
import Derived.Test.YtfbmopganmljlaaArgs
import Derived.StillTailTactics
namespace Go.Proofs.Ytfbmopganmljlaa
open Go Go.RowKit Go.Conc

/-- The files while names are made: the last number, at most so many rounds. -/
structure SeqInv (o : List (ByteArray × Ob)) (n k : Nat) : Prop where
  nodup : (o.map (·.1)).Nodup
  seq : n = 0 ∧ look o seqB = none ∨ look o seqB = some (F n, ((F n).size : Int))
  usd : used o ≤ 7 * k
  key : ∀ q ∈ o.map (·.1), q = tmpB ∨ q = seqB

theorem two_keys {a b : ByteArray} : ∀ {l : List ByteArray}, l.Nodup → (∀ q ∈ l, q = a ∨ q = b) → l.length ≤ 2
  | [], _, _ => by simp
  | [_], _, _ => by simp
  | [_, _], _, _ => by simp
  | x :: y :: z :: l, hn, h => by
    simp only [List.nodup_cons, List.mem_cons, not_or] at hn
    obtain ⟨⟨h1, h2, _⟩, ⟨h3, _⟩, _⟩ := hn
    have hx := h x (by simp)
    have hy := h y (by simp)
    have hz := h z (by simp)
    rcases hx with rfl | rfl <;> rcases hy with rfl | rfl <;> rcases hz with rfl | rfl <;> simp_all

theorem SeqInv.at {o : List (ByteArray × Ob)} {n k : Nat} (h : SeqInv o n k) : SeqAt o n := h.seq.imp id fun e => ⟨_, e⟩

theorem SeqInv.sizes {o : List (ByteArray × Ob)} {n k : Nat} (h : SeqInv o n k) (hk : k ≤ 30) : (∀ p ∈ o, p.1.size ≤ maxLen) ∧ o.length * 16 ≤ 140737488355328 ∧ used o ≤ 1000000000 := by
  refine ⟨fun p hp => ?_, ?_, by have := h.usd; omega⟩
  · rcases h.key p.1 (List.mem_map.2 ⟨p, hp, rfl⟩) with e | e <;> rw [e] <;> decide
  · have := two_keys h.nodup h.key
    rw [List.length_map] at this
    omega

theorem SeqInv.crash {o : List (ByteArray × Ob)} {n k : Nat} (h : SeqInv o n k) (ch : List Int) : SeqInv (crashO ch o) n k := by
  obtain ⟨h1, h2, h3⟩ := crash_keep ch o
  refine ⟨by rw [h1]; exact h.nodup, ?_, Nat.le_trans h2 h.usd, by rw [h1]; exact h.key⟩
  rcases h.seq with ⟨e, hl⟩ | hl
  · refine .inl ⟨e, ?_⟩
    rw [look_none_iff] at hl ⊢
    rw [h1]
    exact hl
  · exact .inr (h3 _ _ hl)

theorem SeqInv.more {o : List (ByteArray × Ob)} {n k : Nat} (h : SeqInv o n k) : SeqInv o n (k + 1) := ⟨h.nodup, h.seq, by have := h.usd; omega, h.key⟩

theorem SeqInv.next {o : List (ByteArray × Ob)} {n k : Nat} (h : SeqInv o n k) (hk : k ≤ 20) (hn : n < 100) (Q : List (Int × Bool)) : let S := freshS 10000 Q o seqB (F (n + 1))
    (S.1 = 0 ∧ SeqInv S.2.2 (n + 1) (k + 1)) ∨ (S.1 = 8 ∧ ∃ m, n ≤ m ∧ m ≤ n + 1 ∧ SeqInv S.2.2 m (k + 1)) := by
  intro S
  obtain ⟨i, s⟩ := seq_law (room := 10000) Q (o := o) (n := n + 1) (by omega) h.nodup (by have := h.usd; omega)
  have hb : ∀ m, (m = 0 ∧ look S.2.2 seqB = none ∨ look S.2.2 seqB = some (F m, ((F m).size : Int))) → SeqInv S.2.2 m (k + 1) := fun m hm => by
    refine ⟨i.nodup, hm, ?_, fun q hq => ?_⟩
    · have h1 : used S.2.2 ≤ used o + (F (n + 1)).size := i.used
      rw [F_len (n + 1) (by omega)] at h1
      have h2 := h.usd
      show used S.2.2 ≤ _
      omega
    · rcases i.keys q hq with e | e | e
      · exact h.key q e
      · exact .inl e
      · exact .inr e
  rcases s with ⟨e, hl⟩ | ⟨e, hl | hl⟩
  · exact .inl ⟨e, hb _ (.inr hl)⟩
  · refine .inr ⟨e, n, Nat.le_refl _, by omega, hb _ ?_⟩
    show n = 0 ∧ look S.2.2 seqB = none ∨ _
    rw [show look S.2.2 seqB = look o seqB from hl]
    exact h.seq
  · exact .inr ⟨e, n + 1, by omega, Nat.le_refl _, hb _ (.inr hl)⟩


theorem idB_ne {t n t' n' : Nat} (ht : t < 1099511627776) (hn : n < 1099511627776) (ht' : t' < 1099511627776) (hn' : n' < 1099511627776) (h : n ≠ n') : idB t n ≠ idB t' n' := by
  intro e
  have e1 : identL t n = identL t' n' := by
    have := congrArg (fun b : ByteArray => b.data.toList) e
    exact this
  have e2 := parseL_ident ht hn
  rw [e1, parseL_ident ht' hn'] at e2
  simp only [Option.some.injEq, Prod.mk.injEq] at e2
  exact h e2.2.symm

/-- What was told so far. -/
structure Told (pm : List (ByteArray × Int)) (last : ByteArray) (T n : Nat) : Prop where
  ids : ∀ p ∈ pm, ∃ t' n', p.1 = idB t' n' ∧ t' ≤ T ∧ n' ≤ n
  last : last = ⟨#[]⟩ ∨ ∃ t' n', last = idB t' n' ∧ t' ≤ T ∧ n' ≤ n

theorem Told.more {pm : List (ByteArray × Int)} {last : ByteArray} {T n T' n' : Nat} (h : Told pm last T n) (hT : T ≤ T') (hn : n ≤ n') : Told pm last T' n' :=
  ⟨fun p hp => by obtain ⟨a, b, h1, h2, h3⟩ := h.ids p hp; exact ⟨a, b, h1, by omega, by omega⟩, h.last.imp id fun ⟨a, b, h1, h2, h3⟩ => ⟨a, b, h1, by omega, by omega⟩⟩

theorem Told.fresh {pm : List (ByteArray × Int)} {last : ByteArray} {T n : Nat} (h : Told pm last T n) (hT : T < 1000) (hn : n < 1000) : look pm (idB T (n + 1)) = none := by
  rw [look_none_iff]
  intro hm
  obtain ⟨p, hp, e⟩ := List.mem_map.1 hm
  obtain ⟨a, b, h1, h2, h3⟩ := h.ids p hp
  exact idB_ne (by omega) (by omega) (by omega) (by omega) (by omega) (h1.symm.trans e)

theorem Told.put {pm : List (ByteArray × Int)} {last : ByteArray} {T n : Nat} (h : Told pm last T n) (x : Int) : Told (put pm (idB T (n + 1)) x) (idB T (n + 1)) T (n + 1) := by
  refine ⟨fun p hp => ?_, .inr ⟨_, _, rfl, Nat.le_refl _, Nat.le_refl _⟩⟩
  rcases mem_keys_put (List.mem_map.2 ⟨p, hp, rfl⟩) with e | e
  · exact ⟨_, _, e, Nat.le_refl _, Nat.le_refl _⟩
  · obtain ⟨q, hq, e2⟩ := List.mem_map.1 e
    obtain ⟨a, b, h1, h2, h3⟩ := h.ids q hq
    exact ⟨a, b, e2.symm.trans h1, h2, by omega⟩

theorem Told.less {pm : List (ByteArray × Int)} {last : ByteArray} {T n : Nat} (h : Told pm last T n) (hT : T < 1000) (hn : n < 1000) : Op.bytesLess (idB T (n + 1)).toList last.toList = false ∧ ((idB T (n + 1)).toList == last.toList) = false := by
  rw [ByteArray.toList_eq, ByteArray.toList_eq]
  have hid : (idB T (n + 1)).data.toList = identL T (n + 1) := rfl
  rcases h.last with rfl | ⟨a, b, rfl, h2, h3⟩
  · rw [hid]
    have hl : (⟨#[]⟩ : ByteArray).data.toList = [] := rfl
    have hne : identL T (n + 1) ≠ [] := fun e => by
      have := identL_len T (n + 1)
      rw [e] at this
      simp at this
    rw [hl]
    refine ⟨by cases identL T (n + 1) <;> rfl, ?_⟩
    rw [beq_eq_false_iff_ne]
    exact hne
  · have hl : (idB a b).data.toList = identL a b := rfl
    rw [hid, hl]
    have hless := identL_less (t := a) (s := b) (t' := T) (s' := n + 1) (by omega) (by omega) (by omega)
    refine ⟨less_asymm hless, ?_⟩
    rw [beq_eq_false_iff_ne]
    exact (less_ne hless).symm


def SNamesRel (m : Nat) (w : World) (d f c mb sb : Nat) (gk : Nat) (u9 u10 u11 : Value) (wr : World) : Prop :=
  ∃ (k T n : Nat) (armed : Bool) (Q : List (Int × Bool)) (o : List (ByteArray × Ob)) (pm : List (ByteArray × Int)) (last : ByteArray), k ≤ m ∧ k ≤ 20 ∧ gk = 20 - k ∧ u11 = .int .i64 k ∧ u9 = .int .i64 T ∧ T ≤ 3 * k ∧ u10 = .string last ∧ n ≤ k ∧
    DiskAt wr d f c mb armed Q 10000 o ∧ SeqInv o n k ∧ MapAt wr sb (encMap encI pm) ∧ Told pm last T n ∧ Keeps [] w wr


set_option linter.unusedSimpArgs false in
set_option maxRecDepth 100000 in
set_option maxHeartbeats 1000000 in
theorem shipNames_walk (w : World) (v0 v1 v2 : Value) (L0 L1 L2 : List Int) (h0 : SliceArg 1 encN w v0 L0) (h1 : SliceArg 1 encN w v1 L1) (h2 : SliceArg 1 encN w v2 L2) (hci : ∀ x ∈ L2, -9223372036854775808 ≤ x ∧ x ≤ 9223372036854775807) :
    Calls Try.prog 3 #[v0, v1, v2] w fun e w' => e = .returned (.bool true) ∧ Keeps [] w w' := by
  obtain ⟨a0, c0, rfl, hl0, hc0⟩ := h0
  obtain ⟨a1, c1, rfl, hl1, hc1⟩ := h1
  have H2 := Lib.hid (And.intro h2 hci)
  obtain ⟨a2, c2, rfl, hl2, _⟩ := h2
  unfold maxLen at hl0 hl1 hl2
  have Hc0 := Lib.hid hc0
  have Hc1 := Lib.hid hc1
  clear hc0 hc1 hci
  have hmm := @run_makeMap Try.prog
  go_enter Try.func3, Try.ntmps3
  go_wp2_with fail
  refine (newDisk_spec w 10000 (by decide)).mono ?_
  rintro e w1 ⟨d, f, c, mb, rfl, hd1', hk1, l1, l2, l3, l4⟩
  have hd1 : DiskAt w1 d f c mb false [] 10000 [] := hd1'
  have Hd1 := Lib.hid (And.intro hd1 hk1)
  clear hd1' hd1 hk1
  go_wp2_with fail
  refine (awake18_spec w1).mono ?_
  rintro e w2 ⟨rfl, hk2⟩
  have Hd2 := Lib.hid (And.intro (Hd1.out.1.same hk2) (Hd1.out.2.trans hk2))
  clear hk2
  go_wp2_with fail
  have hsb := heap_new w2 (.map #[] 0)
  have hk3 : Keeps [] w2 (w2.alloc (.map #[] 0)) := (Keeps.refl [] w2).alloc _
  have hm3 : MapAt (w2.alloc (.map #[] 0)) w2.heap.size (encMap encI []) := ⟨[], 0, hsb, ⟨by simp, by simp, by simp⟩, rfl⟩
  have hd3 := Hd2.out.1.same hk3
  have hk03 := Hd2.out.2.trans hk3
  have hss : ∀ S, S = w2.heap.size → w.heap.size ≤ S ∧ S ∉ [f, c, mb, d] := by
    rintro S rfl
    have h1 := Hd2.out.1.lt
    have h2 := Hd2.out.2.size
    exact ⟨h2, by simp; omega⟩
  obtain ⟨sb, hsbe⟩ : ∃ S, S = w2.heap.size := ⟨_, rfl⟩
  have Hsb := Lib.hid (hss sb hsbe)
  rw [← hsbe] at hm3 ⊢
  clear hss hsb hmm hsbe
  generalize w2.alloc (.map #[] 0) = W3 at hm3 hd3 hk03 ⊢
  have hlt3 := hd3.lt
  go_loopg [9, 10, 11] 20 (SNamesRel L0.length w d f c mb sb)
  case atStart => exact ⟨0, 0, 0, _, _, [], [], ⟨#[]⟩, Nat.zero_le _, by decide, rfl, rfl, rfl, by decide, rfl, by decide, hd3, ⟨by simp, .inl ⟨rfl, rfl⟩, by simp [used], by simp⟩, hm3, ⟨by simp, .inl rfl⟩, hk03⟩
  case round =>
    obtain ⟨k, T, n, armed, Q, o, pm, last, hkm, hk20, hgk, rfl, rfl, hT, rfl, hn, hd, hinv, hm, ht, hk⟩ := hrel
    have Hg := Lib.hid hgk
    clear hgk hd3 hm3 hk03
    by_cases hlt : k < L0.length ∧ k < 20
    · obtain ⟨hlt, hlt20⟩ := hlt
      obtain ⟨b0, o0, rfl, hb0, hx0⟩ := Hc0.out k hlt
      have d0 : wr.cell? ⟨b0, o0 + k, none⟩ = some (.int .i64 L0[k]) := by rw [hk.cell hb0 (by simp)]; simpa [encN] using hx0 0 (by omega)
      have lb0 := hk.lt hb0
      generalize L0[k] = x0 at d0
      clear hx0
      have hlt' : (k : Int) < (L0.length : Int) := by omega
      have hlt1 : (k : Int) < 20 := by omega
      have h3 := i64_and3 x0
      obtain ⟨tk, htk⟩ : ∃ tk : Nat, x0 % 4 = (tk : Int) := ⟨(x0 % 4).toNat, by omega⟩
      have htk3 : tk ≤ 3 := by omega
      rw [htk] at h3
      have Htk := Lib.hid htk
      clear htk
      have H := Lib.hid (And.intro hd (And.intro hinv (And.intro hm (And.intro ht hk))))
      clear hd hinv hm ht hk
      have hTl : T ≤ 60 := by omega
      --ROUND
      obtain ⟨T2, hT2⟩ : ∃ T2 : Nat, (T : Int) + (tk : Int) = (T2 : Int) := ⟨T + tk, by omega⟩
      have hT2l : T2 ≤ 3 * (k + 1) := by omega
      have hTT : T ≤ T2 := by omega
      have lw0 := hb0
      have hbase : w.cell? ⟨b0, o0 + k, none⟩ = some (.int .i64 x0) := by rw [← H.out.2.2.2.2.cell hb0 (by simp)]; exact d0
      have Hbase := Lib.hid hbase
      clear hbase
      by_cases hf : k < L1.length
      · obtain ⟨b1, o1, rfl, hb1, hx1⟩ := Hc1.out k hf
        have d1 : wr.cell? ⟨b1, o1 + k, none⟩ = some (.int .i64 L1[k]) := by rw [H.out.2.2.2.2.cell hb1 (by simp)]; simpa [encN] using hx1 0 (by omega)
        have lb1 := H.out.2.2.2.2.lt hb1
        generalize L1[k] = x1 at d1
        clear hx1
        have hf' : (k : Int) < (L1.length : Int) := by omega
        have cd := cells_at H.out.1.cells
        have ld := H.out.1.lt.1
        go_upto_region 12 with fail
        go_still_tail 15, (by kernel_rfl)
        change wpList _ _ _ _ _ wr.drew
        go_wp2_with fail
        refine (arm_weak wr.drew f c armed Q _ _ (bits_hi_i64 _ _ _) H.out.1.drew.fuse).mono ?_
        rintro e w5 ⟨r, Q5, rfl, hq5, hk5⟩
        have hd5 := H.out.1.drew.tried hk5 hq5
        have hm5 := (H.out.2.2.1.drew).keep hk5 (by have := Hsb.out.2; simp at this ⊢; omega)
        have hk05 := H.out.2.2.2.2.drew.after hk5 (by have := Hsb.out; simp; omega)
        have H5 := Lib.hid (And.intro hd5 (And.intro hm5 (And.intro hk05 (And.intro H.out.2.1 (And.intro (H.out.2.2.2.1.more hTT (Nat.le_refl n)) trivial)))))
        clear hd5 hm5 hk05 hk5 hq5 H d0 d1 cd ld lb1 hf hb1 lb0
        have hbase := Hbase.out
        have hinv := H5.out.2.2.2.1
        have Hn := Lib.hid (shipNext_spec w5 d f c mb armed Q5 10000 o H5.out.1 T2 n (by omega) (by omega) hinv.at (by have := hinv.usd; omega))
        have hnx := hinv.next hk20 (by omega) Q5
        have Hless := Lib.hid (And.intro (H5.out.2.2.2.2.1.fresh (by omega) (by omega)) (And.intro (H5.out.2.2.2.2.1.less (by omega) (by omega)) (H5.out.2.2.2.2.1.put 1)))
        generalize freshS 10000 Q5 o seqB (F (n + 1)) = S at Hn hnx
        have Hnx := Lib.hid hnx
        clear hinv hnx
        go_wp2_with fail
        refine Hn.out.mono ?_
        rintro e w6 ⟨rfl, a6, hd6, hk6⟩
        have hm6 := H5.out.2.1.keep hk6 (by have := Hsb.out.2; simpa using this)
        have hk06 := H5.out.2.2.1.after hk6 (by have := Hsb.out; simp; omega)
        have hkw6 : Keeps [sb] w w6 := hk06.mono (by simp)
        by_cases hz : S.1 = 0
        · rw [if_pos hz]
          have hS : SeqInv S.2.2 (n + 1) (k + 1) := by
            rcases Hnx.out with h | h
            · exact h.2
            · have := h.1; omega
          have hfr := Hless.out.1
          have hless1 := Hless.out.2.1.1
          have hless2 := Hless.out.2.1.2
          have Ht7 := Lib.hid Hless.out.2.2
          rw [show (⟨(identL T2 (n + 1)).toArray⟩ : ByteArray) = idB T2 (n + 1) from rfl]
          generalize idB T2 (n + 1) = id at hfr hless1 hless2 Ht7 ⊢
          have hrl := hm6.run_lookup (P := Try.prog) Try.underlying26 Try.underlying9 (zeroInt _) id false
          rw [lookVal_int, hfr] at hrl
          simp only [Option.getD_none] at hrl
          have H6 := Lib.hid (And.intro hd6 (And.intro hm6 (And.intro hkw6 hS)))
          clear hfr hd6 hm6 hk06 hk6 hkw6 hS Hless Hnx
          go_upto_region 21 with (refine wpList_update_str _ rfl (.tmp 63) (.tmp 64) (.tmp 66) _ _ _ rfl Try.underlying26 Try.underlying9 sb (encMap encI pm) id (encI 1) (by rfl) (by rfl) (by rfl) H6.out.2.1 ?_; intro w7 hm7 hk7; rw [put_enc] at hm7; have hrl7 := hm7.run_lookup (P := Try.prog) Try.underlying26 Try.underlying9 (zeroInt _) id false; rw [lookVal_int, look_put, if_pos rfl] at hrl7; simp only [Option.getD_some] at hrl7; clear hrl)
          have hsz := Hsb.out
          have hd7 := H6.out.1.keep hk7 (by simp; simp at hsz; omega) (by simp; simp at hsz; omega) (by simp; simp at hsz; omega) (by simp; simp at hsz; omega)
          have hk07 : Keeps [] w w7 := (H6.out.2.2.1.after hk7 (fun q hq => .inl hq)).sub (fun q hq => .inr (by simp only [List.mem_singleton] at hq; omega))
          have HE := Lib.hid (And.intro hd7 (And.intro H6.out.2.2.2 (And.intro hm7 (And.intro Ht7.out (And.intro hk07 hk07)))))
          clear hrl7 hd7 hk07 hm7 hk7 hsz H6 Ht7
          have d0 := (HE.out.2.2.2.2.2.cell lw0 (by simp)).trans hbase
          have le0 := HE.out.2.2.2.2.2.lt lw0
          obtain ⟨y, hbit⟩ : ∃ y, bits .and .i64 x0 4 = y := ⟨_, rfl⟩
          have hbit2 := hbit
          by_cases hy : 0 < y
          · have hyb : decide (0 < y) = true := by simpa using hy
            obtain ⟨z1, z2, z3⟩ := HE.out.2.1.sizes (by omega)
            have hcr := crash_spec _ d f c mb _ _ 10000 _ HE.out.1 (.slice a2 L2.length c2) L2 (fun w' k' => H2.out.1.keep (HE.out.2.2.2.2.1.after k' (by have := Hsb.out; simp; omega))) H2.out.2 z1 z2 z3
            have Hcr := Lib.hid hcr
            have Hz := Lib.hid (HE.out.2.1.crash L2)
            clear hcr z1 z2 z3 hy
            go_wp2_with fail
            refine Hcr.out.mono ?_
            rintro e w9 ⟨rfl, hd9, hk9⟩
            have hm9 := HE.out.2.2.1.keep hk9 (by have := Hsb.out.2; simpa using this)
            have Hfin := Lib.hid (And.intro hd9 (And.intro hm9 (HE.out.2.2.2.2.1.after hk9 (by have := Hsb.out; simp; omega))))
            clear hd9 hm9 hk9 d0 le0
            go_wp2_with fail
            go_roundg (20 - (k + 1))
            case measure => have := Hg.out; omega
            case rel => exact ⟨k + 1, T2, _, _, _, _, _, _, by omega, by omega, rfl, by go_num, rfl, by omega, rfl, by omega, Hfin.out.1, Hz.out, Hfin.out.2.1, HE.out.2.2.2.1, Hfin.out.2.2⟩
          · have hyb : decide (0 < y) = false := by simpa using hy
            clear hy
            go_wp2_with fail
            go_roundg (20 - (k + 1))
            case measure => have := Hg.out; omega
            case rel => exact ⟨k + 1, T2, _, _, _, _, _, _, by omega, by omega, rfl, by go_num, rfl, by omega, rfl, by omega, HE.out.1, HE.out.2.1, HE.out.2.2.1, HE.out.2.2.2.1, HE.out.2.2.2.2.1⟩
        · rw [if_neg hz]
          have hS : S.1 = 8 ∧ ∃ m, n ≤ m ∧ m ≤ n + 1 ∧ SeqInv S.2.2 m (k + 1) := by
            rcases Hnx.out with h | h
            · exact absurd h.1 hz
            · exact h
          obtain ⟨h8, m, hm1, hm2, hS⟩ := hS
          rw [h8]
          have hk06' : Keeps [] w w6 := hk06
          have HE := Lib.hid (And.intro hd6 (And.intro hS (And.intro hm6 (And.intro (H5.out.2.2.2.2.1.more (Nat.le_refl _) hm1) (And.intro hk06' hk06')))))
          clear hz h8 hS hd6 hm6 hk06 hk06' hk6 hkw6 Hless Hnx
          go_upto_region 21 with fail
          have d0 := (HE.out.2.2.2.2.2.cell lw0 (by simp)).trans hbase
          have le0 := HE.out.2.2.2.2.2.lt lw0
          obtain ⟨y, hbit⟩ : ∃ y, bits .and .i64 x0 4 = y := ⟨_, rfl⟩
          have hbit2 := hbit
          by_cases hy : 0 < y
          · have hyb : decide (0 < y) = true := by simpa using hy
            obtain ⟨z1, z2, z3⟩ := HE.out.2.1.sizes (by omega)
            have hcr := crash_spec _ d f c mb _ _ 10000 _ HE.out.1 (.slice a2 L2.length c2) L2 (fun w' k' => H2.out.1.keep (HE.out.2.2.2.2.1.after k' (by have := Hsb.out; simp; omega))) H2.out.2 z1 z2 z3
            have Hcr := Lib.hid hcr
            have Hz := Lib.hid (HE.out.2.1.crash L2)
            clear hcr z1 z2 z3 hy
            go_wp2_with fail
            refine Hcr.out.mono ?_
            rintro e w9 ⟨rfl, hd9, hk9⟩
            have hm9 := HE.out.2.2.1.keep hk9 (by have := Hsb.out.2; simpa using this)
            have Hfin := Lib.hid (And.intro hd9 (And.intro hm9 (HE.out.2.2.2.2.1.after hk9 (by have := Hsb.out; simp; omega))))
            clear hd9 hm9 hk9 d0 le0
            go_wp2_with fail
            go_roundg (20 - (k + 1))
            case measure => have := Hg.out; omega
            case rel => exact ⟨k + 1, T2, _, _, _, _, _, _, by omega, by omega, rfl, by go_num, rfl, by omega, rfl, by omega, Hfin.out.1, Hz.out, Hfin.out.2.1, HE.out.2.2.2.1, Hfin.out.2.2⟩
          · have hyb : decide (0 < y) = false := by simpa using hy
            clear hy
            go_wp2_with fail
            go_roundg (20 - (k + 1))
            case measure => have := Hg.out; omega
            case rel => exact ⟨k + 1, T2, _, _, _, _, _, _, by omega, by omega, rfl, by go_num, rfl, by omega, rfl, by omega, HE.out.1, HE.out.2.1, HE.out.2.2.1, HE.out.2.2.2.1, HE.out.2.2.2.2.1⟩
      · have hf' : ¬ (k : Int) < (L1.length : Int) := by omega
        have H5 := Lib.hid (And.intro H.out.1 (And.intro H.out.2.2.1 (And.intro H.out.2.2.2.2 (And.intro H.out.2.1 (And.intro (H.out.2.2.2.1.more hTT (Nat.le_refl n)) trivial)))))
        clear H hf lb0
        have hbase := Hbase.out
        have hinv := H5.out.2.2.2.1
        have Hn := Lib.hid (shipNext_spec wr d f c mb armed Q 10000 o H5.out.1 T2 n (by omega) (by omega) hinv.at (by have := hinv.usd; omega))
        have hnx := hinv.next hk20 (by omega) Q
        have Hless := Lib.hid (And.intro (H5.out.2.2.2.2.1.fresh (by omega) (by omega)) (And.intro (H5.out.2.2.2.2.1.less (by omega) (by omega)) (H5.out.2.2.2.2.1.put 1)))
        generalize freshS 10000 Q o seqB (F (n + 1)) = S at Hn hnx
        have Hnx := Lib.hid hnx
        clear hinv hnx
        go_wp2_with fail
        refine Hn.out.mono ?_
        rintro e w6 ⟨rfl, a6, hd6, hk6⟩
        have hm6 := H5.out.2.1.keep hk6 (by have := Hsb.out.2; simpa using this)
        have hk06 := H5.out.2.2.1.after hk6 (by have := Hsb.out; simp; omega)
        have hkw6 : Keeps [sb] w w6 := hk06.mono (by simp)
        by_cases hz : S.1 = 0
        · rw [if_pos hz]
          have hS : SeqInv S.2.2 (n + 1) (k + 1) := by
            rcases Hnx.out with h | h
            · exact h.2
            · have := h.1; omega
          have hfr := Hless.out.1
          have hless1 := Hless.out.2.1.1
          have hless2 := Hless.out.2.1.2
          have Ht7 := Lib.hid Hless.out.2.2
          rw [show (⟨(identL T2 (n + 1)).toArray⟩ : ByteArray) = idB T2 (n + 1) from rfl]
          generalize idB T2 (n + 1) = id at hfr hless1 hless2 Ht7 ⊢
          have hrl := hm6.run_lookup (P := Try.prog) Try.underlying26 Try.underlying9 (zeroInt _) id false
          rw [lookVal_int, hfr] at hrl
          simp only [Option.getD_none] at hrl
          have H6 := Lib.hid (And.intro hd6 (And.intro hm6 (And.intro hkw6 hS)))
          clear hfr hd6 hm6 hk06 hk6 hkw6 hS Hless Hnx
          go_upto_region 21 with (refine wpList_update_str _ rfl (.tmp 63) (.tmp 64) (.tmp 66) _ _ _ rfl Try.underlying26 Try.underlying9 sb (encMap encI pm) id (encI 1) (by rfl) (by rfl) (by rfl) H6.out.2.1 ?_; intro w7 hm7 hk7; rw [put_enc] at hm7; have hrl7 := hm7.run_lookup (P := Try.prog) Try.underlying26 Try.underlying9 (zeroInt _) id false; rw [lookVal_int, look_put, if_pos rfl] at hrl7; simp only [Option.getD_some] at hrl7; clear hrl)
          have hsz := Hsb.out
          have hd7 := H6.out.1.keep hk7 (by simp; simp at hsz; omega) (by simp; simp at hsz; omega) (by simp; simp at hsz; omega) (by simp; simp at hsz; omega)
          have hk07 : Keeps [] w w7 := (H6.out.2.2.1.after hk7 (fun q hq => .inl hq)).sub (fun q hq => .inr (by simp only [List.mem_singleton] at hq; omega))
          have HE := Lib.hid (And.intro hd7 (And.intro H6.out.2.2.2 (And.intro hm7 (And.intro Ht7.out (And.intro hk07 hk07)))))
          clear hrl7 hd7 hk07 hm7 hk7 hsz H6 Ht7
          have d0 := (HE.out.2.2.2.2.2.cell lw0 (by simp)).trans hbase
          have le0 := HE.out.2.2.2.2.2.lt lw0
          obtain ⟨y, hbit⟩ : ∃ y, bits .and .i64 x0 4 = y := ⟨_, rfl⟩
          have hbit2 := hbit
          by_cases hy : 0 < y
          · have hyb : decide (0 < y) = true := by simpa using hy
            obtain ⟨z1, z2, z3⟩ := HE.out.2.1.sizes (by omega)
            have hcr := crash_spec _ d f c mb _ _ 10000 _ HE.out.1 (.slice a2 L2.length c2) L2 (fun w' k' => H2.out.1.keep (HE.out.2.2.2.2.1.after k' (by have := Hsb.out; simp; omega))) H2.out.2 z1 z2 z3
            have Hcr := Lib.hid hcr
            have Hz := Lib.hid (HE.out.2.1.crash L2)
            clear hcr z1 z2 z3 hy
            go_wp2_with fail
            refine Hcr.out.mono ?_
            rintro e w9 ⟨rfl, hd9, hk9⟩
            have hm9 := HE.out.2.2.1.keep hk9 (by have := Hsb.out.2; simpa using this)
            have Hfin := Lib.hid (And.intro hd9 (And.intro hm9 (HE.out.2.2.2.2.1.after hk9 (by have := Hsb.out; simp; omega))))
            clear hd9 hm9 hk9 d0 le0
            go_wp2_with fail
            go_roundg (20 - (k + 1))
            case measure => have := Hg.out; omega
            case rel => exact ⟨k + 1, T2, _, _, _, _, _, _, by omega, by omega, rfl, by go_num, rfl, by omega, rfl, by omega, Hfin.out.1, Hz.out, Hfin.out.2.1, HE.out.2.2.2.1, Hfin.out.2.2⟩
          · have hyb : decide (0 < y) = false := by simpa using hy
            clear hy
            go_wp2_with fail
            go_roundg (20 - (k + 1))
            case measure => have := Hg.out; omega
            case rel => exact ⟨k + 1, T2, _, _, _, _, _, _, by omega, by omega, rfl, by go_num, rfl, by omega, rfl, by omega, HE.out.1, HE.out.2.1, HE.out.2.2.1, HE.out.2.2.2.1, HE.out.2.2.2.2.1⟩
        · rw [if_neg hz]
          have hS : S.1 = 8 ∧ ∃ m, n ≤ m ∧ m ≤ n + 1 ∧ SeqInv S.2.2 m (k + 1) := by
            rcases Hnx.out with h | h
            · exact absurd h.1 hz
            · exact h
          obtain ⟨h8, m, hm1, hm2, hS⟩ := hS
          rw [h8]
          have hk06' : Keeps [] w w6 := hk06
          have HE := Lib.hid (And.intro hd6 (And.intro hS (And.intro hm6 (And.intro (H5.out.2.2.2.2.1.more (Nat.le_refl _) hm1) (And.intro hk06' hk06')))))
          clear hz h8 hS hd6 hm6 hk06 hk06' hk6 hkw6 Hless Hnx
          go_upto_region 21 with fail
          have d0 := (HE.out.2.2.2.2.2.cell lw0 (by simp)).trans hbase
          have le0 := HE.out.2.2.2.2.2.lt lw0
          obtain ⟨y, hbit⟩ : ∃ y, bits .and .i64 x0 4 = y := ⟨_, rfl⟩
          have hbit2 := hbit
          by_cases hy : 0 < y
          · have hyb : decide (0 < y) = true := by simpa using hy
            obtain ⟨z1, z2, z3⟩ := HE.out.2.1.sizes (by omega)
            have hcr := crash_spec _ d f c mb _ _ 10000 _ HE.out.1 (.slice a2 L2.length c2) L2 (fun w' k' => H2.out.1.keep (HE.out.2.2.2.2.1.after k' (by have := Hsb.out; simp; omega))) H2.out.2 z1 z2 z3
            have Hcr := Lib.hid hcr
            have Hz := Lib.hid (HE.out.2.1.crash L2)
            clear hcr z1 z2 z3 hy
            go_wp2_with fail
            refine Hcr.out.mono ?_
            rintro e w9 ⟨rfl, hd9, hk9⟩
            have hm9 := HE.out.2.2.1.keep hk9 (by have := Hsb.out.2; simpa using this)
            have Hfin := Lib.hid (And.intro hd9 (And.intro hm9 (HE.out.2.2.2.2.1.after hk9 (by have := Hsb.out; simp; omega))))
            clear hd9 hm9 hk9 d0 le0
            go_wp2_with fail
            go_roundg (20 - (k + 1))
            case measure => have := Hg.out; omega
            case rel => exact ⟨k + 1, T2, _, _, _, _, _, _, by omega, by omega, rfl, by go_num, rfl, by omega, rfl, by omega, Hfin.out.1, Hz.out, Hfin.out.2.1, HE.out.2.2.2.1, Hfin.out.2.2⟩
          · have hyb : decide (0 < y) = false := by simpa using hy
            clear hy
            go_wp2_with fail
            go_roundg (20 - (k + 1))
            case measure => have := Hg.out; omega
            case rel => exact ⟨k + 1, T2, _, _, _, _, _, _, by omega, by omega, rfl, by go_num, rfl, by omega, rfl, by omega, HE.out.1, HE.out.2.1, HE.out.2.2.1, HE.out.2.2.2.1, HE.out.2.2.2.2.1⟩
    · go_wp2_with fail
      all_goals
        go_ret
        exact ⟨rfl, hk⟩


def IntsArg (W : World) (v : Value) : Prop := ∃ zs : List Int, SliceArg 1 (fun n => [Value.int .i64 n]) W v zs ∧ ∀ n ∈ zs, -9223372036854775808 ≤ n ∧ n ≤ 9223372036854775807

theorem shipNames_law (W : World) (v0 : Value) (h0 : IntsArg W v0) (v1 : Value) (h1 : IntsArg W v1) (v2 : Value) (h2 : IntsArg W v2) :
    Calls Try.prog 3 #[v0, v1, v2] W fun e w' => e = .returned (.bool true) ∧ Keeps [] W w' := by
  obtain ⟨L0, s0, _⟩ := h0
  obtain ⟨L1, s1, _⟩ := h1
  obtain ⟨L2, s2, c2⟩ := h2
  exact shipNames_walk W v0 v1 v2 L0 L1 L2 s0 s1 s2 c2

end Go.Proofs.Ytfbmopganmljlaa
