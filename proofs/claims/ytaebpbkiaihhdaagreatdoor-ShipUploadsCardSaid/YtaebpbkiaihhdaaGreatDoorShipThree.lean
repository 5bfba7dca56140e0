/-
  ShipThree: three steps, the meta last; walked.
  The package's variable xor.widths holds what its text says (XorVar); the library's variable holds some number.
-/
import Derived.Test.YtaebpbkiaihhdaaGreatDoorUpload
import Derived.Test.YtaebpbkiaihhdaaGreatDoorShipNext
import Derived.Deep.CutBlock
namespace Go.Proofs.YtaebpbkiaihhdaaGreatDoor
open Go Go.RowKit

theorem hasPre_e (s : ByteArray) : hasPre s ⟨#[]⟩ = true := by
  have e : s.extract 0 0 = ⟨#[]⟩ := by
    apply ba_ext
    simp
  simp only [hasPre, Bool.and_eq_true, decide_eq_true_eq]
  exact ⟨Nat.zero_le _, e⟩

theorem list_lenE (o : List (ByteArray × Ob)) : (listing o ⟨#[]⟩).length = o.length := by
  unfold listing
  rw [List.filter_eq_self.2 (fun a _ => hasPre_e a), List.length_map]
  show (sortB (o.map (·.1))).length = _
  rw [sortB_length, List.length_map]

/-- What is in the bucket behind k steps. -/
def threeO (M : MetaS) (cb ib : ByteArray) (now : Int) : Nat → List (ByteArray × Ob)
  | 0 => []
  | k + 1 => put (threeO M cb ib now k) (objectB M.id (partN k)) (dataN M cb ib k, now)

theorem upStep_spec (w : World) (u b f c mb B : Nat) (M : MetaS) (af ao : Option Addr) (nf cf no co : Nat) (cb ib : ByteArray) (now grace : Int) (hnow : -1000000000000000 ≤ now ∧ now ≤ 1000000000000000) (hl : lateB (parseL M.id.data.toList) now grace = false) (armed : Bool) (Q : List (Int × Bool)) (o : List (ByteArray × Ob)) (hb : BucketAt w b f c mb armed Q o) (hu : u ∉ [f, c, mb, b]) (hM : MetaV B w (metaCs M (.slice af nf cf) (.slice ao no co)) M) (hok : MetaOk M) (n : Nat) (hn : n < 3) (h : UpAt w u M (.slice af nf cf) (.slice ao no co) cb ib n) :
    Calls Tryz.prog 13 #[.pointer (some ⟨u, 0, none⟩), .pointer (some ⟨b, 0, none⟩), .int .i64 now, .int .i64 grace] w (UpPost w u b f c mb M (.slice af nf cf) (.slice ao no co) cb ib n now Q o) := by
  rcases (by omega : n = 0 ∨ n = 1 ∨ n = 2) with rfl | rfl | rfl
  · exact upStep0_spec w u b f c mb B M af ao nf cf no co cb ib now grace hnow hl armed Q o hb hu hM hok h
  · exact upStep1_spec w u b f c mb B M af ao nf cf no co cb ib now grace hnow hl armed Q o hb hu hM hok h
  · exact upStep2_spec w u b f c mb B M af ao nf cf no co cb ib now grace hnow hl armed Q o hb hu hM hok h

theorem objectB_size (id p : ByteArray) : (objectB id p).size = id.size + 1 + p.size := by
  unfold objectB
  rw [ByteArray.size_append, ByteArray.size_append]
  rfl

theorem part_ne {id : ByteArray} {j k : Nat} (hj : j < 3) (hk : k < 3) (hne : j ≠ k) : objectB id (partN j) ≠ objectB id (partN k) := fun e => by
  have := congrArg ByteArray.size e
  rw [objectB_size, objectB_size] at this
  have s0 : (partN 0).size = 6 := rfl
  have s1 : (partN 1).size = 5 := rfl
  have s2 : (partN 2).size = 4 := rfl
  rcases (by omega : j = 0 ∨ j = 1 ∨ j = 2) with rfl | rfl | rfl <;> rcases (by omega : k = 0 ∨ k = 1 ∨ k = 2) with rfl | rfl | rfl <;> first | exact hne rfl | (simp only [s0, s1, s2] at this; omega)

theorem putB_len {o : List (ByteArray × Ob)} {n : ByteArray} {v : Ob} (h : look o n = none) : (put o n v).length = o.length + 1 := by
  induction o with
  | nil => rfl
  | cons x o ih =>
    unfold look at h
    split at h
    · cases h
    · rename_i hx
      unfold put
      rw [if_neg hx, List.length_cons, List.length_cons, ih h]

theorem threeO_look (M : MetaS) (cb ib : ByteArray) (now : Int) : ∀ k, k ≤ 3 → ∀ j, j < 3 → look (threeO M cb ib now k) (objectB M.id (partN j)) = if j < k then some (dataN M cb ib j, now) else none
  | 0, _, j, _ => by rw [if_neg (by omega)]; rfl
  | k + 1, hk, j, hj => by
    unfold threeO
    rw [look_put]
    by_cases e : j = k
    · subst e
      rw [if_pos rfl, if_pos (by omega)]
    · rw [if_neg (part_ne hj (by omega) e), threeO_look M cb ib now k (by omega) j hj]
      by_cases h1 : j < k
      · rw [if_pos h1, if_pos (by omega)]
      · rw [if_neg h1, if_neg (by omega)]

theorem threeO_len (M : MetaS) (cb ib : ByteArray) (now : Int) : ∀ k, k ≤ 3 → (threeO M cb ib now k).length = k
  | 0, _ => rfl
  | k + 1, hk => by
    unfold threeO
    rw [putB_len (by rw [threeO_look M cb ib now k (by omega) k (by omega), if_neg (Nat.lt_irrefl _)]), threeO_len M cb ib now k (by omega)]

theorem putB_mem {o : List (ByteArray × Ob)} {n : ByteArray} {v : Ob} {p : ByteArray × Ob} (h : p ∈ put o n v) : p = (n, v) ∨ p ∈ o := by
  induction o with
  | nil => exact .inl (by simpa [put] using h)
  | cons x o ih =>
    unfold put at h
    split at h
    · rcases List.mem_cons.1 h with h | h
      · exact .inl h
      · exact .inr (List.mem_cons_of_mem _ h)
    · rcases List.mem_cons.1 h with h | h
      · exact .inr (by simp [h])
      · exact (ih h).imp_right (List.mem_cons_of_mem _)

theorem threeO_mem (M : MetaS) (cb ib : ByteArray) (now : Int) : ∀ k, k ≤ 3 → ∀ p ∈ threeO M cb ib now k, ∃ j, j < k ∧ p = (objectB M.id (partN j), (dataN M cb ib j, now))
  | 0, _, p, hp => by cases hp
  | k + 1, hk, p, hp => by
    rcases putB_mem hp with h | h
    · exact ⟨k, Nat.lt_succ_self _, h⟩
    · obtain ⟨j, hj, e⟩ := threeO_mem M cb ib now k (by omega) p h
      exact ⟨j, by omega, e⟩

theorem dataN_size {M : MetaS} {cb ib : ByteArray} (hok : MetaOk M) (h1 : cb.size ≤ 160000) (h2 : ib.size ≤ 14000) (j : Nat) : (dataN M cb ib j).size ≤ 160000 := by
  unfold dataN
  split
  · exact h1
  · omega
  · have : (encM M).size ≤ 3000 := frame_meta_len hok
    omega

def ThreeRel (W6 : World) (b f c mb u : Nat) (M : MetaS) (vf vo : Value) (cb ib : ByteArray) (now : Int) (gk : Nat) (u39 : Value) (wr : World) : Prop :=
  ∃ k, k ≤ 3 ∧ gk = 3 - k ∧ u39 = .int .i64 (k : Nat) ∧ BucketAt wr b f c mb false [] (threeO M cb ib now k) ∧ UpAt wr u M vf vo cb ib (k : Nat) ∧ Keeps [f, c, mb, u] W6 wr

set_option linter.unusedSimpArgs false in
set_option maxRecDepth 100000 in
set_option maxHeartbeats 4000000 in
theorem shipThree_walk (w : World) (hv : LibVar w) (hX : XorVar w) (v : Value) (L : List One14) (h : SliceArg 3 encO14 w v L) (hb : ∀ x ∈ L, 0 ≤ x.1 ∧ 0 ≤ x.2.2 ∧ x.2.2 < 18446744073709551616) (born grace : Int) :
    Calls Tryz.prog 3 #[v, .int .i64 born, .int .i64 grace] w fun e w' => e = .returned (.bool true) ∧ Keeps [] w w' := by
  have H := Lib.hid (And.intro h (And.intro hv (And.intro hX hb)))
  obtain ⟨av, cv, rfl, -, -⟩ := h
  obtain ⟨bn, hbn⟩ : ∃ bn : Nat, (bn : Int) = min (max born 0) 1000 := ⟨(min (max born 0) 1000).toNat, by omega⟩
  obtain ⟨gr, hgr⟩ : ∃ gr : Nat, (gr : Int) = min (max grace 1) 1000 := ⟨(min (max grace 1) 1000).toNat, by omega⟩
  have hbn1 : bn ≤ 1000 := by omega
  have hgr1 : 1 ≤ gr ∧ gr ≤ 1000 := by omega
  have Hbl := Lib.hid (block_spec w hv hX _ L H.out.1 hb bn 1 (by omega) (by decide))
  clear hv hX hb
  go_enter Tryz.func3, Tryz.ntmps3
  go_wp2_with fail
  rw [← hbn, ← hgr]
  clear hbn hgr
  refine Hbl.out.mono ?_
  rintro e W1 ⟨fv, M, cb, ib, rfl, ⟨vs, rfl, ⟨vf, vo, rfl, r1, r2⟩, hMO, hfl, hcz, hiz⟩, hMid, k1⟩
  obtain ⟨af, cf, rfl, -, -, -⟩ := row_slice r1
  obtain ⟨ao, co, rfl, -, -, -⟩ := row_slice r2
  have H1 := Lib.hid (And.intro r1 (And.intro r2 (And.intro hMO (And.intro hfl (And.intro hMid (And.intro k1 (And.intro hcz hiz)))))))
  clear r1 r2 hMO hfl hcz hiz hMid k1 Hbl
  have kW := (Keeps.refl [] W1).alloc (.cells #[.string M.id, .int .i64 M.mn, .int .i64 M.mx, .int .i64 M.level, .int .i64 M.series, .int .i64 M.samples, .slice af M.files.length cf, .slice ao M.sources.length co, .string cb, .string ib] 28)
  have nW := heap_new W1 (.cells #[.string M.id, .int .i64 M.mn, .int .i64 M.mx, .int .i64 M.level, .int .i64 M.series, .int .i64 M.samples, .slice af M.files.length cf, .slice ao M.sources.length co, .string cb, .string ib] 28)
  go_wp2_with fail
  generalize W1.alloc (.cells #[.string M.id, .int .i64 M.mn, .int .i64 M.mx, .int .i64 M.level, .int .i64 M.series, .int .i64 M.samples, .slice af M.files.length cf, .slice ao M.sources.length co, .string cb, .string ib] 28) = W2 at kW nW ⊢
  obtain ⟨pf, hpf⟩ : ∃ pf, pf = W1.heap.size := ⟨_, rfl⟩
  rw [← hpf] at nW ⊢
  have H2 := Lib.hid (And.intro nW (And.intro kW hpf))
  clear nW kW hpf
  refine (newBucket_spec W2).mono ?_
  rintro e W3 ⟨b, f, c, mb, rfl, hB3, k3, q1, q2, q3, q4⟩
  have H3 := Lib.hid (And.intro hB3 (And.intro k3 (And.intro q1 (And.intro q2 (And.intro q3 q4)))))
  clear hB3 k3 q1 q2 q3 q4
  go_wp2_with fail
  refine (awake18_spec W3).mono ?_
  rintro e W4 ⟨rfl, k4⟩
  have k24 := H3.out.2.1.trans k4
  have n4 := k24.at_ H2.out.1 (by simp)
  have H4 := Lib.hid (And.intro n4 (And.intro k24 (H3.out.1.keep k4 (by simp) (by simp) (by simp) (by simp))))
  have c4 := cells_at n4
  have l4 := lt_of_at n4
  clear k4 k24 n4
  go_wp2_with fail
  refine (newUpload_spec W4 M af ao _ cf _ co cb ib).mono ?_
  rintro e W5 ⟨u, rfl, hU5, k5, hu5⟩
  have H5 := Lib.hid (And.intro hU5 (And.intro k5 hu5))
  clear hU5 k5 hu5 c4 l4
  obtain ⟨W6, hW6⟩ : ∃ W6, W6 = W5.alloc (.cells #[.string ⟨#[99, 104, 117, 110, 107, 115]⟩, .string ⟨#[105, 110, 100, 101, 120]⟩, .string ⟨#[109, 101, 116, 97]⟩] 9) := ⟨_, rfl⟩
  have k6 : Keeps [] W5 W6 := by rw [hW6]; exact (Keeps.refl [] W5).alloc _
  have n6 : W6.heap[W5.heap.size]? = some (.cells #[.string chunksB, .string indexB, .string metaB] 9 (0, 0)) := by rw [hW6]; exact heap_new W5 _
  have HW6 := Lib.hid hW6
  clear hW6
  go_wp2_with fail
  rw [← HW6.out]
  obtain ⟨sl, hsl⟩ : ∃ sl, sl = W5.heap.size := ⟨_, rfl⟩
  rw [← hsl] at n6 ⊢
  have hu6 := lt_of_at H5.out.1
  have k46 := H5.out.2.1.trans k6
  have hbl := H4.out.2.2.lt
  have k16 : Keeps [] W1 W6 := (H2.out.2.1.trans H4.out.2.1).trans k46
  have H6 := Lib.hid (And.intro n6 (And.intro (H4.out.2.2.keep k46 (by simp) (by simp) (by simp) (by simp)) (And.intro (show UpAt W6 u M _ _ cb ib 0 from k6.at_ H5.out.1 (by simp)) (And.intro k16 (k46.at_ H4.out.1 (by simp))))))
  have hlate : lateB (parseL M.id.data.toList) bn gr = false := by
    rw [H1.out.2.2.2.2.1]
    show lateB (parseL (identL bn 1)) bn gr = false
    rw [parseL_ident (by omega) (by decide)]
    show decide ((gr : Int) ≤ (bn : Int) - (bn : Int)) = false
    simp
    omega
  have hfr : b < sl ∧ f < sl ∧ c < sl ∧ mb < sl ∧ u < sl ∧ u ≠ b ∧ u ≠ f ∧ u ≠ c ∧ u ≠ mb := by
    obtain ⟨l1, l2, l3, l4⟩ := hbl
    have := H5.out.2.2
    have := H5.out.2.1.size
    omega
  have hpfs : pf ≠ b ∧ pf ≠ f ∧ pf ≠ c ∧ pf ≠ mb ∧ pf ≠ u := by
    have h1 := lt_of_at H2.out.1
    have := H3.out.2.2.1
    have := H3.out.2.2.2.1
    have := H3.out.2.2.2.2.1
    have := H3.out.2.2.2.2.2
    have := H4.out.2.1.size
    have := H5.out.2.2
    omega
  have HF := Lib.hid (And.intro hfr (And.intro hpfs hlate))
  clear n6 k6 hu6 k46 hbl k16 hlate hfr hpfs hsl
  go_loopg [39] 3 (ThreeRel W6 b f c mb u M (.slice af M.files.length cf) (.slice ao M.sources.length co) cb ib bn)
  case atStart => exact ⟨0, by decide, rfl, rfl, H6.out.2.1, H6.out.2.2.1, Keeps.refl _ _⟩
  case round =>
    obtain ⟨k, hk, hgk, rfl, hBr, hUr, hkr⟩ := hrel
    obtain ⟨⟨f1, f2, f3, f4, f5, f6, f7, f8, f9⟩, ⟨g1, g2, g3, g4, g5⟩, hlate⟩ := HF.out
    have hW1 : Keeps [] W1 wr := H6.out.2.2.2.1.after hkr (fun x hx => .inr (by
      have := H3.out.2.2.1
      have := H3.out.2.2.2.1
      have := H3.out.2.2.2.2.1
      have := H3.out.2.2.2.2.2
      have := H2.out.2.1.size
      have := H4.out.2.1.size
      have := H5.out.2.2
      simp at hx
      omega))
    have nsl := hkr.at_ H6.out.1 (by simp; omega)
    have npf := hkr.at_ H6.out.2.2.2.2 (by simp; omega)
    have Hr := Lib.hid (And.intro hgk (And.intro hBr (And.intro hUr (And.intro hkr (And.intro hW1 (And.intro nsl npf))))))
    by_cases hlt : k < 3
    · have hcs : wr.cell? ⟨sl, k, none⟩ = some (.string (partN k)) := by
        rw [cells_at nsl]
        rcases (by omega : k = 0 ∨ k = 1 ∨ k = 2) with rfl | rfl | rfl <;> rfl
      have lsl := lt_of_at nsl
      have hk3 : (k : Int) < 3 := by omega
      have hkn : ((k : Int) == 3) = false := by rw [beq_eq_false_iff_ne]; omega
      have hMV : MetaV w.heap.size wr (metaCs M (.slice af M.files.length cf) (.slice ao M.sources.length co)) M := (show MetaR w.heap.size wr (metaCs M (.slice af M.files.length cf) (.slice ao M.sources.length co)) M from ⟨_, _, rfl, hW1.row H1.out.1 (by simp), hW1.row H1.out.2.1 (by simp)⟩).metaV
      have Hd := Lib.hid (upDone_spec2 wr u M _ _ cb ib _ hUr)
      have Hs := Lib.hid (upStep_spec wr u b f c mb _ M af ao _ cf _ co cb ib bn gr (by omega) hlate false [] _ hBr (by simp; omega) hMV H1.out.2.2.1 k hlt hUr)
      rw [hkn] at Hd
      clear hgk hBr hUr hkr hW1 nsl npf hMV f1 f2 f3 f4 f5 f6 f7 f8 f9 g1 g2 g3 g4 g5 hlate hkn
      go_wp2_with fail
      refine Hd.out.mono ?_
      rintro e w2 ⟨rfl, rfl⟩
      go_wp2_with fail
      refine Hs.out.mono ?_
      rintro e A1 ⟨rfl, hB1, hU1, hk1⟩
      rw [show ioErr [] = 0 from rfl]
      have hB1 : BucketAt A1 b f c mb false [] (threeO M cb ib bn (k + 1)) := hB1
      have hU1 : UpAt A1 u M (.slice af M.files.length cf) (.slice ao M.sources.length co) cb ib ((k + 1 : Nat) : Int) := by
        rw [if_pos (show ioErr [] = 0 from rfl)] at hU1
        exact hU1
      have hol := threeO_len M cb ib bn (k + 1) (by omega)
      have homem := threeO_mem M cb ib bn (k + 1) (by omega)
      have hlook := threeO_look M cb ib bn (k + 1) (by omega) k (by omega)
      rw [if_pos (Nat.lt_succ_self _)] at hlook
      have hds := dataN_size (M := M) (cb := cb) (ib := ib) H1.out.2.2.1 H1.out.2.2.2.2.2.2.1 H1.out.2.2.2.2.2.2.2
      have H7 := Lib.hid (And.intro hB1 (And.intro hU1 (And.intro hk1 (And.intro hol (And.intro homem (And.intro hlook hds))))))
      have hid16 := id16 H1.out.2.2.1.id
      have HL := Lib.hid (look_spec A1 b f c mb false [] _ hB1 ⟨#[]⟩ (fun p hp => by
          obtain ⟨j, hj, e⟩ := homem p hp
          have hpz : (partN j).size ≤ 6 := by unfold partN; split <;> decide
          rw [e, objectB_size, hid16]
          simp only [maxLen]
          omega) (fun n => by
          cases hx : look (threeO M cb ib bn (k + 1)) n with
          | none => exact Nat.zero_le _
          | some x =>
            obtain ⟨j, hj, e⟩ := homem _ (look_mem hx)
            injection e with _ e
            subst e
            exact Nat.le_trans (hds j) (by decide)) (by rw [hol]; omega))
      clear hB1 hU1 hk1 hol homem hlook hds hcs lsl
      go_wp2_with fail
      refine HL.out.mono ?_
      rintro e A2 ⟨vl, rfl, hrl, hk2⟩
      rw [list_lenE, H7.out.2.2.2.1] at hrl
      obtain ⟨al, cl, rfl, -, -, -⟩ := row_slice hrl
      have H8 := Lib.hid (And.intro (H7.out.1.keep hk2 (by simp) (by simp) (by simp) (by simp)) (And.intro (show UpAt A2 u M _ _ cb ib _ from hk2.at_ H7.out.2.1 (by simp)) ((Hr.out.2.2.2.1.trans H7.out.2.2.1).trans (hk2.mono (by simp)))))
      have npf := H8.out.2.2.at_ H6.out.2.2.2.2 (by have := HF.out.2.1; simp; omega)
      have cpf := cells_at npf
      have lpf := lt_of_at npf
      have hpz : (partN k).size ≤ 6 := by unfold partN; split <;> decide
      have hz1 : (M.id ++ (⟨#[47]⟩ : ByteArray)).size = 17 := by rw [ByteArray.size_append, hid16]; rfl
      have Hpk := Lib.hid (peek_spec A2 b f c mb false [] _ H8.out.1 (objectB M.id (partN k)))
      rw [H7.out.2.2.2.2.2.1] at Hpk
      clear hrl hk2 npf
      go_wp2_with fail
      refine Hpk.out.mono ?_
      rintro e A3 ⟨rfl, hk3⟩
      rw [show (some (dataN M cb ib k, (bn : Int))).isSome = true from rfl]
      have H9 := Lib.hid (And.intro (H8.out.1.keep hk3 (by simp) (by simp) (by simp) (by simp)) (And.intro (show UpAt A3 u M _ _ cb ib _ from hk3.at_ H8.out.2.1 (by simp)) (H8.out.2.2.trans (hk3.mono (by simp)))))
      clear hk3 cpf lpf
      go_wp2_with fail
      go_roundg (3 - (k + 1))
      case measure => have := Hr.out.1; omega
      case rel => exact ⟨k + 1, hlt, rfl, by go_num, H9.out.1, H9.out.2.1, H9.out.2.2⟩
    · have hk3 : k = 3 := by omega
      subst hk3
      have Hd := Lib.hid (upDone_spec2 wr u M _ _ cb ib _ hUr)
      rw [show (((3 : Nat) : Int) == 3) = true from rfl] at Hd
      have Hi := Lib.hid (upIdle_spec wr u b M _ _ cb ib bn gr hUr)
      clear hgk hBr hUr hkr hW1 nsl npf f1 f2 f3 f4 f5 f6 f7 f8 f9 g1 g2 g3 g4 g5 hlate hlt
      rw [show ((3 : Nat) : Int) = 3 from rfl]
      go_wp2_with fail
      refine Hd.out.mono ?_
      rintro e w2 ⟨rfl, rfl⟩
      go_wp2_with fail
      refine Hi.out.mono ?_
      rintro e w2 ⟨rfl, rfl⟩
      go_wp2_with fail
      go_ret
      exact ⟨rfl, H1.out.2.2.2.2.2.1.trans Hr.out.2.2.2.2.1⟩

theorem shipThree_law (w : World) (hv : LibVar w) (hX : XorVar w) (v0 : Value) (h0 : O14W w v0) (a1 : Int) (_ : (Lit.int .i64 a1).wf = true) (a2 : Int) (_ : (Lit.int .i64 a2).wf = true) :
    Calls Tryz.prog 3 #[v0, .int .i64 a1, .int .i64 a2] w fun e w' => e = .returned (.bool true) ∧ Keeps [] w w' := by
  obtain ⟨L, hL, hb⟩ := h0
  exact shipThree_walk w hv hX v0 L hL hb a1 a2
end Go.Proofs.YtaebpbkiaihhdaaGreatDoor
