/-
  A fetch's steps behind its first one (package fetch): Step, where entries are left; where none is.
  The package's variable xor.widths holds what its text says (XorVar).
-/
import Derived.Test.YtkffpcmminlndaaGreatDoorFetP
namespace Go.Proofs.YtkffpcmminlndaaGreatDoor
open Go Go.RowKit Go.Conc

/-- The slice of what is left behind k entries. -/
def LeftV (v0 : Value) (n k : Nat) (vl : Value) : Prop := (∃ g c, v0 = .slice (some ⟨g, 0, none⟩) n c ∧ k < n ∧ n ≤ c ∧ vl = .slice (some ⟨g, k * 5, none⟩) (n - k) (c - k)) ∨ (n ≤ k ∧ ∃ a c, vl = .slice a 0 c)

/-- A fetch that has read k of what it wants. -/
structure FetOn (w : World) (p Y : Nat) (M : MetaS) (vf vo : Value) (fr up : Int) (vm : Value) (PR : List (EntP × RowT)) (k : Nat) : Prop where
  ex : ∃ v0 E vl vr, FetAt w p M vf vo fr up vm true vl vr ∧ EntrAt Y w v0 E ∧ E.map (·.2) = PR.map (·.1) ∧ LeftV v0 PR.length k vl ∧ TabAt 108 131 Y w vr ((PR.take k).map (·.2))
  le : k ≤ PR.length

set_option linter.unusedSimpArgs false in
set_option maxRecDepth 100000 in
theorem fetDone_spec (w : World) (p Y : Nat) (M : MetaS) (vf vo : Value) (fr up : Int) (vm : Value) (PR : List (EntP × RowT)) (k : Nat) (h : FetOn w p Y M vf vo fr up vm PR k) :
    Calls Tryz.prog 13 #[.pointer (some ⟨p, 0, none⟩)] w fun e w' => e = .returned (.bool (decide (k = PR.length))) ∧ w' = w := by
  obtain ⟨v0, E, vl, vr, hp, hE, hm, hl, hr⟩ := h.ex
  have hle := h.le
  rcases hl with ⟨g, c, rfl, hk, hc, rfl⟩ | ⟨hk, a, c, rfl⟩
  · have hz : ¬ ((PR.length - k : Nat) : Int) = 0 := by omega
    obtain ⟨m, hm2⟩ : ∃ m, m = PR.length - k := ⟨_, rfl⟩
    rw [← hm2] at hp hz
    have hzb : ((m : Int) == 0) = false := by rw [beq_eq_false_iff_ne]; exact hz
    have Hd := Lib.hid (show decide (k = PR.length) = false by rw [decide_eq_false_iff_not]; omega)
    have cp := cells_at hp
    have lp := lt_of_at hp
    clear hp hE hm hr hm2 hk hc
    go_enter Tryz.func13, Tryz.ntmps13
    go_wp2_with fail
    go_ret
    exact ⟨by rw [Hd.out]; rfl, rfl⟩
  · have Hd := Lib.hid (show decide (k = PR.length) = true by rw [decide_eq_true_eq]; omega)
    have cp := cells_at hp
    have lp := lt_of_at hp
    clear hp hE hm hr hk
    go_enter Tryz.func13, Tryz.ntmps13
    go_wp2_with fail
    go_ret
    exact ⟨by rw [Hd.out]; rfl, rfl⟩

set_option linter.unusedSimpArgs false in
set_option maxRecDepth 100000 in
theorem fetIdle_spec (w : World) (p Y b : Nat) (M : MetaS) (vf vo : Value) (fr up : Int) (vm : Value) (PR : List (EntP × RowT)) (h : FetOn w p Y M vf vo fr up vm PR PR.length) :
    Calls Tryz.prog 14 #[.pointer (some ⟨p, 0, none⟩), .pointer (some ⟨b, 0, none⟩)] w fun e w' => e = .returned (.int .i64 17) ∧ w' = w := by
  obtain ⟨v0, E, vl, vr, hp, hE, hm, hl, hr⟩ := h.ex
  rcases hl with ⟨g, c, rfl, hk, hc, rfl⟩ | ⟨hk, a, c, rfl⟩
  · omega
  · have cp := cells_at hp
    have lp := lt_of_at hp
    clear hp hE hm hr hk
    go_enter Tryz.func14, Tryz.ntmps14
    go_wp2_with fail
    go_ret
    exact ⟨rfl, rfl⟩

def StepOut (w : World) (p Y : Nat) (M : MetaS) (vf vo : Value) (fr up : Int) (vm : Value) (PR : List (EntP × RowT)) (k : Nat) (b f c mb : Nat) (Q : List (Int × Bool)) (o : List (ByteArray × Ob)) (r : Int) (e : Ending) (w' : World) : Prop :=
  BucketAt w' b f c mb (tryArmed Q) (tryQ Q) o ∧ (∃ S, (∀ x ∈ S, x = f ∨ x = c ∨ x = p ∨ Y ≤ x) ∧ Keeps S w w') ∧
    ((r = 8 ∧ e = .returned (.int .i64 8) ∧ FetOn w' p Y M vf vo fr up vm PR k) ∨ (r = 5 ∧ e = .returned (.int .i64 14) ∧ FetOn w' p Y M vf vo fr up vm PR k) ∨
      (r = 0 ∧ e = .returned (.int .i64 0) ∧ FetOn w' p Y M vf vo fr up vm PR (k + 1)))

theorem bucket_row {w : World} {b f c mb X s n : Nat} {armed : Bool} {Q : List (Int × Bool)} {o : List (ByteArray × Ob)} {T : TypeId} {v : Value} {xs : List Value} (h : BucketAt w b f c mb armed Q o) (hr : w.ownsRow X T s v n xs) (hT : 96 ≠ T) : ∀ g, v.ownBlock = some g → g ∉ [f, c] := fun g hg hm => by
  obtain ⟨now, wait, hf, -⟩ := h.fuse
  obtain ⟨s', r', hc⟩ := hf.chan
  simp only [List.mem_cons, List.not_mem_nil, or_false] at hm
  rcases hm with rfl | rfl
  · exact row_ne_type hr hf.cells hT _ hg rfl
  · obtain ⟨-, ob, ho, hcell⟩ := own_block_cells hr g hg
    rw [hc] at ho
    cases ho
    cases hcell

theorem EntrAt.bk {w w' : World} {b f c mb Y : Nat} {armed : Bool} {Q : List (Int × Bool)} {o : List (ByteArray × Ob)} {v : Value} {E : List EntV} (h : EntrAt Y w v E) (hb : BucketAt w b f c mb armed Q o) (K : Keeps [f, c] w w') : EntrAt Y w' v E :=
  ⟨K.row h.1 (bucket_row hb h.1 (by decide)), fun e he => K.row (h.2 e he) (bucket_row hb (h.2 e he) (by decide))⟩

theorem TabAt.bk {w w' : World} {b f c mb Y : Nat} {armed : Bool} {Q : List (Int × Bool)} {o : List (ByteArray × Ob)} {v : Value} {A : TabT} (h : TabAt 108 131 Y w v A) (hb : BucketAt w b f c mb armed Q o) (K : Keeps [f, c] w w') : TabAt 108 131 Y w' v A := by
  obtain ⟨E, h1, h2, h3⟩ := h
  exact ⟨E, K.row h1 (bucket_row hb h1 (by decide)), h2, fun i hi hi' => ⟨K.row (h3 i hi hi').1 (bucket_row hb (h3 i hi hi').1 (by decide)), K.row (h3 i hi hi').2 (bucket_row hb (h3 i hi hi').2 (by decide))⟩⟩

theorem EntrAt.pt {w w' : World} {p Y : Nat} {cs : Array Value} {T0 : TypeId} {z : Nat × Nat} {v : Value} {E : List EntV} (h : EntrAt Y w v E) (hp : w.heap[p]? = some (.cells cs T0 z)) (h1 : T0 ≠ 101) (h2 : T0 ≠ 131) (K : Keeps [p] w w') : EntrAt Y w' v E :=
  ⟨K.row h.1 (fun g hg hm => row_ne_type h.1 hp h1 g hg (by simpa using hm)), fun e he => K.row (h.2 e he) (fun g hg hm => row_ne_type (h.2 e he) hp h2 g hg (by simpa using hm))⟩

theorem ElemsAt.pt {w w' : World} {p : Nat} {cs : Array Value} {T0 : TypeId} {z : Nat × Nat} {E : List RowV} {A : TabT} (h : ElemsAt 131 w E A) (hp : w.heap[p]? = some (.cells cs T0 z)) (h2 : T0 ≠ 131) (h3 : T0 ≠ 74) (K : Keeps [p] w w') : ElemsAt 131 w' E A :=
  ⟨h.1, fun i hi hi' => ⟨K.row (h.2 i hi hi').1 (fun g hg hm => row_ne_type (h.2 i hi hi').1 hp h2 g hg (by simpa using hm)), K.row (h.2 i hi hi').2 (fun g hg hm => row_ne_type (h.2 i hi hi').2 hp h3 g hg (by simpa using hm))⟩⟩

theorem FetOn.bk {w w' : World} {p Y b f c mb : Nat} {armed : Bool} {Q : List (Int × Bool)} {o : List (ByteArray × Ob)} {M : MetaS} {vf vo : Value} {fr up : Int} {vm : Value} {PR : List (EntP × RowT)} {k : Nat} (h : FetOn w p Y M vf vo fr up vm PR k) (hb : BucketAt w b f c mb armed Q o) (K : Keeps [f, c] w w') (hp : p ≠ f ∧ p ≠ c) : FetOn w' p Y M vf vo fr up vm PR k := by
  obtain ⟨v0, E, vl, vr, h1, h2, h3, h4, h5⟩ := h.ex
  exact ⟨⟨v0, E, vl, vr, K.at_ h1 (by simp; exact hp), h2.bk hb K, h3, h4, h5.bk hb K⟩, h.le⟩

theorem FetOn.kp {w w' : World} {p Y : Nat} {M : MetaS} {vf vo : Value} {fr up : Int} {vm : Value} {PR : List (EntP × RowT)} {k : Nat} (h : FetOn w p Y M vf vo fr up vm PR k) (K : Keeps [] w w') : FetOn w' p Y M vf vo fr up vm PR k := by
  obtain ⟨v0, E, vl, vr, h1, h2, h3, h4, h5⟩ := h.ex
  exact ⟨⟨v0, E, vl, vr, K.at_ h1 (by simp), h2.keep K, h3, h4, h5.keep K⟩, h.le⟩

set_option linter.unusedSimpArgs false in
set_option maxRecDepth 100000 in
set_option maxHeartbeats 4000000 in
theorem fetStep_spec (w : World) (p Y : Nat) (M : MetaS) (vf vo : Value) (fr up : Int) (vm : Value) (PR : List (EntP × RowT)) (k : Nat) (b f c mb : Nat) (armed : Bool) (Q : List (Int × Bool)) (o : List (ByteArray × Ob)) (r : ByteArray × Int)
    (h : FetOn w p Y M vf vo fr up vm PR k) (hk : k < PR.length) (hPR : PR.length ≤ 50) (hX : ∀ W, Keeps [f, c, p] w W → XorVar W) (hb : BucketAt w b f c mb armed Q o) (hpb : p ≠ f ∧ p ≠ c ∧ p ≠ b ∧ p ≠ mb) (hY : b < Y ∧ f < Y ∧ c < Y ∧ mb < Y ∧ p < Y) (hYw : Y ≤ w.heap.size) (hid : M.id.size ≤ 1000)
    (hsz : ∀ x, look o (objectB M.id chunksB) = some x → x.1.size ≤ maxLen) (x : EntP × RowT) (hx : x = PR[k])
    (h1 : x.1.1 = x.2.1) (h2 : SmpsOk x.2.2) (h3 : 0 < x.2.2.length ∧ x.2.2.length ≤ 110) (h4 : 0 < x.2.1.length ∧ x.2.1.length ≤ 8) (h5 : x.1.2.1 ≤ 200000 ∧ x.1.2.2.1 ≤ 3000 ∧ x.1.2.2.1 = (chunkF x.2.2).length)
    (h6 : x.2.2[0]?.map (·.1) = some ((x.1.2.2.2.1 : Nat) : Int)) (h7 : x.2.2[x.2.2.length - 1]?.map (·.1) = some ((x.1.2.2.2.2 : Nat) : Int)) (hr : rangeVal Q o (objectB M.id chunksB) x.1.2.1 x.1.2.2.1 = r) (hrr : r.2 = 8 ∨ r.2 = 5 ∨ r = (⟨(chunkF x.2.2).toArray⟩, 0)) :
    Calls Tryz.prog 14 #[.pointer (some ⟨p, 0, none⟩), .pointer (some ⟨b, 0, none⟩)] w (StepOut w p Y M vf vo fr up vm PR k b f c mb Q o r.2) := by
  obtain ⟨v0, E, vl, vr, hp, hE, hm, hl, hT⟩ := h.ex
  have HOn := Lib.hid h
  have hEl : E.length = PR.length := by
    have := congrArg List.length hm
    simpa using this
  rcases hl with ⟨g, cv, rfl, hkn, hcv, rfl⟩ | ⟨hkn, a, cv, rfl⟩
  · have hkE : k < E.length := by omega
    obtain ⟨b0, off, ea, hb0, d1, d2, d3, d4, d5⟩ := ent_at hE k hkE
    injection ea with ea
    injection ea with ea1 ea2 _
    subst ea1 ea2
    rw [Nat.zero_add] at d1 d2 d3 d4 d5
    have hin := hE.2 _ (List.getElem_mem hkE)
    have hEk : E[k].2 = x.1 := by
      have h8 : (E.map (·.2))[k]? = (PR.map (·.1))[k]? := by rw [hm]
      rw [List.getElem?_map, List.getElem?_map, List.getElem?_eq_getElem hkE, List.getElem?_eq_getElem hk] at h8
      rw [hx]
      exact Option.some.inj h8
    unfold EntIn at hin
    rw [hEk] at hin d2 d3 d4 d5
    generalize E[k].1 = xv at d1 hin
    obtain ⟨⟨P, fo, n, mn, mx⟩, P2, L⟩ := x
    dsimp only at h1 h2 h3 h4 h5 h6 h7 hr hrr hin d2 d3 d4 d5
    subst h1
    obtain ⟨xa, xc, rfl, -, -, -⟩ := row_slice hin
    obtain ⟨q, hq⟩ : ∃ q, q = w.heap.size := ⟨_, rfl⟩
    obtain ⟨W1, hW1⟩ : ∃ W1, W1 = w.alloc (.cells #[.slice xa P.length xc, .int .i64 (fo : Nat), .int .i64 (n : Nat), .int .i64 (mn : Nat), .int .i64 (mx : Nat)] 101) := ⟨_, rfl⟩
    have k1 : Keeps [] w W1 := by rw [hW1]; exact (Keeps.refl [] w).alloc _
    have nq : W1.heap[q]? = some (.cells #[.slice xa P.length xc, .int .i64 (fo : Nat), .int .i64 (n : Nat), .int .i64 (mn : Nat), .int .i64 (mx : Nat)] 101 (0, 0)) := by rw [hW1, hq]; exact heap_new w _
    have hbl := hb.lt
    have hpl := lt_of_at hp
    have hqb : q ≠ f ∧ q ≠ c ∧ q ≠ p := by omega
    obtain ⟨m, hm2⟩ : ∃ m, m = PR.length - k := ⟨_, rfl⟩
    rw [← hm2] at hp
    have hmz : ¬ (m : Int) = 0 := by omega
    have hmzb : ((m : Int) == 0) = false := by rw [beq_eq_false_iff_ne]; exact hmz
    have hm0 : (0 : Int) < (m : Int) := by omega
    have cp := cells_at hp
    have lp := hpl
    have H := Lib.hid (And.intro hp (And.intro hE (And.intro hm (And.intro hT (And.intro hX (And.intro hb (And.intro hpb (And.intro hY (And.intro hsz (And.intro hr hin))))))))))
    have HR := Lib.hid (And.intro hx (And.intro h2 (And.intro h3 (And.intro h4 (And.intro h5 (And.intro h6 (And.intro h7 (And.intro hm2 (And.intro hEk (And.intro hkn hcv))))))))))
    have H1 := Lib.hid (And.intro nq (And.intro k1 (And.intro (k1.at_ hp (by simp)) (And.intro (hb.keep k1 (by simp) (by simp) (by simp) (by simp)) hqb))))
    clear hE hm hT hX hb hpb hsz hr hx h2 h3 h4 h5 h6 h7 hp nq k1 hbl hqb hm2 hEk hEl hkn hcv hin h
    go_enter Tryz.func14, Tryz.ntmps14
    go_upto_region 6 with fail
    rw [← hq, ← hW1]
    clear hq hW1 cp lp d1 d2 d3 d4 d5 hb0
    obtain ⟨X0, hX0⟩ : ∃ X0, X0 = W1.drew := ⟨_, rfl⟩
    have kX : Keeps [] W1 X0 := by rw [hX0]; exact (Keeps.refl [] _).drew
    have nX := kX.at_ H1.out.1 (by simp)
    have pX := kX.at_ H1.out.2.2.1 (by simp)
    have e1 : X0.cell? ⟨p, 0, none⟩ = some (.string M.id) := by rw [cells_at pX]; rfl
    have e2 : X0.cell? ⟨q, 1, none⟩ = some (.int .i64 (fo : Nat)) := by rw [cells_at nX]; rfl
    have e3 : X0.cell? ⟨q, 2, none⟩ = some (.int .i64 (n : Nat)) := by rw [cells_at nX]; rfl
    have HX := Lib.hid (And.intro hX0 (And.intro kX (And.intro nX (And.intro pX (H1.out.2.2.2.1.keep kX (by simp) (by simp) (by simp) (by simp))))))
    clear hX0 kX nX pX
    refine wp_region_held_drew (S := fun w' => w'.cell? ⟨p, 0, none⟩ = some (.string M.id) ∧ w'.cell? ⟨q, 1, none⟩ = some (.int .i64 (fo : Nat)) ∧ w'.cell? ⟨q, 2, none⟩ = some (.int .i64 (n : Nat))) (by kernel_rfl) (by rw [← HX.out.1]; exact ⟨e1, e2, e3⟩) (fun hS => ?_)
    rw [← HX.out.1] at hS ⊢
    refine wpAnyH_take (i := 0) (v := ?_) rfl (by kernel_rfl) (by kernel_rfl) (by kernel_rfl) (fun _ _ _ h => h) (Or.inl ⟨by rfl, ?_⟩) (by assumption) ?_
    rotate_left
    · intro w' hSw; obtain ⟨s1, s2, s3⟩ := hSw; go_simp; (try with_reducible rfl)
    simp only [Act.put, List.getElem_toArray, List.getElem_cons_succ, List.getElem_cons_zero, List.setIfInBounds_toArray, List.set_cons_zero, List.set_cons_succ]
    refine wpAnyH_take (i := 1) (v := ?_) rfl (by kernel_rfl) (by kernel_rfl) (by kernel_rfl) (fun _ _ _ h => h) (Or.inl ⟨by rfl, ?_⟩) (by assumption) ?_
    rotate_left
    · intro w' hSw; obtain ⟨s1, s2, s3⟩ := hSw; go_simp; (try with_reducible rfl)
    simp only [Act.put, List.getElem_toArray, List.getElem_cons_succ, List.getElem_cons_zero, List.setIfInBounds_toArray, List.set_cons_zero, List.set_cons_succ]
    refine wpAnyH_take (i := 2) (v := ?_) rfl (by kernel_rfl) (by kernel_rfl) (by kernel_rfl) (fun _ _ _ h => h) (Or.inl ⟨by rfl, ?_⟩) (by assumption) ?_
    rotate_left
    · intro w' hSw; obtain ⟨s1, s2, s3⟩ := hSw; go_simp; (try with_reducible rfl)
    simp only [Act.put, List.getElem_toArray, List.getElem_cons_succ, List.getElem_cons_zero, List.setIfInBounds_toArray, List.set_cons_zero, List.set_cons_succ]
    refine wpAnyH_take (i := 3) (v := ?_) rfl (by kernel_rfl) (by kernel_rfl) (by kernel_rfl) (fun _ _ _ h => h) (Or.inl ⟨by rfl, ?_⟩) (by assumption) ?_
    rotate_left
    · intro w' hSw; obtain ⟨s1, s2, s3⟩ := hSw; go_simp; (try with_reducible rfl)
    simp only [Act.put, List.getElem_toArray, List.getElem_cons_succ, List.getElem_cons_zero, List.setIfInBounds_toArray, List.set_cons_zero, List.set_cons_succ]
    refine wpAnyH_take (i := 4) (v := ?_) rfl (by kernel_rfl) (by kernel_rfl) (by kernel_rfl) (fun _ _ _ h => h) (Or.inl ⟨by rfl, ?_⟩) (by assumption) ?_
    rotate_left
    · intro w' hSw; obtain ⟨s1, s2, s3⟩ := hSw; go_simp; (try with_reducible rfl)
    simp only [Act.put, List.getElem_toArray, List.getElem_cons_succ, List.getElem_cons_zero, List.setIfInBounds_toArray, List.set_cons_zero, List.set_cons_succ]
    refine wpAnyH_take (i := 5) (v := ?_) rfl (by kernel_rfl) (by kernel_rfl) (by kernel_rfl) (fun _ _ _ h => h) (Or.inl ⟨by rfl, ?_⟩) (by assumption) ?_
    rotate_left
    · intro w' hSw; obtain ⟨s1, s2, s3⟩ := hSw; go_simp; (try with_reducible rfl)
    simp only [Act.put, List.getElem_toArray, List.getElem_cons_succ, List.getElem_cons_zero, List.setIfInBounds_toArray, List.set_cons_zero, List.set_cons_succ]
    refine wpAnyH_take (i := 7) (v := ?_) rfl (by kernel_rfl) (by kernel_rfl) (by kernel_rfl) (fun _ _ _ h => h) (Or.inl ⟨by rfl, ?_⟩) (by assumption) ?_
    rotate_left
    · intro w' hSw; obtain ⟨s1, s2, s3⟩ := hSw; go_simp; (try with_reducible rfl)
    simp only [Act.put, List.getElem_toArray, List.getElem_cons_succ, List.getElem_cons_zero, List.setIfInBounds_toArray, List.set_cons_zero, List.set_cons_succ]
    refine wpAnyH_take (i := 8) (v := ?_) rfl (by kernel_rfl) (by kernel_rfl) (by kernel_rfl) (fun _ _ _ h => h) (Or.inl ⟨by rfl, ?_⟩) (by assumption) ?_
    rotate_left
    · intro w' hSw; obtain ⟨s1, s2, s3⟩ := hSw; go_simp; (try with_reducible rfl)
    simp only [Act.put, List.getElem_toArray, List.getElem_cons_succ, List.getElem_cons_zero, List.setIfInBounds_toArray, List.set_cons_zero, List.set_cons_succ]
    refine wpAnyH_take (i := 9) (v := ?_) rfl (by kernel_rfl) (by kernel_rfl) (by kernel_rfl) (fun _ _ _ h => h) (Or.inl ⟨by rfl, ?_⟩) (by assumption) ?_
    rotate_left
    · intro w' hSw; obtain ⟨s1, s2, s3⟩ := hSw; go_simp; (try with_reducible rfl)
    simp only [Act.put, List.getElem_toArray, List.getElem_cons_succ, List.getElem_cons_zero, List.setIfInBounds_toArray, List.set_cons_zero, List.set_cons_succ]
    refine wpAnyH_take (i := 10) (v := ?_) rfl (by kernel_rfl) (by kernel_rfl) (by kernel_rfl) (fun _ _ _ h => h) (Or.inl ⟨by rfl, ?_⟩) (by assumption) ?_
    rotate_left
    · intro w' hSw; obtain ⟨s1, s2, s3⟩ := hSw; go_simp; (try with_reducible rfl)
    simp only [Act.put, List.getElem_toArray, List.getElem_cons_succ, List.getElem_cons_zero, List.setIfInBounds_toArray, List.set_cons_zero, List.set_cons_succ]
    refine wpAnyH_ready (rs := [6]) (by kernel_rfl) (by simp) ?_
    refine AllReadyH.cons rfl (fun K hK => ?_) AllReadyH.nil
    go_simp
    go_at_call 21
    refine (object_spec X0 M.id chunksB (by omega) (by decide)).mono ?_
    rintro e w3 ⟨rfl, rfl⟩
    go_simp
    refine hK.out _ _ ⟨e1, e2, e3⟩ (fun hS => ?_)
    clear hK K
    try simp only [Act.put, List.getElem_toArray, List.getElem_cons_succ, List.getElem_cons_zero, List.setIfInBounds_toArray, List.set_cons_zero, List.set_cons_succ]
    refine wpAnyH_ready (rs := [11]) (by kernel_rfl) (by simp) ?_
    refine AllReadyH.cons rfl (fun K hK => ?_) AllReadyH.nil
    go_simp
    go_at_call 38
    refine (range_spec X0 b f c mb armed Q o HX.out.2.2.2.2 (objectB M.id chunksB) fo n (by have := HR.out.2.2.2.2.1; omega) (by have := HR.out.2.2.2.2.1; omega) H.out.2.2.2.2.2.2.2.2.1).mono ?_
    rintro e w4 ⟨rfl, hb4, hk4⟩
    rw [H.out.2.2.2.2.2.2.2.2.2.1]
    have hXb : BucketAt X0 b f c mb armed Q o := HX.out.2.2.2.2
    have n4 := hk4.at_ HX.out.2.2.1 (by simp; exact ⟨H1.out.2.2.2.2.1, H1.out.2.2.2.2.2.1⟩)
    have p4 := hk4.at_ HX.out.2.2.2.1 (by simp; exact ⟨H.out.2.2.2.2.2.2.1.1, H.out.2.2.2.2.2.2.1.2.1⟩)
    have hk0X := H1.out.2.1.trans HX.out.2.1
    have hk04 : Keeps [f, c] w w4 := (hk0X.mono (by simp) : Keeps [f, c] w X0).trans hk4
    have hOn4 : FetOn w4 p Y M vf vo fr up vm PR k := (HOn.out.kp hk0X).bk hXb hk4 ⟨H.out.2.2.2.2.2.2.1.1, H.out.2.2.2.2.2.2.1.2.1⟩
    have hin4 := hk4.row (hk0X.row H.out.2.2.2.2.2.2.2.2.2.2 (by simp)) (bucket_row hXb (hk0X.row H.out.2.2.2.2.2.2.2.2.2.2 (by simp)) (by decide))
    have hE4 : EntrAt Y w4 _ E := (H.out.2.1.keep hk0X).bk hXb hk4
    have hT4 := (H.out.2.2.2.1.keep hk0X).bk hXb hk4
    have H4 := Lib.hid (And.intro hb4 (And.intro n4 (And.intro p4 (And.intro hk04 (And.intro hOn4 (And.intro hin4 (And.intro hE4 hT4)))))))
    have t1 : w4.cell? ⟨p, 0, none⟩ = some (.string M.id) := by rw [cells_at p4]; rfl
    have t2 : w4.cell? ⟨q, 1, none⟩ = some (.int .i64 (fo : Nat)) := by rw [cells_at n4]; rfl
    have t3 : w4.cell? ⟨q, 2, none⟩ = some (.int .i64 (n : Nat)) := by rw [cells_at n4]; rfl
    clear hb4 hk4 n4 p4 hk04 e1 e2 e3 hXb hk0X hOn4 hin4 hE4 hT4
    obtain ⟨rs, re⟩ := r
    dsimp only at hrr
    go_simp
    refine hK.out _ _ ⟨t1, t2, t3⟩ (fun hS => ?_)
    clear hK K
    try simp only [Act.put, List.getElem_toArray, List.getElem_cons_succ, List.getElem_cons_zero, List.setIfInBounds_toArray, List.set_cons_zero, List.set_cons_succ]
    refine wpAnyH_take (i := 12) (v := ?_) rfl (by kernel_rfl) (by kernel_rfl) (by kernel_rfl) (fun _ _ _ h => h) (Or.inl ⟨by rfl, ?_⟩) (by assumption) ?_
    rotate_left
    · intro w' hSw; obtain ⟨s1, s2, s3⟩ := hSw; go_simp; (try with_reducible rfl)
    simp only [Act.put, List.getElem_toArray, List.getElem_cons_succ, List.getElem_cons_zero, List.setIfInBounds_toArray, List.set_cons_zero, List.set_cons_succ]
    refine wpAnyH_take (i := 13) (v := ?_) rfl (by kernel_rfl) (by kernel_rfl) (by kernel_rfl) (fun _ _ _ h => h) (Or.inl ⟨by rfl, ?_⟩) (by assumption) ?_
    rotate_left
    · intro w' hSw; obtain ⟨s1, s2, s3⟩ := hSw; go_simp; (try with_reducible rfl)
    simp only [Act.put, List.getElem_toArray, List.getElem_cons_succ, List.getElem_cons_zero, List.setIfInBounds_toArray, List.set_cons_zero, List.set_cons_succ]
    refine wpAnyH_take (i := 14) (v := ?_) rfl (by kernel_rfl) (by kernel_rfl) (by kernel_rfl) (fun _ _ _ h => h) (Or.inl ⟨by rfl, ?_⟩) (by assumption) ?_
    rotate_left
    · intro w' hSw; obtain ⟨s1, s2, s3⟩ := hSw; go_simp; (try with_reducible rfl)
    simp only [Act.put, List.getElem_toArray, List.getElem_cons_succ, List.getElem_cons_zero, List.setIfInBounds_toArray, List.set_cons_zero, List.set_cons_succ]
    refine wpAnyH_ready (rs := [15]) (by kernel_rfl) (by simp) ?_
    refine AllReadyH.cons rfl (fun K hK => ?_) AllReadyH.nil
    go_simp
    go_simp
    refine hK.out _ _ ⟨t1, t2, t3⟩ (fun hS => ?_)
    clear hK K
    try simp only [Act.put, List.getElem_toArray, List.getElem_cons_succ, List.getElem_cons_zero, List.setIfInBounds_toArray, List.set_cons_zero, List.set_cons_succ]
    refine wpAnyH_ready (rs := [16]) (by kernel_rfl) (by simp) ?_
    refine AllReadyH.cons rfl (fun K hK => ?_) AllReadyH.nil
    go_simp
    go_simp
    refine hK.out _ _ ⟨t1, t2, t3⟩ (fun hS => ?_)
    clear hK K
    try simp only [Act.put, List.getElem_toArray, List.getElem_cons_succ, List.getElem_cons_zero, List.setIfInBounds_toArray, List.set_cons_zero, List.set_cons_succ]
    refine wpAnyH_done (by kernel_rfl) ?_ _
    clear hS t1 t2 t3
    have hkS : ∃ S, (∀ x ∈ S, x = f ∨ x = c ∨ x = p ∨ Y ≤ x) ∧ Keeps S w w4 := ⟨[f, c], fun x hx => by simp at hx; rcases hx with h | h <;> simp [h], H4.out.2.2.2.1⟩
    have HkS := Lib.hid hkS
    clear hkS
    rcases hrr with rfl | rfl | hrr
    · go_wp2_with fail
      refine (lost_spec w4 8 (.inl rfl)).mono ?_
      rintro e w5 ⟨rfl, rfl⟩
      rw [if_neg (by decide)]
      go_wp2_with fail
      go_ret
      exact ⟨H4.out.1, HkS.out, .inl ⟨rfl, rfl, H4.out.2.2.2.2.1⟩⟩
    · go_wp2_with fail
      refine (lost_spec w4 5 (.inr rfl)).mono ?_
      rintro e w5 ⟨rfl, rfl⟩
      rw [if_pos rfl]
      go_wp2_with fail
      go_ret
      exact ⟨H4.out.1, HkS.out, .inr (.inl ⟨rfl, rfl, H4.out.2.2.2.2.1⟩)⟩
    · injection hrr with e1 e2
      have He1 := Lib.hid e1
      clear e1
      subst e2
      have hXv := H.out.2.2.2.2.1 w4 (H4.out.2.2.2.1.mono (by simp : ∀ x ∈ [f, c], x ∈ [f, c, p]))
      have Hck := Lib.hid (chunksR_spec w4 hXv rs L (by rw [He1.out]) HR.out.2.1 ⟨HR.out.2.2.1.1, by have := HR.out.2.2.1.2; omega⟩)
      clear hXv
      go_wp2_with fail
      refine Hck.out.mono ?_
      rintro e w5 ⟨v5, rfl, hr5, hk5⟩
      obtain ⟨g5, c5, rfl⟩ := row_some hr5 HR.out.2.2.1.1
      have hnr : n = rs.size := by rw [HR.out.2.2.2.2.1.2.2, He1.out]; rfl
      subst hnr
      obtain ⟨ba, oa, ea, hba, da, -⟩ := smp_at hr5 0 HR.out.2.2.1.1
      injection ea with ea
      injection ea with ea1 ea2 _
      subst ea1 ea2
      obtain ⟨N1, hN1⟩ : ∃ N1, L.length = N1 + 1 := ⟨L.length - 1, by have := HR.out.2.2.1.1; omega⟩
      obtain ⟨bz, oz, ez, -, dz, -⟩ := smp_at hr5 N1 (by omega)
      injection ez with ez
      injection ez with ez1 ez2 _
      subst ez1 ez2
      have hL0 : L[0]'HR.out.2.2.1.1 = L[0]'HR.out.2.2.1.1 := rfl
      have em : (L[0]'HR.out.2.2.1.1).1 = (mn : Int) := by
        have := HR.out.2.2.2.2.2.1
        rw [List.getElem?_eq_getElem HR.out.2.2.1.1, Option.map_some] at this
        exact Option.some.inj this
      have ex : (L[N1]'(by omega)).1 = (mx : Int) := by
        have := HR.out.2.2.2.2.2.2.1
        rw [show L.length - 1 = N1 by omega, List.getElem?_eq_getElem (by omega), Option.map_some] at this
        exact Option.some.inj this
      rw [em, Nat.zero_add, Nat.zero_mul] at da
      rw [ex, Nat.zero_add] at dz
      have n5 := hk5.at_ H4.out.2.1 (by simp)
      have p5 := hk5.at_ H4.out.2.2.1 (by simp)
      have H5 := Lib.hid (And.intro n5 (And.intro p5 (And.intro (H4.out.1.keep hk5 (by simp) (by simp) (by simp) (by simp)) (And.intro hr5 (And.intro (hk5.row H4.out.2.2.2.2.2.1 (by simp)) (And.intro (H4.out.2.2.2.2.2.2.1.keep hk5) (And.intro (H4.out.2.2.2.2.2.2.2.keep hk5) (H4.out.2.2.2.1.trans (hk5.mono (by simp))))))))))
      obtain ⟨Ln, hLn⟩ : ∃ Ln, Ln = L.length := ⟨_, rfl⟩
      rw [← hLn] at hN1 ⊢
      have hlz : ¬ (Ln : Int) = 0 := by omega
      have hlzb : ((Ln : Int) == 0) = false := by rw [beq_eq_false_iff_ne]; exact hlz
      have hl0 : (0 : Int) < (Ln : Int) := by omega
      have hl1 : (Ln : Int) - 1 = (N1 : Int) := by omega
      have hl2 := IntWalk.i64_in (N1 : Int) (by have := HR.out.2.2.1.2; omega)
      have hl3 : (N1 : Int) < (Ln : Int) := by omega
      have HLn := Lib.hid hLn
      have cq := cells_at n5
      have lq := lt_of_at n5
      clear hr5 hk5 n5 p5 hN1 hLn hL0 em ex
      go_upto_region 12 with fail
      go_quiet (fail)
      obtain ⟨w6, hw6⟩ : ∃ w6, w6 = w5.drewN nq := ⟨_, rfl⟩
      rw [← hw6]
      have k6 : Keeps [] w5 w6 := by rw [hw6]; exact (Keeps.refl [] _).drewN _
      have n6 := k6.at_ H5.out.1 (by simp)
      have p6 := k6.at_ H5.out.2.1 (by simp)
      have H6 := Lib.hid (And.intro n6 (And.intro p6 (And.intro (H5.out.2.2.1.keep k6 (by simp) (by simp) (by simp) (by simp)) (And.intro (k6.row H5.out.2.2.2.1 (by simp)) (And.intro (k6.row H5.out.2.2.2.2.1 (by simp)) (And.intro (H5.out.2.2.2.2.2.1.keep k6) (And.intro (H5.out.2.2.2.2.2.2.1.keep k6) (H5.out.2.2.2.2.2.2.2.trans (k6.mono (by simp))))))))))
      clear hw6 k6 cq lq da dz hba hl1 hl2 hl3 n6
      have cp := cells_at p6
      have fp := free_at p6
      have lp := lt_of_at p6
      clear p6
      obtain ⟨cw, hcw⟩ : ∃ cw, cw = cv - k := ⟨_, rfl⟩
      rw [← hcw] at cp
      have hcm : m ≤ cw := by have := HR.out.2.2.2.2.2.2.2; omega
      have hcm1 : (1 : Int) ≤ (m : Int) := by omega
      go_upto_region 15 with fail
      rw [← hcw]
      have Hcw := Lib.hid (And.intro hcw hcm)
      clear hcw hcm hcm1
      obtain ⟨al, hal⟩ : ∃ al : Option Addr, al = (if cw = 1 then some ⟨g, k * 5, none⟩ else some ⟨g, k * 5 + 5, none⟩) := ⟨_, rfl⟩
      rw [← hal]
      obtain ⟨vl2, hvl2⟩ : ∃ vl2, vl2 = Value.slice al (m - 1) (cw - 1) := ⟨_, rfl⟩
      rw [← hvl2]
      have HL2 := Lib.hid (And.intro hal hvl2)
      clear hal hvl2
      have n7 : (w6.setCell ⟨p, 12, none⟩ vl2).heap[p]? = some (.cells #[.string M.id, .int .i64 (M.mn : Nat), .int .i64 (M.mx : Nat), .int .i64 (M.level : Nat), .int .i64 (M.series : Nat), .int .i64 (M.samples : Nat), vf, vo, .int .i64 fr, .int .i64 up, vm, .bool true, vl2, vr] 99 (0, 0)) := by
        have h1 := heap_cell_same (i := 12) H6.out.2.1 vl2
        simpa using h1
      have k7 : Keeps [p] w6 (w6.setCell ⟨p, 12, none⟩ vl2) := (Keeps.refl _ w6).setCell (.inl (by simp)) _
      generalize w6.setCell ⟨p, 12, none⟩ vl2 = w7 at n7 k7 ⊢
      have hpb := H.out.2.2.2.2.2.2.1
      have q7 := k7.at_ H6.out.1 (by simp; exact H1.out.2.2.2.2.2.2)
      obtain ⟨E7, hE71, hE72⟩ := H6.out.2.2.2.2.2.2.1
      have hE7k : w7.ownsRow Y 108 2 vr E7.length (E7.flatMap encRV) := k7.row hE71 (fun x hx hm => row_ne_type hE71 H6.out.2.1 (by decide) x hx (by simpa using hm))
      have H7 := Lib.hid (And.intro q7 (And.intro n7 (And.intro (H6.out.2.2.1.keep k7 (by simp; exact Ne.symm hpb.2.2.1) (by simp; exact Ne.symm hpb.1) (by simp; exact Ne.symm hpb.2.1) (by simp; exact Ne.symm hpb.2.2.2)) (And.intro (k7.row H6.out.2.2.2.1 (fun x hx hm => row_ne_type H6.out.2.2.2.1 H6.out.2.1 (by decide) x hx (by simpa using hm))) (And.intro (k7.row H6.out.2.2.2.2.1 (fun x hx hm => row_ne_type H6.out.2.2.2.2.1 H6.out.2.1 (by decide) x hx (by simpa using hm))) (And.intro (H6.out.2.2.2.2.2.1.pt H6.out.2.1 (by decide) (by decide) k7) (And.intro hE7k (And.intro (hE72.pt H6.out.2.1 (by decide) (by decide) k7) k7))))))))
      have hE7l : E7.length ≤ 50 := by have := hE72.1; rw [List.length_map, List.length_take] at this; omega
      obtain ⟨ar, cr, rfl, -, -, -⟩ := row_slice hE71
      clear cp fp lp n7 k7 hpb q7 hE71 hE72 hE7k
      obtain ⟨ir, hir, hy0, hy1, hy2⟩ := info_parts infoRowM
      obtain ⟨X7, hX7⟩ : ∃ X7, X7 = w7.drew := ⟨_, rfl⟩
      have kX7 : Keeps [] w7 X7 := by rw [hX7]; exact (Keeps.refl [] _).drew
      have nX7 := kX7.at_ H7.out.1 (by simp)
      have pX7 := kX7.at_ H7.out.2.1 (by simp)
      have s1 : X7.cell? ⟨p, 13, none⟩ = some (.slice ar E7.length cr) := by rw [cells_at pX7]; rfl
      have s2 : X7.cell? ⟨q, 0, none⟩ = some (.slice xa P.length xc) := by rw [cells_at nX7]; rfl
      have HX7 := Lib.hid (And.intro hX7 (And.intro kX7 (And.intro nX7 pX7)))
      clear hX7 kX7 nX7 pX7
      refine wp_region_last_n 13 (fun w' => w'.cell? ⟨p, 13, none⟩ = some (.slice ar E7.length cr) ∧ w'.cell? ⟨q, 0, none⟩ = some (.slice xa P.length xc)) (by kernel_rfl) (by kernel_rfl) (by kernel_rfl) ?_
      have hS : (fun w' : World => w'.cell? ⟨p, 13, none⟩ = some (.slice ar E7.length cr) ∧ w'.cell? ⟨q, 0, none⟩ = some (.slice xa P.length xc)) X7 := ⟨s1, s2⟩
      rw [← HX7.out.1]
      simp only [List.take_succ_cons, List.take_zero]
      refine wpAnyH_take (i := 0) (v := ?_) rfl (by kernel_rfl) (by kernel_rfl) (by kernel_rfl) (fun _ _ _ h => h) (Or.inl ⟨by rfl, ?_⟩) (by assumption) ?_
      rotate_left
      · intro w' hSw; obtain ⟨s1, s2⟩ := hSw; go_simp; (try with_reducible rfl)
      simp only [Act.put, List.getElem_toArray, List.getElem_cons_succ, List.getElem_cons_zero, List.setIfInBounds_toArray, List.set_cons_zero, List.set_cons_succ]
      refine wpAnyH_take (i := 1) (v := ?_) rfl (by kernel_rfl) (by kernel_rfl) (by kernel_rfl) (fun _ _ _ h => h) (Or.inl ⟨by rfl, ?_⟩) (by assumption) ?_
      rotate_left
      · intro w' hSw; obtain ⟨s1, s2⟩ := hSw; go_simp; (try with_reducible rfl)
      simp only [Act.put, List.getElem_toArray, List.getElem_cons_succ, List.getElem_cons_zero, List.setIfInBounds_toArray, List.set_cons_zero, List.set_cons_succ]
      refine wpAnyH_take (i := 2) (v := ?_) rfl (by kernel_rfl) (by kernel_rfl) (by kernel_rfl) (fun _ _ _ h => h) (Or.inl ⟨by rfl, ?_⟩) (by assumption) ?_
      rotate_left
      · intro w' hSw; obtain ⟨s1, s2⟩ := hSw; go_simp; (try with_reducible rfl)
      simp only [Act.put, List.getElem_toArray, List.getElem_cons_succ, List.getElem_cons_zero, List.setIfInBounds_toArray, List.set_cons_zero, List.set_cons_succ]
      refine wpAnyH_take (i := 3) (v := ?_) rfl (by kernel_rfl) (by kernel_rfl) (by kernel_rfl) (fun _ _ _ h => h) (Or.inl ⟨by rfl, ?_⟩) (by assumption) ?_
      rotate_left
      · intro w' hSw; obtain ⟨s1, s2⟩ := hSw; go_simp; (try with_reducible rfl)
      simp only [Act.put, List.getElem_toArray, List.getElem_cons_succ, List.getElem_cons_zero, List.setIfInBounds_toArray, List.set_cons_zero, List.set_cons_succ]
      refine wpAnyH_take (i := 4) (v := ?_) rfl (by kernel_rfl) (by kernel_rfl) (by kernel_rfl) (fun _ _ _ h => h) (Or.inl ⟨by rfl, ?_⟩) (by assumption) ?_
      rotate_left
      · intro w' hSw; obtain ⟨s1, s2⟩ := hSw; go_simp; (try with_reducible rfl)
      simp only [Act.put, List.getElem_toArray, List.getElem_cons_succ, List.getElem_cons_zero, List.setIfInBounds_toArray, List.set_cons_zero, List.set_cons_succ]
      refine wpAnyH_take (i := 5) (v := ?_) rfl (by kernel_rfl) (by kernel_rfl) (by kernel_rfl) (fun _ _ _ h => h) (Or.inl ⟨by rfl, ?_⟩) (by assumption) ?_
      rotate_left
      · intro w' hSw; obtain ⟨s1, s2⟩ := hSw; go_simp; (try with_reducible rfl)
      simp only [Act.put, List.getElem_toArray, List.getElem_cons_succ, List.getElem_cons_zero, List.setIfInBounds_toArray, List.set_cons_zero, List.set_cons_succ]
      refine wpAnyH_take (i := 6) (v := ?_) rfl (by kernel_rfl) (by kernel_rfl) (by kernel_rfl) (fun _ _ _ h => h) (Or.inl ⟨by rfl, ?_⟩) (by assumption) ?_
      rotate_left
      · intro w' hSw; obtain ⟨s1, s2⟩ := hSw; go_simp; (try with_reducible rfl)
      simp only [Act.put, List.getElem_toArray, List.getElem_cons_succ, List.getElem_cons_zero, List.setIfInBounds_toArray, List.set_cons_zero, List.set_cons_succ]
      refine wpAnyH_take (i := 7) (v := ?_) rfl (by kernel_rfl) (by kernel_rfl) (by kernel_rfl) (fun _ _ _ h => h) (Or.inl ⟨by rfl, ?_⟩) (by assumption) ?_
      rotate_left
      · intro w' hSw; obtain ⟨s1, s2⟩ := hSw; go_simp; (try with_reducible rfl)
      simp only [Act.put, List.getElem_toArray, List.getElem_cons_succ, List.getElem_cons_zero, List.setIfInBounds_toArray, List.set_cons_zero, List.set_cons_succ]
      refine wpAnyH_take (i := 8) (v := ?_) rfl (by kernel_rfl) (by kernel_rfl) (by kernel_rfl) (fun _ _ _ h => h) (Or.inl ⟨by rfl, ?_⟩) (by assumption) ?_
      rotate_left
      · intro w' hSw; obtain ⟨s1, s2⟩ := hSw; go_simp; (try with_reducible rfl)
      simp only [Act.put, List.getElem_toArray, List.getElem_cons_succ, List.getElem_cons_zero, List.setIfInBounds_toArray, List.set_cons_zero, List.set_cons_succ]
      refine wpAnyH_ready (rs := [9]) (by kernel_rfl) (by simp) ?_
      refine AllReadyH.cons rfl (fun K hK => ?_) AllReadyH.nil
      go_simp
      have kB : Keeps [] X7 (X7.alloc (.cells #[.slice xa P.length xc, .slice (some ⟨g5, 0, none⟩) Ln c5] 108)) := (Keeps.refl [] _).alloc _
      have nB := heap_new X7 (.cells #[.slice xa P.length xc, .slice (some ⟨g5, 0, none⟩) Ln c5] 108)
      generalize X7.alloc (.cells #[.slice xa P.length xc, .slice (some ⟨g5, 0, none⟩) Ln c5] 108) = B1 at kB nB ⊢
      have k7B := HX7.out.2.1.trans kB
      have hownB := k7B.row H7.out.2.2.2.2.2.2.1 (by simp)
      have nqB := k7B.at_ H7.out.1 (by simp)
      have npB := k7B.at_ H7.out.2.1 (by simp)
      have z1 : B1.cell? ⟨p, 13, none⟩ = some (.slice ar E7.length cr) := by rw [cells_at npB]; rfl
      have z2 : B1.cell? ⟨q, 0, none⟩ = some (.slice xa P.length xc) := by rw [cells_at nqB]; rfl
      have HB := Lib.hid (And.intro k7B (And.intro nB (And.intro hownB (And.intro nqB npB))))
      clear kB nB k7B hownB nqB npB
      refine hK.out _ _ ⟨z1, z2⟩ (fun hS => ?_)
      clear hK K
      try simp only [Act.put, List.getElem_toArray, List.getElem_cons_succ, List.getElem_cons_zero, List.setIfInBounds_toArray, List.set_cons_zero, List.set_cons_succ]
      refine wpAnyH_ready (rs := [10]) (by kernel_rfl) (by simp) ?_
      refine AllReadyH.cons rfl (fun K hK => ?_) AllReadyH.nil
      refine step_append_own rfl (.tmp 99) (.tmp 104) 25 rfl Y 108 ir _ 2 48 Tryz.underlying25 hir hy0 hy1 hy2 rfl (by decide) (.slice ar E7.length cr) E7.length (E7.flatMap encRV) (by rfl) HB.out.2.2.1 ⟨X7.heap.size, 0, none⟩ 1 1 [.slice xa P.length xc, .slice (some ⟨g5, 0, none⟩) Ln c5] (by rfl) rfl (news_of HB.out.2.1) (by simp [Value.oneCell']) (by simp only [maxLen]; omega) (by omega) (by have a1 := H6.out.2.2.2.2.2.2.2.size; have a2 := H7.out.2.2.2.2.2.2.2.2.size; have a3 := HB.out.1.size; omega) ?_
      intro v8 w8 hown8 hgrow8
      have k8 := keeps_rowM hgrow8
      have hYB : ∀ x, (Value.slice ar E7.length cr).ownBlock = some x → Y ≤ x := fun x hx => (World.ownsRow.lt HB.out.2.2.1 x hx).1
      have p8 := k8.at_ HB.out.2.2.2.2 (fun hm => row_ne_type HB.out.2.2.1 HB.out.2.2.2.2 (by decide) p (by simpa using hm) rfl)
      have q8 := k8.at_ HB.out.2.2.2.1 (fun hm => row_ne_type HB.out.2.2.1 HB.out.2.2.2.1 (by decide) q (by simpa using hm) rfl)
      have hsm : B1.ownsRow 0 74 2 (.slice (some ⟨g5, 0, none⟩) Ln c5) L.length (L.flatMap encSm) := by
        rw [HLn.out]
        exact row_base (HB.out.1.row H7.out.2.2.2.1 (by simp)) (Nat.zero_le _)
      have hel := ((ElemsAt.keep H7.out.2.2.2.2.2.2.2.1 HB.out.1).snoc (r := (P, L)) (HB.out.1.row H7.out.2.2.2.2.1 (by simp)) hsm).grown HB.out.2.2.1 k8 (by decide) (by decide)
      have hE8 : EntrAt Y w8 (.slice (some ⟨g, 0, none⟩) PR.length cv) E := by
        have h1 := H7.out.2.2.2.2.2.1.keep HB.out.1
        exact ⟨k8.row h1.1 (rows_ne2 HB.out.2.2.1 h1.1 (by decide)), fun e he => k8.row (h1.2 e he) (rows_ne2 HB.out.2.2.1 (h1.2 e he) (by decide))⟩
      have hb8 : BucketAt w8 b f c mb (tryArmed Q) (tryQ Q) o := (H7.out.2.2.1.keep HB.out.1 (by simp) (by simp) (by simp) (by simp)).keep k8 (fun hm => by have := hYB b (by simpa using hm); omega) (fun hm => by have := hYB f (by simpa using hm); omega) (fun hm => by have := hYB c (by simpa using hm); omega) (fun hm => by have := hYB mb (by simpa using hm); omega)
      obtain ⟨a8, c8, hv8, -, -, -⟩ := row_slice hown8
      have H8 := Lib.hid (And.intro p8 (And.intro (rv_snoc hown8) (And.intro hel (And.intro hE8 (And.intro hb8 (And.intro k8 hYB))))))
      have y1 : w8.cell? ⟨p, 13, none⟩ = some (.slice ar E7.length cr) := by rw [cells_at p8]; rfl
      have y2 : w8.cell? ⟨q, 0, none⟩ = some (.slice xa P.length xc) := by rw [cells_at q8]; rfl
      have cp := cells_at p8
      have fp := free_at p8
      have lp := lt_of_at p8
      subst hv8
      clear hown8 hgrow8 k8 hYB p8 q8 hel hE8 hb8
      go_simp
      refine hK.out _ _ ⟨y1, y2⟩ (fun hS => ?_)
      clear hK K
      try simp only [Act.put, List.getElem_toArray, List.getElem_cons_succ, List.getElem_cons_zero, List.setIfInBounds_toArray, List.set_cons_zero, List.set_cons_succ]
      refine wpAnyH_take (i := 11) (v := ?_) rfl (by kernel_rfl) (by kernel_rfl) (by kernel_rfl) (fun _ _ _ h => h) (Or.inl ⟨by rfl, ?_⟩) (by assumption) ?_
      rotate_left
      · intro w' hSw; obtain ⟨s1, s2⟩ := hSw; go_simp; (try with_reducible rfl)
      simp only [Act.put, List.getElem_toArray, List.getElem_cons_succ, List.getElem_cons_zero, List.setIfInBounds_toArray, List.set_cons_zero, List.set_cons_succ]
      refine wpAnyH_take (i := 12) (v := ?_) rfl (by kernel_rfl) (by kernel_rfl) (by kernel_rfl) (fun _ _ _ h => h) (Or.inl ⟨by rfl, ?_⟩) (by assumption) ?_
      rotate_left
      · intro w' hSw; obtain ⟨s1, s2⟩ := hSw; go_simp; (try with_reducible rfl)
      simp only [Act.put, List.getElem_toArray, List.getElem_cons_succ, List.getElem_cons_zero, List.setIfInBounds_toArray, List.set_cons_zero, List.set_cons_succ]
      refine wpAnyH_done (by kernel_rfl) ?_ _
      refine lastQ_step rfl (fun K hK => ?_)
      go_simp
      refine hK _ _ ?_
      clear hK K
      have n9 : (w8.setCell ⟨p, 13, none⟩ (.slice a8 (E7.length + 1) c8)).heap[p]? = some (.cells #[.string M.id, .int .i64 (M.mn : Nat), .int .i64 (M.mx : Nat), .int .i64 (M.level : Nat), .int .i64 (M.series : Nat), .int .i64 (M.samples : Nat), vf, vo, .int .i64 fr, .int .i64 up, vm, .bool true, vl2, .slice a8 (E7.length + 1) c8] 99 (0, 0)) := by
        have h1 := heap_cell_same (i := 13) H8.out.1 (.slice a8 (E7.length + 1) c8)
        simpa using h1
      have k9 : Keeps [p] w8 (w8.setCell ⟨p, 13, none⟩ (.slice a8 (E7.length + 1) c8)) := (Keeps.refl _ w8).setCell (.inl (by simp)) _
      generalize w8.setCell ⟨p, 13, none⟩ (.slice a8 (E7.length + 1) c8) = w9 at n9 k9 ⊢
      clear cp fp lp y1 y2 z1 z2 s1 s2
      go_wp2_with fail
      go_ret
      have hpb := H.out.2.2.2.2.2.2.1
      have hP8 := H8.out.1
      refine ⟨H8.out.2.2.2.2.1.keep k9 (by simp; exact Ne.symm hpb.2.2.1) (by simp; exact Ne.symm hpb.1) (by simp; exact Ne.symm hpb.2.1) (by simp; exact Ne.symm hpb.2.2.2), ?_, .inr (.inr ⟨rfl, rfl, ⟨⟨_, E, vl2, _, n9, H8.out.2.2.2.1.pt hP8 (by decide) (by decide) k9, H.out.2.2.1, ?_, ?_⟩, hk⟩⟩)⟩
      · refine ⟨[f, c] ++ ([p] ++ ((Value.slice ar E7.length cr).ownBlock.toList ++ [p])), fun y hy => ?_, ?_⟩
        · simp only [List.mem_append, List.mem_cons, List.not_mem_nil, or_false] at hy
          rcases hy with (hy | hy) | hy | hy | hy
          · exact .inl hy
          · exact .inr (.inl hy)
          · exact .inr (.inr (.inl hy))
          · exact .inr (.inr (.inr (H8.out.2.2.2.2.2.2 y (by simpa using hy))))
          · exact .inr (.inr (.inl hy))
        · refine (H6.out.2.2.2.2.2.2.2.mono (fun y hy => List.mem_append_left _ hy)).trans ((H7.out.2.2.2.2.2.2.2.2.mono (fun y hy => List.mem_append_right _ (List.mem_append_left _ hy))).trans ((HB.out.1.mono (by simp)).trans ((H8.out.2.2.2.2.2.1.mono (fun y hy => List.mem_append_right _ (List.mem_append_right _ (List.mem_append_left _ hy)))).trans (k9.mono (fun y hy => List.mem_append_right _ (List.mem_append_right _ (List.mem_append_right _ hy)))))))
      · have hm2 := HR.out.2.2.2.2.2.2.2.1
        have hcv := HR.out.2.2.2.2.2.2.2.2.2.2
        have hcw := Hcw.out.1
        rw [HL2.out.2]
        by_cases hlast : k + 1 < PR.length
        · refine .inl ⟨g, cv, rfl, hlast, hcv, ?_⟩
          rw [HL2.out.1, if_neg (by omega), show k * 5 + 5 = (k + 1) * 5 by omega, show m - 1 = PR.length - (k + 1) by omega, show cw - 1 = cv - (k + 1) by omega]
        · exact .inr ⟨by omega, al, cw - 1, by rw [show m - 1 = 0 by omega]⟩
      · have htk : (PR.take (k + 1)).map (·.2) = (PR.take k).map (·.2) ++ [(P, L)] := by
          rw [take_push hk, List.map_append, ← HR.out.1]
          rfl
        rw [htk]
        refine ⟨E7 ++ [(.slice xa P.length xc, .slice (some ⟨g5, 0, none⟩) Ln c5)], ?_, H8.out.2.2.1.pt hP8 (by decide) (by decide) k9⟩
        have h1 := H8.out.2.1
        have h2 := k9.row h1 (fun x hx hm => row_ne_type h1 hP8 (by decide) x hx (by simpa using hm))
        simpa using h2
  · omega
end Go.Proofs.YtkffpcmminlndaaGreatDoor
