/-
  BucketPlays answers true for every list of acts, and leaves all memory that was there as it was.
  No condition: every input that can be read.
-/
import Derived.Test.YthcdodjdlgeeoaaDoesArm
import Derived.Test.YthcdodjdlgeeoaaBucketWholeL
namespace Go.Proofs.Ythcdodjdlgeeoaa
open Go Go.RowKit Go.Conc Go.Deep

theorem does_spec (w : World) (b f c mb k : Nat) (armed : Bool) (Q : List (Int × Bool)) (o : List (ByteArray × Ob)) (v : Value) (x : ActB) (hk40 : k ≤ 40) (hok : okActB x)
    (hb : BucketAt w b f c mb armed Q o) (hx : RefB w v (full o) Q) (hinv : InvP o k) :
    Calls Try.prog 25 #[.pointer (some ⟨b, 0, none⟩), v, .agg #[.int .i64 x.kind, .int .i64 x.n, .int .i64 x.m, .string x.a, .string x.b, .bool x.done]] w (DoesPost w b f c mb (k + 1)) := by
  obtain ⟨kd, n, m, a, bb, d⟩ := x
  obtain ⟨_, h2, h3, _, _⟩ := hok
  by_cases k1 : kd = 1
  · subst k1; exact does_put w b f c mb k armed Q o v n m a bb d hk40 hb hx hinv
  by_cases k2 : kd = 2
  · subst k2; exact does_del w b f c mb k armed Q o v n m a bb d hk40 hb hx hinv
  by_cases k3 : kd = 3
  · subst k3; exact does_get w b f c mb k armed Q o v n m a bb d hk40 hb hx hinv
  by_cases k4 : kd = 4
  · subst k4; exact does_range w b f c mb k armed Q o v n m a bb d hk40 h2 h3 hb hx hinv
  by_cases k5 : kd = 5
  · subst k5; exact does_list w b f c mb k armed Q o v n m a bb d hk40 hb hx hinv
  by_cases k6 : kd = 6
  · subst k6; exact does_arm w b f c mb k armed Q o v n m a bb d hk40 h2.2 hb hx hinv
  exact does_other w b f c mb k armed Q o v n m a bb d hk40 kd (by simp only at *; omega) hb hx hinv

/-- The state between two acts. -/
def StP (w : World) (b f c mb bx k : Nat) (wr : World) : Prop :=
  ∃ armed Q o x cx y cy, BucketAt wr b f c mb armed Q o ∧ wr.heap[bx]? = some (.cells #[.slice x (full o).length cx, .slice y Q.length cy] 60 (0, 0)) ∧
    RefB wr (.agg #[.slice x (full o).length cx, .slice y Q.length cy]) (full o) Q ∧ InvP o k ∧ Keeps [] w wr
def PlaysRel (L : List ActB) (w : World) (b f c mb bx gk : Nat) (i : Value) (wr : World) : Prop :=
  ∃ k, k ≤ L.length ∧ k ≤ 40 ∧ gk = 40 - k ∧ i = .int .i64 k ∧ StP w b f c mb bx k wr

theorem RefB.list {w : World} {x y : Option Addr} {n m cx cy : Nat} {L : List (ByteArray × Ob)} {Q : List (Int × Bool)} (h : RefB w (.agg #[.slice x n cx, .slice y m cy]) L Q) : SliceArg 3 encObj w (.slice x n cx) L := by
  obtain ⟨s, f, he, hs, _⟩ := h
  injection he with he
  simp only [Array.mk.injEq, List.cons.injEq, and_true] at he
  obtain ⟨rfl, _⟩ := he
  exact hs
theorem full_nil : full [] = [] := by simp [full, listing, sortedKeys, sortB]
theorem full_look {o : List (ByteArray × Ob)} {p : ByteArray × Ob} (h : p ∈ full o) : look o p.1 = some p.2 := by
  obtain ⟨x, h1, h2⟩ := listing_mem h
  rw [h1, h2]

/-- Behind Does: its answer lies in a block of its own. -/
def MidP (w : World) (b f c mb bx k : Nat) (u6 u7 : Value) (wc : World) : Prop :=
  ∃ bn xa xn xc ya yn yc armed Q o x cx y cy, u6 = .pointer (some ⟨bn, 0, none⟩) ∧ u7 = .bool true ∧ BucketAt wc b f c mb armed Q o ∧ bx < bn ∧ wc.heap[bx]? = some (.cells #[.slice xa xn xc, .slice ya yn yc] 60 (0, 0)) ∧
    wc.heap[bn]? = some (.cells #[.slice x (full o).length cx, .slice y Q.length cy] 60 (0, 0)) ∧ RefB wc (.agg #[.slice x (full o).length cx, .slice y Q.length cy]) (full o) Q ∧ InvP o k ∧ Keeps [] w wc

set_option maxRecDepth 100000 in
set_option maxHeartbeats 2000000 in
theorem bucketPlays_walk (L : List ActB) (v0 : Value) (w : World) (hs : SliceArg 6 encActB w v0 L) (hok : ∀ x ∈ L, okActB x) :
    Calls Try.prog 7 #[v0] w fun e w' => e = .returned (.bool true) ∧ Keeps [] w w' := by
  obtain ⟨ao, cap, rfl, hl, hc⟩ := hs
  unfold maxLen at hl
  have Hc := Lib.hid hc
  clear hc
  go_enter Try.func7, Try.ntmps7
  go_wp2_with fail
  refine (newBucket_spec w).mono ?_
  rintro e w1 ⟨b, f, c, mb, rfl, hb1, hk1, l1, l2, l3, l4⟩
  go_wp2_with fail
  have q1 := heap_new w1 (.cells #[.slice none 0 0, .slice none 0 0] 60)
  have hb1' := ((Keeps.refl [] w1).alloc (.cells #[.slice none 0 0, .slice none 0 0] 60)).keep_bucket hb1
  have hk1' := hk1.alloc (.cells #[.slice none 0 0, .slice none 0 0] 60)
  obtain ⟨bx, hbx⟩ : ∃ bx, bx = w1.heap.size := ⟨_, rfl⟩
  have hwx : w.heap.size ≤ bx := by have := hk1.size; omega
  obtain ⟨p1, p2, p3, p4⟩ := hb1.lt
  rw [← hbx] at p1 p2 p3 p4 q1 ⊢
  generalize w1.alloc (.cells #[.slice none 0 0, .slice none 0 0] 60) = w1' at q1 hb1' hk1' ⊢
  clear hbx hb1 hk1
  refine (awakeB_spec w1').mono ?_
  rintro e w2 ⟨rfl, hk2⟩
  have hb2 := hk2.keep_bucket hb1'
  have q2 := hk2.at_ q1 (by simp)
  have cb2 := cells_at hb2.cells
  have hk02 := hk1'.trans hk2
  have hR2 : RefB w2 (.agg #[.slice none 0 0, .slice none 0 0]) [] [] := ⟨_, _, rfl, sliceArg_nil _ _ _, ⟨none, 0, 0, rfl, Nat.le_refl _, fun _ => rfl⟩, sliceArg_nil _ _ _, fun b n c e hn => by cases e⟩
  go_wp2_with fail
  go_loopg [5] 40 (PlaysRel L w b f c mb bx)
  case atStart => exact ⟨0, Nat.zero_le _, by omega, rfl, rfl, _, _, [], none, 0, none, 0, hb2, by rw [full_nil]; exact q2, by rw [full_nil]; exact hR2, ⟨by simp, by simp [look]⟩, hk02⟩
  case round =>
    obtain ⟨k, hkl, hk40, hgk, rfl, armed, Q, o, x, cx, y, cy, hb, hq, hR, hinv, hk⟩ := hrel
    have Hg := Lib.hid hgk
    clear hgk hb1' hb2 hk1' hk2 hk02 cb2 q1 q2 hR2
    by_cases hlt : k < L.length ∧ k < 40
    · obtain ⟨hlt, hlt40⟩ := hlt
      obtain ⟨b1, o1, rfl, hb1, hc1⟩ := Hc.out k hlt
      have hokx := hok L[k] (List.getElem_mem _)
      generalize hx : L[k] = act at hc1 hokx
      clear hx
      have d0 : wr.cell? ⟨b1, o1 + k * 6, none⟩ = some (.int .i64 act.kind) := by rw [hk.cell hb1 (by simp)]; simpa [encActB] using hc1 0 (by omega)
      have d1 : wr.cell? ⟨b1, o1 + k * 6 + 1, none⟩ = some (.int .i64 act.n) := by rw [hk.cell hb1 (by simp)]; rw [Nat.add_assoc]; simpa [encActB] using hc1 1 (by omega)
      have d2 : wr.cell? ⟨b1, o1 + k * 6 + 2, none⟩ = some (.int .i64 act.m) := by rw [hk.cell hb1 (by simp)]; rw [Nat.add_assoc]; simpa [encActB] using hc1 2 (by omega)
      have d3 : wr.cell? ⟨b1, o1 + k * 6 + 3, none⟩ = some (.string act.a) := by rw [hk.cell hb1 (by simp)]; rw [Nat.add_assoc]; simpa [encActB] using hc1 3 (by omega)
      have d4 : wr.cell? ⟨b1, o1 + k * 6 + 4, none⟩ = some (.string act.b) := by rw [hk.cell hb1 (by simp)]; rw [Nat.add_assoc]; simpa [encActB] using hc1 4 (by omega)
      have d5 : wr.cell? ⟨b1, o1 + k * 6 + 5, none⟩ = some (.bool act.done) := by rw [hk.cell hb1 (by simp)]; rw [Nat.add_assoc]; simpa [encActB] using hc1 5 (by omega)
      have lb1 := hk.lt hb1
      clear hc1
      have hlt' : (k : Int) < (L.length : Int) := by omega
      have hlt1 : (k : Int) < 40 := by omega
      have lx := lt_of_at hq
      have hS0 : wr.cell? ⟨bx, 0, none⟩ = some (.slice x (full o).length cx) := by rw [cells_at hq]; rfl
      have hS1 : wr.cell? ⟨bx, 1, none⟩ = some (.slice y Q.length cy) := by rw [cells_at hq]; rfl
      have H := Lib.hid (And.intro hb (And.intro hq (And.intro hR (And.intro hinv (And.intro hk hokx)))))
      clear hb hq hR hinv hk hokx
      have nx : bx ∉ [f, c, mb] := by simp; omega
      have nb1 : b1 ∉ [f, c, mb] := by simp; omega
      have n0 : bx ≠ wr.heap.size := by omega
      have n1 : b1 ≠ wr.heap.size := by omega
      go_upto_region 8 with (fail)
      go_cut [6, 7] from 27 to 80 (MidP w b f c mb bx (k + 1))
      case first =>
        go_region_held3 (fun w' => w'.cell? ⟨bx, 0, none⟩ = some (.slice x (full o).length cx) ∧ w'.cell? ⟨bx, 1, none⟩ = some (.slice y Q.length cy) ∧ w'.cell? ⟨b1, o1 + k * 6, none⟩ = some (.int .i64 act.kind) ∧ w'.cell? ⟨b1, o1 + k * 6 + 1, none⟩ = some (.int .i64 act.n) ∧ w'.cell? ⟨b1, o1 + k * 6 + 2, none⟩ = some (.int .i64 act.m) ∧ w'.cell? ⟨b1, o1 + k * 6 + 3, none⟩ = some (.string act.a) ∧ w'.cell? ⟨b1, o1 + k * 6 + 4, none⟩ = some (.string act.b) ∧ w'.cell? ⟨b1, o1 + k * 6 + 5, none⟩ = some (.bool act.done))
          (first | go_keep | (exact ⟨e0, e1, g0, g1, g2, g3, g4, g5⟩) | (have kk := ((Keeps.refl [wr.heap.size] w5).setCell (p := ⟨wr.heap.size, 0, none⟩) (.inl (by simp)) (.slice x5 (full o5).length cx5)).setCell (p := ⟨wr.heap.size, 1, none⟩) (.inl (by simp)) (.slice y5 Q5.length cy5); exact ⟨(kk.cell m0 (by simpa using n0)).trans e0, (kk.cell m0 (by simpa using n0)).trans e1, (kk.cell m1 (by simpa using n1)).trans g0, (kk.cell m1 (by simpa using n1)).trans g1, (kk.cell m1 (by simpa using n1)).trans g2, (kk.cell m1 (by simpa using n1)).trans g3, (kk.cell m1 (by simpa using n1)).trans g4, (kk.cell m1 (by simpa using n1)).trans g5⟩))
          (first | (go_at_call 25; refine (does_spec _ b f c mb k armed Q o _ act hk40 H.out.2.2.2.2.2 (Keeps.keep_bucket (by repeat (first | exact Keeps.refl _ _ | refine Keeps.drew ?_ | refine Keeps.alloc ?_ _) : Keeps [] wr _) H.out.1) (H.out.2.2.1.keep (by repeat (first | exact Keeps.refl _ _ | refine Keeps.drew ?_ | refine Keeps.alloc ?_ _) : Keeps [] wr _)) H.out.2.2.2.1).mono ?_; rintro e w5 ⟨yv, armed5, Q5, o5, rfl, hB5, hX5, hI5, hk5⟩; obtain ⟨x5, cx5, y5, cy5, rfl⟩ := hX5.form; have hk5' : Keeps [f, c, mb] wr w5 := Keeps.after (Keeps.mono (by repeat (first | exact Keeps.refl _ _ | refine Keeps.drew ?_ | refine Keeps.alloc ?_ _) : Keeps [] wr _) (by simp)) hk5 (fun q hq => .inl hq); have e0 := (hk5'.cell lx nx).trans hS0; have e1 := (hk5'.cell lx nx).trans hS1; have g0 := (hk5'.cell lb1 nb1).trans d0; have g1 := (hk5'.cell lb1 nb1).trans d1; have g2 := (hk5'.cell lb1 nb1).trans d2; have g3 := (hk5'.cell lb1 nb1).trans d3; have g4 := (hk5'.cell lb1 nb1).trans d4; have g5 := (hk5'.cell lb1 nb1).trans d5; have m0 := hk5'.lt lx; have m1 := hk5'.lt lb1; (try (have hn5 := hk5.at_ (heap_new wr (.cells #[.slice none 0 0, .slice none 0 0] 60)) (by simp; omega); have cn5 := cells_at hn5; have fn5 := free_at hn5; have ln5 := lt_of_at hn5))))
        · have hk05 := H.out.2.2.2.2.1.after hk5' (by simp; omega)
          have qx5 := hk5'.at_ H.out.2.1 nx
          have hB6 := ((Keeps.refl [] w5).alloc (.cells #[.slice x5 (full o5).length cx5, .slice y5 Q5.length cy5] 60)).keep_bucket hB5
          have hR6 := hX5.keep ((Keeps.refl [] w5).alloc (.cells #[.slice x5 (full o5).length cx5, .slice y5 Q5.length cy5] 60))
          have qx6 := heap_old qx5 (.cells #[.slice x5 (full o5).length cx5, .slice y5 Q5.length cy5] 60)
          have Hm := Lib.hid (And.intro hB6 (And.intro hR6 (And.intro qx6 (And.intro hI5 (hk05.alloc (.cells #[.slice x5 (full o5).length cx5, .slice y5 Q5.length cy5] 60))))))
          clear hk05 qx5 hB6 hR6 qx6 hB5 hX5 hI5 hk5 hk5' e0 e1 g0 g1 g2 g3 g4 g5 d0 d1 d2 d3 d4 d5
          go_wp2_with fail
          go_meet
          case rel => exact ⟨_, _, _, _, _, _, _, _, _, _, _, _, _, _, rfl, rfl, Hm.out.1, m0, Hm.out.2.2.1, heap_new w5 _, Hm.out.2.1, Hm.out.2.2.2.1, Hm.out.2.2.2.2⟩
        all_goals
          have hk05 := H.out.2.2.2.2.1.after hk5' (by simp; omega)
          have qx5 := hk5'.at_ H.out.2.1 nx
          have t0 := heap_cell_same (i := 0) hn5 (.slice x5 (full o5).length cx5)
          have t1 := heap_cell_same (i := 1) t0 (.slice y5 Q5.length cy5)
          have hkq : Keeps [wr.heap.size] w5 ((w5.setCell ⟨wr.heap.size, 0, none⟩ (.slice x5 (full o5).length cx5)).setCell ⟨wr.heap.size, 1, none⟩ (.slice y5 Q5.length cy5)) := ((Keeps.refl [wr.heap.size] w5).setCell (.inl (by simp)) _).setCell (.inl (by simp)) _
          have hB6 := hB5.keep hkq (by simp; omega) (by simp; omega) (by simp; omega) (by simp; omega)
          have hR6 := (hX5.setBox (i := 0) (boxy_at hn5) (.slice x5 (full o5).length cx5)).setBox (i := 1) (boxy_at t0) (.slice y5 Q5.length cy5)
          have qx6 := hkq.at_ qx5 (by simp; omega)
          have hk06 := hk05.after hkq (by simp; have := H.out.2.2.2.2.1.size; omega)
          have Hm := Lib.hid (And.intro hB6 (And.intro hR6 (And.intro qx6 (And.intro hI5 (And.intro hk06 t1)))))
          clear hk05 qx5 t0 t1 hkq hB6 hR6 qx6 hk06 hB5 hX5 hI5 hk5 hk5' e0 e1 g0 g1 g2 g3 g4 g5 d0 d1 d2 d3 d4 d5 hn5 cn5 fn5
          go_wp2_with fail
          go_meet
          case rel => exact ⟨_, _, _, _, _, _, _, _, _, _, _, _, _, _, rfl, rfl, Hm.out.1, lx, Hm.out.2.2.1, Hm.out.2.2.2.2.2, Hm.out.2.1, Hm.out.2.2.2.1, Hm.out.2.2.2.2.1⟩
      case rest =>
        obtain ⟨bn, xa, xn, xc, ya, yn, yc, armed2, Q2, o2, x2, cx2, y2, cy2, rfl, rfl, hb, hbn, hqx, hqn, hR, hinv, hk⟩ := hcut
        clear H d0 d1 d2 d3 d4 d5 hS0 hS1 lx lb1 nx nb1 n0 n1
        have cn := cells_at hqn
        have cx := cells_at hqx
        have fx := free_at hqx
        have lx := lt_of_at hqx
        have t0 := heap_cell_same (i := 0) hqx (.slice x2 (full o2).length cx2)
        have t1 := heap_cell_same (i := 1) t0 (.slice y2 Q2.length cy2)
        have hkq : Keeps [bx] wc ((wc.setCell ⟨bx, 0, none⟩ (.slice x2 (full o2).length cx2)).setCell ⟨bx, 1, none⟩ (.slice y2 Q2.length cy2)) := ((Keeps.refl [bx] wc).setCell (.inl (by simp)) _).setCell (.inl (by simp)) _
        have hb9 := hb.keep hkq (by simp; omega) (by simp; omega) (by simp; omega) (by simp; omega)
        have hR9 := (hR.setBox (i := 0) (boxy_at hqx) (.slice x2 (full o2).length cx2)).setBox (i := 1) (boxy_at t0) (.slice y2 Q2.length cy2)
        have hk9 := hk.after hkq (by simp; omega)
        have t1' : ((wc.setCell ⟨bx, 0, none⟩ (.slice x2 (full o2).length cx2)).setCell ⟨bx, 1, none⟩ (.slice y2 Q2.length cy2)).heap[bx]? = some (.cells #[.slice x2 (full o2).length cx2, .slice y2 Q2.length cy2] 60 (0, 0)) := t1
        have H9 := Lib.hid (And.intro t1' (And.intro hb9 (And.intro hR9 (And.intro hinv hk9))))
        clear t0 t1 t1' hkq hb9 hR9 hk9 hb hqx hqn hR hinv hk
        go_wp2_with fail
        generalize (wc.setCell ⟨bx, 0, none⟩ (.slice x2 (full o2).length cx2)).setCell ⟨bx, 1, none⟩ (.slice y2 Q2.length cy2) = W9 at H9 ⊢
        clear cn cx fx lx
        have d0 : W9.cell? ⟨bx, 0, none⟩ = some (.slice x2 (full o2).length cx2) := by rw [cells_at H9.out.1]; rfl
        have lx := lt_of_at H9.out.1
        have hnd : (o2.map (·.1)).Nodup := by have := H9.out.2.1.map.nodup; rwa [keys_enc] at this
        have hinv := H9.out.2.2.2.1
        have hke : ∀ p ∈ o2, p.1.size ≤ maxLen := fun p hp => by
          obtain ⟨n, x⟩ := p
          have h := hinv.obj n x (mem_look hnd hp)
          simp only [maxLen]; omega
        have hde : ∀ n, (obOr (look o2 n)).1.size ≤ 9223372036854775807 := fun n => by
          cases hl : look o2 n with
          | none => simp [obOr, ByteArray.size]
          | some x => have := (hinv.obj n x hl).2; simp [obOr]; omega
        have hlen := hinv.len
        have Hke := Lib.hid (And.intro hke (And.intro hde (full_data hinv)))
        clear hke hde hinv hnd
        go_region_held3 (fun w' => w'.cell? ⟨bx, 0, none⟩ = some (.slice x2 (full o2).length cx2))
          (first | go_keep | exact e0)
          (first | (go_at_call 22; refine (look_spec W9.drew b f c mb armed2 Q2 o2 H9.out.2.1.drew ⟨#[]⟩ Hke.out.1 Hke.out.2.1 (by omega)).mono ?_; rintro e w10 ⟨vl, rfl, hrow, hk10⟩; have e0 := (hk10.cell (b := bx) (i := 0) lx (by simp)).trans d0; have hvl := arg_of_row (enc := infoOf) (L := full o2) (fun _ => rfl) hrow) | (go_at_call 26; refine (lists_spec _ _ _ (full o2) Hke.out.2.2 hvl (H9.out.2.2.1.list.keep ((Keeps.refl [] W9).drew.trans hk10))).mono ?_; rintro e w11 ⟨rfl, hk11⟩; have e0 := (hk11.cell (hk10.lt lx) (by simp)).trans e0))
        have hk911 := ((Keeps.refl [] W9).drew.trans hk10).trans hk11
        have q11 := hk911.at_ H9.out.1 (by simp)
        have hR11 := H9.out.2.2.1.keep hk911
        have hb11 := hk911.keep_bucket H9.out.2.1
        have hk011 := H9.out.2.2.2.2.trans hk911
        have H11 := Lib.hid (And.intro q11 (And.intro hR11 (And.intro hb11 (And.intro H9.out.2.2.2.1 hk011))))
        have hfl : (full o2).length ≤ 1000 := by rw [full_len]; omega
        have hlk : ∀ p ∈ full o2, look o2 p.1 = some p.2 := fun p hp => full_look hp
        have Hlk := Lib.hid hlk
        clear hk911 q11 hR11 hb11 hk011 hlk hk10 hk11 hrow hvl d0 lx H9
        go_wp2_with fail
        go_loopg [61] (full o2).length (InnerRel w11 (full o2).length)
        case atStart => exact ⟨0, Nat.zero_le _, rfl, rfl, Keeps.refl _ _⟩
        case round =>
          obtain ⟨j, hjn, hgj, rfl, hkj⟩ := hrel
          have Hgj := Lib.hid hgj
          clear hgj
          by_cases hjt : j < (full o2).length
          · obtain ⟨b2, of2, rfl, hb2, d0, d1, d2⟩ := objCells H11.out.2.1.list hjt
            rw [← hkj.cell hb2 (by simp)] at d0 d1 d2
            have hjt' : (j : Int) < ((full o2).length : Int) := by omega
            have hx2 := Hlk.out (full o2)[j] (List.getElem_mem _)
            have hsz := Hke.out.2.2 (full o2)[j] (List.getElem_mem _)
            generalize (full o2)[j] = pr at d0 d1 d2 hx2 hsz
            obtain ⟨nm, dt, tk⟩ := pr
            simp only at d0 d1 d2 hx2 hsz
            have Hx2 := Lib.hid hx2
            have hbj := hkj.keep_bucket H11.out.2.2.1
            have hb6 := ((Keeps.refl [] wr).alloc (.cells #[.string nm, .string dt, .int .i64 tk] 65)).keep_bucket hbj
            have hq6 := heap_new wr (.cells #[.string nm, .string dt, .int .i64 tk] 65)
            have hk6 := hkj.alloc (.cells #[.string nm, .string dt, .int .i64 tk] 65)
            clear hx2 hbj
            go_wp2_with fail
            refine (peek_spec _ b f c mb _ _ _ hb6 nm).mono ?_
            rintro e w7 ⟨rfl, hk7⟩
            rw [Hx2.out]
            have hq7 := hk7.at_ hq6 (by simp)
            have hk07 := hk6.trans hk7
            have cq7 := cells_at hq7
            clear hq6 hq7 hk7 hk6 hb6 hkj d0 d1 d2
            simp only [obOr, Option.getD_some, Option.isSome_some]
            go_wp2_with fail
            go_roundg ((full o2).length - (j + 1))
            case measure => have := Hgj.out; omega
            case rel => exact ⟨j + 1, by omega, rfl, by go_num, hk07⟩
          · go_wp2_with fail
            go_roundg (40 - (k + 1))
            case measure => have := Hg.out; omega
            case rel => exact ⟨k + 1, by omega, by omega, rfl, by go_num, armed2, Q2, o2, _, _, _, _, hkj.keep_bucket H11.out.2.2.1, hkj.at_ H11.out.1 (by simp), H11.out.2.1.keep hkj, H11.out.2.2.2.1, H11.out.2.2.2.2.trans hkj⟩
    · go_wp2_with fail
      all_goals
        go_ret
        exact ⟨rfl, hk⟩

theorem bucketPlays_law (W : World) (v0 : Value) (h0 : ∃ L : List ActB, SliceArg 6 encActB W v0 L ∧ ∀ x ∈ L, okActB x) :
    Calls Try.prog 7 #[v0] W fun e w' => e = .returned (.bool true) ∧ Keeps [] W w' := by
  obtain ⟨L, hs, hok⟩ := h0
  exact bucketPlays_walk L v0 W hs hok

end Go.Proofs.Ythcdodjdlgeeoaa
