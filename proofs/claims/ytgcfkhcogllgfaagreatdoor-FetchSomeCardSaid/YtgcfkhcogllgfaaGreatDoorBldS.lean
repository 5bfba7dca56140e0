/-
  A chunk's text, samples as a chunk's text (package xor): Text, Of: what it says is told (BitLaw).
  Samples as records of chunks, entries as a record, the block of a table (package block): chunks, Index, Build: what they say is told.
  The package's variable widths holds what its text says (XorVar).
-/
import Derived.Test.YtgcfkhcogllgfaaGreatDoorBitsV
import Derived.Test.YtgcfkhcogllgfaaGreatDoorTabMk
import Derived.Test.YtgcfkhcogllgfaaGreatDoorLebLaw
import Derived.Test.YtgcfkhcogllgfaaGreatDoorLabelN
import Derived.Test.YtgcfkhcogllgfaaGreatDoorFrame
import Derived.Sort.QuietIn
import Derived.Test.YtgcfkhcogllgfaaGreatDoorKeyG
import Derived.Test.YtgcfkhcogllgfaaGreatDoorTabLaw
import Derived.Test.YtgcfkhcogllgfaaGreatDoorTaker
import Derived.Test.YtgcfkhcogllgfaaGreatDoorIdent
import Derived.BigRegion
namespace Go.Proofs.YtgcfkhcogllgfaaGreatDoor
set_option maxRecDepth 100000
set_option maxHeartbeats 4000000
set_option linter.unusedSimpArgs false
open Go Go.RowKit Go.Conc
theorem bytes_app (a b : List UInt8) : (⟨a.toArray⟩ : ByteArray) ++ (⟨b.toArray⟩ : ByteArray) = ⟨(a ++ b).toArray⟩ := by
 apply ByteArray.ext
 rw [ByteArray.data_append]
 simp
theorem chunkText_spec (w : World) (p : Nat) (s : XS) (hn : s.B.length < 1000000000) (hN : s.n ≤ 120) (h : ChunkAt w p s) :
  Calls Tryz.prog 128 #[.pointer (some ⟨p, 0, none⟩)] w fun e w' => e = .returned (.string ⟨(lebL s.n ++ lebL s.B.length ++ packB s.B).toArray⟩) ∧ Keeps [] w w' := by
 obtain ⟨B, N, T, V, st, l0, w0⟩ := s
 obtain ⟨hlw, h⟩ := h
 dsimp only at hn hN hlw h ⊢
 obtain ⟨n, hnB⟩ : ∃ n, n = B.length := ⟨_, rfl⟩
 rw [← hnB] at hn ⊢
 have HnB := Lib.hid hnB
 clear hnB
 have H0 := Lib.hid h
 obtain ⟨c2, c3, c4, c5, c6, c7, fz⟩ := h.cells
 have lp := h.lt
 clear h
 go_enter Tryz.func128, Tryz.ntmps128
 go_wp2_with fail
 refine (uint_spec w (.slice none 0 0) [] N (by omega) (by simp) (buf_nil w)).mono ?_
 rintro e w1 ⟨v1, rfl, hb1, ht1⟩
 obtain ⟨k1, hf1⟩ := ht1.fresh (Keeps.refl [] w) (by simp [Value.ownBlock])
 have H1 := Lib.hid (And.intro hb1 (And.intro hf1 (And.intro k1 (H0.out.keep k1))))
 have lp1 := k1.lt lp
 obtain ⟨a1, cp1, hv1, -, -, -⟩ := row_slice hb1
 subst hv1
 clear hb1 ht1 k1 hf1 c2 c3 c4 c5 c6 c7 fz
 go_wp2_with fail
 refine (len_spec w1 p B _ _ _ _ _ _ H1.out.2.2.2).mono ?_
 rintro e w2 ⟨rfl, rfl⟩
 rw [← HnB.out]
 have hcv : IntKind.u64.wrap (n : Int) = (n : Int) := IntWalk.u64_in _ (by omega)
 go_wp2_with fail
 refine (uint_spec w1 _ _ n (by omega) (by have := lebL_len10 (v := N) (by omega); simp; omega) H1.out.1).mono ?_
 rintro e w2 ⟨v2, rfl, hb2, ht2⟩
 obtain ⟨k2, hf2⟩ := ht2.fresh H1.out.2.2.1 H1.out.2.1
 have hrow2 := H0.out.keep k2
 have lp2 := k2.lt lp
 have hl2 : (lebL N ++ lebL n).length ≤ 20 := by
  have := lebL_len10 (v := N) (by omega)
  have := lebL_len10 (v := n) (by omega)
  rw [List.length_append]
  omega
 have hsr : ∀ w', Keeps [] w2 w' → Calls Tryz.prog 165 #[.pointer (some ⟨p, 0, none⟩)] w' fun e w'' => e = .returned (.string ⟨(packB B).toArray⟩) ∧ w' = w'' := fun w' hk => rowText_spec w' p B _ _ _ _ _ _ (hrow2.keep hk)
 have happ := bytes_app (lebL N ++ lebL n) (packB B)
 obtain ⟨s, hss⟩ : ∃ s : ByteArray, s = ⟨(packB B).toArray⟩ := ⟨_, rfl⟩
 have hs : s.size = bytesN n := by rw [hss]; show (packB B).length = _; rw [packB_length, HnB.out]
 rw [← hss] at hsr happ
 clear hss
 have hbn : bytesN n ≤ 200000000 := by unfold bytesN; omega
 have H2 := Lib.hid (And.intro k2 (And.intro hs (And.intro hl2 hbn)))
 have hrun : ∀ m, (convert 147 9 v2).run Tryz.prog (w2.drewN m) = .ok (.string ⟨(lebL N ++ lebL n).toArray⟩) (w2.drewN m) := fun m => (hb2.same ((Keeps.refl [] _).drewN m)).run_string
 have hsz1 : (⟨(lebL N ++ lebL n).toArray⟩ : ByteArray).size ≤ 20 := hl2
 have Hsz := Lib.hid happ
 have Hsr := Lib.hid hsr
 clear hrow2 hb2 ht2 k2 hf2 hcv hsr hl2 happ lp1
 generalize (⟨(lebL N ++ lebL n).toArray⟩ : ByteArray) = s0 at hrun Hsz hsz1
 have hadd : s0.size + s.size ≤ 200000020 := by omega
 clear hs hbn
 go_upto_region 3 with fail
 go_quiet ((go_at_call 165; exact quiet_stayX (Hsr.out _ ((Keeps.refl [] _).drewN _))))
 go_wp2_with fail
 go_ret
 exact ⟨by rw [← Hsz.out]; rfl, H2.out.1.drewN _⟩
theorem xorAppend_spec (w : World) (hX : XorVar w) (p : Nat) (s : XS) (t : Int) (y : Nat) (hxp : 4 < p) (hn : s.B.length < 700000000) (hN2 : s.n < 120) (ht : 0 ≤ t ∧ t ≤ 1099511627776) (hT : 0 < s.n → 0 ≤ s.T ∧ s.T < t) (hst0 : 0 ≤ s.st ∧ s.st ≤ 1099511627776) (hV : s.V < 18446744073709551616) (hy : y < 18446744073709551616) (h : ChunkAt w p s) :
  Calls Tryz.prog 127 #[.pointer (some ⟨p, 0, none⟩), .agg #[.int .i64 t, .int .u64 y]] w fun e w' => e = .returned (.int .i64 0) ∧ ChunkAt w' p (smpNext s t y) ∧ Frm p w w' := by
 by_cases h0 : s.n = 0
 ·exact append0_spec w p s t y h0 (by omega) ht hy h
 ·obtain ⟨a, b⟩ := hT (by omega)
  exact append1_spec w hX p s t y hxp hn (by omega) hN2 ⟨a, b, ht.2⟩ hst0 hy hV h
theorem smp_arg {w : World} {a : Option Addr} {n c : Nat} {L : List SmpB} (h : SliceArg 2 encSm w (.slice a n c) L) (k : Nat) (hk : k < L.length) : ∃ b off, a = some ⟨b, off, none⟩ ∧ b < w.heap.size ∧ w.cell? ⟨b, off + k * 2, none⟩ = some (.int .i64 L[k].1) ∧ w.cell? ⟨b, off + k * 2 + 1, none⟩ = some (.int .u64 L[k].2) := by
 obtain ⟨ao, cap, e, hl, h⟩ := h
 injection e with e _ _
 subst e
 obtain ⟨b, off, e2, hb, hc⟩ := h k hk
 exact ⟨b, off, e2, hb, hc 0 (by decide), (by have := hc 1 (by decide); rw [← Nat.add_assoc] at this; exact this)⟩
theorem chunk_new {w : World} {p : Nat} (hp : p = w.heap.size) : ChunkAt (w.alloc (.cells #[.slice none 0 0, .int .i64 0, .int .i64 0, .int .i64 0, .int .u64 0, .int .i64 0, .int .i64 0, .int .i64 0] 237)) p xs0 := by
 subst hp
 exact ⟨by decide, .slice none 0 0, [], heap_new w _, World.ownsRow_nil _ _ _ 1, rfl⟩
def XOfRel (w : World) (p : Nat) (L : List SmpB) (gk : Nat) (u10 : Value) (wr : World) : Prop :=
 ∃ k, k ≤ L.length ∧ gk = L.length - k ∧ u10 = .int .i64 (k : Nat) ∧ ChunkAt wr p (chunkX (L.take k)) ∧ Frm p w wr
def SmpG (s : SmpB) : Prop := 0 ≤ s.1 ∧ s.1 ≤ 1099511627776 ∧ 0 ≤ s.2 ∧ s.2 < 18446744073709551616
def SmpsOk (L : List SmpB) : Prop := L.Pairwise ltS ∧ ∀ s ∈ L, SmpG s
theorem SmpsOk.facts {L : List SmpB} (h : SmpsOk L) {k : Nat} (hk : k ≤ L.length) : (chunkX (L.take k)).n = k ∧ (chunkX (L.take k)).V < 18446744073709551616 ∧ (chunkX (L.take k)).B.length ≤ 146 * k ∧ 0 ≤ (chunkX (L.take k)).st ∧ (chunkX (L.take k)).st ≤ 1099511627776 ∧ (∀ h : k < L.length, 0 < k → 0 ≤ (chunkX (L.take k)).T ∧ (chunkX (L.take k)).T < L[k].1) := by
 obtain ⟨h1, h2, h3⟩ := chunkX_ok (L := L) (fun x hx => (h.2 x hx).2.2) k hk
 obtain ⟨g1, g2, g3, g4, g5⟩ := chunkX_st (L := L) h.1 (fun x hx => ⟨(h.2 x hx).1, (h.2 x hx).2.1⟩) k hk
 exact ⟨chunkX_n L k hk, h1, h3, g1, g2, fun a b => ⟨g3, g5 a b⟩⟩
theorem xorOf_spec (w : World) (hX : XorVar w) (v : Value) (L : List SmpB) (h : SliceArg 2 encSm w v L) (hL : L.length ≤ 120) (hok : SmpsOk L) :
  Calls Tryz.prog 96 #[v] w fun e w' => e = .returned (.tuple #[.string ⟨(xorL L).toArray⟩, .int .i64 0]) ∧ Keeps [] w w' := by
 obtain ⟨p, hp⟩ : ∃ p, p = w.heap.size := ⟨_, rfl⟩
 have kc : Keeps [] w (w.alloc (.cells #[.slice none 0 0, .int .i64 0, .int .i64 0, .int .i64 0, .int .u64 0, .int .i64 0, .int .i64 0, .int .i64 0] 237)) := (Keeps.refl [] w).alloc _
 have H0 := Lib.hid (And.intro (chunk_new hp) (And.intro (keeps_frm kc (Nat.le_of_eq hp)) kc))
 have hxp : 4 < p := by have := hX.lt; omega
 have H := Lib.hid (And.intro h (And.intro hok (And.intro hX hp)))
 obtain ⟨a0, c0, rfl, -, -⟩ := h
 clear hok hX kc
 go_enter Tryz.func96, Tryz.ntmps96
 go_wp2_with fail
 rw [← hp]
 clear hp
 generalize w.alloc (.cells #[.slice none 0 0, .int .i64 0, .int .i64 0, .int .i64 0, .int .u64 0, .int .i64 0, .int .i64 0, .int .i64 0] 237) = w0 at H0 ⊢
 go_loopg [10] L.length (XOfRel w p L)
 case atStart => exact ⟨0, Nat.zero_le _, rfl, rfl, H0.out.1, H0.out.2.1⟩
 case round =>
  obtain ⟨k, hk, hgk, rfl, hc, hF⟩ := hrel
  have hfc := H.out.2.1.facts hk
  obtain ⟨s, hsX⟩ : ∃ s, s = chunkX (L.take k) := ⟨_, rfl⟩
  rw [← hsX] at hc hfc
  have HSX := Lib.hid hsX
  clear hsX
  have hkr : Keeps [] w wr := Keeps.of_below (by rw [← H.out.2.2.2]; exact hF.low)
  have Hg := Lib.hid (And.intro hgk (And.intro hc (And.intro hF (And.intro hkr hfc))))
  obtain ⟨-, hrow⟩ := hc
  have lp := hrow.lt
  clear hrow
  by_cases hlt : k < L.length
  ·obtain ⟨b, off, e1, hb, c1, c2⟩ := smp_arg (H.out.1.keep hkr) k hlt
   subst e1
   have hlt1 : (k : Int) < (L.length : Int) := by omega
   have hs := H.out.2.1.2 _ (List.getElem_mem hlt)
   have hnext := take_push hlt
   have hkW := (Keeps.refl [] wr).alloc (.cells #[.int .i64 L[k].1, .int .u64 L[k].2] 50)
   obtain ⟨y, hy⟩ : ∃ y : Nat, L[k].2 = (y : Int) := ⟨L[k].2.toNat, by have := hs.2.2.1; omega⟩
   obtain ⟨t, ht⟩ : ∃ t, t = L[k].1 := ⟨_, rfl⟩
   have Hn := Lib.hid (And.intro hnext (And.intro trivial (And.intro hs (And.intro hy ht))))
   rw [hy] at c2 hkW
   rw [← ht] at c1 hkW
   clear hnext hs hy ht hgk hF hkr hfc
   have nq := heap_new wr (.cells #[.int .i64 t, .int .u64 y] 50)
   go_upto_region 5 with fail
   have hpW := Nat.le_of_lt lp
   generalize wr.alloc (.cells #[.int .i64 t, .int .u64 y] 50) = W at hkW nq ⊢
   generalize wr.heap.size = q at nq ⊢
   have cq := cells_at nq
   have lq := lt_of_at nq
   have HW := Lib.hid (And.intro (show ChunkAt W p s from ⟨Hg.out.2.1.1, Hg.out.2.1.2.keep hkW⟩) (And.intro (Hg.out.2.2.1.trans (keeps_frm hkW hpW)) (H.out.2.2.1.same (Hg.out.2.2.2.1.trans hkW))))
   clear c1 c2 hb hkW nq hpW lp
   go_wp2_with fail
   refine (xorAppend_spec W HW.out.2.2 p s t y hxp (by have := Hg.out.2.2.2.2.2.2.1; omega) (by rw [Hg.out.2.2.2.2.1]; omega) (by obtain ⟨h1, h2, _⟩ := Hn.out.2.2.1; rw [← Hn.out.2.2.2.2] at h1 h2; omega) (fun h0 => by rw [Hn.out.2.2.2.2]; exact Hg.out.2.2.2.2.2.2.2.2.2 hlt (by rw [Hg.out.2.2.2.2.1] at h0; exact h0)) ⟨Hg.out.2.2.2.2.2.2.2.1, Hg.out.2.2.2.2.2.2.2.2.1⟩ Hg.out.2.2.2.2.2.1 (by have := Hn.out.2.2.1.2.2.2; have := Hn.out.2.2.2.1; omega) HW.out.1).mono ?_
   rintro e w5 ⟨rfl, hc5, hF5⟩
   have H5 := Lib.hid (And.intro trivial (And.intro hc5 (HW.out.2.1.trans hF5)))
   clear hc5 hF5 cq lq
   go_wp2_with fail
   go_roundg (L.length - (k + 1))
   case measure => have := Hg.out.1; omega
   case rel => exact ⟨k + 1, hlt, rfl, by go_num, by rw [Hn.out.1, chunkX_push, ← HSX.out, ← Hn.out.2.2.2.2, Hn.out.2.2.2.1]; exact H5.out.2.1, H5.out.2.2⟩
  ·have hkL : k = L.length := by omega
   have hlt1 : ¬ (k : Int) < (L.length : Int) := by omega
   have Hk := Lib.hid hkL
   clear hgk hF hkr hfc hkL
   go_wp2_with fail
   refine (chunkText_spec wr p s (by have := Hg.out.2.2.2.2.2.2.1; omega) (by rw [Hg.out.2.2.2.2.1]; omega) Hg.out.2.1).mono ?_
   rintro e w5 ⟨rfl, hk5⟩
   have H5 := Lib.hid (And.intro trivial (Hg.out.2.2.2.1.trans hk5))
   have hfin : (lebL s.n ++ lebL s.B.length ++ packB s.B) = xorL L := by
    unfold xorL
    rw [Hg.out.2.2.2.2.1, HSX.out, Hk.out, List.take_length]
   rw [hfin]
   clear hfin hk5
   go_wp2_with fail
   go_ret2
   exact ⟨rfl, H5.out.2⟩
open Go Go.RowKit Go.Shelf
attribute [local go_sem] Oper.semAt_some
def ChRel (W : World) (b1 : Nat) (o : Obj) (J : List Unit → World → Prop) (u : Value) (wr : World) : Prop := (u = .int .i64 0 ∧ wr = W) ∨ (u = .int .i64 120 ∧ J [()] wr ∧ wr.heap[b1]? = some o)
theorem chunk1_in (n : Nat) (hn : 1 ≤ n) (l b1 b2 : Nat) (b off m c : Nat) (hm : 1 ≤ m ∧ m ≤ 120) (J Jx : List Unit → World → Prop)
  (hY : ∀ pre x W, J pre W → pre.length < 1 → YieldAt Fence.wide (n - 1) Tryz.prog l #[.slice (some ⟨b, off, none⟩) m m] W fun e W' =>
   (e = .returned (.bool true) ∧ J (pre ++ [x]) W' ∧ Stands [b1, b2] W W') ∨ (e = .returned (.bool false) ∧ Jx (pre ++ [x]) W'))
  (W : World) (hJ : AbidesFrom W.heap.size J) (h1 : W.heap[b1]? = some (.cells #[.slice (some ⟨b, off, none⟩) m c] 72 (0, 0))) (h2 : W.heap[b2]? = some (.cells #[.int .i64 120] 3 (0, 0))) (hc : m ≤ c) (h0 : J [] W) :
  CallsIn Fence.wide n Tryz.prog 126 #[.func (.yield l) #[] #[], .pointer (some ⟨b1, 0, none⟩), .pointer (some ⟨b2, 0, none⟩)] W fun e W' => (∃ v, e = .returned v) ∧
   ((∃ ys, ys = [()] ∧ J ys W') ∨ (∃ pre, pre = [()] ∧ Jx pre W')) := by
 have c1 := cells_at h1 0
 have c2 := cells_at h2 0
 simp at c1 c2
 have l1 := lt_of_at h1
 have l2 := lt_of_at h2
 refine callsIn_of_wp Tryz.func126 rfl trivial ?_ rfl
 simp only [Tryz.ntmps126, List.size_toArray, List.length_cons, List.length_nil, Nat.reduceAdd, Nat.reduceSub, Array.replicate_succ, Array.replicate_zero, List.push_toArray, List.append_toArray, List.nil_append, List.cons_append]
 have hmin : min (120 : Int) (m : Int) = (m : Int) := by omega
 have hm0 : (0 : Int) < (m : Int) := by omega
 have hmc : (m : Int) ≤ (c : Int) := by omega
 gi_wp2
 gi_loopw [4] (ChRel W b1 (.cells #[.slice (some ⟨b, off, none⟩) m c] 72 (0, 0)) J) (fun p _ => 120 - (intOf p).toNat)
 case atStart => exact .inl ⟨rfl, rfl⟩
 case round =>
  rcases hrel with ⟨rfl, rfl⟩ | ⟨rfl, hJ9, g9⟩
  ·gi_wp2
   gi_quiet (fail)
   obtain ⟨W2, hW2⟩ : ∃ W2, W2 = wr.drewN nq := ⟨_, rfl⟩
   rw [← hW2]
   have hJ1 : J [] W2 := hJ [] wr W2 none h0 (by rw [hW2]; exact ⟨rfl, rfl, rfl, Nat.le_refl _, fun _ _ _ => rfl⟩) (fun r e => by cases e)
   have k2 : Keeps [] wr W2 := by rw [hW2]; exact (Keeps.refl [] _).drewN _
   have g1 := k2.at_ h1 (by simp)
   have g2 := k2.at_ h2 (by simp)
   obtain ⟨fn, tmps, assign, body, hy, hR⟩ := hY [] () W2 hJ1 (by simp)
   have d1 := cells_at g1 0
   have d2 := cells_at g2 0
   simp at d1 d2
   have m1 := lt_of_at g1
   have m2 := lt_of_at g2
   have HG := Lib.hid (And.intro g1 g2)
   clear c1 c2 l1 l2 hW2 k2 g1 g2 h1 h2
   gi_wp2
   refine hR.mono ?_
   rintro e W3 (⟨rfl, hJ3, hS3⟩ | ⟨rfl, hx3⟩)
   ·have g1 := (hS3 b1 (by simp)).trans HG.out.1
    have g2 := (hS3 b2 (by simp)).trans HG.out.2
    clear d1 d2 m1 m2
    have d1 := cells_at g1 0
    have d2 := cells_at g2 0
    simp at d1 d2
    have m1 := lt_of_at g1
    have m2 := lt_of_at g2
    gi_wp2
    exact ⟨.inr ⟨rfl, hJ3, g1⟩, by decide⟩
   ·gi_wp2
    refine bodyPost_ret (results_none rfl _ _ _) rfl ?_
    exact ⟨⟨_, rfl⟩, .inr ⟨[()], rfl, hx3⟩⟩
  ·have d1 := cells_at g9 0
   simp at d1
   have m1 := lt_of_at g9
   have hm120 : ¬ (120 : Int) < (m : Int) := by omega
   clear c1 c2 l1 l2 h1 h2 hmin hm0
   gi_wp2
   go_end0
   exact ⟨⟨_, rfl⟩, .inl hJ9⟩
theorem chunk1_stops (n : Nat) (hn : 1 ≤ n) (b1 b2 b off m c : Nat) (hm : 1 ≤ m ∧ m ≤ 120) (hc : m ≤ c) (w : World)
  (h1 : w.heap[b1]? = some (.cells #[.slice (some ⟨b, off, none⟩) m c] 72 (0, 0))) (h2 : w.heap[b2]? = some (.cells #[.int .i64 120] 3 (0, 0))) :
  SeqStopsK Fence.wide n Tryz.prog 126 #[.pointer (some ⟨b1, 0, none⟩), .pointer (some ⟨b2, 0, none⟩)] (fun _ : Unit => #[Value.slice (some ⟨b, off, none⟩) m m]) (Stands [b1, b2]) (fun ys => ys = [()]) (fun pre => pre = [()]) 1 w := fun l J Jx W hW hJ _ hY h0 =>
 chunk1_in n hn l b1 b2 b off m c hm J Jx hY W hJ ((hW.block b1 (lt_of_at h1)).trans h1) ((hW.block b2 (lt_of_at h2)).trans h2) hc h0
theorem chunkSeq_spec (w : World) (a : Option Addr) (m c : Nat) :
  Calls Tryz.prog 95 #[.slice a m c, .int .i64 120] w fun e w' => e = .returned (.func (.func 126) #[] #[.pointer (some ⟨w.heap.size, 0, none⟩), .pointer (some ⟨w.heap.size + 1, 0, none⟩)]) ∧
   w' = (w.alloc (.cells #[.slice a m c] 72)).alloc (.cells #[.int .i64 120] 3) := by
 go_enter Tryz.func95, Tryz.ntmps95
 go_wp2_with fail
 go_ret
 exact ⟨rfl, rfl⟩
def chunkF (L : List SmpB) : List UInt8 := frameL 4 (xorL L)
def ChIn (w : World) (b : Nat) (vb : Value) (l F : List UInt8) (pre : List Unit) (W : World) : Prop :=
 ∃ (v' : Value) (l' : List UInt8), W.heap[b]? = some (.cells #[v'] 147 (0, 0)) ∧ W.heap[b + 1]? = some (.cells #[.slice none 0 0] 147 (0, 0)) ∧ W.heap[b + 1 + 1]? = some (.cells #[.int .i64 0] 64 (0, 0)) ∧ Buf W v' l' ∧ l' = l ++ (if pre.length = 0 then [] else F) ∧ Keeps vb.ownBlock.toList w W ∧ (∀ g, v'.ownBlock = some g → vb.ownBlock = some g ∨ b + 5 ≤ g) ∧ b + 5 ≤ W.heap.size
theorem buf_own_cells {w : World} {v : Value} {l : List UInt8} (h : Buf w v l) : ∀ g, v.ownBlock = some g → ∀ o, w.heap[g]? = some o → o.isCells = true := fun g hg o ho => by
 obtain ⟨-, o', ho', hc⟩ := own_block_cells h g hg
 rw [ho] at ho'
 cases ho'
 exact hc
theorem chIn_own (w : World) (b : Nat) (hb : b = w.heap.size) (vb : Value) (l F : List UInt8) : OwnFrom (b + 5) (ChIn w b vb l F) := ownFrom_keeps fun pre W W' S h k hS => by
 obtain ⟨v', l', h1, h2, h3, h4, h5, h7, h9, h8⟩ := h
 refine ⟨v', l', k.at_ h1 (fun hm => by have := (hS _ hm).1; omega), k.at_ h2 (fun hm => by have := (hS _ hm).1; omega), k.at_ h3 (fun hm => by have := (hS _ hm).1; omega), ?_, h5, ?_, h9, Nat.le_trans h8 k.size⟩
 ·exact k.row h4 fun g hg hm => by
   obtain ⟨-, o, ho, hc⟩ := own_block_cells h4 g hg
   rw [(hS g hm).2 o ho] at hc
   cases hc
 ·exact h7.after k (fun x hx => .inr (by have := (hS x hx).1; omega))
def ChunksPost (w : World) (vb : Value) (l : List UInt8) (L : List SmpB) (e : Ending) (w' : World) : Prop := ∃ (v' : Value), e = .returned (.tuple #[v', .int .i64 0]) ∧ Buf w' v' (l ++ chunkF L) ∧ Turns vb w v' w'
theorem xorL_len {L : List SmpB} (hL : L.length ≤ 120) (hok : SmpsOk L) : (xorL L).length ≤ 2300 := by
 obtain ⟨-, -, h3, -⟩ := hok.facts (Nat.le_refl L.length)
 rw [List.take_length] at h3
 unfold xorL
 rw [List.length_append, List.length_append, packB_length]
 have h1 := lebL_len10 (v := L.length) (by omega)
 have h2 := lebL_len10 (v := (chunkX L).B.length) (by omega)
 unfold bytesN
 omega
theorem chunkF_len {L : List SmpB} (hL : L.length ≤ 120) (hok : SmpsOk L) : (chunkF L).length ≤ 3000 := by
 unfold chunkF
 rw [frameL_len]
 have h1 := xorL_len hL hok
 have h2 := lebL_len10 (v := (xorL L).length) (by omega)
 omega
theorem chunks_spec (w : World) (hX : XorVar w) (vb : Value) (l : List UInt8) (hb : Buf w vb l) (hl : l.length ≤ 1000000) (hvb : ∀ g, vb.ownBlock = some g → 4 < g) (B : Nat) (v : Value) (L : List SmpB) (h : w.ownsRow B 50 2 v L.length (L.flatMap encSm)) (hL : 1 ≤ L.length ∧ L.length ≤ 120) (hok : SmpsOk L) :
  Calls Tryz.prog 64 #[vb, v] w (ChunksPost w vb l L) := by
 obtain ⟨b, hbb⟩ : ∃ b, b = w.heap.size := ⟨_, rfl⟩
 have Hs := Lib.hid (And.intro h (And.intro hb (And.intro hX (And.intro hok hvb))))
 obtain ⟨sb, cap, rfl⟩ := row_someR h (by omega)
 have hsb := (World.ownsRow.lt h sb rfl).2
 have hcp : L.length ≤ cap := by
  obtain ⟨_, ⟨e, _⟩ | ⟨g, c, cur, e, -, -, hnc, _⟩⟩ := h
  ·cases e
  ·injection e with _ _ e
   omega
 obtain ⟨so, hso⟩ : ∃ so, so = 0 := ⟨_, rfl⟩
 rw [← hso] at Hs ⊢
 have Hso := Lib.hid hso
 clear hso
 obtain ⟨ab, cb, rfl, -, -, -⟩ := row_slice hb
 have n5 := new5 w (.cells #[.slice ab l.length cb] 147) (.cells #[.slice none 0 0] 147) (.cells #[.int .i64 0] 64) (.cells #[.slice (some ⟨sb, so, none⟩) L.length cap] 72) (.cells #[.int .i64 120] 3)
 have k5 : Keeps [] w (((((w.alloc (.cells #[.slice ab l.length cb] 147)).alloc (.cells #[.slice none 0 0] 147)).alloc (.cells #[.int .i64 0] 64)).alloc (.cells #[.slice (some ⟨sb, so, none⟩) L.length cap] 72)).alloc (.cells #[.int .i64 120] 3)) := (((((Keeps.refl [] w).alloc _).alloc _).alloc _).alloc _).alloc _
 have hsz : (((((w.alloc (.cells #[.slice ab l.length cb] 147)).alloc (.cells #[.slice none 0 0] 147)).alloc (.cells #[.int .i64 0] 64)).alloc (.cells #[.slice (some ⟨sb, so, none⟩) L.length cap] 72)).alloc (.cells #[.int .i64 120] 3)).heap.size = w.heap.size + 5 := by simp
 have hs3 : (((w.alloc (.cells #[.slice ab l.length cb] 147)).alloc (.cells #[.slice none 0 0] 147)).alloc (.cells #[.int .i64 0] 64)).heap.size = w.heap.size + 3 := by simp
 refine (callsIn_wide (n := 6)).1 ?_
 refine callsIn_of_wp_marks Tryz.func64 rfl trivial ?_ rfl
 simp only [Tryz.ntmps64, List.size_toArray, List.length_cons, List.length_nil, Nat.reduceAdd, Nat.reduceSub, Array.replicate_succ, Array.replicate_zero, List.push_toArray, List.append_toArray, List.nil_append, List.cons_append]
 have H0 := Lib.hid (And.intro n5 (And.intro k5 hsz))
 have HS3 := Lib.hid hs3
 clear n5 k5 hsz hX hok hb hs3 h hvb
 gi_wp2
 refine ⟨trivial, (callsIn_wide.2 (chunkSeq_spec _ _ _ _)).mono ?_⟩
 rintro e w1 ⟨rfl, rfl⟩
 rw [HS3.out]
 gi_wp2
 generalize ((((w.alloc (.cells #[.slice ab l.length cb] 147)).alloc (.cells #[.slice none 0 0] 147)).alloc (.cells #[.int .i64 0] 64)).alloc (.cells #[.slice (some ⟨sb, so, none⟩) L.length cap] 72)).alloc (.cells #[.int .i64 120] 3) = W6 at H0 ⊢
 rw [← hbb] at H0 ⊢
 have HB := Lib.hid hbb
 clear hbb HS3
 have HS6 := H0.out.2.2
 refine wpIn_rangeFunc_ownG rfl (by omega) (gf := 126) (lb := #[.pointer (some ⟨b + 3, 0, none⟩), .pointer (some ⟨b + 3 + 1, 0, none⟩)]) rfl trivial (enters_of Tryz.func126 (by kernel_rfl) rfl)
  (chunk1_stops 5 (by omega) (b + 3) (b + 3 + 1) sb so L.length cap hL hcp W6 H0.out.1.2.2.2.1 H0.out.1.2.2.2.2)
  Stands.trans ?kb (Below.refl _ _) (fun _ => rfl)
  (ChIn w b (.slice ab l.length cb) l (chunkF L)) (fun _ _ _ => False) (by rw [HS6]; exact chIn_own w b HB.out _ l _) (fun _ _ _ _ _ hs _ _ => hs) ?start
  (fun _ => { tmps := #[.slice ab l.length cb, .slice (some ⟨sb, so, none⟩) L.length cap, .pointer (some ⟨b, 0, none⟩), undef, .pointer (some ⟨b + 1, 0, none⟩), .pointer (some ⟨b + 1 + 1, 0, none⟩), .slice (some ⟨sb, so, none⟩) L.length L.length, undef, undef, .slice (some ⟨sb, so, none⟩) L.length cap,
    .func (.func 126) #[] #[.pointer (some ⟨b + 3, 0, none⟩), .pointer (some ⟨b + 3 + 1, 0, none⟩)], .slice (some ⟨sb, so, none⟩) L.length L.length, undef, undef, undef, undef, undef, undef, undef, undef, undef, undef, undef, undef, undef], defers := [] }) ?assign ?body ?done ?stop
 case kb =>
  intro W l o o' hl _ _ _ p hp
  refine World.putObj_heap_other ?_
  rw [HS6] at hl
  simp at hp
  omega
 case start => exact ⟨_, l, H0.out.1.1, H0.out.1.2.1, H0.out.1.2.2.1, Hs.out.2.1.same H0.out.2.1, by simp, H0.out.2.1.mono (by simp), fun g hg => .inl hg, Nat.le_of_eq HS6.symm⟩
 case assign =>
  intro l x W K hK
  gi_wp2
  exact hK
 case body =>
  rintro lp pre x W ⟨v', l', c0, c1, c2, hbuf, hle, hkw, hown, hsz⟩ hlt
  obtain rfl : pre = [] := List.eq_nil_of_length_eq_zero (by omega)
  obtain rfl : l' = l := by simpa using hle
  have hle2 := hle
  have hne := row_ne_type hbuf c0 (by decide)
  have hne1 := row_ne_type hbuf c1 (by decide)
  have hne2 := row_ne_type hbuf c2 (by decide)
  have hrow : W.ownsRow B 50 2 (.slice (some ⟨sb, so, none⟩) L.length cap) L.length (L.flatMap encSm) := hkw.row Hs.out.1 (fun g hg hm => rows_ne2 Hs.out.2.1 Hs.out.1 (by decide) g hg hm)
  have hpart : SliceArg 2 encSm W (.slice (some ⟨sb, so, none⟩) L.length L.length) L := by
   obtain ⟨ao, c, e, hl, hc⟩ := (sliceFrom_row (enc := encSm) (fun _ => rfl) hrow).arg
   injection e with e _ _
   subst e
   exact ⟨_, _, rfl, hl, hc⟩
  have hXW : XorVar W := fun k hk => (hkw.cell Hs.out.2.2.1.lt (fun hm => by have := Hs.out.2.2.2.2 _ (by simpa using hm); omega)).trans (Hs.out.2.2.1 k hk)
  have HC := Lib.hid (xorOf_spec W hXW _ L hpart hL.2 Hs.out.2.2.2.1)
  have HI := Lib.hid (And.intro c0 (And.intro c1 (And.intro c2 (And.intro hbuf (And.intro hkw hown)))))
  have HJ := Lib.hid (And.intro hle (And.intro hle2 (And.intro hsz (And.intro hne (And.intro hne1 hne2)))))
  clear c0 c1 c2 hbuf hle hle2 hkw hown hlt hne hne1 hne2 hrow hpart hXW
  gi_wp2
  refine ⟨trivial, (CallsIn.inRound lp (callsIn_wide.2 HC.out)).mono ?_⟩
  rintro e w2 ⟨rfl, k2⟩
  obtain ⟨s, hss⟩ : ∃ s : ByteArray, s = ⟨(xorL L).toArray⟩ := ⟨_, rfl⟩
  rw [← hss]
  have hs : s.size ≤ 2300 := by rw [hss]; exact xorL_len hL.2 Hs.out.2.2.2.1
  have HSS := Lib.hid hss
  clear hss
  have H2 := Lib.hid (And.intro hs (And.intro k2 (And.intro (k2.at_ HI.out.1 (by simp)) (HI.out.2.2.2.1.same k2))))
  obtain ⟨a', cp', hv', -, -, -⟩ := row_slice HI.out.2.2.2.1
  subst hv'
  have d0 := cells_at H2.out.2.2.1 0
  simp at d0
  have l0 := lt_of_at H2.out.2.2.1
  clear hs k2
  gi_wp2
  have hsz2 : s.size ≤ 2300 := H2.out.1
  have hl' : l'.length ≤ 1000000 := hl
  refine ⟨trivial, (CallsIn.inRound lp (callsIn_wide.2 (frameAppend_spec w2 _ l' 4 s (by omega) H2.out.2.2.2))).mono ?_⟩
  rintro e w3 ⟨v3, rfl, hb3, ht3⟩
  have hlen3 : (l' ++ frameL 4 s.data.toList).length = l'.length + (frameL 4 s.data.toList).length := List.length_append
  have hfl : (frameL 4 s.data.toList).length ≤ 3000 := by
   rw [frameL_len, dsize]
   have := lebL_len10 (v := s.size) (by omega)
   omega
  obtain ⟨l3, hl3⟩ : ∃ l3, l3 = l' ++ frameL 4 s.data.toList := ⟨_, rfl⟩
  rw [← hl3] at hb3 hlen3
  have hl3c : l3 = l' ++ chunkF L := by rw [hl3, HSS.out]; rfl
  have HL3 := Lib.hid hl3c
  clear hl3 hl3c
  obtain ⟨a3, cp3, hv3, -, -, -⟩ := row_slice hb3
  subst hv3
  have hne : ∀ x, x = b ∨ x = b + 1 ∨ x = b + 1 + 1 → x ∉ (Value.slice a' l'.length cp').ownBlock.toList := fun x hx hm => by
   have hm : (Value.slice a' l'.length cp').ownBlock = some x := by simpa using hm
   rcases hx with rfl | rfl | rfl
   ·exact HJ.out.2.2.2.1 _ hm rfl
   ·exact HJ.out.2.2.2.2.1 _ hm rfl
   ·exact HJ.out.2.2.2.2.2 _ hm rfl
  have n0 := ht3.keeps.at_ H2.out.2.2.1 (hne b (.inl rfl))
  have n1 := ht3.keeps.at_ (H2.out.2.1.at_ HI.out.2.1 (by simp)) (hne _ (.inr (.inl rfl)))
  have n2 := ht3.keeps.at_ (H2.out.2.1.at_ HI.out.2.2.1 (by simp)) (hne _ (.inr (.inr rfl)))
  have H3 := Lib.hid (And.intro n0 (And.intro n1 (And.intro n2 (And.intro hb3 (And.intro ht3 (And.intro hlen3 hfl))))))
  clear d0 l0
  have d0 := cells_at n0 0
  simp at d0
  have l0 := lt_of_at n0
  have f0 := free_at n0 0
  clear hb3 ht3 n0 n1 n2 hlen3 hfl
  gi_wp2
  have kS : Keeps [b] w3 (w3.setCell ⟨b, 0, none⟩ (.slice a3 l3.length cp3)) := (Keeps.refl _ w3).setCell (.inl (by simp)) _
  have m0 : (w3.setCell ⟨b, 0, none⟩ (.slice a3 l3.length cp3)).heap[b]? = some (.cells #[.slice a3 l3.length cp3] 147 (0, 0)) := by
   have := heap_cell_same (i := 0) H3.out.1 (.slice a3 l3.length cp3)
   simpa using this
  generalize w3.setCell ⟨b, 0, none⟩ (.slice a3 l3.length cp3) = W5 at kS m0 ⊢
  have kT : Keeps ((Value.slice a' l'.length cp').ownBlock.toList ++ [b]) W W5 := ((H2.out.2.1.mono (by simp)).trans (H3.out.2.2.2.2.1.keeps.mono (fun y hy => List.mem_append_left _ hy))).trans (kS.mono (fun y hy => List.mem_append_right _ hy))
  have hB := HB.out
  refine ⟨keepsFrom_of kT ?cells _, stands_of kT ?stands, ?inv⟩
  case cells =>
   intro y hy o ho
   rcases List.mem_append.1 hy with hy | hy
   ·exact buf_own_cells HI.out.2.2.2.1 y (by simpa using hy) o ho
   ·obtain rfl : y = b := by simpa using hy
    have e := HI.out.1
    rw [e] at ho
    cases ho
    rfl
  case stands =>
   intro y hy
   have hz := HJ.out.2.2.1
   refine ⟨by simp at hy; omega, fun hm => ?_⟩
   rcases List.mem_append.1 hm with hm | hm
   ·rcases HI.out.2.2.2.2.2 y (by simpa using hm) with h1 | h1
    ·have := (World.ownsRow.lt Hs.out.2.1 y h1).2
     simp at hy
     omega
    ·simp at hy
     omega
   ·simp at hm hy
    omega
  case inv =>
   refine ⟨_, _, m0, kS.at_ H3.out.2.1 (by simp), kS.at_ H3.out.2.2.1 (by simp; omega), H3.out.2.2.2.1.keep kS (fun g hg hm => ?_), ?_, ?_, ?_, ?_⟩
   ·obtain rfl : g = b := by simpa using hm
    exact row_ne_type H3.out.2.2.2.1 H3.out.1 (by decide) g hg rfl
   ·rw [HL3.out]
    simp
   ·refine HI.out.2.2.2.2.1.after kT fun x hx => ?_
    rcases List.mem_append.1 hx with hx | hx
    ·rcases HI.out.2.2.2.2.2 x (by simpa using hx) with h1 | h1
     ·exact .inl (by simp [h1])
     ·exact .inr (by omega)
    ·simp at hx
     exact .inr (by omega)
   ·intro g hg
    rcases H3.out.2.2.2.2.1.own g hg with h1 | h1
    ·exact HI.out.2.2.2.2.2 g h1
    ·exact .inr (by have := HJ.out.2.2.1; have := H2.out.2.1.size; omega)
   ·have := kT.size
    have := HJ.out.2.2.1
    omega
 case done =>
  rintro D ys W hD rfl ⟨v', l', c0, c1, c2, hbuf, hle, hkw, hown, hsz⟩ hK
  obtain ⟨a', cp', rfl, -, -, -⟩ := row_slice hbuf
  have HD := Lib.hid (And.intro c0 (And.intro c1 (And.intro c2 (And.intro hbuf (And.intro hkw (And.intro hown hK))))))
  have HJ := Lib.hid hle
  have d0 := cells_at c0 0
  have d1 := cells_at c1 0
  have d2 := cells_at c2 0
  simp at d0 d1 d2
  have f1 := free_at c1 0
  have f2 := free_at c2 0
  have l0 := lt_of_at c0
  have l1 := lt_of_at c1
  have l2 := lt_of_at c2
  have hne1 := row_ne_type hbuf c1 (by decide)
  have hne2 := row_ne_type hbuf c2 (by decide)
  have HN := Lib.hid (And.intro hne1 hne2)
  clear c0 c1 c2 hbuf hkw hown hK hle hne1 hne2
  gi_wp2
  obtain ⟨W9, hW9, nA, nB, k9⟩ := set_two HD.out.2.1 HD.out.2.2.1 (by omega) (.slice a' l'.length cp') (.int .i64 0)
  rw [← hW9]
  have hbw := HB.out
  have hD2 : W9.heap[D]? = some (.deferred (some [])) := k9.at_ HD.out.2.2.2.2.2.2 (by simp; omega)
  refine ⟨by simp, .inl ⟨_, _, rfl, run_takeDeferred hD2, ?_⟩⟩
  have q10 : Keeps [D] W9 (W9.putObj D (.deferred none)) := Keeps.of_grown (grownBy_putObj' W9 D _) (fun k hk => .inl (by simp at hk; simp [hk]))
  have hnc : ∀ y ∈ [D], ∀ o, W9.heap[y]? = some o → o.isCells = false := fun y hy o ho => by
   obtain rfl : y = D := by simpa using hy
   rw [hD2] at ho
   cases ho
   rfl
  have r9 : Buf W9 (.slice a' l'.length cp') l' := HD.out.2.2.2.1.keep k9 (fun g hg hm => by
   simp only [List.mem_cons, List.not_mem_nil, or_false] at hm
   rcases hm with rfl | rfl
   ·exact HN.out.1 _ hg rfl
   ·exact HN.out.2 _ hg rfl)
  have r10 : Buf (W9.putObj D (.deferred none)) (.slice a' l'.length cp') l' := q10.row_cells r9 hnc
  have nA3 := q10.at_cells nA hnc
  have nB3 := q10.at_cells nB hnc
  have kF : Keeps (Value.slice ab l.length cb).ownBlock.toList w (W9.putObj D (.deferred none)) := (HD.out.2.2.2.2.1.after k9 (fun x hx => .inr (by simp at hx; omega))).after q10 (fun x hx => .inr (by simp at hx; omega))
  generalize W9.putObj D (.deferred none) = W10 at r10 nA3 nB3 kF ⊢
  have cA3 := cells_at nA3 0
  have cB3 := cells_at nB3 0
  simp at cA3 cB3
  refine ⟨.tuple #[.slice a' l'.length cp', .int .i64 0], by simp [results, Tryz.results64, go_sem, cA3, cB3], ⟨_, rfl, by have e := HJ.out; simp at e; rw [← e]; exact r10, kF, fun g hg => ?_⟩⟩
  rcases HD.out.2.2.2.2.2.1 g hg with h1 | h1
  ·exact .inl h1
  ·exact .inr (by omega)
 case stop =>
  rintro D c pre W _ _ h _
  exact h.elim
open Go Go.RowKit
abbrev EntP := List PairB × Nat × Nat × Nat × Nat
abbrev EntV := Value × EntP
def encE (e : EntV) : List Value := [e.1, .int .i64 e.2.2.1, .int .i64 e.2.2.2.1, .int .i64 (e.2.2.2.2.1 : Nat), .int .i64 (e.2.2.2.2.2 : Nat)]
def EntOk (e : EntP) : Prop := SmallP e.1 ∧ (keyP e.1).size ≤ 90 ∧ e.2.1 ≤ 4611686018427387904 ∧ e.2.2.1 ≤ 4611686018427387904 ∧ e.2.2.2.1 ≤ 4611686018427387904 ∧ e.2.2.2.2 ≤ 4611686018427387904
def EntIn (w : World) (e : EntV) : Prop := w.ownsRow 0 91 2 e.1 e.2.1.length (e.2.1.flatMap encPB)
def entL (e : EntP) : List UInt8 := (keyP e.1).data.toList ++ (lebL e.2.1 ++ (lebL e.2.2.1 ++ (lebL e.2.2.2.1 ++ lebL e.2.2.2.2)))
def idxL (E : List EntP) : List UInt8 := frameL 5 (lebL E.length ++ E.flatMap entL)
def EntrAt (B : Nat) (w : World) (v : Value) (E : List EntV) : Prop := w.ownsRow B 122 5 v E.length (E.flatMap encE) ∧ ∀ e ∈ E, EntIn w e
theorem EntIn.keep {w w' : World} {e : EntV} (h : EntIn w e) (k : Keeps [] w w') : EntIn w' e := k.row h (by simp)
theorem EntrAt.keep {B : Nat} {w w' : World} {v : Value} {E : List EntV} (h : EntrAt B w v E) (k : Keeps [] w w') : EntrAt B w' v E := ⟨k.row h.1 (by simp), fun e he => (h.2 e he).keep k⟩
theorem ent_at {w : World} {a : Option Addr} {n c B : Nat} {E : List EntV} (h : EntrAt B w (.slice a n c) E) (k : Nat) (hk : k < E.length) : ∃ b off, a = some ⟨b, off, none⟩ ∧ b < w.heap.size ∧ w.cell? ⟨b, off + k * 5, none⟩ = some E[k].1 ∧ w.cell? ⟨b, off + k * 5 + 1, none⟩ = some (.int .i64 E[k].2.2.1) ∧ w.cell? ⟨b, off + k * 5 + 2, none⟩ = some (.int .i64 E[k].2.2.2.1) ∧ w.cell? ⟨b, off + k * 5 + 3, none⟩ = some (.int .i64 (E[k].2.2.2.2.1 : Nat)) ∧ w.cell? ⟨b, off + k * 5 + 4, none⟩ = some (.int .i64 (E[k].2.2.2.2.2 : Nat)) := by
 have h1 := h.1
 have hn : n = E.length := by
  rcases h1.2 with ⟨e, hn⟩ | ⟨g, cap, cur, e, _⟩
  ·injection e with _ e2 _
   rw [hn]; exact e2
  ·injection e
 obtain ⟨b, off, e, _, hb, hc⟩ := sf_at (sliceFrom_row (enc := encE) (fun _ => rfl) h1) k hk
 refine ⟨b, off, e, hb, (by simpa [encE] using hc 0 (by decide)), ?_, ?_, ?_, ?_⟩
 ·have := hc 1 (by decide); rw [← Nat.add_assoc] at this; simpa [encE] using this
 ·have := hc 2 (by decide); rw [← Nat.add_assoc] at this; simpa [encE] using this
 ·have := hc 3 (by decide); rw [← Nat.add_assoc] at this; simpa [encE] using this
 ·have := hc 4 (by decide); rw [← Nat.add_assoc] at this; simpa [encE] using this
def XIdxRel (w : World) (E : List EntV) (n gk : Nat) (u3 u12 : Value) (wr : World) : Prop :=
 ∃ k, k ≤ n ∧ gk = n - k ∧ u12 = .int .i64 (k : Nat) ∧ (∃ l, Buf wr u3 l ∧ l.length ≤ 10 + 130 * k ∧ l = lebL n ++ (E.take k).flatMap fun e => entL e.2) ∧ (∀ g, u3.ownBlock = some g → w.heap.size ≤ g) ∧ Keeps [] w wr
theorem index_spec (w : World) (B : Nat) (v : Value) (E : List EntV) (h : EntrAt B w v E) (hE : E.length ≤ 100) (hok : ∀ e ∈ E, EntOk e.2) :
  Calls Tryz.prog 65 #[v] w fun e w' => e = .returned (.string ⟨(idxL (E.map (·.2))).toArray⟩) ∧ (idxL (E.map (·.2))).length ≤ 14000 ∧ Keeps [] w w' := by
 have H := Lib.hid h
 have HOk := Lib.hid hok
 clear hok
 obtain ⟨a0, c0, rfl, -, -, -⟩ := row_slice h.1
 have hcv : IntKind.u64.wrap (E.length : Int) = (E.length : Int) := IntWalk.u64_in _ (by omega)
 clear h
 go_enter Tryz.func65, Tryz.ntmps65
 go_wp2_with fail
 refine (uint_spec w (.slice none 0 0) [] E.length (by omega) (by simp) (buf_nil w)).mono ?_
 rintro e w1 ⟨v1, rfl, hb1, ht1⟩
 obtain ⟨k1, hf1⟩ := ht1.fresh (Keeps.refl [] w) (by simp [Value.ownBlock])
 have H1 := Lib.hid (And.intro hb1 (And.intro hf1 k1))
 obtain ⟨a1, cp1, hv1, -, -, -⟩ := row_slice hb1
 subst hv1
 clear hb1 ht1 k1 hf1
 go_wp2_with fail
 go_loopg [3, 12] E.length (XIdxRel w E E.length)
 case atStart => exact ⟨0, Nat.zero_le _, rfl, rfl, ⟨_, H1.out.1, by have := lebL_len10 (v := E.length) (by omega); simp; omega, by simp⟩, H1.out.2.1, H1.out.2.2⟩
 case round =>
  obtain ⟨k, hk, hgk, rfl, ⟨l, hbuf, hl, hll⟩, hown, hkr⟩ := hrel
  have Hg := Lib.hid hgk
  have HLL := Lib.hid hll
  clear hll
  obtain ⟨a3, cp3, hv3, -, -, -⟩ := row_slice hbuf
  subst hv3
  by_cases hlt : k < E.length
  ·obtain ⟨b, off, e1, hb, c1, c2, c3, c4, c5⟩ := ent_at (H.out.keep hkr) k hlt
   subst e1
   have hP3 := (H.out.2 _ (List.getElem_mem hlt)).keep hkr
   obtain ⟨hP1, hP2, hP4, hP5, hP7, hP9⟩ := HOk.out _ (List.getElem_mem hlt)
   have htk := take_push hlt
   generalize E[k] = x at c1 c2 c3 c4 c5 hP1 hP2 hP3 hP4 hP5 hP7 hP9 htk
   obtain ⟨u, P, f, n, fN, gN⟩ := x
   have Htk := Lib.hid htk
   clear htk
   unfold EntIn at hP3
   dsimp only at c1 c2 c3 c4 c5 hP1 hP2 hP3 hP4 hP5 hP7 hP9
   obtain ⟨au, cu, rfl, -, -, -⟩ := row_slice hP3
   have hlt1 : (k : Int) < (E.length : Int) := by omega
   have kW : Keeps [] wr (wr.alloc (.cells #[.slice au P.length cu, .int .i64 f, .int .i64 n, .int .i64 (fN : Int), .int .i64 (gN : Int)] 122)) := (Keeps.refl [] wr).alloc _
   have nx := heap_new wr (.cells #[.slice au P.length cu, .int .i64 f, .int .i64 n, .int .i64 (fN : Int), .int .i64 (gN : Int)] 122)
   have w1 : IntKind.u64.wrap (f : Int) = (f : Int) := IntWalk.u64_in _ (by omega)
   have w2 : IntKind.u64.wrap (n : Int) = (n : Int) := IntWalk.u64_in _ (by omega)
   have w3 : IntKind.u64.wrap (fN : Int) = (fN : Int) := IntWalk.u64_in _ (by omega)
   have w4 : IntKind.u64.wrap (gN : Int) = (gN : Int) := IntWalk.u64_in _ (by omega)
   clear hcv hgk
   go_upto_region 5 with fail
   have hq : ∀ g, (Value.slice a3 l.length cp3).ownBlock = some g → g ≠ wr.heap.size := fun g hg => by have := hbuf.lt g hg; omega
   generalize wr.alloc (.cells #[.slice au P.length cu, .int .i64 f, .int .i64 n, .int .i64 (fN : Int), .int .i64 (gN : Int)] 122) = W at kW nx ⊢
   generalize wr.heap.size = q at nx hq ⊢
   have HW := Lib.hid (And.intro nx (And.intro (hbuf.same kW) (And.intro (hkr.trans kW) (And.intro hown hq))))
   have Hk := Lib.hid (keyG_spec W _ P (sliceFrom_row (enc := encPB) (fun _ => rfl) (kW.row hP3 (by simp))).arg hP1)
   have HN := Lib.hid (And.intro hP2 (And.intro hP4 (And.intro hP5 (And.intro hP7 hP9))))
   have cq := cells_at nx
   have lq := lt_of_at nx
   clear c1 c2 c3 c4 c5 hb hP1 hP2 hP3 hP4 hP5 hP7 hP9 kW nx hbuf hown hkr hq
   go_wp2_with fail
   refine Hk.out.mono ?_
   rintro e W2 ⟨rfl, k2⟩
   have H2 := Lib.hid (And.intro (k2.at_ HW.out.1 (by simp)) (And.intro (HW.out.2.1.same k2) (HW.out.2.2.1.trans k2)))
   generalize hkey : keyP P = key
   have hks : key.size ≤ 90 := by rw [← hkey]; exact HN.out.1
   have HKey := Lib.hid hkey
   clear hkey Hk cq lq k2
   go_upto_region 6 with (at_builtin; refine buf_append_str rfl (.tmp 16) (.tmp 19) rfl (.slice a3 l.length cp3) l rfl H2.out.2.1 key rfl (by omega) ?_; intro v4 W4 hb4 ht4)
   have hx4 := ht4.box H2.out.1 HW.out.2.2.2.2
   have hf4 := ht4.fresh H2.out.2.2 HW.out.2.2.2.1
   have hl4 : (l ++ key.data.toList).length ≤ l.length + 90 := by rw [List.length_append]; exact Nat.add_le_add_left hks _
   obtain ⟨L6, hL6⟩ : ∃ L6, L6 = l ++ key.data.toList := ⟨_, rfl⟩
   rw [← hL6] at hb4 hl4
   have HL6 := Lib.hid hL6
   clear hL6
   have HP6 := Lib.hid (And.intro hx4.1 (And.intro hb4 (And.intro hf4.2 (And.intro hf4.1 hx4.2))))
   obtain ⟨a4, cp4, hv4, -, -, -⟩ := row_slice hb4
   subst hv4
   clear hb4 ht4 hx4 hf4
   obtain ⟨X6, hX6⟩ : ∃ X6, X6 = W4.drew := ⟨_, rfl⟩
   have kX6 : Keeps [] W4 X6 := by rw [hX6]; exact (Keeps.refl [] _).drew
   have nb6 : X6.heap[q]? = some (.cells #[.slice au P.length cu, .int .i64 f, .int .i64 n, .int .i64 (fN : Int), .int .i64 (gN : Int)] 122 (0, 0)) := kX6.at_ HP6.out.1 (by simp)
   have HX6 := Lib.hid (And.intro hX6 (And.intro nb6 (And.intro (HP6.out.2.1.same kX6) (And.intro HP6.out.2.2.1 (And.intro (HP6.out.2.2.2.1.trans kX6) HP6.out.2.2.2.2)))))
   have s1 : X6.cell? ⟨q, 1, none⟩ = some (.int .i64 f) := by rw [cells_at nb6]; rfl
   have s2 : X6.cell? ⟨q, 2, none⟩ = some (.int .i64 n) := by rw [cells_at nb6]; rfl
   clear kX6 hX6 nb6
   refine wp_region_held_drew (S := fun w' => w'.cell? ⟨q, 1, none⟩ = some (.int .i64 f) ∧ w'.cell? ⟨q, 2, none⟩ = some (.int .i64 n)) (by kernel_rfl) (by rw [← HX6.out.1]; exact ⟨s1, s2⟩) (fun hS => ?_)
   rw [← HX6.out.1] at hS ⊢
   refine tk (v := ?_) 0 rfl ?_ ?_; rotate_left
   ·rintro _ ⟨s1, s2⟩; go_simp; (try with_reducible rfl)
   simp only [Act.put, zz]
   refine tk (v := ?_) 1 rfl ?_ ?_; rotate_left
   ·rintro _ ⟨s1, s2⟩; go_simp; (try with_reducible rfl)
   simp only [Act.put, zz]
   refine tk (v := ?_) 2 rfl ?_ ?_; rotate_left
   ·rintro _ ⟨s1, s2⟩; go_simp; (try with_reducible rfl)
   simp only [Act.put, zz]
   refine tk (v := ?_) 3 rfl ?_ ?_; rotate_left
   ·rintro _ ⟨s1, s2⟩; go_simp; (try with_reducible rfl)
   simp only [Act.put, zz]
   refine tk (v := ?_) 5 rfl ?_ ?_; rotate_left
   ·rintro _ ⟨s1, s2⟩; go_simp; (try with_reducible rfl)
   simp only [Act.put, zz]
   refine tk (v := ?_) 6 rfl ?_ ?_; rotate_left
   ·rintro _ ⟨s1, s2⟩; go_simp; (try with_reducible rfl)
   simp only [Act.put, zz]
   refine tk (v := ?_) 7 rfl ?_ ?_; rotate_left
   ·rintro _ ⟨s1, s2⟩; go_simp; (try with_reducible rfl)
   simp only [Act.put, zz]
   refine rd 4 rfl fun K hK => ?_
   go_simp
   go_at_call 97
   refine (uint_spec X6 _ L6 f (by have := HN.out; omega) (by omega) HX6.out.2.2.1).mono ?_
   rintro e A6 ⟨va6, rfl, hba6, hta6⟩
   have hxa6 := hta6.box HX6.out.2.1 HX6.out.2.2.2.2.2
   have hfa6 := hta6.fresh HX6.out.2.2.2.2.1 HX6.out.2.2.2.1
   have hla6 : (L6 ++ lebL f).length ≤ L6.length + 10 := by have := lebL_len10 (v := f) (by have := HN.out; omega); rw [List.length_append]; omega
   obtain ⟨M6, hM6⟩ : ∃ M6, M6 = L6 ++ lebL f := ⟨_, rfl⟩
   rw [← hM6] at hba6 hla6
   have HM6 := Lib.hid hM6
   clear hM6
   have HA6 := Lib.hid (And.intro hba6 (And.intro hxa6 hfa6))
   obtain ⟨aa6, ca6, hva6, -, -, -⟩ := row_slice hba6
   subst hva6
   have t1 : A6.cell? ⟨q, 1, none⟩ = some (.int .i64 f) := by rw [cells_at hxa6.1]; rfl
   have t2 : A6.cell? ⟨q, 2, none⟩ = some (.int .i64 n) := by rw [cells_at hxa6.1]; rfl
   clear hba6 hta6 hxa6 hfa6
   go_simp
   refine hK.out _ _ ⟨t1, t2⟩ (fun hS => ?_)
   clear hK K
   try simp only [Act.put, zz]
   refine rd 8 rfl fun K hK => ?_
   go_simp
   go_at_call 97
   refine (uint_spec A6 _ M6 n (by have := HN.out; omega) (by omega) HA6.out.1).mono ?_
   rintro e C6 ⟨vc6, rfl, hbc6, htc6⟩
   have hxc6 := htc6.box HA6.out.2.1.1 HA6.out.2.1.2
   have hfc6 := htc6.fresh HA6.out.2.2.1 HA6.out.2.2.2
   have hlc6 : (M6 ++ lebL n).length ≤ M6.length + 10 := by have := lebL_len10 (v := n) (by have := HN.out; omega); rw [List.length_append]; omega
   obtain ⟨K6, hK6⟩ : ∃ K6, K6 = M6 ++ lebL n := ⟨_, rfl⟩
   rw [← hK6] at hbc6 hlc6
   have HK6 := Lib.hid hK6
   clear hK6
   have HC6 := Lib.hid (And.intro hbc6 (And.intro hxc6 hfc6))
   obtain ⟨ac6, cc6, hvc6, -, -, -⟩ := row_slice hbc6
   subst hvc6
   have r1 : C6.cell? ⟨q, 1, none⟩ = some (.int .i64 f) := by rw [cells_at hxc6.1]; rfl
   have r2 : C6.cell? ⟨q, 2, none⟩ = some (.int .i64 n) := by rw [cells_at hxc6.1]; rfl
   clear hbc6 htc6 hxc6 hfc6
   go_simp
   refine hK.out _ _ ⟨r1, r2⟩ (fun hS => ?_)
   clear hK K
   try simp only [Act.put, zz]
   refine rd 9 rfl fun K hK => ?_
   go_simp
   go_simp
   refine hK.out _ _ ⟨r1, r2⟩ (fun hS => ?_)
   clear hK K
   try simp only [Act.put, zz]
   refine wpAnyH_done (by kernel_rfl) ?_ _
   clear hS s1 s2 t1 t2 r1 r2
   have HP7 := Lib.hid (And.intro HC6.out.2.1.1 (And.intro HC6.out.1 (And.intro HC6.out.2.2.2 (And.intro HC6.out.2.2.1 HC6.out.2.1.2))))
   obtain ⟨L7, hL7⟩ : ∃ L7, L7 = K6 := ⟨_, rfl⟩
   subst hL7
   go_upto_region 7 with fail
   obtain ⟨X7, hX7⟩ : ∃ X7, X7 = C6.drew := ⟨_, rfl⟩
   have kX7 : Keeps [] C6 X7 := by rw [hX7]; exact (Keeps.refl [] _).drew
   have nb7 : X7.heap[q]? = some (.cells #[.slice au P.length cu, .int .i64 f, .int .i64 n, .int .i64 (fN : Int), .int .i64 (gN : Int)] 122 (0, 0)) := kX7.at_ HP7.out.1 (by simp)
   have HX7 := Lib.hid (And.intro hX7 (And.intro nb7 (And.intro (HP7.out.2.1.same kX7) (And.intro HP7.out.2.2.1 (And.intro (HP7.out.2.2.2.1.trans kX7) HP7.out.2.2.2.2)))))
   have s1 : X7.cell? ⟨q, 3, none⟩ = some (.int .i64 (fN : Int)) := by rw [cells_at nb7]; rfl
   have s2 : X7.cell? ⟨q, 4, none⟩ = some (.int .i64 (gN : Int)) := by rw [cells_at nb7]; rfl
   clear kX7 hX7 nb7
   refine wp_region_held_drew (S := fun w' => w'.cell? ⟨q, 3, none⟩ = some (.int .i64 (fN : Int)) ∧ w'.cell? ⟨q, 4, none⟩ = some (.int .i64 (gN : Int))) (by kernel_rfl) (by rw [← HX7.out.1]; exact ⟨s1, s2⟩) (fun hS => ?_)
   rw [← HX7.out.1] at hS ⊢
   refine tk (v := ?_) 0 rfl ?_ ?_; rotate_left
   ·rintro _ ⟨s1, s2⟩; go_simp; (try with_reducible rfl)
   simp only [Act.put, zz]
   refine tk (v := ?_) 1 rfl ?_ ?_; rotate_left
   ·rintro _ ⟨s1, s2⟩; go_simp; (try with_reducible rfl)
   simp only [Act.put, zz]
   refine tk (v := ?_) 2 rfl ?_ ?_; rotate_left
   ·rintro _ ⟨s1, s2⟩; go_simp; (try with_reducible rfl)
   simp only [Act.put, zz]
   refine tk (v := ?_) 3 rfl ?_ ?_; rotate_left
   ·rintro _ ⟨s1, s2⟩; go_simp; (try with_reducible rfl)
   simp only [Act.put, zz]
   refine tk (v := ?_) 5 rfl ?_ ?_; rotate_left
   ·rintro _ ⟨s1, s2⟩; go_simp; (try with_reducible rfl)
   simp only [Act.put, zz]
   refine tk (v := ?_) 6 rfl ?_ ?_; rotate_left
   ·rintro _ ⟨s1, s2⟩; go_simp; (try with_reducible rfl)
   simp only [Act.put, zz]
   refine tk (v := ?_) 7 rfl ?_ ?_; rotate_left
   ·rintro _ ⟨s1, s2⟩; go_simp; (try with_reducible rfl)
   simp only [Act.put, zz]
   refine rd 4 rfl fun K hK => ?_
   go_simp
   go_at_call 97
   refine (uint_spec X7 _ L7 fN (by have := HN.out; omega) (by omega) HX7.out.2.2.1).mono ?_
   rintro e A7 ⟨va7, rfl, hba7, hta7⟩
   have hxa7 := hta7.box HX7.out.2.1 HX7.out.2.2.2.2.2
   have hfa7 := hta7.fresh HX7.out.2.2.2.2.1 HX7.out.2.2.2.1
   have hla7 : (L7 ++ lebL fN).length ≤ L7.length + 10 := by have := lebL_len10 (v := fN) (by have := HN.out; omega); rw [List.length_append]; omega
   obtain ⟨M7, hM7⟩ : ∃ M7, M7 = L7 ++ lebL fN := ⟨_, rfl⟩
   rw [← hM7] at hba7 hla7
   have HM7 := Lib.hid hM7
   clear hM7
   have HA7 := Lib.hid (And.intro hba7 (And.intro hxa7 hfa7))
   obtain ⟨aa7, ca7, hva7, -, -, -⟩ := row_slice hba7
   subst hva7
   have t1 : A7.cell? ⟨q, 3, none⟩ = some (.int .i64 (fN : Int)) := by rw [cells_at hxa7.1]; rfl
   have t2 : A7.cell? ⟨q, 4, none⟩ = some (.int .i64 (gN : Int)) := by rw [cells_at hxa7.1]; rfl
   clear hba7 hta7 hxa7 hfa7
   go_simp
   refine hK.out _ _ ⟨t1, t2⟩ (fun hS => ?_)
   clear hK K
   try simp only [Act.put, zz]
   refine rd 8 rfl fun K hK => ?_
   go_simp
   go_at_call 97
   refine (uint_spec A7 _ M7 gN (by have := HN.out; omega) (by omega) HA7.out.1).mono ?_
   rintro e C7 ⟨vc7, rfl, hbc7, htc7⟩
   have hxc7 := htc7.box HA7.out.2.1.1 HA7.out.2.1.2
   have hfc7 := htc7.fresh HA7.out.2.2.1 HA7.out.2.2.2
   have hlc7 : (M7 ++ lebL gN).length ≤ M7.length + 10 := by have := lebL_len10 (v := gN) (by have := HN.out; omega); rw [List.length_append]; omega
   obtain ⟨K7, hK7⟩ : ∃ K7, K7 = M7 ++ lebL gN := ⟨_, rfl⟩
   rw [← hK7] at hbc7 hlc7
   have HK7 := Lib.hid hK7
   clear hK7
   have HC7 := Lib.hid (And.intro hbc7 (And.intro hxc7 hfc7))
   obtain ⟨ac7, cc7, hvc7, -, -, -⟩ := row_slice hbc7
   subst hvc7
   have r1 : C7.cell? ⟨q, 3, none⟩ = some (.int .i64 (fN : Int)) := by rw [cells_at hxc7.1]; rfl
   have r2 : C7.cell? ⟨q, 4, none⟩ = some (.int .i64 (gN : Int)) := by rw [cells_at hxc7.1]; rfl
   clear hbc7 htc7 hxc7 hfc7
   go_simp
   refine hK.out _ _ ⟨r1, r2⟩ (fun hS => ?_)
   clear hK K
   try simp only [Act.put, zz]
   refine rd 9 rfl fun K hK => ?_
   go_simp
   go_simp
   refine hK.out _ _ ⟨r1, r2⟩ (fun hS => ?_)
   clear hK K
   try simp only [Act.put, zz]
   refine wpAnyH_done (by kernel_rfl) ?_ _
   clear hS s1 s2 t1 t2 r1 r2
   go_wp2_with fail
   go_roundg (E.length - (k + 1))
   case measure => have := Hg.out; omega
   case rel =>
    refine ⟨k + 1, hlt, rfl, by go_num, ⟨_, HC7.out.1, by omega, ?_⟩, HC7.out.2.2.2, HC7.out.2.2.1⟩
    rw [HK7.out, HM7.out, HK6.out, HM6.out, HL6.out, HLL.out, Htk.out, List.flatMap_append, ← HKey.out]
    simp [entL]
  ·have hlt1 : ¬ (k : Int) < (E.length : Int) := by omega
   have hrun : (convert 147 9 (.slice a3 l.length cp3)).run Tryz.prog wr = .ok (.string ⟨l.toArray⟩) wr := hbuf.run_string
   have hls : (⟨l.toArray⟩ : ByteArray).size ≤ 13010 := by show l.length ≤ _; omega
   obtain ⟨s0, hs0⟩ : ∃ s0 : ByteArray, s0 = ⟨l.toArray⟩ := ⟨_, rfl⟩
   rw [← hs0] at hrun hls
   have hkE : k = E.length := by omega
   have hidx : frameL 5 s0.data.toList = idxL (E.map (·.2)) := by
    rw [hs0, HLL.out, hkE, List.take_length]
    unfold idxL
    rw [List.length_map, List.flatMap_map]
   have HIdx := Lib.hid hidx
   clear hs0 hkE hidx
   have HR := Lib.hid hkr
   clear hbuf hown hkr hcv hgk
   go_wp2_with fail
   refine (frameAppend_spec wr (.slice none 0 0) [] 5 s0 (by simp; omega) (buf_nil wr)).mono ?_
   rintro e w5 ⟨v5, rfl, hb5, ht5⟩
   have hf5 := ht5.fresh HR.out (by simp [Value.ownBlock])
   have hrun5 := hb5.run_string
   have hl5 : ([] ++ frameL 5 s0.data.toList).length ≤ 14000 := by
    rw [List.nil_append, frameL_len, dsize]
    have := lebL_len10 (v := s0.size) (by omega)
    omega
   have hls5 : (⟨([] ++ frameL 5 s0.data.toList).toArray⟩ : ByteArray).size ≤ 14000 := hl5
   rw [List.nil_append, HIdx.out] at hrun5 hl5
   have H5 := Lib.hid (And.intro hl5 hf5.1)
   clear hls5
   obtain ⟨s5, hs5⟩ : ∃ s5 : ByteArray, s5 = ⟨(idxL (E.map (·.2))).toArray⟩ := ⟨_, rfl⟩
   rw [← hs5] at hrun5
   have HS5 := Lib.hid hs5
   clear hs5
   clear hb5 ht5 hf5 hl5 hrun
   go_wp2_with fail
   go_ret
   exact ⟨by rw [← HS5.out]; rfl, H5.out⟩
open Go Go.RowKit
theorem labN_all {Q : List PairB → Prop} (h0 : Q labA1) (h1 : Q labA1B2) (h2 : Q labA2) (h3 : Q labB1) (h4 : Q labJ) (n : Int) : Q (labN n) := by
 unfold labN
 repeat' split
 all_goals assumption
theorem labN_small (n : Int) : SmallP (labN n) ∧ (keyP (labN n)).size ≤ 90 ∧ chkSet (labN n) = true ∧ 0 < (labN n).length := by
 refine labN_all (Q := fun P => SmallP P ∧ (keyP P).size ≤ 90 ∧ chkSet P = true ∧ 0 < P.length) ?_ ?_ ?_ ?_ ?_ n
 all_goals
  refine ⟨⟨by decide, ?_⟩, by decide +kernel, by decide +kernel, by decide⟩
  intro p hp
  simp [labA1, labA1B2, labA2, labB1, labJ] at hp
  first | (rcases hp with rfl | rfl <;> exact ⟨by decide, by decide⟩) | (subst hp; exact ⟨by decide, by decide⟩)
theorem cloneS0_spec (w : World) : Calls Tryz.prog 67 #[.slice none 0 0] w fun e w' => e = .returned (.slice none 0 0) ∧ w' = w := by
 have qT : ∀ (w : World) (a : Option Addr) (n c : Nat), (binOp .eql 52 (.slice a n c) (.slice none 0 0)).run Tryz.prog w = .ok (.bool a.isNone) w := fun w a n c => run_eql_slice_nilP w _ _ a n c Tryz.underlying52
 go_enter Tryz.func67, Tryz.ntmps67
 go_wp2_with fail
 go_ret
 exact ⟨rfl, rfl⟩
theorem infoEntry : (Tryz.prog.info? 122).map (fun i => (i.zero, i.size, i.bytes)) = some (some (.agg #[.slice none 0 0, .int .i64 0, .int .i64 0, .int .i64 0, .int .i64 0]), 5, 56) := by kernel_rfl
open Go Go.RowKit
def zeroF : Array Value := #[.string ⟨#[]⟩, .int .i64 0, .int .i64 0, .int .i64 0, .int .i64 0, .int .i64 0, .slice none 0 0, .slice none 0 0, .string ⟨#[]⟩, .string ⟨#[]⟩]
structure BlkOk (A : TabT) (fr up : Nat) : Prop where
 good : GoodT A
 few : A.length ≤ 40 ∧ ∀ r ∈ A, r.1.length ≤ 2 ∧ r.2.length ≤ 110
 vals : ∀ r ∈ A, (∃ n, r.1 = labN n) ∧ ∀ s ∈ r.2, (fr : Int) ≤ s.1 ∧ s.1 < (up : Int) ∧ 0 ≤ s.2 ∧ s.2 < 18446744073709551616
 time : fr < up ∧ up ≤ 1099511627776
theorem BlkOk.fewT {A : TabT} {fr up : Nat} (h : BlkOk A fr up) : FewT A := ⟨by have := h.few.1; omega, fun r hr => by have := h.few.2 r hr; omega⟩
theorem BlkOk.smps {A : TabT} {fr up : Nat} (h : BlkOk A fr up) {r : RowT} (hr : r ∈ A) : SmpsOk r.2 := ⟨(h.good.smps r hr).1, fun s hs => by
 have h1 := (h.vals r hr).2 s hs
 have h2 := h.time
 exact ⟨by omega, by omega, h1.2.2⟩⟩
def chunksL (A : TabT) : List UInt8 := A.flatMap fun r => chunkF r.2
def firstT (L : List SmpB) : Nat := (L.headD (0, 0)).1.toNat
def lastT (L : List SmpB) : Nat := (L.getLastD (0, 0)).1.toNat
def entsF : Nat → TabT → List EntP
 | _, [] => []
 | at_, r :: A => (r.1, at_, (chunkF r.2).length, firstT r.2, lastT r.2) :: entsF (at_ + (chunkF r.2).length) A
theorem entsF_app : ∀ (at_ : Nat) (A : TabT) (r : RowT), entsF at_ (A ++ [r]) = entsF at_ A ++ [(r.1, at_ + (chunksL A).length, (chunkF r.2).length, firstT r.2, lastT r.2)]
 | at_, [], r => by simp [entsF, chunksL]
 | at_, q :: A, r => by
  rw [List.cons_append, entsF, entsF_app _ A r, entsF]
  simp [chunksL, Nat.add_assoc]
theorem entsF_len : ∀ (at_ : Nat) (A : TabT), (entsF at_ A).length = A.length
 | _, [] => rfl
 | at_, r :: A => by rw [entsF, List.length_cons, entsF_len _ A, List.length_cons]
theorem chunksL_len {A : TabT} (h : ∀ r ∈ A, SmpsOk r.2 ∧ r.2.length ≤ 110) : (chunksL A).length ≤ 3000 * A.length := by
 induction A with
 | nil => simp [chunksL]
 | cons r A ih =>
  have h1 := chunkF_len (L := r.2) (by have := (h r (by simp)).2; omega) (h r (by simp)).1
  have h2 := ih (fun q hq => h q (by simp [hq]))
  unfold chunksL at *
  rw [List.flatMap_cons, List.length_append, List.length_cons]
  omega
theorem BlkOk.chunks {A : TabT} {fr up : Nat} (h : BlkOk A fr up) : ∀ r ∈ A, SmpsOk r.2 ∧ r.2.length ≤ 110 := fun r hr => ⟨h.smps hr, (h.few.2 r hr).2⟩
theorem BlkOk.row {A : TabT} {fr up : Nat} (h : BlkOk A fr up) {r : RowT} (hr : r ∈ A) : 0 < r.2.length ∧ fr ≤ firstT r.2 ∧ firstT r.2 < up ∧ fr ≤ lastT r.2 ∧ lastT r.2 < up ∧ r.2[0]?.map (·.1) = some ((firstT r.2 : Nat) : Int) ∧ r.2[r.2.length - 1]?.map (·.1) = some ((lastT r.2 : Nat) : Int) := by
 have hne := (h.good.smps r hr).2
 have hl : 0 < r.2.length := by
  rcases Nat.eq_zero_or_pos r.2.length with h0 | h0
  ·exact absurd (List.eq_nil_of_length_eq_zero h0) hne
  ·exact h0
 have hv := (h.vals r hr).2
 have h1 := hv r.2[0] (List.getElem_mem hl)
 have h2 := hv (r.2[r.2.length - 1]'(by omega)) (List.getElem_mem _)
 have e1 : firstT r.2 = (r.2[0].1).toNat := by
  unfold firstT
  rw [List.headD_eq_head?_getD, List.head?_eq_getElem?, List.getElem?_eq_getElem hl]
  rfl
 have e2 : lastT r.2 = ((r.2[r.2.length - 1]'(by omega)).1).toNat := by
  unfold lastT
  rw [List.getLastD_eq_getLast?, List.getLast?_eq_getElem?, List.getElem?_eq_getElem (by omega)]
  rfl
 refine ⟨hl, by omega, by omega, by omega, by omega, ?_, ?_⟩
 ·rw [List.getElem?_eq_getElem hl, Option.map_some]
  congr 1
  omega
 ·rw [List.getElem?_eq_getElem (by omega), Option.map_some]
  congr 1
  omega
theorem entsF_ok {up : Nat} : ∀ {A : TabT} {at_ : Nat}, (∀ r ∈ A, (∃ n, r.1 = labN n) ∧ SmpsOk r.2 ∧ r.2.length ≤ 110 ∧ firstT r.2 < up ∧ lastT r.2 < up) → up ≤ 1099511627776 → at_ + 3000 * A.length ≤ 1000000 → ∀ e ∈ entsF at_ A, EntOk e
 | [], _, _, _, _ => fun e he => by cases he
 | r :: A, at_, h, ht, hl => fun e he => by
  obtain ⟨⟨n, hn⟩, h1, h2, h3, h4⟩ := h r (by simp)
  have hc := chunkF_len (L := r.2) (by omega) h1
  rw [List.length_cons] at hl
  rw [entsF] at he
  rcases List.mem_cons.1 he with rfl | he
  ·have hs := labN_small n
   rw [← hn] at hs
   exact ⟨hs.1, hs.2.1, by show at_ ≤ _; omega, by show (chunkF r.2).length ≤ _; omega, by show firstT r.2 ≤ _; omega, by show lastT r.2 ≤ _; omega⟩
  ·exact entsF_ok (A := A) (fun q hq => h q (by simp [hq])) ht (by omega) e he
theorem BlkOk.ents {A : TabT} {fr up : Nat} (h : BlkOk A fr up) : ∀ e ∈ entsF 0 A, EntOk e := entsF_ok (up := up) (fun r hr => by
 obtain ⟨-, h1, h2, h3, h4, -⟩ := h.row hr
 exact ⟨(h.vals r hr).1, h.smps hr, (h.few.2 r hr).2, h2, h4⟩) h.time.2 (by have := h.few.1; omega)
theorem set8of10 {w : World} {p : Nat} {t : TypeId} {a0 a1 a2 a3 a4 a5 a6 a7 a8 a9 v0 v1 v2 v3 v4 v5 v6 v7 : Value} {z : Nat × Nat} (h : w.heap[p]? = some (.cells #[a0, a1, a2, a3, a4, a5, a6, a7, a8, a9] t z)) :
  ((((((((w.setCell ⟨p, 0, none⟩ v0).setCell ⟨p, 1, none⟩ v1).setCell ⟨p, 2, none⟩ v2).setCell ⟨p, 3, none⟩ v3).setCell ⟨p, 4, none⟩ v4).setCell ⟨p, 5, none⟩ v5).setCell ⟨p, 6, none⟩ v6).setCell ⟨p, 7, none⟩ v7).heap[p]? = some (.cells #[v0, v1, v2, v3, v4, v5, v6, v7, a8, a9] t z) ∧
   Keeps [p] w ((((((((w.setCell ⟨p, 0, none⟩ v0).setCell ⟨p, 1, none⟩ v1).setCell ⟨p, 2, none⟩ v2).setCell ⟨p, 3, none⟩ v3).setCell ⟨p, 4, none⟩ v4).setCell ⟨p, 5, none⟩ v5).setCell ⟨p, 6, none⟩ v6).setCell ⟨p, 7, none⟩ v7) := by
 have h0 := heap_cell_same (i := 0) h v0
 have h1 := heap_cell_same (i := 1) h0 v1
 have h2 := heap_cell_same (i := 2) h1 v2
 have h3 := heap_cell_same (i := 3) h2 v3
 have h4 := heap_cell_same (i := 4) h3 v4
 have h5 := heap_cell_same (i := 5) h4 v5
 have h6 := heap_cell_same (i := 6) h5 v6
 have h7 := heap_cell_same (i := 7) h6 v7
 exact ⟨h7.trans (by simp), ((((((((Keeps.refl [p] w).setCell (.inl (by simp)) v0).setCell (.inl (by simp)) v1).setCell (.inl (by simp)) v2).setCell (.inl (by simp)) v3).setCell (.inl (by simp)) v4).setCell (.inl (by simp)) v5).setCell (.inl (by simp)) v6).setCell (.inl (by simp)) v7⟩
theorem set10of10 {w : World} {p : Nat} {t : TypeId} {a0 a1 a2 a3 a4 a5 a6 a7 a8 a9 v0 v1 v2 v3 v4 v5 v6 v7 v8 v9 : Value} {z : Nat × Nat} (h : w.heap[p]? = some (.cells #[a0, a1, a2, a3, a4, a5, a6, a7, a8, a9] t z)) :
  ∃ W, W = (((((((((w.setCell ⟨p, 0, none⟩ v0).setCell ⟨p, 1, none⟩ v1).setCell ⟨p, 2, none⟩ v2).setCell ⟨p, 3, none⟩ v3).setCell ⟨p, 4, none⟩ v4).setCell ⟨p, 5, none⟩ v5).setCell ⟨p, 6, none⟩ v6).setCell ⟨p, 7, none⟩ v7).setCell ⟨p, 8, none⟩ v8).setCell ⟨p, 9, none⟩ v9 ∧ W.heap[p]? = some (.cells #[v0, v1, v2, v3, v4, v5, v6, v7, v8, v9] t z) ∧ Keeps [p] w W := by
 have h0 := heap_cell_same (i := 0) h v0
 have h1 := heap_cell_same (i := 1) h0 v1
 have h2 := heap_cell_same (i := 2) h1 v2
 have h3 := heap_cell_same (i := 3) h2 v3
 have h4 := heap_cell_same (i := 4) h3 v4
 have h5 := heap_cell_same (i := 5) h4 v5
 have h6 := heap_cell_same (i := 6) h5 v6
 have h7 := heap_cell_same (i := 7) h6 v7
 have h8 := heap_cell_same (i := 8) h7 v8
 have h9 := heap_cell_same (i := 9) h8 v9
 exact ⟨_, rfl, h9.trans (by simp), (((((((((((Keeps.refl [p] w).setCell (.inl (by simp)) v0).setCell (.inl (by simp)) v1).setCell (.inl (by simp)) v2).setCell (.inl (by simp)) v3).setCell (.inl (by simp)) v4).setCell (.inl (by simp)) v5).setCell (.inl (by simp)) v6).setCell (.inl (by simp)) v7).setCell (.inl (by simp)) v8).setCell (.inl (by simp)) v9)⟩
theorem EntrAt.keepB {B : Nat} {w w' : World} {v vb : Value} {l : List UInt8} {E : List EntV} (h : EntrAt B w v E) (hb : Buf w vb l) (k : Keeps vb.ownBlock.toList w w') : EntrAt B w' v E :=
 ⟨k.row h.1 (rows_ne2 hb h.1 (by decide)), fun e he => k.row (h.2 e he) (rows_ne2 hb (h.2 e he) (by decide))⟩
def FilesAt (B : Nat) (w : World) (v : Value) (M : MetaS) (cb ib : ByteArray) : Prop :=
 ∃ vs, v = .agg (vs ++ [.string cb, .string ib]).toArray ∧ MetaR B w vs M ∧ MetaOk M ∧ M.files = [(chunksB, cb.size, moreN 0 cb.data.toList), (indexB, ib.size, moreN 0 ib.data.toList)] ∧ cb.size ≤ 160000 ∧ ib.size ≤ 14000
def chunksT (A : TabT) : ByteArray := ⟨(chunksL A).toArray⟩
def idxT (A : TabT) : ByteArray := ⟨(idxL (entsF 0 A)).toArray⟩
def builtC (id cb ib : ByteArray) (fr up lv n s c1 c2 : Nat) : MetaS := ⟨id, fr, up, lv, n, s, [(chunksB, cb.size, c1), (indexB, ib.size, c2)], []⟩
def builtM (id : ByteArray) (fr up lv : Nat) (A : TabT) : MetaS := builtC id (chunksT A) (idxT A) fr up lv A.length (countL A) (moreN 0 (chunksT A).data.toList) (moreN 0 (idxT A).data.toList)
theorem builtC_ok {id cb ib : ByteArray} {fr up lv n s c1 c2 : Nat} (hid : isIDB id.data.toList = true) (ht : fr < up ∧ up ≤ 1099511627776) (hlv : 1 ≤ lv ∧ lv ≤ 9) (hn : n ≤ s) (hs : s ≤ 4400) (h1 : cb.size ≤ 160000) (h2 : ib.size ≤ 14000) (h3 : c1 < 4294967296) (h4 : c2 < 4294967296) : MetaOk (builtC id cb ib fr up lv n s c1 c2) := by
 refine ⟨hid, ht, hlv, ⟨hn, by show s ≤ _; omega⟩, ⟨_, _, _, _, rfl, by omega, by omega, h3, h4⟩, by show (0 : Nat) ≤ 50; omega, ?_, ?_⟩
 ·intro s hs
  cases hs
 ·exact List.Pairwise.nil
def BldRel (w : World) (A : TabT) (n gk : Nat) (u15 u16 u28 : Value) (wr : World) : Prop :=
 ∃ k, k ≤ n ∧ gk = n - k ∧ u28 = .int .i64 (k : Nat) ∧ (∃ l, Buf wr u15 l ∧ l.length ≤ 4000 * k ∧ l = chunksL (A.take k)) ∧ (∀ g, u15.ownBlock = some g → w.heap.size ≤ g) ∧ (∃ E, EntrAt w.heap.size wr u16 E ∧ E.length = k ∧ E.map (·.2) = entsF 0 (A.take k)) ∧ Keeps [] w wr
theorem build_spec (w : World) (hX : XorVar w) (B : Nat) (v : Value) (A : TabT) (h : TabAt 76 91 B w v A) (fr up lv : Nat) (hok : BlkOk A fr up) (hlv : 1 ≤ lv ∧ lv ≤ 9) (id : ByteArray) (hid : isIDB id.data.toList = true) :
  Calls Tryz.prog 38 #[.string id, .int .i64 (fr : Nat), .int .i64 (up : Nat), .int .i64 (lv : Nat), .slice none 0 0, v] w fun e w' => ∃ v, e = .returned (.tuple #[v, .int .i64 0]) ∧ FilesAt w.heap.size w' v (builtM id fr up lv A) (chunksT A) (idxT A) ∧ Keeps [] w w' := by
 have H := Lib.hid (And.intro h (And.intro hok hX))
 have HLv := Lib.hid hlv
 clear hlv
 obtain ⟨a0, c0, rfl⟩ := h.form
 have hA := hok.few.1
 obtain ⟨q, hq⟩ : ∃ q, q = w.heap.size := ⟨_, rfl⟩
 obtain ⟨W2, hW2⟩ : ∃ W2, W2 = (w.alloc (.cells zeroF 102)).alloc (.cells zeroF 102) := ⟨_, rfl⟩
 have k2 : Keeps [] w W2 := by rw [hW2]; exact ((Keeps.refl [] w).alloc _).alloc _
 have n2 : W2.heap[q]? = some (.cells zeroF 102 (0, 0)) ∧ W2.heap[q + 1]? = some (.cells zeroF 102 (0, 0)) := by rw [hW2, hq]; exact new2 w _ _
 have hsz : W2.heap.size = q + 2 := by rw [hW2, hq]; simp
 have H2 := Lib.hid (And.intro n2 (And.intro k2 (And.intro hsz hq)))
 unfold zeroF at hW2
 have hgood := Lib.hid (good_spec W2 B _ A (h.keep k2) hok.good hok.fewT)
 clear h hok hX k2 n2 hsz
 go_enter Tryz.func38, Tryz.ntmps38
 go_wp2_with fail
 rw [← hq, ← hW2]
 clear hq hW2
 refine hgood.out.mono ?_
 rintro e W3 ⟨rfl, k3⟩
 have H3 := Lib.hid (And.intro (k3.at_ H2.out.1.1 (by simp)) (And.intro (k3.at_ H2.out.1.2 (by simp)) (And.intro (H2.out.2.1.trans k3) (by have := k3.size; have := H2.out.2.2.1; omega : q + 2 ≤ W3.heap.size))))
 clear hgood k3
 go_wp2_with fail
 go_loopg [15, 16, 28] A.length (BldRel W3 A A.length)
 case atStart => exact ⟨0, Nat.zero_le _, rfl, rfl, ⟨[], buf_nil _, by simp, rfl⟩, by simp [Value.ownBlock], ⟨[], ⟨World.ownsRow_nil _ _ _ 5, by simp⟩, rfl, rfl⟩, Keeps.refl _ _⟩
 case round =>
  obtain ⟨k, hk, hgk, rfl, ⟨l, hbuf, hl, hlc⟩, hown, ⟨E, hE, hEl, hEe⟩, hkr⟩ := hrel
  have Hg := Lib.hid (And.intro hgk (And.intro hEl (And.intro hlc hEe)))
  have hE40 : E.length ≤ 40 := by omega
  clear hgk hEl hlc hEe
  by_cases hlt : k < A.length
  ·have hkw := H3.out.2.2.1.trans hkr
   have hT := H.out.1.keep hkw
   obtain ⟨b, off, u1, u2, e1, hb, d0, d1, r1, r2⟩ := hT.at_ k hlt
   subst e1
   have hrow := List.getElem_mem hlt
   obtain ⟨⟨nl, hnl⟩, hsm⟩ := H.out.2.1.vals _ hrow
   have hf1 := (H.out.2.1.few.2 _ hrow).2
   have hg1 := H.out.2.1.good.smps _ hrow
   have hsO := H.out.2.1.smps hrow
   obtain ⟨hLp, hF1, hF2, hF3, hF4, hF5, hF6⟩ := H.out.2.1.row hrow
   have hlab := labN_small nl
   rw [← hnl] at hlab
   have hAk := take_push hlt
   clear hnl hrow
   have hAke : A[k] = (A[k].1, A[k].2) := rfl
   rw [hAke] at hAk
   clear hAke
   generalize A[k].1 = P at d0 r1 hlab hAk
   generalize A[k].2 = L at d1 r2 hsm hf1 hg1 hsO hAk hLp hF1 hF2 hF3 hF4 hF5 hF6
   obtain ⟨T0, hT0⟩ : ∃ T0, T0 = firstT L := ⟨_, rfl⟩
   obtain ⟨T1, hT1⟩ : ∃ T1, T1 = lastT L := ⟨_, rfl⟩
   rw [← hT0] at hF1 hF2 hF5
   rw [← hT1] at hF3 hF4 hF6
   have HAk := Lib.hid (And.intro hAk (And.intro hT0 hT1))
   clear hAk hT0 hT1
   have hLpos : 0 < L.length := hLp
   obtain ⟨a1, n1, rfl, -, -, -⟩ := row_slice r1
   obtain ⟨g2, n2, rfl⟩ := row_someR r2 hLpos
   have hlt1 : (k : Int) < (A.length : Int) := by omega
   have kW : Keeps [] wr (wr.alloc (.cells #[.slice a1 P.length n1, .slice (some ⟨g2, 0, none⟩) L.length n2] 76)) := (Keeps.refl [] wr).alloc _
   have nx := heap_new wr (.cells #[.slice a1 P.length n1, .slice (some ⟨g2, 0, none⟩) L.length n2] 76)
   go_upto_region 9 with fail
   have hbW := Nat.le_of_lt (World.ownsRow.lt r2 g2 rfl).2
   have HA := Lib.hid (And.intro (r1 : wr.ownsRow 0 91 2 (.slice a1 P.length n1) P.length (P.flatMap encPB)) (And.intro r2 (And.intro hbuf (And.intro hown (And.intro hE hkr)))))
   generalize wr.alloc (.cells #[.slice a1 P.length n1, .slice (some ⟨g2, 0, none⟩) L.length n2] 76) = W at kW nx ⊢
   generalize wr.heap.size = qb at nx ⊢
   obtain ⟨N, hN⟩ : ∃ N, N = L.length := ⟨_, rfl⟩
   rw [← hN] at nx ⊢
   obtain ⟨m, hm⟩ : ∃ m, N = m + 1 := ⟨N - 1, by omega⟩
   have hmi : (N : Int) - 1 = (m : Int) := by omega
   have hml : (m : Int) < (N : Int) := by omega
   have hl0 : (0 : Int) < (N : Int) := by omega
   have hL0 : ¬ (N : Int) = 0 := by omega
   have hNb : ((N : Int) == 0) = false := by rw [beq_eq_false_iff_ne]; exact hL0
   have hmw : IntKind.i64.wrap (m : Int) = (m : Int) := IntWalk.i64_in _ (by omega)
   have hs0 : (fr : Int) ≤ T0 ∧ (T0 : Int) < up := by omega
   have hs1 : (fr : Int) ≤ T1 ∧ (T1 : Int) < up := by omega
   have hF5' : (L[0]'hLpos).1 = (T0 : Int) := by
    rw [List.getElem?_eq_getElem hLpos, Option.map_some] at hF5
    exact Option.some.inj hF5
   have hF6' : (L[m]'(by omega)).1 = (T1 : Int) := by
    rw [show L.length - 1 = m by omega, List.getElem?_eq_getElem (by omega), Option.map_some] at hF6
    exact Option.some.inj hF6
   have hsL : SmpsOk L := hsO
   have HS := Lib.hid (And.intro hlab (And.intro hsL (And.intro hLpos (And.intro hf1 (And.intro hm (And.intro hs0 (And.intro hs1 hN)))))))
   have hcells : ∀ W' : World, W'.ownsRow 0 50 2 (.slice (some ⟨g2, 0, none⟩) L.length n2) L.length (L.flatMap encSm) → W'.cell? ⟨g2, 0, none⟩ = some (.int .i64 T0) ∧ W'.cell? ⟨g2, m * 2, none⟩ = some (.int .i64 T1) ∧ g2 < W'.heap.size := fun W' hk' => by
    obtain ⟨b5, o5, e5, h5, f5, -⟩ := smp_at hk' 0 hLpos
    obtain ⟨b6, o6, e6, h6, f6, -⟩ := smp_at hk' m (by omega)
    injection e5 with e5
    injection e5 with e5 e5' _
    injection e6 with e6
    injection e6 with e6 e6' _
    subst e5 e5' e6 e6'
    exact ⟨by rw [← hF5']; simpa using f5, by rw [← hF6']; simpa using f6, h5⟩
   have Hcells := Lib.hid hcells
   have HW := Lib.hid (And.intro nx kW)
   obtain ⟨f0, f1, lg⟩ := hcells W (kW.row r2 (by simp))
   have cx := cells_at nx
   have lx := lt_of_at nx
   have ht0 : ¬ (T0 : Int) < (fr : Int) := by omega
   have ht1 : ¬ (T1 : Int) ≥ (up : Int) := by omega
   clear hN hF1 hF2 hF3 hF4 hF5 hF6 hF5' hF6' hLp hsO d0 d1 hb hT hkw r1 r2 hsm hlab hf1 hg1 hLpos hm hs0 hs1 hsL hcells kW nx hbuf hown hE hkr hbW
   go_wp2_with fail
   refine (checkN_spec W _ P (sliceFrom_row (enc := encPB) (fun _ => rfl) (HW.out.2.row HA.out.1 (by simp))).arg HS.out.1.2.2.1).mono ?_
   rintro e W4 ⟨rfl, k4⟩
   have kW4 := HW.out.2.trans k4
   have n4 := k4.at_ HW.out.1 (by simp)
   have HW4 := Lib.hid (And.intro n4 kW4)
   clear f0 f1 lg cx lx
   obtain ⟨f0, f1, lg⟩ := Hcells.out W4 (kW4.row HA.out.2.1 (by simp))
   have cx := cells_at n4
   have lx := lt_of_at n4
   clear k4 kW4 n4
   obtain ⟨a15, c15, hv15, -, -, -⟩ := row_slice HA.out.2.2.1
   subst hv15
   go_wp2_with fail
   have hXW : XorVar W4 := (H.out.2.2.same H3.out.2.2.1).same (HA.out.2.2.2.2.2.trans HW4.out.2)
   have hrow4 : W4.ownsRow 0 50 2 (.slice (some ⟨g2, 0, none⟩) N n2) L.length (L.flatMap encSm) := by
    rw [HS.out.2.2.2.2.2.2.2]
    exact HW4.out.2.row HA.out.2.1 (by simp)
   have hbuf4 := HA.out.2.2.1.same HW4.out.2
   refine (chunks_spec W4 hXW _ l hbuf4 (by omega) (fun g hg => by have := HA.out.2.2.2.1 g hg; have := H3.out.2.2.2; have := H2.out.2.2.2; have := H.out.2.2.lt; omega) 0 _ L hrow4 (by have := HS.out.2.2.1; have := HS.out.2.2.2.1; omega) HS.out.2.1).mono ?_
   rintro e W5 ⟨v5, rfl, hb5, ht5⟩
   have hcl := chunkF_len (L := L) (by have := HS.out.2.2.2.1; omega) HS.out.2.1
   have hlen5 : (l ++ chunkF L).length = l.length + (chunkF L).length := List.length_append
   obtain ⟨l5, hl5⟩ : ∃ l5, l5 = l ++ chunkF L := ⟨_, rfl⟩
   rw [← hl5] at hb5 hlen5
   have HL5 := Lib.hid (And.intro hl5 hlen5)
   have hge5 : l.length ≤ l5.length := by omega
   have hle5 : l5.length ≤ l.length + 4000 := by omega
   clear hl5 hcl hlen5
   have k35 := ht5.fresh (HA.out.2.2.2.2.2.trans HW4.out.2) HA.out.2.2.2.1
   have n5 := ht5.keeps.at_ HW4.out.1 (fun hm => row_ne_type hbuf4 HW4.out.1 (by decide) qb (by simpa using hm) rfl)
   have r5 : W5.ownsRow 0 50 2 (.slice (some ⟨g2, 0, none⟩) L.length n2) L.length (L.flatMap encSm) := ht5.keeps.row (HW4.out.2.row HA.out.2.1 (by simp)) (rows_ne2 hbuf4 (HW4.out.2.row HA.out.2.1 (by simp)) (by decide))
   have p5 : W5.ownsRow 0 91 2 (.slice a1 P.length n1) P.length (P.flatMap encPB) := ht5.keeps.row (HW4.out.2.row HA.out.1 (by simp)) (rows_ne2 hbuf4 (HW4.out.2.row HA.out.1 (by simp)) (by decide))
   have hE5 := (HA.out.2.2.2.2.1.keep HW4.out.2).keepB hbuf4 ht5.keeps
   obtain ⟨a5, c5, hv5, -, -, -⟩ := row_slice hb5
   subst hv5
   clear f0 f1 lg cx lx hXW
   obtain ⟨f0, f1, lg⟩ := Hcells.out W5 r5
   have cx := cells_at n5
   have lx := lt_of_at n5
   obtain ⟨a16, c16, hv16, -, -, -⟩ := row_slice hE5.1
   subst hv16
   have H5 := Lib.hid (And.intro n5 (And.intro p5 (And.intro hb5 (And.intro hE5 (And.intro k35 (And.intro hge5 (And.intro hle5 r5)))))))
   clear hrow4 hbuf4 ht5 k35 n5 r5 p5 hE5 hb5
   go_upto_region 17 with fail
   obtain ⟨d, hd⟩ : ∃ d, d = l5.length - l.length := ⟨_, rfl⟩
   have hdi : (l5.length : Int) - (l.length : Int) = (d : Int) := by omega
   have hdw : IntKind.i64.wrap (d : Int) = (d : Int) := IntWalk.i64_in _ (by omega)
   have hd4 : d ≤ 4000 := by omega
   have HD := Lib.hid (show d = (chunkF L).length by have := HL5.out.2; omega)
   have hNp : 0 < N := by omega
   have hmN : m < N := by omega
   clear hd f0 f1 lg cx lx
   obtain ⟨X0, hX0⟩ : ∃ X0, X0 = W5.drew := ⟨_, rfl⟩
   have kX : Keeps [] W5 X0 := by rw [hX0]; exact (Keeps.refl [] _).drew
   have hr5 : W5.ownsRow 0 50 2 (.slice (some ⟨g2, 0, none⟩) L.length n2) L.length (L.flatMap encSm) := H5.out.2.2.2.2.2.2.2
   have hS4 : ∀ W' : World, W'.heap[qb]? = some (.cells #[.slice a1 P.length n1, .slice (some ⟨g2, 0, none⟩) N n2] 76 (0, 0)) → W'.ownsRow 0 50 2 (.slice (some ⟨g2, 0, none⟩) L.length n2) L.length (L.flatMap encSm) → W'.cell? ⟨qb, 0, none⟩ = some (.slice a1 P.length n1) ∧ W'.cell? ⟨qb, 1, none⟩ = some (.slice (some ⟨g2, 0, none⟩) N n2) ∧ W'.cell? ⟨g2, 0, none⟩ = some (.int .i64 T0) ∧ W'.cell? ⟨g2, m * 2, none⟩ = some (.int .i64 T1) := fun W' h1 h2 => by
    obtain ⟨q1, q2, -⟩ := Hcells.out W' h2
    exact ⟨by rw [cells_at h1]; rfl, by rw [cells_at h1]; rfl, q1, q2⟩
   have HX0 := Lib.hid (And.intro hX0 (And.intro kX (And.intro hS4 (And.intro hr5 (hS4 X0 (kX.at_ H5.out.1 (by simp)) (kX.row hr5 (by simp)))))))
   obtain ⟨s1, s2, s3, s4⟩ := HX0.out.2.2.2.2
   clear hX0 kX hS4 hr5
   obtain ⟨ie, hie, hz0, hz1, hz2⟩ := info_parts infoEntry
   have lg := HX0.out.2.2.2.1
   refine wp_region_held_drew (S := fun w' => w'.cell? ⟨qb, 0, none⟩ = some (.slice a1 P.length n1) ∧ w'.cell? ⟨qb, 1, none⟩ = some (.slice (some ⟨g2, 0, none⟩) N n2) ∧ w'.cell? ⟨g2, 0, none⟩ = some (.int .i64 T0) ∧ w'.cell? ⟨g2, m * 2, none⟩ = some (.int .i64 T1)) (by kernel_rfl) (by rw [← HX0.out.1]; exact ⟨s1, s2, s3, s4⟩) (fun hS => ?_)
   rw [← HX0.out.1] at hS ⊢
   refine tk (v := ?_) 0 rfl ?_ ?_; rotate_left
   ·rintro _ ⟨s1, s2, s3, s4⟩; go_simp; (try with_reducible rfl)
   simp only [Act.put, zz]
   refine tk (v := ?_) 1 rfl ?_ ?_; rotate_left
   ·rintro _ ⟨s1, s2, s3, s4⟩; go_simp; (try with_reducible rfl)
   simp only [Act.put, zz]
   refine tk (v := ?_) 2 rfl ?_ ?_; rotate_left
   ·rintro _ ⟨s1, s2, s3, s4⟩; go_simp; (try with_reducible rfl)
   simp only [Act.put, zz]
   refine tk (v := ?_) 4 rfl ?_ ?_; rotate_left
   ·rintro _ ⟨s1, s2, s3, s4⟩; go_simp; (try with_reducible rfl)
   simp only [Act.put, zz]
   refine tk (v := ?_) 5 rfl ?_ ?_; rotate_left
   ·rintro _ ⟨s1, s2, s3, s4⟩; go_simp; (try with_reducible rfl)
   simp only [Act.put, zz]
   refine tk (v := ?_) 6 rfl ?_ ?_; rotate_left
   ·rintro _ ⟨s1, s2, s3, s4⟩; go_simp; (try with_reducible rfl)
   simp only [Act.put, zz]
   refine tk (v := ?_) 7 rfl ?_ ?_; rotate_left
   ·rintro _ ⟨s1, s2, s3, s4⟩; go_simp; (try with_reducible rfl)
   simp only [Act.put, zz]
   refine tk (v := ?_) 8 rfl ?_ ?_; rotate_left
   ·rintro _ ⟨s1, s2, s3, s4⟩; go_simp; (try with_reducible rfl)
   simp only [Act.put, zz]
   refine tk (v := ?_) 9 rfl ?_ ?_; rotate_left
   ·rintro _ ⟨s1, s2, s3, s4⟩; go_simp; (try with_reducible rfl)
   simp only [Act.put, zz]
   refine tk (v := ?_) 10 rfl ?_ ?_; rotate_left
   ·rintro _ ⟨s1, s2, s3, s4⟩; go_simp; (try with_reducible rfl)
   simp only [Act.put, zz]
   refine tk (v := ?_) 11 rfl ?_ ?_; rotate_left
   ·rintro _ ⟨s1, s2, s3, s4⟩; go_simp; (try with_reducible rfl)
   simp only [Act.put, zz]
   refine tk (v := ?_) 12 rfl ?_ ?_; rotate_left
   ·rintro _ ⟨s1, s2, s3, s4⟩; go_simp; (try with_reducible rfl)
   simp only [Act.put, zz]
   refine tk (v := ?_) 13 rfl ?_ ?_; rotate_left
   ·rintro _ ⟨s1, s2, s3, s4⟩; go_simp; (try with_reducible rfl)
   simp only [Act.put, zz]
   refine tk (v := ?_) 14 rfl ?_ ?_; rotate_left
   ·rintro _ ⟨s1, s2, s3, s4⟩; go_simp; (try with_reducible rfl)
   simp only [Act.put, zz]
   refine tk (v := ?_) 15 rfl ?_ ?_; rotate_left
   ·rintro _ ⟨s1, s2, s3, s4⟩; go_simp; (try with_reducible rfl)
   simp only [Act.put, zz]
   refine tk (v := ?_) 16 rfl ?_ ?_; rotate_left
   ·rintro _ ⟨s1, s2, s3, s4⟩; go_simp; (try with_reducible rfl)
   simp only [Act.put, zz]
   refine tk (v := ?_) 17 rfl ?_ ?_; rotate_left
   ·rintro _ ⟨s1, s2, s3, s4⟩; go_simp; (try with_reducible rfl)
   simp only [Act.put, zz]
   refine tk (v := ?_) 18 rfl ?_ ?_; rotate_left
   ·rintro _ ⟨s1, s2, s3, s4⟩; go_simp; (try with_reducible rfl)
   simp only [Act.put, zz]
   refine tk (v := ?_) 19 rfl ?_ ?_; rotate_left
   ·rintro _ ⟨s1, s2, s3, s4⟩; go_simp; (try with_reducible rfl)
   simp only [Act.put, zz]
   refine tk (v := ?_) 20 rfl ?_ ?_; rotate_left
   ·rintro _ ⟨s1, s2, s3, s4⟩; go_simp; (try with_reducible rfl)
   simp only [Act.put, zz]
   refine rd 3 rfl fun K hK => ?_
   go_simp
   go_at_call 31
   refine (cloneT_spec X0 0 _ P (HX0.out.2.1.row H5.out.2.1 (by simp)) HS.out.1.2.2.2 HS.out.1.1.1).mono ?_
   rintro e A1 ⟨v80, rfl, hc80, kA⟩
   obtain ⟨a80, c80, hv80, -, -, -⟩ := row_slice hc80
   subst hv80
   have k51 := HX0.out.2.1.trans kA
   have HA1 := Lib.hid (And.intro hc80 (And.intro k51 (HX0.out.2.2.1 A1 (k51.at_ H5.out.1 (by simp)) (k51.row HX0.out.2.2.2.1 (by simp)))))
   obtain ⟨t1, t2, t3, t4⟩ := HA1.out.2.2
   clear kA k51 hc80
   go_simp
   refine hK.out _ _ ⟨t1, t2, t3, t4⟩ (fun hS => ?_)
   clear hK K
   try simp only [Act.put, zz]
   refine tk (v := ?_) 21 rfl ?_ ?_; rotate_left
   ·rintro _ ⟨s1, s2, s3, s4⟩; go_simp; (try with_reducible rfl)
   simp only [Act.put, zz]
   refine rd 22 rfl fun K hK => ?_
   go_simp
   have kB : Keeps [] A1 (A1.alloc (.cells #[.slice a80 P.length c80, .int .i64 l.length, .int .i64 d, .int .i64 T0, .int .i64 T1] 122)) := (Keeps.refl [] _).alloc _
   have nB := heap_new A1 (.cells #[.slice a80 P.length c80, .int .i64 l.length, .int .i64 d, .int .i64 T0, .int .i64 T1] 122)
   generalize A1.alloc (.cells #[.slice a80 P.length c80, .int .i64 l.length, .int .i64 d, .int .i64 T0, .int .i64 T1] 122) = B1 at kB nB ⊢
   have k5B := HA1.out.2.1.trans kB
   have nqB := k5B.at_ H5.out.1 (by simp)
   have hrB := k5B.row HX0.out.2.2.2.1 (by simp)
   have hEB := H5.out.2.2.2.1.keep k5B
   have HB1 := Lib.hid (And.intro kB (And.intro nB (And.intro k5B (And.intro nqB (And.intro hrB (And.intro hEB (HX0.out.2.2.1 B1 nqB hrB)))))))
   obtain ⟨z1, z2, z3, z4⟩ := HB1.out.2.2.2.2.2.2
   clear kB nB k5B nqB hrB hEB
   refine hK.out _ _ ⟨z1, z2, z3, z4⟩ (fun hS => ?_)
   clear hK K
   try simp only [Act.put, zz]
   refine rd 23 rfl fun K hK => ?_
   refine step_append_own rfl (.tmp 77) (.tmp 99) 118 rfl W3.heap.size 122 ie _ 5 56 Tryz.underlying118 hie hz0 hz1 hz2 rfl (by decide) (.slice a16 E.length c16) E.length (E.flatMap encE) (by rfl) HB1.out.2.2.2.2.2.1.1 ⟨A1.heap.size, 0, none⟩ 1 1 [.slice a80 P.length c80, .int .i64 l.length, .int .i64 d, .int .i64 T0, .int .i64 T1] (by rfl) rfl (news_of HB1.out.2.1) (by simp [Value.oneCell']) (by simp only [maxLen]; omega) (by omega) (by have := H5.out.2.2.2.2.1.1.size; have := HB1.out.2.2.1.size; omega) ?_
   intro v8 w8 hown8 hgrow8
   have k8 := keeps_rowM hgrow8
   have n8 := k8.at_ HB1.out.2.2.2.1 (fun hm => row_ne_type HB1.out.2.2.2.2.2.1.1 HB1.out.2.2.2.1 (by decide) qb (by simpa using hm) rfl)
   have r8 := k8.row HB1.out.2.2.2.2.1 (rows_ne2 HB1.out.2.2.2.2.2.1.1 HB1.out.2.2.2.2.1 (by decide))
   obtain ⟨a8, c8, hv8, -, -, -⟩ := row_slice hown8
   subst hv8
   have H8 := Lib.hid (And.intro hown8 (And.intro k8 (HX0.out.2.2.1 w8 n8 r8)))
   obtain ⟨y1, y2, y3, y4⟩ := H8.out.2.2
   clear hown8 hgrow8 k8 n8 r8
   go_simp
   refine hK.out _ _ ⟨y1, y2, y3, y4⟩ (fun hS => ?_)
   clear hK K
   try simp only [Act.put, zz]
   refine rd 24 rfl fun K hK => ?_
   go_simp
   go_simp
   refine hK.out _ _ ⟨y1, y2, y3, y4⟩ (fun hS => ?_)
   clear hK K
   try simp only [Act.put, zz]
   refine wpAnyH_done (by kernel_rfl) ?_ _
   clear hS s1 s2 s3 s4 t1 t2 t3 t4 z1 z2 z3 z4 y1 y2 y3 y4
   go_wp2_with fail
   go_roundg (A.length - (k + 1))
   case measure => have := Hg.out.1; omega
   case rel =>
    refine ⟨k + 1, hlt, rfl, by go_num, ⟨l5, ?_, by omega, by rw [HL5.out.1, Hg.out.2.2.1, HAk.out.1]; simp [chunksL]⟩, H5.out.2.2.2.2.1.2, ⟨E ++ [(.slice a80 P.length c80, (P, l.length, d, T0, T1))], ?_, by simp [Hg.out.2.1], ?_⟩, ?_⟩
    ·exact (H5.out.2.2.1.same HB1.out.2.2.1).keep H8.out.2.1 (fun g hg => rows_ne2 HB1.out.2.2.2.2.2.1.1 (H5.out.2.2.1.same HB1.out.2.2.1) (by decide) g hg)
    ·refine ⟨by simpa [encE] using H8.out.1, fun e he => ?_⟩
     rcases List.mem_append.1 he with he | he
     ·have h3 := HB1.out.2.2.2.2.2.1.2 e he
      exact H8.out.2.1.row h3 (rows_ne2 HB1.out.2.2.2.2.2.1.1 h3 (by decide))
     ·obtain rfl : e = _ := by simpa using he
      have h3 := HB1.out.1.row HA1.out.1 (by simp)
      exact row_base (H8.out.2.1.row h3 (rows_ne2 HB1.out.2.2.2.2.2.1.1 h3 (by decide))) (Nat.zero_le _)
    ·rw [List.map_append, Hg.out.2.2.2, HAk.out.1, entsF_app, HD.out, HAk.out.2.1, HAk.out.2.2, Hg.out.2.2.1]
     simp
    ·exact (H5.out.2.2.2.2.1.1.trans HB1.out.2.2.1).after H8.out.2.1 (fun x hx => .inr (World.ownsRow.lt HB1.out.2.2.2.2.2.1.1 x (by simpa using hx)).1)
  ·have hlt1 : ¬ (k : Int) < (A.length : Int) := by omega
   have hkA : k = A.length := by omega
   obtain ⟨a15, c15, hv15, -, -, -⟩ := row_slice hbuf
   subst hv15
   obtain ⟨a16, c16, hv16, -, -, -⟩ := row_slice hE.1
   subst hv16
   have hEA : E.map (·.2) = entsF 0 A := by rw [Hg.out.2.2.2, hkA, List.take_length]
   have hEok : ∀ e ∈ E, EntOk e.2 := fun e he => H.out.2.1.ents e.2 (by rw [← hEA]; exact List.mem_map_of_mem he)
   have HE := Lib.hid (And.intro hEA hEok)
   obtain ⟨cb, hcb⟩ : ∃ cb : ByteArray, cb = ⟨l.toArray⟩ := ⟨_, rfl⟩
   have HCB := Lib.hid (show cb = chunksT A by rw [hcb, Hg.out.2.2.1, hkA, List.take_length]; rfl)
   have hcz : cb.size ≤ 160000 := by rw [hcb]; show l.length ≤ _; omega
   have hkw := H3.out.2.2.1.trans hkr
   have hN2 : (Value.slice a15 l.length c15).ownBlock ≠ some (q + 1) := fun hg => by
    have := hown _ hg
    have := H3.out.2.2.2
    omega
   have hrun : ∀ w', Keeps [q + 1] wr w' → (convert 147 9 (.slice a15 l.length c15)).run Tryz.prog w' = .ok (.string cb) w' := fun w' hk' => by
    rw [hcb]
    exact (hbuf.keep hk' (fun g hg hm => by
     obtain rfl : g = q + 1 := by simpa using hm
     exact hN2 hg)).run_string
   have HL := Lib.hid (And.intro hkr (And.intro hE (And.intro hkw (And.intro hkA hrun))))
   clear hcb hN2 hbuf hown hE hkr hkA hl hkw hEA hEok
   go_upto_region 19 with fail
   obtain ⟨X0, hX0⟩ : ∃ X0, X0 = wr.drew := ⟨_, rfl⟩
   have kX : Keeps [] wr X0 := by rw [hX0]; exact (Keeps.refl [] _).drew
   have HX := Lib.hid (And.intro hX0 kX)
   have s1 := hrun X0 (kX.mono (by simp))
   clear hX0 kX hrun
   refine wp_region_held_drew (S := fun w' => (convert 147 9 (.slice a15 l.length c15)).run Tryz.prog w' = .ok (.string cb) w') (by kernel_rfl) (by rw [← HX.out.1]; exact s1) (fun hS => ?_)
   rw [← HX.out.1] at hS ⊢
   refine tk (v := ?_) 0 rfl ?_ ?_; rotate_left
   ·intro w' s1; go_simp; (try with_reducible rfl)
   simp only [Act.put, zz]
   refine tk (v := ?_) 1 rfl ?_ ?_; rotate_left
   ·intro w' s1; go_simp; (try with_reducible rfl)
   simp only [Act.put, zz]
   refine tk (v := ?_) 2 rfl ?_ ?_; rotate_left
   ·intro w' s1; go_simp; (try with_reducible rfl)
   simp only [Act.put, zz]
   refine tk (v := ?_) 4 rfl ?_ ?_; rotate_left
   ·intro w' s1; go_simp; (try with_reducible rfl)
   simp only [Act.put, zz]
   refine rd 3 rfl fun K hK => ?_
   go_simp
   go_at_call 65
   refine (index_spec X0 _ _ E (HL.out.2.1.keep HX.out.2) (by omega) HE.out.2).mono ?_
   rintro e A1 ⟨rfl, hib, kA⟩
   rw [HE.out.1] at hib ⊢
   obtain ⟨ib, hibe⟩ : ∃ ib : ByteArray, ib = ⟨(idxL (entsF 0 A)).toArray⟩ := ⟨_, rfl⟩
   have hib : ib.size ≤ 14000 := by rw [hibe]; exact hib
   rw [← hibe]
   have HIB := Lib.hid (show ib = idxT A from hibe)
   clear hibe
   have k1 := HX.out.2.trans kA
   have nA := (HL.out.1.trans k1).at_ H3.out.2.1 (by simp)
   have HA := Lib.hid (And.intro k1 (And.intro hib nA))
   have t1 := HL.out.2.2.2.2 A1 (k1.mono (by simp))
   unfold zeroF at nA
   have cA := cells_at nA
   have fA := free_at nA
   have lA := lt_of_at nA
   clear kA k1 hib nA
   go_simp
   refine hK.out _ _ t1 (fun hS => ?_)
   clear hK K
   try simp only [Act.put, zz]
   refine rd 5 rfl fun K hK => ?_
   go_simp
   have k2' : Keeps [q + 1] A1 (A1.setCell ⟨q + 1, 8, none⟩ (.string cb)) := (Keeps.refl _ A1).setCell (.inl (by simp)) _
   have nA2 := heap_cell_same (i := 8) HA.out.2.2 (.string cb)
   generalize A1.setCell ⟨q + 1, 8, none⟩ (.string cb) = A2 at k2' nA2 ⊢
   have k12 : Keeps [q + 1] wr A2 := (HA.out.1.mono (by simp)).trans k2'
   have t2 := HL.out.2.2.2.2 A2 k12
   have HA2 := Lib.hid (And.intro k12 nA2)
   unfold zeroF at nA2
   simp only [List.setIfInBounds_toArray, List.set_cons_zero, List.set_cons_succ] at nA2
   have c2 := cells_at nA2
   have f2 := free_at nA2
   have l2 := lt_of_at nA2
   clear k2' nA2 k12 cA fA lA
   refine hK.out _ _ t2 (fun hS => ?_)
   clear hK K
   try simp only [Act.put, zz]
   refine tk (v := ?_) 6 rfl ?_ ?_; rotate_left
   ·intro w' s1; go_simp; (try with_reducible rfl)
   simp only [Act.put, zz]
   refine rd 7 rfl fun K hK => ?_
   go_simp
   have k3' : Keeps [q + 1] A2 (A2.setCell ⟨q + 1, 9, none⟩ (.string ib)) := (Keeps.refl _ A2).setCell (.inl (by simp)) _
   have nA3 := heap_cell_same (i := 9) HA2.out.2 (.string ib)
   generalize A2.setCell ⟨q + 1, 9, none⟩ (.string ib) = A3 at k3' nA3 ⊢
   have k13 : Keeps [q + 1] wr A3 := HA2.out.1.trans k3'
   have t3 := HL.out.2.2.2.2 A3 k13
   unfold zeroF at nA3
   simp only [List.setIfInBounds_toArray, List.set_cons_zero, List.set_cons_succ] at nA3
   have HA3 := Lib.hid (And.intro k13 nA3)
   clear k3' nA3 k13 c2 f2 l2
   refine hK.out _ _ t3 (fun hS => ?_)
   clear hK K
   try simp only [Act.put, zz]
   refine wpAnyH_done (by kernel_rfl) ?_ _
   clear hS s1 t1 t2 t3
   have hib := HA.out.2.1
   have kw3 : Keeps [] w A3 := HL.out.2.2.1.after HA3.out.1 (fun x hx => .inr (by have := H2.out.2.2.2; simp at hx; omega))
   have H7 := Lib.hid kw3
   have Hc := Lib.hid (count_spec A3 B _ A (H.out.1.keep kw3) H.out.2.1.fewT)
   have hcl := countL_le (A := A) (m := 110) (fun r hr => (H.out.2.1.few.2 r hr).2)
   have hcg := countL_ge (A := A) (fun r hr => (H.out.2.1.good.smps r hr).2)
   generalize hcount : countL A = cA at Hc hcl hcg
   have HC := Lib.hid hcount
   clear hcount kw3
   have hcl2 : cA ≤ 4400 := by omega
   go_wp2_with fail
   refine Hc.out.mono ?_
   rintro e A4 ⟨rfl, k4⟩
   have H8 := Lib.hid (And.intro (HA3.out.1.trans (k4.mono (by simp))) (And.intro (k4.at_ HA3.out.2 (by simp)) (H7.out.trans k4)))
   clear k4
   have c4 := cells_at H8.out.2.1
   have f4 := free_at H8.out.2.1
   have l4 := lt_of_at H8.out.2.1
   go_wp2_with fail
   refine (cloneS0_spec A4).mono ?_
   rintro e A5 ⟨rfl, rfl⟩
   go_upto_region 21 with fail
   obtain ⟨n6, k6⟩ := set8of10 (v0 := .string id) (v1 := .int .i64 (fr : Nat)) (v2 := .int .i64 (up : Nat)) (v3 := .int .i64 (lv : Nat)) (v4 := .int .i64 (A.length : Nat)) (v5 := .int .i64 (cA : Nat)) (v6 := .slice none 0 0) (v7 := .slice none 0 0) H8.out.2.1
   obtain ⟨A6, hA6⟩ : ∃ A6, A6 = (((((((A5.setCell ⟨q + 1, 0, none⟩ (.string id)).setCell ⟨q + 1, 1, none⟩ (.int .i64 (fr : Nat))).setCell ⟨q + 1, 2, none⟩ (.int .i64 (up : Nat))).setCell ⟨q + 1, 3, none⟩ (.int .i64 (lv : Nat))).setCell ⟨q + 1, 4, none⟩ (.int .i64 (A.length : Nat))).setCell ⟨q + 1, 5, none⟩ (.int .i64 (cA : Nat))).setCell ⟨q + 1, 6, none⟩ (.slice none 0 0)).setCell ⟨q + 1, 7, none⟩ (.slice none 0 0) := ⟨_, rfl⟩
   rw [← hA6] at n6 k6 ⊢
   clear hA6 c4 f4 l4
   obtain ⟨X6, hX6⟩ : ∃ X6, X6 = A6.drew := ⟨_, rfl⟩
   have kX : Keeps [] A6 X6 := by rw [hX6]; exact (Keeps.refl [] _).drew
   have nX := kX.at_ n6 (by simp)
   have H9 := Lib.hid (And.intro hX6 (And.intro (H8.out.1.trans (k6.trans (kX.mono (by simp)))) nX))
   have hcs : ∀ w', Keeps [] X6 w' → w'.cell? ⟨q + 1, 8, none⟩ = some (.string cb) ∧ w'.cell? ⟨q + 1, 9, none⟩ = some (.string ib) := fun w' hk' => by
    have hn' := hk'.at_ nX (by simp)
    exact ⟨by rw [cells_at hn']; rfl, by rw [cells_at hn']; rfl⟩
   have Hcs := Lib.hid hcs
   obtain ⟨s1, s2⟩ := hcs X6 (Keeps.refl _ _)
   clear hcs kX nX hX6 n6 k6
   refine wp_region_held_drew (S := fun w' => w'.cell? ⟨q + 1, 8, none⟩ = some (.string cb) ∧ w'.cell? ⟨q + 1, 9, none⟩ = some (.string ib)) (by kernel_rfl) (by rw [← H9.out.1]; exact ⟨s1, s2⟩) (fun hS => ?_)
   rw [← H9.out.1] at hS ⊢
   refine tk (v := ?_) 0 rfl ?_ ?_; rotate_left
   ·rintro _ ⟨s1, s2⟩; go_simp; (try with_reducible rfl)
   simp only [Act.put, zz]
   refine tk (v := ?_) 1 rfl ?_ ?_; rotate_left
   ·rintro _ ⟨s1, s2⟩; go_simp; (try with_reducible rfl)
   simp only [Act.put, zz]
   refine tk (v := ?_) 3 rfl ?_ ?_; rotate_left
   ·rintro _ ⟨s1, s2⟩; go_simp; (try with_reducible rfl)
   simp only [Act.put, zz]
   refine tk (v := ?_) 4 rfl ?_ ?_; rotate_left
   ·rintro _ ⟨s1, s2⟩; go_simp; (try with_reducible rfl)
   simp only [Act.put, zz]
   refine rd 2 rfl fun K hK => ?_
   go_simp
   go_at_call 68
   refine (of_spec X6 chunksB cb (by omega)).mono ?_
   rintro e B1 ⟨rfl, kB1⟩
   have HB1 := Lib.hid kB1
   obtain ⟨t1, t2⟩ := Hcs.out B1 kB1
   clear kB1
   go_simp
   refine hK.out _ _ ⟨t1, t2⟩ (fun hS => ?_)
   clear hK K
   try simp only [Act.put, zz]
   refine rd 5 rfl fun K hK => ?_
   go_simp
   go_at_call 68
   refine (of_spec B1 indexB ib (by omega)).mono ?_
   rintro e B2 ⟨rfl, kB2⟩
   have HB2 := Lib.hid (HB1.out.trans kB2)
   obtain ⟨y1, y2⟩ := Hcs.out B2 HB2.out
   clear kB2
   go_simp
   refine hK.out _ _ ⟨y1, y2⟩ (fun hS => ?_)
   clear hK K
   try simp only [Act.put, zz]
   generalize hcrc1 : moreN 0 cb.data.toList = crc1
   generalize hcrc2 : moreN 0 ib.data.toList = crc2
   have HCR := Lib.hid (And.intro hcrc1 hcrc2)
   clear hcrc1 hcrc2
   refine rd 6 rfl fun K hK => ?_
   go_simp
   have kB3 := (Keeps.refl [] B2).alloc (.cells #[.string chunksB, .int .i64 cb.size, .int .u32 crc1, .string indexB, .int .i64 ib.size, .int .u32 crc2] 157)
   have nB3 := heap_new B2 (.cells #[.string chunksB, .int .i64 cb.size, .int .u32 crc1, .string indexB, .int .i64 ib.size, .int .u32 crc2] 157)
   generalize B2.alloc (.cells #[.string chunksB, .int .i64 cb.size, .int .u32 crc1, .string indexB, .int .i64 ib.size, .int .u32 crc2] 157) = B3 at kB3 nB3 ⊢
   have k93 := HB2.out.trans kB3
   have nq3 := k93.at_ H9.out.2.2 (by simp)
   obtain ⟨fb, hfb⟩ : ∃ fb, fb = B2.heap.size := ⟨_, rfl⟩
   rw [← hfb] at nB3 ⊢
   have hfq : q + 1 < fb := by rw [hfb]; exact lt_of_at (HB2.out.at_ H9.out.2.2 (by simp))
   have HB3 := Lib.hid (And.intro k93 (And.intro nB3 (And.intro nq3 hfb)))
   obtain ⟨z1, z2⟩ := Hcs.out B3 k93
   have c3 := cells_at nq3
   have f3 := free_at nq3
   have l3 := lt_of_at nq3
   clear kB3 nB3 k93 nq3 hfb
   refine hK.out _ _ ⟨z1, z2⟩ (fun hS => ?_)
   clear hK K
   try simp only [Act.put, zz]
   refine tk (v := ?_) 7 rfl ?_ ?_; rotate_left
   ·rintro _ ⟨s1, s2⟩; go_simp; (try with_reducible rfl)
   simp only [Act.put, zz]
   refine tk (v := ?_) 8 rfl ?_ ?_; rotate_left
   ·rintro _ ⟨s1, s2⟩; go_simp; (try with_reducible rfl)
   simp only [Act.put, zz]
   refine rd 9 rfl fun K hK => ?_
   go_simp
   have kB4 : Keeps [q + 1] B3 (B3.setCell ⟨q + 1, 6, none⟩ (.slice (some ⟨fb, 0, none⟩) 2 2)) := (Keeps.refl _ B3).setCell (.inl (by simp)) _
   have nB4 := heap_cell_same (i := 6) HB3.out.2.2.1 (.slice (some ⟨fb, 0, none⟩) 2 2)
   generalize B3.setCell ⟨q + 1, 6, none⟩ (.slice (some ⟨fb, 0, none⟩) 2 2) = B4 at kB4 nB4 ⊢
   simp only [List.setIfInBounds_toArray, List.set_cons_zero, List.set_cons_succ] at nB4
   have nf4 := kB4.at_ HB3.out.2.1 (by simp; omega)
   have k94 : Keeps [q + 1] wr B4 := (H9.out.2.1.trans (HB3.out.1.mono (by simp))).trans kB4
   have HB4 := Lib.hid (And.intro nB4 (And.intro nf4 k94))
   clear c3 f3 l3
   have c3 := cells_at nB4
   have f3 := free_at nB4
   have l3 := lt_of_at nB4
   clear kB4 nB4 nf4 k94
   refine hK.out _ _ ⟨by rw [c3]; rfl, by rw [c3]; rfl⟩ (fun hS => ?_)
   clear hK K
   try simp only [Act.put, zz]
   refine wpAnyH_done (by kernel_rfl) ?_ _
   clear hS s1 s2 t1 t2 y1 y2 z1 z2
   have hg1 : ¬ (A.length : Int) > 10000 := by omega
   have hg2 : ¬ (cb.size : Int) > 1048576 := by omega
   have hg3 : ¬ (ib.size : Int) > 1048576 := by omega
   have hkw4 : Keeps [] w B4 := HL.out.2.2.1.after HB4.out.2.2 (fun x hx => .inr (by have := H2.out.2.2.2; simp at hx; omega))
   have hMR : MetaR w.heap.size B4 [.string id, .int .i64 (fr : Nat), .int .i64 (up : Nat), .int .i64 (lv : Nat), .int .i64 (A.length : Nat), .int .i64 (cA : Nat), .slice (some ⟨fb, 0, none⟩) 2 2, .slice none 0 0] (builtC id cb ib fr up lv A.length cA crc1 crc2) := by
    refine ⟨_, _, rfl, ⟨rfl, .inr ⟨fb, 2, _, rfl, ?_, HB4.out.2.1, Nat.le_refl _, by decide, rfl, rfl⟩⟩, World.ownsRow_nil _ _ _ 1⟩
    have := H2.out.2.2.2
    omega
   have hMO := builtC_ok (fr := fr) (up := up) (lv := lv) (n := A.length) (s := cA) (c1 := crc1) (c2 := crc2) hid H.out.2.1.time HLv.out hcg hcl2 (cb := cb) (ib := ib) hcz hib (by rw [← HCR.out.1]; exact moreN_lt _ _) (by rw [← HCR.out.2]; exact moreN_lt _ _)
   have Hchk := Lib.hid (metaCheck_spec _ B4 _ _ hMR.metaV hMO)
   have HM := Lib.hid (And.intro hMR (And.intro hMO hkw4))
   clear hMR hMO hkw4
   go_wp2_with fail
   refine Hchk.out.mono ?_
   rintro e B5 ⟨rfl, k5⟩
   have nq5 := k5.at_ (HB4.out.2.2.at_ (HL.out.1.at_ H3.out.1 (by simp)) (by simp)) (by simp)
   have np5 := k5.at_ HB4.out.1 (by simp)
   have H5 := Lib.hid (And.intro nq5 (And.intro np5 (And.intro (HM.out.1.same k5) (HM.out.2.2.trans k5))))
   unfold zeroF at nq5 H5
   clear c3 f3 l3 k5
   have c5 := cells_at np5
   have l5 := lt_of_at np5
   have c6 := cells_at nq5
   have f6 := free_at nq5
   have l6 := lt_of_at nq5
   clear nq5 np5
   go_wp2_with fail
   obtain ⟨W9, hW9, n9, k9⟩ := set10of10 (v0 := .string id) (v1 := .int .i64 (fr : Nat)) (v2 := .int .i64 (up : Nat)) (v3 := .int .i64 (lv : Nat)) (v4 := .int .i64 (A.length : Nat)) (v5 := .int .i64 (cA : Nat)) (v6 := .slice (some ⟨fb, 0, none⟩) 2 2) (v7 := .slice none 0 0) (v8 := .string cb) (v9 := .string ib) H5.out.1
   rw [← hW9]
   have e9 := cells_at n9
   have l9 := lt_of_at n9
   refine bodyPost_ret (v := .tuple #[.agg #[.string id, .int .i64 (fr : Nat), .int .i64 (up : Nat), .int .i64 (lv : Nat), .int .i64 (A.length : Nat), .int .i64 (cA : Nat), .slice (some ⟨fb, 0, none⟩) 2 2, .slice none 0 0, .string cb, .string ib], .int .i64 0]) (by simp [results, Tryz.results38, go_sem, e9, l9]) rfl ?_
   have hqw := H2.out.2.2.2
   have hMe : builtM id fr up lv A = builtC id cb ib fr up lv A.length cA crc1 crc2 := by
    rw [← HC.out, ← HCR.out.1, ← HCR.out.2, HCB.out, HIB.out]
    rfl
   rw [hMe, ← HCB.out, ← HIB.out]
   refine ⟨_, rfl, ⟨[.string id, .int .i64 (fr : Nat), .int .i64 (up : Nat), .int .i64 (lv : Nat), .int .i64 (A.length : Nat), .int .i64 (cA : Nat), .slice (some ⟨fb, 0, none⟩) 2 2, .slice none 0 0], rfl, ?_, HM.out.2.1, ?_, hcz, hib⟩, H5.out.2.2.2.after k9 (fun x hx => .inr (by simp at hx; omega))⟩
   ·obtain ⟨vf, vo, e, r1, r2⟩ := H5.out.2.2.1
    refine ⟨vf, vo, e, k9.row r1 (fun g hg hm => ?_), k9.row r2 (fun g hg hm => ?_)⟩
    ·obtain rfl : g = q := by simpa using hm
     exact row_ne_type r1 H5.out.1 (by decide) g hg rfl
    ·obtain rfl : g = q := by simpa using hm
     exact row_ne_type r2 H5.out.1 (by decide) g hg rfl
   ·show [(chunksB, cb.size, crc1), (indexB, ib.size, crc2)] = _
    rw [HCR.out.1, HCR.out.2]
end Go.Proofs.YtgcfkhcogllgfaaGreatDoor
