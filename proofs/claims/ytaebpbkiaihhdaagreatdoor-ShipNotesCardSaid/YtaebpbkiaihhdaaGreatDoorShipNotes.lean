/-
  ShipNotes: what is noted stays noted; walked.
  The package's variable xor.widths holds what its text says (XorVar); the library's variable holds some number.
-/
import Derived.Test.YtaebpbkiaihhdaaGreatDoorNoted
import Derived.Test.YtaebpbkiaihhdaaGreatDoorShipP
namespace Go.Proofs.YtaebpbkiaihhdaaGreatDoor
open Go Go.RowKit

set_option linter.unusedSimpArgs false in
set_option maxRecDepth 100000 in
set_option maxHeartbeats 4000000 in
theorem shipNotes_walk (w : World) (hv : LibVar w) (hX : XorVar w) (v : Value) (L : List One14) (h : SliceArg 3 encO14 w v L) (hb : ∀ x ∈ L, 0 ≤ x.1 ∧ 0 ≤ x.2.2 ∧ x.2.2 < 18446744073709551616) (at0 : Int) (vc : Value) (C : List Int) (hC : SliceArg 1 encN w vc C) (hCi : ∀ x ∈ C, -9223372036854775808 ≤ x ∧ x ≤ 9223372036854775807) :
    Calls Tryz.prog 5 #[v, .int .i64 at0, vc] w fun e w' => e = .returned (.bool true) ∧ Keeps [] w w' := by
  have H := Lib.hid (And.intro h (And.intro hv (And.intro hX hb)))
  obtain ⟨av, cv, rfl, -, -⟩ := h
  obtain ⟨tv, tc, htv, -, -⟩ := id hC
  rw [htv] at hC
  have HC := Lib.hid (And.intro hC hCi)
  subst htv
  obtain ⟨an, han⟩ : ∃ an : Nat, (an : Int) = min (max at0 0) 1073741824 := ⟨(min (max at0 0) 1073741824).toNat, by omega⟩
  have han1 : an ≤ 1073741824 := by omega
  clear hv hX hb hC hCi
  go_enter Tryz.func5, Tryz.ntmps5
  go_wp2_with fail
  refine (newDisk_spec w 1048576 (by decide)).mono ?_
  rintro e W0 ⟨d, f, c, mb, rfl, hD0, k0, q1, q2, q3, q4⟩
  rw [show (max (1048576 : Int) 0).toNat = 1048576 from rfl] at hD0
  have H0 := Lib.hid (And.intro hD0 (And.intro k0 (And.intro q1 (And.intro q2 (And.intro q3 q4)))))
  have Hbl := Lib.hid (block_spec W0 (H.out.2.1.same k0) (H.out.2.2.1.same k0) _ L (H.out.1.keep k0) H.out.2.2.2 1 1 (by decide) (by decide))
  clear hD0 k0 q1 q2 q3 q4
  go_wp2_with fail
  refine Hbl.out.mono ?_
  rintro e W1 ⟨fv2, M, cb, ib, rfl, ⟨vs, rfl, ⟨vf, vo, rfl, r1, r2⟩, hMO, -, -, -⟩, -, k1⟩
  obtain ⟨af, cf, rfl, -, -, -⟩ := row_slice r1
  obtain ⟨ao, co, rfl, -, -, -⟩ := row_slice r2
  have H1 := Lib.hid (And.intro r1 (And.intro r2 (And.intro hMO (And.intro (H0.out.1.same k1) (H0.out.2.1.trans k1)))))
  have hsz1 := k1.size
  clear r1 r2 hMO k1 Hbl
  have kW := (Keeps.refl [] W1).alloc (.cells #[.string M.id, .int .i64 M.mn, .int .i64 M.mx, .int .i64 M.level, .int .i64 M.series, .int .i64 M.samples, .slice af M.files.length cf, .slice ao M.sources.length co, .string cb, .string ib] 28)
  have nW := heap_new W1 (.cells #[.string M.id, .int .i64 M.mn, .int .i64 M.mx, .int .i64 M.level, .int .i64 M.series, .int .i64 M.samples, .slice af M.files.length cf, .slice ao M.sources.length co, .string cb, .string ib] 28)
  go_wp2_with fail
  generalize W1.alloc (.cells #[.string M.id, .int .i64 M.mn, .int .i64 M.mx, .int .i64 M.level, .int .i64 M.series, .int .i64 M.samples, .slice af M.files.length cf, .slice ao M.sources.length co, .string cb, .string ib] 28) = W2 at kW nW ⊢
  obtain ⟨pf, hpf⟩ : ∃ pf, pf = W1.heap.size := ⟨_, rfl⟩
  rw [← hpf] at nW ⊢
  rw [← han]
  have hlt := H0.out.1.lt
  have hord : pf ≠ d ∧ pf ≠ f ∧ pf ≠ c ∧ pf ≠ mb := by omega
  have H2 := Lib.hid (And.intro nW (And.intro kW hord))
  clear nW kW hpf hlt hord hsz1 han
  refine (awake18_spec W2).mono ?_
  rintro e W4 ⟨rfl, k4⟩
  have k14 := H2.out.2.1.trans k4
  have n4 := k4.at_ H2.out.1 (by simp)
  have hMV : MetaV W0.heap.size W4 (metaCs M (.slice af M.files.length cf) (.slice ao M.sources.length co)) M := (show MetaR W0.heap.size W4 (metaCs M (.slice af M.files.length cf) (.slice ao M.sources.length co)) M from ⟨_, _, rfl, k14.row H1.out.1 (by simp), k14.row H1.out.2.1 (by simp)⟩).metaV
  have Hn := Lib.hid (note_spec W4 d f c mb _ false [] 1048576 [] (H1.out.2.2.2.1.same k14) M af ao _ cf _ co hMV H1.out.2.2.1 an (by omega))
  have H4 := Lib.hid (And.intro n4 (H1.out.2.2.2.2.trans k14))
  have c4 := cells_at n4
  have l4 := lt_of_at n4
  clear n4 k14 k4 hMV
  obtain ⟨g1, g2, g3, -, g5⟩ := note_law (room := 1048576) (o := []) (M := M) (K := [tmpB, noteB M.id]) H1.out.2.2.1 (a := an) ⟨List.nodup_nil, fun n hn => by cases hn⟩ (by simp) (by simp)
  have hTz := noteT_size H1.out.2.2.1 (a := an) (by omega)
  have hu0 : used ([] : List (ByteArray × Ob)) = 0 := rfl
  rw [hu0] at g3 g5
  have g6 : (noteS 1048576 [] [] M an).1 = 0 ∧ look (noteS 1048576 [] [] M an).2.2 (noteB M.id) = some (noteT M an, ((noteT M an).size : Int)) := by
    rcases g5 with ⟨-, -, g5⟩ | g5
    · omega
    · exact g5
  go_wp2_with fail
  refine Hn.out.mono ?_
  rintro e W5 ⟨rfl, a5, hD5, k5⟩
  rw [g6.1]
  rw [g1] at hD5
  obtain ⟨o5, ho5⟩ : ∃ o5, o5 = (noteS 1048576 [] [] M an).2.2 := ⟨_, rfl⟩
  rw [← ho5] at hD5 g2 g3
  have g7 := g6.2
  rw [← ho5] at g7
  have n5 := k5.at_ H4.out.1 (by have := H2.out.2.2; simp; omega)
  have kw5 : Keeps [] w W5 := H4.out.2.after k5 (fun x hx => .inr (by have := H0.out.2.2; simp at hx; omega))
  have hKz := g2.sizes (fun n hn => by
    have := noteB_size M.id
    have := id16 H1.out.2.2.1.id
    simp only [List.mem_cons, List.not_mem_nil, or_false] at hn
    rcases hn with rfl | rfl
    · decide
    · omega) (by show 2 ≤ 100; decide)
  have hcr := crash_keep C o5
  have H5 := Lib.hid (And.intro hD5 (And.intro n5 (And.intro kw5 (And.intro g2 (And.intro (hcr.2.2 _ _ g7) hKz)))))
  have Hcr := Lib.hid (crash_spec W5 d f c mb a5 [] 1048576 o5 hD5 (.slice tv C.length tc) C (fun w' k' => HC.out.1.keep (kw5.after k' (fun x hx => .inr (by have := H0.out.2.2; simp at hx; omega)))) HC.out.2 hKz.1 hKz.2 (by omega))
  clear g1 g2 g3 g5 g6 g7 hTz hu0 ho5 c4 l4 hD5 k5 n5 kw5 hKz hcr Hn
  go_wp2_with fail
  refine Hcr.out.mono ?_
  rintro e W6 ⟨rfl, hD6, k6⟩
  obtain ⟨o6, ho6⟩ : ∃ o6, o6 = crashO C o5 := ⟨_, rfl⟩
  rw [← ho6] at hD6
  have hK6 := H5.out.2.2.2.1.crash C
  have hl6 := H5.out.2.2.2.2.1
  rw [← ho6] at hK6 hl6
  have hn6 : names o6 shpB = [noteB M.id] := names_only hK6.nodup (look_some_mem hl6) (note_pre _) (fun n hn hp => by
    have hm := hK6.mem n hn
    simp only [List.mem_cons, List.not_mem_nil, or_false] at hm
    rcases hm with rfl | rfl
    · rw [show hasPre tmpB shpB = false from tmp_noNote] at hp
      cases hp
    · rfl)
  have hz6 := hK6.sizes (fun n hn => by
    have := noteB_size M.id
    have := id16 H1.out.2.2.1.id
    simp only [List.mem_cons, List.not_mem_nil, or_false] at hn
    rcases hn with rfl | rfl
    · decide
    · omega) (by show 2 ≤ 100; decide)
  have n6 := k6.at_ H5.out.2.1 (by have := H2.out.2.2; simp; omega)
  have kw6 : Keeps [] w W6 := H5.out.2.2.1.after k6 (fun x hx => .inr (by have := H0.out.2.2; simp at hx; omega))
  have Hnd := Lib.hid (noted_one W6 d f c mb false [] 1048576 o6 hD6 hz6.1 hz6.2 M H1.out.2.2.1 an (by omega) hn6 _ hl6)
  have H6 := Lib.hid (And.intro hD6 (And.intro n6 (And.intro kw6 (And.intro hK6 (And.intro hl6 hz6)))))
  clear hD6 k6 ho6 hK6 hl6 hn6 hz6 n6 kw6 Hcr
  go_wp2_with fail
  refine Hnd.out.mono ?_
  rintro e W7 ⟨v7, vf7, vo7, rfl, hrow7, k7⟩
  obtain ⟨a7, cp7, rfl, -, -, -⟩ := row_slice hrow7
  have hg7 : ∃ g, a7 = some ⟨g, 0, none⟩ ∧ g < W7.heap.size ∧ W7.cell? ⟨g, 0, none⟩ = some (.string M.id) ∧ W7.cell? ⟨g, 8, none⟩ = some (.int .i64 an) := by
    obtain ⟨-, ⟨e, _⟩ | ⟨g, cp, cur, e, -⟩⟩ := id hrow7
    · cases e
    · injection e with e _ _
      subst e
      exact ⟨g, rfl, (World.ownsRow.lt hrow7 g rfl).2, by rw [World.ownsRow.cellAt hrow7 0 (by decide)]; rfl, by rw [World.ownsRow.cellAt hrow7 8 (by decide)]; rfl⟩
  obtain ⟨g7, rfl, lg7, cg0, cg8⟩ := hg7
  have n7 := k7.at_ H6.out.2.1 (by simp)
  have H7 := Lib.hid (And.intro (H6.out.1.same k7) (And.intro n7 (H6.out.2.2.1.trans k7)))
  have c7 := cells_at n7
  have l7 := lt_of_at n7
  have ha1 : ((an : Int) != (an : Int)) = false := by simp
  clear n7 hrow7 k7 Hnd
  go_upto_region 8 with fail
  go_quiet (fail)
  rename_i nq
  obtain ⟨W8, hW8⟩ : ∃ W, W = W7.drewN nq := ⟨_, rfl⟩
  have kd : Keeps [] W7 W8 := by rw [hW8]; exact (Keeps.refl [] W7).drewN nq
  have n8 := kd.at_ H7.out.2.1 (by simp)
  have H8 := Lib.hid (And.intro (H7.out.1.same kd) (And.intro n8 (H7.out.2.2.trans kd)))
  rw [← hW8]
  clear c7 l7 cg0 cg8 lg7 kd hW8 ha1
  have c8 := cells_at n8
  have l8 := lt_of_at n8
  have hid16 := id16 H1.out.2.2.1.id
  have Hf := Lib.hid (forget_spec W8 d f c mb false [] 1048576 o6 H8.out.1 M.id (by omega))
  rw [rm_ok H6.out.2.2.2.2.1] at Hf
  clear n8
  go_wp2_with fail
  refine Hf.out.mono ?_
  rintro e W9 ⟨rfl, a9, hD9, k9⟩
  have n9 := k9.at_ H8.out.2.1 (by have := H2.out.2.2; simp; omega)
  have hdl : look (del o6 (noteB M.id)) (noteB M.id) = none := by rw [look_del _ _ _ H6.out.2.2.2.1.nodup, if_pos rfl]
  have Hf2 := Lib.hid (forget_spec W9 d f c mb a9 [] 1048576 _ hD9 M.id (by omega))
  rw [rm_none hdl] at Hf2
  have H9 := Lib.hid (And.intro n9 (And.intro hdl (H8.out.2.2.after k9 (fun x hx => .inr (by have := H0.out.2.2; simp at hx; omega)))))
  clear c8 l8 k9 hdl hD9
  have c9 := cells_at n9
  have l9 := lt_of_at n9
  clear n9
  go_wp2_with fail
  refine Hf2.out.mono ?_
  rintro e W10 ⟨rfl, a10, hD10, k10⟩
  have hK10 := H6.out.2.2.2.1.del (noteB M.id)
  have hn10 : names (del o6 (noteB M.id)) shpB = [] := names_nil (fun n hn => by
    have hm := hK10.mem n hn
    simp only [List.mem_cons, List.not_mem_nil, or_false] at hm
    rcases hm with rfl | rfl
    · exact tmp_noNote
    · exact absurd hn ((look_none_iff _ _).1 H9.out.2.1))
  have hz10 := hK10.sizes (fun n hn => by
    have := noteB_size M.id
    simp only [List.mem_cons, List.not_mem_nil, or_false] at hn
    rcases hn with rfl | rfl
    · decide
    · omega) (by show 2 ≤ 100; decide)
  have Hnn := Lib.hid (noted_none W10 d f c mb a10 [] 1048576 _ hD10 hz10.1 hz10.2 hn10)
  have H10 := Lib.hid (H9.out.2.2.after k10 (fun x hx => .inr (by have := H0.out.2.2; simp at hx; omega)))
  clear c9 l9 hD10 k10 hK10 hn10 hz10
  go_wp2_with fail
  refine Hnn.out.mono ?_
  rintro e W11 ⟨rfl, k11⟩
  have HF := Lib.hid (H10.out.trans k11)
  clear k11
  go_wp2_with fail
  go_ret
  exact ⟨rfl, HF.out⟩

theorem shipNotes_law (w : World) (hv : LibVar w) (hX : XorVar w) (v0 : Value) (h0 : O14W w v0) (a1 : Int) (_ : (Lit.int .i64 a1).wf = true) (v2 : Value) (h2 : ∃ zs : List Int, SliceArg 1 (fun n => [Value.int .i64 n]) w v2 zs ∧ ∀ n ∈ zs, -9223372036854775808 ≤ n ∧ n ≤ 9223372036854775807) :
    Calls Tryz.prog 5 #[v0, .int .i64 a1, v2] w fun e w' => e = .returned (.bool true) ∧ Keeps [] w w' := by
  obtain ⟨L, hL, hb⟩ := h0
  obtain ⟨C, hC, hCi⟩ := h2
  exact shipNotes_walk w hv hX v0 L hL hb a1 v2 C hC hCi
end Go.Proofs.YtaebpbkiaihhdaaGreatDoor
