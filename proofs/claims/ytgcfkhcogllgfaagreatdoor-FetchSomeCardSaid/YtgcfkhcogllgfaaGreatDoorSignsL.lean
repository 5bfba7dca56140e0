/-
  What a row's list says of the variable matcher.signs: it holds its five signs.
  No condition beyond those that each theorem states.
-/
import Derived.Test.YtgcfkhcogllgfaaGreatDoorMCheck
import Derived.Test.YtgcfkhcogllgfaaGreatDoorRows
import Derived.OpenShut
import Derived.LaidMore
import Derived.LaidSub
import Derived.Lay
import Derived.Test.YtgcfkhcogllgfaaGreatDoorGetP
import Derived.Test.YtgcfkhcogllgfaaGreatDoorArgs
namespace Go.Proofs.YtgcfkhcogllgfaaGreatDoor
set_option maxRecDepth 100000
open Go Go.RowKit Go.ChangeShapes Go.WideShapes Go.ChangeAt
theorem libVar_shaped {w : World} (h : w.ShapedOpen Tryz.prog) : LibVar w :=
 Go.Proofs.cell_of_shapedOpen_int (zero := #[.int .i64 0]) (t := 3) h (of_decide_eq_true (by kernel_rfl)) (by kernel_rfl) rfl (by kernel_rfl) (by kernel_rfl) Tryz.underlying3
theorem signs_of {W : World} {l : List (String × DataW Unit)} (hl : (l.filter fun x => x.1 == "barograph/matcher.signs") = [("barograph/matcher.signs", Rows.laid_barograph_matcher_signs)]) (h0 : laidMetH Tryz.prog l W) : SignsAt W := by
 have h := laidMetH.filter (fun x => x.1 == "barograph/matcher.signs") h0
 rw [hl, MakeChecks.laidMetH_plain _ _ _ (by kernel_rfl)] at h
 obtain ⟨ps, ⟨g, t, cs, fuel, p, q, hg, ht, hv, hd, _, _⟩, _, _⟩ := h
 obtain rfl := Option.some.inj ((show Tryz.prog.globalNamed "barograph/matcher.signs" = some 0 by kernel_rfl).symm.trans hg)
 obtain rfl := Option.some.inj ((show (Tryz.prog.globals[0]?).map (·.type) = some 171 by kernel_rfl).symm.trans ht)
 obtain ⟨xs, m, _, ex, _, hln, hel⟩ := DataW.trod_array Tryz.underlying171 hd
 have cS : Tryz.prog.cellsOf 9 = 1 := by kernel_rfl
 have e3 : (xs.map (·.1)) = [.lit (.string []), .lit (.string [61]), .lit (.string [33, 61]), .lit (.string [94]), .lit (.string [64])] := (DataW.agg.inj (Prod.mk.inj ex).1).symm
 have key : ∀ (r : Nat) (b : List UInt8), r < 5 → ([.lit (.string []), .lit (.string [61]), .lit (.string [33, 61]), .lit (.string [94]), .lit (.string [64])] : List (DataW Unit))[r]? = some (.lit (.string b)) → W.cell? ⟨0, r, none⟩ = some (.string ⟨b.toArray⟩) := by
  intro r b hr hb
  have hE := hel r hr
  rw [cS, Nat.mul_one, List.getElem?_eq_getElem (by omega)] at hE
  obtain ⟨s, e1, e2, _⟩ := DataW.trod_string Tryz.underlying9 hE
  have e4 : (xs.map (·.1))[r]? = some (.lit (.string b)) := by rw [e3]; exact hb
  rw [List.getElem?_map, List.getElem?_eq_getElem (by omega : r < xs.length), e2] at e4
  have hz : s = ⟨b.toArray⟩ := by
   apply ba_ext
   simpa [ByteArray.toList_eq] using e4
  rw [World.var?_cell hg hv r, ← hz]
  have : cs.toList[r]? = some (.string s) := by
   have h0 : ((cs.toList.drop r).take 1)[0]? = some (.string s) := by rw [e1]; rfl
   simpa using h0
  simpa using this
 exact ⟨key 1 _ (by decide) rfl, key 2 _ (by decide) rfl, key 3 _ (by decide) rfl, key 4 _ (by decide) rfl⟩
open Go Go.RowKit Go.ChangeShapes Go.WideShapes Go.Deep
section
variable {H : Type} {e0 : TypeId × Value → H} {P : Program} {W : World} {r : Reach} {b0 : Nat} {t e : TypeId}
theorem texts_of_trod (ht : P.underlying t = some (.slice e)) (he : P.underlying e = some .string) (hc : P.cellsOf e = 1) {fuel : Nat} {u : Value} {x : DataW H × List MemPlace} (h : DataW.trod e0 P W 0 (fun _ => true) true fuel t [u] = some x) : ∃ V : List ByteArray, SliceArg 1 encS1 W u V := by
 rcases open_slice ht h with ⟨hcs, _⟩ | ⟨a, len, cap, m, n, D, Pl, hcs, _, hl, hm, hmm, _, hi⟩
 ·simp only [List.cons.injEq, and_true] at hcs
  subst hcs
  exact ⟨[], ⟨_, _, rfl, by simp [maxLen], fun i hi => by simp at hi⟩⟩
 ·simp only [List.cons.injEq, and_true] at hcs
  subst hcs
  simp only [if_true] at hmm
  subst hmm
  obtain ⟨L, hL, -⟩ := sliceArg_of (w := W) (a := a) (len := len) (cap := m) (size := 1) (enc := encS1) (ok := fun _ => True) (by omega) (by omega) fun i hlt => by
   obtain ⟨cs', hc', ht'⟩ := hi i (by omega)
   rw [hc] at hc'
   obtain ⟨v, rfl, hv⟩ := cells1 hc'
   obtain ⟨s, hs, _, hsz⟩ := DataW.trod_string he ht'
   simp only [List.cons.injEq, and_true] at hs
   subst hs
   exact ⟨s, trivial, rfl, fun j hj => (by obtain rfl : j = 0 := (by omega); simpa [encS1] using hv)⟩
  exact ⟨L, hL⟩
end
theorem open_mats {H : Type} {e0 : TypeId × Value → H} {W : World} {r : Reach} {b0 : Nat} {v : Value} {d : DataW H} {p : List MemPlace} (hok : Value.okWide Tryz.prog W r b0 23 v) (h : DataW.Trod e0 Tryz.prog W 0 (fun _ => true) true 23 v d p) : ∃ L : List MatB, MatsAt W v L := by
 have hCs : Tryz.prog.cellsOf 9 = 1 := by kernel_rfl
 obtain ⟨E, hE, hok2⟩ := open_structArg encMV (fun W (m : MatV) => ∃ V : List ByteArray, SliceArg 1 encS1 W m.2.2 V) Tryz.underlying23 Tryz.underlying56 (by kernel_rfl) (by kernel_rfl) (by decide) (fun us n hl hf => by
  obtain ⟨y0, u0, g0, t0⟩ := hf 0 _ rfl
  obtain ⟨y1, u1, g1, t1⟩ := hf 1 _ rfl
  obtain ⟨y2, u2, g2, t2⟩ := hf 2 _ rfl
  obtain ⟨s0, q0, -, -⟩ := DataW.trod_int Tryz.underlying3 t0
  obtain ⟨s1, q1, -, -⟩ := DataW.trod_string Tryz.underlying9 t1
  simp only [List.cons.injEq, and_true] at q0 q1
  subst q0 q1
  match us, hl with
  | [c0, c1, c2], _ =>
   simp only [List.getElem?_cons_zero, List.getElem?_cons_succ, Option.some.injEq] at g0 g1 g2
   subst g0 g1 g2
   exact ⟨(s0, s1, c2), texts_of_trod Tryz.underlying52 Tryz.underlying9 hCs t2, rfl⟩) hok h
 obtain ⟨L, hL, hp⟩ := list_of (n := E.length) (p := fun i (m : MatB) => ∀ h : i < E.length, E[i].1 = m.1 ∧ E[i].2.1 = m.2.1 ∧ SliceArg 1 encS1 W E[i].2.2 m.2.2) fun i hi => by
  obtain ⟨V, hV⟩ := hok2 E[i] (List.getElem_mem hi)
  exact ⟨(E[i].1, E[i].2.1, V), fun _ => ⟨rfl, rfl, hV⟩⟩
 exact ⟨L, E, hE, hL.symm, fun i hi hi' => hp i hi' hi⟩
end Go.Proofs.YtgcfkhcogllgfaaGreatDoor
