/-
  What a row's list says of the variable matcher.signs: it holds its five signs.
  No condition beyond those that each theorem states.
-/
import Derived.Test.YtkffpcmminlndaaGreatDoorMCheck
import Derived.Test.YtkffpcmminlndaaGreatDoorRows
import Derived.OpenShut
import Derived.LaidMore
import Derived.LaidSub
import Derived.Lay
import Derived.Test.YtkffpcmminlndaaGreatDoorGetP
namespace Go.Proofs.YtkffpcmminlndaaGreatDoor
open Go Go.RowKit Go.ChangeShapes Go.WideShapes Go.ChangeAt

theorem libVar_shaped {w : World} (h : w.ShapedOpen Tryz.prog) : LibVar w :=
  Go.Proofs.cell_of_shapedOpen_int (zero := #[.int .i64 0]) (t := 3) h (of_decide_eq_true (by kernel_rfl)) (by kernel_rfl) rfl (by kernel_rfl) (by kernel_rfl) Tryz.underlying3

theorem signs_of {W : World} {l : List (String × DataW Unit)} (hl : (l.filter fun x => x.1 == "barograph/matcher.signs") = [("barograph/matcher.signs", Rows.laid_barograph_matcher_signs)]) (h0 : laidMetH Tryz.prog l W) : SignsAt W := by
  have h := laidMetH.filter (fun x => x.1 == "barograph/matcher.signs") h0
  rw [hl, MakeChecks.laidMetH_plain _ _ _ (by kernel_rfl)] at h
  obtain ⟨ps, ⟨g, t, cs, fuel, p, q, hg, ht, hv, hd, _, _⟩, _, _⟩ := h
  obtain rfl := Option.some.inj ((show Tryz.prog.globalNamed "barograph/matcher.signs" = some 0 by kernel_rfl).symm.trans hg)
  obtain rfl := Option.some.inj ((show (Tryz.prog.globals[0]?).map (·.type) = some 196 by kernel_rfl).symm.trans ht)
  obtain ⟨xs, m, _, ex, _, hln, hel⟩ := DataW.trod_array Tryz.underlying196 hd
  have cS : Tryz.prog.cellsOf 9 = 1 := by kernel_rfl
  have e3 : (xs.map (·.1)) = [.lit (.string []), .lit (.string [61]), .lit (.string [33, 61]), .lit (.string [94]), .lit (.string [64])] := (DataW.agg.inj (Prod.mk.inj ex).1).symm
  have key : ∀ (r : Nat) (b : List UInt8), r < 5 → ([.lit (.string []), .lit (.string [61]), .lit (.string [33, 61]), .lit (.string [94]), .lit (.string [64])] : List (DataW Unit))[r]? = some (.lit (.string b)) → W.cell? ⟨0, r, none⟩ = some (.string ⟨b.toArray⟩) := by
    intro r b hr hb
    have hE := hel r hr
    rw [cS, Nat.mul_one, List.getElem?_eq_getElem (by omega)] at hE
    obtain ⟨s, e1, e2, _⟩ := DataW.trod_string Tryz.underlying9 hE
    have e4 : (xs.map (·.1))[r]? = some (.lit (.string b)) := by rw [e3]; exact hb
    rw [List.getElem?_map, List.getElem?_eq_getElem (by omega : r < xs.length), e2] at e4
    have hz : s = ⟨b.toArray⟩ := by
      apply ba_ext
      simpa [ByteArray.toList_eq] using e4
    rw [World.var?_cell hg hv r, ← hz]
    have : cs.toList[r]? = some (.string s) := by
      have h0 : ((cs.toList.drop r).take 1)[0]? = some (.string s) := by rw [e1]; rfl
      simpa using h0
    simpa using this
  exact ⟨key 1 _ (by decide) rfl, key 2 _ (by decide) rfl, key 3 _ (by decide) rfl, key 4 _ (by decide) rfl⟩
end Go.Proofs.YtkffpcmminlndaaGreatDoor
