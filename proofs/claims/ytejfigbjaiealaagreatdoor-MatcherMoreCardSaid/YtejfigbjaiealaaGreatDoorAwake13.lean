/-
  Layer 13's awake: it answers true.
  The variable matcher.signs holds its five signs; the library's variable internal/bytealg.MaxLen holds some number.
-/
import Derived.Test.YtejfigbjaiealaaGreatDoorLabelP
namespace Go.Proofs.YtejfigbjaiealaaGreatDoor
open Go Go.RowKit

def awText : ByteArray := ⟨#[106, 111, 98, 61, 97, 112, 105, 44, 122, 111, 110, 101, 33, 61, 97, 44, 104, 111, 115, 116, 94, 119, 101, 98, 44, 120, 64, 49, 124, 50]⟩

def awSet : ByteArray := ⟨#[106, 111, 98, 61, 97, 112, 105, 44, 104, 111, 115, 116, 61, 119, 101, 98, 49, 44, 120, 61, 50]⟩

def awMats : List MatB := [(1, ⟨#[106, 111, 98]⟩, [⟨#[97, 112, 105]⟩]), (2, ⟨#[122, 111, 110, 101]⟩, [⟨#[97]⟩]), (3, ⟨#[104, 111, 115, 116]⟩, [⟨#[119, 101, 98]⟩]), (4, ⟨#[120]⟩, [⟨#[49]⟩, ⟨#[50]⟩])]

def awPairs : List PairB := [(⟨#[106, 111, 98]⟩, ⟨#[97, 112, 105]⟩), (⟨#[104, 111, 115, 116]⟩, ⟨#[119, 101, 98, 49]⟩), (⟨#[120]⟩, ⟨#[50]⟩)]

theorem aw_mats : mparsesB awText = some awMats := by decide +kernel

theorem aw_pairs : mapP (partsB 44 awSet) = some awPairs := by decide +kernel

theorem aw_set : chkSet (sortP awPairs) = true := by decide +kernel

theorem aw_fits : awMats.all (fitsM (sortP awPairs)) = true := by decide +kernel

theorem aw_may : ∀ m ∈ awMats, mayK m := by
  intro m hm
  simp only [awMats, List.mem_cons, List.not_mem_nil, or_false] at hm
  rcases hm with rfl | rfl | rfl | rfl
  · exact ⟨.inl rfl, by decide⟩
  · exact ⟨.inr (.inl rfl), by decide⟩
  · exact ⟨.inr (.inr (.inl rfl)), by decide⟩
  · exact ⟨.inr (.inr (.inr rfl)), by decide⟩

set_option linter.unusedSimpArgs false in
set_option maxRecDepth 100000 in
set_option maxHeartbeats 1000000 in
theorem awake13_spec (w : World) (hsg : SignsAt w) (hv : LibVar w) : Calls Tryz.prog 19 #[] w fun e w' => e = .returned (.bool true) ∧ Keeps [] w w' := by
  have HG := Lib.hid (And.intro hsg hv)
  clear hsg hv
  go_enter Tryz.func19, Tryz.ntmps19
  go_wp2_with fail
  refine (matParse_spec w HG.out.1 HG.out.2 awText (by decide)).mono ?_
  rintro e w1 h
  rw [aw_mats] at h
  obtain ⟨v1, rfl, hm, hk1⟩ := h
  have H1 := Lib.hid (And.intro hm hk1)
  obtain ⟨a1, c1, rfl, -⟩ := hm.form
  rw [show awMats.length = 4 from rfl]
  rw [show awMats.length = 4 from rfl] at H1
  clear hm hk1
  go_wp2_with fail
  refine (labParse_spec w1 (HG.out.2.keep H1.out.2 (by simp)) awSet (by decide) awPairs aw_pairs (by decide) (by decide) aw_set).mono ?_
  rintro e w2 ⟨v2, rfl, hs2, hk2⟩
  have H2 := Lib.hid (And.intro hs2 (go1 hk2 H1.out))
  obtain ⟨a2, c2, rfl, -, -⟩ := hs2
  clear hk2 H1
  go_wp2_with fail
  refine (match_spec w2 _ _ (sortP awPairs) awMats H2.out.1 H2.out.2.1 aw_may).mono ?_
  rintro e w3 ⟨rfl, hk3⟩
  rw [aw_fits]
  have H3 := Lib.hid (go1 hk3 H2.out)
  clear hk3 H2
  obtain ⟨b, off, cap', u, ea, hbW, d0, d1, d2, hu⟩ := H3.out.2.1.at_ 0 (by decide)
  injection ea with ea _ ec
  subst ea ec
  obtain ⟨b', off', cap'', u', ea, hbW', e0, e1, e2, hu'⟩ := H3.out.2.1.at_ 1 (by decide)
  injection ea with ea _ ec
  injection ea with ea
  injection ea with eb eo _
  subst eb eo ec
  have Hu := Lib.hid (And.intro hu hu')
  obtain ⟨ua, uc, rfl, -, -⟩ := hu
  obtain ⟨ub, ud, rfl, -, -⟩ := hu'
  simp only [awMats, List.getElem_cons_zero, List.getElem_cons_succ, List.length_cons, List.length_nil, Nat.zero_mul, Nat.one_mul, Nat.add_zero, Nat.zero_add] at d0 d1 d2 e0 e1 e2
  have e1' : w3.cell? ⟨b, off + 4, none⟩ = some (.string ⟨#[122, 111, 110, 101]⟩) := e1
  have e2' : w3.cell? ⟨b, off + 5, none⟩ = some (.slice ub 1 ud) := e2
  go_wp2_with fail
  refine (fits_spec w3 1 (.inl rfl) ⟨#[106, 111, 98]⟩ _ [⟨#[97, 112, 105]⟩] Hu.out.1 (by decide) ⟨#[113]⟩).mono ?_
  rintro e w4 ⟨rfl, hk4⟩
  rw [show fitsB 1 [⟨#[97, 112, 105]⟩] ⟨#[113]⟩ = false from by decide +kernel]
  have H4 := Lib.hid (And.intro (Hu.out.2.keep hk4) (H3.out.2.2.trans hk4))
  have f0 : w4.cell? ⟨b, off + 3, none⟩ = some (.int .i64 2) := (hk4.cell hbW (by simp)).trans e0
  have f1 : w4.cell? ⟨b, off + 4, none⟩ = some (.string ⟨#[122, 111, 110, 101]⟩) := (hk4.cell hbW (by simp)).trans e1'
  have f2 : w4.cell? ⟨b, off + 5, none⟩ = some (.slice ub 1 ud) := (hk4.cell hbW (by simp)).trans e2'
  have lb4 := hk4.lt hbW
  clear hk4 d0 d1 d2 e0 e1 e2 e1' e2'
  go_wp2_with fail
  refine (fits_spec w4 2 (.inr (.inl rfl)) ⟨#[122, 111, 110, 101]⟩ _ [⟨#[97]⟩] H4.out.1 (by decide) ⟨#[]⟩).mono ?_
  rintro e w5 ⟨rfl, hk5⟩
  rw [show fitsB 2 [⟨#[97]⟩] ⟨#[]⟩ = true from by decide +kernel]
  have H5 := Lib.hid (H4.out.2.trans hk5)
  clear hk5
  go_wp2_with fail
  go_ret
  exact ⟨rfl, H5.out⟩
end Go.Proofs.YtejfigbjaiealaaGreatDoor
