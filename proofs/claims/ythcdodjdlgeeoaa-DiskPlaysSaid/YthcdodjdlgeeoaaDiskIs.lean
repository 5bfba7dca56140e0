/-
  DiskPlays: Is: a disk has what the document's has.
-/
import Derived.Test.YthcdodjdlgeeoaaCrashLaw
import Derived.BigQuiet
import Derived.Deep.RegionHeld3
namespace Go.Proofs.Ythcdodjdlgeeoaa
open Go Go.RowKit Go.ChangeShapes Go.WideShapes Go.Deep

theorem names_full (o : List (ByteArray × Ob)) : names o ⟨#[]⟩ = (full o).map (·.1) := by
  rw [full_keys]
  unfold names
  exact List.filter_eq_self.2 fun n _ => hasPre_nil n
def IsRel (w1 : World) (n gk : Nat) (i : Value) (wr : World) : Prop := ∃ k, k ≤ n ∧ i = .int .i64 k ∧ gk = n - k ∧ Keeps [] w1 wr

set_option maxRecDepth 100000 in
set_option maxHeartbeats 1000000 in
theorem is_spec (w : World) (d f c mb : Nat) (armed : Bool) (Q Q' : List (Int × Bool)) (room : Nat) (o : List (ByteArray × Ob)) (hD : DiskAt w d f c mb armed Q' room o) (v : Value) (hv : RefD w v (full o) (room : Int) Q) (hu : used o ≤ 100000)
    (hk : ∀ p ∈ o, p.1.size ≤ maxLen) (hl : o.length ≤ 900) :
    Calls Try.prog 45 #[.pointer (some ⟨d, 0, none⟩), v] w fun e w' => e = .returned (.int .i64 0) ∧ Keeps [] w w' := by
  obtain ⟨a, ca, b, cb, rfl⟩ := hv.form
  have hnd := hD.nodup
  have Hfl : Hid ((full o).length = o.length) := Lib.hid full_len
  have hfl : (full o).length ≤ 900 := by rw [full_len]; exact hl
  have Hl := Lib.hid hl
  have Hk := Lib.hid hk
  have H := Lib.hid (And.intro hD hv)
  have hr := hD.roomOk
  have hfit := hD.fits
  clear hD hv hk
  go_enter Try.func45, Try.ntmps45
  go_wp2_with fail
  have hk1 : Keeps [] w (w.alloc (.cells #[.slice a (full o).length ca, .int .i64 (room : Int), .slice b Q.length cb] 96)) := (Keeps.refl [] w).alloc _
  have q1 := heap_new w (.cells #[.slice a (full o).length ca, .int .i64 (room : Int), .slice b Q.length cb] 96)
  generalize w.alloc (.cells #[.slice a (full o).length ca, .int .i64 (room : Int), .slice b Q.length cb] 96) = W1 at hk1 q1 ⊢
  refine (listD_spec W1 d f c mb _ _ room o (H.out.1.same hk1) ⟨#[]⟩ Hk.out (by have := Hl.out; omega)).mono ?_
  rintro e W2 ⟨v2, rfl, hrow, hk2⟩
  rw [names_full] at hrow
  obtain ⟨ao2, cap2, rfl, hcap, hcap2, hcell⟩ := row_slice hrow
  have q2 := hk2.at_ q1 (by simp)
  have hk02 := hk1.trans hk2
  have Hu : Hid (∀ W, Keeps [] W2 W → Calls Try.prog 40 #[.pointer (some ⟨d, 0, none⟩)] W fun e w' => e = .returned (.int .i64 (used o)) ∧ W = w') := Lib.hid fun W k => used_spec W d f c mb _ _ room o (H.out.1.same (hk02.trans k))
  have Hf : Hid (∀ W, Keeps [] W2 W → Calls Try.prog 39 #[.pointer (some ⟨d, 0, none⟩)] W fun e w' => e = .returned (.int .i64 ((room : Int) - used o)) ∧ ∃ n, w' = W.drewN n) := Lib.hid fun W k => free_spec W d f c mb _ _ room o (H.out.1.same (hk02.trans k))
  have Hr : Hid (∀ W, Keeps [] W2 W → Calls Try.prog 70 #[.agg #[.slice a (full o).length ca, .int .i64 (room : Int), .slice b Q.length cb]] W fun e w' => e = .returned (.int .i64 (used o)) ∧ Keeps [] W w') := Lib.hid fun W k => by
    have := refUsed_spec W _ _ _ _ (by rw [sumL_full hnd]; omega) (H.out.2.keep (hk02.trans k))
    rwa [sumL_full hnd] at this
  have Hc := Lib.hid hcell
  have Hk02 := Lib.hid hk02
  have hlen2 : ((full o).map (·.1)).length = (full o).length := by simp
  rw [hlen2]
  have hng : decide ((room : Int) - (used o : Int) < 0) = false := by rw [decide_eq_false_iff_not]; omega
  have b0 : (0 : Int) ≤ (room : Int) - (used o : Int) := by omega
  have hwr : IntKind.i64.wrap ((room : Int) - (used o : Int)) = (room : Int) - (used o : Int) := IntWalk.i64_in _ ⟨by omega, by omega⟩
  have c2 := cells_at q2
  have d0 : W2.cell? ⟨w.heap.size, 0, none⟩ = some (.slice a (full o).length ca) := by rw [c2]; rfl
  have d1 : W2.cell? ⟨w.heap.size, 1, none⟩ = some (.int .i64 (room : Int)) := by rw [c2]; rfl
  have d2 : W2.cell? ⟨w.heap.size, 2, none⟩ = some (.slice b Q.length cb) := by rw [c2]; rfl
  have l0 := lt_of_at q2
  clear hrow hcell hk02 hk1 hk2 q1 hlen2 c2
  have hkc : Keeps [] W2 W2.drew := (Keeps.refl [] W2).drew
  go_upto_region 2 with fail
  go_region_held3 (fun w' => w'.cell? ⟨w.heap.size, 0, none⟩ = some (.slice a (full o).length ca) ∧ w'.cell? ⟨w.heap.size, 1, none⟩ = some (.int .i64 (room : Int)) ∧ w'.cell? ⟨w.heap.size, 2, none⟩ = some (.slice b Q.length cb)) (first | go_keep | exact ⟨(hkc.cell l0 (by simp)).trans d0, (hkc.cell l0 (by simp)).trans d1, (hkc.cell l0 (by simp)).trans d2⟩)
    (first
    | (go_at_call 40; refine (Hu.out _ hkc).mono ?_; rintro e w' ⟨rfl, rfl⟩)
    | (go_at_call 70; refine (Hr.out _ hkc).mono ?_; rintro e w' ⟨rfl, hkx⟩; replace hkc := hkc.trans hkx)
    | (go_at_call 39; refine (Hf.out _ hkc).mono ?_; rintro e w' ⟨rfl, nf, rfl⟩; replace hkc := hkc.drewN nf))
  have q3 := hkc.at_ q2 (by simp)
  generalize w'.drewN nf = W3 at hkc q3 ⊢
  have Hkc := Lib.hid hkc
  have c3 := cells_at q3
  have l3 := lt_of_at q3
  clear d0 d1 d2 l0 hwr b0 q2 hkc Hu Hf Hr
  go_wp2_with fail
  go_loopg [43] (full o).length (IsRel W3 (full o).length)
  case atStart => exact ⟨0, Nat.zero_le _, rfl, rfl, Keeps.refl _ _⟩
  case round =>
    obtain ⟨k, hkl, rfl, hgk, hkr⟩ := hrel
    have Hg := Lib.hid hgk
    clear hgk
    have hk2r : Keeps [] W2 wr := Hkc.out.trans hkr
    by_cases hlt : k < (full o).length
    · obtain ⟨_, _, hv0, hsl, _⟩ := H.out.2
      injection hv0 with hv0
      simp only [Array.mk.injEq, List.cons.injEq, and_true, true_and] at hv0
      obtain ⟨rfl, rfl⟩ := hv0
      obtain ⟨lb, lo, rfl, hlb, e0, e1, e2⟩ := objCells hsl hlt
      have hk0r := Hk02.out.trans hk2r
      rw [← hk0r.cell hlb (by simp)] at e0 e1 e2
      have hlbr := hk0r.lt hlb
      obtain ⟨g, rfl, hg1, hg2, hg3⟩ := Hc.out k (by simpa using hlt)
      have g0 : wr.cell? ⟨g, k, none⟩ = some (.string (full o)[k].1) := by
        rw [hk2r.cell hg2 (by simp), hg3]
        simp [hlt]
      have lgr := hk2r.lt hg2
      have hlook := (full_sorts.mem ((full o)[k]).1 ((full o)[k]).2).1 (List.getElem_mem hlt)
      have hDr := Lib.hid (H.out.1.same hk0r)
      have hlt' : (k : Int) < ((full o).length : Int) := by omega
      generalize (full o)[k] = x at e0 e1 e2 g0 hlook
      obtain ⟨xn, xs, xt⟩ := x
      simp only at e0 e1 e2 g0 hlook
      have Hlook := Lib.hid hlook
      have Hkr := Lib.hid hkr
      clear hsl hg3 hk0r hk2r hlook hkr
      go_wp2_with fail
      have kn : Keeps [] wr (wr.alloc (.cells #[.string xn, .string xs, .int .i64 xt] 133)) := (Keeps.refl [] wr).alloc _
      have qn := heap_new wr (.cells #[.string xn, .string xs, .int .i64 xt] 133)
      refine (read_spec _ d f c mb _ _ room o (hDr.out.same kn) xn).mono ?_
      rintro e w7 ⟨rfl, hk7⟩
      rw [Hlook.out]
      simp only [obOr, Option.getD_some, Option.isSome_some, if_true]
      have q7 := hk7.at_ qn (by simp)
      have c7 := cells_at q7
      have l7 := lt_of_at q7
      have g7 := (hk7.cell (w := wr.alloc (.cells #[.string xn, .string xs, .int .i64 xt] 133)) (by simp; omega) (by simp)).trans ((kn.cell lgr (by simp)).trans g0)
      have lg7 := (kn.trans hk7).lt lgr
      have Hk7 := Lib.hid ((Hkr.out.trans kn).trans hk7)
      clear kn qn hk7 q7 e0 e1 e2 g0 lgr hlbr c3 l3
      go_wp2_with fail
      go_quiet (fail)
      all_goals
        go_wp2_with fail
        go_roundg ((full o).length - (k + 1))
        case measure => have := Hg.out; omega
        case rel => exact ⟨k + 1, by omega, by go_num, rfl, Hk7.out.drewN _⟩
    · have Hkr := Lib.hid hkr
      clear hkr hk2r
      go_wp2_with fail
      go_ret
      exact ⟨rfl, (Hk02.out.trans Hkc.out).trans Hkr.out⟩

end Go.Proofs.Ythcdodjdlgeeoaa
