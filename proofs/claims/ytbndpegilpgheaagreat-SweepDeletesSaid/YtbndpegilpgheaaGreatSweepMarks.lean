/-
  The marks that a sweep's scan got (package sweep): marks.
  As in the scan's file; names and bytes are not too long.
-/
import Derived.Test.YtbndpegilpgheaaGreatSweepOldest
namespace Go.Proofs.YtbndpegilpgheaaGreat
open Go Go.RowKit Go.Conc Go.Maps

def MarksPost (w : World) (S : ScanS) (e : Ending) (w' : World) : Prop :=
  ∃ mm M, e = .returned (.map (some mm)) ∧ w.heap.size ≤ mm ∧ MapAt w' mm (encMap encI M) ∧ (∀ id, look M id = markOf S.got id) ∧ Keeps [] w w'

def MarkRel (w : World) (gb r mm : Nat) (G : List (ByteArray × ByteArray)) (gk : Nat) (wr : World) : Prop :=
  ∃ (D : List (ByteArray × ByteArray)) (M : PartsM), Ranging Tryz.prog 9 wr gb r (encMap Value.string G) (encMap Value.string D) gk ∧ MapAt wr mm (encMap encI M) ∧ (∀ id, look M id = markOf D id) ∧ Keeps [] w wr

theorem marks_done {S : ScanS} {D : List (ByteArray × ByteArray)} {M : PartsM} (h : (encMap Value.string S.got).Perm (encMap Value.string D)) (hnd : (S.got.map (·.1)).Nodup) (hM : ∀ id, look M id = markOf D id) (id : ByteArray) : look M id = markOf S.got id := by
  have hp : S.got.Perm D := by
    have := h.map fun p : ByteArray × Value => (p.1, match p.2 with | .string s => s | _ => ⟨#[]⟩)
    simpa [encMap, Function.comp_def] using this
  rw [hM, markOf_perm hp hnd]

theorem enc_snoc {α : Type} (enc : α → Value) (D : List (ByteArray × α)) (n : ByteArray) (x : α) : encMap enc D ++ [(n, enc x)] = encMap enc (D ++ [(n, x)]) := by simp [encMap]

theorem addMark_none {M : PartsM} {n data : ByteArray} (h : splitL n.data.toList = none) : addMark M n data = M := by unfold addMark; rw [h]

theorem addMark_other {M : PartsM} {n data : ByteArray} {a b : List UInt8} (h : splitL n.data.toList = some (a, b)) (hb : (b == [109, 97, 114, 107]) = false) : addMark M n data = M := by
  unfold addMark
  rw [h]
  simp only
  rw [if_neg]
  intro e
  rw [e] at hb
  exact absurd hb (by decide)

theorem addMark_mark {M : PartsM} {n data : ByteArray} {a b : List UInt8} (h : splitL n.data.toList = some (a, b)) (hb : (b == [109, 97, 114, 107]) = true) :
    addMark M n data = if (unmarkL data.data.toList).2.2 = 0 ∧ (unmarkL data.data.toList).1 = a then put M ⟨a.toArray⟩ (unmarkL data.data.toList).2.1 else M := by
  unfold addMark
  rw [h]
  simp only
  have hb' : b = markB.data.toList := eq_of_beq hb
  rw [if_pos hb']
  unfold markSays
  by_cases hc : (unmarkL data.data.toList).2.2 = 0 ∧ (unmarkL data.data.toList).1 = a
  · rw [if_pos hc, if_pos (by simpa using hc)]
  · rw [if_neg hc, if_neg (by simpa using hc)]


set_option linter.unusedSimpArgs false in
set_option maxRecDepth 100000 in
set_option maxHeartbeats 1000000 in
theorem marks_spec (w : World) (B p q gb : Nat) (Z : SweepS) (h : SweepAt w B p q gb Z) (hv : LibVar w) (hk : ∀ x ∈ Z.scan.got, x.1.size ≤ 40 ∧ x.2.size ≤ 1000000) (hl : Z.scan.got.length ≤ 1000) :
    Calls Tryz.prog 68 #[.pointer (some ⟨p, 0, none⟩)] w (MarksPost w Z.scan) := by
  obtain ⟨_, _, _, B2, vl, _, _, _, h6, _, hS⟩ := h
  have hnd : (Z.scan.got.map (·.1)).Nodup := by
    obtain ⟨_, _, _, _, _, _, _, _, _, _, h8, _⟩ := hS
    have := h8.nodup
    rwa [keys_enc] at this
  have z3 : ∀ x ∈ encMap Value.string Z.scan.got, x.1.size ≤ maxLen := by
    intro x hx
    obtain ⟨x, c⟩ := x
    obtain ⟨n, _, hn⟩ := mem_enc hx
    have := (hk _ hn).1
    simp only at this ⊢
    unfold maxLen; omega
  have z4 : (encMap Value.string Z.scan.got).length ≤ maxLen := by simp only [encMap, List.length_map, maxLen]; omega
  have Hz := Lib.hid (And.intro z3 (And.intro z4 (And.intro hnd hk)))
  clear z3 z4 hnd hk hl
  have hmm := @run_makeMap Tryz.prog
  have m1 := mapAt_new w
  have k1 : Keeps [] w (w.alloc (.map #[] 0)) := (Keeps.refl [] w).alloc _
  have h6' := k1.at_ h6 (by simp)
  have c5 := cells_at h6'
  have l5 := lt_of_at h6'
  have Hg := Lib.hid (scanGot_spec (w.alloc (.map #[] 0)) B q gb Z.scan (hS.same k1))
  have Hv := Lib.hid hv
  have H1 := Lib.hid (And.intro m1 (And.intro k1 (hv.same k1)))
  clear h6 h6' m1 k1 hS
  go_enter Tryz.func68, Tryz.ntmps68
  go_wp2_with fail
  refine Hg.out.mono ?_
  rintro e w2 ⟨rfl, hg2, hk2⟩
  have hm2 : MapAt w2 w.heap.size (encMap encI []) := H1.out.1.keep hk2 (by simp)
  have H2 := Lib.hid (And.intro hm2 (And.intro (H1.out.2.1.trans hk2) (H1.out.2.2.same hk2)))
  have hgb : w.heap.size < (w.alloc (.map #[] 0)).heap.size := H1.out.1.lt
  have hgl := hg2.lt
  generalize (w.alloc (.map #[] 0)).heap.size = gb2 at hg2 hgb hgl ⊢
  clear hm2 hk2 hmm c5 l5 H1 Hg
  obtain ⟨z3, z4, _⟩ := Hz.out
  go_wp2_with (at_range; refine wpList_range_map rfl _ _ rfl 9 Tryz.underlying26 Tryz.underlying9 gb2 _ rfl hg2 z3 z4 ?_; intro w0 cnt hrg0 hk0)
  clear z3 z4
  go_frame
  have hr2 : w2.heap.size ≠ w.heap.size ∧ gb2 ≠ w.heap.size := by omega
  have hkw : Keeps [] w w2 := H2.out.2.1
  have hwr := hkw.size
  obtain ⟨hr2, hgm⟩ := hr2
  obtain ⟨r, hr⟩ : ∃ n, n = w2.heap.size := ⟨_, rfl⟩
  rw [← hr] at hrg0 hr2 hwr ⊢
  have H0 := Lib.hid (And.intro hrg0 (And.intro (H2.out.1.keep hk0 (by simp)) (hkw.trans hk0)))
  clear hrg0 hk0 hr hkw
  obtain ⟨mm, hmm⟩ : ∃ n, n = w.heap.size := ⟨_, rfl⟩
  have hmle : w.heap.size ≤ mm := by omega
  rw [← hmm] at hr2 hgm H0 ⊢
  clear hmm hgb
  go_loopg [] cnt (MarkRel w gb2 r mm Z.scan.got)
  case atStart => exact ⟨[], [], H0.out.1, H0.out.2.1, fun id => by simp [look, markOf], H0.out.2.2⟩
  case round =>
    obtain ⟨D, M, hrg, hm, hsay, hkr⟩ := hrel
    clear H0
    have Hd := Lib.hid (And.intro hm (And.intro hsay hkr))
    clear hm hsay hkr
    go_wp2_with (at_next; refine wpList_next_map rfl _ rfl Tryz.underlying9 gb2 r _ _ _ rfl hrg ?_ ?_)
    · intro hperm
      have He := Lib.hid (marks_done hperm Hz.out.2.2.1 Hd.out.2.1)
      clear hperm hrg
      go_wp2_with fail
      go_ret
      exact ⟨mm, M, rfl, hmle, Hd.out.1, He.out, Hd.out.2.2⟩
    · intro x c w1 cnt1 hmem hnin hxs hrg1 hlt hk1 hen
      obtain ⟨dt, rfl, hdm⟩ := mem_enc hmem
      have hnin' : x ∉ D.map (·.1) := fun hm => by
        obtain ⟨p, hp, e⟩ := List.mem_map.1 hm
        have hq : (x, Value.string p.2) ∈ encMap Value.string D := by rw [← e]; exact List.mem_map.2 ⟨p, hp, rfl⟩
        first | exact hnin _ hq | exact hnin (List.mem_map.2 ⟨_, hq, rfl⟩)
      obtain ⟨hx40, hdt⟩ := Hz.out.2.2.2 _ hdm
      simp only at hx40 hdt
      rw [enc_snoc] at hrg1
      have hk1' : Keeps [] w w1 := Hd.out.2.2.after hk1 (fun q hq => .inr (by simp only [List.mem_singleton] at hq; omega))
      have hm1 := Hd.out.1.keep hk1 (by simp only [List.mem_singleton]; omega)
      have H1 := Lib.hid (And.intro hrg1 (And.intro hm1 (And.intro hk1' (And.intro (addMark_says Hd.out.2.1 (data := dt) hnin') hlt))))
      clear hmem hnin hnin' hxs hrg1 hlt hk1 hdm hk1' hm1 hrg
      go_wp2_with fail
      refine (split_spec _ (Hv.out.same H1.out.2.2.1) x (by omega)).mono ?_
      rintro e w3 ⟨rfl, hk3⟩
      have H3 := Lib.hid (And.intro (H1.out.1.keep hk3 (by simp) (by simp)) (And.intro (H1.out.2.1.keep hk3 (by simp)) (H1.out.2.2.1.trans hk3)))
      clear hk3 hen
      cases hS : splitL x.data.toList with
      | none =>
        have Hs := Lib.hid (addMark_none (M := M) (data := dt) hS)
        clear hS
        simp only [splitVals]
        go_wp2_with fail
        go_roundg cnt1
        case measure => exact H1.out.2.2.2.2
        case rel => exact ⟨D ++ [(x, dt)], M, H3.out.1, H3.out.2.1, fun id => by rw [← H1.out.2.2.2.1, Hs.out], H3.out.2.2⟩
      | some ab =>
        obtain ⟨a, b⟩ := ab
        obtain ⟨xa, hxa⟩ : ∃ s : ByteArray, s = ⟨a.toArray⟩ := ⟨_, rfl⟩
        obtain ⟨xb, hxb⟩ : ∃ s : ByteArray, s = ⟨b.toArray⟩ := ⟨_, rfl⟩
        have hxl : xb.toList = b := by rw [ByteArray.toList_eq, hxb]
        have hxla : xa.toList = a := by rw [ByteArray.toList_eq, hxa]
        simp only [splitVals]
        rw [← hxa, ← hxb]
        cases hb : (xb.toList == [109, 97, 114, 107]) with
        | false =>
          have Hs := Lib.hid (addMark_other (M := M) (data := dt) hS (by rw [← hxl]; exact hb))
          clear hS hxa hxb hxl hxla
          go_wp2_with fail
          go_roundg cnt1
          case measure => exact H1.out.2.2.2.2
          case rel => exact ⟨D ++ [(x, dt)], M, H3.out.1, H3.out.2.1, fun id => by rw [← H1.out.2.2.2.1, Hs.out], H3.out.2.2⟩
        | true =>
          have hadd := addMark_mark (M := M) (data := dt) hS (by rw [← hxl]; exact hb)
          rw [← hxa, ← hxla] at hadd
          have Hs := Lib.hid hadd
          have Hu := Lib.hid (fun w => decodeMark_spec w dt (by omega))
          clear hS hxa hxb hxl hxla hadd
          generalize unmarkL dt.data.toList = u at Hs Hu
          obtain ⟨ui, ut, ue⟩ := u
          simp only at Hs
          obtain ⟨xu, hxu⟩ : ∃ s : ByteArray, s = ⟨ui.toArray⟩ := ⟨_, rfl⟩
          have hxul : xu.toList = ui := by rw [ByteArray.toList_eq, hxu]
          rw [← hxul] at Hs
          have Hxu := Lib.hid hxu
          clear hxu hxul
          go_wp2_with fail
          refine (Hu.out w3).mono ?_
          rintro e w4 ⟨rfl, hk4⟩
          have H4 := Lib.hid (And.intro (H3.out.1.keep hk4 (by simp) (by simp)) (And.intro (H3.out.2.1.keep hk4 (by simp)) (H3.out.2.2.trans hk4)))
          simp only [unmarkVals]
          rw [← Hxu.out]
          clear hk4 H3 Hu
          by_cases he : ue = 0
          · subst he
            cases hid : (xu.toList == xa.toList) with
            | true =>
              have hs2 := Hs.out
              rw [if_pos ⟨rfl, eq_of_beq hid⟩] at hs2
              have Hs2 := Lib.hid hs2
              clear hs2 Hs
              go_wp2_with (refine wpList_update_str _ rfl (.tmp 45) (.tmp 46) (.tmp 47) _ _ _ rfl Tryz.underlying30 Tryz.underlying9 mm (encMap encI M) xa (encI ut) (by rfl) (by rfl) (by rfl) H4.out.2.1 ?_; intro w5 hm5 hk5)
              rw [put_enc] at hm5
              have H5 := Lib.hid (And.intro hm5 (And.intro (H4.out.1.keep hk5 (by simp only [List.mem_singleton]; omega) (by simp only [List.mem_singleton]; omega)) (H4.out.2.2.after hk5 (fun q hq => .inr (by simp only [List.mem_singleton] at hq; omega)))))
              clear hm5 hk5
              go_wp2_with fail
              go_roundg cnt1
              case measure => exact H1.out.2.2.2.2
              case rel => exact ⟨D ++ [(x, dt)], _, H5.out.2.1, H5.out.1, fun id => by rw [← H1.out.2.2.2.1, Hs2.out], H5.out.2.2⟩
            | false =>
              have hs2 := Hs.out
              rw [if_neg (fun hc => by rw [hc.2] at hid; simp at hid)] at hs2
              have Hs2 := Lib.hid hs2
              clear hs2 Hs
              go_wp2_with fail
              go_roundg cnt1
              case measure => exact H1.out.2.2.2.2
              case rel => exact ⟨D ++ [(x, dt)], M, H4.out.1, H4.out.2.1, fun id => by rw [← H1.out.2.2.2.1, Hs2.out], H4.out.2.2⟩
          · have hs2 := Hs.out
            rw [if_neg (fun hc => he hc.1)] at hs2
            have Hs2 := Lib.hid hs2
            have heb : (ue == 0) = false := by simpa using he
            clear hs2 Hs
            go_wp2_with fail
            go_roundg cnt1
            case measure => exact H1.out.2.2.2.2
            case rel => exact ⟨D ++ [(x, dt)], M, H4.out.1, H4.out.2.1, fun id => by rw [← H1.out.2.2.2.1, Hs2.out], H4.out.2.2⟩
end Go.Proofs.YtbndpegilpgheaaGreat
