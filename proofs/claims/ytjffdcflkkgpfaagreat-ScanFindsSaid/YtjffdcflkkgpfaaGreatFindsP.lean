/-
  How many objects are to be got (package barographref19): Gets. A scan's steps on a bucket whose calls may fail (package scan).
  No condition beyond those that each theorem states.
-/
import Derived.Test.YtjffdcflkkgpfaaGreatPutsP
import Derived.Test.YtjffdcflkkgpfaaGreatRSplitG
namespace Go.Proofs.YtjffdcflkkgpfaaGreat
open Go Go.RowKit Go.Conc

def getsN (L : List ObjS) (k : Nat) : Nat := ((L.take k).filter fun p => isWait p.1).length

theorem getsN_yes {L : List ObjS} {k : Nat} (h : k < L.length) (hw : isWait L[k].1 = true) : getsN L (k + 1) = getsN L k + 1 := by
  unfold getsN
  rw [List.take_succ_eq_append_getElem h, List.filter_append, List.length_append]
  simp [hw]

theorem getsN_no {L : List ObjS} {k : Nat} (h : k < L.length) (hw : isWait L[k].1 = false) : getsN L (k + 1) = getsN L k := by
  unfold getsN
  rw [List.take_succ_eq_append_getElem h, List.filter_append, List.length_append]
  simp [hw]

theorem getsN_le (L : List ObjS) (k : Nat) : getsN L k ≤ k := by
  unfold getsN
  exact Nat.le_trans (List.length_filter_le _ _) (by rw [List.length_take]; omega)

def GetsRel (w : World) (L : List ObjS) (gk : Nat) (u3 u11 : Value) (wr : World) : Prop := ∃ k, k ≤ L.length ∧ gk = L.length - k ∧ u11 = .int .i64 k ∧ u3 = .int .i64 (getsN L k : Nat) ∧ Keeps [] w wr

set_option linter.unusedSimpArgs false in
set_option maxRecDepth 100000 in
set_option maxHeartbeats 4000000 in
theorem gets_spec (w : World) (v : Value) (L : List ObjS) (hO : SliceArg 2 encObj w v L) (hl : L.length ≤ 1000) :
    Calls Tryz.prog 34 #[v] w fun e w' => e = .returned (.int .i64 (getsN L L.length : Nat)) ∧ Keeps [] w w' := by
  have HO := Lib.hid hO
  obtain ⟨av, cv, hve, -, -⟩ := id hO
  rw [hve] at HO
  subst hve
  clear hO
  go_enter Tryz.func34, Tryz.ntmps34
  go_wp2_with fail
  go_loopg [3, 11] L.length (GetsRel w L)
  case atStart => exact ⟨0, Nat.zero_le _, rfl, rfl, rfl, Keeps.refl _ _⟩
  case round =>
    obtain ⟨k, hk, hgk, rfl, rfl, hkr⟩ := hrel
    have Hg := Lib.hid hgk
    clear hgk
    have hgl := getsN_le L k
    by_cases hlt : k < L.length
    · have hlt' : (k : Int) < (L.length : Int) := by omega
      obtain ⟨b6, of6, ea, hb6, hc6⟩ := SliceArg.atI (kp hkr HO.out) k hlt
      subst ea
      have c0 : wr.cell? ⟨b6, of6 + k * 2, none⟩ = some (.string L[k].1) := by simpa [encObj] using hc6 0 (by decide)
      have c1 : wr.cell? ⟨b6, of6 + k * 2 + 1, none⟩ = some (.string L[k].2) := by rw [Nat.add_assoc]; simpa [encObj] using hc6 1 (by decide)
      have Hst := Lib.hid (And.intro (fun h => getsN_yes hlt h) (fun h => getsN_no hlt h))
      generalize L[k].1 = nm at c0 Hst
      generalize L[k].2 = dt at c1
      obtain ⟨cn, hcn⟩ : ∃ n, n = getsN L k := ⟨_, rfl⟩
      rw [← hcn] at Hst hgl ⊢
      have ka : Keeps [] wr (wr.alloc (.cells #[.string nm, .string dt] 28)) := (Keeps.refl [] wr).alloc _
      have na := heap_new wr (.cells #[.string nm, .string dt] 28)
      have H := Lib.hid (And.intro na (hkr.trans ka))
      clear hc6 ka na hkr hcn
      go_upto_region 5 with fail
      clear c0 c1
      generalize wr.alloc (.cells #[.string nm, .string dt] 28) = W1 at H ⊢
      generalize wr.heap.size = zb at H ⊢
      have cz := cells_at H.out.1
      have lz := lt_of_at H.out.1
      have Hs := Lib.hid (refSplitG_spec W1 nm)
      have hwt : isWait nm = match splitL nm.data.toList with
        | some (_, p) => p == metaB.data.toList || p == markB.data.toList
        | none => false := rfl
      obtain ⟨r, hr⟩ : ∃ r, r = splitL nm.data.toList := ⟨_, rfl⟩
      rw [← hr] at Hs hwt
      clear hr
      match r, hwt, Hs with
      | none, hwt, Hs =>
        have hn := Lib.hid (Hst.out.2 hwt)
        unfold splitVals at Hs
        go_wp2_with fail
        refine Hs.out.mono ?_
        rintro e w2 ⟨rfl, hk2⟩
        have HK := Lib.hid (H.out.2.trans hk2)
        clear hk2 cz lz Hs H
        go_wp2_with fail
        go_roundg (L.length - (k + 1))
        case measure => have := Hg.out; omega
        case rel => exact ⟨k + 1, by omega, rfl, by go_num, by rw [hn.out], HK.out⟩
      | some (a, p), hwt, Hs =>
        have e1 : ((⟨p.toArray⟩ : ByteArray).toList == [109, 101, 116, 97]) = (p == metaB.data.toList) := by rw [ByteArray.toList_eq]; rfl
        have e2 : ((⟨p.toArray⟩ : ByteArray).toList == [109, 97, 114, 107]) = (p == markB.data.toList) := by rw [ByteArray.toList_eq]; rfl
        obtain ⟨x, hx⟩ : ∃ x, x = (⟨p.toArray⟩ : ByteArray) := ⟨_, rfl⟩
        obtain ⟨y, hy⟩ : ∃ x, x = (⟨a.toArray⟩ : ByteArray) := ⟨_, rfl⟩
        replace Hs : Hid (Calls Tryz.prog 48 #[.string nm] W1 fun e w' => e = .returned (.tuple #[.string y, .string x, .bool true]) ∧ Keeps [] W1 w') := by rw [hx, hy]; exact Hs
        rw [← hx] at e1 e2
        clear hx hy
        simp only at hwt
        rcases Bool.eq_false_or_eq_true (p == metaB.data.toList) with h1 | h1
        · rw [h1] at e1 hwt
          have hn := Lib.hid (Hst.out.1 hwt)
          clear e2
          go_wp2_with fail
          refine Hs.out.mono ?_
          rintro e w2 ⟨rfl, hk2⟩
          have HK := Lib.hid (H.out.2.trans hk2)
          clear hk2 cz lz Hs H
          go_wp2_with fail
          go_roundg (L.length - (k + 1))
          case measure => have := Hg.out; omega
          case rel => exact ⟨k + 1, by omega, rfl, by go_num, by rw [hn.out]; go_num, HK.out⟩
        · rw [h1] at e1 hwt
          rcases Bool.eq_false_or_eq_true (p == markB.data.toList) with h2 | h2
          · rw [h2] at e2 hwt
            have hn := Lib.hid (Hst.out.1 hwt)
            go_wp2_with fail
            refine Hs.out.mono ?_
            rintro e w2 ⟨rfl, hk2⟩
            have HK := Lib.hid (H.out.2.trans hk2)
            clear hk2 cz lz Hs H
            go_wp2_with fail
            go_roundg (L.length - (k + 1))
            case measure => have := Hg.out; omega
            case rel => exact ⟨k + 1, by omega, rfl, by go_num, by rw [hn.out]; go_num, HK.out⟩
          · rw [h2] at e2 hwt
            have hn := Lib.hid (Hst.out.2 hwt)
            go_wp2_with fail
            refine Hs.out.mono ?_
            rintro e w2 ⟨rfl, hk2⟩
            have HK := Lib.hid (H.out.2.trans hk2)
            clear hk2 cz lz Hs H
            go_wp2_with fail
            go_roundg (L.length - (k + 1))
            case measure => have := Hg.out; omega
            case rel => exact ⟨k + 1, by omega, rfl, by go_num, by rw [hn.out], HK.out⟩
    · obtain rfl : k = L.length := by omega
      have hge : ¬ (L.length : Int) < (L.length : Int) := by omega
      have HK := Lib.hid hkr
      clear hkr
      go_wp2_with fail
      go_ret
      exact ⟨rfl, HK.out⟩

theorem gets_waits (o : BktS) : getsN (objsOf o) (objsOf o).length = (waitsOf o).length := by
  have h : (waitsObj o).length = (waitsOf o).length := by simp [waitsObj]
  rw [← h, waits_objs]
  unfold getsN
  rw [List.take_length]

/-- A scan behind m steps that worked. -/
def stM (o : BktS) (t : Nat) : Nat → ScanS
  | 0 => scan0
  | k + 1 => stS o t k

def begunM (t : Nat) : Nat → Int
  | 0 => -1
  | _ + 1 => t

theorem stM_done (o : BktS) (t : Nat) {m : Nat} (hm : m ≤ (waitsOf o).length + 1) : ((stM o t m).begun && (stM o t m).wait.isEmpty) = decide ((waitsOf o).length < m) := by
  match m with
  | 0 => rw [decide_eq_false (by omega)]; rfl
  | k + 1 =>
    show (true && ((waitsOf o).drop k).isEmpty) = _
    rw [Bool.true_and]
    by_cases hk : (waitsOf o).length ≤ k
    · rw [List.drop_of_length_le hk, decide_eq_true (by omega)]
      rfl
    · rw [decide_eq_false (by omega), List.drop_eq_getElem_cons (by omega)]
      rfl

theorem stM_at (o : BktS) (t m : Nat) : (if (stM o t m).begun then (stM o t m).tick else -1) = begunM t m := by
  match m with
  | 0 => rfl
  | k + 1 => rfl

/-- A step of a scan that isn't at its end. -/
theorem findStep_spec (w : World) (b f c mb B q gb : Nat) (o : BktS) (armed : Bool) (Q : List (Int × Bool)) (t m now : Nat) (hb : BucketAt w b f c mb armed Q o) (hS : ScanAt 0 w B q gb (stM o t m)) (hm : m ≤ (waitsOf o).length) (hlow : b < B ∧ f < B ∧ c < B ∧ mb < B) (hv : LibVar w) (hvB : 0 < B) (ok : MovOk o) :
    Calls Tryz.prog 25 #[.pointer (some ⟨q, 0, none⟩), .pointer (some ⟨b, 0, none⟩), .int .i64 now] w fun e w' => ∃ (armed' : Bool) (Q' : List (Int × Bool)), BucketAt w' b f c mb armed' Q' o ∧ Keeps [f, c, q, gb] w w' ∧
      ((e = .returned (.int .i64 0) ∧ ScanAt 0 w' B q gb (stM o (if m = 0 then now else t) (m + 1)) ∧ Q'.length ≤ Q.length) ∨ (e = .returned (.int .i64 8) ∧ ScanAt 0 w' B q gb (stM o t m) ∧ Q'.length + 1 = Q.length)) := by
  obtain ⟨tl1, tl2⟩ := try_len Q
  match m, hm, hS with
  | 0, _, hS =>
    refine (scanStep_begin w b f c mb B q gb armed Q o scan0 now hb hS rfl hlow hv hvB ok.bkt.name (fun n => by have := ok.at_ n; omega) (by have := ok.len; omega)).mono ?_
    rintro e w' ⟨rfl, h1, h2, h3⟩
    refine ⟨_, _, h2, h3, ?_⟩
    rcases (scanP_begin (o0 := o) (X := none) (now := now) (fun x hx => by cases hx) Q).2 with ⟨e1, e2⟩ | ⟨e1, hq, e2⟩
    · rw [e1]
      have e3 : scanOf Q (now : Int) (listing o ⟨#[]⟩) scan0 = stS o now 0 := e2
      rw [e3] at h1
      exact .inl ⟨rfl, h1, tl1⟩
    · rw [e1]
      have e3 : scanOf Q (now : Int) (listing o ⟨#[]⟩) scan0 = scan0 := e2
      rw [e3] at h1
      exact .inr ⟨rfl, h1, tl2 hq⟩
  | k + 1, hm, hS =>
    have hk : k < (waitsOf o).length := by omega
    have hw := stS_wait (o := o) (t := (t : Int)) hk
    refine (scanStep_get w b f c mb B q gb armed Q o (stS o t k) now _ _ hb hS rfl hw hlow).mono ?_
    rintro e w' ⟨rfl, h1, h2, h3⟩
    refine ⟨_, _, h2, h3, ?_⟩
    rcases scanP_get ok (X := none) (fun x hx => by cases hx) (t := t) (k := k) hk Q with ⟨e1, e2⟩ | ⟨e1, hq, e2⟩
    · have e3 : gotErr (getVal Q o (waitsOf o)[k]) = 0 := e1
      have e4 : gotOf (getVal Q o (waitsOf o)[k]) (waitsOf o)[k] ((waitsOf o).drop (k + 1)) (stS o t k) = stS o t (k + 1) := e2
      rw [e3]
      rw [e4] at h1
      exact .inl ⟨rfl, by rw [if_neg (by omega)]; exact h1, tl1⟩
    · have e3 : gotErr (getVal Q o (waitsOf o)[k]) = 8 := e1
      have e4 : gotOf (getVal Q o (waitsOf o)[k]) (waitsOf o)[k] ((waitsOf o).drop (k + 1)) (stS o t k) = stS o t k := e2
      rw [e3]
      rw [e4] at h1
      exact .inr ⟨rfl, h1, tl2 hq⟩
end Go.Proofs.YtjffdcflkkgpfaaGreat
