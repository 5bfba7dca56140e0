/-
  FetchGone: a block that goes is told as too late; walked.
  No condition: every input that can be read.
-/
import Derived.Test.YtkffpcmminlndaaGreatDoorFetO
import Derived.Test.YtkffpcmminlndaaGreatDoorTabSame
import Derived.Test.YtkffpcmminlndaaGreatDoorSignsL
namespace Go.Proofs.YtkffpcmminlndaaGreatDoor
open Go Go.RowKit Go.Conc

theorem BlkOk.pw {A : TabT} {fr up : Nat} (h : BlkOk A fr up) : ∀ r ∈ A, r.2.Pairwise ltS ∧ ∀ s ∈ r.2, 0 ≤ s.1 := fun r hr => ⟨(h.smps hr).1, fun s hs => by have := ((h.vals r hr).2 s hs).1; omega⟩

theorem bet_all {A : TabT} {fr up : Nat} (h : BlkOk A fr up) : betT (fr : Int) (up : Int) A = A := by
  have h1 : (A.map fun r => (r.1, betS (fr : Int) (up : Int) r.2)) = A := by
    conv => rhs; rw [← List.map_id A]
    refine List.map_congr_left fun r hr => ?_
    have h2 : betS (fr : Int) (up : Int) r.2 = r.2 := by
      unfold betS
      rw [List.filter_eq_self]
      intro s hs
      have h3 := (h.vals r hr).2 s hs
      exact decide_eq_true ⟨h3.1, h3.2.1⟩
    rw [h2]
    rfl
  unfold betT
  rw [h1, List.filter_eq_self]
  intro r hr
  have h4 := (h.good.smps r hr).2
  cases h5 : r.2 with
  | nil => exact absurd h5 h4
  | cons _ _ => rfl

theorem gone_all {A : TabT} (h : BlkOk A 0 1000) : betT 0 1000 (readT 0 1000 [] A ((wantP 0 1000 [] A).length + 1)) = A := by
  have h1 : (wantP 0 1000 [] A).length = (wantT 0 1000 [] A).length := by
    have := congrArg List.length (wantP_snd 0 1000 [] A)
    simpa using this
  have h2 : readT 0 1000 [] A ((wantP 0 1000 [] A).length + 1) = wantT 0 1000 [] A := by
    unfold readT
    rw [h1, List.take_of_length_le (by omega)]
  rw [h2, want_bet h.pw, show betT 0 1000 A = A from bet_all h, List.filter_eq_self]
  intro r hr
  rfl

theorem FetSt.at_ {w0 : World} {p Y : Nat} {M : MetaS} {A : TabT} {vf vo vm : Value} {L : List MatB} {fr up : Int} {b f c mb : Nat} {armed : Bool} {Q : List (Int × Bool)} {o : List (ByteArray × Ob)} {W : World} {j : Nat} (h : FetSt w0 p Y M A vf vo vm L fr up b f c mb armed Q o W j) {q : Nat} {ob : Obj} (hq : w0.heap[q]? = some ob) (hne : q ≠ f ∧ q ≠ c ∧ q ≠ mb) : W.heap[q]? = some ob := by
  obtain ⟨S, h1, h2⟩ := h.kp
  refine h2.at_ hq fun hm => ?_
  have h3 := lt_of_at hq
  rcases h1 q hm with h4 | h4 | h4 | h4
  · exact hne.1 h4
  · exact hne.2.1 h4
  · exact hne.2.2 h4
  · omega

theorem FetSt.same {w0 : World} {p Y : Nat} {M : MetaS} {A : TabT} {vf vo vm : Value} {L : List MatB} {fr up : Int} {b f c mb : Nat} {armed : Bool} {Q : List (Int × Bool)} {o : List (ByteArray × Ob)} {W W' : World} {j : Nat} (h : FetSt w0 p Y M A vf vo vm L fr up b f c mb armed Q o W j) (K : Keeps [] W W') : FetSt w0 p Y M A vf vo vm L fr up b f c mb armed Q o W' j := by
  obtain ⟨S, h1, h2⟩ := h.kp
  refine ⟨?_, h.bk.keep K (by simp) (by simp) (by simp) (by simp), ⟨S, h1, h2.trans (K.mono (by simp))⟩, Nat.le_trans h.hz K.size⟩
  rcases h.st with ⟨h3, h4⟩ | ⟨k, h3, h4⟩
  · exact .inl ⟨h3, K.at_ h4 (by simp)⟩
  · exact .inr ⟨k, h3, h4.kp K⟩

theorem look_gone (A : TabT) (n : ByteArray) : look (del (storedO A) n) (objectB idS chunksB) = (if objectB idS chunksB = n then none else some (chunksT A, 1)) ∧ look (del (storedO A) n) (objectB idS indexB) = (if objectB idS indexB = n then none else some (idxT A, 1)) := by
  obtain ⟨h1, h2, h3⟩ := obj_ne
  have hnd : ((storedO A).map (·.1)).Nodup := put_nodup (put_nodup (put_nodup (o := ([] : List (ByteArray × Ob))) (by simp) _ _) _ _) _ _
  rw [look_del _ _ _ hnd, look_del _ _ _ hnd, (look_stored A).1, (look_stored A).2]
  exact ⟨rfl, rfl⟩

def partG (index : Bool) : ByteArray := if index then indexB else chunksB

theorem objG_gone (A : TabT) (n : ByteArray) : ObjG (storedM A).id A (del (storedO A) n) := ⟨fun x hx => by
  have h := (look_gone A n).2
  rw [show objectB idS indexB = objectB (storedM A).id indexB from rfl] at h
  rw [h] at hx
  split at hx
  · cases hx
  · rw [← Option.some.inj hx], fun x hx => by
  have h := (look_gone A n).1
  rw [show objectB idS chunksB = objectB (storedM A).id chunksB from rfl] at h
  rw [h] at hx
  split at hx
  · cases hx
  · rw [← Option.some.inj hx]⟩

theorem code_gone (A : TabT) (index : Bool) (j : Nat) : codeR [] (del (storedO A) (objectB (storedM A).id (partG index))) (objectB (storedM A).id (partO j)) = if (index && decide (j = 0) || !index && decide (0 < j)) then 5 else 0 := by
  obtain ⟨h1, h2, h3⟩ := obj_ne
  obtain ⟨g1, g2⟩ := look_gone A (objectB idS (partG index))
  show codeR [] (del (storedO A) (objectB idS (partG index))) (objectB idS (partO j)) = _
  unfold partO
  by_cases hj : j = 0
  · rw [if_pos hj]
    cases index
    · rw [code_some (x := (idxT A, 1)) (by rw [g2, if_neg (show ¬ objectB idS indexB = objectB idS (partG false) from fun e => h1 e.symm)])]
      simp [hj]
    · rw [code_none (by rw [g2, if_pos (show objectB idS indexB = objectB idS (partG true) from rfl)])]
      simp [hj]
  · have hj2 : 0 < j := by omega
    rw [if_neg hj]
    cases index
    · rw [code_none (by rw [g1, if_pos (show objectB idS chunksB = objectB idS (partG false) from rfl)])]
      simp [hj2]
    · rw [code_some (x := (chunksT A, 1)) (by rw [g1, if_neg (show ¬ objectB idS chunksB = objectB idS (partG true) from h1)])]
      simp [hj]

def GoneRel (w5 : World) (p Y : Nat) (M : MetaS) (A : TabT) (vf vo : Value) (b f c mb : Nat) (o : List (ByteArray × Ob)) (n : Nat) (gk : Nat) (u13 : Value) (wr : World) : Prop :=
  ∃ k, k ≤ n ∧ gk = n - k ∧ u13 = .int .i64 (k : Nat) ∧ k ≤ (wantP 0 1000 [] A).length + 1 ∧ FetSt w5 p Y M A vf vo (.slice none 0 0) [] 0 1000 b f c mb false [] o wr k

set_option linter.unusedSimpArgs false in
set_option maxRecDepth 100000 in
set_option maxHeartbeats 4000000 in
theorem fetchGone_walk (w : World) (hv : LibVar w) (hsg : SignsAt w) (hX : XorVar w) (v : Value) (LO : List One14) (h : SliceArg 3 encO14 w v LO) (hpos : ∀ x ∈ LO, 0 ≤ x.1 ∧ 0 ≤ x.2.2 ∧ x.2.2 < 18446744073709551616) (bn : Int) (hbn : -9223372036854775808 ≤ bn ∧ bn ≤ 9223372036854775807) (index : Bool) :
    Calls Tryz.prog 4 #[v, .int .i64 bn, .bool index] w fun e w' => e = .returned (.bool true) ∧ Keeps [] w w' := by
  have hok : BlkOk (tblL (LO.take 40)) 0 1000 := blkOk_tbl (by rw [List.length_take]; omega) (fun x hx => hpos x (List.mem_of_mem_take hx))
  have Hf := Lib.hid (And.intro h (And.intro (show ∀ x ∈ LO, 0 ≤ x.1 from fun x hx => (hpos x hx).1) (And.intro hv (And.intro hsg hX))))
  obtain ⟨av, cv, rfl, -, -⟩ := h
  clear hpos hv hsg hX
  obtain ⟨n, hn⟩ : ∃ n : Nat, n = (min (max bn 0) 50).toNat := ⟨_, rfl⟩
  have hn50 : n ≤ 50 := by omega
  go_enter Tryz.func4, Tryz.ntmps4
  go_wp2_with fail
  refine (table_spec w Hf.out.2.2.1 _ LO Hf.out.1 Hf.out.2.1).mono ?_
  rintro e w1 ⟨va, vb, rfl, hTa, hTb, k1⟩
  obtain ⟨A, hA⟩ : ∃ A, A = tblL (LO.take 40) := ⟨_, rfl⟩
  rw [← hA] at hTa hTb hok
  have H1 := Lib.hid (And.intro hTa (And.intro (hTb.base (Nat.zero_le _)) (And.intro hok k1)))
  obtain ⟨aa, ca, rfl⟩ := hTa.form
  obtain ⟨ab, cb, rfl⟩ := hTb.form
  clear hok hA hTa hTb k1
  go_wp2_with fail
  refine (awake17_spec w1 (Hf.out.2.2.1.keep H1.out.2.2.2 (by simp)) (go1 H1.out.2.2.2 Hf.out.2.2.2.1) (Hf.out.2.2.2.2.same H1.out.2.2.2)).mono ?_
  rintro e w2 ⟨rfl, k2⟩
  have H2 := Lib.hid (And.intro (H1.out.1.keep k2) (And.intro (H1.out.2.1.keep k2) (H1.out.2.2.2.trans k2)))
  clear k2
  go_wp2_with fail
  refine (stored_spec w2 (Hf.out.2.2.2.2.same H2.out.2.2) _ _ A H2.out.1 H1.out.2.2.1).mono ?_
  rintro e w3 ⟨b, f, c, mb, vf, vo, rfl, hb, ⟨z1, z2, z3, z4⟩, hf, hisz, ⟨ao, no, co, rfl⟩, k3⟩
  unfold metaCs
  have hO := objG_stored A
  have hC := code_stored A
  have hO2 := objG_gone A
  have hC2 := code_gone A
  have hid : (storedM A).id.size ≤ 1000 := by show idS.size ≤ 1000; rw [identL_size]; omega
  generalize storedM A = M at hO hC hid hO2 hC2 ⊢
  generalize storedO A = o at hb hO hC hO2 hC2
  obtain ⟨af, cf, rfl, -, -, -⟩ := row_slice hf
  have H3 := Lib.hid (And.intro hb (And.intro hf (And.intro hisz (And.intro hO (And.intro hC (And.intro hid (And.intro k3 (And.intro (And.intro z1 (And.intro z2 (And.intro z3 z4))) (And.intro hO2 hC2)))))))))
  have hlt3 := hb.lt
  clear hb hf hisz hO hC hid k3 z1 z2 z3 z4 hO2 hC2
  have k4 : Keeps [] w3 (w3.alloc (.cells #[.string M.id, .int .i64 M.mn, .int .i64 M.mx, .int .i64 M.level, .int .i64 M.series, .int .i64 M.samples, .slice af 2 cf, .slice ao no co] 37)) := (Keeps.refl [] w3).alloc _
  have n4 := heap_new w3 (.cells #[.string M.id, .int .i64 M.mn, .int .i64 M.mx, .int .i64 M.level, .int .i64 M.series, .int .i64 M.samples, .slice af 2 cf, .slice ao no co] 37)
  go_upto_region 7 with fail
  have Hq := Lib.hid (show w3.heap.size ≠ f ∧ w3.heap.size ≠ c ∧ w3.heap.size ≠ mb by omega)
  clear hlt3
  generalize w3.alloc (.cells #[.string M.id, .int .i64 M.mn, .int .i64 M.mx, .int .i64 M.level, .int .i64 M.series, .int .i64 M.samples, .slice af 2 cf, .slice ao no co] 37) = w4 at k4 n4 ⊢
  generalize w3.heap.size = q at n4 Hq ⊢
  have H4 := Lib.hid (And.intro n4 (And.intro k4 ((H2.out.2.2.trans H3.out.2.2.2.2.2.2.1).trans k4)))
  have cq := cells_at n4
  have lq := lt_of_at n4
  clear n4 k4
  go_wp2_with fail
  refine (fetBegin_spec w4 (Hf.out.2.2.2.2.same H4.out.2.2) M H3.out.2.2.2.2.2.1 A H1.out.2.2.1 b f c mb false [] o (H3.out.1.keep H4.out.2.1 (by simp) (by simp) (by simp) (by simp)) _ _ _ H3.out.2.2.1 (H4.out.2.1.row H3.out.2.1 (by simp)) _ [] (mats_nil w4) (by simp) 0 1000).mono ?_
  rintro e w5 ⟨p, Y, rfl, hG, hS⟩
  have HG := Lib.hid (And.intro hG hS)
  clear cq lq hG hS
  go_wp2_with fail
  rw [show min (max bn 0) 50 = ((n : Nat) : Int) from by omega]
  have Hn := Lib.hid hn
  clear hn hbn
  go_loopg [13] n (GoneRel w4 p Y M A (.slice af 2 cf) (.slice ao no co) b f c mb o n)
  case atStart => exact ⟨0, Nat.zero_le _, rfl, rfl, Nat.zero_le _, HG.out.2⟩
  case round =>
    obtain ⟨k, hk, hgk, rfl, hkN, hS⟩ := hrel
    obtain ⟨N, hN⟩ : ∃ N, N = (wantP 0 1000 [] A).length := ⟨_, rfl⟩
    have HS := Lib.hid (And.intro hS (And.intro hgk hN))
    rw [← hN] at hkN
    clear hS hN hgk
    go_upto_region 10 with fail
    go_cut [45] from 38 to 44 (fun cc wc => cc = .bool (decide (k < n) && !decide (k = N + 1)) ∧ wc = wr)
    case first =>
      by_cases hlt : k < n
      · have hlt1 : (k : Int) < (n : Int) := by omega
        have hd := Lib.hid (decide_eq_true hlt)
        go_wp2_with fail
        refine (fetSt_done w4 wr p Y M A _ _ _ [] 0 1000 b f c mb false [] o k HS.out.1).mono ?_
        rintro e w6 ⟨rfl, rfl⟩
        rw [← HS.out.2.2]
        go_wp2_with fail
        go_meet
        case rel => exact ⟨by rw [hd.out]; rfl, rfl⟩
      · have hlt1 : ¬ (k : Int) < (n : Int) := by omega
        have hd := Lib.hid (decide_eq_false hlt)
        go_wp2_with fail
        go_meet
        case rel => exact ⟨by rw [hd.out]; rfl, rfl⟩
    case rest =>
      obtain ⟨rfl, rfl⟩ := hcut
      by_cases hc : k < n ∧ ¬ k = N + 1
      · have HT := Lib.hid (show (decide (k < n) && !decide (k = N + 1)) = true by rw [decide_eq_true hc.1, decide_eq_false hc.2]; rfl)
        have Hc := Lib.hid hc
        rw [HT.out]
        clear hc
        go_wp2_with fail
        refine (fetSt_ok w4 wc p Y M A _ _ _ [] 0 1000 b f c mb o k HG.out.1 H3.out.2.2.2.1 (H3.out.2.2.2.2.1 k) HS.out.1 (by have := HS.out.2.2; have := Hc.out.2; omega)).mono ?_
        rintro e w7 ⟨rfl, h7⟩
        have H7 := Lib.hid h7
        have Hk1 := Lib.hid (show (k : Int) + 1 = ((k + 1 : Nat) : Int) by omega)
        have hk2 := IntWalk.i64_in ((k : Int) + 1) (by omega)
        clear h7
        go_wp2_with fail
        go_roundg (n - (k + 1))
        case measure => have := HS.out.2.1; have := Hc.out.1; omega
        case rel => exact ⟨k + 1, by have := Hc.out.1; omega, rfl, by rw [← Hk1.out], by have := HS.out.2.2; have := Hc.out.2; omega, H7.out⟩
      · have HT := Lib.hid (show (decide (k < n) && !decide (k = N + 1)) = false by
          by_cases h1 : k < n
          · rw [show k = N + 1 by omega]; simp
          · rw [decide_eq_false h1]; rfl)
        have Hc := Lib.hid hc
        rw [HT.out]
        clear hc
        have cq := cells_at (HS.out.1.at_ H4.out.1 Hq.out)
        have lq := lt_of_at (HS.out.1.at_ H4.out.1 Hq.out)
        cases index with
        | true =>
          go_wp2_with fail
          refine (object_spec wc M.id indexB (by have := H3.out.2.2.2.2.2.1; omega) (by decide)).mono ?_
          rintro e w6 ⟨rfl, rfl⟩
          rw [show indexB = partG true from rfl]
          generalize hnm : objectB M.id (partG true) = nm
          have Hnm := Lib.hid hnm
          clear hnm
          go_wp2_with fail
          refine (delete_spec wc b f c mb false [] o HS.out.1.bk nm).mono ?_
          rintro e w7 ⟨rfl, hb7, hk7⟩
          have hS7 := HS.out.1.turn HG.out.1 hb7 hk7
          have H7 := Lib.hid (show FetSt w4 p Y M A (.slice af 2 cf) (.slice ao no co) (.slice none 0 0) [] 0 1000 b f c mb false [] (del o nm) w7 k from hS7)
          clear cq lq hb7 hk7 hS7
          go_wp2_with fail
          refine (fetSt_done w4 w7 p Y M A _ _ _ [] 0 1000 b f c mb false [] (del o nm) k H7.out).mono ?_
          rintro e w8 ⟨rfl, rfl⟩
          rw [← HS.out.2.2]
          by_cases hd : k = N + 1
          · rw [decide_eq_true hd]
            have Hd := Lib.hid hd
            clear hd
            go_wp2_with fail
            refine (fetSt_idle w4 w8 p Y M A _ _ _ [] 0 1000 b f c mb false [] (del o nm) k H7.out (by rw [← HS.out.2.2]; exact Hd.out)).mono ?_
            rintro e w9 ⟨rfl, rfl⟩
            go_wp2_with fail
            refine (fetSt_rows w4 w9 p Y M A _ _ _ [] 0 1000 b f c mb false [] (del o nm) k H7.out ⟨_, _, H1.out.2.2.1⟩).mono ?_
            rintro e w10 ⟨v10, rfl, hT10, k10⟩
            rw [show betT 0 1000 (readT 0 1000 [] A k) = A by rw [Hd.out, HS.out.2.2]; exact gone_all H1.out.2.2.1] at hT10
            have hz := H3.out.2.2.2.2.2.2.2.1
            have hz1 := H2.out.2.2.size
            have hk09 : Keeps [] w2 w9 := H7.out.low (H3.out.2.2.2.2.2.2.1.trans H4.out.2.1) hz.2.1 hz.2.2.1 hz.2.2.2
            have H10 := Lib.hid (And.intro (hT10.base (Nat.zero_le _)) (hk09.trans k10))
            clear hT10 k10 hz hz1 hk09
            go_wp2_with fail
            refine (told14_spec w10 _ A H10.out.1 H1.out.2.2.1.fewT).mono ?_
            rintro e w11 ⟨v11, rfl, hT11, k11⟩
            have H11 := Lib.hid (And.intro (hT11.base (Nat.zero_le _)) (H10.out.2.trans k11))
            clear hT11 k11
            go_wp2_with fail
            refine (same14_spec w11 _ _ A H11.out.1 (H2.out.2.1.keep H11.out.2) H1.out.2.2.1.fewT).mono ?_
            rintro e w12 ⟨rfl, k12⟩
            have H12 := Lib.hid ((H2.out.2.2.trans H11.out.2).trans k12)
            clear k12
            go_wp2_with fail
            go_ret
            exact ⟨rfl, H12.out⟩
          · rw [decide_eq_false hd]
            have hkn : k = n := by have := Hc.out; omega
            have Hd := Lib.hid (And.intro hd hkn)
            clear hd hkn
            go_wp2_with fail
            refine (fetSt_rows w4 w8 p Y M A _ _ _ [] 0 1000 b f c mb false [] (del o nm) k H7.out ⟨_, _, H1.out.2.2.1⟩).mono ?_
            rintro e w9 ⟨v9, rfl, hT9, k9⟩
            have H9 := Lib.hid (And.intro (hT9.form) (H7.out.same k9))
            obtain ⟨a9, c9, rfl⟩ := hT9.form
            clear hT9 k9
            have hco := H3.out.2.2.2.2.2.2.2.2.2 true k
            rw [Hnm.out] at hco
            by_cases hk0 : k = 0
            · have hco2 : codeR [] (del o nm) (objectB M.id (partO k)) = 5 := by
                rw [hco]
                simp [hk0]
              have hn0 : (n : Int) = 0 := by have := Hd.out.2; omega
              have hn1 : ¬ (0 : Int) < (n : Int) := by omega
              have hnb : ((n : Int) == 0) = true := by rw [hn0]; rfl
              have Hco := Lib.hid hco2
              clear hco hco2 hk0
              go_wp2_with fail
              refine (fetSt_gone w4 w9 p Y M A _ _ _ [] 0 1000 b f c mb (del o nm) k HG.out.1 (H3.out.2.2.2.2.2.2.2.2.1 nm) Hco.out H9.out.2 (by have := HS.out.2.2; have := Hd.out; omega)).mono ?_
              rintro e w10 ⟨rfl, h10⟩
              have hz := H3.out.2.2.2.2.2.2.2.1
              have hk10 : Keeps [] w2 w10 := h10.low (H3.out.2.2.2.2.2.2.1.trans H4.out.2.1) hz.2.1 hz.2.2.1 hz.2.2.2
              have H10 := Lib.hid (And.intro h10 (H2.out.2.2.trans hk10))
              clear h10 hz hk10
              go_wp2_with fail
              refine (fetSt_rows w4 w10 p Y M A _ _ _ [] 0 1000 b f c mb false [] (del o nm) k H10.out.1 ⟨_, _, H1.out.2.2.1⟩).mono ?_
              rintro e w11 ⟨v11, rfl, hT11, k11⟩
              have H11 := Lib.hid (H10.out.2.trans k11)
              obtain ⟨a11, c11, rfl⟩ := hT11.form
              clear hT11 k11
              go_wp2_with fail
              go_ret
              exact ⟨rfl, H11.out⟩
            · have hco2 : codeR [] (del o nm) (objectB M.id (partO k)) = 0 := by
                rw [hco]
                simp [hk0, Nat.pos_of_ne_zero hk0]
              have hn0 : ¬ (n : Int) = 0 := by have := Hd.out.2; omega
              have hn1 : (0 : Int) < (n : Int) := by omega
              have hnb : ((n : Int) == 0) = false := by rw [beq_eq_false_iff_ne]; exact hn0
              have Hco := Lib.hid hco2
              clear hco hco2 hk0
              go_wp2_with fail
              refine (fetSt_ok w4 w9 p Y M A _ _ _ [] 0 1000 b f c mb (del o nm) k HG.out.1 (H3.out.2.2.2.2.2.2.2.2.1 nm) Hco.out H9.out.2 (by have := HS.out.2.2; have := Hd.out; omega)).mono ?_
              rintro e w10 ⟨rfl, h10⟩
              have hz := H3.out.2.2.2.2.2.2.2.1
              have hk10 : Keeps [] w2 w10 := h10.low (H3.out.2.2.2.2.2.2.1.trans H4.out.2.1) hz.2.1 hz.2.2.1 hz.2.2.2
              have H10 := Lib.hid (And.intro h10 (H2.out.2.2.trans hk10))
              clear h10 hz hk10
              go_wp2_with fail
              go_ret
              exact ⟨rfl, H10.out.2⟩
        | false =>
          go_wp2_with fail
          refine (object_spec wc M.id chunksB (by have := H3.out.2.2.2.2.2.1; omega) (by decide)).mono ?_
          rintro e w6 ⟨rfl, rfl⟩
          rw [show chunksB = partG false from rfl]
          generalize hnm : objectB M.id (partG false) = nm
          have Hnm := Lib.hid hnm
          clear hnm
          go_wp2_with fail
          refine (delete_spec wc b f c mb false [] o HS.out.1.bk nm).mono ?_
          rintro e w7 ⟨rfl, hb7, hk7⟩
          have hS7 := HS.out.1.turn HG.out.1 hb7 hk7
          have H7 := Lib.hid (show FetSt w4 p Y M A (.slice af 2 cf) (.slice ao no co) (.slice none 0 0) [] 0 1000 b f c mb false [] (del o nm) w7 k from hS7)
          clear cq lq hb7 hk7 hS7
          go_wp2_with fail
          refine (fetSt_done w4 w7 p Y M A _ _ _ [] 0 1000 b f c mb false [] (del o nm) k H7.out).mono ?_
          rintro e w8 ⟨rfl, rfl⟩
          rw [← HS.out.2.2]
          by_cases hd : k = N + 1
          · rw [decide_eq_true hd]
            have Hd := Lib.hid hd
            clear hd
            go_wp2_with fail
            refine (fetSt_idle w4 w8 p Y M A _ _ _ [] 0 1000 b f c mb false [] (del o nm) k H7.out (by rw [← HS.out.2.2]; exact Hd.out)).mono ?_
            rintro e w9 ⟨rfl, rfl⟩
            go_wp2_with fail
            refine (fetSt_rows w4 w9 p Y M A _ _ _ [] 0 1000 b f c mb false [] (del o nm) k H7.out ⟨_, _, H1.out.2.2.1⟩).mono ?_
            rintro e w10 ⟨v10, rfl, hT10, k10⟩
            rw [show betT 0 1000 (readT 0 1000 [] A k) = A by rw [Hd.out, HS.out.2.2]; exact gone_all H1.out.2.2.1] at hT10
            have hz := H3.out.2.2.2.2.2.2.2.1
            have hz1 := H2.out.2.2.size
            have hk09 : Keeps [] w2 w9 := H7.out.low (H3.out.2.2.2.2.2.2.1.trans H4.out.2.1) hz.2.1 hz.2.2.1 hz.2.2.2
            have H10 := Lib.hid (And.intro (hT10.base (Nat.zero_le _)) (hk09.trans k10))
            clear hT10 k10 hz hz1 hk09
            go_wp2_with fail
            refine (told14_spec w10 _ A H10.out.1 H1.out.2.2.1.fewT).mono ?_
            rintro e w11 ⟨v11, rfl, hT11, k11⟩
            have H11 := Lib.hid (And.intro (hT11.base (Nat.zero_le _)) (H10.out.2.trans k11))
            clear hT11 k11
            go_wp2_with fail
            refine (same14_spec w11 _ _ A H11.out.1 (H2.out.2.1.keep H11.out.2) H1.out.2.2.1.fewT).mono ?_
            rintro e w12 ⟨rfl, k12⟩
            have H12 := Lib.hid ((H2.out.2.2.trans H11.out.2).trans k12)
            clear k12
            go_wp2_with fail
            go_ret
            exact ⟨rfl, H12.out⟩
          · rw [decide_eq_false hd]
            have hkn : k = n := by have := Hc.out; omega
            have Hd := Lib.hid (And.intro hd hkn)
            clear hd hkn
            go_wp2_with fail
            refine (fetSt_rows w4 w8 p Y M A _ _ _ [] 0 1000 b f c mb false [] (del o nm) k H7.out ⟨_, _, H1.out.2.2.1⟩).mono ?_
            rintro e w9 ⟨v9, rfl, hT9, k9⟩
            have H9 := Lib.hid (And.intro (hT9.form) (H7.out.same k9))
            obtain ⟨a9, c9, rfl⟩ := hT9.form
            clear hT9 k9
            have hco := H3.out.2.2.2.2.2.2.2.2.2 false k
            rw [Hnm.out] at hco
            by_cases hk0 : k = 0
            · have hco2 : codeR [] (del o nm) (objectB M.id (partO k)) = 0 := by
                rw [hco]
                simp [hk0]
              have hn0 : (n : Int) = 0 := by have := Hd.out.2; omega
              have hn1 : ¬ (0 : Int) < (n : Int) := by omega
              have hnb : ((n : Int) == 0) = true := by rw [hn0]; rfl
              have Hco := Lib.hid hco2
              clear hco hco2 hk0
              go_wp2_with fail
              refine (fetSt_ok w4 w9 p Y M A _ _ _ [] 0 1000 b f c mb (del o nm) k HG.out.1 (H3.out.2.2.2.2.2.2.2.2.1 nm) Hco.out H9.out.2 (by have := HS.out.2.2; have := Hd.out; omega)).mono ?_
              rintro e w10 ⟨rfl, h10⟩
              have hz := H3.out.2.2.2.2.2.2.2.1
              have hk10 : Keeps [] w2 w10 := h10.low (H3.out.2.2.2.2.2.2.1.trans H4.out.2.1) hz.2.1 hz.2.2.1 hz.2.2.2
              have H10 := Lib.hid (And.intro h10 (H2.out.2.2.trans hk10))
              clear h10 hz hk10
              go_wp2_with fail
              go_ret
              exact ⟨rfl, H10.out.2⟩
            · have hco2 : codeR [] (del o nm) (objectB M.id (partO k)) = 5 := by
                rw [hco]
                simp [hk0, Nat.pos_of_ne_zero hk0]
              have hn0 : ¬ (n : Int) = 0 := by have := Hd.out.2; omega
              have hn1 : (0 : Int) < (n : Int) := by omega
              have hnb : ((n : Int) == 0) = false := by rw [beq_eq_false_iff_ne]; exact hn0
              have Hco := Lib.hid hco2
              clear hco hco2 hk0
              go_wp2_with fail
              refine (fetSt_gone w4 w9 p Y M A _ _ _ [] 0 1000 b f c mb (del o nm) k HG.out.1 (H3.out.2.2.2.2.2.2.2.2.1 nm) Hco.out H9.out.2 (by have := HS.out.2.2; have := Hd.out; omega)).mono ?_
              rintro e w10 ⟨rfl, h10⟩
              have hz := H3.out.2.2.2.2.2.2.2.1
              have hk10 : Keeps [] w2 w10 := h10.low (H3.out.2.2.2.2.2.2.1.trans H4.out.2.1) hz.2.1 hz.2.2.1 hz.2.2.2
              have H10 := Lib.hid (And.intro h10 (H2.out.2.2.trans hk10))
              clear h10 hz hk10
              go_wp2_with fail
              refine (fetSt_rows w4 w10 p Y M A _ _ _ [] 0 1000 b f c mb false [] (del o nm) k H10.out.1 ⟨_, _, H1.out.2.2.1⟩).mono ?_
              rintro e w11 ⟨v11, rfl, hT11, k11⟩
              have H11 := Lib.hid (H10.out.2.trans k11)
              obtain ⟨a11, c11, rfl⟩ := hT11.form
              clear hT11 k11
              go_wp2_with fail
              go_ret
              exact ⟨rfl, H11.out⟩

theorem fetchGone_law (w : World) (hv : LibVar w) (hsg : SignsAt w) (hX : XorVar w) (v0 : Value) (h0 : O14W w v0) (a1 : Int) (w1 : (Lit.int .i64 a1).wf = true) (a2 : Bool) :
    Calls Tryz.prog 4 #[v0, .int .i64 a1, .bool a2] w fun e w' => e = .returned (.bool true) ∧ Keeps [] w w' := by
  obtain ⟨L, hL, hb⟩ := h0
  exact fetchGone_walk w hv hsg hX v0 L hL hb a1 (int_wf w1) a2
end Go.Proofs.YtkffpcmminlndaaGreatDoor
