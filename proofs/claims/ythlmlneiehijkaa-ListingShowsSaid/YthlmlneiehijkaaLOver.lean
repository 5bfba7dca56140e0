/-
  Which live blocks meet times (package listing): Over, and Meets (package meta).
  They are few.

  What a listing shows, in plain words: its bytes are the document's, the marks are few, which blocks meet times.
  No condition beyond those that each theorem states.
-/
import Derived.Test.YthlmlneiehijkaaRefEnc
namespace Go.Proofs.Ythlmlneiehijkaa
open Go Go.RowKit

def meetB (fr to_ : Int) (m : MetaS) : Bool := decide ((m.mn : Int) < to_) && decide (fr < (m.mx : Int))

set_option linter.unusedSimpArgs false in
set_option maxRecDepth 100000 in
set_option maxHeartbeats 1000000 in
theorem meets_spec (w : World) (m : MetaS) (x6 x7 : Value) (fr to_ : Int) :
    Calls Try.prog 41 #[.agg #[.string m.id, .int .i64 m.mn, .int .i64 m.mx, .int .i64 m.level, .int .i64 m.series, .int .i64 m.samples, x6, x7], .int .i64 fr, .int .i64 to_] w fun e w' => e = .returned (.bool (meetB fr to_ m)) ∧ Keeps [] w w' := by
  have k0 : Keeps [] w (w.alloc (.cells #[.string m.id, .int .i64 m.mn, .int .i64 m.mx, .int .i64 m.level, .int .i64 m.series, .int .i64 m.samples, x6, x7] 56)) := (Keeps.refl [] w).alloc _
  have H0 := Lib.hid k0
  clear k0
  by_cases hc1 : (m.mn : Int) < to_
  · by_cases hc2 : fr < (m.mx : Int)
    · have hb : meetB fr to_ m = true := by unfold meetB; simp [hc1, hc2]
      rw [hb]
      clear hb
      go_enter Try.func41, Try.ntmps41
      go_wp2_with fail
      go_ret
      exact ⟨rfl, H0.out⟩
    · have hb : meetB fr to_ m = false := by unfold meetB; simp [hc1, hc2]
      rw [hb]
      clear hb
      go_enter Try.func41, Try.ntmps41
      go_wp2_with fail
      go_ret
      exact ⟨rfl, H0.out⟩
  · have hb : meetB fr to_ m = false := by unfold meetB; simp [hc1]
    rw [hb]
    clear hb
    go_enter Try.func41, Try.ntmps41
    go_wp2_with fail
    go_ret
    exact ⟨rfl, H0.out⟩

def LOverRel (w1 : World) (D : List MetaC) (fr to_ : Int) (gk : Nat) (u7 u13 : Value) (wr : World) : Prop :=
  ∃ k, k ≤ D.length ∧ gk = D.length - k ∧ u13 = .int .i64 k ∧ wr.ownsRow w1.heap.size 56 8 u7 ((D.take k).filter fun c => meetB fr to_ c.1).length (((D.take k).filter fun c => meetB fr to_ c.1).flatMap encMC) ∧ Keeps [] w1 wr

set_option linter.unusedSimpArgs false in
set_option maxRecDepth 100000 in
set_option maxHeartbeats 2000000 in
theorem lover_spec (B : Nat) (w : World) (at_ : Int) (mp : Option Nat) (v : Value) (L : List MetaS) (fr to_ : Int) (hL : MetasV B w v L) (hl : L.length ≤ 20) (hsr : ∀ m ∈ L, m.sources.length ≤ 50) (hB : B ≤ w.heap.size) :
    Calls Try.prog 15 #[.agg #[.int .i64 at_, v, .map mp], .int .i64 fr, .int .i64 to_] w fun e w' => ∃ v', e = .returned v' ∧ MetasV B w' v' ((liveL L).filter (meetB fr to_)) ∧ Keeps [] w w' := by
  obtain ⟨a, c, rfl⟩ := hL.form
  obtain ⟨im, him, hzm0, hzm1, hzm2⟩ := info_parts infoMeta
  have n0 := heap_new w (.cells #[.int .i64 at_, .slice a L.length c, .map mp] 29)
  have k0 : Keeps [] w (w.alloc (.cells #[.int .i64 at_, .slice a L.length c, .map mp] 29)) := (Keeps.refl [] w).alloc _
  have Hlv := Lib.hid (live_spec B _ at_ mp (.slice a L.length c) L (hL.same k0) hl hsr (Nat.le_trans hB k0.size))
  have H0 := Lib.hid (And.intro n0 k0)
  have hQl : (liveL L).length ≤ 20 := by have := List.length_filter_le (aliveB L) L; unfold liveL; omega
  have HB := Lib.hid hB
  generalize liveL L = Q at Hlv hQl ⊢
  clear n0 k0 hsr hL hB hl
  go_enter Try.func15, Try.ntmps15
  go_wp2_with fail
  refine Hlv.out.mono ?_
  rintro e w1 ⟨vl, rfl, hml, hk1⟩
  obtain ⟨al, cl, rfl⟩ := hml.form
  obtain ⟨D, hD, hs, hm⟩ := hml.reps
  have hDl : D.length = Q.length := by rw [← hD, List.length_map]
  rw [← hDl] at hs hQl ⊢
  have H1 := Lib.hid (And.intro hD (And.intro hs (And.intro hm (H0.out.2.trans hk1))))
  clear hD hs hm hml hDl Hlv H0 hk1
  go_wp2_with fail
  go_loopg [7, 13] D.length (LOverRel w1 D fr to_)
  case atStart => exact ⟨0, Nat.zero_le _, rfl, rfl, World.ownsRow_nil w1 _ _ 8, Keeps.refl _ _⟩
  case round =>
    obtain ⟨k, hk, hgk, rfl, hrow, hkr⟩ := hrel
    have Hg := Lib.hid hgk
    clear hgk
    have Hr := Lib.hid (And.intro hrow hkr)
    have hRl : ((D.take k).filter fun c => meetB fr to_ c.1).length ≤ 20 := by
      have := List.length_filter_le (fun c : MetaC => meetB fr to_ c.1) (D.take k)
      rw [List.length_take] at this
      omega
    by_cases hlt : k < D.length
    · obtain ⟨b2, o2, e2, -, hb2, hc2⟩ := (H1.out.2.1.keep hkr (by simp)).atI k hlt
      subst e2
      have Hyes := Lib.hid (filter_yes (fun c : MetaC => meetB fr to_ c.1) hlt)
      have Hno := Lib.hid (filter_no (fun c : MetaC => meetB fr to_ c.1) hlt)
      obtain ⟨⟨m, ⟨af, nf, cf⟩, ⟨ao, no, co⟩⟩, hme⟩ : ∃ m, m = D[k] := ⟨_, rfl⟩
      rw [← hme] at hc2 Hyes Hno
      have d0 : wr.cell? ⟨b2, o2 + k * 8, none⟩ = some (.string m.id) := hc2 0 (by decide)
      have d1 : wr.cell? ⟨b2, o2 + k * 8 + 1, none⟩ = some (.int .i64 m.mn) := hc2 1 (by decide)
      have d2 : wr.cell? ⟨b2, o2 + k * 8 + 2, none⟩ = some (.int .i64 m.mx) := hc2 2 (by decide)
      have d3 : wr.cell? ⟨b2, o2 + k * 8 + 3, none⟩ = some (.int .i64 m.level) := hc2 3 (by decide)
      have d4 : wr.cell? ⟨b2, o2 + k * 8 + 4, none⟩ = some (.int .i64 m.series) := hc2 4 (by decide)
      have d5 : wr.cell? ⟨b2, o2 + k * 8 + 5, none⟩ = some (.int .i64 m.samples) := hc2 5 (by decide)
      have d6 : wr.cell? ⟨b2, o2 + k * 8 + 6, none⟩ = some (.slice af nf cf) := hc2 6 (by decide)
      have d7 : wr.cell? ⟨b2, o2 + k * 8 + 7, none⟩ = some (.slice ao no co) := hc2 7 (by decide)
      have hlt' : (k : Int) < (D.length : Int) := by omega
      have ka : Keeps [] wr (wr.alloc (.cells #[.string m.id, .int .i64 m.mn, .int .i64 m.mx, .int .i64 m.level, .int .i64 m.series, .int .i64 m.samples, .slice af nf cf, .slice ao no co] 56)) := (Keeps.refl [] wr).alloc _
      have na := heap_new wr (.cells #[.string m.id, .int .i64 m.mn, .int .i64 m.mx, .int .i64 m.level, .int .i64 m.series, .int .i64 m.samples, .slice af nf cf, .slice ao no co] 56)
      have HA := Lib.hid (And.intro na (kp ka Hr.out))
      clear hkr hme ka na hc2 hrow Hr
      go_upto_region 5 with fail
      clear d0 d1 d2 d3 d4 d5 d6 d7
      generalize hWa : wr.alloc (.cells #[.string m.id, .int .i64 m.mn, .int .i64 m.mx, .int .i64 m.level, .int .i64 m.series, .int .i64 m.samples, .slice af nf cf, .slice ao no co] 56) = Wa at HA ⊢
      generalize hyb : wr.heap.size = yb at HA ⊢
      clear hWa hyb
      have cy := cells_at HA.out.1
      have ly := lt_of_at HA.out.1
      have Hmt := Lib.hid (meets_spec Wa m (.slice af nf cf) (.slice ao no co) fr to_)
      go_wp2_with fail
      refine Hmt.out.mono ?_
      rintro e w5 ⟨rfl, hk5⟩
      have H5 := Lib.hid (kp hk5 HA.out)
      have cz := cells_at H5.out.1
      have lz := lt_of_at H5.out.1
      clear cy ly hk5 Hmt
      cases hmb : meetB fr to_ m with
      | true =>
        have Hy := Lib.hid (Hyes.out hmb)
        clear hmb
        go_wp2_with (at_builtin; refine wpList_append_own _ rfl (.tmp 21) (.tmp 23) 23 rfl w1.heap.size 56 im _ 8 104 Try.underlying23 him hzm0 hzm1 hzm2 rfl (by decide) u7 _ _ rfl (H5.out.2.1.alloc _) ⟨w5.heap.size, 0, none⟩ 1 1 [.string m.id, .int .i64 m.mn, .int .i64 m.mx, .int .i64 m.level, .int .i64 m.series, .int .i64 m.samples, .slice af nf cf, .slice ao no co] rfl rfl (news_of (heap_new w5 _)) (by simp [Value.oneCell']) (by simp only [maxLen]; omega) (by omega) (by have := H5.out.2.2.size; simp; omega) ?_; intro v8 w8 hown8 hgrow8 hnil; clear hnil)
        have hk8 : Keeps [] w1 w8 := keeps_grownM (H5.out.2.2.alloc _) hgrow8 (fun q hq => (World.ownsRow.lt H5.out.2.1 q hq).1)
        have H8 := Lib.hid (And.intro hown8 hk8)
        clear hown8 hgrow8 hk8
        go_roundg (D.length - (k + 1))
        case measure => have := Hg.out; omega
        case rel =>
          refine ⟨k + 1, by omega, rfl, by go_num, ?_, H8.out.2⟩
          have h8 := H8.out.1
          rw [Hy.out, List.length_append, List.flatMap_append]
          simpa [encMC] using h8
      | false =>
        have Hn := Lib.hid (Hno.out hmb)
        clear hmb
        go_wp2_with fail
        go_roundg (D.length - (k + 1))
        case measure => have := Hg.out; omega
        case rel => exact ⟨k + 1, by omega, rfl, by go_num, by rw [Hn.out]; exact H5.out.2.1, H5.out.2.2⟩
    · obtain rfl : k = D.length := by omega
      rw [List.take_length] at hrow
      have hsf := sliceFrom_row (enc := encMC) (fun c => encMC_len c) hrow
      have Hres := Lib.hid (And.intro hsf hkr)
      have hge : ¬ (D.length : Int) < (D.length : Int) := by omega
      clear hrow hkr Hr hsf
      go_wp2_with fail
      go_ret
      refine ⟨_, rfl, ?_, H1.out.2.2.2.trans Hres.out.2⟩
      have hms := metasV_of (Hres.out.1.low (Nat.le_trans HB.out H1.out.2.2.2.size)) (fun x hx => (H1.out.2.2.1 x (List.mem_filter.1 hx).1).same Hres.out.2)
      have he : (D.filter fun c => meetB fr to_ c.1).map (·.1) = Q.filter (meetB fr to_) := by
        rw [← H1.out.1, List.filter_map]
        rfl
      rw [← he]
      exact hms
end Go.Proofs.Ythlmlneiehijkaa

namespace Go.Proofs.Ythlmlneiehijkaa
open Go Go.RowKit
open Go.Op (bytesLess)

theorem put_newK {α : Type} {id : ByteArray} {v : α} : ∀ {m : List (ByteArray × α)}, look m id = none → put m id v = m ++ [(id, v)]
  | [], _ => rfl
  | (k, x) :: m, h => by
    unfold look at h
    by_cases e : id = k
    · rw [if_pos e] at h; cases h
    · rw [if_neg e] at h
      unfold put
      rw [if_neg e, put_newK h]
      rfl

theorem find_nodup {T : List BlkS} : (T.map (fun p => p.1.id)).Nodup → ∀ p ∈ T, T.find? (fun q => decide (q.1.id = p.1.id)) = some p := by
  induction T with
  | nil => intro _ p hp; cases hp
  | cons q T ih =>
    intro hn p hp
    rw [List.map_cons, List.nodup_cons] at hn
    rcases List.mem_cons.1 hp with rfl | hp
    · exact List.find?_cons_of_pos (by simp)
    · rw [List.find?_cons_of_neg, ih hn.2 p hp]
      simp only [decide_eq_true_eq]
      intro e
      exact hn.1 (List.mem_map.2 ⟨p, hp, e.symm⟩)

theorem look_markO {T : List BlkS} (hn : (T.map (fun p => p.1.id)).Nodup) {p : BlkS} (hp : p ∈ T) : look (marksOf T) p.1.id = markO p := by
  rw [look_marksOf hn, find_nodup hn p hp]
  rfl

theorem marksOf_marked {T : List BlkS} (hn : (T.map (fun p => p.1.id)).Nodup) : (marksOf T).length = marked T := by
  have key : ∀ (T : List BlkS) (M : PartsM), (T.map (fun p => p.1.id)).Nodup → (∀ p ∈ T, look M p.1.id = none) → (T.foldl markStep M).length = M.length + marked T := by
    intro T
    induction T with
    | nil => intro M _ _; rfl
    | cons p T ih =>
      intro M hn hM
      rw [List.map_cons, List.nodup_cons] at hn
      have hM' : ∀ q ∈ T, look (markStep M p) q.1.id = none := fun q hq => by
        unfold markStep
        split
        · rw [look_put, if_neg]
          · exact hM q (by simp [hq])
          · intro e
            exact hn.1 (List.mem_map.2 ⟨q, hq, e⟩)
        · exact hM q (by simp [hq])
      rw [List.foldl_cons, ih _ hn.2 hM']
      unfold markStep marked
      by_cases h0 : 0 ≤ p.2
      · rw [if_pos h0, put_newK (hM p (by simp)), List.length_append, List.filter_cons_of_pos (by simpa using h0)]
        simp only [List.length_cons, List.length_nil]
        omega
      · rw [if_neg h0, List.filter_cons_of_neg (by simpa using h0)]
  have := key T [] hn (by simp [look])
  simpa [marksOf] using this

theorem marked_perm {A B : List BlkS} (h : A.Perm B) : marked A = marked B := (h.filter _).length_eq

theorem lstT_eq {at_ : Nat} {T : List BlkS} {M : PartsM} (hlk : ∀ p ∈ T, look M p.1.id = markO p) (hm : ∀ p ∈ T, -1 ≤ p.2) : lstT at_ T = lstL at_ (T.map (·.1)) M := by
  have hb : ∀ p ∈ T, blockT p = blockL M p.1 := fun p hp => by
    unfold blockT blockL markN
    rw [hlk p hp]
    unfold markO
    have := hm p hp
    by_cases h0 : 0 ≤ p.2
    · rw [if_pos h0]
      simp only
      congr 2
      omega
    · rw [if_neg h0]
      simp only
      congr 2
      omega
  have : ∀ (Q : List BlkS), (∀ p ∈ Q, p ∈ T) → Q.flatMap blockT = (Q.map (·.1)).flatMap (blockL M) := by
    intro Q
    induction Q with
    | nil => intro _; rfl
    | cons q Q ih =>
      intro h
      rw [List.flatMap_cons, List.map_cons, List.flatMap_cons, ih fun p hp => h p (by simp [hp]), hb q (h q (by simp))]
  unfold lstT lstL
  rw [this T fun _ h => h, List.length_map]

theorem srcsT_map (T : List BlkS) : srcsT T = (T.map (·.1)).flatMap (·.sources) := by
  unfold srcsT
  rw [List.flatMap_map]

theorem cnt_made (T : List BlkS) (s : ByteArray) : (look (madeM (T.map (·.1))) s).getD 0 = (cntL (srcsT T) s : Nat) := by
  rw [made_count, ← srcsT_map]
  rfl

theorem aliveB_cnt (T : List BlkS) (m : MetaS) : aliveB (T.map (·.1)) m = decide (cntL (srcsT T) m.id = 0) := by
  unfold aliveB
  rw [cnt_made]
  exact decide_eq_decide.2 (by omega)

theorem over_eq (T : List BlkS) (fr to_ : Int) : (T.map (·.1)).filter (meetC (srcsT T) fr to_) = (liveL (T.map (·.1))).filter (meetB fr to_) := by
  unfold liveL
  rw [List.filter_filter]
  refine List.filter_congr fun m _ => ?_
  rw [aliveB_cnt]
  unfold meetC meetB
  rw [Bool.and_comm]

theorem all_eq {T : List BlkS} (ok : ∀ p ∈ T, MetaOk p.1) : (T.map (·.1)).filter (meetC (srcsT T) 0 1125899906842624) = liveL (T.map (·.1)) := by
  rw [over_eq]
  rw [List.filter_eq_self]
  intro m hm
  have hm2 : m ∈ T.map (·.1) := (List.mem_filter.1 hm).1
  obtain ⟨p, hp, rfl⟩ := List.mem_map.1 hm2
  obtain ⟨h1, h2⟩ := (ok p hp).time
  unfold meetB
  rw [Bool.and_eq_true, decide_eq_true_eq, decide_eq_true_eq]
  omega

theorem id_one {T : List BlkS} (hn : (T.map (fun p => p.1.id)).Nodup) {k : Nat} (hk : k < T.length) {m : MetaS} (hm : m ∈ T.map (·.1)) (h : m.id = T[k].1.id) : m = T[k].1 := by
  obtain ⟨p, hp, rfl⟩ := List.mem_map.1 hm
  have h1 := find_nodup hn p hp
  have h2 := find_nodup hn T[k] (List.getElem_mem _)
  rw [h, h2] at h1
  injection h1 with h1
  rw [h1]

set_option linter.unusedSimpArgs false in
set_option maxRecDepth 100000 in
set_option maxHeartbeats 4000000 in
theorem findNone_spec (B : Nat) (w : World) (at_ : Int) (mp : Value) (v : Value) (L : List MetaS) (id : ByteArray) (hL : MetasV B w v L) (hl : L.length ≤ 1000) (hs : L.Pairwise fun a b => bytesLess a.id.data.toList b.id.data.toList = true) (mo : Option Nat) (hmp : mp = .map mo) (hno : ∀ m ∈ L, m.id ≠ id) :
    Calls Try.prog 19 #[.agg #[.int .i64 at_, v, mp], .string id] w fun e w' => e = .returned (.tuple #[.agg #[.string ⟨#[]⟩, .int .i64 0, .int .i64 0, .int .i64 0, .int .i64 0, .int .i64 0, .slice none 0 0, .slice none 0 0], .bool false]) ∧ Keeps [] w w' := by
  subst hmp
  have Hso := Lib.hid (fun i => @sought_found L hs id i)
  have HL := Lib.hid hL
  obtain ⟨VS, hV1, hV2, hV3⟩ := hL
  have Hv := Lib.hid (And.intro hV1 (And.intro hV2 hV3))
  obtain ⟨av, cv, rfl, -, -, -, -⟩ := hV1
  rw [hV2] at HL ⊢
  have n0 := new2 w (.cells #[.int .i64 at_, .slice av L.length cv, .map mo] 29) (.cells #[.string ⟨#[]⟩, .int .i64 0, .int .i64 0, .int .i64 0, .int .i64 0, .int .i64 0, .slice none 0 0, .slice none 0 0] 56)
  have k0 : Keeps [] w ((w.alloc (.cells #[.int .i64 at_, .slice av L.length cv, .map mo] 29)).alloc (.cells #[.string ⟨#[]⟩, .int .i64 0, .int .i64 0, .int .i64 0, .int .i64 0, .int .i64 0, .slice none 0 0, .slice none 0 0] 56)) := ((Keeps.refl [] w).alloc _).alloc _
  have hsr := search_spec B _ _ L id (HL.out.same k0) hl hs
  have Hsr := Lib.hid hsr
  have H0 := Lib.hid (And.intro n0.1 (And.intro n0.2 k0))
  have Hnn := Lib.hid hno
  clear n0 k0 hsr hV2 hV3 hs hno
  go_enter Try.func19, Try.ntmps19
  go_wp2_with fail
  refine Hsr.out.mono ?_
  rintro e w5 ⟨i, rfl, hsi, hk5⟩
  have nl := hk5.at_ H0.out.1 (by simp)
  have nr := hk5.at_ H0.out.2.1 (by simp)
  have hfi := Hso.out i hsi
  have H5 := Lib.hid (And.intro nr (H0.out.2.2.trans hk5))
  have hrl : w.heap.size ≤ w.heap.size + 1 := by omega
  have cl := cells_at nl
  have ll := lt_of_at nl
  have cr := cells_at nr
  have fr := free_at nr
  have lr := lt_of_at nr
  clear nl nr hk5 Hsr H0
  have hfb : foundB L id i = false := by
    cases h : foundB L id i with
    | false => rfl
    | true => obtain ⟨m, hm, e⟩ := hfi.1 h; exact absurd e (Hnn.out m hm)
  rw [hfb]
  have se := set8 (v0 := .string ⟨#[]⟩) (v1 := .int .i64 0) (v2 := .int .i64 0) (v3 := .int .i64 0) (v4 := .int .i64 0) (v5 := .int .i64 0) (v6 := .slice none 0 0) (v7 := .slice none 0 0) H5.out.1
  have He := Lib.hid (And.intro se (And.intro H5.out.2 (show ¬ ∃ m ∈ L, m.id = id from fun hc => by rw [hfi.2 hc] at hfb; cases hfb)))
  clear se hfi hsi hfb
  go_wp2_with fail
  have hc := cells_at He.out.1.1
  have hlr := lt_of_at He.out.1.1
  refine bodyPost_ret (v := .tuple #[.agg #[.string ⟨#[]⟩, .int .i64 0, .int .i64 0, .int .i64 0, .int .i64 0, .int .i64 0, .slice none 0 0, .slice none 0 0], .bool false]) ?_ rfl ⟨rfl, He.out.2.1.after He.out.1.2 (fun x hx => .inr (by simp only [List.mem_singleton] at hx; omega))⟩
  simp [results, Try.results19, go_sem, hc, hlr]
end Go.Proofs.Ythlmlneiehijkaa
