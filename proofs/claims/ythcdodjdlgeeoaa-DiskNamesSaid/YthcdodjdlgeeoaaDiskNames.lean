/-
  DiskNames answers true for all names and every prefix, and leaves all memory that was there as it was.
  No condition: every input that can be read.
-/
import Derived.Test.YthcdodjdlgeeoaaDiskMine
import Derived.Test.YthcdodjdlgeeoaaDoesArm
import Derived.Maps.RangeWalk
namespace Go.Proofs.Ythcdodjdlgeeoaa
open Go Go.RowKit Go.Conc Go.Deep Go.Maps

def dX : ByteArray := ⟨#[120]⟩
theorem keys_put {α β : Type} (n : ByteArray) (x : α) (y : β) : ∀ (o : List (ByteArray × α)) (p : List (ByteArray × β)), o.map (·.1) = p.map (·.1) → (put o n x).map (·.1) = (put p n y).map (·.1)
  | [], [], _ => rfl
  | [], _ :: _, h => by simp at h
  | _ :: _, [], h => by simp at h
  | (k, u) :: r, (k', u') :: r', h => by
    simp only [List.map_cons, List.cons.injEq] at h
    obtain ⟨rfl, h⟩ := h
    by_cases e : n = k
    · simp [put, e, h]
    · simp [put, e, keys_put n x y r r' h]

/-- What holds behind k names. -/
structure InvN (o : List (ByteArray × Ob)) (pm : List (ByteArray × Int)) (k : Nat) : Prop where
  keys : o.map (·.1) = pm.map (·.1)
  len : o.length ≤ k
  usd : used o ≤ k
  key : ∀ q ∈ o.map (·.1), q.size ≤ 40
  cnt : ∀ n c, look pm n = some c → 1 ≤ c ∧ c ≤ k
theorem InvN.next {o : List (ByteArray × Ob)} {pm : List (ByteArray × Int)} {k : Nat} (h : InvN o pm k) : InvN o pm (k + 1) :=
  ⟨h.keys, Nat.le_succ_of_le h.len, Nat.le_succ_of_le h.usd, h.key, fun n c e => ⟨(h.cnt n c e).1, by have := (h.cnt n c e).2; omega⟩⟩
theorem InvN.count {o : List (ByteArray × Ob)} {pm : List (ByteArray × Int)} {k : Nat} (h : InvN o pm k) (n : ByteArray) : 0 ≤ (look pm n).getD 0 ∧ (look pm n).getD 0 ≤ k := by
  cases hl : look pm n with
  | none => simp
  | some c => have := h.cnt n c hl; simp; omega
theorem InvN.put {o : List (ByteArray × Ob)} {pm : List (ByteArray × Int)} {k : Nat} (h : InvN o pm k) (n : ByteArray) (hn : n.size ≤ 40) : InvN (appO o n dX) (put pm n ((look pm n).getD 0 + 1)) (k + 1) := by
  refine ⟨keys_put n _ _ o pm h.keys, ?_, ?_, ?_, ?_⟩
  · have := length_put n ((obOr (look o n)).1 ++ dX, (obOr (look o n)).2) o
    have := h.len
    unfold appO
    omega
  · rw [used_app]
    have := h.usd
    show _ + 1 ≤ _
    omega
  · intro q hq
    rcases mem_keys_put hq with rfl | hq
    · exact hn
    · exact h.key q hq
  · intro m c hc
    rw [look_put] at hc
    split at hc
    · injection hc with hc
      have := h.count n
      omega
    · have := h.cnt m c hc
      omega
theorem InvN.sizes {o : List (ByteArray × Ob)} {pm : List (ByteArray × Int)} {k : Nat} (h : InvN o pm k) (hk : k ≤ 15) : (∀ p ∈ o, p.1.size ≤ maxLen) ∧ o.length * 16 ≤ 140737488355328 ∧ (∀ p ∈ encMap encI pm, p.1.size ≤ maxLen) ∧ (encMap encI pm).length ≤ 15 := by
  have e := congrArg List.length h.keys
  simp only [List.length_map] at e
  have hl := h.len
  refine ⟨fun p hp => ?_, by omega, fun p hp => ?_, by simp only [encMap, List.length_map]; omega⟩
  · have := h.key p.1 (List.mem_map.2 ⟨p, hp, rfl⟩)
    unfold maxLen
    omega
  · have hm : p.1 ∈ (encMap encI pm).map (·.1) := List.mem_map.2 ⟨p, hp, rfl⟩
    rw [keys_enc, ← h.keys] at hm
    have := h.key _ hm
    unfold maxLen
    omega

theorem sortB_rise {l : List ByteArray} (h : l.Nodup) : (sortB l).Pairwise (fun a b => a.data.toList < b.data.toList) := by
  unfold sortB
  rw [List.pairwise_map]
  have tr : ∀ a b c : List UInt8, leB a b = true → leB b c = true → leB a c = true := fun a b c h1 h2 => by simp only [leB, decide_eq_true_eq] at *; exact List.le_trans h1 h2
  have to' : ∀ a b : List UInt8, (leB a b || leB b a) = true := fun a b => by simp only [leB, Bool.or_eq_true, decide_eq_true_eq]; exact List.le_total a b
  have h1 := List.pairwise_mergeSort tr to' (l.map (·.data.toList))
  have h2 : ((l.map (·.data.toList)).mergeSort leB).Nodup := by
    rw [(List.mergeSort_perm _ leB).nodup_iff]
    exact List.pairwise_map.2 (h.imp fun hne e => hne (ba_ext e))
  refine (h1.and h2).imp fun {a b} ⟨hle, hne⟩ => ?_
  simp only [leB, decide_eq_true_eq] at hle
  rcases Classical.em (a < b) with hlt | hlt
  · exact hlt
  · exact absurd (List.le_antisymm hle (List.not_lt.1 hlt)) hne
theorem names_rise {o : List (ByteArray × Ob)} (h : (o.map (·.1)).Nodup) (pre : ByteArray) : (names o pre).Pairwise (fun a b => a.data.toList < b.data.toList) := (sortB_rise h).filter _
theorem names_count (o : List (ByteArray × Ob)) (pre : ByteArray) : (names o pre).length = ((o.map (·.1)).filter (hasPre · pre)).length := ((sortB_perm _).filter _).length_eq
/-- How many of the keys met so far begin so. -/
def met (ss : List (List UInt8)) (pre : ByteArray) : Nat := (ss.filter fun x => hasPre ⟨x.toArray⟩ pre).length
theorem met_le (ss : List (List UInt8)) (pre : ByteArray) : met ss pre ≤ ss.length := List.length_filter_le _ _
theorem met_all {ss : List (List UInt8)} {o : List (ByteArray × Ob)} {pm : List (ByteArray × Int)} {D : DataW Unit} {pre : ByteArray} (h1 : ss.Perm (strKeys D)) (h2 : (strKeys D).Perm ((encMap encI pm).map (·.1.data.toList))) (h3 : o.map (·.1) = pm.map (·.1)) : met ss pre = (names o pre).length := by
  rw [names_count, h3]
  unfold met
  rw [((h1.trans h2).filter _).length_eq]
  have e : (encMap encI pm).map (·.1.data.toList) = (pm.map (·.1)).map (·.data.toList) := by simp [encMap]
  rw [e, List.filter_map, List.length_map]
  congr 1

def CntRel (w8 : World) (pb n : Nat) (D : DataW Unit) (pre : ByteArray) (gk : Nat) (i : Value) (wr : World) : Prop :=
  ∃ left ss, wr.ranges Try.prog 9 anyR pb w8.heap.size n D left gk ∧ Collected D left ss ∧ i = .int .i64 (met ss pre) ∧ ss.length + gk ≤ 15 ∧ Keeps [] w8 wr
def ListRel (w8 : World) (n : Nat) (gk : Nat) (i : Value) (wr : World) : Prop :=
  ∃ j, j ≤ n ∧ gk = n - j ∧ i = .int .i64 j ∧ Keeps [] w8 wr
theorem met_app (ss : List (List UInt8)) (x : List UInt8) (pre : ByteArray) : met (ss ++ [x]) pre = met ss pre + (if hasPre ⟨x.toArray⟩ pre then 1 else 0) := by
  unfold met
  rw [List.filter_append, List.length_append]
  congr 1
  cases h : hasPre ⟨x.toArray⟩ pre <;> simp [h]

def NmRel (w : World) (d f c mb pb n : Nat) (gk : Nat) (i : Value) (wr : World) : Prop :=
  ∃ k o pm, k ≤ n ∧ k ≤ 15 ∧ gk = 15 - k ∧ i = .int .i64 k ∧ DiskAt wr d f c mb false [] 1000 o ∧ MapAt wr pb (encMap encI pm) ∧ InvN o pm k ∧ Keeps [] w wr

set_option maxRecDepth 100000 in
set_option maxHeartbeats 1000000 in
theorem diskNames_walk (w : World) (v : Value) (L : List ByteArray) (hs : SliceArg 1 encS w v L) (pre : ByteArray) :
    Calls Try.prog 11 #[v, .string pre] w fun e w' => e = .returned (.bool true) ∧ Keeps [] w w' := by
  obtain ⟨ao, cap, rfl, hl, hc⟩ := hs
  unfold maxLen at hl
  have Hc := Lib.hid hc
  have hmm := @run_makeMap Try.prog
  clear hc
  go_enter Try.func11, Try.ntmps11
  go_wp2_with fail
  refine (newDisk_spec w 1000 (by decide)).mono ?_
  rintro e w1 ⟨d, f, c, mb, rfl, hd1', hk1, l1, l2, l3, l4⟩
  have hd1 : DiskAt w1 d f c mb false [] 1000 [] := hd1'
  clear hd1'
  go_wp2_with fail
  have hm1 := mapAt_new w1
  have hd1 := hd1.same ((Keeps.refl [] w1).alloc (.map #[] 0))
  have hk1' := hk1.alloc (.map #[] 0)
  have hpw : w.heap.size ≤ w1.heap.size := hk1.size
  have hlt1 := ‹DiskAt w1 d f c mb false [] 1000 []›.lt
  generalize w1.heap.size = pb at hm1 hpw hlt1 ⊢
  generalize w1.alloc (.map #[] 0) = w1 at hm1 hd1 hk1' ⊢
  refine (awakeD_spec _).mono ?_
  rintro e w2 ⟨rfl, hk2⟩
  have hd2 := hd1.same hk2
  have hm2 := hm1.keep hk2 (by simp)
  have hk02 := hk1'.trans hk2
  clear hd1 hm1 hk1' hk2 hk1 hmm
  go_wp2_with fail
  go_loopg [7] 15 (NmRel w d f c mb pb L.length)
  case atStart => exact ⟨0, [], [], Nat.zero_le _, by omega, rfl, rfl, hd2, hm2, ⟨rfl, by simp, by simp [used], by simp, by simp [look]⟩, hk02⟩
  case round =>
    obtain ⟨k, o, pm, hkl, hk15, hgk, rfl, hd, hm, hinv, hk⟩ := hrel
    have Hg := Lib.hid hgk
    clear hgk hd2 hm2 hk02
    by_cases hlt : k < L.length ∧ k < 15
    · obtain ⟨hlt, hlt15⟩ := hlt
      obtain ⟨b1, o1, rfl, hb1, hc1⟩ := Hc.out k hlt
      have d0 : wr.cell? ⟨b1, o1 + k, none⟩ = some (.string L[k]) := by rw [hk.cell hb1 (by simp)]; simpa [encS] using hc1 0 (by omega)
      have hlt' : (k : Int) < (L.length : Int) := by omega
      have hlt2 : (k : Int) < 15 := by omega
      generalize L[k] = s0 at d0
      clear hc1
      go_wp2_with fail
      refine (cut_any s0 40 _ (by decide)).mono ?_
      rintro e w' ⟨rfl, rfl⟩
      have hs40 := cut_size s0 40
      generalize cut s0 40 = s at hs40 ⊢
      clear d0
      have H := Lib.hid (And.intro hd (And.intro hm (And.intro hinv hk)))
      clear hd hm hinv hk
      go_wp2_with fail
      refine (append_spec wr d f c mb _ _ _ _ H.out.1 s dX (by omega)).mono ?_
      rintro e w3 ⟨rfl, hd3', hk3⟩
      have hm3 := H.out.2.1.keep hk3 (by simp; omega)
      have hk03 := H.out.2.2.2.after hk3 (by simp; omega)
      by_cases h0 : s.size = 0
      · obtain ⟨e1, e2⟩ := is_empty h0
        have hap : appR 1000 o s dX = some 1 := by unfold appR; rw [if_pos (.inl h0)]
        rw [hap] at hd3' ⊢
        have hd3 : DiskAt w3 d f c mb false [] 1000 o := hd3'
        rw [show opErr (some 1) [] = 1 from rfl]
        clear hd3' hap hk3 h0
        go_wp2_with fail
        go_roundg (15 - (k + 1))
        case measure => have := Hg.out; omega
        case rel => exact ⟨k + 1, o, pm, by omega, by omega, rfl, by go_num, hd3, hm3, H.out.2.2.1.next, hk03⟩
      · obtain ⟨e1, e2⟩ := ne_empty h0
        have hu := H.out.2.2.1.usd
        have hap : appR 1000 o s dX = none := by
          unfold appR
          rw [if_neg (by omega), if_neg (by show ¬ 1000 < used o + 1; omega)]
        rw [hap] at hd3' ⊢
        have hd3 : DiskAt w3 d f c mb false [] 1000 (appO o s dX) := hd3'
        rw [show opErr none [] = 0 from rfl]
        clear hd3' hap hk3 h0
        obtain ⟨cn0, cn1⟩ := H.out.2.2.1.count s
        have Hi := Lib.hid (H.out.2.2.1.put s hs40)
        have hrl := hm3.run_lookup (P := Try.prog) Try.underlying37 Try.underlying9 (zeroInt _) s false
        rw [lookVal_int] at hrl
        obtain ⟨ob, hru, hm4⟩ := hm3.run_update (P := Try.prog) Try.underlying37 Try.underlying9 s (encI ((look pm s).getD 0 + 1))
        rw [put_enc] at hm4
        simp only [encI] at hru
        generalize (look pm s).getD 0 = cn at cn0 cn1 hrl hru hm4 Hi
        have Hm := Lib.hid hm4
        have Hd := Lib.hid (And.intro hd3 hk03)
        clear hm4 hd3 hk03 hm3
        go_wp2_with fail
        go_roundg (15 - (k + 1))
        case measure => have := Hg.out; omega
        case rel => exact ⟨k + 1, _, _, by omega, by omega, rfl, by go_num, Hd.out.1.keep (keeps_setIf ob) (by simp; omega) (by simp; omega) (by simp; omega) (by simp; omega), Hm.out, Hi.out, Hd.out.2.after (keeps_setIf ob) (by simp; omega)⟩
    · obtain ⟨z1, z2, z3, z4⟩ := hinv.sizes hk15
      have hnd := hd.nodup
      go_wp2_with fail
      all_goals
        refine (listD_spec wr d f c mb _ _ _ _ hd pre z1 z2).mono ?_
        rintro e w8 ⟨v8, rfl, hrow, hk8⟩
        have hm8 := hm.keep hk8 (by simp)
        obtain ⟨D, hown, hperm, hsize⟩ := hm8.owns (kt := 9) Try.underlying9 z3 (by unfold maxLen; omega)
        have hk08 := hk.trans hk8
        have hnl : (names o pre).length ≤ 15 := by
          have h1 := hinv.len
          have h2 : (names o pre).length ≤ o.length := Nat.le_trans (List.length_filter_le _ _) (by simp [sortedKeys, sortB_length])
          omega
        have hmet : Hid (∀ ss : List (List UInt8), ss.Perm (strKeys D) → met ss pre = (names o pre).length) := Lib.hid fun ss h => met_all h hperm hinv.keys
        have hrise := names_rise hnd pre
        have hmem : Hid (∀ q ∈ names o pre, hasPre q pre = true ∧ q.size ≤ 40 ∧ ∃ c, look pm q = some c ∧ 1 ≤ c) := by
          apply Lib.hid
          intro q hq
          have h1 := mem_names hq
          have h2 := h1
          rw [hinv.keys] at h2
          obtain ⟨c, hc⟩ := look_isSome h2
          exact ⟨(List.mem_filter.1 hq).2, hinv.key q h1, c, hc, (hinv.cnt q c hc).1⟩
        generalize names o pre = N at hrow hnl hmet hrise hmem
        obtain ⟨a8, cap8, rfl, hc8, hc8', hcell⟩ := row_slice hrow
        have Hcell := Lib.hid hcell
        have Hr := Lib.hid (List.pairwise_iff_getElem.1 hrise)
        have Hm := Lib.hid hm8
        have Hsz := Lib.hid hsize
        unfold maxLen at hc8'
        clear hcell hrise hm8 hsize hrow hk8 hd hm hinv hk z1 z2 hnd hperm z3
        go_wp2_with (at_range; refine wpList_range_own _ rfl _ 37 rfl 9 3 (string_keyed Try.underlying9) Try.underlying37 anyR pb _ D rfl hown ?_; intro w0 hrg0 hg0 hs0; clear hs0)
        go_frame
        have hk80 : Keeps [] w8 w0 := Keeps.of_grown hg0 (by simp)
        clear hg0
        go_loopg [11] (Maps.size D) (CntRel w8 pb (encMap encI pm).length D pre)
        case atStart => exact ⟨_, [], hrg0, Collected.start D, rfl, by have := Hsz.out; simp; omega, hk80⟩
        case round =>
          obtain ⟨left, ss, hrg, hC, rfl, hss, hk8r⟩ := hrel
          clear hrg0 hk80
          have Hown := Lib.hid hrg.owns
          go_wp2_with (at_next; refine wpList_next_ranges _ rfl _ rfl 9 (string_keyed Try.underlying9) anyR encStr id (fun key kl h => by obtain ⟨x, hx, _⟩ := Maps.keyOf_str Try.underlying9 h; exact ⟨x, hx⟩) (fun v _ _ => ⟨v, rfl⟩) pb w8.heap.size _ D left _ rfl hrg ?_ ?_)
          · intro _ hl0
            rw [hmet.out ss (hC.perm Hown.out (string_keyed Try.underlying9) Try.underlying9 hl0)]
            clear hrg hC hss hl0
            go_wp2_with fail
            have Hk := Lib.hid hk8r
            clear hk8r
            go_loopg [74] N.length (ListRel w8 N.length)
            case atStart => exact ⟨0, Nat.zero_le _, rfl, rfl, Hk.out⟩
            case round =>
              obtain ⟨j, hjn, hgj, rfl, hkj⟩ := hrel
              have Hgj := Lib.hid hgj
              clear hgj
              by_cases hjt : j < N.length
              · obtain ⟨g, rfl, hg1, hg2, _⟩ := Hcell.out j (by omega)
                have cell : ∀ i (hi : i < N.length), wr.cell? ⟨g, i, none⟩ = some (.string N[i]) := by
                  intro i hi
                  rw [hkj.cell hg2 (by simp)]
                  obtain ⟨g', e', _, _, h'⟩ := Hcell.out i (by omega)
                  injection e' with e'; injection e' with e'; subst e'
                  rw [h']
                  simp [hi]
                obtain ⟨hp1, hp2, cn, hcn, hcn1⟩ := hmem.out N[j] (List.getElem_mem _)
                have hrl := (Hm.out.keep hkj (by simp)).run_lookup (P := Try.prog) Try.underlying37 Try.underlying9 (zeroInt _) N[j] false
                rw [lookVal_int, hcn] at hrl
                simp only [Option.getD_some] at hrl
                have hc0 : (cn == 0) = false := by rw [beq_eq_false_iff_ne]; omega
                simp only [hasPre, Bool.and_eq_true, decide_eq_true_eq] at hp1
                obtain ⟨hp3, hp4⟩ := hp1
                have hp5 : decide ((N[j].size : Int) < (pre.size : Int)) = false := by rw [decide_eq_false_iff_not]; omega
                have hp6 : (N[j].extract 0 pre.size).toList == pre.toList := by rw [toList_beq]; simpa using hp4
                have d0 := cell j hjt
                have Hkj := Lib.hid hkj
                cases j with
                | zero =>
                  generalize N[0] = n0 at *
                  clear hcn hp4 cell hkj
                  go_wp2_with fail
                  go_roundg (N.length - (0 + 1))
                  case measure => have := Hgj.out; omega
                  case rel => exact ⟨1, by omega, by omega, by go_num, Hkj.out⟩
                | succ j =>
                  have d1 := cell j (by omega)
                  have hlt := (less_iff _ _).2 (Hr.out j (j + 1) (by omega) hjt (by omega))
                  rw [← ByteArray.toList_eq, ← ByteArray.toList_eq] at hlt
                  generalize N[j + 1] = n1 at *
                  generalize N[j] = n0 at *
                  clear hcn hp4 cell hkj
                  go_wp2_with fail
                  go_roundg (N.length - (j + 1 + 1))
                  case measure => have := Hgj.out; omega
                  case rel => exact ⟨j + 1 + 1, by omega, by omega, by go_num, Hkj.out⟩
              · have hj : decide ((j : Int) < (N.length : Int)) = false := by rw [decide_eq_false_iff_not]; omega
                have Hkj := Lib.hid hkj
                clear hkj
                go_wp2_with fail
                go_ret
                exact ⟨rfl, hk08.trans Hkj.out⟩
          · intro x cv kl y1 y2 w1 cnt1 hkey hlk hv hat hrg1 hlt hg1 hs1 hen
            obtain ⟨x', ex, rfl, hxl⟩ := Maps.keyOf_str Try.underlying9 hkey
            obtain rfl := encStr_inj ex
            have hC1 := hC.step hlk hat
            have hk81 : Keeps [] w8 w1 := hk8r.grown hg1 (fun q hq => by injection hq with hq; subst hq; exact .inr (Nat.le_refl _))
            have hmt := met_app ss x pre
            have hml := met_le ss pre
            simp only [encStr] at hen ⊢
            have hns : (⟨x.toArray⟩ : ByteArray).size = x.length := by simp [ByteArray.size]
            have H1 := Lib.hid (And.intro hrg1 (And.intro hC1 (And.intro hmt (And.intro hk81 hlt))))
            unfold maxLen at hxl
            clear hkey hlk hv hat hrg1 hlt hg1 hs1 hC1 hmt hk81 hrg hC Hown hk8r ex
            generalize (⟨x.toArray⟩ : ByteArray) = nm at hns hen H1 ⊢
            cases hpn : hasPre nm pre with
            | true =>
              have hp := hpn
              simp only [hasPre, Bool.and_eq_true, decide_eq_true_eq] at hp
              obtain ⟨hp3, hp4⟩ := hp
              have hp5 : decide ((nm.size : Int) ≥ (pre.size : Int)) = true := by rw [decide_eq_true_iff]; omega
              have hp6 : (nm.extract 0 pre.size).toList == pre.toList := by rw [toList_beq]; simpa using hp4
              rw [hpn] at H1
              clear hp4 hpn
              go_wp2_with fail
              go_roundg cnt1
              case measure => exact H1.out.2.2.2.2
              case rel => exact ⟨_, ss ++ [x], H1.out.1, H1.out.2.1, by rw [H1.out.2.2.1]; simp, by have := H1.out.2.2.2.2; simp; omega, H1.out.2.2.2.1⟩
            | false =>
              rw [hpn] at H1
              by_cases hle : pre.size ≤ nm.size
              · have hp5 : decide ((nm.size : Int) ≥ (pre.size : Int)) = true := by rw [decide_eq_true_iff]; omega
                have hp6 : ((nm.extract 0 pre.size).toList == pre.toList) = false := by
                  rw [toList_beq]
                  simpa [hasPre, hle] using hpn
                clear hpn
                go_wp2_with fail
                go_roundg cnt1
                case measure => exact H1.out.2.2.2.2
                case rel => exact ⟨_, ss ++ [x], H1.out.1, H1.out.2.1, by rw [H1.out.2.2.1]; simp, by have := H1.out.2.2.2.2; simp; omega, H1.out.2.2.2.1⟩
              · have hp5 : decide ((nm.size : Int) ≥ (pre.size : Int)) = false := by rw [decide_eq_false_iff_not]; omega
                clear hpn
                go_wp2_with fail
                go_roundg cnt1
                case measure => exact H1.out.2.2.2.2
                case rel => exact ⟨_, ss ++ [x], H1.out.1, H1.out.2.1, by rw [H1.out.2.2.1]; simp, by have := H1.out.2.2.2.2; simp; omega, H1.out.2.2.2.1⟩

theorem diskNames_law (W : World) (v : Value) (h : ∃ ss : List ByteArray, SliceArg 1 (fun s => [Value.string s]) W v ss ∧ ∀ s ∈ ss, s.size ≤ maxLen) (pre : ByteArray) (_ : pre.size ≤ maxLen) :
    Calls Try.prog 11 #[v, .string pre] W fun e w' => e = .returned (.bool true) ∧ Keeps [] W w' := by
  obtain ⟨ss, h1, _⟩ := h
  exact diskNames_walk W v ss h1 pre

end Go.Proofs.Ythcdodjdlgeeoaa
