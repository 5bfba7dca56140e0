/-
  label.Parse at a text of twelve pairs at most that may be a set.
  The library's variable internal/bytealg.MaxLen holds some number; the text is no longer than 1000000 bytes.
-/
import Derived.Test.YtlifonflgcfafaaGreatDoorLabelN
import Derived.Test.YtlifonflgcfafaaGreatDoorMatParse
namespace Go.Proofs.YtlifonflgcfafaaGreatDoor
open Go Go.RowKit Go.Shelf

attribute [local go_sem] Oper.semAt_some
def cutP (x : ByteArray) : Option PairB := if (Lib.cut x.data.toList [61]).2.2 = true then some (⟨(Lib.cut x.data.toList [61]).1.toArray⟩, ⟨(Lib.cut x.data.toList [61]).2.1.toArray⟩) else none

def mapP : List ByteArray → Option (List PairB)
  | [] => some []
  | p :: r => match cutP p, mapP r with | some m, some l => some (m :: l) | _, _ => none

theorem mapP_snoc : ∀ (l : List ByteArray) (p : ByteArray), mapP (l ++ [p]) = (match mapP l, cutP p with | some L, some m => some (L ++ [m]) | _, _ => none)
  | [], p => by
    show mapP [p] = _
    unfold mapP mapP
    cases cutP p <;> rfl
  | q :: l, p => by
    have ih := mapP_snoc l p
    show mapP (q :: (l ++ [p])) = _
    unfold mapP
    rw [ih]
    cases cutP q <;> cases mapP l <;> cases cutP p <;> rfl

theorem mapP_mem : ∀ (l : List ByteArray) (P : List PairB) (x : ByteArray), mapP l = some P → x ∈ l → ∃ p, cutP x = some p
  | [], _, _, _, h => by cases h
  | q :: l, P, x, h, hx => by
    unfold mapP at h
    cases hq : cutP q with
    | none => rw [hq] at h; cases h
    | some m =>
      cases hl : mapP l with
      | none => rw [hq, hl] at h; cases h
      | some L' =>
        rcases List.mem_cons.1 hx with rfl | hx
        · exact ⟨m, hq⟩
        · exact mapP_mem l L' x hl hx

theorem mapP_len : ∀ (l : List ByteArray) (L : List PairB), mapP l = some L → L.length = l.length
  | [], L, h => by cases h; rfl
  | q :: l, L, h => by
    unfold mapP at h
    cases hq : cutP q with
    | none => rw [hq] at h; cases h
    | some m =>
      cases hl : mapP l with
      | none => rw [hq, hl] at h; cases h
      | some L' =>
        rw [hq, hl] at h
        cases h
        simp [mapP_len l L' hl]

/-- Between two rounds. -/
def LIn (w : World) (b : Nat) (pre : List ByteArray) (W : World) : Prop := ∃ v P, mapP pre = some P ∧ W.heap[b + 2]? = some (.cells #[v] 73 (0, 0)) ∧ W.ownsRow (b + 6) 138 2 v P.length (P.flatMap encPB) ∧
  W.heap[b]? = some (.cells #[.slice none 0 0] 74 (0, 0)) ∧ W.heap[b + 1]? = some (.cells #[.int .i64 0] 24 (0, 0)) ∧ Keeps [] w W ∧ b + 6 ≤ W.heap.size

theorem lin_own (w : World) (b : Nat) (hb : b = w.heap.size) : OwnFrom (b + 6) (LIn w b) := ownFrom_keeps fun pre W W' S h k hS => by
  obtain ⟨v, P, h1, h2, h3, h5, h6, h7, h8⟩ := h
  have hc : ∀ x ∈ S, ∀ o, W.heap[x]? = some o → o.isCells = false := fun x hx => (hS x hx).2
  exact ⟨v, P, h1, k.at_cells h2 hc, k.row_cells h3 hc, k.at_cells h5 hc, k.at_cells h6 hc, h7.after k (fun x hx => .inr (by have := (hS x hx).1; omega)), Nat.le_trans h8 k.size⟩

theorem lin_set (w : World) (b : Nat) (hb : b = w.heap.size) (pre : List ByteArray) (W : World) (u : Value) (h : LIn w b pre W) : LIn w b pre (W.setCell ⟨b + 3, 0, none⟩ u) := by
  obtain ⟨v, P, h1, h2, h3, h5, h6, h7, h8⟩ := h
  have k : Keeps [b + 3] W (W.setCell ⟨b + 3, 0, none⟩ u) := (Keeps.refl _ W).setCell (.inl (by simp)) _
  exact ⟨v, P, h1, k.at_ h2 (by simp), k.row_low h3 (by omega), k.at_ h5 (by simp), k.at_ h6 (by simp), h7.after k (fun x hx => .inr (by rw [show x = b + 3 from (by simpa using hx)]; omega)), Nat.le_trans h8 k.size⟩

def LPost (w : World) (P : List PairB) (e : Ending) (w' : World) : Prop := ∃ v, e = .returned (.tuple #[v, .int .i64 0]) ∧ SliceArg 2 encPB w' v (sortP P) ∧ Keeps [] w w'

set_option linter.unusedSimpArgs false in
set_option maxRecDepth 100000 in
set_option maxHeartbeats 2000000 in
theorem labParse_spec (w : World) (hv : LibVar w) (s : ByteArray) (hs : s.size ≤ 1000000) (PP : List PairB) (hmp : mapP (partsB 44 s) = some PP) (h0 : 0 < PP.length) (h12 : PP.length ≤ 12) (hck : chkSet (sortP PP) = true) :
    Calls Tryz.prog 24 #[.string s] w (LPost w PP) := by
  obtain ⟨ip, hip, hz0, hz1, hz2⟩ := info_parts infoPair
  obtain ⟨b, hb⟩ : ∃ b, b = w.heap.size := ⟨_, rfl⟩
  have HPP := Lib.hid (And.intro hmp (And.intro h0 (And.intro h12 hck)))
  clear hmp h0 h12 hck
  refine (callsIn_wide (n := 6)).1 ?_
  refine callsIn_of_wp_marks Tryz.func24 rfl trivial ?_ rfl
  simp only [Tryz.ntmps24, List.size_toArray, List.length_cons, List.length_nil, Nat.reduceAdd, Nat.reduceSub, Array.replicate_succ, Array.replicate_zero, List.push_toArray, List.append_toArray, List.nil_append, List.cons_append]
  have kw : Keeps [] w ((((((w.alloc (.cells #[.slice none 0 0] 74)).alloc (.cells #[.int .i64 0] 24)).alloc (.cells #[.slice none 0 0] 73)).alloc (.cells #[.string s] 9)).alloc (.cells #[.string ⟨#[44]⟩] 9)).alloc (.cells #[.int .i64 0] 3)) := ((((((Keeps.refl [] w).alloc _).alloc _).alloc _).alloc _).alloc _).alloc _
  have n1 := new5 w (.cells #[.slice none 0 0] 74) (.cells #[.int .i64 0] 24) (.cells #[.slice none 0 0] 73) (.cells #[.string s] 9) (.cells #[.string ⟨#[44]⟩] 9)
  have n6 := heap_new (((((w.alloc (.cells #[.slice none 0 0] 74)).alloc (.cells #[.int .i64 0] 24)).alloc (.cells #[.slice none 0 0] 73)).alloc (.cells #[.string s] 9)).alloc (.cells #[.string ⟨#[44]⟩] 9)) (.cells #[.int .i64 0] 3)
  have k6 : Keeps [] (((((w.alloc (.cells #[.slice none 0 0] 74)).alloc (.cells #[.int .i64 0] 24)).alloc (.cells #[.slice none 0 0] 73)).alloc (.cells #[.string s] 9)).alloc (.cells #[.string ⟨#[44]⟩] 9)) ((((((w.alloc (.cells #[.slice none 0 0] 74)).alloc (.cells #[.int .i64 0] 24)).alloc (.cells #[.slice none 0 0] 73)).alloc (.cells #[.string s] 9)).alloc (.cells #[.string ⟨#[44]⟩] 9)).alloc (.cells #[.int .i64 0] 3)) := (Keeps.refl [] _).alloc _
  have nn := go1 k6 n1
  have hsz : (((((w.alloc (.cells #[.slice none 0 0] 74)).alloc (.cells #[.int .i64 0] 24)).alloc (.cells #[.slice none 0 0] 73)).alloc (.cells #[.string s] 9)).alloc (.cells #[.string ⟨#[44]⟩] 9)).heap.size = w.heap.size + 1 + 1 + 1 + 2 := by simp
  have hsz6 : ((((((w.alloc (.cells #[.slice none 0 0] 74)).alloc (.cells #[.int .i64 0] 24)).alloc (.cells #[.slice none 0 0] 73)).alloc (.cells #[.string s] 9)).alloc (.cells #[.string ⟨#[44]⟩] 9)).alloc (.cells #[.int .i64 0] 3)).heap.size = w.heap.size + 6 := by simp
  rw [hsz] at n6
  have hlv := go1 kw hv
  have Hv := Lib.hid hv
  have hgl := hv.lt
  have H1 := Lib.hid (And.intro kw (And.intro nn (And.intro n6 (And.intro hsz6 hlv))))
  clear kw n1 n6 k6 nn hsz hsz6 hlv hv
  gi_wp2
  refine ⟨trivial, (callsIn_wide.2 (split_spec _ s ⟨#[44]⟩)).mono ?_⟩
  rintro e w1 ⟨rfl, rfl⟩
  gi_wp2
  generalize (((((w.alloc (.cells #[.slice none 0 0] 74)).alloc (.cells #[.int .i64 0] 24)).alloc (.cells #[.slice none 0 0] 73)).alloc (.cells #[.string s] 9)).alloc (.cells #[.string ⟨#[44]⟩] 9)).alloc (.cells #[.int .i64 0] 3) = W6 at H1 ⊢
  rw [← hb] at H1 ⊢
  have hN : (partsB 44 s).length ≤ 1000001 := by have := (parts_sizes 44 _ s (Nat.le_refl _)).1; omega
  have HN := Lib.hid (And.intro hN (parts_sizes 44 _ s (Nat.le_refl _)).2)
  have HB := Lib.hid hb
  have HS6 := H1.out.2.2.2.1
  obtain ⟨m, hm⟩ := H1.out.2.2.2.2
  have hat : SplitAt W6 (b + 1 + 1 + 1 + 1) (b + 1 + 1 + 1) (b + 1 + 1 + 1 + 2) 44 s m := ⟨H1.out.2.1.2.2.2.2, H1.out.2.1.2.2.2.1, H1.out.2.2.1, hm, by omega, by omega, by rw [← hb] at hgl; omega⟩
  have Hat := Lib.hid hat
  rw [← hb] at hgl
  clear hb hm hat hN
  refine wpIn_rangeFunc_B rfl (by omega) (gf := 129) (lb := #[.pointer (some ⟨b + 1 + 1 + 1 + 1, 0, none⟩), .pointer (some ⟨b + 1 + 1 + 1, 0, none⟩), .pointer (some ⟨b + 1 + 1 + 1 + 2, 0, none⟩)]) rfl trivial (enters_of Tryz.func129 (by kernel_rfl) rfl)
    (splitB_seq 5 (by omega) (b + 1 + 1 + 1 + 1) (b + 1 + 1 + 1) (b + 1 + 1 + 1 + 2) 44 s m (by omega)) (fun W k => ?pre) (by omega) ?ks (fun _ => rfl)
    (LIn w b) (fun _ _ _ => False) (by rw [HS6]; exact lin_own w b HB.out) (fun _ _ _ _ _ hs _ _ => hs) (fun pre W u h => lin_set w b HB.out pre W u h) ?start
    (fun x => { tmps := #[.string s, undef, .pointer (some ⟨b, 0, none⟩), .pointer (some ⟨b + 1, 0, none⟩), .pointer (some ⟨b + 1 + 1, 0, none⟩), .string x, undef, undef, undef, undef, undef, .string s,
        .func (.func 129) #[] #[.pointer (some ⟨b + 1 + 1 + 1 + 1, 0, none⟩), .pointer (some ⟨b + 1 + 1 + 1, 0, none⟩), .pointer (some ⟨b + 1 + 1 + 1 + 2, 0, none⟩)], .string x,
        undef, undef, undef, undef, undef, undef, undef, undef, undef, undef, undef, undef, undef, undef, undef, undef, undef, undef, undef, undef, undef, undef, undef], defers := [] }) ?assign ?body ?done ?stop
  case pre =>
    obtain ⟨h1, h2, h3, h4, h5⟩ := Hat.out
    exact ⟨k.at_ h1 (by simp), k.at_ h2 (by simp), k.at_ h3 (by simp), (k.cell (by rw [HS6]; omega) (by simp)).trans h4, h5⟩
  case ks =>
    intro p hp
    rw [HS6]
    simp at hp
    omega
  case start => exact ⟨.slice none 0 0, [], rfl, H1.out.2.1.2.2.1, World.ownsRow_nil _ _ _ 2, H1.out.2.1.1, H1.out.2.1.2.1, H1.out.1, Nat.le_of_eq HS6.symm⟩
  case assign =>
    intro l x W K hK
    gi_wp2
    exact hK
  case body =>
    rintro l pre x W ⟨v, P, hmap, c2, hrow, c0, c1, hkw, hsz⟩ hlt ⟨r, hr⟩
    have hmem : x ∈ partsB 44 s := by rw [← hr]; simp
    have hxz : x.size ≤ s.size := HN.out.2 x hmem
    obtain ⟨⟨p1, p2⟩, hcp⟩ := mapP_mem _ _ x HPP.out.1 hmem
    have hcut : (Lib.cut x.data.toList [61]).2.2 = true ∧ (⟨(Lib.cut x.data.toList [61]).1.toArray⟩ : ByteArray) = p1 ∧ (⟨(Lib.cut x.data.toList [61]).2.1.toArray⟩ : ByteArray) = p2 := by
      have h := hcp
      unfold cutP at h
      split at h
      · rename_i hh
        injection h with h
        injection h with e1 e2
        exact ⟨hh, e1, e2⟩
      · cases h
    obtain ⟨m', hm'⟩ := H1.out.2.2.2.2
    have hPn : P.length ≤ 1000001 := by
      have h2 := mapP_len _ _ hmap
      have h4 := HN.out.1
      omega
    have hmW : LibVar W := Hv.out.keep hkw (by simp)
    obtain ⟨mm, hmm⟩ := hmW
    have Hcut := Lib.hid (Tryz.strings_Cut x ⟨#[61]⟩ mm W (by omega) hmm)
    have HI := Lib.hid (And.intro c2 (And.intro hrow (And.intro c0 (And.intro c1 hkw))))
    have HM := Lib.hid (And.intro hmap (And.intro hcp hsz))
    have HQ := Lib.hid hcut
    clear hmap c2 hrow c0 c1 hkw hlt hr hsz hcp hcut hmem hmm m' hm'
    gi_wp2
    refine ⟨trivial, (CallsIn.inRound l (callsIn_wide.2 Hcut.out)).mono ?_⟩
    rintro e w2 ⟨rfl, nq, rfl⟩
    rw [HQ.out.1, HQ.out.2.1, HQ.out.2.2]
    have kq : Keeps [] W (W.drewN nq) := (Keeps.refl [] W).drewN nq
    have H2 := Lib.hid (And.intro (go1 kq HI.out) kq)
    clear kq Hcut
    generalize W.drewN nq = w2 at H2 ⊢
    obtain ⟨aE, cE, rfl, -, -, -⟩ := row_slice H2.out.1.2.1
    have d3 : w2.cell? ⟨b + 1 + 1, 0, none⟩ = some (.slice aE P.length cE) := cells_at H2.out.1.1 0
    have l3 : b + 1 + 1 < w2.heap.size := lt_of_at H2.out.1.1
    have kB : Keeps [] w2 (w2.alloc (.cells #[.string p1, .string p2] 138)) := (Keeps.refl [] _).alloc _
    have H3 := Lib.hid (And.intro (heap_new w2 (.cells #[.string p1, .string p2] 138)) (go1 kB H2.out))
    clear kB
    gi_wp2_with (gi_at_builtin; refine wpListIn_append_own _ rfl _ _ 73 rfl (b + 6) 138 ip _ 2 32 Tryz.underlying73 hip hz0 hz1 hz2 rfl (by decide) (.slice aE P.length cE) P.length (P.flatMap encPB) rfl H3.out.2.1.2.1 ⟨w2.heap.size, 0, none⟩ 1 1 [.string p1, .string p2] rfl rfl (news_two H3.out.1) (by simp [Value.oneCell']) (by simp only [maxLen]; omega) (by omega) (by have := H3.out.2.2.size; have := HM.out.2.2; omega) ?_; intro v' w4 hown4 hgrow4 hnil4; clear hnil4; obtain ⟨a4, c4, rfl, -, -, -⟩ := row_slice hown4; have hN := H3.out.2.1.2.1; have k4 := keeps_row hgrow4; have n4 := k4.at_ H3.out.2.1.1 (fun hm => row_ne_cells hN H3.out.2.1.1 (by decide) _ (by simpa using hm) rfl); have c4' : w4.cell? ⟨b + 1 + 1, 0, none⟩ = some (.slice aE P.length cE) := cells_at n4 0; have f4 : ∀ i, w4.frozen? ⟨b + 1 + 1, i, none⟩ = false := free_at n4; have l4 : b + 1 + 1 < w4.heap.size := lt_of_at n4)
    have k5 : Keeps [b + 1 + 1] w4 (w4.setCell ⟨b + 1 + 1, 0, none⟩ (.slice a4 (P.length + 1) c4)) := (Keeps.refl _ w4).setCell (.inl (by simp)) _
    have n5 : (w4.setCell ⟨b + 1 + 1, 0, none⟩ (.slice a4 (P.length + 1) c4)).heap[b + 1 + 1]? = some (.cells #[.slice a4 (P.length + 1) c4] 73 (0, 0)) := by
      have := heap_cell_same (i := 0) n4 (.slice a4 (P.length + 1) c4)
      simpa using this
    generalize w4.setCell ⟨b + 1 + 1, 0, none⟩ (.slice a4 (P.length + 1) c4) = W5 at k5 n5 ⊢
    have hob : ∀ g, g ∈ (Value.slice aE P.length cE).ownBlock.toList → b + 6 ≤ g ∧ ∀ o, W.heap[g]? = some o → o.isCells = true := fun g hg => by
      obtain ⟨h1, o, ho, hc⟩ := own_block_cells HI.out.2.1 g (by simpa using hg)
      exact ⟨h1, fun o' ho' => by rw [ho] at ho'; cases ho'; exact hc⟩
    have kT : Keeps ((Value.slice aE P.length cE).ownBlock.toList ++ [b + 1 + 1]) W W5 := ((H3.out.2.2.mono (by simp)).trans (k4.mono (fun y hy => List.mem_append_left _ hy))).trans (k5.mono (fun y hy => List.mem_append_right _ hy))
    have hwW := HI.out.2.2.2.2.size
    refine ⟨keepsFrom_of kT ?cells _, stands_of kT ?stands, ?inv⟩
    case cells =>
      intro y hy o ho
      rcases List.mem_append.1 hy with hy | hy
      · exact (hob y hy).2 o ho
      · obtain rfl : y = b + 1 + 1 := by simpa using hy
        have e := HI.out.1
        change W.heap[b + 1 + 1]? = _ at e
        rw [e] at ho
        cases ho
        rfl
    case stands =>
      intro y hy
      have hz := HM.out.2.2
      refine ⟨by simp at hy; omega, fun hm => ?_⟩
      rcases List.mem_append.1 hm with hm | hm
      · have := (hob y hm).1
        simp at hy
        omega
      · simp at hm hy
        omega
    case inv =>
      have m0 := k5.at_ (k4.at_ H3.out.2.1.2.2.1 (fun hm => row_ne_cells hN H3.out.2.1.2.2.1 (by decide) _ (by simpa using hm) rfl)) (by simp; omega)
      have m1 := k5.at_ (k4.at_ H3.out.2.1.2.2.2.1 (fun hm => row_ne_cells hN H3.out.2.1.2.2.2.1 (by decide) _ (by simpa using hm) rfl)) (by simp)
      refine ⟨_, P ++ [(p1, p2)], by rw [mapP_snoc, HM.out.1, HM.out.2.1], n5, ?_, m0, m1, ?_, ?_⟩
      · have h6 := k5.row_low hown4 (by omega)
        rw [List.length_append, List.flatMap_append]
        simpa [encPB] using h6
      · exact HI.out.2.2.2.2.after kT (fun y hy => .inr (by
          have := HB.out
          rcases List.mem_append.1 hy with hy | hy
          · have := (hob y hy).1
            omega
          · simp at hy
            omega))
      · have := kT.size
        have := HM.out.2.2
        omega
  case done =>
    rintro D ys W hD rfl ⟨v, P, hmap, n2, hrow, n0, n1, hkw, hsz⟩ hK
    obtain rfl : PP = P := by rw [HPP.out.1] at hmap; injection hmap
    have c2 : W.cell? ⟨b + 1 + 1, 0, none⟩ = some v := cells_at n2 0
    have l2 : b + 1 + 1 < W.heap.size := lt_of_at n2
    obtain ⟨aE, cE, rfl, -, -, -⟩ := row_slice hrow
    have HD := Lib.hid (And.intro n0 (And.intro n1 (And.intro hrow (And.intro hkw hK))))
    clear n0 n1 n2 hrow hkw hK hmap
    gi_wp2
    refine ⟨trivial, (callsIn_wide.2 (makeN_spec W (b + 6) _ PP HD.out.2.2.1 HPP.out.2.1 HPP.out.2.2.1 HPP.out.2.2.2)).mono ?_⟩
    rintro e w3 ⟨v3, rfl, hr3, hk3⟩
    obtain ⟨a3, c3, rfl, -, -, -⟩ := row_slice hr3
    have HE := Lib.hid (And.intro (hk3.at_ HD.out.1 (by simp)) (And.intro (hk3.at_ HD.out.2.1 (by simp)) (And.intro hr3 (And.intro (HD.out.2.2.2.1.trans hk3) (hk3.at_ HD.out.2.2.2.2 (by simp))))))
    have hsW : b + 6 ≤ W.heap.size := hsz
    clear hk3 hr3 HD c2 l2
    have c0 := cells_at HE.out.1
    have f0 := free_at HE.out.1
    have l0 := lt_of_at HE.out.1
    have c1 := cells_at HE.out.2.1
    have f1 := free_at HE.out.2.1
    have l1 := lt_of_at HE.out.2.1
    gi_wp2
    obtain ⟨W9, hW9, nA, nB, k9⟩ := set_two HE.out.1 HE.out.2.1 (by omega) (.slice a3 PP.length c3) (.int .i64 0)
    rw [← hW9]
    have hD2 : W9.heap[D]? = some (.deferred (some [])) := k9.at_ HE.out.2.2.2.2 (by simp; omega)
    have hDW := lt_of_at hD2
    refine ⟨by simp, .inl ⟨_, _, rfl, run_takeDeferred hD2, ?_⟩⟩
    have q10 : Keeps [D] W9 (W9.putObj D (.deferred none)) := Keeps.of_grown (grownBy_putObj' W9 D _) (fun k hk => .inl (by simp at hk; simp [hk]))
    have hnc : ∀ y ∈ [D], ∀ o, W9.heap[y]? = some o → o.isCells = false := fun y hy o ho => by
      obtain rfl : y = D := by simpa using hy
      rw [hD2] at ho
      cases ho
      rfl
    have hl9 : ∀ g, g ∈ [b, b + 1] → g < b + 6 := fun g hg => by simp at hg; omega
    have r9 := k9.row HE.out.2.2.1 (fun g hg hm => by have := (own_block_cells HE.out.2.2.1 g hg).1; have := hl9 g hm; omega)
    have r10 := q10.row_cells r9 hnc
    have nA3 := q10.at_cells nA hnc
    have nB3 := q10.at_cells nB hnc
    have hbw := HB.out
    have kF : Keeps [] w (W9.putObj D (.deferred none)) := (HE.out.2.2.2.1.after k9 (fun x hx => .inr (by simp at hx; omega))).after q10 (fun x hx => .inr (by simp at hx; omega))
    generalize W9.putObj D (.deferred none) = W10 at r10 nA3 nB3 kF ⊢
    have cA3 := cells_at nA3 0
    have cB3 := cells_at nB3 0
    simp at cA3 cB3
    refine ⟨.tuple #[.slice a3 PP.length c3, .int .i64 0], by simp [results, Tryz.results24, go_sem, cA3, cB3], ⟨_, rfl, ?_, kF⟩⟩
    exact row_pairs (P := sortP PP) (by rw [sortP_len]; exact r10)
  case stop =>
    rintro D c pre W _ _ h _
    exact h.elim
end Go.Proofs.YtlifonflgcfafaaGreatDoor
