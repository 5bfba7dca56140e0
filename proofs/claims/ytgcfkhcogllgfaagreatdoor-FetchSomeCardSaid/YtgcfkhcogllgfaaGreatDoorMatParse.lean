/-
  matcher.Parse at any text.
  The variable matcher.signs holds its five signs; the library's variable internal/bytealg.MaxLen holds some number; the text is no longer than 1000000 bytes.
-/
import Derived.Test.YtgcfkhcogllgfaaGreatDoorMParseA
namespace Go.Proofs.YtgcfkhcogllgfaaGreatDoor
set_option maxRecDepth 100000
set_option maxHeartbeats 2000000
set_option linter.unusedSimpArgs false
open Go Go.RowKit Go.Shelf
attribute [local go_sem] Oper.semAt_some
def mapB : List ByteArray → Option (List MatB)
 | [] => some []
 | p :: r => match mparseB p, mapB r with | some m, some l => some (m :: l) | _, _ => none
theorem mapB_snoc : ∀ (l : List ByteArray) (p : ByteArray), mapB (l ++ [p]) = (match mapB l, mparseB p with | some L, some m => some (L ++ [m]) | _, _ => none)
 | [], p => by
  show mapB [p] = _
  unfold mapB mapB
  cases mparseB p <;> rfl
 | q :: l, p => by
  have ih := mapB_snoc l p
  show mapB (q :: (l ++ [p])) = _
  unfold mapB
  rw [ih]
  cases mparseB q <;> cases mapB l <;> cases mparseB p <;> rfl
theorem mapB_fail : ∀ (l r : List ByteArray), mapB l = none → mapB (l ++ r) = none
 | [], _, h => by cases h
 | q :: l, r, h => by
  have ih := mapB_fail l r
  show mapB (q :: (l ++ r)) = none
  unfold mapB at h ⊢
  cases hq : mparseB q with
  | none => rfl
  | some m =>
   rw [hq] at h
   cases hl : mapB l with
   | none => rw [ih hl]
   | some L => rw [hl] at h; cases h
theorem mapB_len : ∀ (l : List ByteArray) (L : List MatB), mapB l = some L → L.length = l.length
 | [], L, h => by cases h; rfl
 | q :: l, L, h => by
  unfold mapB at h
  cases hq : mparseB q with
  | none => rw [hq] at h; cases h
  | some m =>
   cases hl : mapB l with
   | none => rw [hq, hl] at h; cases h
   | some L' =>
    rw [hq, hl] at h
    cases h
    simp [mapB_len l L' hl]
def mparsesB (s : ByteArray) : Option (List MatB) := if s = ⟨#[]⟩ then some [] else mapB (partsC 44 s)
def MsPost (w : World) (r : Option (List MatB)) (e : Ending) (w' : World) : Prop := match r with
 | none => e = .returned (.tuple #[.slice none 0 0, .int .i64 3]) ∧ Keeps [] w w'
 | some L => ∃ v, e = .returned (.tuple #[v, .int .i64 0]) ∧ MatsAt w' v L ∧ Keeps [] w w'
theorem mats_nil (w : World) : MatsAt w (.slice none 0 0) [] := ⟨[], ⟨none, 0, rfl, by simp [maxLen], fun i hi => by simp at hi⟩, rfl, fun i hi => by simp at hi⟩
def PIn (w : World) (b : Nat) (pre : List ByteArray) (W : World) : Prop := ∃ v E L, mapB pre = some L ∧ W.heap[b + 2]? = some (.cells #[v] 23 (0, 0)) ∧ W.ownsRow (b + 6) 56 3 v E.length (E.flatMap encMV) ∧ ValsAt (b + 6) W E L ∧
 W.heap[b]? = some (.cells #[.slice none 0 0] 23 (0, 0)) ∧ W.heap[b + 1]? = some (.cells #[.int .i64 0] 64 (0, 0)) ∧ Keeps [] w W ∧ b + 6 ≤ W.heap.size
def PStop (w : World) (b : Nat) (c : Code) (pre : List ByteArray) (W : World) : Prop := c = .ret ∧ mapB pre = none ∧ W.heap[b]? = some (.cells #[.slice none 0 0] 23 (0, 0)) ∧ W.heap[b + 1]? = some (.cells #[.int .i64 3] 64 (0, 0)) ∧ Keeps [] w W
theorem pin_own (w : World) (b : Nat) (hb : b = w.heap.size) : OwnFrom (b + 6) (PIn w b) := ownFrom_keeps fun pre W W' S h k hS => by
 obtain ⟨v, E, L, h1, h2, h3, h4, h5, h6, h7, h8⟩ := h
 have hc : ∀ x ∈ S, ∀ o, W.heap[x]? = some o → o.isCells = false := fun x hx => (hS x hx).2
 exact ⟨v, E, L, h1, k.at_cells h2 hc, k.row_cells h3 hc, h4.keep k (fun v n xs hr g hg hm => by
   obtain ⟨-, o, ho, hcc⟩ := own_block_cells hr g hg
   rw [hc g hm o ho] at hcc
   cases hcc), k.at_cells h5 hc, k.at_cells h6 hc, h7.after k (fun x hx => .inr (by have := (hS x hx).1; omega)), Nat.le_trans h8 k.size⟩
theorem pstop_own (w : World) (b : Nat) (hb : b = w.heap.size) (c : Code) : OwnFrom (b + 6) (PStop w b c) := ownFrom_keeps fun pre W W' S h k hS => by
 obtain ⟨h1, h2, h3, h4, h5⟩ := h
 have hc : ∀ x ∈ S, ∀ o, W.heap[x]? = some o → o.isCells = false := fun x hx => (hS x hx).2
 exact ⟨h1, h2, k.at_cells h3 hc, k.at_cells h4 hc, h5.after k (fun x hx => .inr (by have := (hS x hx).1; omega))⟩
theorem pin_set (w : World) (b : Nat) (hb : b = w.heap.size) (pre : List ByteArray) (W : World) (u : Value) (h : PIn w b pre W) : PIn w b pre (W.setCell ⟨b + 3, 0, none⟩ u) := by
 obtain ⟨v, E, L, h1, h2, h3, h4, h5, h6, h7, h8⟩ := h
 have k : Keeps [b + 3] W (W.setCell ⟨b + 3, 0, none⟩ u) := (Keeps.refl _ W).setCell (.inl (by simp)) _
 exact ⟨v, E, L, h1, k.at_ h2 (by simp), k.row_low h3 (by omega), h4.keep k (fun v n xs hr g hg hm => by
   have := (own_block_cells hr g hg).1
   have : g = b + 3 := by simpa using hm
   omega), k.at_ h5 (by simp), k.at_ h6 (by simp), h7.after k (fun x hx => .inr (by rw [show x = b + 3 from (by simpa using hx)]; omega)), Nat.le_trans h8 k.size⟩
theorem matParse_spec (w : World) (hsg : SignsAt w) (hv : LibVar w) (s : ByteArray) (hs : s.size ≤ 1000000) :
  Calls Tryz.prog 20 #[.string s] w (MsPost w (mparsesB s)) := by
 obtain ⟨ip, hip, hz0, hz1, hz2⟩ := info_parts infoMatP
 obtain ⟨b, hb⟩ : ∃ b, b = w.heap.size := ⟨_, rfl⟩
 have n2 := new2 w (.cells #[.slice none 0 0] 23) (.cells #[.int .i64 0] 64)
 have k2 : Keeps [] w ((w.alloc (.cells #[.slice none 0 0] 23)).alloc (.cells #[.int .i64 0] 64)) := ((Keeps.refl [] w).alloc _).alloc _
 have H0 := Lib.hid (And.intro n2 (And.intro k2 (And.intro hsg hv)))
 clear n2 k2
 obtain ⟨R, hR⟩ : ∃ R, R = mparsesB s := ⟨_, rfl⟩
 rw [← hR]
 have HR := Lib.hid hR
 clear hR
 refine (callsIn_wide (n := 6)).1 ?_
 refine callsIn_of_wp_marks Tryz.func20 rfl trivial ?_ rfl
 simp only [Tryz.ntmps20, List.size_toArray, List.length_cons, List.length_nil, Nat.reduceAdd, Nat.reduceSub, Array.replicate_succ, Array.replicate_zero, List.push_toArray, List.append_toArray, List.nil_append, List.cons_append]
 by_cases hse : s = ⟨#[]⟩
 ·subst hse
  gi_wp2
  have cA := cells_at H0.out.1.1 0
  have cB := cells_at H0.out.1.2 0
  simp at cA cB
  refine ⟨.tuple #[.slice none 0 0, .int .i64 0], by simp [results, Tryz.results20, go_sem, cA, cB], ?_⟩
  rw [HR.out]
  exact ⟨_, rfl, mats_nil _, H0.out.2.1⟩
 ·obtain ⟨q1, q2, q3⟩ := not_empty hse
  have HR2 := Lib.hid (show R = mapB (partsC 44 s) from by rw [HR.out]; exact if_neg hse)
  clear HR hse
  have kw : Keeps [] w ((((((w.alloc (.cells #[.slice none 0 0] 23)).alloc (.cells #[.int .i64 0] 64)).alloc (.cells #[.slice none 0 0] 23)).alloc (.cells #[.string s] 9)).alloc (.cells #[.string ⟨#[44]⟩] 9)).alloc (.cells #[.int .i64 0] 3)) := ((((((Keeps.refl [] w).alloc _).alloc _).alloc _).alloc _).alloc _).alloc _
  have n1 := new5 w (.cells #[.slice none 0 0] 23) (.cells #[.int .i64 0] 64) (.cells #[.slice none 0 0] 23) (.cells #[.string s] 9) (.cells #[.string ⟨#[44]⟩] 9)
  have n6 := heap_new (((((w.alloc (.cells #[.slice none 0 0] 23)).alloc (.cells #[.int .i64 0] 64)).alloc (.cells #[.slice none 0 0] 23)).alloc (.cells #[.string s] 9)).alloc (.cells #[.string ⟨#[44]⟩] 9)) (.cells #[.int .i64 0] 3)
  have k6 : Keeps [] (((((w.alloc (.cells #[.slice none 0 0] 23)).alloc (.cells #[.int .i64 0] 64)).alloc (.cells #[.slice none 0 0] 23)).alloc (.cells #[.string s] 9)).alloc (.cells #[.string ⟨#[44]⟩] 9)) ((((((w.alloc (.cells #[.slice none 0 0] 23)).alloc (.cells #[.int .i64 0] 64)).alloc (.cells #[.slice none 0 0] 23)).alloc (.cells #[.string s] 9)).alloc (.cells #[.string ⟨#[44]⟩] 9)).alloc (.cells #[.int .i64 0] 3)) := (Keeps.refl [] _).alloc _
  have nn := go1 k6 n1
  have hsz : (((((w.alloc (.cells #[.slice none 0 0] 23)).alloc (.cells #[.int .i64 0] 64)).alloc (.cells #[.slice none 0 0] 23)).alloc (.cells #[.string s] 9)).alloc (.cells #[.string ⟨#[44]⟩] 9)).heap.size = w.heap.size + 1 + 1 + 1 + 2 := by simp
  have hsz6 : ((((((w.alloc (.cells #[.slice none 0 0] 23)).alloc (.cells #[.int .i64 0] 64)).alloc (.cells #[.slice none 0 0] 23)).alloc (.cells #[.string s] 9)).alloc (.cells #[.string ⟨#[44]⟩] 9)).alloc (.cells #[.int .i64 0] 3)).heap.size = w.heap.size + 6 := by simp
  rw [hsz] at n6
  have hlv := go1 kw hv
  have hgl := hv.lt
  have H1 := Lib.hid (And.intro kw (And.intro nn (And.intro n6 (And.intro hsz6 hlv))))
  clear kw n1 n6 k6 nn hsz hsz6 hlv hv hsg
  gi_wp2
  refine ⟨trivial, (callsIn_wide.2 (splitSeq_spec _ s ⟨#[44]⟩)).mono ?_⟩
  rintro e w1 ⟨rfl, rfl⟩
  gi_wp2
  generalize (((((w.alloc (.cells #[.slice none 0 0] 23)).alloc (.cells #[.int .i64 0] 64)).alloc (.cells #[.slice none 0 0] 23)).alloc (.cells #[.string s] 9)).alloc (.cells #[.string ⟨#[44]⟩] 9)).alloc (.cells #[.int .i64 0] 3) = W6 at H1 ⊢
  rw [← hb] at H1 ⊢
  have hN : (partsC 44 s).length ≤ 1000001 := by have := (parts_sizes 44 _ s (Nat.le_refl _)).1; omega
  have HN := Lib.hid (And.intro hN (parts_sizes 44 _ s (Nat.le_refl _)).2)
  have HB := Lib.hid hb
  have HS6 := H1.out.2.2.2.1
  obtain ⟨m, hm⟩ := H1.out.2.2.2.2
  have hat : SplitAt W6 (b + 1 + 1 + 1 + 1) (b + 1 + 1 + 1) (b + 1 + 1 + 1 + 2) 44 s m := ⟨H1.out.2.1.2.2.2.2, H1.out.2.1.2.2.2.1, H1.out.2.2.1, hm, by omega, by omega, by rw [← hb] at hgl; omega⟩
  have Hat := Lib.hid hat
  rw [← hb] at hgl
  clear hb hm hat hN
  refine wpIn_rangeFunc_B rfl (by omega) (gf := 104) (lb := #[.pointer (some ⟨b + 1 + 1 + 1 + 1, 0, none⟩), .pointer (some ⟨b + 1 + 1 + 1, 0, none⟩), .pointer (some ⟨b + 1 + 1 + 1 + 2, 0, none⟩)]) rfl trivial (enters_of Tryz.func104 (by kernel_rfl) rfl)
   (splitB_seq 5 (by omega) (b + 1 + 1 + 1 + 1) (b + 1 + 1 + 1) (b + 1 + 1 + 1 + 2) 44 s m (by omega)) (fun W k => ?pre) (by omega) ?ks (fun _ => rfl)
   (PIn w b) (PStop w b) (by rw [HS6]; exact pin_own w b HB.out) (fun c => by rw [HS6]; exact pstop_own w b HB.out c) (fun pre W u h => pin_set w b HB.out pre W u h) ?start
   (fun x => { tmps := #[.string s, undef, .pointer (some ⟨b, 0, none⟩), .pointer (some ⟨b + 1, 0, none⟩), .pointer (some ⟨b + 1 + 1, 0, none⟩), .string x, undef, undef, .string s, .bool false, .string s,
     .func (.func 104) #[] #[.pointer (some ⟨b + 1 + 1 + 1 + 1, 0, none⟩), .pointer (some ⟨b + 1 + 1 + 1, 0, none⟩), .pointer (some ⟨b + 1 + 1 + 1 + 2, 0, none⟩)], .string x,
     undef, undef, undef, undef, undef, undef, undef, undef, undef, undef, undef, undef, undef], defers := [] }) ?assign ?body ?done ?stop
  case pre =>
   obtain ⟨h1, h2, h3, h4, h5⟩ := Hat.out
   exact ⟨k.at_ h1 (by simp), k.at_ h2 (by simp), k.at_ h3 (by simp), (k.cell (by rw [HS6]; omega) (by simp)).trans h4, h5⟩
  case ks =>
   intro p hp
   rw [HS6]
   simp at hp
   omega
  case start => exact ⟨.slice none 0 0, [], [], rfl, H1.out.2.1.2.2.1, World.ownsRow_nil _ _ _ 3, ⟨rfl, fun i hi => by simp at hi⟩, H1.out.2.1.1, H1.out.2.1.2.1, H1.out.1, Nat.le_of_eq HS6.symm⟩
  case assign =>
   intro l x W K hK
   gi_wp2
   exact hK
  case body =>
   rintro l pre x W ⟨v, E, L, hmap, c2, hrow, hvals, c0, c1, hkw, hsz⟩ hlt ⟨r, hr⟩
   have hxz : x.size ≤ s.size := HN.out.2 x (by rw [← hr]; simp)
   have HI := Lib.hid (And.intro c2 (And.intro hrow (And.intro hvals (And.intro c0 (And.intro c1 hkw)))))
   have HM := Lib.hid (And.intro hmap (And.intro hlt hsz))
   clear hmap c2 hrow hvals c0 c1 hkw hlt hr hsz
   gi_wp2
   refine ⟨trivial, (CallsIn.inRound l (callsIn_wide.2 (mparseA_spec W (H0.out.2.2.1.keep HI.out.2.2.2.2.2) (H0.out.2.2.2.keep HI.out.2.2.2.2.2 (by simp)) x (by omega)))).mono ?_⟩
   rintro e w2 hp
   cases hx : mparseB x with
   | none =>
    rw [hx] at hp
    obtain ⟨rfl, hk2⟩ := hp
    have hk3 := hk2.alloc (.cells #[.int .i64 0, .string ⟨#[]⟩, .slice none 0 0] 56)
    have H2 := Lib.hid (And.intro (go1 hk3 HI.out) hk3)
    have HX := Lib.hid hx
    clear hk2 hk3 hx
    have cA : (w2.alloc (.cells #[.int .i64 0, .string ⟨#[]⟩, .slice none 0 0] 56)).cell? ⟨b, 0, none⟩ = some (.slice none 0 0) := cells_at H2.out.1.2.2.2.1 0
    have cB : (w2.alloc (.cells #[.int .i64 0, .string ⟨#[]⟩, .slice none 0 0] 56)).cell? ⟨b + 1, 0, none⟩ = some (.int .i64 0) := cells_at H2.out.1.2.2.2.2.1 0
    have fA := free_at H2.out.1.2.2.2.1
    have fB := free_at H2.out.1.2.2.2.2.1
    have lA := lt_of_at H2.out.1.2.2.2.1
    have lB := lt_of_at H2.out.1.2.2.2.2.1
    gi_wp2
    obtain ⟨W9, hW9, nA, nB, k9⟩ := set_two H2.out.1.2.2.2.1 H2.out.1.2.2.2.2.1 (by omega) (.slice none 0 0) (.int .i64 3)
    rw [← hW9]
    have hc : ∀ y ∈ [b, b + 1], ∀ o, W.heap[y]? = some o → o.isCells = true := fun y hy o ho => by
     rcases (by simpa using hy : y = b ∨ y = b + 1) with rfl | rfl
     ·rw [HI.out.2.2.2.1] at ho; cases ho; rfl
     ·rw [HI.out.2.2.2.2.1] at ho; cases ho; rfl
    exact ⟨keepsFrom_of ((H2.out.2.mono (by simp)).trans k9) hc _, rfl, by rw [mapB_snoc, HM.out.1, HX.out], nA, nB, H2.out.1.2.2.2.2.2.after k9 (fun y hy => .inr (by have := HB.out; simp at hy; omega))⟩
   | some m =>
    rw [hx] at hp
    obtain ⟨v2, rfl, hrow2, hk2⟩ := hp
    obtain ⟨a2, c2, rfl, -, -, -⟩ := row_slice hrow2
    obtain ⟨mk, mn, mv⟩ := m
    dsimp only at hrow2 ⊢
    have hEL : E.length ≤ 1000001 := by
     have h1 := HI.out.2.2.1.1
     have h2 := mapB_len _ _ HM.out.1
     have h3 := HM.out.2.1
     have h4 := HN.out.1
     omega
    have kA : Keeps [] w2 (w2.alloc (.cells #[.int .i64 mk, .string mn, .slice a2 mv.length c2] 56)) := (Keeps.refl [] w2).alloc _
    have H2 := Lib.hid (And.intro (heap_new w2 (.cells #[.int .i64 mk, .string mn, .slice a2 mv.length c2] 56)) (And.intro (go1 kA (row_base (b' := b + 6) hrow2 HM.out.2.2)) (And.intro (go1 (hk2.trans kA) HI.out) (hk2.trans kA))))
    have HX := Lib.hid hx
    clear hk2 kA hrow2 hx
    obtain ⟨aE, cE, rfl, -, -, -⟩ := row_slice H2.out.2.2.1.2.1
    have d0 : (w2.alloc (.cells #[.int .i64 mk, .string mn, .slice a2 mv.length c2] 56)).cell? ⟨w2.heap.size, 0, none⟩ = some (.int .i64 mk) := cells_at H2.out.1 0
    have d1 : (w2.alloc (.cells #[.int .i64 mk, .string mn, .slice a2 mv.length c2] 56)).cell? ⟨w2.heap.size, 1, none⟩ = some (.string mn) := cells_at H2.out.1 1
    have d2 : (w2.alloc (.cells #[.int .i64 mk, .string mn, .slice a2 mv.length c2] 56)).cell? ⟨w2.heap.size, 2, none⟩ = some (.slice a2 mv.length c2) := cells_at H2.out.1 2
    have d3 : (w2.alloc (.cells #[.int .i64 mk, .string mn, .slice a2 mv.length c2] 56)).cell? ⟨b + 1 + 1, 0, none⟩ = some (.slice aE E.length cE) := cells_at H2.out.2.2.1.1 0
    have l3 : b + 1 + 1 < (w2.alloc (.cells #[.int .i64 mk, .string mn, .slice a2 mv.length c2] 56)).heap.size := lt_of_at H2.out.2.2.1.1
    have l2 := lt_of_at H2.out.1
    have kB : Keeps [] (w2.alloc (.cells #[.int .i64 mk, .string mn, .slice a2 mv.length c2] 56)) ((w2.alloc (.cells #[.int .i64 mk, .string mn, .slice a2 mv.length c2] 56)).alloc (.cells #[.int .i64 mk, .string mn, .slice a2 mv.length c2] 56)) := (Keeps.refl [] _).alloc _
    have H3 := Lib.hid (And.intro (new2 w2 (.cells #[.int .i64 mk, .string mn, .slice a2 mv.length c2] 56) (.cells #[.int .i64 mk, .string mn, .slice a2 mv.length c2] 56)).2 (go1 kB H2.out.2))
    clear kB
    gi_wp2_with (gi_at_builtin; refine wpListIn_append_own _ rfl _ _ 23 rfl (b + 6) 56 ip _ 3 48 Tryz.underlying23 hip hz0 hz1 hz2 rfl (by decide) (.slice aE E.length cE) E.length (E.flatMap encMV) rfl H3.out.2.2.1.2.1 ⟨w2.heap.size + 1, 0, none⟩ 1 1 [.int .i64 mk, .string mn, .slice a2 mv.length c2] rfl rfl (news_three H3.out.1) (by simp [Value.oneCell']) (by simp only [maxLen]; omega) (by omega) (by have := H3.out.2.2.2.size; have := HM.out.2.2; omega) ?_; intro v' w4 hown4 hgrow4 hnil4; clear hnil4; obtain ⟨a4, c4, rfl, -, -, -⟩ := row_slice hown4; have hN := H3.out.2.2.1.2.1; have k4 := keeps_row hgrow4; have n4 := k4.at_ H3.out.2.2.1.1 (fun hm => row_ne_cells hN H3.out.2.2.1.1 (by decide) _ (by simpa using hm) rfl); have c4' : w4.cell? ⟨b + 1 + 1, 0, none⟩ = some (.slice aE E.length cE) := cells_at n4 0; have f4 : ∀ i, w4.frozen? ⟨b + 1 + 1, i, none⟩ = false := free_at n4; have l4 : b + 1 + 1 < w4.heap.size := lt_of_at n4)
    have k5 : Keeps [b + 1 + 1] w4 (w4.setCell ⟨b + 1 + 1, 0, none⟩ (.slice a4 (E.length + 1) c4)) := (Keeps.refl _ w4).setCell (.inl (by simp)) _
    have n5 : (w4.setCell ⟨b + 1 + 1, 0, none⟩ (.slice a4 (E.length + 1) c4)).heap[b + 1 + 1]? = some (.cells #[.slice a4 (E.length + 1) c4] 23 (0, 0)) := by
     have := heap_cell_same (i := 0) n4 (.slice a4 (E.length + 1) c4)
     simpa using this
    generalize w4.setCell ⟨b + 1 + 1, 0, none⟩ (.slice a4 (E.length + 1) c4) = W5 at k5 n5 ⊢
    have hob : ∀ g, g ∈ (Value.slice aE E.length cE).ownBlock.toList → b + 6 ≤ g ∧ ∀ o, W.heap[g]? = some o → o.isCells = true := fun g hg => by
     obtain ⟨h1, o, ho, hc⟩ := own_block_cells HI.out.2.1 g (by simpa using hg)
     exact ⟨h1, fun o' ho' => by rw [ho] at ho'; cases ho'; exact hc⟩
    have kT : Keeps ((Value.slice aE E.length cE).ownBlock.toList ++ [b + 1 + 1]) W W5 := ((H3.out.2.2.2.mono (by simp)).trans (k4.mono (fun y hy => List.mem_append_left _ hy))).trans (k5.mono (fun y hy => List.mem_append_right _ hy))
    have hwW := HI.out.2.2.2.2.2.size
    refine ⟨keepsFrom_of kT ?cells _, stands_of kT ?stands, ?inv⟩
    case cells =>
     intro y hy o ho
     rcases List.mem_append.1 hy with hy | hy
     ·exact (hob y hy).2 o ho
     ·obtain rfl : y = b + 1 + 1 := by simpa using hy
      have e := HI.out.1
      change W.heap[b + 1 + 1]? = _ at e
      rw [e] at ho
      cases ho
      rfl
    case stands =>
     intro y hy
     have hz := HM.out.2.2
     refine ⟨by simp at hy; omega, fun hm => ?_⟩
     rcases List.mem_append.1 hm with hm | hm
     ·have := (hob y hm).1
      simp at hy
      omega
     ·simp at hm hy
      omega
    case inv =>
     have r4 := k4.row H3.out.2.1 (rows_ne2 hN H3.out.2.1 (by decide))
     have v4 := H3.out.2.2.1.2.2.1.keep k4 (fun _ _ _ hr => rows_ne2 hN hr (by decide))
     have hlow : ∀ g, g ∈ [b + 1 + 1] → g < b + 6 := fun g hg => by simp at hg; omega
     have v5 := (v4.snoc (k := mk) (n := mn) r4).keep k5 (fun v n xs hr g hg hm => by have := (own_block_cells hr g hg).1; have := hlow g hm; omega)
     have m0 := k5.at_ (k4.at_ H3.out.2.2.1.2.2.2.1 (fun hm => row_ne_cells hN H3.out.2.2.1.2.2.2.1 (by decide) _ (by simpa using hm) rfl)) (by simp; omega)
     have m1 := k5.at_ (k4.at_ H3.out.2.2.1.2.2.2.2.1 (fun hm => row_ne_cells hN H3.out.2.2.1.2.2.2.2.1 (by decide) _ (by simpa using hm) rfl)) (by simp)
     refine ⟨_, E ++ [(mk, mn, .slice a2 mv.length c2)], L ++ [(mk, mn, mv)], by rw [mapB_snoc, HM.out.1, HX.out], n5, ?_, v5, m0, m1, ?_, ?_⟩
     ·have h6 := k5.row_low hown4 (by omega)
      rw [List.length_append, List.flatMap_append]
      simpa [encMV] using h6
     ·exact HI.out.2.2.2.2.2.after kT (fun y hy => .inr (by
       have := HB.out
       rcases List.mem_append.1 hy with hy | hy
       ·have := (hob y hy).1
        omega
       ·simp at hy
        omega))
     ·have := kT.size
      have := HM.out.2.2
      omega
  case done =>
   rintro D ys W hD rfl ⟨v, E, L, hmap, n2, hrow, hvals, n0, n1, hkw, hsz⟩ hK
   have c2 : W.cell? ⟨b + 1 + 1, 0, none⟩ = some v := cells_at n2 0
   have c0 := cells_at n0
   have f0 := free_at n0
   have l0 := lt_of_at n0
   have c1 := cells_at n1
   have f1 := free_at n1
   have l1 := lt_of_at n1
   have l2 : b + 1 + 1 < W.heap.size := lt_of_at n2
   obtain ⟨aE, cE, rfl, -, -, -⟩ := row_slice hrow
   have HD := Lib.hid (And.intro n0 (And.intro n1 (And.intro hrow (And.intro hvals (And.intro hkw (And.intro hK hmap))))))
   clear n0 n1 n2 hrow hvals hkw hK hmap
   gi_wp2
   obtain ⟨W9, hW9, nA, nB, k9⟩ := set_two HD.out.1 HD.out.2.1 (by omega) (.slice aE E.length cE) (.int .i64 0)
   rw [← hW9]
   have hD2 : W9.heap[D]? = some (.deferred (some [])) := k9.at_ HD.out.2.2.2.2.2.1 (by simp; omega)
   have hDW := lt_of_at hD2
   refine ⟨by simp, .inl ⟨_, _, rfl, run_takeDeferred hD2, ?_⟩⟩
   have q10 : Keeps [D] W9 (W9.putObj D (.deferred none)) := Keeps.of_grown (grownBy_putObj' W9 D _) (fun k hk => .inl (by simp at hk; simp [hk]))
   have hnc : ∀ y ∈ [D], ∀ o, W9.heap[y]? = some o → o.isCells = false := fun y hy o ho => by
    obtain rfl : y = D := by simpa using hy
    rw [hD2] at ho
    cases ho
    rfl
   have hl9 : ∀ g, g ∈ [b, b + 1] → g < b + 6 := fun g hg => by simp at hg; omega
   have r9 := k9.row HD.out.2.2.1 (fun g hg hm => by have := (own_block_cells HD.out.2.2.1 g hg).1; have := hl9 g hm; omega)
   have v9 := HD.out.2.2.2.1.keep k9 (fun v n xs hr g hg hm => by have := (own_block_cells hr g hg).1; have := hl9 g hm; omega)
   have r10 := q10.row_cells r9 hnc
   have v10 := v9.keep q10 (fun v n xs hr g hg hm => by
    obtain ⟨-, o, ho, hcc⟩ := own_block_cells hr g hg
    rw [hnc g hm o ho] at hcc
    cases hcc)
   have nA3 := q10.at_cells nA hnc
   have nB3 := q10.at_cells nB hnc
   have hbw := HB.out
   have kF : Keeps [] w (W9.putObj D (.deferred none)) := (HD.out.2.2.2.2.1.after k9 (fun x hx => .inr (by simp at hx; omega))).after q10 (fun x hx => .inr (by simp at hx; omega))
   generalize W9.putObj D (.deferred none) = W10 at r10 v10 nA3 nB3 kF ⊢
   have cA3 := cells_at nA3 0
   have cB3 := cells_at nB3 0
   simp at cA3 cB3
   refine ⟨.tuple #[.slice aE E.length cE, .int .i64 0], by simp [results, Tryz.results20, go_sem, cA3, cB3], ?_⟩
   rw [HR2.out, HD.out.2.2.2.2.2.2]
   exact ⟨_, rfl, mats_of r10 v10, kF⟩
  case stop =>
   rintro D c pre W hD ⟨r, hr⟩ ⟨rfl, hmap, n0, n1, hkw⟩ hK
   gi_wp2
   have hDW := lt_of_at hK
   refine ⟨by simp, .inl ⟨_, _, rfl, run_takeDeferred hK, ?_⟩⟩
   have q10 : Keeps [D] W (W.putObj D (.deferred none)) := Keeps.of_grown (grownBy_putObj' W D _) (fun k hk => .inl (by simp at hk; simp [hk]))
   have nA3 := q10.at_ n0 (by simp; omega)
   have nB3 := q10.at_ n1 (by simp; omega)
   have hbw := HB.out
   have kF : Keeps [] w (W.putObj D (.deferred none)) := hkw.after q10 (fun x hx => .inr (by simp at hx; omega))
   generalize W.putObj D (.deferred none) = W10 at nA3 nB3 kF ⊢
   have cA3 := cells_at nA3 0
   have cB3 := cells_at nB3 0
   simp at cA3 cB3
   refine ⟨.tuple #[.slice none 0 0, .int .i64 3], by simp [results, Tryz.results20, go_sem, cA3, cB3], ?_⟩
   rw [HR2.out, ← hr, mapB_fail _ _ hmap]
   exact ⟨rfl, kF⟩
end Go.Proofs.YtgcfkhcogllgfaaGreatDoor
