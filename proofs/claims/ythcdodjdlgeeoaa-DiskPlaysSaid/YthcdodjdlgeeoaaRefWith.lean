/-
  The document's bucket (barographref05): with, and the calls Change, Ask, Range.
  Each contract holds in every world in which the bucket can be read; old memory is left as it was.
-/
import Derived.Test.YthcdodjdlgeeoaaRefB
import Derived.ArgAppend
namespace Go.Proofs.Ythcdodjdlgeeoaa
open Go Go.RowKit Go.ChangeShapes Go.WideShapes Go.Deep

/-- A slice that gathers: still the empty one that it began as, or a row of the walk's own. -/
def Gath (w : World) (base : Nat) (e : TypeId) (size : Nat) (v : Value) (n : Nat) (xs : List Value) : Prop :=
  (∃ a, v = .slice (some a) 0 0 ∧ n = 0 ∧ xs = []) ∨ w.ownsRow base e size v n xs
theorem Gath.alloc {w : World} {base : Nat} {e : TypeId} {size : Nat} {v : Value} {n : Nat} {xs : List Value} (h : Gath w base e size v n xs) (o : Obj) : Gath (w.alloc o) base e size v n xs := by
  rcases h with h | h
  · exact .inl h
  · exact .inr (h.alloc o)

theorem Gath.setBelow {w : World} {base : Nat} {e : TypeId} {size : Nat} {v : Value} {n : Nat} {xs : List Value} (h : Gath w base e size v n xs) {a : Addr} (ha : a.block < base) (u : Value) : Gath (w.setCell a u) base e size v n xs := by
  rcases h with h | h
  · exact .inl h
  · exact .inr (ownsRow_setCell_below h ha u)
theorem Gath.form {w : World} {base : Nat} {e : TypeId} {size : Nat} {v : Value} {n : Nat} {xs : List Value} (h : Gath w base e size v n xs) : ∃ ao cap, v = .slice ao n cap := by
  rcases h with ⟨a, rfl, rfl, _⟩ | h
  · exact ⟨_, _, rfl⟩
  · obtain ⟨ao, cap, rfl, _⟩ := row_slice h
    exact ⟨_, _, rfl⟩
theorem Gath.arg {α : Type} {size base : Nat} {enc : α → List Value} {w : World} {e : TypeId} {v : Value} {L : List α} (hs : ∀ x, (enc x).length = size)
    (h : Gath w base e size v L.length (L.flatMap enc)) : SliceArg size enc w v L := by
  rcases h with ⟨a, rfl, hn, _⟩ | h
  · have : L = [] := List.eq_nil_of_length_eq_zero hn
    subst this
    exact ⟨_, _, rfl, by simp [maxLen], fun i hi => by simp at hi⟩
  · exact arg_of_row hs h

/-- What an append leaves of a slice that gathers: new blocks, and writes to a row of the walk's own. -/
def Grew (base n0 : Nat) (w w' : World) : Prop := ∃ row, w.grownBy w' row ∧ ∀ q, row = some q → base ≤ q ∧ q < n0
theorem Grew.at_ {base n0 : Nat} {w w' : World} (h : Grew base n0 w w') {k : Nat} {o : Obj} (hk : w.heap[k]? = some o) (hn : n0 ≤ k) : w'.heap[k]? = some o := by
  obtain ⟨row, hg, hr⟩ := h
  have hkk : Keeps [] w w' ∨ ∃ q, q < n0 ∧ Keeps [q] w w' := by
    cases row with
    | none => exact .inl (Keeps.of_grown hg (by simp))
    | some q => exact .inr ⟨q, (hr q rfl).2, Keeps.of_grown hg (by simp)⟩
  rcases hkk with hkk | ⟨q, hq, hkk⟩
  · exact hkk.at_ hk (by simp)
  · exact hkk.at_ hk (by simp; omega)
theorem Grew.below {base n0 B : Nat} {u w w' : World} (h : Grew base n0 w w') (hb : Below B u w) (hB : B ≤ base) (hw : base ≤ w.heap.size) : Below B u w' := by
  obtain ⟨row, hg, hr⟩ := h
  exact hb.grown hg (by omega) fun q hq => by have := (hr q hq).1; omega

theorem wpList_append_gath {P : Program} (w w0 : World) {ops : Array Oper} {rest : List Oper} {o : Oper} {a : Act} {Q : Exit → Act → World → Prop}
    (hg : o.guard = none) (s x : Operand) (t : TypeId) (hop : o.op = Op.call { callee := Callee.builtin Builtin.append, args := #[s, x], argTypes := #[t, t] })
    (base : Nat) (e : TypeId) (i : TypeInfo) (z : Value) (size bytes : Nat) (h1 : P.underlying t = some (.slice e)) (h2 : P.info? e = some i) (h3 : i.zero = some z) (h4 : i.size = size) (h5 : i.bytes = bytes) (h6 : z.cells.size = size) (h7 : 0 < size)
    (v : Value) (n : Nat) (xs : List Value) (hs : a.eval s = v) (hown : Gath w0 base e size v n xs) (hlift : w0.ownsRow base e size v n xs → w.ownsRow base e size v n xs)
    (ad : Addr) (m c : Nat) (news : List Value) (hx : a.eval x = .slice (some ad) m c) (hn : news.length = m * size) (hc : ∀ j u, news[j]? = some u → w.cell? (ad.add j) = some u) (h1c : ∀ u ∈ news, u.oneCell' = true)
    (hm : 0 < m) (b1 : n + m ≤ maxLen) (b2 : (n + m) * bytes ≤ 140737488355328) (hb : base ≤ w.heap.size)
    (hK : ∀ v' w', w'.ownsRow base e size v' (n + m) (xs ++ news) → Grew base w0.heap.size w w' → wpList P ops Q rest (a.put o.dst v') w') :
    wpList P ops Q (o :: rest) a w := by
  rcases hown with ⟨a0, rfl, rfl, rfl⟩ | hown
  · refine wpList_append_grows w hg s x t hop e i z size bytes h1 h2 h3 h4 h5 h6 h7 (some a0) 0 0 [] hs (by simp) (by simp) (by simp) ad m c news hx hn hc h1c (by omega) b1 b2 ?_
    intro v' w' ho hgr
    exact hK v' w' (row_base ho hb) ⟨none, hgr, by simp⟩
  · refine wpList_append_own w hg s x t hop base e i z size bytes h1 h2 h3 h4 h5 h6 h7 v n xs hs (hlift hown) ad m c news hx hn hc h1c b1 b2 hb ?_
    intro v' w' ho hgr _
    exact hK v' w' ho ⟨_, hgr, fun q hq => hown.lt q hq⟩

/-- Does the first name rise above the second? -/
def gtB (a b : ByteArray) : Bool := !(Op.bytesLess a.toList b.toList || a.toList == b.toList)
/-- The loop of with: is the object in, what is gathered. -/
def insStep (x : ByteArray × Ob) (s : Bool × List (ByteArray × Ob)) (o : ByteArray × Ob) : Bool × List (ByteArray × Ob) :=
  if !s.1 && gtB o.1 x.1 then (true, s.2 ++ [x] ++ [o]) else (s.1, s.2 ++ [o])
def insK (L : List (ByteArray × Ob)) (x : ByteArray × Ob) (k : Nat) : Bool × List (ByteArray × Ob) := (L.take k).foldl (insStep x) (false, [])
def insL (L : List (ByteArray × Ob)) (x : ByteArray × Ob) : List (ByteArray × Ob) := if (insK L x L.length).1 then (insK L x L.length).2 else (insK L x L.length).2 ++ [x]
theorem insK_succ (L : List (ByteArray × Ob)) (x : ByteArray × Ob) (k : Nat) (hk : k < L.length) : insK L x (k + 1) = insStep x (insK L x k) L[k] := by
  unfold insK
  rw [List.take_succ_eq_append_getElem hk, List.foldl_append]
  rfl
theorem insK_le (L : List (ByteArray × Ob)) (x : ByteArray × Ob) (k : Nat) : (insK L x k).2.length ≤ k + 1 := by
  suffices h : ∀ (M : List (ByteArray × Ob)) (s : Bool × List (ByteArray × Ob)), (M.foldl (insStep x) s).2.length ≤ s.2.length + M.length + (if s.1 then 0 else 1) by
    have := h (L.take k) (false, [])
    have h2 : (L.take k).length ≤ k := by rw [List.length_take]; omega
    unfold insK
    simp only [List.length_nil] at this
    simp at this
    omega
  intro M
  induction M with
  | nil => intro s; simp
  | cons o M ih =>
    intro s
    have h := ih (insStep x s o)
    obtain ⟨d, out⟩ := s
    rw [List.foldl_cons]
    refine Nat.le_trans h ?_
    unfold insStep
    cases d <;> cases gtB o.1 x.1 <;> simp <;> omega

theorem fieldB (a b : Option Addr) (n c m d : Nat) (w : World) : (Instr.field 60 (.agg #[.slice a n c, .slice b m d]) 0).run Try.prog w = .ok (.slice a n c) w := by kernel_rfl

def WithRel (w2 : World) (L : List (ByteArray × Ob)) (x : ByteArray × Ob) (gk : Nat) (v d i : Value) (wr : World) : Prop :=
  ∃ k, k ≤ L.length ∧ i = .int .i64 k ∧ gk = L.length - k ∧ d = .bool (insK L x k).1 ∧ Gath wr w2.heap.size 65 3 v (insK L x k).2.length ((insK L x k).2.flatMap encObj) ∧ Below w2.heap.size w2 wr

/-- What the walk needs at the end of with: the boxes' cells, and the world behind the three stores. -/
theorem with_end {w w2 wf : World} {ao fa : Option Addr} {n cap nq fc : Nat} {v : Value} {G : List (ByteArray × Ob)} {N : Nat} (h0 : w2.heap[w.heap.size]? = some (.cells #[.slice ao n cap, .slice fa nq fc] 60 (0, 0)))
    (h2 : w2.heap[w.heap.size + 1 + 1]? = some (.cells #[.slice none 0 0, .slice none 0 0] 60 (0, 0))) (hk : Keeps [] w w2)
    (hbel : Below w2.heap.size w2 wf) (hown : Gath wf w2.heap.size 65 3 v N (G.flatMap encObj)) :
    ∃ ao' cp, v = .slice ao' N cp ∧ (∀ i, wf.cell? ⟨w.heap.size, i, none⟩ = #[.slice ao n cap, .slice fa nq fc][i]?) ∧ (∀ i, wf.frozen? ⟨w.heap.size, i, none⟩ = false) ∧
      (∀ i, wf.cell? ⟨w.heap.size + 1 + 1, i, none⟩ = #[.slice none 0 0, .slice none 0 0][i]?) ∧ (∀ i, wf.frozen? ⟨w.heap.size + 1 + 1, i, none⟩ = false) ∧ w.heap.size ≠ w.heap.size + 1 + 1 ∧
      Hid (Gath (((wf.setCell ⟨w.heap.size, 0, none⟩ (.slice ao' N cp)).setCell ⟨w.heap.size + 1 + 1, 0, none⟩ (.slice ao' N cp)).setCell ⟨w.heap.size + 1 + 1, 1, none⟩ (.slice fa nq fc)) w2.heap.size 65 3 (.slice ao' N cp) N (G.flatMap encObj) ∧
        (∀ i, (((wf.setCell ⟨w.heap.size, 0, none⟩ (.slice ao' N cp)).setCell ⟨w.heap.size + 1 + 1, 0, none⟩ (.slice ao' N cp)).setCell ⟨w.heap.size + 1 + 1, 1, none⟩ (.slice fa nq fc)).cell? ⟨w.heap.size + 1 + 1, i, none⟩ = #[.slice ao' N cp, .slice fa nq fc][i]?) ∧
        Keeps [] w (((wf.setCell ⟨w.heap.size, 0, none⟩ (.slice ao' N cp)).setCell ⟨w.heap.size + 1 + 1, 0, none⟩ (.slice ao' N cp)).setCell ⟨w.heap.size + 1 + 1, 1, none⟩ (.slice fa nq fc))) := by
  have hkw := Keeps.of_below (S := []) hbel
  have r0 := hkw.at_ h0 (by simp)
  have r2 := hkw.at_ h2 (by simp)
  have hne : w.heap.size + 1 + 1 ≠ w.heap.size := by omega
  have hB0 : w.heap.size < w2.heap.size := lt_of_at h0
  have hB2 : w.heap.size + 1 + 1 < w2.heap.size := lt_of_at h2
  obtain ⟨ao', cp, rfl⟩ := hown.form
  have s1 := hown.setBelow (a := ⟨w.heap.size, 0, none⟩) hB0 (.slice ao' N cp)
  have s2 := s1.setBelow (a := ⟨w.heap.size + 1 + 1, 0, none⟩) hB2 (.slice ao' N cp)
  have s3 := s2.setBelow (a := ⟨w.heap.size + 1 + 1, 1, none⟩) hB2 (.slice fa nq fc)
  have t1 := heap_cell_same (i := 1) (heap_cell_same (i := 0) ((heap_cell_other (p := ⟨w.heap.size, 0, none⟩) (.slice ao' N cp) hne).trans r2) (.slice ao' N cp)) (.slice fa nq fc)
  have hk3 := (((hk.trans hkw).setCell (p := ⟨w.heap.size, 0, none⟩) (.inr (Nat.le_refl _)) (.slice ao' N cp)).setCell (p := ⟨w.heap.size + 1 + 1, 0, none⟩) (.inr (by simp only; omega)) (.slice ao' N cp)).setCell (p := ⟨w.heap.size + 1 + 1, 1, none⟩) (.inr (by simp only; omega)) (.slice fa nq fc)
  exact ⟨ao', cp, rfl, cells_at r0, free_at r0, cells_at r2, free_at r2, hne.symm, Lib.hid ⟨s3, cells_at t1, hk3⟩⟩

set_option maxRecDepth 100000 in
set_option maxHeartbeats 2000000 in
theorem with_spec (w : World) (v : Value) (L : List (ByteArray × Ob)) (Q : List (Int × Bool)) (n dt : ByteArray) (tk : Int) (hL : L.length ≤ 900) (h : RefB w v L Q) :
    Calls Try.prog 75 #[v, .agg #[.string n, .string dt, .int .i64 tk]] w (BPost w (insL (L.filter fun p => !decide (p.1 = n)) (n, (dt, tk))) Q) := by
  have H := Lib.hid h
  obtain ⟨s, f, rfl, hs, hf⟩ := h
  obtain ⟨ii, hii, hz0, hz1, hz2⟩ := info_parts infoObject
  obtain ⟨fa, fc, rfl⟩ := hf.2.form
  obtain ⟨ao, cap, rfl⟩ := hs.form
  clear hs
  have Hf := Lib.hid hf
  clear hf
  go_enter Try.func75, Try.ntmps75
  go_wp2_with fail
  have hk4 : Keeps [] w ((((w.alloc (.cells #[.slice ao L.length cap, .slice fa Q.length fc] 60)).alloc (.cells #[.string n, .string dt, .int .i64 tk] 65)).alloc (.cells #[.slice none 0 0, .slice none 0 0] 60)).alloc (.cells #[] 65)) := ((((Keeps.refl [] w).alloc _).alloc _).alloc _).alloc _
  obtain ⟨q0, q1, q2, _⟩ := new4 w (.cells #[.slice ao L.length cap, .slice fa Q.length fc] 60) (.cells #[.string n, .string dt, .int .i64 tk] 65) (.cells #[.slice none 0 0, .slice none 0 0] 60) (.cells #[] 65)
  generalize ((((w.alloc (.cells #[.slice ao L.length cap, .slice fa Q.length fc] 60)).alloc (.cells #[.string n, .string dt, .int .i64 tk] 65)).alloc (.cells #[.slice none 0 0, .slice none 0 0] 60)).alloc (.cells #[] 65)) = W4 at hk4 q0 q1 q2 ⊢
  refine (without_spec W4 _ L Q n (by omega) (H.out.keep hk4)).mono ?_
  rintro e w2 ⟨v2, rfl, hB2, hk2⟩
  have q0 := hk2.at_ q0 (by simp)
  have q1 := hk2.at_ q1 (by simp)
  have q2 := hk2.at_ q2 (by simp)
  have hk02 := hk4.trans hk2
  have hlf : (L.filter fun p => !decide (p.1 = n)).length ≤ 900 := Nat.le_trans (List.length_filter_le _ _) hL
  generalize hM : (L.filter fun p => !decide (p.1 = n)) = M at hB2 hlf ⊢
  have HM := Lib.hid hM
  clear hM
  obtain ⟨s2, f2, rfl, hs2, hf2⟩ := hB2
  obtain ⟨ao2, cap2, rfl⟩ := hs2.form
  obtain ⟨fa2, fc2, rfl⟩ := hf2.2.form
  have hfd := fieldB
  have Hs2 := Lib.hid hs2
  have Hq := Lib.hid (And.intro q0 (And.intro q1 (And.intro q2 hk02)))
  clear hs2 hf2 q0 q1 q2 hk02 hk2 hk4 H
  go_wp2_with fail
  go_loopg [5, 6, 16] M.length (WithRel w2 M (n, (dt, tk)))
  case atStart => exact ⟨0, Nat.zero_le _, rfl, rfl, rfl, .inl ⟨_, rfl, rfl, rfl⟩, Below.refl _ _⟩
  case round =>
    obtain ⟨k, hkl, rfl, hgk, rfl, hown, hbel⟩ := hrel
    have Hg := Lib.hid hgk
    clear hgk
    have hkw := Keeps.of_below (S := []) hbel
    have r1 := hkw.at_ Hq.out.2.1 (by simp)
    have l1 := lt_of_at r1
    have c1 := cells_at r1
    by_cases hlt : k < M.length
    · obtain ⟨b, off, rfl, hb, d0, d1, d2⟩ := objCells Hs2.out hlt
      rw [← hkw.cell hb (by simp)] at d0 d1 d2
      have hlt' : (k : Int) < (M.length : Int) := by omega
      have hin := insK_succ M (n, (dt, tk)) k hlt
      have hle := insK_le M (n, (dt, tk)) k
      generalize hx : M[k] = x at d0 d1 d2 hin
      clear hx r1
      obtain ⟨xn, xd, xt⟩ := x
      have Hb := Lib.hid hbel
      have Hkw := Lib.hid hkw
      have hsz : w2.heap.size ≤ wr.heap.size := hbel.size
      clear hbel hkw
      generalize hs : insK M (n, (dt, tk)) k = st at hown hin hle ⊢
      clear hs
      obtain ⟨d, G⟩ := st
      simp only at hown hle ⊢
      have Ho := Lib.hid hown
      clear hown
      cases d with
      | true =>
        have Hin := Lib.hid hin
        clear hin
        go_wp2_with (at_builtin; refine wpList_append_gath _ wr rfl (.tmp 33) (.tmp 35) 55 rfl w2.heap.size 65 ii _ 3 40 Try.underlying55 hii hz0 hz1 hz2 rfl (by decide) u5 G.length (G.flatMap encObj) rfl Ho.out (fun h => (h.alloc _).alloc _) ⟨wr.heap.size + 1, 0, none⟩ 1 1 (encObj (xn, (xd, xt))) rfl rfl (news_of (new2 wr _ _).2) (by simp [encObj, Value.oneCell']) (by omega) (by simp only [maxLen]; omega) (by omega) (by simp; omega) ?_; intro v' w' hown' hgr)
        all_goals
          have hbel' : Below w2.heap.size w2 w' := hgr.below ((Hb.out.alloc hsz _).alloc (by simp; omega) _) (Nat.le_refl _) (by simp; omega)
          go_wp2_with fail
          go_roundg (M.length - (k + 1))
          case measure => have := Hg.out; omega
          case rel => exact ⟨k + 1, by omega, by go_num, rfl, by rw [Hin.out]; simp [insStep], .inr (by rw [Hin.out]; simpa [insStep] using hown'), hbel'⟩
      | false =>
        cases hgt : gtB xn n with
        | true =>
          have hgt' : (!(Op.bytesLess xn.toList n.toList || xn.toList == n.toList)) = true := hgt
          have Hin := Lib.hid hin
          have Hgt := Lib.hid hgt
          clear hin hgt
          go_wp2_with (first | (at_builtin; refine wpList_append_gath _ wr rfl (.tmp 29) (.tmp 31) 55 rfl w2.heap.size 65 ii _ 3 40 Try.underlying55 hii hz0 hz1 hz2 rfl (by decide) u5 G.length (G.flatMap encObj) rfl Ho.out (fun h => (h.alloc _).alloc _) ⟨wr.heap.size + 1, 0, none⟩ 1 1 (encObj (n, (dt, tk))) rfl rfl (news_of (new2 wr _ _).2) (by simp [encObj, Value.oneCell']) (by omega) (by simp only [maxLen]; omega) (by omega) (by simp; omega) ?_; intro v1 w1 hown1 hgr1; have c8 := cells_at (hgr1.at_ (new2 wr _ _).1 (Nat.le_refl _)); have hsz1 := (hgr1.below (((Hb.out.alloc hsz _).alloc (by simp; omega) _)) (Nat.le_refl _) (by simp; omega)).size; have Hgr1 := Lib.hid (And.intro hgr1 hown1); clear hgr1 hown1) | (at_builtin; refine wpList_append_gath _ w1 rfl (.tmp 33) (.tmp 35) 55 rfl w2.heap.size 65 ii _ 3 40 Try.underlying55 hii hz0 hz1 hz2 rfl (by decide) v1 (G.length + 1) (G.flatMap encObj ++ encObj (n, (dt, tk))) rfl (.inr Hgr1.out.2) (fun h => h.alloc _) ⟨w1.heap.size, 0, none⟩ 1 1 (encObj (xn, (xd, xt))) rfl rfl (news_of (heap_new w1 _)) (by simp [encObj, Value.oneCell']) (by omega) (by simp only [maxLen]; omega) (by omega) (by simp; omega) ?_; intro v' w' hown' hgr))
          all_goals
            have hbel' : Below w2.heap.size w2 w' := hgr.below ((Hgr1.out.1.below ((Hb.out.alloc hsz _).alloc (by simp; omega) _) (Nat.le_refl _) (by simp; omega)).alloc hsz1 _) (Nat.le_refl _) (by simp; omega)
            go_wp2_with fail
            go_roundg (M.length - (k + 1))
            case measure => have := Hg.out; omega
            case rel => exact ⟨k + 1, by omega, by go_num, rfl, by rw [Hin.out]; simp [insStep, Hgt.out], .inr (by rw [Hin.out]; simpa [insStep, Hgt.out] using hown'), hbel'⟩
        | false =>
          have hgt' : (!(Op.bytesLess xn.toList n.toList || xn.toList == n.toList)) = false := hgt
          have Hin := Lib.hid hin
          have Hgt := Lib.hid hgt
          clear hin hgt
          go_wp2_with (at_builtin; refine wpList_append_gath _ wr rfl (.tmp 33) (.tmp 35) 55 rfl w2.heap.size 65 ii _ 3 40 Try.underlying55 hii hz0 hz1 hz2 rfl (by decide) u5 G.length (G.flatMap encObj) rfl Ho.out (fun h => (h.alloc _).alloc _) ⟨wr.heap.size + 1, 0, none⟩ 1 1 (encObj (xn, (xd, xt))) rfl rfl (news_of (new2 wr _ _).2) (by simp [encObj, Value.oneCell']) (by omega) (by simp only [maxLen]; omega) (by omega) (by simp; omega) ?_; intro v' w' hown' hgr)
          all_goals
            have hbel' : Below w2.heap.size w2 w' := hgr.below ((Hb.out.alloc hsz _).alloc (by simp; omega) _) (Nat.le_refl _) (by simp; omega)
            go_wp2_with fail
            go_roundg (M.length - (k + 1))
            case measure => have := Hg.out; omega
            case rel => exact ⟨k + 1, by omega, by go_num, rfl, by rw [Hin.out]; simp [insStep, Hgt.out], .inr (by rw [Hin.out]; simpa [insStep, Hgt.out] using hown'), hbel'⟩
    · have hkk : k = M.length := by omega
      subst hkk
      have hle := insK_le M (n, (dt, tk)) M.length
      have hsz : w2.heap.size ≤ wr.heap.size := hbel.size
      have hins : insL M (n, (dt, tk)) = if (insK M (n, (dt, tk)) M.length).1 then (insK M (n, (dt, tk)) M.length).2 else (insK M (n, (dt, tk)) M.length).2 ++ [(n, (dt, tk))] := rfl
      generalize hs : insK M (n, (dt, tk)) M.length = st at hown hle hins ⊢
      clear hs hkw
      obtain ⟨d, G⟩ := st
      simp only at hown hle hins ⊢
      cases d with
      | true =>
        simp only [if_true] at hins
        have Hi := Lib.hid hins
        clear hins r1
        obtain ⟨ao', cp, rfl, c0, f0, c2, f2, hne, Hfin⟩ := with_end Hq.out.1 Hq.out.2.2.1 Hq.out.2.2.2 hbel hown
        clear hbel hown
        go_wp2_with fail
        have hc := Hfin.out.2.1
        refine bodyPost_ret (v := .agg #[.slice ao' G.length cp, .slice fa Q.length fc]) ?_ rfl ?_
        · simp [results, Try.results75, go_sem, hc]
        · rw [HM.out, Hi.out]; exact ⟨_, rfl, ⟨_, _, rfl, Gath.arg (fun _ => rfl) Hfin.out.1, Hf.out.1, Hf.out.2.keep Hfin.out.2.2⟩, Hfin.out.2.2⟩
      | false =>
        have Hi : Hid (insL M (n, (dt, tk)) = G ++ [(n, (dt, tk))]) := Lib.hid (by rw [hins]; rfl)
        have Hb := Lib.hid hbel
        have Ho := Lib.hid hown
        clear hins hbel hown
        have EF : Hid (∀ v' w', w'.ownsRow w2.heap.size 65 3 v' (G.length + 1) (G.flatMap encObj ++ encObj (n, (dt, tk))) → Grew w2.heap.size wr.heap.size (wr.alloc (.cells #[.string n, .string dt, .int .i64 tk] 65)) w' → _) := Lib.hid fun v' w' hown' hgr => with_end (w := w) (wf := w') (v := v') (G := G ++ [(n, (dt, tk))]) Hq.out.1 Hq.out.2.2.1 Hq.out.2.2.2 (hgr.below (Hb.out.alloc hsz _) (Nat.le_refl _) (by simp; omega)) (N := G.length + 1) (.inr (by simpa using hown'))
        clear r1
        go_wp2_with (at_builtin; refine wpList_append_gath _ wr rfl (.tmp 40) (.tmp 42) 55 rfl w2.heap.size 65 ii _ 3 40 Try.underlying55 hii hz0 hz1 hz2 rfl (by decide) u5 G.length (G.flatMap encObj) rfl Ho.out (fun h => h.alloc _) ⟨wr.heap.size, 0, none⟩ 1 1 (encObj (n, (dt, tk))) rfl rfl (news_of (heap_new wr _)) (by simp [encObj, Value.oneCell']) (by omega) (by simp only [maxLen]; omega) (by omega) (by simp; omega) ?_; intro v' w' hown' hgr; obtain ⟨ao', cp, rfl, c0, f0, c2, f2, hne, Hfin⟩ := EF.out v' w' hown' hgr; clear hown' hgr)
        all_goals
          have hc := Hfin.out.2.1
          refine bodyPost_ret (v := .agg #[.slice ao' (G.length + 1) cp, .slice fa Q.length fc]) ?_ rfl ?_
          · simp [results, Try.results75, go_sem, hc]
          · rw [HM.out, Hi.out]; exact ⟨_, rfl, ⟨_, _, rfl, Gath.arg (size := 3) (base := w2.heap.size) (e := 65) (fun _ => rfl) (by have h := Hfin.out.1; simpa using h), Hf.out.1, Hf.out.2.keep Hfin.out.2.2⟩, Hfin.out.2.2⟩

end Go.Proofs.Ythcdodjdlgeeoaa
