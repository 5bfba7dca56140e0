/-
  BucketPlays: the calls of Does that arm a fault, and those of any other kind.
-/
import Derived.Test.YthcdodjdlgeeoaaDoesLook
import Derived.Test.YthcdodjdlgeeoaaRegion
namespace Go.Proofs.Ythcdodjdlgeeoaa
open Go Go.RowKit Go.ChangeShapes Go.WideShapes Go.Deep

theorem Keeps.grown {S : List Nat} {a w w' : World} {row : Option Nat} (h : Keeps S a w) (hg : w.grownBy w' row) (hr : ∀ q, row = some q → q ∈ S ∨ a.heap.size ≤ q) : Keeps S a w' :=
  ⟨hg.os.trans h.os, hg.tape.trans h.tape, hg.output.trans h.output, Nat.le_trans h.size hg.size, fun k hk hn => (hg.block k (Nat.lt_of_lt_of_le hk h.size) (fun e => by
    rcases hr k e.symm with h1 | h1
    · exact hn h1
    · omega)).trans (h.block k hk hn)⟩

/-- What a cell holds. -/
def valAt (w : World) (a : Addr) : Value := (w.cell? a).getD undef
theorem valAt_eq {w : World} {a : Addr} {v : Value} (h : w.cell? a = some v) : w.cell? a = some (valAt w a) := by rw [valAt, h]; rfl
theorem valAt_is {w : World} {a : Addr} {v : Value} (h : w.cell? a = some v) : valAt w a = v := by rw [valAt, h]; rfl

/-- append onto a row of the walk's own, of a slice that came in (nil too), as one step of a region that draws. -/
theorem step_append_arg {P : Program} {ops : Array Oper} {o : Oper} {a : Act} {w : World} {K : Act → World → Prop} {Q : Exit → Act → World → Prop} {E : Prop}
    (hg : o.guard = none) (s x : Operand) (t : TypeId) (hop : o.op = Op.call { callee := Callee.builtin Builtin.append, args := #[s, x], argTypes := #[t, t] })
    (base : Nat) (e : TypeId) (i : TypeInfo) (z : Value) (size bytes : Nat) (h1 : P.underlying t = some (.slice e)) (h2 : P.info? e = some i) (h3 : i.zero = some z) (h4 : i.size = size) (h5 : i.bytes = bytes) (h6 : z.cells.size = size) (h7 : 0 < size)
    (v : Value) (n : Nat) (xs : List Value) (hs : a.eval s = v) (hown : w.ownsRow base e size v n xs) {α : Type} (enc : α → List Value) (henc : ∀ x, (enc x).length = size) (L : List α)
    (u : Value) (hx : a.eval x = u) (hok : SlOk u) (hu : SliceArg size enc w u L) (h1c : ∀ u ∈ L.flatMap enc, u.oneCell' = true)
    (b1 : n + L.length ≤ maxLen) (b2 : (n + L.length) * bytes ≤ 140737488355328) (b3 : base ≤ w.heap.size)
    (hK : ∀ v' w', w'.ownsRow base e size v' (n + L.length) (xs ++ L.flatMap enc) → w.grownBy w' v.ownBlock → K (a.put o.dst v') w') :
    if Region.wanted o (yielded ops a.tmps) = true then Oper.wp P o a w K Q else E := by
  obtain ⟨ao, m, c, rfl, hmc, hnil⟩ := hok
  cases ao with
  | none =>
    have hc0 := hnil rfl
    subst hc0
    obtain ⟨_, _, he, _⟩ := hu
    injection he with e1 e2 e3
    have hm : m = 0 := by omega
    subst hm
    have hL : L = [] := List.eq_nil_of_length_eq_zero e2.symm
    subst hL
    have hw : Region.wanted o (yielded ops a.tmps) = true := by simp [Region.wanted, hg]
    rw [if_pos hw]
    have hrun := run_append_owned_none (P := P) (w := w) base t o.type e i size h1 h2 v n xs hown
    unfold Oper.wp
    simp [execOp, hop, resolve, invoke, builtin, hs, hx, hrun, Result.andThen]
    exact hK _ _ (by simpa using hown) (World.grownBy.refl w _)
  | some b =>
    have hw : Region.wanted o (yielded ops a.tmps) = true := by simp [Region.wanted, hg]
    have hc : ∀ j v, (L.flatMap enc)[j]? = some v → w.cell? (b.add j) = some v := by
      cases L with
      | nil => intro j v h; simp at h
      | cons x L =>
        obtain ⟨ao, cap, he, hl, hc⟩ := hu
        obtain ⟨b', off, hb, _⟩ := hc 0 (by simp)
        injection he with e1 e2 e3
        rw [← e1] at hb
        injection hb with hb
        subst hb e1 e2 e3
        exact SliceArg.src (cap := c) henc ⟨_, _, rfl, hl, hc⟩ (fun _ => rfl)
    obtain ⟨_, _, he, _⟩ := hu
    injection he with e1 e2 e3
    subst e2
    exact step_append_own hg s x t hop base e i z size bytes h1 h2 h3 h4 h5 h6 h7 v n xs hs hown b L.length c (L.flatMap enc) hx (by rw [flat_len enc size henc]) hc h1c b1 b2 b3 hK
theorem arm_end {w w4 w6 : World} {b f c mb : Nat} {armed : Bool} {Q : List (Int × Bool)} {L o : List (ByteArray × Ob)} {x y ao6 : Option Addr} {cx cy cp6 : Nat} {p : Int × Bool} (lt : b < w.heap.size ∧ f < w.heap.size ∧ c < w.heap.size ∧ mb < w.heap.size)
    (q0 : w4.heap[w.heap.size]? = some (.cells #[.slice x L.length cx, .slice y Q.length cy] 60 (0, 0))) (q2 : w4.heap[w.heap.size + 1 + 1]? = some (.cells #[.slice none 0 0, .slice none 0 0] 60 (0, 0)))
    (hk04 : Keeps [f, c, mb] w w4) (hX : RefB w4 (.agg #[.slice x L.length cx, .slice y Q.length cy]) L Q) (hB : BucketAt w4 b f c mb armed (Q ++ [p]) o) (hk6 : Keeps [] w4 w6)
    (hown : w6.ownsRow w4.heap.size 72 2 (.slice ao6 (Q.length + 1) cp6) (Q.length + 1) (Q.flatMap encFo ++ [.int .i64 p.1, .bool p.2])) :
    (∀ i, (w6.setCell ⟨w.heap.size, 1, none⟩ (.slice ao6 (Q.length + 1) cp6)).cell? ⟨w.heap.size, i, none⟩ = #[.slice x L.length cx, .slice ao6 (Q.length + 1) cp6][i]?) ∧
    w.heap.size < (w6.setCell ⟨w.heap.size, 1, none⟩ (.slice ao6 (Q.length + 1) cp6)).heap.size ∧
    (w6.setCell ⟨w.heap.size, 1, none⟩ (.slice ao6 (Q.length + 1) cp6)).heap[w.heap.size + 1 + 1]? = some (.cells #[.slice none 0 0, .slice none 0 0] 60 (0, 0)) ∧
    Keeps [f, c, mb] w (w6.setCell ⟨w.heap.size, 1, none⟩ (.slice ao6 (Q.length + 1) cp6)) ∧
    RefB (w6.setCell ⟨w.heap.size, 1, none⟩ (.slice ao6 (Q.length + 1) cp6)) (.agg #[.slice x L.length cx, .slice ao6 (Q ++ [p]).length cp6]) L (Q ++ [p]) ∧
    BucketAt (w6.setCell ⟨w.heap.size, 1, none⟩ (.slice ao6 (Q.length + 1) cp6)) b f c mb armed (Q ++ [p]) o := by
  have q6 := hk6.at_ q0 (by simp)
  have q62 := hk6.at_ q2 (by simp)
  have h1 := heap_cell_same (i := 1) q6 (.slice ao6 (Q.length + 1) cp6)
  have hkw : Keeps [w.heap.size] w6 (w6.setCell ⟨w.heap.size, 1, none⟩ (.slice ao6 (Q.length + 1) cp6)) := (Keeps.refl _ _).setCell (.inl (by simp)) _
  obtain ⟨sx, sf, he, hx, _, _⟩ := hX
  injection he with he
  simp only [Array.mk.injEq, List.cons.injEq, and_true] at he
  obtain ⟨rfl, rfl⟩ := he
  have hF : w6.ownsRow w4.heap.size 72 2 (.slice ao6 (Q ++ [p]).length cp6) (Q ++ [p]).length ((Q ++ [p]).flatMap encFo) := by simpa [encFo] using hown
  have hR : RefB w6 (.agg #[.slice x L.length cx, .slice ao6 (Q ++ [p]).length cp6]) L (Q ++ [p]) := ⟨_, _, rfl, hx.keep hk6, slOk_row hF, arg_of_row (fun _ => rfl) hF, typed_row hF⟩
  obtain ⟨l0, l1, l2, l3⟩ := lt
  exact ⟨cells_at h1, lt_of_at h1, (heap_cell_other (p := ⟨w.heap.size, 1, none⟩) _ (by simp only; omega)).trans q62, (hk04.after hk6 (by simp)).setCell (.inr (Nat.le_refl _)) _,
    hR.setBox (boxy_at q6) _, (hk6.keep_bucket hB).keep hkw (by simp; omega) (by simp; omega) (by simp; omega) (by simp; omega)⟩

set_option linter.unusedSimpArgs false in
set_option maxRecDepth 100000 in
set_option maxHeartbeats 2000000 in
theorem does_arm (w : World) (b f c mb k : Nat) (armed : Bool) (Q : List (Int × Bool)) (o : List (ByteArray × Ob)) (v : Value) (an am : Int) (aa ab : ByteArray) (ad : Bool) (hk40 : k ≤ 40) (han : an ≤ 9223372036854775807)
    (hb : BucketAt w b f c mb armed Q o) (hx : RefB w v (full o) Q) (hinv : InvP o k) :
    Calls Try.prog 25 #[.pointer (some ⟨b, 0, none⟩), v, .agg #[.int .i64 6, .int .i64 an, .int .i64 am, .string aa, .string ab, .bool ad]] w (DoesPost w b f c mb (k + 1)) := by
  have hnd : (o.map (·.1)).Nodup := by have := hb.map.nodup; rwa [keys_enc] at this
  have HB := Lib.hid hb
  have hL : (full o).length ≤ 40 := by rw [full_len]; exact Nat.le_trans hinv.len hk40
  obtain ⟨hQ, hQk⟩ := hb.fuse.bounds
  generalize hLe : full o = L at hL hx
  obtain ⟨x, cx, y, cy, rfl⟩ := hx.form
  have HX := Lib.hid hx
  have HLe := Lib.hid hLe
  clear hx hb hLe
  go_enter Try.func25, Try.ntmps25
  go_upto_region 31 with (go_at_call 14; refine (cut_any _ 45 _ (by decide)).mono ?_; rintro e w' ⟨rfl, rfl⟩)
  have hk3 : Keeps [] w (((w.alloc (.cells #[.slice x L.length cx, .slice y Q.length cy] 60)).alloc (.cells #[.int .i64 6, .int .i64 an, .int .i64 am, .string aa, .string ab, .bool ad] 39)).alloc (.cells #[.slice none 0 0, .slice none 0 0] 60)) := (((Keeps.refl [] w).alloc _).alloc _).alloc _
  obtain ⟨q0, q1, q2⟩ := new3 w (.cells #[.slice x L.length cx, .slice y Q.length cy] 60) (.cells #[.int .i64 6, .int .i64 an, .int .i64 am, .string aa, .string ab, .bool ad] 39) (.cells #[.slice none 0 0, .slice none 0 0] 60)
  generalize (((w.alloc (.cells #[.slice x L.length cx, .slice y Q.length cy] 60)).alloc (.cells #[.int .i64 6, .int .i64 an, .int .i64 am, .string aa, .string ab, .bool ad] 39)).alloc (.cells #[.slice none 0 0, .slice none 0 0] 60)) = W3 at hk3 q0 q1 q2 ⊢
  have hB3 := hk3.keep_bucket HB.out
  have hX3 := HX.out.keep hk3
  obtain ⟨lb, lf, lc, lm⟩ := HB.out.lt
  generalize cut aa 45 = name
  have c1 := cells_at q1
  have l1 := lt_of_at q1
  have cb := cells_at hB3.cells
  have lb3 := hk3.lt lb
  go_still_tail 8, (by kernel_rfl)
  repeat still_step
  try refine wpStill_nil ?_
  change wpList _ _ _ _ _ W3.drew
  clear c1 l1 cb
  go_wp2_with fail
  refine (arm_spec W3.drew f c armed Q an ad han hB3.drew.fuse).mono ?_
  rintro e w4 (⟨hq, rfl, hf4, hk4⟩ | ⟨hq, rfl, rfl⟩)
  · have hk4' := hk4.mono (S' := [f, c, mb]) (by intro q hq; simp at hq ⊢; omega)
    have hB4 : BucketAt w4 b f c mb armed (Q ++ [(max an 0, ad)]) o := hB3.drew.tried hk4 hf4
    have hX4 := (hX3.keep (Keeps.refl [] W3).drew).step hB3.drew hk4'
    have hk04 := (hk3.drew.mono (S' := [f, c, mb]) (by simp)).after hk4' (fun q hq => .inl hq)
    replace q0 := hk4'.at_ (w := W3.drew) q0 (by simp; omega)
    replace q1 := hk4'.at_ (w := W3.drew) q1 (by simp; omega)
    replace q2 := hk4'.at_ (w := W3.drew) q2 (by simp; omega)
    have c0 := cells_at q0
    have c1 := cells_at q1
    have f0 := free_at q0
    have l0 := lt_of_at q0
    have l1 := lt_of_at q1
    have Hq := Lib.hid (And.intro q0 (And.intro q2 (And.intro hk04 (And.intro hX4 hB4))))
    clear hk3 hk4 hk4' hk04 hB3 hB4 hX3 hX4 q0 q1 q2 hf4
    go_wp2_with fail
    obtain ⟨ii, hii, hz0, hz1, hz2⟩ := info_parts infoFault
    obtain ⟨_, _, hxe, _, hok, hfa, _⟩ := Hq.out.2.2.2.1
    injection hxe with hxe
    simp only [Array.mk.injEq, List.cons.injEq, and_true] at hxe
    obtain ⟨rfl, rfl⟩ := hxe
    have Hok := Lib.hid hok
    have Hu : Hid (∀ W, Keeps [] w4 W → SliceArg 2 encFo W (.slice y Q.length cy) Q) := Lib.hid fun W k => hfa.keep k
    have Hown : Hid (∀ (W : World) (g : Nat), w4.heap.size ≤ g → W.heap[g]? = some (.cells #[] 72 (0, 0)) → W.ownsRow w4.heap.size 72 2 (.slice (some ⟨g, 0, none⟩) 0 0) 0 []) := by
      apply Lib.hid
      intro W g hg hh
      exact ⟨rfl, .inr ⟨g, 0, #[], rfl, hg, hh, Nat.le_refl _, by simp [maxLen], rfl, rfl⟩⟩
    clear hok hfa
    have d0 : w4.cell? ⟨w.heap.size, 1, none⟩ = some (.slice y Q.length cy) := by rw [c0]; rfl
    have d1 : w4.cell? ⟨w.heap.size + 1, 1, none⟩ = some (.int .i64 an) := by rw [c1]; rfl
    have d2 : w4.cell? ⟨w.heap.size + 1, 5, none⟩ = some (.bool ad) := by rw [c1]; rfl
    clear c0 c1
    refine wp_region_last_n 15 (fun w' => w'.cell? ⟨w.heap.size, 1, none⟩ = some (.slice y Q.length cy) ∧ w'.cell? ⟨w.heap.size + 1, 1, none⟩ = some (.int .i64 an) ∧ w'.cell? ⟨w.heap.size + 1, 5, none⟩ = some (.bool ad)) (by kernel_rfl) (by kernel_rfl) (by kernel_rfl) ?_
    have hS : (fun w' => w'.cell? ⟨w.heap.size, 1, none⟩ = some (.slice y Q.length cy) ∧ w'.cell? ⟨w.heap.size + 1, 1, none⟩ = some (.int .i64 an) ∧ w'.cell? ⟨w.heap.size + 1, 5, none⟩ = some (.bool ad)) w4.drew := ⟨d0, d1, d2⟩
    simp only [List.take_succ_cons, List.take_zero, List.toList_toArray]
    refine wpAnyH_take (i := 1) (v := ?_) rfl (by kernel_rfl) (by kernel_rfl) (by kernel_rfl) (fun _ _ _ h => h) (Or.inl ⟨by rfl, ?_⟩) (by assumption) ?_
    rotate_left
    · intro w' hSw; obtain ⟨s1, s2, s3⟩ := hSw; go_simp; (try with_reducible rfl)
    simp only [Act.put, List.getElem_toArray, List.getElem_cons_succ, List.getElem_cons_zero, List.setIfInBounds_toArray, List.set_cons_zero, List.set_cons_succ]
    refine wpAnyH_take (i := 2) (v := ?_) rfl (by kernel_rfl) (by kernel_rfl) (by kernel_rfl) (fun _ _ _ h => h) (Or.inl ⟨by rfl, ?_⟩) (by assumption) ?_
    rotate_left
    · intro w' hSw; obtain ⟨s1, s2, s3⟩ := hSw; go_simp; (try with_reducible rfl)
    simp only [Act.put, List.getElem_toArray, List.getElem_cons_succ, List.getElem_cons_zero, List.setIfInBounds_toArray, List.set_cons_zero, List.set_cons_succ]
    refine wpAnyH_take (i := 3) (v := ?_) rfl (by kernel_rfl) (by kernel_rfl) (by kernel_rfl) (fun _ _ _ h => h) (Or.inl ⟨by rfl, ?_⟩) (by assumption) ?_
    rotate_left
    · intro w' hSw; obtain ⟨s1, s2, s3⟩ := hSw; go_simp; (try with_reducible rfl)
    simp only [Act.put, List.getElem_toArray, List.getElem_cons_succ, List.getElem_cons_zero, List.setIfInBounds_toArray, List.set_cons_zero, List.set_cons_succ]
    refine wpAnyH_take (i := 5) (v := ?_) rfl (by kernel_rfl) (by kernel_rfl) (by kernel_rfl) (fun _ _ _ h => h) (Or.inl ⟨by rfl, ?_⟩) (by assumption) ?_
    rotate_left
    · intro w' hSw; obtain ⟨s1, s2, s3⟩ := hSw; go_simp; (try with_reducible rfl)
    simp only [Act.put, List.getElem_toArray, List.getElem_cons_succ, List.getElem_cons_zero, List.setIfInBounds_toArray, List.set_cons_zero, List.set_cons_succ]
    refine wpAnyH_take (i := 6) (v := ?_) rfl (by kernel_rfl) (by kernel_rfl) (by kernel_rfl) (fun _ _ _ h => h) (Or.inl ⟨by rfl, ?_⟩) (by assumption) ?_
    rotate_left
    · intro w' hSw; obtain ⟨s1, s2, s3⟩ := hSw; go_simp; (try with_reducible rfl)
    simp only [Act.put, List.getElem_toArray, List.getElem_cons_succ, List.getElem_cons_zero, List.setIfInBounds_toArray, List.set_cons_zero, List.set_cons_succ]
    refine wpAnyH_take (i := 8) (v := ?_) rfl (by kernel_rfl) (by kernel_rfl) (by kernel_rfl) (fun _ _ _ h => h) (Or.inl ⟨by rfl, ?_⟩) (by assumption) ?_
    rotate_left
    · intro w' hSw; obtain ⟨s1, s2, s3⟩ := hSw; go_simp; (try with_reducible rfl)
    simp only [Act.put, List.getElem_toArray, List.getElem_cons_succ, List.getElem_cons_zero, List.setIfInBounds_toArray, List.set_cons_zero, List.set_cons_succ]
    refine wpAnyH_take (i := 9) (v := ?_) rfl (by kernel_rfl) (by kernel_rfl) (by kernel_rfl) (fun _ _ _ h => h) (Or.inl ⟨by rfl, ?_⟩) (by assumption) ?_
    rotate_left
    · intro w' hSw; obtain ⟨s1, s2, s3⟩ := hSw; go_simp; (try with_reducible rfl)
    simp only [Act.put, List.getElem_toArray, List.getElem_cons_succ, List.getElem_cons_zero, List.setIfInBounds_toArray, List.set_cons_zero, List.set_cons_succ]
    refine wpAnyH_take (i := 7) (v := ?_) rfl (by kernel_rfl) (by kernel_rfl) (by kernel_rfl) (fun _ _ _ h => h) (Or.inl ⟨by rfl, ?_⟩) (by assumption) ?_
    rotate_left
    · intro w' hSw; obtain ⟨s1, s2, s3⟩ := hSw; go_simp; (try with_reducible rfl)
    simp only [Act.put, List.getElem_toArray, List.getElem_cons_succ, List.getElem_cons_zero, List.setIfInBounds_toArray, List.set_cons_zero, List.set_cons_succ]
    refine wpAnyH_take (i := 10) (v := ?_) rfl (by kernel_rfl) (by kernel_rfl) (by kernel_rfl) (fun _ _ _ h => h) (Or.inl ⟨by rfl, ?_⟩) (by assumption) ?_
    rotate_left
    · intro w' hSw; obtain ⟨s1, s2, s3⟩ := hSw; go_simp; (try with_reducible rfl)
    simp only [Act.put, List.getElem_toArray, List.getElem_cons_succ, List.getElem_cons_zero, List.setIfInBounds_toArray, List.set_cons_zero, List.set_cons_succ]
    refine wpAnyH_ready (rs := [0, 11]) (by kernel_rfl) (by simp) ?_
    refine AllReadyH.cons rfl (fun K hK => ?_) ?_
    · go_simp
      refine hK.out _ _ ⟨by go_keep, by go_keep, by go_keep⟩ (fun hS => ?_)
      clear hK K
      try simp only [Act.put, List.getElem_toArray, List.getElem_cons_succ, List.getElem_cons_zero, List.setIfInBounds_toArray, List.set_cons_zero, List.set_cons_succ]
      refine wpAnyH_ready (rs := [4, 11]) (by kernel_rfl) (by simp) ?_
      refine AllReadyH.cons rfl (fun K hK => ?_) ?_
      · refine step_append_arg rfl (.tmp 170) (.tmp 173) 56 rfl w4.heap.size 72 ii _ 2 16 Try.underlying56 hii hz0 hz1 hz2 rfl (by decide) (.slice (some ⟨w4.heap.size, 0, none⟩) 0 0) 0 [] (by rfl) (Hown.out _ _ (by omega) (by first | exact heap_new w4 _ | exact (new2 w4 _ _).1)) encFo (fun _ => rfl) Q (.slice y Q.length cy) (by rfl) Hok.out (Hu.out _ (by repeat (first | exact Keeps.refl _ _ | refine Keeps.drew ?_ | refine Keeps.alloc ?_ _))) (enc1 Q) (by simp only [maxLen]; omega) (by omega) (by first | (simp; done) | (simp; omega)) ?_; intro v5 w5 hown5 hgrow5; simp only [Nat.zero_add, List.nil_append] at hown5; have hkg := Keeps.of_grown (S := [w4.heap.size]) hgrow5 (fun q hq => .inl (by simp [Value.ownBlock] at hq; simp [hq])); have hk5 : Keeps [] w4 w5 := Keeps.after (by repeat (first | exact Keeps.refl _ _ | refine Keeps.drew ?_ | refine Keeps.alloc ?_ _)) hkg (by simp); (try have hn5 := hkg.at_ (new2 w4 _ (.cells #[.int .i64 (max an 0), .bool ad] 72)).2 (by simp)); have e0 := (hk5.cell l0 (by simp)).trans d0; have e1 := (hk5.cell l1 (by simp)).trans d1; have e2 := (hk5.cell l1 (by simp)).trans d2; have l50 := hk5.lt l0; have l51 := hk5.lt l1; clear hkg hgrow5
        refine hK.out _ _ ⟨e0, e1, e2⟩ (fun hS => ?_)
        clear hK K
        try simp only [Act.put, List.getElem_toArray, List.getElem_cons_succ, List.getElem_cons_zero, List.setIfInBounds_toArray, List.set_cons_zero, List.set_cons_succ]
        refine wpAnyH_ready (rs := [11]) (by kernel_rfl) (by simp) ?_
        refine AllReadyH.cons rfl (fun K hK => ?_) ?_
        · go_simp
          refine hK.out _ _ ⟨by go_keep, by go_keep, by go_keep⟩ (fun hS => ?_)
          clear hK K
          try simp only [Act.put, List.getElem_toArray, List.getElem_cons_succ, List.getElem_cons_zero, List.setIfInBounds_toArray, List.set_cons_zero, List.set_cons_succ]
          refine wpAnyH_ready (rs := [12]) (by kernel_rfl) (by simp) ?_
          refine AllReadyH.cons rfl (fun K hK => ?_) ?_
          · refine step_append_own rfl (.tmp 174) (.tmp 181) 56 rfl w4.heap.size 72 ii _ 2 16 Try.underlying56 hii hz0 hz1 hz2 rfl (by decide) v5 Q.length (Q.flatMap encFo) (by rfl) (by first | exact hown5 | exact hown5.alloc _) ⟨w5.heap.size, 0, none⟩ 1 1 [.int .i64 (max an 0), .bool ad] (by rfl) rfl (news_of (by first | exact heap_new w5 _ | exact hn5)) (by simp [Value.oneCell']) (by simp only [maxLen]; omega) (by omega) (by first | exact hk5.size | exact Nat.le_trans hk5.size (by simp)) ?_; intro v6 w6 hown6 hgrow6; obtain ⟨ao6, cp6, rfl, _⟩ := row_slice hown6; have hk6 : Keeps [] w4 w6 := Keeps.grown (by first | exact hk5 | exact hk5.alloc _) hgrow6 (fun q hq => .inr (hown5.lt q hq).1); have e0 := (hk6.cell l0 (by simp)).trans d0; have e1 := (hk6.cell l1 (by simp)).trans d1; have e2 := (hk6.cell l1 (by simp)).trans d2; have l60 := hk6.lt l0; have q6 := hk6.at_ Hq.out.1 (by simp); have f6 := free_at q6; clear hgrow6
            refine hK.out _ _ ⟨e0, e1, e2⟩ (fun hS => ?_)
            clear hK K
            try simp only [Act.put, List.getElem_toArray, List.getElem_cons_succ, List.getElem_cons_zero, List.setIfInBounds_toArray, List.set_cons_zero, List.set_cons_succ]
            refine wpAnyH_take (i := 13) (v := ?_) rfl (by kernel_rfl) (by kernel_rfl) (by kernel_rfl) (fun _ _ _ h => h) (Or.inl ⟨by rfl, ?_⟩) (by assumption) ?_
            rotate_left
            · intro w' hSw; obtain ⟨s1, s2, s3⟩ := hSw; go_simp; (try with_reducible rfl)
            try simp only [Act.put, List.getElem_toArray, List.getElem_cons_succ, List.getElem_cons_zero, List.setIfInBounds_toArray, List.set_cons_zero, List.set_cons_succ]
            refine wpAnyH_take (i := 14) (v := ?_) rfl (by kernel_rfl) (by kernel_rfl) (by kernel_rfl) (fun _ _ _ h => h) (Or.inl ⟨by rfl, ?_⟩) (by assumption) ?_
            rotate_left
            · intro w' hSw; obtain ⟨s1, s2, s3⟩ := hSw; go_simp; (try with_reducible rfl)
            try simp only [Act.put, List.getElem_toArray, List.getElem_cons_succ, List.getElem_cons_zero, List.setIfInBounds_toArray, List.set_cons_zero, List.set_cons_succ]
            refine wpAnyH_done (by kernel_rfl) ?_ _
            refine lastQ_step rfl (fun K hK => ?_)
            go_simp
            refine hK _ _ ?_
            clear hK K
            have Hend := Lib.hid (arm_end ⟨lb, lf, lc, lm⟩ Hq.out.1 Hq.out.2.1 Hq.out.2.2.1 Hq.out.2.2.2.1 Hq.out.2.2.2.2 hk6 hown6)
            have Hx := Lib.hid (And.intro Hend.out.2.2.1 (And.intro Hend.out.2.2.2.1 (And.intro Hend.out.2.2.2.2.1 Hend.out.2.2.2.2.2)))
            have c0 := Hend.out.1
            have l0' := Hend.out.2.1
            have c2 := cells_at Hx.out.1
            have f2 := free_at Hx.out.1
            have l2 := lt_of_at Hx.out.1
            have hdoes := does_end (q := w.heap.size + 1 + 1) (by omega) ⟨lb, lf, lc, lm⟩ Hx.out.1 Hx.out.2.1 Hx.out.2.2.1 Hx.out.2.2.2
            have hlen : (Q ++ [(max an 0, ad)]).length = Q.length + 1 := by simp
            rw [hlen] at hdoes
            have Hfin := Lib.hid hdoes
            clear hdoes hlen hS e0 e1 e2 q6 f6 l60 hk6 hown6 Hend Hx
            generalize w6.setCell ⟨w.heap.size, 1, none⟩ (.slice ao6 (Q.length + 1) cp6) = W7 at c0 l0' c2 f2 l2 Hfin ⊢
            go_wp2_with fail
            obtain ⟨hc, hl, hB, hX, hK⟩ := Hfin.out
            refine bodyPost_ret (v := .tuple #[.agg #[.slice x L.length cx, .slice ao6 (Q.length + 1) cp6], .bool true]) ?_ rfl ?_
            · simp [results, Try.results25, go_sem, hc]
            · exact ⟨_, _, _, o, rfl, hB, by rw [HLe.out]; exact hX, hinv.next, hK⟩
          exact AllReadyH.nil
        exact AllReadyH.nil
      refine AllReadyH.cons rfl (fun K hK => ?_) ?_
      · go_simp
        refine hK.out _ _ ⟨by go_keep, by go_keep, by go_keep⟩ (fun hS => ?_)
        clear hK K
        try simp only [Act.put, List.getElem_toArray, List.getElem_cons_succ, List.getElem_cons_zero, List.setIfInBounds_toArray, List.set_cons_zero, List.set_cons_succ]
        refine wpAnyH_ready (rs := [4]) (by kernel_rfl) (by simp) ?_
        refine AllReadyH.cons rfl (fun K hK => ?_) ?_
        · refine step_append_arg rfl (.tmp 170) (.tmp 173) 56 rfl w4.heap.size 72 ii _ 2 16 Try.underlying56 hii hz0 hz1 hz2 rfl (by decide) (.slice (some ⟨w4.heap.size, 0, none⟩) 0 0) 0 [] (by rfl) (Hown.out _ _ (by omega) (by first | exact heap_new w4 _ | exact (new2 w4 _ _).1)) encFo (fun _ => rfl) Q (.slice y Q.length cy) (by rfl) Hok.out (Hu.out _ (by repeat (first | exact Keeps.refl _ _ | refine Keeps.drew ?_ | refine Keeps.alloc ?_ _))) (enc1 Q) (by simp only [maxLen]; omega) (by omega) (by first | (simp; done) | (simp; omega)) ?_; intro v5 w5 hown5 hgrow5; simp only [Nat.zero_add, List.nil_append] at hown5; have hkg := Keeps.of_grown (S := [w4.heap.size]) hgrow5 (fun q hq => .inl (by simp [Value.ownBlock] at hq; simp [hq])); have hk5 : Keeps [] w4 w5 := Keeps.after (by repeat (first | exact Keeps.refl _ _ | refine Keeps.drew ?_ | refine Keeps.alloc ?_ _)) hkg (by simp); (try have hn5 := hkg.at_ (new2 w4 _ (.cells #[.int .i64 (max an 0), .bool ad] 72)).2 (by simp)); have e0 := (hk5.cell l0 (by simp)).trans d0; have e1 := (hk5.cell l1 (by simp)).trans d1; have e2 := (hk5.cell l1 (by simp)).trans d2; have l50 := hk5.lt l0; have l51 := hk5.lt l1; clear hkg hgrow5
          refine hK.out _ _ ⟨e0, e1, e2⟩ (fun hS => ?_)
          clear hK K
          try simp only [Act.put, List.getElem_toArray, List.getElem_cons_succ, List.getElem_cons_zero, List.setIfInBounds_toArray, List.set_cons_zero, List.set_cons_succ]
          refine wpAnyH_ready (rs := [12]) (by kernel_rfl) (by simp) ?_
          refine AllReadyH.cons rfl (fun K hK => ?_) ?_
          · refine step_append_own rfl (.tmp 174) (.tmp 181) 56 rfl w4.heap.size 72 ii _ 2 16 Try.underlying56 hii hz0 hz1 hz2 rfl (by decide) v5 Q.length (Q.flatMap encFo) (by rfl) (by first | exact hown5 | exact hown5.alloc _) ⟨w4.heap.size + 1, 0, none⟩ 1 1 [.int .i64 (max an 0), .bool ad] (by rfl) rfl (news_of (by first | exact heap_new w5 _ | exact hn5)) (by simp [Value.oneCell']) (by simp only [maxLen]; omega) (by omega) (by first | exact hk5.size | exact Nat.le_trans hk5.size (by simp)) ?_; intro v6 w6 hown6 hgrow6; obtain ⟨ao6, cp6, rfl, _⟩ := row_slice hown6; have hk6 : Keeps [] w4 w6 := Keeps.grown (by first | exact hk5 | exact hk5.alloc _) hgrow6 (fun q hq => .inr (hown5.lt q hq).1); have e0 := (hk6.cell l0 (by simp)).trans d0; have e1 := (hk6.cell l1 (by simp)).trans d1; have e2 := (hk6.cell l1 (by simp)).trans d2; have l60 := hk6.lt l0; have q6 := hk6.at_ Hq.out.1 (by simp); have f6 := free_at q6; clear hgrow6
            refine hK.out _ _ ⟨e0, e1, e2⟩ (fun hS => ?_)
            clear hK K
            try simp only [Act.put, List.getElem_toArray, List.getElem_cons_succ, List.getElem_cons_zero, List.setIfInBounds_toArray, List.set_cons_zero, List.set_cons_succ]
            refine wpAnyH_take (i := 13) (v := ?_) rfl (by kernel_rfl) (by kernel_rfl) (by kernel_rfl) (fun _ _ _ h => h) (Or.inl ⟨by rfl, ?_⟩) (by assumption) ?_
            rotate_left
            · intro w' hSw; obtain ⟨s1, s2, s3⟩ := hSw; go_simp; (try with_reducible rfl)
            try simp only [Act.put, List.getElem_toArray, List.getElem_cons_succ, List.getElem_cons_zero, List.setIfInBounds_toArray, List.set_cons_zero, List.set_cons_succ]
            refine wpAnyH_take (i := 14) (v := ?_) rfl (by kernel_rfl) (by kernel_rfl) (by kernel_rfl) (fun _ _ _ h => h) (Or.inl ⟨by rfl, ?_⟩) (by assumption) ?_
            rotate_left
            · intro w' hSw; obtain ⟨s1, s2, s3⟩ := hSw; go_simp; (try with_reducible rfl)
            try simp only [Act.put, List.getElem_toArray, List.getElem_cons_succ, List.getElem_cons_zero, List.setIfInBounds_toArray, List.set_cons_zero, List.set_cons_succ]
            refine wpAnyH_done (by kernel_rfl) ?_ _
            refine lastQ_step rfl (fun K hK => ?_)
            go_simp
            refine hK _ _ ?_
            clear hK K
            have Hend := Lib.hid (arm_end ⟨lb, lf, lc, lm⟩ Hq.out.1 Hq.out.2.1 Hq.out.2.2.1 Hq.out.2.2.2.1 Hq.out.2.2.2.2 hk6 hown6)
            have Hx := Lib.hid (And.intro Hend.out.2.2.1 (And.intro Hend.out.2.2.2.1 (And.intro Hend.out.2.2.2.2.1 Hend.out.2.2.2.2.2)))
            have c0 := Hend.out.1
            have l0' := Hend.out.2.1
            have c2 := cells_at Hx.out.1
            have f2 := free_at Hx.out.1
            have l2 := lt_of_at Hx.out.1
            have hdoes := does_end (q := w.heap.size + 1 + 1) (by omega) ⟨lb, lf, lc, lm⟩ Hx.out.1 Hx.out.2.1 Hx.out.2.2.1 Hx.out.2.2.2
            have hlen : (Q ++ [(max an 0, ad)]).length = Q.length + 1 := by simp
            rw [hlen] at hdoes
            have Hfin := Lib.hid hdoes
            clear hdoes hlen hS e0 e1 e2 q6 f6 l60 hk6 hown6 Hend Hx
            generalize w6.setCell ⟨w.heap.size, 1, none⟩ (.slice ao6 (Q.length + 1) cp6) = W7 at c0 l0' c2 f2 l2 Hfin ⊢
            go_wp2_with fail
            obtain ⟨hc, hl, hB, hX, hK⟩ := Hfin.out
            refine bodyPost_ret (v := .tuple #[.agg #[.slice x L.length cx, .slice ao6 (Q.length + 1) cp6], .bool true]) ?_ rfl ?_
            · simp [results, Try.results25, go_sem, hc]
            · exact ⟨_, _, _, o, rfl, hB, by rw [HLe.out]; exact hX, hinv.next, hK⟩
          exact AllReadyH.nil
        exact AllReadyH.nil
      exact AllReadyH.nil
    refine AllReadyH.cons rfl (fun K hK => ?_) ?_
    · go_simp
      refine hK.out _ _ ⟨by go_keep, by go_keep, by go_keep⟩ (fun hS => ?_)
      clear hK K
      try simp only [Act.put, List.getElem_toArray, List.getElem_cons_succ, List.getElem_cons_zero, List.setIfInBounds_toArray, List.set_cons_zero, List.set_cons_succ]
      refine wpAnyH_ready (rs := [0]) (by kernel_rfl) (by simp) ?_
      refine AllReadyH.cons rfl (fun K hK => ?_) ?_
      · go_simp
        refine hK.out _ _ ⟨by go_keep, by go_keep, by go_keep⟩ (fun hS => ?_)
        clear hK K
        try simp only [Act.put, List.getElem_toArray, List.getElem_cons_succ, List.getElem_cons_zero, List.setIfInBounds_toArray, List.set_cons_zero, List.set_cons_succ]
        refine wpAnyH_ready (rs := [4]) (by kernel_rfl) (by simp) ?_
        refine AllReadyH.cons rfl (fun K hK => ?_) ?_
        · refine step_append_arg rfl (.tmp 170) (.tmp 173) 56 rfl w4.heap.size 72 ii _ 2 16 Try.underlying56 hii hz0 hz1 hz2 rfl (by decide) (.slice (some ⟨w4.heap.size + 1, 0, none⟩) 0 0) 0 [] (by rfl) (Hown.out _ _ (by omega) (by exact (new2 w4 _ _).2)) encFo (fun _ => rfl) Q (.slice y Q.length cy) (by rfl) Hok.out (Hu.out _ (by repeat (first | exact Keeps.refl _ _ | refine Keeps.drew ?_ | refine Keeps.alloc ?_ _))) (enc1 Q) (by simp only [maxLen]; omega) (by omega) (by first | (simp; done) | (simp; omega)) ?_; intro v5 w5 hown5 hgrow5; simp only [Nat.zero_add, List.nil_append] at hown5; have hkg := Keeps.of_grown (S := [w4.heap.size + 1]) hgrow5 (fun q hq => .inl (by simp [Value.ownBlock] at hq; simp [hq])); have hk5 : Keeps [] w4 w5 := Keeps.after (by repeat (first | exact Keeps.refl _ _ | refine Keeps.drew ?_ | refine Keeps.alloc ?_ _)) hkg (by simp); (try have hn5 := hkg.at_ (new2 w4 (.cells #[.int .i64 (max an 0), .bool ad] 72) _).1 (by simp)); have e0 := (hk5.cell l0 (by simp)).trans d0; have e1 := (hk5.cell l1 (by simp)).trans d1; have e2 := (hk5.cell l1 (by simp)).trans d2; have l50 := hk5.lt l0; have l51 := hk5.lt l1; clear hkg hgrow5
          refine hK.out _ _ ⟨e0, e1, e2⟩ (fun hS => ?_)
          clear hK K
          try simp only [Act.put, List.getElem_toArray, List.getElem_cons_succ, List.getElem_cons_zero, List.setIfInBounds_toArray, List.set_cons_zero, List.set_cons_succ]
          refine wpAnyH_ready (rs := [12]) (by kernel_rfl) (by simp) ?_
          refine AllReadyH.cons rfl (fun K hK => ?_) ?_
          · refine step_append_own rfl (.tmp 174) (.tmp 181) 56 rfl w4.heap.size 72 ii _ 2 16 Try.underlying56 hii hz0 hz1 hz2 rfl (by decide) v5 Q.length (Q.flatMap encFo) (by rfl) (by first | exact hown5 | exact hown5.alloc _) ⟨w4.heap.size, 0, none⟩ 1 1 [.int .i64 (max an 0), .bool ad] (by rfl) rfl (news_of (by first | exact heap_new w5 _ | exact hn5)) (by simp [Value.oneCell']) (by simp only [maxLen]; omega) (by omega) (by first | exact hk5.size | exact Nat.le_trans hk5.size (by simp)) ?_; intro v6 w6 hown6 hgrow6; obtain ⟨ao6, cp6, rfl, _⟩ := row_slice hown6; have hk6 : Keeps [] w4 w6 := Keeps.grown (by first | exact hk5 | exact hk5.alloc _) hgrow6 (fun q hq => .inr (hown5.lt q hq).1); have e0 := (hk6.cell l0 (by simp)).trans d0; have e1 := (hk6.cell l1 (by simp)).trans d1; have e2 := (hk6.cell l1 (by simp)).trans d2; have l60 := hk6.lt l0; have q6 := hk6.at_ Hq.out.1 (by simp); have f6 := free_at q6; clear hgrow6
            refine hK.out _ _ ⟨e0, e1, e2⟩ (fun hS => ?_)
            clear hK K
            try simp only [Act.put, List.getElem_toArray, List.getElem_cons_succ, List.getElem_cons_zero, List.setIfInBounds_toArray, List.set_cons_zero, List.set_cons_succ]
            refine wpAnyH_take (i := 13) (v := ?_) rfl (by kernel_rfl) (by kernel_rfl) (by kernel_rfl) (fun _ _ _ h => h) (Or.inl ⟨by rfl, ?_⟩) (by assumption) ?_
            rotate_left
            · intro w' hSw; obtain ⟨s1, s2, s3⟩ := hSw; go_simp; (try with_reducible rfl)
            try simp only [Act.put, List.getElem_toArray, List.getElem_cons_succ, List.getElem_cons_zero, List.setIfInBounds_toArray, List.set_cons_zero, List.set_cons_succ]
            refine wpAnyH_take (i := 14) (v := ?_) rfl (by kernel_rfl) (by kernel_rfl) (by kernel_rfl) (fun _ _ _ h => h) (Or.inl ⟨by rfl, ?_⟩) (by assumption) ?_
            rotate_left
            · intro w' hSw; obtain ⟨s1, s2, s3⟩ := hSw; go_simp; (try with_reducible rfl)
            try simp only [Act.put, List.getElem_toArray, List.getElem_cons_succ, List.getElem_cons_zero, List.setIfInBounds_toArray, List.set_cons_zero, List.set_cons_succ]
            refine wpAnyH_done (by kernel_rfl) ?_ _
            refine lastQ_step rfl (fun K hK => ?_)
            go_simp
            refine hK _ _ ?_
            clear hK K
            have Hend := Lib.hid (arm_end ⟨lb, lf, lc, lm⟩ Hq.out.1 Hq.out.2.1 Hq.out.2.2.1 Hq.out.2.2.2.1 Hq.out.2.2.2.2 hk6 hown6)
            have Hx := Lib.hid (And.intro Hend.out.2.2.1 (And.intro Hend.out.2.2.2.1 (And.intro Hend.out.2.2.2.2.1 Hend.out.2.2.2.2.2)))
            have c0 := Hend.out.1
            have l0' := Hend.out.2.1
            have c2 := cells_at Hx.out.1
            have f2 := free_at Hx.out.1
            have l2 := lt_of_at Hx.out.1
            have hdoes := does_end (q := w.heap.size + 1 + 1) (by omega) ⟨lb, lf, lc, lm⟩ Hx.out.1 Hx.out.2.1 Hx.out.2.2.1 Hx.out.2.2.2
            have hlen : (Q ++ [(max an 0, ad)]).length = Q.length + 1 := by simp
            rw [hlen] at hdoes
            have Hfin := Lib.hid hdoes
            clear hdoes hlen hS e0 e1 e2 q6 f6 l60 hk6 hown6 Hend Hx
            generalize w6.setCell ⟨w.heap.size, 1, none⟩ (.slice ao6 (Q.length + 1) cp6) = W7 at c0 l0' c2 f2 l2 Hfin ⊢
            go_wp2_with fail
            obtain ⟨hc, hl, hB, hX, hK⟩ := Hfin.out
            refine bodyPost_ret (v := .tuple #[.agg #[.slice x L.length cx, .slice ao6 (Q.length + 1) cp6], .bool true]) ?_ rfl ?_
            · simp [results, Try.results25, go_sem, hc]
            · exact ⟨_, _, _, o, rfl, hB, by rw [HLe.out]; exact hX, hinv.next, hK⟩
          exact AllReadyH.nil
        exact AllReadyH.nil
      exact AllReadyH.nil
    exact AllReadyH.nil
  · have hdoes := does_end (by omega) ⟨lb, lf, lc, lm⟩ (W := W3.drew) q2 (hk3.drew.mono (by simp)) (hX3.keep (Keeps.refl [] W3).drew) hB3.drew
    have Hfin := Lib.hid hdoes
    have c0 := cells_at q0
    have c2 := cells_at q2
    have f2 := free_at q2
    have l2 := lt_of_at q2
    clear q0 q1 q2 hB3 hX3 hk3 hdoes
    go_wp2_with fail
    obtain ⟨hc, hl, hB, hX, hK⟩ := Hfin.out
    refine bodyPost_ret (v := .tuple #[.agg #[.slice x L.length cx, .slice y Q.length cy], .bool true]) ?_ rfl ?_
    · simp [results, Try.results25, go_sem, hc, c2, l2]
    · exact ⟨_, _, _, o, rfl, hB, by rw [HLe.out]; exact hX, hinv.next, hK⟩

set_option linter.unusedSimpArgs false in
set_option maxRecDepth 100000 in
set_option maxHeartbeats 2000000 in
theorem does_other (w : World) (b f c mb k : Nat) (armed : Bool) (Q : List (Int × Bool)) (o : List (ByteArray × Ob)) (v : Value) (an am : Int) (aa ab : ByteArray) (ad : Bool) (hk40 : k ≤ 40) (ak : Int) (hk : ak < 1 ∨ 6 < ak)
    (hb : BucketAt w b f c mb armed Q o) (hx : RefB w v (full o) Q) (hinv : InvP o k) :
    Calls Try.prog 25 #[.pointer (some ⟨b, 0, none⟩), v, .agg #[.int .i64 ak, .int .i64 an, .int .i64 am, .string aa, .string ab, .bool ad]] w (DoesPost w b f c mb (k + 1)) := by
  have hnd : (o.map (·.1)).Nodup := by have := hb.map.nodup; rwa [keys_enc] at this
  have HB := Lib.hid hb
  have hL : (full o).length ≤ 40 := by rw [full_len]; exact Nat.le_trans hinv.len hk40
  obtain ⟨hQ, hQk⟩ := hb.fuse.bounds
  generalize hLe : full o = L at hL hx
  obtain ⟨x, cx, y, cy, rfl⟩ := hx.form
  have HX := Lib.hid hx
  have HLe := Lib.hid hLe
  clear hx hb hLe
  have e1 : (ak == 1) = false := by simp; omega
  have e2 : (ak == 2) = false := by simp; omega
  have e3 : (ak == 3) = false := by simp; omega
  have e4 : (ak == 4) = false := by simp; omega
  have e5 : (ak == 5) = false := by simp; omega
  have e6 : (ak == 6) = false := by simp; omega
  clear hk
  go_enter Try.func25, Try.ntmps25
  go_wp2_with (go_at_call 14; refine (cut_any _ 45 _ (by decide)).mono ?_; rintro e w' ⟨rfl, rfl⟩)
  have hcc := cells_at (new3 w (.cells #[.slice x L.length cx, .slice y Q.length cy] 60) (.cells #[.int .i64 ak, .int .i64 an, .int .i64 am, .string aa, .string ab, .bool ad] 39) (.cells #[.slice x L.length cx, .slice y Q.length cy] 60)).2.2
  have hk3 : Keeps [] w (((w.alloc (.cells #[.slice x L.length cx, .slice y Q.length cy] 60)).alloc (.cells #[.int .i64 ak, .int .i64 an, .int .i64 am, .string aa, .string ab, .bool ad] 39)).alloc (.cells #[.slice x L.length cx, .slice y Q.length cy] 60)) := (((Keeps.refl [] w).alloc _).alloc _).alloc _
  refine bodyPost_ret (v := .tuple #[.agg #[.slice x L.length cx, .slice y Q.length cy], .bool true]) ?_ rfl ?_
  · simp [results, Try.results25, go_sem, hcc]
  · exact ⟨_, _, _, o, rfl, hk3.keep_bucket HB.out, by rw [HLe.out]; exact HX.out.keep hk3, hinv.next, hk3.mono (by simp)⟩

end Go.Proofs.Ythcdodjdlgeeoaa
