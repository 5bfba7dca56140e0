/-
  A region that draws its order: what each operation yields is told by a predicate that new memory does not break; then one walk in the order of the text serves every order.
  No condition beyond those that each theorem states.
-/
import Derived.Test.YthlmlneiehijkaaKept
import Derived.Deep.RegionHeld3
namespace Go.Proofs.Ythlmlneiehijkaa
open Go Go.RowKit

/-- An operation that is still to come up: its number, itself, the places (in the list of those to come) of what it looks at, what it yields. -/
structure Rly where
  i : Nat
  o : Oper
  ds : List Nat
  φ : Value → World → Prop

/-- What an operation looks at, put into the frame. -/
def rlyAt (rem : List Rly) (w : World) : List Nat → Act → (Act → Prop) → Prop
  | [], x, G => G x
  | k :: ks, x, G => match rem[k]? with
    | some d => ∀ v, d.φ v w → rlyAt rem w ks (x.put d.o.dst v) G
    | none => rlyAt rem w ks x G

/-- What stands behind the region, all values put into the frame. -/
def rlyEnd (Q : Exit → Act → World → Prop) (w : World) : List Rly → Act → Prop
  | [], x => Q .normal x w
  | r :: rs, x => ∀ v, r.φ v w → rlyEnd Q w rs (x.put r.o.dst v)

def noQ : Exit → Act → World → Prop := fun _ _ _ => False

/-- An operation does what it is told to, whatever stands elsewhere. -/
def rlyDoes (P : Program) (ops : Array Oper) (W : World) (rem : List Rly) (a0 : Act) (r : Rly) : Prop :=
  ∀ w, Keeps [] W w → rlyAt rem w r.ds a0 fun x => ∀ K : Act → World → Prop, Shut (∀ v w', r.φ v w' → Keeps [] w w' → K (x.put r.o.dst v) w') → if Region.wanted r.o (yielded ops x.tmps) = true then Oper.wp P r.o x w K noQ else K (x.put r.o.dst undef) w

/-- The Booleans: edges to what is looked at, nothing else looked at, no guards, each its own slot, all that is left. -/
def rlyB (md : Region.Mode) (ops : Array Oper) (listed : Array Bool) (rem : List Rly) : Bool :=
  (rem.all fun r => r.o.guard.isNone && (match r.o.op with | .select .. => false | _ => true) &&
    (r.ds.all fun k => match rem[k]? with | some d => r.o.after.any (fun e => Region.binds md e && e.on == d.i) | none => false) &&
    ((r.o.looksAt ops).all fun t => (r.ds.any fun k => match rem[k]? with | some d => d.o.dst == some t | none => false) || rem.all fun q => q.o.dst != some t)) &&
  ((List.range rem.length).all fun j => (List.range rem.length).all fun k => j == k || (match rem[j]?, rem[k]? with | some a, some b => a.i != b.i && (a.o.dst.isNone || a.o.dst != b.o.dst) | _, _ => true)) &&
  ((List.range ops.size).all fun j => listed.getD j true || rem.any fun r => r.i == j) &&
  (rem.all fun r => decide (r.i < ops.size) && decide (r.i < listed.size) && !listed.getD r.i true && r.o.after.all fun e => !Region.binds md e || decide (e.on < r.i))

section
variable {P : Program} {ops : Array Oper} {Q : Exit → Act → World → Prop} {md : Region.Mode} {S : World → Prop}
theorem put_getD (a : Act) (d : Option Tmp) (v : Value) (t : Nat) : (a.put d v).tmps.getD t undef = if d = some t ∧ t < a.tmps.size then v else a.tmps.getD t undef := by
  cases d with
  | none => simp [Act.put]
  | some d =>
    simp only [Act.put, Option.some.injEq, Array.getD_eq_getD_getElem?, Array.getElem?_setIfInBounds]
    by_cases h : d = t
    · subst h
      by_cases h2 : d < a.tmps.size
      · simp [h2]
      · simp [h2]
    · simp [h]

theorem put_size (a : Act) (d : Option Tmp) (v : Value) : (a.put d v).tmps.size = a.tmps.size := by
  cases d <;> simp [Act.put]

theorem put_defers (a : Act) (d : Option Tmp) (v : Value) : (a.put d v).defers = a.defers := by
  cases d <;> rfl

theorem act_ext {a b : Act} (h1 : a.defers = b.defers) (h2 : a.tmps.size = b.tmps.size) (h3 : ∀ t, a.tmps.getD t undef = b.tmps.getD t undef) : a = b := by
  obtain ⟨ta, da⟩ := a
  obtain ⟨tb, db⟩ := b
  simp only at h1 h2 h3
  subst h1
  have : ta = tb := by
    apply Array.ext h2
    intro i hi hj
    have := h3 i
    simpa [Array.getD_eq_getD_getElem?, hi, hj] using this
  rw [this]

/-- What holds between two operations. -/
structure RlyInv (W : World) (rem : List Rly) (a0 : Act) (listed : Array Bool) (a : Act) (w : World) : Prop where
  keep : Keeps [] W w
  defers : a.defers = a0.defers
  size : a.tmps.size = a0.tmps.size
  same : ∀ t : Nat, (∀ r ∈ rem, listed.getD r.i true = true → r.o.dst ≠ some t) → a.tmps.getD t undef = a0.tmps.getD t undef
  has : ∀ r ∈ rem, listed.getD r.i true = true → (∀ t : Nat, r.o.dst = some t → t < a0.tmps.size → r.φ (a.tmps.getD t undef) w) ∧ ∃ v, r.φ v w

/-- From the places to what they hold. -/
theorem rlyAt_inst {rem : List Rly} {w : World} {a : Act} : ∀ (ks : List Nat) (x : Act) (G : Act → Prop), x.tmps.size = a.tmps.size →
    (∀ k ∈ ks, ∀ d, rem[k]? = some d → (∀ t : Nat, d.o.dst = some t → t < a.tmps.size → d.φ (a.tmps.getD t undef) w) ∧ ∃ v, d.φ v w) → rlyAt rem w ks x G →
    ∃ y, G y ∧ y.tmps.size = a.tmps.size ∧ (∀ t : Nat, (∃ k ∈ ks, ∃ d, rem[k]? = some d ∧ d.o.dst = some t) → y.tmps.getD t undef = a.tmps.getD t undef) ∧ (∀ t : Nat, ¬ (∃ k ∈ ks, ∃ d, rem[k]? = some d ∧ d.o.dst = some t) → y.tmps.getD t undef = x.tmps.getD t undef)
  | [], x, G, hs, _, h => ⟨x, h, hs, fun t ⟨k, hk, _⟩ => by simp at hk, fun _ _ => rfl⟩
  | k :: ks, x, G, hs, hd, h => by
    have hd' : ∀ k ∈ ks, ∀ d, rem[k]? = some d → (∀ t : Nat, d.o.dst = some t → t < a.tmps.size → d.φ (a.tmps.getD t undef) w) ∧ ∃ v, d.φ v w := fun k hk => hd k (by simp [hk])
    cases hr : rem[k]? with
    | none =>
      simp only [rlyAt, hr] at h
      obtain ⟨y, h1, h2, h3, h4⟩ := rlyAt_inst ks x G hs hd' h
      refine ⟨y, h1, h2, fun t ⟨j, hj, d, e, hdst⟩ => ?_, fun t hn => h4 t fun ⟨j, hj, r⟩ => hn ⟨j, by simp [hj], r⟩⟩
      rcases List.mem_cons.1 hj with rfl | hj
      · rw [hr] at e; cases e
      · exact h3 t ⟨j, hj, d, e, hdst⟩
    | some d =>
      simp only [rlyAt, hr] at h
      have hk := hd k (by simp) d hr
      by_cases hin : ∃ t : Nat, d.o.dst = some t ∧ t < a.tmps.size
      · obtain ⟨t0, e0, hlt⟩ := hin
        have h' := h (a.tmps.getD t0 undef) (hk.1 t0 e0 hlt)
        obtain ⟨y, h1, h2, h3, h4⟩ := rlyAt_inst ks _ G (by rw [put_size]; exact hs) hd' h'
        refine ⟨y, h1, h2, fun t ht => ?_, fun t hn => ?_⟩
        · by_cases hc : ∃ j ∈ ks, ∃ d, rem[j]? = some d ∧ d.o.dst = some t
          · exact h3 t hc
          · obtain ⟨j, hj, d', e, hdst⟩ := ht
            rcases List.mem_cons.1 hj with rfl | hj
            · rw [hr] at e
              injection e with e
              subst e
              rw [e0] at hdst
              injection hdst with hdst
              subst hdst
              rw [h4 _ hc, put_getD, if_pos ⟨e0, by omega⟩]
            · exact absurd ⟨j, hj, d', e, hdst⟩ hc
        · rw [h4 t fun ⟨j, hj, r⟩ => hn ⟨j, by simp [hj], r⟩, put_getD, if_neg]
          rintro ⟨e, _⟩
          exact hn ⟨k, by simp, d, hr, e⟩
      · obtain ⟨v, hv⟩ := hk.2
        obtain ⟨y, h1, h2, h3, h4⟩ := rlyAt_inst ks _ G (by rw [put_size]; exact hs) hd' (h v hv)
        have hput : ∀ t : Nat, (x.put d.o.dst v).tmps.getD t undef = x.tmps.getD t undef := fun t => by
          rw [put_getD, if_neg]
          rintro ⟨e, hlt⟩
          exact hin ⟨t, e, by omega⟩
        refine ⟨y, h1, h2, fun t ht => ?_, fun t hn => ?_⟩
        · by_cases hc : ∃ j ∈ ks, ∃ d, rem[j]? = some d ∧ d.o.dst = some t
          · exact h3 t hc
          · obtain ⟨j, hj, d', e, hdst⟩ := ht
            rcases List.mem_cons.1 hj with rfl | hj
            · rw [hr] at e
              injection e with e
              subst e
              have : ¬ t < a.tmps.size := fun hlt => hin ⟨t, hdst, hlt⟩
              simp [Array.getD_eq_getD_getElem?, Array.getElem?_eq_none (show y.tmps.size ≤ t by omega), Array.getElem?_eq_none (show a.tmps.size ≤ t by omega)]
            · exact absurd ⟨j, hj, d', e, hdst⟩ hc
        · rw [h4 t fun ⟨j, hj, r⟩ => hn ⟨j, by simp [hj], r⟩, hput]

theorem rlyEnd_inst {w : World} {a : Act} : ∀ (rs : List Rly) (x : Act), x.defers = a.defers → x.tmps.size = a.tmps.size →
    (∀ r ∈ rs, (∀ t : Nat, r.o.dst = some t → t < a.tmps.size → r.φ (a.tmps.getD t undef) w) ∧ ∃ v, r.φ v w) →
    (∀ t : Nat, (∀ r ∈ rs, r.o.dst ≠ some t) → x.tmps.getD t undef = a.tmps.getD t undef) → rlyEnd Q w rs x → Q .normal a w
  | [], x, hd, hs, _, hn, h => by
    have : x = a := act_ext hd hs fun t => hn t (by simp)
    subst this
    exact h
  | r :: rs, x, hd, hs, hr, hn, h => by
    have h0 := hr r (by simp)
    by_cases hin : ∃ t : Nat, r.o.dst = some t ∧ t < a.tmps.size
    · obtain ⟨t0, e0, hlt⟩ := hin
      refine rlyEnd_inst rs (x.put r.o.dst (a.tmps.getD t0 undef)) (by rw [put_defers]; exact hd) (by rw [put_size]; exact hs) (fun q hq => hr q (by simp [hq])) (fun t ht => ?_) (h _ (h0.1 t0 e0 hlt))
      rw [put_getD]
      by_cases e : t = t0
      · subst e
        rw [if_pos ⟨e0, by omega⟩]
      · rw [if_neg (by rw [e0]; rintro ⟨e2, _⟩; exact e (by injection e2 with e2; exact e2.symm))]
        refine hn t fun q hq => ?_
        rcases List.mem_cons.1 hq with rfl | hq
        · rw [e0]; intro e2; exact e (by injection e2 with e2; exact e2.symm)
        · exact ht q hq
    · obtain ⟨v, hv⟩ := h0.2
      refine rlyEnd_inst rs (x.put r.o.dst v) (by rw [put_defers]; exact hd) (by rw [put_size]; exact hs) (fun q hq => hr q (by simp [hq])) (fun t ht => ?_) (h v hv)
      by_cases hlt : t < a.tmps.size
      · rw [put_getD, if_neg (fun ⟨e, _⟩ => hin ⟨t, e, hlt⟩)]
        refine hn t fun q hq => ?_
        rcases List.mem_cons.1 hq with rfl | hq
        · exact fun e => hin ⟨t, e, hlt⟩
        · exact ht q hq
      · simp [Array.getD_eq_getD_getElem?, Array.getElem?_eq_none (show (x.put r.o.dst v).tmps.size ≤ t by rw [put_size]; omega), Array.getElem?_eq_none (show a.tmps.size ≤ t by omega)]

theorem looks_eval {o : Oper} {a x : Act} (h : ∀ t ∈ o.looksAt ops, x.tmps.getD t undef = a.tmps.getD t undef) (hs : ∀ cs b, o.op ≠ .select cs b) : execOp a.eval o = execOp x.eval o :=
  execOp_congr o hs fun y hy => by
    cases y with
    | tmp t => exact (h t (List.mem_append_left _ (List.mem_filterMap.2 ⟨.tmp t, by simpa using hy, rfl⟩))).symm
    | _ => rfl

theorem wp_frame {o : Oper} {a x : Act} {w : World} {K K' : Act → World → Prop} (he : execOp a.eval o = execOp x.eval o) (h : o.wp P x w K noQ) (hK : ∀ v w', K (x.put o.dst v) w' → K' (a.put o.dst v) w')
    (hnd : ∀ d w', ¬ K ({ x with defers := d :: x.defers }.put o.dst undef) w') : o.wp P a w K' Q := by
  unfold Oper.wp at *
  rw [he]
  generalize (execOp x.eval o).run P w = r at *
  cases r with
  | ok n w' =>
    cases n <;> simp only [Oper.upon] at h ⊢
    case value v => exact hK v w' h
    case skip => exact hK undef w' h
    case defer d => exact absurd h (hnd d w')
    case enter f args => exact Calls.mono h (fun e w'' he => by
      cases e with
      | returned v => exact hK v w'' he
      | panicked c => exact absurd he id
      | outgrown => obtain ⟨_, _, h⟩ := he; exact absurd h id)
    case row row args => exact Rows.mono h (fun v w'' he => hK v w'' he)
  | halt b w' => cases b <;> simp only [Oper.upon] at h <;> exact absurd h id

theorem getD_set_self {l : Array Bool} {i : Nat} (h : i < l.size) (d : Bool) : (l.setIfInBounds i true).getD i d = true := by
  simp [Array.getD_eq_getD_getElem?, h]

theorem getD_set_other {l : Array Bool} {i j : Nat} (h : i ≠ j) (d b : Bool) : (l.setIfInBounds i b).getD j d = l.getD j d := by
  simp [Array.getD_eq_getD_getElem?, Array.getElem?_setIfInBounds_ne h]

theorem getD_dflt {l : Array Bool} {i : Nat} (h : i < l.size) (d d' : Bool) : l.getD i d = l.getD i d' := by
  simp [Array.getD_eq_getD_getElem?, h]

theorem filt_lt {α : Type} (p q : α → Bool) (h : ∀ x, p x = true → q x = true) : ∀ L : List α, (L.filter p).length ≤ (L.filter q).length ∧ ∀ r ∈ L, p r = false → q r = true → (L.filter p).length < (L.filter q).length
  | [] => ⟨Nat.le_refl _, fun r hr => by cases hr⟩
  | x :: L => by
    obtain ⟨h1, h2⟩ := filt_lt p q h L
    cases hp : p x with
    | true =>
      have hq := h x hp
      simp only [List.filter_cons, hp, hq, if_true, List.length_cons]
      refine ⟨by omega, fun r hr e1 e2 => ?_⟩
      rcases List.mem_cons.1 hr with rfl | hr
      · rw [hp] at e1; cases e1
      · have := h2 r hr e1 e2; omega
    | false =>
      cases hq : q x with
      | true =>
        simp only [List.filter_cons, hp, hq, if_true, List.length_cons, Bool.false_eq_true, if_false]
        exact ⟨by omega, fun r _ _ _ => by omega⟩
      | false =>
        simp only [List.filter_cons, hp, hq, Bool.false_eq_true, if_false]
        refine ⟨h1, fun r hr e1 e2 => ?_⟩
        rcases List.mem_cons.1 hr with rfl | hr
        · rw [hq] at e2; cases e2
        · exact h2 r hr e1 e2

/-- **One walk in the order of the text serves every order.** -/
theorem wpAnyH_rely {W : World} {rem : List Rly} {a0 : Act} {l0 : Array Bool} (hB : rlyB md ops l0 rem = true) (ho : ∀ r ∈ rem, ops[r.i]? = some r.o) (hst : ∀ r ∈ rem, ∀ v w w', r.φ v w → Keeps [] w w' → r.φ v w')
    (hdo : ∀ r ∈ rem, rlyDoes P ops W rem a0 r) (hend : ∀ w, Keeps [] W w → rlyEnd Q w rem a0) (hS : ∀ w, Keeps [] W w → S w) :
    ∀ (fuel : Nat) (l : Array Bool) (a : Act) (w : World), l.size = l0.size → (∀ j, l0.getD j true = true → l.getD j true = true) → (rem.filter fun r => !l.getD r.i true).length ≤ fuel → RlyInv W rem a0 l a w → wpAnyH P md ops Q S fuel l a w := by
  simp only [rlyB, Bool.and_eq_true, List.all_eq_true, List.mem_range, Bool.or_eq_true, List.any_eq_true, beq_iff_eq, bne_iff_ne, ne_eq, Option.isNone_iff_eq_none, Array.all_eq_true_iff_forall_mem, decide_eq_true_eq, Bool.not_eq_true'] at hB
  obtain ⟨⟨⟨hb1, hb2⟩, hb3⟩, hb4⟩ := hB
  have huniq : ∀ p ∈ rem, ∀ q ∈ rem, p ≠ q → p.i ≠ q.i ∧ (p.o.dst = none ∨ p.o.dst ≠ q.o.dst) := by
    intro p hp q hq hne
    obtain ⟨j, hj, rfl⟩ := List.mem_iff_getElem.1 hp
    obtain ⟨k, hk, rfl⟩ := List.mem_iff_getElem.1 hq
    have hjk : ¬ j = k := fun e => hne (by subst e; rfl)
    rcases hb2 j hj k hk with h | h
    · exact absurd h hjk
    · rw [List.getElem?_eq_getElem hj, List.getElem?_eq_getElem hk] at h
      simpa using h
  have hall : ∀ l : Array Bool, l.size = l0.size → (∀ j, l0.getD j true = true → l.getD j true = true) → Region.ready md ops l = [] → ∀ r ∈ rem, l.getD r.i true = true := by
    intro l hsz hmono hr
    have key : ∀ n, ∀ r ∈ rem, r.i = n → l.getD r.i true = true := by
      intro n
      induction n using Nat.strongRecOn with
      | _ n ih =>
        rintro r hrm rfl
        cases hc : l.getD r.i true with
        | true => rfl
        | false =>
          exfalso
          have : r.i ∈ Region.ready md ops l := by
            rw [mem_ready]
            refine ⟨hc, r.o, ho r hrm, fun e he hbi => ?_⟩
            have hlt : e.on < r.i := by
              rcases (hb4 r hrm).2 e he with h | h
              · rw [hbi] at h; cases h
              · exact h
            have hin : e.on < ops.size := by have := (hb4 r hrm).1.1.1; omega
            have hll : e.on < l.size := by have := (hb4 r hrm).1.1.2; omega
            rw [getD_dflt hll false true]
            rcases hb3 e.on hin with h | ⟨q, hq, hqi⟩
            · exact hmono _ h
            · have := ih q.i (by omega) q hq rfl
              rw [hqi] at this
              exact this
          rw [hr] at this
          cases this
    exact fun r hrm => key r.i r hrm rfl
  have hfin : ∀ (l : Array Bool) (a : Act) (w : World), (∀ r ∈ rem, l.getD r.i true = true) → RlyInv W rem a0 l a w → Q .normal a w := by
    intro l a w hl hi
    refine rlyEnd_inst rem a0 hi.defers.symm hi.size.symm (fun r hr => ?_) (fun t ht => (hi.same t fun r hr _ => ht r hr).symm) (hend w hi.keep)
    have := hi.has r hr (hl r hr)
    exact ⟨fun t e hlt => this.1 t e (by have := hi.size; omega), this.2⟩
  intro fuel
  induction fuel with
  | zero =>
    intro l a w hsz hmono hf hi
    have hl : ∀ r ∈ rem, l.getD r.i true = true := fun r hr => by
      cases hc : l.getD r.i true with
      | true => rfl
      | false =>
        have : r ∈ rem.filter fun r => !l.getD r.i true := List.mem_filter.2 ⟨hr, by rw [hc]; rfl⟩
        have h0 := List.eq_nil_of_length_eq_zero (Nat.le_zero.1 hf)
        rw [h0] at this
        cases this
    refine ⟨?_, hfin l a w hl hi⟩
    rw [List.eq_nil_iff_forall_not_mem]
    intro j hj
    obtain ⟨hjf, o, hjo, _⟩ := mem_ready.1 hj
    have hjs : j < ops.size := (Array.getElem?_eq_some_iff.1 hjo).1
    rcases hb3 j hjs with h | ⟨q, hq, rfl⟩
    · rw [hmono j h] at hjf; cases hjf
    · rw [hl q hq] at hjf; cases hjf
  | succ fuel ih =>
    intro l a w hsz hmono hf hi
    refine ⟨fun h0 => hfin l a w (hall l hsz hmono h0) hi, fun j hj => ?_⟩
    obtain ⟨hjf, o, hjo, hedge⟩ := mem_ready.1 hj
    have hjs : j < ops.size := (Array.getElem?_eq_some_iff.1 hjo).1
    obtain ⟨r, hr, rfl⟩ : ∃ r ∈ rem, r.i = j := by
      rcases hb3 j hjs with h | ⟨q, hq, e⟩
      · rw [hmono j h] at hjf; cases hjf
      · exact ⟨q, hq, e⟩
    have hro := ho r hr
    rw [hro] at hjo
    injection hjo with hjo
    subst hjo
    obtain ⟨⟨⟨hg, hsel⟩, hds⟩, hlk⟩ := hb1 r hr
    have hsel' : ∀ cs b, r.o.op ≠ .select cs b := fun cs b e => by rw [e] at hsel; cases hsel
    have hrl : r.i < l.size := by have := (hb4 r hr).1.1.2; omega
    unfold wpOp
    rw [hro]
    simp only
    rw [if_pos (by simp [Region.wanted, hg])]
    refine .inl ?_
    have hdep : ∀ k ∈ r.ds, ∀ d, rem[k]? = some d → d ∈ rem ∧ l.getD d.i true = true := fun k hk d hd => by
      have hdm : d ∈ rem := List.mem_of_getElem? hd
      refine ⟨hdm, ?_⟩
      have h1 := hds k hk
      rw [hd] at h1
      simp only [Array.any_eq_true, Bool.and_eq_true, beq_iff_eq] at h1
      obtain ⟨x, hx, hb, he⟩ := h1
      have := hedge _ (Array.getElem_mem hx) hb
      rw [he, getD_dflt (show d.i < l.size by have := (hb4 d hdm).1.1.2; omega) false true] at this
      exact this
    obtain ⟨y, hy, hys, hy1, hy2⟩ := rlyAt_inst (a := a) r.ds a0 _ hi.size.symm (fun k hk d hd => by
      obtain ⟨hdm, hdl⟩ := hdep k hk d hd
      have := hi.has d hdm hdl
      exact ⟨fun t e hlt => this.1 t e (by have := hi.size; omega), this.2⟩) (hdo r hr w hi.keep)
    have hwp := hy (fun a' w' => ∃ v, a' = y.put r.o.dst v ∧ r.φ v w' ∧ Keeps [] w w') (show Shut _ from fun v w' h1 h2 => ⟨v, rfl, h1, h2⟩)
    rw [if_pos (by simp [Region.wanted, hg])] at hwp
    have hev : execOp a.eval r.o = execOp y.eval r.o := looks_eval (ops := ops) (fun t ht => by
      by_cases hc : ∃ k ∈ r.ds, ∃ d, rem[k]? = some d ∧ d.o.dst = some t
      · exact hy1 t hc
      · rw [hy2 t hc]
        rcases hlk t ht with ⟨k, hk, h⟩ | h
        · exfalso
          cases hd : rem[k]? with
          | none => rw [hd] at h; cases h
          | some d => rw [hd] at h; exact hc ⟨k, hk, d, hd, by simpa using h⟩
        · exact (hi.same t fun q hq _ => h q hq).symm) hsel'
    refine wp_frame hev hwp (fun v w' ⟨v', e, hv', hk'⟩ => ?_) (fun d w' ⟨v', e, _, _⟩ => ?_)
    · have hkW := hi.keep.trans hk'
      refine ⟨hS w' hkW, ih _ _ w' (by simpa using hsz) (fun j hj => ?_) ?_ ?_⟩
      · by_cases e : r.i = j
        · subst e; exact getD_set_self hrl true
        · rw [getD_set_other e]; exact hmono j hj
      · have hlt : (rem.filter fun q => !(l.setIfInBounds r.i true).getD q.i true).length < (rem.filter fun q => !l.getD q.i true).length := by
          refine (filt_lt (fun q : Rly => !(l.setIfInBounds r.i true).getD q.i true) (fun q => !l.getD q.i true) (fun q hq => ?_) rem).2 r hr (by simp only [getD_set_self hrl true]; rfl) (by simp only [hjf]; rfl)
          by_cases e : r.i = q.i
          · rw [← e, getD_set_self hrl true] at hq; cases hq
          · rwa [getD_set_other e] at hq
        omega
      · refine ⟨hkW, by rw [put_defers]; exact hi.defers, by rw [put_size]; exact hi.size, fun t ht => ?_, fun q hq hql => ?_⟩
        · rw [put_getD, if_neg (fun ⟨e, _⟩ => ht r hr (getD_set_self hrl true) e)]
          refine hi.same t fun q hq hql => ht q hq ?_
          by_cases e : r.i = q.i
          · rw [← e]; exact getD_set_self hrl true
          · rw [getD_set_other e]; exact hql
        · by_cases e : q = r
          · subst e
            refine ⟨fun t et hlt => ?_, v', hv'⟩
            rw [put_getD, if_pos ⟨et, by have := hi.size; omega⟩]
            have h2 := congrArg (fun b : Act => b.tmps.getD t undef) e
            simp only [put_getD] at h2
            rw [if_pos ⟨et, by have := hi.size; omega⟩, if_pos ⟨et, by have := hi.size; omega⟩] at h2
            rw [h2]
            exact hv'
          · have hu := huniq r hr q hq (fun h => e h.symm)
            rw [getD_set_other hu.1] at hql
            have hh := hi.has q hq hql
            refine ⟨fun t et hlt => ?_, ?_⟩
            · rw [put_getD, if_neg]
              · exact hst q hq _ _ _ (hh.1 t et hlt) hk'
              · rintro ⟨e2, _⟩
                rcases hu.2 with h | h
                · rw [h] at e2; cases e2
                · exact h (by rw [e2, et])
            · obtain ⟨u, hu2⟩ := hh.2
              exact ⟨u, hst q hq _ _ _ hu2 hk'⟩
    · have := congrArg Act.defers e
      rw [put_defers, put_defers] at this
      simp at this

/-- From where the region stands. -/
theorem wpAnyH_relies {rem : List Rly} {l : Array Bool} {a : Act} {w : World} {fuel : Nat} (hB : rlyB md ops l rem = true) (hfu : (rem.length ≤ fuel) = true) (ho : ∀ r ∈ rem, ops[r.i]? = some r.o) (hst : ∀ r ∈ rem, ∀ v w w', r.φ v w → Keeps [] w w' → r.φ v w')
    (hdo : ∀ r ∈ rem, rlyDoes P ops w rem a r) (hend : ∀ w', Keeps [] w w' → rlyEnd Q w' rem a) (hS : ∀ w', Keeps [] w w' → S w') : wpAnyH P md ops Q S fuel l a w := by
  have hB' := hB
  simp only [rlyB, Bool.and_eq_true, List.all_eq_true, Bool.not_eq_true'] at hB'
  refine wpAnyH_rely hB ho hst hdo hend hS fuel l a w rfl (fun _ h => h) (Nat.le_trans (List.length_filter_le _ _) (by simpa using hfu)) ⟨Keeps.refl _ _, rfl, rfl, fun _ _ => rfl, fun r hr h => ?_⟩
  have := (hB'.2 r hr).1.2
  rw [this] at h
  cases h

/-- Told by numbers: the operation itself is looked up. -/
def rlyOf (ops : Array Oper) (s : Nat × List Nat × (Value → World → Prop)) : Rly := ⟨s.1, (ops[s.1]?).getD { dst := none, op := .move (.const undef), type := 0, pos := "", after := #[], guard := none }, s.2.1, s.2.2⟩

def rlySt : List (Nat × List Nat × (Value → World → Prop)) → Prop
  | [] => True
  | s :: ss => (∀ v w w', Keeps [] w w' → s.2.2 v w → s.2.2 v w') ∧ rlySt ss

theorem rlySt_mem : ∀ {ss : List (Nat × List Nat × (Value → World → Prop))}, rlySt ss → ∀ s ∈ ss, ∀ v w w', s.2.2 v w → Keeps [] w w' → s.2.2 v w'
  | [], _, s, h => by cases h
  | x :: ss, h, s, hs => by
    rcases List.mem_cons.1 hs with rfl | hs
    · exact fun v w w' hv k => h.1 v w w' k hv
    · exact rlySt_mem h.2 s hs

def rlyAll (p : Rly → Prop) : List Rly → Prop
  | [] => True
  | r :: rs => p r ∧ rlyAll p rs

theorem rlyAll_mem {p : Rly → Prop} : ∀ {rs : List Rly}, rlyAll p rs → ∀ r ∈ rs, p r
  | [], _, r, h => by cases h
  | x :: rs, h, r, hr => by
    rcases List.mem_cons.1 hr with rfl | hr
    · exact h.1
    · exact rlyAll_mem h.2 r hr

theorem wpAnyH_relyOf (ss : List (Nat × List Nat × (Value → World → Prop))) {l : Array Bool} {a : Act} {w : World} {fuel : Nat} (hB : rlyB md ops l (ss.map (rlyOf ops)) = true) (hfu : decide (ss.length ≤ fuel) = true)
    (hst : rlySt ss)
    (hdo : rlyAll (rlyDoes P ops w (ss.map (rlyOf ops)) a) (ss.map (rlyOf ops))) (hend : ∀ w', Keeps [] w w' → rlyEnd Q w' (ss.map (rlyOf ops)) a) (hS : ∀ w', Keeps [] w w' → S w') : wpAnyH P md ops Q S fuel l a w := by
  have hB' := hB
  simp only [rlyB, Bool.and_eq_true, List.all_eq_true, decide_eq_true_eq] at hB'
  refine wpAnyH_relies hB (by simpa using hfu) (fun r hr => ?_) (fun r hr => by obtain ⟨s, hs, rfl⟩ := List.mem_map.1 hr; exact rlySt_mem hst s hs) (rlyAll_mem hdo) hend hS
  have hlt := (hB'.2 r hr).1.1.1
  obtain ⟨s, _, rfl⟩ := List.mem_map.1 hr
  have hlt' : s.1 < ops.size := hlt
  show ops[s.1]? = some ((ops[s.1]?).getD _)
  rw [Array.getElem?_eq_getElem hlt']
  rfl
end
end Go.Proofs.Ythlmlneiehijkaa
