/-
  slices.SortFunc on a row of metas, by their names; slices.Clone of one (package listing).
  At most 12 of them.
-/
import Derived.Test.YtjffdcflkkgpfaaGreatListTake
import Derived.Test.YtjffdcflkkgpfaaGreatShelfF
namespace Go.Proofs.YtjffdcflkkgpfaaGreat
open Go Go.RowKit Go.Sort Go.Conc
open Go.Op (bytesLess)

abbrev MetaC := MetaS × (Option Addr × Nat × Nat) × (Option Addr × Nat × Nat)
instance : Inhabited MetaS := ⟨⟨⟨#[]⟩, 0, 0, 0, 0, 0, [], []⟩⟩
def encMC (c : MetaC) : List Value := [.string c.1.id, .int .i64 c.1.mn, .int .i64 c.1.mx, .int .i64 c.1.level, .int .i64 c.1.series, .int .i64 c.1.samples, .slice c.2.1.1 c.2.1.2.1 c.2.1.2.2, .slice c.2.2.1 c.2.2.2.1 c.2.2.2.2]

theorem encMC_len (c : MetaC) : (encMC c).length = 8 := rfl

theorem encMC_one (c : MetaC) : ∀ v ∈ encMC c, v.oneCell' = true := by
  intro v hv
  simp only [encMC, List.mem_cons, List.not_mem_nil, or_false] at hv
  rcases hv with rfl | rfl | rfl | rfl | rfl | rfl | rfl | rfl <;> rfl

theorem metas_reps {B : Nat} {w : World} : ∀ (VS : List (List Value)) (L : List MetaS), VS.length = L.length → (∀ i (h : i < VS.length) (h' : i < L.length), MetaV B w VS[i] L[i]) → ∃ D : List MetaC, D.map (·.1) = L ∧ D.map encMC = VS ∧ ∀ c ∈ D, MetaV B w (encMC c) c.1
  | [], [], _, _ => ⟨[], rfl, rfl, by simp⟩
  | [], _ :: _, h, _ => by simp at h
  | _ :: _, [], h, _ => by simp at h
  | vs :: VS, m :: L, hl, h => by
    obtain ⟨D, h1, h2, h3⟩ := metas_reps VS L (by simpa using hl) (fun i hi hi' => by
      have := h (i + 1) (by simp only [List.length_cons]; omega) (by simp only [List.length_cons]; omega)
      simpa using this)
    have h0 := h 0 (by simp) (by simp)
    simp only [List.getElem_cons_zero] at h0
    have h0' := h0
    obtain ⟨vf, vo, e, hf, ho⟩ := h0
    obtain ⟨af, cf, rfl, -, -, -, -⟩ := hf
    obtain ⟨ao, co, rfl, -, -, -, -⟩ := ho
    refine ⟨(m, (af, m.files.length, cf), (ao, m.sources.length, co)) :: D, by simp [h1], by simp [h2, e, encMC], fun c hc => ?_⟩
    rcases List.mem_cons.1 hc with rfl | hc
    · rw [e] at h0'
      exact h0'
    · exact h3 c hc

theorem SliceFrom.of_map {α β : Type} {B size : Nat} {enc : β → List Value} {w : World} {v : Value} {f : α → β} {D : List α} (h : SliceFrom B size enc w v (D.map f)) : SliceFrom B size (fun x => enc (f x)) w v D := by
  obtain ⟨ao, cap, e, h1, h2, h3, h4⟩ := h
  rw [List.length_map] at e h1 h2
  refine ⟨ao, cap, e, h1, h2, h3, fun i hi => ?_⟩
  obtain ⟨b, off, e2, hb, hlt, hc⟩ := h4 i (by simpa using hi)
  exact ⟨b, off, e2, hb, hlt, by simpa using hc⟩

theorem SliceFrom.to_map {α β : Type} {B size : Nat} {enc : β → List Value} {w : World} {v : Value} {f : α → β} {D : List α} (h : SliceFrom B size (fun x => enc (f x)) w v D) : SliceFrom B size enc w v (D.map f) := by
  obtain ⟨ao, cap, e, h1, h2, h3, h4⟩ := h
  refine ⟨ao, cap, by rw [List.length_map]; exact e, by rwa [List.length_map], by rwa [List.length_map], h3, fun i hi => ?_⟩
  obtain ⟨b, off, e2, hb, hlt, hc⟩ := h4 i (by simpa using hi)
  exact ⟨b, off, e2, hb, hlt, by simpa using hc⟩

/-- A slice of metas, its cells by name. -/
theorem MetasV.reps {B : Nat} {w : World} {v : Value} {L : List MetaS} (h : MetasV B w v L) : ∃ D : List MetaC, D.map (·.1) = L ∧ SliceFrom B 8 encMC w v D ∧ ∀ c ∈ D, MetaV B w (encMC c) c.1 := by
  obtain ⟨VS, h1, h2, h3⟩ := h
  obtain ⟨D, d1, d2, d3⟩ := metas_reps VS L h2 h3
  subst d2
  exact ⟨D, d1, h1.of_map (enc := id), d3⟩

theorem metasV_of {B : Nat} {w : World} {v : Value} {D : List MetaC} (h : SliceFrom B 8 encMC w v D) (hm : ∀ c ∈ D, MetaV B w (encMC c) c.1) : MetasV B w v (D.map (·.1)) := by
  refine ⟨D.map encMC, SliceFrom.to_map (enc := id) h, by simp, fun i hi hi' => ?_⟩
  simp only [List.getElem_map]
  exact hm _ (List.getElem_mem _)

/-! The order -/
theorem less_irr : ∀ a : List UInt8, bytesLess a a = false
  | [] => rfl
  | x :: xs => by
    unfold bytesLess
    rw [less_irr xs]
    simp [UInt8.lt_irrefl]

theorem less_tri : ∀ {a b : List UInt8}, bytesLess a b = false → bytesLess b a = false → a = b := by
  intro a b h1 h2
  have h3 : ¬ Lib.compareBytes a b < 0 := fun h => by rw [cmp_lt, h1] at h; cases h
  have h4 : ¬ Lib.compareBytes b a < 0 := fun h => by rw [cmp_lt, h2] at h; cases h
  have : ∀ a b : List UInt8, ¬ Lib.compareBytes a b < 0 → ¬ Lib.compareBytes b a < 0 → a = b := by
    intro a
    induction a with
    | nil => intro b; cases b <;> simp [Lib.compareBytes]
    | cons x xs ih =>
      intro b
      cases b with
      | nil => simp [Lib.compareBytes]
      | cons y ys =>
        intro k1 k2
        unfold Lib.compareBytes at k1 k2
        by_cases c1 : x < y
        · simp [c1] at k1
        · by_cases c2 : y < x
          · simp [c2] at k2
          · obtain rfl : x = y := UInt8.le_antisymm (UInt8.not_lt.1 c2) (UInt8.not_lt.1 c1)
            simp only [UInt8.lt_irrefl, if_false] at k1 k2
            rw [ih ys k1 k2]
  exact this a b h3 h4

def cfM (x y : MetaC) : Int := Lib.compareBytes x.1.id.data.toList y.1.id.data.toList

theorem ltM (x y : MetaC) : ltOf cfM x y = bytesLess x.1.id.data.toList y.1.id.data.toList := by
  unfold ltOf cfM
  cases h : bytesLess x.1.id.data.toList y.1.id.data.toList with
  | true => rw [← cmp_lt] at h; exact decide_eq_true h
  | false => exact decide_eq_false fun h2 => by rw [cmp_lt, h] at h2; cases h2

theorem swoM : SWO (ltOf cfM) where
  irrefl := fun x => by rw [ltM]; exact less_irr _
  trans := fun x y z h1 h2 => by rw [ltM] at *; exact less_transM h1 h2
  ntrans := fun x y z h1 h2 => by
    rw [ltM] at *
    cases h3 : bytesLess x.1.id.data.toList z.1.id.data.toList with
    | false => rfl
    | true =>
      cases h4 : bytesLess z.1.id.data.toList y.1.id.data.toList with
      | true => have := less_transM h3 h4; rw [h1] at this; cases this
      | false =>
        have := less_tri h2 h4
        rw [this, h3] at h1
        cases h1

/-! The row's cells -/
theorem flatK_list {α : Type} [Inhabited α] (enc : α → List Value) (k : Nat) (hk : ∀ x, (enc x).length = k) (hk0 : 0 < k) (d : Array α) : (flatK enc k d).toList = d.toList.flatMap enc := by
  have hfl : ∀ l : List α, (l.flatMap enc).length = l.length * k := fun l => by
    induction l with
    | nil => simp
    | cons a l ih => simp only [List.flatMap_cons, List.length_append, ih, List.length_cons, hk, Nat.add_mul]; omega
  apply List.ext_getElem?
  intro t
  by_cases ht : t < d.size * k
  · have h1 := get_flatK enc k d t ht
    have hq : t / k < d.toList.length := by rw [Array.length_toList]; exact Nat.div_lt_of_lt_mul (by rw [Nat.mul_comm]; exact ht)
    have hr : t % k < k := Nat.mod_lt _ hk0
    have h2 := flatMap_at enc k hk d.toList (t / k) hq (t % k) hr
    rw [Nat.mul_comm, Nat.div_add_mod] at h2
    rw [h2, Array.getElem?_toList]
    have hqs : t / k < d.size := by simpa using hq
    rw [getElem!_pos (flatK enc k d) t (by simpa using ht), getElem!_pos d (t / k) hqs, getElem!_pos _ (t % k) (by rw [hk]; exact hr)] at h1
    rw [Array.getElem?_eq_getElem (by simpa using ht), h1, List.getElem?_eq_getElem (by rw [hk]; exact hr)]
    simp
  · rw [List.getElem?_eq_none (by simp; omega), List.getElem?_eq_none (by rw [hfl, Array.length_toList]; omega)]

theorem holds_of_blockV {w : World} {g : Nat} {cur : Array Value} {e : TypeId} {F : Array Value} (hb : w.heap[g]? = some (.cells cur e (0, 0))) (ht : cur.toList.take F.size = F.toList) : Holds id w g 0 F := by
  intro j hj
  refine ⟨?_, by simp [World.frozen?, hb]⟩
  have h1 : (cur.toList.take F.size)[j]? = F.toList[j]? := by rw [ht]
  rw [List.getElem?_take_of_lt hj] at h1
  simp only [World.cell?, hb, Nat.zero_add]
  simp only [Option.isSome_none, Bool.false_eq_true, if_false]
  rw [← Array.getElem?_toList, h1]
  simp [hj]

theorem heap_sortedV {w : World} {g n : Nat} {os : Array Obj} {cur : Array Value} {e : TypeId} {fr : Nat × Nat} (d : Array Value) (hb : w.heap[g]? = some (.cells cur e fr)) :
    (grow (putRow id (Sort.ahead w n) g 0 d) os).heap[g]? = some (.cells (putCells id 0 d cur) e fr) := by
  have hg : g < w.heap.size := (Array.getElem?_eq_some_iff.1 hb).1
  rw [heap_grow_old _ _ (by simpa using hg)]
  simp [putRow, mapBlock, Sort.ahead, Array.getElem?_modify, hb, onCells]

theorem grownBy_sortedV {w : World} {g n : Nat} {os : Array Obj} (d : Array Value) : w.grownBy (grow (putRow id (Sort.ahead w n) g 0 d) os) (some g) := by
  refine ⟨rfl, rfl, rfl, by simp, fun k hk hne => ?_⟩
  rw [heap_grow_old _ _ (by simpa using hk)]
  have : g ≠ k := fun e => hne (by rw [e])
  simp [putRow, mapBlock, Sort.ahead, Array.getElem?_modify, this]

theorem take_putCellsV (cur F : Array Value) (h : F.size ≤ cur.size) : (putCells id 0 F cur).toList.take F.size = F.toList := by
  apply List.ext_getElem?
  intro j
  by_cases hj : j < F.size
  · rw [List.getElem?_take_of_lt hj, Array.getElem?_toList]
    simp [putCells, hj, show j < cur.size by omega]
  · rw [List.getElem?_take_eq_none (by omega), List.getElem?_eq_none (by simp; omega)]

/-! The walk -/
set_option linter.unusedSimpArgs false in
set_option maxRecDepth 100000 in
set_option maxRecDepth 100000 in
set_option maxHeartbeats 1000000 in
theorem newCmp_spec (x y : MetaC) (W : World) : Calls Tryz.prog 85 #[.agg (encMC x).toArray, .agg (encMC y).toArray] W fun e w' => e = .returned (.int .i64 (cfM x y)) ∧ ∃ q os', w' = grow (W.drewN q) os' := by
  have Hc := Lib.hid (fun w => Tryz.strings_Compare x.1.id y.1.id w)
  unfold encMC cfM
  go_enter Tryz.func85, Tryz.ntmps85
  go_wp2_with fail
  refine (Hc.out _).mono ?_
  rintro e w1 ⟨rfl, rfl⟩
  go_wp2_with fail
  go_ret
  exact ⟨rfl, 0, _, by rw [alloc_eq_grow, alloc_eq_grow, grow_grow]; rfl⟩

def SortMPost (w : World) (base : Nat) (v : Value) (D : List MetaC) (e : Ending) (w' : World) : Prop :=
  ∃ D' : List MetaC, e = .returned (.tuple #[]) ∧ D'.Perm D ∧ D'.Pairwise (fun a b => bytesLess b.1.id.data.toList a.1.id.data.toList = false) ∧ w'.ownsRow base 63 8 v D.length (D'.flatMap encMC) ∧ w.grownBy w' v.ownBlock

theorem sortM_spec (w : World) (base g cap : Nat) (D : List MetaC) (h : w.ownsRow base 63 8 (.slice (some ⟨g, 0, none⟩) D.length cap) D.length (D.flatMap encMC)) (hl : D.length ≤ 1000) :
    Calls Tryz.prog 84 #[.slice (some ⟨g, 0, none⟩) D.length cap, .func (.func 85) #[] #[]] w (SortMPost w base (.slice (some ⟨g, 0, none⟩) D.length cap) D) := by
  obtain ⟨_, ⟨he, _⟩ | ⟨g', cap', cur, he, hbase, hb, h1, h2, h3, h4⟩⟩ := h
  · cases he
  injection he with he _ hc
  injection he with he
  injection he with he _ _
  subst he hc
  have eg : ∀ args w, (callFunc 85 args).run Tryz.prog w = .ok (.enter 85 args) w := enters_of Tryz.func85 (by kernel_rfl) rfl
  have hH : HoldsK encMC 8 w g 0 D.toArray := by
    refine holds_of_blockV hb ?_
    rw [flatK_list encMC 8 encMC_len (by decide)]
    simpa using h4
  have hcon := AnyQ.slices_SortFunc Tryz.sortFM 8 Tryz.isAgg63 Tryz.sizeOf63 encMC encMC_len encMC_one cfM swoM 85 #[] g 0 cap D.toArray w eg (fun _ _ _ _ x y => newCmp_spec x y _) hH (lt_of_at hb) (by simp; omega)
  rw [show D.toArray.size = D.length by simp] at hcon
  change Calls Tryz.prog 84 _ _ _ at hcon
  refine hcon.mono ?_
  rintro e w' ⟨rfl, d', n, os, hp, hs, rfl⟩
  have hd : d'.size = D.length := by simpa using hp.1
  refine ⟨d'.toList, rfl, ?_, ?_, ?_, grownBy_sortedV _⟩
  · have := hp.2.2
    have e : List.take D.length d'.toList = d'.toList := List.take_of_length_le (by simp [hd])
    simpa [hd, e] using this
  · rw [List.pairwise_iff_getElem]
    intro i j hi hj hij
    have := hs i j (Nat.zero_le _) hij (by simp at hj ⊢; omega)
    rw [ltM, getElem!_pos d' i (by simpa using hi), getElem!_pos d' j (by simpa using hj)] at this
    simpa using this
  · have hfs : (flatK encMC 8 d').size = D.length * 8 := by simp [hd]
    refine ⟨?_, .inr ⟨g, cap, _, rfl, hbase, heap_sortedV _ hb, h1, h2, by simp [putCells, h3], ?_⟩⟩
    · rw [← flatK_list encMC 8 encMC_len (by decide), Array.length_toList, hfs]
    · rw [← hfs, take_putCellsV _ _ (by rw [hfs, h3]; exact Nat.mul_le_mul_right 8 h1), flatK_list encMC 8 encMC_len (by decide)]

/-! The copy -/
theorem wpList_append_runM {P : Program} {ops : Array Oper} {rest : List Oper} {o : Oper} {a : Act} {w : World} {Q : Exit → Act → World → Prop} (hgd : o.guard = none) (s x : Operand) (t : TypeId)
    (ho : o.op = .call { callee := .builtin .append, args := #[s, x], argTypes := #[t, t] }) (v u : Value) (hs : a.eval s = v) (hx : a.eval x = u) (v' : Value) (w' : World)
    (hr : (Builtin.append_ #[t, t] o.type #[v, u]).run P w = .ok v' w') (h : wpList P ops Q rest (a.put o.dst v') w') : wpList P ops Q (o :: rest) a w := by
  refine wpList_plain hgd fun K hK => ?_
  unfold Oper.wp execOp
  simp only [ho, resolve, invoke, builtin, Sem.run_bind, Sem.run_pure, Result.andThen_ok, List.map_toArray, List.map_cons, List.map_nil, hs, hx, hr]
  exact hK _ _ h

set_option maxRecDepth 100000 in
theorem run_cloneM {B : Nat} {w : World} {a : Addr} {n c : Nat} {D : List MetaC} (h : SliceFrom B 8 encMC w (.slice (some a) n c) D) (hl : D.length ≤ 1000) :
    ∃ g cap w', (Builtin.append_ #[29, 29] 29 #[.slice (some ⟨w.heap.size, 0, none⟩) 0 0, .slice (some a) n c]).run Tryz.prog (w.alloc (.cells #[] 63)) = .ok (.slice (some ⟨g, 0, none⟩) D.length cap) w' ∧
      w'.ownsRow w.heap.size 63 8 (.slice (some ⟨g, 0, none⟩) D.length cap) D.length (D.flatMap encMC) ∧ Keeps [] w w' := by
  obtain ⟨ii, hii, hz0, hz1, hz2⟩ := info_parts infoMeta
  have hown : (w.alloc (.cells #[] 63)).ownsRow w.heap.size 63 8 (.slice (some ⟨w.heap.size, 0, none⟩) 0 0) 0 [] :=
    ⟨rfl, .inr ⟨w.heap.size, 0, #[], rfl, Nat.le_refl _, heap_new w _, Nat.le_refl _, by simp [maxLen], rfl, rfl⟩⟩
  have ka : Keeps [] w (w.alloc (.cells #[] 63)) := (Keeps.refl [] w).alloc _
  obtain ⟨ao, cap, hv, h1, h2, h3, hx⟩ := h
  injection hv with e1 e2 e3
  subst e1 e2 e3
  have hlen : ∀ l : List MetaC, (l.flatMap encMC).length = l.length * 8 := fun l => by
    induction l with
    | nil => rfl
    | cons a l ih => simp only [List.flatMap_cons, List.length_append, ih, List.length_cons, encMC_len]; omega
  obtain ⟨v', w', hr, ho, hg, hnil⟩ := run_append_own (P := Tryz.prog) (w.alloc (.cells #[] 63)) w.heap.size 29 29 63 ii _ 8 104 Tryz.underlying29 hii hz0 hz1 hz2 rfl (by decide) _ 0 [] hown a D.length c (D.flatMap encMC) (hlen D)
    (fun j u hu => by
      have hjl : j < D.length * 8 := by
        have hq := (List.getElem?_eq_some_iff.1 hu).1
        rwa [hlen] at hq
      have hk : j / 8 < D.length := by omega
      obtain ⟨b', o', e', _, hlt', hcell⟩ := hx (j / 8) hk
      injection e' with e'
      subst e'
      have hr := hcell (j % 8) (by omega)
      rw [← flatMap_at encMC 8 encMC_len D (j / 8) hk (j % 8) (by omega), show j / 8 * 8 + j % 8 = j from by omega, hu] at hr
      have hadd : (⟨b', o', none⟩ : Addr).add j = ⟨b', o' + j, none⟩ := by unfold Addr.add; split <;> simp_all
      rw [hadd]
      exact (ka.cell hlt' (by simp)).trans hr)
    (fun u hu => by
      obtain ⟨c, _, hc⟩ := List.mem_flatMap.1 hu
      exact encMC_one c u hc)
    (by simp only [maxLen]; omega) (by omega) (by simp)
  have hne : v' ≠ .slice none 0 0 := fun e => by have := (hnil.1 e).1; cases this
  have ho' := ho
  rw [Nat.zero_add] at ho'
  obtain ⟨_, ⟨e, _⟩ | ⟨g, cp, cur, rfl, hx2⟩⟩ := ho'
  · exact absurd e hne
  · rw [Nat.zero_add, List.nil_append] at ho
    exact ⟨g, cp, w', hr, ho, keeps_grownM ka hg (fun q hq => (hown.lt q hq).1)⟩

theorem run_equalIn_slice_nilM {P : Program} (w : World) (d : Nat) (t e : TypeId) (a : Option Addr) (n c : Nat) (h : P.underlying t = some (.slice e)) :
    (Op.equalIn (d + 1) t (.slice a n c) (.slice none 0 0)).run P w = .ok a.isNone w := by
  cases a <;> simp [Op.equalIn, run_underlying h]

theorem run_eql_slice_nilM {P : Program} (w : World) (t e : TypeId) (a : Option Addr) (n c : Nat) (h : P.underlying t = some (.slice e)) :
    (binOp .eql t (.slice a n c) (.slice none 0 0)).run P w = .ok (.bool a.isNone) w := by
  simp only [binOp]
  simp [show Op.equal t (.slice a n c) (.slice none 0 0) = Op.equalIn (9999 + 1) t (.slice a n c) (.slice none 0 0) from rfl, run_equalIn_slice_nilM w 9999 t e a n c h]

def CloneMPost (w : World) (D : List MetaC) (e : Ending) (w' : World) : Prop :=
  ∃ g cap, e = .returned (.slice (some ⟨g, 0, none⟩) D.length cap) ∧ w'.ownsRow w.heap.size 63 8 (.slice (some ⟨g, 0, none⟩) D.length cap) D.length (D.flatMap encMC) ∧ Keeps [] w w'

set_option maxRecDepth 100000 in
set_option maxHeartbeats 1000000 in
theorem cloneM_spec {B : Nat} (w : World) (a : Addr) (n c : Nat) (D : List MetaC) (h : SliceFrom B 8 encMC w (.slice (some a) n c) D) (hl : D.length ≤ 1000) :
    Calls Tryz.prog 82 #[.slice (some a) n c] w (CloneMPost w D) := by
  obtain ⟨g, cap, w', hr, ho, hk⟩ := run_cloneM h hl
  have H := Lib.hid (And.intro ho hk)
  have qT : ∀ (w : World) (a : Option Addr) (n c : Nat), (binOp .eql 29 (.slice a n c) (.slice none 0 0)).run Tryz.prog w = .ok (.bool a.isNone) w := fun w a n c => run_eql_slice_nilM w _ _ a n c Tryz.underlying29
  clear h ho hk
  go_enter Tryz.func82, Tryz.ntmps82
  go_wp2_with (at_builtin; refine wpList_append_runM rfl (.tmp 5) (.tmp 6) 29 rfl _ _ rfl rfl _ _ hr ?_)
  go_ret
  exact ⟨g, cap, rfl, H.out.1, H.out.2⟩
end Go.Proofs.YtjffdcflkkgpfaaGreat
