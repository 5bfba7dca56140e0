/-
  The document's Texts, and the law's texts (are they these?), walked.
  The slices are of few texts.

  The document's Names, Values and Get of the series that are told (package barographref12), walked.
  The series are few, of few pairs.

  The index that Grow makes, by what the document says of the series that stay: All, Get, Names, Values.
  No condition beyond those that each theorem states.
-/
import Derived.Test.YtejfigbjaiealaaDoorPostGood
import Derived.Test.YtejfigbjaiealaaDoorGrowG
namespace Go.Proofs.YtejfigbjaiealaaDoor
open Go Go.RowKit
open Go.Op (bytesLess)

abbrev Strs (B : Nat) (w : World) (v : Value) (l : List ByteArray) : Prop := SliceFrom B 1 (fun x => [Value.string x]) w v l

abbrev OwnS (B : Nat) (w : World) (v : Value) (l : List ByteArray) : Prop := w.ownsRow B 9 1 v l.length (l.map Value.string)

theorem OwnS.strs {B : Nat} {w : World} {v : Value} {l : List ByteArray} (h : OwnS B w v l) : Strs B w v l := by
  refine sliceFrom_row (e := 9) (fun _ => rfl) ?_
  rw [flat_one]
  exact h

theorem infoStrT : (Tryd.prog.info? 9).map (fun i => (i.zero, i.size, i.bytes)) = some (some (.string ⟨#[]⟩), 1, 16) := by kernel_rfl

def TextsRel (w : World) (l : List ByteArray) (gk : Nat) (u13 : Value) (wr : World) : Prop := ∃ k, k ≤ l.length ∧ gk = l.length - k ∧ u13 = .int .i64 k ∧ Keeps [] w wr


def TxtRel (w : World) (l : List ByteArray) (s : ByteArray) (gk : Nat) (u5 u6 u12 : Value) (wr : World) : Prop :=
  ∃ k, k ≤ l.length ∧ gk = l.length - k ∧ u12 = .int .i64 k ∧ u6 = .bool (txtSo l s k).2 ∧ OwnS w.heap.size wr u5 (txtSo l s k).1 ∧ Keeps [] w wr

theorem txtStep_eq {s x : ByteArray} {st : List ByteArray × Bool} (h : x = s) : txtStep s st x = (st.1 ++ [x], true) := by unfold txtStep; rw [if_pos h]

theorem txtStep_put {s x : ByteArray} {S : List ByteArray} (h : ¬ x = s) (h2 : ltT s x) : txtStep s (S, false) x = (S ++ [s] ++ [x], true) := by unfold txtStep; rw [if_neg h, if_pos ⟨rfl, h2⟩]

theorem txtStep_on {s x : ByteArray} {S : List ByteArray} {d : Bool} (h : ¬ x = s) (h2 : ¬ (d = false ∧ ltT s x)) : txtStep s (S, d) x = (S ++ [x], d) := by unfold txtStep; rw [if_neg h, if_neg h2]

theorem bl_asymm {a b : ByteArray} (h : ltT a b) : bytesLess b.toList a.toList = false := by
  cases hb : bytesLess b.toList a.toList with
  | false => rfl
  | true => exact absurd (ltT_tr _ _ _ h hb) (ltT_irr a)

end Go.Proofs.YtejfigbjaiealaaDoor

namespace Go.Proofs.YtejfigbjaiealaaDoor
open Go Go.RowKit

structure ToldR (w : World) (v : Value) (TV : List SerV) : Prop where
  row : SliceFrom 0 2 encSV w v TV
  ser : ∀ q ∈ TV, SliceFrom 0 2 encPB w q.2 q.1.2

theorem ToldR.keep {w w' : World} {v : Value} {TV : List SerV} (h : ToldR w v TV) (k : Keeps [] w w') : ToldR w' v TV := ⟨go1 k h.row, fun q hq => go1 k (h.ser q hq)⟩

instance go1ToldR {w w' : World} (v : Value) (TV : List SerV) : Go1 w w' (ToldR w v TV) (ToldR w' v TV) := ⟨fun k h => h.keep k⟩

theorem ToldAt.read {B : Nat} {w : World} {vo : Value} {TV : List SerV} (h : ToldAt B w vo TV) : ToldR w vo TV :=
  ⟨sliceFrom_row (fun _ => rfl) (row_base (b' := 0) h.row (Nat.zero_le _)), fun q hq => sliceFrom_row (fun _ => rfl) (h.ser q hq)⟩

theorem ser_at {w : World} {a : Option Addr} {n c : Nat} {TV : List SerV} (h : SliceFrom 0 2 encSV w (.slice a n c) TV) (k : Nat) (hk : k < TV.length) : ∃ b off, a = some ⟨b, off, none⟩ ∧ b < w.heap.size ∧ w.cell? ⟨b, off + k * 2, none⟩ = some (.int .i64 TV[k].1.1) ∧ w.cell? ⟨b, off + k * 2 + 1, none⟩ = some TV[k].2 := by
  obtain ⟨b, off, e, _, hb, hc⟩ := sf_at h k hk
  exact ⟨b, off, e, hb, (by simpa [encSV] using hc 0 (by decide)), (by have := hc 1 (by decide); rw [← Nat.add_assoc] at this; simpa [encSV] using this)⟩

theorem putL_len1 (l : List Int) (n : Int) : (putL l n).length ≤ l.length + 1 := by
  unfold putL
  split
  · omega
  · rw [length_insL]; omega

theorem putAll_len (X : List Int) : (putAll X).length ≤ X.length := by
  have key : ∀ (X o : List Int), (X.foldl putL o).length ≤ o.length + X.length := by
    intro X
    induction X with
    | nil => intro o; simp
    | cons x X ih =>
      intro o
      have h1 := ih (putL o x)
      have h2 := putL_len1 o x
      rw [List.foldl_cons, List.length_cons]
      omega
  simpa [putAll] using key X []

theorem nmX_snoc (P : List PairB) (p : PairB) : nmX (P ++ [p]) = nmX P ++ [p.1] := by simp [nmX]

theorem valX_yes {nm : ByteArray} {P : List PairB} {p : PairB} (h : p.1 = nm) : valX nm (P ++ [p]) = valX nm P ++ [p.2] := by simp [valX, List.filter_append, h]

theorem valX_no {nm : ByteArray} {P : List PairB} {p : PairB} (h : ¬ p.1 = nm) : valX nm (P ++ [p]) = valX nm P := by simp [valX, List.filter_append, h]

theorem getX_yes {nm val : ByteArray} {s : SerT} {P : List PairB} {p : PairB} (h : p.1 = nm ∧ p.2 = val) : getX nm val s (P ++ [p]) = getX nm val s P ++ [s.1] := by simp [getX, List.filter_append, h]

theorem getX_no {nm val : ByteArray} {s : SerT} {P : List PairB} {p : PairB} (h : ¬ (p.1 = nm ∧ p.2 = val)) : getX nm val s (P ++ [p]) = getX nm val s P := by
  have : [p].filter (fun p => decide (p.1 = nm ∧ p.2 = val)) = [] := by simp [h]
  unfold getX
  rw [List.filter_append, List.map_append]
  simp [h]

theorem nmX_app (P Q : List PairB) : nmX (P ++ Q) = nmX P ++ nmX Q := by simp [nmX]

theorem valX_app (nm : ByteArray) (P Q : List PairB) : valX nm (P ++ Q) = valX nm P ++ valX nm Q := by simp [valX]

theorem allP_snoc (T : List SerT) (s : SerT) : allP (T ++ [s]) = allP T ++ s.2 := by simp [allP]

theorem getXs_snoc (nm val : ByteArray) (T : List SerT) (s : SerT) : getXs nm val (T ++ [s]) = getXs nm val T ++ getX nm val s s.2 := by simp [getXs]

theorem mapTake {TV : List SerV} {k : Nat} (hk : k < TV.length) : (TV.take (k + 1)).map (·.1) = (TV.take k).map (·.1) ++ [TV[k].1] := by rw [List.take_succ_eq_append_getElem hk, List.map_append]; rfl

theorem nmX_len (P : List PairB) : (nmX P).length = P.length := by simp [nmX]

theorem valX_len (nm : ByteArray) (P : List PairB) : (valX nm P).length ≤ P.length := by unfold valX; rw [List.length_map]; exact List.length_filter_le _ _

theorem getX_len (nm val : ByteArray) (s : SerT) (P : List PairB) : (getX nm val s P).length ≤ P.length := by unfold getX; rw [List.length_map]; exact List.length_filter_le _ _

theorem getXs_len {nm val : ByteArray} {T : List SerT} (h : ∀ s ∈ T, s.2.length ≤ 10) : (getXs nm val T).length ≤ T.length * 10 := by
  induction T with
  | nil => simp [getXs]
  | cons s T ih =>
    have h1 := h s List.mem_cons_self
    have h2 := ih fun x hx => h x (List.mem_cons_of_mem _ hx)
    have h3 := getX_len nm val s s.2
    have e : getXs nm val (s :: T) = getX nm val s s.2 ++ getXs nm val T := by simp [getXs]
    rw [e, List.length_append, List.length_cons]
    omega

theorem takeT_len {TV : List SerV} (h10 : ∀ q ∈ TV, q.1.2.length ≤ 10) (hl : TV.length ≤ 12) (k : Nat) : (∀ s ∈ (TV.take k).map (·.1), s.2.length ≤ 10) ∧ ((TV.take k).map (·.1)).length ≤ 12 := by
  refine ⟨fun s hs => ?_, by rw [List.length_map, List.length_take]; omega⟩
  obtain ⟨q, hq, rfl⟩ := List.mem_map.1 hs
  exact h10 q (List.mem_of_mem_take hq)

def NamesOut (w : World) (TV : List SerV) (gk : Nat) (u3 u11 : Value) (wr : World) : Prop :=
  ∃ k, k ≤ TV.length ∧ gk = TV.length - k ∧ u11 = .int .i64 k ∧ OwnS w.heap.size wr u3 (insAll (nmX (allP ((TV.take k).map (·.1))))) ∧ Keeps [] w wr

def NamesIn (w : World) (sb : Nat) (s : SerT) (vs : Value) (X : List ByteArray) (gk : Nat) (u3 u18 : Value) (wr : World) : Prop :=
  ∃ j, j ≤ s.2.length ∧ gk = s.2.length - j ∧ u18 = .int .i64 j ∧ OwnS w.heap.size wr u3 (insAll (X ++ nmX (s.2.take j))) ∧ wr.heap[sb]? = some (.cells #[.int .i64 s.1, vs] 37 (0, 0)) ∧ Keeps [] w wr


def ValuesOut (w : World) (TV : List SerV) (nm : ByteArray) (gk : Nat) (u5 u13 : Value) (wr : World) : Prop :=
  ∃ k, k ≤ TV.length ∧ gk = TV.length - k ∧ u13 = .int .i64 k ∧ OwnS w.heap.size wr u5 (insAll (valX nm (allP ((TV.take k).map (·.1))))) ∧ Keeps [] w wr

def ValuesIn (w : World) (sb : Nat) (s : SerT) (vs : Value) (X : List ByteArray) (nm : ByteArray) (gk : Nat) (u5 u20 : Value) (wr : World) : Prop :=
  ∃ j, j ≤ s.2.length ∧ gk = s.2.length - j ∧ u20 = .int .i64 j ∧ OwnS w.heap.size wr u5 (insAll (X ++ valX nm (s.2.take j))) ∧ wr.heap[sb]? = some (.cells #[.int .i64 s.1, vs] 37 (0, 0)) ∧ Keeps [] w wr


def GetOut (w : World) (TV : List SerV) (nm val : ByteArray) (gk : Nat) (u7 u15 : Value) (wr : World) : Prop :=
  ∃ k, k ≤ TV.length ∧ gk = TV.length - k ∧ u15 = .int .i64 k ∧ Own w.heap.size wr u7 (putAll (getXs nm val ((TV.take k).map (·.1)))) ∧ Keeps [] w wr

def GetIn (w : World) (sb : Nat) (s : SerT) (vs : Value) (X : List Int) (nm val : ByteArray) (gk : Nat) (u7 u22 : Value) (wr : World) : Prop :=
  ∃ j, j ≤ s.2.length ∧ gk = s.2.length - j ∧ u22 = .int .i64 j ∧ Own w.heap.size wr u7 (putAll (X ++ getX nm val s (s.2.take j))) ∧ wr.heap[sb]? = some (.cells #[.int .i64 s.1, vs] 37 (0, 0)) ∧ Keeps [] w wr

end Go.Proofs.YtejfigbjaiealaaDoor

namespace Go.Proofs.YtejfigbjaiealaaDoor
open Go Go.RowKit

/-- At x lies the index of these series. -/
def Idx (w : World) (x : Nat) (T : List SerT) : Prop := ∃ (B mb : Nat) (va : Value) (E : OutG) (all : List Int), IxG B w x mb va E all ∧ RowsOk E ∧ GrowI 12 T (absG E) all

theorem Idx.keep {w w' : World} {x : Nat} {T : List SerT} (h : Idx w x T) (k : Keeps [] w w') : Idx w' x T := by
  obtain ⟨B, mb, va, E, all, h1, h2⟩ := h
  exact ⟨B, mb, va, E, all, h1.keep k, h2⟩

instance go1Idx {w w' : World} (x : Nat) (T : List SerT) : Go1 w w' (Idx w x T) (Idx w' x T) := ⟨fun k h => h.keep k⟩

theorem allD_spec (w : World) (x : Nat) (T : List SerT) (h : Idx w x T) :
    Calls Tryd.prog 17 #[.pointer (some ⟨x, 0, none⟩)] w fun e w' => ∃ v, e = .returned v ∧ Own w.heap.size w' v (putAll (T.map (·.1))) ∧ Keeps [] w w' := by
  obtain ⟨B, mb, va, E, all, h1, h2, h3⟩ := h
  have := allG_spec B w x mb va E all h1 (by have := h3.allOk.len; omega)
  rw [h3.all_doc] at this
  exact this

theorem getD_spec (w : World) (x : Nat) (T : List SerT) (nm val : ByteArray) (h : Idx w x T) :
    Calls Tryd.prog 8 #[.pointer (some ⟨x, 0, none⟩), .string nm, .string val] w fun e w' => ∃ v, e = .returned v ∧ Own w.heap.size w' v (putAll (getXs nm val T)) ∧ Keeps [] w w' := by
  obtain ⟨B, mb, va, E, all, h1, h2, h3⟩ := h
  have := getG_spec B w x mb va E all nm val h1 h2
  rw [h3.get_doc] at this
  exact this

theorem size42 {n : Nat} (h : n ≤ 42) : n ≤ maxLen := by unfold maxLen; omega

theorem namesD_spec (w : World) (x : Nat) (T : List SerT) (h : Idx w x T) :
    Calls Tryd.prog 6 #[.pointer (some ⟨x, 0, none⟩)] w fun e w' => ∃ v, e = .returned v ∧ OwnS w.heap.size w' v (insAll (nmX (allP T))) ∧ Keeps [] w w' := by
  obtain ⟨B, mb, va, E, all, h1, h2, h3⟩ := h
  have hz := h3.sizes (Nat.le_refl _) h1.nodupG
  have hE : (absG E).length = E.length := by simp [absG]
  have := namesG_spec B w x mb va E all h1 (fun p hp => size42 (hz.2 (p.1, p.2.2.map fun q => (q.1, q.2.l)) (List.mem_map.2 ⟨p, hp, rfl⟩)).1) (by have := hz.1; omega)
  rw [h3.names_doc h1.nodupG] at this
  exact this

theorem sortedNil_call (w : World) :
    Calls Tryd.prog 18 #[.func (.func 32) #[] #[.pointer (some ⟨w.heap.size, 0, none⟩)]] (w.alloc (.cells #[.map none] 62))
      fun e w' => ∃ v, e = .returned v ∧ OwnS (w.heap.size + 1) w' v [] ∧ Keeps [] w w' := by
  refine (callsIn_wide.1 (Tryd.slices_Sorted_keys_nil_18_20 w)).mono ?_
  rintro e w' ⟨v, ss, rfl, rfl, hrow, _, hb⟩
  refine ⟨v, rfl, ?_, (Keeps.refl [] w).alloc _ |>.trans (Keeps.of_below hb)⟩
  simpa [OwnS] using hrow

set_option maxRecDepth 100000 in
set_option maxHeartbeats 1000000 in
theorem valuesNone_spec (B : Nat) (w : World) (x mb : Nat) (va : Value) (E : OutG) (all : List Int) (nm : ByteArray) (h : IxG B w x mb va E all) (hI : look (absG E) nm = none) :
    Calls Tryd.prog 7 #[.pointer (some ⟨x, 0, none⟩), .string nm] w fun e w' => ∃ v, e = .returned v ∧ OwnS w.heap.size w' v [] ∧ Keeps [] w w' := by
  have c0 := cells_at h.at_
  have l0 := lt_of_at h.at_
  have hlk : look E nm = none := by
    rw [absG_look] at hI
    cases hq : look E nm with
    | none => rfl
    | some e => rw [hq] at hI; cases hI
  have F1 := h.map.run_lookup (P := Tryd.prog) Tryd.underlying61 Tryd.underlying9 (zeroInner w) nm false
  rw [show lookVal (encMap encEntG E) nm (.map none) false = .map none from by simp [lookVal, look_enc, hlk]] at F1
  clear h hI hlk
  go_enter Tryd.func7, Tryd.ntmps7
  go_wp2_with fail
  refine (mapKeysGI_call w none).mono ?_
  rintro e w1 ⟨rfl, rfl⟩
  go_wp2_with fail
  refine (sortedNil_call w).mono ?_
  rintro e w2 ⟨v2, rfl, hrow, hk⟩
  have Hk := Lib.hid (And.intro (row_base (b' := w.heap.size) hrow (by omega)) hk)
  clear hrow hk c0 l0
  go_wp2_with fail
  go_ret
  exact ⟨_, rfl, Hk.out.1, Hk.out.2⟩

theorem valuesD_spec (w : World) (x : Nat) (T : List SerT) (nm : ByteArray) (h : Idx w x T) :
    Calls Tryd.prog 7 #[.pointer (some ⟨x, 0, none⟩), .string nm] w fun e w' => ∃ v, e = .returned v ∧ OwnS w.heap.size w' v (insAll (valX nm (allP T))) ∧ Keeps [] w w' := by
  obtain ⟨B, mb, va, E, all, h1, h2, h3⟩ := h
  cases hI : look (absG E) nm with
  | none =>
    rw [h3.values_none hI]
    exact valuesNone_spec B w x mb va E all nm h1 hI
  | some I =>
    have hz := h3.sizes (Nat.le_refl _) h1.nodupG
    have hm := hz.2 _ (look_memG hI)
    have := valuesG_spec B w x mb va E all nm I h1 hI (fun p hp => size42 (hm.2.2 p hp)) (Nat.le_trans hm.2.1 (by decide))
    rw [h3.values_doc h1.nodupG hI] at this
    exact this

theorem idx_of {w : World} {x mb : Nat} {va : Value} {E : OutG} {all : List Int} {B : Nat} {T : List SerT} (h1 : IxG B w x mb va E all) (h2 : RowsOk E) (h3 : GrowI 12 T (absG E) all) : Idx w x T := ⟨B, mb, va, E, all, h1, h2, h3⟩

/-- What Grow hands back. -/
theorem growD_spec (w : World) (v : Value) (XS : List (Value × Bool)) (h : SliceArg 2 encOne w v XS) (hok : OnesOk w XS) :
    Calls Tryd.prog 4 #[v] w fun e w' => ∃ (x : Nat) (vo : Value) (TV : List SerV), e = .returned (.tuple #[.pointer (some ⟨x, 0, none⟩), vo]) ∧ Idx w' x (TV.map (·.1)) ∧ ToldR w' vo TV ∧ TV.length ≤ 12 ∧ (∀ q ∈ TV, SerOk q.1) ∧ ((TV.map (·.1)).map (·.1)).Nodup ∧ Keeps [] w w' := by
  refine (growG_spec w v XS h hok).mono ?_
  rintro e w' ⟨x, mb, vo, va, E, all, TV, rfl, h1, h2, h3, h4, h5⟩
  exact ⟨x, vo, TV, rfl, idx_of h1 h2 h3, h4.read, by have := h3.len; rw [List.length_map] at this; exact this, fun q hq => h3.ser q.1 (List.mem_map.2 ⟨q, hq, rfl⟩), h3.nod, h5⟩
end Go.Proofs.YtejfigbjaiealaaDoor
