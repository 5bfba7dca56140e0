/-
  Blocks of a statement on listings (package barographlaw10) and their lists in memory.
  No condition beyond those that each theorem states.
-/
import Derived.Test.YtjffdcflkkgpfaaGreatBlkLaw
namespace Go.Proofs.YtjffdcflkkgpfaaGreat
open Go Go.RowKit Go.Conc
open Go.Op (bytesLess)

/-- A block told, with its lists' values: the metas', the documents'. -/
abbrev BlkD := BlkS × (Value × Value × Value)

def cellsM (d : BlkD) : List Value := (metaVs d.1.1 d.2.1 d.2.2.1).toList

def cellsT (d : BlkD) : List Value := (metaVs d.1.1 d.2.2.2 d.2.2.1).toList ++ [.int .i64 d.1.2]

structure DOk (base : Nat) (w : World) (d : BlkD) : Prop where
  f : w.ownsRow base 149 3 d.2.1 d.1.1.files.length (d.1.1.files.flatMap encFile)
  s : w.ownsRow base 9 1 d.2.2.1 d.1.1.sources.length (d.1.1.sources.flatMap encS1m)
  g : w.ownsRow base 170 3 d.2.2.2 d.1.1.files.length (d.1.1.files.flatMap encFile)

theorem DOk.same {base : Nat} {w w' : World} {d : BlkD} (h : DOk base w d) (k : Keeps [] w w') : DOk base w' d := ⟨kp k h.f, kp k h.s, kp k h.g⟩

/-- What turns is a map, or cells of another type. -/
def Other (w : World) (b : Nat) : Prop := (∃ kv, MapAt w b kv) ∨ ∃ cs t z, w.heap[b]? = some (.cells cs t z) ∧ t ≠ 149 ∧ t ≠ 9 ∧ t ≠ 170

theorem DOk.out {base : Nat} {w w' : World} {d : BlkD} {S : List Nat} (h : DOk base w d) (k : Keeps S w w') (hS : ∀ b ∈ S, Other w b) : DOk base w' d := by
  refine ⟨k.row h.f fun g hg hm => ?_, k.row h.s fun g hg hm => ?_, k.row h.g fun g hg hm => ?_⟩ <;> rcases hS g hm with ⟨kv, hkv⟩ | ⟨cs, t, z, hb, h1, h2, h3⟩
  · exact row_ne_map h.f hkv (by rw [hg]; simp)
  · exact row_ne_type h.f hb h1 g hg rfl
  · exact row_ne_map h.s hkv (by rw [hg]; simp)
  · exact row_ne_type h.s hb h2 g hg rfl
  · exact row_ne_map h.g hkv (by rw [hg]; simp)
  · exact row_ne_type h.g hb h3 g hg rfl

def BlksPost (w : World) (T : List BlkS) (e : Ending) (w' : World) : Prop :=
  ∃ g c mb vt, e = .returned (.tuple #[.slice (some ⟨g, 0, none⟩) T.length c, .map (some mb), vt]) ∧ MetasV w.heap.size w' (.slice (some ⟨g, 0, none⟩) T.length c) (T.map (·.1)) ∧ MapAt w' mb (encMap encI (marksOf T)) ∧ w.heap.size ≤ mb ∧ BlksV w.heap.size w' vt (sortT T) ∧ Keeps [] w w'

theorem cellsM_len (d : BlkD) : (cellsM d).length = 8 := rfl

theorem cellsT_len (d : BlkD) : (cellsT d).length = 9 := rfl

theorem DOk.metaV {base : Nat} {w : World} {d : BlkD} (h : DOk base w d) : MetaV base w (cellsM d) d.1.1 :=
  ⟨d.2.1, d.2.2.1, rfl, sliceFrom_row (fun _ => rfl) h.f, sliceFrom_row (fun _ => rfl) h.s⟩

theorem DOk.blkV {base : Nat} {w : World} {d : BlkD} (h : DOk base w d) : BlkV base w (cellsT d) d.1 :=
  ⟨_, rfl, d.2.2.2, d.2.2.1, rfl, sliceFrom_row (fun _ => rfl) h.g, sliceFrom_row (fun _ => rfl) h.s⟩

instance mvDs {w w' : World} (base : Nat) (D : List BlkD) : Mv w w' (∀ d ∈ D, DOk base w d) (∀ d ∈ D, DOk base w' d) := ⟨fun k h d hd => (h d hd).same k⟩

theorem SliceArg.atI {α : Type} {size : Nat} {enc : α → List Value} {w : World} {a : Option Addr} {n c : Nat} {L : List α} (h : SliceArg size enc w (.slice a n c) L) (i : Nat) (hi : i < L.length) :
    ∃ b off, a = some ⟨b, off, none⟩ ∧ b < w.heap.size ∧ ∀ j, j < size → w.cell? ⟨b, off + (i * size + j), none⟩ = (enc L[i])[j]? := by
  obtain ⟨ao, cap, e, hl, h⟩ := h
  injection e with e _ _
  subst e
  exact h i hi

def BlkRel (w : World) (O : List OneL) (mb n gk : Nat) (u5 u7 u8 : Value) (wr : World) : Prop :=
  ∃ (k gm cm gt ct : Nat) (D : List BlkD), k ≤ n ∧ gk = n - k ∧ u8 = .int .i64 k ∧ u5 = .slice (some ⟨gm, 0, none⟩) k cm ∧ u7 = .slice (some ⟨gt, 0, none⟩) k ct ∧ D.map (·.1) = blkL (O.take k) ∧
    wr.ownsRow w.heap.size 63 8 (.slice (some ⟨gm, 0, none⟩) k cm) k (D.flatMap cellsM) ∧ wr.ownsRow w.heap.size 68 9 (.slice (some ⟨gt, 0, none⟩) k ct) k (D.flatMap cellsT) ∧
    MapAt wr mb (encMap encI (marksOf (blkL (O.take k)))) ∧ (∀ d ∈ D, DOk w.heap.size wr d) ∧ Keeps [] w wr

theorem DOk.keepRow {base b s n : Nat} {e : TypeId} {w w' : World} {d : BlkD} {v : Value} {xs : List Value} (h : DOk base w d) (hr : w.ownsRow b e s v n xs) (k : Keeps v.ownBlock.toList w w') (he : e ≠ 149 ∧ e ≠ 9 ∧ e ≠ 170) : DOk base w' d :=
  ⟨k.row h.f (rows_neM hr h.f he.1), k.row h.s (rows_neM hr h.s he.2.1), k.row h.g (rows_neM hr h.g he.2.2)⟩

theorem row_some {w : World} {base size n : Nat} {e : TypeId} {v : Value} {xs : List Value} (h : w.ownsRow base e size v n xs) (hne : v ≠ .slice none 0 0) : ∃ g cap, v = .slice (some ⟨g, 0, none⟩) n cap := by
  obtain ⟨_, ⟨e, _⟩ | ⟨g, cp, cur, rfl, _⟩⟩ := h
  · exact absurd e hne
  · exact ⟨g, cp, rfl⟩

theorem blksV_D {base : Nat} {w : World} {D : List BlkD} {v : Value} (h : w.ownsRow base 68 9 v D.length (D.flatMap cellsT)) (hd : ∀ d ∈ D, DOk base w d) : BlksV base w v (D.map (·.1)) := by
  refine ⟨D.map cellsT, SliceFrom.to_map (enc := id) (f := cellsT) (sliceFrom_row (fun x => cellsT_len x) h), by simp, fun i hi hi' => ?_⟩
  simp only [List.getElem_map]
  exact (hd _ (List.getElem_mem _)).blkV

theorem metasV_D {base : Nat} {w : World} {D : List BlkD} {v : Value} (h : w.ownsRow base 63 8 v D.length (D.flatMap cellsM)) (hd : ∀ d ∈ D, DOk base w d) : MetasV base w v ((D.map (·.1)).map (·.1)) := by
  refine ⟨D.map cellsM, SliceFrom.to_map (enc := id) (f := cellsM) (sliceFrom_row (fun x => cellsM_len x) h), by simp, fun i hi hi' => ?_⟩
  simp only [List.getElem_map]
  exact (hd _ (List.getElem_mem _)).metaV

theorem take_min {α : Type} (l : List α) (k n : Nat) (h : l.length = k) : l.take (min k n) = l.take n := by
  by_cases e : k ≤ n
  · rw [Nat.min_eq_left e, List.take_of_length_le (by omega), List.take_of_length_le (by omega)]
  · rw [Nat.min_eq_right (by omega)]

def MarkMid (W : World) (bb mb : Nat) (m0 : MetaS) (vg vo : Value) (M : PartsM) (M1 : MetaS) (mkv : Int) (wc : World) : Prop :=
  wc.heap[bb]? = some (.cells #[.string m0.id, .int .i64 m0.mn, .int .i64 m0.mx, .int .i64 m0.level, .int .i64 m0.series, .int .i64 m0.samples, vg, vo, .int .i64 mkv] 68 (0, 0)) ∧ MapAt wc mb (encMap encI (markStep M (M1, mkv))) ∧ Keeps [mb, bb] W wc

def SrcRel10 (w wo : World) (m0 : MetaS) (ids : List ByteArray) (xb : Nat) (vf : Value) (n gk : Nat) (u : Value) (wr : World) : Prop :=
  ∃ (j : Nat) (vo : Value), j ≤ n ∧ gk = n - j ∧ u = .int .i64 j ∧ wr.ownsRow wo.heap.size 9 1 vo (srcL m0.id (ids.take j)).length ((srcL m0.id (ids.take j)).flatMap encS1m) ∧
    wr.heap[xb]? = some (.cells (madeVs m0 vf vo) 63 (0, 0)) ∧ wr.ownsRow w.heap.size 149 3 vf 2 (m0.files.flatMap encFile) ∧ Keeps [] wo wr

def MidB (w wr : World) (m0 : MetaS) (u9 : Value) (wc : World) : Prop :=
  ∃ xb vf va vn vc, u9 = .pointer (some ⟨xb, 0, none⟩) ∧ wr.heap.size ≤ xb ∧ wc.heap[xb]? = some (.cells (madeVs m0 vf (.slice va vn vc)) 63 (0, 0)) ∧ wc.ownsRow w.heap.size 149 3 vf 2 (m0.files.flatMap encFile) ∧ Keeps [] wr wc
end Go.Proofs.YtjffdcflkkgpfaaGreat
