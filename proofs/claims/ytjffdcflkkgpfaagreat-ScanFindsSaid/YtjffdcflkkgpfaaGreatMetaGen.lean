/-
  What is taken of any bytes as a meta, in plain words: the same for the program and for the document.
  No condition beyond those that each theorem states.

  What is taken of any bytes as a meta's fields (package meta): taker.fields; the first error stays.
  The bytes are not too many.

  May a meta that was read be said (package meta, Check): 0 where it may, else 3.
  No condition beyond those that each theorem states.
-/
import Derived.Test.YtjffdcflkkgpfaaGreatMetaLaw
import Derived.Test.YtjffdcflkkgpfaaGreatMetaTake
namespace Go.Proofs.YtjffdcflkkgpfaaGreat
open Go Go.RowKit
open Go.Op (bytesLess)

/-- A meta as it is read: numbers as they come. -/
structure MetaT where
  id : List UInt8
  mn : Int
  mx : Int
  level : Int
  series : Int
  samples : Int
  files : List (List UInt8 × Int × Int)
  sources : List (List UInt8)

/-- The first k files. -/
def fileSt (st : Tk) : Nat → List (List UInt8 × Int × Int) × Tk
  | 0 => ([], st)
  | k + 1 =>
    let r := fileSt st k
    let a := tkT r.2 40
    let b := tkN a.2 1048576
    let c := tkN b.2 4294967295
    (r.1 ++ [(a.1, b.1, c.1)], c.2)

/-- The first k sources, till one fails. -/
def srcSt (st : Tk) : Nat → List (List UInt8) × Tk
  | 0 => ([], st)
  | k + 1 =>
    let r := srcSt st k
    if r.2.2 ≠ 0 then r else (r.1 ++ [(tkT r.2 16).1], (tkT r.2 16).2)

def fieldsT (st : Tk) : MetaT × Tk :=
  let a := tkT st 16
  let b := tkN a.2 1099511627776
  let c := tkN b.2 1099511627776
  let d := tkN c.2 9
  let e := tkN d.2 1073741824
  let f := tkN e.2 1073741824
  let g := fileSt f.2 2
  let n := tkN g.2 50
  let s := srcSt n.2 n.1.toNat
  (⟨a.1, b.1, c.1, d.1, e.1, f.1, g.1, s.1⟩, s.2)

def risesT : List (List UInt8) → Bool
  | a :: b :: l => bytesLess a b && risesT (b :: l)
  | _ => true

/-- May it be? -/
def okT (m : MetaT) : Bool :=
  isIDB m.id && decide (0 ≤ m.mn) && decide (m.mn < m.mx) && decide (m.mx ≤ 1099511627776) && decide (1 ≤ m.level) && decide (m.level ≤ 9) && decide (0 ≤ m.series) && decide (m.series ≤ m.samples) && decide (m.samples ≤ 1073741824) &&
  (match m.files with
    | [(n1, s1, _), (n2, s2, _)] => decide (n1 = chunksB.data.toList) && decide (n2 = indexB.data.toList) && decide (0 ≤ s1) && decide (s1 ≤ 1048576) && decide (0 ≤ s2) && decide (s2 ≤ 1048576)
    | _ => false) &&
  decide (m.sources.length ≤ 50) && m.sources.all (fun s => isIDB s && decide (s ≠ m.id)) && risesT m.sources

/-- The meta that bytes are. -/
def decodeT (l : List UInt8) : Option MetaT :=
  if (onlyL l 1).2 ≠ 0 then none
  else if (fieldsT ((onlyL l 1).1, 0)).2.2 ≠ 0 then none
  else if okT (fieldsT ((onlyL l 1).1, 0)).1 = false then none
  else if (fieldsT ((onlyL l 1).1, 0)).2.1 ≠ [] then none
  else some (fieldsT ((onlyL l 1).1, 0)).1

theorem tkT_len (st : Tk) {most : Int} (h0 : 0 ≤ most) (hm : most ≤ 9223372036854775807) : ((tkT st most).1.length : Int) ≤ most := by
  unfold tkT
  split
  · simpa using h0
  · have hb := takeM_bounds st.1 (most := most) hm
    unfold takeT
    split
    · simpa using h0
    · split
      · simpa using h0
      · simp only [List.length_take]
        omega

theorem tkN_bounds (st : Tk) {most : Int} (h0 : 0 ≤ most) (hm : most ≤ 9223372036854775807) : 0 ≤ (tkN st most).1 ∧ (tkN st most).1 ≤ most := by
  unfold tkN
  split
  · exact ⟨Int.le_refl _, h0⟩
  · have hb := takeM_bounds st.1 (most := most) hm
    simp only
    omega

theorem fileSt_len (st : Tk) : ∀ k, (fileSt st k).1.length = k
  | 0 => rfl
  | k + 1 => by simp [fileSt, fileSt_len st k]

theorem srcSt_len (st : Tk) : ∀ k, (srcSt st k).1.length ≤ k
  | 0 => Nat.le_refl _
  | k + 1 => by
    have := srcSt_len st k
    unfold srcSt
    simp only
    split
    · omega
    · simp; omega

theorem fileSt_left (st : Tk) : ∀ k, (fileSt st k).2.1.length ≤ st.1.length
  | 0 => Nat.le_refl _
  | k + 1 => by
    have h := fileSt_left st k
    unfold fileSt
    simp only
    have h1 := tkT_left (fileSt st k).2 40
    have h2 := tkN_left (tkT (fileSt st k).2 40).2 1048576
    have h3 := tkN_left (tkN (tkT (fileSt st k).2 40).2 1048576).2 4294967295
    omega

theorem srcSt_left (st : Tk) : ∀ k, (srcSt st k).2.1.length ≤ st.1.length
  | 0 => Nat.le_refl _
  | k + 1 => by
    have h := srcSt_left st k
    unfold srcSt
    simp only
    split
    · exact h
    · have h1 := tkT_left (srcSt st k).2 16
      simp only
      omega
end Go.Proofs.YtjffdcflkkgpfaaGreat

namespace Go.Proofs.YtjffdcflkkgpfaaGreat
open Go Go.RowKit

def encFileT (f : List UInt8 × Int × Int) : List Value := [.string ⟨f.1.toArray⟩, .int .i64 f.2.1, .int .u32 f.2.2]

def encS1T (s : List UInt8) : List Value := [.string ⟨s.toArray⟩]

/-- A meta's values, its rows in memory of the walk's own. -/
def MetaRT (base : Nat) (w : World) (vs : List Value) (m : MetaT) : Prop :=
  ∃ vf vo, vs = [.string ⟨m.id.toArray⟩, .int .i64 m.mn, .int .i64 m.mx, .int .i64 m.level, .int .i64 m.series, .int .i64 m.samples, vf, vo] ∧ w.ownsRow base 149 3 vf m.files.length (m.files.flatMap encFileT) ∧ w.ownsRow base 9 1 vo m.sources.length (m.sources.flatMap encS1T)

def TakeGPost (w : World) (q : Nat) (st : Tk) (e : Ending) (w' : World) : Prop :=
  ∃ vs, e = .returned (.agg vs.toArray) ∧ MetaRT w.heap.size w' vs (fieldsT st).1 ∧ TakerAt w' q (fieldsT st).2 ∧ Keeps [q] w w'

theorem fileSt_next (st : Tk) (k : Nat) : fileSt st (k + 1) = ((fileSt st k).1 ++ [((tkT (fileSt st k).2 40).1, (tkN (tkT (fileSt st k).2 40).2 1048576).1, (tkN (tkN (tkT (fileSt st k).2 40).2 1048576).2 4294967295).1)], (tkN (tkN (tkT (fileSt st k).2 40).2 1048576).2 4294967295).2) := rfl

theorem srcSt_go (st : Tk) (k : Nat) (h : (srcSt st k).2.2 = 0) : srcSt st (k + 1) = ((srcSt st k).1 ++ [(tkT (srcSt st k).2 16).1], (tkT (srcSt st k).2 16).2) := by
  show (if (srcSt st k).2.2 ≠ 0 then srcSt st k else _) = _
  rw [if_neg (by simp [h])]

theorem srcSt_stop (st : Tk) (k : Nat) (h : (srcSt st k).2.2 ≠ 0) : ∀ m, srcSt st (k + m) = srcSt st k
  | 0 => rfl
  | m + 1 => by
    have ih := srcSt_stop st k h m
    show (if (srcSt st (k + m)).2.2 ≠ 0 then srcSt st (k + m) else _) = _
    rw [ih, if_pos h]

def TgRel1 (w : World) (q rb mb : Nat) (x0 : List UInt8) (x1 x2 x3 x4 x5 : Int) (s6 : Tk) (gk : Nat) (u : Value) (wr : World) : Prop :=
  ∃ k vf, k ≤ 2 ∧ gk = 2 - k ∧ u = .int .i64 k ∧ wr.heap[mb]? = some (.cells #[.string ⟨x0.toArray⟩, .int .i64 x1, .int .i64 x2, .int .i64 x3, .int .i64 x4, .int .i64 x5, vf, .slice none 0 0] 63 (0, 0)) ∧ wr.heap[rb]? = some (.cells #[.string ⟨#[]⟩, .int .i64 0, .int .i64 0, .int .i64 0, .int .i64 0, .int .i64 0, .slice none 0 0, .slice none 0 0] 63 (0, 0)) ∧ wr.ownsRow w.heap.size 149 3 vf k ((fileSt s6 k).1.flatMap encFileT) ∧ TakerAt wr q (fileSt s6 k).2 ∧ Keeps [q] w wr

def TgRel2 (w : World) (q rb mb : Nat) (x0 : List UInt8) (x1 x2 x3 x4 x5 : Int) (vf : Value) (FL : List (List UInt8 × Int × Int)) (s8 : Tk) (n : Nat) (gk : Nat) (u : Value) (wr : World) : Prop :=
  ∃ k vo, k ≤ n ∧ gk = n - k ∧ u = .int .i64 ((n - k : Nat) : Int) ∧ wr.heap[mb]? = some (.cells #[.string ⟨x0.toArray⟩, .int .i64 x1, .int .i64 x2, .int .i64 x3, .int .i64 x4, .int .i64 x5, vf, vo] 63 (0, 0)) ∧ wr.heap[rb]? = some (.cells #[.string ⟨#[]⟩, .int .i64 0, .int .i64 0, .int .i64 0, .int .i64 0, .int .i64 0, .slice none 0 0, .slice none 0 0] 63 (0, 0)) ∧ wr.ownsRow w.heap.size 149 3 vf 2 (FL.flatMap encFileT) ∧
    wr.ownsRow w.heap.size 9 1 vo (srcSt s8 k).1.length ((srcSt s8 k).1.flatMap encS1T) ∧ TakerAt wr q (srcSt s8 k).2 ∧ Keeps [q] w wr


set_option linter.unusedSimpArgs false in
set_option maxRecDepth 100000 in
set_option maxHeartbeats 4000000 in
theorem takeG_spec (w : World) (q : Nat) (s0 : Tk) (h : TakerAt w q s0) (hl0 : s0.1.length ≤ 1000000000) :
    Calls Tryz.prog 111 #[.pointer (some ⟨q, 0, none⟩)] w (TakeGPost w q s0) := by
  obtain ⟨ifl, hif, hzf0, hzf1, hzf2⟩ := info_parts infoFile
  obtain ⟨ist, his, hzs0, hzs1, hzs2⟩ := info_parts infoStrM
  have hqlt : q < w.heap.size := lt_of_at h
  obtain ⟨rb, hrb⟩ : ∃ n, n = w.heap.size := ⟨_, rfl⟩
  obtain ⟨mb, hmb⟩ : ∃ n, n = w.heap.size + 1 := ⟨_, rfl⟩
  have n0 := new2 w (.cells #[.string ⟨#[]⟩, .int .i64 0, .int .i64 0, .int .i64 0, .int .i64 0, .int .i64 0, .slice none 0 0, .slice none 0 0] 63) (.cells #[.string ⟨#[]⟩, .int .i64 0, .int .i64 0, .int .i64 0, .int .i64 0, .int .i64 0, .slice none 0 0, .slice none 0 0] 63)
  have k0 : Keeps [] w ((w.alloc (.cells #[.string ⟨#[]⟩, .int .i64 0, .int .i64 0, .int .i64 0, .int .i64 0, .int .i64 0, .slice none 0 0, .slice none 0 0] 63)).alloc (.cells #[.string ⟨#[]⟩, .int .i64 0, .int .i64 0, .int .i64 0, .int .i64 0, .int .i64 0, .slice none 0 0, .slice none 0 0] 63)) := ((Keeps.refl [] w).alloc _).alloc _
  have hw0 : w.heap.size ≤ rb ∧ w.heap.size ≤ mb ∧ rb ≠ mb ∧ q ≠ rb ∧ q ≠ mb := by omega
  have HB := Lib.hid (And.intro hrb hmb)
  have H0 := Lib.hid (And.intro (h.keep k0 (by simp)) (And.intro n0.1 (And.intro n0.2 k0)))
  have HT0 : Hid (fieldsT s0 = fieldsT s0) := Lib.hid rfl
  clear hrb hmb n0 k0 h HT0
  go_enter Tryz.func111, Tryz.ntmps111
  go_wp2_with fail
  rw [← HB.out.2] at H0 ⊢
  rw [← HB.out.1] at H0 ⊢
  generalize (w.alloc (.cells #[.string ⟨#[]⟩, .int .i64 0, .int .i64 0, .int .i64 0, .int .i64 0, .int .i64 0, .slice none 0 0, .slice none 0 0] 63)).alloc (.cells #[.string ⟨#[]⟩, .int .i64 0, .int .i64 0, .int .i64 0, .int .i64 0, .int .i64 0, .slice none 0 0, .slice none 0 0] 63) = W at H0 ⊢
  refine (tkText_spec W q s0 H0.out.1 (by unfold maxLen; omega) 16 (by decide)).mono ?_
  rintro e wa0 ⟨rfl, hq, hk⟩
  have hleft := tkT_left s0 16
  obtain ⟨A0, hA⟩ : ∃ A, A = tkT s0 16 := ⟨_, rfl⟩
  rw [← hA] at hq hleft ⊢
  have HA0 := Lib.hid hA
  clear hA
  obtain ⟨x0, s1⟩ := A0
  dsimp only at hq hleft ⊢
  have hl1 : s1.1.length ≤ 1000000000 := by omega
  have nm := hk.at_ H0.out.2.2.1 (by simp; omega)
  have nr := hk.at_ H0.out.2.1 (by simp; omega)
  have cm := cells_at nm
  have fm := free_at nm
  have lm := lt_of_at nm
  have nm2 : (wa0.setCell ⟨mb, 0, none⟩ (.string ⟨x0.toArray⟩)).heap[mb]? = some (.cells #[.string ⟨x0.toArray⟩, .int .i64 0, .int .i64 0, .int .i64 0, .int .i64 0, .int .i64 0, .slice none 0 0, .slice none 0 0] 63 (0, 0)) := (heap_cell_same (i := 0) nm (.string ⟨x0.toArray⟩)).trans (by simp)
  have k2 : Keeps [mb] wa0 (wa0.setCell ⟨mb, 0, none⟩ (.string ⟨x0.toArray⟩)) := (Keeps.refl [mb] wa0).setCell (.inl (by simp)) _
  have HH0 := Lib.hid (And.intro (hq.keep k2 (by simp; omega)) (And.intro (k2.at_ nr (by simp; omega)) (And.intro nm2 ((H0.out.2.2.2.mono (by simp) : Keeps [q] w W).trans hk |>.after k2 (fun x hx => .inr (by simp only [List.mem_singleton] at hx; omega))))))
  clear hq hk nr nm nm2 k2 hleft
  go_wp2_with fail
  clear cm fm lm
  generalize wa0.setCell ⟨mb, 0, none⟩ (.string ⟨x0.toArray⟩) = wb0 at HH0 ⊢
  refine (tkNum_spec wb0 q s1 HH0.out.1 (by unfold maxLen; omega) 1099511627776 (by decide)).mono ?_
  rintro e wa1 ⟨rfl, hq, hk⟩
  have hleft := tkN_left s1 1099511627776
  obtain ⟨A1, hA⟩ : ∃ A, A = tkN s1 1099511627776 := ⟨_, rfl⟩
  rw [← hA] at hq hleft ⊢
  have HA1 := Lib.hid hA
  clear hA
  obtain ⟨x1, s2⟩ := A1
  dsimp only at hq hleft ⊢
  have hl2 : s2.1.length ≤ 1000000000 := by omega
  have nm := hk.at_ HH0.out.2.2.1 (by simp; omega)
  have nr := hk.at_ HH0.out.2.1 (by simp; omega)
  have cm := cells_at nm
  have fm := free_at nm
  have lm := lt_of_at nm
  have nm2 : (wa1.setCell ⟨mb, 1, none⟩ (.int .i64 x1)).heap[mb]? = some (.cells #[.string ⟨x0.toArray⟩, .int .i64 x1, .int .i64 0, .int .i64 0, .int .i64 0, .int .i64 0, .slice none 0 0, .slice none 0 0] 63 (0, 0)) := (heap_cell_same (i := 1) nm (.int .i64 x1)).trans (by simp)
  have k2 : Keeps [mb] wa1 (wa1.setCell ⟨mb, 1, none⟩ (.int .i64 x1)) := (Keeps.refl [mb] wa1).setCell (.inl (by simp)) _
  have HH1 := Lib.hid (And.intro (hq.keep k2 (by simp; omega)) (And.intro (k2.at_ nr (by simp; omega)) (And.intro nm2 ((HH0.out.2.2.2.mono (by simp) : Keeps [q] w wb0).trans hk |>.after k2 (fun x hx => .inr (by simp only [List.mem_singleton] at hx; omega))))))
  clear hq hk nr nm nm2 k2 hleft
  go_wp2_with fail
  clear cm fm lm
  generalize wa1.setCell ⟨mb, 1, none⟩ (.int .i64 x1) = wb1 at HH1 ⊢
  refine (tkNum_spec wb1 q s2 HH1.out.1 (by unfold maxLen; omega) 1099511627776 (by decide)).mono ?_
  rintro e wa2 ⟨rfl, hq, hk⟩
  have hleft := tkN_left s2 1099511627776
  obtain ⟨A2, hA⟩ : ∃ A, A = tkN s2 1099511627776 := ⟨_, rfl⟩
  rw [← hA] at hq hleft ⊢
  have HA2 := Lib.hid hA
  clear hA
  obtain ⟨x2, s3⟩ := A2
  dsimp only at hq hleft ⊢
  have hl3 : s3.1.length ≤ 1000000000 := by omega
  have nm := hk.at_ HH1.out.2.2.1 (by simp; omega)
  have nr := hk.at_ HH1.out.2.1 (by simp; omega)
  have cm := cells_at nm
  have fm := free_at nm
  have lm := lt_of_at nm
  have nm2 : (wa2.setCell ⟨mb, 2, none⟩ (.int .i64 x2)).heap[mb]? = some (.cells #[.string ⟨x0.toArray⟩, .int .i64 x1, .int .i64 x2, .int .i64 0, .int .i64 0, .int .i64 0, .slice none 0 0, .slice none 0 0] 63 (0, 0)) := (heap_cell_same (i := 2) nm (.int .i64 x2)).trans (by simp)
  have k2 : Keeps [mb] wa2 (wa2.setCell ⟨mb, 2, none⟩ (.int .i64 x2)) := (Keeps.refl [mb] wa2).setCell (.inl (by simp)) _
  have HH2 := Lib.hid (And.intro (hq.keep k2 (by simp; omega)) (And.intro (k2.at_ nr (by simp; omega)) (And.intro nm2 ((HH1.out.2.2.2.mono (by simp) : Keeps [q] w wb1).trans hk |>.after k2 (fun x hx => .inr (by simp only [List.mem_singleton] at hx; omega))))))
  clear hq hk nr nm nm2 k2 hleft
  go_wp2_with fail
  clear cm fm lm
  generalize wa2.setCell ⟨mb, 2, none⟩ (.int .i64 x2) = wb2 at HH2 ⊢
  refine (tkNum_spec wb2 q s3 HH2.out.1 (by unfold maxLen; omega) 9 (by decide)).mono ?_
  rintro e wa3 ⟨rfl, hq, hk⟩
  have hleft := tkN_left s3 9
  obtain ⟨A3, hA⟩ : ∃ A, A = tkN s3 9 := ⟨_, rfl⟩
  rw [← hA] at hq hleft ⊢
  have HA3 := Lib.hid hA
  clear hA
  obtain ⟨x3, s4⟩ := A3
  dsimp only at hq hleft ⊢
  have hl4 : s4.1.length ≤ 1000000000 := by omega
  have nm := hk.at_ HH2.out.2.2.1 (by simp; omega)
  have nr := hk.at_ HH2.out.2.1 (by simp; omega)
  have cm := cells_at nm
  have fm := free_at nm
  have lm := lt_of_at nm
  have nm2 : (wa3.setCell ⟨mb, 3, none⟩ (.int .i64 x3)).heap[mb]? = some (.cells #[.string ⟨x0.toArray⟩, .int .i64 x1, .int .i64 x2, .int .i64 x3, .int .i64 0, .int .i64 0, .slice none 0 0, .slice none 0 0] 63 (0, 0)) := (heap_cell_same (i := 3) nm (.int .i64 x3)).trans (by simp)
  have k2 : Keeps [mb] wa3 (wa3.setCell ⟨mb, 3, none⟩ (.int .i64 x3)) := (Keeps.refl [mb] wa3).setCell (.inl (by simp)) _
  have HH3 := Lib.hid (And.intro (hq.keep k2 (by simp; omega)) (And.intro (k2.at_ nr (by simp; omega)) (And.intro nm2 ((HH2.out.2.2.2.mono (by simp) : Keeps [q] w wb2).trans hk |>.after k2 (fun x hx => .inr (by simp only [List.mem_singleton] at hx; omega))))))
  clear hq hk nr nm nm2 k2 hleft
  go_wp2_with fail
  clear cm fm lm
  generalize wa3.setCell ⟨mb, 3, none⟩ (.int .i64 x3) = wb3 at HH3 ⊢
  refine (tkNum_spec wb3 q s4 HH3.out.1 (by unfold maxLen; omega) 1073741824 (by decide)).mono ?_
  rintro e wa4 ⟨rfl, hq, hk⟩
  have hleft := tkN_left s4 1073741824
  obtain ⟨A4, hA⟩ : ∃ A, A = tkN s4 1073741824 := ⟨_, rfl⟩
  rw [← hA] at hq hleft ⊢
  have HA4 := Lib.hid hA
  clear hA
  obtain ⟨x4, s5⟩ := A4
  dsimp only at hq hleft ⊢
  have hl5 : s5.1.length ≤ 1000000000 := by omega
  have nm := hk.at_ HH3.out.2.2.1 (by simp; omega)
  have nr := hk.at_ HH3.out.2.1 (by simp; omega)
  have cm := cells_at nm
  have fm := free_at nm
  have lm := lt_of_at nm
  have nm2 : (wa4.setCell ⟨mb, 4, none⟩ (.int .i64 x4)).heap[mb]? = some (.cells #[.string ⟨x0.toArray⟩, .int .i64 x1, .int .i64 x2, .int .i64 x3, .int .i64 x4, .int .i64 0, .slice none 0 0, .slice none 0 0] 63 (0, 0)) := (heap_cell_same (i := 4) nm (.int .i64 x4)).trans (by simp)
  have k2 : Keeps [mb] wa4 (wa4.setCell ⟨mb, 4, none⟩ (.int .i64 x4)) := (Keeps.refl [mb] wa4).setCell (.inl (by simp)) _
  have HH4 := Lib.hid (And.intro (hq.keep k2 (by simp; omega)) (And.intro (k2.at_ nr (by simp; omega)) (And.intro nm2 ((HH3.out.2.2.2.mono (by simp) : Keeps [q] w wb3).trans hk |>.after k2 (fun x hx => .inr (by simp only [List.mem_singleton] at hx; omega))))))
  clear hq hk nr nm nm2 k2 hleft
  go_wp2_with fail
  clear cm fm lm
  generalize wa4.setCell ⟨mb, 4, none⟩ (.int .i64 x4) = wb4 at HH4 ⊢
  refine (tkNum_spec wb4 q s5 HH4.out.1 (by unfold maxLen; omega) 1073741824 (by decide)).mono ?_
  rintro e wa5 ⟨rfl, hq, hk⟩
  have hleft := tkN_left s5 1073741824
  obtain ⟨A5, hA⟩ : ∃ A, A = tkN s5 1073741824 := ⟨_, rfl⟩
  rw [← hA] at hq hleft ⊢
  have HA5 := Lib.hid hA
  clear hA
  obtain ⟨x5, s6⟩ := A5
  dsimp only at hq hleft ⊢
  have hl6 : s6.1.length ≤ 1000000000 := by omega
  have nm := hk.at_ HH4.out.2.2.1 (by simp; omega)
  have nr := hk.at_ HH4.out.2.1 (by simp; omega)
  have cm := cells_at nm
  have fm := free_at nm
  have lm := lt_of_at nm
  have nm2 : (wa5.setCell ⟨mb, 5, none⟩ (.int .i64 x5)).heap[mb]? = some (.cells #[.string ⟨x0.toArray⟩, .int .i64 x1, .int .i64 x2, .int .i64 x3, .int .i64 x4, .int .i64 x5, .slice none 0 0, .slice none 0 0] 63 (0, 0)) := (heap_cell_same (i := 5) nm (.int .i64 x5)).trans (by simp)
  have k2 : Keeps [mb] wa5 (wa5.setCell ⟨mb, 5, none⟩ (.int .i64 x5)) := (Keeps.refl [mb] wa5).setCell (.inl (by simp)) _
  have HH5 := Lib.hid (And.intro (hq.keep k2 (by simp; omega)) (And.intro (k2.at_ nr (by simp; omega)) (And.intro nm2 ((HH4.out.2.2.2.mono (by simp) : Keeps [q] w wb4).trans hk |>.after k2 (fun x hx => .inr (by simp only [List.mem_singleton] at hx; omega))))))
  clear hq hk nr nm nm2 k2 hleft
  go_wp2_with fail
  clear cm fm lm
  generalize wa5.setCell ⟨mb, 5, none⟩ (.int .i64 x5) = wb5 at HH5 ⊢
  have HA := Lib.hid (And.intro HH5.out.1 (And.intro HH5.out.2.1 (And.intro HH5.out.2.2.1 HH5.out.2.2.2)))
  clear HH0 HH1 HH2 HH3 HH4 HH5 H0
  go_wp2_with fail
  go_loopg [24] 2 (TgRel1 w q rb mb x0 x1 x2 x3 x4 x5 s6)
  case atStart => exact ⟨0, .slice none 0 0, by decide, rfl, rfl, HA.out.2.2.1, HA.out.2.1, by simpa [fileSt] using World.ownsRow_nil wb5 w.heap.size _ 3, HA.out.1, HA.out.2.2.2⟩
  case round =>
    obtain ⟨k, vf, hk, hgk, rfl, hmb, hrb, hrow, hq, hkr⟩ := hrel
    clear HA
    have Hg := Lib.hid hgk
    clear hgk
    have hwr := hkr.size
    have hmlt := lt_of_at hmb
    have hrlt := lt_of_at hrb
    have hqlt2 := lt_of_at hq
    have hfl := fileSt_len s6 k
    have hfleft := fileSt_left s6 k
    by_cases hlt : k < 2
    · have HrowA := Lib.hid hrow
      have hlt' : (k : Int) < 2 := by omega
      have hnx := fileSt_next s6 k
      obtain ⟨S, hS⟩ : ∃ S, S = fileSt s6 k := ⟨_, rfl⟩
      rw [← hS] at hrow hq hfl hfleft hnx
      clear hS
      obtain ⟨F, t0⟩ := S
      dsimp only at hrow hq hfl hfleft hnx
      have ht0 : t0.1.length ≤ 1000000000 := by omega
      have Hn0 := Lib.hid hnx
      clear hnx hfleft
      have kf : Keeps [] wr (wr.alloc (.cells #[.string ⟨#[]⟩, .int .i64 0, .int .u32 0] 149)) := (Keeps.refl [] wr).alloc _
      have nf := heap_new wr (.cells #[.string ⟨#[]⟩, .int .i64 0, .int .u32 0] 149)
      obtain ⟨fb, hfb⟩ : ∃ n, n = wr.heap.size := ⟨_, rfl⟩
      have hfn : fb ≠ mb ∧ fb ≠ rb ∧ fb ≠ q ∧ w.heap.size ≤ fb ∧ wr.heap.size ≤ fb := by omega
      rw [← hfb] at nf
      have HF := Lib.hid (And.intro (TakerAt.keep hq kf (by simp)) (And.intro (kf.at_ hrb (by simp)) (And.intro (kf.at_ hmb (by simp)) (And.intro nf (And.intro (kf.row hrow (by simp)) (hkr.trans (kf.mono (by simp))))))))
      have Hfb := Lib.hid hfb
      clear hq hmb hrb hrow hkr kf nf hfb
      go_wp2_with fail
      rw [← Hfb.out]
      clear Hfb
      generalize wr.alloc (.cells #[.string ⟨#[]⟩, .int .i64 0, .int .u32 0] 149) = W3 at HF ⊢
      refine (tkText_spec W3 q t0 HF.out.1 (by unfold maxLen; omega) 40 (by decide)).mono ?_
      rintro e wc0 ⟨rfl, hq, hk1⟩
      have hleft := tkT_left t0 40
      have hbnd := tkT_len t0 (most := 40) (by decide) (by decide)
      have hn := Hn0.out
      obtain ⟨B0, hB⟩ : ∃ B, B = tkT t0 40 := ⟨_, rfl⟩
      rw [← hB] at hq hleft hn hbnd ⊢
      clear hB
      obtain ⟨y0, t1⟩ := B0
      dsimp only at hq hleft hn hbnd ⊢
      have ht1 : t1.1.length ≤ 1000000000 := by omega
      have Hn1 := Lib.hid hn
      clear hn hleft
      have nm := hk1.at_ HF.out.2.2.2.1 (by simp; omega)
      have cm := cells_at nm
      have fm := free_at nm
      have lm := lt_of_at nm
      have nm2 : (wc0.setCell ⟨fb, 0, none⟩ (.string ⟨y0.toArray⟩)).heap[fb]? = some (.cells #[.string ⟨y0.toArray⟩, .int .i64 0, .int .u32 0] 149 (0, 0)) := (heap_cell_same (i := 0) nm (.string ⟨y0.toArray⟩)).trans (by simp)
      have k2 : Keeps [fb] wc0 (wc0.setCell ⟨fb, 0, none⟩ (.string ⟨y0.toArray⟩)) := (Keeps.refl [fb] wc0).setCell (.inl (by simp)) _
      have hrow1 := hk1.row HF.out.2.2.2.2.1 (fun g hg => by have := (World.ownsRow.lt HF.out.2.2.2.2.1 g hg).1; simp; omega)
      have hfbn : ∀ g, vf.ownBlock = some g → g ≠ fb := fun g hg => by have := (World.ownsRow.lt HrowA.out g hg).2; omega
      have HE0 := Lib.hid (And.intro (hq.keep k2 (by simp; omega)) (And.intro (k2.at_ (hk1.at_ HF.out.2.1 (by simp; omega)) (by simp; omega)) (And.intro (k2.at_ (hk1.at_ HF.out.2.2.1 (by simp; omega)) (by simp; omega)) (And.intro nm2 (And.intro (k2.row hrow1 (fun g hg => by have := hfbn g hg; simpa using this)) ((HF.out.2.2.2.2.2.trans hk1).after k2 (fun x hx => .inr (by simp only [List.mem_singleton] at hx; omega))))))))
      clear hq hk1 nm nm2 k2 hrow1 hfbn
      go_wp2_with fail
      clear cm fm lm
      generalize wc0.setCell ⟨fb, 0, none⟩ (.string ⟨y0.toArray⟩) = wd0 at HE0 ⊢
      refine (tkNum_spec wd0 q t1 HE0.out.1 (by unfold maxLen; omega) 1048576 (by decide)).mono ?_
      rintro e wc1 ⟨rfl, hq, hk1⟩
      have hleft := tkN_left t1 1048576
      have hbnd := tkN_bounds t1 (most := 1048576) (by decide) (by decide)
      have hn := Hn1.out
      obtain ⟨B1, hB⟩ : ∃ B, B = tkN t1 1048576 := ⟨_, rfl⟩
      rw [← hB] at hq hleft hn hbnd ⊢
      clear hB
      obtain ⟨y1, t2⟩ := B1
      dsimp only at hq hleft hn hbnd ⊢
      have ht2 : t2.1.length ≤ 1000000000 := by omega
      have Hn2 := Lib.hid hn
      clear hn hleft
      have nm := hk1.at_ HE0.out.2.2.2.1 (by simp; omega)
      have cm := cells_at nm
      have fm := free_at nm
      have lm := lt_of_at nm
      have nm2 : (wc1.setCell ⟨fb, 1, none⟩ (.int .i64 y1)).heap[fb]? = some (.cells #[.string ⟨y0.toArray⟩, .int .i64 y1, .int .u32 0] 149 (0, 0)) := (heap_cell_same (i := 1) nm (.int .i64 y1)).trans (by simp)
      have k2 : Keeps [fb] wc1 (wc1.setCell ⟨fb, 1, none⟩ (.int .i64 y1)) := (Keeps.refl [fb] wc1).setCell (.inl (by simp)) _
      have hrow1 := hk1.row HE0.out.2.2.2.2.1 (fun g hg => by have := (World.ownsRow.lt HE0.out.2.2.2.2.1 g hg).1; simp; omega)
      have hfbn : ∀ g, vf.ownBlock = some g → g ≠ fb := fun g hg => by have := (World.ownsRow.lt HrowA.out g hg).2; omega
      have HE1 := Lib.hid (And.intro (hq.keep k2 (by simp; omega)) (And.intro (k2.at_ (hk1.at_ HE0.out.2.1 (by simp; omega)) (by simp; omega)) (And.intro (k2.at_ (hk1.at_ HE0.out.2.2.1 (by simp; omega)) (by simp; omega)) (And.intro nm2 (And.intro (k2.row hrow1 (fun g hg => by have := hfbn g hg; simpa using this)) ((HE0.out.2.2.2.2.2.trans hk1).after k2 (fun x hx => .inr (by simp only [List.mem_singleton] at hx; omega))))))))
      clear hq hk1 nm nm2 k2 hrow1 hfbn
      go_wp2_with fail
      clear cm fm lm
      generalize wc1.setCell ⟨fb, 1, none⟩ (.int .i64 y1) = wd1 at HE1 ⊢
      refine (tkNum_spec wd1 q t2 HE1.out.1 (by unfold maxLen; omega) 4294967295 (by decide)).mono ?_
      rintro e wc2 ⟨rfl, hq, hk1⟩
      have hleft := tkN_left t2 4294967295
      have hbnd := tkN_bounds t2 (most := 4294967295) (by decide) (by decide)
      have hn := Hn2.out
      obtain ⟨B2, hB⟩ : ∃ B, B = tkN t2 4294967295 := ⟨_, rfl⟩
      rw [← hB] at hq hleft hn hbnd ⊢
      clear hB
      obtain ⟨y2, t3⟩ := B2
      dsimp only at hq hleft hn hbnd ⊢
      have ht3 : t3.1.length ≤ 1000000000 := by omega
      have Hn3 := Lib.hid hn
      clear hn hleft
      have z2 : IntKind.u32.wrap y2 = y2 := IntWalk.u32_in _ (by omega)
      have nm := hk1.at_ HE1.out.2.2.2.1 (by simp; omega)
      have cm := cells_at nm
      have fm := free_at nm
      have lm := lt_of_at nm
      have nm2 : (wc2.setCell ⟨fb, 2, none⟩ (.int .u32 y2)).heap[fb]? = some (.cells #[.string ⟨y0.toArray⟩, .int .i64 y1, .int .u32 y2] 149 (0, 0)) := (heap_cell_same (i := 2) nm (.int .u32 y2)).trans (by simp)
      have k2 : Keeps [fb] wc2 (wc2.setCell ⟨fb, 2, none⟩ (.int .u32 y2)) := (Keeps.refl [fb] wc2).setCell (.inl (by simp)) _
      have hrow1 := hk1.row HE1.out.2.2.2.2.1 (fun g hg => by have := (World.ownsRow.lt HE1.out.2.2.2.2.1 g hg).1; simp; omega)
      have hfbn : ∀ g, vf.ownBlock = some g → g ≠ fb := fun g hg => by have := (World.ownsRow.lt HrowA.out g hg).2; omega
      have HE2 := Lib.hid (And.intro (hq.keep k2 (by simp; omega)) (And.intro (k2.at_ (hk1.at_ HE1.out.2.1 (by simp; omega)) (by simp; omega)) (And.intro (k2.at_ (hk1.at_ HE1.out.2.2.1 (by simp; omega)) (by simp; omega)) (And.intro nm2 (And.intro (k2.row hrow1 (fun g hg => by have := hfbn g hg; simpa using this)) ((HE1.out.2.2.2.2.2.trans hk1).after k2 (fun x hx => .inr (by simp only [List.mem_singleton] at hx; omega))))))))
      clear hq hk1 nm nm2 k2 hrow1 hfbn
      go_upto_region 14 with fail
      clear cm fm lm
      generalize wc2.setCell ⟨fb, 2, none⟩ (.int .u32 y2) = wd2 at HE2 ⊢
      have cf4 := cells_at HE2.out.2.2.2.1
      have lf4 := lt_of_at HE2.out.2.2.2.1
      have cm4 := cells_at HE2.out.2.2.1
      have lm4 := lt_of_at HE2.out.2.2.1
      have hwz := HE2.out.2.2.2.2.2.size
      go_wp2_with (at_builtin; refine wpList_append_own _ rfl (.tmp 37) (.tmp 39) 61 rfl w.heap.size 149 ifl _ 3 32 Tryz.underlying61 hif hzf0 hzf1 hzf2 rfl (by decide) vf k (F.flatMap encFileT) rfl (HE2.out.2.2.2.2.1.alloc _) ⟨wd2.heap.size, 0, none⟩ 1 1 [.string ⟨y0.toArray⟩, .int .i64 y1, .int .u32 y2] rfl rfl (news_of (heap_new wd2 _)) (by simp [Value.oneCell']) (by simp only [maxLen]; omega) (by omega) (by simp; omega) ?_; intro v8 w8 hown8 hgrow8 hnil; clear hnil; obtain ⟨ao8, cp8, hv8, -, -, -⟩ := row_slice hown8; subst hv8; have nm8 := (hgrow8.block mb (by simp; omega) (fun e => row_ne_type HE2.out.2.2.2.2.1 HE2.out.2.2.1 (by decide) _ e.symm rfl)).trans (heap_old HE2.out.2.2.1 _); have cm8 := cells_at nm8; have fm8 := free_at nm8; have lm8 := lt_of_at nm8)
      have hown9 : w8.ownsRow w.heap.size 149 3 (.slice ao8 (k + 1) cp8) (k + 1) ((fileSt s6 (k + 1)).1.flatMap encFileT) := by
        rw [Hn3.out, List.flatMap_append]
        simpa [encFileT] using hown8
      have k89 : Keeps [mb] w8 (w8.setCell ⟨mb, 6, none⟩ (.slice ao8 (k + 1) cp8)) := (Keeps.refl [mb] w8).setCell (.inl (by simp)) _
      have nm9 : (w8.setCell ⟨mb, 6, none⟩ (.slice ao8 (k + 1) cp8)).heap[mb]? = some (.cells #[.string ⟨x0.toArray⟩, .int .i64 x1, .int .i64 x2, .int .i64 x3, .int .i64 x4, .int .i64 x5, .slice ao8 (k + 1) cp8, .slice none 0 0] 63 (0, 0)) := (heap_cell_same (i := 6) nm8 _).trans (by simp)
      have hvl : ∀ g, vf.ownBlock = some g → w.heap.size ≤ g := fun g hg => (World.ownsRow.lt HE2.out.2.2.2.2.1 g hg).1
      have hk8 : Keeps [q] w w8 := keeps_grownM (HE2.out.2.2.2.2.2.alloc _) hgrow8 hvl
      have nr8 : w8.heap[rb]? = some (.cells #[.string ⟨#[]⟩, .int .i64 0, .int .i64 0, .int .i64 0, .int .i64 0, .int .i64 0, .slice none 0 0, .slice none 0 0] 63 (0, 0)) := (hgrow8.block rb (by have := lt_of_at HE2.out.2.1; simp; omega) (fun e => row_ne_type HE2.out.2.2.2.2.1 HE2.out.2.1 (by decide) _ e.symm rfl)).trans (heap_old HE2.out.2.1 _)
      have hq8 : TakerAt w8 q t3 := (hgrow8.block q (by have := lt_of_at HE2.out.1; simp; omega) (fun e => row_ne_type HE2.out.2.2.2.2.1 HE2.out.1 (by decide) _ e.symm rfl)).trans (heap_old HE2.out.1 _)
      have HX := Lib.hid (And.intro nm9 (And.intro (k89.at_ nr8 (by simp; omega)) (And.intro (k89.row hown9 (fun g hg => by have := row_ne_type hown9 nm8 (by decide) g hg; simpa using this)) (And.intro (hq8.keep k89 (by simp; omega)) (hk8.after k89 (fun x hx => .inr (by simp only [List.mem_singleton] at hx; omega)))))))
      clear hown8 hown9 hgrow8 k89 nm9 hvl hk8 nr8 hq8
      go_roundg (2 - (k + 1))
      case measure => have := Hg.out; omega
      case rel => exact ⟨k + 1, .slice ao8 (k + 1) cp8, by omega, rfl, by go_num, HX.out.1, HX.out.2.1, HX.out.2.2.1, by rw [Hn3.out]; exact HX.out.2.2.2.1, HX.out.2.2.2.2⟩
    · obtain rfl : k = 2 := by omega
      clear hlt
      obtain ⟨S, hS⟩ : ∃ S, S = fileSt s6 2 := ⟨_, rfl⟩
      rw [← hS] at hrow hq hfl hfleft
      have HS := Lib.hid hS
      clear hS
      obtain ⟨FL, s7⟩ := S
      dsimp only at hrow hq hfl hfleft
      have hl7 : s7.1.length ≤ 1000000000 := by omega
      have HE := Lib.hid (And.intro hmb (And.intro hrb (And.intro hrow hkr)))
      clear hmb hrb hrow hkr hfleft
      go_wp2_with fail
      refine (tkNum_spec wr q s7 hq (by unfold maxLen; omega) 50 (by decide)).mono ?_
      rintro e w6 ⟨rfl, hq6, hk6⟩
      have hleft := tkN_left s7 50
      have hbnd := tkN_bounds s7 (most := 50) (by decide) (by decide)
      obtain ⟨B, hB⟩ : ∃ B, B = tkN s7 50 := ⟨_, rfl⟩
      rw [← hB] at hq6 hleft hbnd ⊢
      have HN := Lib.hid hB
      clear hB
      obtain ⟨n0, s8⟩ := B
      dsimp only at hq6 hleft hbnd HN ⊢
      obtain ⟨n, rfl⟩ : ∃ n : Nat, n0 = n := ⟨n0.toNat, by omega⟩
      have hl8 : s8.1.length ≤ 1000000000 := by omega
      have hn50 : n ≤ 50 := by omega
      have HF := Lib.hid (And.intro (hk6.at_ HE.out.1 (by simp; omega)) (And.intro (hk6.at_ HE.out.2.1 (by simp; omega)) (And.intro (hk6.row HE.out.2.2.1 (fun g hg => by have := (World.ownsRow.lt HE.out.2.2.1 g hg).1; simp; omega)) (And.intro hq6 (HE.out.2.2.2.trans hk6)))))
      clear hq hq6 hk6 HE hleft hbnd
      go_wp2_with fail
      go_loopg [5] n (TgRel2 w q rb mb x0 x1 x2 x3 x4 x5 vf FL s8 n)
      case atStart => exact ⟨0, .slice none 0 0, Nat.zero_le _, rfl, by simp, HF.out.1, HF.out.2.1, HF.out.2.2.1, by simpa [srcSt] using World.ownsRow_nil w6 w.heap.size _ 1, HF.out.2.2.2.1, HF.out.2.2.2.2⟩
      case round =>
        obtain ⟨j, vo, hj, hgj, rfl, hmb, hrb, hrf, hro, hq, hkr⟩ := hrel
        clear HF
        have Hgj := Lib.hid hgj
        clear hgj
        have hwr := hkr.size
        have hmlt := lt_of_at hmb
        have hrlt := lt_of_at hrb
        have hqlt2 := lt_of_at hq
        have hsl := srcSt_len s8 j
        have hsleft := srcSt_left s8 j
        have hgo := srcSt_go s8 j
        have hend : (j = n ∨ (srcSt s8 j).2.2 ≠ 0) → srcSt s8 n = srcSt s8 j := by
          rintro (rfl | h)
          · rfl
          · have := srcSt_stop s8 j h (n - j)
            rwa [show j + (n - j) = n from by omega] at this
        obtain ⟨S, hS⟩ : ∃ S, S = srcSt s8 j := ⟨_, rfl⟩
        rw [← hS] at hro hq hsl hsleft hgo hend
        clear hS
        obtain ⟨SL, l0, e0⟩ := S
        dsimp only at hro hq hsl hsleft hgo hend
        have hlt0 : l0.length ≤ 1000000000 := by omega
        by_cases hcont : j < n ∧ e0 = 0
        · obtain ⟨hlt, rfl⟩ := hcont
          have hgo2 := hgo rfl
          obtain ⟨A, hA⟩ : ∃ A, A = tkT (l0, 0) 16 := ⟨_, rfl⟩
          have htl := tkT_left (l0, 0) 16
          rw [← hA] at hgo2 htl
          have HtA := Lib.hid hA
          clear hA hgo hend
          obtain ⟨sj, t1⟩ := A
          dsimp only at hgo2 htl
          have Htk := Lib.hid hgo2
          clear hgo2
          have hgt : ((n - j : Nat) : Int) > 0 := by omega
          have hsb : IntKind.i64.wrap (((n - j : Nat) : Int) - 1) = ((n - (j + 1) : Nat) : Int) := by rw [IntWalk.i64_in _ (by omega)]; omega
          obtain ⟨ao7, cp7, hvo, -, -, -⟩ := row_slice hro
          subst hvo
          have nq : wr.heap[q]? = some (.cells #[.string ⟨l0.toArray⟩, .int .i64 0] 161 (0, 0)) := hq
          obtain ⟨sq, hsq⟩ : ∃ s : ByteArray, s = ⟨l0.toArray⟩ := ⟨_, rfl⟩
          rw [← hsq] at nq
          have cq := cells_at nq
          have d3 : wr.cell? ⟨mb, 7, none⟩ = some (.slice ao7 SL.length cp7) := by rw [cells_at hmb]; rfl
          have kd : Keeps [] wr wr.drew := (Keeps.refl [] wr).drew
          have Htx := Lib.hid (tkText_spec wr.drew q (l0, 0) (TakerAt.keep hq kd (by simp)) (by unfold maxLen; simp only; omega) 16 (by decide))
          have HJ := Lib.hid (And.intro hmb (And.intro hrb (And.intro hrf (And.intro hro hkr))))
          clear hmb hrb hrf hro hq hkr nq hsq
          generalize n - j = nj at hgt hsb ⊢
          go_wp2_with fail
          clear cq
          refine wp_region_last_n 7 (fun w' => w'.cell? ⟨mb, 7, none⟩ = some (.slice ao7 SL.length cp7)) (by kernel_rfl) (by kernel_rfl) (by kernel_rfl) ?_
          have hS : (fun w' : World => w'.cell? ⟨mb, 7, none⟩ = some (.slice ao7 SL.length cp7)) wr.drew := d3
          simp only [List.take_succ_cons, List.take_zero, List.toList_toArray]
          refine wpAnyH_take (i := 0) (v := ?_) rfl (by kernel_rfl) (by kernel_rfl) (by kernel_rfl) (fun _ _ _ h => h) (Or.inl ⟨by rfl, ?_⟩) (by assumption) ?_
          rotate_left
          · intro w' s1; go_simp; (try with_reducible rfl)
          simp only [Act.put, List.getElem_toArray, List.getElem_cons_succ, List.getElem_cons_zero, List.setIfInBounds_toArray, List.set_cons_zero, List.set_cons_succ]
          refine wpAnyH_take (i := 1) (v := ?_) rfl (by kernel_rfl) (by kernel_rfl) (by kernel_rfl) (fun _ _ _ h => h) (Or.inl ⟨by rfl, ?_⟩) (by assumption) ?_
          rotate_left
          · intro w' s1; go_simp; (try with_reducible rfl)
          simp only [Act.put, List.getElem_toArray, List.getElem_cons_succ, List.getElem_cons_zero, List.setIfInBounds_toArray, List.set_cons_zero, List.set_cons_succ]
          refine wpAnyH_take (i := 2) (v := ?_) rfl (by kernel_rfl) (by kernel_rfl) (by kernel_rfl) (fun _ _ _ h => h) (Or.inl ⟨by rfl, ?_⟩) (by assumption) ?_
          rotate_left
          · intro w' s1; go_simp; (try with_reducible rfl)
          simp only [Act.put, List.getElem_toArray, List.getElem_cons_succ, List.getElem_cons_zero, List.setIfInBounds_toArray, List.set_cons_zero, List.set_cons_succ]
          refine wpAnyH_ready (rs := [3]) (by kernel_rfl) (by simp) ?_
          refine AllReadyH.cons rfl (fun K hK => ?_) AllReadyH.nil
          go_simp
          go_at_call 79
          refine Htx.out.mono ?_
          rintro e w5 ⟨rfl, hq5, hk5⟩
          rw [← HtA.out] at hq5 ⊢
          dsimp only at hq5 ⊢
          have k5 : Keeps [q] wr w5 := (kd.mono (by simp)).trans hk5
          have nm5 := k5.at_ HJ.out.1 (by simp; omega)
          have hro5 := k5.row HJ.out.2.2.2.1 (fun g hg => by have := (World.ownsRow.lt HJ.out.2.2.2.1 g hg).1; simp; omega)
          have e0 : w5.cell? ⟨mb, 7, none⟩ = some (.slice ao7 SL.length cp7) := by rw [cells_at nm5]; rfl
          have H5 := Lib.hid (And.intro nm5 (And.intro (k5.at_ HJ.out.2.1 (by simp; omega)) (And.intro (k5.row HJ.out.2.2.1 (fun g hg => by have := (World.ownsRow.lt HJ.out.2.2.1 g hg).1; simp; omega)) (And.intro hro5 (And.intro hq5 (HJ.out.2.2.2.2.trans k5))))))
          go_simp
          refine hK.out _ _ e0 (fun hS => ?_)
          clear hK K hq5 hk5 k5 nm5 hro5
          try simp only [Act.put, List.getElem_toArray, List.getElem_cons_succ, List.getElem_cons_zero, List.setIfInBounds_toArray, List.set_cons_zero, List.set_cons_succ]
          have hw5 := H5.out.2.2.2.2.2.size
          refine wpAnyH_ready (rs := [4]) (by kernel_rfl) (by simp) ?_
          refine AllReadyH.cons rfl (fun K hK => ?_) AllReadyH.nil
          go_simp
          refine hK.out _ _ (by go_keep) (fun hS => ?_)
          clear hK K
          try simp only [Act.put, List.getElem_toArray, List.getElem_cons_succ, List.getElem_cons_zero, List.setIfInBounds_toArray, List.set_cons_zero, List.set_cons_succ]
          refine wpAnyH_ready (rs := [5]) (by kernel_rfl) (by simp) ?_
          refine AllReadyH.cons rfl (fun K hK => ?_) AllReadyH.nil
          refine step_append_own rfl (.tmp 57) (.tmp 60) 25 rfl w.heap.size 9 ist _ 1 16 Tryz.underlying25 his hzs0 hzs1 hzs2 rfl (by decide) (.slice ao7 SL.length cp7) SL.length (SL.flatMap encS1T) (by rfl) (H5.out.2.2.2.1.alloc _) ⟨w5.heap.size, 0, none⟩ 1 1 [.string ⟨sj.toArray⟩] (by rfl) rfl (news_of (heap_new w5 _)) (by simp [Value.oneCell']) (by simp only [maxLen]; omega) (by omega) (by simp; omega) ?_
          intro v8 w8 hown8 hgrow8
          obtain ⟨ao8, cp8, rfl, -, -, -⟩ := row_slice hown8
          have nm8 := (hgrow8.block mb (by have := lt_of_at H5.out.1; simp; omega) (fun e => row_ne_type H5.out.2.2.2.1 H5.out.1 (by decide) _ e.symm rfl)).trans (heap_old H5.out.1 _)
          have nr8 := (hgrow8.block rb (by have := lt_of_at H5.out.2.1; simp; omega) (fun e => row_ne_type H5.out.2.2.2.1 H5.out.2.1 (by decide) _ e.symm rfl)).trans (heap_old H5.out.2.1 _)
          have nq8 : TakerAt w8 q t1 := (hgrow8.block q (by have := lt_of_at H5.out.2.2.2.2.1; simp; omega) (fun e => row_ne_type H5.out.2.2.2.1 H5.out.2.2.2.2.1 (by decide) _ e.symm rfl)).trans (heap_old H5.out.2.2.2.2.1 _)
          have kg8 := keeps_rowM hgrow8
          have hrf8 := kg8.row (H5.out.2.2.1.alloc (.cells #[.string ⟨sj.toArray⟩] 9)) (rows_neM H5.out.2.2.2.1 H5.out.2.2.1 (by decide))
          have hk8 : Keeps [q] w w8 := keeps_grownM (H5.out.2.2.2.2.2.alloc _) hgrow8 (fun g hg => (World.ownsRow.lt H5.out.2.2.2.1 g hg).1)
          have e1 : w8.cell? ⟨mb, 7, none⟩ = some (.slice ao7 SL.length cp7) := by rw [cells_at nm8]; rfl
          have H8 := Lib.hid (And.intro nm8 (And.intro nr8 (And.intro nq8 (And.intro hrf8 (And.intro hk8 hown8)))))
          refine hK.out _ _ e1 (fun hS => ?_)
          clear hK K nr8 nq8 kg8 hrf8 hk8 hgrow8 hown8
          try simp only [Act.put, List.getElem_toArray, List.getElem_cons_succ, List.getElem_cons_zero, List.setIfInBounds_toArray, List.set_cons_zero, List.set_cons_succ]
          refine wpAnyH_take (i := 6) (v := ?_) rfl (by kernel_rfl) (by kernel_rfl) (by kernel_rfl) (fun _ _ _ h => h) (Or.inl ⟨by rfl, ?_⟩) (by assumption) ?_
          rotate_left
          · intro w' s1; go_simp; (try with_reducible rfl)
          simp only [Act.put, List.getElem_toArray, List.getElem_cons_succ, List.getElem_cons_zero, List.setIfInBounds_toArray, List.set_cons_zero, List.set_cons_succ]
          have f8 := free_at nm8
          have l8 := lt_of_at nm8
          have c8 := cells_at nm8
          refine wpAnyH_done (by kernel_rfl) ?_ _
          refine lastQ_step rfl (fun K hK => ?_)
          go_simp
          refine hK _ _ ?_
          clear hK K
          clear hS e0 e1 d3 f8 l8 c8
          have k89 : Keeps [mb] w8 (w8.setCell ⟨mb, 7, none⟩ (.slice ao8 (SL.length + 1) cp8)) := (Keeps.refl [mb] w8).setCell (.inl (by simp)) _
          have nm9 : (w8.setCell ⟨mb, 7, none⟩ (.slice ao8 (SL.length + 1) cp8)).heap[mb]? = some (.cells #[.string ⟨x0.toArray⟩, .int .i64 x1, .int .i64 x2, .int .i64 x3, .int .i64 x4, .int .i64 x5, vf, .slice ao8 (SL.length + 1) cp8] 63 (0, 0)) := (heap_cell_same (i := 7) nm8 _).trans (by simp)
          have hown9 : w8.ownsRow w.heap.size 9 1 (.slice ao8 (SL.length + 1) cp8) (srcSt s8 (j + 1)).1.length ((srcSt s8 (j + 1)).1.flatMap encS1T) := by
            rw [Htk.out, List.length_append, List.flatMap_append]
            simpa [encS1T] using H8.out.2.2.2.2.2
          have HX := Lib.hid (And.intro nm9 (And.intro (k89.at_ H8.out.2.1 (by simp; omega)) (And.intro (k89.row H8.out.2.2.2.1 (fun g hg => by have := row_ne_type H8.out.2.2.2.1 nm8 (by decide) g hg; simpa using this)) (And.intro (k89.row hown9 (fun g hg => by have := row_ne_type hown9 nm8 (by decide) g hg; simpa using this)) (And.intro (TakerAt.keep H8.out.2.2.1 k89 (by simp; omega)) (H8.out.2.2.2.2.1.after k89 (fun x hx => .inr (by simp only [List.mem_singleton] at hx; omega))))))))
          clear nm9 k89 hown9 nm8 H8
          generalize w8.setCell ⟨mb, 7, none⟩ (.slice ao8 (SL.length + 1) cp8) = W9 at HX ⊢
          go_wp2_with fail
          go_roundg (n - (j + 1))
          case measure => have := Hgj.out; omega
          case rel => exact ⟨j + 1, .slice ao8 (SL.length + 1) cp8, by omega, rfl, rfl, HX.out.1, HX.out.2.1, HX.out.2.2.1, HX.out.2.2.2.1, by rw [Htk.out]; exact HX.out.2.2.2.2.1, HX.out.2.2.2.2.2⟩
        · have hfin : fieldsT s0 = (⟨x0, x1, x2, x3, x4, x5, FL, SL⟩, (l0, e0)) := by
            have h1 := hend (by omega)
            unfold fieldsT
            simp only [← HA0.out, ← HA1.out, ← HA2.out, ← HA3.out, ← HA4.out, ← HA5.out, ← HS.out, ← HN.out, Int.toNat_natCast, h1]
          have Hfin := Lib.hid hfin
          clear hfin hend hgo
          obtain ⟨ao6, cp6, hvf, -, -, -⟩ := row_slice hrf
          obtain ⟨ao7, cp7, hvo, -, -, -⟩ := row_slice hro
          subst hvf hvo
          have hse := set8 (v0 := .string ⟨x0.toArray⟩) (v1 := .int .i64 x1) (v2 := .int .i64 x2) (v3 := .int .i64 x3) (v4 := .int .i64 x4) (v5 := .int .i64 x5) (v6 := .slice ao6 2 cp6) (v7 := .slice ao7 SL.length cp7) hrb
          have nq : wr.heap[q]? = some (.cells #[.string ⟨l0.toArray⟩, .int .i64 e0] 161 (0, 0)) := hq
          obtain ⟨sq, hsq⟩ : ∃ s : ByteArray, s = ⟨l0.toArray⟩ := ⟨_, rfl⟩
          rw [← hsq] at nq
          have cq := cells_at nq
          have cm := cells_at hmb
          have lm := lt_of_at hmb
          have cr := cells_at hrb
          have fr := free_at hrb
          have lr := lt_of_at hrb
          have HE := Lib.hid (And.intro hse (And.intro hq (And.intro hkr (And.intro hrb (And.intro hrf hro)))))
          have hways : (n - j = 0) ∨ (0 < n - j ∧ (e0 == 0) = false) := by
            by_cases hj0 : n - j = 0
            · exact .inl hj0
            · exact .inr ⟨by omega, by rw [beq_eq_false_iff_ne]; omega⟩
          clear hse hq hkr hrb hrf hro hmb hsq nq hcont
          generalize n - j = nj at hways ⊢
          have hdone : ∀ wz, wz = ((((((((wr.setCell ⟨rb, 0, none⟩ (.string ⟨x0.toArray⟩)).setCell ⟨rb, 1, none⟩ (.int .i64 x1)).setCell ⟨rb, 2, none⟩ (.int .i64 x2)).setCell ⟨rb, 3, none⟩ (.int .i64 x3)).setCell ⟨rb, 4, none⟩ (.int .i64 x4)).setCell ⟨rb, 5, none⟩ (.int .i64 x5)).setCell ⟨rb, 6, none⟩ (.slice ao6 2 cp6)).setCell ⟨rb, 7, none⟩ (.slice ao7 SL.length cp7)) → MetaRT w.heap.size wz [.string ⟨x0.toArray⟩, .int .i64 x1, .int .i64 x2, .int .i64 x3, .int .i64 x4, .int .i64 x5, .slice ao6 2 cp6, .slice ao7 SL.length cp7] (fieldsT s0).1 ∧ TakerAt wz q (fieldsT s0).2 ∧ Keeps [q] w wz := by
            rintro wz rfl
            have kf := HE.out.1.2
            rw [Hfin.out]
            refine ⟨⟨_, _, rfl, ?_, ?_⟩, TakerAt.keep HE.out.2.1 kf (by simp; omega), HE.out.2.2.1.after kf (fun x hx => .inr (by simp only [List.mem_singleton] at hx; omega))⟩
            · have hh := kf.row HE.out.2.2.2.2.1 (fun g hg => by have := row_ne_type HE.out.2.2.2.2.1 HE.out.2.2.2.1 (by decide) g hg; simpa using this)
              rw [show FL.length = 2 from hfl]
              exact hh
            · exact kf.row HE.out.2.2.2.2.2 (fun g hg => by have := row_ne_type HE.out.2.2.2.2.2 HE.out.2.2.2.1 (by decide) g hg; simpa using this)
          have Hdone := Lib.hid hdone
          clear hdone
          rcases hways with rfl | ⟨hpos, he1⟩
          · go_wp2_with fail
            have hc := cells_at HE.out.1.1
            refine bodyPost_ret (v := .agg #[.string ⟨x0.toArray⟩, .int .i64 x1, .int .i64 x2, .int .i64 x3, .int .i64 x4, .int .i64 x5, .slice ao6 2 cp6, .slice ao7 SL.length cp7]) ?_ rfl ⟨_, rfl, Hdone.out _ rfl⟩
            simp [results, Tryz.results111, go_sem, hc, lr]
          · have hgt : ((nj : Nat) : Int) > 0 := by omega
            go_wp2_with fail
            have hc := cells_at HE.out.1.1
            refine bodyPost_ret (v := .agg #[.string ⟨x0.toArray⟩, .int .i64 x1, .int .i64 x2, .int .i64 x3, .int .i64 x4, .int .i64 x5, .slice ao6 2 cp6, .slice ao7 SL.length cp7]) ?_ rfl ⟨_, rfl, Hdone.out _ rfl⟩
            simp [results, Tryz.results111, go_sem, hc, lr]
end Go.Proofs.YtjffdcflkkgpfaaGreat

namespace Go.Proofs.YtjffdcflkkgpfaaGreat
open Go Go.RowKit
open Go.Op (bytesLess)

def saneT (m : MetaT) : Bool := isIDB m.id && decide (0 ≤ m.mn) && decide (m.mn < m.mx) && decide (m.mx ≤ 1099511627776) && decide (1 ≤ m.level) && decide (m.level ≤ 9) && decide (0 ≤ m.series) && decide (m.series ≤ m.samples) && decide (m.samples ≤ 1073741824)

def fileOk (n : List UInt8) (z : Int) (b : ByteArray) : Prop := n = b.data.toList ∧ 0 ≤ z ∧ z ≤ 1048576

def MkRel1 (w : World) (n1 n2 : List UInt8) (s1 s2 : Int) (gk : Nat) (u : Value) (wr : World) : Prop := ∃ k, k ≤ 2 ∧ gk = 2 - k ∧ u = .int .i64 k ∧ (1 ≤ k → fileOk n1 s1 chunksB) ∧ (2 ≤ k → fileOk n2 s2 indexB) ∧ Keeps [] w wr

/-- What Check answers. -/
def chkV (m : MetaT) : Int := if okT m then 0 else 3

theorem chkV_no {m : MetaT} (h : okT m = false) : chkV m = 3 := by unfold chkV; rw [h]; rfl

theorem okT_not {m : MetaT} (h : saneT m = false) : okT m = false := by
  have e : okT m = (saneT m && (match m.files with
    | [(n1, s1, _), (n2, s2, _)] => decide (n1 = chunksB.data.toList) && decide (n2 = indexB.data.toList) && decide (0 ≤ s1) && decide (s1 ≤ 1048576) && decide (0 ≤ s2) && decide (s2 ≤ 1048576)
    | _ => false) && decide (m.sources.length ≤ 50) && m.sources.all (fun s => isIDB s && decide (s ≠ m.id)) && risesT m.sources) := rfl
  rw [e, h]
  simp

theorem okT_files {m : MetaT} (h : ¬ m.files.length = 2) : okT m = false := by
  unfold okT
  match hf : m.files with
  | [(n1, s1, _), (n2, s2, _)] => rw [hf] at h; exact absurd rfl h
  | [] => simp
  | [_] => simp
  | _ :: _ :: _ :: _ => simp

theorem okT_bad {m : MetaT} {n1 n2 : List UInt8} {s1 c1 s2 c2 : Int} (hfs : m.files = [(n1, s1, c1), (n2, s2, c2)]) (h : ¬ (fileOk n1 s1 chunksB ∧ fileOk n2 s2 indexB)) : okT m = false := by
  cases hc : okT m with
  | false => rfl
  | true =>
    unfold okT at hc
    rw [hfs] at hc
    simp only [Bool.and_eq_true, decide_eq_true_eq] at hc
    obtain ⟨⟨⟨⟨_, ⟨⟨⟨⟨⟨f1, f2⟩, f3⟩, f4⟩, f5⟩, f6⟩⟩, _⟩, _⟩, _⟩ := hc
    exact absurd ⟨⟨f1, f3, f4⟩, ⟨f2, f5, f6⟩⟩ h

theorem less_triG : ∀ a b : List UInt8, bytesLess a b = !(bytesLess b a || b == a)
  | [], [] => by simp [bytesLess]
  | [], y :: b => by simp [bytesLess]
  | x :: a, [] => by simp [bytesLess]
  | x :: a, y :: b => by
    have ih := less_triG a b
    by_cases h1 : x = y
    · subst h1
      have hx : ¬ x < x := fun h => by have := UInt8.lt_iff_toNat_lt.1 h; omega
      simp [bytesLess, hx, ih]
    · have hne : ¬ y = x := fun e => h1 e.symm
      by_cases h2 : x < y
      · have h3 : ¬ y < x := fun h => by have := UInt8.lt_iff_toNat_lt.1 h; have := UInt8.lt_iff_toNat_lt.1 h2; omega
        simp [bytesLess, h2, h3, hne]
      · have h3 : y < x := by
          rw [UInt8.lt_iff_toNat_lt] at h2 ⊢
          have : x.toNat ≠ y.toNat := fun e => h1 (UInt8.toNat_inj.1 e)
          omega
        simp [bytesLess, h1, h2, h3]

theorem risesT_of : ∀ {l : List (List UInt8)}, (∀ i (h : i + 1 < l.length), bytesLess l[i] l[i + 1] = true) → risesT l = true
  | [], _ => rfl
  | [_], _ => rfl
  | a :: b :: l, h => by
    unfold risesT
    rw [show bytesLess a b = true from h 0 (by simp)]
    exact risesT_of (l := b :: l) (fun i hi => h (i + 1) (by simp only [List.length_cons] at hi ⊢; omega))

theorem risesT_at : ∀ {l : List (List UInt8)}, risesT l = true → ∀ i (h : i + 1 < l.length), bytesLess l[i] l[i + 1] = true
  | [], _, i, h => absurd h (by simp)
  | [_], _, i, h => absurd h (by simp)
  | a :: b :: l, hr, i, h => by
    unfold risesT at hr
    rw [Bool.and_eq_true] at hr
    match i with
    | 0 => exact hr.1
    | i + 1 => exact risesT_at (l := b :: l) hr.2 i (by simp only [List.length_cons] at h ⊢; omega)

theorem okT_yes {m : MetaT} {n1 n2 : List UInt8} {s1 c1 s2 c2 : Int} (hs : saneT m = true) (hfs : m.files = [(n1, s1, c1), (n2, s2, c2)]) (h1 : fileOk n1 s1 chunksB) (h2 : fileOk n2 s2 indexB) (h50 : m.sources.length ≤ 50) (ha : ∀ x ∈ m.sources, isIDB x = true ∧ x ≠ m.id) (hr : risesT m.sources = true) : okT m = true := by
  have e : okT m = (saneT m && (match m.files with
    | [(n1, s1, _), (n2, s2, _)] => decide (n1 = chunksB.data.toList) && decide (n2 = indexB.data.toList) && decide (0 ≤ s1) && decide (s1 ≤ 1048576) && decide (0 ≤ s2) && decide (s2 ≤ 1048576)
    | _ => false) && decide (m.sources.length ≤ 50) && m.sources.all (fun s => isIDB s && decide (s ≠ m.id)) && risesT m.sources) := rfl
  have ha2 : m.sources.all (fun s => isIDB s && decide (s ≠ m.id)) = true := List.all_eq_true.2 fun x hx => by simp [ha x hx]
  rw [e, hs, hfs, ha2, hr]
  simp [h1.1, h1.2, h2.1, h2.2, h50]

theorem okT_src {m : MetaT} (h : okT m = true) : (∀ x ∈ m.sources, isIDB x = true ∧ x ≠ m.id) ∧ risesT m.sources = true := by
  have e : okT m = (saneT m && (match m.files with
    | [(n1, s1, _), (n2, s2, _)] => decide (n1 = chunksB.data.toList) && decide (n2 = indexB.data.toList) && decide (0 ≤ s1) && decide (s1 ≤ 1048576) && decide (0 ≤ s2) && decide (s2 ≤ 1048576)
    | _ => false) && decide (m.sources.length ≤ 50) && m.sources.all (fun s => isIDB s && decide (s ≠ m.id)) && risesT m.sources) := rfl
  rw [e] at h
  simp only [Bool.and_eq_true] at h
  obtain ⟨⟨⟨⟨_, _⟩, _⟩, h4⟩, h5⟩ := h
  refine ⟨fun x hx => ?_, h5⟩
  have := List.all_eq_true.1 h4 x hx
  simpa using this

theorem okT_one {m : MetaT} {x : List UInt8} (hx : x ∈ m.sources) (h : ¬ (isIDB x = true ∧ x ≠ m.id)) : okT m = false := by
  cases hc : okT m with
  | false => rfl
  | true => exact absurd ((okT_src hc).1 x hx) h

theorem okT_fall {m : MetaT} {i : Nat} (hi : i + 1 < m.sources.length) (h : bytesLess m.sources[i] m.sources[i + 1] = false) : okT m = false := by
  cases hc : okT m with
  | false => rfl
  | true => have := risesT_at (okT_src hc).2 i hi; rw [h] at this; cases this

def MkRel2 (w : World) (S : List (List UInt8)) (id : List UInt8) (gk : Nat) (u : Value) (wr : World) : Prop := ∃ j, j ≤ S.length ∧ gk = S.length - j ∧ u = .int .i64 j ∧ (∀ x ∈ S.take j, isIDB x = true ∧ x ≠ id) ∧ (∀ i (_ : i + 1 < S.length), i + 1 < j → bytesLess S[i] S[i + 1] = true) ∧ Keeps [] w wr

theorem okT_many {m : MetaT} (h : ¬ m.sources.length ≤ 50) : okT m = false := by
  unfold okT
  simp [h]

set_option linter.unusedSimpArgs false in
set_option maxRecDepth 100000 in
set_option maxHeartbeats 4000000 in
theorem metaCheckG_spec (B : Nat) (w : World) (vs : List Value) (m : MetaT) (h : MetaRT B w vs m) :
    Calls Tryz.prog 53 #[.agg vs.toArray] w fun e w' => e = .returned (.int .i64 (chkV m)) ∧ Keeps [] w w' := by
  obtain ⟨vf, vo, rfl, hf, ho⟩ := h
  have Hf := Lib.hid (And.intro hf ho)
  obtain ⟨af, cf, rfl, -, -, -⟩ := row_slice hf
  obtain ⟨ao, co, rfl, -, hno, -⟩ := row_slice ho
  have Hid := Lib.hid (fun W s => isID_spec W s)
  have hR : (okT m = true → True) := fun _ => trivial
  clear hf ho hR
  go_enter Tryz.func53, Tryz.ntmps53
  go_wp2_with fail
  refine (Hid.out _ _).mono ?_
  rintro e w1 ⟨rfl, rfl⟩
  have n0 := heap_new w (.cells #[.string ⟨m.id.toArray⟩, .int .i64 m.mn, .int .i64 m.mx, .int .i64 m.level, .int .i64 m.series, .int .i64 m.samples, .slice af m.files.length cf, .slice ao m.sources.length co] 63)
  have k0 : Keeps [] w (w.alloc (.cells #[.string ⟨m.id.toArray⟩, .int .i64 m.mn, .int .i64 m.mx, .int .i64 m.level, .int .i64 m.series, .int .i64 m.samples, .slice af m.files.length cf, .slice ao m.sources.length co] 63)) := (Keeps.refl [] w).alloc _
  have H0 := Lib.hid (And.intro n0 (And.intro (k0.row Hf.out.1 (by simp)) (And.intro (k0.row Hf.out.2 (by simp)) k0)))
  clear n0 k0
  generalize w.alloc (.cells #[.string ⟨m.id.toArray⟩, .int .i64 m.mn, .int .i64 m.mx, .int .i64 m.level, .int .i64 m.series, .int .i64 m.samples, .slice af m.files.length cf, .slice ao m.sources.length co] 63) = W0 at H0 ⊢
  generalize w.heap.size = mb at H0 ⊢
  have cb := cells_at H0.out.1
  have lb := lt_of_at H0.out.1
  rw [show (⟨m.id.toArray⟩ : ByteArray).data.toList = m.id from rfl]
  cases g0 : isIDB m.id with
  | false =>
    have HS := Lib.hid (chkV_no <| okT_not (m := m) (by unfold saneT; simp [g0]))
    clear g0
    go_wp2_with fail
    go_ret
    exact ⟨by rw [HS.out]; rfl, H0.out.2.2.2⟩
  | true =>
    by_cases g1 : m.mn ≥ 0
    rotate_left
    · have HS := Lib.hid (chkV_no <| okT_not (m := m) (by unfold saneT; simp [g0, g1]))
      go_wp2_with fail
      go_ret
      exact ⟨by rw [HS.out]; rfl, H0.out.2.2.2⟩
    by_cases g2 : m.mn < m.mx
    rotate_left
    · have HS := Lib.hid (chkV_no <| okT_not (m := m) (by unfold saneT; simp [g0, g1, g2]))
      go_wp2_with fail
      go_ret
      exact ⟨by rw [HS.out]; rfl, H0.out.2.2.2⟩
    by_cases g3 : m.mx ≤ 1099511627776
    rotate_left
    · have HS := Lib.hid (chkV_no <| okT_not (m := m) (by unfold saneT; simp [g0, g1, g2, g3]))
      go_wp2_with fail
      go_ret
      exact ⟨by rw [HS.out]; rfl, H0.out.2.2.2⟩
    by_cases g4 : m.level ≥ 1
    rotate_left
    · have HS := Lib.hid (chkV_no <| okT_not (m := m) (by unfold saneT; simp [g0, g1, g2, g3, g4]))
      go_wp2_with fail
      go_ret
      exact ⟨by rw [HS.out]; rfl, H0.out.2.2.2⟩
    by_cases g5 : m.level ≤ 9
    rotate_left
    · have HS := Lib.hid (chkV_no <| okT_not (m := m) (by unfold saneT; simp [g0, g1, g2, g3, g4, g5]))
      go_wp2_with fail
      go_ret
      exact ⟨by rw [HS.out]; rfl, H0.out.2.2.2⟩
    by_cases g6 : m.series ≥ 0
    rotate_left
    · have HS := Lib.hid (chkV_no <| okT_not (m := m) (by unfold saneT; simp [g0, g1, g2, g3, g4, g5, g6]))
      go_wp2_with fail
      go_ret
      exact ⟨by rw [HS.out]; rfl, H0.out.2.2.2⟩
    by_cases g7 : m.samples ≥ m.series
    rotate_left
    · have HS := Lib.hid (chkV_no <| okT_not (m := m) (by unfold saneT; simp [g0, g1, g2, g3, g4, g5, g6, g7]))
      go_wp2_with fail
      go_ret
      exact ⟨by rw [HS.out]; rfl, H0.out.2.2.2⟩
    by_cases g8 : m.samples ≤ 1073741824
    rotate_left
    · have HS := Lib.hid (chkV_no <| okT_not (m := m) (by unfold saneT; simp [g0, g1, g2, g3, g4, g5, g6, g7, g8]))
      go_wp2_with fail
      go_ret
      exact ⟨by rw [HS.out]; rfl, H0.out.2.2.2⟩
    have hsane : saneT m = true := by unfold saneT; simp [g0, g1, g2, g3, g4, g5, g6, g7, g8]
    by_cases hl2 : m.files.length = 2
    rotate_left
    · have HS := Lib.hid (chkV_no <| okT_files (m := m) hl2)
      have hl2' : ¬ (m.files.length : Int) = 2 := by omega
      have hl3 : ((m.files.length : Int) == 2) = false := by rw [beq_eq_false_iff_ne]; omega
      have hl4 : ((m.files.length : Int) != 2) = true := by rw [bne, hl3]; rfl
      go_wp2_with fail
      go_ret
      exact ⟨by rw [HS.out]; rfl, H0.out.2.2.2⟩
    by_cases hs50 : m.sources.length ≤ 50
    rotate_left
    · have HS := Lib.hid (chkV_no <| okT_many (m := m) hs50)
      have hl3 : ((m.files.length : Int) == 2) = true := by rw [beq_iff_eq]; omega
      have hl4 : ((m.files.length : Int) != 2) = false := by rw [bne, hl3]; rfl
      have hs5 : (m.sources.length : Int) > 50 := by omega
      go_wp2_with fail
      go_ret
      exact ⟨by rw [HS.out]; rfl, H0.out.2.2.2⟩
    have hs51 : ¬ (m.sources.length : Int) > 50 := by omega
    have hs52 : ¬ 50 < m.sources.length := by omega
    have hs53 : decide (50 < m.sources.length) = false := by rw [decide_eq_false_iff_not]; omega
    obtain ⟨⟨n1, s1, c1⟩, ⟨n2, s2, c2⟩, hfs⟩ : ∃ f1 f2, m.files = [f1, f2] := by
      match hf : m.files with
      | [f1, f2] => exact ⟨f1, f2, rfl⟩
      | [] => rw [hf] at hl2; simp at hl2
      | [_] => rw [hf] at hl2; simp at hl2
      | _ :: _ :: _ :: _ => rw [hf] at hl2; simp at hl2
    have hrow := H0.out.2.1
    rw [hfs] at hrow
    have Hrow := Lib.hid (show W0.ownsRow B 149 3 (.slice af 2 cf) 2 ([(n1, s1, c1), (n2, s2, c2)].flatMap encFileT) from hrow)
    have Hok := Lib.hid (And.intro hsane (And.intro hfs hs50))
    clear hrow hfs hsane
    rw [hl2] at cb ⊢
    clear hl2
    go_wp2_with fail
    clear g0 g1 g2 g3 g4 g5 g6 g7 g8
    go_loopg [72] 2 (MkRel1 W0 n1 n2 s1 s2)
    case atStart => exact ⟨0, by decide, rfl, rfl, fun h => absurd h (by decide), fun h => absurd h (by decide), Keeps.refl _ _⟩
    case round =>
      obtain ⟨k, hk, hgk, rfl, hf1, hf2, hkr⟩ := hrel
      have Hg := Lib.hid (And.intro hgk (And.intro hf1 hf2))
      clear hgk hf1 hf2 cb lb
      rcases (by omega : k = 0 ∨ k = 1 ∨ k = 2) with rfl | rfl | rfl
      · obtain ⟨b6, of6, ea, -, hb6, hc6⟩ := (SliceFrom.keep (sliceFrom_row (enc := encFileT) (size := 3) (fun _ => rfl) (L := [(n1, s1, c1), (n2, s2, c2)]) Hrow.out) hkr (by simp)).atI 0 (by simp)
        subst ea
        obtain ⟨nb, hnb⟩ : ∃ b : ByteArray, b = ⟨n1.toArray⟩ := ⟨_, rfl⟩
        have d0 : wr.cell? ⟨b6, of6, none⟩ = some (.string nb) := by rw [hnb]; exact hc6 0 (by decide)
        have d1 : wr.cell? ⟨b6, of6 + 1, none⟩ = some (.int .i64 s1) := hc6 1 (by decide)
        have d2 : wr.cell? ⟨b6, of6 + 2, none⟩ = some (.int .u32 c1) := hc6 2 (by decide)
        have hnd : nb.data.toList = n1 := by rw [hnb]
        clear hc6 hnb
        have kr2 : Keeps [] wr (wr.alloc (.cells #[.string nb, .int .i64 s1, .int .u32 c1] 149)) := (Keeps.refl [] wr).alloc _
        have nr2 := heap_new wr (.cells #[.string nb, .int .i64 s1, .int .u32 c1] 149)
        have Hk := Lib.hid (hkr.trans kr2)
        have Hnd := Lib.hid hnd
        clear kr2 hkr hnd
        go_upto_region 7 with fail
        clear d0 d1 d2
        generalize wr.alloc (.cells #[.string nb, .int .i64 s1, .int .u32 c1] 149) = W2 at nr2 Hk ⊢
        generalize wr.heap.size = bx at nr2 ⊢
        have cx := cells_at nr2
        have lx := lt_of_at nr2
        have e0 : W2.cell? ⟨bx, 0, none⟩ = some (.string nb) := by rw [cx]; rfl
        have e1 : W2.cell? ⟨bx, 1, none⟩ = some (.int .i64 s1) := by rw [cx]; rfl
        by_cases hn : n1 = chunksB.data.toList
        rotate_left
        · have HS := Lib.hid (chkV_no <| okT_bad Hok.out.2.1 (fun h => hn h.1.1))
          have hse : (nb.toList == [99, 104, 117, 110, 107, 115]) = false := by rw [ByteArray.toList_eq, Hnd.out, beq_eq_false_iff_ne]; exact fun e => hn (e.trans (by decide))
          clear hn
          refine wp_region_held_drew (S := fun w' => w'.cell? ⟨bx, 0, none⟩ = some (.string nb) ∧ w'.cell? ⟨bx, 1, none⟩ = some (.int .i64 s1)) (by kernel_rfl) ⟨e0, e1⟩ (fun hS => ?_)
          refine wpAnyH_take (i := 0) (v := ?_) rfl (by kernel_rfl) (by kernel_rfl) (by kernel_rfl) (fun _ _ _ h => h) (Or.inl ⟨by rfl, ?_⟩) (by assumption) ?_
          rotate_left
          · intro w' hSw; obtain ⟨s1, s2⟩ := hSw; go_simp; (try with_reducible rfl)
          simp only [Act.put, List.getElem_toArray, List.getElem_cons_succ, List.getElem_cons_zero, List.setIfInBounds_toArray, List.set_cons_zero, List.set_cons_succ]
          refine wpAnyH_take (i := 1) (v := ?_) rfl (by kernel_rfl) (by kernel_rfl) (by kernel_rfl) (fun _ _ _ h => h) (Or.inl ⟨by rfl, ?_⟩) (by assumption) ?_
          rotate_left
          · intro w' hSw; obtain ⟨s1, s2⟩ := hSw; go_simp; (try with_reducible rfl)
          simp only [Act.put, List.getElem_toArray, List.getElem_cons_succ, List.getElem_cons_zero, List.setIfInBounds_toArray, List.set_cons_zero, List.set_cons_succ]
          refine wpAnyH_take (i := 3) (v := ?_) rfl (by kernel_rfl) (by kernel_rfl) (by kernel_rfl) (fun _ _ _ h => h) (Or.inl ⟨by rfl, ?_⟩) (by assumption) ?_
          rotate_left
          · intro w' hSw; obtain ⟨s1, s2⟩ := hSw; go_simp; (try with_reducible rfl)
          simp only [Act.put, List.getElem_toArray, List.getElem_cons_succ, List.getElem_cons_zero, List.setIfInBounds_toArray, List.set_cons_zero, List.set_cons_succ]
          refine wpAnyH_ready (rs := [2]) (by kernel_rfl) (by simp) ?_
          refine AllReadyH.cons rfl (fun K hK => ?_) AllReadyH.nil
          go_simp
          refine hK.out _ _ ⟨by go_keep, by go_keep⟩ (fun hS => ?_)
          clear hK K
          try simp only [Act.put, List.getElem_toArray, List.getElem_cons_succ, List.getElem_cons_zero, List.setIfInBounds_toArray, List.set_cons_zero, List.set_cons_succ]
          refine wpAnyH_take (i := 4) (v := ?_) rfl (by kernel_rfl) (by kernel_rfl) (by kernel_rfl) (fun _ _ _ h => h) (Or.inl ⟨by rfl, ?_⟩) (by assumption) ?_
          rotate_left
          · intro w' hSw; obtain ⟨s1, s2⟩ := hSw; go_simp; (try with_reducible rfl)
          simp only [Act.put, List.getElem_toArray, List.getElem_cons_succ, List.getElem_cons_zero, List.setIfInBounds_toArray, List.set_cons_zero, List.set_cons_succ]
          refine wpAnyH_ready (rs := [5]) (by kernel_rfl) (by simp) ?_
          refine AllReadyH.cons rfl (fun K hK => ?_) AllReadyH.nil
          go_simp
          refine hK.out _ _ ⟨by go_keep, by go_keep⟩ (fun hS => ?_)
          clear hK K
          try simp only [Act.put, List.getElem_toArray, List.getElem_cons_succ, List.getElem_cons_zero, List.setIfInBounds_toArray, List.set_cons_zero, List.set_cons_succ]
          refine wpAnyH_take (i := 6) (v := ?_) rfl (by kernel_rfl) (by kernel_rfl) (by kernel_rfl) (fun _ _ _ h => h) (Or.inl ⟨by rfl, ?_⟩) (by assumption) ?_
          rotate_left
          · intro w' hSw; obtain ⟨s1, s2⟩ := hSw; go_simp; (try with_reducible rfl)
          simp only [Act.put, List.getElem_toArray, List.getElem_cons_succ, List.getElem_cons_zero, List.setIfInBounds_toArray, List.set_cons_zero, List.set_cons_succ]
          refine wpAnyH_take (i := 7) (v := ?_) rfl (by kernel_rfl) (by kernel_rfl) (by kernel_rfl) (fun _ _ _ h => h) (Or.inl ⟨by rfl, ?_⟩) (by assumption) ?_
          rotate_left
          · intro w' hSw; obtain ⟨s1, s2⟩ := hSw; go_simp; (try with_reducible rfl)
          simp only [Act.put, List.getElem_toArray, List.getElem_cons_succ, List.getElem_cons_zero, List.setIfInBounds_toArray, List.set_cons_zero, List.set_cons_succ]
          refine wpAnyH_take (i := 8) (v := undef) rfl (by kernel_rfl) (by kernel_rfl) (by kernel_rfl) (fun _ _ _ h => h) (Or.inr ⟨by rfl, rfl⟩) (by assumption) ?_
          simp only [Act.put, List.getElem_toArray, List.getElem_cons_succ, List.getElem_cons_zero, List.setIfInBounds_toArray, List.set_cons_zero, List.set_cons_succ]
          refine wpAnyH_take (i := 9) (v := undef) rfl (by kernel_rfl) (by kernel_rfl) (by kernel_rfl) (fun _ _ _ h => h) (Or.inr ⟨by rfl, rfl⟩) (by assumption) ?_
          simp only [Act.put, List.getElem_toArray, List.getElem_cons_succ, List.getElem_cons_zero, List.setIfInBounds_toArray, List.set_cons_zero, List.set_cons_succ]
          refine wpAnyH_take (i := 10) (v := undef) rfl (by kernel_rfl) (by kernel_rfl) (by kernel_rfl) (fun _ _ _ h => h) (Or.inr ⟨by rfl, rfl⟩) (by assumption) ?_
          simp only [Act.put, List.getElem_toArray, List.getElem_cons_succ, List.getElem_cons_zero, List.setIfInBounds_toArray, List.set_cons_zero, List.set_cons_succ]
          refine wpAnyH_take (i := 11) (v := ?_) rfl (by kernel_rfl) (by kernel_rfl) (by kernel_rfl) (fun _ _ _ h => h) (Or.inl ⟨by rfl, ?_⟩) (by assumption) ?_
          rotate_left
          · intro w' hSw; obtain ⟨s1, s2⟩ := hSw; go_simp; (try with_reducible rfl)
          simp only [Act.put, List.getElem_toArray, List.getElem_cons_succ, List.getElem_cons_zero, List.setIfInBounds_toArray, List.set_cons_zero, List.set_cons_succ]
          refine wpAnyH_take (i := 12) (v := ?_) rfl (by kernel_rfl) (by kernel_rfl) (by kernel_rfl) (fun _ _ _ h => h) (Or.inl ⟨by rfl, ?_⟩) (by assumption) ?_
          rotate_left
          · intro w' hSw; obtain ⟨s1, s2⟩ := hSw; go_simp; (try with_reducible rfl)
          simp only [Act.put, List.getElem_toArray, List.getElem_cons_succ, List.getElem_cons_zero, List.setIfInBounds_toArray, List.set_cons_zero, List.set_cons_succ]
          refine wpAnyH_take (i := 13) (v := undef) rfl (by kernel_rfl) (by kernel_rfl) (by kernel_rfl) (fun _ _ _ h => h) (Or.inr ⟨by rfl, rfl⟩) (by assumption) ?_
          simp only [Act.put, List.getElem_toArray, List.getElem_cons_succ, List.getElem_cons_zero, List.setIfInBounds_toArray, List.set_cons_zero, List.set_cons_succ]
          refine wpAnyH_take (i := 14) (v := undef) rfl (by kernel_rfl) (by kernel_rfl) (by kernel_rfl) (fun _ _ _ h => h) (Or.inr ⟨by rfl, rfl⟩) (by assumption) ?_
          simp only [Act.put, List.getElem_toArray, List.getElem_cons_succ, List.getElem_cons_zero, List.setIfInBounds_toArray, List.set_cons_zero, List.set_cons_succ]
          refine wpAnyH_take (i := 15) (v := undef) rfl (by kernel_rfl) (by kernel_rfl) (by kernel_rfl) (fun _ _ _ h => h) (Or.inr ⟨by rfl, rfl⟩) (by assumption) ?_
          simp only [Act.put, List.getElem_toArray, List.getElem_cons_succ, List.getElem_cons_zero, List.setIfInBounds_toArray, List.set_cons_zero, List.set_cons_succ]
          refine wpAnyH_take (i := 16) (v := ?_) rfl (by kernel_rfl) (by kernel_rfl) (by kernel_rfl) (fun _ _ _ h => h) (Or.inl ⟨by rfl, ?_⟩) (by assumption) ?_
          rotate_left
          · intro w' hSw; obtain ⟨s1, s2⟩ := hSw; go_simp; (try with_reducible rfl)
          simp only [Act.put, List.getElem_toArray, List.getElem_cons_succ, List.getElem_cons_zero, List.setIfInBounds_toArray, List.set_cons_zero, List.set_cons_succ]
          refine wpAnyH_done (by kernel_rfl) ?_ _
          clear hS
          go_wp2_with fail
          go_ret
          exact ⟨by rw [HS.out]; rfl, (H0.out.2.2.2.trans Hk.out).trans (by repeat (first | exact Keeps.refl _ _ | refine Keeps.drew ?_ | refine Keeps.drewN ?_ _ | refine Keeps.alloc ?_ _))⟩
        have hse : (nb.toList == [99, 104, 117, 110, 107, 115]) = true := by rw [ByteArray.toList_eq, Hnd.out, hn]; decide
        by_cases hz0 : s1 < 0
        · have HS := Lib.hid (chkV_no <| okT_bad Hok.out.2.1 (fun h => by have := h.1.2.1; omega))
          refine wp_region_held_drew (S := fun w' => w'.cell? ⟨bx, 0, none⟩ = some (.string nb) ∧ w'.cell? ⟨bx, 1, none⟩ = some (.int .i64 s1)) (by kernel_rfl) ⟨e0, e1⟩ (fun hS => ?_)
          refine wpAnyH_take (i := 0) (v := ?_) rfl (by kernel_rfl) (by kernel_rfl) (by kernel_rfl) (fun _ _ _ h => h) (Or.inl ⟨by rfl, ?_⟩) (by assumption) ?_
          rotate_left
          · intro w' hSw; obtain ⟨s1, s2⟩ := hSw; go_simp; (try with_reducible rfl)
          simp only [Act.put, List.getElem_toArray, List.getElem_cons_succ, List.getElem_cons_zero, List.setIfInBounds_toArray, List.set_cons_zero, List.set_cons_succ]
          refine wpAnyH_take (i := 1) (v := ?_) rfl (by kernel_rfl) (by kernel_rfl) (by kernel_rfl) (fun _ _ _ h => h) (Or.inl ⟨by rfl, ?_⟩) (by assumption) ?_
          rotate_left
          · intro w' hSw; obtain ⟨s1, s2⟩ := hSw; go_simp; (try with_reducible rfl)
          simp only [Act.put, List.getElem_toArray, List.getElem_cons_succ, List.getElem_cons_zero, List.setIfInBounds_toArray, List.set_cons_zero, List.set_cons_succ]
          refine wpAnyH_take (i := 3) (v := ?_) rfl (by kernel_rfl) (by kernel_rfl) (by kernel_rfl) (fun _ _ _ h => h) (Or.inl ⟨by rfl, ?_⟩) (by assumption) ?_
          rotate_left
          · intro w' hSw; obtain ⟨s1, s2⟩ := hSw; go_simp; (try with_reducible rfl)
          simp only [Act.put, List.getElem_toArray, List.getElem_cons_succ, List.getElem_cons_zero, List.setIfInBounds_toArray, List.set_cons_zero, List.set_cons_succ]
          refine wpAnyH_ready (rs := [2]) (by kernel_rfl) (by simp) ?_
          refine AllReadyH.cons rfl (fun K hK => ?_) AllReadyH.nil
          go_simp
          refine hK.out _ _ ⟨by go_keep, by go_keep⟩ (fun hS => ?_)
          clear hK K
          try simp only [Act.put, List.getElem_toArray, List.getElem_cons_succ, List.getElem_cons_zero, List.setIfInBounds_toArray, List.set_cons_zero, List.set_cons_succ]
          refine wpAnyH_take (i := 4) (v := ?_) rfl (by kernel_rfl) (by kernel_rfl) (by kernel_rfl) (fun _ _ _ h => h) (Or.inl ⟨by rfl, ?_⟩) (by assumption) ?_
          rotate_left
          · intro w' hSw; obtain ⟨s1, s2⟩ := hSw; go_simp; (try with_reducible rfl)
          simp only [Act.put, List.getElem_toArray, List.getElem_cons_succ, List.getElem_cons_zero, List.setIfInBounds_toArray, List.set_cons_zero, List.set_cons_succ]
          refine wpAnyH_ready (rs := [5]) (by kernel_rfl) (by simp) ?_
          refine AllReadyH.cons rfl (fun K hK => ?_) AllReadyH.nil
          go_simp
          refine hK.out _ _ ⟨by go_keep, by go_keep⟩ (fun hS => ?_)
          clear hK K
          try simp only [Act.put, List.getElem_toArray, List.getElem_cons_succ, List.getElem_cons_zero, List.setIfInBounds_toArray, List.set_cons_zero, List.set_cons_succ]
          refine wpAnyH_take (i := 6) (v := ?_) rfl (by kernel_rfl) (by kernel_rfl) (by kernel_rfl) (fun _ _ _ h => h) (Or.inl ⟨by rfl, ?_⟩) (by assumption) ?_
          rotate_left
          · intro w' hSw; obtain ⟨s1, s2⟩ := hSw; go_simp; (try with_reducible rfl)
          simp only [Act.put, List.getElem_toArray, List.getElem_cons_succ, List.getElem_cons_zero, List.setIfInBounds_toArray, List.set_cons_zero, List.set_cons_succ]
          refine wpAnyH_take (i := 7) (v := ?_) rfl (by kernel_rfl) (by kernel_rfl) (by kernel_rfl) (fun _ _ _ h => h) (Or.inl ⟨by rfl, ?_⟩) (by assumption) ?_
          rotate_left
          · intro w' hSw; obtain ⟨s1, s2⟩ := hSw; go_simp; (try with_reducible rfl)
          simp only [Act.put, List.getElem_toArray, List.getElem_cons_succ, List.getElem_cons_zero, List.setIfInBounds_toArray, List.set_cons_zero, List.set_cons_succ]
          refine wpAnyH_take (i := 8) (v := ?_) rfl (by kernel_rfl) (by kernel_rfl) (by kernel_rfl) (fun _ _ _ h => h) (Or.inl ⟨by rfl, ?_⟩) (by assumption) ?_
          rotate_left
          · intro w' hSw; obtain ⟨s1, s2⟩ := hSw; go_simp; (try with_reducible rfl)
          simp only [Act.put, List.getElem_toArray, List.getElem_cons_succ, List.getElem_cons_zero, List.setIfInBounds_toArray, List.set_cons_zero, List.set_cons_succ]
          refine wpAnyH_take (i := 9) (v := ?_) rfl (by kernel_rfl) (by kernel_rfl) (by kernel_rfl) (fun _ _ _ h => h) (Or.inl ⟨by rfl, ?_⟩) (by assumption) ?_
          rotate_left
          · intro w' hSw; obtain ⟨s1, s2⟩ := hSw; go_simp; (try with_reducible rfl)
          simp only [Act.put, List.getElem_toArray, List.getElem_cons_succ, List.getElem_cons_zero, List.setIfInBounds_toArray, List.set_cons_zero, List.set_cons_succ]
          refine wpAnyH_take (i := 10) (v := ?_) rfl (by kernel_rfl) (by kernel_rfl) (by kernel_rfl) (fun _ _ _ h => h) (Or.inl ⟨by rfl, ?_⟩) (by assumption) ?_
          rotate_left
          · intro w' hSw; obtain ⟨s1, s2⟩ := hSw; go_simp; (try with_reducible rfl)
          simp only [Act.put, List.getElem_toArray, List.getElem_cons_succ, List.getElem_cons_zero, List.setIfInBounds_toArray, List.set_cons_zero, List.set_cons_succ]
          refine wpAnyH_take (i := 11) (v := ?_) rfl (by kernel_rfl) (by kernel_rfl) (by kernel_rfl) (fun _ _ _ h => h) (Or.inl ⟨by rfl, ?_⟩) (by assumption) ?_
          rotate_left
          · intro w' hSw; obtain ⟨s1, s2⟩ := hSw; go_simp; (try with_reducible rfl)
          simp only [Act.put, List.getElem_toArray, List.getElem_cons_succ, List.getElem_cons_zero, List.setIfInBounds_toArray, List.set_cons_zero, List.set_cons_succ]
          refine wpAnyH_take (i := 12) (v := ?_) rfl (by kernel_rfl) (by kernel_rfl) (by kernel_rfl) (fun _ _ _ h => h) (Or.inl ⟨by rfl, ?_⟩) (by assumption) ?_
          rotate_left
          · intro w' hSw; obtain ⟨s1, s2⟩ := hSw; go_simp; (try with_reducible rfl)
          simp only [Act.put, List.getElem_toArray, List.getElem_cons_succ, List.getElem_cons_zero, List.setIfInBounds_toArray, List.set_cons_zero, List.set_cons_succ]
          refine wpAnyH_take (i := 13) (v := undef) rfl (by kernel_rfl) (by kernel_rfl) (by kernel_rfl) (fun _ _ _ h => h) (Or.inr ⟨by rfl, rfl⟩) (by assumption) ?_
          simp only [Act.put, List.getElem_toArray, List.getElem_cons_succ, List.getElem_cons_zero, List.setIfInBounds_toArray, List.set_cons_zero, List.set_cons_succ]
          refine wpAnyH_take (i := 14) (v := undef) rfl (by kernel_rfl) (by kernel_rfl) (by kernel_rfl) (fun _ _ _ h => h) (Or.inr ⟨by rfl, rfl⟩) (by assumption) ?_
          simp only [Act.put, List.getElem_toArray, List.getElem_cons_succ, List.getElem_cons_zero, List.setIfInBounds_toArray, List.set_cons_zero, List.set_cons_succ]
          refine wpAnyH_take (i := 15) (v := undef) rfl (by kernel_rfl) (by kernel_rfl) (by kernel_rfl) (fun _ _ _ h => h) (Or.inr ⟨by rfl, rfl⟩) (by assumption) ?_
          simp only [Act.put, List.getElem_toArray, List.getElem_cons_succ, List.getElem_cons_zero, List.setIfInBounds_toArray, List.set_cons_zero, List.set_cons_succ]
          refine wpAnyH_take (i := 16) (v := ?_) rfl (by kernel_rfl) (by kernel_rfl) (by kernel_rfl) (fun _ _ _ h => h) (Or.inl ⟨by rfl, ?_⟩) (by assumption) ?_
          rotate_left
          · intro w' hSw; obtain ⟨s1, s2⟩ := hSw; go_simp; (try with_reducible rfl)
          simp only [Act.put, List.getElem_toArray, List.getElem_cons_succ, List.getElem_cons_zero, List.setIfInBounds_toArray, List.set_cons_zero, List.set_cons_succ]
          refine wpAnyH_done (by kernel_rfl) ?_ _
          clear hS
          go_wp2_with fail
          go_ret
          exact ⟨by rw [HS.out]; rfl, (H0.out.2.2.2.trans Hk.out).trans (by repeat (first | exact Keeps.refl _ _ | refine Keeps.drew ?_ | refine Keeps.drewN ?_ _ | refine Keeps.alloc ?_ _))⟩
        by_cases hz1 : s1 > 1048576
        · have HS := Lib.hid (chkV_no <| okT_bad Hok.out.2.1 (fun h => by have := h.1.2.2; omega))
          refine wp_region_held_drew (S := fun w' => w'.cell? ⟨bx, 0, none⟩ = some (.string nb) ∧ w'.cell? ⟨bx, 1, none⟩ = some (.int .i64 s1)) (by kernel_rfl) ⟨e0, e1⟩ (fun hS => ?_)
          refine wpAnyH_take (i := 0) (v := ?_) rfl (by kernel_rfl) (by kernel_rfl) (by kernel_rfl) (fun _ _ _ h => h) (Or.inl ⟨by rfl, ?_⟩) (by assumption) ?_
          rotate_left
          · intro w' hSw; obtain ⟨s1, s2⟩ := hSw; go_simp; (try with_reducible rfl)
          simp only [Act.put, List.getElem_toArray, List.getElem_cons_succ, List.getElem_cons_zero, List.setIfInBounds_toArray, List.set_cons_zero, List.set_cons_succ]
          refine wpAnyH_take (i := 1) (v := ?_) rfl (by kernel_rfl) (by kernel_rfl) (by kernel_rfl) (fun _ _ _ h => h) (Or.inl ⟨by rfl, ?_⟩) (by assumption) ?_
          rotate_left
          · intro w' hSw; obtain ⟨s1, s2⟩ := hSw; go_simp; (try with_reducible rfl)
          simp only [Act.put, List.getElem_toArray, List.getElem_cons_succ, List.getElem_cons_zero, List.setIfInBounds_toArray, List.set_cons_zero, List.set_cons_succ]
          refine wpAnyH_take (i := 3) (v := ?_) rfl (by kernel_rfl) (by kernel_rfl) (by kernel_rfl) (fun _ _ _ h => h) (Or.inl ⟨by rfl, ?_⟩) (by assumption) ?_
          rotate_left
          · intro w' hSw; obtain ⟨s1, s2⟩ := hSw; go_simp; (try with_reducible rfl)
          simp only [Act.put, List.getElem_toArray, List.getElem_cons_succ, List.getElem_cons_zero, List.setIfInBounds_toArray, List.set_cons_zero, List.set_cons_succ]
          refine wpAnyH_ready (rs := [2]) (by kernel_rfl) (by simp) ?_
          refine AllReadyH.cons rfl (fun K hK => ?_) AllReadyH.nil
          go_simp
          refine hK.out _ _ ⟨by go_keep, by go_keep⟩ (fun hS => ?_)
          clear hK K
          try simp only [Act.put, List.getElem_toArray, List.getElem_cons_succ, List.getElem_cons_zero, List.setIfInBounds_toArray, List.set_cons_zero, List.set_cons_succ]
          refine wpAnyH_take (i := 4) (v := ?_) rfl (by kernel_rfl) (by kernel_rfl) (by kernel_rfl) (fun _ _ _ h => h) (Or.inl ⟨by rfl, ?_⟩) (by assumption) ?_
          rotate_left
          · intro w' hSw; obtain ⟨s1, s2⟩ := hSw; go_simp; (try with_reducible rfl)
          simp only [Act.put, List.getElem_toArray, List.getElem_cons_succ, List.getElem_cons_zero, List.setIfInBounds_toArray, List.set_cons_zero, List.set_cons_succ]
          refine wpAnyH_ready (rs := [5]) (by kernel_rfl) (by simp) ?_
          refine AllReadyH.cons rfl (fun K hK => ?_) AllReadyH.nil
          go_simp
          refine hK.out _ _ ⟨by go_keep, by go_keep⟩ (fun hS => ?_)
          clear hK K
          try simp only [Act.put, List.getElem_toArray, List.getElem_cons_succ, List.getElem_cons_zero, List.setIfInBounds_toArray, List.set_cons_zero, List.set_cons_succ]
          refine wpAnyH_take (i := 6) (v := ?_) rfl (by kernel_rfl) (by kernel_rfl) (by kernel_rfl) (fun _ _ _ h => h) (Or.inl ⟨by rfl, ?_⟩) (by assumption) ?_
          rotate_left
          · intro w' hSw; obtain ⟨s1, s2⟩ := hSw; go_simp; (try with_reducible rfl)
          simp only [Act.put, List.getElem_toArray, List.getElem_cons_succ, List.getElem_cons_zero, List.setIfInBounds_toArray, List.set_cons_zero, List.set_cons_succ]
          refine wpAnyH_take (i := 7) (v := ?_) rfl (by kernel_rfl) (by kernel_rfl) (by kernel_rfl) (fun _ _ _ h => h) (Or.inl ⟨by rfl, ?_⟩) (by assumption) ?_
          rotate_left
          · intro w' hSw; obtain ⟨s1, s2⟩ := hSw; go_simp; (try with_reducible rfl)
          simp only [Act.put, List.getElem_toArray, List.getElem_cons_succ, List.getElem_cons_zero, List.setIfInBounds_toArray, List.set_cons_zero, List.set_cons_succ]
          refine wpAnyH_take (i := 8) (v := ?_) rfl (by kernel_rfl) (by kernel_rfl) (by kernel_rfl) (fun _ _ _ h => h) (Or.inl ⟨by rfl, ?_⟩) (by assumption) ?_
          rotate_left
          · intro w' hSw; obtain ⟨s1, s2⟩ := hSw; go_simp; (try with_reducible rfl)
          simp only [Act.put, List.getElem_toArray, List.getElem_cons_succ, List.getElem_cons_zero, List.setIfInBounds_toArray, List.set_cons_zero, List.set_cons_succ]
          refine wpAnyH_take (i := 9) (v := ?_) rfl (by kernel_rfl) (by kernel_rfl) (by kernel_rfl) (fun _ _ _ h => h) (Or.inl ⟨by rfl, ?_⟩) (by assumption) ?_
          rotate_left
          · intro w' hSw; obtain ⟨s1, s2⟩ := hSw; go_simp; (try with_reducible rfl)
          simp only [Act.put, List.getElem_toArray, List.getElem_cons_succ, List.getElem_cons_zero, List.setIfInBounds_toArray, List.set_cons_zero, List.set_cons_succ]
          refine wpAnyH_take (i := 10) (v := ?_) rfl (by kernel_rfl) (by kernel_rfl) (by kernel_rfl) (fun _ _ _ h => h) (Or.inl ⟨by rfl, ?_⟩) (by assumption) ?_
          rotate_left
          · intro w' hSw; obtain ⟨s1, s2⟩ := hSw; go_simp; (try with_reducible rfl)
          simp only [Act.put, List.getElem_toArray, List.getElem_cons_succ, List.getElem_cons_zero, List.setIfInBounds_toArray, List.set_cons_zero, List.set_cons_succ]
          refine wpAnyH_take (i := 11) (v := ?_) rfl (by kernel_rfl) (by kernel_rfl) (by kernel_rfl) (fun _ _ _ h => h) (Or.inl ⟨by rfl, ?_⟩) (by assumption) ?_
          rotate_left
          · intro w' hSw; obtain ⟨s1, s2⟩ := hSw; go_simp; (try with_reducible rfl)
          simp only [Act.put, List.getElem_toArray, List.getElem_cons_succ, List.getElem_cons_zero, List.setIfInBounds_toArray, List.set_cons_zero, List.set_cons_succ]
          refine wpAnyH_take (i := 12) (v := ?_) rfl (by kernel_rfl) (by kernel_rfl) (by kernel_rfl) (fun _ _ _ h => h) (Or.inl ⟨by rfl, ?_⟩) (by assumption) ?_
          rotate_left
          · intro w' hSw; obtain ⟨s1, s2⟩ := hSw; go_simp; (try with_reducible rfl)
          simp only [Act.put, List.getElem_toArray, List.getElem_cons_succ, List.getElem_cons_zero, List.setIfInBounds_toArray, List.set_cons_zero, List.set_cons_succ]
          refine wpAnyH_take (i := 13) (v := ?_) rfl (by kernel_rfl) (by kernel_rfl) (by kernel_rfl) (fun _ _ _ h => h) (Or.inl ⟨by rfl, ?_⟩) (by assumption) ?_
          rotate_left
          · intro w' hSw; obtain ⟨s1, s2⟩ := hSw; go_simp; (try with_reducible rfl)
          simp only [Act.put, List.getElem_toArray, List.getElem_cons_succ, List.getElem_cons_zero, List.setIfInBounds_toArray, List.set_cons_zero, List.set_cons_succ]
          refine wpAnyH_take (i := 14) (v := ?_) rfl (by kernel_rfl) (by kernel_rfl) (by kernel_rfl) (fun _ _ _ h => h) (Or.inl ⟨by rfl, ?_⟩) (by assumption) ?_
          rotate_left
          · intro w' hSw; obtain ⟨s1, s2⟩ := hSw; go_simp; (try with_reducible rfl)
          simp only [Act.put, List.getElem_toArray, List.getElem_cons_succ, List.getElem_cons_zero, List.setIfInBounds_toArray, List.set_cons_zero, List.set_cons_succ]
          refine wpAnyH_take (i := 15) (v := ?_) rfl (by kernel_rfl) (by kernel_rfl) (by kernel_rfl) (fun _ _ _ h => h) (Or.inl ⟨by rfl, ?_⟩) (by assumption) ?_
          rotate_left
          · intro w' hSw; obtain ⟨s1, s2⟩ := hSw; go_simp; (try with_reducible rfl)
          simp only [Act.put, List.getElem_toArray, List.getElem_cons_succ, List.getElem_cons_zero, List.setIfInBounds_toArray, List.set_cons_zero, List.set_cons_succ]
          refine wpAnyH_take (i := 16) (v := ?_) rfl (by kernel_rfl) (by kernel_rfl) (by kernel_rfl) (fun _ _ _ h => h) (Or.inl ⟨by rfl, ?_⟩) (by assumption) ?_
          rotate_left
          · intro w' hSw; obtain ⟨s1, s2⟩ := hSw; go_simp; (try with_reducible rfl)
          simp only [Act.put, List.getElem_toArray, List.getElem_cons_succ, List.getElem_cons_zero, List.setIfInBounds_toArray, List.set_cons_zero, List.set_cons_succ]
          refine wpAnyH_done (by kernel_rfl) ?_ _
          clear hS
          go_wp2_with fail
          go_ret
          exact ⟨by rw [HS.out]; rfl, (H0.out.2.2.2.trans Hk.out).trans (by repeat (first | exact Keeps.refl _ _ | refine Keeps.drew ?_ | refine Keeps.drewN ?_ _ | refine Keeps.alloc ?_ _))⟩
        have Hok1 := Lib.hid (show fileOk n1 s1 chunksB from ⟨hn, by omega, by omega⟩)
        refine wp_region_held_drew (S := fun w' => w'.cell? ⟨bx, 0, none⟩ = some (.string nb) ∧ w'.cell? ⟨bx, 1, none⟩ = some (.int .i64 s1)) (by kernel_rfl) ⟨e0, e1⟩ (fun hS => ?_)
        refine wpAnyH_take (i := 0) (v := ?_) rfl (by kernel_rfl) (by kernel_rfl) (by kernel_rfl) (fun _ _ _ h => h) (Or.inl ⟨by rfl, ?_⟩) (by assumption) ?_
        rotate_left
        · intro w' hSw; obtain ⟨s1, s2⟩ := hSw; go_simp; (try with_reducible rfl)
        simp only [Act.put, List.getElem_toArray, List.getElem_cons_succ, List.getElem_cons_zero, List.setIfInBounds_toArray, List.set_cons_zero, List.set_cons_succ]
        refine wpAnyH_take (i := 1) (v := ?_) rfl (by kernel_rfl) (by kernel_rfl) (by kernel_rfl) (fun _ _ _ h => h) (Or.inl ⟨by rfl, ?_⟩) (by assumption) ?_
        rotate_left
        · intro w' hSw; obtain ⟨s1, s2⟩ := hSw; go_simp; (try with_reducible rfl)
        simp only [Act.put, List.getElem_toArray, List.getElem_cons_succ, List.getElem_cons_zero, List.setIfInBounds_toArray, List.set_cons_zero, List.set_cons_succ]
        refine wpAnyH_take (i := 3) (v := ?_) rfl (by kernel_rfl) (by kernel_rfl) (by kernel_rfl) (fun _ _ _ h => h) (Or.inl ⟨by rfl, ?_⟩) (by assumption) ?_
        rotate_left
        · intro w' hSw; obtain ⟨s1, s2⟩ := hSw; go_simp; (try with_reducible rfl)
        simp only [Act.put, List.getElem_toArray, List.getElem_cons_succ, List.getElem_cons_zero, List.setIfInBounds_toArray, List.set_cons_zero, List.set_cons_succ]
        refine wpAnyH_ready (rs := [2]) (by kernel_rfl) (by simp) ?_
        refine AllReadyH.cons rfl (fun K hK => ?_) AllReadyH.nil
        go_simp
        refine hK.out _ _ ⟨by go_keep, by go_keep⟩ (fun hS => ?_)
        clear hK K
        try simp only [Act.put, List.getElem_toArray, List.getElem_cons_succ, List.getElem_cons_zero, List.setIfInBounds_toArray, List.set_cons_zero, List.set_cons_succ]
        refine wpAnyH_take (i := 4) (v := ?_) rfl (by kernel_rfl) (by kernel_rfl) (by kernel_rfl) (fun _ _ _ h => h) (Or.inl ⟨by rfl, ?_⟩) (by assumption) ?_
        rotate_left
        · intro w' hSw; obtain ⟨s1, s2⟩ := hSw; go_simp; (try with_reducible rfl)
        simp only [Act.put, List.getElem_toArray, List.getElem_cons_succ, List.getElem_cons_zero, List.setIfInBounds_toArray, List.set_cons_zero, List.set_cons_succ]
        refine wpAnyH_ready (rs := [5]) (by kernel_rfl) (by simp) ?_
        refine AllReadyH.cons rfl (fun K hK => ?_) AllReadyH.nil
        go_simp
        refine hK.out _ _ ⟨by go_keep, by go_keep⟩ (fun hS => ?_)
        clear hK K
        try simp only [Act.put, List.getElem_toArray, List.getElem_cons_succ, List.getElem_cons_zero, List.setIfInBounds_toArray, List.set_cons_zero, List.set_cons_succ]
        refine wpAnyH_take (i := 6) (v := ?_) rfl (by kernel_rfl) (by kernel_rfl) (by kernel_rfl) (fun _ _ _ h => h) (Or.inl ⟨by rfl, ?_⟩) (by assumption) ?_
        rotate_left
        · intro w' hSw; obtain ⟨s1, s2⟩ := hSw; go_simp; (try with_reducible rfl)
        simp only [Act.put, List.getElem_toArray, List.getElem_cons_succ, List.getElem_cons_zero, List.setIfInBounds_toArray, List.set_cons_zero, List.set_cons_succ]
        refine wpAnyH_take (i := 7) (v := ?_) rfl (by kernel_rfl) (by kernel_rfl) (by kernel_rfl) (fun _ _ _ h => h) (Or.inl ⟨by rfl, ?_⟩) (by assumption) ?_
        rotate_left
        · intro w' hSw; obtain ⟨s1, s2⟩ := hSw; go_simp; (try with_reducible rfl)
        simp only [Act.put, List.getElem_toArray, List.getElem_cons_succ, List.getElem_cons_zero, List.setIfInBounds_toArray, List.set_cons_zero, List.set_cons_succ]
        refine wpAnyH_take (i := 8) (v := ?_) rfl (by kernel_rfl) (by kernel_rfl) (by kernel_rfl) (fun _ _ _ h => h) (Or.inl ⟨by rfl, ?_⟩) (by assumption) ?_
        rotate_left
        · intro w' hSw; obtain ⟨s1, s2⟩ := hSw; go_simp; (try with_reducible rfl)
        simp only [Act.put, List.getElem_toArray, List.getElem_cons_succ, List.getElem_cons_zero, List.setIfInBounds_toArray, List.set_cons_zero, List.set_cons_succ]
        refine wpAnyH_take (i := 9) (v := ?_) rfl (by kernel_rfl) (by kernel_rfl) (by kernel_rfl) (fun _ _ _ h => h) (Or.inl ⟨by rfl, ?_⟩) (by assumption) ?_
        rotate_left
        · intro w' hSw; obtain ⟨s1, s2⟩ := hSw; go_simp; (try with_reducible rfl)
        simp only [Act.put, List.getElem_toArray, List.getElem_cons_succ, List.getElem_cons_zero, List.setIfInBounds_toArray, List.set_cons_zero, List.set_cons_succ]
        refine wpAnyH_take (i := 10) (v := ?_) rfl (by kernel_rfl) (by kernel_rfl) (by kernel_rfl) (fun _ _ _ h => h) (Or.inl ⟨by rfl, ?_⟩) (by assumption) ?_
        rotate_left
        · intro w' hSw; obtain ⟨s1, s2⟩ := hSw; go_simp; (try with_reducible rfl)
        simp only [Act.put, List.getElem_toArray, List.getElem_cons_succ, List.getElem_cons_zero, List.setIfInBounds_toArray, List.set_cons_zero, List.set_cons_succ]
        refine wpAnyH_take (i := 11) (v := ?_) rfl (by kernel_rfl) (by kernel_rfl) (by kernel_rfl) (fun _ _ _ h => h) (Or.inl ⟨by rfl, ?_⟩) (by assumption) ?_
        rotate_left
        · intro w' hSw; obtain ⟨s1, s2⟩ := hSw; go_simp; (try with_reducible rfl)
        simp only [Act.put, List.getElem_toArray, List.getElem_cons_succ, List.getElem_cons_zero, List.setIfInBounds_toArray, List.set_cons_zero, List.set_cons_succ]
        refine wpAnyH_take (i := 12) (v := ?_) rfl (by kernel_rfl) (by kernel_rfl) (by kernel_rfl) (fun _ _ _ h => h) (Or.inl ⟨by rfl, ?_⟩) (by assumption) ?_
        rotate_left
        · intro w' hSw; obtain ⟨s1, s2⟩ := hSw; go_simp; (try with_reducible rfl)
        simp only [Act.put, List.getElem_toArray, List.getElem_cons_succ, List.getElem_cons_zero, List.setIfInBounds_toArray, List.set_cons_zero, List.set_cons_succ]
        refine wpAnyH_take (i := 13) (v := ?_) rfl (by kernel_rfl) (by kernel_rfl) (by kernel_rfl) (fun _ _ _ h => h) (Or.inl ⟨by rfl, ?_⟩) (by assumption) ?_
        rotate_left
        · intro w' hSw; obtain ⟨s1, s2⟩ := hSw; go_simp; (try with_reducible rfl)
        simp only [Act.put, List.getElem_toArray, List.getElem_cons_succ, List.getElem_cons_zero, List.setIfInBounds_toArray, List.set_cons_zero, List.set_cons_succ]
        refine wpAnyH_take (i := 14) (v := ?_) rfl (by kernel_rfl) (by kernel_rfl) (by kernel_rfl) (fun _ _ _ h => h) (Or.inl ⟨by rfl, ?_⟩) (by assumption) ?_
        rotate_left
        · intro w' hSw; obtain ⟨s1, s2⟩ := hSw; go_simp; (try with_reducible rfl)
        simp only [Act.put, List.getElem_toArray, List.getElem_cons_succ, List.getElem_cons_zero, List.setIfInBounds_toArray, List.set_cons_zero, List.set_cons_succ]
        refine wpAnyH_take (i := 15) (v := ?_) rfl (by kernel_rfl) (by kernel_rfl) (by kernel_rfl) (fun _ _ _ h => h) (Or.inl ⟨by rfl, ?_⟩) (by assumption) ?_
        rotate_left
        · intro w' hSw; obtain ⟨s1, s2⟩ := hSw; go_simp; (try with_reducible rfl)
        simp only [Act.put, List.getElem_toArray, List.getElem_cons_succ, List.getElem_cons_zero, List.setIfInBounds_toArray, List.set_cons_zero, List.set_cons_succ]
        refine wpAnyH_take (i := 16) (v := ?_) rfl (by kernel_rfl) (by kernel_rfl) (by kernel_rfl) (fun _ _ _ h => h) (Or.inl ⟨by rfl, ?_⟩) (by assumption) ?_
        rotate_left
        · intro w' hSw; obtain ⟨s1, s2⟩ := hSw; go_simp; (try with_reducible rfl)
        simp only [Act.put, List.getElem_toArray, List.getElem_cons_succ, List.getElem_cons_zero, List.setIfInBounds_toArray, List.set_cons_zero, List.set_cons_succ]
        refine wpAnyH_done (by kernel_rfl) ?_ _
        clear hS
        go_wp2_with fail
        go_roundg (2 - 1)
        case measure => have := Hg.out.1; omega
        case rel => exact ⟨1, by decide, rfl, rfl, fun _ => Hok1.out, fun h => absurd h (by decide), Hk.out.trans (by repeat (first | exact Keeps.refl _ _ | refine Keeps.drew ?_ | refine Keeps.drewN ?_ _ | refine Keeps.alloc ?_ _))⟩
      · obtain ⟨b6, of6, ea, -, hb6, hc6⟩ := (SliceFrom.keep (sliceFrom_row (enc := encFileT) (size := 3) (fun _ => rfl) (L := [(n1, s1, c1), (n2, s2, c2)]) Hrow.out) hkr (by simp)).atI 1 (by simp)
        subst ea
        obtain ⟨nb, hnb⟩ : ∃ b : ByteArray, b = ⟨n2.toArray⟩ := ⟨_, rfl⟩
        have d0 : wr.cell? ⟨b6, of6 + 3, none⟩ = some (.string nb) := by rw [hnb]; exact hc6 0 (by decide)
        have d1 : wr.cell? ⟨b6, of6 + 3 + 1, none⟩ = some (.int .i64 s2) := hc6 1 (by decide)
        have d2 : wr.cell? ⟨b6, of6 + 3 + 2, none⟩ = some (.int .u32 c2) := hc6 2 (by decide)
        have hnd : nb.data.toList = n2 := by rw [hnb]
        clear hc6 hnb
        have kr2 : Keeps [] wr (wr.alloc (.cells #[.string nb, .int .i64 s2, .int .u32 c2] 149)) := (Keeps.refl [] wr).alloc _
        have nr2 := heap_new wr (.cells #[.string nb, .int .i64 s2, .int .u32 c2] 149)
        have Hk := Lib.hid (hkr.trans kr2)
        have Hnd := Lib.hid hnd
        clear kr2 hkr hnd
        go_upto_region 7 with fail
        clear d0 d1 d2
        generalize wr.alloc (.cells #[.string nb, .int .i64 s2, .int .u32 c2] 149) = W2 at nr2 Hk ⊢
        generalize wr.heap.size = bx at nr2 ⊢
        have cx := cells_at nr2
        have lx := lt_of_at nr2
        have e0 : W2.cell? ⟨bx, 0, none⟩ = some (.string nb) := by rw [cx]; rfl
        have e1 : W2.cell? ⟨bx, 1, none⟩ = some (.int .i64 s2) := by rw [cx]; rfl
        by_cases hn : n2 = indexB.data.toList
        rotate_left
        · have HS := Lib.hid (chkV_no <| okT_bad Hok.out.2.1 (fun h => hn h.2.1))
          have hse : (nb.toList == [105, 110, 100, 101, 120]) = false := by rw [ByteArray.toList_eq, Hnd.out, beq_eq_false_iff_ne]; exact fun e => hn (e.trans (by decide))
          clear hn
          refine wp_region_held_drew (S := fun w' => w'.cell? ⟨bx, 0, none⟩ = some (.string nb) ∧ w'.cell? ⟨bx, 1, none⟩ = some (.int .i64 s2)) (by kernel_rfl) ⟨e0, e1⟩ (fun hS => ?_)
          refine wpAnyH_take (i := 0) (v := ?_) rfl (by kernel_rfl) (by kernel_rfl) (by kernel_rfl) (fun _ _ _ h => h) (Or.inl ⟨by rfl, ?_⟩) (by assumption) ?_
          rotate_left
          · intro w' hSw; obtain ⟨s1, s2⟩ := hSw; go_simp; (try with_reducible rfl)
          simp only [Act.put, List.getElem_toArray, List.getElem_cons_succ, List.getElem_cons_zero, List.setIfInBounds_toArray, List.set_cons_zero, List.set_cons_succ]
          refine wpAnyH_take (i := 1) (v := ?_) rfl (by kernel_rfl) (by kernel_rfl) (by kernel_rfl) (fun _ _ _ h => h) (Or.inl ⟨by rfl, ?_⟩) (by assumption) ?_
          rotate_left
          · intro w' hSw; obtain ⟨s1, s2⟩ := hSw; go_simp; (try with_reducible rfl)
          simp only [Act.put, List.getElem_toArray, List.getElem_cons_succ, List.getElem_cons_zero, List.setIfInBounds_toArray, List.set_cons_zero, List.set_cons_succ]
          refine wpAnyH_take (i := 3) (v := ?_) rfl (by kernel_rfl) (by kernel_rfl) (by kernel_rfl) (fun _ _ _ h => h) (Or.inl ⟨by rfl, ?_⟩) (by assumption) ?_
          rotate_left
          · intro w' hSw; obtain ⟨s1, s2⟩ := hSw; go_simp; (try with_reducible rfl)
          simp only [Act.put, List.getElem_toArray, List.getElem_cons_succ, List.getElem_cons_zero, List.setIfInBounds_toArray, List.set_cons_zero, List.set_cons_succ]
          refine wpAnyH_ready (rs := [2]) (by kernel_rfl) (by simp) ?_
          refine AllReadyH.cons rfl (fun K hK => ?_) AllReadyH.nil
          go_simp
          refine hK.out _ _ ⟨by go_keep, by go_keep⟩ (fun hS => ?_)
          clear hK K
          try simp only [Act.put, List.getElem_toArray, List.getElem_cons_succ, List.getElem_cons_zero, List.setIfInBounds_toArray, List.set_cons_zero, List.set_cons_succ]
          refine wpAnyH_take (i := 4) (v := ?_) rfl (by kernel_rfl) (by kernel_rfl) (by kernel_rfl) (fun _ _ _ h => h) (Or.inl ⟨by rfl, ?_⟩) (by assumption) ?_
          rotate_left
          · intro w' hSw; obtain ⟨s1, s2⟩ := hSw; go_simp; (try with_reducible rfl)
          simp only [Act.put, List.getElem_toArray, List.getElem_cons_succ, List.getElem_cons_zero, List.setIfInBounds_toArray, List.set_cons_zero, List.set_cons_succ]
          refine wpAnyH_ready (rs := [5]) (by kernel_rfl) (by simp) ?_
          refine AllReadyH.cons rfl (fun K hK => ?_) AllReadyH.nil
          go_simp
          refine hK.out _ _ ⟨by go_keep, by go_keep⟩ (fun hS => ?_)
          clear hK K
          try simp only [Act.put, List.getElem_toArray, List.getElem_cons_succ, List.getElem_cons_zero, List.setIfInBounds_toArray, List.set_cons_zero, List.set_cons_succ]
          refine wpAnyH_take (i := 6) (v := ?_) rfl (by kernel_rfl) (by kernel_rfl) (by kernel_rfl) (fun _ _ _ h => h) (Or.inl ⟨by rfl, ?_⟩) (by assumption) ?_
          rotate_left
          · intro w' hSw; obtain ⟨s1, s2⟩ := hSw; go_simp; (try with_reducible rfl)
          simp only [Act.put, List.getElem_toArray, List.getElem_cons_succ, List.getElem_cons_zero, List.setIfInBounds_toArray, List.set_cons_zero, List.set_cons_succ]
          refine wpAnyH_take (i := 7) (v := ?_) rfl (by kernel_rfl) (by kernel_rfl) (by kernel_rfl) (fun _ _ _ h => h) (Or.inl ⟨by rfl, ?_⟩) (by assumption) ?_
          rotate_left
          · intro w' hSw; obtain ⟨s1, s2⟩ := hSw; go_simp; (try with_reducible rfl)
          simp only [Act.put, List.getElem_toArray, List.getElem_cons_succ, List.getElem_cons_zero, List.setIfInBounds_toArray, List.set_cons_zero, List.set_cons_succ]
          refine wpAnyH_take (i := 8) (v := undef) rfl (by kernel_rfl) (by kernel_rfl) (by kernel_rfl) (fun _ _ _ h => h) (Or.inr ⟨by rfl, rfl⟩) (by assumption) ?_
          simp only [Act.put, List.getElem_toArray, List.getElem_cons_succ, List.getElem_cons_zero, List.setIfInBounds_toArray, List.set_cons_zero, List.set_cons_succ]
          refine wpAnyH_take (i := 9) (v := undef) rfl (by kernel_rfl) (by kernel_rfl) (by kernel_rfl) (fun _ _ _ h => h) (Or.inr ⟨by rfl, rfl⟩) (by assumption) ?_
          simp only [Act.put, List.getElem_toArray, List.getElem_cons_succ, List.getElem_cons_zero, List.setIfInBounds_toArray, List.set_cons_zero, List.set_cons_succ]
          refine wpAnyH_take (i := 10) (v := undef) rfl (by kernel_rfl) (by kernel_rfl) (by kernel_rfl) (fun _ _ _ h => h) (Or.inr ⟨by rfl, rfl⟩) (by assumption) ?_
          simp only [Act.put, List.getElem_toArray, List.getElem_cons_succ, List.getElem_cons_zero, List.setIfInBounds_toArray, List.set_cons_zero, List.set_cons_succ]
          refine wpAnyH_take (i := 11) (v := ?_) rfl (by kernel_rfl) (by kernel_rfl) (by kernel_rfl) (fun _ _ _ h => h) (Or.inl ⟨by rfl, ?_⟩) (by assumption) ?_
          rotate_left
          · intro w' hSw; obtain ⟨s1, s2⟩ := hSw; go_simp; (try with_reducible rfl)
          simp only [Act.put, List.getElem_toArray, List.getElem_cons_succ, List.getElem_cons_zero, List.setIfInBounds_toArray, List.set_cons_zero, List.set_cons_succ]
          refine wpAnyH_take (i := 12) (v := ?_) rfl (by kernel_rfl) (by kernel_rfl) (by kernel_rfl) (fun _ _ _ h => h) (Or.inl ⟨by rfl, ?_⟩) (by assumption) ?_
          rotate_left
          · intro w' hSw; obtain ⟨s1, s2⟩ := hSw; go_simp; (try with_reducible rfl)
          simp only [Act.put, List.getElem_toArray, List.getElem_cons_succ, List.getElem_cons_zero, List.setIfInBounds_toArray, List.set_cons_zero, List.set_cons_succ]
          refine wpAnyH_take (i := 13) (v := undef) rfl (by kernel_rfl) (by kernel_rfl) (by kernel_rfl) (fun _ _ _ h => h) (Or.inr ⟨by rfl, rfl⟩) (by assumption) ?_
          simp only [Act.put, List.getElem_toArray, List.getElem_cons_succ, List.getElem_cons_zero, List.setIfInBounds_toArray, List.set_cons_zero, List.set_cons_succ]
          refine wpAnyH_take (i := 14) (v := undef) rfl (by kernel_rfl) (by kernel_rfl) (by kernel_rfl) (fun _ _ _ h => h) (Or.inr ⟨by rfl, rfl⟩) (by assumption) ?_
          simp only [Act.put, List.getElem_toArray, List.getElem_cons_succ, List.getElem_cons_zero, List.setIfInBounds_toArray, List.set_cons_zero, List.set_cons_succ]
          refine wpAnyH_take (i := 15) (v := undef) rfl (by kernel_rfl) (by kernel_rfl) (by kernel_rfl) (fun _ _ _ h => h) (Or.inr ⟨by rfl, rfl⟩) (by assumption) ?_
          simp only [Act.put, List.getElem_toArray, List.getElem_cons_succ, List.getElem_cons_zero, List.setIfInBounds_toArray, List.set_cons_zero, List.set_cons_succ]
          refine wpAnyH_take (i := 16) (v := ?_) rfl (by kernel_rfl) (by kernel_rfl) (by kernel_rfl) (fun _ _ _ h => h) (Or.inl ⟨by rfl, ?_⟩) (by assumption) ?_
          rotate_left
          · intro w' hSw; obtain ⟨s1, s2⟩ := hSw; go_simp; (try with_reducible rfl)
          simp only [Act.put, List.getElem_toArray, List.getElem_cons_succ, List.getElem_cons_zero, List.setIfInBounds_toArray, List.set_cons_zero, List.set_cons_succ]
          refine wpAnyH_done (by kernel_rfl) ?_ _
          clear hS
          go_wp2_with fail
          go_ret
          exact ⟨by rw [HS.out]; rfl, (H0.out.2.2.2.trans Hk.out).trans (by repeat (first | exact Keeps.refl _ _ | refine Keeps.drew ?_ | refine Keeps.drewN ?_ _ | refine Keeps.alloc ?_ _))⟩
        have hse : (nb.toList == [105, 110, 100, 101, 120]) = true := by rw [ByteArray.toList_eq, Hnd.out, hn]; decide
        by_cases hz0 : s2 < 0
        · have HS := Lib.hid (chkV_no <| okT_bad Hok.out.2.1 (fun h => by have := h.2.2.1; omega))
          refine wp_region_held_drew (S := fun w' => w'.cell? ⟨bx, 0, none⟩ = some (.string nb) ∧ w'.cell? ⟨bx, 1, none⟩ = some (.int .i64 s2)) (by kernel_rfl) ⟨e0, e1⟩ (fun hS => ?_)
          refine wpAnyH_take (i := 0) (v := ?_) rfl (by kernel_rfl) (by kernel_rfl) (by kernel_rfl) (fun _ _ _ h => h) (Or.inl ⟨by rfl, ?_⟩) (by assumption) ?_
          rotate_left
          · intro w' hSw; obtain ⟨s1, s2⟩ := hSw; go_simp; (try with_reducible rfl)
          simp only [Act.put, List.getElem_toArray, List.getElem_cons_succ, List.getElem_cons_zero, List.setIfInBounds_toArray, List.set_cons_zero, List.set_cons_succ]
          refine wpAnyH_take (i := 1) (v := ?_) rfl (by kernel_rfl) (by kernel_rfl) (by kernel_rfl) (fun _ _ _ h => h) (Or.inl ⟨by rfl, ?_⟩) (by assumption) ?_
          rotate_left
          · intro w' hSw; obtain ⟨s1, s2⟩ := hSw; go_simp; (try with_reducible rfl)
          simp only [Act.put, List.getElem_toArray, List.getElem_cons_succ, List.getElem_cons_zero, List.setIfInBounds_toArray, List.set_cons_zero, List.set_cons_succ]
          refine wpAnyH_take (i := 3) (v := ?_) rfl (by kernel_rfl) (by kernel_rfl) (by kernel_rfl) (fun _ _ _ h => h) (Or.inl ⟨by rfl, ?_⟩) (by assumption) ?_
          rotate_left
          · intro w' hSw; obtain ⟨s1, s2⟩ := hSw; go_simp; (try with_reducible rfl)
          simp only [Act.put, List.getElem_toArray, List.getElem_cons_succ, List.getElem_cons_zero, List.setIfInBounds_toArray, List.set_cons_zero, List.set_cons_succ]
          refine wpAnyH_ready (rs := [2]) (by kernel_rfl) (by simp) ?_
          refine AllReadyH.cons rfl (fun K hK => ?_) AllReadyH.nil
          go_simp
          refine hK.out _ _ ⟨by go_keep, by go_keep⟩ (fun hS => ?_)
          clear hK K
          try simp only [Act.put, List.getElem_toArray, List.getElem_cons_succ, List.getElem_cons_zero, List.setIfInBounds_toArray, List.set_cons_zero, List.set_cons_succ]
          refine wpAnyH_take (i := 4) (v := ?_) rfl (by kernel_rfl) (by kernel_rfl) (by kernel_rfl) (fun _ _ _ h => h) (Or.inl ⟨by rfl, ?_⟩) (by assumption) ?_
          rotate_left
          · intro w' hSw; obtain ⟨s1, s2⟩ := hSw; go_simp; (try with_reducible rfl)
          simp only [Act.put, List.getElem_toArray, List.getElem_cons_succ, List.getElem_cons_zero, List.setIfInBounds_toArray, List.set_cons_zero, List.set_cons_succ]
          refine wpAnyH_ready (rs := [5]) (by kernel_rfl) (by simp) ?_
          refine AllReadyH.cons rfl (fun K hK => ?_) AllReadyH.nil
          go_simp
          refine hK.out _ _ ⟨by go_keep, by go_keep⟩ (fun hS => ?_)
          clear hK K
          try simp only [Act.put, List.getElem_toArray, List.getElem_cons_succ, List.getElem_cons_zero, List.setIfInBounds_toArray, List.set_cons_zero, List.set_cons_succ]
          refine wpAnyH_take (i := 6) (v := ?_) rfl (by kernel_rfl) (by kernel_rfl) (by kernel_rfl) (fun _ _ _ h => h) (Or.inl ⟨by rfl, ?_⟩) (by assumption) ?_
          rotate_left
          · intro w' hSw; obtain ⟨s1, s2⟩ := hSw; go_simp; (try with_reducible rfl)
          simp only [Act.put, List.getElem_toArray, List.getElem_cons_succ, List.getElem_cons_zero, List.setIfInBounds_toArray, List.set_cons_zero, List.set_cons_succ]
          refine wpAnyH_take (i := 7) (v := ?_) rfl (by kernel_rfl) (by kernel_rfl) (by kernel_rfl) (fun _ _ _ h => h) (Or.inl ⟨by rfl, ?_⟩) (by assumption) ?_
          rotate_left
          · intro w' hSw; obtain ⟨s1, s2⟩ := hSw; go_simp; (try with_reducible rfl)
          simp only [Act.put, List.getElem_toArray, List.getElem_cons_succ, List.getElem_cons_zero, List.setIfInBounds_toArray, List.set_cons_zero, List.set_cons_succ]
          refine wpAnyH_take (i := 8) (v := ?_) rfl (by kernel_rfl) (by kernel_rfl) (by kernel_rfl) (fun _ _ _ h => h) (Or.inl ⟨by rfl, ?_⟩) (by assumption) ?_
          rotate_left
          · intro w' hSw; obtain ⟨s1, s2⟩ := hSw; go_simp; (try with_reducible rfl)
          simp only [Act.put, List.getElem_toArray, List.getElem_cons_succ, List.getElem_cons_zero, List.setIfInBounds_toArray, List.set_cons_zero, List.set_cons_succ]
          refine wpAnyH_take (i := 9) (v := ?_) rfl (by kernel_rfl) (by kernel_rfl) (by kernel_rfl) (fun _ _ _ h => h) (Or.inl ⟨by rfl, ?_⟩) (by assumption) ?_
          rotate_left
          · intro w' hSw; obtain ⟨s1, s2⟩ := hSw; go_simp; (try with_reducible rfl)
          simp only [Act.put, List.getElem_toArray, List.getElem_cons_succ, List.getElem_cons_zero, List.setIfInBounds_toArray, List.set_cons_zero, List.set_cons_succ]
          refine wpAnyH_take (i := 10) (v := ?_) rfl (by kernel_rfl) (by kernel_rfl) (by kernel_rfl) (fun _ _ _ h => h) (Or.inl ⟨by rfl, ?_⟩) (by assumption) ?_
          rotate_left
          · intro w' hSw; obtain ⟨s1, s2⟩ := hSw; go_simp; (try with_reducible rfl)
          simp only [Act.put, List.getElem_toArray, List.getElem_cons_succ, List.getElem_cons_zero, List.setIfInBounds_toArray, List.set_cons_zero, List.set_cons_succ]
          refine wpAnyH_take (i := 11) (v := ?_) rfl (by kernel_rfl) (by kernel_rfl) (by kernel_rfl) (fun _ _ _ h => h) (Or.inl ⟨by rfl, ?_⟩) (by assumption) ?_
          rotate_left
          · intro w' hSw; obtain ⟨s1, s2⟩ := hSw; go_simp; (try with_reducible rfl)
          simp only [Act.put, List.getElem_toArray, List.getElem_cons_succ, List.getElem_cons_zero, List.setIfInBounds_toArray, List.set_cons_zero, List.set_cons_succ]
          refine wpAnyH_take (i := 12) (v := ?_) rfl (by kernel_rfl) (by kernel_rfl) (by kernel_rfl) (fun _ _ _ h => h) (Or.inl ⟨by rfl, ?_⟩) (by assumption) ?_
          rotate_left
          · intro w' hSw; obtain ⟨s1, s2⟩ := hSw; go_simp; (try with_reducible rfl)
          simp only [Act.put, List.getElem_toArray, List.getElem_cons_succ, List.getElem_cons_zero, List.setIfInBounds_toArray, List.set_cons_zero, List.set_cons_succ]
          refine wpAnyH_take (i := 13) (v := undef) rfl (by kernel_rfl) (by kernel_rfl) (by kernel_rfl) (fun _ _ _ h => h) (Or.inr ⟨by rfl, rfl⟩) (by assumption) ?_
          simp only [Act.put, List.getElem_toArray, List.getElem_cons_succ, List.getElem_cons_zero, List.setIfInBounds_toArray, List.set_cons_zero, List.set_cons_succ]
          refine wpAnyH_take (i := 14) (v := undef) rfl (by kernel_rfl) (by kernel_rfl) (by kernel_rfl) (fun _ _ _ h => h) (Or.inr ⟨by rfl, rfl⟩) (by assumption) ?_
          simp only [Act.put, List.getElem_toArray, List.getElem_cons_succ, List.getElem_cons_zero, List.setIfInBounds_toArray, List.set_cons_zero, List.set_cons_succ]
          refine wpAnyH_take (i := 15) (v := undef) rfl (by kernel_rfl) (by kernel_rfl) (by kernel_rfl) (fun _ _ _ h => h) (Or.inr ⟨by rfl, rfl⟩) (by assumption) ?_
          simp only [Act.put, List.getElem_toArray, List.getElem_cons_succ, List.getElem_cons_zero, List.setIfInBounds_toArray, List.set_cons_zero, List.set_cons_succ]
          refine wpAnyH_take (i := 16) (v := ?_) rfl (by kernel_rfl) (by kernel_rfl) (by kernel_rfl) (fun _ _ _ h => h) (Or.inl ⟨by rfl, ?_⟩) (by assumption) ?_
          rotate_left
          · intro w' hSw; obtain ⟨s1, s2⟩ := hSw; go_simp; (try with_reducible rfl)
          simp only [Act.put, List.getElem_toArray, List.getElem_cons_succ, List.getElem_cons_zero, List.setIfInBounds_toArray, List.set_cons_zero, List.set_cons_succ]
          refine wpAnyH_done (by kernel_rfl) ?_ _
          clear hS
          go_wp2_with fail
          go_ret
          exact ⟨by rw [HS.out]; rfl, (H0.out.2.2.2.trans Hk.out).trans (by repeat (first | exact Keeps.refl _ _ | refine Keeps.drew ?_ | refine Keeps.drewN ?_ _ | refine Keeps.alloc ?_ _))⟩
        by_cases hz1 : s2 > 1048576
        · have HS := Lib.hid (chkV_no <| okT_bad Hok.out.2.1 (fun h => by have := h.2.2.2; omega))
          refine wp_region_held_drew (S := fun w' => w'.cell? ⟨bx, 0, none⟩ = some (.string nb) ∧ w'.cell? ⟨bx, 1, none⟩ = some (.int .i64 s2)) (by kernel_rfl) ⟨e0, e1⟩ (fun hS => ?_)
          refine wpAnyH_take (i := 0) (v := ?_) rfl (by kernel_rfl) (by kernel_rfl) (by kernel_rfl) (fun _ _ _ h => h) (Or.inl ⟨by rfl, ?_⟩) (by assumption) ?_
          rotate_left
          · intro w' hSw; obtain ⟨s1, s2⟩ := hSw; go_simp; (try with_reducible rfl)
          simp only [Act.put, List.getElem_toArray, List.getElem_cons_succ, List.getElem_cons_zero, List.setIfInBounds_toArray, List.set_cons_zero, List.set_cons_succ]
          refine wpAnyH_take (i := 1) (v := ?_) rfl (by kernel_rfl) (by kernel_rfl) (by kernel_rfl) (fun _ _ _ h => h) (Or.inl ⟨by rfl, ?_⟩) (by assumption) ?_
          rotate_left
          · intro w' hSw; obtain ⟨s1, s2⟩ := hSw; go_simp; (try with_reducible rfl)
          simp only [Act.put, List.getElem_toArray, List.getElem_cons_succ, List.getElem_cons_zero, List.setIfInBounds_toArray, List.set_cons_zero, List.set_cons_succ]
          refine wpAnyH_take (i := 3) (v := ?_) rfl (by kernel_rfl) (by kernel_rfl) (by kernel_rfl) (fun _ _ _ h => h) (Or.inl ⟨by rfl, ?_⟩) (by assumption) ?_
          rotate_left
          · intro w' hSw; obtain ⟨s1, s2⟩ := hSw; go_simp; (try with_reducible rfl)
          simp only [Act.put, List.getElem_toArray, List.getElem_cons_succ, List.getElem_cons_zero, List.setIfInBounds_toArray, List.set_cons_zero, List.set_cons_succ]
          refine wpAnyH_ready (rs := [2]) (by kernel_rfl) (by simp) ?_
          refine AllReadyH.cons rfl (fun K hK => ?_) AllReadyH.nil
          go_simp
          refine hK.out _ _ ⟨by go_keep, by go_keep⟩ (fun hS => ?_)
          clear hK K
          try simp only [Act.put, List.getElem_toArray, List.getElem_cons_succ, List.getElem_cons_zero, List.setIfInBounds_toArray, List.set_cons_zero, List.set_cons_succ]
          refine wpAnyH_take (i := 4) (v := ?_) rfl (by kernel_rfl) (by kernel_rfl) (by kernel_rfl) (fun _ _ _ h => h) (Or.inl ⟨by rfl, ?_⟩) (by assumption) ?_
          rotate_left
          · intro w' hSw; obtain ⟨s1, s2⟩ := hSw; go_simp; (try with_reducible rfl)
          simp only [Act.put, List.getElem_toArray, List.getElem_cons_succ, List.getElem_cons_zero, List.setIfInBounds_toArray, List.set_cons_zero, List.set_cons_succ]
          refine wpAnyH_ready (rs := [5]) (by kernel_rfl) (by simp) ?_
          refine AllReadyH.cons rfl (fun K hK => ?_) AllReadyH.nil
          go_simp
          refine hK.out _ _ ⟨by go_keep, by go_keep⟩ (fun hS => ?_)
          clear hK K
          try simp only [Act.put, List.getElem_toArray, List.getElem_cons_succ, List.getElem_cons_zero, List.setIfInBounds_toArray, List.set_cons_zero, List.set_cons_succ]
          refine wpAnyH_take (i := 6) (v := ?_) rfl (by kernel_rfl) (by kernel_rfl) (by kernel_rfl) (fun _ _ _ h => h) (Or.inl ⟨by rfl, ?_⟩) (by assumption) ?_
          rotate_left
          · intro w' hSw; obtain ⟨s1, s2⟩ := hSw; go_simp; (try with_reducible rfl)
          simp only [Act.put, List.getElem_toArray, List.getElem_cons_succ, List.getElem_cons_zero, List.setIfInBounds_toArray, List.set_cons_zero, List.set_cons_succ]
          refine wpAnyH_take (i := 7) (v := ?_) rfl (by kernel_rfl) (by kernel_rfl) (by kernel_rfl) (fun _ _ _ h => h) (Or.inl ⟨by rfl, ?_⟩) (by assumption) ?_
          rotate_left
          · intro w' hSw; obtain ⟨s1, s2⟩ := hSw; go_simp; (try with_reducible rfl)
          simp only [Act.put, List.getElem_toArray, List.getElem_cons_succ, List.getElem_cons_zero, List.setIfInBounds_toArray, List.set_cons_zero, List.set_cons_succ]
          refine wpAnyH_take (i := 8) (v := ?_) rfl (by kernel_rfl) (by kernel_rfl) (by kernel_rfl) (fun _ _ _ h => h) (Or.inl ⟨by rfl, ?_⟩) (by assumption) ?_
          rotate_left
          · intro w' hSw; obtain ⟨s1, s2⟩ := hSw; go_simp; (try with_reducible rfl)
          simp only [Act.put, List.getElem_toArray, List.getElem_cons_succ, List.getElem_cons_zero, List.setIfInBounds_toArray, List.set_cons_zero, List.set_cons_succ]
          refine wpAnyH_take (i := 9) (v := ?_) rfl (by kernel_rfl) (by kernel_rfl) (by kernel_rfl) (fun _ _ _ h => h) (Or.inl ⟨by rfl, ?_⟩) (by assumption) ?_
          rotate_left
          · intro w' hSw; obtain ⟨s1, s2⟩ := hSw; go_simp; (try with_reducible rfl)
          simp only [Act.put, List.getElem_toArray, List.getElem_cons_succ, List.getElem_cons_zero, List.setIfInBounds_toArray, List.set_cons_zero, List.set_cons_succ]
          refine wpAnyH_take (i := 10) (v := ?_) rfl (by kernel_rfl) (by kernel_rfl) (by kernel_rfl) (fun _ _ _ h => h) (Or.inl ⟨by rfl, ?_⟩) (by assumption) ?_
          rotate_left
          · intro w' hSw; obtain ⟨s1, s2⟩ := hSw; go_simp; (try with_reducible rfl)
          simp only [Act.put, List.getElem_toArray, List.getElem_cons_succ, List.getElem_cons_zero, List.setIfInBounds_toArray, List.set_cons_zero, List.set_cons_succ]
          refine wpAnyH_take (i := 11) (v := ?_) rfl (by kernel_rfl) (by kernel_rfl) (by kernel_rfl) (fun _ _ _ h => h) (Or.inl ⟨by rfl, ?_⟩) (by assumption) ?_
          rotate_left
          · intro w' hSw; obtain ⟨s1, s2⟩ := hSw; go_simp; (try with_reducible rfl)
          simp only [Act.put, List.getElem_toArray, List.getElem_cons_succ, List.getElem_cons_zero, List.setIfInBounds_toArray, List.set_cons_zero, List.set_cons_succ]
          refine wpAnyH_take (i := 12) (v := ?_) rfl (by kernel_rfl) (by kernel_rfl) (by kernel_rfl) (fun _ _ _ h => h) (Or.inl ⟨by rfl, ?_⟩) (by assumption) ?_
          rotate_left
          · intro w' hSw; obtain ⟨s1, s2⟩ := hSw; go_simp; (try with_reducible rfl)
          simp only [Act.put, List.getElem_toArray, List.getElem_cons_succ, List.getElem_cons_zero, List.setIfInBounds_toArray, List.set_cons_zero, List.set_cons_succ]
          refine wpAnyH_take (i := 13) (v := ?_) rfl (by kernel_rfl) (by kernel_rfl) (by kernel_rfl) (fun _ _ _ h => h) (Or.inl ⟨by rfl, ?_⟩) (by assumption) ?_
          rotate_left
          · intro w' hSw; obtain ⟨s1, s2⟩ := hSw; go_simp; (try with_reducible rfl)
          simp only [Act.put, List.getElem_toArray, List.getElem_cons_succ, List.getElem_cons_zero, List.setIfInBounds_toArray, List.set_cons_zero, List.set_cons_succ]
          refine wpAnyH_take (i := 14) (v := ?_) rfl (by kernel_rfl) (by kernel_rfl) (by kernel_rfl) (fun _ _ _ h => h) (Or.inl ⟨by rfl, ?_⟩) (by assumption) ?_
          rotate_left
          · intro w' hSw; obtain ⟨s1, s2⟩ := hSw; go_simp; (try with_reducible rfl)
          simp only [Act.put, List.getElem_toArray, List.getElem_cons_succ, List.getElem_cons_zero, List.setIfInBounds_toArray, List.set_cons_zero, List.set_cons_succ]
          refine wpAnyH_take (i := 15) (v := ?_) rfl (by kernel_rfl) (by kernel_rfl) (by kernel_rfl) (fun _ _ _ h => h) (Or.inl ⟨by rfl, ?_⟩) (by assumption) ?_
          rotate_left
          · intro w' hSw; obtain ⟨s1, s2⟩ := hSw; go_simp; (try with_reducible rfl)
          simp only [Act.put, List.getElem_toArray, List.getElem_cons_succ, List.getElem_cons_zero, List.setIfInBounds_toArray, List.set_cons_zero, List.set_cons_succ]
          refine wpAnyH_take (i := 16) (v := ?_) rfl (by kernel_rfl) (by kernel_rfl) (by kernel_rfl) (fun _ _ _ h => h) (Or.inl ⟨by rfl, ?_⟩) (by assumption) ?_
          rotate_left
          · intro w' hSw; obtain ⟨s1, s2⟩ := hSw; go_simp; (try with_reducible rfl)
          simp only [Act.put, List.getElem_toArray, List.getElem_cons_succ, List.getElem_cons_zero, List.setIfInBounds_toArray, List.set_cons_zero, List.set_cons_succ]
          refine wpAnyH_done (by kernel_rfl) ?_ _
          clear hS
          go_wp2_with fail
          go_ret
          exact ⟨by rw [HS.out]; rfl, (H0.out.2.2.2.trans Hk.out).trans (by repeat (first | exact Keeps.refl _ _ | refine Keeps.drew ?_ | refine Keeps.drewN ?_ _ | refine Keeps.alloc ?_ _))⟩
        have Hok2 := Lib.hid (show fileOk n2 s2 indexB from ⟨hn, by omega, by omega⟩)
        refine wp_region_held_drew (S := fun w' => w'.cell? ⟨bx, 0, none⟩ = some (.string nb) ∧ w'.cell? ⟨bx, 1, none⟩ = some (.int .i64 s2)) (by kernel_rfl) ⟨e0, e1⟩ (fun hS => ?_)
        refine wpAnyH_take (i := 0) (v := ?_) rfl (by kernel_rfl) (by kernel_rfl) (by kernel_rfl) (fun _ _ _ h => h) (Or.inl ⟨by rfl, ?_⟩) (by assumption) ?_
        rotate_left
        · intro w' hSw; obtain ⟨s1, s2⟩ := hSw; go_simp; (try with_reducible rfl)
        simp only [Act.put, List.getElem_toArray, List.getElem_cons_succ, List.getElem_cons_zero, List.setIfInBounds_toArray, List.set_cons_zero, List.set_cons_succ]
        refine wpAnyH_take (i := 1) (v := ?_) rfl (by kernel_rfl) (by kernel_rfl) (by kernel_rfl) (fun _ _ _ h => h) (Or.inl ⟨by rfl, ?_⟩) (by assumption) ?_
        rotate_left
        · intro w' hSw; obtain ⟨s1, s2⟩ := hSw; go_simp; (try with_reducible rfl)
        simp only [Act.put, List.getElem_toArray, List.getElem_cons_succ, List.getElem_cons_zero, List.setIfInBounds_toArray, List.set_cons_zero, List.set_cons_succ]
        refine wpAnyH_take (i := 3) (v := ?_) rfl (by kernel_rfl) (by kernel_rfl) (by kernel_rfl) (fun _ _ _ h => h) (Or.inl ⟨by rfl, ?_⟩) (by assumption) ?_
        rotate_left
        · intro w' hSw; obtain ⟨s1, s2⟩ := hSw; go_simp; (try with_reducible rfl)
        simp only [Act.put, List.getElem_toArray, List.getElem_cons_succ, List.getElem_cons_zero, List.setIfInBounds_toArray, List.set_cons_zero, List.set_cons_succ]
        refine wpAnyH_ready (rs := [2]) (by kernel_rfl) (by simp) ?_
        refine AllReadyH.cons rfl (fun K hK => ?_) AllReadyH.nil
        go_simp
        refine hK.out _ _ ⟨by go_keep, by go_keep⟩ (fun hS => ?_)
        clear hK K
        try simp only [Act.put, List.getElem_toArray, List.getElem_cons_succ, List.getElem_cons_zero, List.setIfInBounds_toArray, List.set_cons_zero, List.set_cons_succ]
        refine wpAnyH_take (i := 4) (v := ?_) rfl (by kernel_rfl) (by kernel_rfl) (by kernel_rfl) (fun _ _ _ h => h) (Or.inl ⟨by rfl, ?_⟩) (by assumption) ?_
        rotate_left
        · intro w' hSw; obtain ⟨s1, s2⟩ := hSw; go_simp; (try with_reducible rfl)
        simp only [Act.put, List.getElem_toArray, List.getElem_cons_succ, List.getElem_cons_zero, List.setIfInBounds_toArray, List.set_cons_zero, List.set_cons_succ]
        refine wpAnyH_ready (rs := [5]) (by kernel_rfl) (by simp) ?_
        refine AllReadyH.cons rfl (fun K hK => ?_) AllReadyH.nil
        go_simp
        refine hK.out _ _ ⟨by go_keep, by go_keep⟩ (fun hS => ?_)
        clear hK K
        try simp only [Act.put, List.getElem_toArray, List.getElem_cons_succ, List.getElem_cons_zero, List.setIfInBounds_toArray, List.set_cons_zero, List.set_cons_succ]
        refine wpAnyH_take (i := 6) (v := ?_) rfl (by kernel_rfl) (by kernel_rfl) (by kernel_rfl) (fun _ _ _ h => h) (Or.inl ⟨by rfl, ?_⟩) (by assumption) ?_
        rotate_left
        · intro w' hSw; obtain ⟨s1, s2⟩ := hSw; go_simp; (try with_reducible rfl)
        simp only [Act.put, List.getElem_toArray, List.getElem_cons_succ, List.getElem_cons_zero, List.setIfInBounds_toArray, List.set_cons_zero, List.set_cons_succ]
        refine wpAnyH_take (i := 7) (v := ?_) rfl (by kernel_rfl) (by kernel_rfl) (by kernel_rfl) (fun _ _ _ h => h) (Or.inl ⟨by rfl, ?_⟩) (by assumption) ?_
        rotate_left
        · intro w' hSw; obtain ⟨s1, s2⟩ := hSw; go_simp; (try with_reducible rfl)
        simp only [Act.put, List.getElem_toArray, List.getElem_cons_succ, List.getElem_cons_zero, List.setIfInBounds_toArray, List.set_cons_zero, List.set_cons_succ]
        refine wpAnyH_take (i := 8) (v := ?_) rfl (by kernel_rfl) (by kernel_rfl) (by kernel_rfl) (fun _ _ _ h => h) (Or.inl ⟨by rfl, ?_⟩) (by assumption) ?_
        rotate_left
        · intro w' hSw; obtain ⟨s1, s2⟩ := hSw; go_simp; (try with_reducible rfl)
        simp only [Act.put, List.getElem_toArray, List.getElem_cons_succ, List.getElem_cons_zero, List.setIfInBounds_toArray, List.set_cons_zero, List.set_cons_succ]
        refine wpAnyH_take (i := 9) (v := ?_) rfl (by kernel_rfl) (by kernel_rfl) (by kernel_rfl) (fun _ _ _ h => h) (Or.inl ⟨by rfl, ?_⟩) (by assumption) ?_
        rotate_left
        · intro w' hSw; obtain ⟨s1, s2⟩ := hSw; go_simp; (try with_reducible rfl)
        simp only [Act.put, List.getElem_toArray, List.getElem_cons_succ, List.getElem_cons_zero, List.setIfInBounds_toArray, List.set_cons_zero, List.set_cons_succ]
        refine wpAnyH_take (i := 10) (v := ?_) rfl (by kernel_rfl) (by kernel_rfl) (by kernel_rfl) (fun _ _ _ h => h) (Or.inl ⟨by rfl, ?_⟩) (by assumption) ?_
        rotate_left
        · intro w' hSw; obtain ⟨s1, s2⟩ := hSw; go_simp; (try with_reducible rfl)
        simp only [Act.put, List.getElem_toArray, List.getElem_cons_succ, List.getElem_cons_zero, List.setIfInBounds_toArray, List.set_cons_zero, List.set_cons_succ]
        refine wpAnyH_take (i := 11) (v := ?_) rfl (by kernel_rfl) (by kernel_rfl) (by kernel_rfl) (fun _ _ _ h => h) (Or.inl ⟨by rfl, ?_⟩) (by assumption) ?_
        rotate_left
        · intro w' hSw; obtain ⟨s1, s2⟩ := hSw; go_simp; (try with_reducible rfl)
        simp only [Act.put, List.getElem_toArray, List.getElem_cons_succ, List.getElem_cons_zero, List.setIfInBounds_toArray, List.set_cons_zero, List.set_cons_succ]
        refine wpAnyH_take (i := 12) (v := ?_) rfl (by kernel_rfl) (by kernel_rfl) (by kernel_rfl) (fun _ _ _ h => h) (Or.inl ⟨by rfl, ?_⟩) (by assumption) ?_
        rotate_left
        · intro w' hSw; obtain ⟨s1, s2⟩ := hSw; go_simp; (try with_reducible rfl)
        simp only [Act.put, List.getElem_toArray, List.getElem_cons_succ, List.getElem_cons_zero, List.setIfInBounds_toArray, List.set_cons_zero, List.set_cons_succ]
        refine wpAnyH_take (i := 13) (v := ?_) rfl (by kernel_rfl) (by kernel_rfl) (by kernel_rfl) (fun _ _ _ h => h) (Or.inl ⟨by rfl, ?_⟩) (by assumption) ?_
        rotate_left
        · intro w' hSw; obtain ⟨s1, s2⟩ := hSw; go_simp; (try with_reducible rfl)
        simp only [Act.put, List.getElem_toArray, List.getElem_cons_succ, List.getElem_cons_zero, List.setIfInBounds_toArray, List.set_cons_zero, List.set_cons_succ]
        refine wpAnyH_take (i := 14) (v := ?_) rfl (by kernel_rfl) (by kernel_rfl) (by kernel_rfl) (fun _ _ _ h => h) (Or.inl ⟨by rfl, ?_⟩) (by assumption) ?_
        rotate_left
        · intro w' hSw; obtain ⟨s1, s2⟩ := hSw; go_simp; (try with_reducible rfl)
        simp only [Act.put, List.getElem_toArray, List.getElem_cons_succ, List.getElem_cons_zero, List.setIfInBounds_toArray, List.set_cons_zero, List.set_cons_succ]
        refine wpAnyH_take (i := 15) (v := ?_) rfl (by kernel_rfl) (by kernel_rfl) (by kernel_rfl) (fun _ _ _ h => h) (Or.inl ⟨by rfl, ?_⟩) (by assumption) ?_
        rotate_left
        · intro w' hSw; obtain ⟨s1, s2⟩ := hSw; go_simp; (try with_reducible rfl)
        simp only [Act.put, List.getElem_toArray, List.getElem_cons_succ, List.getElem_cons_zero, List.setIfInBounds_toArray, List.set_cons_zero, List.set_cons_succ]
        refine wpAnyH_take (i := 16) (v := ?_) rfl (by kernel_rfl) (by kernel_rfl) (by kernel_rfl) (fun _ _ _ h => h) (Or.inl ⟨by rfl, ?_⟩) (by assumption) ?_
        rotate_left
        · intro w' hSw; obtain ⟨s1, s2⟩ := hSw; go_simp; (try with_reducible rfl)
        simp only [Act.put, List.getElem_toArray, List.getElem_cons_succ, List.getElem_cons_zero, List.setIfInBounds_toArray, List.set_cons_zero, List.set_cons_succ]
        refine wpAnyH_done (by kernel_rfl) ?_ _
        clear hS
        go_wp2_with fail
        go_roundg (2 - 2)
        case measure => have := Hg.out.1; omega
        case rel => exact ⟨2, by decide, rfl, rfl, fun _ => Hg.out.2.1 (by decide), fun _ => Hok2.out, Hk.out.trans (by repeat (first | exact Keeps.refl _ _ | refine Keeps.drew ?_ | refine Keeps.drewN ?_ _ | refine Keeps.alloc ?_ _))⟩
      · have HF := Lib.hid (And.intro (Hg.out.2.1 (by decide)) (Hg.out.2.2 (by decide)))
        have He := Lib.hid hkr
        have nb := hkr.at_ H0.out.1 (by simp)
        have cb := cells_at nb
        have lb := lt_of_at nb
        clear hkr nb Hg
        go_wp2_with fail
        clear cb lb
        go_loopg [98] m.sources.length (MkRel2 W0 m.sources m.id)
        case atStart => exact ⟨0, Nat.zero_le _, rfl, rfl, by simp, fun i _ h => absurd h (by omega), He.out⟩
        case round =>
          obtain ⟨j, hj, hgj, rfl, hall, hris, hkj⟩ := hrel
          have Hgj := Lib.hid (And.intro hgj (And.intro hall hris))
          clear hgj He hall hris
          by_cases hlt : j < m.sources.length
          · obtain ⟨b7, of7, ea, -, hb7, hc7⟩ := (SliceFrom.keep (sliceFrom_row (enc := encS1T) (size := 1) (fun _ => rfl) H0.out.2.2.1) hkj (by simp)).atI j hlt
            subst ea
            have hj1 := List.take_succ_eq_append_getElem hlt
            have hmem : m.sources[j] ∈ m.sources := List.getElem_mem hlt
            have d7 : wr.cell? ⟨b7, of7 + j, none⟩ = some (.string ⟨m.sources[j].toArray⟩) := by simpa [encS1T] using hc7 0 (by decide)
            have hlt' : (j : Int) < (m.sources.length : Int) := by omega
            have Hkj := Lib.hid (And.intro hkj hj1)
            have nb := hkj.at_ H0.out.1 (by simp)
            have cb := cells_at nb
            have lb := lt_of_at nb
            obtain ⟨sb, hsb⟩ : ∃ b : ByteArray, b = ⟨m.sources[j].toArray⟩ := ⟨_, rfl⟩
            have hsd : sb.data.toList = m.sources[j] := by rw [hsb]
            rw [← hsb] at d7
            have Hsd := Lib.hid hsd
            clear nb hc7 hsb hsd hj1
            go_wp2_with fail
            refine (Hid.out _ _).mono ?_
            rintro e w1 ⟨rfl, rfl⟩
            rw [Hsd.out]
            cases hid : isIDB m.sources[j] with
            | false =>
              have HS := Lib.hid (chkV_no <| okT_one hmem (fun h => by rw [hid] at h; exact absurd h.1 (by simp)))
              clear hid hmem
              go_wp2_with fail
              go_ret
              exact ⟨by rw [HS.out]; rfl, H0.out.2.2.2.trans Hkj.out.1⟩
            | true =>
              obtain ⟨ib, hib⟩ : ∃ b : ByteArray, b = ⟨m.id.toArray⟩ := ⟨_, rfl⟩
              have hibd : ib.data.toList = m.id := by rw [hib]
              rw [← hib] at cb
              clear hib
              by_cases hne : m.sources[j] = m.id
              · have HS := Lib.hid (chkV_no <| okT_one hmem (fun h => h.2 hne))
                have hbe : (sb.toList == ib.toList) = true := by rw [ByteArray.toList_eq, ByteArray.toList_eq, Hsd.out, hne, hibd]; simp
                clear hid hmem hne hibd
                go_wp2_with fail
                go_ret
                exact ⟨by rw [HS.out]; rfl, H0.out.2.2.2.trans Hkj.out.1⟩
              have hbe : (sb.toList == ib.toList) = false := by rw [ByteArray.toList_eq, ByteArray.toList_eq, Hsd.out, hibd]; simpa using hne
              have Hone := Lib.hid (show ∀ x ∈ m.sources.take (j + 1), isIDB x = true ∧ x ≠ m.id from fun x hx => by
                rw [Hkj.out.2] at hx
                rcases List.mem_append.1 hx with hx | hx
                · exact Hgj.out.2.1 x hx
                · obtain rfl := List.mem_singleton.1 hx
                  exact ⟨hid, hne⟩)
              clear hid hne hibd hmem
              rcases Nat.eq_zero_or_pos j with h0 | h0
              · subst h0
                go_wp2_with fail
                go_roundg (m.sources.length - 1)
                case measure => have := Hgj.out.1; omega
                case rel => exact ⟨1, by omega, rfl, rfl, Hone.out, fun i _ h => absurd h (by omega), Hkj.out.1⟩
              · obtain ⟨i, rfl⟩ : ∃ i, j = i + 1 := ⟨j - 1, by omega⟩
                obtain ⟨b8, of8, ea8, -, hb8, hc8⟩ := (SliceFrom.keep (sliceFrom_row (enc := encS1T) (size := 1) (fun _ => rfl) H0.out.2.2.1) Hkj.out.1 (by simp)).atI i (by omega)
                injection ea8 with ea8
                injection ea8 with eb8 eo8 _
                subst eb8 eo8
                have d8 : wr.cell? ⟨b7, of7 + i, none⟩ = some (.string ⟨m.sources[i].toArray⟩) := by simpa [encS1T] using hc8 0 (by decide)
                obtain ⟨pb, hpb⟩ : ∃ b : ByteArray, b = ⟨m.sources[i].toArray⟩ := ⟨_, rfl⟩
                have hpd : pb.data.toList = m.sources[i] := by rw [hpb]
                rw [← hpb] at d8
                obtain ⟨gb, hgb⟩ : ∃ g, g = (bytesLess sb.toList pb.toList || sb.toList == pb.toList) := ⟨_, rfl⟩
                have hgq : (bytesLess sb.toList pb.toList || sb.toList == pb.toList) = gb := hgb.symm
                have hless : bytesLess m.sources[i] m.sources[i + 1] = !gb := by
                  rw [less_triG, hgb, ByteArray.toList_eq, ByteArray.toList_eq, Hsd.out, hpd]
                have hls2 : bytesLess pb.toList sb.toList = !gb := by rw [← hless, ByteArray.toList_eq, ByteArray.toList_eq, Hsd.out, hpd]
                have hpos : ((i + 1 : Nat) : Int) > 0 := by omega
                have hsub : IntKind.i64.wrap ((i : Int) + 1 - 1) = (i : Int) := by rw [IntWalk.i64_in _ (by omega)]; omega
                have hlt8 : (i : Int) < (m.sources.length : Int) := by omega
                clear hc8 hpb hpd hgb h0
                cases gb with
                | true =>
                  simp only [Bool.not_true] at hls2
                  have HS := Lib.hid (chkV_no <| okT_fall (by omega) hless)
                  clear hless
                  go_wp2_with fail
                  go_ret
                  exact ⟨by rw [HS.out]; rfl, H0.out.2.2.2.trans Hkj.out.1⟩
                | false =>
                  simp only [Bool.not_false] at hls2
                  have Hless := Lib.hid hless
                  clear hless
                  go_wp2_with fail
                  go_roundg (m.sources.length - (i + 1 + 1))
                  case measure => have := Hgj.out.1; omega
                  case rel => exact ⟨i + 1 + 1, by omega, rfl, by go_num, Hone.out, fun q hq h => by
                    by_cases e : q = i
                    · subst e
                      exact Hless.out
                    · exact Hgj.out.2.2 q hq (by omega), Hkj.out.1⟩
          · have hjn : j = m.sources.length := by omega
            have HS := Lib.hid (show chkV m = 0 from by
              have hok := okT_yes Hok.out.1 Hok.out.2.1 HF.out.1 HF.out.2 Hok.out.2.2 (fun x hx => Hgj.out.2.1 x (by rw [hjn, List.take_length]; exact hx)) (risesT_of fun i hi => Hgj.out.2.2 i hi (by omega))
              unfold chkV
              rw [hok]
              rfl)
            have He := Lib.hid hkj
            have hge : ¬ (j : Int) < (m.sources.length : Int) := by omega
            clear hkj hjn
            go_wp2_with fail
            go_ret
            exact ⟨by rw [HS.out]; rfl, H0.out.2.2.2.trans He.out⟩
end Go.Proofs.YtjffdcflkkgpfaaGreat
