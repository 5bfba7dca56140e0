/-
  What is taken of a meta's bytes, step by step (meta.taker): text, num; isID; only.
  Each contract holds in every world in which the taker's block is laid.

  Marks of blocks as bytes, and back (meta.EncodeMark, meta.DecodeMark).
  Each contract holds in every world; old memory is left as it was.

  Names of blocks' objects (ident.Object, ident.Split).
  Split is asked where the library's variable is laid (LibVar).

  What is said of a block, in plain words: a meta that may be, its bytes, and what is taken of them.
  No condition beyond those that each theorem states.

  A meta in memory; Of; Check of a meta that may be (package meta).
  Texts are short.
-/
import Derived.Test.YtgcfkhcogllgfaaGreatDoorFrame
import Derived.Test.YtgcfkhcogllgfaaGreatDoorIdent
import Derived.Deep.QuietTactic
import Derived.Test.YtgcfkhcogllgfaaGreatDoorLibVar
import Derived.Lib.IndexMore
import Derived.Test.YtgcfkhcogllgfaaGreatDoorArgs
import Derived.Deep.RegionWith
namespace Go.Proofs.YtgcfkhcogllgfaaGreatDoor
set_option maxRecDepth 100000
set_option maxHeartbeats 1000000
set_option linter.unusedSimpArgs false
open Go Go.RowKit
def isIDB (l : List UInt8) : Bool := (parseL l).isSome
theorem isID_spec (w : World) (s : ByteArray) :
  Calls Tryz.prog 100 #[.string s] w fun e w' => e = .returned (.bool (isIDB s.data.toList)) ∧ w = w' := by
 have H := Lib.hid (parse_spec w s)
 unfold isIDB
 generalize parseL s.data.toList = r at H
 go_enter Tryz.func100, Tryz.ntmps100
 go_wp2_with fail
 refine H.out.mono ?_
 rintro e w1 ⟨rfl, rfl⟩
 cases r with
 | none =>
  simp only [parseVals]
  go_wp2_with fail
  go_ret
  exact ⟨rfl, rfl⟩
 | some p =>
  obtain ⟨a, b⟩ := p
  simp only [parseVals]
  go_wp2_with fail
  go_ret
  exact ⟨rfl, rfl⟩
def objectB (id part : ByteArray) : ByteArray := id ++ ⟨#[47]⟩ ++ part
theorem object_spec (w : World) (id part : ByteArray) (h1 : id.size ≤ 1000000000) (h2 : part.size ≤ 1000000000) :
  Calls Tryz.prog 41 #[.string id, .string part] w fun e w' => e = .returned (.string (objectB id part)) ∧ w = w' := by
 have hz : (id ++ (⟨#[47]⟩ : ByteArray)).size ≤ 1000000001 := by rw [ByteArray.size_append]; show id.size + 1 ≤ _; omega
 go_enter Tryz.func41, Tryz.ntmps41
 go_wp2_with fail
 go_ret
 exact ⟨rfl, rfl⟩
def chunksB : ByteArray := ⟨#[99, 104, 117, 110, 107, 115]⟩
def indexB : ByteArray := ⟨#[105, 110, 100, 101, 120]⟩
def metaB : ByteArray := ⟨#[109, 101, 116, 97]⟩
theorem num_signs : ∀ (l : List UInt8) {n m : Nat}, numL l n = some m → ∀ c ∈ l, c ∈ signL
 | [], _, _, _, c, hc => by cases hc
 | x :: l, n, m, h, c, hc => by
  simp only [numL] at h
  cases hk : numIx x with
  | none => rw [hk] at h; cases h
  | some k =>
   rw [hk] at h
   rcases List.mem_cons.1 hc with rfl | hc
   ·have := List.findIdx?_eq_some_iff_getElem.1 hk
    obtain ⟨h1, h2, _⟩ := this
    have h2 : signL[k] = c := by simpa using h2
    rw [← h2]
    exact List.getElem_mem h1
   ·exact num_signs l h c hc
theorem isID_signs {l : List UInt8} (h : isIDB l = true) : l.length = 16 ∧ ∀ c ∈ l, c ∈ signL := by
 unfold isIDB parseL at h
 by_cases hl : l.length = 16
 ·rw [if_neg (by simp [hl])] at h
  refine ⟨hl, fun c hc => ?_⟩
  split at h
  ·rename_i a b ha hb
   rw [← List.take_append_drop 8 l] at hc
   rcases List.mem_append.1 hc with hc | hc
   ·exact num_signs _ ha c hc
   ·exact num_signs _ hb c hc
  ·cases h
 ·rw [if_pos hl] at h
  cases h
theorem isID_ident {t s : Nat} (ht : t < 1099511627776) (hs : s < 1099511627776) : isIDB (identL t s) = true := by
 unfold isIDB
 rw [parseL_ident ht hs]
 rfl
open Go.Op (bytesLess)
abbrev FileS := ByteArray × Nat × Nat
structure MetaS where
 id : ByteArray
 mn : Nat
 mx : Nat
 level : Nat
 series : Nat
 samples : Nat
 files : List FileS
 sources : List ByteArray
def fileL (f : FileS) : List UInt8 := textL f.1.data.toList ++ (lebL f.2.1 ++ lebL f.2.2)
def textB (s : ByteArray) : List UInt8 := textL s.data.toList
def metaL (m : MetaS) : List UInt8 :=
 textB m.id ++ (lebL m.mn ++ (lebL m.mx ++ (lebL m.level ++ (lebL m.series ++ (lebL m.samples ++ (m.files.flatMap fileL ++ (lebL m.sources.length ++ m.sources.flatMap textB)))))))
structure MetaOk (m : MetaS) : Prop where
 id : isIDB m.id.data.toList = true
 time : m.mn < m.mx ∧ m.mx ≤ 1099511627776
 level : 1 ≤ m.level ∧ m.level ≤ 9
 samples : m.series ≤ m.samples ∧ m.samples ≤ 1073741824
 files : ∃ s1 c1 s2 c2, m.files = [(chunksB, s1, c1), (indexB, s2, c2)] ∧ s1 ≤ 1048576 ∧ s2 ≤ 1048576 ∧ c1 < 4294967296 ∧ c2 < 4294967296
 few : m.sources.length ≤ 50
 src : ∀ s ∈ m.sources, isIDB s.data.toList = true ∧ s ≠ m.id
 rise : m.sources.Pairwise fun a b => bytesLess a.data.toList b.data.toList = true
theorem id16 {id : ByteArray} (h : isIDB id.data.toList = true) : id.size = 16 := by
 have := (isID_signs h).1
 rwa [dsize] at this
theorem textB_len {s : ByteArray} (h : s.size < 1000000) : (textB s).length ≤ s.size + 10 := by
 unfold textB textL
 rw [List.length_append, dsize]
 have := lebL_len10 (v := s.size) (by omega)
 omega
theorem fileL_len {f : FileS} (h : f.1.size < 1000000) (h1 : f.2.1 < 18446744073709551616) (h2 : f.2.2 < 18446744073709551616) : (fileL f).length ≤ f.1.size + 30 := by
 unfold fileL
 rw [List.length_append, List.length_append]
 have := textB_len h
 have := lebL_len10 h1
 have := lebL_len10 h2
 unfold textB at *
 omega
theorem flat_len_le {α : Type} (F : α → List UInt8) (c : Nat) : ∀ (L : List α), (∀ x ∈ L, (F x).length ≤ c) → (L.flatMap F).length ≤ c * L.length
 | [], _ => by simp
 | x :: L, h => by
  have h1 := h x (by simp)
  have h2 := flat_len_le F c L fun y hy => h y (by simp [hy])
  simp only [List.flatMap_cons, List.length_append, List.length_cons, Nat.mul_add]
  omega
theorem MetaOk.len {m : MetaS} (h : MetaOk m) : (metaL m).length ≤ 2000 := by
 obtain ⟨s1, c1, s2, c2, hf, h1, h2, h3, h4⟩ := h.files
 have a1 := textB_len (s := m.id) (by rw [id16 h.id]; omega)
 rw [id16 h.id] at a1
 have a2 := lebL_len10 (v := m.mn) (by have := h.time; omega)
 have a3 := lebL_len10 (v := m.mx) (by have := h.time; omega)
 have a4 := lebL_len10 (v := m.level) (by have := h.level; omega)
 have a5 := lebL_len10 (v := m.series) (by have := h.samples; omega)
 have a6 := lebL_len10 (v := m.samples) (by have := h.samples; omega)
 have a7 := lebL_len10 (v := m.sources.length) (by have := h.few; omega)
 have a8 := flat_len_le textB 26 m.sources fun s hs => by
  have := textB_len (s := s) (by rw [id16 (h.src s hs).1]; omega)
  rw [id16 (h.src s hs).1] at this
  omega
 have a9 := fileL_len (f := (chunksB, s1, c1)) (by show chunksB.size < 1000000; decide) (by simp only; omega) (by simp only; omega)
 have a10 := fileL_len (f := (indexB, s2, c2)) (by show indexB.size < 1000000; decide) (by simp only; omega) (by simp only; omega)
 have z1 : chunksB.size = 6 := rfl
 have z2 : indexB.size = 5 := rfl
 have hfew := h.few
 unfold metaL
 rw [hf]
 simp only [List.length_append, List.flatMap_cons, List.flatMap_nil, List.length_nil]
 simp only [z1, z2] at a9 a10
 omega
open Go.Op (bytesLess)
def encS1m (s : ByteArray) : List Value := [.string s]
def encFile (f : FileS) : List Value := [.string f.1, .int .i64 f.2.1, .int .u32 f.2.2]
def MetaV (B : Nat) (w : World) (vs : List Value) (m : MetaS) : Prop :=
 ∃ vf vo, vs = [.string m.id, .int .i64 m.mn, .int .i64 m.mx, .int .i64 m.level, .int .i64 m.series, .int .i64 m.samples, vf, vo] ∧ SliceFrom B 3 encFile w vf m.files ∧ SliceFrom B 1 encS1m w vo m.sources
theorem SliceFrom.atI {α : Type} {B size : Nat} {enc : α → List Value} {w : World} {a : Option Addr} {n c : Nat} {L : List α} (h : SliceFrom B size enc w (.slice a n c) L) (i : Nat) (hi : i < L.length) :
  ∃ b off, a = some ⟨b, off, none⟩ ∧ B ≤ b ∧ b < w.heap.size ∧ ∀ j, j < size → w.cell? ⟨b, off + (i * size + j), none⟩ = (enc L[i])[j]? := by
 obtain ⟨_, _, e, _, _, _, h⟩ := h
 injection e with e _ _
 subst e
 exact h i hi
theorem MetaV.keep {B : Nat} {w w' : World} {vs : List Value} {m : MetaS} {S : List Nat} (h : MetaV B w vs m) (k : Keeps S w w') (hS : ∀ x ∈ S, x < B) : MetaV B w' vs m := by
 obtain ⟨vf, vo, e, h1, h2⟩ := h
 exact ⟨vf, vo, e, h1.keep k hS, h2.keep k hS⟩
theorem MetaV.same {B : Nat} {w w' : World} {vs : List Value} {m : MetaS} (h : MetaV B w vs m) (k : Keeps [] w w') : MetaV B w' vs m := h.keep k (by simp)
theorem MetaV.low {B B' : Nat} {w : World} {vs : List Value} {m : MetaS} (h : MetaV B w vs m) (hB : B' ≤ B) : MetaV B' w vs m := by
 obtain ⟨vf, vo, e, h1, h2⟩ := h
 exact ⟨vf, vo, e, h1.low hB, h2.low hB⟩
def MetaR (base : Nat) (w : World) (vs : List Value) (m : MetaS) : Prop :=
 ∃ vf vo, vs = [.string m.id, .int .i64 m.mn, .int .i64 m.mx, .int .i64 m.level, .int .i64 m.series, .int .i64 m.samples, vf, vo] ∧ w.ownsRow base 157 3 vf m.files.length (m.files.flatMap encFile) ∧ w.ownsRow base 9 1 vo m.sources.length (m.sources.flatMap encS1m)
theorem MetaR.metaV {base : Nat} {w : World} {vs : List Value} {m : MetaS} (h : MetaR base w vs m) : MetaV base w vs m := by
 obtain ⟨vf, vo, e, h1, h2⟩ := h
 exact ⟨vf, vo, e, sliceFrom_row (fun _ => rfl) h1, sliceFrom_row (fun _ => rfl) h2⟩
theorem MetaR.keep {base : Nat} {w w' : World} {vs : List Value} {m : MetaS} {S : List Nat} (h : MetaR base w vs m) (k : Keeps S w w') (hS : ∀ x ∈ S, x < base) : MetaR base w' vs m := by
 obtain ⟨vf, vo, e, h1, h2⟩ := h
 exact ⟨vf, vo, e, k.row h1 (fun g hg hm => by have := hS g hm; have := (World.ownsRow.lt h1 g hg).1; omega), k.row h2 (fun g hg hm => by have := hS g hm; have := (World.ownsRow.lt h2 g hg).1; omega)⟩
theorem MetaR.same {base : Nat} {w w' : World} {vs : List Value} {m : MetaS} (h : MetaR base w vs m) (k : Keeps [] w w') : MetaR base w' vs m := h.keep k (by simp)
theorem MetaR.low {base base' : Nat} {w : World} {vs : List Value} {m : MetaS} (h : MetaR base w vs m) (hB : base' ≤ base) : MetaR base' w vs m := by
 obtain ⟨vf, vo, e, h1, h2⟩ := h
 exact ⟨vf, vo, e, row_base h1 hB, row_base h2 hB⟩
theorem of_spec (w : World) (name data : ByteArray) (hd : data.size ≤ 1000000) :
  Calls Tryz.prog 68 #[.string name, .string data] w fun e w' => e = .returned (.agg #[.string name, .int .i64 data.size, .int .u32 (moreN 0 data.data.toList)]) ∧ Keeps [] w w' := by
 have Hs := Lib.hid (fun w => sum_spec w data (by unfold maxLen; omega))
 go_enter Tryz.func68, Tryz.ntmps68
 go_wp2_with fail
 refine (Hs.out _).mono ?_
 rintro e w1 ⟨rfl, rfl⟩
 have Hk := Lib.hid (show Keeps [] w (w.alloc (.cells #[.string ⟨#[]⟩, .int .i64 0, .int .u32 0] 157)) from (Keeps.refl [] w).alloc _)
 go_wp2_with fail
 exact bodyPost_ret (v := .agg #[.string name, .int .i64 data.size, .int .u32 (moreN 0 data.data.toList)]) (by simp [results, Tryz.results68, go_sem]) rfl ⟨rfl, (Keeps.refl [] w).alloc _⟩
def ChkRel1 (w : World) (gk : Nat) (u : Value) (wr : World) : Prop := ∃ k, k ≤ 2 ∧ gk = 2 - k ∧ u = .int .i64 k ∧ Keeps [] w wr
def ChkRel2 (w : World) (n gk : Nat) (u : Value) (wr : World) : Prop := ∃ k, k ≤ n ∧ gk = n - k ∧ u = .int .i64 k ∧ Keeps [] w wr
theorem metaCheck_spec (B : Nat) (w : World) (vs : List Value) (m : MetaS) (h : MetaV B w vs m) (ok : MetaOk m) :
  Calls Tryz.prog 69 #[.agg vs.toArray] w fun e w' => e = .returned (.int .i64 0) ∧ Keeps [] w w' := by
 obtain ⟨vf, vo, rfl, hf, ho⟩ := h
 obtain ⟨s1, c1, s2, c2, hfs, b1, b2, b3, b4⟩ := ok.files
 rw [hfs] at hf
 have Hf := Lib.hid hf
 have Ho := Lib.hid ho
 obtain ⟨af, cf, rfl, -, -, -, -⟩ := hf
 obtain ⟨ao, co, rfl, hno, hno2, -, -⟩ := ho
 unfold maxLen at hno
 have Hid := Lib.hid (fun W s => isID_spec W s)
 obtain ⟨t1, t2⟩ := ok.time
 obtain ⟨t3, t4⟩ := ok.level
 obtain ⟨t5, t6⟩ := ok.samples
 have t7 := ok.few
 have Hok := Lib.hid ok
 have g1 : (m.mn : Int) ≥ 0 := by omega
 have g2 : (m.mn : Int) < (m.mx : Int) := by omega
 have g3 : (m.mx : Int) ≤ 1099511627776 := by omega
 have g4 : (m.level : Int) ≥ 1 := by omega
 have g5 : (m.level : Int) ≤ 9 := by omega
 have g6 : (m.series : Int) ≥ 0 := by omega
 have g7 : (m.samples : Int) ≥ (m.series : Int) := by omega
 have g8 : (m.samples : Int) ≤ 1073741824 := by omega
 have g9 : ¬ (m.sources.length : Int) > 50 := by omega
 have hid : isIDB m.id.data.toList = true := ok.id
 have hll : [(chunksB, s1, c1), (indexB, s2, c2)].length = 2 := rfl
 rw [hll]
 clear ok hfs
 go_enter Tryz.func69, Tryz.ntmps69
 go_wp2_with fail
 refine (Hid.out _ _).mono ?_
 rintro e w1 ⟨rfl, rfl⟩
 rw [hid]
 go_wp2_with fail
 have n0 := heap_new w (.cells #[.string m.id, .int .i64 m.mn, .int .i64 m.mx, .int .i64 m.level, .int .i64 m.series, .int .i64 m.samples, .slice af 2 cf, .slice ao m.sources.length co] 61)
 have k0 : Keeps [] w (w.alloc (.cells #[.string m.id, .int .i64 m.mn, .int .i64 m.mx, .int .i64 m.level, .int .i64 m.series, .int .i64 m.samples, .slice af 2 cf, .slice ao m.sources.length co] 61)) := (Keeps.refl [] w).alloc _
 generalize w.alloc (.cells #[.string m.id, .int .i64 m.mn, .int .i64 m.mx, .int .i64 m.level, .int .i64 m.series, .int .i64 m.samples, .slice af 2 cf, .slice ao m.sources.length co] 61) = W0 at n0 k0 ⊢
 generalize w.heap.size = mb at n0 ⊢
 have Hf := Lib.hid (Hf.out.keep k0 (by simp))
 have Ho := Lib.hid (Ho.out.keep k0 (by simp))
 have H0 := Lib.hid (And.intro n0 k0)
 clear n0 k0
 go_loopg [72] 2 (ChkRel1 W0)
 case atStart => exact ⟨0, by decide, rfl, rfl, Keeps.refl _ _⟩
 case round =>
  obtain ⟨k, hk, hgk, rfl, hkr⟩ := hrel
  have Hg := Lib.hid hgk
  clear hgk
  rcases (by omega : k = 0 ∨ k = 1 ∨ k = 2) with rfl | rfl | rfl
  ·obtain ⟨b6, of6, ea, -, hb6, hc6⟩ := (Hf.out.keep hkr (by simp)).atI 0 (by simp)
   subst ea
   have d0 : wr.cell? ⟨b6, of6, none⟩ = some (.string chunksB) := hc6 0 (by decide)
   have d1 : wr.cell? ⟨b6, of6 + 1, none⟩ = some (.int .i64 (s1 : Nat)) := hc6 1 (by decide)
   have d2 : wr.cell? ⟨b6, of6 + 2, none⟩ = some (.int .u32 (c1 : Nat)) := hc6 2 (by decide)
   clear hc6
   have kr2 : Keeps [] wr (wr.alloc (.cells #[.string chunksB, .int .i64 (s1 : Nat), .int .u32 (c1 : Nat)] 157)) := (Keeps.refl [] wr).alloc _
   have nr2 := heap_new wr (.cells #[.string chunksB, .int .i64 (s1 : Nat), .int .u32 (c1 : Nat)] 157)
   have Hk := Lib.hid (hkr.trans kr2)
   clear kr2 hkr
   go_upto_region 7 with fail
   clear d0 d1 d2
   generalize wr.alloc (.cells #[.string chunksB, .int .i64 (s1 : Nat), .int .u32 (c1 : Nat)] 157) = W2 at nr2 Hk ⊢
   generalize wr.heap.size = bx at nr2 ⊢
   have cx := cells_at nr2
   have lx := lt_of_at nr2
   have e0 : W2.cell? ⟨bx, 0, none⟩ = some (.string chunksB) := by rw [cx]; rfl
   have e1 : W2.cell? ⟨bx, 1, none⟩ = some (.int .i64 (s1 : Nat)) := by rw [cx]; rfl
   have hse : (chunksB.toList == [99, 104, 117, 110, 107, 115]) = true := by rw [ByteArray.toList_eq]; decide
   have hs0 : ¬ ((s1 : Nat) : Int) < 0 := by omega
   have hs1 : ¬ ((s1 : Nat) : Int) > 1048576 := by omega
   refine wp_region_held_drew (S := fun w' => w'.cell? ⟨bx, 0, none⟩ = some (.string chunksB) ∧ w'.cell? ⟨bx, 1, none⟩ = some (.int .i64 (s1 : Nat))) (by kernel_rfl) ⟨e0, e1⟩ (fun hS => ?_)
   refine tk (v := ?_) 0 rfl ?_ ?_; rotate_left
   ·rintro _ ⟨s1, s2⟩; go_simp; (try with_reducible rfl)
   simp only [Act.put, zz]
   refine tk (v := ?_) 1 rfl ?_ ?_; rotate_left
   ·rintro _ ⟨s1, s2⟩; go_simp; (try with_reducible rfl)
   simp only [Act.put, zz]
   refine tk (v := ?_) 3 rfl ?_ ?_; rotate_left
   ·rintro _ ⟨s1, s2⟩; go_simp; (try with_reducible rfl)
   simp only [Act.put, zz]
   refine rd 2 rfl fun K hK => ?_
   go_simp
   refine hK.out _ _ ⟨by go_keep, by go_keep⟩ (fun hS => ?_)
   clear hK K
   try simp only [Act.put, zz]
   refine tk (v := ?_) 4 rfl ?_ ?_; rotate_left
   ·rintro _ ⟨s1, s2⟩; go_simp; (try with_reducible rfl)
   simp only [Act.put, zz]
   refine rd 5 rfl fun K hK => ?_
   go_simp
   refine hK.out _ _ ⟨by go_keep, by go_keep⟩ (fun hS => ?_)
   clear hK K
   try simp only [Act.put, zz]
   refine tk (v := ?_) 6 rfl ?_ ?_; rotate_left
   ·rintro _ ⟨s1, s2⟩; go_simp; (try with_reducible rfl)
   simp only [Act.put, zz]
   refine tk (v := ?_) 7 rfl ?_ ?_; rotate_left
   ·rintro _ ⟨s1, s2⟩; go_simp; (try with_reducible rfl)
   simp only [Act.put, zz]
   refine tk (v := ?_) 8 rfl ?_ ?_; rotate_left
   ·rintro _ ⟨s1, s2⟩; go_simp; (try with_reducible rfl)
   simp only [Act.put, zz]
   refine tk (v := ?_) 9 rfl ?_ ?_; rotate_left
   ·rintro _ ⟨s1, s2⟩; go_simp; (try with_reducible rfl)
   simp only [Act.put, zz]
   refine tk (v := ?_) 10 rfl ?_ ?_; rotate_left
   ·rintro _ ⟨s1, s2⟩; go_simp; (try with_reducible rfl)
   simp only [Act.put, zz]
   refine tk (v := ?_) 11 rfl ?_ ?_; rotate_left
   ·rintro _ ⟨s1, s2⟩; go_simp; (try with_reducible rfl)
   simp only [Act.put, zz]
   refine tk (v := ?_) 12 rfl ?_ ?_; rotate_left
   ·rintro _ ⟨s1, s2⟩; go_simp; (try with_reducible rfl)
   simp only [Act.put, zz]
   refine tk (v := ?_) 13 rfl ?_ ?_; rotate_left
   ·rintro _ ⟨s1, s2⟩; go_simp; (try with_reducible rfl)
   simp only [Act.put, zz]
   refine tk (v := ?_) 14 rfl ?_ ?_; rotate_left
   ·rintro _ ⟨s1, s2⟩; go_simp; (try with_reducible rfl)
   simp only [Act.put, zz]
   refine tk (v := ?_) 15 rfl ?_ ?_; rotate_left
   ·rintro _ ⟨s1, s2⟩; go_simp; (try with_reducible rfl)
   simp only [Act.put, zz]
   refine tk (v := ?_) 16 rfl ?_ ?_; rotate_left
   ·rintro _ ⟨s1, s2⟩; go_simp; (try with_reducible rfl)
   simp only [Act.put, zz]
   refine wpAnyH_done (by kernel_rfl) ?_ _
   clear hS
   go_wp2_with fail
   go_roundg (2 - 1)
   case measure => have := Hg.out; omega
   case rel => exact ⟨1, by decide, rfl, rfl, Hk.out.trans (by repeat (first | exact Keeps.refl _ _ | assumption | refine Keeps.drew ?_ | refine Keeps.drewN ?_ _ | refine Keeps.alloc ?_ _ | refine Keeps.setCell ?_ (by first | exact .inl (by simp) | exact .inr (by simp; done) | exact .inr (by simp; omega)) _))⟩
  ·obtain ⟨b6, of6, ea, -, hb6, hc6⟩ := (Hf.out.keep hkr (by simp)).atI 1 (by simp)
   subst ea
   have d0 : wr.cell? ⟨b6, of6 + 3, none⟩ = some (.string indexB) := hc6 0 (by decide)
   have d1 : wr.cell? ⟨b6, of6 + 3 + 1, none⟩ = some (.int .i64 (s2 : Nat)) := hc6 1 (by decide)
   have d2 : wr.cell? ⟨b6, of6 + 3 + 2, none⟩ = some (.int .u32 (c2 : Nat)) := hc6 2 (by decide)
   clear hc6
   have kr2 : Keeps [] wr (wr.alloc (.cells #[.string indexB, .int .i64 (s2 : Nat), .int .u32 (c2 : Nat)] 157)) := (Keeps.refl [] wr).alloc _
   have nr2 := heap_new wr (.cells #[.string indexB, .int .i64 (s2 : Nat), .int .u32 (c2 : Nat)] 157)
   have Hk := Lib.hid (hkr.trans kr2)
   clear kr2 hkr
   go_upto_region 7 with fail
   clear d0 d1 d2
   generalize wr.alloc (.cells #[.string indexB, .int .i64 (s2 : Nat), .int .u32 (c2 : Nat)] 157) = W2 at nr2 Hk ⊢
   generalize wr.heap.size = bx at nr2 ⊢
   have cx := cells_at nr2
   have lx := lt_of_at nr2
   have e0 : W2.cell? ⟨bx, 0, none⟩ = some (.string indexB) := by rw [cx]; rfl
   have e1 : W2.cell? ⟨bx, 1, none⟩ = some (.int .i64 (s2 : Nat)) := by rw [cx]; rfl
   have hse : (indexB.toList == [105, 110, 100, 101, 120]) = true := by rw [ByteArray.toList_eq]; decide
   have hs0 : ¬ ((s2 : Nat) : Int) < 0 := by omega
   have hs1 : ¬ ((s2 : Nat) : Int) > 1048576 := by omega
   refine wp_region_held_drew (S := fun w' => w'.cell? ⟨bx, 0, none⟩ = some (.string indexB) ∧ w'.cell? ⟨bx, 1, none⟩ = some (.int .i64 (s2 : Nat))) (by kernel_rfl) ⟨e0, e1⟩ (fun hS => ?_)
   refine tk (v := ?_) 0 rfl ?_ ?_; rotate_left
   ·rintro _ ⟨s1, s2⟩; go_simp; (try with_reducible rfl)
   simp only [Act.put, zz]
   refine tk (v := ?_) 1 rfl ?_ ?_; rotate_left
   ·rintro _ ⟨s1, s2⟩; go_simp; (try with_reducible rfl)
   simp only [Act.put, zz]
   refine tk (v := ?_) 3 rfl ?_ ?_; rotate_left
   ·rintro _ ⟨s1, s2⟩; go_simp; (try with_reducible rfl)
   simp only [Act.put, zz]
   refine rd 2 rfl fun K hK => ?_
   go_simp
   refine hK.out _ _ ⟨by go_keep, by go_keep⟩ (fun hS => ?_)
   clear hK K
   try simp only [Act.put, zz]
   refine tk (v := ?_) 4 rfl ?_ ?_; rotate_left
   ·rintro _ ⟨s1, s2⟩; go_simp; (try with_reducible rfl)
   simp only [Act.put, zz]
   refine rd 5 rfl fun K hK => ?_
   go_simp
   refine hK.out _ _ ⟨by go_keep, by go_keep⟩ (fun hS => ?_)
   clear hK K
   try simp only [Act.put, zz]
   refine tk (v := ?_) 6 rfl ?_ ?_; rotate_left
   ·rintro _ ⟨s1, s2⟩; go_simp; (try with_reducible rfl)
   simp only [Act.put, zz]
   refine tk (v := ?_) 7 rfl ?_ ?_; rotate_left
   ·rintro _ ⟨s1, s2⟩; go_simp; (try with_reducible rfl)
   simp only [Act.put, zz]
   refine tk (v := ?_) 8 rfl ?_ ?_; rotate_left
   ·rintro _ ⟨s1, s2⟩; go_simp; (try with_reducible rfl)
   simp only [Act.put, zz]
   refine tk (v := ?_) 9 rfl ?_ ?_; rotate_left
   ·rintro _ ⟨s1, s2⟩; go_simp; (try with_reducible rfl)
   simp only [Act.put, zz]
   refine tk (v := ?_) 10 rfl ?_ ?_; rotate_left
   ·rintro _ ⟨s1, s2⟩; go_simp; (try with_reducible rfl)
   simp only [Act.put, zz]
   refine tk (v := ?_) 11 rfl ?_ ?_; rotate_left
   ·rintro _ ⟨s1, s2⟩; go_simp; (try with_reducible rfl)
   simp only [Act.put, zz]
   refine tk (v := ?_) 12 rfl ?_ ?_; rotate_left
   ·rintro _ ⟨s1, s2⟩; go_simp; (try with_reducible rfl)
   simp only [Act.put, zz]
   refine tk (v := ?_) 13 rfl ?_ ?_; rotate_left
   ·rintro _ ⟨s1, s2⟩; go_simp; (try with_reducible rfl)
   simp only [Act.put, zz]
   refine tk (v := ?_) 14 rfl ?_ ?_; rotate_left
   ·rintro _ ⟨s1, s2⟩; go_simp; (try with_reducible rfl)
   simp only [Act.put, zz]
   refine tk (v := ?_) 15 rfl ?_ ?_; rotate_left
   ·rintro _ ⟨s1, s2⟩; go_simp; (try with_reducible rfl)
   simp only [Act.put, zz]
   refine tk (v := ?_) 16 rfl ?_ ?_; rotate_left
   ·rintro _ ⟨s1, s2⟩; go_simp; (try with_reducible rfl)
   simp only [Act.put, zz]
   refine wpAnyH_done (by kernel_rfl) ?_ _
   clear hS
   go_wp2_with fail
   go_roundg (2 - 2)
   case measure => have := Hg.out; omega
   case rel => exact ⟨2, by decide, rfl, rfl, Hk.out.trans (by repeat (first | exact Keeps.refl _ _ | assumption | refine Keeps.drew ?_ | refine Keeps.drewN ?_ _ | refine Keeps.alloc ?_ _ | refine Keeps.setCell ?_ (by first | exact .inl (by simp) | exact .inr (by simp; done) | exact .inr (by simp; omega)) _))⟩
  ·have He := Lib.hid hkr
   have nb := hkr.at_ H0.out.1 (by simp)
   have cb := cells_at nb
   have lb := lt_of_at nb
   clear hkr nb
   go_wp2_with fail
   clear cb lb
   go_loopg [98] m.sources.length (ChkRel2 W0 m.sources.length)
   case atStart => exact ⟨0, Nat.zero_le _, rfl, rfl, He.out⟩
   case round =>
    obtain ⟨j, hj, hgj, rfl, hkj⟩ := hrel
    have Hgj := Lib.hid hgj
    clear hgj He
    by_cases hlt : j < m.sources.length
    ·obtain ⟨b7, of7, ea, -, hb7, hc7⟩ := (Ho.out.keep hkj (by simp)).atI j hlt
     subst ea
     have d7 : wr.cell? ⟨b7, of7 + j, none⟩ = some (.string m.sources[j]) := by simpa [encS1m] using hc7 0 (by decide)
     have hsrc := Hok.out.src m.sources[j] (List.getElem_mem _)
     have hlt' : (j : Int) < (m.sources.length : Int) := by omega
     have hne : (m.sources[j].toList == m.id.toList) = false := by rw [toList_beq]; exact decide_eq_false hsrc.2
     have hisid := hsrc.1
     have Hkj := Lib.hid hkj
     have nb := hkj.at_ H0.out.1 (by simp)
     have cb := cells_at nb
     have lb := lt_of_at nb
     clear nb
     rcases Nat.eq_zero_or_pos j with h0 | h0
     ·subst h0
      simp only [Nat.add_zero] at d7
      generalize m.sources[0] = sj at d7 hne hisid
      clear hsrc hc7 hkj
      go_wp2_with fail
      refine (Hid.out _ _).mono ?_
      rintro e w1 ⟨rfl, rfl⟩
      rw [hisid]
      go_wp2_with fail
      go_roundg (m.sources.length - 1)
      case measure => have := Hgj.out; omega
      case rel => exact ⟨1, by omega, rfl, rfl, Hkj.out⟩
     ·obtain ⟨b8, of8, ea8, -, hb8, hc8⟩ := (Ho.out.keep hkj (by simp)).atI (j - 1) (by omega)
      injection ea8 with ea8
      injection ea8 with eb8 eo8 _
      subst eb8 eo8
      have d8 : wr.cell? ⟨b7, of7 + (j - 1), none⟩ = some (.string m.sources[j - 1]) := by simpa [encS1m] using hc8 0 (by decide)
      have hris : bytesLess m.sources[j - 1].data.toList m.sources[j].data.toList = true := List.pairwise_iff_getElem.1 Hok.out.rise (j - 1) j (by omega) hlt (by omega)
      rw [← ByteArray.toList_eq, ← ByteArray.toList_eq] at hris
      have hleq := leq_false hris
      have hpos : (j : Int) > 0 := by omega
      have hsub : IntKind.i64.wrap ((j : Int) - 1) = ((j - 1 : Nat) : Int) := by rw [IntWalk.i64_in _ (by omega)]; omega
      have hlt8 : ((j - 1 : Nat) : Int) < (m.sources.length : Int) := by omega
      have hge8 : (0 : Int) ≤ ((j - 1 : Nat) : Int) := by omega
      generalize m.sources[j] = sj at d7 hne hisid hris hleq
      generalize m.sources[j - 1] = sp at d8 hris hleq
      generalize j - 1 = jp at d8 hsub hlt8 hge8
      clear hsrc hc7 hc8 hkj
      go_wp2_with fail
      refine (Hid.out _ _).mono ?_
      rintro e w1 ⟨rfl, rfl⟩
      rw [hisid]
      go_wp2_with fail
      go_roundg (m.sources.length - (j + 1))
      case measure => have := Hgj.out; omega
      case rel => exact ⟨j + 1, by omega, rfl, by go_num, Hkj.out⟩
    ·have He := Lib.hid hkj
     have hge : ¬ (j : Int) < (m.sources.length : Int) := by omega
     clear hkj
     go_wp2_with fail
     go_ret
     exact ⟨rfl, H0.out.2.trans He.out⟩
end Go.Proofs.YtgcfkhcogllgfaaGreatDoor
