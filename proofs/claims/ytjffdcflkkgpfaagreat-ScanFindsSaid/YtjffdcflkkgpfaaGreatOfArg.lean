/-
  An argument that is a slice of things (package barographlaw10), opened.
  No condition beyond those that each theorem states.

  A meta as the bytes of its object (package meta, Encode).
  The meta may be said.

  The objects of a statement on listings (package barographlaw10): Objects.
  No condition: every list of things.
-/
import Derived.Test.YtjffdcflkkgpfaaGreatBlkLaw
import Derived.Test.YtjffdcflkkgpfaaGreatListEnc
import Derived.Test.YtjffdcflkkgpfaaGreatMark
import Derived.Test.YtjffdcflkkgpfaaGreatOfLaw
import Derived.Deep.CutBlock
namespace Go.Proofs.YtjffdcflkkgpfaaGreat
open Go Go.RowKit Go.ChangeShapes Go.WideShapes Go.Deep

section
variable {H : Type} {e0 : TypeId × Value → H} {P : Program} {W : World} {sp : Nat → Bool} {held : Bool} {b0 : Nat} {t e : TypeId}
theorem trod_sliceFormO {fuel : Nat} {u : Value} {x : DataW H × List MemPlace} (ht : P.underlying t = some (.slice e)) (h : DataW.trod e0 P W b0 sp held fuel t [u] = some x) : ∃ a n c, u = .slice a n c := by
  rcases DataW.trod_slice ht h with ⟨hcs, _⟩ | ⟨a, len, cap, _, _, _, _, hcs, _⟩
  · simp only [List.cons.injEq, and_true] at hcs
    exact ⟨_, _, _, hcs⟩
  · simp only [List.cons.injEq, and_true] at hcs
    exact ⟨_, _, _, hcs⟩

theorem trod_fieldO {fs : Array Field} {fuel : Nat} {cs : List Value} {x : DataW H × List MemPlace} (ht : P.underlying t = some (.struct fs)) (h : DataW.trod e0 P W b0 sp held fuel t cs = some x) : ∃ n, ∀ (i : Nat) (f : Field), fs[i]? = some f → ∃ y, DataW.trod e0 P W b0 sp held n f.type ((cs.drop f.offset).take (P.cellsOf f.type)) = some y := by
  obtain ⟨ys, n, _, _, _, hl, hg⟩ := DataW.trod_struct ht h
  refine ⟨n, fun i f hf => ?_⟩
  have hlt : i < ys.length := by rw [hl]; exact (Array.getElem?_eq_some_iff.1 hf).1
  exact ⟨ys[i], by rw [hg i f hf, List.getElem?_eq_getElem hlt]⟩
end
structure ThingL where
  tick : Int
  seq : Int
  part : Int
  m : RawM
  right : Bool
  data : ByteArray

def encThing (o : ThingL) : List Value := [.int .i64 o.tick, .int .i64 o.seq, .int .i64 o.part] ++ encRaw o.m ++ [.bool o.right, .string o.data]

theorem encThing_len (o : ThingL) : (encThing o).length = 13 := rfl

set_option maxRecDepth 100000 in
theorem open_thing {H : Type} {e0 : TypeId × Value → H} {W : World} {r : Reach} {b0 : Nat} {v : Value} {d : DataW H} {p : List MemPlace} (hok : Value.okWide Tryz.prog W r b0 22 v) (h : DataW.Trod e0 Tryz.prog W 0 (fun _ => true) true 22 v d p) :
    ∃ L : List ThingL, SliceArg 13 encThing W v L ∧ ∀ x ∈ L, True := by
  obtain ⟨a0, len0, cap0, rfl⟩ := okWide_slice Tryz.underlying22 hok
  obtain ⟨fuel, hf⟩ := h
  have hC : Tryz.prog.cellsOf 88 = 13 := by kernel_rfl
  have hCM : Tryz.prog.cellsOf 63 = 8 := by kernel_rfl
  have hCi : Tryz.prog.cellsOf 3 = 1 := by kernel_rfl
  have hCb : Tryz.prog.cellsOf 4 = 1 := by kernel_rfl
  have hC64 : Tryz.prog.cellsOf 2 = 1 := by kernel_rfl
  have hCs : Tryz.prog.cellsOf 9 = 1 := by kernel_rfl
  have hCf : Tryz.prog.cellsOf 61 = 1 := by kernel_rfl
  have hCt : Tryz.prog.cellsOf 25 = 1 := by kernel_rfl
  rcases open_slice Tryz.underlying22 hf with ⟨hcs, _⟩ | ⟨a, len, cap, m, n, D, Pl, hcs, _, hl, hm, hmm, _, hi⟩
  · simp [Value.cells] at hcs
    obtain ⟨rfl, rfl, rfl⟩ := hcs
    exact ⟨[], ⟨_, _, rfl, by simp [maxLen], fun i hi => by simp at hi⟩, by simp⟩
  · simp [Value.cells] at hcs
    obtain ⟨rfl, rfl, rfl⟩ := hcs
    simp only [if_true] at hmm
    subst hmm
    refine sliceArg_of (by omega) (by omega) fun i hlt => ?_
    obtain ⟨cs', hc', ht'⟩ := hi i (by omega)
    rw [hC] at hc'
    obtain ⟨_, hcl, hat⟩ := World.cells?_some hc'
    obtain ⟨n1, hg⟩ := trod_fieldO Tryz.underlying88 ht'
    obtain ⟨y0, h0⟩ := hg 0 _ rfl
    obtain ⟨y1, h1⟩ := hg 1 _ rfl
    obtain ⟨y2, h2⟩ := hg 2 _ rfl
    obtain ⟨y3, h3⟩ := hg 3 _ rfl
    obtain ⟨y4, h4⟩ := hg 4 _ rfl
    obtain ⟨y5, h5⟩ := hg 5 _ rfl
    simp only [List.getElem_toArray, List.getElem_cons_zero, List.getElem_cons_succ] at h0 h1 h2 h3 h4 h5
    simp only [hCM] at h3
    simp only [hCi] at h0 h1 h2
    simp only [hCb] at h4
    simp only [hCs] at h5
    match cs', hcl with
    | [c0, c1, c2, c3, c4, c5, c6, c7, c8, c9, c10, c11, c12], _ =>
      simp only [List.drop_zero, List.drop_succ_cons, List.take_succ_cons, List.take_zero] at h0 h1 h2 h3 h4 h5
      obtain ⟨n2, hm⟩ := trod_fieldO Tryz.underlying63 h3
      obtain ⟨z0, m0⟩ := hm 0 _ rfl
      obtain ⟨z1, m1⟩ := hm 1 _ rfl
      obtain ⟨z2, m2⟩ := hm 2 _ rfl
      obtain ⟨z3, m3⟩ := hm 3 _ rfl
      obtain ⟨z4, m4⟩ := hm 4 _ rfl
      obtain ⟨z5, m5⟩ := hm 5 _ rfl
      obtain ⟨z6, m6⟩ := hm 6 _ rfl
      obtain ⟨z7, m7⟩ := hm 7 _ rfl
      simp only [List.getElem_toArray, List.getElem_cons_zero, List.getElem_cons_succ] at m0 m1 m2 m3 m4 m5 m6 m7
      simp only [hCs, hCi, hC64, hCf, hCt, List.drop_zero, List.drop_succ_cons, List.take_succ_cons, List.take_zero] at m0 m1 m2 m3 m4 m5 m6 m7
      obtain ⟨s0, e0', _, _⟩ := DataW.trod_string Tryz.underlying9 m0
      obtain ⟨i1, e1, _, _⟩ := DataW.trod_int Tryz.underlying2 m1
      obtain ⟨i2, e2, _, _⟩ := DataW.trod_int Tryz.underlying2 m2
      obtain ⟨i3, e3, _, _⟩ := DataW.trod_int Tryz.underlying3 m3
      obtain ⟨i4, e4, _, _⟩ := DataW.trod_int Tryz.underlying3 m4
      obtain ⟨i5, e5, _, _⟩ := DataW.trod_int Tryz.underlying3 m5
      obtain ⟨fa, fn, fc, e6⟩ := trod_sliceFormO Tryz.underlying61 m6
      obtain ⟨sa, sn, sc, e7⟩ := trod_sliceFormO Tryz.underlying25 m7
      obtain ⟨i8, e8, _, _⟩ := DataW.trod_int Tryz.underlying3 h0
      obtain ⟨i9, e9, _, _⟩ := DataW.trod_int Tryz.underlying3 h1
      obtain ⟨i10, e10, _, _⟩ := DataW.trod_int Tryz.underlying3 h2
      obtain ⟨b11, e11, _⟩ := DataW.trod_bool Tryz.underlying4 h4
      obtain ⟨s12, e12, _, _⟩ := DataW.trod_string Tryz.underlying9 h5
      simp only [List.cons.injEq, and_true] at e0' e1 e2 e3 e4 e5 e8 e9 e10 e11 e12
      subst e0' e1 e2 e3 e4 e5 e6 e7 e8 e9 e10 e11 e12
      refine ⟨⟨i8, i9, i10, ⟨s0, i1, i2, i3, i4, i5, fa, fn, fc, sa, sn, sc⟩, b11, s12⟩, trivial, rfl, fun j hj => ?_⟩
      rw [← Go.Deep.add_add]
      exact hat j hj
end Go.Proofs.YtjffdcflkkgpfaaGreat

namespace Go.Proofs.YtjffdcflkkgpfaaGreat
open Go Go.RowKit

theorem frame_meta_len {m : MetaS} (ok : MetaOk m) : (frameL 1 (metaL m)).length ≤ 3000 := by
  have h := ok.len
  rw [frameL_len]
  have := lebL_len10 (v := (metaL m).length) (by omega)
  omega

set_option linter.unusedSimpArgs false in
set_option maxRecDepth 100000 in
set_option maxHeartbeats 1000000 in
theorem metaEnc_spec (B : Nat) (w : World) (vs : List Value) (m : MetaS) (h : MetaV B w vs m) (ok : MetaOk m) :
    Calls Tryz.prog 37 #[.agg vs.toArray] w fun e w' => e = .returned (.string ⟨(frameL 1 (metaL m)).toArray⟩) ∧ Keeps [] w w' := by
  have hvs := h
  obtain ⟨vf, vo, rfl, hsf, hso⟩ := hvs
  obtain ⟨af, cf, rfl, -, -, -, -⟩ := hsf
  obtain ⟨ao, co, rfl, -, -, -, -⟩ := hso
  have k0 : Keeps [] w (w.alloc (.cells #[.string m.id, .int .i64 m.mn, .int .i64 m.mx, .int .i64 m.level, .int .i64 m.series, .int .i64 m.samples, .slice af m.files.length cf, .slice ao m.sources.length co] 63)) := (Keeps.refl [] w).alloc _
  have Hp := Lib.hid (metaPut_spec B w _ _ m (.slice none 0 0) [] h ok k0 (by simp [Value.ownBlock]) (buf_nil _) (by simp))
  have Hk := Lib.hid (And.intro k0 ok.len)
  clear h k0
  go_enter Tryz.func37, Tryz.ntmps37
  go_wp2_with fail
  refine Hp.out.mono ?_
  rintro e w1 ⟨v1, rfl, hb1, ht1⟩
  rw [List.nil_append] at hb1
  have k1 := (ht1.fresh (Keeps.refl [] _) (by simp [Value.ownBlock])).1
  have hconv := hb1.run_string
  obtain ⟨ds, hds⟩ : ∃ s : ByteArray, s = ⟨(metaL m).toArray⟩ := ⟨_, rfl⟩
  have hdl : ds.data.toList = metaL m := by rw [hds]
  have hdz : ds.size ≤ 2000 := by
    rw [← dsize, hdl]
    exact Hk.out.2
  rw [← hds] at hconv
  have H2 := Lib.hid (And.intro (Hk.out.1.trans k1) hdl)
  clear hb1 ht1 k1 hds hdl
  go_wp2_with fail
  refine (frameAppend_spec w1 (.slice none 0 0) [] 1 ds (by simp; omega) (buf_nil w1)).mono ?_
  rintro e w3 ⟨v3, rfl, hb3, ht3⟩
  rw [List.nil_append, H2.out.2] at hb3
  have k3 := (ht3.fresh (Keeps.refl [] w1) (by simp [Value.ownBlock])).1
  have hconv3 := hb3.run_string
  have H3 := Lib.hid (H2.out.1.trans k3)
  clear hb3 ht3 k3 hconv
  obtain ⟨ms, hms⟩ : ∃ s : ByteArray, s = ⟨(frameL 1 (metaL m)).toArray⟩ := ⟨_, rfl⟩
  rw [← hms] at hconv3
  have Hms := Lib.hid hms
  clear hms
  go_wp2_with fail
  go_ret
  exact ⟨by rw [← Hms.out]; rfl, H3.out⟩
end Go.Proofs.YtjffdcflkkgpfaaGreat

namespace Go.Proofs.YtjffdcflkkgpfaaGreat
open Go Go.RowKit Go.Conc

theorem i64_and255 (n : Int) : bits .and .i64 n 255 = n % 256 := by
  have h3 : (BitVec.ofInt 64 255).toNat = 2 ^ 8 - 1 := by decide
  have key : (BitVec.ofInt 64 n &&& BitVec.ofInt 64 255).toNat = (n % ((2 ^ 64 : Nat) : Int)).toNat % 2 ^ 8 := by
    rw [BitVec.toNat_and, BitVec.toNat_ofInt, h3, Nat.and_two_pow_sub_one_eq_mod]
  show IntKind.i64.wrap ((BitVec.ofInt 64 n &&& BitVec.ofInt 64 255).toNat : Nat) = n % 256
  rw [key, IntKind.wrap_i64]
  omega

theorem quiet_stayO {P : Program} {f : FuncId} {args : Array Value} {w : World} {n : Nat} {v : Value} (h : Calls P f args (w.drewN n) fun e w' => e = .returned v ∧ w.drewN n = w') : Calls P f args (w.drewN n) fun e w'' => e = .returned v ∧ ∃ m, w'' = w.drewN m :=
  h.mono fun _ _ ⟨he, hm⟩ => ⟨he, n, hm.symm⟩

theorem infoObj : (Tryz.prog.info? 28).map (fun i => (i.zero, i.size, i.bytes)) = some (some (.agg #[.string ⟨#[]⟩, .string ⟨#[]⟩]), 2, 32) := by kernel_rfl

theorem encObj_len (o : ObjS) : (encObj o).length = 2 := rfl

def markD (id : ByteArray) (n : Nat) : ByteArray := ⟨(markL id.data.toList n).toArray⟩

def metaD (m : MetaS) : ByteArray := ⟨(frameL 1 (metaL m)).toArray⟩

def idT (o : ThingL) : ByteArray := (madeS o.m o.tick o.seq).id

/-- What a thing is as an object. -/
def objT (o : ThingL) : ObjS :=
  if o.part = 0 then (idT o ++ (⟨#[47]⟩ : ByteArray) ++ (⟨#[99, 104, 117, 110, 107, 115]⟩ : ByteArray), cut o.data 60)
  else if o.part = 1 then (idT o ++ (⟨#[47]⟩ : ByteArray) ++ (⟨#[105, 110, 100, 101, 120]⟩ : ByteArray), cut o.data 60)
  else if o.part = 2 then (idT o ++ (⟨#[47]⟩ : ByteArray) ++ (⟨#[109, 101, 116, 97]⟩ : ByteArray), if o.right = true then metaD (madeS o.m o.tick o.seq) else cut o.data 60)
  else if o.part = 3 then (idT o ++ (⟨#[47]⟩ : ByteArray) ++ (⟨#[109, 97, 114, 107]⟩ : ByteArray), if o.right = true then markD (idT o) (o.m.level % 256).toNat else cut o.data 60)
  else (cut o.data 20, cut o.data 60)

theorem objT_0 {o : ThingL} (h : o.part = 0) : objT o = (idT o ++ (⟨#[47]⟩ : ByteArray) ++ (⟨#[99, 104, 117, 110, 107, 115]⟩ : ByteArray), cut o.data 60) := by unfold objT; rw [if_pos h]

theorem objT_1 {o : ThingL} (h : o.part = 1) : objT o = (idT o ++ (⟨#[47]⟩ : ByteArray) ++ (⟨#[105, 110, 100, 101, 120]⟩ : ByteArray), cut o.data 60) := by unfold objT; rw [if_neg (by omega), if_pos h]

theorem objT_2 {o : ThingL} (h : o.part = 2) : objT o = (idT o ++ (⟨#[47]⟩ : ByteArray) ++ (⟨#[109, 101, 116, 97]⟩ : ByteArray), if o.right = true then metaD (madeS o.m o.tick o.seq) else cut o.data 60) := by unfold objT; rw [if_neg (by omega), if_neg (by omega), if_pos h]

theorem objT_3 {o : ThingL} (h : o.part = 3) : objT o = (idT o ++ (⟨#[47]⟩ : ByteArray) ++ (⟨#[109, 97, 114, 107]⟩ : ByteArray), if o.right = true then markD (idT o) (o.m.level % 256).toNat else cut o.data 60) := by unfold objT; rw [if_neg (by omega), if_neg (by omega), if_neg (by omega), if_pos h]

theorem objT_4 {o : ThingL} (h0 : ¬ o.part = 0) (h1 : ¬ o.part = 1) (h2 : ¬ o.part = 2) (h3 : ¬ o.part = 3) : objT o = (cut o.data 20, cut o.data 60) := by unfold objT; rw [if_neg h0, if_neg h1, if_neg h2, if_neg h3]

theorem made_okT (o : ThingL) : MetaOk (madeS o.m o.tick o.seq) := made_ok o.m o.tick o.seq [] (by simp) (by simp) (by simp)

theorem markD_size {id : ByteArray} {z : Nat} (h : id.size ≤ 16) (hz : z < 256) : (markD id z).size ≤ 5000 := by
  show (markL id.data.toList z).length ≤ 5000
  have h1 := lebL_len10 (v := z) (by omega)
  have h2 := lebL_len10 (v := id.data.toList.length) (by rw [dsize]; omega)
  have h4 : id.data.toList.length ≤ 16 := by rw [dsize]; exact h
  have h5 : (textL id.data.toList ++ lebL z).length ≤ 100 := by
    unfold textL
    simp only [List.length_append]
    omega
  unfold markL
  rw [frameL_len]
  have h3 := lebL_len10 (v := (textL id.data.toList ++ lebL z).length) (by omega)
  omega

theorem objT_size (o : ThingL) : (objT o).1.size ≤ 40 ∧ (objT o).2.size ≤ 5000 := by
  have hid : (idT o).size ≤ 16 := by have := id16 (made_okT o).id; unfold idT; omega
  have h60 := cut_size o.data 60
  have h20 := cut_size o.data 20
  have h1 : (⟨#[47]⟩ : ByteArray).size = 1 := rfl
  have hm : (metaD (madeS o.m o.tick o.seq)).size ≤ 5000 := by
    have := frame_meta_len (made_okT o)
    show (frameL 1 (metaL (madeS o.m o.tick o.seq))).length ≤ 5000
    omega
  have hk : (markD (idT o) (o.m.level % 256).toNat).size ≤ 5000 := markD_size hid (by omega)
  unfold objT
  split
  · refine ⟨?_, by show (cut o.data 60).size ≤ 5000; omega⟩
    rw [ByteArray.size_append, ByteArray.size_append, h1]
    have : (⟨#[99, 104, 117, 110, 107, 115]⟩ : ByteArray).size = 6 := rfl
    omega
  · split
    · refine ⟨?_, by show (cut o.data 60).size ≤ 5000; omega⟩
      rw [ByteArray.size_append, ByteArray.size_append, h1]
      have : (⟨#[105, 110, 100, 101, 120]⟩ : ByteArray).size = 5 := rfl
      omega
    · split
      · refine ⟨?_, by show (if o.right = true then _ else _ : ByteArray).size ≤ 5000; split <;> omega⟩
        rw [ByteArray.size_append, ByteArray.size_append, h1]
        have : (⟨#[109, 101, 116, 97]⟩ : ByteArray).size = 4 := rfl
        omega
      · split
        · refine ⟨?_, by show (if o.right = true then _ else _ : ByteArray).size ≤ 5000; split <;> omega⟩
          rw [ByteArray.size_append, ByteArray.size_append, h1]
          have : (⟨#[109, 97, 114, 107]⟩ : ByteArray).size = 4 := rfl
          omega
        · exact ⟨by show (cut o.data 20).size ≤ 40; omega, by show (cut o.data 60).size ≤ 5000; omega⟩

def freshN (L : List ObjS) (n : ByteArray) : Bool := L.all fun p => !decide (p.1 = n)

theorem freshN_iff {L : List ObjS} {n : ByteArray} : freshN L n = true ↔ n ∉ L.map (fun p : ObjS => p.1) := by
  unfold freshN
  rw [List.all_eq_true]
  constructor
  · intro h hm
    obtain ⟨p, hp, he⟩ := List.mem_map.1 hm
    have := h p hp
    simp [he] at this
  · intro h p hp
    have : p.1 ≠ n := fun e => h (List.mem_map.2 ⟨p, hp, e⟩)
    simp [this]

def objStep (L : List ObjS) (o : ThingL) : List ObjS := if freshN L (objT o).1 = true then L ++ [objT o] else L

def objsL (O : List ThingL) : List ObjS := O.foldl objStep []

theorem objsL_snoc {O : List ThingL} {k : Nat} (h : k < O.length) : objsL (O.take (k + 1)) = objStep (objsL (O.take k)) O[k] := by
  unfold objsL
  rw [List.take_succ_eq_append_getElem h, List.foldl_append]
  rfl

theorem objsL_ok (O : List ThingL) : (objsL O).length ≤ O.length ∧ ((objsL O).map (fun p : ObjS => p.1)).Nodup ∧ ∀ p ∈ objsL O, p.1.size ≤ 40 ∧ p.2.size ≤ 5000 := by
  have key : ∀ (O : List ThingL) (L : List ObjS), (L.map (fun p : ObjS => p.1)).Nodup → (∀ p ∈ L, p.1.size ≤ 40 ∧ p.2.size ≤ 5000) →
      (O.foldl objStep L).length ≤ L.length + O.length ∧ ((O.foldl objStep L).map (fun p : ObjS => p.1)).Nodup ∧ ∀ p ∈ O.foldl objStep L, p.1.size ≤ 40 ∧ p.2.size ≤ 5000 := by
    intro O
    induction O with
    | nil => intro L h1 h2; exact ⟨by simp, h1, h2⟩
    | cons o O ih =>
      intro L h1 h2
      rw [List.foldl_cons]
      have hs : (objStep L o).length ≤ L.length + 1 ∧ ((objStep L o).map (fun p : ObjS => p.1)).Nodup ∧ ∀ p ∈ objStep L o, p.1.size ≤ 40 ∧ p.2.size ≤ 5000 := by
        unfold objStep
        split
        · rename_i hn
          have hn := freshN_iff.1 hn
          refine ⟨by simp, ?_, fun p hp => ?_⟩
          · rw [List.map_append, List.nodup_append]
            refine ⟨h1, by simp, fun a ha b hb e => ?_⟩
            simp only [List.map_cons, List.map_nil, List.mem_singleton] at hb
            subst hb e
            exact hn ha
          · rcases List.mem_append.1 hp with hp | hp
            · exact h2 p hp
            · simp only [List.mem_singleton] at hp
              subst hp
              exact objT_size o
        · exact ⟨by omega, h1, h2⟩
      obtain ⟨i1, i2, i3⟩ := ih _ hs.2.1 hs.2.2
      exact ⟨by simp only [List.length_cons]; omega, i2, i3⟩
  have h := key O [] (by simp) (by simp)
  simpa [objsL] using h

/-- What the map of names met says. -/
structure SeenOk (k : Nat) (L : List ObjS) (SE : PartsM) : Prop where
  no : ∀ n, look SE n = none → n ∉ L.map (fun p : ObjS => p.1)
  yes : ∀ n c, look SE n = some c → n ∈ L.map (fun p : ObjS => p.1) ∧ 1 ≤ c ∧ c ≤ k

theorem seenOk_nil : SeenOk 0 [] [] := ⟨by simp, fun n c h => by simp [look] at h⟩

theorem seenOk_new {k : Nat} {L : List ObjS} {SE : PartsM} {nm dt : ByteArray} (h : SeenOk k L SE) : SeenOk (k + 1) (L ++ [(nm, dt)]) (put SE nm 1) where
  no := fun n hl => by
    rw [look_put] at hl
    by_cases e : n = nm
    · rw [if_pos e] at hl; cases hl
    · rw [if_neg e] at hl
      simp only [List.map_append, List.map_cons, List.map_nil, List.mem_append, List.mem_singleton, not_or]
      exact ⟨h.no n hl, e⟩
  yes := fun n c hl => by
    rw [look_put] at hl
    by_cases e : n = nm
    · rw [if_pos e] at hl
      injection hl with hl
      exact ⟨by simp [e], by omega, by omega⟩
    · rw [if_neg e] at hl
      obtain ⟨h1, h2, h3⟩ := h.yes n c hl
      exact ⟨by simp only [List.map_append, List.mem_append]; exact .inl h1, h2, by omega⟩

theorem seenOk_old {k : Nat} {L : List ObjS} {SE : PartsM} {nm : ByteArray} {c : Int} (h : SeenOk k L SE) (hc : look SE nm = some c) : SeenOk (k + 1) L (put SE nm (c + 1)) where
  no := fun n hl => by
    rw [look_put] at hl
    by_cases e : n = nm
    · rw [if_pos e] at hl; cases hl
    · rw [if_neg e] at hl; exact h.no n hl
  yes := fun n c' hl => by
    rw [look_put] at hl
    have h0 := h.yes nm c hc
    by_cases e : n = nm
    · rw [if_pos e] at hl
      injection hl with hl
      exact ⟨by rw [e]; exact h0.1, by omega, by omega⟩
    · rw [if_neg e] at hl
      obtain ⟨h1, h2, h3⟩ := h.yes n c' hl
      exact ⟨h1, h2, by omega⟩

def ObjsPost (w : World) (L : List ObjS) (e : Ending) (w' : World) : Prop :=
  ∃ g c, e = .returned (.slice (some ⟨g, 0, none⟩) L.length c) ∧ w'.ownsRow w.heap.size 28 2 (.slice (some ⟨g, 0, none⟩) L.length c) L.length (L.flatMap encObj) ∧ Keeps [] w w'

def ObjRel (w : World) (O : List ThingL) (mb n gk : Nat) (u3 u5 : Value) (wr : World) : Prop :=
  ∃ (k g c : Nat) (L : List ObjS) (SE : PartsM), k ≤ n ∧ gk = n - k ∧ u5 = .int .i64 k ∧ u3 = .slice (some ⟨g, 0, none⟩) L.length c ∧ L = objsL (O.take k) ∧ wr.ownsRow w.heap.size 28 2 (.slice (some ⟨g, 0, none⟩) L.length c) L.length (L.flatMap encObj) ∧ MapAt wr mb (encMap encI SE) ∧ SeenOk k L SE ∧ Keeps [] w wr

def NameMid (W : World) (o : ThingL) (u8 u9 : Value) (wc : World) : Prop := u8 = .string (objT o).1 ∧ u9 = .string (objT o).2 ∧ Keeps [] W wc

set_option linter.unusedSimpArgs false in
set_option maxRecDepth 100000 in
set_option maxHeartbeats 4000000 in
theorem objects_spec (w : World) (v : Value) (O : List ThingL) (hO : SliceArg 13 encThing w v O) :
    Calls Tryz.prog 8 #[v] w (ObjsPost w (objsL (O.take 15))) := by
  have HO := Lib.hid hO
  obtain ⟨av, cv, rfl, hvm, -⟩ := hO
  unfold maxLen at hvm
  obtain ⟨io, hio, hzo0, hzo1, hzo2⟩ := info_parts infoObj
  have hmm := @run_makeMap Tryz.prog
  obtain ⟨gb, hgb⟩ : ∃ n, n = w.heap.size := ⟨_, rfl⟩
  obtain ⟨mb, hmb⟩ : ∃ n, n = gb + 1 := ⟨_, rfl⟩
  have n0 := new2 w (.cells #[] 28) (.map #[] 0)
  have k0 : Keeps [] w ((w.alloc (.cells #[] 28)).alloc (.map #[] 0)) := ((Keeps.refl [] w).alloc _).alloc _
  rw [← hgb, ← hmb] at n0
  have H0 := Lib.hid (And.intro n0 k0)
  have HB := Lib.hid (And.intro hgb hmb)
  have hbb : w.heap.size ≤ gb ∧ w.heap.size ≤ mb := by omega
  obtain ⟨n, hn⟩ : ∃ n, n = min O.length 15 := ⟨_, rfl⟩
  have hn15 : n ≤ 15 := by omega
  clear n0 k0 hgb hmb
  go_enter Tryz.func8, Tryz.ntmps8
  go_upto_region 3 with fail
  rw [← HB.out.1, ← HB.out.2]
  clear hmm
  generalize (w.alloc (.cells #[] 28)).alloc (.map #[] 0) = W0 at H0 ⊢
  go_wp2_with fail
  have hr0 : W0.ownsRow w.heap.size 28 2 (.slice (some ⟨gb, 0, none⟩) 0 0) 0 [] := ⟨rfl, .inr ⟨gb, 0, #[], rfl, hbb.1, H0.out.1.1, Nat.le_refl _, by simp [maxLen], by simp, by simp⟩⟩
  have hm0 : MapAt W0 mb (encMap encI []) := ⟨[], 0, H0.out.1.2, ⟨by simp, by simp, by simp⟩, rfl⟩
  have H1 := Lib.hid (And.intro hr0 (And.intro hm0 H0.out.2))
  clear hr0 hm0 H0 HB
  go_loopg [3, 5] n (ObjRel w O mb n)
  case atStart => exact ⟨0, gb, 0, [], [], Nat.zero_le _, rfl, rfl, rfl, rfl, H1.out.1, H1.out.2.1, seenOk_nil, H1.out.2.2⟩
  case round =>
    obtain ⟨k, g, c, L, SE, hk, hgk, rfl, rfl, hLe, hrow, hmap, hok, hkw⟩ := hrel
    have Hg := Lib.hid hgk
    have HLe := Lib.hid hLe
    have hLk : L.length ≤ k := by rw [hLe]; have := (objsL_ok (O.take k)).1; rw [List.length_take] at this; omega
    clear H1 hgk hLe
    by_cases hlt : k < n
    · have hkO : k < O.length := by omega
      have g1 : (k : Int) < (O.length : Int) := by omega
      have g2 : (k : Int) < 15 := by omega
      obtain ⟨b6, of6, ea, hb6w, hc6w⟩ := HO.out.atI k hkO
      subst ea
      have hb6 := hkw.lt hb6w
      have hc6 : ∀ j, j < 13 → wr.cell? ⟨b6, of6 + (k * 13 + j), none⟩ = (encThing O[k])[j]? := fun j hj => (hkw.cell hb6w (by simp)).trans (hc6w j hj)
      clear hc6w hb6w
      obtain ⟨o, hoe⟩ : ∃ o, o = O[k] := ⟨_, rfl⟩
      have Hsn := Lib.hid (objsL_snoc hkO)
      rw [← hoe] at hc6 Hsn
      clear hoe
      have d0 : wr.cell? ⟨b6, of6 + k * 13, none⟩ = some (.int .i64 o.tick) := hc6 0 (by decide)
      have d1 : wr.cell? ⟨b6, of6 + k * 13 + 1, none⟩ = some (.int .i64 o.seq) := hc6 1 (by decide)
      have d2 : wr.cell? ⟨b6, of6 + k * 13 + 2, none⟩ = some (.int .i64 o.part) := hc6 2 (by decide)
      have d3 : wr.cell? ⟨b6, of6 + k * 13 + 3, none⟩ = some (.string o.m.id) := hc6 3 (by decide)
      have d4 : wr.cell? ⟨b6, of6 + k * 13 + 4, none⟩ = some (.int .i64 o.m.mn) := hc6 4 (by decide)
      have d5 : wr.cell? ⟨b6, of6 + k * 13 + 5, none⟩ = some (.int .i64 o.m.mx) := hc6 5 (by decide)
      have d6 : wr.cell? ⟨b6, of6 + k * 13 + 6, none⟩ = some (.int .i64 o.m.level) := hc6 6 (by decide)
      have d7 : wr.cell? ⟨b6, of6 + k * 13 + 7, none⟩ = some (.int .i64 o.m.series) := hc6 7 (by decide)
      have d8 : wr.cell? ⟨b6, of6 + k * 13 + 8, none⟩ = some (.int .i64 o.m.samples) := hc6 8 (by decide)
      have d9 : wr.cell? ⟨b6, of6 + k * 13 + 9, none⟩ = some (.slice o.m.fa o.m.fn o.m.fc) := hc6 9 (by decide)
      have d10 : wr.cell? ⟨b6, of6 + k * 13 + 10, none⟩ = some (.slice o.m.sa o.m.sn o.m.sc) := hc6 10 (by decide)
      have d11 : wr.cell? ⟨b6, of6 + k * 13 + 11, none⟩ = some (.bool o.right) := hc6 11 (by decide)
      have d12 : wr.cell? ⟨b6, of6 + k * 13 + 12, none⟩ = some (.string o.data) := hc6 12 (by decide)
      clear hc6
      obtain ⟨m, hm⟩ : ∃ m, m = madeS o.m o.tick o.seq := ⟨_, rfl⟩
      have hmade := fun W => made9_spec W o.m o.tick o.seq
      rw [← hm] at hmade
      have hmok : MetaOk m := by
        rw [hm]
        exact made_ok o.m o.tick o.seq [] (by simp) (by simp) (by simp)
      have hmid : m.id.size ≤ 16 := by have := id16 hmok.id; omega
      have Hmade := Lib.hid hmade
      have Hmok := Lib.hid hmok
      have hsrc : m.sources = [] := by rw [hm]; rfl
      have hfl : m.files.length = 2 := by rw [hm]; rfl
      have Hmm := Lib.hid (show m.id = idT o ∧ m = madeS o.m o.tick o.seq from ⟨by rw [hm]; rfl, hm⟩)
      have Hms := Lib.hid (And.intro hsrc hfl)
      clear hm hmade hmok hsrc hfl
      have ka : Keeps [] wr (wr.alloc (.cells #[.int .i64 o.tick, .int .i64 o.seq, .int .i64 o.part, .string o.m.id, .int .i64 o.m.mn, .int .i64 o.m.mx, .int .i64 o.m.level, .int .i64 o.m.series, .int .i64 o.m.samples, .slice o.m.fa o.m.fn o.m.fc, .slice o.m.sa o.m.sn o.m.sc, .bool o.right, .string o.data] 88)) := (Keeps.refl [] wr).alloc _
      have na := heap_new wr (.cells #[.int .i64 o.tick, .int .i64 o.seq, .int .i64 o.part, .string o.m.id, .int .i64 o.m.mn, .int .i64 o.m.mx, .int .i64 o.m.level, .int .i64 o.m.series, .int .i64 o.m.samples, .slice o.m.fa o.m.fn o.m.fc, .slice o.m.sa o.m.sn o.m.sc, .bool o.right, .string o.data] 88)
      obtain ⟨tb, htb⟩ : ∃ n, n = wr.heap.size := ⟨_, rfl⟩
      have htw : w.heap.size ≤ tb := by have := hkw.size; omega
      rw [← htb] at na
      have Htb := Lib.hid htb
      have H := Lib.hid (And.intro na (And.intro (ka.row hrow (by simp)) (And.intro (hmap.keep ka (by simp)) (hkw.trans ka))))
      have Hok := Lib.hid hok
      clear na ka htb hrow hmap hkw hok
      go_upto_region 7 with fail
      clear d0 d1 d2 d3 d4 d5 d6 d7 d8 d9 d10 d11 d12
      rw [← Htb.out]
      clear Htb
      generalize wr.alloc (.cells #[.int .i64 o.tick, .int .i64 o.seq, .int .i64 o.part, .string o.m.id, .int .i64 o.m.mn, .int .i64 o.m.mx, .int .i64 o.m.level, .int .i64 o.m.series, .int .i64 o.m.samples, .slice o.m.fa o.m.fn o.m.fc, .slice o.m.sa o.m.sn o.m.sc, .bool o.right, .string o.data] 88) = W1 at H ⊢
      have ct := cells_at H.out.1
      have lt := lt_of_at H.out.1
      go_wp2_with fail
      clear ct lt
      refine (Hmade.out _).mono ?_
      rintro e w2 ⟨vf, va, vn, vc, rfl, hrf, hk2⟩
      obtain ⟨af, cf, rfl, -, -, -⟩ := row_slice hrf
      unfold madeVs
      have kb : Keeps [] w2 (w2.alloc (.cells #[.string m.id, .int .i64 m.mn, .int .i64 m.mx, .int .i64 m.level, .int .i64 m.series, .int .i64 m.samples, .slice af 2 cf, .slice va vn vc] 63)) := (Keeps.refl [] w2).alloc _
      have nb := heap_new w2 (.cells #[.string m.id, .int .i64 m.mn, .int .i64 m.mx, .int .i64 m.level, .int .i64 m.series, .int .i64 m.samples, .slice af 2 cf, .slice va vn vc] 63)
      obtain ⟨xb, hxb⟩ : ∃ n, n = w2.heap.size := ⟨_, rfl⟩
      have hxw : w.heap.size ≤ xb := by have := H.out.2.2.2.size; have := hk2.size; omega
      have hxt : xb ≠ tb ∧ W1.heap.size ≤ xb := by have := lt_of_at H.out.1; have := hk2.size; omega
      rw [← hxb] at nb
      have Hxb := Lib.hid hxb
      have k2b := hk2.trans kb
      have hmx : mb ≠ xb := by have := MapAt.lt H.out.2.2.1; omega
      have H2 := Lib.hid (And.intro nb (And.intro (k2b.at_ H.out.1 (by simp)) (And.intro (kb.row hrf (by simp)) (And.intro (k2b.row H.out.2.1 (by simp)) (And.intro (H.out.2.2.1.keep k2b (by simp)) (H.out.2.2.2.trans k2b))))))
      clear nb kb hxb hrf hk2 k2b Hmade
      go_upto_region 8 with fail
      rw [← Hxb.out]
      clear Hxb
      generalize w2.alloc (.cells #[.string m.id, .int .i64 m.mn, .int .i64 m.mx, .int .i64 m.level, .int .i64 m.series, .int .i64 m.samples, .slice af 2 cf, .slice va vn vc] 63) = W3 at H2 ⊢
      have cx := cells_at H2.out.1
      have fx := free_at H2.out.1
      have lx := lt_of_at H2.out.1
      have nx : (W3.setCell ⟨xb, 7, none⟩ (.slice none 0 0)).heap[xb]? = some (.cells #[.string m.id, .int .i64 m.mn, .int .i64 m.mx, .int .i64 m.level, .int .i64 m.series, .int .i64 m.samples, .slice af 2 cf, .slice none 0 0] 63 (0, 0)) := (heap_cell_same (i := 7) H2.out.1 _).trans (by simp)
      have kx : Keeps [xb] W3 (W3.setCell ⟨xb, 7, none⟩ (.slice none 0 0)) := (Keeps.refl [xb] W3).setCell (.inl (by simp)) _
      have hrf3 := kx.row H2.out.2.2.1 (fun g hg => by have := row_ne_type H2.out.2.2.1 H2.out.1 (by decide) g hg; simpa using this)
      have hmv : MetaV W1.heap.size (W3.setCell ⟨xb, 7, none⟩ (.slice none 0 0)) [.string m.id, .int .i64 m.mn, .int .i64 m.mx, .int .i64 m.level, .int .i64 m.series, .int .i64 m.samples, .slice af 2 cf, .slice none 0 0] m := by
        refine ⟨_, _, rfl, ?_, ?_⟩
        · have h2 := hrf3
          rw [← Hms.out.2] at h2
          have h3 := sliceFrom_row (enc := encFile) (fun _ => rfl) h2
          rw [Hms.out.2] at h3
          exact h3
        · rw [Hms.out.1]
          exact sliceFrom_nil _ _ _ _
      have H3 := Lib.hid (And.intro nx (And.intro (kx.at_ H2.out.2.1 (by simp; omega)) (And.intro hmv (And.intro (kx.row H2.out.2.2.2.1 (fun g hg => by have := row_ne_type H2.out.2.2.2.1 H2.out.1 (by decide) g hg; simpa using this)) (And.intro (H2.out.2.2.2.2.1.keep kx (by simp; exact hmx)) (H2.out.2.2.2.2.2.after kx (fun x hx => .inr (by simp only [List.mem_singleton] at hx; omega))))))))
      clear nx kx hrf3 hmv
      go_upto_region 9 with fail
      clear cx fx lx H2
      generalize W3.setCell ⟨xb, 7, none⟩ (.slice none 0 0) = W4 at H3 ⊢
      have ct := cells_at H3.out.2.1
      have lt := lt_of_at H3.out.2.1
      have cx := cells_at H3.out.1
      have lx := lt_of_at H3.out.1
      have hd60 := cut_size o.data 60
      have hd20 := cut_size o.data 20
      have hno : ¬ 9223372036854775807 < m.id.size + 1 := by omega
      go_quiet ((go_at_call 36; exact quiet_stayO (cut_any _ _ _ (by decide))))
      rename_i nq
      obtain ⟨dt0, hdt0⟩ : ∃ b, b = cut o.data 60 := ⟨_, rfl⟩
      rw [← hdt0] at hd60 ⊢
      have Hdt := Lib.hid hdt0
      clear hdt0
      have kq : Keeps [] W4 (W4.drewN nq) := (Keeps.refl [] W4).drewN nq
      have H4 := Lib.hid (And.intro (kq.at_ H3.out.1 (by simp)) (And.intro (kq.at_ H3.out.2.1 (by simp)) (And.intro (H3.out.2.2.1.same kq) (And.intro (kq.row H3.out.2.2.2.1 (by simp)) (And.intro (H3.out.2.2.2.2.1.keep kq (by simp)) (H3.out.2.2.2.2.2.trans kq))))))
      clear ct lt cx lx kq H3
      generalize W4.drewN nq = W5 at H4 ⊢
      have hz1 : (⟨#[47]⟩ : ByteArray).size = 1 := rfl
      have hn0 : (m.id ++ ⟨#[47]⟩).size ≤ 17 := by rw [ByteArray.size_append]; omega
      clear hz1
      obtain ⟨nm0, hnm0⟩ : ∃ b, b = m.id ++ (⟨#[47]⟩ : ByteArray) := ⟨_, rfl⟩
      rw [← hnm0] at hn0 ⊢
      have Hnm := Lib.hid (show nm0 = idT o ++ (⟨#[47]⟩ : ByteArray) from by rw [hnm0, Hmm.out.1])
      clear hnm0
      have ct := cells_at H4.out.2.1
      have lt := lt_of_at H4.out.2.1
      have cx := cells_at H4.out.1
      have lx := lt_of_at H4.out.1
      go_upto_block 2 with fail
      go_cut [8, 9] from 42 to 73 (NameMid W5 o)
      case first =>
        by_cases p0 : o.part = 0
        · have e0 : (o.part == 0) = true := by simp [p0]
          have Hp := Lib.hid (objT_0 p0)
          clear p0
          go_wp2_with fail
          go_meet
          exact ⟨by rw [Hp.out, ← Hnm.out], by rw [Hp.out, ← Hdt.out], Keeps.refl _ _⟩
        have e0 : (o.part == 0) = false := by simp [p0]
        by_cases p1 : o.part = 1
        · have e1 : (o.part == 1) = true := by simp [p1]
          have Hp := Lib.hid (objT_1 p1)
          clear p0 p1
          go_wp2_with fail
          go_meet
          exact ⟨by rw [Hp.out, ← Hnm.out], by rw [Hp.out, ← Hdt.out], Keeps.refl _ _⟩
        have e1 : (o.part == 1) = false := by simp [p1]
        by_cases p2 : o.part = 2
        · have e2 : (o.part == 2) = true := by simp [p2]
          have Hp := Lib.hid (objT_2 p2)
          clear p0 p1 p2
          rcases (Bool.eq_false_or_eq_true o.right).symm with hr | hr
          · rw [hr] at ct
            have Hr := Lib.hid hr
            clear hr
            go_wp2_with fail
            go_meet
            exact ⟨by rw [Hp.out, ← Hnm.out], by rw [Hp.out, if_neg (by rw [Hr.out]; simp), ← Hdt.out], Keeps.refl _ _⟩
          · rw [hr] at ct
            have Hr := Lib.hid hr
            clear hr
            go_wp2_with fail
            refine (metaEnc_spec W1.heap.size W5 _ m H4.out.2.2.1 Hmok.out).mono ?_
            rintro e w6 ⟨rfl, hk6⟩
            have Hk6 := Lib.hid hk6
            clear hk6
            go_wp2_with fail
            go_meet
            exact ⟨by rw [Hp.out, ← Hnm.out], by rw [Hp.out, if_pos Hr.out, ← Hmm.out.2]; rfl, Hk6.out⟩
        have e2 : (o.part == 2) = false := by simp [p2]
        by_cases p3 : o.part = 3
        · have e3 : (o.part == 3) = true := by simp [p3]
          have Hp := Lib.hid (objT_3 p3)
          clear p0 p1 p2 p3
          rcases (Bool.eq_false_or_eq_true o.right).symm with hr | hr
          · rw [hr] at ct
            have Hr := Lib.hid hr
            clear hr
            go_wp2_with fail
            go_meet
            exact ⟨by rw [Hp.out, ← Hnm.out], by rw [Hp.out, if_neg (by rw [Hr.out]; simp), ← Hdt.out], Keeps.refl _ _⟩
          · rw [hr] at ct
            have Hr := Lib.hid hr
            clear hr
            have hand := i64_and255 o.m.level
            obtain ⟨z, hz⟩ : ∃ z : Nat, o.m.level % 256 = (z : Int) := ⟨(o.m.level % 256).toNat, by omega⟩
            have hz256 : z < 256 := by omega
            rw [hz] at hand
            have Hz := Lib.hid (show (o.m.level % 256).toNat = z from by omega)
            clear hz
            go_wp2_with fail
            refine (encodeMark_spec W5 m.id (by omega) z z (by omega) (by omega)).mono ?_
            rintro e w6 ⟨rfl, hk6⟩
            have Hk6 := Lib.hid hk6
            clear hk6
            go_wp2_with fail
            go_meet
            exact ⟨by rw [Hp.out, ← Hnm.out], by rw [Hp.out, if_pos Hr.out, ← Hmm.out.1, Hz.out]; rfl, Hk6.out⟩
        have e3 : (o.part == 3) = false := by simp [p3]
        have Hcut := Lib.hid (fun W => cut_any o.data 20 W (by decide))
        have Hp := Lib.hid (objT_4 p0 p1 p2 p3)
        clear p0 p1 p2 p3
        go_wp2_with fail
        refine (Hcut.out _).mono ?_
        rintro e w6 ⟨rfl, rfl⟩
        go_wp2_with fail
        go_meet
        exact ⟨by rw [Hp.out], by rw [Hp.out, ← Hdt.out], Keeps.refl _ _⟩
      case rest =>
        obtain ⟨rfl, rfl, hk5⟩ := hcut
        obtain ⟨nm, hnm⟩ : ∃ x, x = (objT o).1 := ⟨_, rfl⟩
        obtain ⟨dt, hdt⟩ : ∃ x, x = (objT o).2 := ⟨_, rfl⟩
        rw [← hnm, ← hdt]
        have Hnd := Lib.hid (show objT o = (nm, dt) from by rw [hnm, hdt])
        clear hnm hdt
        clear ct lt cx lx
        have hmap := H4.out.2.2.2.2.1.keep hk5 (by simp)
        have hrow := hk5.row H4.out.2.2.2.1 (by simp)
        have hkw := H4.out.2.2.2.2.2.trans hk5
        have hcz := Hok.out.yes nm
        have hL15 : L.length ≤ 15 := by omega
        have hrl := hmap.run_lookup (P := Tryz.prog) Tryz.underlying30 Tryz.underlying9 (zeroInt _) nm false
        rw [lookVal_int] at hrl
        cases hls : look SE nm with
        | none =>
          have hrl0 : (Instr.lookup 30 (.map (some mb)) (.string nm) false).run Tryz.prog wc = .ok (.int .i64 0) wc := by rw [hrl, hls]; rfl
          have ka8 : Keeps [] w (wc.alloc (.cells #[.string nm, .string dt] 28)) := hkw.alloc _
          have HL := Lib.hid hls
          have Hst := Lib.hid (show objsL (O.take (k + 1)) = L ++ [(nm, dt)] from by
            rw [Hsn.out, ← HLe.out]
            unfold objStep
            rw [Hnd.out]
            exact if_pos (freshN_iff.2 (Hok.out.no nm hls)))
          have HM := Lib.hid (And.intro hmap (And.intro hrow (And.intro hkw ka8)))
          have hwz := hkw.size
          clear hrl hcz hls hmap hrow hkw ka8 hk5
          go_upto_region 25 with fail
          clear hrl0
          go_upto_region 26 with (at_builtin; refine wpList_append_own _ rfl (.tmp 78) (.tmp 82) 23 rfl w.heap.size 28 io _ 2 32 Tryz.underlying23 hio hzo0 hzo1 hzo2 rfl (by decide) (.slice (some ⟨g, 0, none⟩) L.length c) L.length (L.flatMap encObj) rfl (HM.out.2.1.alloc _) ⟨wc.heap.size, 0, none⟩ 1 1 [.string nm, .string dt] rfl rfl (news_of (heap_new wc _)) (by simp [Value.oneCell']) (by simp only [maxLen]; omega) (by omega) (by simp; omega) ?_; intro v8 w8 hown8 hgrow8 hnil)
          have hne8 : v8 ≠ .slice none 0 0 := fun e => by have := (hnil.1 e).1; cases this
          obtain ⟨g8, c8, rfl⟩ := row_some hown8 hne8
          have hk8 : Keeps [] w w8 := keeps_grownM HM.out.2.2.2 hgrow8 (fun g hg => (World.ownsRow.lt HM.out.2.1 g hg).1)
          have kg8 := keeps_rowM hgrow8
          have hmp7 : MapAt (wc.alloc (.cells #[.string nm, .string dt] 28)) mb (encMap encI SE) := HM.out.1.keep ((Keeps.refl [] wc).alloc _) (by simp)
          have hmp8 : MapAt w8 mb (encMap encI SE) := hmp7.keep kg8 (row_ne_map (HM.out.2.1.alloc (.cells #[.string nm, .string dt] 28)) hmp7)
          have hrl8 := hmp8.run_lookup (P := Tryz.prog) Tryz.underlying30 Tryz.underlying9 (zeroInt _) nm false
          rw [lookVal_int, HL.out] at hrl8
          have hrl9 : (Instr.lookup 30 (.map (some mb)) (.string nm) false).run Tryz.prog w8 = .ok (.int .i64 0) w8 := hrl8
          have hok8 := seenOk_new (nm := nm) (dt := dt) Hok.out
          have hown9 : w8.ownsRow w.heap.size 28 2 (.slice (some ⟨g8, 0, none⟩) (L ++ [(nm, dt)]).length c8) (L ++ [(nm, dt)]).length ((L ++ [(nm, dt)]).flatMap encObj) := by
            rw [List.flatMap_append, List.length_append]
            simpa [encObj] using hown8
          have H8 := Lib.hid (And.intro hmp8 (And.intro hown9 (And.intro hk8 hok8)))
          have hmw : w.heap.size ≤ mb := hbb.2
          clear hnil hne8 hgrow8 hown8 hk8 kg8 hmp7 hmp8 hrl8 hok8 hown9 HM HL
          go_wp2_with (refine wpList_update_str _ rfl (.tmp 84) (.tmp 85) (.tmp 87) _ _ _ rfl Tryz.underlying30 Tryz.underlying9 mb (encMap encI SE) nm (encI 1) (by rfl) (by rfl) (by rfl) H8.out.1 ?_; intro w9 hm9 hk9)
          rw [put_enc] at hm9
          have hrow9 := hk9.row H8.out.2.1 (fun g hg hm => row_ne_map H8.out.2.1 H8.out.1 (by
            simp only [List.mem_singleton] at hm
            subst hm
            rw [hg]
            simp))
          have H9 := Lib.hid (And.intro hm9 (And.intro hrow9 (And.intro (H8.out.2.2.1.after hk9 (fun x hx => .inr (by simp only [List.mem_singleton] at hx; omega))) H8.out.2.2.2)))
          clear hm9 hrow9 hk9 hrl9
          go_roundg (n - (k + 1))
          case measure => have := Hg.out; omega
          case rel => exact ⟨k + 1, g8, c8, L ++ [(nm, dt)], put SE nm 1, by omega, rfl, by go_num, by simp, Hst.out.symm, H9.out.2.1, H9.out.1, H9.out.2.2.2, H9.out.2.2.1⟩
        | some cn =>
          have hcn := (hcz cn hls).2
          have Hst := Lib.hid (show objsL (O.take (k + 1)) = L from by
            rw [Hsn.out, ← HLe.out]
            unfold objStep
            rw [Hnd.out]
            exact if_neg (fun h => freshN_iff.1 h (hcz cn hls).1))
          have hrl0 : (Instr.lookup 30 (.map (some mb)) (.string nm) false).run Tryz.prog wc = .ok (.int .i64 cn) wc := by rw [hrl, hls]; rfl
          have hc0 : (cn == 0) = false := by rw [beq_eq_false_iff_ne]; omega
          have hws : IntKind.i64.wrap (cn + 1) = cn + 1 := IntWalk.i64_in _ (by omega)
          have hok8 := seenOk_old Hok.out hls
          have H8 := Lib.hid (And.intro hmap (And.intro hrow (And.intro hkw hok8)))
          have hmw : w.heap.size ≤ mb := hbb.2
          clear hrl hcz hls hmap hrow hkw hk5 hok8
          go_wp2_with (refine wpList_update_str _ rfl (.tmp 84) (.tmp 85) (.tmp 87) _ _ _ rfl Tryz.underlying30 Tryz.underlying9 mb (encMap encI SE) nm (encI (cn + 1)) (by rfl) (by rfl) (by rfl) H8.out.1 ?_; intro w9 hm9 hk9)
          rw [put_enc] at hm9
          have hrow9 := hk9.row H8.out.2.1 (fun g hg hm => row_ne_map H8.out.2.1 H8.out.1 (by
            simp only [List.mem_singleton] at hm
            subst hm
            rw [hg]
            simp))
          have H9 := Lib.hid (And.intro hm9 (And.intro hrow9 (And.intro (H8.out.2.2.1.after hk9 (fun x hx => .inr (by simp only [List.mem_singleton] at hx; omega))) H8.out.2.2.2)))
          clear hm9 hrow9 hk9 hrl0
          go_roundg (n - (k + 1))
          case measure => have := Hg.out; omega
          case rel => exact ⟨k + 1, g, c, L, put SE nm (cn + 1), by omega, rfl, by go_num, rfl, Hst.out.symm, H9.out.2.1, H9.out.1, H9.out.2.2.2, H9.out.2.2.1⟩
    · have hkn : k = n := by omega
      have hend : O.take k = O.take 15 := by
        by_cases h15 : 15 ≤ O.length
        · rw [show k = 15 from by omega]
        · rw [List.take_of_length_le (by omega), List.take_of_length_le (by omega)]
      have hLf : L = objsL (O.take 15) := by rw [HLe.out, hend]
      have HE := Lib.hid (And.intro hrow (And.intro hLf hkw))
      have hways : ¬ (k : Int) < (O.length : Int) ∨ ((k : Int) < (O.length : Int) ∧ ¬ (k : Int) < 15) := by omega
      clear hrow hok hkw hmap hkn hend hLf
      rcases hways with h1 | ⟨h1, h2⟩
      · go_wp2_with fail
        go_ret
        exact ⟨g, c, by rw [← HE.out.2.1]; rfl, by rw [← HE.out.2.1]; exact HE.out.1, HE.out.2.2⟩
      · go_wp2_with fail
        go_ret
        exact ⟨g, c, by rw [← HE.out.2.1]; rfl, by rw [← HE.out.2.1]; exact HE.out.1, HE.out.2.2⟩
end Go.Proofs.YtjffdcflkkgpfaaGreat
