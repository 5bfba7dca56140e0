/-
  A scan of a bucket (package scan): New, At, Done, begin, Step.
  The contracts hold where the bucket lies in blocks below a bound B, the scan in blocks from B on, and the library's variable is laid.

  A scan's step (package scan): Step.
  As in the scan's file.

  What a scan has got (package scan): Got.
  As in the scan's file.

  What a scan has listed (package scan): Infos.
  As in the scan's file.
-/
import Derived.Test.YtjffdcflkkgpfaaGreatArgs
import Derived.Test.YtjffdcflkkgpfaaGreatSplit
import Derived.Test.YtjffdcflkkgpfaaGreatKeys
import Derived.Test.YtjffdcflkkgpfaaGreatOps
import Derived.Test.YtjffdcflkkgpfaaGreatRegion
import Derived.Test.YtjffdcflkkgpfaaGreatMap
import Derived.Test.YtjffdcflkkgpfaaGreatShelf
import Derived.Laws.OwnMore
namespace Go.Proofs.YtjffdcflkkgpfaaGreat
open Go Go.RowKit Go.Conc

def encS1 (s : ByteArray) : List Value := [.string s]

structure ScanS where
  begun : Bool
  tick : Int
  infos : List (ByteArray × Ob)
  wait : List ByteArray
  got : List (ByteArray × ByteArray)

def scan0 : ScanS := ⟨false, 0, [], [], []⟩

def ScanAt (X : Nat) (w : World) (B q gb : Nat) (S : ScanS) : Prop :=
  B ≤ q ∧ B ≤ gb ∧ ∃ B1 vi vw, (q < B1 ∧ X ≤ B1 ∧ X ≤ w.heap.size) ∧ gb < B1 ∧ w.heap[q]? = some (.cells #[.bool S.begun, .int .i64 S.tick, vi, vw, .map (some gb)] 118 (0, 0)) ∧
    SliceFrom B1 3 infoOf w vi S.infos ∧ SliceFrom B1 1 encS1 w vw S.wait ∧ MapAt w gb (encMap Value.string S.got) ∧ (S.begun = false → vw = .slice none 0 0)

theorem ScanAt.keep {X : Nat} {w w' : World} {B q gb : Nat} {S : ScanS} {R : List Nat} (h : ScanAt X w B q gb S) (k : Keeps R w w') (hR : ∀ x ∈ R, x < B) : ScanAt X w' B q gb S := by
  obtain ⟨h1, h2, B1, vi, vw, h3, h4, h5, h6, h7, h8, h9⟩ := h
  exact ⟨h1, h2, B1, vi, vw, by have := k.size; omega, h4, k.at_ h5 (fun hm => by have := hR _ hm; omega), h6.keep k (fun x hx => by have := hR x hx; omega), h7.keep k (fun x hx => by have := hR x hx; omega), h8.keep k (fun hm => by have := hR _ hm; omega), h9⟩

theorem ScanAt.same {X : Nat} {w w' : World} {B q gb : Nat} {S : ScanS} (h : ScanAt X w B q gb S) (k : Keeps [] w w') : ScanAt X w' B q gb S := h.keep k (by simp)

theorem ScanAt.down {X X' : Nat} {w : World} {B q gb : Nat} {S : ScanS} (h : ScanAt X w B q gb S) (hX : X' ≤ X) : ScanAt X' w B q gb S := by
  obtain ⟨h1, h2, B1, vi, vw, h3, r⟩ := h
  exact ⟨h1, h2, B1, vi, vw, by omega, r⟩

/-- A scan that hasn't begun has no slices. -/
theorem ScanAt.up {X X' : Nat} {w : World} {B q gb : Nat} (h : ScanAt X w B q gb scan0) (hX : X' ≤ w.heap.size) : ScanAt X' w B q gb scan0 := by
  obtain ⟨h1, h2, B1, vi, vw, h3, h4, h5, h6, h7, r⟩ := h
  obtain ⟨a1, c1, rfl, x1, x2, x3, -⟩ := h6
  obtain ⟨a2, c2, rfl, y1, y2, y3, -⟩ := h7
  exact ⟨h1, h2, max B1 X', _, _, by omega, by omega, h5, ⟨a1, c1, rfl, x1, x2, x3, fun i hi => by simp [scan0] at hi⟩, ⟨a2, c2, rfl, y1, y2, y3, fun i hi => by simp [scan0] at hi⟩, r⟩

/-- Blocks below the slices may turn, but for the scan's own. -/
theorem ScanAt.keepX {X : Nat} {w w' : World} {B q gb : Nat} {S : ScanS} {R : List Nat} (h : ScanAt X w B q gb S) (k : Keeps R w w') (hR : ∀ x ∈ R, x < X ∧ x ≠ q ∧ x ≠ gb) : ScanAt X w' B q gb S := by
  obtain ⟨h1, h2, B1, vi, vw, h3, h4, h5, h6, h7, h8, h9⟩ := h
  exact ⟨h1, h2, B1, vi, vw, by have := k.size; omega, h4, k.at_ h5 (fun hm => (hR _ hm).2.1 rfl), h6.keep k (fun x hx => by have := hR x hx; omega), h7.keep k (fun x hx => by have := hR x hx; omega), h8.keep k (fun hm => (hR _ hm).2.2 rfl), h9⟩

theorem ScanAt.lt {X : Nat} {w : World} {B q gb : Nat} {S : ScanS} (h : ScanAt X w B q gb S) : q < w.heap.size ∧ gb < w.heap.size := by
  obtain ⟨_, _, _, _, _, _, _, h5, _, _, h8, _⟩ := h
  exact ⟨lt_of_at h5, h8.lt⟩


set_option maxRecDepth 100000 in
set_option maxHeartbeats 1000000 in
theorem scanNew_spec (w : World) : Calls Tryz.prog 23 #[] w fun e w' => ∃ q gb, e = .returned (.pointer (some ⟨q, 0, none⟩)) ∧ ScanAt 0 w' w.heap.size q gb scan0 ∧ Keeps [] w w' := by
  have hmm := @run_makeMap Tryz.prog
  go_enter Tryz.func23, Tryz.ntmps23
  go_wp2_with fail
  go_ret
  have hk2 : Keeps [] w ((w.alloc (.map #[] 0)).alloc (.cells #[.bool false, .int .i64 0, .slice none 0 0, .slice none 0 0, .map (some w.heap.size)] 118)) := ((Keeps.refl [] w).alloc _).alloc _
  obtain ⟨n1, n2⟩ := new2 w (.map #[] 0) (.cells #[.bool false, .int .i64 0, .slice none 0 0, .slice none 0 0, .map (some w.heap.size)] 118)
  exact ⟨w.heap.size + 1, w.heap.size, rfl, ⟨by omega, Nat.le_refl _, w.heap.size + 2, _, _, by omega, by omega, n2, sliceFrom_nil _ _ _ _, sliceFrom_nil _ _ _ _, ⟨[], 0, n1, ⟨by simp, by simp, by simp⟩, rfl⟩, fun _ => rfl⟩, hk2⟩


set_option maxRecDepth 100000 in
set_option maxHeartbeats 1000000 in
theorem scanAt_spec {X : Nat} (w : World) (B q gb : Nat) (S : ScanS) (h : ScanAt X w B q gb S) : Calls Tryz.prog 31 #[.pointer (some ⟨q, 0, none⟩)] w fun e w' => e = .returned (.int .i64 (if S.begun then S.tick else -1)) ∧ w = w' := by
  obtain ⟨_, _, B1, vi, vw, _, _, h5, _, _, _⟩ := h
  have c5 := cells_at h5
  have l5 := lt_of_at h5
  clear h5
  cases hb : S.begun with
  | true =>
    rw [hb] at c5
    go_enter Tryz.func31, Tryz.ntmps31
    go_wp2_with fail
    go_ret
    exact ⟨rfl, rfl⟩
  | false =>
    rw [hb] at c5
    go_enter Tryz.func31, Tryz.ntmps31
    go_wp2_with fail
    go_ret
    exact ⟨rfl, rfl⟩


set_option maxRecDepth 100000 in
set_option maxHeartbeats 1000000 in
theorem scanDone_spec {X : Nat} (w : World) (B q gb : Nat) (S : ScanS) (h : ScanAt X w B q gb S) : Calls Tryz.prog 24 #[.pointer (some ⟨q, 0, none⟩)] w fun e w' => e = .returned (.bool (S.begun && S.wait.isEmpty)) ∧ w = w' := by
  obtain ⟨_, _, B1, vi, vw, _, _, h5, _, h7, _⟩ := h
  obtain ⟨ao, cap, rfl, hl, _⟩ := h7
  unfold maxLen at hl
  have c5 := cells_at h5
  have l5 := lt_of_at h5
  clear h5
  cases hb : S.begun with
  | true =>
    rw [hb] at c5
    cases hw : S.wait with
    | nil =>
      rw [hw] at c5
      simp only [List.length_nil] at c5
      go_enter Tryz.func24, Tryz.ntmps24
      go_wp2_with fail
      go_ret
      exact ⟨rfl, rfl⟩
    | cons x l =>
      rw [hw] at c5 hl
      have hne : ((((x :: l).length : Nat) : Int) == 0) = false := by rw [beq_eq_false_iff_ne]; simp only [List.length_cons]; omega
      have hne2 : ¬ (((x :: l).length : Nat) : Int) = 0 := by simp only [List.length_cons]; omega
      have hpos : 0 < (x :: l).length := by simp
      generalize (x :: l).length = n at c5 hl hne hne2 hpos
      clear hw
      go_enter Tryz.func24, Tryz.ntmps24
      go_wp2_with fail
      go_ret
      exact ⟨rfl, rfl⟩
  | false =>
    rw [hb] at c5
    go_enter Tryz.func24, Tryz.ntmps24
    go_wp2_with fail
    go_ret
    exact ⟨rfl, rfl⟩


theorem FuseQ.neLib {w : World} {f c : Nat} {armed : Bool} {Q : List (Int × Bool)} (h : FuseQ w f c armed Q) (hv : LibVar w) : 0 ≠ f ∧ 0 ≠ c := by
  obtain ⟨now, wait, hf, _⟩ := h
  obtain ⟨s, r, hch⟩ := hf.chan
  obtain ⟨m, hm⟩ := hv
  constructor
  · rintro rfl
    rw [cells_at hf.cells] at hm
    simp at hm
  · rintro rfl
    simp [World.cell?, hch] at hm

/-- Is an object to be got: a block's meta, or its mark? -/
def isWait (n : ByteArray) : Bool := match splitL n.data.toList with
  | some (_, p) => p == metaB.data.toList || p == markB.data.toList
  | none => false

def waitOf (L : List (ByteArray × Ob)) : List ByteArray := (L.map (·.1)).filter isWait

theorem waitOf_yes {L : List (ByteArray × Ob)} {k : Nat} (hk : k < L.length) (h : isWait L[k].1 = true) : waitOf (L.take (k + 1)) = waitOf (L.take k) ++ [L[k].1] := by
  unfold waitOf
  rw [List.take_succ_eq_append_getElem hk, List.map_append, List.filter_append]
  simp [h]

theorem waitOf_no {L : List (ByteArray × Ob)} {k : Nat} (hk : k < L.length) (h : isWait L[k].1 = false) : waitOf (L.take (k + 1)) = waitOf (L.take k) := by
  unfold waitOf
  rw [List.take_succ_eq_append_getElem hk, List.map_append, List.filter_append]
  simp [h]

theorem waitOf_len (L : List (ByteArray × Ob)) : (waitOf L).length ≤ L.length := by
  have := List.length_filter_le isWait (L.map (·.1))
  rwa [List.length_map] at this

theorem infoStr : (Tryz.prog.info? 9).map (fun i => (i.zero, i.size, i.bytes)) = some (some (.string ⟨#[]⟩), 1, 16) := by kernel_rfl


def BeginRel (W2 : World) (q gb : Nat) (now : Int) (vi : Value) (L : List (ByteArray × Ob)) (gk : Nat) (u35 : Value) (wr : World) : Prop :=
  ∃ k vw, k ≤ L.length ∧ gk = L.length - k ∧ u35 = .int .i64 k ∧ wr.heap[q]? = some (.cells #[.bool true, .int .i64 now, vi, vw, .map (some gb)] 118 (0, 0)) ∧
    wr.ownsRow W2.heap.size 9 1 vw (waitOf (L.take k)).length ((waitOf (L.take k)).flatMap encS1) ∧ Keeps [q] W2 wr


theorem listing_in {o : List (ByteArray × Ob)} {pre : ByteArray} {p : ByteArray × Ob} (h : p ∈ listing o pre) : ∃ x, look o p.1 = some x ∧ p.2 = x := by
  simp only [listing, List.mem_map, List.mem_filter] at h
  obtain ⟨n, ⟨hn, _⟩, rfl⟩ := h
  have hn' : n ∈ o.map (·.1) := (sortB_perm _).mem_iff.1 hn
  obtain ⟨x, hx⟩ := look_isSome hn'
  exact ⟨x, hx, by simp [obOr, hx]⟩

/-- What begin leaves. -/
def scanOf (Q : List (Int × Bool)) (now : Int) (L : List (ByteArray × Ob)) (S : ScanS) : ScanS := if tryWorks Q then ⟨true, now, L, waitOf L, S.got⟩ else S

def BeginPost (X : Nat) (w : World) (b f c mb B q gb : Nat) (Q : List (Int × Bool)) (o : List (ByteArray × Ob)) (S : ScanS) (e : Ending) (w' : World) : Prop :=
  e = .returned (.int .i64 (ioErr Q)) ∧ ScanAt X w' B q gb S ∧ BucketAt w' b f c mb (tryArmed Q) (tryQ Q) o ∧ Keeps [f, c, q] w w'


theorem keeps_grown {S : List Nat} {a w w' : World} {row : Option Nat} (h : Keeps S a w) (hg : w.grownBy w' row) (hr : ∀ q, row = some q → a.heap.size ≤ q) : Keeps S a w' :=
  ⟨hg.os.trans h.os, hg.tape.trans h.tape, hg.output.trans h.output, Nat.le_trans h.size hg.size, fun k hk hn => (hg.block k (Nat.lt_of_lt_of_le hk h.size) (fun e => by
    have := hr k e.symm
    omega)).trans (h.block k hk hn)⟩

theorem beginArm {W2 w5 w6 : World} {q bx : Nat} {cs bs : List Value} {vw v6 : Value} {n : Nat} {xs news : List Value} {nm : ByteArray}
    (hrow : w5.ownsRow W2.heap.size 9 1 vw n xs) (hq : w5.heap[q]? = some (.cells cs.toArray 118 (0, 0))) (hb : w5.heap[bx]? = some (.cells bs.toArray 135 (0, 0))) (hk : Keeps [q] W2 w5) (hlW : q < W2.heap.size) (hbx : ∀ x, some x = vw.ownBlock → x ≠ bx)
    (hg : (w5.drew.alloc (.cells #[.string nm] 9)).grownBy w6 vw.ownBlock) (hown : w6.ownsRow W2.heap.size 9 1 v6 (n + 1) (xs ++ news)) :
    w6.heap[q]? = some (.cells cs.toArray 118 (0, 0)) ∧ w6.heap[bx]? = some (.cells bs.toArray 135 (0, 0)) ∧
      (w6.setCell ⟨q, 3, none⟩ v6).heap[q]? = some (.cells (cs.toArray.setIfInBounds 3 v6) 118 (0, 0)) ∧
      (w6.setCell ⟨q, 3, none⟩ v6).ownsRow W2.heap.size 9 1 v6 (n + 1) (xs ++ news) ∧ Keeps [q] W2 (w6.setCell ⟨q, 3, none⟩ v6) := by
  have hlt := hrow.lt
  have ka : Keeps [] w5 (w5.drew.alloc (.cells #[.string nm] 9)) := ((Keeps.refl [] w5).drew).alloc _
  have kq : ∀ x, vw.ownBlock = some x → x ≠ q := fun x hx => by have := hlt x hx; omega
  have hq6 : w6.heap[q]? = some (.cells cs.toArray 118 (0, 0)) := (hg.block q (Nat.lt_of_lt_of_le (lt_of_at hq) ka.size) (fun e => kq q e.symm rfl)).trans (ka.at_ hq (by simp))
  have hb6 : w6.heap[bx]? = some (.cells bs.toArray 135 (0, 0)) := (hg.block bx (Nat.lt_of_lt_of_le (lt_of_at hb) ka.size) (fun e => hbx bx e rfl)).trans (ka.at_ hb (by simp))
  have k6 : Keeps [q] W2 w6 := keeps_grown (hk.drew.alloc _) hg (fun x hx => (hlt x hx).1)
  have k7 : Keeps [q] w6 (w6.setCell ⟨q, 3, none⟩ v6) := (Keeps.refl [q] w6).setCell (.inl (by simp)) _
  refine ⟨hq6, hb6, heap_cell_same hq6 v6, k7.row hown (fun g hg' => ?_), k6.trans k7⟩
  have := (hown.lt g hg').1
  simp
  omega


set_option linter.unusedSimpArgs false in
set_option maxRecDepth 100000 in
set_option maxHeartbeats 1000000 in
theorem scanBegin_spec {X : Nat} (w : World) (b f c mb B q gb : Nat) (armed : Bool) (Q : List (Int × Bool)) (o : List (ByteArray × Ob)) (S : ScanS) (now : Int) (hb : BucketAt w b f c mb armed Q o) (hS : ScanAt X w B q gb S) (hw0 : S.begun = false) (hlow : b < B ∧ f < B ∧ c < B ∧ mb < B)
    (hv : LibVar w) (_hvB : 0 < B)
    (hk : ∀ p ∈ o, p.1.size ≤ 40) (hd : ∀ n, (obOr (look o n)).1.size ≤ 9223372036854775807) (hl : o.length ≤ 1000) :
    Calls Tryz.prog 61 #[.pointer (some ⟨q, 0, none⟩), .pointer (some ⟨b, 0, none⟩), .int .i64 now] w (BeginPost X w b f c mb B q gb Q o (scanOf Q now (listing o ⟨#[]⟩) S)) := by
  have Hl := Lib.hid (list_spec w b f c mb armed Q o hb ⟨#[]⟩ (fun p hp => by have := hk p hp; unfold maxLen; omega) hd (by omega))
  have H0 := Lib.hid (And.intro hb (And.intro hS hv))
  have hq0 := hS.lt
  have hqB := hS.1
  have hgB := hS.2.1
  have hXw : X ≤ w.heap.size := by obtain ⟨_, _, _, _, _, h3, _⟩ := hS; omega
  clear hb hS hv
  unfold listL at Hl
  by_cases hw : tryWorks Q = true
  · rw [if_pos hw] at Hl
    have hio : ioErr Q = 0 := by unfold ioErr; rw [if_pos hw]
    have hso : scanOf Q now (listing o ⟨#[]⟩) S = ⟨true, now, listing o ⟨#[]⟩, waitOf (listing o ⟨#[]⟩), S.got⟩ := by unfold scanOf; rw [if_pos hw]
    have hLk : ∀ p ∈ listing o ⟨#[]⟩, p.1.size ≤ 40 := fun p hp => by
      obtain ⟨x, h1, h2⟩ := listing_in hp
      exact hk (p.1, x) (look_mem h1)
    have hLl : (listing o ⟨#[]⟩).length ≤ 1000 := by
      unfold listing
      rw [List.length_map]
      have := List.length_filter_le (hasPre · ⟨#[]⟩) (sortedKeys o)
      have h2 : (sortedKeys o).length = o.length := by simp [sortedKeys, sortB_length]
      omega
    rw [hso]
    have Hio := Lib.hid hio
    generalize listing o ⟨#[]⟩ = L at Hl hLk hLl ⊢
    clear hso hio hw hk hd hl
    have HLk := Lib.hid hLk
    clear hLk
    obtain ⟨ii, hii, hz0, hz1, hz2⟩ := info_parts infoStr
    go_enter Tryz.func61, Tryz.ntmps61
    go_wp2_with fail
    refine Hl.out.mono ?_
    rintro e w1 ⟨vi, rfl, hb1, hk1, hrow⟩
    rw [Hio.out]
    have hvi : SliceFrom w.heap.size 3 infoOf w1 vi L := sliceFrom_row (fun _ => rfl) hrow
    obtain ⟨ai, ci, rfl, hil, hic, hin, hicell⟩ := hvi
    have hk1q : q ∉ [f, c] := by simp; omega
    obtain ⟨_, _, B1, ui, uw, _, _, h5, _, _, h8, h9⟩ := H0.out.2.1
    obtain rfl := h9 hw0
    clear h9
    have hgq : gb ≠ q := by
      rintro rfl
      obtain ⟨_, _, hm, _⟩ := h8
      rw [h5] at hm
      cases hm
    have h5' := hk1.at_ h5 hk1q
    have h8' := h8.keep hk1 (by simp; omega)
    have c5 := cells_at h5'
    have f5 := free_at h5'
    have l5 := lt_of_at h5'
    have t3 := heap_cell_same (i := 2) (heap_cell_same (i := 1) (heap_cell_same (i := 0) h5' (.bool true)) (.int .i64 now)) (.slice ai L.length ci)
    have kq : Keeps [q] w1 (((w1.setCell ⟨q, 0, none⟩ (.bool true)).setCell ⟨q, 1, none⟩ (.int .i64 now)).setCell ⟨q, 2, none⟩ (.slice ai L.length ci)) := (((Keeps.refl [q] w1).setCell (.inl (by simp)) _).setCell (.inl (by simp)) _).setCell (.inl (by simp)) _
    have Hi := Lib.hid hicell
    have H1 := Lib.hid (And.intro hb1 (And.intro hk1 (And.intro h8' (And.intro t3 kq))))
    clear hicell hrow hb1 hk1 h5 h8 h5' h8' t3 kq
    --LOOP
    go_wp2_with fail
    obtain ⟨W2, hW2⟩ : ∃ W, W = (((w1.setCell ⟨q, 0, none⟩ (.bool true)).setCell ⟨q, 1, none⟩ (.int .i64 now)).setCell ⟨q, 2, none⟩ (.slice ai L.length ci)) := ⟨_, rfl⟩
    rw [← hW2] at H1 ⊢
    clear hW2 c5 f5 l5
    have hv1 : LibVar w1 := H0.out.2.2.keep H1.out.2.1 (by have := H0.out.1.fuse.neLib H0.out.2.2; simp; omega)
    have hqv : 0 ∉ [q] := by simp; omega
    have Hv2 := Lib.hid (hv1.keep H1.out.2.2.2.2 hqv)
    clear hv1
    go_loopg [35] L.length (BeginRel W2 q gb now (.slice ai L.length ci) L)
    case atStart => exact ⟨0, _, Nat.zero_le _, rfl, rfl, H1.out.2.2.2.1, World.ownsRow_nil W2 _ _ 1, Keeps.refl _ _⟩
    case round =>
      obtain ⟨k, vw, hkl, hgk, rfl, hqr, hrowr, hk2r⟩ := hrel
      have Hg := Lib.hid hgk
      clear hgk
      by_cases hlt : k < L.length
      · --ROUND
        obtain ⟨b2, of2, rfl, hbB, hb2, hc2⟩ := Hi.out k hlt
        have hne : b2 ∉ [q] := by simp; omega
        have hk24 : Keeps [q] W2 wr := hk2r
        have kW : Keeps [q] w1 wr := H1.out.2.2.2.2.trans hk2r
        have cell : ∀ j, j < 3 → wr.cell? ⟨b2, of2 + (k * 3 + j), none⟩ = (infoOf L[k])[j]? := fun j hj => (kW.cell hb2 hne).trans (hc2 j hj)
        have d0 : wr.cell? ⟨b2, of2 + k * 3, none⟩ = (infoOf L[k])[0]? := cell 0 (by omega)
        have d1 : wr.cell? ⟨b2, of2 + k * 3 + 1, none⟩ = (infoOf L[k])[1]? := by rw [Nat.add_assoc]; exact cell 1 (by omega)
        have d2 : wr.cell? ⟨b2, of2 + k * 3 + 2, none⟩ = (infoOf L[k])[2]? := by rw [Nat.add_assoc]; exact cell 2 (by omega)
        have lb2 := kW.lt hb2
        clear cell hc2
        obtain ⟨x, hx⟩ : ∃ x, x = L[k] := ⟨_, rfl⟩
        have HLx := Lib.hid hx
        have hsm : x.1.size ≤ 40 := by rw [hx]; exact HLk.out _ (List.getElem_mem _)
        rw [← hx] at d0 d1 d2
        clear hx
        obtain ⟨nm, dt, tk⟩ := x
        simp only at hsm
        simp only [infoOf, List.getElem?_cons_zero, List.getElem?_cons_succ, Nat.add_zero] at d0 d1 d2
        obtain ⟨ds, hds⟩ : ∃ n : Int, n = dt.size := ⟨_, rfl⟩
        rw [← hds] at d1
        clear hds
        have hlt' : (k : Int) < (L.length : Int) := by omega
        have Hv4 := Lib.hid (Hv2.out.keep (hk24.alloc (.cells #[.string nm, .int .i64 ds, .int .i64 tk] 135)) hqv)
        have Hq4 := Lib.hid (And.intro hqr (And.intro hrowr hk24))
        have hwr : w.heap.size ≤ wr.heap.size := by have := H1.out.2.1.size; have := kW.size; omega
        clear hqr hrowr hk2r hk24 kW
        go_wp2_with fail
        refine (split_spec _ Hv4.out nm (by omega)).mono ?_
        rintro e w5 ⟨rfl, hk5⟩
        have hW : isWait nm = match splitL nm.data.toList with | some (_, p) => p == metaB.data.toList || p == markB.data.toList | none => false := rfl
        have HW := Lib.hid hW
        clear hW
        have Hk5 := Lib.hid hk5
        clear hk5 d0 d1 d2
        generalize splitL nm.data.toList = r at HW ⊢
        cases r with
        | none =>
          have hisw : isWait nm = false := HW.out
          simp only [splitVals]
          go_wp2_with fail
          go_roundg (L.length - (k + 1))
          case measure => have := Hg.out; omega
          case rel => exact ⟨k + 1, vw, by omega, rfl, by go_num, Hk5.out.at_ (heap_old Hq4.out.1 _) (by simp), by rw [waitOf_no hlt (by rw [← HLx.out]; exact hisw)]; exact Hk5.out.row (Hq4.out.2.1.alloc _) (by simp), (Hq4.out.2.2.alloc _).trans (Hk5.out.mono (by simp))⟩
        | some ab =>
          obtain ⟨a, p⟩ := ab
          obtain ⟨xa, hxa⟩ : ∃ s : ByteArray, s = ⟨a.toArray⟩ := ⟨_, rfl⟩
          obtain ⟨xb, hxb⟩ : ∃ s : ByteArray, s = ⟨p.toArray⟩ := ⟨_, rfl⟩
          have hxl : xb.toList = p := by rw [ByteArray.toList_eq, hxb]
          have hm : isWait nm = (xb.toList == [109, 101, 116, 97] || xb.toList == [109, 97, 114, 107]) := by rw [hxl]; exact HW.out
          simp only [splitVals]
          rw [← hxa, ← hxb]
          clear HW hxa hxb hxl
          cases h1 : (xb.toList == [109, 101, 116, 97]) with
          | true =>
            have hisw : isWait nm = true := by rw [hm, h1]; rfl
            clear hm
            have n4 := heap_new wr (.cells #[.string nm, .int .i64 ds, .int .i64 tk] 135)
            have hwl := waitOf_len (L.take k)
            rw [List.length_take] at hwl
            have Hy := Lib.hid (waitOf_yes hlt (by rw [← HLx.out]; exact hisw))
            rw [← HLx.out] at Hy
            have Hr6 := Lib.hid (And.intro (Hk5.out.row (Hq4.out.2.1.alloc (.cells #[.string nm, .int .i64 ds, .int .i64 tk] 135)) (by simp)) (And.intro (Hk5.out.at_ (heap_old Hq4.out.1 (.cells #[.string nm, .int .i64 ds, .int .i64 tk] 135)) (by simp)) (And.intro (Hk5.out.at_ n4 (by simp)) ((Hq4.out.2.2.alloc (.cells #[.string nm, .int .i64 ds, .int .i64 tk] 135)).trans (Hk5.out.mono (by simp))))))
            have d3 : w5.cell? ⟨q, 3, none⟩ = some vw := by rw [cells_at Hr6.out.2.1]; rfl
            have d0 : w5.cell? ⟨wr.heap.size, 0, none⟩ = some (.string nm) := by rw [cells_at Hr6.out.2.2.1]; rfl
            have lq6 := lt_of_at Hr6.out.2.1
            have lb6 := lt_of_at Hr6.out.2.2.1
            have fq6 := free_at Hr6.out.2.1
            have hbx : ∀ x, some x = vw.ownBlock → x ≠ wr.heap.size := by
              intro x hx he
              have := (Hq4.out.2.1.lt x hx.symm).2
              omega
            have hkW : W2.heap.size ≤ w5.heap.size := Hr6.out.2.2.2.size
            have hlW : q < W2.heap.size := lt_of_at H1.out.2.2.2.1
            clear n4 hisw Hk5 Hq4
            generalize waitOf (L.take k) = Wk at hwl Hr6 Hy
            generalize wr.heap.size = bx at d0 lb6 Hr6 hbx ⊢
            go_upto_region 10 with fail
            refine wp_region_last_n 11 (fun w' => w'.cell? ⟨q, 3, none⟩ = some vw ∧ w'.cell? ⟨bx, 0, none⟩ = some (.string nm)) (by kernel_rfl) (by kernel_rfl) (by kernel_rfl) ?_
            have hS : (fun w' => w'.cell? ⟨q, 3, none⟩ = some vw ∧ w'.cell? ⟨bx, 0, none⟩ = some (.string nm)) w5.drew := ⟨d3, d0⟩
            simp only [List.take_succ_cons, List.take_zero, List.toList_toArray]
            refine wpAnyH_take (i := 0) (v := ?_) rfl (by kernel_rfl) (by kernel_rfl) (by kernel_rfl) (fun _ _ _ h => h) (Or.inl ⟨by rfl, ?_⟩) (by assumption) ?_
            rotate_left
            · intro w' hSw; obtain ⟨s1, s2⟩ := hSw; go_simp; (try with_reducible rfl)
            simp only [Act.put, List.getElem_toArray, List.getElem_cons_succ, List.getElem_cons_zero, List.setIfInBounds_toArray, List.set_cons_zero, List.set_cons_succ]
            refine wpAnyH_take (i := 1) (v := ?_) rfl (by kernel_rfl) (by kernel_rfl) (by kernel_rfl) (fun _ _ _ h => h) (Or.inl ⟨by rfl, ?_⟩) (by assumption) ?_
            rotate_left
            · intro w' hSw; obtain ⟨s1, s2⟩ := hSw; go_simp; (try with_reducible rfl)
            simp only [Act.put, List.getElem_toArray, List.getElem_cons_succ, List.getElem_cons_zero, List.setIfInBounds_toArray, List.set_cons_zero, List.set_cons_succ]
            refine wpAnyH_take (i := 2) (v := ?_) rfl (by kernel_rfl) (by kernel_rfl) (by kernel_rfl) (fun _ _ _ h => h) (Or.inl ⟨by rfl, ?_⟩) (by assumption) ?_
            rotate_left
            · intro w' hSw; obtain ⟨s1, s2⟩ := hSw; go_simp; (try with_reducible rfl)
            simp only [Act.put, List.getElem_toArray, List.getElem_cons_succ, List.getElem_cons_zero, List.setIfInBounds_toArray, List.set_cons_zero, List.set_cons_succ]
            refine wpAnyH_take (i := 3) (v := ?_) rfl (by kernel_rfl) (by kernel_rfl) (by kernel_rfl) (fun _ _ _ h => h) (Or.inl ⟨by rfl, ?_⟩) (by assumption) ?_
            rotate_left
            · intro w' hSw; obtain ⟨s1, s2⟩ := hSw; go_simp; (try with_reducible rfl)
            simp only [Act.put, List.getElem_toArray, List.getElem_cons_succ, List.getElem_cons_zero, List.setIfInBounds_toArray, List.set_cons_zero, List.set_cons_succ]
            refine wpAnyH_take (i := 4) (v := ?_) rfl (by kernel_rfl) (by kernel_rfl) (by kernel_rfl) (fun _ _ _ h => h) (Or.inl ⟨by rfl, ?_⟩) (by assumption) ?_
            rotate_left
            · intro w' hSw; obtain ⟨s1, s2⟩ := hSw; go_simp; (try with_reducible rfl)
            simp only [Act.put, List.getElem_toArray, List.getElem_cons_succ, List.getElem_cons_zero, List.setIfInBounds_toArray, List.set_cons_zero, List.set_cons_succ]
            refine wpAnyH_take (i := 5) (v := ?_) rfl (by kernel_rfl) (by kernel_rfl) (by kernel_rfl) (fun _ _ _ h => h) (Or.inl ⟨by rfl, ?_⟩) (by assumption) ?_
            rotate_left
            · intro w' hSw; obtain ⟨s1, s2⟩ := hSw; go_simp; (try with_reducible rfl)
            simp only [Act.put, List.getElem_toArray, List.getElem_cons_succ, List.getElem_cons_zero, List.setIfInBounds_toArray, List.set_cons_zero, List.set_cons_succ]
            refine wpAnyH_take (i := 6) (v := ?_) rfl (by kernel_rfl) (by kernel_rfl) (by kernel_rfl) (fun _ _ _ h => h) (Or.inl ⟨by rfl, ?_⟩) (by assumption) ?_
            rotate_left
            · intro w' hSw; obtain ⟨s1, s2⟩ := hSw; go_simp; (try with_reducible rfl)
            simp only [Act.put, List.getElem_toArray, List.getElem_cons_succ, List.getElem_cons_zero, List.setIfInBounds_toArray, List.set_cons_zero, List.set_cons_succ]
            refine wpAnyH_ready (rs := [7]) (by kernel_rfl) (by simp) ?_
            refine AllReadyH.cons rfl (fun K hK => ?_) AllReadyH.nil
            go_simp
            refine hK.out _ _ ⟨by go_keep, by go_keep⟩ (fun hS => ?_)
            clear hK K
            try simp only [Act.put, List.getElem_toArray, List.getElem_cons_succ, List.getElem_cons_zero, List.setIfInBounds_toArray, List.set_cons_zero, List.set_cons_succ]
            refine wpAnyH_ready (rs := [8]) (by kernel_rfl) (by simp) ?_
            refine AllReadyH.cons rfl (fun K hK => ?_) AllReadyH.nil
            refine step_append_own rfl (.tmp 59) (.tmp 62) 25 rfl W2.heap.size 9 ii _ 1 16 Tryz.underlying25 hii hz0 hz1 hz2 rfl (by decide) vw Wk.length (Wk.flatMap encS1) (by rfl) (Hr6.out.1.alloc _) ⟨w5.heap.size, 0, none⟩ 1 1 [.string nm] (by rfl) rfl (news_of (heap_new w5.drew _)) (by simp [Value.oneCell']) (by simp only [maxLen]; omega) (by omega) (by simp; omega) ?_
            intro v6 w6 hown6 hgrow6
            obtain ⟨ao6, cp6, rfl, _⟩ := row_slice hown6
            have hX := Lib.hid (beginArm Hr6.out.1 Hr6.out.2.1 Hr6.out.2.2.1 Hr6.out.2.2.2 hlW hbx hgrow6 hown6)
            have e0 : w6.cell? ⟨q, 3, none⟩ = some vw := by rw [cells_at hX.out.1]; rfl
            have e1 : w6.cell? ⟨bx, 0, none⟩ = some (.string nm) := by rw [cells_at hX.out.2.1]; rfl
            refine hK.out _ _ ⟨e0, e1⟩ (fun hS => ?_)
            clear hK K
            try simp only [Act.put, List.getElem_toArray, List.getElem_cons_succ, List.getElem_cons_zero, List.setIfInBounds_toArray, List.set_cons_zero, List.set_cons_succ]
            refine wpAnyH_take (i := 9) (v := ?_) rfl (by kernel_rfl) (by kernel_rfl) (by kernel_rfl) (fun _ _ _ h => h) (Or.inl ⟨by rfl, ?_⟩) (by assumption) ?_
            rotate_left
            · intro w' hSw; obtain ⟨s1, s2⟩ := hSw; go_simp; (try with_reducible rfl)
            simp only [Act.put, List.getElem_toArray, List.getElem_cons_succ, List.getElem_cons_zero, List.setIfInBounds_toArray, List.set_cons_zero, List.set_cons_succ]
            refine wpAnyH_take (i := 10) (v := ?_) rfl (by kernel_rfl) (by kernel_rfl) (by kernel_rfl) (fun _ _ _ h => h) (Or.inl ⟨by rfl, ?_⟩) (by assumption) ?_
            rotate_left
            · intro w' hSw; obtain ⟨s1, s2⟩ := hSw; go_simp; (try with_reducible rfl)
            simp only [Act.put, List.getElem_toArray, List.getElem_cons_succ, List.getElem_cons_zero, List.setIfInBounds_toArray, List.set_cons_zero, List.set_cons_succ]
            have f6 := free_at hX.out.1
            have l6 := lt_of_at hX.out.1
            have c6 := cells_at hX.out.1
            refine wpAnyH_done (by kernel_rfl) ?_ _
            refine lastQ_step rfl (fun K hK => ?_)
            go_simp
            refine hK _ _ ?_
            clear hK K
            have Hend := Lib.hid hX.out.2.2
            clear hS e0 e1 f6 l6 c6 hX hgrow6 hown6
            generalize w6.setCell ⟨q, 3, none⟩ (.slice ao6 (Wk.length + 1) cp6) = W7 at Hend ⊢
            go_wp2_with fail
            go_roundg (L.length - (k + 1))
            case measure => have := Hg.out; omega
            case rel => exact ⟨k + 1, _, by omega, rfl, by go_num, Hend.out.1, by rw [Hy.out]; simpa [encS1] using Hend.out.2.1, Hend.out.2.2⟩
          | false =>
            cases h2 : (xb.toList == [109, 97, 114, 107]) with
            | true =>
              have hisw : isWait nm = true := by rw [hm, h1, h2]; rfl
              clear hm
              have n4 := heap_new wr (.cells #[.string nm, .int .i64 ds, .int .i64 tk] 135)
              have hwl := waitOf_len (L.take k)
              rw [List.length_take] at hwl
              have Hy := Lib.hid (waitOf_yes hlt (by rw [← HLx.out]; exact hisw))
              rw [← HLx.out] at Hy
              have Hr6 := Lib.hid (And.intro (Hk5.out.row (Hq4.out.2.1.alloc (.cells #[.string nm, .int .i64 ds, .int .i64 tk] 135)) (by simp)) (And.intro (Hk5.out.at_ (heap_old Hq4.out.1 (.cells #[.string nm, .int .i64 ds, .int .i64 tk] 135)) (by simp)) (And.intro (Hk5.out.at_ n4 (by simp)) ((Hq4.out.2.2.alloc (.cells #[.string nm, .int .i64 ds, .int .i64 tk] 135)).trans (Hk5.out.mono (by simp))))))
              have d3 : w5.cell? ⟨q, 3, none⟩ = some vw := by rw [cells_at Hr6.out.2.1]; rfl
              have d0 : w5.cell? ⟨wr.heap.size, 0, none⟩ = some (.string nm) := by rw [cells_at Hr6.out.2.2.1]; rfl
              have lq6 := lt_of_at Hr6.out.2.1
              have lb6 := lt_of_at Hr6.out.2.2.1
              have fq6 := free_at Hr6.out.2.1
              have hbx : ∀ x, some x = vw.ownBlock → x ≠ wr.heap.size := by
                intro x hx he
                have := (Hq4.out.2.1.lt x hx.symm).2
                omega
              have hkW : W2.heap.size ≤ w5.heap.size := Hr6.out.2.2.2.size
              have hlW : q < W2.heap.size := lt_of_at H1.out.2.2.2.1
              clear n4 hisw Hk5 Hq4
              generalize waitOf (L.take k) = Wk at hwl Hr6 Hy
              generalize wr.heap.size = bx at d0 lb6 Hr6 hbx ⊢
              go_upto_region 10 with fail
              refine wp_region_last_n 11 (fun w' => w'.cell? ⟨q, 3, none⟩ = some vw ∧ w'.cell? ⟨bx, 0, none⟩ = some (.string nm)) (by kernel_rfl) (by kernel_rfl) (by kernel_rfl) ?_
              have hS : (fun w' => w'.cell? ⟨q, 3, none⟩ = some vw ∧ w'.cell? ⟨bx, 0, none⟩ = some (.string nm)) w5.drew := ⟨d3, d0⟩
              simp only [List.take_succ_cons, List.take_zero, List.toList_toArray]
              refine wpAnyH_take (i := 0) (v := ?_) rfl (by kernel_rfl) (by kernel_rfl) (by kernel_rfl) (fun _ _ _ h => h) (Or.inl ⟨by rfl, ?_⟩) (by assumption) ?_
              rotate_left
              · intro w' hSw; obtain ⟨s1, s2⟩ := hSw; go_simp; (try with_reducible rfl)
              simp only [Act.put, List.getElem_toArray, List.getElem_cons_succ, List.getElem_cons_zero, List.setIfInBounds_toArray, List.set_cons_zero, List.set_cons_succ]
              refine wpAnyH_take (i := 1) (v := ?_) rfl (by kernel_rfl) (by kernel_rfl) (by kernel_rfl) (fun _ _ _ h => h) (Or.inl ⟨by rfl, ?_⟩) (by assumption) ?_
              rotate_left
              · intro w' hSw; obtain ⟨s1, s2⟩ := hSw; go_simp; (try with_reducible rfl)
              simp only [Act.put, List.getElem_toArray, List.getElem_cons_succ, List.getElem_cons_zero, List.setIfInBounds_toArray, List.set_cons_zero, List.set_cons_succ]
              refine wpAnyH_take (i := 2) (v := ?_) rfl (by kernel_rfl) (by kernel_rfl) (by kernel_rfl) (fun _ _ _ h => h) (Or.inl ⟨by rfl, ?_⟩) (by assumption) ?_
              rotate_left
              · intro w' hSw; obtain ⟨s1, s2⟩ := hSw; go_simp; (try with_reducible rfl)
              simp only [Act.put, List.getElem_toArray, List.getElem_cons_succ, List.getElem_cons_zero, List.setIfInBounds_toArray, List.set_cons_zero, List.set_cons_succ]
              refine wpAnyH_take (i := 3) (v := ?_) rfl (by kernel_rfl) (by kernel_rfl) (by kernel_rfl) (fun _ _ _ h => h) (Or.inl ⟨by rfl, ?_⟩) (by assumption) ?_
              rotate_left
              · intro w' hSw; obtain ⟨s1, s2⟩ := hSw; go_simp; (try with_reducible rfl)
              simp only [Act.put, List.getElem_toArray, List.getElem_cons_succ, List.getElem_cons_zero, List.setIfInBounds_toArray, List.set_cons_zero, List.set_cons_succ]
              refine wpAnyH_take (i := 4) (v := ?_) rfl (by kernel_rfl) (by kernel_rfl) (by kernel_rfl) (fun _ _ _ h => h) (Or.inl ⟨by rfl, ?_⟩) (by assumption) ?_
              rotate_left
              · intro w' hSw; obtain ⟨s1, s2⟩ := hSw; go_simp; (try with_reducible rfl)
              simp only [Act.put, List.getElem_toArray, List.getElem_cons_succ, List.getElem_cons_zero, List.setIfInBounds_toArray, List.set_cons_zero, List.set_cons_succ]
              refine wpAnyH_take (i := 5) (v := ?_) rfl (by kernel_rfl) (by kernel_rfl) (by kernel_rfl) (fun _ _ _ h => h) (Or.inl ⟨by rfl, ?_⟩) (by assumption) ?_
              rotate_left
              · intro w' hSw; obtain ⟨s1, s2⟩ := hSw; go_simp; (try with_reducible rfl)
              simp only [Act.put, List.getElem_toArray, List.getElem_cons_succ, List.getElem_cons_zero, List.setIfInBounds_toArray, List.set_cons_zero, List.set_cons_succ]
              refine wpAnyH_take (i := 6) (v := ?_) rfl (by kernel_rfl) (by kernel_rfl) (by kernel_rfl) (fun _ _ _ h => h) (Or.inl ⟨by rfl, ?_⟩) (by assumption) ?_
              rotate_left
              · intro w' hSw; obtain ⟨s1, s2⟩ := hSw; go_simp; (try with_reducible rfl)
              simp only [Act.put, List.getElem_toArray, List.getElem_cons_succ, List.getElem_cons_zero, List.setIfInBounds_toArray, List.set_cons_zero, List.set_cons_succ]
              refine wpAnyH_ready (rs := [7]) (by kernel_rfl) (by simp) ?_
              refine AllReadyH.cons rfl (fun K hK => ?_) AllReadyH.nil
              go_simp
              refine hK.out _ _ ⟨by go_keep, by go_keep⟩ (fun hS => ?_)
              clear hK K
              try simp only [Act.put, List.getElem_toArray, List.getElem_cons_succ, List.getElem_cons_zero, List.setIfInBounds_toArray, List.set_cons_zero, List.set_cons_succ]
              refine wpAnyH_ready (rs := [8]) (by kernel_rfl) (by simp) ?_
              refine AllReadyH.cons rfl (fun K hK => ?_) AllReadyH.nil
              refine step_append_own rfl (.tmp 59) (.tmp 62) 25 rfl W2.heap.size 9 ii _ 1 16 Tryz.underlying25 hii hz0 hz1 hz2 rfl (by decide) vw Wk.length (Wk.flatMap encS1) (by rfl) (Hr6.out.1.alloc _) ⟨w5.heap.size, 0, none⟩ 1 1 [.string nm] (by rfl) rfl (news_of (heap_new w5.drew _)) (by simp [Value.oneCell']) (by simp only [maxLen]; omega) (by omega) (by simp; omega) ?_
              intro v6 w6 hown6 hgrow6
              obtain ⟨ao6, cp6, rfl, _⟩ := row_slice hown6
              have hX := Lib.hid (beginArm Hr6.out.1 Hr6.out.2.1 Hr6.out.2.2.1 Hr6.out.2.2.2 hlW hbx hgrow6 hown6)
              have e0 : w6.cell? ⟨q, 3, none⟩ = some vw := by rw [cells_at hX.out.1]; rfl
              have e1 : w6.cell? ⟨bx, 0, none⟩ = some (.string nm) := by rw [cells_at hX.out.2.1]; rfl
              refine hK.out _ _ ⟨e0, e1⟩ (fun hS => ?_)
              clear hK K
              try simp only [Act.put, List.getElem_toArray, List.getElem_cons_succ, List.getElem_cons_zero, List.setIfInBounds_toArray, List.set_cons_zero, List.set_cons_succ]
              refine wpAnyH_take (i := 9) (v := ?_) rfl (by kernel_rfl) (by kernel_rfl) (by kernel_rfl) (fun _ _ _ h => h) (Or.inl ⟨by rfl, ?_⟩) (by assumption) ?_
              rotate_left
              · intro w' hSw; obtain ⟨s1, s2⟩ := hSw; go_simp; (try with_reducible rfl)
              simp only [Act.put, List.getElem_toArray, List.getElem_cons_succ, List.getElem_cons_zero, List.setIfInBounds_toArray, List.set_cons_zero, List.set_cons_succ]
              refine wpAnyH_take (i := 10) (v := ?_) rfl (by kernel_rfl) (by kernel_rfl) (by kernel_rfl) (fun _ _ _ h => h) (Or.inl ⟨by rfl, ?_⟩) (by assumption) ?_
              rotate_left
              · intro w' hSw; obtain ⟨s1, s2⟩ := hSw; go_simp; (try with_reducible rfl)
              simp only [Act.put, List.getElem_toArray, List.getElem_cons_succ, List.getElem_cons_zero, List.setIfInBounds_toArray, List.set_cons_zero, List.set_cons_succ]
              have f6 := free_at hX.out.1
              have l6 := lt_of_at hX.out.1
              have c6 := cells_at hX.out.1
              refine wpAnyH_done (by kernel_rfl) ?_ _
              refine lastQ_step rfl (fun K hK => ?_)
              go_simp
              refine hK _ _ ?_
              clear hK K
              have Hend := Lib.hid hX.out.2.2
              clear hS e0 e1 f6 l6 c6 hX hgrow6 hown6
              generalize w6.setCell ⟨q, 3, none⟩ (.slice ao6 (Wk.length + 1) cp6) = W7 at Hend ⊢
              go_wp2_with fail
              go_roundg (L.length - (k + 1))
              case measure => have := Hg.out; omega
              case rel => exact ⟨k + 1, _, by omega, rfl, by go_num, Hend.out.1, by rw [Hy.out]; simpa [encS1] using Hend.out.2.1, Hend.out.2.2⟩
            | false =>
              have hisw : isWait nm = false := by rw [hm, h1, h2]; rfl
              clear hm
              go_wp2_with fail
              go_roundg (L.length - (k + 1))
              case measure => have := Hg.out; omega
              case rel => exact ⟨k + 1, vw, by omega, rfl, by go_num, Hk5.out.at_ (heap_old Hq4.out.1 _) (by simp), by rw [waitOf_no hlt (by rw [← HLx.out]; exact hisw)]; exact Hk5.out.row (Hq4.out.2.1.alloc _) (by simp), (Hq4.out.2.2.alloc _).trans (Hk5.out.mono (by simp))⟩
      · go_wp2_with fail
        go_ret
        obtain rfl : k = L.length := by omega
        rw [List.take_length] at hrowr
        have kW : Keeps [q] w1 wr := H1.out.2.2.2.2.trans hk2r
        have hS1 : SliceFrom w.heap.size 1 encS1 wr vw (waitOf L) := (sliceFrom_row (enc := encS1) (size := 1) (fun _ => rfl) hrowr).low (Nat.le_trans H1.out.2.1.size H1.out.2.2.2.2.size)
        have hI1 : SliceFrom w.heap.size 3 infoOf wr (.slice ai L.length ci) L := by
          refine ⟨ai, ci, rfl, hil, hic, hin, fun i hi => ?_⟩
          obtain ⟨b2, of2, e2, hbB, hb2, hc2⟩ := Hi.out i hi
          exact ⟨b2, of2, e2, hbB, kW.lt hb2, fun j hj => (kW.cell hb2 (by simp; omega)).trans (hc2 j hj)⟩
        refine ⟨by rw [Hio.out]; try rfl, ⟨hqB, hgB, w.heap.size, _, _, (by have := H1.out.2.1.size; have := kW.size; omega), hq0.2, hqr, hI1, hS1, H1.out.2.2.1.keep kW (by simpa using hgq), fun h => by cases h⟩, H1.out.1.keep kW (by simp; omega) (by simp; omega) (by simp; omega) (by simp; omega), (H1.out.2.1.mono (by simp)).trans (kW.mono (by simp))⟩
  · rw [if_neg hw] at Hl
    have hio : ioErr Q = 8 := by unfold ioErr; rw [if_neg hw]
    have hso : scanOf Q now (listing o ⟨#[]⟩) S = S := by unfold scanOf; rw [if_neg hw]
    rw [hso]
    have Hio := Lib.hid hio
    clear hso hio hw hk hd hl
    go_enter Tryz.func61, Tryz.ntmps61
    go_wp2_with fail
    refine Hl.out.mono ?_
    rintro e w1 ⟨vi, rfl, hb1, hk1, hrow⟩
    rw [Hio.out]
    have Hb1 := Lib.hid hb1
    have Hk1 := Lib.hid hk1
    clear hb1 hk1 hrow
    go_wp2_with fail
    go_ret
    exact ⟨by rw [Hio.out]; try rfl, H0.out.2.1.keep Hk1.out (by simp; omega), Hb1.out, Hk1.out.mono (by simp)⟩

end Go.Proofs.YtjffdcflkkgpfaaGreat

namespace Go.Proofs.YtjffdcflkkgpfaaGreat
open Go Go.RowKit

def StepPost (X : Nat) (w : World) (b f c mb B q gb : Nat) (armed : Bool) (Q : List (Int × Bool)) (o : List (ByteArray × Ob)) (S : ScanS) (err : Int) (e : Ending) (w' : World) : Prop :=
  e = .returned (.int .i64 err) ∧ ScanAt X w' B q gb S ∧ BucketAt w' b f c mb armed Q o ∧ Keeps [f, c, q, gb] w w'


set_option maxRecDepth 100000 in
set_option maxHeartbeats 1000000 in
theorem scanStep_begin {X : Nat} (w : World) (b f c mb B q gb : Nat) (armed : Bool) (Q : List (Int × Bool)) (o : List (ByteArray × Ob)) (S : ScanS) (now : Int) (hb : BucketAt w b f c mb armed Q o) (hS : ScanAt X w B q gb S) (hw0 : S.begun = false) (hlow : b < B ∧ f < B ∧ c < B ∧ mb < B)
    (hv : LibVar w) (hvB : 0 < B)
    (hk : ∀ p ∈ o, p.1.size ≤ 40) (hd : ∀ n, (obOr (look o n)).1.size ≤ 9223372036854775807) (hl : o.length ≤ 1000) :
    Calls Tryz.prog 25 #[.pointer (some ⟨q, 0, none⟩), .pointer (some ⟨b, 0, none⟩), .int .i64 now] w (StepPost X w b f c mb B q gb (tryArmed Q) (tryQ Q) o (scanOf Q now (listing o ⟨#[]⟩) S) (ioErr Q)) := by
  have Hb := Lib.hid (scanBegin_spec w b f c mb B q gb armed Q o S now hb hS hw0 hlow hv hvB hk hd hl)
  obtain ⟨_, _, B1, vi, vw, _, _, h5, _, _, _⟩ := hS
  have c5 := cells_at h5
  have l5 := lt_of_at h5
  rw [hw0] at c5
  generalize scanOf Q now (listing o ⟨#[]⟩) S = S' at Hb ⊢
  clear h5 hb hk hd hl
  go_enter Tryz.func25, Tryz.ntmps25
  go_wp2_with fail
  refine Hb.out.mono ?_
  rintro e w1 ⟨rfl, hS1, hb1, hk1⟩
  have H1 := Lib.hid (And.intro hS1 (And.intro hb1 hk1))
  clear hS1 hb1 hk1
  go_wp2_with fail
  go_ret
  exact ⟨rfl, H1.out.1, H1.out.2.1, H1.out.2.2.mono (by simp)⟩


set_option maxRecDepth 100000 in
set_option maxHeartbeats 1000000 in
theorem scanStep_done {X : Nat} (w : World) (b f c mb B q gb : Nat) (armed : Bool) (Q : List (Int × Bool)) (o : List (ByteArray × Ob)) (S : ScanS) (now : Int) (hb : BucketAt w b f c mb armed Q o) (hS : ScanAt X w B q gb S) (hw0 : S.begun = true) (hw1 : S.wait = []) :
    Calls Tryz.prog 25 #[.pointer (some ⟨q, 0, none⟩), .pointer (some ⟨b, 0, none⟩), .int .i64 now] w (StepPost X w b f c mb B q gb armed Q o S 17) := by
  have H0 := Lib.hid (And.intro hb hS)
  obtain ⟨_, _, B1, vi, vw, _, _, h5, _, h7, _⟩ := hS
  obtain ⟨ao, cap, rfl, _, _⟩ := h7
  have c5 := cells_at h5
  have l5 := lt_of_at h5
  rw [hw0, hw1] at c5
  simp only [List.length_nil] at c5
  clear h5 hb
  go_enter Tryz.func25, Tryz.ntmps25
  go_wp2_with fail
  go_ret
  exact ⟨rfl, H0.out.2, H0.out.1, Keeps.refl _ _⟩


theorem scan_shift {X : Nat} {w W2 : World} {B q gb B1 : Nat} {S : ScanS} {vi u v' : Value} {r : List ByteArray} {G : List (ByteArray × ByteArray)} {R : List Nat}
    (hqB : B ≤ q) (hgB : B ≤ gb) (hqB1 : q < B1 ∧ X ≤ B1 ∧ X ≤ w.heap.size) (hgB1 : gb < B1) (hgq : gb ≠ q) (h6 : SliceFrom B1 3 infoOf w vi S.infos) (k : Keeps R w W2) (hR : ∀ x ∈ R, x < B1) (hm : MapAt W2 gb (encMap Value.string G))
    (hq : W2.heap[q]? = some (.cells #[.bool true, .int .i64 S.tick, vi, u, .map (some gb)] 118 (0, 0))) (hv : SliceFrom B1 1 encS1 w v' r) :
    ScanAt X (W2.setCell ⟨q, 3, none⟩ v') B q gb ⟨true, S.tick, S.infos, r, G⟩ ∧ Keeps [q] W2 (W2.setCell ⟨q, 3, none⟩ v') := by
  have k2 : Keeps [q] W2 (W2.setCell ⟨q, 3, none⟩ v') := (Keeps.refl [q] W2).setCell (.inl (by simp)) _
  refine ⟨⟨hqB, hgB, B1, vi, v', by have := k.size; have := k2.size; omega, hgB1, heap_cell_same hq v', (h6.keep k hR).keep k2 (by simpa using hqB1.1), (hv.keep k hR).keep k2 (by simpa using hqB1.1), hm.keep k2 (by simpa using hgq), fun h => by cases h⟩, k2⟩

/-- What a step that gets leaves, by what Get answers. -/
def gotOf (s : ByteArray × Int) (x : ByteArray) (r : List ByteArray) (S : ScanS) : ScanS :=
  if s.2 = 0 then ⟨S.begun, S.tick, S.infos, r, put S.got x s.1⟩ else if s.2 = 5 then ⟨S.begun, S.tick, S.infos, r, S.got⟩ else S

def gotErr (s : ByteArray × Int) : Int := if s.2 = 0 ∨ s.2 = 5 then 0 else s.2


set_option maxRecDepth 100000 in
set_option maxHeartbeats 1000000 in
theorem scanStep_get {X : Nat} (w : World) (b f c mb B q gb : Nat) (armed : Bool) (Q : List (Int × Bool)) (o : List (ByteArray × Ob)) (S : ScanS) (now : Int) (x : ByteArray) (r : List ByteArray) (hb : BucketAt w b f c mb armed Q o) (hS : ScanAt X w B q gb S) (hw0 : S.begun = true) (hw1 : S.wait = x :: r) (hlow : b < B ∧ f < B ∧ c < B ∧ mb < B) :
    Calls Tryz.prog 25 #[.pointer (some ⟨q, 0, none⟩), .pointer (some ⟨b, 0, none⟩), .int .i64 now] w (StepPost X w b f c mb B q gb (tryArmed Q) (tryQ Q) o (gotOf (getVal Q o x) x r S) (gotErr (getVal Q o x))) := by
  have Hg := Lib.hid (get_spec w b f c mb armed Q o hb x)
  have hq0 := hS.lt
  have HS := Lib.hid hS
  obtain ⟨hqB, hgB, B1, vi, vw, hqB1, hgB1, h5, h6, h7, h8, _⟩ := hS
  have hgq : gb ≠ q := by
    rintro rfl
    obtain ⟨_, _, hm, _⟩ := h8
    rw [h5] at hm
    cases hm
  rw [hw1] at h7
  have h7' := h7
  obtain ⟨ao, cap, rfl, hl, hc, hn, hx⟩ := h7
  obtain ⟨b2, off, rfl, hB2, hlt2, hcell⟩ := hx 0 (by simp)
  have d0 : w.cell? ⟨b2, off, none⟩ = some (.string x) := by simpa [encS1] using hcell 0 (by decide)
  obtain ⟨_, _, he, _, _, _, _, ht1, ht2⟩ := h7'.tail
  injection he with he
  injection he with he1 he2 _
  subst he1 he2
  have hlen : (((x :: r).length : Nat) : Int) ≠ 0 := by simp only [List.length_cons]; omega
  have hpos : (0 : Int) < (((x :: r).length : Nat) : Int) := by simp only [List.length_cons]; omega
  have hge : (1 : Int) ≤ (((x :: r).length : Nat) : Int) := by omega
  have hlr : (x :: r).length = r.length + 1 := rfl
  have hbn : ((((x :: r).length : Nat) : Int) == 0) = false := by rw [beq_eq_false_iff_ne]; exact hlen
  unfold maxLen at hl
  have c5 := cells_at h5
  have l5 := lt_of_at h5
  rw [hw0] at c5 h5
  have H0 := Lib.hid (And.intro h5 (And.intro h6 (And.intro h8 (And.intro ht1 ht2))))
  generalize (x :: r).length = n at c5 hl hc hlen hpos hge hlr hbn H0
  generalize getVal Q o x = s at Hg ⊢
  obtain ⟨sd, se⟩ := s
  clear hx hcell ht1 ht2 h5 h6 h7' h8 hb hw1 hn
  go_enter Tryz.func25, Tryz.ntmps25
  go_wp2_with fail
  refine Hg.out.mono ?_
  rintro e w1 ⟨rfl, hb1, hk1⟩
  have hk1q : q ∉ [f, c] := by simp; omega
  have hk1g : gb ∉ [f, c] := by simp; omega
  have hk1b : b2 ∉ [f, c] := by simp; omega
  have h5 := hk1.at_ H0.out.1 hk1q
  have h8 := H0.out.2.2.1.keep hk1 hk1g
  replace d0 := (hk1.cell hlt2 hk1b).trans d0
  have lb2 := hk1.lt hlt2
  replace c5 := cells_at h5
  replace l5 := lt_of_at h5
  have f5 := free_at h5
  have H1 := Lib.hid (And.intro hb1 (And.intro hk1 (And.intro h5 h8)))
  clear hb1 hk1 h5 h8
  by_cases h0 : se = 0
  · subst h0
    have hG : gotOf (sd, 0) x r S = ⟨true, S.tick, S.infos, r, put S.got x sd⟩ := by simp [gotOf, hw0]
    have hm := H1.out.2.2.2
    go_wp2_with fail
    go_still_tail 11, (by kernel_rfl)
    change wpList _ _ _ _ _ w1.drew
    refine wpList_update_str _ rfl (.tmp 44) (.tmp 50) (.tmp 51) _ _ _ rfl Tryz.underlying26 Tryz.underlying9 gb (encMap Value.string S.got) x (Value.string sd) (by rfl) (by rfl) (by rfl) hm.drew ?_
    intro W2 hm2 k2
    simp only [Act.put]
    rw [put_enc] at hm2
    have hq2 := (k2.trans (Keeps.refl [gb] W2)).at_ (w := w1.drew) H1.out.2.2.1 (by simpa using fun h => hgq h.symm)
    have H2 := Lib.hid (And.intro hm2 (And.intro hq2 ((Keeps.refl [gb] w1).drew.trans k2)))
    replace c5 := cells_at hq2
    replace l5 := lt_of_at hq2
    replace f5 := free_at hq2
    have lb3 : b2 < W2.heap.size := k2.lt (w := w1.drew) lb2
    clear hm2 hq2 k2 hm d0
    go_wp2_with fail
    · go_ret
      have hx := scan_shift hqB hgB hqB1 hgB1 hgq H0.out.2.1 (R := [f, c, gb]) ((H1.out.2.1.mono (by simp)).trans (H2.out.2.2.mono (by simp))) (by simp; omega) H2.out.1 H2.out.2.1 (v' := .slice (some ⟨b2, off, none⟩) r.length 0) (r := r) (by
        rw [H0.out.2.2.2.2 (by assumption)]
        exact ⟨_, _, rfl, by simp [maxLen], Nat.le_refl _, (fun e => by cases e), fun i hi => by simp at hi⟩)
      exact ⟨rfl, hx.1, ((H1.out.1.keep H2.out.2.2 (by simp; omega) (by simp; omega) (by simp; omega) (by simp; omega)).keep hx.2 (by simp; omega) (by simp; omega) (by simp; omega) (by simp; omega)), ((H1.out.2.1.mono (by simp)).trans (H2.out.2.2.mono (by simp))).trans (hx.2.mono (by simp))⟩
    · go_ret
      have hx := scan_shift hqB hgB hqB1 hgB1 hgq H0.out.2.1 (R := [f, c, gb]) ((H1.out.2.1.mono (by simp)).trans (H2.out.2.2.mono (by simp))) (by simp; omega) H2.out.1 H2.out.2.1 (v' := .slice (some ⟨b2, off + 1, none⟩) r.length (cap - 1)) (r := r) (H0.out.2.2.2.1 (by omega))
      exact ⟨rfl, hx.1, ((H1.out.1.keep H2.out.2.2 (by simp; omega) (by simp; omega) (by simp; omega) (by simp; omega)).keep hx.2 (by simp; omega) (by simp; omega) (by simp; omega) (by simp; omega)), ((H1.out.2.1.mono (by simp)).trans (H2.out.2.2.mono (by simp))).trans (hx.2.mono (by simp))⟩
  · by_cases h5 : se = 5
    · subst h5
      have hG : gotOf (sd, 5) x r S = ⟨true, S.tick, S.infos, r, S.got⟩ := by simp [gotOf, hw0]
      clear d0
      go_wp2_with fail
      · go_ret
        have hx := scan_shift hqB hgB hqB1 hgB1 hgq H0.out.2.1 (R := [f, c]) H1.out.2.1 (by simp; omega) H1.out.2.2.2 H1.out.2.2.1 (v' := .slice (some ⟨b2, off, none⟩) r.length 0) (r := r) (by
          rw [H0.out.2.2.2.2 (by assumption)]
          exact ⟨_, _, rfl, by simp [maxLen], Nat.le_refl _, (fun e => by cases e), fun i hi => by simp at hi⟩)
        exact ⟨rfl, hx.1, (H1.out.1.keep hx.2 (by simp; omega) (by simp; omega) (by simp; omega) (by simp; omega)), (H1.out.2.1.mono (by simp)).trans (hx.2.mono (by simp))⟩
      · go_ret
        have hx := scan_shift hqB hgB hqB1 hgB1 hgq H0.out.2.1 (R := [f, c]) H1.out.2.1 (by simp; omega) H1.out.2.2.2 H1.out.2.2.1 (v' := .slice (some ⟨b2, off + 1, none⟩) r.length (cap - 1)) (r := r) (H0.out.2.2.2.1 (by omega))
        exact ⟨rfl, hx.1, (H1.out.1.keep hx.2 (by simp; omega) (by simp; omega) (by simp; omega) (by simp; omega)), (H1.out.2.1.mono (by simp)).trans (hx.2.mono (by simp))⟩
    · have hb0 : (se == 0) = false := by simpa using h0
      have hb5 : (se == 5) = false := by simpa using h5
      have hG : gotOf (sd, se) x r S = S := by simp [gotOf, h0, h5]
      have hE : gotErr (sd, se) = se := by simp [gotErr, h0, h5]
      clear d0
      go_wp2_with fail
      go_ret
      refine ⟨by rw [hE]; try rfl, ?_, H1.out.1, H1.out.2.1.mono (by simp)⟩
      rw [hG]
      exact HS.out.keep H1.out.2.1 (by simp; omega)
end Go.Proofs.YtjffdcflkkgpfaaGreat

namespace Go.Proofs.YtjffdcflkkgpfaaGreat
open Go Go.RowKit

def GotPost (w : World) (S : ScanS) (e : Ending) (w' : World) : Prop :=
  e = .returned (.map (some w.heap.size)) ∧ MapAt w' w.heap.size (encMap Value.string S.got) ∧ Keeps [] w w'


set_option maxRecDepth 100000 in
set_option maxHeartbeats 1000000 in
theorem scanGot_spec {X : Nat} (w : World) (B q gb : Nat) (S : ScanS) (h : ScanAt X w B q gb S) : Calls Tryz.prog 33 #[.pointer (some ⟨q, 0, none⟩)] w (GotPost w S) := by
  obtain ⟨_, _, B1, vi, vw, _, _, h5, _, _, h8, _⟩ := h
  obtain ⟨E, clock, hm, hr, hp⟩ := h8
  have Hc := Lib.hid (AnyW.maps_Clone Tryz.cloneSS gb (E.map entry).toArray clock w hm)
  have H := Lib.hid (And.intro hr hp)
  have c5 := cells_at h5
  have l5 := lt_of_at h5
  clear h5 hm hr hp
  go_enter Tryz.func33, Tryz.ntmps33
  go_wp2_with fail
  refine Hc.out.mono ?_
  rintro e w1 ⟨rfl, rfl⟩
  go_wp2_with fail
  go_ret
  exact ⟨rfl, ⟨E, clock, heap_new w _, H.out.1, H.out.2⟩, (Keeps.refl [] w).alloc _⟩
end Go.Proofs.YtjffdcflkkgpfaaGreat

namespace Go.Proofs.YtjffdcflkkgpfaaGreat
open Go Go.RowKit

/-- append, where its run is known. -/
theorem wpList_append_run {P : Program} {ops : Array Oper} {rest : List Oper} {o : Oper} {a : Act} {w : World} {Q : Exit → Act → World → Prop} (hgd : o.guard = none) (s x : Operand) (t : TypeId)
    (ho : o.op = .call { callee := .builtin .append, args := #[s, x], argTypes := #[t, t] }) (v u : Value) (hs : a.eval s = v) (hx : a.eval x = u) (v' : Value) (w' : World)
    (hr : (Builtin.append_ #[t, t] o.type #[v, u]).run P w = .ok v' w') (h : wpList P ops Q rest (a.put o.dst v') w') : wpList P ops Q (o :: rest) a w := by
  refine wpList_plain hgd fun K hK => ?_
  unfold Oper.wp execOp
  simp only [ho, resolve, invoke, builtin, Sem.run_bind, Sem.run_pure, Result.andThen_ok, List.map_toArray, List.map_cons, List.map_nil, hs, hx, hr]
  exact hK _ _ h

def InfosPost (w : World) (S : ScanS) (e : Ending) (w' : World) : Prop :=
  ∃ v, e = .returned v ∧ SliceFrom w.heap.size 3 infoOf w' v S.infos ∧ Keeps [] w w'

set_option maxRecDepth 100000 in
set_option maxHeartbeats 1000000 in
/-- A copy of a slice of what a listing tells. -/
theorem infos_copy {B1 : Nat} {w : World} {v : Value} {L : List (ByteArray × Ob)} (h : SliceFrom B1 3 infoOf w v L) (hl : L.length ≤ 1000000000) :
    ∃ v' w', (Builtin.append_ #[82, 82] 82 #[.slice (some ⟨w.heap.size, 0, none⟩) 0 0, v]).run Tryz.prog (w.alloc (.cells #[] 135)) = .ok v' w' ∧
      SliceFrom w.heap.size 3 infoOf w' v' L ∧ Keeps [] w w' := by
  obtain ⟨ii, hii, hz0, hz1, hz2⟩ := info_parts infoInfo
  have hown : (w.alloc (.cells #[] 135)).ownsRow w.heap.size 135 3 (.slice (some ⟨w.heap.size, 0, none⟩) 0 0) 0 [] :=
    ⟨rfl, .inr ⟨w.heap.size, 0, #[], rfl, Nat.le_refl _, heap_new w _, Nat.le_refl _, by simp [maxLen], rfl, rfl⟩⟩
  have ka : Keeps [] w (w.alloc (.cells #[] 135)) := (Keeps.refl [] w).alloc _
  obtain ⟨ao, cap, rfl, h1, h2, h3, hx⟩ := h
  cases L with
  | nil =>
    cases ao with
    | none =>
      obtain rfl := h3 rfl
      exact ⟨_, _, run_append_owned_none (P := Tryz.prog) (w := w.alloc (.cells #[] 135)) w.heap.size 82 82 135 ii 3 Tryz.underlying82 hii _ 0 [] hown, sliceFrom_row (enc := infoOf) (size := 3) (fun _ => rfl) hown, ka⟩
    | some ad =>
      obtain ⟨v', w', hr, ho, hg, _⟩ := run_append_own (P := Tryz.prog) (w.alloc (.cells #[] 135)) w.heap.size 82 82 135 ii _ 3 32 Tryz.underlying82 hii hz0 hz1 hz2 rfl (by decide) _ 0 [] hown ad 0 cap [] (by simp) (fun j u hu => by simp at hu) (fun u hu => by cases hu) (by simp [maxLen]) (by simp) (by simp)
      exact ⟨v', w', hr, sliceFrom_row (enc := infoOf) (size := 3) (L := []) (fun _ => rfl) ho, keeps_grown ka hg (fun q hq => (hown.lt q hq).1)⟩
  | cons y L =>
    obtain ⟨b2, of2, rfl, hb, hlt, hc⟩ := hx 0 (by simp)
    obtain ⟨v', w', hr, ho, hg, _⟩ := run_append_own (P := Tryz.prog) (w.alloc (.cells #[] 135)) w.heap.size 82 82 135 ii _ 3 32 Tryz.underlying82 hii hz0 hz1 hz2 rfl (by decide) _ 0 [] hown ⟨b2, of2, none⟩ (y :: L).length cap ((y :: L).flatMap infoOf)
      (by induction (y :: L) with
          | nil => rfl
          | cons a l ih => simp only [List.flatMap_cons, List.length_append, ih, List.length_cons, infoOf, List.length_nil]; omega)
      (fun j u hu => by
        have hjl : j < (y :: L).length * 3 := by
          have hq := (List.getElem?_eq_some_iff.1 hu).1
          have hlen : ∀ l : List (ByteArray × Ob), (l.flatMap infoOf).length = l.length * 3 := fun l => by
            induction l with
            | nil => rfl
            | cons a l ih => simp only [List.flatMap_cons, List.length_append, ih, List.length_cons, infoOf, List.length_nil]; omega
          rwa [hlen] at hq
        have hk : j / 3 < (y :: L).length := by omega
        obtain ⟨b', o', e', _, hlt', hcell⟩ := hx (j / 3) hk
        injection e' with e'
        injection e' with e1 e2 _
        subst e1 e2
        have hr := hcell (j % 3) (by omega)
        rw [← flatMap_at infoOf 3 (fun _ => rfl) (y :: L) (j / 3) hk (j % 3) (by omega), show j / 3 * 3 + j % 3 = j from by omega, hu] at hr
        have hadd : (⟨b2, of2, none⟩ : Addr).add j = ⟨b2, of2 + j, none⟩ := by unfold Addr.add; split <;> simp_all
        rw [hadd]
        exact (ka.cell hlt (by simp)).trans hr)
      (fun u hu => by
        obtain ⟨p, _, hp⟩ := List.mem_flatMap.1 hu
        simp only [infoOf, List.mem_cons, List.not_mem_nil, or_false] at hp
        rcases hp with rfl | rfl | rfl <;> rfl)
      (by simp only [maxLen]; omega) (by omega) (by simp)
    rw [Nat.zero_add, List.nil_append] at ho
    exact ⟨v', w', hr, sliceFrom_row (enc := infoOf) (size := 3) (fun _ => rfl) ho, keeps_grown ka hg (fun q hq => (hown.lt q hq).1)⟩


set_option maxRecDepth 100000 in
set_option maxHeartbeats 1000000 in
theorem scanInfos_spec {X : Nat} (w : World) (B q gb : Nat) (S : ScanS) (h : ScanAt X w B q gb S) (hl : S.infos.length ≤ 1000000000) : Calls Tryz.prog 32 #[.pointer (some ⟨q, 0, none⟩)] w (InfosPost w S) := by
  obtain ⟨_, _, B1, vi, vw, _, _, h5, h6, _, _, _⟩ := h
  obtain ⟨v', w', hr, hs, hk⟩ := infos_copy h6 hl
  have H := Lib.hid (And.intro hs hk)
  have Hr := Lib.hid hr
  clear hr
  have c5 := cells_at ((((Keeps.refl [] w).alloc (.cells #[] 135)).at_ h5 (by simp)))
  have l5 := lt_of_at h5
  clear h5 h6 hs hk
  go_enter Tryz.func32, Tryz.ntmps32
  go_wp2_with (at_builtin; refine wpList_append_run rfl (.tmp 3) (.tmp 7) 82 rfl _ _ rfl rfl v' w' Hr.out ?_)
  go_ret
  exact ⟨v', rfl, H.out.1, H.out.2⟩
end Go.Proofs.YtjffdcflkkgpfaaGreat
