/-
  ShipFull: what finds no room is refused; walked.
  The package's variable xor.widths holds what its text says (XorVar); the library's variable holds some number.
-/
import Derived.Test.YtaebpbkiaihhdaaGreatDoorNextFull
namespace Go.Proofs.YtaebpbkiaihhdaaGreatDoor
open Go Go.RowKit

/-- The names on the law's disk. -/
def fuK (M : MetaS) : List ByteArray := [tmpB, fileB M.id (partN 0), fileB M.id (partN 1), fileB M.id (partN 2), noteB M.id, seqB]
section
variable {M : MetaS} {cb ib : ByteArray}
theorem fuK_mem {k : Nat} (hk : k < 3) : fileB M.id (partN k) ∈ fuK M := by
  rcases (by omega : k = 0 ∨ k = 1 ∨ k = 2) with rfl | rfl | rfl <;> simp [fuK]

def sumN (M : MetaS) (cb ib : ByteArray) : Nat → Nat
  | 0 => 0
  | k + 1 => sumN M cb ib k + (dataN M cb ib k).size

theorem save_small {room : Nat} (hid : M.id.size = 16) (hroom : sumN M cb ib 3 ≤ room) : ∀ k, k ≤ 3 →
    (saveK room [] [] M cb ib k).1 = 0 ∧ (saveK room [] [] M cb ib k).2.1 = [] ∧ KeysIn (saveK room [] [] M cb ib k).2.2 (fuK M) ∧ used (saveK room [] [] M cb ib k).2.2 ≤ sumN M cb ib k ∧ (∀ j, j < k → look (saveK room [] [] M cb ib k).2.2 (fileB M.id (partN j)) = some (dataN M cb ib j, ((dataN M cb ib j).size : Int))) ∧ (∀ m, (∀ j, j < 3 → m ≠ fileB M.id (partN j)) → m ≠ tmpB → look (saveK room [] [] M cb ib k).2.2 m = none)
  | 0, _ => ⟨rfl, rfl, ⟨List.nodup_nil, fun n hn => by cases hn⟩, Nat.le_refl _, fun j hj => absurd hj (Nat.not_lt_zero _), fun _ _ _ => rfl⟩
  | k + 1, hk => by
    obtain ⟨h1, h2, h3, h4, h5, h6⟩ := save_small hid hroom k (by omega)
    have e : saveK room [] [] M cb ib (k + 1) = freshS room (saveK room [] [] M cb ib k).2.1 (saveK room [] [] M cb ib k).2.2 (fileB M.id (partN k)) (dataN M cb ib k) := if_pos h1
    rw [e, h2]
    generalize saveK room [] [] M cb ib k = S at h3 h4 h5 h6
    have hfz := fileB_size M.id (partN k)
    have hpz := partN_size k
    have hs : sumN M cb ib k + (dataN M cb ib k).size ≤ sumN M cb ib 3 := by
      rcases (by omega : k = 0 ∨ k = 1 ∨ k = 2) with rfl | rfl | rfl <;> simp only [sumN] <;> omega
    obtain ⟨f, g1, g2, g3, -⟩ := fresh_ok (room := room) (o := S.2.2) (name := fileB M.id (partN k)) (s := dataN M cb ib k) file_ne (by omega) (by omega) h3.nodup (by omega)
    refine ⟨g1, g2, h3.fresh f (by simp [fuK]) (fuK_mem (by omega)), ?_, fun j hj => ?_, fun m hm ht => ?_⟩
    · have := f.used
      show used _ ≤ sumN M cb ib k + (dataN M cb ib k).size
      omega
    · by_cases ej : j = k
      · subst ej; exact g3
      · rw [f.others _ (file_part (by omega) (by omega) ej) file_ne]
        exact h5 j (by omega)
    · rw [f.others m (hm k (by omega)) ht]
      exact h6 m hm ht

/-- Saving on an empty disk of any room. -/
theorem save_full {room : Nat} (hid : M.id.size = 16) :
    (saveS room [] [] M cb ib).2.1 = [] ∧ KeysIn (saveS room [] [] M cb ib).2.2 (fuK M) ∧ (∀ m, (∀ j, j < 3 → m ≠ fileB M.id (partN j)) → m ≠ tmpB → look (saveS room [] [] M cb ib).2.2 m = none) ∧
      ((saveS room [] [] M cb ib).1 = 7 ∧ (∀ j, j < 3 → look (saveS room [] [] M cb ib).2.2 (fileB M.id (partN j)) = none) ∨ (saveS room [] [] M cb ib).1 = 0 ∧ (∀ j, j < 3 → look (saveS room [] [] M cb ib).2.2 (fileB M.id (partN j)) = some (dataN M cb ib j, ((dataN M cb ib j).size : Int)))) := by
  have hu : used ([] : List (ByteArray × Ob)) = 0 := rfl
  by_cases hr : (cb.size : Int) + ib.size + (encM M).size > (room : Int) - (used ([] : List (ByteArray × Ob)) : Int)
  · have e : saveS room [] [] M cb ib = (7, [], []) := if_pos hr
    rw [e]
    exact ⟨rfl, ⟨List.nodup_nil, fun n hn => by cases hn⟩, fun _ _ _ => rfl, .inl ⟨rfl, fun _ _ => rfl⟩⟩
  · have e : saveS room [] [] M cb ib = saveK room [] [] M cb ib 3 := if_neg hr
    have hs : sumN M cb ib 3 ≤ room := by
      rw [hu] at hr
      show 0 + cb.size + ib.size + (encM M).size ≤ room
      omega
    obtain ⟨h1, h2, h3, h4, h5, h6⟩ := save_small (M := M) (cb := cb) (ib := ib) hid hs 3 (Nat.le_refl _)
    rw [e]
    exact ⟨h2, h3, h6, .inr ⟨h1, h5⟩⟩

/-- Next on a disk of any room. -/
theorem next_full {room : Nat} {o : List (ByteArray × Ob)} (hK : KeysIn o (fuK M)) :
    (nextS room [] o).2.1 = [] ∧ KeysIn (nextS room [] o).2.2 (fuK M) ∧ (∀ m, m ≠ seqB → m ≠ tmpB → look (nextS room [] o).2.2 m = look o m) ∧ ((nextS room [] o).1 = 7 ∨ (nextS room [] o).1 = 0) := by
  by_cases hr : (7 : Int) > (room : Int) - (used o : Int)
  · have e : nextS room [] o = (7, [], o) := if_pos hr
    rw [e]
    exact ⟨rfl, hK, fun _ _ _ => rfl, .inl rfl⟩
  · have e : nextS room [] o = freshS room [] o seqB (F 1) := if_neg hr
    have hF : (F 1).size = 7 := F_len 1 (by decide)
    obtain ⟨f, g1, g2, g3, -⟩ := fresh_ok (room := room) (o := o) (name := seqB) (s := F 1) seq_ne (by decide) (by decide) hK.nodup (by omega)
    rw [e]
    exact ⟨g2, hK.fresh f (by simp [fuK]) (by simp [fuK]), f.others, .inr g1⟩

theorem file_seq {id p : ByteArray} : fileB id p ≠ seqB := fun e => by
  have := file_pre id p
  rw [e, seq_noFile] at this
  cases this

theorem note_seq {id : ByteArray} : noteB id ≠ seqB := fun e => by
  have := note_pre id
  rw [e, seq_noNote] at this
  cases this

theorem fu_sizes {o : List (ByteArray × Ob)} (hid : M.id.size = 16) (h : KeysIn o (fuK M)) : (∀ p ∈ o, p.1.size ≤ maxLen) ∧ o.length * 16 ≤ 140737488355328 := h.sizes (fun n hn => by
  have hf : ∀ k, (fileB M.id (partN k)).size ≤ 1000 := fun k => by
    have := fileB_size M.id (partN k)
    have := partN_size k
    omega
  have hnz := noteB_size M.id
  simp only [fuK, List.mem_cons, List.not_mem_nil, or_false] at hn
  rcases hn with rfl | rfl | rfl | rfl | rfl | rfl
  · decide
  · exact hf 0
  · exact hf 1
  · exact hf 2
  · omega
  · decide) (by show 6 ≤ 100; decide)

theorem fu_names {o : List (ByteArray × Ob)} (h : KeysIn o (fuK M)) : (∀ n ∈ names o blkB, ∃ j, j < 3 ∧ n = fileB M.id (partN j)) ∧ (names o blkB).length ≤ 1000 := by
  refine ⟨fun n hn => ?_, ?_⟩
  · have h1 := h.mem n (mem_names hn)
    have h2 := names_pre hn
    simp only [fuK, List.mem_cons, List.not_mem_nil, or_false] at h1
    rcases h1 with rfl | rfl | rfl | rfl | rfl | rfl
    · rw [tmp_noFile] at h2; cases h2
    · exact ⟨0, by decide, rfl⟩
    · exact ⟨1, by decide, rfl⟩
    · exact ⟨2, by decide, rfl⟩
    · rw [note_noFile] at h2; cases h2
    · rw [seq_noFile] at h2; cases h2
  · have h1 := few_keys (fuK M) (names o blkB) (names_nodup h.nodup) (fun n hn => h.mem n (mem_names hn))
    have h2 : (fuK M).length = 6 := rfl
    omega

theorem fu_noFiles {o : List (ByteArray × Ob)} (h : KeysIn o (fuK M)) (hl : ∀ j, j < 3 → look o (fileB M.id (partN j)) = none) : names o blkB = [] := by
  rcases hn : names o blkB with _ | ⟨x, l⟩
  · rfl
  · have hm : x ∈ names o blkB := by rw [hn]; simp
    obtain ⟨j, hj, rfl⟩ := (fu_names h).1 x hm
    exact absurd (mem_names hm) ((look_none_iff _ _).1 (hl j hj))

theorem fu_notes {o : List (ByteArray × Ob)} (h : KeysIn o (fuK M)) : ∀ n ∈ o.map (·.1), hasPre n shpB = true → n = noteB M.id := fun n hn hp => by
  have h1 := h.mem n hn
  simp only [fuK, List.mem_cons, List.not_mem_nil, or_false] at h1
  rcases h1 with rfl | rfl | rfl | rfl | rfl | rfl
  · rw [show hasPre tmpB shpB = false from tmp_noNote] at hp; cases hp
  · rw [show hasPre (fileB M.id (partN 0)) shpB = false from file_noNote _ _] at hp; cases hp
  · rw [show hasPre (fileB M.id (partN 1)) shpB = false from file_noNote _ _] at hp; cases hp
  · rw [show hasPre (fileB M.id (partN 2)) shpB = false from file_noNote _ _] at hp; cases hp
  · rfl
  · rw [show hasPre seqB shpB = false from seq_noNote] at hp; cases hp

theorem fu_oneNote {o : List (ByteArray × Ob)} (h : KeysIn o (fuK M)) {x : Ob} (hl : look o (noteB M.id) = some x) : names o shpB = [noteB M.id] := names_only h.nodup (look_some_mem hl) (note_pre _) (fu_notes h)

theorem fu_noNote {o : List (ByteArray × Ob)} (h : KeysIn o (fuK M)) (hl : look o (noteB M.id) = none) : names o shpB = [] := names_nil (fun n hn => by
  rw [Bool.eq_false_iff]
  intro hp
  have e := fu_notes h n hn hp
  subst e
  exact (look_none_iff _ _).1 hl hn)

/-- All three calls, one behind the other. -/
structure FullAt (M : MetaS) (cb ib : ByteArray) (e g : Int) (o : List (ByteArray × Ob)) : Prop where
  keys : KeysIn o (fuK M)
  files : e = 7 ∧ (∀ j, j < 3 → look o (fileB M.id (partN j)) = none) ∨ e = 0 ∧ (∀ j, j < 3 → look o (fileB M.id (partN j)) = some (dataN M cb ib j, ((dataN M cb ib j).size : Int)))
  note : g = 7 ∧ look o (noteB M.id) = none ∨ g = 0 ∧ look o (noteB M.id) = some (noteT M 3, ((noteT M 3).size : Int))

theorem full_law {room : Nat} (hok : MetaOk M) :
    let S1 := saveS room [] [] M cb ib
    let S2 := noteS room [] S1.2.2 M 3
    let S3 := nextS room [] S2.2.2
    S1.2.1 = [] ∧ S2.2.1 = [] ∧ S3.2.1 = [] ∧ look S2.2.2 seqB = none ∧ (S3.1 = 7 ∨ S3.1 = 0) ∧ FullAt M cb ib S1.1 S2.1 S3.2.2 := by
  intro S1 S2 S3
  obtain ⟨a1, a2, a3, a4⟩ := save_full (room := room) (M := M) (cb := cb) (ib := ib) (id16 hok.id)
  obtain ⟨b1, b2, -, b4, b5⟩ := note_law (room := room) (o := S1.2.2) (M := M) hok (a := 3) (K := fuK M) a2 (by simp [fuK]) (by simp [fuK])
  obtain ⟨c1, c2, c3, c4⟩ := next_full (M := M) (room := room) (o := S2.2.2) b2
  have hn1 : look S1.2.2 (noteB M.id) = none := a3 _ (fun j _ => note_file) note_ne
  refine ⟨a1, b1, c1, ?_, c4, c2, ?_, ?_⟩
  · rw [b4 seqB (Ne.symm note_seq) seq_ne]
    exact a3 _ (fun j _ => Ne.symm file_seq) seq_ne
  · have hk : ∀ j, look S3.2.2 (fileB M.id (partN j)) = look S1.2.2 (fileB M.id (partN j)) := fun j => by
      rw [c3 _ file_seq file_ne, b4 _ (Ne.symm note_file) file_ne]
    rcases a4 with ⟨e, h⟩ | ⟨e, h⟩
    · exact .inl ⟨e, fun j hj => by rw [hk]; exact h j hj⟩
    · exact .inr ⟨e, fun j hj => by rw [hk]; exact h j hj⟩
  · rw [c3 _ note_seq note_ne]
    rcases b5 with ⟨e, h, -⟩ | ⟨e, h⟩
    · exact .inl ⟨e, by rw [h]; exact hn1⟩
    · exact .inr ⟨e, h⟩
end
def ErrRel (W : World) (gk : Nat) (u : Value) (wr : World) : Prop := ∃ k, k ≤ 3 ∧ gk = 3 - k ∧ u = .int .i64 (k : Nat) ∧ Keeps [] W wr

set_option linter.unusedSimpArgs false in
set_option maxRecDepth 100000 in
set_option maxHeartbeats 8000000 in
theorem shipFull_walk (w : World) (hv : LibVar w) (hX : XorVar w) (r0 : Int) (v : Value) (L : List One14) (h : SliceArg 3 encO14 w v L) (hb : ∀ x ∈ L, 0 ≤ x.1 ∧ 0 ≤ x.2.2 ∧ x.2.2 < 18446744073709551616) :
    Calls Tryz.prog 7 #[.int .i64 r0, v] w fun e w' => e = .returned (.bool true) ∧ Keeps [] w w' := by
  have H := Lib.hid (And.intro h (And.intro hv (And.intro hX hb)))
  obtain ⟨av, cv, rfl, -, -⟩ := h
  have Haw := Lib.hid (fun W => awake18_spec W)
  clear hv hX hb
  by_cases hr : r0 < 0 ∨ r0 > 2000
  · go_enter Tryz.func7, Tryz.ntmps7
    go_wp2_with fail
    refine (Haw.out w).mono ?_
    rintro e W0 ⟨rfl, k0⟩
    have K0 := Lib.hid k0
    clear k0
    have hd : r0 < 0 ∨ (¬ r0 < 0 ∧ r0 > 2000) := by omega
    clear hr
    rcases hd with g1 | ⟨g1, g2⟩
    · go_wp2_with fail
      refine (Haw.out W0).mono ?_
      rintro e W1 ⟨rfl, k1⟩
      have K1 := Lib.hid (K0.out.trans k1)
      clear k1
      go_wp2_with fail
      go_ret
      exact ⟨rfl, K1.out⟩
    · go_wp2_with fail
      refine (Haw.out W0).mono ?_
      rintro e W1 ⟨rfl, k1⟩
      have K1 := Lib.hid (K0.out.trans k1)
      clear k1
      go_wp2_with fail
      go_ret
      exact ⟨rfl, K1.out⟩
  · have hr1 : ¬ r0 < 0 := fun h => hr (.inl h)
    have hr2 : ¬ r0 > 2000 := fun h => hr (.inr h)
    clear hr
    obtain ⟨room, rfl⟩ : ∃ n : Nat, r0 = (n : Int) := ⟨r0.toNat, by omega⟩
    have hrm : room ≤ 2000 := by omega
    have g1 : ¬ (room : Int) < 0 := by omega
    have g2 : ¬ (room : Int) > 2000 := by omega
    clear hr1 hr2
    go_enter Tryz.func7, Tryz.ntmps7
    go_wp2_with fail
    refine (Haw.out w).mono ?_
    rintro e W00 ⟨rfl, k00⟩
    have K00 := Lib.hid k00
    clear k00
    go_wp2_with fail
    refine (newDisk_spec W00 room (by omega)).mono ?_
    rintro e W0 ⟨d, f, c, mb, rfl, hD0, k0, q1, q2, q3, q4⟩
    rw [show (max ((room : Nat) : Int) 0).toNat = room by omega] at hD0
    have H0 := Lib.hid (And.intro hD0 (And.intro (K00.out.trans k0) (And.intro q1 (And.intro q2 (And.intro q3 q4)))))
    have Hbl := Lib.hid (block_spec W0 (H.out.2.1.same H0.out.2.1) (H.out.2.2.1.same H0.out.2.1) _ L (H.out.1.keep H0.out.2.1) H.out.2.2.2 1 1 (by decide) (by decide))
    clear hD0 k0 q1 q2 q3 q4
    go_wp2_with fail
    refine Hbl.out.mono ?_
    rintro e W1 ⟨fv2, M, cb, ib, rfl, ⟨vs, rfl, ⟨vf, vo, rfl, r1, r2⟩, hMO, hfl, hcz, hiz⟩, -, k1⟩
    obtain ⟨af, cf, rfl, -, -, -⟩ := row_slice r1
    obtain ⟨ao, co, rfl, -, -, -⟩ := row_slice r2
    have H1 := Lib.hid (And.intro r1 (And.intro r2 (And.intro hMO (And.intro (H0.out.1.same k1) (And.intro (H0.out.2.1.trans k1) (And.intro hfl (And.intro hcz hiz)))))))
    have hsz1 := k1.size
    clear r1 r2 hMO k1 Hbl hfl hcz hiz
    obtain ⟨pf, hpf⟩ : ∃ pf, pf = W1.heap.size := ⟨_, rfl⟩
    obtain ⟨W4, hW4⟩ : ∃ W, W = W1.alloc (.cells #[.string M.id, .int .i64 M.mn, .int .i64 M.mx, .int .i64 M.level, .int .i64 M.series, .int .i64 M.samples, .slice af M.files.length cf, .slice ao M.sources.length co, .string cb, .string ib] 28) := ⟨_, rfl⟩
    have k14 : Keeps [] W1 W4 := by rw [hW4]; exact (Keeps.refl [] W1).alloc _
    have n4 : W4.heap[pf]? = some (.cells #[.string M.id, .int .i64 M.mn, .int .i64 M.mx, .int .i64 M.level, .int .i64 M.series, .int .i64 M.samples, .slice af M.files.length cf, .slice ao M.sources.length co, .string cb, .string ib] 28 (0, 0)) := by rw [hW4, hpf]; exact heap_new W1 _
    have hlt := H0.out.1.lt
    have hlow : w.heap.size ≤ W00.heap.size := K00.out.size
    have hord : (pf ≠ d ∧ pf ≠ f ∧ pf ≠ c ∧ pf ≠ mb) ∧ w.heap.size ≤ d ∧ w.heap.size ≤ f ∧ w.heap.size ≤ c ∧ w.heap.size ≤ mb := by
      have := H0.out.2.2
      omega
    have H4 := Lib.hid (And.intro n4 (And.intro k14 (And.intro (H1.out.2.2.2.1.same k14) (And.intro (H1.out.2.2.2.2.1.trans k14) (And.intro hord hlt)))))
    have HK := Lib.hid (fun W (hk : Keeps [f, c, mb, d] W4 W) => (⟨hk.at_ H4.out.1 (by have := H4.out.2.2.2.2.1.1; simp; omega), H4.out.2.2.2.1.after hk (fun x hx => .inr (by have := H4.out.2.2.2.2.1.2; simp at hx; omega)),
      (show MetaR W0.heap.size W (metaCs M (.slice af M.files.length cf) (.slice ao M.sources.length co)) M from ⟨_, _, rfl, hk.row (H4.out.2.1.row H1.out.1 (by simp)) (fun g hg hm => by
        have h1 := (World.ownsRow.lt H1.out.1 g hg).1
        have h2 := H4.out.2.2.2.2.2
        simp at hm
        omega), hk.row (H4.out.2.1.row H1.out.2.1 (by simp)) (fun g hg hm => by
        have h1 := (World.ownsRow.lt H1.out.2.1 g hg).1
        have h2 := H4.out.2.2.2.2.2
        simp at hm
        omega)⟩).metaV⟩ : W.heap[pf]? = some (.cells #[.string M.id, .int .i64 M.mn, .int .i64 M.mx, .int .i64 M.level, .int .i64 M.series, .int .i64 M.samples, .slice af M.files.length cf, .slice ao M.sources.length co, .string cb, .string ib] 28 (0, 0)) ∧ Keeps [] w W ∧ MetaV W0.heap.size W (metaCs M (.slice af M.files.length cf) (.slice ao M.sources.length co)) M))
    clear k14 hlt hlow hord hsz1
    go_upto_region 7 with fail
    rw [← hW4, ← hpf]
    clear hW4 hpf
    have hid16 := id16 H1.out.2.2.1.id
    have hlaw := full_law (M := M) (cb := cb) (ib := ib) (room := room) H1.out.2.2.1
    obtain ⟨S1, hS1⟩ : ∃ S, S = saveS room [] [] M cb ib := ⟨_, rfl⟩
    rw [← hS1] at hlaw
    obtain ⟨S2, hS2⟩ : ∃ S, S = noteS room [] S1.2.2 M 3 := ⟨_, rfl⟩
    have hlaw2 := hlaw
    simp only at hlaw2
    rw [← hS2] at hlaw2
    obtain ⟨S3, hS3⟩ : ∃ S, S = nextS room [] S2.2.2 := ⟨_, rfl⟩
    rw [← hS3] at hlaw2
    obtain ⟨a1, a2, a3, a4, a5, hF⟩ := hlaw2
    have Hs := Lib.hid (save_spec W4 d f c mb _ false [] room [] H4.out.2.2.1 M af ao _ cf _ co cb ib (HK.out W4 (Keeps.refl _ _)).2.2 H1.out.2.2.1 H1.out.2.2.2.2.2.2.1 H1.out.2.2.2.2.2.2.2)
    rw [← hS1] at Hs
    have HS := Lib.hid (And.intro hS2 (And.intro hS3 (And.intro a1 (And.intro a2 (And.intro a3 (And.intro a4 (And.intro a5 hF)))))))
    have c4 := cells_at n4
    have l4 := lt_of_at n4
    clear n4 hlaw hS1 hS2 hS3 a1 a2 a3 a4 a5 hF g1 g2
    go_wp2_with fail
    clear c4 l4
    refine Hs.out.mono ?_
    rintro e W5 ⟨rfl, a5, hD5, k5⟩
    rw [HS.out.2.2.1] at hD5
    have hn5 := note_spec W5 d f c mb _ a5 [] room S1.2.2 hD5 M af ao _ cf _ co (HK.out W5 k5).2.2 H1.out.2.2.1 3 (by decide)
    rw [← HS.out.1] at hn5
    have Hn5 := Lib.hid hn5
    have hp5 := (HK.out W5 k5).1
    have H5 := Lib.hid k5
    have c5 := cells_at hp5
    have l5 := lt_of_at hp5
    clear hD5 k5 hn5 hp5
    go_wp2_with fail
    clear c5 l5
    refine Hn5.out.mono ?_
    rintro e W6 ⟨rfl, a6, hD6, k6⟩
    rw [HS.out.2.2.2.1] at hD6
    have hx6 := nextFull_spec W6 d f c mb a6 [] room S2.2.2 hD6 1 (by decide) HS.out.2.2.2.2.2.1
    rw [← HS.out.2.1] at hx6
    have Hx6 := Lib.hid hx6
    have H6 := Lib.hid (H5.out.trans k6)
    clear hD6 k6 hx6
    obtain ⟨e1, he1⟩ : ∃ e, e = S1.1 := ⟨_, rfl⟩
    obtain ⟨e2, he2⟩ : ∃ e, e = S2.1 := ⟨_, rfl⟩
    rw [← he1, ← he2]
    have HF0 := HS.out.2.2.2.2.2.2.2
    rw [← he1, ← he2] at HF0
    have HF := Lib.hid HF0
    clear he1 he2 HF0
    go_wp2_with fail
    refine Hx6.out.mono ?_
    rintro e W7 ⟨he, a7, hD7, k7⟩
    have hcase : ∃ (nm : ByteArray) (e3 : Int), e = .returned (.tuple #[.string nm, .int .i64 e3]) ∧ (e3 = 0 ∨ e3 = 7) := by
      rcases HS.out.2.2.2.2.2.2.1 with h3 | h3
      · rw [h3, if_neg (by decide)] at he
        exact ⟨_, _, he, .inr rfl⟩
      · rw [if_pos h3] at he
        exact ⟨_, _, he, .inl rfl⟩
    obtain ⟨nm, e3, rfl, h3⟩ := hcase
    rw [HS.out.2.2.2.2.1] at hD7
    have H7 := Lib.hid (And.intro hD7 (And.intro (H6.out.trans k7) h3))
    clear he hD7 k7 h3
    obtain ⟨q8, hq8⟩ : ∃ q, q = W7.heap.size := ⟨_, rfl⟩
    obtain ⟨W8, hW8⟩ : ∃ W, W = W7.alloc (.cells #[.int .i64 e1, .int .i64 e2, .int .i64 e3] 36) := ⟨_, rfl⟩
    have k8 : Keeps [] W7 W8 := by rw [hW8]; exact (Keeps.refl [] _).alloc _
    have n8 : W8.heap[q8]? = some (.cells #[.int .i64 e1, .int .i64 e2, .int .i64 e3] 36 (0, 0)) := by rw [hW8, hq8]; exact heap_new _ _
    have H8 := Lib.hid (And.intro (H7.out.1.same k8) (And.intro (H7.out.2.1.trans (k8.mono (by simp))) (And.intro n8 H7.out.2.2)))
    have HW8 := Lib.hid (And.intro hW8 hq8)
    clear k8 n8 hW8 hq8
    go_wp2_with fail
    rw [← HW8.out.1, ← HW8.out.2]
    go_loopg [52] 3 (ErrRel W8)
    case atStart => exact ⟨0, by decide, rfl, rfl, Keeps.refl _ _⟩
    case round =>
      obtain ⟨k, hk, hgk, rfl, hkr⟩ := hrel
      by_cases hlt : k < 3
      · have hk3 : (k : Int) < 3 := by omega
        have hcx : ∃ x : Int, wr.cell? ⟨q8, k, none⟩ = some (.int .i64 x) ∧ (x = 0 ∨ x = 7) := by
          have hc := cells_at (hkr.at_ H8.out.2.2.1 (by simp)) k
          have h1 : e1 = 0 ∨ e1 = 7 := by rcases HF.out.files with ⟨h, -⟩ | ⟨h, -⟩ <;> simp [h]
          have h2 : e2 = 0 ∨ e2 = 7 := by rcases HF.out.note with ⟨h, -⟩ | ⟨h, -⟩ <;> simp [h]
          rcases (by omega : k = 0 ∨ k = 1 ∨ k = 2) with rfl | rfl | rfl
          · exact ⟨e1, hc, h1⟩
          · exact ⟨e2, hc, h2⟩
          · exact ⟨e3, hc, H8.out.2.2.2⟩
        obtain ⟨x, cx, hx⟩ := hcx
        have lx := hkr.lt (lt_of_at H8.out.2.2.1)
        have Hr := Lib.hid (And.intro hgk (And.intro hkr hlt))
        clear hgk hkr hlt
        rcases hx with rfl | rfl
        · go_wp2_with fail
          go_roundg (3 - (k + 1))
          case measure => have := Hr.out.1; have := Hr.out.2.2; omega
          case rel => exact ⟨k + 1, Hr.out.2.2, rfl, by go_num, Hr.out.2.1⟩
        · go_wp2_with fail
          go_roundg (3 - (k + 1))
          case measure => have := Hr.out.1; have := Hr.out.2.2; omega
          case rel => exact ⟨k + 1, Hr.out.2.2, rfl, by go_num, Hr.out.2.1⟩
      · obtain rfl : k = 3 := by omega
        have hz := fu_sizes hid16 HF.out.keys
        have hnm := fu_names HF.out.keys
        have hD9 := H8.out.1.same hkr
        have hu := hD9.fits
        have hk9 := H8.out.2.1.trans (hkr.mono (by simp : ∀ x ∈ ([] : List Nat), x ∈ [f, c, mb, d]))
        have H9 := Lib.hid (And.intro hD9 hk9)
        have hw : look S3.2.2 (fileB M.id metaB) = none ∨ WholeAt S3.2.2 M cb ib := by
          rcases HF.out.files with ⟨-, hh⟩ | ⟨-, hh⟩
          · exact .inl (hh 2 (by decide))
          · exact .inr ⟨_, _, _, hh 0 (by decide), hh 1 (by decide), hh 2 (by decide)⟩
        have Hloc := Lib.hid (locals_spec wr d f c mb a7 [] room S3.2.2 hD9 hz.1 hz.2 M H1.out.2.2.1 cb ib H1.out.2.2.2.2.2.1 H1.out.2.2.2.2.2.2.1 H1.out.2.2.2.2.2.2.2 hnm.1 hw hnm.2)
        have Hz := Lib.hid hz
        have hu2 : ((used S3.2.2 : Nat) : Int) ≤ (room : Int) := by omega
        have hu3 : decide (((used S3.2.2 : Nat) : Int) ≤ (room : Int)) = true := decide_eq_true hu2
        clear hgk hkr hlt hz hnm hD9 hu hk9 hw
        rw [show ((3 : Nat) : Int) = 3 from rfl]
        go_wp2_with fail
        refine Hloc.out.mono ?_
        rintro e W10 ⟨al, cl, rfl, hk10⟩
        rcases HF.out.files with ⟨hf1, hh1⟩ | ⟨hf1, hh1⟩
        · rcases HF.out.note with ⟨hf2, hh2⟩ | ⟨hf2, hh2⟩
          · subst hf1
            subst hf2
            rw [meta_no (hh1 2 (by decide))]
            have hD10 := H9.out.1.same hk10
            have Hnt := Lib.hid (noted_none W10 d f c mb a7 [] room S3.2.2 hD10 Hz.out.1 Hz.out.2 (fu_noNote HF.out.keys hh2))
            have H10 := Lib.hid (And.intro hD10 (H9.out.2.trans (hk10.mono (by simp : ∀ x ∈ ([] : List Nat), x ∈ [f, c, mb, d]))))
            have Hnf := Lib.hid (fu_noFiles HF.out.keys hh1)
            clear hD10 hk10 hh1 hh2
            go_wp2_with fail
            refine Hnt.out.mono ?_
            rintro e W11 ⟨rfl, hk11⟩
            have hD11 := H10.out.1.same hk11
            have Hus := Lib.hid (used_spec W11 d f c mb a7 [] room S3.2.2 hD11)
            have Hls := listD_spec W11 d f c mb a7 [] room S3.2.2 hD11 blkB Hz.out.1 Hz.out.2
            rw [Hnf.out] at Hls
            have HLs := Lib.hid Hls
            clear Hls
            have H11 := Lib.hid (H10.out.2.trans (hk11.mono (by simp : ∀ x ∈ ([] : List Nat), x ∈ [f, c, mb, d])))
            clear hD11 hk11
            go_wp2_with fail
            refine Hus.out.mono ?_
            rintro e W12 ⟨rfl, rfl⟩
            go_wp2_with fail
            refine HLs.out.mono ?_
            rintro e W13 ⟨v13, rfl, hrow13, hk13⟩
            obtain ⟨a13, c13, rfl, -, -, -⟩ := row_slice hrow13
            rw [show (([] : List ByteArray).length) = 0 from rfl]
            have HZ := Lib.hid (HK.out _ (H11.out.trans (hk13.mono (by simp : ∀ x ∈ ([] : List Nat), x ∈ [f, c, mb, d])))).2.1
            clear hrow13 hk13
            go_wp2_with fail
            go_ret
            exact ⟨rfl, HZ.out⟩
          · subst hf1
            subst hf2
            rw [meta_no (hh1 2 (by decide))]
            have hD10 := H9.out.1.same hk10
            have Hnt := Lib.hid (noted_one W10 d f c mb a7 [] room S3.2.2 hD10 Hz.out.1 Hz.out.2 M H1.out.2.2.1 3 (by decide) (fu_oneNote HF.out.keys hh2) _ hh2)
            have H10 := Lib.hid (And.intro hD10 (H9.out.2.trans (hk10.mono (by simp : ∀ x ∈ ([] : List Nat), x ∈ [f, c, mb, d]))))
            have Hnf := Lib.hid (fu_noFiles HF.out.keys hh1)
            clear hD10 hk10 hh1 hh2
            go_wp2_with fail
            refine Hnt.out.mono ?_
            rintro e W11 ⟨v11, vf11, vo11, rfl, hrow, hk11⟩
            obtain ⟨a11, c11, rfl, -, -, -⟩ := row_slice hrow
            clear hrow
            have hD11 := H10.out.1.same hk11
            have Hus := Lib.hid (used_spec W11 d f c mb a7 [] room S3.2.2 hD11)
            have Hls := listD_spec W11 d f c mb a7 [] room S3.2.2 hD11 blkB Hz.out.1 Hz.out.2
            rw [Hnf.out] at Hls
            have HLs := Lib.hid Hls
            clear Hls
            have H11 := Lib.hid (H10.out.2.trans (hk11.mono (by simp : ∀ x ∈ ([] : List Nat), x ∈ [f, c, mb, d])))
            clear hD11 hk11
            go_wp2_with fail
            refine Hus.out.mono ?_
            rintro e W12 ⟨rfl, rfl⟩
            go_wp2_with fail
            refine HLs.out.mono ?_
            rintro e W13 ⟨v13, rfl, hrow13, hk13⟩
            obtain ⟨a13, c13, rfl, -, -, -⟩ := row_slice hrow13
            rw [show (([] : List ByteArray).length) = 0 from rfl]
            have HZ := Lib.hid (HK.out _ (H11.out.trans (hk13.mono (by simp : ∀ x ∈ ([] : List Nat), x ∈ [f, c, mb, d])))).2.1
            clear hrow13 hk13
            go_wp2_with fail
            go_ret
            exact ⟨rfl, HZ.out⟩
        · rcases HF.out.note with ⟨hf2, hh2⟩ | ⟨hf2, hh2⟩
          · subst hf1
            subst hf2
            rw [meta_one HF.out.keys.nodup (by rw [show look S3.2.2 (fileB M.id metaB) = _ from hh1 2 (by decide)]; simp)]
            have hD10 := H9.out.1.same hk10
            have Hnt := Lib.hid (noted_none W10 d f c mb a7 [] room S3.2.2 hD10 Hz.out.1 Hz.out.2 (fu_noNote HF.out.keys hh2))
            have H10 := Lib.hid (And.intro hD10 (H9.out.2.trans (hk10.mono (by simp : ∀ x ∈ ([] : List Nat), x ∈ [f, c, mb, d]))))
            clear hD10 hk10 hh1 hh2
            go_wp2_with fail
            refine Hnt.out.mono ?_
            rintro e W11 ⟨rfl, hk11⟩
            have hD11 := H10.out.1.same hk11
            have Hus := Lib.hid (used_spec W11 d f c mb a7 [] room S3.2.2 hD11)
            have H11 := Lib.hid (H10.out.2.trans (hk11.mono (by simp : ∀ x ∈ ([] : List Nat), x ∈ [f, c, mb, d])))
            clear hD11 hk11
            go_wp2_with fail
            refine Hus.out.mono ?_
            rintro e W12 ⟨rfl, rfl⟩
            go_wp2_with fail
            have HZ := Lib.hid (HK.out _ H11.out).2.1
            go_ret
            exact ⟨rfl, HZ.out⟩
          · subst hf1
            subst hf2
            rw [meta_one HF.out.keys.nodup (by rw [show look S3.2.2 (fileB M.id metaB) = _ from hh1 2 (by decide)]; simp)]
            have hD10 := H9.out.1.same hk10
            have Hnt := Lib.hid (noted_one W10 d f c mb a7 [] room S3.2.2 hD10 Hz.out.1 Hz.out.2 M H1.out.2.2.1 3 (by decide) (fu_oneNote HF.out.keys hh2) _ hh2)
            have H10 := Lib.hid (And.intro hD10 (H9.out.2.trans (hk10.mono (by simp : ∀ x ∈ ([] : List Nat), x ∈ [f, c, mb, d]))))
            clear hD10 hk10 hh1 hh2
            go_wp2_with fail
            refine Hnt.out.mono ?_
            rintro e W11 ⟨v11, vf11, vo11, rfl, hrow, hk11⟩
            obtain ⟨a11, c11, rfl, -, -, -⟩ := row_slice hrow
            clear hrow
            have hD11 := H10.out.1.same hk11
            have Hus := Lib.hid (used_spec W11 d f c mb a7 [] room S3.2.2 hD11)
            have H11 := Lib.hid (H10.out.2.trans (hk11.mono (by simp : ∀ x ∈ ([] : List Nat), x ∈ [f, c, mb, d])))
            clear hD11 hk11
            go_wp2_with fail
            refine Hus.out.mono ?_
            rintro e W12 ⟨rfl, rfl⟩
            go_wp2_with fail
            have HZ := Lib.hid (HK.out _ H11.out).2.1
            go_ret
            exact ⟨rfl, HZ.out⟩

theorem shipFull_law (w : World) (hv : LibVar w) (hX : XorVar w) (a0 : Int) (_ : (Lit.int .i64 a0).wf = true) (v1 : Value) (h1 : O14W w v1) :
    Calls Tryz.prog 7 #[.int .i64 a0, v1] w fun e w' => e = .returned (.bool true) ∧ Keeps [] w w' := by
  obtain ⟨L, hL, hb⟩ := h1
  exact shipFull_walk w hv hX a0 v1 L hL hb
end Go.Proofs.YtaebpbkiaihhdaaGreatDoor
