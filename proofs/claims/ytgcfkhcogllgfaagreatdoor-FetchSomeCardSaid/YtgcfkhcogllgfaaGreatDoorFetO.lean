/-
  A fetch, all its calls (package fetch): New, Done, Step, Rows, told as one machine of a block's table.
  The package's variable xor.widths holds what its text says (XorVar); the block is one that may be (BlkOk).

  A bucket in which a block lies (package barographlaw17): Stored.
  The package's variable xor.widths holds what its text says (XorVar); the table may be built (BlkOk).

  Fetches of a block that lies in a bucket; layer 17's awake: it answers true.
  The variables matcher.signs, xor.widths hold what their texts say; the library's variable internal/bytealg.MaxLen holds some number.

  The law's helper whole (package barographlaw17): a fetch that goes to its end; walked.
  The table may be built (BlkOk); the matchers may be.
-/
import Derived.Test.YtgcfkhcogllgfaaGreatDoorFetLaw
import Derived.Test.YtgcfkhcogllgfaaGreatDoorTabBet
import Derived.Test.YtgcfkhcogllgfaaGreatDoorMetaPut
import Derived.Test.YtgcfkhcogllgfaaGreatDoorMetaTake
import Derived.Test.YtgcfkhcogllgfaaGreatDoorMatParse
namespace Go.Proofs.YtgcfkhcogllgfaaGreatDoor
set_option maxRecDepth 100000
set_option maxHeartbeats 4000000
set_option linter.unusedSimpArgs false
open Go Go.RowKit Go.Conc
def Far (w0 : World) (f c mb : Nat) (S : List Nat) : Prop := ∀ x ∈ S, x = f ∨ x = c ∨ x = mb ∨ w0.heap.size ≤ x
theorem Far.nil (w0 : World) (f c mb : Nat) : Far w0 f c mb [] := fun x hx => by cases hx
theorem fuse_cell {w : World} {b f c mb : Nat} {armed : Bool} {Q : List (Int × Bool)} {o : List (ByteArray × Ob)} (h : BucketAt w b f c mb armed Q o) {x : Nat} (hx : x = f ∨ x = c ∨ x = mb) : (∀ off s, w.cell? ⟨x, off, none⟩ ≠ some (.string s)) ∧ ∀ n, w.cell? ⟨x, 0, none⟩ ≠ some (.int .i64 n) := by
 obtain ⟨now, wait, hf, -⟩ := h.fuse
 obtain ⟨s, r, hc⟩ := hf.chan
 obtain ⟨Em, cm, hm, -⟩ := h.map
 rcases hx with rfl | rfl | rfl
 ·have h1 := fun i => cells_at hf.cells i
  refine ⟨fun off s h2 => ?_, fun n h2 => ?_⟩
  ·rw [h1] at h2
   rcases off with _ | _ | _ | _ | off <;> simp at h2
  ·rw [h1] at h2
   simp at h2
 rotate_left
 ·have h1 : ∀ off, w.cell? ⟨x, off, none⟩ = none := fun off => by simp [World.cell?, hm]
  exact ⟨fun off s h2 => (by rw [h1] at h2; cases h2), fun n h2 => (by rw [h1] at h2; cases h2)⟩
 ·have h1 : ∀ off, w.cell? ⟨x, off, none⟩ = none := fun off => by simp [World.cell?, hc]
  exact ⟨fun off s h2 => (by rw [h1] at h2; cases h2), fun n h2 => (by rw [h1] at h2; cases h2)⟩
theorem SliceArg.far {α : Type} {size i : Nat} {enc : α → List Value} {w w' : World} {v : Value} {L : List α} {S : List Nat} (h : SliceArg size enc w v L) (k : Keeps S w w') (hi : i < size) (he : ∀ a, ∃ s, (enc a)[i]? = some (.string s)) (hS : ∀ x ∈ S, w.heap.size ≤ x ∨ ∀ off s, w.cell? ⟨x, off, none⟩ ≠ some (.string s)) : SliceArg size enc w' v L := by
 obtain ⟨ao, cap, rfl, hl, hc⟩ := h
 refine ⟨ao, cap, rfl, hl, fun j hj => ?_⟩
 obtain ⟨b, off, e, hb, h1⟩ := hc j hj
 refine ⟨b, off, e, Nat.lt_of_lt_of_le hb k.size, fun t ht => ?_⟩
 refine (k.cell hb fun hm => ?_).trans (h1 t ht)
 rcases hS b hm with h2 | h2
 ·omega
 ·obtain ⟨s, hs⟩ := he L[j]
  exact h2 _ s ((h1 i hi).trans hs)
theorem MatsAt.far {w w' : World} {v : Value} {L : List MatB} {S : List Nat} (h : MatsAt w v L) (k : Keeps S w w') (hS : ∀ x ∈ S, w.heap.size ≤ x ∨ ∀ off s, w.cell? ⟨x, off, none⟩ ≠ some (.string s)) : MatsAt w' v L := by
 obtain ⟨E, h1, h2, h3⟩ := h
 exact ⟨E, SliceArg.far (i := 1) h1 k (by decide) (fun a => ⟨_, rfl⟩) hS, h2, fun i hi hi' => ⟨(h3 i hi hi').1, (h3 i hi hi').2.1, SliceArg.far (i := 0) (h3 i hi hi').2.2 k (by decide) (fun a => ⟨_, rfl⟩) hS⟩⟩
theorem far_cell {w : World} {b f c mb : Nat} {armed : Bool} {Q : List (Int × Bool)} {o : List (ByteArray × Ob)} (h : BucketAt w b f c mb armed Q o) {S : List Nat} (hS : Far w f c mb S) : ∀ x ∈ S, w.heap.size ≤ x ∨ ∀ off s, w.cell? ⟨x, off, none⟩ ≠ some (.string s) := fun x hx => by
 rcases hS x hx with h1 | h1 | h1 | h1
 ·exact .inr (fuse_cell h (.inl h1)).1
 ·exact .inr (fuse_cell h (.inr (.inl h1))).1
 ·exact .inr (fuse_cell h (.inr (.inr h1))).1
 ·exact .inl h1
theorem XorVar.far {w w' : World} {b f c mb : Nat} {armed : Bool} {Q : List (Int × Bool)} {o : List (ByteArray × Ob)} (h : XorVar w) (hb : BucketAt w b f c mb armed Q o) {S : List Nat} (hS : Far w f c mb S) (k : Keeps S w w') : XorVar w' := h.keep k fun hm => by
 rcases hS _ hm with h1 | h1 | h1 | h1
 ·exact (fuse_cell hb (.inl rfl)).2 _ (h1 ▸ h 0 (by decide))
 ·exact (fuse_cell hb (.inr (.inl rfl))).2 _ (h1 ▸ h 0 (by decide))
 ·exact (fuse_cell hb (.inr (.inr rfl))).2 _ (h1 ▸ h 0 (by decide))
 ·have := h.lt; omega
theorem bucket_row3 {w : World} {b f c mb X s n : Nat} {armed : Bool} {Q : List (Int × Bool)} {o : List (ByteArray × Ob)} {T : TypeId} {v : Value} {xs : List Value} (h : BucketAt w b f c mb armed Q o) (hr : w.ownsRow X T s v n xs) (hT : 198 ≠ T) : ∀ g, v.ownBlock = some g → g ∉ [f, c, mb] := fun g hg hm => by
 have h0 := bucket_row h hr hT g hg
 have hm2 : g = mb := by
  simp only [List.mem_cons, List.not_mem_nil, or_false, not_or] at hm h0
  omega
 subst hm2
 obtain ⟨Em, cm, h1, -⟩ := h.map
 obtain ⟨-, ob, ho, hcell⟩ := own_block_cells hr g hg
 rw [h1] at ho
 cases ho
 cases hcell
theorem file_far {w w' : World} {b f c mb X s n : Nat} {armed : Bool} {Q : List (Int × Bool)} {o : List (ByteArray × Ob)} {v : Value} {xs : List Value} (hr : w.ownsRow X 157 s v n xs) (hb : BucketAt w b f c mb armed Q o) {S : List Nat} (hS : Far w f c mb S) (k : Keeps S w w') : w'.ownsRow X 157 s v n xs := k.row hr fun g hg hm => by
 have h0 := bucket_row3 hb hr (by decide) g hg
 rcases hS g hm with h1 | h1 | h1 | h1
 ·exact h0 (by simp [h1])
 ·exact h0 (by simp [h1])
 ·exact h0 (by simp [h1])
 ·have := (World.ownsRow.lt hr g hg).2; omega
structure FetG (w0 : World) (p Y : Nat) (M : MetaS) (A : TabT) (vf vm : Value) (L : List MatB) (b f c mb : Nat) : Prop where
 file : ∃ X n1 s1 c1, w0.ownsRow X 157 3 vf 2 [.string n1, .int .i64 ((s1 : Nat) : Int), .int .u32 ((c1 : Nat) : Int), .string indexB, .int .i64 ((idxT A).size : Nat), .int .u32 (moreN 0 (idxT A).data.toList : Nat)]
 mats : MatsAt w0 vm L
 may : ∀ m ∈ L, mayK m
 xor : XorVar w0
 bk : ∃ armed Q o, BucketAt w0 b f c mb armed Q o
 ok : ∃ fr0 up0, BlkOk A fr0 up0
 isz : (idxT A).size ≤ 14000
 id : M.id.size ≤ 1000
 lt : w0.heap.size ≤ p ∧ p < Y ∧ b < w0.heap.size ∧ f < w0.heap.size ∧ c < w0.heap.size ∧ mb < w0.heap.size
structure ObjG (id : ByteArray) (A : TabT) (o : List (ByteArray × Ob)) : Prop where
 ix : ∀ x, look o (objectB id indexB) = some x → x.1 = idxT A
 ch : ∀ x, look o (objectB id chunksB) = some x → x.1 = chunksT A
structure FetSt (w0 : World) (p Y : Nat) (M : MetaS) (A : TabT) (vf vo vm : Value) (L : List MatB) (fr up : Int) (b f c mb : Nat) (armed : Bool) (Q : List (Int × Bool)) (o : List (ByteArray × Ob)) (W : World) (j : Nat) : Prop where
 st : (j = 0 ∧ FetAt W p M vf vo fr up vm false (.slice none 0 0) (.slice none 0 0)) ∨ ∃ k, j = k + 1 ∧ FetOn W p Y M vf vo fr up vm (wantP fr up L A) k
 bk : BucketAt W b f c mb armed Q o
 kp : ∃ S, Far w0 f c mb S ∧ Keeps S w0 W
 hz : Y ≤ W.heap.size
def partO (j : Nat) : ByteArray := if j = 0 then indexB else chunksB
def codeR (Q : List (Int × Bool)) (o : List (ByteArray × Ob)) (name : ByteArray) : Int := if tryWorks Q then (match look o name with | none => 5 | some _ => 0) else 8
def StpOut (w0 : World) (p Y : Nat) (M : MetaS) (A : TabT) (vf vo vm : Value) (L : List MatB) (fr up : Int) (b f c mb : Nat) (Q : List (Int × Bool)) (o : List (ByteArray × Ob)) (j : Nat) (r : Int) (e : Ending) (W' : World) : Prop :=
 (r = 8 ∧ e = .returned (.int .i64 8) ∧ FetSt w0 p Y M A vf vo vm L fr up b f c mb (tryArmed Q) (tryQ Q) o W' j) ∨ (r = 5 ∧ e = .returned (.int .i64 14) ∧ FetSt w0 p Y M A vf vo vm L fr up b f c mb (tryArmed Q) (tryQ Q) o W' j) ∨
  (r = 0 ∧ e = .returned (.int .i64 0) ∧ FetSt w0 p Y M A vf vo vm L fr up b f c mb (tryArmed Q) (tryQ Q) o W' (j + 1))
theorem extract_all (s : ByteArray) : s.extract 0 s.size = s := by
 apply ByteArray.ext
 rw [ByteArray.data_extract]
 show s.data.extract 0 s.data.size = s.data
 simp
theorem codeR_ix {id : ByteArray} {A : TabT} {o : List (ByteArray × Ob)} (h : ObjG id A o) (Q : List (Int × Bool)) : ∃ r, rangeVal Q o (objectB id indexB) 0 (idxT A).size = r ∧ r.2 = codeR Q o (objectB id indexB) ∧ (r.2 = 8 ∨ r.2 = 5 ∨ r = (idxT A, 0)) := by
 refine ⟨_, rfl, ?_⟩
 unfold rangeVal codeR
 split
 ·unfold rangeOb
  split
  ·rename_i hx
   rw [hx]
   exact ⟨rfl, .inr (.inl rfl)⟩
  ·rename_i x hx
   rw [hx]
   have h1 := h.ix _ hx
   have h2 : cutVal x 0 (idxT A).size = (idxT A, 0) := by
    unfold cutVal
    rw [h1, if_neg (by omega)]
    rw [show ((0 : Int) + min ((idxT A).size : Int) (((idxT A).size : Int) - 0)).toNat = (idxT A).size by omega, show (0 : Int).toNat = 0 from rfl, extract_all]
   rw [h2]
   exact ⟨rfl, .inr (.inr rfl)⟩
 ·exact ⟨rfl, .inl rfl⟩
theorem codeR_ch {id : ByteArray} {A : TabT} {o : List (ByteArray × Ob)} (h : ObjG id A o) (Q : List (Int × Bool)) (a n : Nat) (s : ByteArray) (hc : cutVal (chunksT A, 0) a n = (s, 0)) : ∃ r, rangeVal Q o (objectB id chunksB) a n = r ∧ r.2 = codeR Q o (objectB id chunksB) ∧ (r.2 = 8 ∨ r.2 = 5 ∨ r = (s, 0)) := by
 refine ⟨_, rfl, ?_⟩
 unfold rangeVal codeR
 split
 ·unfold rangeOb
  split
  ·rename_i hx
   rw [hx]
   exact ⟨rfl, .inr (.inl rfl)⟩
  ·rename_i x hx
   rw [hx]
   have h1 := h.ch _ hx
   have h2 : cutVal x a n = (s, 0) := by
    rw [← hc, ← cutVal_any (chunksT A) x.2, ← h1]
   rw [h2]
   exact ⟨rfl, .inr (.inr rfl)⟩
 ·exact ⟨rfl, .inl rfl⟩
theorem wantP_len (fr up : Int) (L : List MatB) (A : TabT) : (wantP fr up L A).length ≤ A.length := by
 have h1 : (entsR 0 A).length = A.length := by
  have := congrArg List.length (entsR_snd 0 A)
  simpa using this
 unfold wantP
 rw [← h1]
 exact List.length_filter_le _ _
theorem fetOpen_spec (w : World) (p b : Nat) (M : MetaS) (vf vo : Value) (fr up : Int) (vm : Value) (vl vr : Value) (hp : FetAt w p M vf vo fr up vm false vl vr) {P : Ending → World → Prop}
  (h : Calls Tryz.prog 45 #[.pointer (some ⟨p, 0, none⟩), .pointer (some ⟨b, 0, none⟩)] w fun e w' => (∃ n, e = .returned (.int .i64 n)) ∧ P e w') :
  Calls Tryz.prog 22 #[.pointer (some ⟨p, 0, none⟩), .pointer (some ⟨b, 0, none⟩)] w P := by
 have Hh := Lib.hid h
 have cp := cells_at hp
 have lp := lt_of_at hp
 clear hp h
 go_enter Tryz.func22, Tryz.ntmps22
 go_wp2_with fail
 refine Hh.out.mono ?_
 rintro e w2 ⟨⟨n, rfl⟩, hP⟩
 go_wp2_with fail
 exact hP
theorem fetSt_step (w0 W : World) (p Y : Nat) (M : MetaS) (A : TabT) (vf vo vm : Value) (L : List MatB) (fr up : Int) (b f c mb : Nat) (armed : Bool) (Q : List (Int × Bool)) (o : List (ByteArray × Ob)) (j : Nat)
  (hG : FetG w0 p Y M A vf vm L b f c mb) (hO : ObjG M.id A o) (hS : FetSt w0 p Y M A vf vo vm L fr up b f c mb armed Q o W j) (hj : j ≤ (wantP fr up L A).length) :
  Calls Tryz.prog 22 #[.pointer (some ⟨p, 0, none⟩), .pointer (some ⟨b, 0, none⟩)] W (StpOut w0 p Y M A vf vo vm L fr up b f c mb Q o j (codeR Q o (objectB M.id (partO j)))) := by
 obtain ⟨S, hSf, hSk⟩ := hS.kp
 obtain ⟨ar0, Q0, o0, hb0⟩ := hG.bk
 obtain ⟨fr0, up0, hok⟩ := hG.ok
 obtain ⟨g1, g2, g3, g4, g5, g6⟩ := hG.lt
 have hlen := wantP_len fr up L A
 have hA40 := hok.few.1
 have hW := hSk.size
 have far2 : ∀ {S' : List Nat}, (∀ x ∈ S', x = f ∨ x = c ∨ x = p ∨ Y ≤ x) → ∀ {W'}, Keeps S' W W' → ∃ S, Far w0 f c mb S ∧ Keeps S w0 W' := fun {S'} h1 {W'} k => by
  refine ⟨S ++ S', fun x hx => ?_, (hSk.mono (by simp +contextual)).trans (k.mono (by simp +contextual))⟩
  rcases List.mem_append.1 hx with h2 | h2
  ·exact hSf x h2
  ·rcases h1 x h2 with h3 | h3 | h3 | h3
   ·exact .inl h3
   ·exact .inr (.inl h3)
   ·exact .inr (.inr (.inr (by omega)))
   ·exact .inr (.inr (.inr (by omega)))
 have hXm : ∀ W', Keeps [f, c, p] W W' → XorVar W' ∧ MatsAt W' vm L := fun W' k => by
  obtain ⟨S2, h1, h2⟩ := far2 (S' := [f, c, p]) (by simp +contextual) k
  exact ⟨hG.xor.far hb0 h1 h2, hG.mats.far h2 (far_cell hb0 h1)⟩
 rcases hS.st with ⟨rfl, hp⟩ | ⟨k, rfl, hp⟩
 ·obtain ⟨X, n1, s1, c1, hf⟩ := hG.file
  obtain ⟨r, hr1, hr2, hr3⟩ := codeR_ix hO Q
  refine fetOpen_spec W p b M vf vo fr up vm _ _ hp ?_
  refine (fetList_spec W p X M vf vo fr up vm L (entsF 0 A) (idxT A) n1 s1 c1 b f c mb armed Q o r hp (file_far hf hb0 hSf hSk) (fun W' k => (hXm W' k).2) hG.may hS.bk ⟨by omega, by omega, by omega, by omega⟩ hG.id rfl (fun x hx => by rw [hO.ix x hx]; have := hG.isz; simp only [maxLen]; omega) hok.entT hok.entP (by rw [entsF_len]; omega) hr1 hr3 (by have := hG.isz; omega)).mono ?_
  rintro e W' ⟨hb', hk', hc⟩
  have hkp := far2 (S' := [f, c, p]) (by simp +contextual) hk'
  have hzz := Nat.le_trans hS.hz hk'.size
  rw [show partO 0 = indexB from rfl, ← hr2]
  rcases hc with ⟨h1, rfl, h3⟩ | ⟨h1, rfl, h3⟩ | ⟨h1, rfl, v', E', h3, h4, h5, h6⟩
  ·exact ⟨⟨_, rfl⟩, .inl ⟨h1, rfl, ⟨.inl ⟨rfl, h3⟩, hb', hkp, hzz⟩⟩⟩
  ·exact ⟨⟨_, rfl⟩, .inr (.inl ⟨h1, rfl, ⟨.inl ⟨rfl, h3⟩, hb', hkp, hzz⟩⟩)⟩
  ·have hm : E'.map (·.2) = (wantP fr up L A).map (·.1) := by rw [h5, wantP_fst]
   have hl : E'.length = (wantP fr up L A).length := by
    have := congrArg List.length hm
    simpa using this
   refine ⟨⟨_, rfl⟩, .inr (.inr ⟨h1, rfl, ⟨.inr ⟨0, rfl, ⟨⟨v', E', v', _, h3, ⟨row_base h4.1 hS.hz, h4.2⟩, hm, ?_, ?_⟩, Nat.zero_le _⟩⟩, hb', hkp, hzz⟩⟩)⟩
   ·by_cases h0 : 0 < E'.length
    ·obtain ⟨g, cv, e⟩ := row_some h4.1 h0
     obtain ⟨a2, cv2, e2, hle, -⟩ := row_slice h4.1
     rw [e] at e2
     injection e2 with e3 e4 e5
     refine .inl ⟨g, cv, ?_, by omega, by omega, ?_⟩
     ·rw [e, hl]
     ·rw [e, hl]; simp
    ·obtain ⟨a2, c2, e2, -⟩ := row_slice h4.1
     exact .inr ⟨by omega, a2, c2, by rw [e2, show E'.length = 0 by omega]⟩
   ·exact tab_nil _ _ _ _
 ·have hk : k < (wantP fr up L A).length := by omega
  have hx := hok.wantAt (List.getElem_mem hk)
  obtain ⟨x, hxe⟩ : ∃ x, x = (wantP fr up L A)[k] := ⟨_, rfl⟩
  rw [← hxe] at hx
  obtain ⟨h1, h2, h3, h4, h5, h6, h7, h8, h9, h10, h11, h12, h13, h14⟩ := hx
  obtain ⟨r, hr1, hr2, hr3⟩ := codeR_ch hO Q x.1.2.1 x.1.2.2.1 _ h12
  refine (fetStep_spec W p Y M vf vo fr up vm (wantP fr up L A) k b f c mb armed Q o r hp hk (by omega) (fun W' k => (hXm W' k).1) hS.bk ⟨by omega, by omega, by omega, by omega⟩ ⟨by omega, by omega, by omega, by omega, by omega⟩ hS.hz hG.id
   (fun y hy => by rw [hO.ch y hy]; have := chunksL_len hok.chunks; show (chunksL A).length ≤ _; simp only [maxLen]; omega) x hxe h1 h2 ⟨h3, h4⟩ ⟨h5, h6⟩ ⟨h9, h10, h11⟩ (by rw [h13, h7]) (by rw [h14, h8]) hr1 hr3).mono ?_
  rintro e W' ⟨hb', ⟨S', hS', hk'⟩, hc⟩
  have hkp := far2 hS' hk'
  have hzz := Nat.le_trans hS.hz hk'.size
  rw [show partO (k + 1) = chunksB from rfl, ← hr2]
  rcases hc with ⟨q1, rfl, q3⟩ | ⟨q1, rfl, q3⟩ | ⟨q1, rfl, q3⟩
  ·exact .inl ⟨q1, rfl, ⟨.inr ⟨k, rfl, q3⟩, hb', hkp, hzz⟩⟩
  ·exact .inr (.inl ⟨q1, rfl, ⟨.inr ⟨k, rfl, q3⟩, hb', hkp, hzz⟩⟩)
  ·exact .inr (.inr ⟨q1, rfl, ⟨.inr ⟨k + 1, rfl, q3⟩, hb', hkp, hzz⟩⟩)
theorem fetSt_done (w0 W : World) (p Y : Nat) (M : MetaS) (A : TabT) (vf vo vm : Value) (L : List MatB) (fr up : Int) (b f c mb : Nat) (armed : Bool) (Q : List (Int × Bool)) (o : List (ByteArray × Ob)) (j : Nat) (hS : FetSt w0 p Y M A vf vo vm L fr up b f c mb armed Q o W j) :
  Calls Tryz.prog 23 #[.pointer (some ⟨p, 0, none⟩)] W fun e W' => e = .returned (.bool (decide (j = (wantP fr up L A).length + 1))) ∧ W' = W := by
 rcases hS.st with ⟨rfl, hp⟩ | ⟨k, rfl, hp⟩
 ·have Hd := Lib.hid (show decide (0 = (wantP fr up L A).length + 1) = false by rw [decide_eq_false_iff_not]; omega)
  rw [Hd.out]
  have cp := cells_at hp
  have lp := lt_of_at hp
  clear hp hS
  go_enter Tryz.func23, Tryz.ntmps23
  go_wp2_with fail
  go_ret
  exact ⟨rfl, rfl⟩
 ·refine (fetDone_spec W p Y M vf vo fr up vm (wantP fr up L A) k hp).mono ?_
  rintro e W' ⟨rfl, rfl⟩
  exact ⟨by simp, rfl⟩
theorem fetSt_idle (w0 W : World) (p Y : Nat) (M : MetaS) (A : TabT) (vf vo vm : Value) (L : List MatB) (fr up : Int) (b f c mb : Nat) (armed : Bool) (Q : List (Int × Bool)) (o : List (ByteArray × Ob)) (j : Nat) (hS : FetSt w0 p Y M A vf vo vm L fr up b f c mb armed Q o W j) (hj : j = (wantP fr up L A).length + 1) :
  Calls Tryz.prog 22 #[.pointer (some ⟨p, 0, none⟩), .pointer (some ⟨b, 0, none⟩)] W fun e W' => e = .returned (.int .i64 17) ∧ W' = W := by
 rcases hS.st with ⟨rfl, hp⟩ | ⟨k, hk, hp⟩
 ·omega
 ·obtain rfl : k = (wantP fr up L A).length := by omega
  exact fetIdle_spec W p Y b M vf vo fr up vm (wantP fr up L A) hp
def readT (fr up : Int) (L : List MatB) (A : TabT) (j : Nat) : TabT := (wantT fr up L A).take (j - 1)
theorem readT_sub {fr up : Int} {L : List MatB} {A : TabT} {j : Nat} {r : RowT} (h : r ∈ readT fr up L A j) : r ∈ A := (List.mem_filter.1 (List.mem_of_mem_take h)).1
theorem fetRows_at (w : World) (p : Nat) (M : MetaS) (vf vo : Value) (fr up : Int) (vm : Value) (ls : Bool) (vl vr : Value) (hp : FetAt w p M vf vo fr up vm ls vl vr) (T : TabT) (hT : TabAt 76 91 0 w vr T) (hf : FewT T) (hne : ∀ r ∈ T, r.1 ≠ []) :
  Calls Tryz.prog 24 #[.pointer (some ⟨p, 0, none⟩)] w fun e w' => ∃ v', e = .returned v' ∧ TabAt 76 91 w.heap.size w' v' (betT fr up T) ∧ Keeps [] w w' := by
 obtain ⟨X0, hX0⟩ : ∃ X0, X0 = w.drew := ⟨_, rfl⟩
 have kX : Keeps [] w X0 := by rw [hX0]; exact (Keeps.refl [] _).drew
 have pX := kX.at_ hp (by simp)
 have e1 : X0.cell? ⟨p, 13, none⟩ = some vr := by rw [cells_at pX]; rfl
 have e2 : X0.cell? ⟨p, 8, none⟩ = some (.int .i64 fr) := by rw [cells_at pX]; rfl
 have e3 : X0.cell? ⟨p, 9, none⟩ = some (.int .i64 up) := by rw [cells_at pX]; rfl
 have HX := Lib.hid (And.intro hX0 (And.intro kX (hT.keep kX)))
 have HF := Lib.hid (And.intro hf hne)
 clear hX0 kX pX hf hne hp hT
 go_enter Tryz.func24, Tryz.ntmps24
 go_upto_region 1 with fail
 refine wp_region_held_drew (S := fun w' => w'.cell? ⟨p, 13, none⟩ = some vr ∧ w'.cell? ⟨p, 8, none⟩ = some (.int .i64 fr) ∧ w'.cell? ⟨p, 9, none⟩ = some (.int .i64 up)) (by kernel_rfl) (by rw [← HX.out.1]; exact ⟨e1, e2, e3⟩) (fun hS => ?_)
 rw [← HX.out.1] at hS ⊢
 refine tk (v := ?_) 0 rfl ?_ ?_; rotate_left
 ·rintro _ ⟨s1, s2, s3⟩; go_simp; (try with_reducible rfl)
 simp only [Act.put, zz]
 refine tk (v := ?_) 1 rfl ?_ ?_; rotate_left
 ·rintro _ ⟨s1, s2, s3⟩; go_simp; (try with_reducible rfl)
 simp only [Act.put, zz]
 refine tk (v := ?_) 2 rfl ?_ ?_; rotate_left
 ·rintro _ ⟨s1, s2, s3⟩; go_simp; (try with_reducible rfl)
 simp only [Act.put, zz]
 refine tk (v := ?_) 3 rfl ?_ ?_; rotate_left
 ·rintro _ ⟨s1, s2, s3⟩; go_simp; (try with_reducible rfl)
 simp only [Act.put, zz]
 refine tk (v := ?_) 4 rfl ?_ ?_; rotate_left
 ·rintro _ ⟨s1, s2, s3⟩; go_simp; (try with_reducible rfl)
 simp only [Act.put, zz]
 refine tk (v := ?_) 5 rfl ?_ ?_; rotate_left
 ·rintro _ ⟨s1, s2, s3⟩; go_simp; (try with_reducible rfl)
 simp only [Act.put, zz]
 refine tk (v := ?_) 6 rfl ?_ ?_; rotate_left
 ·rintro _ ⟨s1, s2, s3⟩; go_simp; (try with_reducible rfl)
 simp only [Act.put, zz]
 refine tk (v := ?_) 7 rfl ?_ ?_; rotate_left
 ·rintro _ ⟨s1, s2, s3⟩; go_simp; (try with_reducible rfl)
 simp only [Act.put, zz]
 refine tk (v := ?_) 8 rfl ?_ ?_; rotate_left
 ·rintro _ ⟨s1, s2, s3⟩; go_simp; (try with_reducible rfl)
 simp only [Act.put, zz]
 refine tk (v := ?_) 9 rfl ?_ ?_; rotate_left
 ·rintro _ ⟨s1, s2, s3⟩; go_simp; (try with_reducible rfl)
 simp only [Act.put, zz]
 refine tk (v := ?_) 10 rfl ?_ ?_; rotate_left
 ·rintro _ ⟨s1, s2, s3⟩; go_simp; (try with_reducible rfl)
 simp only [Act.put, zz]
 refine tk (v := ?_) 11 rfl ?_ ?_; rotate_left
 ·rintro _ ⟨s1, s2, s3⟩; go_simp; (try with_reducible rfl)
 simp only [Act.put, zz]
 refine rd 12 rfl fun K hK => ?_
 go_simp
 go_at_call 49
 refine (between14_spec X0 vr T fr up HX.out.2.2 HF.out.1 HF.out.2).mono ?_
 rintro e w3 ⟨v', rfl, h3, h4⟩
 have HB := Lib.hid (And.intro h3 h4)
 have t1 : w3.cell? ⟨p, 13, none⟩ = some vr := (h4.cell (World.block_lt_of_cell? _ _ e1) (by simp)).trans e1
 have t2 : w3.cell? ⟨p, 8, none⟩ = some (.int .i64 fr) := (h4.cell (World.block_lt_of_cell? _ _ e2) (by simp)).trans e2
 have t3 : w3.cell? ⟨p, 9, none⟩ = some (.int .i64 up) := (h4.cell (World.block_lt_of_cell? _ _ e3) (by simp)).trans e3
 clear h3 h4
 go_simp
 refine hK.out _ _ ⟨t1, t2, t3⟩ (fun hS => ?_)
 clear hK K
 try simp only [Act.put, zz]
 refine tk (v := ?_) 13 rfl ?_ ?_; rotate_left
 ·rintro _ ⟨s1, s2, s3⟩; go_simp; (try with_reducible rfl)
 simp only [Act.put, zz]
 refine wpAnyH_done (by kernel_rfl) ?_ _
 go_wp2_with fail
 go_ret
 exact ⟨_, rfl, by have := HB.out.1; exact this.base HX.out.2.1.size, HX.out.2.1.trans HB.out.2⟩
theorem BlkOk.ne {A : TabT} {fr up : Nat} (h : BlkOk A fr up) : ∀ r ∈ A, r.1 ≠ [] := fun r hr e => by
 obtain ⟨⟨n, hn⟩, -⟩ := h.vals r hr
 have h1 := (labN_small n).2.2.2
 rw [← hn, e] at h1
 simp at h1
theorem fetSt_rows (w0 W : World) (p Y : Nat) (M : MetaS) (A : TabT) (vf vo vm : Value) (L : List MatB) (fr up : Int) (b f c mb : Nat) (armed : Bool) (Q : List (Int × Bool)) (o : List (ByteArray × Ob)) (j : Nat) (hS : FetSt w0 p Y M A vf vo vm L fr up b f c mb armed Q o W j) (hok : ∃ fr0 up0, BlkOk A fr0 up0) :
  Calls Tryz.prog 24 #[.pointer (some ⟨p, 0, none⟩)] W fun e W' => ∃ v', e = .returned v' ∧ TabAt 76 91 W.heap.size W' v' (betT fr up (readT fr up L A j)) ∧ Keeps [] W W' := by
 obtain ⟨fr0, up0, hok⟩ := hok
 have hf : FewT (readT fr up L A j) := by
  refine ⟨?_, fun r hr => hok.fewT.2 r (readT_sub hr)⟩
  have h1 : (readT fr up L A j).length ≤ A.length := by
   unfold readT
   rw [List.length_take]
   have : (wantT fr up L A).length ≤ A.length := List.length_filter_le _ _
   omega
  have := hok.fewT.1
  omega
 have hne : ∀ r ∈ readT fr up L A j, r.1 ≠ [] := fun r hr => hok.ne r (readT_sub hr)
 rcases hS.st with ⟨rfl, hp⟩ | ⟨k, rfl, hp⟩
 ·exact fetRows_at W p M vf vo fr up vm _ _ _ hp _ (by unfold readT; simpa using tab_nil _ _ _ _) hf hne
 ·obtain ⟨v0, E, vl, vr, h1, -, -, -, h5⟩ := hp.ex
  refine fetRows_at W p M vf vo fr up vm _ _ _ h1 _ ?_ hf hne
  have e : readT fr up L A (k + 1) = ((wantP fr up L A).take k).map (·.2) := by
   unfold readT
   rw [← wantP_snd, List.map_take]
   rfl
  rw [e]
  exact h5.base (Nat.zero_le _)
theorem fetNew_at (w : World) (M : MetaS) (vf vo : Value) (fr up : Int) (vm : Value) (hm : ∃ a n c, vm = .slice a n c) :
  Calls Tryz.prog 21 #[.agg #[.string M.id, .int .i64 (M.mn : Nat), .int .i64 (M.mx : Nat), .int .i64 (M.level : Nat), .int .i64 (M.series : Nat), .int .i64 (M.samples : Nat), vf, vo], .int .i64 fr, .int .i64 up, vm] w fun e w' => ∃ p, e = .returned (.pointer (some ⟨p, 0, none⟩)) ∧ FetAt w' p M vf vo fr up vm false (.slice none 0 0) (.slice none 0 0) ∧ Keeps [] w w' ∧ w.heap.size ≤ p ∧ p < w'.heap.size := by
 obtain ⟨am, nm, cm, rfl⟩ := hm
 go_enter Tryz.func21, Tryz.ntmps21
 go_wp2_with fail
 go_ret
 refine ⟨_, rfl, ?_, ?_, ?_, ?_⟩
 ·exact (new2 w _ _).2
 ·exact ((Keeps.refl [] w).alloc _).alloc _
 ·simp [World.size_alloc]
 ·simp [World.size_alloc]
theorem FetOn.bm {w w' : World} {p Y b f c mb : Nat} {armed : Bool} {Q : List (Int × Bool)} {o : List (ByteArray × Ob)} {M : MetaS} {vf vo : Value} {fr up : Int} {vm : Value} {PR : List (EntP × RowT)} {k : Nat} (h : FetOn w p Y M vf vo fr up vm PR k) (hb : BucketAt w b f c mb armed Q o) (K : Keeps [f, c, mb] w w') (hp : p ∉ [f, c, mb]) : FetOn w' p Y M vf vo fr up vm PR k := by
 obtain ⟨v0, E, vl, vr, h1, h2, h3, h4, h5⟩ := h.ex
 obtain ⟨E5, g1, g2, g3⟩ := h5
 exact ⟨⟨v0, E, vl, vr, K.at_ h1 hp, ⟨K.row h2.1 (bucket_row3 hb h2.1 (by decide)), fun e he => K.row (h2.2 e he) (bucket_row3 hb (h2.2 e he) (by decide))⟩, h3, h4,
  ⟨E5, K.row g1 (bucket_row3 hb g1 (by decide)), g2, fun i hi hi' => ⟨K.row (g3 i hi hi').1 (bucket_row3 hb (g3 i hi hi').1 (by decide)), K.row (g3 i hi hi').2 (bucket_row3 hb (g3 i hi hi').2 (by decide))⟩⟩⟩, h.le⟩
theorem FetSt.turn {w0 : World} {p Y : Nat} {M : MetaS} {A : TabT} {vf vo vm : Value} {L : List MatB} {fr up : Int} {b f c mb : Nat} {armed armed' : Bool} {Q Q' : List (Int × Bool)} {o o' : List (ByteArray × Ob)} {W W' : World} {j : Nat} (h : FetSt w0 p Y M A vf vo vm L fr up b f c mb armed Q o W j) (hG : FetG w0 p Y M A vf vm L b f c mb) (hb : BucketAt W' b f c mb armed' Q' o') (K : Keeps [f, c, mb] W W') : FetSt w0 p Y M A vf vo vm L fr up b f c mb armed' Q' o' W' j := by
 obtain ⟨g1, g2, g3, g4, g5, g6⟩ := hG.lt
 have hp : p ∉ [f, c, mb] := by simp; omega
 obtain ⟨S, h1, h2⟩ := h.kp
 refine ⟨?_, hb, ⟨S ++ [f, c, mb], fun x hx => ?_, (h2.mono (by simp +contextual)).trans (K.mono (by simp +contextual))⟩, Nat.le_trans h.hz K.size⟩
 ·rcases h.st with ⟨h3, h4⟩ | ⟨k, h3, h4⟩
  ·exact .inl ⟨h3, K.at_ h4 hp⟩
  ·exact .inr ⟨k, h3, h4.bm h.bk K hp⟩
 ·rcases List.mem_append.1 hx with h3 | h3
  ·exact h1 x h3
  ·simp only [List.mem_cons, List.not_mem_nil, or_false] at h3
   rcases h3 with h3 | h3 | h3
   ·exact .inl h3
   ·exact .inr (.inl h3)
   ·exact .inr (.inr (.inl h3))
def idS : ByteArray := ⟨(identL 4 4).toArray⟩
def storedM (A : TabT) : MetaS := builtM idS 0 1000 1 A
def encMS (A : TabT) : ByteArray := ⟨(frameL 1 (metaL (storedM A))).toArray⟩
def storedO (A : TabT) : List (ByteArray × Ob) := put (put (put [] (objectB idS chunksB) (chunksT A, 1)) (objectB idS indexB) (idxT A, 1)) (objectB idS metaB) (encMS A, 1)
def metaCs (M : MetaS) (vf vo : Value) : Array Value := #[.string M.id, .int .i64 (M.mn : Nat), .int .i64 (M.mx : Nat), .int .i64 (M.level : Nat), .int .i64 (M.series : Nat), .int .i64 (M.samples : Nat), vf, vo]
def zeroM : Array Value := #[.string ⟨#[]⟩, .int .i64 0, .int .i64 0, .int .i64 0, .int .i64 0, .int .i64 0, .slice none 0 0, .slice none 0 0]
def StoredPost (w : World) (A : TabT) (e : Ending) (w' : World) : Prop :=
 ∃ b f c mb vf vo, e = .returned (.tuple #[.pointer (some ⟨b, 0, none⟩), .agg (metaCs (storedM A) vf vo), .bool true]) ∧ BucketAt w' b f c mb false [] (storedO A) ∧ (w.heap.size ≤ b ∧ w.heap.size ≤ f ∧ w.heap.size ≤ c ∧ w.heap.size ≤ mb) ∧
  w'.ownsRow w.heap.size 157 3 vf 2 [.string chunksB, .int .i64 ((chunksT A).size : Nat), .int .u32 (moreN 0 (chunksT A).data.toList : Nat), .string indexB, .int .i64 ((idxT A).size : Nat), .int .u32 (moreN 0 (idxT A).data.toList : Nat)] ∧ (idxT A).size ≤ 14000 ∧ (∃ a n c, vo = .slice a n c) ∧ Keeps [] w w'
theorem obj_size {ix part nm : ByteArray} (h : ix.size = 16) (e : nm = objectB ix part) : nm.size = 17 + part.size := by
 rw [e]
 unfold objectB
 rw [ByteArray.size_append, ByteArray.size_append, h]
 rfl
theorem Keeps.trans0 {S : List Nat} {a b c : World} (h : Keeps [] a b) (k : Keeps S b c) : Keeps S a c := (h.mono (by simp)).trans k
theorem enc_meta {w w' : World} {X : Nat} {vf vo : Value} {M : MetaS} {F : List FileS} (h1 : w.ownsRow X 157 3 vf F.length (F.flatMap encFile)) (h2 : w.ownsRow X 9 1 vo M.sources.length (M.sources.flatMap encS1m)) (hF : M.files = F) (k : Keeps [] w w') : MetaV 0 w' [.string M.id, .int .i64 (M.mn : Nat), .int .i64 (M.mx : Nat), .int .i64 (M.level : Nat), .int .i64 (M.series : Nat), .int .i64 (M.samples : Nat), vf, vo] M := by
 subst hF
 exact (MetaR.metaV ⟨vf, vo, rfl, k.row h1 (by simp), k.row h2 (by simp)⟩).low (Nat.zero_le _)
theorem identL_size : idS.size = 16 := by kernel_rfl
theorem stored_spec (w : World) (hX : XorVar w) (B : Nat) (v : Value) (A : TabT) (h : TabAt 76 91 B w v A) (hok : BlkOk A 0 1000) :
  Calls Tryz.prog 19 #[v] w (StoredPost w A) := by
 obtain ⟨a0, c0, rfl⟩ := h.form
 obtain ⟨q, hq⟩ : ∃ q, q = w.heap.size := ⟨_, rfl⟩
 obtain ⟨W1, hW1⟩ : ∃ W1, W1 = w.alloc (.cells zeroM 61) := ⟨_, rfl⟩
 have k1 : Keeps [] w W1 := by rw [hW1]; exact (Keeps.refl [] w).alloc _
 have n1 : W1.heap[q]? = some (.cells zeroM 61 (0, 0)) := by rw [hW1, hq]; exact heap_new w _
 have H := Lib.hid (And.intro hX (And.intro h hok))
 have H1 := Lib.hid (And.intro n1 (And.intro k1 hq))
 obtain ⟨ix, hix⟩ : ∃ ix, ix = idS := ⟨_, rfl⟩
 have Hm := Lib.hid (make_spec W1 4 4 (by decide) (by decide))
 rw [show (⟨(identL 4 4).toArray⟩ : ByteArray) = ix from hix.symm] at Hm
 have Hix := Lib.hid (And.intro hix (And.intro (show isIDB ix.data.toList = true by rw [hix]; exact isID_ident (by decide) (by decide)) (show ix.size = 16 by rw [hix]; exact identL_size)))
 unfold zeroM at hW1
 clear hX h hok n1 k1 hix
 go_enter Tryz.func19, Tryz.ntmps19
 go_wp2_with fail
 rw [← hq, ← hW1]
 clear hq hW1
 refine Hm.out.mono ?_
 rintro e W2 ⟨rfl, k2⟩
 have H2 := Lib.hid (H1.out.2.1.trans k2)
 have Q2 := Lib.hid k2
 clear k2
 go_wp2_with fail
 refine (build_spec W2 (H.out.1.same H2.out) _ _ A (H.out.2.1.keep H2.out) 0 1000 1 H.out.2.2 (by decide) ix Hix.out.2.1).mono ?_
 rintro e W4 ⟨fv, rfl, hfa, k4⟩
 obtain ⟨vs, rfl, ⟨vf, vo, rfl, r1, r2⟩, hMO, hfl, hcz, hiz⟩ := hfa
 obtain ⟨af, cf, rfl, -, -, -⟩ := row_slice r1
 obtain ⟨ao, co, rfl, -, -, -⟩ := row_slice r2
 generalize hM : builtM ix 0 1000 1 A = M at r1 r2 hMO hfl ⊢
 generalize hcb : chunksT A = cb at hfl hcz ⊢
 generalize hib : idxT A = ib at hfl hiz ⊢
 have Hid := Lib.hid (show M.id = ix by rw [← hM]; rfl)
 rw [hfl] at r1
 have HF := Lib.hid (And.intro r1 (And.intro r2 (And.intro (And.intro hMO hfl) (And.intro hiz (And.intro (show storedM A = M by rw [← hM, Hix.out.1]; rfl) (And.intro hcb (And.intro hib (H2.out.trans k4))))))))
 have hf2 : M.files.length = 2 := by rw [hfl]; rfl
 rw [hf2]
 clear r1 r2 hMO hfl hcz hiz hM hcb hib hf2
 have k5 : Keeps [] W4 (W4.alloc (.cells #[.string M.id, .int .i64 M.mn, .int .i64 M.mx, .int .i64 M.level, .int .i64 M.series, .int .i64 M.samples, .slice af 2 cf, .slice ao M.sources.length co, .string cb, .string ib] 102)) := (Keeps.refl [] W4).alloc _
 have n5 := heap_new W4 (.cells #[.string M.id, .int .i64 M.mn, .int .i64 M.mx, .int .i64 M.level, .int .i64 M.series, .int .i64 M.samples, .slice af 2 cf, .slice ao M.sources.length co, .string cb, .string ib] 102)
 go_upto_region 3 with fail
 generalize W4.alloc (.cells #[.string M.id, .int .i64 M.mn, .int .i64 M.mx, .int .i64 M.level, .int .i64 M.series, .int .i64 M.samples, .slice af 2 cf, .slice ao M.sources.length co, .string cb, .string ib] 102) = W5 at k5 n5 ⊢
 obtain ⟨p, hp⟩ : ∃ p, p = W4.heap.size := ⟨_, rfl⟩
 rw [← hp] at n5 ⊢
 have k05 := HF.out.2.2.2.2.2.2.2.trans k5
 have H5 := Lib.hid (And.intro n5 (And.intro k05 (And.intro hp (And.intro k5 (And.intro k4 (lt_of_at n5))))))
 clear n5 k5 hp k4 k05
 go_wp2_with fail
 refine (newBucket_spec W5).mono ?_
 rintro e W6 ⟨b, f, c, mb, rfl, hb6, k6, z1, z2, z3, z4⟩
 have n6 := k6.at_ H5.out.1 (by simp)
 have H6 := Lib.hid (And.intro n6 (And.intro hb6 (And.intro k6 (And.intro (H5.out.2.2.2.1.trans k6) (And.intro z1 (And.intro z2 (And.intro z3 z4)))))))
 have cp := cells_at n6
 have lp := lt_of_at n6
 have cb6 := cells_at hb6.cells
 have lb6 := lt_of_at hb6.cells
 clear n6 hb6 k6
 go_upto_region 6 with fail
 obtain ⟨X7, hX7⟩ : ∃ X, X = W6.drew := ⟨_, rfl⟩
 have kX7 : Keeps [] W6 X7 := by rw [hX7]; exact (Keeps.refl [] _).drew
 have pX7 := kX7.at_ H6.out.1 (by simp)
 have e7 : X7.cell? ⟨p, 8, none⟩ = some (.string cb) := by rw [cells_at pX7]; rfl
 have HX7 := Lib.hid (And.intro hX7 (And.intro kX7 (And.intro pX7 (H6.out.2.1.keep kX7 (by simp) (by simp) (by simp) (by simp)))))
 clear hX7 kX7 pX7 cp lp
 refine wp_region_held_drew (S := fun w' => w'.cell? ⟨p, 8, none⟩ = some (.string cb)) (by kernel_rfl) (by rw [← HX7.out.1]; exact e7) (fun hS => ?_)
 rw [← HX7.out.1] at hS ⊢
 refine tk (v := ?_) 0 rfl ?_ ?_; rotate_left
 ·intro w' s1; go_simp; (try with_reducible rfl)
 simp only [Act.put, zz]
 refine tk (v := ?_) 1 rfl ?_ ?_; rotate_left
 ·intro w' s1; go_simp; (try with_reducible rfl)
 simp only [Act.put, zz]
 refine tk (v := ?_) 3 rfl ?_ ?_; rotate_left
 ·intro w' s1; go_simp; (try with_reducible rfl)
 simp only [Act.put, zz]
 refine tk (v := ?_) 4 rfl ?_ ?_; rotate_left
 ·intro w' s1; go_simp; (try with_reducible rfl)
 simp only [Act.put, zz]
 refine rd 2 rfl fun K hK => ?_
 go_simp
 go_at_call 41
 refine (object_spec X7 ix chunksB (by have := Hix.out.2.2; omega) (by decide)).mono ?_
 rintro e w3 ⟨rfl, rfl⟩
 go_simp
 refine hK.out _ _ e7 (fun hS => ?_)
 clear hK K
 try simp only [Act.put, zz]
 generalize hnm7 : objectB ix chunksB = nm7
 have Hnm7 := Lib.hid (And.intro hnm7 (obj_size Hix.out.2.2 hnm7.symm))
 clear hnm7
 refine rd 5 rfl fun K hK => ?_
 go_simp
 go_at_call 40
 refine (put_spec X7 b f c mb false [] [] HX7.out.2.2.2 nm7 cb 1 (by have := Hnm7.out.2; omega) (by have := Hnm7.out.2; have h6 : (chunksB).size ≤ 6 := (by decide); omega)).mono ?_
 rintro e W7 ⟨rfl, hb7, kp7⟩
 have np7 := kp7.at_ HX7.out.2.2.1 (by have := H5.out.2.2.2.2.2; simp; omega)
 have HP7 := Lib.hid (And.intro np7 (And.intro hb7 (H6.out.2.2.2.1.after (HX7.out.2.1.trans0 kp7) (fun x hx => .inr (by have := H5.out.2.2.1; have := H5.out.2.2.2.2.2; have := z1; have := z2; have := z3; have := z4; simp at hx; omega)))))
 have t7 : W7.cell? ⟨p, 8, none⟩ = some (.string cb) := by rw [cells_at np7]; rfl
 have cp := cells_at np7
 have lp := lt_of_at np7
 clear hb7 kp7 np7
 go_simp
 refine hK.out _ _ t7 (fun hS => ?_)
 clear hK K
 try simp only [Act.put, zz]
 refine wpAnyH_done (by kernel_rfl) ?_ _
 clear hS e7 t7
 go_upto_region 7 with fail
 obtain ⟨X8, hX8⟩ : ∃ X, X = W7.drew := ⟨_, rfl⟩
 have kX8 : Keeps [] W7 X8 := by rw [hX8]; exact (Keeps.refl [] _).drew
 have pX8 := kX8.at_ HP7.out.1 (by simp)
 have e8 : X8.cell? ⟨p, 9, none⟩ = some (.string ib) := by rw [cells_at pX8]; rfl
 have HX8 := Lib.hid (And.intro hX8 (And.intro kX8 (And.intro pX8 (HP7.out.2.1.keep kX8 (by simp) (by simp) (by simp) (by simp)))))
 clear hX8 kX8 pX8 cp lp
 refine wp_region_held_drew (S := fun w' => w'.cell? ⟨p, 9, none⟩ = some (.string ib)) (by kernel_rfl) (by rw [← HX8.out.1]; exact e8) (fun hS => ?_)
 rw [← HX8.out.1] at hS ⊢
 refine tk (v := ?_) 0 rfl ?_ ?_; rotate_left
 ·intro w' s1; go_simp; (try with_reducible rfl)
 simp only [Act.put, zz]
 refine tk (v := ?_) 1 rfl ?_ ?_; rotate_left
 ·intro w' s1; go_simp; (try with_reducible rfl)
 simp only [Act.put, zz]
 refine tk (v := ?_) 3 rfl ?_ ?_; rotate_left
 ·intro w' s1; go_simp; (try with_reducible rfl)
 simp only [Act.put, zz]
 refine tk (v := ?_) 4 rfl ?_ ?_; rotate_left
 ·intro w' s1; go_simp; (try with_reducible rfl)
 simp only [Act.put, zz]
 refine rd 2 rfl fun K hK => ?_
 go_simp
 go_at_call 41
 refine (object_spec X8 ix indexB (by have := Hix.out.2.2; omega) (by decide)).mono ?_
 rintro e w3 ⟨rfl, rfl⟩
 go_simp
 refine hK.out _ _ e8 (fun hS => ?_)
 clear hK K
 try simp only [Act.put, zz]
 generalize hnm8 : objectB ix indexB = nm8
 have Hnm8 := Lib.hid (And.intro hnm8 (obj_size Hix.out.2.2 hnm8.symm))
 clear hnm8
 refine rd 5 rfl fun K hK => ?_
 go_simp
 go_at_call 40
 refine (put_spec X8 b f c mb false [] _ HX8.out.2.2.2 nm8 ib 1 (by have := Hnm8.out.2; omega) (by have := Hnm8.out.2; have h6 : (indexB).size ≤ 6 := (by decide); omega)).mono ?_
 rintro e W8 ⟨rfl, hb8, kp8⟩
 have np8 := kp8.at_ HX8.out.2.2.1 (by have := H5.out.2.2.2.2.2; simp; omega)
 have HP8 := Lib.hid (And.intro np8 (And.intro hb8 (HP7.out.2.2.after (HX8.out.2.1.trans0 kp8) (fun x hx => .inr (by have := H5.out.2.2.1; have := H5.out.2.2.2.2.2; have := z1; have := z2; have := z3; have := z4; simp at hx; omega)))))
 have t8 : W8.cell? ⟨p, 9, none⟩ = some (.string ib) := by rw [cells_at np8]; rfl
 have cp := cells_at np8
 have lp := lt_of_at np8
 clear hb8 kp8 np8
 go_simp
 refine hK.out _ _ t8 (fun hS => ?_)
 clear hK K
 try simp only [Act.put, zz]
 refine wpAnyH_done (by kernel_rfl) ?_ _
 clear hS e8 t8
 go_upto_region 8 with fail
 obtain ⟨X9, hX9⟩ : ∃ X, X = W8.drew := ⟨_, rfl⟩
 have kX9 : Keeps [] W8 X9 := by rw [hX9]; exact (Keeps.refl [] _).drew
 have pX9 := kX9.at_ HP8.out.1 (by simp)
 have e0 : X9.cell? ⟨p, 0, none⟩ = some (.string M.id) := by rw [cells_at pX9]; rfl
 have e1 : X9.cell? ⟨p, 1, none⟩ = some (.int .i64 (M.mn : Nat)) := by rw [cells_at pX9]; rfl
 have e2 : X9.cell? ⟨p, 2, none⟩ = some (.int .i64 (M.mx : Nat)) := by rw [cells_at pX9]; rfl
 have e3 : X9.cell? ⟨p, 3, none⟩ = some (.int .i64 (M.level : Nat)) := by rw [cells_at pX9]; rfl
 have e4 : X9.cell? ⟨p, 4, none⟩ = some (.int .i64 (M.series : Nat)) := by rw [cells_at pX9]; rfl
 have e5 : X9.cell? ⟨p, 5, none⟩ = some (.int .i64 (M.samples : Nat)) := by rw [cells_at pX9]; rfl
 have e6 : X9.cell? ⟨p, 6, none⟩ = some (.slice af 2 cf) := by rw [cells_at pX9]; rfl
 have e7 : X9.cell? ⟨p, 7, none⟩ = some (.slice ao M.sources.length co) := by rw [cells_at pX9]; rfl
 have k0X := HP8.out.2.2.trans kX9
 have HX9 := Lib.hid (And.intro hX9 (And.intro kX9 (And.intro pX9 (And.intro (HP8.out.2.1.keep kX9 (by simp) (by simp) (by simp) (by simp)) k0X))))
 clear hX9 kX9 pX9 cp lp k0X
 refine wp_region_held_drew (S := fun w' => w'.cell? ⟨p, 0, none⟩ = some (.string M.id) ∧ w'.cell? ⟨p, 1, none⟩ = some (.int .i64 (M.mn : Nat)) ∧ w'.cell? ⟨p, 2, none⟩ = some (.int .i64 (M.mx : Nat)) ∧ w'.cell? ⟨p, 3, none⟩ = some (.int .i64 (M.level : Nat)) ∧ w'.cell? ⟨p, 4, none⟩ = some (.int .i64 (M.series : Nat)) ∧ w'.cell? ⟨p, 5, none⟩ = some (.int .i64 (M.samples : Nat)) ∧ w'.cell? ⟨p, 6, none⟩ = some (.slice af 2 cf) ∧ w'.cell? ⟨p, 7, none⟩ = some (.slice ao M.sources.length co)) (by kernel_rfl) (by rw [← HX9.out.1]; exact ⟨e0, e1, e2, e3, e4, e5, e6, e7⟩) (fun hS => ?_)
 rw [← HX9.out.1] at hS ⊢
 refine tk (v := ?_) 0 rfl ?_ ?_; rotate_left
 ·rintro _ ⟨s1, s2, s3, s4, s5, s6, s7, s8⟩; go_simp; (try with_reducible rfl)
 simp only [Act.put, zz]
 refine tk (v := ?_) 1 rfl ?_ ?_; rotate_left
 ·rintro _ ⟨s1, s2, s3, s4, s5, s6, s7, s8⟩; go_simp; (try with_reducible rfl)
 simp only [Act.put, zz]
 refine tk (v := ?_) 3 rfl ?_ ?_; rotate_left
 ·rintro _ ⟨s1, s2, s3, s4, s5, s6, s7, s8⟩; go_simp; (try with_reducible rfl)
 simp only [Act.put, zz]
 refine tk (v := ?_) 4 rfl ?_ ?_; rotate_left
 ·rintro _ ⟨s1, s2, s3, s4, s5, s6, s7, s8⟩; go_simp; (try with_reducible rfl)
 simp only [Act.put, zz]
 refine rd 2 rfl fun K hK => ?_
 go_simp
 go_at_call 41
 refine (object_spec X9 ix metaB (by have := Hix.out.2.2; omega) (by decide)).mono ?_
 rintro e w3 ⟨rfl, rfl⟩
 go_simp
 refine hK.out _ _ ⟨e0, e1, e2, e3, e4, e5, e6, e7⟩ (fun hS => ?_)
 clear hK K
 try simp only [Act.put, zz]
 generalize hnm9 : objectB ix metaB = nm9
 have Hnm9 := Lib.hid (And.intro hnm9 (obj_size Hix.out.2.2 hnm9.symm))
 clear hnm9
 refine rd 5 rfl fun K hK => ?_
 go_simp
 go_at_call 42
 refine (metaEnc_spec 0 X9 [.string M.id, .int .i64 (M.mn : Nat), .int .i64 (M.mx : Nat), .int .i64 (M.level : Nat), .int .i64 (M.series : Nat), .int .i64 (M.samples : Nat), .slice af 2 cf, .slice ao M.sources.length co] M (enc_meta HF.out.1 HF.out.2.1 HF.out.2.2.1.2 HX9.out.2.2.2.2) HF.out.2.2.1.1).mono ?_
 rintro e A9 ⟨rfl, kA⟩
 have pA := kA.at_ HX9.out.2.2.1 (by simp)
 have a0 : A9.cell? ⟨p, 0, none⟩ = some (.string M.id) := by rw [cells_at pA]; rfl
 have a1 : A9.cell? ⟨p, 1, none⟩ = some (.int .i64 (M.mn : Nat)) := by rw [cells_at pA]; rfl
 have a2 : A9.cell? ⟨p, 2, none⟩ = some (.int .i64 (M.mx : Nat)) := by rw [cells_at pA]; rfl
 have a3 : A9.cell? ⟨p, 3, none⟩ = some (.int .i64 (M.level : Nat)) := by rw [cells_at pA]; rfl
 have a4 : A9.cell? ⟨p, 4, none⟩ = some (.int .i64 (M.series : Nat)) := by rw [cells_at pA]; rfl
 have a5 : A9.cell? ⟨p, 5, none⟩ = some (.int .i64 (M.samples : Nat)) := by rw [cells_at pA]; rfl
 have a6 : A9.cell? ⟨p, 6, none⟩ = some (.slice af 2 cf) := by rw [cells_at pA]; rfl
 have a7 : A9.cell? ⟨p, 7, none⟩ = some (.slice ao M.sources.length co) := by rw [cells_at pA]; rfl
 have HA := Lib.hid (And.intro pA (And.intro (HX9.out.2.2.2.1.keep kA (by simp) (by simp) (by simp) (by simp)) (HX9.out.2.2.2.2.trans kA)))
 clear kA pA
 generalize hem : (⟨(frameL 1 (metaL M)).toArray⟩ : ByteArray) = em
 have Hem := Lib.hid hem
 clear hem
 go_simp
 refine hK.out _ _ ⟨a0, a1, a2, a3, a4, a5, a6, a7⟩ (fun hS => ?_)
 clear hK K
 try simp only [Act.put, zz]
 refine rd 6 rfl fun K hK => ?_
 go_simp
 go_at_call 40
 refine (put_spec A9 b f c mb false [] _ HA.out.2.1 nm9 em 1 (by have := Hnm9.out.2; omega) (by have := Hnm9.out.2; have h6 : (metaB).size ≤ 6 := (by decide); omega)).mono ?_
 rintro e W9 ⟨rfl, hb9, kp9⟩
 have np9 := kp9.at_ HA.out.1 (by have := H5.out.2.2.2.2.2; simp; omega)
 have hsz5 := H5.out.2.2.2.2.2
 have HP9 := Lib.hid (And.intro np9 (And.intro hb9 (HA.out.2.2.after kp9 (fun x hx => .inr (by have := H5.out.2.2.1; have := H5.out.2.2.2.2.2; have := z1; have := z2; have := z3; have := z4; simp at hx; omega)))))
 have t0 : W9.cell? ⟨p, 0, none⟩ = some (.string M.id) := by rw [cells_at np9]; rfl
 have t1 : W9.cell? ⟨p, 1, none⟩ = some (.int .i64 (M.mn : Nat)) := by rw [cells_at np9]; rfl
 have t2 : W9.cell? ⟨p, 2, none⟩ = some (.int .i64 (M.mx : Nat)) := by rw [cells_at np9]; rfl
 have t3 : W9.cell? ⟨p, 3, none⟩ = some (.int .i64 (M.level : Nat)) := by rw [cells_at np9]; rfl
 have t4 : W9.cell? ⟨p, 4, none⟩ = some (.int .i64 (M.series : Nat)) := by rw [cells_at np9]; rfl
 have t5 : W9.cell? ⟨p, 5, none⟩ = some (.int .i64 (M.samples : Nat)) := by rw [cells_at np9]; rfl
 have t6 : W9.cell? ⟨p, 6, none⟩ = some (.slice af 2 cf) := by rw [cells_at np9]; rfl
 have t7 : W9.cell? ⟨p, 7, none⟩ = some (.slice ao M.sources.length co) := by rw [cells_at np9]; rfl
 have cp := cells_at np9
 have lp := lt_of_at np9
 clear hb9 kp9 np9
 go_simp
 refine hK.out _ _ ⟨t0, t1, t2, t3, t4, t5, t6, t7⟩ (fun hS => ?_)
 clear hK K
 try simp only [Act.put, zz]
 refine wpAnyH_done (by kernel_rfl) ?_ _
 clear hS e0 a0 t0 e1 a1 t1 e2 a2 t2 e3 a3 t3 e4 a4 t4 e5 a5 t5 e6 a6 t6 e7 a7 t7
 have kw9 : Keeps [] w W9 := HF.out.2.2.2.2.2.2.2.trans HP9.out.2.2
 have kq : Keeps [] W1 W9 := (Q2.out.trans H5.out.2.2.2.2.1).trans HP9.out.2.2
 have nq := kq.at_ H1.out.1 (by simp)
 have hqp : q < p := by
  have h1 := lt_of_at H1.out.1
  have h2 := (Q2.out.trans H5.out.2.2.2.2.1).size
  have h3 := H5.out.2.2.1
  omega
 have HQ := Lib.hid (And.intro nq kw9)
 unfold zeroM at nq
 have cq := cells_at nq
 have fq := free_at nq
 have lq := lt_of_at nq
 clear nq kw9 kq
 go_upto_region 9 with fail
 go_region
 go_wp2_with fail
 have H6q := HQ.out.1
 unfold zeroM at H6q
 have se := set8 (v0 := .string M.id) (v1 := .int .i64 (M.mn : Nat)) (v2 := .int .i64 (M.mx : Nat)) (v3 := .int .i64 (M.level : Nat)) (v4 := .int .i64 (M.series : Nat)) (v5 := .int .i64 (M.samples : Nat)) (v6 := .slice af 2 cf) (v7 := .slice ao M.sources.length co) H6q
 obtain ⟨WE, hWE⟩ : ∃ WE, WE = ((((((((W9.setCell ⟨q, 0, none⟩ (.string M.id)).setCell ⟨q, 1, none⟩ (.int .i64 (M.mn : Nat))).setCell ⟨q, 2, none⟩ (.int .i64 (M.mx : Nat))).setCell ⟨q, 3, none⟩ (.int .i64 (M.level : Nat))).setCell ⟨q, 4, none⟩ (.int .i64 (M.series : Nat))).setCell ⟨q, 5, none⟩ (.int .i64 (M.samples : Nat))).setCell ⟨q, 6, none⟩ (.slice af 2 cf)).setCell ⟨q, 7, none⟩ (.slice ao M.sources.length co)) := ⟨_, rfl⟩
 rw [← hWE] at se ⊢
 clear hWE
 obtain ⟨nE, kE⟩ := se
 have n10 : WE.drew.heap[q]? = _ := nE
 have k10 : Keeps [q] W9 WE.drew := kE.drew
 generalize WE.drew = X at n10 k10 ⊢
 have e9 := cells_at n10
 have l9 := lt_of_at n10
 clear cp lp cq fq lq cb6 lb6
 refine bodyPost_ret (v := .tuple #[.pointer (some ⟨b, 0, none⟩), .agg #[.string M.id, .int .i64 (M.mn : Nat), .int .i64 (M.mx : Nat), .int .i64 (M.level : Nat), .int .i64 (M.series : Nat), .int .i64 (M.samples : Nat), .slice af 2 cf, .slice ao M.sources.length co], .bool true]) (by simp [results, Tryz.results19, go_sem, e9, l9]) rfl ?_
 have hqw := H1.out.2.2
 have hw4 := HF.out.2.2.2.2.2.2.2.size
 have h52 := H5.out.2.2.1
 have h56 := H5.out.2.2.2.2.2
 have hsM := HF.out.2.2.2.2.1
 have hsc := HF.out.2.2.2.2.2.1
 have hsi := HF.out.2.2.2.2.2.2.1
 have hkx : Keeps [] w X := HQ.out.2.after k10 (fun x hx => .inr (by simp at hx; omega))
 refine ⟨b, f, c, mb, .slice af 2 cf, .slice ao M.sources.length co, by rw [hsM]; rfl, ?_, ⟨by omega, by omega, by omega, by omega⟩, ?_, by rw [hsi]; exact HF.out.2.2.2.1, ⟨_, _, _, rfl⟩, hkx⟩
 ·have hb9 := HP9.out.2.1.keep k10 (by simp; omega) (by simp; omega) (by simp; omega) (by simp; omega)
  have eo : storedO A = chg [] (chg [] (chg [] [] (put [] nm7 (cb, 1))) (put (chg [] [] (put [] nm7 (cb, 1))) nm8 (ib, 1))) (put (chg [] (chg [] [] (put [] nm7 (cb, 1))) (put (chg [] [] (put [] nm7 (cb, 1))) nm8 (ib, 1))) nm9 (em, 1)) := by
   show _ = put (put (put [] nm7 (cb, 1)) nm8 (ib, 1)) nm9 (em, 1)
   unfold storedO encMS
   rw [hsM, hsc, hsi, ← Hnm7.out.1, ← Hnm8.out.1, ← Hnm9.out.1, Hem.out, Hix.out.1]
  rw [eo]
  exact hb9
 ·rw [hsc, hsi]
  have r := HP9.out.2.2.row HF.out.1 (by simp)
  have r' := k10.row r (fun g hg hm => by
   obtain rfl : g = q := by simpa using hm
   exact row_ne_type r HQ.out.1 (by decide) g hg rfl)
  exact row_base r' H2.out.size
theorem blkOk_tbl {L : List One14} (hL : L.length ≤ 40) (h : ∀ x ∈ L, 0 ≤ x.1 ∧ 0 ≤ x.2.2 ∧ x.2.2 < 18446744073709551616) : BlkOk (tblL L) 0 1000 := by
 obtain ⟨h1, h2, h3⟩ := tblL_good L
 exact ⟨h1, ⟨by omega, fun r hr => by have := h3 r hr; omega⟩, fun r hr => tblL_vals L h r hr, by decide⟩
theorem obj_ne : objectB idS chunksB ≠ objectB idS indexB ∧ objectB idS chunksB ≠ objectB idS metaB ∧ objectB idS indexB ≠ objectB idS metaB := by decide +kernel
theorem look_stored (A : TabT) : look (storedO A) (objectB idS chunksB) = some (chunksT A, 1) ∧ look (storedO A) (objectB idS indexB) = some (idxT A, 1) := by
 obtain ⟨h1, h2, h3⟩ := obj_ne
 unfold storedO
 constructor
 ·rw [look_put, if_neg h2, look_put, if_neg h1, look_put, if_pos rfl]
 ·rw [look_put, if_neg h3, look_put, if_pos rfl]
theorem objG_stored (A : TabT) : ObjG (storedM A).id A (storedO A) := ⟨fun x hx => by
 have := (look_stored A).2.symm.trans hx
 rw [← Option.some.inj this], fun x hx => by
 have := (look_stored A).1.symm.trans hx
 rw [← Option.some.inj this]⟩
theorem code_some {o : List (ByteArray × Ob)} {nm : ByteArray} {x : Ob} (h : look o nm = some x) : codeR [] o nm = 0 := by
 unfold codeR
 rw [if_pos (show tryWorks [] = true from rfl), h]
theorem code_stored (A : TabT) (j : Nat) : codeR [] (storedO A) (objectB (storedM A).id (partO j)) = 0 := by
 unfold partO
 split
 ·exact code_some (look_stored A).2
 ·exact code_some (look_stored A).1
theorem fetBegin_spec (w : World) (hX : XorVar w) (M : MetaS) (hid : M.id.size ≤ 1000) (A : TabT) (hok : BlkOk A 0 1000) (b f c mb : Nat) (armed : Bool) (Q : List (Int × Bool)) (o : List (ByteArray × Ob)) (hb : BucketAt w b f c mb armed Q o) (B : Nat) (vf vo : Value) (hisz : (idxT A).size ≤ 14000)
  (hf : w.ownsRow B 157 3 vf 2 [.string chunksB, .int .i64 ((chunksT A).size : Nat), .int .u32 (moreN 0 (chunksT A).data.toList : Nat), .string indexB, .int .i64 ((idxT A).size : Nat), .int .u32 (moreN 0 (idxT A).data.toList : Nat)]) (vm : Value) (L : List MatB) (hm : MatsAt w vm L) (hmay : ∀ m ∈ L, mayK m) (fr up : Int) :
  Calls Tryz.prog 21 #[.agg #[.string M.id, .int .i64 (M.mn : Nat), .int .i64 (M.mx : Nat), .int .i64 (M.level : Nat), .int .i64 (M.series : Nat), .int .i64 (M.samples : Nat), vf, vo], .int .i64 fr, .int .i64 up, vm] w fun e w' => ∃ p Y, e = .returned (.pointer (some ⟨p, 0, none⟩)) ∧ FetG w p Y M A vf vm L b f c mb ∧ FetSt w p Y M A vf vo vm L fr up b f c mb armed Q o w' 0 := by
 obtain ⟨am, cm, e, -⟩ := hm.form
 refine (fetNew_at w M vf vo fr up vm ⟨_, _, _, e⟩).mono ?_
 rintro e w' ⟨p, rfl, h1, h2, h3, h4⟩
 obtain ⟨l0, lf, lc, lm⟩ := hb.lt
 exact ⟨p, w'.heap.size, rfl, ⟨⟨_, _, _, _, hf⟩, hm, hmay, hX, ⟨_, _, _, hb⟩, ⟨_, _, hok⟩, hisz, hid, ⟨h3, h4, l0, lf, lc, lm⟩⟩, ⟨.inl ⟨rfl, h1⟩, hb.keep h2 (by simp) (by simp) (by simp) (by simp), ⟨[], Far.nil _ _ _ _, h2⟩, Nat.le_refl _⟩⟩
theorem fetSt_ok (w0 W : World) (p Y : Nat) (M : MetaS) (A : TabT) (vf vo vm : Value) (L : List MatB) (fr up : Int) (b f c mb : Nat) (o : List (ByteArray × Ob)) (j : Nat)
  (hG : FetG w0 p Y M A vf vm L b f c mb) (hO : ObjG M.id A o) (hc : codeR [] o (objectB M.id (partO j)) = 0) (hS : FetSt w0 p Y M A vf vo vm L fr up b f c mb false [] o W j) (hj : j ≤ (wantP fr up L A).length) :
  Calls Tryz.prog 22 #[.pointer (some ⟨p, 0, none⟩), .pointer (some ⟨b, 0, none⟩)] W fun e W' => e = .returned (.int .i64 0) ∧ FetSt w0 p Y M A vf vo vm L fr up b f c mb false [] o W' (j + 1) := by
 refine (fetSt_step w0 W p Y M A vf vo vm L fr up b f c mb false [] o j hG hO hS hj).mono ?_
 rintro e W' (⟨h, -, -⟩ | ⟨h, -, -⟩ | ⟨-, h1, h2⟩)
 ·rw [hc] at h; cases h
 ·rw [hc] at h; cases h
 ·exact ⟨h1, h2⟩
theorem FetSt.low {w0 : World} {p Y : Nat} {M : MetaS} {A : TabT} {vf vo vm : Value} {L : List MatB} {fr up : Int} {b f c mb : Nat} {armed : Bool} {Q : List (Int × Bool)} {o : List (ByteArray × Ob)} {W : World} {j : Nat} (h : FetSt w0 p Y M A vf vo vm L fr up b f c mb armed Q o W j) {w : World} (k : Keeps [] w w0) (hf : w.heap.size ≤ f) (hc : w.heap.size ≤ c) (hm : w.heap.size ≤ mb) : Keeps [] w W := by
 obtain ⟨S, h1, h2⟩ := h.kp
 refine k.after h2 fun x hx => .inr ?_
 have := k.size
 rcases h1 x hx with h3 | h3 | h3 | h3 <;> omega
def aw17O : List One14 := [(0, 5, 1), (3, 6, 1)]
def aw17T : ByteArray := ⟨#[98, 61, 49]⟩
def aw17M : List MatB := [(1, ⟨#[98]⟩, [⟨#[49]⟩])]
theorem aw17_mats : mparsesB aw17T = some aw17M := by decide +kernel
theorem aw17_may : ∀ m ∈ aw17M, mayK m := by
 intro m hm
 simp only [aw17M, List.mem_cons, List.not_mem_nil, or_false] at hm
 subst hm
 exact ⟨.inl rfl, by decide⟩
theorem aw17_tbl : tblL aw17O = [(labA1, [(5, 1)]), (labB1, [(6, 1)])] ∨ tblL aw17O = [(labB1, [(6, 1)]), (labA1, [(5, 1)])] := by
 have h5 : timeT 5 = 5 := by decide +kernel
 have h6 : timeT 6 = 6 := by decide +kernel
 have h7 : labN 0 = labA1 := rfl
 have h8 : labN 3 = labB1 := rfl
 unfold tblL aw17O
 simp only [List.foldl_cons, List.foldl_nil, h5, h6, h7, h8]
 rw [show addT labA1 (5, 1) [] = [(labA1, [(5, 1)])] from rfl]
 unfold addT
 rw [if_neg (by decide +kernel)]
 split
 ·exact .inr rfl
 ·exact .inl rfl
theorem aw17_one : (wantT 0 100 aw17M (tblL aw17O)).length = 1 := by
 rcases aw17_tbl with h | h <;> rw [h] <;> decide +kernel
theorem aw17_rows : (betT 0 100 (readT 0 100 aw17M (tblL aw17O) 2)).length = 1 := by
 rcases aw17_tbl with h | h <;> rw [h] <;> decide +kernel
theorem o14_two {w : World} {p : Nat} (h : w.heap[p]? = some (.cells #[.int .u8 0, .int .i64 5, .int .u64 1, .int .u8 3, .int .i64 6, .int .u64 1] 42 (0, 0))) : SliceArg 3 encO14 w (.slice (some ⟨p, 0, none⟩) 2 2) aw17O := by
 refine ⟨_, _, rfl, by simp [maxLen, aw17O], fun i hi => ⟨p, 0, rfl, lt_of_at h, fun j hj => ?_⟩⟩
 rw [cells_at h]
 have hi : i < 2 := hi
 rcases i with _ | _ | i
 ·match j with
  | 0 => rfl
  | 1 => rfl
  | 2 => rfl
  | n + 3 => omega
 ·match j with
  | 0 => rfl
  | 1 => rfl
  | 2 => rfl
  | n + 3 => omega
 ·omega
theorem awake17_spec (w : World) (hv : LibVar w) (hsg : SignsAt w) (hX : XorVar w) : Calls Tryz.prog 7 #[] w fun e w' => e = .returned (.bool true) ∧ Keeps [] w w' := by
 have k1 : Keeps [] w (w.alloc (.cells #[.int .u8 0, .int .i64 5, .int .u64 1, .int .u8 3, .int .i64 6, .int .u64 1] 42)) := (Keeps.refl [] w).alloc _
 have H1 := Lib.hid (And.intro (o14_two (heap_new w (.cells #[.int .u8 0, .int .i64 5, .int .u64 1, .int .u8 3, .int .i64 6, .int .u64 1] 42))) (And.intro (hv.keep k1 (by simp)) k1))
 have H0 := Lib.hid (And.intro hv (And.intro hsg hX))
 clear k1 hv hsg hX
 go_enter Tryz.func7, Tryz.ntmps7
 go_wp2_with fail
 generalize w.alloc (.cells #[.int .u8 0, .int .i64 5, .int .u64 1, .int .u8 3, .int .i64 6, .int .u64 1] 42) = w1 at H1 ⊢
 generalize w.heap.size = p1 at H1 ⊢
 refine (table_spec w1 H1.out.2.1 _ aw17O H1.out.1 (by decide)).mono ?_
 rintro e w2 ⟨va, vb, rfl, hT, -, k2⟩
 rw [show aw17O.take 40 = aw17O from rfl] at hT
 have hok : BlkOk (tblL aw17O) 0 1000 := blkOk_tbl (by decide) (by decide)
 have hone := aw17_one
 have hrows := aw17_rows
 obtain ⟨A, hA⟩ : ∃ A, A = tblL aw17O := ⟨_, rfl⟩
 rw [← hA] at hT hok hone hrows
 obtain ⟨aa, ca, rfl⟩ := hT.form
 have H2 := Lib.hid (And.intro hT (And.intro hok (And.intro hone (And.intro hrows (H1.out.2.2.trans k2)))))
 clear hT hok hone hrows hA k2
 go_wp2_with fail
 refine (stored_spec w2 (H0.out.2.2.same H2.out.2.2.2.2) _ _ A H2.out.1 H2.out.2.1).mono ?_
 rintro e w3 ⟨b, f, c, mb, vf, vo, rfl, hb, ⟨z1, z2, z3, z4⟩, hf, hisz, ⟨ao, no, co, rfl⟩, k3⟩
 unfold metaCs
 have hO := objG_stored A
 have hC := code_stored A
 have hid : (storedM A).id.size ≤ 1000 := by show idS.size ≤ 1000; rw [identL_size]; omega
 generalize storedM A = M at hO hC hid ⊢
 generalize storedO A = o at hb hO hC
 obtain ⟨af, cf, rfl, -, -, -⟩ := row_slice hf
 have H3 := Lib.hid (And.intro hb (And.intro hf (And.intro hisz (And.intro hO (And.intro hC (And.intro hid (And.intro k3 (And.intro z1 (And.intro z2 (And.intro z3 z4))))))))))
 clear hb hf hisz hO hC hid k3 z1 z2 z3 z4
 have k4 : Keeps [] w3 (w3.alloc (.cells #[.string M.id, .int .i64 M.mn, .int .i64 M.mx, .int .i64 M.level, .int .i64 M.series, .int .i64 M.samples, .slice af 2 cf, .slice ao no co] 61)) := (Keeps.refl [] w3).alloc _
 have n4 := heap_new w3 (.cells #[.string M.id, .int .i64 M.mn, .int .i64 M.mx, .int .i64 M.level, .int .i64 M.series, .int .i64 M.samples, .slice af 2 cf, .slice ao no co] 61)
 go_upto_region 3 with fail
 generalize w3.alloc (.cells #[.string M.id, .int .i64 M.mn, .int .i64 M.mx, .int .i64 M.level, .int .i64 M.series, .int .i64 M.samples, .slice af 2 cf, .slice ao no co] 61) = w4 at k4 n4 ⊢
 generalize w3.heap.size = q at n4 ⊢
 have k04 := (H2.out.2.2.2.2.trans H3.out.2.2.2.2.2.2.1).trans k4
 have H4 := Lib.hid (And.intro n4 (And.intro k4 k04))
 clear n4 k4 k04
 go_wp2_with fail
 refine (matParse_spec w4 (go1 H4.out.2.2 H0.out.2.1) (H0.out.1.keep H4.out.2.2 (by simp)) aw17T (by decide)).mono ?_
 rintro e w5 h
 rw [aw17_mats] at h
 obtain ⟨vm, rfl, hm, k5⟩ := h
 obtain ⟨am, cm, rfl, -⟩ := hm.form
 have H5 := Lib.hid (And.intro hm (And.intro (k5.at_ H4.out.1 (by simp)) (And.intro (H4.out.2.2.trans k5) (H4.out.2.1.trans k5))))
 have cq := cells_at H5.out.2.1
 have lq := lt_of_at H5.out.2.1
 clear hm k5
 rw [show aw17M.length = 1 from rfl]
 go_wp2_with fail
 refine (fetBegin_spec w5 (H0.out.2.2.same H5.out.2.2.1) M H3.out.2.2.2.2.2.1 A H2.out.2.1 b f c mb false [] o (H3.out.1.keep H5.out.2.2.2 (by simp) (by simp) (by simp) (by simp)) _ _ _ H3.out.2.2.1 (H5.out.2.2.2.row H3.out.2.1 (by simp)) _ aw17M H5.out.1 aw17_may 0 100).mono ?_
 rintro e w6 ⟨p, Y, rfl, hG, hS⟩
 have hlen : (wantP 0 100 aw17M A).length = 1 := by
  have := congrArg List.length (wantP_snd 0 100 aw17M A)
  rw [H2.out.2.2.1] at this
  simpa using this
 have HG := Lib.hid (And.intro hG (And.intro hlen hS))
 clear cq lq hG hlen hS
 go_wp2_with fail
 refine (fetSt_ok w5 w6 p Y M A _ _ _ aw17M 0 100 b f c mb o 0 HG.out.1 H3.out.2.2.2.1 (H3.out.2.2.2.2.1 0) HG.out.2.2 (Nat.zero_le _)).mono ?_
 rintro e w7 ⟨rfl, h7⟩
 have H7 := Lib.hid h7
 clear h7
 go_wp2_with fail
 refine (fetSt_done w5 w7 p Y M A _ _ _ aw17M 0 100 b f c mb false [] o 1 H7.out).mono ?_
 rintro e w8 ⟨rfl, rfl⟩
 rw [HG.out.2.1, show decide (0 + 1 = 1 + 1) = false from rfl]
 go_wp2_with fail
 refine (fetSt_ok w5 w8 p Y M A _ _ _ aw17M 0 100 b f c mb o 1 HG.out.1 H3.out.2.2.2.1 (H3.out.2.2.2.2.1 1) H7.out (by rw [HG.out.2.1]; omega)).mono ?_
 rintro e w9 ⟨rfl, h9⟩
 have H9 := Lib.hid h9
 clear h9
 go_wp2_with fail
 refine (fetSt_done w5 w9 p Y M A _ _ _ aw17M 0 100 b f c mb false [] o 2 H9.out).mono ?_
 rintro e w10 ⟨rfl, rfl⟩
 rw [HG.out.2.1, show decide (2 = 1 + 1) = true from rfl]
 go_wp2_with fail
 refine (fetSt_idle w5 w10 p Y M A _ _ _ aw17M 0 100 b f c mb false [] o 2 H9.out (by rw [HG.out.2.1])).mono ?_
 rintro e w11 ⟨rfl, rfl⟩
 go_wp2_with fail
 refine (fetSt_rows w5 w11 p Y M A _ _ _ aw17M 0 100 b f c mb false [] o 2 H9.out ⟨_, _, H2.out.2.1⟩).mono ?_
 rintro e w12 ⟨v12, rfl, hT, k12⟩
 obtain ⟨ar, cr, rfl⟩ := hT.form
 rw [H2.out.2.2.2.1]
 have hk : Keeps [] w w12 := by
  have h1 := H2.out.2.2.2.2.trans H3.out.2.2.2.2.2.2.1
  have h2 := H2.out.2.2.2.2.size
  have h3 := H3.out.2.2.2.2.2.2.2.2
  obtain ⟨S, hS1, hS2⟩ := H9.out.kp
  have h4 := H5.out.2.2.1
  refine (h4.after hS2 fun x hx => .inr ?_).trans k12
  have h5 := h4.size
  rcases hS1 x hx with h6 | h6 | h6 | h6 <;> omega
 have Hk := Lib.hid hk
 clear hk hT k12
 go_wp2_with fail
 go_ret
 exact ⟨rfl, Hk.out⟩
theorem BlkOk.pw {A : TabT} {fr up : Nat} (h : BlkOk A fr up) : ∀ r ∈ A, r.2.Pairwise ltS ∧ ∀ s ∈ r.2, 0 ≤ s.1 := fun r hr => ⟨(h.smps hr).1, fun s hs => by have := ((h.vals r hr).2 s hs).1; omega⟩
theorem FetSt.at_ {w0 : World} {p Y : Nat} {M : MetaS} {A : TabT} {vf vo vm : Value} {L : List MatB} {fr up : Int} {b f c mb : Nat} {armed : Bool} {Q : List (Int × Bool)} {o : List (ByteArray × Ob)} {W : World} {j : Nat} (h : FetSt w0 p Y M A vf vo vm L fr up b f c mb armed Q o W j) {q : Nat} {ob : Obj} (hq : w0.heap[q]? = some ob) (hne : q ≠ f ∧ q ≠ c ∧ q ≠ mb) : W.heap[q]? = some ob := by
 obtain ⟨S, h1, h2⟩ := h.kp
 refine h2.at_ hq fun hm => ?_
 have h3 := lt_of_at hq
 rcases h1 q hm with h4 | h4 | h4 | h4
 ·exact hne.1 h4
 ·exact hne.2.1 h4
 ·exact hne.2.2 h4
 ·omega
theorem FetSt.same {w0 : World} {p Y : Nat} {M : MetaS} {A : TabT} {vf vo vm : Value} {L : List MatB} {fr up : Int} {b f c mb : Nat} {armed : Bool} {Q : List (Int × Bool)} {o : List (ByteArray × Ob)} {W W' : World} {j : Nat} (h : FetSt w0 p Y M A vf vo vm L fr up b f c mb armed Q o W j) (K : Keeps [] W W') : FetSt w0 p Y M A vf vo vm L fr up b f c mb armed Q o W' j := by
 obtain ⟨S, h1, h2⟩ := h.kp
 refine ⟨?_, h.bk.keep K (by simp) (by simp) (by simp) (by simp), ⟨S, h1, h2.trans (K.mono (by simp))⟩, Nat.le_trans h.hz K.size⟩
 rcases h.st with ⟨h3, h4⟩ | ⟨k, h3, h4⟩
 ·exact .inl ⟨h3, K.at_ h4 (by simp)⟩
 ·exact .inr ⟨k, h3, h4.kp K⟩
theorem wantP_wantW (fr up : Int) (L : List MatB) (A : TabT) : (wantP fr up L A).length = (wantT fr up L A).length := by
 have := congrArg List.length (wantP_snd fr up L A)
 simpa using this
theorem reads_allW {A : TabT} {fr0 up0 : Nat} (h : BlkOk A fr0 up0) (fr up : Int) (L : List MatB) : betT fr up (readT fr up L A ((wantP fr up L A).length + 1)) = (betT fr up A).filter (fitR L) := by
 unfold readT
 rw [wantP_wantW, List.take_of_length_le (by omega), want_bet h.pw]
def WhRel (w4 : World) (p Y : Nat) (M : MetaS) (A : TabT) (vf vo vm : Value) (L : List MatB) (fr up : Int) (b f c mb : Nat) (o : List (ByteArray × Ob)) (N : Nat) (gk : Nat) (ui : Value) (wr : World) : Prop :=
 ∃ k, k ≤ N + 1 ∧ gk = 50 - k ∧ ui = .int .i64 (k : Nat) ∧ FetSt w4 p Y M A vf vo vm L fr up b f c mb false [] o wr k
theorem whole_spec (w : World) (hX : XorVar w) (B : Nat) (v : Value) (A : TabT) (h : TabAt 76 91 B w v A) (hok : BlkOk A 0 1000) (fr up : Int) (vm : Value) (L : List MatB) (hm : MatsAt w vm L) (hmay : ∀ m ∈ L, mayK m) :
  Calls Tryz.prog 8 #[v, .int .i64 fr, .int .i64 up, vm] w fun e w' => ∃ v', e = .returned (.tuple #[v', .bool true]) ∧ TabAt 76 91 0 w' v' ((betT fr up A).filter (fitR L)) ∧ Keeps [] w w' := by
 have Hf := Lib.hid (And.intro hX (And.intro h (And.intro hok (And.intro hm hmay))))
 have hA40 := hok.few.1
 obtain ⟨aa, ca, rfl⟩ := h.form
 obtain ⟨ma, mc, rfl, -⟩ := hm.form
 clear hX h hok hm hmay
 go_enter Tryz.func8, Tryz.ntmps8
 go_wp2_with fail
 refine (stored_spec w Hf.out.1 _ _ A Hf.out.2.1 Hf.out.2.2.1).mono ?_
 rintro e w3 ⟨b, f, c, mb, vf, vo, rfl, hb, ⟨z1, z2, z3, z4⟩, hf, hisz, ⟨ao, no, co, rfl⟩, k3⟩
 unfold metaCs
 have hO := objG_stored A
 have hC := code_stored A
 have hid : (storedM A).id.size ≤ 1000 := by show idS.size ≤ 1000; rw [identL_size]; omega
 generalize storedM A = M at hO hC hid ⊢
 generalize storedO A = o at hb hO hC
 obtain ⟨af, cf, rfl, -, -, -⟩ := row_slice hf
 have H3 := Lib.hid (And.intro hb (And.intro hf (And.intro hisz (And.intro hO (And.intro hC (And.intro hid (And.intro k3 (And.intro z1 (And.intro z2 (And.intro z3 z4))))))))))
 clear hb hf hisz hO hC hid k3 z1 z2 z3 z4
 have k4 : Keeps [] w3 (w3.alloc (.cells #[.string M.id, .int .i64 M.mn, .int .i64 M.mx, .int .i64 M.level, .int .i64 M.series, .int .i64 M.samples, .slice af 2 cf, .slice ao no co] 61)) := (Keeps.refl [] w3).alloc _
 have n4 := heap_new w3 (.cells #[.string M.id, .int .i64 M.mn, .int .i64 M.mx, .int .i64 M.level, .int .i64 M.series, .int .i64 M.samples, .slice af 2 cf, .slice ao no co] 61)
 go_upto_region 4 with fail
 generalize w3.alloc (.cells #[.string M.id, .int .i64 M.mn, .int .i64 M.mx, .int .i64 M.level, .int .i64 M.series, .int .i64 M.samples, .slice af 2 cf, .slice ao no co] 61) = w4 at k4 n4 ⊢
 generalize w3.heap.size = q at n4 ⊢
 have k24 := H3.out.2.2.2.2.2.2.1.trans k4
 have H4 := Lib.hid (And.intro n4 (And.intro k4 k24))
 have cq := cells_at n4
 have lq := lt_of_at n4
 clear n4 k4 k24
 go_wp2_with fail
 refine (fetBegin_spec w4 (Hf.out.1.same H4.out.2.2) M H3.out.2.2.2.2.2.1 A Hf.out.2.2.1 b f c mb false [] o (H3.out.1.keep H4.out.2.1 (by simp) (by simp) (by simp) (by simp)) _ _ _ H3.out.2.2.1 (H4.out.2.1.row H3.out.2.1 (by simp)) _ L (go1 H4.out.2.2 Hf.out.2.2.2.1) Hf.out.2.2.2.2 fr up).mono ?_
 rintro e w5 ⟨p, Y, rfl, hG, hS⟩
 have HG := Lib.hid (And.intro hG hS)
 clear cq lq hG hS
 obtain ⟨N, hN⟩ : ∃ N, N = (wantP fr up L A).length := ⟨_, rfl⟩
 have hN40 : N ≤ 40 := by have := wantP_len fr up L A; omega
 have HN := Lib.hid hN
 clear hN
 go_wp2_with fail
 go_loopg [14] 50 (WhRel w4 p Y M A (.slice af 2 cf) (.slice ao no co) (.slice ma L.length mc) L fr up b f c mb o N)
 case atStart => exact ⟨0, Nat.zero_le _, rfl, rfl, HG.out.2⟩
 case round =>
  obtain ⟨k, hkN, hgk, rfl, hS⟩ := hrel
  have HS := Lib.hid (And.intro hS hgk)
  have hk50 : k < 50 := by omega
  have hlt1 : (k : Int) < 50 := by omega
  clear hS hgk
  go_upto_region 6 with fail
  go_cut [34] from 28 to 33 (fun cc wc => cc = .bool (!decide (k = N + 1)) ∧ wc = wr)
  case first =>
   go_wp2_with fail
   refine (fetSt_done w4 wr p Y M A _ _ _ L fr up b f c mb false [] o k HS.out.1).mono ?_
   rintro e w6 ⟨rfl, rfl⟩
   rw [← HN.out]
   go_wp2_with fail
   go_meet
   case rel => exact ⟨rfl, rfl⟩
  case rest =>
   obtain ⟨rfl, rfl⟩ := hcut
   by_cases hc : k = N + 1
   ·subst hc
    rw [show (!decide (N + 1 = N + 1)) = false by simp]
    go_wp2_with fail
    refine (fetSt_rows w4 wc p Y M A _ _ _ L fr up b f c mb false [] o (N + 1) HS.out.1 ⟨_, _, Hf.out.2.2.1⟩).mono ?_
    rintro e w8 ⟨v8, rfl, hT8, k8⟩
    rw [show betT fr up (readT fr up L A (N + 1)) = (betT fr up A).filter (fitR L) by rw [HN.out]; exact reads_allW Hf.out.2.2.1 fr up L] at hT8
    have hz := H3.out.2.2.2.2.2.2.2
    have hk2D : Keeps [] w wc := HS.out.1.low H4.out.2.2 hz.2.1 hz.2.2.1 hz.2.2.2
    have H8 := Lib.hid (And.intro (hT8.base (B' := 0) (Nat.zero_le _)) (And.intro (hk2D.trans k8) (HS.out.1.same k8)))
    clear hT8 k8 hz hk2D
    go_wp2_with fail
    refine (fetSt_done w4 w8 p Y M A _ _ _ L fr up b f c mb false [] o (N + 1) H8.out.2.2).mono ?_
    rintro e w9 ⟨rfl, rfl⟩
    rw [show decide (N + 1 = (wantP fr up L A).length + 1) = true from by rw [HN.out]; simp]
    go_wp2_with fail
    go_ret2
    exact ⟨_, rfl, H8.out.1, H8.out.2.1⟩
   ·rw [show (!decide (k = N + 1)) = true by rw [decide_eq_false hc]; rfl]
    have Hc := Lib.hid hc
    have hk2 := IntWalk.i64_in ((k : Int) + 1) (by omega)
    clear hc
    go_wp2_with fail
    refine (fetSt_ok w4 wc p Y M A _ _ _ L fr up b f c mb o k HG.out.1 H3.out.2.2.2.1 (H3.out.2.2.2.2.1 k) HS.out.1 (by have := HN.out; have := Hc.out; omega)).mono ?_
    rintro e w7 ⟨rfl, h7⟩
    have H7 := Lib.hid h7
    clear h7
    go_wp2_with fail
    go_roundg (50 - (k + 1))
    case measure => have := HS.out.2; omega
    case rel => exact ⟨k + 1, by have := Hc.out; omega, rfl, by go_num, H7.out⟩
end Go.Proofs.YtgcfkhcogllgfaaGreatDoor
