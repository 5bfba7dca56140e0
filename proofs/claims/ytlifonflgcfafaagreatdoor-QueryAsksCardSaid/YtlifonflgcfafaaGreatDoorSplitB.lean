/-
  A range over a function whose iterator stores into ONE cell of its own between its rounds: the loop's law; strings.SplitSeq at a separator of one byte, whatever the text: the contract of the function that it hands back.
  The text is shorter than 4294967281 bytes; the library's variable internal/bytealg.MaxLen holds some number.
-/
import Derived.Test.YtlifonflgcfafaaGreatDoorPostBase
import Derived.Test.YtlifonflgcfafaaGreatDoorLabel1
import Derived.RangeFuncWrites
namespace Go.Proofs.YtlifonflgcfafaaGreatDoor
open Go Go.RowKit

/-- The blocks of ks lie as they lay. -/
def Stands (ks : List Nat) (W W' : World) : Prop := ∀ p ∈ ks, W'.heap[p]? = W.heap[p]?

theorem Stands.trans {ks : List Nat} {A B C : World} (h : Stands ks A B) (k : Stands ks B C) : Stands ks A C := fun p hp => (k p hp).trans (h p hp)

theorem Stands.put {ks : List Nat} {W : World} {d : Nat} (hk : ∀ p ∈ ks, p < d) (o : Obj) : Stands ks W (W.putObj (d + 1) o) := fun p hp => World.putObj_heap_other (by have := hk p hp; omega)


/-- An iterator that may store into block b between two rounds. -/
def SeqB {α : Type} (F : Fence) (n : Nat) (P : Program) (g : Nat) (lb : Array Value) (encs : α → Array Value) (b : Nat) (ks : List Nat) (S Sp : List α → Prop) (N : Nat) (Pre : World → Prop) : Prop :=
  ∀ (l : Nat) (J Jx : List α → World → Prop) (W : World), Pre W → (∀ s W v, J s W → J s (W.setCell ⟨b, 0, none⟩ v)) →
    (∀ pre x W1, J pre W1 → pre.length < N → Sp (pre ++ [x]) → YieldAt F (n - 1) P l (encs x) W1 fun e W' => (e = .returned (.bool true) ∧ J (pre ++ [x]) W' ∧ Stands ks W1 W') ∨ (e = .returned (.bool false) ∧ Jx (pre ++ [x]) W')) →
    J [] W → CallsIn F n P g (#[.func (.yield l) #[] #[]] ++ lb) W fun e W' => (∃ v, e = .returned v) ∧ ((∃ xs, S xs ∧ J xs W') ∨ (∃ pre, Sp pre ∧ Jx pre W'))


/-- The two blocks that a loop lays: the rounds' deferred calls (none), its record. -/
structure LoopAt (W : World) (d : Nat) (r : Loop) : Prop where
  rcd : W.heap[d + 1]? = some (.loop r)
  def_ : W.heap[d]? = some (.deferred (some []))

theorem LoopAt.put {W : World} {d : Nat} {r : Loop} (h : LoopAt W d r) (r' : Loop) : LoopAt (W.putObj (d + 1) (.loop r')) d r' :=
  ⟨World.putObj_heap_same (lt_of_at h.rcd), (World.putObj_heap_other (by omega)).trans h.def_⟩

theorem LoopAt.from {W W' : World} {d : Nat} {r : Loop} (h : LoopAt W d r) (k : KeepsFrom d W W') : LoopAt W' d r := ⟨k.same _ _ (by omega) h.rcd rfl, k.same _ _ (Nat.le_refl _) h.def_ rfl⟩

theorem LoopAt.set {W : World} {d b : Nat} {r : Loop} (h : LoopAt W d r) (hb : b < d) (v : Value) : LoopAt (W.setCell ⟨b, 0, none⟩ v) d r :=
  ⟨(Below.heap_setCell W ⟨b, 0, none⟩ v (d + 1) (fun e => by have : d + 1 = b := e; omega)).trans h.rcd, (Below.heap_setCell W ⟨b, 0, none⟩ v d (fun e => by have : d = b := e; omega)).trans h.def_⟩

theorem LoopAt.new (w : World) (r : Loop) : LoopAt ((w.alloc (.deferred (some []))).alloc (.loop r)) w.heap.size r :=
  ⟨(new2 w (.deferred (some [])) (.loop r)).2, (new2 w (.deferred (some [])) (.loop r)).1⟩

section
variable {F : Fence} {n : Nat} {P : Program}
theorem wpIn_rangeFunc_B {α : Type} {g : Operand} {ps : Array Tmp} {assign body : Code} {Q : Exit → Act → World → Prop} {a : Act} {w : World}
    (hro : F.round = none) (h1 : 1 ≤ n) {gf : Nat} {lb : Array Value} (hg : a.eval g = .func (.func gf) #[] lb) (hFg : F.fn gf) (eg : ∀ args w, (callFunc gf args).run P w = .ok (.enter gf args) w)
    {encs : α → Array Value} {b : Nat} {ks : List Nat} {S Sp : List α → Prop} {N : Nat} {Pre : World → Prop} (hseq : SeqB F (n - 1) P gf lb encs b ks S Sp N Pre) (hPre : ∀ W, Keeps [] w W → Pre W)
    (hb : b < w.heap.size) (hks : ∀ p ∈ ks, p < w.heap.size) (hps : ∀ x, (encs x).size = ps.size)
    (I : List α → World → Prop) (Ix : Code → List α → World → Prop) (hI : OwnFrom w.heap.size I) (hIx : ∀ c, OwnFrom w.heap.size (Ix c)) (hIb : ∀ s W v, I s W → I s (W.setCell ⟨b, 0, none⟩ v)) (h0 : I [] w) (a₁ : α → Act)
    (hassign : ∀ (l : Nat) (x : α) (W : World) (K : Act → World → Prop), K (a₁ x) W →
      assign.wpIn (F.inRound l) (n - 1 - 1) P (Exit.then K (fun _ _ _ => False)) { tmps := (ps.zip (encs x)).foldl (fun t (p, v) => t.setIfInBounds p v) a.tmps, defers := [] } W)
    (hbody : ∀ (l : Nat) (pre : List α) (x : α) (W : World), I pre W → pre.length < N → Sp (pre ++ [x]) → body.wpIn (F.inRound l) (n - 1 - 1) P (ownPostG w.heap.size (Stands ks) I Ix (pre ++ [x]) W) (a₁ x) W)
    (hdone : ∀ (D : Nat) (xs : List α) (W : World), w.heap.size ≤ D → S xs → I xs W → W.heap[D]? = some (.deferred (some [])) → Q .normal { a with defers := { target := .collected D, args := #[] } :: a.defers } W)
    (hstop : ∀ (D : Nat) (c : Code) (pre : List α) (W : World), w.heap.size ≤ D → Sp pre → Ix c pre W → W.heap[D]? = some (.deferred (some [])) → c.wpIn F n P Q { a with defers := { target := .collected D, args := #[] } :: a.defers } W) :
    (Code.rangeFunc g ps assign body).wpIn F n P Q a w := by
  refine wpIn_rangeFunc fun fn hfn => ?_
  rw [hro]
  -- the record in its states
  let r : LoopState → Option Code → Loop := fun st pe => { state := st, pending := pe, fn, tmps := a.tmps, params := ps, assign, body, defers := w.heap.size }
  have hnew := LoopAt.new w (r .ready none)
  have kW : Keeps [] w ((w.alloc (.deferred (some []))).alloc (.loop (r .ready none))) := ((Keeps.refl [] w).alloc _).alloc _
  have hI1 : I [] ((w.alloc (.deferred (some []))).alloc (.loop (r .ready none))) := hI.alloc _ (hI.alloc _ h0)
  obtain ⟨W1, hW1⟩ : ∃ W1, (w.alloc (.deferred (some []))).alloc (.loop (r .ready none)) = W1 := ⟨_, rfl⟩
  rw [hW1] at hnew kW hI1
  refine ⟨w.heap.size + 1, [{ target := .collected w.heap.size, args := #[] }], W1, { target := .fn (.func gf) lb, args := #[.func (.yield (w.heap.size + 1)) #[] #[]] }, W1, gf,
    #[.func (.yield (w.heap.size + 1)) #[] #[]] ++ lb, W1, by rw [← hW1]; exact run_enterLoop_outer _ _ _ _ _, ?_, ?_, ?_, fun _ => h1, ?_⟩
  · simp only [resolve, hg]
    simp [go_sem]
  · intro f' hf'
    simp [Target.leads] at hf'
    subst hf'
    exact hFg
  · simp [invoke, go_sem, eg]
  refine (hseq (w.heap.size + 1) (fun pre W => I pre W ∧ LoopAt W w.heap.size (r .ready none)) (fun pre W => ∃ c, Ix c pre W ∧ LoopAt W w.heap.size (r .done (some c))) _ (hPre _ kW) (fun s W v h => ⟨hIb s W v h.1, h.2.set hb v⟩) ?_ ⟨hI1, hnew⟩).mono ?_
  · -- a round: the record goes busy, the body runs, the record goes ready or done
    rintro pre x W ⟨hi, hl⟩ hlen hsp
    refine ⟨fn, _, assign, body, run_yield hl.rcd (hps x), roundIn_of_wpIn hfn (hassign _ x W _ ⟨_, run_beginRound hl.rcd rfl, ?_⟩)⟩
    have hl2 := hl.put { r .ready none with state := .busy }
    refine wpIn_mono (hbody _ pre x _ (hI.putObj _ hi (by omega) hl.rcd rfl) hlen hsp) ?_
    have fin : ∀ (jump : Option Code) (W3 : World), LoopAt W3 w.heap.size { r .ready none with state := .busy } → (Instr.endRound (w.heap.size + 1) jump).run P W3 = .ok (.bool jump.isNone) (W3.putObj (w.heap.size + 1) (.loop (r (if jump.isNone then .ready else .done) jump))) :=
      fun jump W3 h3 => run_endRound jump h3.rcd
    have out : ∀ (c : Code) (W3 : World), KeepsFrom w.heap.size (W.putObj (w.heap.size + 1) (.loop { r .ready none with state := .busy })) W3 → Ix c (pre ++ [x]) W3 → ∃ c', Ix c' (pre ++ [x]) (W3.putObj (w.heap.size + 1) (.loop (r .done (some c)))) ∧ LoopAt (W3.putObj (w.heap.size + 1) (.loop (r .done (some c)))) w.heap.size (r .done (some c')) :=
      fun c W3 k3 h => ⟨c, (hIx c).putObj _ h (by omega) (hl2.from k3).rcd rfl, (hl2.from k3).put _⟩
    intro e a3 W3 hp
    match e, hp with
    | .normal, ⟨k3, s3, i3⟩ => exact ⟨_, _, fin none W3 (hl2.from k3), .inl ⟨rfl, ⟨hI.putObj _ i3 (by omega) (hl2.from k3).rcd rfl, (hl2.from k3).put _⟩, ((Stands.put hks _).trans s3).trans (Stands.put hks _)⟩⟩
    | .ret, ⟨k3, i3⟩ => exact ⟨_, _, fin (some .ret) W3 (hl2.from k3), .inr ⟨rfl, out .ret W3 k3 i3⟩⟩
    | .exit id, ⟨k3, i3⟩ => exact ⟨_, _, fin (some (.exit id)) W3 (hl2.from k3), .inr ⟨rfl, out (.exit id) W3 k3 i3⟩⟩
    | .goto t, ⟨k3, i3⟩ => exact ⟨_, _, fin (some (.goto t)) W3 (hl2.from k3), .inr ⟨rfl, out (.goto t) W3 k3 i3⟩⟩
    | .panic _, h => exact h.elim
    | .outgrown, h => exact h.elim
  · rintro e W2 ⟨⟨v, rfl⟩, ⟨xs, hS, hi, hl⟩ | ⟨pre, hSp, c, hi, hl⟩⟩
    · exact ⟨none, _, run_endLoop hl.rcd (by simp [r]), hdone _ xs _ (Nat.le_refl _) hS (hI.putObj _ hi (by omega) hl.rcd rfl) ((World.putObj_heap_other (by omega)).trans hl.def_)⟩
    · exact ⟨some c, _, run_endLoop hl.rcd (by simp [r]), hstop _ c pre _ (Nat.le_refl _) hSp ((hIx c).putObj _ hi (by omega) hl.rcd rfl) ((World.putObj_heap_other (by omega)).trans hl.def_)⟩
end
/-- The parts of a text between the bytes c. -/
def partsL (c : UInt8) : List UInt8 → List (List UInt8)
  | [] => [[]]
  | x :: r => if x = c then [] :: partsL c r else (match partsL c r with | [] => [[x]] | p :: ps => (x :: p) :: ps)

theorem partsL_index (c : UInt8) : ∀ l : List UInt8, (Lib.index l [c] = -1 ∧ partsL c l = [l]) ∨ ∃ i : Nat, Lib.index l [c] = (i : Int) ∧ i < l.length ∧ partsL c l = l.take i :: partsL c (l.drop (i + 1))
  | [] => .inl ⟨rfl, rfl⟩
  | x :: r => by
    have hp : [c].isPrefixOf (x :: r) = (c == x) := by simp [List.isPrefixOf]
    by_cases h : x = c
    · subst h
      exact .inr ⟨0, by simp [Lib.index, hp], by simp, by simp [partsL]⟩
    · have hx : (c == x) = false := by simpa using fun e : c = x => h e.symm
      rcases partsL_index c r with ⟨h1, h2⟩ | ⟨i, h1, h2, h3⟩
      · exact .inl ⟨by simp [Lib.index, hp, hx, h1], by simp [partsL, h, h2]⟩
      · refine .inr ⟨i + 1, ?_, by simp; omega, by simp [partsL, h, h3]⟩
        have hn : ((i : Int) == -1) = false := by rw [beq_eq_false_iff_ne]; omega
        unfold Lib.index
        rw [hp, hx, h1, hn]
        rfl

def partsB (c : UInt8) (s : ByteArray) : List ByteArray := (partsL c s.data.toList).map fun p => ⟨p.toArray⟩

theorem extract_fst (s : ByteArray) (k : Nat) : s.extract 0 k = ⟨(s.data.toList.take k).toArray⟩ := by
  apply ba_ext
  simp [ByteArray.data_extract, Array.toList_extract, List.extract_eq_take_drop]

theorem extract_lst (s : ByteArray) (k : Nat) : s.extract k s.size = ⟨(s.data.toList.drop k).toArray⟩ := by
  apply ba_ext
  simp only [ByteArray.data_extract, Array.toList_extract, List.extract_eq_take_drop]
  exact List.take_of_length_le (by simp)

theorem partsB_index (c : UInt8) (s : ByteArray) : (Lib.index s.data.toList [c] = -1 ∧ partsB c s = [s]) ∨ ∃ i : Nat, Lib.index s.data.toList [c] = (i : Int) ∧ i < s.size ∧ partsB c s = s.extract 0 i :: partsB c (s.extract (i + 1) s.size) := by
  rcases partsL_index c s.data.toList with ⟨h1, h2⟩ | ⟨i, h1, h2, h3⟩
  · exact .inl ⟨h1, by unfold partsB; rw [h2]; simp⟩
  · exact .inr ⟨i, h1, by simpa using h2, by unfold partsB; rw [h3, extract_fst, extract_lst]; simp⟩

def leftB (b : Nat) (w : World) : Nat := match w.cell? ⟨b, 0, none⟩ with | some (.string t) => t.size | _ => 0

theorem leftB_of {b : Nat} {w : World} {t : ByteArray} (h : w.cell? ⟨b, 0, none⟩ = some (.string t)) : leftB b w = t.size := by unfold leftB; rw [h]

/-- The cells of the function that SplitSeq hands back. -/
def SplitAt (w : World) (b1 b2 b3 : Nat) (c : UInt8) (t : ByteArray) (m : Int) : Prop :=
  Boxed w b1 9 (.string ⟨#[c]⟩) ∧ Boxed w b2 9 (.string t) ∧ Boxed w b3 3 (.int .i64 0) ∧ w.cell? ⟨0, 0, none⟩ = some (.int .i64 m) ∧ b1 ≠ b2 ∧ b3 ≠ b2 ∧ 0 ≠ b2

theorem SplitAt.stands {w w' : World} {b1 b2 b3 : Nat} {c : UInt8} {t : ByteArray} {m : Int} (h : SplitAt w b1 b2 b3 c t m) (k : Stands [b1, b2, b3, 0] w w') : SplitAt w' b1 b2 b3 c t m := by
  obtain ⟨h1, h2, h3, h4, h5⟩ := h
  exact ⟨(k b1 (by simp)).trans h1, (k b2 (by simp)).trans h2, (k b3 (by simp)).trans h3, (World.cell?_of_block (k 0 (by simp))).trans h4, h5⟩

theorem SplitAt.set {w : World} {b1 b2 b3 : Nat} {c : UInt8} {t : ByteArray} {m : Int} (h : SplitAt w b1 b2 b3 c t m) (t' : ByteArray) : SplitAt (w.setCell ⟨b2, 0, none⟩ (.string t')) b1 b2 b3 c t' m := by
  obtain ⟨h1, h2, h3, h4, h5, h6, h7⟩ := h
  exact ⟨h1.other h5 _, h2.set _, h3.other h6 _, (World.cell?_of_block (Below.heap_setCell w ⟨b2, 0, none⟩ _ _ h7)).trans h4, h5, h6, h7⟩

set_option linter.unusedSimpArgs false in
set_option maxRecDepth 100000 in
set_option maxHeartbeats 2000000 in
theorem splitB_seq (n : Nat) (hn : 1 ≤ n) (b1 b2 b3 : Nat) (c : UInt8) (s : ByteArray) (m : Int) (hs : s.size < 4294967281) :
    SeqB Fence.wide n Tryz.prog 129 #[.pointer (some ⟨b1, 0, none⟩), .pointer (some ⟨b2, 0, none⟩), .pointer (some ⟨b3, 0, none⟩)] (fun x : ByteArray => #[Value.string x]) b2 [b1, b2, b3, 0]
      (fun ys => ys = partsB c s) (fun pre => ∃ r, pre ++ r = partsB c s) (partsB c s).length (fun w => SplitAt w b1 b2 b3 c s m) := by
  intro l J Jx W hW hJb hY h0
  have Hs0 := Lib.hid (And.intro hW h0)
  have c1 := hW.1.cell
  have h1c : 0 < (1 : Int) := by decide
  clear hW h0
  refine callsIn_of_wp Tryz.func129 rfl trivial ?_ rfl
  simp only [Tryz.ntmps129, List.size_toArray, List.length_cons, List.length_nil, Nat.reduceAdd, Nat.reduceSub, Array.replicate_succ, Array.replicate_zero, List.push_toArray, List.append_toArray, List.nil_append, List.cons_append]
  gi_wp2
  gi_loopw [7] (fun _ wr => ∃ pre t, pre ++ partsB c t = partsB c s ∧ t.size ≤ s.size ∧ SplitAt wr b1 b2 b3 c t m ∧ J pre wr) (fun _ wr => leftB b2 wr)
  case atStart => exact ⟨[], s, rfl, Nat.le_refl _, Hs0.out.1, Hs0.out.2⟩
  case round =>
    clear c1 Hs0
    obtain ⟨pre, t, hpt, hts, hat, hJ⟩ := hrel
    have hm := hat.2.2.2.1
    have Hi := Lib.hid (Tryz.strings_Index t ⟨#[c]⟩ m wr (by omega) hm)
    have x1 := hat.1.cell
    have x2 := hat.2.1.cell
    have x3 := hat.2.2.1.cell
    have HA := Lib.hid (And.intro hat (And.intro hpt (And.intro hJ hts)))
    clear hat hpt hJ hm hts
    gi_wp2
    refine ⟨trivial, (callsIn_wide.2 Hi.out).mono ?_⟩
    rintro e w' ⟨rfl, rfl⟩
    rcases partsB_index c t with ⟨h1, h2⟩ | ⟨i, h1, h2, h3⟩
    · have hix : Lib.index t.data.toList (⟨#[c]⟩ : ByteArray).data.toList = -1 := h1
      rw [hix]
      have hlen : pre.length < (partsB c s).length := by rw [← HA.out.2.1, h2]; simp
      obtain ⟨fn, tmps, assign, body, hy, hR⟩ := hY pre t w' HA.out.2.2.1 hlen ⟨[], by rw [List.append_nil, ← HA.out.2.1, h2]⟩
      have H2 := Lib.hid (show pre ++ [t] = partsB c s from by rw [← HA.out.2.1, h2])
      clear h1 h2 hix hlen
      gi_wp2
      refine hR.mono ?_
      rintro e W1 (⟨rfl, hJ1, _⟩ | ⟨rfl, hx1⟩)
      · gi_wp2
        go_end0
        exact ⟨⟨_, rfl⟩, .inl ⟨_, H2.out, hJ1⟩⟩
      · gi_wp2
        go_end0
        exact ⟨⟨_, rfl⟩, .inr ⟨_, ⟨[], by rw [List.append_nil]; exact H2.out⟩, hx1⟩⟩
    · have hix : Lib.index t.data.toList (⟨#[c]⟩ : ByteArray).data.toList = (i : Int) := h1
      rw [hix]
      have hlen : pre.length < (partsB c s).length := by
        rw [← HA.out.2.1, h3, List.length_append, List.length_cons]
        omega
      obtain ⟨fn, tmps, assign, body, hy, hR⟩ := hY pre (t.extract 0 i) w' HA.out.2.2.1 hlen ⟨partsB c (t.extract (i + 1) t.size), by rw [← HA.out.2.1, h3]; simp⟩
      have hts := HA.out.2.2.2
      have hn0 : ¬ ((i : Int) < 0) := by omega
      have hle : (i : Int) ≤ (t.size : Int) := by omega
      have hle1 : (i : Int) + 1 ≤ (t.size : Int) := by omega
      have H2 := Lib.hid (show (pre ++ [t.extract 0 i]) ++ partsB c (t.extract (i + 1) t.size) = partsB c s from by rw [← HA.out.2.1, h3]; simp)
      have HL := Lib.hid (leftB_of x2)
      clear h1 h3 hix hlen
      gi_wp2
      refine hR.mono ?_
      rintro e W1 (⟨rfl, hJ1, hst⟩ | ⟨rfl, hx1⟩)
      · have hat1 := HA.out.1.stands hst
        have y1 := hat1.1.cell
        have y2 := hat1.2.1.cell
        have f2 := hat1.2.1.frozen
        have l2 := hat1.2.1.lt
        have H3 := Lib.hid (And.intro (hat1.set (t.extract (i + 1) t.size)) (hJb _ _ (.string (t.extract (i + 1) t.size)) hJ1))
        clear hJ1 hst hat1
        gi_wp2
        go_roundw
        case rel => exact ⟨_, _, H2.out, by simp; omega, H3.out.1, H3.out.2⟩
        case measure =>
          rw [leftB_of H3.out.1.2.1.cell, HL.out]
          simp
          omega
      · gi_wp2
        refine bodyPost_ret (results_none rfl _ _ _) rfl ?_
        exact ⟨⟨_, rfl⟩, .inr ⟨_, ⟨_, H2.out⟩, hx1⟩⟩
end Go.Proofs.YtlifonflgcfafaaGreatDoor
