/-
  A range over a function whose iterator stores into ONE cell of its own between its rounds: the loop's law.
  No condition beyond those that each theorem states.
-/
import Derived.Test.YtjgaidojohgenaaDoorPostBase
import Derived.RangeFuncWrites
namespace Go.Proofs.YtjgaidojohgenaaDoor
open Go Go.RowKit

/-- The blocks of ks lie as they lay. -/
def Stands (ks : List Nat) (W W' : World) : Prop := ∀ p ∈ ks, W'.heap[p]? = W.heap[p]?

theorem Stands.trans {ks : List Nat} {A B C : World} (h : Stands ks A B) (k : Stands ks B C) : Stands ks A C := fun p hp => (k p hp).trans (h p hp)

theorem Stands.put {ks : List Nat} {W : World} {d : Nat} (hk : ∀ p ∈ ks, p < d) (o : Obj) : Stands ks W (W.putObj (d + 1) o) := fun p hp => World.putObj_heap_other (by have := hk p hp; omega)


/-- An iterator that may store into block b between two rounds. -/
def SeqB {α : Type} (F : Fence) (n : Nat) (P : Program) (g : Nat) (lb : Array Value) (encs : α → Array Value) (b : Nat) (ks : List Nat) (S Sp : List α → Prop) (N : Nat) (Pre : World → Prop) : Prop :=
  ∀ (l : Nat) (J Jx : List α → World → Prop) (W : World), Pre W → (∀ s W v, J s W → J s (W.setCell ⟨b, 0, none⟩ v)) →
    (∀ pre x W1, J pre W1 → pre.length < N → Sp (pre ++ [x]) → YieldAt F (n - 1) P l (encs x) W1 fun e W' => (e = .returned (.bool true) ∧ J (pre ++ [x]) W' ∧ Stands ks W1 W') ∨ (e = .returned (.bool false) ∧ Jx (pre ++ [x]) W')) →
    J [] W → CallsIn F n P g (#[.func (.yield l) #[] #[]] ++ lb) W fun e W' => (∃ v, e = .returned v) ∧ ((∃ xs, S xs ∧ J xs W') ∨ (∃ pre, Sp pre ∧ Jx pre W'))


/-- The two blocks that a loop lays: the rounds' deferred calls (none), its record. -/
structure LoopAt (W : World) (d : Nat) (r : Loop) : Prop where
  rcd : W.heap[d + 1]? = some (.loop r)
  def_ : W.heap[d]? = some (.deferred (some []))

theorem LoopAt.put {W : World} {d : Nat} {r : Loop} (h : LoopAt W d r) (r' : Loop) : LoopAt (W.putObj (d + 1) (.loop r')) d r' :=
  ⟨World.putObj_heap_same (lt_of_at h.rcd), (World.putObj_heap_other (by omega)).trans h.def_⟩

theorem LoopAt.from {W W' : World} {d : Nat} {r : Loop} (h : LoopAt W d r) (k : KeepsFrom d W W') : LoopAt W' d r := ⟨k.same _ _ (by omega) h.rcd rfl, k.same _ _ (Nat.le_refl _) h.def_ rfl⟩

theorem LoopAt.set {W : World} {d b : Nat} {r : Loop} (h : LoopAt W d r) (hb : b < d) (v : Value) : LoopAt (W.setCell ⟨b, 0, none⟩ v) d r :=
  ⟨(Below.heap_setCell W ⟨b, 0, none⟩ v (d + 1) (fun e => by have : d + 1 = b := e; omega)).trans h.rcd, (Below.heap_setCell W ⟨b, 0, none⟩ v d (fun e => by have : d = b := e; omega)).trans h.def_⟩

theorem LoopAt.new (w : World) (r : Loop) : LoopAt ((w.alloc (.deferred (some []))).alloc (.loop r)) w.heap.size r :=
  ⟨(new2 w (.deferred (some [])) (.loop r)).2, (new2 w (.deferred (some [])) (.loop r)).1⟩

section
variable {F : Fence} {n : Nat} {P : Program}
theorem wpIn_rangeFunc_B {α : Type} {g : Operand} {ps : Array Tmp} {assign body : Code} {Q : Exit → Act → World → Prop} {a : Act} {w : World}
    (hro : F.round = none) (h1 : 1 ≤ n) {gf : Nat} {lb : Array Value} (hg : a.eval g = .func (.func gf) #[] lb) (hFg : F.fn gf) (eg : ∀ args w, (callFunc gf args).run P w = .ok (.enter gf args) w)
    {encs : α → Array Value} {b : Nat} {ks : List Nat} {S Sp : List α → Prop} {N : Nat} {Pre : World → Prop} (hseq : SeqB F (n - 1) P gf lb encs b ks S Sp N Pre) (hPre : ∀ W, Keeps [] w W → Pre W)
    (hb : b < w.heap.size) (hks : ∀ p ∈ ks, p < w.heap.size) (hps : ∀ x, (encs x).size = ps.size)
    (I : List α → World → Prop) (Ix : Code → List α → World → Prop) (hI : OwnFrom w.heap.size I) (hIx : ∀ c, OwnFrom w.heap.size (Ix c)) (hIb : ∀ s W v, I s W → I s (W.setCell ⟨b, 0, none⟩ v)) (h0 : I [] w) (a₁ : α → Act)
    (hassign : ∀ (l : Nat) (x : α) (W : World) (K : Act → World → Prop), K (a₁ x) W →
      assign.wpIn (F.inRound l) (n - 1 - 1) P (Exit.then K (fun _ _ _ => False)) { tmps := (ps.zip (encs x)).foldl (fun t (p, v) => t.setIfInBounds p v) a.tmps, defers := [] } W)
    (hbody : ∀ (l : Nat) (pre : List α) (x : α) (W : World), I pre W → pre.length < N → Sp (pre ++ [x]) → body.wpIn (F.inRound l) (n - 1 - 1) P (ownPostG w.heap.size (Stands ks) I Ix (pre ++ [x]) W) (a₁ x) W)
    (hdone : ∀ (D : Nat) (xs : List α) (W : World), w.heap.size ≤ D → S xs → I xs W → W.heap[D]? = some (.deferred (some [])) → Q .normal { a with defers := { target := .collected D, args := #[] } :: a.defers } W)
    (hstop : ∀ (D : Nat) (c : Code) (pre : List α) (W : World), w.heap.size ≤ D → Sp pre → Ix c pre W → W.heap[D]? = some (.deferred (some [])) → c.wpIn F n P Q { a with defers := { target := .collected D, args := #[] } :: a.defers } W) :
    (Code.rangeFunc g ps assign body).wpIn F n P Q a w := by
  refine wpIn_rangeFunc fun fn hfn => ?_
  rw [hro]
  -- the record in its states
  let r : LoopState → Option Code → Loop := fun st pe => { state := st, pending := pe, fn, tmps := a.tmps, params := ps, assign, body, defers := w.heap.size }
  have hnew := LoopAt.new w (r .ready none)
  have kW : Keeps [] w ((w.alloc (.deferred (some []))).alloc (.loop (r .ready none))) := ((Keeps.refl [] w).alloc _).alloc _
  have hI1 : I [] ((w.alloc (.deferred (some []))).alloc (.loop (r .ready none))) := hI.alloc _ (hI.alloc _ h0)
  obtain ⟨W1, hW1⟩ : ∃ W1, (w.alloc (.deferred (some []))).alloc (.loop (r .ready none)) = W1 := ⟨_, rfl⟩
  rw [hW1] at hnew kW hI1
  refine ⟨w.heap.size + 1, [{ target := .collected w.heap.size, args := #[] }], W1, { target := .fn (.func gf) lb, args := #[.func (.yield (w.heap.size + 1)) #[] #[]] }, W1, gf,
    #[.func (.yield (w.heap.size + 1)) #[] #[]] ++ lb, W1, by rw [← hW1]; exact run_enterLoop_outer _ _ _ _ _, ?_, ?_, ?_, fun _ => h1, ?_⟩
  · simp only [resolve, hg]
    simp [go_sem]
  · intro f' hf'
    simp [Target.leads] at hf'
    subst hf'
    exact hFg
  · simp [invoke, go_sem, eg]
  refine (hseq (w.heap.size + 1) (fun pre W => I pre W ∧ LoopAt W w.heap.size (r .ready none)) (fun pre W => ∃ c, Ix c pre W ∧ LoopAt W w.heap.size (r .done (some c))) _ (hPre _ kW) (fun s W v h => ⟨hIb s W v h.1, h.2.set hb v⟩) ?_ ⟨hI1, hnew⟩).mono ?_
  · -- a round: the record goes busy, the body runs, the record goes ready or done
    rintro pre x W ⟨hi, hl⟩ hlen hsp
    refine ⟨fn, _, assign, body, run_yield hl.rcd (hps x), roundIn_of_wpIn hfn (hassign _ x W _ ⟨_, run_beginRound hl.rcd rfl, ?_⟩)⟩
    have hl2 := hl.put { r .ready none with state := .busy }
    refine wpIn_mono (hbody _ pre x _ (hI.putObj _ hi (by omega) hl.rcd rfl) hlen hsp) ?_
    have fin : ∀ (jump : Option Code) (W3 : World), LoopAt W3 w.heap.size { r .ready none with state := .busy } → (Instr.endRound (w.heap.size + 1) jump).run P W3 = .ok (.bool jump.isNone) (W3.putObj (w.heap.size + 1) (.loop (r (if jump.isNone then .ready else .done) jump))) :=
      fun jump W3 h3 => run_endRound jump h3.rcd
    have out : ∀ (c : Code) (W3 : World), KeepsFrom w.heap.size (W.putObj (w.heap.size + 1) (.loop { r .ready none with state := .busy })) W3 → Ix c (pre ++ [x]) W3 → ∃ c', Ix c' (pre ++ [x]) (W3.putObj (w.heap.size + 1) (.loop (r .done (some c)))) ∧ LoopAt (W3.putObj (w.heap.size + 1) (.loop (r .done (some c)))) w.heap.size (r .done (some c')) :=
      fun c W3 k3 h => ⟨c, (hIx c).putObj _ h (by omega) (hl2.from k3).rcd rfl, (hl2.from k3).put _⟩
    intro e a3 W3 hp
    match e, hp with
    | .normal, ⟨k3, s3, i3⟩ => exact ⟨_, _, fin none W3 (hl2.from k3), .inl ⟨rfl, ⟨hI.putObj _ i3 (by omega) (hl2.from k3).rcd rfl, (hl2.from k3).put _⟩, ((Stands.put hks _).trans s3).trans (Stands.put hks _)⟩⟩
    | .ret, ⟨k3, i3⟩ => exact ⟨_, _, fin (some .ret) W3 (hl2.from k3), .inr ⟨rfl, out .ret W3 k3 i3⟩⟩
    | .exit id, ⟨k3, i3⟩ => exact ⟨_, _, fin (some (.exit id)) W3 (hl2.from k3), .inr ⟨rfl, out (.exit id) W3 k3 i3⟩⟩
    | .goto t, ⟨k3, i3⟩ => exact ⟨_, _, fin (some (.goto t)) W3 (hl2.from k3), .inr ⟨rfl, out (.goto t) W3 k3 i3⟩⟩
    | .panic _, h => exact h.elim
    | .outgrown, h => exact h.elim
  · rintro e W2 ⟨⟨v, rfl⟩, ⟨xs, hS, hi, hl⟩ | ⟨pre, hSp, c, hi, hl⟩⟩
    · exact ⟨none, _, run_endLoop hl.rcd (by simp [r]), hdone _ xs _ (Nat.le_refl _) hS (hI.putObj _ hi (by omega) hl.rcd rfl) ((World.putObj_heap_other (by omega)).trans hl.def_)⟩
    · exact ⟨some c, _, run_endLoop hl.rcd (by simp [r]), hstop _ c pre _ (Nat.le_refl _) hSp ((hIx c).putObj _ hi (by omega) hl.rcd rfl) ((World.putObj_heap_other (by omega)).trans hl.def_)⟩
end
end Go.Proofs.YtjgaidojohgenaaDoor
