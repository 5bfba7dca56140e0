/-
  Package head: a head in general: its cell, its two maps, its index, its series; what one step of a call turns, and what stays.
  No condition beyond those that each theorem states.
-/
import Derived.Test.YtgdkceeonnfejaaGreatDoorPostIxD
import Derived.Test.YtgdkceeonnfejaaGreatDoorPostGood
import Derived.Test.YtgdkceeonnfejaaGreatDoorMapI
import Derived.Test.YtgdkceeonnfejaaGreatDoorKeyG
import Derived.Test.YtgdkceeonnfejaaGreatDoorHead1
namespace Go.Proofs.YtgdkceeonnfejaaGreatDoor
open Go Go.RowKit
def Calm (t : TypeId) : Prop := t ≠ 3 ∧ t ≠ 142 ∧ t ≠ 83 ∧ t ≠ 102 ∧ t ≠ 42
instance (t : TypeId) : Decidable (Calm t) := by unfold Calm; infer_instance
structure HFr (X : List Nat) (w0 w w' : World) : Prop where
 keeps : Keeps [] w0 w'
 still : ∀ (q : Nat) (cs : Array Value) (t : TypeId), Calm t → w.heap[q]? = some (.cells cs t (0, 0)) → w'.heap[q]? = some (.cells cs t (0, 0))
 x : ∀ c ∈ X, ∀ o, w.heap[c]? = some o → w'.heap[c]? = some o
 size : w.heap.size ≤ w'.heap.size
section
variable {X S : List Nat} {w0 a b c w w' : World}
theorem HFr.refl (k : Keeps [] w0 w) : HFr X w0 w w := ⟨k, fun _ _ _ _ h => h, fun _ _ _ h => h, Nat.le_refl _⟩
theorem HFr.keep (f : HFr X w0 a b) (k : Keeps [] b c) : HFr X w0 a c := ⟨f.keeps.trans k, fun q cs t ht h => k.at_ (f.still q cs t ht h) (by simp), fun d hd o h => k.at_ (f.x d hd o h) (by simp), Nat.le_trans f.size k.size⟩
theorem HFr.trans (f : HFr X w0 a b) (g : HFr X w0 b c) : HFr X w0 a c := ⟨g.keeps, fun q cs t ht h => g.still q cs t ht (f.still q cs t ht h), fun d hd o h => g.x d hd o (f.x d hd o h), Nat.le_trans f.size g.size⟩
instance go1HFr : Go1 w w' (HFr X w0 a w) (HFr X w0 a w') := ⟨fun k h => h.keep k⟩
theorem HFr.step (f : HFr X w0 a b) (k : Keeps S b c) (hS : ∀ y ∈ S, w0.heap.size ≤ y ∧ y ∉ X ∧ ∀ cs t, Calm t → b.heap[y]? ≠ some (.cells cs t (0, 0))) : HFr X w0 a c :=
 ⟨f.keeps.after k (fun y hy => .inr (hS y hy).1), fun q cs t ht h => k.at_ (f.still q cs t ht h) (fun hy => (hS q hy).2.2 cs t ht (f.still q cs t ht h)), fun d hd o h => k.at_ (f.x d hd o h) (fun hy => (hS d hy).2.1 hd), Nat.le_trans f.size k.size⟩
theorem HFr.one {y : Nat} {o : Obj} (f : HFr X w0 a b) (k : Keeps [y] b c) (hy : b.heap[y]? = some o) (h0 : w0.heap.size ≤ y) (hX : y ∉ X) (ho : ∀ cs t z, o = .cells cs t z → ¬ Calm t) : HFr X w0 a c :=
 f.step k fun z hz => by
  obtain rfl : z = y := by simpa using hz
  refine ⟨h0, hX, fun cs t ht e => ?_⟩
  rw [hy] at e
  injection e with e
  exact ho _ _ _ e ht
theorem HFr.k2 {Y : List Nat} (f : HFr X w0 a b) (k : K2 Y w0 b c) (hY : ∀ d ∈ X, d ∈ Y) : HFr X w0 a c :=
 ⟨k.1, fun q cs t ht h => k.2.1 q cs t ht.1 ht.2.1 (f.still q cs t ht h), fun d hd o h => k.2.2.1 d (hY d hd) o (f.x d hd o h), Nat.le_trans f.size k.2.2.2⟩
theorem row_obj {B s n g : Nat} {e : TypeId} {v : Value} {xs : List Value} (h : w.ownsRow B e s v n xs) (hg : v.ownBlock = some g) : ∃ cur, w.heap[g]? = some (.cells cur e (0, 0)) := by
 obtain ⟨_, ⟨rfl, _⟩ | ⟨g', cap, cur, rfl, _, h1, _⟩⟩ := h
 ·simp [Value.ownBlock] at hg
 ·obtain rfl : g' = g := by simpa [Value.ownBlock] using hg
  exact ⟨cur, h1⟩
theorem row_stays {B s n : Nat} {e : TypeId} {v : Value} {xs : List Value} (h : w.ownsRow B e s v n xs) (hs : ∀ (q : Nat) (cs : Array Value), w.heap[q]? = some (Obj.cells cs e (0, 0)) → w'.heap[q]? = some (Obj.cells cs e (0, 0))) : w'.ownsRow B e s v n xs := by
 obtain ⟨h0, h | ⟨g', cap, cur, h1, h2, h3, h4⟩⟩ := h
 ·exact ⟨h0, .inl h⟩
 ·exact ⟨h0, .inr ⟨g', cap, cur, h1, h2, hs _ _ h3, h4⟩⟩
theorem HFr.row {B s n : Nat} {e : TypeId} {v : Value} {xs : List Value} (f : HFr X w0 w w') (h : w.ownsRow B e s v n xs) (he : Calm e) : w'.ownsRow B e s v n xs := row_stays h fun q cs hq => f.still q cs e he hq
theorem HFr.less {Y : List Nat} (f : HFr X w0 w w') (hY : ∀ c ∈ Y, c ∈ X) : HFr Y w0 w w' := ⟨f.keeps, f.still, fun c hc o h => f.x c (hY c hc) o h, f.size⟩
end
structure SerH where
 ref : Int
 sb : Nat
 lv : Value
 va : Value
 lab : List PairB
 l : List SmpB
 last : Int
structure SerAt (B : Nat) (w : World) (s : SerH) : Prop where
 at_ : w.heap[s.sb]? = some (.cells #[s.lv, s.va, .int .i64 s.last] 102 (0, 0))
 lab : w.ownsRow B 149 2 s.lv s.lab.length (s.lab.flatMap encPB)
 smp : w.ownsRow B 42 2 s.va s.l.length (s.l.flatMap encSm)
 base : B ≤ s.sb
def refE (s : SerH) : ByteArray × Value := (keyP s.lab, .int .i64 s.ref)
def ofE (s : SerH) : Int × Value := (s.ref, .pointer (some ⟨s.sb, 0, none⟩))
def serT (s : SerH) : SerT := (s.ref, s.lab)
structure HeadP (B : Nat) (w : World) (h : Nat) (a b c : Int) (rb ob x mb : Nat) (M : KV) (N : KVN) (va : Value) (E : OutG) (all : List Int) (S : List SerH) (next n floor top : Int) : Prop where
 hc : HeadC w h a b c rb ob x next n floor top
 refs : MapAt w rb M
 of_ : MapAtN w ob N
 ix : IxG B w x mb va E all
 ser : ∀ s ∈ S, SerAt B w s
structure HeadX (B : Nat) (X : List Nat) (h rb ob x mb : Nat) (va : Value) (E : OutG) (S : List SerH) : Prop where
 ne : rb ≠ ob
 ap : ApX (rb :: ob :: X) x mb va E
 apX : ∀ c ∈ X, c ≠ rb ∧ c ≠ ob ∧ c ≠ h
 apS : ∀ c ∈ X, ∀ s ∈ S, c ≠ s.sb ∧ s.va.ownBlock ≠ some c
 ser : S.Pairwise fun s t => s.sb ≠ t.sb ∧ ∀ g, s.va.ownBlock = some g → t.va.ownBlock ≠ some g
 base : B ≤ rb ∧ B ≤ ob ∧ B ≤ x ∧ B ≤ mb ∧ B ≤ h
def HeadAt (B : Nat) (X : List Nat) (w : World) (h : Nat) (a b c : Int) (S : List SerH) (next n floor top : Int) : Prop :=
 ∃ rb ob x mb va E all, HeadP B w h a b c rb ob x mb (S.map refE) (S.map ofE) va E all S next n floor top ∧ HeadX B X h rb ob x mb va E S ∧ IdxI (S.map (·.ref)) (S.map serT) (absG E) all ∧ ∀ c ∈ X, c < w.heap.size
section
variable {B : Nat} {X : List Nat} {w w' : World} {h rb ob x mb : Nat} {a b c next n floor top : Int} {M : KV} {N : KVN} {va : Value} {E : OutG} {all : List Int} {S : List SerH}
theorem SerAt.apart {s : SerH} {T : List Nat} (H : SerAt B w s) (k : Keeps T w w') (h1 : s.sb ∉ T) (h2 : ∀ g, s.lv.ownBlock = some g → g ∉ T) (h3 : ∀ g, s.va.ownBlock = some g → g ∉ T) : SerAt B w' s := ⟨k.at_ H.at_ h1, k.row H.lab h2, k.row H.smp h3, H.base⟩
theorem SerAt.keep {s : SerH} (H : SerAt B w s) (k : Keeps [] w w') : SerAt B w' s := H.apart k (by simp) (by simp) (by simp)
instance go1SerAt {s : SerH} : Go1 w w' (SerAt B w s) (SerAt B w' s) := ⟨fun k H => H.keep k⟩
instance go1MapAtN {m : KVN} {q : Nat} : Go1 w w' (MapAtN w q m) (MapAtN w' q m) := ⟨fun k H => H.keep k (by simp)⟩
theorem HeadP.keep (H : HeadP B w h a b c rb ob x mb M N va E all S next n floor top) (k : Keeps [] w w') : HeadP B w' h a b c rb ob x mb M N va E all S next n floor top := ⟨go1 k H.hc, go1 k H.refs, go1 k H.of_, go1 k H.ix, fun s hs => (H.ser s hs).keep k⟩
instance go1HeadP : Go1 w w' (HeadP B w h a b c rb ob x mb M N va E all S next n floor top) (HeadP B w' h a b c rb ob x mb M N va E all S next n floor top) := ⟨fun k H => H.keep k⟩
theorem HeadAt.keep (H : HeadAt B X w h a b c S next n floor top) (k : Keeps [] w w') : HeadAt B X w' h a b c S next n floor top := by
 obtain ⟨rb, ob, x, mb, va, E, all, h1, h2, h3, h4⟩ := H
 exact ⟨rb, ob, x, mb, va, E, all, h1.keep k, h2, h3, fun c hc => k.lt (h4 c hc)⟩
instance go1HeadAt : Go1 w w' (HeadAt B X w h a b c S next n floor top) (HeadAt B X w' h a b c S next n floor top) := ⟨fun k H => H.keep k⟩
theorem IxG.apart {T : List Nat} (H : IxG B w x mb va E all) (k : Keeps T w w') (hx : x ∉ T) (hm : mb ∉ T) (hv : ∀ g, va.ownBlock = some g → g ∉ T) (he : ∀ p ∈ E, p.2.1 ∉ T ∧ ∀ q ∈ p.2.2, q.2.g ∉ T) : IxG B w' x mb va E all :=
 ⟨k.at_ H.at_ hx, k.row H.own hv, H.map.keep k hm, fun p hp => ⟨(H.ent p hp).1.keep k (he p hp).1, (H.ent p hp).2⟩, fun p hp q hq => ⟨(H.row p hp q hq).1, k.row (H.row p hp q hq).2.1 (fun g hg => by
  obtain rfl : q.2.g = g := by simpa [RowG.val, Value.ownBlock] using hg
  exact (he p hp).2 q hq), (H.row p hp q hq).2.2⟩, H.apartE, H.apartR⟩
theorem IxG.apartO {T : List Nat} (H : IxG B w x mb va E all) (k : Keeps T w w') (hT : ∀ y ∈ T, ∃ o, w.heap[y]? = some o ∧ (∀ cs t z, o = .cells cs t z → t ≠ 3 ∧ t ≠ 142) ∧ ∀ e k, o = .map e k → y ≠ mb ∧ ∀ p ∈ E, y ≠ p.2.1) : IxG B w' x mb va E all := by
 have hrow : ∀ {v : Value} {l : List Int}, Own B w v l → ∀ g, v.ownBlock = some g → g ∉ T := fun hv g hg hy => by
  obtain ⟨o, h1, h2, _⟩ := hT g hy
  obtain ⟨cur, h3⟩ := row_obj hv hg
  rw [h3] at h1
  injection h1 with h1
  exact (h2 _ _ _ h1.symm).1 rfl
 refine H.apart k (fun hy => ?_) (fun hy => ?_) (hrow H.own) fun p hp => ⟨fun hy => ?_, fun q hq => hrow (H.row p hp q hq).2.1 q.2.g rfl⟩
 ·obtain ⟨o, h1, h2, _⟩ := hT x hy
  have h3 := H.at_
  unfold IxAt at h3
  rw [h3] at h1
  injection h1 with h1
  exact (h2 _ _ _ h1.symm).2 rfl
 ·obtain ⟨o, h1, _, h2⟩ := hT mb hy
  obtain ⟨_, _, h3, _⟩ := H.map
  rw [h3] at h1
  injection h1 with h1
  exact (h2 _ _ h1.symm).1 rfl
 ·obtain ⟨o, h1, _, h2⟩ := hT _ hy
  obtain ⟨_, _, h3, _⟩ := (H.ent p hp).1
  rw [h3] at h1
  injection h1 with h1
  exact (h2 _ _ h1.symm).2 p hp rfl
theorem HeadP.cells {T : List Nat} (H : HeadP B w h a b c rb ob x mb M N va E all S next n floor top) (k : Keeps T w w') (hT : ∀ y ∈ T, ∃ cs t z, w.heap[y]? = some (.cells cs t z) ∧ (t = 102 ∨ t = 42) ∧ ∀ s ∈ S, s.sb ≠ y ∧ s.va.ownBlock ≠ some y) : HeadP B w' h a b c rb ob x mb M N va E all S next n floor top := by
 refine ⟨k.at_ H.hc fun hy => ?_, H.refs.keep k fun hy => ?_, H.of_.keep k fun hy => ?_, H.ix.apartO k fun y hy => ?_, fun s hs => (H.ser s hs).apart k (fun hy => ?_) (fun g hg hy => ?_) fun g hg hy => ?_⟩
 ·obtain ⟨cs, t, z, h1, h2, _⟩ := hT h hy
  have h3 := H.hc
  unfold HeadC at h3
  rw [h3] at h1
  injection h1 with h1
  injection h1 with _ h1 _
  rcases h2 with rfl | rfl <;> exact absurd h1 (by decide)
 ·obtain ⟨cs, t, z, h1, _⟩ := hT rb hy
  exact H.refs.ne h1 rfl
 ·obtain ⟨cs, t, z, h1, _⟩ := hT ob hy
  exact H.of_.ne h1 rfl
 ·obtain ⟨cs, t, z, h1, h2, _⟩ := hT y hy
  refine ⟨_, h1, fun cs' t' z' e => ?_, fun e' k' e => by cases e⟩
  injection e with _ e _
  subst e
  rcases h2 with rfl | rfl <;> decide
 ·obtain ⟨cs, t, z, _, _, h3⟩ := hT _ hy
  exact (h3 s hs).1 rfl
 ·obtain ⟨cs, t, z, h1, h2, _⟩ := hT _ hy
  exact row_ne_cells (H.ser s hs).lab h1 (by rcases h2 with rfl | rfl <;> decide) g hg rfl
 ·obtain ⟨cs, t, z, _, _, h3⟩ := hT _ hy
  exact (h3 s hs).2 hg
theorem HeadP.head {next' n' floor' top' : Int} (H : HeadP B w h a b c rb ob x mb M N va E all S next n floor top) (k : Keeps [h] w w') (hc : HeadC w' h a b c rb ob x next' n' floor' top') : HeadP B w' h a b c rb ob x mb M N va E all S next' n' floor' top' := by
 have h0 := H.hc
 unfold HeadC at h0
 refine ⟨hc, H.refs.keep k (by simpa using fun e => H.refs.ne h0 e.symm), H.of_.keep k (by simpa using fun e => H.of_.ne h0 e.symm), H.ix.apartO k fun y hy => ?_, fun s hs => (H.ser s hs).apart k (by simpa using ne_of_at (H.ser s hs).at_ h0 (by simp)) (fun g hg => by simpa using row_ne_cells (H.ser s hs).lab h0 (by decide) g hg) fun g hg => by simpa using row_ne_cells (H.ser s hs).smp h0 (by decide) g hg⟩
 obtain rfl : y = h := by simpa using hy
 refine ⟨_, h0, fun cs' t' z' e => ?_, fun e' k' e => by cases e⟩
 injection e with _ e _
 subst e
 decide
theorem row_off_map {s n q : Nat} {e : TypeId} {v : Value} {xs : List Value} {es : Array MapEntry} {k : Nat} (H : w.ownsRow B e s v n xs) (hq : w.heap[q]? = some (.map es k)) : ∀ g, v.ownBlock = some g → g ∉ [q] := fun g hg => by simpa using row_ne_mapO H hq g hg
theorem HeadP.maps {y : Nat} {es : Array MapEntry} {ck : Nat} (H : HeadP B w h a b c rb ob x mb M N va E all S next n floor top) (k : Keeps [y] w w') (hy : w.heap[y]? = some (.map es ck)) (h1 : y ≠ mb) (h2 : ∀ p ∈ E, y ≠ p.2.1) {M' : KV} {N' : KVN} (hr : MapAt w' rb M') (ho : MapAtN w' ob N') : HeadP B w' h a b c rb ob x mb M' N' va E all S next n floor top := by
 have h0 := H.hc
 unfold HeadC at h0
 refine ⟨k.at_ H.hc (by simpa using ne_of_at h0 hy (by simp)), hr, ho, H.ix.apartO k fun z hz => ?_, fun s hs => (H.ser s hs).apart k (by simpa using ne_of_at (H.ser s hs).at_ hy (by simp)) (row_off_map (H.ser s hs).lab hy) (row_off_map (H.ser s hs).smp hy)⟩
 obtain rfl : z = y := by simpa using hz
 exact ⟨_, hy, fun cs t z e => (by cases e), fun e k' _ => ⟨h1, h2⟩⟩
theorem HeadP.putRefs {M' : KV} (H : HeadP B w h a b c rb ob x mb M N va E all S next n floor top) (hx : HeadX B X h rb ob x mb va E S) (k : Keeps [rb] w w') (hm : MapAt w' rb M') : HeadP B w' h a b c rb ob x mb M' N va E all S next n floor top := by
 obtain ⟨e, ck, h1, _⟩ := H.refs
 exact H.maps k h1 (fun e => hx.ap.mb (by simp [e])) (fun p hp e => hx.ap.ent p hp (by simp [e])) hm (H.of_.keep k (by simpa using fun e => hx.ne e.symm))
theorem HeadP.putOf {N' : KVN} (H : HeadP B w h a b c rb ob x mb M N va E all S next n floor top) (hx : HeadX B X h rb ob x mb va E S) (k : Keeps [ob] w w') (hm : MapAtN w' ob N') : HeadP B w' h a b c rb ob x mb M N' va E all S next n floor top := by
 obtain ⟨e, ck, h1, _⟩ := H.of_
 exact H.maps k h1 (fun e => hx.ap.mb (by simp [e])) (fun p hp e => hx.ap.ent p hp (by simp [e])) (H.refs.keep k (by simpa using hx.ne)) hm
theorem HeadP.index {Y : List Nat} {w0 : World} {va' : Value} {E' : OutG} {all' : List Int} (H : HeadP B w h a b c rb ob x mb M N va E all S next n floor top) (k : K2 Y w0 w w') (h1 : rb ∈ Y) (h2 : ob ∈ Y) (hi : IxG B w' x mb va' E' all') : HeadP B w' h a b c rb ob x mb M N va' E' all' S next n floor top := by
 refine ⟨k.2.1 _ _ _ (by decide) (by decide) H.hc, ?_, ?_, hi, fun s hs => ⟨k.2.1 _ _ _ (by decide) (by decide) (H.ser s hs).at_, row_stays (H.ser s hs).lab fun q cs hq => k.2.1 _ _ _ (by decide) (by decide) hq, row_stays (H.ser s hs).smp fun q cs hq => k.2.1 _ _ _ (by decide) (by decide) hq, (H.ser s hs).base⟩⟩
 ·obtain ⟨e, ck, h3, h4⟩ := H.refs
  exact ⟨e, ck, k.2.2.1 _ h1 _ h3, h4⟩
 ·obtain ⟨e, ck, h3, h4⟩ := H.of_
  exact ⟨e, ck, k.2.2.1 _ h2 _ h3, h4⟩
theorem HeadP.less {S' : List SerH} (H : HeadP B w h a b c rb ob x mb M N va E all S next n floor top) (hS : ∀ s ∈ S', s ∈ S) : HeadP B w h a b c rb ob x mb M N va E all S' next n floor top := ⟨H.hc, H.refs, H.of_, H.ix, fun s hs => H.ser s (hS s hs)⟩
theorem HeadP.more {S1 S2 : List SerH} {s : SerH} (H : HeadP B w h a b c rb ob x mb M N va E all (S1 ++ S2) next n floor top) (hs : SerAt B w s) : HeadP B w h a b c rb ob x mb M N va E all (S1 ++ s :: S2) next n floor top := ⟨H.hc, H.refs, H.of_, H.ix, fun t ht => by
 rcases List.mem_append.1 ht with ht | ht
 ·exact H.ser t (List.mem_append_left _ ht)
 ·rcases List.mem_cons.1 ht with rfl | ht
  ·exact hs
  ·exact H.ser t (List.mem_append_right _ ht)⟩
theorem pairwise_mid {α : Type} {R : α → α → Prop} {A C : List α} {s : α} (h : (A ++ s :: C).Pairwise R) : (∀ t ∈ A, R t s) ∧ (∀ t ∈ C, R s t) ∧ (A ++ C).Pairwise R := by
 rw [List.pairwise_append, List.pairwise_cons] at h
 exact ⟨fun t ht => h.2.2 t ht s List.mem_cons_self, h.2.1.1, List.pairwise_append.2 ⟨h.1, h.2.1.2, fun t ht u hu => h.2.2 t ht u (List.mem_cons_of_mem _ hu)⟩⟩
theorem pairwise_put {α : Type} {R : α → α → Prop} {A C : List α} {s : α} (h : (A ++ C).Pairwise R) (h1 : ∀ t ∈ A, R t s) (h2 : ∀ t ∈ C, R s t) : (A ++ s :: C).Pairwise R := by
 rw [List.pairwise_append] at h ⊢
 exact ⟨h.1, List.pairwise_cons.2 ⟨h2, h.2.1⟩, fun t ht u hu => by
  rcases List.mem_cons.1 hu with rfl | hu
  ·exact h1 t ht
  ·exact h.2.2 t ht u hu⟩
theorem HeadX.mid {S1 S2 : List SerH} {s : SerH} (H : HeadX B X h rb ob x mb va E (S1 ++ s :: S2)) : ∀ t ∈ S1 ++ S2, t.sb ≠ s.sb ∧ ∀ g, s.va.ownBlock = some g → t.va.ownBlock ≠ some g := fun t ht => by
 have hp := pairwise_mid H.ser
 rcases List.mem_append.1 ht with ht | ht
 ·exact ⟨(hp.1 t ht).1, fun g hg e => (hp.1 t ht).2 g e hg⟩
 ·exact ⟨fun e => (hp.2.1 t ht).1 e.symm, fun g hg e => (hp.2.1 t ht).2 g hg e⟩
theorem HeadX.turn {S1 S2 : List SerH} {s s' : SerH} (H : HeadX B X h rb ob x mb va E (S1 ++ s :: S2)) (hs : ∀ t ∈ S1 ++ S2, SerAt B w t) (hX : ∀ c ∈ X, c < w.heap.size) (e1 : s'.sb = s.sb) (e2 : ∀ g, s'.va.ownBlock = some g → s.va.ownBlock = some g ∨ w.heap.size ≤ g) : HeadX B X h rb ob x mb va E (S1 ++ s' :: S2) := by
 have hp := pairwise_mid H.ser
 have hm := H.mid
 have hne : ∀ t ∈ S1 ++ S2, ∀ g, s'.va.ownBlock = some g → t.va.ownBlock ≠ some g := fun t ht g hg e => by
  rcases e2 g hg with h1 | h1
  ·exact (hm t ht).2 g h1 e
  ·have := (World.ownsRow.lt (hs t ht).smp g e).2
   omega
 refine ⟨H.ne, H.ap, H.apX, fun d hd t ht => ?_, pairwise_put hp.2.2 (fun t ht => ⟨by rw [e1]; exact (hp.1 t ht).1, fun g hg e => hne t (List.mem_append_left _ ht) g e hg⟩) (fun t ht => ⟨by rw [e1]; exact (hp.2.1 t ht).1, fun g hg e => hne t (List.mem_append_right _ ht) g hg e⟩), H.base⟩
 rcases List.mem_append.1 ht with ht | ht
 ·exact H.apS d hd t (List.mem_append_left _ ht)
 ·rcases List.mem_cons.1 ht with rfl | ht
  ·have h1 := H.apS d hd s (by simp)
   refine ⟨by rw [e1]; exact h1.1, fun e => ?_⟩
   rcases e2 d e with h2 | h2
   ·exact h1.2 h2
   ·have := hX d hd
    omega
  ·exact H.apS d hd t (List.mem_append_right _ (List.mem_cons_of_mem _ ht))
theorem HeadX.snoc {s : SerH} (H : HeadX B X h rb ob x mb va E S) (hs : ∀ t ∈ S, t.sb < s.sb) (hX : ∀ c ∈ X, c < s.sb) (hv : s.va = .slice none 0 0) : HeadX B X h rb ob x mb va E (S ++ [s]) := by
 have h0 : s.va.ownBlock = none := by rw [hv]; rfl
 refine ⟨H.ne, H.ap, H.apX, fun d hd t ht => ?_, List.pairwise_append.2 ⟨H.ser, List.pairwise_singleton _ _, fun t ht u hu => ?_⟩, H.base⟩
 ·rcases List.mem_append.1 ht with ht | ht
  ·exact H.apS d hd t ht
  ·obtain rfl : t = s := by simpa using ht
   exact ⟨by have := hX d hd; omega, by rw [h0]; simp⟩
 ·obtain rfl : u = s := by simpa using hu
  exact ⟨by have := hs t ht; omega, fun g hg e => by rw [h0] at e; cases e⟩
theorem HeadX.ix {va' : Value} {E' : OutG} (H : HeadX B X h rb ob x mb va E S) (ha : ApX (rb :: ob :: X) x mb va' E') : HeadX B X h rb ob x mb va' E' S := ⟨H.ne, ha, H.apX, H.apS, H.ser, H.base⟩
theorem HeadX.drop {S1 S2 : List SerH} {s : SerH} (H : HeadX B X h rb ob x mb va E (S1 ++ s :: S2)) : HeadX B X h rb ob x mb va E (S1 ++ S2) := ⟨H.ne, H.ap, H.apX, fun d hd t ht => H.apS d hd t (by
 rcases List.mem_append.1 ht with ht | ht
 ·exact List.mem_append_left _ ht
 ·exact List.mem_append_right _ (List.mem_cons_of_mem _ ht)), (pairwise_mid H.ser).2.2, H.base⟩
theorem HeadAt.other {X' : List Nat} (H : HeadAt B X w h a b c S next n floor top) (k : Keeps [] w w') (h1 : ∀ d ∈ X', d < w'.heap.size) (h2 : ∀ d ∈ X', d ∈ X ∨ w.heap.size ≤ d) : HeadAt B X' w' h a b c S next n floor top := by
 obtain ⟨rb, ob, x, mb, va, E, all, hp, hx, hi, hl⟩ := H
 have hc := hp.hc
 unfold HeadC at hc
 have lr := hp.refs.lt
 have lo := hp.of_.lt
 have lh := lt_of_at hc
 have key : ∀ {y : Nat}, y < w.heap.size → y ∉ rb :: ob :: X → y ∉ rb :: ob :: X' := fun hy hn hm => by
  rcases List.mem_cons.1 hm with rfl | hm
  ·exact hn List.mem_cons_self
  ·rcases List.mem_cons.1 hm with rfl | hm
   ·exact hn (List.mem_cons_of_mem _ List.mem_cons_self)
   ·rcases h2 _ hm with h3 | h3
    ·exact hn (List.mem_cons_of_mem _ (List.mem_cons_of_mem _ h3))
    ·omega
 refine ⟨rb, ob, x, mb, va, E, all, hp.keep k, ⟨hx.ne, ⟨key (lt_of_at hp.ix.at_) hx.ap.ix, key hp.ix.map.lt hx.ap.mb, fun g hg => key (World.ownsRow.lt hp.ix.own g hg).2 (hx.ap.va g hg), fun p hq => key (hp.ix.ent p hq).1.lt (hx.ap.ent p hq), fun p hq q hr => key (hp.ix.row_lt hq hr).2 (hx.ap.row p hq q hr)⟩, fun d hd => ?_, fun d hd s hs => ?_, hx.ser, hx.base⟩, hi, h1⟩
 ·rcases h2 d hd with h3 | h3
  ·exact hx.apX d h3
  ·omega
 ·rcases h2 d hd with h3 | h3
  ·exact hx.apS d h3 s hs
  ·have l1 := lt_of_at (hp.ser s hs).at_
   exact ⟨by omega, fun e => by have := (World.ownsRow.lt (hp.ser s hs).smp d e).2; omega⟩
theorem HeadP.serCell {S1 S2 : List SerH} {s : SerH} {w' : World} {cs : Array Value} (H : HeadP B w h a b c rb ob x mb M N va E all (S1 ++ S2) next n floor top) (hx : HeadX B X h rb ob x mb va E (S1 ++ s :: S2)) (hs : w.heap[s.sb]? = some (.cells cs 102 (0, 0))) (k : Keeps [s.sb] w w') : HeadP B w' h a b c rb ob x mb M N va E all (S1 ++ S2) next n floor top := H.cells k fun y hy => by
 obtain rfl : y = s.sb := by simpa using hy
 refine ⟨cs, _, _, hs, .inl rfl, fun t ht => ⟨(hx.mid t ht).1, fun e => ?_⟩⟩
 obtain ⟨cur, h2⟩ := row_obj (H.ser t ht).smp e
 rw [hs] at h2
 injection h2 with h2
 injection h2 with _ h2 _
 exact absurd h2 (by decide)
theorem HFr.serOne {S1 S2 : List SerH} {s : SerH} {w0 w1 w' : World} {cs : Array Value} (f : HFr X w0 w1 w) (hx : HeadX B X h rb ob x mb va E (S1 ++ s :: S2)) (hs : w.heap[s.sb]? = some (.cells cs 102 (0, 0))) (h0 : w0.heap.size ≤ s.sb) (k : Keeps [s.sb] w w') : HFr X w0 w1 w' := f.one k hs h0 (fun hm => (hx.apS _ hm s (by simp)).1 rfl) (fun cs t z e => by cases e; decide)
theorem look_refs {S1 S2 : List SerH} {s : SerH} {W : World} (hm : MapAt W rb ((S1 ++ s :: S2).map refE)) : look ((S1 ++ s :: S2).map refE) (keyP s.lab) = some (.int .i64 s.ref) := look_ofG hm.nodup (List.mem_map.2 ⟨s, by simp, rfl⟩)
theorem look_refs_none {S : List SerH} {k : ByteArray} (h : ∀ s ∈ S, keyP s.lab ≠ k) : look (S.map refE) k = none := (look_none_iff _ _).2 fun hm => by
 obtain ⟨e, he, rfl⟩ := List.mem_map.1 hm
 obtain ⟨s, hs, rfl⟩ := List.mem_map.1 he
 exact h s hs rfl
theorem lookN_of {n : Int} {v : Value} : ∀ {o : KVN}, (o.map (·.1)).Nodup → (n, v) ∈ o → lookN o n = some v
 | (m, u) :: r, hn, hm => by
  rw [List.map_cons, List.nodup_cons] at hn
  unfold lookN
  split
  ·rename_i e
   subst e
   rcases List.mem_cons.1 hm with e | hm
   ·injection e with _ e
    rw [e]
   ·exact absurd (List.mem_map.2 ⟨_, hm, rfl⟩) hn.1
  ·rename_i e
   rcases List.mem_cons.1 hm with e' | hm
   ·injection e' with e' _
    exact absurd e' e
   ·exact lookN_of hn.2 hm
theorem look_of {S1 S2 : List SerH} {s : SerH} {W : World} (hm : MapAtN W ob ((S1 ++ s :: S2).map ofE)) : lookN ((S1 ++ s :: S2).map ofE) s.ref = some (.pointer (some ⟨s.sb, 0, none⟩)) := lookN_of hm.nodup (List.mem_map.2 ⟨s, by simp, rfl⟩)
theorem putN_end {k : Int} {v : Value} : ∀ {m : KVN}, k ∉ m.map (·.1) → putN m k v = m ++ [(k, v)]
 | [], _ => rfl
 | (k', x) :: r, h => by
  rw [List.map_cons, List.mem_cons, not_or] at h
  unfold putN
  rw [if_neg h.1, putN_end h.2]
  rfl
end
end Go.Proofs.YtgdkceeonnfejaaGreatDoor
