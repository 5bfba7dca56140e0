/-
  BucketPlays: a call on the bucket and on the document's answer; the answers are the same.
-/
import Derived.Test.YthcdodjdlgeeoaaRefCall
import Derived.Test.YthcdodjdlgeeoaaSorted
import Derived.Test.YthcdodjdlgeeoaaList
import Derived.BigQuiet
import Derived.StillTailTactics
import Derived.Deep.RegionHeld3
import Derived.Deep.CutRange
import Derived.Deep.CutBlock
namespace Go.Proofs.Ythcdodjdlgeeoaa
open Go Go.RowKit Go.ChangeShapes Go.WideShapes Go.Deep

def ListsRel (w1 : World) (n gk : Nat) (i : Value) (wr : World) : Prop := ∃ k, k ≤ n ∧ i = .int .i64 k ∧ gk = n - k ∧ Keeps [] w1 wr

set_option maxRecDepth 100000 in
set_option maxHeartbeats 1000000 in
/-- lists: the same objects are told as they should be. -/
theorem lists_spec (w : World) (v u : Value) (L : List (ByteArray × Ob)) (hd : ∀ p ∈ L, p.2.1.size ≤ 1000) (h1 : SliceArg 3 infoOf w v L) (h2 : SliceArg 3 encObj w u L) :
    Calls Try.prog 26 #[v, u] w fun e w' => e = .returned (.bool true) ∧ Keeps [] w w' := by
  have H1 := Lib.hid h1
  have H2 := Lib.hid h2
  have hl := h1.len
  obtain ⟨a, c, rfl⟩ := h1.form
  obtain ⟨b, d, rfl⟩ := h2.form
  unfold maxLen at hl
  clear h1 h2
  go_enter Try.func26, Try.ntmps26
  go_wp2_with fail
  go_loopg [14] L.length (ListsRel w L.length)
  case atStart => exact ⟨0, Nat.zero_le _, rfl, rfl, Keeps.refl _ _⟩
  case round =>
    obtain ⟨k, hkl, rfl, hgk, hk⟩ := hrel
    have Hg := Lib.hid hgk
    clear hgk
    by_cases hlt : k < L.length
    · obtain ⟨b2, off, rfl, hb, d0, d1, d2⟩ := objCells H2.out hlt
      obtain ⟨ao, cap, he, _, hc⟩ := H1.out
      injection he with e1 e2 e3
      subst e1 e3
      obtain ⟨b1, of1, rfl, hb1, hj⟩ := hc k hlt
      have g0 : w.cell? ⟨b1, of1 + k * 3, none⟩ = some (.string L[k].1) := by simpa [infoOf] using hj 0 (by omega)
      have g1 : w.cell? ⟨b1, of1 + k * 3 + 1, none⟩ = some (.int .i64 L[k].2.1.size) := by rw [Nat.add_assoc]; simpa [infoOf] using hj 1 (by omega)
      have g2 : w.cell? ⟨b1, of1 + k * 3 + 2, none⟩ = some (.int .i64 L[k].2.2) := by rw [Nat.add_assoc]; simpa [infoOf] using hj 2 (by omega)
      have hsz := hd L[k] (List.getElem_mem _)
      rw [← hk.cell hb (by simp)] at d0 d1 d2
      rw [← hk.cell hb1 (by simp)] at g0 g1 g2
      have lb := hk.lt hb
      have lb1 := hk.lt hb1
      have hlt' : (k : Int) < (L.length : Int) := by omega
      generalize L[k] = x at d0 d1 d2 g0 g1 g2 hsz
      obtain ⟨xn, xd, xt⟩ := x
      simp only at d0 d1 d2 g0 g1 g2 hsz
      clear hc hj e2
      have cn := heap_new wr (.cells #[.string xn, .string xd, .int .i64 xt] 65)
      have hkn := hk.alloc (.cells #[.string xn, .string xd, .int .i64 xt] 65)
      go_wp2_with fail
      go_quiet (fail)
      all_goals
        go_wp2_with fail
        go_roundg (L.length - (k + 1))
        case measure => have := Hg.out; omega
        case rel => exact ⟨k + 1, by omega, by go_num, rfl, hkn.drewN _⟩
    · go_wp2_with fail
      go_ret
      exact ⟨rfl, hk⟩

/-- What can be read of objects stays where only other blocks turn. -/
theorem objs_keepS {S : List Nat} {w w' : World} {v : Value} {L : List (ByteArray × Ob)} (h : SliceArg 3 encObj w v L) (k : Keeps S w w') (hS : ∀ q ∈ S, ∀ i s, w.cell? ⟨q, i, none⟩ ≠ some (.string s)) : SliceArg 3 encObj w' v L := by
  obtain ⟨ao, cap, rfl, h1, h2⟩ := h
  refine ⟨ao, cap, rfl, h1, fun i hi => ?_⟩
  obtain ⟨b, off, rfl, hb, hj⟩ := h2 i hi
  have hn : b ∉ S := fun hq => hS b hq _ L[i].1 (by simpa [encObj] using hj 0 (by omega))
  exact ⟨b, off, rfl, k.lt hb, fun j hj' => (k.cell hb hn).trans (hj j hj')⟩
theorem faults_keepS {S : List Nat} {w w' : World} {v : Value} {Q : List (Int × Bool)} (h : FArg w v Q) (k : Keeps S w w') (hS : ∀ q ∈ S, ∀ cs fz, w.heap[q]? ≠ some (.cells cs 72 fz)) : FArg w' v Q := by
  obtain ⟨⟨ao, cap, rfl, h1, h2⟩, ht⟩ := h
  have hn : ∀ b : Addr, ao = some b → 0 < Q.length → b.block ∉ S := by
    rintro b rfl hl hq
    obtain ⟨cs, fz, he⟩ := ht b _ _ rfl hl
    exact hS _ hq cs fz he
  refine ⟨⟨ao, cap, rfl, h1, fun i hi => ?_⟩, ?_⟩
  · obtain ⟨b, off, rfl, hb, hj⟩ := h2 i hi
    exact ⟨b, off, rfl, k.lt hb, fun j hj' => (k.cell hb (hn _ rfl (by omega))).trans (hj j hj')⟩
  · intro b n c e hl
    obtain ⟨cs, fz, he⟩ := ht b n c e hl
    injection e with e1 e2 e3
    subst e1 e2
    exact ⟨cs, fz, k.at_ he (hn b rfl hl)⟩
theorem RefB.step {w w' : World} {v : Value} {L : List (ByteArray × Ob)} {Q Q' : List (Int × Bool)} {b f c mb : Nat} {armed : Bool} {o : List (ByteArray × Ob)} (h : RefB w v L Q) (hb : BucketAt w b f c mb armed Q' o) (k : Keeps [f, c, mb] w w') : RefB w' v L Q := by
  obtain ⟨now, wait, hf, _⟩ := hb.fuse
  obtain ⟨s, r, hch⟩ := hf.chan
  obtain ⟨E, clk, hmap, _⟩ := hb.map
  obtain ⟨x, y, rfl, hx, ho, hy⟩ := h
  refine ⟨x, y, rfl, objs_keepS hx k ?_, ho, faults_keepS hy k ?_⟩
  · intro q hq i s
    simp only [List.mem_cons, List.not_mem_nil, or_false] at hq
    rcases hq with rfl | rfl | rfl
    · rw [cells_at hf.cells]
      match i with
      | 0 => simp
      | 1 => simp
      | 2 => simp
      | 3 => simp
      | i + 4 => simp
    · simp [World.cell?, hch]
    · simp [World.cell?, hmap]
  · intro q hq cs fz
    simp only [List.mem_cons, List.not_mem_nil, or_false] at hq
    rcases hq with rfl | rfl | rfl
    · rw [hf.cells]
      intro e
      injection e with e
      injection e with _ e _
      exact absurd e (by decide)
    · rw [hch]; simp
    · rw [hmap]; simp

/-- The bucket's objects, bounded: names and data are short, and there are few. -/
structure InvP (o : List (ByteArray × Ob)) (k : Nat) : Prop where
  len : o.length ≤ k
  obj : ∀ n x, look o n = some x → n.size ≤ 40 ∧ x.1.size ≤ 60
/-- A call on both: both turn alike, and the answers are the same. -/
def DoesPost (w : World) (b f c mb k : Nat) (e : Ending) (w' : World) : Prop :=
  ∃ y armed Q o, e = .returned (.tuple #[y, .bool true]) ∧ BucketAt w' b f c mb armed Q o ∧ RefB w' y (full o) Q ∧ InvP o k ∧ Keeps [f, c, mb] w w'
theorem FuseQ.bounds {w : World} {f c : Nat} {armed : Bool} {Q : List (Int × Bool)} (h : FuseQ w f c armed Q) : Q.length ≤ 1000 ∧ ∀ x ∈ Q, okF x := by
  obtain ⟨now, wait, h, rfl⟩ := h
  have := h.len
  cases armed with
  | true =>
    refine ⟨by simp; omega, ?_⟩
    intro x hx
    simp at hx
    rcases hx with rfl | hx
    · exact h.nowOk
    · exact h.waitOk x hx
  | false => exact ⟨by simp; omega, by simpa using h.waitOk⟩
theorem full_len {o : List (ByteArray × Ob)} : (full o).length = o.length := by
  rw [full_eq, List.length_map]
  simp [sortedKeys, sortB_length]
theorem del_nodup {o : List (ByteArray × Ob)} (hn : (o.map (·.1)).Nodup) (n : ByteArray) : ((del o n).map (·.1)).Nodup := by
  have : ∀ o : List (ByteArray × Ob), (del o n).Sublist o := by
    intro o
    induction o with
    | nil => exact List.Sublist.refl _
    | cons p o ih =>
      obtain ⟨m, x⟩ := p
      unfold del
      split
      · exact List.sublist_cons_self _ _
      · exact ih.cons_cons _
  exact ((this o).map _).nodup hn
theorem InvP.del {o : List (ByteArray × Ob)} {k : Nat} (h : InvP o k) (hn : (o.map (·.1)).Nodup) (n : ByteArray) : InvP (del o n) (k + 1) := by
  refine ⟨Nat.le_trans (length_del n o) (Nat.le_succ_of_le h.len), fun m x hx => ?_⟩
  rw [look_del n m o hn] at hx
  split at hx
  · cases hx
  · exact h.obj m x hx
theorem InvP.put {o : List (ByteArray × Ob)} {k : Nat} (h : InvP o k) (n d : ByteArray) (t : Int) (h1 : n.size ≤ 40) (h2 : d.size ≤ 60) : InvP (put o n (d, t)) (k + 1) := by
  refine ⟨Nat.le_trans (length_put n _ o) (Nat.succ_le_succ h.len), fun m x hx => ?_⟩
  rw [look_put] at hx
  split at hx
  · rename_i e
    injection hx with hx
    subst hx e
    exact ⟨h1, h2⟩
  · exact h.obj m x hx
theorem InvP.next {o : List (ByteArray × Ob)} {k : Nat} (h : InvP o k) : InvP o (k + 1) := ⟨Nat.le_succ_of_le h.len, h.obj⟩

/-- The end of Does: the bucket is stored into the result's block. -/
theorem does_end {w W : World} {b f c mb q : Nat} {armed : Bool} {a1 b1 : Option Addr} {c1 d1 : Nat} {L o : List (ByteArray × Ob)} {Q : List (Int × Bool)} (hq : w.heap.size ≤ q) (lt : b < w.heap.size ∧ f < w.heap.size ∧ c < w.heap.size ∧ mb < w.heap.size)
    (hres : W.heap[q]? = some (.cells #[.slice none 0 0, .slice none 0 0] 60 (0, 0))) (hk : Keeps [f, c, mb] w W)
    (h : RefB W (.agg #[.slice a1 L.length c1, .slice b1 Q.length d1]) L Q) (hb : BucketAt W b f c mb armed Q o) :
    (∀ i, ((W.setCell ⟨q, 0, none⟩ (.slice a1 L.length c1)).setCell ⟨q, 1, none⟩ (.slice b1 Q.length d1)).cell? ⟨q, i, none⟩ = #[.slice a1 L.length c1, .slice b1 Q.length d1][i]?) ∧
    q < ((W.setCell ⟨q, 0, none⟩ (.slice a1 L.length c1)).setCell ⟨q, 1, none⟩ (.slice b1 Q.length d1)).heap.size ∧
    BucketAt ((W.setCell ⟨q, 0, none⟩ (.slice a1 L.length c1)).setCell ⟨q, 1, none⟩ (.slice b1 Q.length d1)) b f c mb armed Q o ∧
    RefB ((W.setCell ⟨q, 0, none⟩ (.slice a1 L.length c1)).setCell ⟨q, 1, none⟩ (.slice b1 Q.length d1)) (.agg #[.slice a1 L.length c1, .slice b1 Q.length d1]) L Q ∧ Keeps [f, c, mb] w ((W.setCell ⟨q, 0, none⟩ (.slice a1 L.length c1)).setCell ⟨q, 1, none⟩ (.slice b1 Q.length d1)) := by
  have h1 := heap_cell_same hres (i := 0) (.slice a1 L.length c1)
  have h2 := heap_cell_same h1 (i := 1) (.slice b1 Q.length d1)
  have hkq : Keeps [q] W ((W.setCell ⟨q, 0, none⟩ (.slice a1 L.length c1)).setCell ⟨q, 1, none⟩ (.slice b1 Q.length d1)) := ((Keeps.refl [q] W).setCell (.inl (by simp)) _).setCell (.inl (by simp)) _
  obtain ⟨l0, l1, l2, l3⟩ := lt
  exact ⟨cells_at h2, lt_of_at h2, hb.keep hkq (by simp; omega) (by simp; omega) (by simp; omega) (by simp; omega), (h.setBox (boxy_at hres) _).setBox (boxy_at h1) _, (hk.setCell (.inr hq) _).setCell (.inr hq) _⟩

set_option maxRecDepth 100000 in
set_option maxHeartbeats 2000000 in
theorem does_del (w : World) (b f c mb k : Nat) (armed : Bool) (Q : List (Int × Bool)) (o : List (ByteArray × Ob)) (v : Value) (an am : Int) (aa ab : ByteArray) (ad : Bool) (hk40 : k ≤ 40)
    (hb : BucketAt w b f c mb armed Q o) (hx : RefB w v (full o) Q) (hinv : InvP o k) :
    Calls Try.prog 25 #[.pointer (some ⟨b, 0, none⟩), v, .agg #[.int .i64 2, .int .i64 an, .int .i64 am, .string aa, .string ab, .bool ad]] w (DoesPost w b f c mb (k + 1)) := by
  have hnd : (o.map (·.1)).Nodup := by have := hb.map.nodup; rwa [keys_enc] at this
  have HB := Lib.hid hb
  have hL : (full o).length ≤ 40 := by rw [full_len]; exact Nat.le_trans hinv.len hk40
  obtain ⟨hQ, hQk⟩ := hb.fuse.bounds
  generalize hLe : full o = L at hL hx
  obtain ⟨x, cx, y, cy, rfl⟩ := hx.form
  have HX := Lib.hid hx
  have HLe := Lib.hid hLe
  clear hx hb hLe
  go_enter Try.func25, Try.ntmps25
  go_wp2_with (go_at_call 14; refine (cut_any _ 45 _ (by decide)).mono ?_; rintro e w' ⟨rfl, rfl⟩)
  have hk3 : Keeps [] w (((w.alloc (.cells #[.slice x L.length cx, .slice y Q.length cy] 60)).alloc (.cells #[.int .i64 2, .int .i64 an, .int .i64 am, .string aa, .string ab, .bool ad] 39)).alloc (.cells #[.slice none 0 0, .slice none 0 0] 60)) := (((Keeps.refl [] w).alloc _).alloc _).alloc _
  obtain ⟨q0, q1, q2⟩ := new3 w (.cells #[.slice x L.length cx, .slice y Q.length cy] 60) (.cells #[.int .i64 2, .int .i64 an, .int .i64 am, .string aa, .string ab, .bool ad] 39) (.cells #[.slice none 0 0, .slice none 0 0] 60)
  generalize (((w.alloc (.cells #[.slice x L.length cx, .slice y Q.length cy] 60)).alloc (.cells #[.int .i64 2, .int .i64 an, .int .i64 am, .string aa, .string ab, .bool ad] 39)).alloc (.cells #[.slice none 0 0, .slice none 0 0] 60)) = W3 at hk3 q0 q1 q2 ⊢
  have hB3 := hk3.keep_bucket HB.out
  have hX3 := HX.out.keep hk3
  obtain ⟨lb, lf, lc, lm⟩ := HB.out.lt
  generalize cut aa 45 = name
  refine (delete_spec W3 b f c mb armed Q o hB3 name).mono ?_
  rintro e w4 ⟨rfl, hB4, hk4⟩
  have hX4 := hX3.step hB3 hk4
  have hk04 := (hk3.mono (S' := [f, c, mb]) (by simp)).after hk4 (fun q hq => .inl hq)
  replace q0 := hk4.at_ q0 (by simp; omega)
  replace q2 := hk4.at_ q2 (by simp; omega)
  have c0 := cells_at q0
  have Hq := Lib.hid (And.intro q2 (And.intro hk04 (And.intro hX4 hB4)))
  clear hk3 hk4 hk04 hB3 hB4 hX3 hX4 q0 q1 q2
  go_wp2_with fail
  refine (change_del w4 _ L Q name ⟨#[]⟩ 0 (by omega) hQ hQk Hq.out.2.2.1).mono ?_
  rintro e w5 ⟨v5, rfl, hX5, hk5⟩
  obtain ⟨x5, cx5, y5, cy5, rfl⟩ := hX5.form
  have hB5 := hk5.keep_bucket Hq.out.2.2.2
  have q2 := hk5.at_ Hq.out.1 (by simp)
  have hk05 := Hq.out.2.1.after hk5 (by simp)
  have HM : Hid (full (chg Q o (del o name)) = putL Q L (L.filter fun p => !decide (p.1 = name))) := by
    apply Lib.hid
    unfold chg putL
    cases tryDone Q with
    | true =>
      simp only [if_true]
      rw [full_del hnd name (del_nodup hnd name), HLe.out]
    | false => simpa using HLe.out
  have HI : Hid (InvP (chg Q o (del o name)) (k + 1)) := by
    apply Lib.hid
    unfold chg
    split
    · exact hinv.del hnd name
    · exact hinv.next
  generalize putL Q L (L.filter fun p => !decide (p.1 = name)) = M5 at hX5 HM ⊢
  generalize chg Q o (del o name) = o5 at hB5 HM HI
  generalize tryQ Q = Q5 at hX5 hB5 ⊢
  have hX6 := hX5.keep ((Keeps.refl [] w5).alloc (.cells #[.slice x5 M5.length cx5, .slice y5 Q5.length cy5] 60))
  have hB6 := ((Keeps.refl [] w5).alloc (.cells #[.slice x5 M5.length cx5, .slice y5 Q5.length cy5] 60)).keep_bucket hB5
  have c2 := cells_at q2
  have f2 := free_at q2
  have l2 := lt_of_at q2
  clear Hq c0
  have Hq := Lib.hid (And.intro q2 (And.intro hk05 (And.intro hX5 hB5)))
  clear hk5 hX6 hB6 hk05 hX5 hB5 q2
  have Hfin := Lib.hid (does_end (by omega) ⟨lb, lf, lc, lm⟩ Hq.out.1 Hq.out.2.1 Hq.out.2.2.1 Hq.out.2.2.2)
  generalize ioErr Q = r
  go_wp2_with fail
  obtain ⟨hc, hl, hB, hX, hK⟩ := Hfin.out
  refine bodyPost_ret (v := .tuple #[.agg #[.slice x5 M5.length cx5, .slice y5 Q5.length cy5], .bool true]) ?_ rfl ?_
  · simp [results, Try.results25, go_sem, hc, l2]
  · exact ⟨_, _, Q5, o5, rfl, (((Keeps.refl [] _).alloc _)).keep_bucket hB, by rw [HM.out]; exact hX.keep ((Keeps.refl [] _).alloc _), HI.out, hK.alloc _⟩

theorem put_nodup {o : List (ByteArray × Ob)} (hn : (o.map (·.1)).Nodup) (n : ByteArray) (v : Ob) : ((put o n v).map (·.1)).Nodup := by
  induction o with
  | nil => simp [put]
  | cons p o ih =>
    obtain ⟨m, x⟩ := p
    simp only [List.map_cons, List.nodup_cons] at hn
    unfold put
    split
    · rename_i e
      subst e
      simpa using hn
    · rename_i e
      simp only [List.map_cons, List.nodup_cons]
      refine ⟨fun hm => ?_, ih hn.2⟩
      rcases mem_keys_put hm with h | h
      · exact e h.symm
      · exact hn.1 h
/-- Put on the bucket and Change on the document's: both turn alike. -/
theorem put_pair (b f c mb k : Nat) (armed : Bool) (Q : List (Int × Bool)) (o : List (ByteArray × Ob)) (name data : ByteArray) (now : Int) (hn45 : name.size ≤ 45) (hd60 : data.size ≤ 60) (hk40 : k ≤ 40) (hinv : InvP o k) (hnd : (o.map (·.1)).Nodup) (hQ : Q.length ≤ 1000) (hQk : ∀ x ∈ Q, okF x) :
    ∃ r armed5 Q5 o5, (∀ W, BucketAt W b f c mb armed Q o → Calls Try.prog 17 #[.pointer (some ⟨b, 0, none⟩), .string name, .string data, .int .i64 now] W fun e w' => e = .returned (.int .i64 r) ∧ BucketAt w' b f c mb armed5 Q5 o5 ∧ Keeps [f, c, mb] W w') ∧
      (∀ W v, RefB W v (full o) Q → Calls Try.prog 56 #[v, .agg #[.string name, .string data, .int .i64 now], .bool true] W (CallPost W (full o5) Q5 r)) ∧ InvP o5 (k + 1) := by
  have hL : (full o).length ≤ 40 := by rw [full_len]; exact Nat.le_trans hinv.len hk40
  by_cases hbad : name.size = 0 ∨ 40 < name.size
  · refine ⟨1, armed, Q, o, fun W hW => ?_, fun W v hv => change_bad W v _ Q name data now hbad (by omega) hv, hinv.next⟩
    refine (put_bad W b name data now hbad).mono ?_
    rintro e w' ⟨rfl, hk⟩
    exact ⟨rfl, hk.keep_bucket hW, hk.mono (by simp)⟩
  · refine ⟨ioErr Q, tryArmed Q, tryQ Q, chg Q o (put o name (data, now)), fun W hW => ?_, fun W v hv => ?_, ?_⟩
    · exact put_spec W b f c mb armed Q o hW name data now (by omega) (by omega)
    · have h := change_put W v _ Q name data now (by omega) (by omega) (by omega) hQ hQk hv
      have e : putL Q (full o) (insL ((full o).filter fun p => !decide (p.1 = name)) (name, (data, now))) = full (chg Q o (put o name (data, now))) := by
        unfold chg putL
        cases tryDone Q with
        | true =>
          simp only [if_true]
          rw [full_put hnd (fun n v => put_nodup hnd n v)]
        | false => simp
      rwa [e] at h
    · unfold chg
      split
      · exact hinv.put name data now (by omega) hd60
      · exact hinv.next

set_option maxRecDepth 100000 in
set_option maxHeartbeats 2000000 in
theorem does_put (w : World) (b f c mb k : Nat) (armed : Bool) (Q : List (Int × Bool)) (o : List (ByteArray × Ob)) (v : Value) (an am : Int) (aa ab : ByteArray) (ad : Bool) (hk40 : k ≤ 40)
    (hb : BucketAt w b f c mb armed Q o) (hx : RefB w v (full o) Q) (hinv : InvP o k) :
    Calls Try.prog 25 #[.pointer (some ⟨b, 0, none⟩), v, .agg #[.int .i64 1, .int .i64 an, .int .i64 am, .string aa, .string ab, .bool ad]] w (DoesPost w b f c mb (k + 1)) := by
  have hnd : (o.map (·.1)).Nodup := by have := hb.map.nodup; rwa [keys_enc] at this
  have HB := Lib.hid hb
  have hL : (full o).length ≤ 40 := by rw [full_len]; exact Nat.le_trans hinv.len hk40
  obtain ⟨hQ, hQk⟩ := hb.fuse.bounds
  generalize hLe : full o = L at hL hx
  obtain ⟨x, cx, y, cy, rfl⟩ := hx.form
  have HX := Lib.hid hx
  have HLe := Lib.hid hLe
  clear hx hb hLe
  go_enter Try.func25, Try.ntmps25
  go_upto_region 4 with (go_at_call 14; refine (cut_any _ 45 _ (by decide)).mono ?_; rintro e w' ⟨rfl, rfl⟩)
  have hk3 : Keeps [] w (((w.alloc (.cells #[.slice x L.length cx, .slice y Q.length cy] 60)).alloc (.cells #[.int .i64 1, .int .i64 an, .int .i64 am, .string aa, .string ab, .bool ad] 39)).alloc (.cells #[.slice none 0 0, .slice none 0 0] 60)) := (((Keeps.refl [] w).alloc _).alloc _).alloc _
  obtain ⟨q0, q1, q2⟩ := new3 w (.cells #[.slice x L.length cx, .slice y Q.length cy] 60) (.cells #[.int .i64 1, .int .i64 an, .int .i64 am, .string aa, .string ab, .bool ad] 39) (.cells #[.slice none 0 0, .slice none 0 0] 60)
  generalize (((w.alloc (.cells #[.slice x L.length cx, .slice y Q.length cy] 60)).alloc (.cells #[.int .i64 1, .int .i64 an, .int .i64 am, .string aa, .string ab, .bool ad] 39)).alloc (.cells #[.slice none 0 0, .slice none 0 0] 60)) = W3 at hk3 q0 q1 q2 ⊢
  have hB3 := hk3.keep_bucket HB.out
  have hX3 := HX.out.keep hk3
  obtain ⟨lb, lf, lc, lm⟩ := HB.out.lt
  have hd60 := cut_size ab 60
  have hn45 := cut_size aa 45
  generalize cut aa 45 = name at hn45 ⊢
  have hdata : Hid (∀ W, Calls Try.prog 14 #[.string ab, .int .i64 60] W fun e w' => e = .returned (.string (cut ab 60)) ∧ w' = W) := by
    apply Lib.hid
    intro W
    exact (cut_any ab 60 W (by decide)).mono fun _ _ h => ⟨h.1, h.2.symm⟩
  have c1 := cells_at q1
  have l1 := lt_of_at q1
  have c0 := cells_at q0
  go_still_tail 7, (by kernel_rfl)
  still_call (hdata.out _)
  repeat still_step
  refine wpStill_nil ?_
  change wpList _ _ _ _ _ W3.drew
  generalize cut ab 60 = data at hd60 hdata
  obtain ⟨r, armed5, Q5, o5, hput, hchg, hI⟩ := put_pair b f c mb k armed Q o name data an hn45 hd60 hk40 hinv hnd hQ hQk
  have Hput := Lib.hid hput
  have Hchg := Lib.hid hchg
  have HI := Lib.hid hI
  clear hput hchg hI
  go_wp2_with fail
  refine (Hput.out W3.drew hB3.drew).mono ?_
  rintro e w4 ⟨rfl, hB4, hk4⟩
  have hX4 := (hX3.keep (Keeps.refl [] W3).drew).step hB3.drew hk4
  have hk04 := (hk3.drew.mono (S' := [f, c, mb]) (by simp)).after hk4 (fun q hq => .inl hq)
  replace q0 := hk4.at_ (w := W3.drew) q0 (by simp; omega)
  replace q1 := hk4.at_ (w := W3.drew) q1 (by simp; omega)
  replace q2 := hk4.at_ (w := W3.drew) q2 (by simp; omega)
  clear c0 c1 l1
  have c0 := cells_at q0
  have c1 := cells_at q1
  have l0 := lt_of_at q0
  have l1 := lt_of_at q1
  have Hq := Lib.hid (And.intro q2 (And.intro hk04 (And.intro hX4 hB4)))
  clear hk3 hk4 hk04 hB3 hB4 hX3 hX4 q0 q1 q2
  go_wp2_with fail
  have hS0 : w4.cell? ⟨w.heap.size, 0, none⟩ = some (.slice x L.length cx) := by rw [c0]; rfl
  have hS1 : w4.cell? ⟨w.heap.size, 1, none⟩ = some (.slice y Q.length cy) := by rw [c0]; rfl
  have hS2 : w4.cell? ⟨w.heap.size + 1, 4, none⟩ = some (.string ab) := by rw [c1]; rfl
  have hS3 : w4.cell? ⟨w.heap.size + 1, 1, none⟩ = some (.int .i64 an) := by rw [c1]; rfl
  have n0 : w.heap.size ≠ w4.heap.size := by omega
  have n1 : w.heap.size + 1 ≠ w4.heap.size := by omega
  clear c0 c1
  go_region_held3 (fun w' => w'.cell? ⟨w.heap.size, 0, none⟩ = some (.slice x L.length cx) ∧ w'.cell? ⟨w.heap.size, 1, none⟩ = some (.slice y Q.length cy) ∧ w'.cell? ⟨w.heap.size + 1, 4, none⟩ = some (.string ab) ∧ w'.cell? ⟨w.heap.size + 1, 1, none⟩ = some (.int .i64 an))
    (first | go_keep | (have kk := ((Keeps.refl [w4.heap.size] w5).setCell (p := ⟨w4.heap.size, 0, none⟩) (.inl (by simp)) (.slice x5 (full o5).length cx5)).setCell (p := ⟨w4.heap.size, 1, none⟩) (.inl (by simp)) (.slice y5 Q5.length cy5); exact ⟨(kk.cell m0 (by simpa using n0)).trans d0, (kk.cell m0 (by simpa using n0)).trans d1, (kk.cell m1 (by simpa using n1)).trans d2, (kk.cell m1 (by simpa using n1)).trans d3⟩))
    (first | (go_at_call 14; refine (hdata.out _).mono ?_; rintro e w' ⟨rfl, rfl⟩) | (go_at_call 56; refine (Hchg.out _ _ (by rw [HLe.out]; first | exact Hq.out.2.2.1.keep (Keeps.refl [] w4).drew | exact Hq.out.2.2.1.keep (((Keeps.refl [] w4).alloc _).drew) | exact Hq.out.2.2.1.keep (((Keeps.refl [] w4).drew).alloc _))).mono ?_; rintro e w5 ⟨v5, rfl, hX5, hk5⟩; obtain ⟨x5, cx5, y5, cy5, rfl⟩ := hX5.form; have d0 := (hk5.cell (b := w.heap.size) (i := 0) (by simp; omega) (by simp)).trans (by first | exact hS0 | exact (((Keeps.refl [] w4).alloc _).cell (by omega) (by simp)).trans hS0); have d1 := (hk5.cell (b := w.heap.size) (i := 1) (by simp; omega) (by simp)).trans (by first | exact hS1 | exact (((Keeps.refl [] w4).alloc _).cell (by omega) (by simp)).trans hS1); have d2 := (hk5.cell (b := w.heap.size + 1) (i := 4) (by simp; omega) (by simp)).trans (by first | exact hS2 | exact (((Keeps.refl [] w4).alloc _).cell (by omega) (by simp)).trans hS2); have d3 := (hk5.cell (b := w.heap.size + 1) (i := 1) (by simp; omega) (by simp)).trans (by first | exact hS3 | exact (((Keeps.refl [] w4).alloc _).cell (by omega) (by simp)).trans hS3); have m0 := hk5.lt (k := w.heap.size) (by simp; omega); have m1 := hk5.lt (k := w.heap.size + 1) (by simp; omega); (try (have hn5 := hk5.at_ (heap_new w4 (.cells #[.slice none 0 0, .slice none 0 0] 60)) (by simp); have cn5 := cells_at hn5; have fn5 := free_at hn5; have ln5 := lt_of_at hn5))))
  · have hB5 := hk5.keep_bucket (Hq.out.2.2.2.drew)
    have q2 := hk5.at_ (w := w4.drew) Hq.out.1 (by simp)
    have hk05 := Hq.out.2.1.drew.after hk5 (by simp)
    have c2 := cells_at q2
    have f2 := free_at q2
    have l2 := lt_of_at q2
    have Hfin := Lib.hid (does_end (by omega) ⟨lb, lf, lc, lm⟩ q2 hk05 hX5 hB5)
    clear Hq hS0 hS1 hS2 hS3 hk5 hk05 hX5 hB5 q2 d0 d1 d2 d3
    go_wp2_with fail
    obtain ⟨hc, hl, hB, hX, hK⟩ := Hfin.out
    refine bodyPost_ret (v := .tuple #[.agg #[.slice x5 (full o5).length cx5, .slice y5 Q5.length cy5], .bool true]) ?_ rfl ?_
    · simp [results, Try.results25, go_sem, hc, l2]
    · exact ⟨_, _, Q5, o5, rfl, (((Keeps.refl [] _).alloc _)).keep_bucket hB, hX.keep ((Keeps.refl [] _).alloc _), HI.out, hK.alloc _⟩
  all_goals
    have hk45 : Keeps [] w4 w5 := ((Keeps.refl [] w4).alloc _).drew.trans hk5
    have hB5 := hk45.keep_bucket Hq.out.2.2.2
    have q2 := hk45.at_ Hq.out.1 (by simp)
    have hk05 := Hq.out.2.1.after hk45 (by simp)
    obtain ⟨p0, p1, p2, p3, p4⟩ := does_end (q := w4.heap.size) (by omega) ⟨lb, lf, lc, lm⟩ hn5 hk05 hX5 hB5
    have l24 : w.heap.size + 1 + 1 ≠ w4.heap.size := Nat.ne_of_lt (lt_of_at Hq.out.1)
    have q2' := (heap_cell_other (p := ⟨w4.heap.size, 1, none⟩) (.slice y5 Q5.length cy5) l24).trans ((heap_cell_other (p := ⟨w4.heap.size, 0, none⟩) (.slice x5 (full o5).length cx5) l24).trans q2)
    clear hn5 cn5 fn5 ln5 d0 d1 d2 d3 m0 m1
    generalize (w5.setCell ⟨w4.heap.size, 0, none⟩ (.slice x5 (full o5).length cx5)).setCell ⟨w4.heap.size, 1, none⟩ (.slice y5 Q5.length cy5) = W6 at p0 p1 p2 p3 p4 q2' ⊢
    have c2 := cells_at q2'
    have f2 := free_at q2'
    have l2 := lt_of_at q2'
    have Hfin := Lib.hid (does_end (by omega) ⟨lb, lf, lc, lm⟩ q2' p4 p3 p2)
    clear Hq hS0 hS1 hS2 hS3 hk5 hk45 hk05 hX5 hB5 q2 q2' p2 p3 p4
    go_wp2_with fail
    obtain ⟨hc, hl, hB, hX, hK⟩ := Hfin.out
    refine bodyPost_ret (v := .tuple #[.agg #[.slice x5 (full o5).length cx5, .slice y5 Q5.length cy5], .bool true]) ?_ rfl ?_
    · simp [results, Try.results25, go_sem, hc]
    · exact ⟨_, _, Q5, o5, rfl, hB, hX, HI.out, hK⟩

end Go.Proofs.Ythcdodjdlgeeoaa
