/-
  BucketPlays: the calls of Does that only look (Get, Range, List), Arm, and any other kind.
-/
import Derived.Test.YthcdodjdlgeeoaaDoes
namespace Go.Proofs.Ythcdodjdlgeeoaa
open Go Go.RowKit Go.ChangeShapes Go.WideShapes Go.Deep

/-- What Get answers is what the document's Range answers of all bytes. -/
theorem get_ref {o : List (ByteArray × Ob)} {k : Nat} (hinv : InvP o k) {Q : List (Int × Bool)} (hw : tryWorks Q = true) (n : ByteArray) : getVal Q o n = refRange (full o) n 0 1000 := by
  unfold getVal refRange
  rw [find_full, if_pos hw]
  cases hl : look o n with
  | none => rfl
  | some x =>
    have hs := (hinv.obj n x hl).2
    simp only [Option.map_some]
    rw [if_neg (by omega)]
    have e : x.1.extract (0 : Int).toNat ((0 : Int).toNat + min (1000 : Int).toNat (x.1.size - (0 : Int).toNat)) = x.1 := by
      have h1 : (0 : Int).toNat + min (1000 : Int).toNat (x.1.size - (0 : Int).toNat) = x.1.size := by simp; omega
      rw [h1]
      simp
    rw [e]
theorem full_data {o : List (ByteArray × Ob)} {k : Nat} (h : InvP o k) : ∀ p ∈ full o, p.2.1.size ≤ 1000 := by
  intro p hp
  rw [full_eq, List.mem_map] at hp
  obtain ⟨n, _, rfl⟩ := hp
  simp only
  cases hl : look o n with
  | none => simp [obOr, ByteArray.size]
  | some x => have := (h.obj n x hl).2; simp [obOr]; omega
theorem mem_look {α : Type} {n : ByteArray} {v : α} : ∀ {o : List (ByteArray × α)}, (o.map (·.1)).Nodup → (n, v) ∈ o → look o n = some v
  | [], _, h => by simp at h
  | (m, x) :: o, hn, h => by
    simp only [List.map_cons, List.nodup_cons] at hn
    rcases List.mem_cons.1 h with e | h
    · injection e with e1 e2
      subst e1 e2
      simp [look]
    · have hne : n ≠ m := by
        intro e
        exact hn.1 (List.mem_map.2 ⟨(n, v), h, e⟩)
      simp only [look]
      rw [if_neg hne]
      exact mem_look hn.2 h
theorem range_refs {o : List (ByteArray × Ob)} {Q : List (Int × Bool)} (hw : tryWorks Q = true) (n : ByteArray) (x y : Int) : rangeVal Q o n x y = refRange (full o) n x y := by
  unfold rangeVal refRange
  rw [find_full, if_pos hw]
  unfold rangeOb
  cases hl : look o n with
  | none => rfl
  | some p =>
    simp only [Option.map_some]
    unfold cutVal
    split
    · rfl
    · rw [show (x + min y ((p.1.size : Int) - x)).toNat = x.toNat + min y.toNat (p.1.size - x.toNat) from by omega]

set_option maxRecDepth 100000 in
set_option maxHeartbeats 2000000 in
theorem does_get (w : World) (b f c mb k : Nat) (armed : Bool) (Q : List (Int × Bool)) (o : List (ByteArray × Ob)) (v : Value) (an am : Int) (aa ab : ByteArray) (ad : Bool) (hk40 : k ≤ 40)
    (hb : BucketAt w b f c mb armed Q o) (hx : RefB w v (full o) Q) (hinv : InvP o k) :
    Calls Try.prog 25 #[.pointer (some ⟨b, 0, none⟩), v, .agg #[.int .i64 3, .int .i64 an, .int .i64 am, .string aa, .string ab, .bool ad]] w (DoesPost w b f c mb (k + 1)) := by
  have hnd : (o.map (·.1)).Nodup := by have := hb.map.nodup; rwa [keys_enc] at this
  have HB := Lib.hid hb
  have hL : (full o).length ≤ 40 := by rw [full_len]; exact Nat.le_trans hinv.len hk40
  obtain ⟨hQ, hQk⟩ := hb.fuse.bounds
  generalize hLe : full o = L at hL hx
  obtain ⟨x, cx, y, cy, rfl⟩ := hx.form
  have HX := Lib.hid hx
  have HLe := Lib.hid hLe
  clear hx hb hLe
  go_enter Try.func25, Try.ntmps25
  go_wp2_with (go_at_call 14; refine (cut_any _ 45 _ (by decide)).mono ?_; rintro e w' ⟨rfl, rfl⟩)
  have hk3 : Keeps [] w (((w.alloc (.cells #[.slice x L.length cx, .slice y Q.length cy] 60)).alloc (.cells #[.int .i64 3, .int .i64 an, .int .i64 am, .string aa, .string ab, .bool ad] 39)).alloc (.cells #[.slice none 0 0, .slice none 0 0] 60)) := (((Keeps.refl [] w).alloc _).alloc _).alloc _
  obtain ⟨q0, q1, q2⟩ := new3 w (.cells #[.slice x L.length cx, .slice y Q.length cy] 60) (.cells #[.int .i64 3, .int .i64 an, .int .i64 am, .string aa, .string ab, .bool ad] 39) (.cells #[.slice none 0 0, .slice none 0 0] 60)
  generalize (((w.alloc (.cells #[.slice x L.length cx, .slice y Q.length cy] 60)).alloc (.cells #[.int .i64 3, .int .i64 an, .int .i64 am, .string aa, .string ab, .bool ad] 39)).alloc (.cells #[.slice none 0 0, .slice none 0 0] 60)) = W3 at hk3 q0 q1 q2 ⊢
  have hB3 := hk3.keep_bucket HB.out
  have hX3 := HX.out.keep hk3
  obtain ⟨lb, lf, lc, lm⟩ := HB.out.lt
  generalize cut aa 45 = name
  have c1 := cells_at q1
  have l1 := lt_of_at q1
  go_quiet (fail)
  go_wp2_with fail
  refine (get_spec (W3.drewN nq) b f c mb armed Q o (((Keeps.refl [] W3).drewN nq).keep_bucket hB3) name).mono ?_
  rintro e w4 ⟨rfl, hB4, hk4⟩
  have hk4' := hk4.mono (S' := [f, c, mb]) (by intro q hq; simp at hq ⊢; omega)
  have hX4 := (hX3.keep ((Keeps.refl [] W3).drewN nq)).step (((Keeps.refl [] W3).drewN nq).keep_bucket hB3) hk4'
  have hk04 := ((hk3.drewN nq).mono (S' := [f, c, mb]) (by simp)).after hk4' (fun q hq => .inl hq)
  replace q0 := hk4'.at_ (w := W3.drewN nq) q0 (by simp; omega)
  replace q2 := hk4'.at_ (w := W3.drewN nq) q2 (by simp; omega)
  clear c1 l1 q1
  have c0 := cells_at q0
  have l0 := lt_of_at q0
  generalize hgv : getVal Q o name = gv
  obtain ⟨gs, ge⟩ := gv
  have Hgv := Lib.hid hgv
  clear hgv
  have Hq := Lib.hid (And.intro q0 (And.intro q2 (And.intro hk04 (And.intro hX4 hB4))))
  clear hk3 hk4 hk4' hk04 hB3 hB4 hX3 hX4 q0 q2
  go_wp2_with fail
  refine (ask_ref w4 _ L Q hQ hQk Hq.out.2.2.2.1).mono ?_
  rintro e w5 ⟨v5, rfl, hX5, hk5⟩
  obtain ⟨x5, cx5, y5, cy5, rfl⟩ := hX5.form
  have hB5 := hk5.keep_bucket Hq.out.2.2.2.2
  have q0 := hk5.at_ Hq.out.1 (by simp)
  have q2 := hk5.at_ Hq.out.2.1 (by simp)
  have hk05 := Hq.out.2.2.1.after hk5 (by simp)
  have hX45 := Hq.out.2.2.2.1.keep hk5
  clear c0 l0
  have c0 := cells_at q0
  have l0 := lt_of_at q0
  have c2 := cells_at q2
  have f2 := free_at q2
  have l2 := lt_of_at q2
  clear Hq hk5
  have Hq := Lib.hid (And.intro q2 (And.intro hk05 (And.intro hX5 (And.intro hB5 hX45))))
  clear q0 q2 hk05 hX5 hB5 hX45
  have hcell0 : Keeps [] w5 (w5.alloc (.cells #[.slice x5 L.length cx5, .slice y5 (tryQ Q).length cy5] 60)) := (Keeps.refl [] w5).alloc _
  cases hw : tryWorks Q with
  | true =>
    have hr : ioErr Q = 0 := by simp [ioErr, hw]
    rw [hr]
    have hgr := get_ref hinv hw name
    rw [Hgv.out, HLe.out] at hgr
    have Hgr := Lib.hid hgr
    have Hw := Lib.hid hw
    have hdat : ∀ p ∈ L, p.2.1.size ≤ 1000 := by rw [← HLe.out]; exact full_data hinv
    have Hdat := Lib.hid hdat
    clear hr hgr hw hdat
    go_wp2_with fail
    refine (range_ref _ _ L Q name 0 1000 (by omega) (by omega) Hdat.out (Hq.out.2.2.2.2.keep hcell0)).mono ?_
    rintro e w6 ⟨rfl, hk6⟩
    rw [← Hgr.out]
    have q6 := hk6.at_ (heap_new w5 _) (by simp)
    have hk56 := hcell0.trans hk6
    have q2 := hk56.at_ Hq.out.1 (by simp)
    have Hfin := Lib.hid (does_end (by omega) ⟨lb, lf, lc, lm⟩ q2 (Hq.out.2.1.after hk56 (by simp)) (Hq.out.2.2.1.keep hk56) (hk56.keep_bucket Hq.out.2.2.2.1))
    have c6 := cells_at q6
    clear c2 f2 l2
    have c2 := cells_at q2
    have f2 := free_at q2
    have l2 := lt_of_at q2
    clear q2 q6 hk56 hcell0 hk6
    go_wp2_with fail
    obtain ⟨hc, hl, hB, hX, hK⟩ := Hfin.out
    refine bodyPost_ret (v := .tuple #[.agg #[.slice x5 L.length cx5, .slice y5 (tryQ Q).length cy5], .bool true]) ?_ rfl ?_
    · simp [results, Try.results25, go_sem, hc]
    · exact ⟨_, _, _, o, rfl, hB, by rw [HLe.out]; exact hX, hinv.next, hK⟩
  | false =>
    have hr : ioErr Q = 8 := by simp [ioErr, hw]
    rw [hr]
    have hgv : (gs, ge) = (⟨#[]⟩, 8) := by rw [← Hgv.out]; simp [getVal, hw]
    injection hgv with h1 h2
    subst h1 h2
    have Hfin := Lib.hid (does_end (by omega) ⟨lb, lf, lc, lm⟩ Hq.out.1 Hq.out.2.1 Hq.out.2.2.1 Hq.out.2.2.2.1)
    clear hcell0 hr
    go_wp2_with fail
    obtain ⟨hc, hl, hB, hX, hK⟩ := Hfin.out
    refine bodyPost_ret (v := .tuple #[.agg #[.slice x5 L.length cx5, .slice y5 (tryQ Q).length cy5], .bool true]) ?_ rfl ?_
    · simp [results, Try.results25, go_sem, hc, l2]
    · exact ⟨_, _, _, o, rfl, (((Keeps.refl [] _).alloc _)).keep_bucket hB, by rw [HLe.out]; exact hX.keep ((Keeps.refl [] _).alloc _), hinv.next, hK.alloc _⟩

set_option maxRecDepth 100000 in
set_option maxHeartbeats 2000000 in
theorem does_range (w : World) (b f c mb k : Nat) (armed : Bool) (Q : List (Int × Bool)) (o : List (ByteArray × Ob)) (v : Value) (an am : Int) (aa ab : ByteArray) (ad : Bool) (hk40 : k ≤ 40) (hx1 : -9223372036854775808 ≤ an ∧ an ≤ 9223372036854775807) (hy1 : -9223372036854775808 ≤ am ∧ am ≤ 9223372036854775807)
    (hb : BucketAt w b f c mb armed Q o) (hx : RefB w v (full o) Q) (hinv : InvP o k) :
    Calls Try.prog 25 #[.pointer (some ⟨b, 0, none⟩), v, .agg #[.int .i64 4, .int .i64 an, .int .i64 am, .string aa, .string ab, .bool ad]] w (DoesPost w b f c mb (k + 1)) := by
  have hnd : (o.map (·.1)).Nodup := by have := hb.map.nodup; rwa [keys_enc] at this
  have HB := Lib.hid hb
  have hL : (full o).length ≤ 40 := by rw [full_len]; exact Nat.le_trans hinv.len hk40
  obtain ⟨hQ, hQk⟩ := hb.fuse.bounds
  generalize hLe : full o = L at hL hx
  obtain ⟨x, cx, y, cy, rfl⟩ := hx.form
  have HX := Lib.hid hx
  have HLe := Lib.hid hLe
  clear hx hb hLe
  go_enter Try.func25, Try.ntmps25
  go_wp2_with (go_at_call 14; refine (cut_any _ 45 _ (by decide)).mono ?_; rintro e w' ⟨rfl, rfl⟩)
  have hk3 : Keeps [] w (((w.alloc (.cells #[.slice x L.length cx, .slice y Q.length cy] 60)).alloc (.cells #[.int .i64 4, .int .i64 an, .int .i64 am, .string aa, .string ab, .bool ad] 39)).alloc (.cells #[.slice none 0 0, .slice none 0 0] 60)) := (((Keeps.refl [] w).alloc _).alloc _).alloc _
  obtain ⟨q0, q1, q2⟩ := new3 w (.cells #[.slice x L.length cx, .slice y Q.length cy] 60) (.cells #[.int .i64 4, .int .i64 an, .int .i64 am, .string aa, .string ab, .bool ad] 39) (.cells #[.slice none 0 0, .slice none 0 0] 60)
  generalize (((w.alloc (.cells #[.slice x L.length cx, .slice y Q.length cy] 60)).alloc (.cells #[.int .i64 4, .int .i64 an, .int .i64 am, .string aa, .string ab, .bool ad] 39)).alloc (.cells #[.slice none 0 0, .slice none 0 0] 60)) = W3 at hk3 q0 q1 q2 ⊢
  have hB3 := hk3.keep_bucket HB.out
  have hX3 := HX.out.keep hk3
  obtain ⟨lb, lf, lc, lm⟩ := HB.out.lt
  generalize cut aa 45 = name
  have c1 := cells_at q1
  have l1 := lt_of_at q1
  go_quiet (fail)
  go_wp2_with fail
  refine (range_spec (W3.drewN nq) b f c mb armed Q o (((Keeps.refl [] W3).drewN nq).keep_bucket hB3) name an am hx1 hy1 (fun x hx => by have := (hinv.obj name x hx).2; simp only [maxLen]; omega)).mono ?_
  rintro e w4 ⟨rfl, hB4, hk4⟩
  have hk4' := hk4.mono (S' := [f, c, mb]) (by intro q hq; simp at hq ⊢; omega)
  have hX4 := (hX3.keep ((Keeps.refl [] W3).drewN nq)).step (((Keeps.refl [] W3).drewN nq).keep_bucket hB3) hk4'
  have hk04 := ((hk3.drewN nq).mono (S' := [f, c, mb]) (by simp)).after hk4' (fun q hq => .inl hq)
  replace q0 := hk4'.at_ (w := W3.drewN nq) q0 (by simp; omega)
  replace q2 := hk4'.at_ (w := W3.drewN nq) q2 (by simp; omega)
  clear c1 l1 q1
  have c0 := cells_at q0
  have l0 := lt_of_at q0
  generalize hgv : rangeVal Q o name an am = gv
  obtain ⟨gs, ge⟩ := gv
  have Hgv := Lib.hid hgv
  clear hgv
  have Hq := Lib.hid (And.intro q0 (And.intro q2 (And.intro hk04 (And.intro hX4 hB4))))
  clear hk3 hk4 hk4' hk04 hB3 hB4 hX3 hX4 q0 q2
  go_wp2_with fail
  refine (ask_ref w4 _ L Q hQ hQk Hq.out.2.2.2.1).mono ?_
  rintro e w5 ⟨v5, rfl, hX5, hk5⟩
  obtain ⟨x5, cx5, y5, cy5, rfl⟩ := hX5.form
  have hB5 := hk5.keep_bucket Hq.out.2.2.2.2
  have q0 := hk5.at_ Hq.out.1 (by simp)
  have q2 := hk5.at_ Hq.out.2.1 (by simp)
  have hk05 := Hq.out.2.2.1.after hk5 (by simp)
  have hX45 := Hq.out.2.2.2.1.keep hk5
  clear c0 l0
  have c0 := cells_at q0
  have l0 := lt_of_at q0
  have c2 := cells_at q2
  have f2 := free_at q2
  have l2 := lt_of_at q2
  clear Hq hk5
  have Hq := Lib.hid (And.intro q2 (And.intro hk05 (And.intro hX5 (And.intro hB5 hX45))))
  clear q0 q2 hk05 hX5 hB5 hX45
  have hcell0 : Keeps [] w5 (w5.alloc (.cells #[.slice x5 L.length cx5, .slice y5 (tryQ Q).length cy5] 60)) := (Keeps.refl [] w5).alloc _
  cases hw : tryWorks Q with
  | true =>
    have hr : ioErr Q = 0 := by simp [ioErr, hw]
    rw [hr]
    have hgr := range_refs (o := o) hw name an am
    rw [Hgv.out, HLe.out] at hgr
    have Hgr := Lib.hid hgr
    have Hw := Lib.hid hw
    have hdat : ∀ p ∈ L, p.2.1.size ≤ 1000 := by rw [← HLe.out]; exact full_data hinv
    have Hdat := Lib.hid hdat
    clear hr hgr hw hdat
    go_wp2_with fail
    refine (range_ref _ _ L Q name an am hx1 hy1 Hdat.out (Hq.out.2.2.2.2.keep hcell0)).mono ?_
    rintro e w6 ⟨rfl, hk6⟩
    rw [← Hgr.out]
    have q6 := hk6.at_ (heap_new w5 _) (by simp)
    have hk56 := hcell0.trans hk6
    have q2 := hk56.at_ Hq.out.1 (by simp)
    have Hfin := Lib.hid (does_end (by omega) ⟨lb, lf, lc, lm⟩ q2 (Hq.out.2.1.after hk56 (by simp)) (Hq.out.2.2.1.keep hk56) (hk56.keep_bucket Hq.out.2.2.2.1))
    have c6 := cells_at q6
    clear c2 f2 l2
    have c2 := cells_at q2
    have f2 := free_at q2
    have l2 := lt_of_at q2
    clear q2 q6 hk56 hcell0 hk6
    go_wp2_with fail
    obtain ⟨hc, hl, hB, hX, hK⟩ := Hfin.out
    refine bodyPost_ret (v := .tuple #[.agg #[.slice x5 L.length cx5, .slice y5 (tryQ Q).length cy5], .bool true]) ?_ rfl ?_
    · simp [results, Try.results25, go_sem, hc]
    · exact ⟨_, _, _, o, rfl, hB, by rw [HLe.out]; exact hX, hinv.next, hK⟩
  | false =>
    have hr : ioErr Q = 8 := by simp [ioErr, hw]
    rw [hr]
    have hgv : (gs, ge) = (⟨#[]⟩, 8) := by rw [← Hgv.out]; simp [rangeVal, hw]
    injection hgv with h1 h2
    subst h1 h2
    have Hfin := Lib.hid (does_end (by omega) ⟨lb, lf, lc, lm⟩ Hq.out.1 Hq.out.2.1 Hq.out.2.2.1 Hq.out.2.2.2.1)
    clear hcell0 hr
    go_wp2_with fail
    obtain ⟨hc, hl, hB, hX, hK⟩ := Hfin.out
    refine bodyPost_ret (v := .tuple #[.agg #[.slice x5 L.length cx5, .slice y5 (tryQ Q).length cy5], .bool true]) ?_ rfl ?_
    · simp [results, Try.results25, go_sem, hc, l2]
    · exact ⟨_, _, _, o, rfl, (((Keeps.refl [] _).alloc _)).keep_bucket hB, by rw [HLe.out]; exact hX.keep ((Keeps.refl [] _).alloc _), hinv.next, hK.alloc _⟩

set_option maxRecDepth 100000 in
set_option maxHeartbeats 2000000 in
theorem does_list (w : World) (b f c mb k : Nat) (armed : Bool) (Q : List (Int × Bool)) (o : List (ByteArray × Ob)) (v : Value) (an am : Int) (aa ab : ByteArray) (ad : Bool) (hk40 : k ≤ 40)
    (hb : BucketAt w b f c mb armed Q o) (hx : RefB w v (full o) Q) (hinv : InvP o k) :
    Calls Try.prog 25 #[.pointer (some ⟨b, 0, none⟩), v, .agg #[.int .i64 5, .int .i64 an, .int .i64 am, .string aa, .string ab, .bool ad]] w (DoesPost w b f c mb (k + 1)) := by
  have hnd : (o.map (·.1)).Nodup := by have := hb.map.nodup; rwa [keys_enc] at this
  have HB := Lib.hid hb
  have hL : (full o).length ≤ 40 := by rw [full_len]; exact Nat.le_trans hinv.len hk40
  obtain ⟨hQ, hQk⟩ := hb.fuse.bounds
  generalize hLe : full o = L at hL hx
  obtain ⟨x, cx, y, cy, rfl⟩ := hx.form
  have HX := Lib.hid hx
  have HLe := Lib.hid hLe
  clear hx hb hLe
  go_enter Try.func25, Try.ntmps25
  go_wp2_with (go_at_call 14; refine (cut_any _ 45 _ (by decide)).mono ?_; rintro e w' ⟨rfl, rfl⟩)
  have hk3 : Keeps [] w (((w.alloc (.cells #[.slice x L.length cx, .slice y Q.length cy] 60)).alloc (.cells #[.int .i64 5, .int .i64 an, .int .i64 am, .string aa, .string ab, .bool ad] 39)).alloc (.cells #[.slice none 0 0, .slice none 0 0] 60)) := (((Keeps.refl [] w).alloc _).alloc _).alloc _
  obtain ⟨q0, q1, q2⟩ := new3 w (.cells #[.slice x L.length cx, .slice y Q.length cy] 60) (.cells #[.int .i64 5, .int .i64 an, .int .i64 am, .string aa, .string ab, .bool ad] 39) (.cells #[.slice none 0 0, .slice none 0 0] 60)
  generalize (((w.alloc (.cells #[.slice x L.length cx, .slice y Q.length cy] 60)).alloc (.cells #[.int .i64 5, .int .i64 an, .int .i64 am, .string aa, .string ab, .bool ad] 39)).alloc (.cells #[.slice none 0 0, .slice none 0 0] 60)) = W3 at hk3 q0 q1 q2 ⊢
  have hB3 := hk3.keep_bucket HB.out
  have hX3 := HX.out.keep hk3
  obtain ⟨lb, lf, lc, lm⟩ := HB.out.lt
  generalize cut aa 45 = name
  have hke : ∀ p ∈ o, p.1.size ≤ maxLen := fun p hp => by
    obtain ⟨n, x⟩ := p
    have h := hinv.obj n x (mem_look hnd hp)
    simp only [maxLen]; omega
  have hde : ∀ n, (obOr (look o n)).1.size ≤ 9223372036854775807 := fun n => by
    cases hl : look o n with
    | none => simp [obOr, ByteArray.size]
    | some x => have := (hinv.obj n x hl).2; simp [obOr]; omega
  go_wp2_with fail
  refine (list_spec W3 b f c mb armed Q o hB3 name hke hde (by have := hinv.len; omega)).mono ?_
  rintro e w4 ⟨vl, rfl, hB4, hk4, hrow⟩
  have hk4' := hk4.mono (S' := [f, c, mb]) (by intro q hq; simp at hq ⊢; omega)
  have hX4 := hX3.step hB3 hk4'
  have hk04 := (hk3.mono (S' := [f, c, mb]) (by simp)).after hk4' (fun q hq => .inl hq)
  replace q0 := hk4'.at_ q0 (by simp; omega)
  replace q2 := hk4'.at_ q2 (by simp; omega)
  have c0 := cells_at q0
  have l0 := lt_of_at q0
  have hvl := arg_of_row (enc := infoOf) (fun _ => rfl) hrow
  generalize hll : listL Q o name = LL at hvl
  have Hll := Lib.hid hll
  obtain ⟨va, vc, rfl⟩ := hvl.form
  have Hq := Lib.hid (And.intro q0 (And.intro q2 (And.intro hk04 (And.intro hX4 (And.intro hB4 hvl)))))
  clear hk3 hk4 hk4' hk04 hB3 hB4 hX3 hX4 q0 q1 q2 hll hrow hvl
  go_wp2_with fail
  refine (ask_ref w4 _ L Q hQ hQk Hq.out.2.2.2.1).mono ?_
  rintro e w5 ⟨v5, rfl, hX5, hk5⟩
  obtain ⟨x5, cx5, y5, cy5, rfl⟩ := hX5.form
  have hB5 := hk5.keep_bucket Hq.out.2.2.2.2.1
  have q0 := hk5.at_ Hq.out.1 (by simp)
  have q2 := hk5.at_ Hq.out.2.1 (by simp)
  have hk05 := Hq.out.2.2.1.after hk5 (by simp)
  have hX45 := Hq.out.2.2.2.1.keep hk5
  have hvl5 := Hq.out.2.2.2.2.2.keep hk5
  clear c0 l0
  have c0 := cells_at q0
  have l0 := lt_of_at q0
  have c2 := cells_at q2
  have f2 := free_at q2
  have l2 := lt_of_at q2
  clear Hq hk5
  have Hq := Lib.hid (And.intro q2 (And.intro hk05 (And.intro hX5 (And.intro hB5 (And.intro hX45 hvl5)))))
  clear q0 q2 hk05 hX5 hB5 hX45 hvl5
  have hcell0 : Keeps [] w5 (w5.alloc (.cells #[.slice x5 L.length cx5, .slice y5 (tryQ Q).length cy5] 60)) := (Keeps.refl [] w5).alloc _
  cases hw : tryWorks Q with
  | true =>
    have hr : ioErr Q = 0 := by simp [ioErr, hw]
    rw [hr]
    have Hw := Lib.hid hw
    have hdat : ∀ p ∈ L, p.2.1.size ≤ 1000 := by rw [← HLe.out]; exact full_data hinv
    have Hdat := Lib.hid hdat
    clear hr hw hdat
    go_wp2_with fail
    have q6 := heap_new w5 (.cells #[.slice x5 L.length cx5, .slice y5 (tryQ Q).length cy5] 60)
    have q2 := hcell0.at_ Hq.out.1 (by simp)
    have hk06 := Hq.out.2.1.after hcell0 (by simp)
    have hX6 := Hq.out.2.2.1.keep hcell0
    have hB6 := hcell0.keep_bucket Hq.out.2.2.2.1
    have hXx := Hq.out.2.2.2.2.1.keep hcell0
    have hV6 := Hq.out.2.2.2.2.2.keep hcell0
    have d0 := (hcell0.cell (b := w.heap.size) (i := 0) l0 (by simp)).trans (c0 0)
    have d1 := (hcell0.cell (b := w.heap.size) (i := 1) l0 (by simp)).trans (c0 1)
    have hls : LL = L.filter fun p => hasPre p.1 name := by rw [← Hll.out, listL, if_pos Hw.out, listing_full, HLe.out]
    have Hls := Lib.hid hls
    have hlen : LL.length ≤ 40 := by rw [hls]; exact Nat.le_trans (List.length_filter_le _ _) hL
    have hdl : ∀ p ∈ LL, p.2.1.size ≤ 1000 := by rw [hls]; exact fun p hp => Hdat.out p (List.mem_filter.1 hp).1
    have Hdl := Lib.hid hdl
    have lw := lt_of_at q6
    have n6 : w5.heap.size ≠ w.heap.size + 1 + 1 := by omega
    have l06 := hcell0.lt l0
    generalize hW6 : w5.alloc (.cells #[.slice x5 L.length cx5, .slice y5 (tryQ Q).length cy5] 60) = W6 at q6 q2 hk06 hX6 hB6 hXx hV6 d0 d1 lw l06 ⊢
    have hb6 : w5.heap.size = w5.heap.size := rfl
    clear hb6 hW6 c2 f2 l2 c0 hls hdl hcell0 l0
    generalize w5.heap.size = b6 at q6 d0 d1 lw n6 ⊢
    have d2 := cells_at q6 0
    have d3 := cells_at q6 1
    have H6 := Lib.hid (And.intro q2 (And.intro hk06 (And.intro hX6 (And.intro hB6 (And.intro hXx hV6)))))
    clear q6 q2 hk06 hX6 hB6 hXx hV6 Hq
    have d0' : W6.cell? ⟨w.heap.size, 0, none⟩ = some (.slice x L.length cx) := d0
    have d1' : W6.cell? ⟨w.heap.size, 1, none⟩ = some (.slice y Q.length cy) := d1
    have d2' : W6.cell? ⟨b6, 0, none⟩ = some (.slice x5 L.length cx5) := d2
    have d3' : W6.cell? ⟨b6, 1, none⟩ = some (.slice y5 (tryQ Q).length cy5) := d3
    clear d0 d1 d2 d3
    go_region_held3 (fun w' => w'.cell? ⟨w.heap.size, 0, none⟩ = some (.slice x L.length cx) ∧ w'.cell? ⟨w.heap.size, 1, none⟩ = some (.slice y Q.length cy) ∧ w'.cell? ⟨b6, 0, none⟩ = some (.slice x5 L.length cx5) ∧ w'.cell? ⟨b6, 1, none⟩ = some (.slice y5 (tryQ Q).length cy5))
      (first | go_keep | (have kk := ((Keeps.refl [w.heap.size + 1 + 1] w8).setCell (p := ⟨w.heap.size + 1 + 1, 0, none⟩) (.inl (by simp)) (.slice x5 L.length cx5)).setCell (p := ⟨w.heap.size + 1 + 1, 1, none⟩) (.inl (by simp)) (.slice y5 (tryQ Q).length cy5); exact ⟨(kk.cell (hk8.lt (hk7.lt l06)) (by simp only [List.mem_singleton]; omega)).trans e0, (kk.cell (hk8.lt (hk7.lt l06)) (by simp only [List.mem_singleton]; omega)).trans e1, (kk.cell (hk8.lt (hk7.lt lw)) (by simpa using n6)).trans e2, (kk.cell (hk8.lt (hk7.lt lw)) (by simpa using n6)).trans e3⟩) | (exact ⟨e0, e1, e2, e3⟩))
      (first | (go_at_call 59; refine (refList_spec _ _ L Q name (by omega) (H6.out.2.2.2.2.1.keep (Keeps.refl [] W6).drew)).mono ?_; rintro e w7 ⟨u, rfl, hu, hk7⟩; rw [← Hls.out] at hu; obtain ⟨ua, uc, rfl⟩ := hu.form; have e0 := (hk7.cell (b := w.heap.size) (i := 0) l06 (by simp)).trans d0'; have e1 := (hk7.cell (b := w.heap.size) (i := 1) l06 (by simp)).trans d1'; have e2 := (hk7.cell (b := b6) (i := 0) lw (by simp)).trans d2'; have e3 := (hk7.cell (b := b6) (i := 1) lw (by simp)).trans d3') | (go_at_call 26; refine (lists_spec _ _ _ LL Hdl.out (H6.out.2.2.2.2.2.keep ((Keeps.refl [] W6).drew.trans hk7)) hu).mono ?_; rintro e w8 ⟨rfl, hk8⟩; have e0 := (hk8.cell (hk7.lt l06) (by simp)).trans e0; have e1 := (hk8.cell (hk7.lt l06) (by simp)).trans e1; have e2 := (hk8.cell (hk7.lt lw) (by simp)).trans e2; have e3 := (hk8.cell (hk7.lt lw) (by simp)).trans e3; have q8 := hk8.at_ (hk7.at_ (w := W6.drew) H6.out.1 (by simp)) (by simp); have c2 := cells_at q8; have f2 := free_at q8; have l2 := lt_of_at q8))
    have hk68 := ((Keeps.refl [] W6).drew.trans hk7).trans hk8
    have Hfin := Lib.hid (does_end (by omega) ⟨lb, lf, lc, lm⟩ q8 (H6.out.2.1.after hk68 (by simp)) (H6.out.2.2.1.keep hk68) (hk68.keep_bucket H6.out.2.2.2.1))
    clear q8 hk68 hk7 hk8 hu e0 e1 e2 e3 d0' d1' d2' d3' c2 f2
    go_wp2_with fail
    obtain ⟨hc, hl, hB, hX, hK⟩ := Hfin.out
    refine bodyPost_ret (v := .tuple #[.agg #[.slice x5 L.length cx5, .slice y5 (tryQ Q).length cy5], .bool true]) ?_ rfl ?_
    · simp [results, Try.results25, go_sem, hc]
    · exact ⟨_, _, _, o, rfl, hB, by rw [HLe.out]; exact hX, hinv.next, hK⟩
  | false =>
    have hr : ioErr Q = 8 := by simp [ioErr, hw]
    rw [hr]
    have hl0 : LL.length = 0 := by rw [← Hll.out]; simp [listL, hw]
    rw [hl0]
    have Hfin := Lib.hid (does_end (by omega) ⟨lb, lf, lc, lm⟩ Hq.out.1 Hq.out.2.1 Hq.out.2.2.1 Hq.out.2.2.2.1)
    clear hcell0 hr hl0
    go_wp2_with fail
    obtain ⟨hc, hl, hB, hX, hK⟩ := Hfin.out
    refine bodyPost_ret (v := .tuple #[.agg #[.slice x5 L.length cx5, .slice y5 (tryQ Q).length cy5], .bool true]) ?_ rfl ?_
    · simp [results, Try.results25, go_sem, hc, l2]
    · exact ⟨_, _, _, o, rfl, (((Keeps.refl [] _).alloc _)).keep_bucket hB, by rw [HLe.out]; exact hX.keep ((Keeps.refl [] _).alloc _), hinv.next, hK.alloc _⟩

end Go.Proofs.Ythcdodjdlgeeoaa
