/-
  BucketWhole answers true for every list of acts, and leaves all memory that was there as it was.
  No condition: every input that can be read.
-/
import Derived.Test.YthcdodjdlgeeoaaBucketLast
import Derived.Test.YthcdodjdlgeeoaaMapLaw
import Derived.Deep.CutBlock
import Derived.Deep.CutRange
namespace Go.Proofs.Ythcdodjdlgeeoaa
open Go Go.RowKit Go.Conc

/-- A call of the bucket's laws. -/
structure ActB where
  kind : Int
  n : Int
  m : Int
  a : ByteArray
  b : ByteArray
  done : Bool
def encActB (x : ActB) : List Value := [.int .i64 x.kind, .int .i64 x.n, .int .i64 x.m, .string x.a, .string x.b, .bool x.done]
def okInt (n : Int) : Prop := -9223372036854775808 ≤ n ∧ n ≤ 9223372036854775807
def okActB (x : ActB) : Prop := okInt x.kind ∧ okInt x.n ∧ okInt x.m ∧ x.a.size ≤ maxLen ∧ x.b.size ≤ maxLen

def bar : ByteArray := ⟨#[124]⟩
def encI (n : Int) : Value := .int .i64 n
theorem zeroInt (w : World) : (zeroValue 3).run Try.prog w = .ok (.int .i64 0) w := by kernel_rfl

/-- What holds behind k acts: each object was put. -/
structure InvW (o : List (ByteArray × Ob)) (pm : List (ByteArray × Int)) (k : Nat) : Prop where
  len : o.length ≤ k
  cnt : ∀ n c, look pm n = some c → 0 ≤ c ∧ c ≤ k
  obj : ∀ n x, look o n = some x → n.size ≤ 40 ∧ x.1.size ≤ 60 ∧ ∃ c, look pm (n ++ bar ++ x.1) = some c ∧ 1 ≤ c

theorem InvW.next {o : List (ByteArray × Ob)} {pm : List (ByteArray × Int)} {k : Nat} (h : InvW o pm k) : InvW o pm (k + 1) :=
  ⟨Nat.le_succ_of_le h.len, fun n c hc => ⟨(h.cnt n c hc).1, by have := (h.cnt n c hc).2; omega⟩, h.obj⟩
theorem InvW.count {o : List (ByteArray × Ob)} {pm : List (ByteArray × Int)} {k : Nat} (h : InvW o pm k) (key : ByteArray) : 0 ≤ (look pm key).getD 0 ∧ (look pm key).getD 0 ≤ k := by
  cases hl : look pm key with
  | none => simp
  | some c => simpa using h.cnt key c hl
/-- One count more. -/
theorem InvW.more {o : List (ByteArray × Ob)} {pm : List (ByteArray × Int)} {k : Nat} (h : InvW o pm k) (key : ByteArray) : InvW o (put pm key ((look pm key).getD 0 + 1)) (k + 1) := by
  obtain ⟨c0, c1⟩ := h.count key
  refine ⟨Nat.le_succ_of_le h.len, ?_, ?_⟩
  · intro n c hc
    rw [look_put] at hc
    split at hc
    · injection hc with hc; omega
    · have := h.cnt n c hc; omega
  · intro n x hx
    obtain ⟨h1, h2, c, h3, h4⟩ := h.obj n x hx
    refine ⟨h1, h2, ?_⟩
    rw [look_put]
    split
    · exact ⟨_, rfl, by omega⟩
    · exact ⟨c, h3, h4⟩
theorem InvW.put {o : List (ByteArray × Ob)} {pm : List (ByteArray × Int)} {k : Nat} (h : InvW o pm k) (name data : ByteArray) (t : Int) (hn : name.size ≤ 40) (hd : data.size ≤ 60) :
    InvW (put o name (data, t)) (put pm (name ++ bar ++ data) ((look pm (name ++ bar ++ data)).getD 0 + 1)) (k + 1) := by
  have hm := h.more (name ++ bar ++ data)
  refine ⟨?_, hm.cnt, ?_⟩
  · have := length_put name (data, t) o
    have := h.len
    omega
  · intro n x hx
    rw [look_put] at hx
    split at hx
    · rename_i e
      subst e
      injection hx with hx
      subst hx
      refine ⟨hn, hd, _, by rw [look_put, if_pos rfl], ?_⟩
      have := (h.count (n ++ bar ++ data)).1
      omega
    · exact hm.obj n x hx
theorem InvW.chg {o : List (ByteArray × Ob)} {pm : List (ByteArray × Int)} {k : Nat} (h : InvW o pm k) (Q : List (Int × Bool)) (name data : ByteArray) (t : Int) (hn : name.size ≤ 40) (hd : data.size ≤ 60) :
    InvW (chg Q o (Go.Proofs.Ythcdodjdlgeeoaa.put o name (data, t))) (Go.Proofs.Ythcdodjdlgeeoaa.put pm (name ++ bar ++ data) ((look pm (name ++ bar ++ data)).getD 0 + 1)) (k + 1) := by
  unfold Go.Proofs.Ythcdodjdlgeeoaa.chg
  split
  · exact h.put name data t hn hd
  · exact h.more _
theorem InvW.del {o : List (ByteArray × Ob)} {pm : List (ByteArray × Int)} {k : Nat} (h : InvW o pm k) (hnd : (o.map (·.1)).Nodup) (Q : List (Int × Bool)) (name : ByteArray) : InvW (Go.Proofs.Ythcdodjdlgeeoaa.chg Q o (del o name)) pm (k + 1) := by
  unfold Go.Proofs.Ythcdodjdlgeeoaa.chg
  split
  · refine ⟨?_, h.next.cnt, ?_⟩
    · have := length_del name o
      have := h.len
      omega
    · intro n x hx
      rw [look_del _ _ _ hnd] at hx
      split at hx
      · cases hx
      · exact h.obj n x hx
  · exact h.next

/-- Put, whatever the name. -/
theorem put_weak (w : World) (b f c mb : Nat) (armed : Bool) (Q : List (Int × Bool)) (o : List (ByteArray × Ob)) (h : BucketAt w b f c mb armed Q o) (name data : ByteArray) (now : Int) (h40 : name.size ≤ 40) :
    Calls Try.prog 17 #[.pointer (some ⟨b, 0, none⟩), .string name, .string data, .int .i64 now] w fun e w' => ∃ n armed' Q' o', e = .returned (.int .i64 n) ∧ BucketAt w' b f c mb armed' Q' o' ∧
      (o' = o ∨ o' = put o name (data, now)) ∧ Keeps [f, c, mb] w w' := by
  by_cases h0 : name.size = 0
  · refine (put_bad w b name data now (.inl h0)).mono ?_
    rintro e w' ⟨rfl, hk⟩
    exact ⟨1, _, _, _, rfl, hk.keep_bucket h, .inl rfl, hk.mono (by simp)⟩
  · refine (put_spec w b f c mb _ _ _ h name data now h0 h40).mono ?_
    rintro e w' ⟨rfl, hb, hk⟩
    refine ⟨_, _, _, _, rfl, hb, ?_, hk⟩
    unfold chg
    split
    · exact .inr rfl
    · exact .inl rfl
theorem arm_weak (w : World) (f c : Nat) (armed : Bool) (Q : List (Int × Bool)) (n : Int) (d : Bool) (hn : n ≤ 9223372036854775807) (h : FuseQ w f c armed Q) :
    Calls Try.prog 21 #[.pointer (some ⟨f, 0, none⟩), .int .i64 n, .bool d] w fun e w' => ∃ r Q', e = .returned (.int .i64 r) ∧ FuseQ w' f c armed Q' ∧ Keeps [f, c] w w' := by
  refine (arm_spec w f c armed Q n d hn h).mono ?_
  rintro e w' (⟨_, rfl, h2, h3⟩ | ⟨_, rfl, rfl⟩)
  · exact ⟨_, _, rfl, h2, h3⟩
  · exact ⟨_, _, rfl, h, Keeps.refl _ _⟩

theorem lookVal_int (pm : List (ByteArray × Int)) (n : ByteArray) : lookVal (encMap encI pm) n (.int .i64 0) false = .int .i64 ((look pm n).getD 0) := by
  unfold lookVal
  rw [look_enc]
  cases look pm n <;> rfl

theorem flat_at {α : Type} (enc : α → List Value) (s : Nat) (hs : ∀ x, (enc x).length = s) : ∀ (L : List α) (j : Nat) (hj : j < L.length) (i : Nat), i < s → (L.flatMap enc)[j * s + i]? = (enc L[j])[i]?
  | [], j, hj, _, _ => by simp at hj
  | x :: L, 0, _, i, hi => by
    simp only [List.flatMap_cons, Nat.zero_mul, Nat.zero_add, List.getElem_cons_zero]
    exact List.getElem?_append_left (by rw [hs]; exact hi)
  | x :: L, j + 1, hj, i, hi => by
    have ih := flat_at enc s hs L j (by simpa using hj) i hi
    simp only [List.flatMap_cons, List.getElem_cons_succ]
    rw [List.getElem?_append_right (by rw [hs, Nat.add_mul]; omega), hs, show (j + 1) * s + i - s = j * s + i from by rw [Nat.add_mul]; omega]
    exact ih
theorem listing_mem {o : List (ByteArray × Ob)} {pre : ByteArray} {p : ByteArray × Ob} (h : p ∈ listing o pre) : ∃ x, look o p.1 = some x ∧ p.2 = x := by
  simp only [listing, List.mem_map, List.mem_filter] at h
  obtain ⟨n, ⟨hn, _⟩, rfl⟩ := h
  have hn' : n ∈ o.map (·.1) := (sortB_perm _).mem_iff.1 hn
  obtain ⟨x, hx⟩ := look_isSome hn'
  exact ⟨x, hx, by simp [obOr, hx]⟩
theorem InvW.keys {o : List (ByteArray × Ob)} {pm : List (ByteArray × Int)} {k : Nat} (h : InvW o pm k) : ∀ p ∈ o, p.1.size ≤ maxLen := by
  intro p hp
  obtain ⟨x, hx⟩ := look_isSome (o := o) (n := p.1) (List.mem_map.2 ⟨p, hp, rfl⟩)
  have := (h.obj p.1 x hx).1
  simp only [maxLen]
  omega
theorem InvW.datas {o : List (ByteArray × Ob)} {pm : List (ByteArray × Int)} {k : Nat} (h : InvW o pm k) : ∀ n, (obOr (look o n)).1.size ≤ 9223372036854775807 := by
  intro n
  cases hl : look o n with
  | none => decide
  | some x =>
    have := (h.obj n x hl).2.1
    simp only [obOr, Option.getD_some]
    omega
def InnerRel (w5 : World) (n gk : Nat) (i : Value) (wr : World) : Prop := ∃ j, j ≤ n ∧ gk = n - j ∧ i = .int .i64 j ∧ Keeps [] w5 wr

/-- The state between two acts. -/
def StW (w : World) (b f c mb pb k : Nat) (wr : World) : Prop :=
  ∃ armed Q o pm, BucketAt wr b f c mb armed Q o ∧ MapAt wr pb (encMap encI pm) ∧ InvW o pm k ∧ Keeps [] w wr
def WholeRel (L : List ActB) (w : World) (b f c mb pb gk : Nat) (i : Value) (wr : World) : Prop :=
  ∃ k, k ≤ L.length ∧ k ≤ 30 ∧ gk = 30 - k ∧ i = .int .i64 k ∧ StW w b f c mb pb k wr

set_option maxRecDepth 100000 in
set_option maxHeartbeats 2000000 in
theorem bucketWhole_walk (L : List ActB) (v0 : Value) (w : World) (hs : SliceArg 6 encActB w v0 L) (hok : ∀ x ∈ L, okActB x) :
    Calls Try.prog 4 #[v0] w fun e w' => e = .returned (.bool true) ∧ Keeps [] w w' := by
  obtain ⟨ao, cap, rfl, hl, hc⟩ := hs
  unfold maxLen at hl
  have Hc := Lib.hid hc
  have hmm := @run_makeMap Try.prog
  clear hc
  go_enter Try.func4, Try.ntmps4
  go_wp2_with fail
  refine (newBucket_spec w).mono ?_
  rintro e w1 ⟨b, f, c, mb, rfl, hb1, hk1, l1, l2, l3, l4⟩
  go_wp2_with fail
  refine (awakeB_spec w1).mono ?_
  rintro e w2 ⟨rfl, hk2⟩
  have hb2 := hk2.keep_bucket hb1
  have cb2 := cells_at hb2.cells
  have hk02 := hk1.trans hk2
  have hm2 := mapAt_new w2
  have hb3 := (((Keeps.refl [] w2).alloc (.map #[] 0))).keep_bucket hb2
  have hk03 := hk02.alloc (.map #[] 0)
  have hpb := hb2.lt
  obtain ⟨pb, hpbe⟩ : ∃ pb, pb = w2.heap.size := ⟨_, rfl⟩
  obtain ⟨p1, p2, p3, p4⟩ := hpb
  have hwp : w.heap.size ≤ pb := by have := hk02.size; omega
  rw [← hpbe] at p1 p2 p3 p4 hm2
  have Hp := Lib.hid hpbe
  clear hpbe
  go_wp2_with fail
  rw [← Hp.out]
  go_loopg [5] 30 (WholeRel L w b f c mb pb)
  case atStart => exact ⟨0, Nat.zero_le _, by omega, rfl, rfl, _, _, _, [], hb3, hm2, ⟨by simp, by simp [look], by simp [look]⟩, hk03⟩
  case round =>
    obtain ⟨k, hkl, hk30, hgk, rfl, armed, Q, o, pm, hb, hm, hinv, hk⟩ := hrel
    have Hg := Lib.hid hgk
    clear hgk hb1 hb2 hb3 hk1 hk2 hk02 hk03 hm2 cb2
    by_cases hlt : k < L.length ∧ k < 30
    · obtain ⟨hlt, hlt30⟩ := hlt
      obtain ⟨b1, o1, rfl, hb1, hc1⟩ := Hc.out k hlt
      have hokx := hok L[k] (List.getElem_mem _)
      generalize hx : L[k] = x at hc1 hokx
      clear hx
      obtain ⟨⟨ok1, ok2⟩, ⟨ok3, ok4⟩, _, oka, okb⟩ := hokx
      have d0 : wr.cell? ⟨b1, o1 + k * 6, none⟩ = some (.int .i64 x.kind) := by rw [hk.cell hb1 (by simp)]; simpa [encActB] using hc1 0 (by omega)
      have d1 : wr.cell? ⟨b1, o1 + k * 6 + 1, none⟩ = some (.int .i64 x.n) := by rw [hk.cell hb1 (by simp)]; rw [Nat.add_assoc]; simpa [encActB] using hc1 1 (by omega)
      have d2 : wr.cell? ⟨b1, o1 + k * 6 + 2, none⟩ = some (.int .i64 x.m) := by rw [hk.cell hb1 (by simp)]; rw [Nat.add_assoc]; simpa [encActB] using hc1 2 (by omega)
      have d3 : wr.cell? ⟨b1, o1 + k * 6 + 3, none⟩ = some (.string x.a) := by rw [hk.cell hb1 (by simp)]; rw [Nat.add_assoc]; simpa [encActB] using hc1 3 (by omega)
      have d4 : wr.cell? ⟨b1, o1 + k * 6 + 4, none⟩ = some (.string x.b) := by rw [hk.cell hb1 (by simp)]; rw [Nat.add_assoc]; simpa [encActB] using hc1 4 (by omega)
      have d5 : wr.cell? ⟨b1, o1 + k * 6 + 5, none⟩ = some (.bool x.done) := by rw [hk.cell hb1 (by simp)]; rw [Nat.add_assoc]; simpa [encActB] using hc1 5 (by omega)
      clear hc1
      have hlt' : (k : Int) < (L.length : Int) := by omega
      go_upto_block 2 with (go_at_call 14; refine (cut_any _ 40 _ (by decide)).mono ?_; rintro e w' ⟨rfl, rfl⟩)
      have hn40 := cut_size x.a 40
      have hd60 := cut_size x.b 60
      have hq0 := heap_new wr (.cells #[.int .i64 x.kind, .int .i64 x.n, .int .i64 x.m, .string x.a, .string x.b, .bool x.done] 39)
      have hk3 := hk.alloc (.cells #[.int .i64 x.kind, .int .i64 x.n, .int .i64 x.m, .string x.a, .string x.b, .bool x.done] 39)
      have hb3 := ((Keeps.refl [] wr).alloc (.cells #[.int .i64 x.kind, .int .i64 x.n, .int .i64 x.m, .string x.a, .string x.b, .bool x.done] 39)).keep_bucket hb
      have hm3 := hm.keep ((Keeps.refl [] wr).alloc (.cells #[.int .i64 x.kind, .int .i64 x.n, .int .i64 x.m, .string x.a, .string x.b, .bool x.done] 39)) (by simp)
      have hqf := hb.lt
      have hqw := hk.size
      clear d0 d1 d2 d3 d4 d5 hb hm hk
      generalize wr.alloc (.cells #[.int .i64 x.kind, .int .i64 x.n, .int .i64 x.m, .string x.a, .string x.b, .bool x.done] 39) = W3 at hq0 hk3 hb3 hm3 ⊢
      generalize wr.heap.size = q at hq0 hqf hqw ⊢
      generalize hname : cut x.a 40 = name at hn40 ⊢
      clear hname
      go_cut [] from 46 to 80 (fun wc => StW w b f c mb pb (k + 1) wc)
      case first =>
        have cq := cells_at hq0
        have lq := lt_of_at hq0
        have hdata : Hid (∀ W, Calls Try.prog 14 #[.string x.b, .int .i64 60] W fun e w' => e = .returned (.string (cut x.b 60)) ∧ w' = W) := by
          apply Lib.hid
          intro W
          exact (cut_any x.b 60 W (by decide)).mono fun _ _ h => ⟨h.1, h.2.symm⟩
        by_cases k1 : x.kind = 1
        · have k1' : (x.kind == 1) = true := by simp [k1]
          clear k1
          go_wp2_with fail
          go_still_tail 7, (by kernel_rfl)
          still_call (hdata.out _)
          repeat still_step
          refine wpStill_nil ?_
          change wpList _ _ _ _ _ W3.drew
          generalize hcd : cut x.b 60 = data at hd60 hdata
          clear hcd
          go_wp2_with fail
          refine (put_weak W3.drew b f c mb _ _ _ hb3.drew name data x.n hn40).mono ?_
          rintro e w4 ⟨r, armed', Q', o', rfl, hb4, ho', hk4⟩
          have hm4 := (hm3.drew).keep hk4 (by simp; omega)
          have hk04 := hk3.drew.after hk4 (by simp; omega)
          have hq4 := hk4.at_ (w := W3.drew) hq0 (by simp; omega)
          clear cq hq0 hk3 hb3 hm3 hk4
          have cq := cells_at hq4
          obtain ⟨cn0, cn1⟩ := hinv.count (name ++ ⟨#[124]⟩ ++ data)
          have hinv' : InvW o' (put pm (name ++ ⟨#[124]⟩ ++ data) ((look pm (name ++ ⟨#[124]⟩ ++ data)).getD 0 + 1)) (k + 1) := by
            rcases ho' with rfl | rfl
            · exact hinv.more _
            · exact hinv.put name data x.n hn40 hd60
          have hrl := hm4.run_lookup (P := Try.prog) Try.underlying37 Try.underlying9 (zeroInt _) (name ++ ⟨#[124]⟩ ++ data) false
          rw [lookVal_int] at hrl
          obtain ⟨ob, hru, hm5⟩ := hm4.run_update (P := Try.prog) Try.underlying37 Try.underlying9 (name ++ ⟨#[124]⟩ ++ data) (encI ((look pm (name ++ ⟨#[124]⟩ ++ data)).getD 0 + 1))
          rw [put_enc] at hm5
          simp only [encI] at hru
          generalize (look pm (name ++ ⟨#[124]⟩ ++ data)).getD 0 = cn at cn0 cn1 hrl hru hm5 hinv'
          have Hi := Lib.hid (And.intro hinv' hm5)
          clear hinv' hm5 ho' hinv
          go_wp2_with (go_at_call 14; refine (hdata.out _).mono ?_; rintro e w' ⟨rfl, rfl⟩)
          go_meet
          case rel =>
            have hne : ∀ y, y = b ∨ y = f ∨ y = c ∨ y = mb → y ∉ [pb] := by
              intro y hy
              simp only [List.mem_singleton]
              omega
            refine ⟨armed', Q', o', _, hb4.keep ((Keeps.refl [pb] w').setAt (.inl (by simp)) _) (hne b (by simp)) (hne f (by simp)) (hne c (by simp)) (hne mb (by simp)), Hi.out.2, Hi.out.1, hk04.setAt (.inr hwp) _⟩
        · have k1' : (x.kind == 1) = false := by simp [k1]
          by_cases k2 : x.kind = 2
          · have k2' : (x.kind == 2) = true := by simp [k2]
            clear k1 k2
            go_wp2_with fail
            refine (delete_spec W3 b f c mb _ _ _ hb3 name).mono ?_
            rintro e w4 ⟨rfl, hb4, hk4⟩
            have hm4 := hm3.keep hk4 (by simp; omega)
            have hk04 := hk3.after hk4 (by simp; omega)
            have hnd : (o.map (·.1)).Nodup := by have := hb3.map.nodup; rwa [keys_enc] at this
            have Hi := Lib.hid (hinv.del hnd Q name)
            clear hinv hnd hk3 hk4
            generalize ioErr Q = r
            go_wp2_with fail
            go_meet
            case rel => exact ⟨_, _, _, _, hb4, hm4, Hi.out, hk04⟩
          · have k2' : (x.kind == 2) = false := by simp [k2]
            have Hi := Lib.hid hinv.next
            clear hinv
            by_cases k6 : x.kind = 6
            · have k6' : (x.kind == 6) = true := by simp [k6]
              have cb := cells_at hb3.cells
              have lb := hb3.lt.1
              clear k1 k2 k6
              go_wp2_with fail
              go_still_tail 8, (by kernel_rfl)
              change wpList _ _ _ _ _ W3.drew
              go_wp2_with fail
              refine (arm_weak W3.drew f c _ _ x.n x.done ok4 hb3.drew.fuse).mono ?_
              rintro e w4 ⟨r, Q', rfl, hq4', hk4⟩
              have hb4 := hb3.drew.tried hk4 hq4'
              have hm4 := (hm3.drew).keep hk4 (by simp; omega)
              have hk04 := hk3.drew.after hk4 (by simp; omega)
              clear hk3 hk4 cb hq4'
              go_wp2_with fail
              go_meet
              case rel => exact ⟨_, _, _, _, hb4, hm4, Hi.out, hk04⟩
            · have k6' : (x.kind == 6) = false := by simp [k6]
              clear k1 k2 k6
              go_wp2_with fail
              go_meet
              case rel => exact ⟨_, _, _, _, hb3, hm3, Hi.out, hk3⟩
      case rest =>
        obtain ⟨armed2, Q2, o2, pm2, hb, hm, hinv2, hk⟩ := hcut
        clear hinv hb3 hm3 hk3 hq0
        go_wp2_with fail
        refine (look_spec wc b f c mb _ _ _ hb ⟨#[]⟩ hinv2.keys hinv2.datas (by have := hinv2.len; omega)).mono ?_
        rintro e w5 ⟨v, rfl, hrow, hk5⟩
        have hb5 := hk5.keep_bucket hb
        have hm5 := hm.keep hk5 (by simp)
        have hk05 := hk.trans hk5
        have hmem : ∀ p ∈ listing o2 ⟨#[]⟩, ∃ x, look o2 p.1 = some x ∧ p.2 = x := fun p hp => listing_mem hp
        generalize listing o2 ⟨#[]⟩ = T at hrow hmem
        obtain ⟨ai, capi, rfl, hci, hci2, hcell⟩ := row_slice hrow
        have Hcell := Lib.hid hcell
        have Hmem := Lib.hid hmem
        have Hinv := Lib.hid hinv2
        unfold maxLen at hci2
        clear hcell hmem hrow hinv2 hk5 hk hb hm
        go_wp2_with fail
        go_loopg [84] T.length (InnerRel w5 T.length)
        case atStart => exact ⟨0, Nat.zero_le _, rfl, rfl, Keeps.refl _ _⟩
        case round =>
          obtain ⟨j, hjn, hgj, rfl, hkj⟩ := hrel
          have Hgj := Lib.hid hgj
          clear hgj
          by_cases hjt : j < T.length
          · obtain ⟨g, rfl, hg1, hg2, _⟩ := Hcell.out (j * 3) (by omega)
            obtain ⟨x2, hx2, hp2⟩ := Hmem.out T[j] (List.getElem_mem _)
            obtain ⟨hs1, hs2, cn, hcn, hcn1⟩ := Hinv.out.obj _ _ hx2
            have hcn2 := (Hinv.out.cnt _ _ hcn).2
            have cell : ∀ i, i < 3 → wr.cell? ⟨g, j * 3 + i, none⟩ = (infoOf T[j])[i]? := by
              intro i hi
              rw [hkj.cell hg2 (by simp)]
              obtain ⟨g', e', _, _, h'⟩ := Hcell.out (j * 3 + i) (by omega)
              injection e' with e'; injection e' with e'; subst e'
              rw [h', flat_at infoOf 3 (fun _ => rfl) T j hjt i hi]
            have d0 := cell 0 (by omega)
            have d1 := cell 1 (by omega)
            have d2 := cell 2 (by omega)
            clear cell
            generalize T[j] = pr at hx2 hp2 hs1 hcn d0 d1 d2
            obtain ⟨nm, ob⟩ := pr
            simp only at hx2 hp2 hs1 hcn
            subst hp2
            obtain ⟨dt, tk⟩ := ob
            simp only at hs2 hcn
            simp only [infoOf, List.getElem?_cons_zero, List.getElem?_cons_succ, Nat.add_zero] at d0 d1 d2
            have hbj := hkj.keep_bucket hb5
            have hmj := hm5.keep hkj (by simp)
            have hb6 := ((Keeps.refl [] wr).alloc (.cells #[.string nm, .int .i64 dt.size, .int .i64 tk] 45)).keep_bucket hbj
            have hm6 := hmj.keep ((Keeps.refl [] wr).alloc (.cells #[.string nm, .int .i64 dt.size, .int .i64 tk] 45)) (by simp)
            have hq6 := heap_new wr (.cells #[.string nm, .int .i64 dt.size, .int .i64 tk] 45)
            have hk6 := hkj.alloc (.cells #[.string nm, .int .i64 dt.size, .int .i64 tk] 45)
            have Hcn := Lib.hid hcn
            have Hx2 := Lib.hid hx2
            clear hcn hx2 hbj hmj
            go_wp2_with fail
            refine (peek_spec _ b f c mb _ _ _ hb6 nm).mono ?_
            rintro e w7 ⟨rfl, hk7⟩
            rw [Hx2.out]
            have hm7 := hm6.keep hk7 (by simp)
            have hq7 := hk7.at_ hq6 (by simp)
            have hk07 := hk6.trans hk7
            have cq7 := cells_at hq7
            have hrl := hm7.run_lookup (P := Try.prog) Try.underlying37 Try.underlying9 (zeroInt _) (nm ++ ⟨#[124]⟩ ++ dt) false
            rw [lookVal_int, show look pm2 (nm ++ ⟨#[124]⟩ ++ dt) = some cn from Hcn.out] at hrl
            simp only [Option.getD_some] at hrl
            have hc0 : (cn == 0) = false := by simp; omega
            clear hm6 hm7 hq6 hq7 hk7 hk6 hb6 hkj d0 d1 d2
            simp only [obOr, Option.getD_some, Option.isSome_some]
            go_wp2_with fail
            go_roundg (T.length - (j + 1))
            case measure => have := Hgj.out; omega
            case rel => exact ⟨j + 1, by omega, rfl, by go_num, hk07⟩
          · go_wp2_with fail
            go_roundg (30 - (k + 1))
            case measure => have := Hg.out; omega
            case rel => exact ⟨k + 1, by omega, by omega, rfl, by go_num, armed2, Q2, o2, pm2, hkj.keep_bucket hb5, hm5.keep hkj (by simp), Hinv.out, hk05.trans hkj⟩
    · go_wp2_with fail
      all_goals
        go_ret
        exact ⟨rfl, hk⟩

end Go.Proofs.Ythcdodjdlgeeoaa
