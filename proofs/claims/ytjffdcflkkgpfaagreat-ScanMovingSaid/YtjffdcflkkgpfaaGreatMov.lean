/-
  ScanMoving answers true for all lists of things and of numbers, and leaves all memory that was there as it was.
  No condition: every input that can be read, where the library's variable stands.
-/
import Derived.Test.YtjffdcflkkgpfaaGreatMovP
import Derived.Test.YtjffdcflkkgpfaaGreatRSplitG
namespace Go.Proofs.YtjffdcflkkgpfaaGreat
open Go Go.RowKit Go.Conc

structure MovInv (o0 : BktS) (k : Nat) (S : ScanS) (o : BktS) : Prop where
  nodup : (o0.map (·.1)).Nodup
  part : o.Sublist o0
  begun : S.begun = true
  tick : S.tick = 5
  infos : S.infos = listing o0 ⟨#[]⟩
  wait : S.wait = (waitsOf o0).drop k
  from_ : ∀ n d, look S.got n = some d → n ∈ (waitsOf o0).take k ∧ dataOf o0 n = d
  all : ∀ n ∈ (waitsOf o0).take k, ∀ x, look o n = some x → look S.got n = some x.1

theorem MovInv.sub {o0 o : BktS} {k : Nat} {S : ScanS} (h : MovInv o0 k S o) (n : ByteArray) (x : Ob) (hl : look o n = some x) : look o0 n = some x := look_of_mem h.nodup (h.part.subset (look_mem hl))

theorem mov_first {o : BktS} (hn : (o.map (·.1)).Nodup) : MovInv o 0 (stS o 5 0) o where
  nodup := hn
  part := List.Sublist.refl _
  begun := rfl
  tick := rfl
  infos := rfl
  wait := rfl
  from_ := fun n d h => by simp [stS, gotK, look] at h
  all := fun n h => by simp at h

theorem MovInv.del {o0 o : BktS} {k : Nat} {S : ScanS} (h : MovInv o0 k S o) (n : ByteArray) : MovInv o0 k S (Go.Proofs.YtjffdcflkkgpfaaGreat.del o n) where
  nodup := h.nodup
  part := (del_sub n o).trans h.part
  begun := h.begun
  tick := h.tick
  infos := h.infos
  wait := h.wait
  from_ := h.from_
  all := fun m hm x hl => by
    rw [look_del _ _ _ (h.nodup.sublist (h.part.map _))] at hl
    split at hl
    · cases hl
    · exact h.all m hm x hl

theorem MovInv.next {o0 o : BktS} {k : Nat} {S : ScanS} (h : MovInv o0 k S o) (hk : k < (waitsOf o0).length) :
    MovInv o0 (k + 1) (gotOf (getVal [] o (waitsOf o0)[k]) (waitsOf o0)[k] ((waitsOf o0).drop (k + 1)) S) o ∧ gotErr (getVal [] o (waitsOf o0)[k]) = 0 := by
  have hw : tryWorks [] = true := rfl
  have htk : (waitsOf o0).take (k + 1) = (waitsOf o0).take k ++ [(waitsOf o0)[k]] := List.take_succ_eq_append_getElem hk
  obtain ⟨x, hx⟩ : ∃ x, x = (waitsOf o0)[k] := ⟨_, rfl⟩
  rw [← hx] at htk ⊢
  cases hl : look o x with
  | none =>
    have hg : getVal [] o x = (⟨#[]⟩, 5) := by unfold getVal; rw [if_pos hw, hl]
    rw [hg]
    refine ⟨?_, rfl⟩
    have e : gotOf ((⟨#[]⟩ : ByteArray), (5 : Int)) x ((waitsOf o0).drop (k + 1)) S = ⟨S.begun, S.tick, S.infos, (waitsOf o0).drop (k + 1), S.got⟩ := rfl
    rw [e]
    exact ⟨h.nodup, h.part, h.begun, h.tick, h.infos, rfl, fun n d hd => by
      obtain ⟨h1, h2⟩ := h.from_ n d hd
      exact ⟨by rw [htk]; exact List.mem_append_left _ h1, h2⟩, fun n hn y hy => by
      rw [htk] at hn
      rcases List.mem_append.1 hn with hn | hn
      · exact h.all n hn y hy
      · simp only [List.mem_singleton] at hn
        subst hn
        rw [hl] at hy
        cases hy⟩
  | some y =>
    have hg : getVal [] o x = (y.1, 0) := by unfold getVal; rw [if_pos hw, hl]
    rw [hg]
    refine ⟨?_, rfl⟩
    have e : gotOf (y.1, (0 : Int)) x ((waitsOf o0).drop (k + 1)) S = ⟨S.begun, S.tick, S.infos, (waitsOf o0).drop (k + 1), put S.got x y.1⟩ := rfl
    rw [e]
    exact ⟨h.nodup, h.part, h.begun, h.tick, h.infos, rfl, fun n d hd => by
      change look (put S.got x y.1) n = some d at hd
      rw [look_put] at hd
      by_cases en : n = x
      · rw [if_pos en] at hd
        injection hd with hd
        subst en
        refine ⟨by rw [htk]; simp, ?_⟩
        unfold dataOf
        rw [h.sub n y hl]
        exact hd
      · rw [if_neg en] at hd
        obtain ⟨h1, h2⟩ := h.from_ n d hd
        exact ⟨by rw [htk]; exact List.mem_append_left _ h1, h2⟩, fun n hn z hz => by
      show look (put S.got x y.1) n = some z.1
      rw [look_put]
      by_cases en : n = x
      · rw [if_pos en]
        subst en
        rw [hl] at hz
        injection hz with hz
        rw [hz]
      · rw [if_neg en]
        rw [htk] at hn
        rcases List.mem_append.1 hn with hn | hn
        · exact h.all n hn z hz
        · simp only [List.mem_singleton] at hn
          exact absurd hn en⟩

theorem MovInv.scan {o0 o : BktS} {k : Nat} {S : ScanS} (h : MovInv o0 k S o) (ok : RunOk o0) : ScanOk S where
  nodup := by rw [h.infos]; exact listing_nodupR ok.nodup
  in_ := fun n d hl => by
    rw [h.infos]
    exact listing_memR.2 (waitsOf_mem (List.mem_of_mem_take (h.from_ n d hl).1)).1
  len := by
    have := listing_len o0 ⟨#[]⟩
    have := ok.len
    rw [h.infos]
    omega
  data := fun n d hl => by
    obtain ⟨h1, h2⟩ := h.from_ n d hl
    rw [← h2]
    exact ok.data n (List.mem_of_mem_take h1)
  names := fun p hp => by
    rw [h.infos] at hp
    have : p.1 ∈ o0.map (·.1) := listing_memR.1 (List.mem_map.2 ⟨p, hp, rfl⟩)
    obtain ⟨q, hq, e⟩ := List.mem_map.1 this
    have := ok.name q hq
    rw [← e]
    omega

/-- Each block that is found was there when it began. -/
theorem mov_found {o0 o : BktS} {S : ScanS} (h : MovInv o0 (waitsOf o0).length S o) {m : MetaS} (hm : m ∈ (blksS S).map (·.1)) : ∃ p ∈ ofN (objsOf o0) (objsOf o0).length, p.1.id = m.id := by
  obtain ⟨p, hp, rfl⟩ := List.mem_map.1 hm
  obtain ⟨q, hq, hmq, -⟩ := ofN_mem hp
  obtain ⟨-, -, -, hl⟩ := gotN_mem hq
  obtain ⟨h1, h2⟩ := h.from_ _ _ hl
  have hk := (waitsOf_mem (List.mem_of_mem_take h1)).1
  cases hlk : look o0 q.1 with
  | none => exact absurd hk ((look_none_iff _ _).1 hlk)
  | some x =>
    have hin := objsOf_in hlk
    have hx : x.1 = q.2 := by unfold dataOf at h2; rw [hlk] at h2; exact h2
    rw [hx] at hin
    exact ⟨_, ofN_in hin hmq, rfl⟩

/-- What was there, and stays, is found. -/
theorem mov_stays {o0 o : BktS} {S : ScanS} (h : MovInv o0 (waitsOf o0).length S o) (ok : ScanOk S) {p : BlkS} (hp : p ∈ ofN (objsOf o) (objsOf o).length) : ∃ m ∈ (blksS S).map (·.1), m.id = p.1.id := by
  obtain ⟨q, hq, hmq, -⟩ := ofN_mem hp
  obtain ⟨x, hx, he⟩ := objsOf_of hq
  have h0 := h.sub _ _ hx
  have hw : q.1 ∈ waitsOf o0 := by
    rw [waitsOf_eq, List.mem_filter]
    refine ⟨(sortB_perm _).mem_iff.2 (List.mem_map.2 ⟨_, look_mem h0, rfl⟩), meta_wait hmq⟩
  have hg := h.all q.1 (by rw [List.take_length]; exact hw) x hx
  have hl2 := ok.look q.1
  rw [hg] at hl2
  have hin : (q.1, q.2) ∈ gotS S := by rw [← he]; exact look_mem hl2
  exact ⟨_, List.mem_map.2 ⟨_, ofN_in hin hmq, rfl⟩, rfl⟩

def MovAt (o0 : BktS) (i : Nat) (S : ScanS) (o : BktS) : Prop := (i = 0 ∧ S = scan0 ∧ o = o0) ∨ ∃ k, i = k + 1 ∧ MovInv o0 k S o

theorem movDone {o0 o : BktS} {i : Nat} {S : ScanS} (h : MovAt o0 i S o) : (S.begun && S.wait.isEmpty) = decide ((waitsOf o0).length < i) := by
  rcases h with ⟨rfl, rfl, rfl⟩ | ⟨k, rfl, h⟩
  · rw [decide_eq_false (by omega)]
    rfl
  · rw [h.begun, h.wait, Bool.true_and]
    by_cases hk : (waitsOf o0).length ≤ k
    · rw [List.drop_of_length_le hk, decide_eq_true (by omega)]
      rfl
    · rw [decide_eq_false (by omega), List.drop_eq_getElem_cons (by omega)]
      rfl

theorem movStep_spec (w : World) (b f c mb B q gb : Nat) (o0 o : BktS) (i : Nat) (S : ScanS) (hb : BucketAt w b f c mb false [] o) (hS : ScanAt 0 w B q gb S) (hm : MovAt o0 i S o) (hi : i ≤ (waitsOf o0).length) (hlow : b < B ∧ f < B ∧ c < B ∧ mb < B) (hv : LibVar w) (hvB : 0 < B) (ok : MovOk o0) :
    Calls Tryz.prog 25 #[.pointer (some ⟨q, 0, none⟩), .pointer (some ⟨b, 0, none⟩), .int .i64 5] w fun e w' => ∃ S', e = .returned (.int .i64 0) ∧ ScanAt 0 w' B q gb S' ∧ BucketAt w' b f c mb false [] o ∧ MovInv o0 i S' o ∧ Keeps [f, c, q, gb] w w' := by
  rcases hm with ⟨rfl, rfl, rfl⟩ | ⟨k, rfl, h⟩
  · refine (scanStep_begin w b f c mb B q gb false [] o scan0 5 hb hS rfl hlow hv hvB ok.bkt.name (fun n => by have := ok.at_ n; omega) (by have := ok.len; omega)).mono ?_
    rintro e w' ⟨rfl, h1, h2, h3⟩
    rw [scan_first] at h1
    exact ⟨_, rfl, h1, h2, mov_first ok.nodup, h3⟩
  · have hk : k < (waitsOf o0).length := by omega
    obtain ⟨h1, h2⟩ := h.next hk
    refine (scanStep_get w b f c mb B q gb false [] o S 5 (waitsOf o0)[k] ((waitsOf o0).drop (k + 1)) hb hS h.begun (by rw [h.wait]; exact List.drop_eq_getElem_cons hk) hlow).mono ?_
    rintro e w' ⟨rfl, h3, h4, h5⟩
    rw [h2]
    exact ⟨_, rfl, h3, h4, h1, h5⟩

def refB (o : BktS) : List BlkS := sortT (ofN (objsOf o) (objsOf o).length)

theorem refB_len {o : BktS} (h : MovOk o) : (refB o).length ≤ 15 := by
  have h1 := h.ofs.perm.length_eq
  have h2 := ofN_len (objsOf o) (objsOf o).length
  have h3 := h.objLen
  unfold refB
  omega

theorem mov_foundB {o0 o : BktS} {S : ScanS} (ok : MovOk o0) (hof : OfOk 5 (blksS S) (sortT (blksS S))) (h : MovInv o0 (waitsOf o0).length S o) {m : MetaS} (hm : m ∈ (sortT (blksS S)).map (·.1)) : hasB ((refB o0).map (·.1.id)) m.id = true := by
  rw [hasB_iff]
  obtain ⟨p, hp, e⟩ := mov_found h ((hof.perm.map _).subset hm)
  exact List.mem_map.2 ⟨p, ok.ofs.perm.mem_iff.2 hp, e⟩

theorem mov_staysB {o0 o : BktS} {S : ScanS} (ok : MovOk o) (hs : ScanOk S) (hof : OfOk 5 (blksS S) (sortT (blksS S))) (h : MovInv o0 (waitsOf o0).length S o) {p : BlkS} (hp : p ∈ refB o) : ∃ m ∈ (sortT (blksS S)).map (·.1), m.id = p.1.id := by
  obtain ⟨m, hm, e⟩ := mov_stays h hs (ok.ofs.perm.subset hp)
  exact ⟨m, (hof.perm.map _).symm.subset hm, e⟩

theorem fieldR1 (n : Int) (a : Option Addr) (l c : Nat) (w : World) : (Instr.field 40 (.agg #[.int .i64 n, .slice a l c]) 1).run Tryz.prog w = .ok (.slice a l c) w := by kernel_rfl

def MovRel (w : World) (B b f c mb q gb ob : Nat) (o0 : BktS) (OB : List ObjS) (vo : Value) (gk : Nat) (u8 : Value) (wr : World) : Prop :=
  ∃ i o S, i ≤ (waitsOf o0).length + 1 ∧ gk = (waitsOf o0).length + 1 - i ∧ u8 = .int .i64 i ∧ BucketAt wr b f c mb false [] o ∧ ScanAt 0 wr B q gb S ∧ MovAt o0 i S o ∧ wr.ownsRow ob 28 2 vo OB.length (OB.flatMap encObj) ∧ Keeps [] w wr

def KRel (w : World) (n : Nat) (gk : Nat) (u : Value) (wr : World) : Prop := ∃ k, k ≤ n ∧ gk = n - k ∧ u = .int .i64 k ∧ Keeps [] w wr

def HRel (w : World) (T : List ByteArray) (id : ByteArray) (gk : Nat) (u13 u85 : Value) (wr : World) : Prop := ∃ k fb, k ≤ T.length ∧ gk = T.length - k ∧ u85 = .int .i64 k ∧ u13 = .bool fb ∧ fb = hasB (T.take k) id ∧ Keeps [] w wr

theorem hasB_snoc {T : List ByteArray} {k : Nat} (h : k < T.length) (id : ByteArray) : hasB (T.take (k + 1)) id = (hasB (T.take k) id || decide (T[k] = id)) := by
  unfold hasB
  rw [List.take_succ_eq_append_getElem h, List.any_append]
  simp

theorem mov_rem (g : Int) {n : Nat} (h : 0 < n) : ∃ x : Nat, x < n ∧ (g.tmod (n : Int) + (n : Int)) % (n : Int) = (x : Int) := by
  have h1 := Int.emod_nonneg (g.tmod (n : Int) + (n : Int)) (b := (n : Int)) (by omega)
  have h2 := Int.emod_lt_of_pos (g.tmod (n : Int) + (n : Int)) (b := (n : Int)) (by omega)
  exact ⟨((g.tmod (n : Int) + (n : Int)) % (n : Int)).toNat, by omega, by omega⟩

set_option linter.unusedSimpArgs false in
set_option maxRecDepth 100000 in
set_option maxHeartbeats 4000000 in
theorem scanMoving_walk (w : World) (hv : LibVar w) (v : Value) (O : List ThingL) (hO : SliceArg 13 encThing w v O) (u : Value) (G : List Int) (hG : SliceArg 1 (fun n => [Value.int .i64 n]) w u G) (hgb : ∀ n ∈ G, -9223372036854775808 ≤ n ∧ n ≤ 9223372036854775807) :
    Calls Tryz.prog 5 #[v, u] w fun e w' => e = .returned (.bool true) ∧ Keeps [] w w' := by
  have Hv := Lib.hid hv
  have HO := Lib.hid hO
  have Hgb := Lib.hid hgb
  have Haw := Lib.hid (awake19_spec w hv)
  obtain ⟨av, cv, rfl, -, -⟩ := hO
  obtain ⟨ag, cg, hug, hgl, -⟩ := id hG
  rw [hug] at hG
  have HG := Lib.hid hG
  subst hug
  clear hv hG hgb
  go_enter Tryz.func5, Tryz.ntmps5
  go_wp2_with fail
  refine Haw.out.mono ?_
  rintro e w1 ⟨rfl, hk1⟩
  have Hf := Lib.hid (filled19_spec w1 _ O (HO.out.keep hk1))
  have Hk1 := Lib.hid hk1
  clear hk1 Haw
  go_wp2_with fail
  refine Hf.out.mono ?_
  rintro e w2 ⟨b, f, c, mb, vo, rfl, hb2, hrow2, hk2, l1, l2, l3, l4⟩
  obtain ⟨o0, ho⟩ : ∃ o, o = fillN (objsL (O.take 15)) (objsL (O.take 15)).length := ⟨_, rfl⟩
  rw [← ho] at hb2 hrow2
  have hlo := objsL_ok (O.take 15)
  have hl15 : (objsL (O.take 15)).length ≤ 15 := by have := hlo.1; rw [List.length_take] at this; omega
  have hnd : (o0.map (·.1)).Nodup := by have := hb2.map.nodup; rwa [keys_enc] at this
  have hok : MovOk o0 := by rw [ho] at hnd ⊢; exact fill_movOk hl15 hlo.2.2 hnd
  have Hok := Lib.hid hok
  have hn15 : (waitsOf o0).length ≤ 15 := Nat.le_trans (waitsOf_len o0) hok.len
  have hw1 := Hk1.out.size
  have hlt2 := hb2.lt
  obtain ⟨OB, hOB⟩ : ∃ L, L = objsOf o0 := ⟨_, rfl⟩
  rw [← hOB] at hrow2
  have HOB := Lib.hid hOB
  obtain ⟨ob, hob⟩ : ∃ n, n = w1.heap.size := ⟨_, rfl⟩
  rw [← hob] at hrow2
  have Hob := Lib.hid hob
  obtain ⟨ao, co, rfl, -, -, -⟩ := row_slice hrow2
  have H2 := Lib.hid (And.intro hb2 (And.intro hrow2 (Hk1.out.trans hk2)))
  clear ho hlo hl15 hnd hok hb2 hrow2 hk2 Hf hOB hob
  go_wp2_with fail
  refine (scanNew_spec w2).mono ?_
  rintro e w3 ⟨q, gb, rfl, hS, hk3⟩
  obtain ⟨B, hB⟩ : ∃ n, n = w2.heap.size := ⟨_, rfl⟩
  have hvB : 0 < B := by
    rw [hB]
    exact (Hv.out.same H2.out.2.2).lt
  have hwB : w.heap.size ≤ B := by rw [hB]; exact H2.out.2.2.size
  have hoB : ∀ g, (Value.slice ao OB.length co).ownBlock = some g → g < B := fun g hg => by rw [hB]; exact (World.ownsRow.lt H2.out.2.1 g hg).2
  rw [← hB] at hlt2 hS
  have HoB := Lib.hid hoB
  have hqB := hS.1
  have hgB := hS.2.1
  have H3 := Lib.hid (And.intro (hk3.keep_bucket H2.out.1) (And.intro hS (And.intro (hk3.row H2.out.2.1 (by simp)) (H2.out.2.2.trans hk3))))
  have hobw : w.heap.size ≤ ob := by have := Hob.out; omega
  clear hS hk3 hB H2 hoB
  obtain ⟨ON, hON⟩ : ∃ n, n = OB.length := ⟨_, rfl⟩
  have HON := Lib.hid hON
  rw [← hON]
  clear hON
  go_wp2_with fail
  go_loopg [8] ((waitsOf o0).length + 1) (MovRel w B b f c mb q gb ob o0 OB (.slice ao ON co))
  case atStart => exact ⟨0, o0, scan0, Nat.zero_le _, rfl, rfl, H3.out.1, H3.out.2.1, .inl ⟨rfl, rfl, rfl⟩, by rw [HON.out]; exact H3.out.2.2.1, H3.out.2.2.2⟩
  case round =>
    obtain ⟨i, o, S, hi, hgi, rfl, hb, hS, hm, hrow, hkr⟩ := hrel
    have Hgi := Lib.hid hgi
    clear H3 hgi
    have hi40 : (i : Int) < 40 := by omega
    have Hd := Lib.hid (scanDone_spec wr B q gb S hS)
    rw [movDone hm] at Hd
    by_cases hlt : i ≤ (waitsOf o0).length
    · rw [decide_eq_false (show ¬ (waitsOf o0).length < i by omega)] at Hd
      have Hs := Lib.hid (movStep_spec wr b f c mb B q gb o0 o i S hb hS hm hlt hlt2 (Hv.out.same hkr) hvB Hok.out)
      have Hkr := Lib.hid (And.intro hrow (And.intro hkr (bkt_row hb hrow)))
      clear hb hS hm hrow hkr
      go_wp2_with fail
      refine Hd.out.mono ?_
      rintro e w4 ⟨rfl, rfl⟩
      go_wp2_with fail
      refine Hs.out.mono ?_
      rintro e w5 ⟨S', rfl, hS5, hb5, hm5, hk5⟩
      have hrow5 := hk5.row Hkr.out.1 (fun g hg hm => by
        obtain ⟨h1, h2, h3⟩ := Hkr.out.2.2 g hg
        have h4 := HoB.out g (by rw [← HON.out]; exact hg)
        simp only [List.mem_cons, List.not_mem_nil, or_false] at hm
        omega)
      have hkw5 : Keeps [] w w5 := Hkr.out.2.1.after hk5 (fun x hx => .inr (by simp only [List.mem_cons, List.not_mem_nil, or_false] at hx; omega))
      have H5 := Lib.hid (And.intro hb5 (And.intro hS5 (And.intro hm5 (And.intro hrow5 (And.intro hkw5 (bkt_row hb5 hrow5))))))
      clear hS5 hb5 hm5 hk5 hrow5 hkw5 Hd Hs Hkr
      by_cases hig : i < G.length
      · have hig' : (i : Int) < (G.length : Int) := by omega
        by_cases h0 : 0 < ON
        · have h0' : (ON : Int) > 0 := by omega
          have h0'' : (ON : Int) ≠ 0 := by omega
          obtain ⟨bg, og, eg, hbg, hcg⟩ := SliceArg.atI (HG.out.keep H5.out.2.2.2.2.1) i hig
          subst eg
          have cg0 : w5.cell? ⟨bg, og + i, none⟩ = some (.int .i64 G[i]) := by simpa using hcg 0 (by decide)
          have hgr := Hgb.out G[i] (List.getElem_mem _)
          have hr1 := Int.tmod_lt_of_pos G[i] (b := (ON : Int)) (by omega)
          have hr2 := Int.lt_tmod_of_pos G[i] (b := (ON : Int)) (by omega)
          obtain ⟨x, hx, hxe⟩ := mov_rem G[i] h0
          have hON16 : ON ≤ 16 := by rw [HON.out, HOB.out, objsOf_len]; have := listing_len o0 ⟨#[]⟩; have := Hok.out.len; omega
          generalize hrr : G[i].tmod (ON : Int) = r at hr1 hr2 hxe
          have hxO : x < OB.length := by rw [← HON.out]; exact hx
          obtain ⟨b6, of6, ea, hb6, hbl, hc6⟩ := (sliceFrom_row (enc := encObj) encObj_len H5.out.2.2.2.1).atI x hxO
          have c0 : w5.cell? ⟨b6, of6 + x * 2, none⟩ = some (.string OB[x].1) := by simpa [encObj] using hc6 0 (by decide)
          have Hde := Lib.hid (delete_spec w5 b f c mb false [] o H5.out.1 OB[x].1)
          generalize OB[x].1 = nm at c0 Hde
          have hx' : (x : Int) < (ON : Int) := by omega
          clear hcg hc6
          subst ea
          go_wp2_with fail
          refine Hde.out.mono ?_
          rintro e w6 ⟨rfl, hb6, hk6⟩
          have hb6' : BucketAt w6 b f c mb false [] (del o nm) := hb6
          have hrow6 := hk6.row H5.out.2.2.2.1 (fun g hg hm => by
            obtain ⟨h1, h2, h3⟩ := H5.out.2.2.2.2.2 g hg
            simp only [List.mem_cons, List.not_mem_nil, or_false] at hm
            omega)
          have hS6 := H5.out.2.1.keep hk6 (fun x hx => by simp only [List.mem_cons, List.not_mem_nil, or_false] at hx; omega)
          have hkw6 : Keeps [] w w6 := H5.out.2.2.2.2.1.after hk6 (fun x hx => .inr (by simp only [List.mem_cons, List.not_mem_nil, or_false] at hx; omega))
          have H6 := Lib.hid (And.intro hb6' (And.intro hS6 (And.intro (H5.out.2.2.1.del nm) (And.intro hrow6 hkw6))))
          clear hb6 hb6' hk6 hrow6 hS6 hkw6 Hde H5 c0 cg0
          go_wp2_with fail
          go_roundg ((waitsOf o0).length + 1 - (i + 1))
          case measure => have := Hgi.out; omega
          case rel => exact ⟨i + 1, _, S', by omega, rfl, by go_num, H6.out.1, H6.out.2.1, .inr ⟨i, rfl, H6.out.2.2.1⟩, H6.out.2.2.2.1, H6.out.2.2.2.2⟩
        · have h0' : ¬ (ON : Int) > 0 := by omega
          go_wp2_with fail
          go_roundg ((waitsOf o0).length + 1 - (i + 1))
          case measure => have := Hgi.out; omega
          case rel => exact ⟨i + 1, o, S', by omega, rfl, by go_num, H5.out.1, H5.out.2.1, .inr ⟨i, rfl, H5.out.2.2.1⟩, H5.out.2.2.2.1, H5.out.2.2.2.2.1⟩
      · have hig' : ¬ (i : Int) < (G.length : Int) := by omega
        go_wp2_with fail
        go_roundg ((waitsOf o0).length + 1 - (i + 1))
        case measure => have := Hgi.out; omega
        case rel => exact ⟨i + 1, o, S', by omega, rfl, by go_num, H5.out.1, H5.out.2.1, .inr ⟨i, rfl, H5.out.2.2.1⟩, H5.out.2.2.2.1, H5.out.2.2.2.2.1⟩
    · obtain rfl : i = (waitsOf o0).length + 1 := by omega
      rw [decide_eq_true (Nat.lt_succ_self _)] at Hd
      have hinv : MovInv o0 (waitsOf o0).length S o := by
        rcases hm with ⟨h, -, -⟩ | ⟨k, h, hm⟩
        · omega
        · obtain rfl : k = (waitsOf o0).length := by omega
          exact hm
      have hsok := hinv.scan Hok.out.run
      have hof := hsok.of (tn := 5) (by decide)
      have hokO : MovOk o := Hok.out.sub hinv.part
      have hSS15 : (sortT (blksS S)).length ≤ 15 := by
        have h1 := hof.perm.length_eq
        have h2 := ofN_len (gotS S) (gotS S).length
        have h3 := gotN_len S S.infos.length
        have h4 := listing_len o0 ⟨#[]⟩
        have h5 := Hok.out.len
        have h6 : (blksS S).length = (ofN (gotS S) (gotS S).length).length := rfl
        have h7 : (gotS S).length = (gotN S S.infos.length).length := rfl
        have h8 : S.infos.length = (listing o0 ⟨#[]⟩).length := by rw [hinv.infos]
        omega
      have Hls : Hid (∀ W, Keeps [] wr W → Calls Tryz.prog 27 #[.pointer (some ⟨q, 0, none⟩)] W (NewLPost W.heap.size W (5 : Int) ((blksS S).map (·.1)) (marksOf (blksS S)))) := Lib.hid (fun W hk => scanLst_spec W B q gb S (hS.same hk) hsok (Hv.out.same (hkr.trans hk)) 5 (by rw [hinv.tick]; rfl))
      have Hdn := Lib.hid (fun W (h : ScanAt 0 W B q gb S) => scanDone_spec W B q gb S h)
      rw [movDone hm, decide_eq_true (Nat.lt_succ_self _)] at Hdn
      have Hfo := Lib.hid (fun m hm => mov_foundB (m := m) Hok.out hof hinv hm)
      have Hst := Lib.hid (fun p hp => mov_staysB (p := p) hokO hsok hof hinv hp)
      obtain ⟨TT, hTT⟩ : ∃ T, T = blksS S := ⟨_, rfl⟩
      rw [← hTT] at hof hSS15 Hls Hfo Hst
      obtain ⟨SS, hSS⟩ : ∃ T, T = sortT TT := ⟨_, rfl⟩
      rw [← hSS] at hof hSS15 Hfo Hst
      obtain ⟨R0, hR0⟩ : ∃ T, T = refB o0 := ⟨_, rfl⟩
      obtain ⟨R1, hR1⟩ : ∃ T, T = refB o := ⟨_, rfl⟩
      rw [← hR0] at Hfo
      rw [← hR1] at Hst
      have hRl0 : R0.length ≤ 15 := by rw [hR0]; exact refB_len Hok.out
      have hRl1 : R1.length ≤ 15 := by rw [hR1]; exact refB_len hokO
      have Hr0 : Hid (∀ W v, SliceArg 2 encObj W v OB → Calls Tryz.prog 13 #[.int .i64 5, v] W fun e w' => ∃ u, e = .returned (.agg #[.int .i64 5, u]) ∧ BlksV W.heap.size w' u R0 ∧ Keeps [] W w') := Lib.hid (fun W v h => by
        rw [hR0]
        have h1 := rOf_spec W 5 v OB h (by rw [HOB.out]; exact Hok.out.objs) (by rw [HOB.out]; exact Hok.out.objLen)
        rw [HOB.out] at h1
        exact h1)
      have Hr1 : Hid (∀ W v, SliceArg 2 encObj W v (objsOf o) → Calls Tryz.prog 13 #[.int .i64 5, v] W fun e w' => ∃ u, e = .returned (.agg #[.int .i64 5, u]) ∧ BlksV W.heap.size w' u R1 ∧ Keeps [] W w') := Lib.hid (fun W v h => by
        rw [hR1]
        exact rOf_spec W 5 v (objsOf o) h hokO.objs hokO.objLen)
      have Hob1 := Lib.hid (fun W (h : BucketAt W b f c mb false [] o) => objects19_spec W b f c mb false [] o h hokO.bkt)
      have HE := Lib.hid hof
      have H4 := Lib.hid (And.intro hb (And.intro hS (And.intro hrow hkr)))
      clear hlt hinv hsok hof hokO hTT hSS hR0 hR1 hb hS hm hrow hkr
      generalize (waitsOf o0).length = nw at hi hi40 Hgi ⊢
      go_wp2_with fail
      refine Hd.out.mono ?_
      rintro e w4 ⟨rfl, rfl⟩
      go_wp2_with fail
      refine (Hls.out _ (Keeps.refl _ _)).mono ?_
      rintro e w5 ⟨L', vm, mb5, rfl, hp, hr, hm5, hmp5, -, hk5⟩
      obtain rfl : L' = SS.map (·.1) := rise_eq (fun m : MetaS => m.id.data.toList) (hp.trans (HE.out.perm.map _).symm) hr HE.out.rise
      obtain ⟨am, cm, rfl⟩ := hm5.form
      obtain ⟨LL, hLL⟩ : ∃ L, L = SS.map (·.1) := ⟨_, rfl⟩
      have hLl : LL.length ≤ 15 := by rw [hLL, List.length_map]; exact hSS15
      have hlist : ListOk 5 LL (marksOf TT) := by rw [hLL]; exact HE.out.list
      have hlrise := hlist.rise
      rw [← hLL] at hm5 Hfo Hst ⊢
      have ka : Keeps [] w5 (w5.alloc (.cells #[.int .i64 5, .slice am LL.length cm, .map (some mb5)] 32)) := (Keeps.refl [] w5).alloc _
      have na := heap_new w5 (.cells #[.int .i64 5, .slice am LL.length cm, .map (some mb5)] 32)
      obtain ⟨lb, hlb⟩ : ∃ n, n = w5.heap.size := ⟨_, rfl⟩
      rw [← hlb] at na
      have Hlb := Lib.hid hlb
      have hww := H4.out.2.2.2.size
      have hwr5 := hk5.size
      have H6 := Lib.hid (And.intro na (And.intro (kp ka (And.intro hm5 hmp5)) (kp (hk5.trans ka) H4.out)))
      have Hli := Lib.hid (And.intro hlist hlrise)
      clear hp hr hm5 hmp5 hk5 ka na hlb hLL hlist hlrise hSS15 Hls H4 Hd
      go_upto_region 15 with fail
      rw [← Hlb.out]
      clear Hlb
      generalize w5.alloc (.cells #[.int .i64 5, .slice am LL.length cm, .map (some mb5)] 32) = W6 at H6 ⊢
      have hr0 := Hr0.out W6 (.slice ao ON co) (sliceFrom_row (enc := encObj) encObj_len H6.out.2.2.2.2.1).arg
      have Hro := Lib.hid hr0
      clear hr0
      go_wp2_with fail
      refine Hro.out.mono ?_
      rintro e w7 ⟨vr, rfl, hbl7, hk7⟩
      obtain ⟨ar, cr, rfl⟩ := hbl7.form
      have ka : Keeps [] w7 (w7.alloc (.cells #[.int .i64 5, .slice ar R0.length cr] 40)) := (Keeps.refl [] w7).alloc _
      have na := heap_new w7 (.cells #[.int .i64 5, .slice ar R0.length cr] 40)
      obtain ⟨rb, hrb⟩ : ∃ n, n = w7.heap.size := ⟨_, rfl⟩
      rw [← hrb] at na
      have Hrb := Lib.hid hrb
      have H8 := Lib.hid (And.intro na (And.intro (kp ka hbl7) (kp (hk7.trans ka) H6.out)))
      clear hbl7 hk7 ka na hrb Hro Hr0 H6
      go_upto_region 16 with fail
      rw [← Hrb.out]
      clear Hrb
      generalize w7.alloc (.cells #[.int .i64 5, .slice ar R0.length cr] 40) = W8 at H8 ⊢
      have c8 := cells_at H8.out.2.2.1
      have l8 := lt_of_at H8.out.2.2.1
      go_wp2_with fail
      clear c8 l8
      go_loopg [78] LL.length (KRel W8 LL.length)
      case atStart => exact ⟨0, Nat.zero_le _, rfl, rfl, Keeps.refl _ _⟩
      case round =>
        obtain ⟨k, hk, hgk, rfl, hkr⟩ := hrel
        have Hg := Lib.hid hgk
        clear hgk
        by_cases hlt : k < LL.length
        · have hlt' : (k : Int) < (LL.length : Int) := by omega
          obtain ⟨b2, o2, f2, g2, p2, q2, e2, hb2, -, d0, d1, d2, d3, d4, d5, d6, d7⟩ := MetasV.elem (kp hkr H8.out.2.2.2.1.1) k hlt
          subst e2
          have hfo := Hfo.out _ (List.getElem_mem hlt)
          obtain ⟨m, hme⟩ : ∃ m, m = LL[k] := ⟨_, rfl⟩
          rw [← hme] at d0 d1 d2 d3 d4 d5 d6 d7 hfo
          have ka : Keeps [] wr (wr.alloc (.cells #[.string m.id, .int .i64 m.mn, .int .i64 m.mx, .int .i64 m.level, .int .i64 m.series, .int .i64 m.samples, .slice f2 m.files.length g2, .slice p2 m.sources.length q2] 63)) := (Keeps.refl [] wr).alloc _
          have na := heap_new wr (.cells #[.string m.id, .int .i64 m.mn, .int .i64 m.mx, .int .i64 m.level, .int .i64 m.series, .int .i64 m.samples, .slice f2 m.files.length g2, .slice p2 m.sources.length q2] 63)
          have HA := Lib.hid (And.intro na (And.intro (kp (hkr.trans ka) (And.intro H8.out.1 H8.out.2.1)) (hkr.trans ka)))
          have Hfm := Lib.hid hfo
          clear hkr hme ka na hfo
          go_upto_region 19 with fail
          clear d0 d1 d2 d3 d4 d5 d6 d7
          generalize wr.alloc (.cells #[.string m.id, .int .i64 m.mn, .int .i64 m.mx, .int .i64 m.level, .int .i64 m.series, .int .i64 m.samples, .slice f2 m.files.length g2, .slice p2 m.sources.length q2] 63) = Wa at HA ⊢
          generalize wr.heap.size = zb at HA ⊢
          have cr8 := cells_at HA.out.2.1.1
          have lr8 := lt_of_at HA.out.2.1.1
          go_wp2_with fail
          clear cr8 lr8
          go_loopg [13, 85] R0.length (HRel Wa (R0.map (·.1.id)) m.id)
          case atStart => exact ⟨0, false, Nat.zero_le _, by simp, rfl, rfl, rfl, Keeps.refl _ _⟩
          case round =>
            obtain ⟨j, fb, hj, hgj, rfl, rfl, hfb, hkj⟩ := hrel
            rw [List.length_map] at hj hgj
            have Hgj := Lib.hid hgj
            clear hgj
            by_cases hltj : j < R0.length
            · have hltj' : (j : Int) < (R0.length : Int) := by omega
              obtain ⟨b3, o3, f3, g3, p3, q3, e3, hb3, -, d0, d1, d2, d3, d4, d5, d6, d7, d8⟩ := BlksV.elem (kp hkj HA.out.2.1.2) j hltj
              subst e3
              have hsn := hasB_snoc (T := R0.map (·.1.id)) (k := j) (by rw [List.length_map]; exact hltj) m.id
              rw [← hfb, List.getElem_map] at hsn
              have hse := toList_beq R0[j].1.id m.id
              rw [← hse] at hsn
              have cz := cells_at (HA.out.1)
              have nz2 := hkj.at_ HA.out.1 (by simp)
              obtain ⟨⟨x, mk⟩, hxe⟩ : ∃ x, x = R0[j] := ⟨_, rfl⟩
              rw [← hxe] at d0 d1 d2 d3 d4 d5 d6 d7 d8 hsn
              simp only at d0 d1 d2 d3 d4 d5 d6 d7 d8 hsn
              have kb : Keeps [] wr (wr.alloc (.cells #[.string x.id, .int .i64 x.mn, .int .i64 x.mx, .int .i64 x.level, .int .i64 x.series, .int .i64 x.samples, .slice f3 x.files.length g3, .slice p3 x.sources.length q3, .int .i64 mk] 68)) := (Keeps.refl [] wr).alloc _
              have nb := heap_new wr (.cells #[.string x.id, .int .i64 x.mn, .int .i64 x.mx, .int .i64 x.level, .int .i64 x.series, .int .i64 x.samples, .slice f3 x.files.length g3, .slice p3 x.sources.length q3, .int .i64 mk] 68)
              have HB := Lib.hid (And.intro nb (And.intro (kb.at_ nz2 (by simp)) (hkj.trans kb)))
              have Hsn := Lib.hid hsn
              clear hkj hfb hsn hse hxe kb nb nz2 cz
              go_upto_region 23 with fail
              clear d0 d1 d2 d3 d4 d5 d6 d7 d8
              generalize wr.alloc (.cells #[.string x.id, .int .i64 x.mn, .int .i64 x.mx, .int .i64 x.level, .int .i64 x.series, .int .i64 x.samples, .slice f3 x.files.length g3, .slice p3 x.sources.length q3, .int .i64 mk] 68) = Wb at HB ⊢
              generalize wr.heap.size = yb at HB ⊢
              have cy := cells_at HB.out.1
              have ly := lt_of_at HB.out.1
              have cz := cells_at HB.out.2.1
              have lz := lt_of_at HB.out.2.1
              rcases Bool.eq_false_or_eq_true fb with hfb | hfb
              · subst hfb
                go_wp2_with fail
                go_roundg (R0.length - (j + 1))
                case measure => have := Hgj.out; omega
                case rel => exact ⟨j + 1, true, by rw [List.length_map]; omega, by rw [List.length_map], by go_num, rfl, by rw [Hsn.out]; rfl, HB.out.2.2⟩
              · subst hfb
                go_wp2_with fail
                go_roundg (R0.length - (j + 1))
                case measure => have := Hgj.out; omega
                case rel => exact ⟨j + 1, _, by rw [List.length_map]; omega, by rw [List.length_map], by go_num, rfl, by rw [Hsn.out]; rfl, HB.out.2.2⟩
            · have hgej : ¬ (j : Int) < (R0.length : Int) := by omega
              have hfm := Hfm.out
              rw [List.take_of_length_le (by rw [List.length_map]; omega), hfm] at hfb
              subst hfb
              have HR := Lib.hid (HA.out.2.2.trans hkj)
              clear hkj
              go_wp2_with fail
              go_roundg (LL.length - (k + 1))
              case measure => have := Hg.out; omega
              case rel => exact ⟨k + 1, by omega, rfl, by go_num, HR.out⟩
        · have hge : ¬ (k : Int) < (LL.length : Int) := by omega
          have H9 := Lib.hid (kp hkr H8.out)
          clear hkr H8
          have Hbo := Lib.hid (Hob1.out wr H9.out.2.2.2.2.1)
          go_wp2_with fail
          refine Hbo.out.mono ?_
          rintro e w9 ⟨vo2, rfl, hrow9, hk9⟩
          obtain ⟨ao2, co2, rfl, -, -, -⟩ := row_slice hrow9
          have Hro := Lib.hid (Hr1.out w9 _ (sliceFrom_row (enc := encObj) encObj_len hrow9).arg)
          have H10 := Lib.hid (kp hk9 H9.out)
          clear hrow9 hk9 H9 Hbo Hr1
          generalize (objsOf o).length = on2 at Hro ⊢
          go_wp2_with fail
          refine Hro.out.mono ?_
          rintro e w10 ⟨vr1, rfl, hbl10, hk10⟩
          obtain ⟨ar1, cr1, rfl⟩ := hbl10.form
          have H11 := Lib.hid (And.intro hbl10 (kp hk10 H10.out))
          clear hbl10 hk10 Hro H10
          have hfr := fieldR1 5 ar1 R1.length cr1 w10
          go_wp2_with fail
          clear hfr
          go_loopg [107] R1.length (KRel w10 R1.length)
          case atStart => exact ⟨0, Nat.zero_le _, rfl, rfl, Keeps.refl _ _⟩
          case round =>
            obtain ⟨j, hj, hgj, rfl, hkr⟩ := hrel
            have Hgj := Lib.hid hgj
            have H12 := Lib.hid (And.intro (kp hkr H11.out) hkr)
            clear hgj
            by_cases hltj : j < R1.length
            · have hltj' : (j : Int) < (R1.length : Int) := by omega
              obtain ⟨b3, o3, f3, g3, p3, q3, e3, hb3, -, d0, d1, d2, d3, d4, d5, d6, d7, d8⟩ := BlksV.elem H12.out.1.1 j hltj
              subst e3
              have hst := Hst.out _ (List.getElem_mem hltj)
              obtain ⟨⟨x, mk⟩, hxe⟩ : ∃ x, x = R1[j] := ⟨_, rfl⟩
              rw [← hxe] at d0 d1 d2 d3 d4 d5 d6 d7 d8 hst
              simp only at d0 d1 d2 d3 d4 d5 d6 d7 d8 hst
              have kb : Keeps [] wr (wr.alloc (.cells #[.string x.id, .int .i64 x.mn, .int .i64 x.mx, .int .i64 x.level, .int .i64 x.series, .int .i64 x.samples, .slice f3 x.files.length g3, .slice p3 x.sources.length q3, .int .i64 mk] 68)) := (Keeps.refl [] wr).alloc _
              have nb := heap_new wr (.cells #[.string x.id, .int .i64 x.mn, .int .i64 x.mx, .int .i64 x.level, .int .i64 x.series, .int .i64 x.samples, .slice f3 x.files.length g3, .slice p3 x.sources.length q3, .int .i64 mk] 68)
              have HB := Lib.hid (And.intro nb (kp kb (And.intro H12.out.1.2.2.2 H12.out.2)))
              have Hsx := Lib.hid hst
              clear hkr hst hxe kb nb H12
              go_upto_region 31 with fail
              clear d0 d1 d2 d3 d4 d5 d6 d7 d8
              generalize wr.alloc (.cells #[.string x.id, .int .i64 x.mn, .int .i64 x.mx, .int .i64 x.level, .int .i64 x.series, .int .i64 x.samples, .slice f3 x.files.length g3, .slice p3 x.sources.length q3, .int .i64 mk] 68) = Wb at HB ⊢
              generalize wr.heap.size = yb at HB ⊢
              have cy := cells_at HB.out.1
              have ly := lt_of_at HB.out.1
              have cl := cells_at HB.out.2.1.1
              have ll := lt_of_at HB.out.2.1.1
              have Hfd := Lib.hid (find_spec _ Wb 5 (.map (some mb5)) (.slice am LL.length cm) LL x.id HB.out.2.1.2.1.1 (by omega) Hli.out.2 (some mb5) rfl)
              go_wp2_with fail
              refine Hfd.out.mono ?_
              rintro e w12 ⟨vs, okb, rfl, hfo, hfm, hk12⟩
              have hok : okb = true := hfo.2 Hsx.out
              subst hok
              obtain ⟨m', hm', hid', hmv⟩ := hfm rfl
              obtain ⟨vf, vo, rfl, hff, hoo⟩ := hmv
              obtain ⟨f4, g4, rfl, -, -, -, -⟩ := hff
              obtain ⟨p4, q4, rfl, -, -, -, -⟩ := hoo
              have kc : Keeps [] w12 (w12.alloc (.cells #[.string m'.id, .int .i64 m'.mn, .int .i64 m'.mx, .int .i64 m'.level, .int .i64 m'.series, .int .i64 m'.samples, .slice f4 m'.files.length g4, .slice p4 m'.sources.length q4] 63)) := (Keeps.refl [] w12).alloc _
              have HR := Lib.hid (HB.out.2.2.trans (hk12.trans kc))
              clear hfo hfm hm' hid' hk12 kc cy ly cl ll Hfd HB
              go_wp2_with fail
              go_roundg (R1.length - (j + 1))
              case measure => have := Hgj.out; omega
              case rel => exact ⟨j + 1, by omega, rfl, by go_num, HR.out⟩
            · have hgej : ¬ (j : Int) < (R1.length : Int) := by omega
              have cl := cells_at H12.out.1.2.2.2.1
              have ll := lt_of_at H12.out.1.2.2.2.1
              have Hd2 := Lib.hid (Hdn.out wr H12.out.1.2.2.2.2.2.2.1)
              have Hck := Lib.hid (listCheck_spec _ wr 5 mb5 (.slice am LL.length cm) LL (marksOf TT) H12.out.1.2.2.2.2.1.1 H12.out.1.2.2.2.2.1.2 Hli.out.1)
              have HX := Lib.hid H12.out.1.2.2.2.2.2.2.2.2
              clear hkr
              go_wp2_with fail
              refine Hd2.out.mono ?_
              rintro e w13 ⟨rfl, rfl⟩
              go_wp2_with fail
              refine Hck.out.mono ?_
              rintro e w14 ⟨rfl, hk14⟩
              have HY := Lib.hid (HX.out.trans hk14)
              clear hk14
              go_wp2_with fail
              go_ret
              exact ⟨rfl, HY.out⟩

theorem scanMoving_law (W : World) (hv : LibVar W) (v : Value) (h : ∃ L : List ThingL, SliceArg 13 encThing W v L ∧ ∀ x ∈ L, True) (u : Value) (hu : ∃ zs : List Int, SliceArg 1 (fun n => [Value.int .i64 n]) W u zs ∧ ∀ n ∈ zs, -9223372036854775808 ≤ n ∧ n ≤ 9223372036854775807) :
    Calls Tryz.prog 5 #[v, u] W fun e w' => e = .returned (.bool true) ∧ Keeps [] W w' := by
  obtain ⟨L, hs, _⟩ := h
  obtain ⟨G, hG, hgb⟩ := hu
  exact scanMoving_walk W hv v L hs u G hG hgb
end Go.Proofs.YtjffdcflkkgpfaaGreat
