/-
  What is taken of a listing's bytes (package listing): take, where the bytes are a listing's that may be.
  The blocks are few.

  A listing's bytes, and back (package listing): Decode, where the bytes are a listing's that may be.
  The blocks are few.
-/
import Derived.Test.YtjffdcflkkgpfaaGreatListChk
namespace Go.Proofs.YtjffdcflkkgpfaaGreat
open Go Go.RowKit Go.Conc
open Go.Op (bytesLess)

def tookStep (M D : PartsM) (m : MetaS) : PartsM := match look M m.id with
  | some t => put D m.id t
  | none => D

def tookM (M : PartsM) (L : List MetaS) : PartsM := L.foldl (tookStep M) []

theorem put_len_le {α : Type} (n : ByteArray) (v : α) : ∀ o : List (ByteArray × α), (put o n v).length ≤ o.length + 1
  | [] => by simp [put]
  | (k, x) :: r => by
    have := put_len_le n v r
    unfold put
    split <;> simp <;> omega

set_option linter.unusedSimpArgs false in
theorem took_fold (M : PartsM) : ∀ (L : List MetaS) (D : PartsM), (∀ p ∈ L.foldl (tookStep M) D, p ∈ D ∨ ((∃ m ∈ L, m.id = p.1) ∧ look M p.1 = some p.2)) ∧ (L.foldl (tookStep M) D).length ≤ D.length + L.length ∧ ∀ id, look (L.foldl (tookStep M) D) id = if (∃ m ∈ L, m.id = id) ∧ (look M id).isSome then look M id else look D id
  | [], D => by simp
  | m :: L, D => by
    obtain ⟨h1, h2, h3⟩ := took_fold M L (tookStep M D m)
    rw [List.foldl_cons]
    refine ⟨fun p hp => ?_, ?_, fun id => ?_⟩
    · rcases h1 p hp with h | ⟨⟨x, hx, e⟩, h⟩
      · unfold tookStep at h
        cases hm : look M m.id with
        | none => rw [hm] at h; exact .inl h
        | some t =>
          rw [hm] at h
          rcases mem_put h with rfl | h
          · exact .inr ⟨⟨m, by simp, rfl⟩, hm⟩
          · exact .inl h
      · exact .inr ⟨⟨x, by simp [hx], e⟩, h⟩
    · have h4 : (tookStep M D m).length ≤ D.length + 1 := by
        unfold tookStep
        split
        · exact put_len_le _ _ _
        · omega
      simp only [List.length_cons]
      omega
    · rw [h3]
      by_cases hx : ∃ x ∈ L, x.id = id
      · have hx' : ∃ x ∈ m :: L, x.id = id := by obtain ⟨x, h, e⟩ := hx; exact ⟨x, by simp [h], e⟩
        cases hl : look M id with
        | some t => simp [hx, hx', hl]
        | none =>
          simp only [Option.isSome_none, Bool.false_eq_true, and_false, if_false]
          unfold tookStep
          cases hm : look M m.id with
          | none => rfl
          | some t =>
            simp only [look_put]
            rw [if_neg]
            rintro rfl
            rw [hl] at hm
            cases hm
      · simp only [hx, false_and, if_false]
        unfold tookStep
        cases hm : look M m.id with
        | none =>
          simp only
          rw [if_neg]
          rintro ⟨⟨x, h, e⟩, hs⟩
          rcases List.mem_cons.1 h with rfl | h
          · rw [← e, hm] at hs; cases hs
          · exact hx ⟨x, h, e⟩
        | some t =>
          simp only [look_put]
          by_cases e : id = m.id
          · subst e
            rw [if_pos rfl, if_pos ⟨⟨m, by simp, rfl⟩, by rw [hm]; rfl⟩, hm]
          · rw [if_neg e, if_neg]
            rintro ⟨⟨x, h, e2⟩, -⟩
            rcases List.mem_cons.1 h with rfl | h
            · exact e e2.symm
            · exact hx ⟨x, h, e2⟩

theorem mem_tookM {M : PartsM} {L : List MetaS} {p : ByteArray × Int} (h : p ∈ tookM M L) : (∃ m ∈ L, m.id = p.1) ∧ look M p.1 = some p.2 := by
  rcases (took_fold M L []).1 p h with h | h
  · simp at h
  · exact h

theorem tookM_len (M : PartsM) (L : List MetaS) : (tookM M L).length ≤ L.length := by
  have h := (took_fold M L []).2.1
  rw [List.length_nil, Nat.zero_add] at h
  exact h

theorem look_tookM {M : PartsM} {L : List MetaS} {id : ByteArray} (h : ∃ m ∈ L, m.id = id) : look (tookM M L) id = look M id := by
  unfold tookM
  rw [(took_fold M L []).2.2 id]
  cases hl : look M id with
  | none => simp [look]
  | some t => simp [h]

theorem tookM_snoc (M : PartsM) {L : List MetaS} {k : Nat} (h : k < L.length) : tookM M (L.take (k + 1)) = tookStep M (tookM M (L.take k)) L[k] := by
  unfold tookM
  rw [List.take_succ_eq_append_getElem h, List.foldl_append]
  rfl

theorem ListOk.took {at_ : Nat} {L : List MetaS} {M : PartsM} (h : ListOk at_ L M) : ListOk at_ L (tookM M L) where
  at_ := h.at_
  few := h.few
  ok := h.ok
  rise := h.rise
  marks := fun p hp => by
    obtain ⟨h1, h2⟩ := mem_tookM hp
    exact ⟨h1, (h.marks _ (look_mem h2)).2⟩
  mfew := by have := tookM_len M L; have := h.few; omega

def restL (L : List MetaS) (M : PartsM) (k : Nat) : List UInt8 := (L.drop k).flatMap (blockL M)

theorem restL_next {L : List MetaS} {M : PartsM} {k : Nat} (h : k < L.length) : restL L M k = metaL L[k] ++ (lebL (markN M L[k].id) ++ restL L M (k + 1)) := by
  unfold restL
  rw [List.drop_eq_getElem_cons h, List.flatMap_cons]
  simp [blockL]

theorem restL_end (L : List MetaS) (M : PartsM) : restL L M L.length = [] := by
  unfold restL
  rw [List.drop_length]
  rfl

theorem ListOk.mark {at_ : Nat} {L : List MetaS} {M : PartsM} (h : ListOk at_ L M) {id : ByteArray} {t : Int} (hl : look M id = some t) : 0 ≤ t ∧ t ≤ 1099511627776 := (h.marks _ (look_mem hl)).2

theorem ListOk.markN {at_ : Nat} {L : List MetaS} {M : PartsM} (h : ListOk at_ L M) (id : ByteArray) : markN M id ≤ 1099511627777 := by
  unfold Go.Proofs.YtjffdcflkkgpfaaGreat.markN
  cases hl : look M id with
  | none => simp
  | some t => have := h.mark hl; simp only; omega

theorem restL_len {at_ : Nat} {L : List MetaS} {M : PartsM} (h : ListOk at_ L M) (k : Nat) : (restL L M k).length ≤ 50000 := by
  unfold restL
  have h1 := flat_len_le (blockL M) 2010 (L.drop k) (fun m hm => by
    unfold blockL
    rw [List.length_append]
    have h1 := (h.ok m (List.mem_of_mem_drop hm)).len
    have h2 := h.markN m.id
    have := lebL_len10 (v := Go.Proofs.YtjffdcflkkgpfaaGreat.markN M m.id) (by omega)
    omega)
  have h2 := h.few
  rw [List.length_drop] at h1
  omega

theorem MetaR.keepRow {b base n : Nat} {w w' : World} {vs xs : List Value} {v : Value} {m : MetaS} (h : MetaR base w vs m) (hr : w.ownsRow b 63 8 v n xs) (k : Keeps v.ownBlock.toList w w') : MetaR base w' vs m := by
  obtain ⟨vf, vo, e, h1, h2⟩ := h
  exact ⟨vf, vo, e, k.row h1 (rows_neM hr h1 (by decide)), k.row h2 (rows_neM hr h2 (by decide))⟩

theorem row_ne_map {w : World} {base s n b : Nat} {e : TypeId} {v : Value} {xs : List Value} {kv : KV} (h : w.ownsRow base e s v n xs) (hb : MapAt w b kv) : b ∉ v.ownBlock.toList := by
  intro hm
  obtain ⟨_, ⟨rfl, _⟩ | ⟨g2, c2, r2, rfl, _, hb2, _⟩⟩ := h
  · simp [Value.ownBlock] at hm
  · simp [Value.ownBlock] at hm
    subst hm
    obtain ⟨E, c, hb, -, -⟩ := hb
    rw [hb] at hb2
    cases hb2

theorem row_ne_typeM {w : World} {base s n b : Nat} {e t : TypeId} {v : Value} {xs : List Value} {cs : Array Value} {z : Nat × Nat} (h : w.ownsRow base e s v n xs) (hb : w.heap[b]? = some (.cells cs t z)) (ht : t ≠ e) : b ∉ v.ownBlock.toList := fun hm => row_ne_type h hb ht b (by simpa using hm) rfl


theorem MetaR.out {base : Nat} {w w' : World} {vs : List Value} {m : MetaS} {S : List Nat} (h : MetaR base w vs m) (k : Keeps S w w') (hS : ∀ b ∈ S, (∃ kv, MapAt w b kv) ∨ ∃ cs t z, w.heap[b]? = some (.cells cs t z) ∧ t ≠ 149 ∧ t ≠ 9) : MetaR base w' vs m := by
  obtain ⟨vf, vo, e, h1, h2⟩ := h
  refine ⟨vf, vo, e, k.row h1 fun g hg hm => ?_, k.row h2 fun g hg hm => ?_⟩
  · rcases hS g hm with ⟨kv, hb⟩ | ⟨cs, t, z, hb, t1, t2⟩
    · exact row_ne_map h1 hb (by rw [hg]; simp)
    · exact row_ne_type h1 hb t1 g hg rfl
  · rcases hS g hm with ⟨kv, hb⟩ | ⟨cs, t, z, hb, t1, t2⟩
    · exact row_ne_map h2 hb (by rw [hg]; simp)
    · exact row_ne_type h2 hb t2 g hg rfl

def RowsR (base : Nat) (w : World) (R : List (List Value)) (L : List MetaS) : Prop := ∀ i (h : i < R.length) (h' : i < L.length), MetaR base w R[i] L[i]

theorem RowsR.snoc {base : Nat} {w : World} {R : List (List Value)} {L : List MetaS} {vs : List Value} {m : MetaS} {k : Nat} (h : RowsR base w R L) (hk : k < L.length) (hR : R.length = k) (e : m = L[k]) (hm : MetaR base w vs m) : RowsR base w (R ++ [vs]) L := by
  subst hR e
  intro i hi hi'
  by_cases e : i < R.length
  · rw [List.getElem_append_left e]
    exact h i e hi'
  · have e1 : i = R.length := by simp at hi; omega
    subst e1
    rw [List.getElem_append_right (by omega)]
    simpa using hm

theorem RowsR.metas {base : Nat} {w : World} {R : List (List Value)} {L : List MetaS} {v : Value} (h : RowsR base w R L) (hl : R.length = L.length) (hr : w.ownsRow base 63 8 v R.length (R.flatMap id)) : MetasV base w v L :=
  MetaRow.metas (B := base) (base := base) (w := w) ⟨R, hl, fun i hi hi' => (h i hi hi').metaV, hr⟩ (Keeps.refl _ _) (Nat.le_refl _)

theorem set3 {w : World} {p : Nat} {t : TypeId} {a0 a1 a2 v0 v1 v2 : Value} {z : Nat × Nat} (h : w.heap[p]? = some (.cells #[a0, a1, a2] t z)) :
    (((w.setCell ⟨p, 0, none⟩ v0).setCell ⟨p, 1, none⟩ v1).setCell ⟨p, 2, none⟩ v2).heap[p]? = some (.cells #[v0, v1, v2] t z) ∧ Keeps [p] w (((w.setCell ⟨p, 0, none⟩ v0).setCell ⟨p, 1, none⟩ v1).setCell ⟨p, 2, none⟩ v2) := by
  have h0 := heap_cell_same (i := 0) h v0
  have h1 := heap_cell_same (i := 1) h0 v1
  have h2 := heap_cell_same (i := 2) h1 v2
  exact ⟨h2.trans (by simp), (((Keeps.refl [p] w).setCell (.inl (by simp)) v0).setCell (.inl (by simp)) v1).setCell (.inl (by simp)) v2⟩

theorem MetasV.low {B B' : Nat} {w : World} {v : Value} {L : List MetaS} (h : MetasV B w v L) (hB : B' ≤ B) : MetasV B' w v L := by
  obtain ⟨VS, h1, h2, h3⟩ := h
  exact ⟨VS, h1.low hB, h2, fun i hi hi' => (h3 i hi hi').low hB⟩

theorem at_drewN {w : World} {b : Nat} {o : Obj} (n : Nat) (h : w.heap[b]? = some o) : (w.drewN n).heap[b]? = some o := h

def TakeLRel (w : World) (at_ : Nat) (L : List MetaS) (M : PartsM) (rb lb mb : Nat) (gk : Nat) (u0 u5 u6 : Value) (wr : World) : Prop :=
  ∃ (k : Nat) (vm : Value) (R : List (List Value)), k ≤ L.length ∧ gk = L.length - k ∧ u0 = .string ⟨(restL L M k).toArray⟩ ∧ u5 = .int .i64 0 ∧ u6 = .int .i64 ((L.length - k : Nat) : Int) ∧ wr.heap[lb]? = some (.cells #[.int .i64 at_, vm, .map (some mb)] 32 (0, 0)) ∧ wr.heap[rb]? = some (.cells #[.int .i64 0, .slice none 0 0, .map none] 32 (0, 0)) ∧ R.length = k ∧ RowsR (w.heap.size + 1) wr R L ∧ wr.ownsRow (w.heap.size + 1) 63 8 vm R.length (R.flatMap id) ∧ MapAt wr mb (encMap encI (tookM M (L.take k))) ∧ Keeps [] w wr

def TakeLPost (w : World) (at_ : Nat) (L : List MetaS) (M : PartsM) (e : Ending) (w' : World) : Prop :=
  ∃ vm mb, e = .returned (.tuple #[.agg #[.int .i64 at_, vm, .map (some mb)], .int .i64 0]) ∧ MetasV w.heap.size w' vm L ∧ MapAt w' mb (encMap encI (tookM M L)) ∧ Keeps [] w w'

set_option linter.unusedSimpArgs false in
set_option maxRecDepth 100000 in
set_option maxHeartbeats 4000000 in
theorem listTake_spec (w : World) (s : ByteArray) (at_ : Nat) (L : List MetaS) (M : PartsM) (hs : s.data.toList = lstL at_ L M) (ok : ListOk at_ L M) :
    Calls Tryz.prog 57 #[.string s] w (TakeLPost w at_ L M) := by
  have Hok := Lib.hid ok
  have hfew := ok.few
  have hat := ok.at_
  have l1 := lebL_len10 (v := at_) (by omega)
  have l2 := lebL_len10 (v := L.length) (by omega)
  have l3 := restL_len ok 0
  have hs' : s.data.toList = lebL at_ ++ (lebL L.length ++ restL L M 0) := hs
  have hsz : s.size ≤ maxLen := by
    rw [← dsize, hs']
    simp only [List.length_append, maxLen]
    omega
  obtain ⟨im, him, hzm0, hzm1, hzm2⟩ := info_parts infoMeta
  have hmm := @run_makeMap Tryz.prog
  obtain ⟨rb, hrb⟩ : ∃ n, n = w.heap.size := ⟨_, rfl⟩
  have n0 := heap_new w (.cells #[.int .i64 0, .slice none 0 0, .map none] 32)
  have k0 : Keeps [] w (w.alloc (.cells #[.int .i64 0, .slice none 0 0, .map none] 32)) := (Keeps.refl [] w).alloc _
  rw [← hrb] at n0
  have HB := Lib.hid hrb
  have hrw : w.heap.size ≤ rb := by omega
  have H0 := Lib.hid (And.intro n0 k0)
  have Htm := Lib.hid (fun W (s : ByteArray) (hs : s.size ≤ maxLen) most hm => takeMost_spec W s hs most hm)
  clear hrb n0 k0 hs ok
  go_enter Tryz.func57, Tryz.ntmps57
  go_wp2_with fail
  rw [← HB.out]
  generalize w.alloc (.cells #[.int .i64 0, .slice none 0 0, .map none] 32) = W0 at H0 ⊢
  refine (Htm.out W0 s hsz 1099511627776 (by decide)).mono ?_
  rintro e w1 ⟨rfl, n1, rfl⟩
  rw [hs', takeM_leb (most := 1099511627776) _ (by omega) (by decide)]
  simp only [takeMVals]
  have H1 := Lib.hid (And.intro (at_drewN n1 H0.out.1) (H0.out.2.drewN n1))
  clear H0 hs'
  generalize W0.drewN n1 = W1 at H1 ⊢
  go_wp2_with fail
  refine (Htm.out W1 ⟨(lebL L.length ++ restL L M 0).toArray⟩ (by rw [← dsize, List.toList_toArray]; simp only [List.length_append, maxLen]; omega) 5000 (by decide)).mono ?_
  rintro e w1 ⟨rfl, n1, rfl⟩
  rw [List.toList_toArray, takeM_leb (most := 5000) _ (by omega) (by decide)]
  simp only [takeMVals]
  have H2 := Lib.hid (And.intro (at_drewN n1 H1.out.1) (H1.out.2.drewN n1))
  clear H1
  generalize W1.drewN n1 = W2 at H2 ⊢
  have m3 := mapAt_new W2
  have k3 : Keeps [] W2 ((W2.alloc (.map #[] 0)).alloc (.cells #[.int .i64 at_, .slice none 0 0, .map (some W2.heap.size)] 32)) := ((Keeps.refl [] W2).alloc _).alloc _
  have n3 := heap_new (W2.alloc (.map #[] 0)) (.cells #[.int .i64 at_, .slice none 0 0, .map (some W2.heap.size)] 32)
  have hz3 : (W2.alloc (.map #[] 0)).heap.size = W2.heap.size + 1 := by simp
  rw [hz3] at n3
  have m3' := m3.keep (((Keeps.refl [] (W2.alloc (.map #[] 0))).alloc (.cells #[.int .i64 at_, .slice none 0 0, .map (some W2.heap.size)] 32))) (by simp)
  have H3 := Lib.hid (And.intro n3 (And.intro (k3.at_ H2.out.1 (by simp)) (And.intro m3' (H2.out.2.trans k3))))
  have hrb2 := lt_of_at H2.out.1
  have hw2 := H2.out.2.size
  clear m3 k3 n3 m3' H2
  go_upto_region 6 with fail
  obtain ⟨mb, hmb⟩ : ∃ n, n = W2.heap.size := ⟨_, rfl⟩
  obtain ⟨lb, hlb⟩ : ∃ n, n = W2.heap.size + 1 := ⟨_, rfl⟩
  have hbb : w.heap.size ≤ mb ∧ w.heap.size ≤ lb ∧ mb ≠ rb ∧ lb ≠ rb ∧ mb ≠ lb := by omega
  rw [← hlb, ← hmb] at H3 ⊢
  generalize (W2.alloc (.map #[] 0)).alloc (.cells #[.int .i64 at_, .slice none 0 0, .map (some mb)] 32) = W3 at H3 ⊢
  clear hlb hmb hrb2 hw2 hz3 hmm l1 l2 l3 hat
  go_loopg [0, 5, 6] L.length (TakeLRel w at_ L M rb lb mb)
  case atStart => exact ⟨0, .slice none 0 0, [], Nat.zero_le _, rfl, rfl, rfl, rfl, H3.out.1, H3.out.2.1, rfl, fun i hi => by simp at hi, World.ownsRow_nil W3 _ _ 8, H3.out.2.2.1, H3.out.2.2.2⟩
  case round =>
    obtain ⟨k, vm, R, hk, hgk, rfl, rfl, rfl, hlbk, hrbk, hRk, hRm, hrow, hmap, hkr⟩ := hrel
    clear H3
    have Hg := Lib.hid hgk
    clear hgk
    by_cases hlt : k < L.length
    · have hgt : ((L.length - k : Nat) : Int) > 0 := by omega
      have hsub : IntKind.i64.wrap (((L.length - k : Nat) : Int) - 1) = ((L.length - (k + 1) : Nat) : Int) := by rw [IntWalk.i64_in _ (by omega)]; omega
      have hrl1 := restL_len Hok.out (k + 1)
      have hnx := restL_next (M := M) hlt
      have hmk := Hok.out.markN L[k].id
      have hmok := Hok.out.ok L[k] (List.getElem_mem _)
      have hsn := tookM_snoc M hlt
      obtain ⟨m, hm⟩ : ∃ m, m = L[k] := ⟨_, rfl⟩
      rw [← hm] at hnx hmk hmok hsn
      have Hm := Lib.hid hm
      have Hsn := Lib.hid hsn
      have hmkz : markN M m.id < 18446744073709551616 := by omega
      have hmkl := lebL_len10 hmkz
      have hmln := hmok.len
      have hmid := id16 hmok.id
      clear hsn hm
      obtain ⟨avm, cvm, rfl, -, -, -⟩ := row_slice hrow
      have n8 := heap_new wr (.cells #[.string ⟨#[]⟩, .int .i64 0, .int .i64 0, .int .i64 0, .int .i64 0, .int .i64 0, .slice none 0 0, .slice none 0 0] 63)
      have k8 : Keeps [] wr (wr.alloc (.cells #[.string ⟨#[]⟩, .int .i64 0, .int .i64 0, .int .i64 0, .int .i64 0, .int .i64 0, .slice none 0 0, .slice none 0 0] 63)) := (Keeps.refl [] wr).alloc _
      have hz8 : (wr.alloc (.cells #[.string ⟨#[]⟩, .int .i64 0, .int .i64 0, .int .i64 0, .int .i64 0, .int .i64 0, .slice none 0 0, .slice none 0 0] 63)).heap.size = wr.heap.size + 1 := by simp
      have H8 := Lib.hid (And.intro n8 (And.intro k8 (And.intro hlbk (And.intro hrbk (And.intro hrow (And.intro hmap (And.intro hkr (And.intro hRk (And.intro hRm hz8)))))))))
      have hrlt := lt_of_at hrbk
      have hllt := lt_of_at hlbk
      have hwr := hkr.size
      have hRl : R.length ≤ 20 := by omega
      clear n8 k8 hlbk hrbk hrow hmap hkr hRk hRm hz8
      go_upto_region 10 with fail
      obtain ⟨tb, htb⟩ : ∃ n, n = wr.heap.size := ⟨_, rfl⟩
      rw [← htb] at H8 ⊢
      have Htb := Lib.hid htb
      have htn : tb ≠ lb ∧ tb ≠ rb ∧ w.heap.size ≤ tb := by omega
      clear htb hrlt hllt
      generalize wr.alloc (.cells #[.string ⟨#[]⟩, .int .i64 0, .int .i64 0, .int .i64 0, .int .i64 0, .int .i64 0, .slice none 0 0, .slice none 0 0] 63) = W8 at H8 ⊢
      have hsz8 : (⟨(metaL m ++ (lebL (markN M m.id) ++ restL L M (k + 1))).toArray⟩ : ByteArray).size ≤ 1000000000 := by
        rw [← dsize, List.toList_toArray]
        simp only [List.length_append]
        omega
      have htk := take_spec W8 ⟨(metaL m ++ (lebL (markN M m.id) ++ restL L M (k + 1))).toArray⟩ m (lebL (markN M m.id) ++ restL L M (k + 1)) (by simp) hmok hsz8
      have Htk := Lib.hid htk
      clear htk hsz8 hnx
      go_wp2_with fail
      refine Htk.out.mono ?_
      rintro e w9 ⟨vs, rfl, hm9, hk9⟩
      obtain ⟨vf, vo, rfl, hsf, hso⟩ := hm9.metaV
      obtain ⟨af, cf, rfl, -, -, -, -⟩ := hsf
      obtain ⟨ao, co, rfl, -, -, -, -⟩ := hso
      have nt9 := hk9.at_ H8.out.1 (by simp)
      have ct9 := cells_at nt9
      have ft9 := free_at nt9
      have lt9 := lt_of_at nt9
      have se := set8 (v0 := .string m.id) (v1 := .int .i64 m.mn) (v2 := .int .i64 m.mx) (v3 := .int .i64 m.level) (v4 := .int .i64 m.series) (v5 := .int .i64 m.samples) (v6 := .slice af m.files.length cf) (v7 := .slice ao m.sources.length co) nt9
      have H9 := Lib.hid (And.intro se.1 (And.intro (hm9.keep se.2 (S := [tb]) (by have := H8.out.2.2.2.2.2.2.2.2.2; have := Htb.out; simp only [List.mem_singleton]; rintro x rfl; omega)) ((H8.out.2.1.trans hk9).after se.2 (fun x hx => .inr (by have := Htb.out; simp only [List.mem_singleton] at hx; omega)))))
      clear se nt9 hm9 hk9
      go_upto_region 11 with fail
      clear ct9 ft9 lt9
      generalize ((((((((w9.setCell ⟨tb, 0, none⟩ (.string m.id)).setCell ⟨tb, 1, none⟩ (.int .i64 m.mn)).setCell ⟨tb, 2, none⟩ (.int .i64 m.mx)).setCell ⟨tb, 3, none⟩ (.int .i64 m.level)).setCell ⟨tb, 4, none⟩ (.int .i64 m.series)).setCell ⟨tb, 5, none⟩ (.int .i64 m.samples)).setCell ⟨tb, 6, none⟩ (.slice af m.files.length cf)).setCell ⟨tb, 7, none⟩ (.slice ao m.sources.length co)) = W10 at H9 ⊢
      have hsz10 : (⟨(lebL (markN M m.id) ++ restL L M (k + 1)).toArray⟩ : ByteArray).size ≤ maxLen := by
        rw [← dsize, List.toList_toArray]
        simp only [List.length_append, maxLen]
        omega
      go_wp2_with fail
      refine (Htm.out W10 ⟨(lebL (markN M m.id) ++ restL L M (k + 1)).toArray⟩ hsz10 1099511627777 (by decide)).mono ?_
      rintro e w11 ⟨rfl, n11, rfl⟩
      rw [List.toList_toArray, takeM_leb (most := 1099511627777) _ (by omega) (by decide)]
      simp only [takeMVals]
      have k11 : Keeps [] wr (W10.drewN n11) := H9.out.2.2.drewN n11
      have hm11 : MetaR W8.heap.size (W10.drewN n11) _ m := H9.out.2.1.same ((Keeps.refl [] W10).drewN n11)
      have nt11 := at_drewN n11 H9.out.1
      clear H9
      generalize W10.drewN n11 = W12 at k11 hm11 nt11 ⊢
      have nl12 := k11.at_ H8.out.2.2.1 (by simp)
      have nr12 := k11.at_ H8.out.2.2.2.1 (by simp)
      have hrow12 := k11.row H8.out.2.2.2.2.1 (by simp)
      have hmap12 := H8.out.2.2.2.2.2.1.keep k11 (by simp)
      have hRs12 : RowsR (w.heap.size + 1) W12 R L := fun i h h' => (H8.out.2.2.2.2.2.2.2.2.1 i h h').same k11
      have hkw12 := H8.out.2.2.2.2.2.2.1.trans k11
      have hm12 : MetaR (w.heap.size + 1) W12 _ m := hm11.low (by have := H8.out.2.2.2.2.2.2.2.2.2; omega)
      have htbn : tb ∉ (Value.slice avm R.length cvm).ownBlock.toList := fun hm => by
        have := (World.ownsRow.lt H8.out.2.2.2.2.1 tb (by simpa using hm)).2
        have := Htb.out
        omega
      have H12 := Lib.hid (And.intro nt11 (And.intro nl12 (And.intro nr12 (And.intro hrow12 (And.intro hmap12 (And.intro hRs12 (And.intro hm12 (And.intro hkw12 htbn))))))))
      have hvl : ∀ g, (Value.slice avm R.length cvm).ownBlock = some g → w.heap.size ≤ g := fun g hg => Nat.le_of_succ_le (World.ownsRow.lt H12.out.2.2.2.1 g hg).1
      have Hvl := Lib.hid hvl
      clear k11 hm11 nt11 nl12 nr12 hrow12 hmap12 hRs12 hkw12 hm12 htbn hvl Htk
      have ct12 := cells_at H12.out.1
      have lt12 := lt_of_at H12.out.1
      have cl12 := cells_at H12.out.2.1
      have ll12 := lt_of_at H12.out.2.1
      have hwz := H12.out.2.2.2.2.2.2.2.1.size
      go_upto_region 14 with (at_builtin; refine wpList_append_own _ rfl (.tmp 52) (.tmp 54) 29 rfl (w.heap.size + 1) 63 im _ 8 104 Tryz.underlying29 him hzm0 hzm1 hzm2 rfl (by decide) (.slice avm R.length cvm) R.length (R.flatMap id) rfl (H12.out.2.2.2.1.alloc _) ⟨W12.heap.size, 0, none⟩ 1 1 [.string m.id, .int .i64 m.mn, .int .i64 m.mx, .int .i64 m.level, .int .i64 m.series, .int .i64 m.samples, .slice af m.files.length cf, .slice ao m.sources.length co] rfl rfl (news_of (heap_new W12 _)) (by simp [Value.oneCell']) (by simp only [maxLen]; omega) (by omega) (by simp; omega) ?_; intro v8 w8 hown8 hgrow8 hnil; clear hnil; obtain ⟨ao8, cp8, hv8, -, -, -⟩ := row_slice hown8; subst hv8; have nl8 := (keeps_rowM hgrow8).at_ (heap_old H12.out.2.1 _) (row_ne_typeM H12.out.2.2.2.1 H12.out.2.1 (by decide)); have cl8 := cells_at nl8; have fl8 := free_at nl8; have ll8 := lt_of_at nl8; have nt8 := (keeps_rowM hgrow8).at_ (heap_old H12.out.1 _) H12.out.2.2.2.2.2.2.2.2; have H8a := Lib.hid (And.intro hown8 (And.intro hgrow8 (And.intro nl8 nt8))); clear hown8 hgrow8 nl8 nt8 ct12 lt12 cl12 ll12)
      clear cl8 fl8 ll8
      have k89 : Keeps [lb] w8 (w8.setCell ⟨lb, 1, none⟩ (.slice ao8 (R.length + 1) cp8)) := (Keeps.refl [lb] w8).setCell (.inl (by simp)) _
      have nl9 : (w8.setCell ⟨lb, 1, none⟩ (.slice ao8 (R.length + 1) cp8)).heap[lb]? = some (.cells #[.int .i64 at_, .slice ao8 (R.length + 1) cp8, .map (some mb)] 32 (0, 0)) := (heap_cell_same (i := 1) H8a.out.2.2.1 _).trans (by simp)
      have ka : Keeps [] W12 (W12.alloc (.cells #[.string m.id, .int .i64 m.mn, .int .i64 m.mx, .int .i64 m.level, .int .i64 m.series, .int .i64 m.samples, .slice af m.files.length cf, .slice ao m.sources.length co] 63)) := (Keeps.refl [] W12).alloc _
      have kb := keeps_rowM H8a.out.2.1
      have hrowa := H12.out.2.2.2.1.alloc (.cells #[.string m.id, .int .i64 m.mn, .int .i64 m.mx, .int .i64 m.level, .int .i64 m.series, .int .i64 m.samples, .slice af m.files.length cf, .slice ao m.sources.length co] 63)
      have hbox : ∀ b ∈ [lb], (∃ kv, MapAt w8 b kv) ∨ ∃ cs t z, w8.heap[b]? = some (.cells cs t z) ∧ t ≠ 149 ∧ t ≠ 9 := fun b hb => by
        simp only [List.mem_singleton] at hb
        subst hb
        exact .inr ⟨_, _, _, H8a.out.2.2.1, by decide, by decide⟩
      have hRs9 : RowsR (w.heap.size + 1) (w8.setCell ⟨lb, 1, none⟩ (.slice ao8 (R.length + 1) cp8)) R L := fun i h h' => (((H12.out.2.2.2.2.2.1 i h h').same ka).keepRow hrowa kb).out k89 hbox
      have hm9 := ((H12.out.2.2.2.2.2.2.1.same ka).keepRow hrowa kb).out k89 hbox
      have hmap9 := ((H12.out.2.2.2.2.1.keep ka (by simp)).keep kb (row_ne_map hrowa (H12.out.2.2.2.2.1.keep ka (by simp)))).keep k89 (by simp; omega)
      have nr9 := k89.at_ (kb.at_ (ka.at_ H12.out.2.2.1 (by simp)) (row_ne_typeM hrowa (ka.at_ H12.out.2.2.1 (by simp)) (by decide))) (by simp; omega)
      have nt9 := k89.at_ H8a.out.2.2.2 (by simp; omega)
      have hrow9 := k89.row H8a.out.1 (fun g hg => by have := row_ne_type H8a.out.1 H8a.out.2.2.1 (by decide) g hg; simpa using this)
      have hk9 : Keeps [] w (w8.setCell ⟨lb, 1, none⟩ (.slice ao8 (R.length + 1) cp8)) := (keeps_grownM (H12.out.2.2.2.2.2.2.2.1.alloc _) H8a.out.2.1 Hvl.out).after k89 (fun x hx => .inr (by simp only [List.mem_singleton] at hx; omega))
      have H9 := Lib.hid (And.intro nl9 (And.intro nr9 (And.intro (hRs9.snoc hlt H8.out.2.2.2.2.2.2.2.1 Hm.out hm9) (And.intro hrow9 (And.intro hmap9 (And.intro hk9 nt9))))))
      have hRk : R.length = k := H8.out.2.2.2.2.2.2.2.1
      have HRk := Lib.hid hRk
      clear k89 nl9 ka kb hrowa hbox hRs9 hm9 hmap9 nr9 nt9 hrow9 hk9 H12 H8a Hvl H8 hRk
      generalize w8.setCell ⟨lb, 1, none⟩ (.slice ao8 (R.length + 1) cp8) = W14 at H9 ⊢
      cases hlk : look M m.id with
      | none =>
        have hm0 : markN M m.id = 0 := by unfold Go.Proofs.YtjffdcflkkgpfaaGreat.markN; rw [hlk]
        have hst : tookStep M (tookM M (L.take k)) m = tookM M (L.take k) := by unfold tookStep; rw [hlk]
        have Hst := Lib.hid (Hsn.out.trans hst)
        clear hst hlk
        rw [hm0]
        have hn0 : ¬ ((0 : Nat) : Int) > 0 := by omega
        go_wp2_with fail
        go_roundg (L.length - (k + 1))
        case measure => have := Hg.out; omega
        case rel => exact ⟨k + 1, .slice ao8 (R.length + 1) cp8, R ++ [_], by omega, rfl, rfl, rfl, rfl, H9.out.1, H9.out.2.1, by simp [HRk.out], H9.out.2.2.1, by simpa using H9.out.2.2.2.1, by rw [Hst.out]; exact H9.out.2.2.2.2.1, H9.out.2.2.2.2.2.1⟩
      | some tt =>
        obtain ⟨ht0, ht1⟩ := Hok.out.mark hlk
        have hm0 : markN M m.id = tt.toNat + 1 := by unfold Go.Proofs.YtjffdcflkkgpfaaGreat.markN; rw [hlk]
        have hst : tookStep M (tookM M (L.take k)) m = put (tookM M (L.take k)) m.id tt := by unfold tookStep; rw [hlk]
        have Hst := Lib.hid (Hsn.out.trans hst)
        clear hst hlk
        rw [hm0]
        have hn0 : ((tt.toNat + 1 : Nat) : Int) > 0 := by omega
        have hms : IntKind.i64.wrap (((tt.toNat + 1 : Nat) : Int) - 1) = tt := by rw [IntWalk.i64_in _ (by omega)]; omega
        generalize ((tt.toNat + 1 : Nat) : Int) = mkI at hn0 hms ⊢
        have cl14 := cells_at H9.out.1
        have ll14 := lt_of_at H9.out.1
        have ct14 := cells_at H9.out.2.2.2.2.2.2
        have lt14 := lt_of_at H9.out.2.2.2.2.2.2
        have hmap14 := H9.out.2.2.2.2.1
        generalize tookM M (L.take k) = D at hmap14 Hst
        go_wp2_with (refine wpList_update_str _ rfl (.tmp 60) (.tmp 62) (.tmp 64) _ _ _ rfl Tryz.underlying30 Tryz.underlying9 mb (encMap encI D) m.id (encI tt) (by rfl) (by rfl) (by rfl) hmap14 ?_; intro w5 hm5 hk5)
        rw [put_enc] at hm5
        have hbm : ∀ b ∈ [mb], (∃ kv, MapAt W14 b kv) ∨ ∃ cs t z, W14.heap[b]? = some (.cells cs t z) ∧ t ≠ 149 ∧ t ≠ 9 := fun b hb => by
          simp only [List.mem_singleton] at hb
          subst hb
          exact .inl ⟨_, hmap14⟩
        have H5 := Lib.hid (And.intro (hk5.at_ H9.out.1 (by simp; omega)) (And.intro (hk5.at_ H9.out.2.1 (by simp; omega)) (And.intro (fun i h h' => (H9.out.2.2.1 i h h').out hk5 hbm) (And.intro (hk5.row H9.out.2.2.2.1 (fun g hg hm => row_ne_map H9.out.2.2.2.1 hmap14 (by simp only [List.mem_singleton] at hm; subst hm; rw [hg]; simp))) (And.intro hm5 (H9.out.2.2.2.2.2.1.after hk5 (fun x hx => .inr (by simp only [List.mem_singleton] at hx; omega))))))))
        clear hm5 hk5 hbm cl14 ll14 ct14 lt14 hmap14
        go_wp2_with fail
        go_roundg (L.length - (k + 1))
        case measure => have := Hg.out; omega
        case rel => exact ⟨k + 1, .slice ao8 (R.length + 1) cp8, R ++ [_], by omega, rfl, rfl, rfl, rfl, H5.out.1, H5.out.2.1, by simp [HRk.out], H5.out.2.2.1, by simpa using H5.out.2.2.2.1, by rw [Hst.out]; exact H5.out.2.2.2.2.1, H5.out.2.2.2.2.2⟩
    · obtain rfl : k = L.length := by omega
      rw [List.take_length] at hmap
      have hgt : ¬ ((L.length - L.length : Nat) : Int) > 0 := by omega
      have hse : (⟨(restL L M L.length).toArray⟩ : ByteArray) = ⟨#[]⟩ := by rw [restL_end]
      rw [hse]
      have hmet := RowsR.metas hRm hRk hrow
      obtain ⟨avm, cvm, rfl, -, -, -⟩ := row_slice hrow
      rw [hRk] at hlbk hmet
      have Hck := Lib.hid (listCheck_spec (w.heap.size + 1) wr at_ mb _ L (tookM M L) hmet hmap Hok.out.took)
      have He := Lib.hid (And.intro hlbk (And.intro hrbk (And.intro hmet (And.intro hmap hkr))))
      have cl := cells_at hlbk
      have ll := lt_of_at hlbk
      clear hlbk hrbk hRm hrow hmap hmet hkr hse hRk
      go_wp2_with fail
      refine Hck.out.mono ?_
      rintro e w5 ⟨rfl, hk5⟩
      have nl5 := hk5.at_ He.out.1 (by simp)
      have nr5 := hk5.at_ He.out.2.1 (by simp)
      have cl5 := cells_at nl5
      have ll5 := lt_of_at nl5
      have cr5 := cells_at nr5
      have fr5 := free_at nr5
      have lr5 := lt_of_at nr5
      have H5 := Lib.hid (And.intro nr5 (And.intro (He.out.2.2.1.same hk5) (And.intro (He.out.2.2.2.1.keep hk5 (by simp)) (He.out.2.2.2.2.trans hk5))))
      clear nl5 nr5 hk5 Hck cl ll
      go_wp2_with fail
      have se := set3 (v0 := .int .i64 at_) (v1 := .slice avm L.length cvm) (v2 := .map (some mb)) H5.out.1
      have hbr := HB.out
      have hmv := (H5.out.2.1.keep se.2 (by simp only [List.mem_singleton]; rintro x rfl; omega)).low (show w.heap.size ≤ w.heap.size + 1 by omega)
      have hmm := H5.out.2.2.1.keep se.2 (by simp; omega)
      have hkw := H5.out.2.2.2.after se.2 (fun x hx => .inr (by simp only [List.mem_singleton] at hx; omega))
      have hc := cells_at se.1
      have hlr := lt_of_at se.1
      refine bodyPost_ret (v := .tuple #[.agg #[.int .i64 at_, .slice avm L.length cvm, .map (some mb)], .int .i64 0]) ?_ rfl ⟨.slice avm L.length cvm, mb, rfl, hmv, hmm, hkw⟩
      simp [results, Tryz.results57, go_sem, hc, hlr]
end Go.Proofs.YtjffdcflkkgpfaaGreat

namespace Go.Proofs.YtjffdcflkkgpfaaGreat
open Go Go.RowKit Go.Conc

set_option linter.unusedSimpArgs false in
set_option maxRecDepth 100000 in
set_option maxHeartbeats 4000000 in
theorem listDec_spec (w : World) (s : ByteArray) (at_ : Nat) (L : List MetaS) (M : PartsM) (hs : s.data.toList = frameL 3 (lstL at_ L M)) (ok : ListOk at_ L M) :
    Calls Tryz.prog 21 #[.string s] w (TakeLPost w at_ L M) := by
  have hlen : (lstL at_ L M).length ≤ 50020 := by
    have l1 := lebL_len10 (v := at_) (by have := ok.at_; omega)
    have l2 := lebL_len10 (v := L.length) (by have := ok.few; omega)
    have l3 := restL_len ok 0
    have e : lstL at_ L M = lebL at_ ++ (lebL L.length ++ restL L M 0) := rfl
    rw [e]
    simp only [List.length_append]
    omega
  have hnf := nextF_frame 3 (lstL at_ L M) [] (by omega)
  rw [List.append_nil, ← hs] at hnf
  have hsz : s.size ≤ 140737488355000 := by
    rw [← dsize, hs]
    unfold frameL
    simp only [List.length_cons, List.length_append, le4, List.length_nil]
    have := lebL_len10 (v := (lstL at_ L M).length) (by omega)
    omega
  have hnx := fun W => next_spec W s hsz
  rw [hnf] at hnx
  have Hnx := Lib.hid hnx
  have Htk := Lib.hid (fun W (x : ByteArray) hx => listTake_spec W x at_ L M hx ok)
  obtain ⟨D, hD⟩ : ∃ D : ByteArray, D = ⟨(lstL at_ L M).toArray⟩ := ⟨_, rfl⟩
  have hDl : D.data.toList = lstL at_ L M := by rw [hD]
  have HD := Lib.hid hD
  have HDl := Lib.hid hDl
  have n0 := heap_new w (.cells #[.int .i64 0, .slice none 0 0, .map none] 32)
  have k0 : Keeps [] w (w.alloc (.cells #[.int .i64 0, .slice none 0 0, .map none] 32)) := (Keeps.refl [] w).alloc _
  obtain ⟨rb, hrb⟩ : ∃ n, n = w.heap.size := ⟨_, rfl⟩
  rw [← hrb] at n0
  have HB := Lib.hid hrb
  have hrw : w.heap.size ≤ rb := by omega
  have H0 := Lib.hid (And.intro n0 k0)
  have hz : rb < (w.alloc (.cells #[.int .i64 0, .slice none 0 0, .map none] 32)).heap.size := by simp; omega
  clear hnx hD hDl hnf hsz hlen hrb n0 k0 hs ok
  go_enter Tryz.func21, Tryz.ntmps21
  go_wp2_with fail
  rw [← HB.out]
  generalize w.alloc (.cells #[.int .i64 0, .slice none 0 0, .map none] 32) = W0 at H0 hz ⊢
  refine (Hnx.out W0).mono ?_
  rintro e w1 ⟨rfl, hk1⟩
  simp only [nextVals]
  rw [← HD.out]
  have q2 := heap_new w1 (.cells #[.int .u8 3, .string D] 123)
  have ka : Keeps [] w1 (w1.alloc (.cells #[.int .u8 3, .string D] 123)) := (Keeps.refl [] w1).alloc _
  have c2 := cells_at q2
  have l2 := lt_of_at q2
  have H2 := Lib.hid (And.intro (ka.at_ (hk1.at_ H0.out.1 (by simp)) (by simp)) ((H0.out.2.trans hk1).trans ka))
  have hz2 := hk1.size
  clear hk1 q2 ka H0
  go_wp2_with fail
  clear c2 l2
  generalize w1.alloc (.cells #[.int .u8 3, .string D] 123) = W2 at H2 ⊢
  have hr2 := lt_of_at H2.out.1
  refine (Htk.out W2 D HDl.out).mono ?_
  rintro e w3 ⟨vm, mb, rfl, hm3, hp3, hk3⟩
  have nr3 := hk3.at_ H2.out.1 (by simp)
  obtain ⟨VS, hV1, hV2, hV3⟩ := hm3
  obtain ⟨av, cv, rfl, hx1, hx2, hx3, hx4⟩ := hV1
  have hm3 : MetasV W2.heap.size w3 (.slice av VS.length cv) L := ⟨VS, ⟨av, cv, rfl, hx1, hx2, hx3, hx4⟩, hV2, hV3⟩
  clear hx1 hx2 hx3 hx4 hV3
  rw [hV2] at hm3 ⊢
  clear hV2
  have ka : Keeps [] w3 (w3.alloc (.cells #[.int .i64 at_, .slice av L.length cv, .map (some mb)] 32)) := (Keeps.refl [] w3).alloc _
  have na := heap_new w3 (.cells #[.int .i64 at_, .slice av L.length cv, .map (some mb)] 32)
  have nr4 := ka.at_ nr3 (by simp)
  have cr := cells_at nr4
  have fr := free_at nr4
  have lr := lt_of_at nr4
  have ca := cells_at na
  have la := lt_of_at na
  have H4 := Lib.hid (And.intro nr4 (And.intro (hm3.same ka) (And.intro (hp3.keep ka (by simp)) ((H2.out.2.trans hk3).trans ka))))
  clear nr3 nr4 na ka hm3 hp3 hk3
  go_wp2_with fail
  clear cr fr lr ca la
  have se := set3 (v0 := .int .i64 at_) (v1 := .slice av L.length cv) (v2 := .map (some mb)) H4.out.1
  have hw2 := H2.out.2.size
  have hmv := (H4.out.2.1.keep se.2 (by simp only [List.mem_singleton]; rintro x rfl; omega)).low hw2
  have hmm : MapAt _ mb _ := H4.out.2.2.1.keep se.2 (by
    intro hm
    simp only [List.mem_singleton] at hm
    subst hm
    obtain ⟨E, c, hb, -, -⟩ := H4.out.2.2.1
    rw [H4.out.1] at hb
    cases hb)
  have hkw := H4.out.2.2.2.after se.2 (fun x hx => .inr (by simp only [List.mem_singleton] at hx; omega))
  have hc := cells_at se.1
  have hlr := lt_of_at se.1
  refine bodyPost_ret (v := .tuple #[.agg #[.int .i64 at_, .slice av L.length cv, .map (some mb)], .int .i64 0]) ?_ rfl ⟨.slice av L.length cv, mb, rfl, hmv, hmm, hkw⟩
  simp [results, Tryz.results21, go_sem, hc, hlr]
end Go.Proofs.YtjffdcflkkgpfaaGreat
