/-
  A scan's step (package scan): Step.
  As in the scan's file.

  What a scan has got (package scan): Got.
  As in the scan's file.

  What a scan has listed (package scan): Infos.
  As in the scan's file.
-/
import Derived.Test.YtbndpegilpgheaaGreatScan
import Derived.Test.YtbndpegilpgheaaGreatShelf
import Derived.Laws.OwnMore
namespace Go.Proofs.YtbndpegilpgheaaGreat
open Go Go.RowKit

def StepPost (X : Nat) (w : World) (b f c mb B q gb : Nat) (armed : Bool) (Q : List (Int × Bool)) (o : List (ByteArray × Ob)) (S : ScanS) (err : Int) (e : Ending) (w' : World) : Prop :=
  e = .returned (.int .i64 err) ∧ ScanAt X w' B q gb S ∧ BucketAt w' b f c mb armed Q o ∧ Keeps [f, c, q, gb] w w'


set_option maxRecDepth 100000 in
set_option maxHeartbeats 1000000 in
theorem scanStep_begin {X : Nat} (w : World) (b f c mb B q gb : Nat) (armed : Bool) (Q : List (Int × Bool)) (o : List (ByteArray × Ob)) (S : ScanS) (now : Int) (hb : BucketAt w b f c mb armed Q o) (hS : ScanAt X w B q gb S) (hw0 : S.begun = false) (hlow : b < B ∧ f < B ∧ c < B ∧ mb < B)
    (hv : LibVar w) (hvB : 0 < B)
    (hk : ∀ p ∈ o, p.1.size ≤ 40) (hd : ∀ n, (obOr (look o n)).1.size ≤ 9223372036854775807) (hl : o.length ≤ 1000) :
    Calls Tryz.prog 65 #[.pointer (some ⟨q, 0, none⟩), .pointer (some ⟨b, 0, none⟩), .int .i64 now] w (StepPost X w b f c mb B q gb (tryArmed Q) (tryQ Q) o (scanOf Q now (listing o ⟨#[]⟩) S) (ioErr Q)) := by
  have Hb := Lib.hid (scanBegin_spec w b f c mb B q gb armed Q o S now hb hS hw0 hlow hv hvB hk hd hl)
  obtain ⟨_, _, B1, vi, vw, _, _, h5, _, _, _⟩ := hS
  have c5 := cells_at h5
  have l5 := lt_of_at h5
  rw [hw0] at c5
  generalize scanOf Q now (listing o ⟨#[]⟩) S = S' at Hb ⊢
  clear h5 hb hk hd hl
  go_enter Tryz.func65, Tryz.ntmps65
  go_wp2_with fail
  refine Hb.out.mono ?_
  rintro e w1 ⟨rfl, hS1, hb1, hk1⟩
  have H1 := Lib.hid (And.intro hS1 (And.intro hb1 hk1))
  clear hS1 hb1 hk1
  go_wp2_with fail
  go_ret
  exact ⟨rfl, H1.out.1, H1.out.2.1, H1.out.2.2.mono (by simp)⟩


set_option maxRecDepth 100000 in
set_option maxHeartbeats 1000000 in
theorem scanStep_done {X : Nat} (w : World) (b f c mb B q gb : Nat) (armed : Bool) (Q : List (Int × Bool)) (o : List (ByteArray × Ob)) (S : ScanS) (now : Int) (hb : BucketAt w b f c mb armed Q o) (hS : ScanAt X w B q gb S) (hw0 : S.begun = true) (hw1 : S.wait = []) :
    Calls Tryz.prog 65 #[.pointer (some ⟨q, 0, none⟩), .pointer (some ⟨b, 0, none⟩), .int .i64 now] w (StepPost X w b f c mb B q gb armed Q o S 17) := by
  have H0 := Lib.hid (And.intro hb hS)
  obtain ⟨_, _, B1, vi, vw, _, _, h5, _, h7, _⟩ := hS
  obtain ⟨ao, cap, rfl, _, _⟩ := h7
  have c5 := cells_at h5
  have l5 := lt_of_at h5
  rw [hw0, hw1] at c5
  simp only [List.length_nil] at c5
  clear h5 hb
  go_enter Tryz.func65, Tryz.ntmps65
  go_wp2_with fail
  go_ret
  exact ⟨rfl, H0.out.2, H0.out.1, Keeps.refl _ _⟩


theorem scan_shift {X : Nat} {w W2 : World} {B q gb B1 : Nat} {S : ScanS} {vi u v' : Value} {r : List ByteArray} {G : List (ByteArray × ByteArray)} {R : List Nat}
    (hqB : B ≤ q) (hgB : B ≤ gb) (hqB1 : q < B1 ∧ X ≤ B1 ∧ X ≤ w.heap.size) (hgB1 : gb < B1) (hgq : gb ≠ q) (h6 : SliceFrom B1 3 infoOf w vi S.infos) (k : Keeps R w W2) (hR : ∀ x ∈ R, x < B1) (hm : MapAt W2 gb (encMap Value.string G))
    (hq : W2.heap[q]? = some (.cells #[.bool true, .int .i64 S.tick, vi, u, .map (some gb)] 211 (0, 0))) (hv : SliceFrom B1 1 encS1 w v' r) :
    ScanAt X (W2.setCell ⟨q, 3, none⟩ v') B q gb ⟨true, S.tick, S.infos, r, G⟩ ∧ Keeps [q] W2 (W2.setCell ⟨q, 3, none⟩ v') := by
  have k2 : Keeps [q] W2 (W2.setCell ⟨q, 3, none⟩ v') := (Keeps.refl [q] W2).setCell (.inl (by simp)) _
  refine ⟨⟨hqB, hgB, B1, vi, v', by have := k.size; have := k2.size; omega, hgB1, heap_cell_same hq v', (h6.keep k hR).keep k2 (by simpa using hqB1.1), (hv.keep k hR).keep k2 (by simpa using hqB1.1), hm.keep k2 (by simpa using hgq), fun h => by cases h⟩, k2⟩

/-- What a step that gets leaves, by what Get answers. -/
def gotOf (s : ByteArray × Int) (x : ByteArray) (r : List ByteArray) (S : ScanS) : ScanS :=
  if s.2 = 0 then ⟨S.begun, S.tick, S.infos, r, put S.got x s.1⟩ else if s.2 = 5 then ⟨S.begun, S.tick, S.infos, r, S.got⟩ else S

def gotErr (s : ByteArray × Int) : Int := if s.2 = 0 ∨ s.2 = 5 then 0 else s.2


set_option maxRecDepth 100000 in
set_option maxHeartbeats 1000000 in
theorem scanStep_get {X : Nat} (w : World) (b f c mb B q gb : Nat) (armed : Bool) (Q : List (Int × Bool)) (o : List (ByteArray × Ob)) (S : ScanS) (now : Int) (x : ByteArray) (r : List ByteArray) (hb : BucketAt w b f c mb armed Q o) (hS : ScanAt X w B q gb S) (hw0 : S.begun = true) (hw1 : S.wait = x :: r) (hlow : b < B ∧ f < B ∧ c < B ∧ mb < B) :
    Calls Tryz.prog 65 #[.pointer (some ⟨q, 0, none⟩), .pointer (some ⟨b, 0, none⟩), .int .i64 now] w (StepPost X w b f c mb B q gb (tryArmed Q) (tryQ Q) o (gotOf (getVal Q o x) x r S) (gotErr (getVal Q o x))) := by
  have Hg := Lib.hid (get_spec w b f c mb armed Q o hb x)
  have hq0 := hS.lt
  have HS := Lib.hid hS
  obtain ⟨hqB, hgB, B1, vi, vw, hqB1, hgB1, h5, h6, h7, h8, _⟩ := hS
  have hgq : gb ≠ q := by
    rintro rfl
    obtain ⟨_, _, hm, _⟩ := h8
    rw [h5] at hm
    cases hm
  rw [hw1] at h7
  have h7' := h7
  obtain ⟨ao, cap, rfl, hl, hc, hn, hx⟩ := h7
  obtain ⟨b2, off, rfl, hB2, hlt2, hcell⟩ := hx 0 (by simp)
  have d0 : w.cell? ⟨b2, off, none⟩ = some (.string x) := by simpa [encS1] using hcell 0 (by decide)
  obtain ⟨_, _, he, _, _, _, _, ht1, ht2⟩ := h7'.tail
  injection he with he
  injection he with he1 he2 _
  subst he1 he2
  have hlen : (((x :: r).length : Nat) : Int) ≠ 0 := by simp only [List.length_cons]; omega
  have hpos : (0 : Int) < (((x :: r).length : Nat) : Int) := by simp only [List.length_cons]; omega
  have hge : (1 : Int) ≤ (((x :: r).length : Nat) : Int) := by omega
  have hlr : (x :: r).length = r.length + 1 := rfl
  have hbn : ((((x :: r).length : Nat) : Int) == 0) = false := by rw [beq_eq_false_iff_ne]; exact hlen
  unfold maxLen at hl
  have c5 := cells_at h5
  have l5 := lt_of_at h5
  rw [hw0] at c5 h5
  have H0 := Lib.hid (And.intro h5 (And.intro h6 (And.intro h8 (And.intro ht1 ht2))))
  generalize (x :: r).length = n at c5 hl hc hlen hpos hge hlr hbn H0
  generalize getVal Q o x = s at Hg ⊢
  obtain ⟨sd, se⟩ := s
  clear hx hcell ht1 ht2 h5 h6 h7' h8 hb hw1 hn
  go_enter Tryz.func65, Tryz.ntmps65
  go_wp2_with fail
  refine Hg.out.mono ?_
  rintro e w1 ⟨rfl, hb1, hk1⟩
  have hk1q : q ∉ [f, c] := by simp; omega
  have hk1g : gb ∉ [f, c] := by simp; omega
  have hk1b : b2 ∉ [f, c] := by simp; omega
  have h5 := hk1.at_ H0.out.1 hk1q
  have h8 := H0.out.2.2.1.keep hk1 hk1g
  replace d0 := (hk1.cell hlt2 hk1b).trans d0
  have lb2 := hk1.lt hlt2
  replace c5 := cells_at h5
  replace l5 := lt_of_at h5
  have f5 := free_at h5
  have H1 := Lib.hid (And.intro hb1 (And.intro hk1 (And.intro h5 h8)))
  clear hb1 hk1 h5 h8
  by_cases h0 : se = 0
  · subst h0
    have hG : gotOf (sd, 0) x r S = ⟨true, S.tick, S.infos, r, put S.got x sd⟩ := by simp [gotOf, hw0]
    have hm := H1.out.2.2.2
    go_wp2_with fail
    go_still_tail 11, (by kernel_rfl)
    change wpList _ _ _ _ _ w1.drew
    refine wpList_update_str _ rfl (.tmp 44) (.tmp 50) (.tmp 51) _ _ _ rfl Tryz.underlying26 Tryz.underlying9 gb (encMap Value.string S.got) x (Value.string sd) (by rfl) (by rfl) (by rfl) hm.drew ?_
    intro W2 hm2 k2
    simp only [Act.put]
    rw [put_enc] at hm2
    have hq2 := (k2.trans (Keeps.refl [gb] W2)).at_ (w := w1.drew) H1.out.2.2.1 (by simpa using fun h => hgq h.symm)
    have H2 := Lib.hid (And.intro hm2 (And.intro hq2 ((Keeps.refl [gb] w1).drew.trans k2)))
    replace c5 := cells_at hq2
    replace l5 := lt_of_at hq2
    replace f5 := free_at hq2
    have lb3 : b2 < W2.heap.size := k2.lt (w := w1.drew) lb2
    clear hm2 hq2 k2 hm d0
    go_wp2_with fail
    · go_ret
      have hx := scan_shift hqB hgB hqB1 hgB1 hgq H0.out.2.1 (R := [f, c, gb]) ((H1.out.2.1.mono (by simp)).trans (H2.out.2.2.mono (by simp))) (by simp; omega) H2.out.1 H2.out.2.1 (v' := .slice (some ⟨b2, off, none⟩) r.length 0) (r := r) (by
        rw [H0.out.2.2.2.2 (by assumption)]
        exact ⟨_, _, rfl, by simp [maxLen], Nat.le_refl _, (fun e => by cases e), fun i hi => by simp at hi⟩)
      exact ⟨rfl, hx.1, ((H1.out.1.keep H2.out.2.2 (by simp; omega) (by simp; omega) (by simp; omega) (by simp; omega)).keep hx.2 (by simp; omega) (by simp; omega) (by simp; omega) (by simp; omega)), ((H1.out.2.1.mono (by simp)).trans (H2.out.2.2.mono (by simp))).trans (hx.2.mono (by simp))⟩
    · go_ret
      have hx := scan_shift hqB hgB hqB1 hgB1 hgq H0.out.2.1 (R := [f, c, gb]) ((H1.out.2.1.mono (by simp)).trans (H2.out.2.2.mono (by simp))) (by simp; omega) H2.out.1 H2.out.2.1 (v' := .slice (some ⟨b2, off + 1, none⟩) r.length (cap - 1)) (r := r) (H0.out.2.2.2.1 (by omega))
      exact ⟨rfl, hx.1, ((H1.out.1.keep H2.out.2.2 (by simp; omega) (by simp; omega) (by simp; omega) (by simp; omega)).keep hx.2 (by simp; omega) (by simp; omega) (by simp; omega) (by simp; omega)), ((H1.out.2.1.mono (by simp)).trans (H2.out.2.2.mono (by simp))).trans (hx.2.mono (by simp))⟩
  · by_cases h5 : se = 5
    · subst h5
      have hG : gotOf (sd, 5) x r S = ⟨true, S.tick, S.infos, r, S.got⟩ := by simp [gotOf, hw0]
      clear d0
      go_wp2_with fail
      · go_ret
        have hx := scan_shift hqB hgB hqB1 hgB1 hgq H0.out.2.1 (R := [f, c]) H1.out.2.1 (by simp; omega) H1.out.2.2.2 H1.out.2.2.1 (v' := .slice (some ⟨b2, off, none⟩) r.length 0) (r := r) (by
          rw [H0.out.2.2.2.2 (by assumption)]
          exact ⟨_, _, rfl, by simp [maxLen], Nat.le_refl _, (fun e => by cases e), fun i hi => by simp at hi⟩)
        exact ⟨rfl, hx.1, (H1.out.1.keep hx.2 (by simp; omega) (by simp; omega) (by simp; omega) (by simp; omega)), (H1.out.2.1.mono (by simp)).trans (hx.2.mono (by simp))⟩
      · go_ret
        have hx := scan_shift hqB hgB hqB1 hgB1 hgq H0.out.2.1 (R := [f, c]) H1.out.2.1 (by simp; omega) H1.out.2.2.2 H1.out.2.2.1 (v' := .slice (some ⟨b2, off + 1, none⟩) r.length (cap - 1)) (r := r) (H0.out.2.2.2.1 (by omega))
        exact ⟨rfl, hx.1, (H1.out.1.keep hx.2 (by simp; omega) (by simp; omega) (by simp; omega) (by simp; omega)), (H1.out.2.1.mono (by simp)).trans (hx.2.mono (by simp))⟩
    · have hb0 : (se == 0) = false := by simpa using h0
      have hb5 : (se == 5) = false := by simpa using h5
      have hG : gotOf (sd, se) x r S = S := by simp [gotOf, h0, h5]
      have hE : gotErr (sd, se) = se := by simp [gotErr, h0, h5]
      clear d0
      go_wp2_with fail
      go_ret
      refine ⟨by rw [hE]; try rfl, ?_, H1.out.1, H1.out.2.1.mono (by simp)⟩
      rw [hG]
      exact HS.out.keep H1.out.2.1 (by simp; omega)
end Go.Proofs.YtbndpegilpgheaaGreat

namespace Go.Proofs.YtbndpegilpgheaaGreat
open Go Go.RowKit

def GotPost (w : World) (S : ScanS) (e : Ending) (w' : World) : Prop :=
  e = .returned (.map (some w.heap.size)) ∧ MapAt w' w.heap.size (encMap Value.string S.got) ∧ Keeps [] w w'


set_option maxRecDepth 100000 in
set_option maxHeartbeats 1000000 in
theorem scanGot_spec {X : Nat} (w : World) (B q gb : Nat) (S : ScanS) (h : ScanAt X w B q gb S) : Calls Tryz.prog 111 #[.pointer (some ⟨q, 0, none⟩)] w (GotPost w S) := by
  obtain ⟨_, _, B1, vi, vw, _, _, h5, _, _, h8, _⟩ := h
  obtain ⟨E, clock, hm, hr, hp⟩ := h8
  have Hc := Lib.hid (AnyW.maps_Clone Tryz.cloneSS gb (E.map entry).toArray clock w hm)
  have H := Lib.hid (And.intro hr hp)
  have c5 := cells_at h5
  have l5 := lt_of_at h5
  clear h5 hm hr hp
  go_enter Tryz.func111, Tryz.ntmps111
  go_wp2_with fail
  refine Hc.out.mono ?_
  rintro e w1 ⟨rfl, rfl⟩
  go_wp2_with fail
  go_ret
  exact ⟨rfl, ⟨E, clock, heap_new w _, H.out.1, H.out.2⟩, (Keeps.refl [] w).alloc _⟩
end Go.Proofs.YtbndpegilpgheaaGreat

namespace Go.Proofs.YtbndpegilpgheaaGreat
open Go Go.RowKit

/-- append, where its run is known. -/
theorem wpList_append_run {P : Program} {ops : Array Oper} {rest : List Oper} {o : Oper} {a : Act} {w : World} {Q : Exit → Act → World → Prop} (hgd : o.guard = none) (s x : Operand) (t : TypeId)
    (ho : o.op = .call { callee := .builtin .append, args := #[s, x], argTypes := #[t, t] }) (v u : Value) (hs : a.eval s = v) (hx : a.eval x = u) (v' : Value) (w' : World)
    (hr : (Builtin.append_ #[t, t] o.type #[v, u]).run P w = .ok v' w') (h : wpList P ops Q rest (a.put o.dst v') w') : wpList P ops Q (o :: rest) a w := by
  refine wpList_plain hgd fun K hK => ?_
  unfold Oper.wp execOp
  simp only [ho, resolve, invoke, builtin, Sem.run_bind, Sem.run_pure, Result.andThen_ok, List.map_toArray, List.map_cons, List.map_nil, hs, hx, hr]
  exact hK _ _ h

def InfosPost (w : World) (S : ScanS) (e : Ending) (w' : World) : Prop :=
  ∃ v, e = .returned v ∧ SliceFrom w.heap.size 3 infoOf w' v S.infos ∧ Keeps [] w w'

set_option maxRecDepth 100000 in
set_option maxHeartbeats 1000000 in
/-- A copy of a slice of what a listing tells. -/
theorem infos_copy {B1 : Nat} {w : World} {v : Value} {L : List (ByteArray × Ob)} (h : SliceFrom B1 3 infoOf w v L) (hl : L.length ≤ 1000000000) :
    ∃ v' w', (Builtin.append_ #[57, 57] 57 #[.slice (some ⟨w.heap.size, 0, none⟩) 0 0, v]).run Tryz.prog (w.alloc (.cells #[] 128)) = .ok v' w' ∧
      SliceFrom w.heap.size 3 infoOf w' v' L ∧ Keeps [] w w' := by
  obtain ⟨ii, hii, hz0, hz1, hz2⟩ := info_parts infoInfo
  have hown : (w.alloc (.cells #[] 128)).ownsRow w.heap.size 128 3 (.slice (some ⟨w.heap.size, 0, none⟩) 0 0) 0 [] :=
    ⟨rfl, .inr ⟨w.heap.size, 0, #[], rfl, Nat.le_refl _, heap_new w _, Nat.le_refl _, by simp [maxLen], rfl, rfl⟩⟩
  have ka : Keeps [] w (w.alloc (.cells #[] 128)) := (Keeps.refl [] w).alloc _
  obtain ⟨ao, cap, rfl, h1, h2, h3, hx⟩ := h
  cases L with
  | nil =>
    cases ao with
    | none =>
      obtain rfl := h3 rfl
      exact ⟨_, _, run_append_owned_none (P := Tryz.prog) (w := w.alloc (.cells #[] 128)) w.heap.size 57 57 128 ii 3 Tryz.underlying57 hii _ 0 [] hown, sliceFrom_row (enc := infoOf) (size := 3) (fun _ => rfl) hown, ka⟩
    | some ad =>
      obtain ⟨v', w', hr, ho, hg, _⟩ := run_append_own (P := Tryz.prog) (w.alloc (.cells #[] 128)) w.heap.size 57 57 128 ii _ 3 32 Tryz.underlying57 hii hz0 hz1 hz2 rfl (by decide) _ 0 [] hown ad 0 cap [] (by simp) (fun j u hu => by simp at hu) (fun u hu => by cases hu) (by simp [maxLen]) (by simp) (by simp)
      exact ⟨v', w', hr, sliceFrom_row (enc := infoOf) (size := 3) (L := []) (fun _ => rfl) ho, keeps_grown ka hg (fun q hq => (hown.lt q hq).1)⟩
  | cons y L =>
    obtain ⟨b2, of2, rfl, hb, hlt, hc⟩ := hx 0 (by simp)
    obtain ⟨v', w', hr, ho, hg, _⟩ := run_append_own (P := Tryz.prog) (w.alloc (.cells #[] 128)) w.heap.size 57 57 128 ii _ 3 32 Tryz.underlying57 hii hz0 hz1 hz2 rfl (by decide) _ 0 [] hown ⟨b2, of2, none⟩ (y :: L).length cap ((y :: L).flatMap infoOf)
      (by induction (y :: L) with
          | nil => rfl
          | cons a l ih => simp only [List.flatMap_cons, List.length_append, ih, List.length_cons, infoOf, List.length_nil]; omega)
      (fun j u hu => by
        have hjl : j < (y :: L).length * 3 := by
          have hq := (List.getElem?_eq_some_iff.1 hu).1
          have hlen : ∀ l : List (ByteArray × Ob), (l.flatMap infoOf).length = l.length * 3 := fun l => by
            induction l with
            | nil => rfl
            | cons a l ih => simp only [List.flatMap_cons, List.length_append, ih, List.length_cons, infoOf, List.length_nil]; omega
          rwa [hlen] at hq
        have hk : j / 3 < (y :: L).length := by omega
        obtain ⟨b', o', e', _, hlt', hcell⟩ := hx (j / 3) hk
        injection e' with e'
        injection e' with e1 e2 _
        subst e1 e2
        have hr := hcell (j % 3) (by omega)
        rw [← flatMap_at infoOf 3 (fun _ => rfl) (y :: L) (j / 3) hk (j % 3) (by omega), show j / 3 * 3 + j % 3 = j from by omega, hu] at hr
        have hadd : (⟨b2, of2, none⟩ : Addr).add j = ⟨b2, of2 + j, none⟩ := by unfold Addr.add; split <;> simp_all
        rw [hadd]
        exact (ka.cell hlt (by simp)).trans hr)
      (fun u hu => by
        obtain ⟨p, _, hp⟩ := List.mem_flatMap.1 hu
        simp only [infoOf, List.mem_cons, List.not_mem_nil, or_false] at hp
        rcases hp with rfl | rfl | rfl <;> rfl)
      (by simp only [maxLen]; omega) (by omega) (by simp)
    rw [Nat.zero_add, List.nil_append] at ho
    exact ⟨v', w', hr, sliceFrom_row (enc := infoOf) (size := 3) (fun _ => rfl) ho, keeps_grown ka hg (fun q hq => (hown.lt q hq).1)⟩


set_option maxRecDepth 100000 in
set_option maxHeartbeats 1000000 in
theorem scanInfos_spec {X : Nat} (w : World) (B q gb : Nat) (S : ScanS) (h : ScanAt X w B q gb S) (hl : S.infos.length ≤ 1000000000) : Calls Tryz.prog 67 #[.pointer (some ⟨q, 0, none⟩)] w (InfosPost w S) := by
  obtain ⟨_, _, B1, vi, vw, _, _, h5, h6, _, _, _⟩ := h
  obtain ⟨v', w', hr, hs, hk⟩ := infos_copy h6 hl
  have H := Lib.hid (And.intro hs hk)
  have Hr := Lib.hid hr
  clear hr
  have c5 := cells_at ((((Keeps.refl [] w).alloc (.cells #[] 128)).at_ h5 (by simp)))
  have l5 := lt_of_at h5
  clear h5 h6 hs hk
  go_enter Tryz.func67, Tryz.ntmps67
  go_wp2_with (at_builtin; refine wpList_append_run rfl (.tmp 3) (.tmp 7) 57 rfl _ _ rfl rfl v' w' Hr.out ?_)
  go_ret
  exact ⟨v', rfl, H.out.1, H.out.2⟩
end Go.Proofs.YtbndpegilpgheaaGreat
