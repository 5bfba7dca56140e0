/-
  What the test notes of a bucket's objects (law 22): note: when the first object of each block was put.
  Names are short, ticks small, the objects few.
-/
import Derived.Test.YtbndpegilpgheaaGreatDelLook
namespace Go.Proofs.YtbndpegilpgheaaGreat
open Go Go.RowKit Go.Conc Go.Maps

structure NoteS (now : Int) (H : PartsM) (D : Bkt) (H' : PartsM) : Prop where
  keep : ∀ id t, look H id = some t → ∃ t', look H' id = some t' ∧ t' ≤ t
  seen : ∀ p ∈ D, ∀ id part, splitL p.1.data.toList = some (id, part) → ∃ t', look H' ⟨id.toArray⟩ = some t' ∧ t' ≤ p.2.2
  hb : ∀ id t, look H' id = some t → 0 ≤ t ∧ t ≤ now

theorem noteS_nil {now : Int} {H : PartsM} (hb : ∀ id t, look H id = some t → 0 ≤ t ∧ t ≤ now) : NoteS now H [] H := ⟨fun _ t h => ⟨t, h, Int.le_refl _⟩, by simp, hb⟩

theorem NoteS.none {now : Int} {H H' : PartsM} {D : Bkt} (h : NoteS now H D H') {p : ByteArray × Ob} (hs : splitL p.1.data.toList = none) : NoteS now H (D ++ [p]) H' := by
  refine ⟨h.keep, fun q hq id part hp => ?_, h.hb⟩
  rcases List.mem_append.1 hq with hq | hq
  · exact h.seen q hq id part hp
  · simp only [List.mem_singleton] at hq
    subst hq
    rw [hs] at hp
    cases hp

theorem NoteS.old {now : Int} {H H' : PartsM} {D : Bkt} (h : NoteS now H D H') {p : ByteArray × Ob} {id part : List UInt8} (hs : splitL p.1.data.toList = some (id, part)) {t : Int} (hl : look H' ⟨id.toArray⟩ = some t) (ht : ¬ p.2.2 < t) : NoteS now H (D ++ [p]) H' := by
  refine ⟨h.keep, fun q hq id' part' hp => ?_, h.hb⟩
  rcases List.mem_append.1 hq with hq | hq
  · exact h.seen q hq id' part' hp
  · simp only [List.mem_singleton] at hq
    subst hq
    rw [hs] at hp
    simp only [Option.some.injEq, Prod.mk.injEq] at hp
    obtain ⟨rfl, rfl⟩ := hp
    exact ⟨t, hl, by omega⟩

theorem NoteS.new {now : Int} {H H' : PartsM} {D : Bkt} (h : NoteS now H D H') {p : ByteArray × Ob} {id part : List UInt8} (hs : splitL p.1.data.toList = some (id, part)) (hl : ∀ t, look H' ⟨id.toArray⟩ = some t → p.2.2 < t) (h0 : 0 ≤ p.2.2) (h1 : p.2.2 ≤ now) :
    NoteS now H (D ++ [p]) (put H' ⟨id.toArray⟩ p.2.2) := by
  have low : ∀ i t, look H' i = some t → ∃ t', look (put H' ⟨id.toArray⟩ p.2.2) i = some t' ∧ t' ≤ t := by
    intro i t hi
    rw [look_put]
    split
    · rename_i e
      subst e
      exact ⟨_, rfl, Int.le_of_lt (hl t hi)⟩
    · exact ⟨t, hi, Int.le_refl _⟩
  refine ⟨fun i t hi => ?_, fun q hq id' part' hp => ?_, fun i t hi => ?_⟩
  · obtain ⟨t1, a1, a2⟩ := h.keep i t hi
    obtain ⟨t2, b1, b2⟩ := low i t1 a1
    exact ⟨t2, b1, by omega⟩
  · rcases List.mem_append.1 hq with hq | hq
    · obtain ⟨t1, a1, a2⟩ := h.seen q hq id' part' hp
      obtain ⟨t2, b1, b2⟩ := low _ t1 a1
      exact ⟨t2, b1, by omega⟩
    · simp only [List.mem_singleton] at hq
      subst hq
      rw [hs] at hp
      simp only [Option.some.injEq, Prod.mk.injEq] at hp
      obtain ⟨rfl, rfl⟩ := hp
      exact ⟨q.2.2, by rw [look_put, if_pos rfl], Int.le_refl _⟩
  · rw [look_put] at hi
    split at hi
    · injection hi with hi
      omega
    · exact h.hb i t hi

/-- All of a bucket was seen. -/
theorem NoteS.all {now : Int} {H H' : PartsM} {L D : Bkt} (h : NoteS now H D H') (hp : L.Perm D) : NoteP now H L H' := by
  refine ⟨h.keep, fun id part hi hpp x hx => ?_, h.hb⟩
  obtain ⟨t', a1, a2⟩ := h.seen _ (hp.mem_iff.1 (look_mem hx)) _ _ (object_split hi hpp)
  rw [show (⟨id.data.toList.toArray⟩ : ByteArray) = id from ba_mk id] at a1
  exact ⟨t', a1, a2⟩

def strAt : Option Value → ByteArray
  | some (.string s) => s
  | _ => ⟨#[]⟩

def intAt : Option Value → Int
  | some (.int _ n) => n
  | _ => 0

def decT : Value → Ob
  | .agg a => (strAt a[1]?, intAt a[0]?)
  | _ => (⟨#[]⟩, 0)

theorem decT_enc (x : Ob) : decT (encT x) = x := rfl

theorem encT_perm {L D : Bkt} (h : (encMap encT L).Perm (encMap encT D)) : L.Perm D := by
  have := h.map fun p : ByteArray × Value => (p.1, decT p.2)
  simpa [encMap, decT_enc, Function.comp_def] using this


def NotePost (w : World) (mo : Nat) (now : Int) (H : PartsM) (L : Bkt) (e : Ending) (w' : World) : Prop :=
  e = .returned (.tuple #[]) ∧ ∃ H', MapAt w' mo (encMap encI H') ∧ NoteP now H L H' ∧ Keeps [mo] w w'

def NoteRel (w : World) (ml r mo : Nat) (now : Int) (H : PartsM) (L : Bkt) (gk : Nat) (wr : World) : Prop :=
  ∃ (D : Bkt) (H' : PartsM), Ranging Tryz.prog 9 wr ml r (encMap encT L) (encMap encT D) gk ∧ MapAt wr mo (encMap encI H') ∧ NoteS now H D H' ∧ Keeps [mo] w wr


set_option linter.unusedSimpArgs false in
set_option maxRecDepth 100000 in
set_option maxHeartbeats 1000000 in
theorem note_spec (w : World) (hv : LibVar w) (mo ml : Nat) (H : PartsM) (L : Bkt) (now : Int) (hO : MapAt w mo (encMap encI H)) (hL : MapAt w ml (encMap encT L)) (hne : mo ≠ ml) (hvm : 0 ≠ mo) (hk : ∀ p ∈ L, p.1.size ≤ 40 ∧ 0 ≤ p.2.2 ∧ p.2.2 ≤ now) (hl : L.length ≤ 1000)
    (hb : ∀ id t, look H id = some t → 0 ≤ t ∧ t ≤ now) : Calls Tryz.prog 23 #[.map (some mo), .map (some ml)] w (NotePost w mo now H L) := by
  have z3 : ∀ x ∈ encMap encT L, x.1.size ≤ maxLen := by
    intro x hx
    obtain ⟨x, c⟩ := x
    obtain ⟨n, _, hn⟩ := mem_enc hx
    have := (hk _ hn).1
    simp only at this ⊢
    unfold maxLen; omega
  have z4 : (encMap encT L).length ≤ maxLen := by simp only [encMap, List.length_map, maxLen]; omega
  have hmo := hO.lt
  have H0 := Lib.hid (And.intro hv (And.intro hO (And.intro hk hb)))
  clear hv hO hk hl hb
  go_enter Tryz.func23, Tryz.ntmps23
  go_wp2_with (at_range; refine wpList_range_map rfl _ _ rfl 75 Tryz.underlying70 Tryz.underlying9 ml _ rfl hL z3 z4 ?_; intro w0 cnt hrg0 hk0)
  clear z3 z4
  go_frame
  have hmr : mo ≠ w.heap.size := by omega
  have hml : ml ≠ w.heap.size := by have := hL.lt; omega
  obtain ⟨r, hr⟩ : ∃ n, n = w.heap.size := ⟨_, rfl⟩
  have hle : w.heap.size ≤ r := by omega
  rw [← hr] at hrg0 hmr hml ⊢
  have H1 := Lib.hid (And.intro hrg0 (And.intro (H0.out.2.1.keep hk0 (by simp)) (hk0.mono (by simp) : Keeps [mo] w w0)))
  clear hrg0 hk0 hr hL
  go_loopg [] cnt (NoteRel w ml r mo now H L)
  case atStart => exact ⟨[], H, H1.out.1, H1.out.2.1, noteS_nil H0.out.2.2.2, H1.out.2.2⟩
  case round =>
    obtain ⟨D, H', hrg, hm, hsay, hkr⟩ := hrel
    clear H1
    have Hd := Lib.hid (And.intro hm (And.intro hsay hkr))
    clear hm hsay hkr
    go_wp2_with (at_next; refine wpList_next_map rfl _ rfl Tryz.underlying9 ml r _ _ _ rfl hrg ?_ ?_)
    · intro hperm
      have He := Lib.hid (encT_perm hperm)
      clear hperm hrg
      go_wp2_with fail
      exact bodyPost_ret (v := .tuple #[]) (by simp [results, Tryz.results23, go_sem]) rfl ⟨rfl, H', Hd.out.1, Hd.out.2.1.all He.out, Hd.out.2.2⟩
    · intro x c w1 cnt1 hmem hnin hxs hrg1 hlt hk1 hen
      obtain ⟨ob, rfl, hdm⟩ := mem_enc hmem
      obtain ⟨hx40, ht0, ht1⟩ := H0.out.2.2.1 _ hdm
      simp only at hx40 ht0 ht1
      rw [enc_snoc] at hrg1
      obtain ⟨dt, tk⟩ := ob
      simp only at ht0 ht1
      have hk1' : Keeps [mo] w w1 := Hd.out.2.2.after hk1 (fun q hq => .inr (by simp only [List.mem_singleton] at hq; omega))
      have hm1 := Hd.out.1.keep hk1 (by simpa using hmr)
      have hv1 : LibVar w1 := H0.out.1.keep hk1' (by simpa using hvm)
      have H1 := Lib.hid (And.intro hrg1 (And.intro hm1 (And.intro hk1' (And.intro hv1 (And.intro hlt Hd.out.2.1)))))
      clear hmem hnin hxs hrg1 hlt hk1 hdm hk1' hm1 hrg hv1 Hd
      simp only [encT] at hen ⊢
      have ka : Keeps [] w1 (w1.alloc (.cells #[.int .i64 tk, .string dt] 75)) := (Keeps.refl [] w1).alloc _
      have Ka := Lib.hid ka
      clear ka
      go_wp2_with fail
      refine (split_spec _ (H1.out.2.2.2.1.same Ka.out) x (by omega)).mono ?_
      rintro e w3 ⟨rfl, hk3⟩
      have n3 := hk3.at_ (heap_new w1 (.cells #[.int .i64 tk, .string dt] 75)) (by simp)
      have k13 := Ka.out.trans hk3
      have hm3 := H1.out.2.1.keep k13 (by simp)
      have H3 := Lib.hid (And.intro (H1.out.1.keep k13 (by simp) (by simp)) (And.intro hm3 (H1.out.2.2.1.trans (k13.mono (by simp)))))
      have c3 := cells_at n3
      have l3 := lt_of_at n3
      clear hk3 k13 hen n3 Ka
      generalize w1.heap.size = bx at c3 l3 ⊢
      cases hS : splitL x.data.toList with
      | none =>
        have Hs := Lib.hid (H1.out.2.2.2.2.2.none (p := (x, (dt, tk))) hS)
        have hl := hm3.run_lookup (P := Tryz.prog) Tryz.underlying30 Tryz.underlying9 (zeroInt _) ⟨#[]⟩ true
        rw [lookVal_int2] at hl
        clear hS hm3
        simp only [splitVals]
        go_wp2_with fail
        go_roundg cnt1
        case measure => exact H1.out.2.2.2.2.1
        case rel => exact ⟨D ++ [(x, (dt, tk))], H', H3.out.1, H3.out.2.1, Hs.out, H3.out.2.2⟩
      | some ab =>
        obtain ⟨a, q⟩ := ab
        have HS := Lib.hid hS
        clear hS
        obtain ⟨xa, hxa⟩ : ∃ s : ByteArray, s = ⟨a.toArray⟩ := ⟨_, rfl⟩
        obtain ⟨xb, hxb⟩ : ∃ s : ByteArray, s = ⟨q.toArray⟩ := ⟨_, rfl⟩
        simp only [splitVals]
        rw [← hxa, ← hxb]
        have Hxa := Lib.hid hxa
        clear hxa hxb
        have hl := hm3.run_lookup (P := Tryz.prog) Tryz.underlying30 Tryz.underlying9 (zeroInt _) xa true
        rw [lookVal_int2] at hl
        clear hm3
        cases hlk : look H' xa with
        | none =>
          rw [hlk] at hl
          simp only [Option.getD_none, Option.isSome_none] at hl
          have Hs := Lib.hid (H1.out.2.2.2.2.2.new (p := (x, (dt, tk))) HS.out (by rw [← Hxa.out, hlk]; intro t h; cases h) ht0 ht1)
          rw [← Hxa.out] at Hs
          clear hlk
          go_wp2_with (refine wpList_update_str _ rfl (.tmp 41) (.tmp 42) (.tmp 44) _ _ _ rfl Tryz.underlying30 Tryz.underlying9 mo (encMap encI H') xa (encI tk) (by rfl) (by rfl) (by rfl) H3.out.2.1 ?_; intro w5 hm5 hk5)
          rw [put_enc] at hm5
          have H5 := Lib.hid (And.intro hm5 (And.intro (H3.out.1.keep hk5 (by simp only [List.mem_singleton]; omega) (by simp only [List.mem_singleton]; omega)) (H3.out.2.2.trans hk5)))
          clear hm5 hk5
          go_wp2_with fail
          go_roundg cnt1
          case measure => exact H1.out.2.2.2.2.1
          case rel => exact ⟨D ++ [(x, (dt, tk))], _, H5.out.2.1, H5.out.1, Hs.out, H5.out.2.2⟩
        | some t0 =>
          rw [hlk] at hl
          simp only [Option.getD_some, Option.isSome_some] at hl
          by_cases hlt : tk < t0
          · have Hs := Lib.hid (H1.out.2.2.2.2.2.new (p := (x, (dt, tk))) HS.out (by rw [← Hxa.out, hlk]; intro t h; injection h with h; rw [← h]; exact hlt) ht0 ht1)
            rw [← Hxa.out] at Hs
            clear hlk
            go_wp2_with (refine wpList_update_str _ rfl (.tmp 41) (.tmp 42) (.tmp 44) _ _ _ rfl Tryz.underlying30 Tryz.underlying9 mo (encMap encI H') xa (encI tk) (by rfl) (by rfl) (by rfl) H3.out.2.1 ?_; intro w5 hm5 hk5)
            rw [put_enc] at hm5
            have H5 := Lib.hid (And.intro hm5 (And.intro (H3.out.1.keep hk5 (by simp only [List.mem_singleton]; omega) (by simp only [List.mem_singleton]; omega)) (H3.out.2.2.trans hk5)))
            clear hm5 hk5
            go_wp2_with fail
            go_roundg cnt1
            case measure => exact H1.out.2.2.2.2.1
            case rel => exact ⟨D ++ [(x, (dt, tk))], _, H5.out.2.1, H5.out.1, Hs.out, H5.out.2.2⟩
          · have Hs := Lib.hid (H1.out.2.2.2.2.2.old (p := (x, (dt, tk))) HS.out (by rw [← Hxa.out]; exact hlk) hlt)
            clear hlk
            go_wp2_with fail
            go_roundg cnt1
            case measure => exact H1.out.2.2.2.2.1
            case rel => exact ⟨D ++ [(x, (dt, tk))], H', H3.out.1, H3.out.2.1, Hs.out, H3.out.2.2⟩
end Go.Proofs.YtbndpegilpgheaaGreat
