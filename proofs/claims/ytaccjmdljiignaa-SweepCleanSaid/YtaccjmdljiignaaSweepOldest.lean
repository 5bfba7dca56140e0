/-
  When the first part of a block was put (package sweep): oldest.
  Ticks are not below 0.
-/
import Derived.Test.YtaccjmdljiignaaSweepLaw
import Derived.Test.YtaccjmdljiignaaMapInt
namespace Go.Proofs.Ytaccjmdljiignaa
open Go Go.RowKit Go.Conc Go.Maps

def ticksOf (done : KV) : List Int := done.map fun q => intOf q.2

theorem ticks_enc (p : PartsM) : ticksOf (encMap encI p) = p.map (·.2) := by
  unfold ticksOf encMap
  rw [List.map_map]
  rfl

theorem ticks_perm {p : PartsM} {done : KV} (h : (encMap encI p).Perm done) : leastL (ticksOf done) = leastL (p.map (·.2)) := by
  rw [← ticks_enc]
  exact (leastL_perm (h.map _)).symm

theorem mem_enc {α : Type} {enc : α → Value} {p : List (ByteArray × α)} {x : ByteArray} {c : Value} (h : (x, c) ∈ encMap enc p) : ∃ n, c = enc n ∧ (x, n) ∈ p := by
  simp only [encMap, List.mem_map, Prod.mk.injEq] at h
  obtain ⟨q, hq, rfl, rfl⟩ := h
  exact ⟨q.2, rfl, hq⟩

def OldRel (w : World) (b r : Nat) (p : PartsM) (gk : Nat) (u : Value) (wr : World) : Prop :=
  ∃ done : KV, Ranging Try.prog 9 wr b r (encMap encI p) done gk ∧ (∀ x ∈ ticksOf done, 0 ≤ x ∧ x ≤ 9223372036854775807) ∧ u = .int .i64 (leastL (ticksOf done)) ∧ Keeps [] w wr


set_option linter.unusedSimpArgs false in
set_option maxRecDepth 100000 in
set_option maxHeartbeats 1000000 in
theorem oldest_spec (w : World) (b : Nat) (p : PartsM) (h : MapAt w b (encMap encI p)) (hp : ∀ q ∈ p, 0 ≤ q.2 ∧ q.2 ≤ 9223372036854775807) (hk : ∀ q ∈ p, q.1.size ≤ 40) (hl : p.length ≤ 1000) :
    Calls Try.prog 99 #[.map (some b)] w fun e w' => e = .returned (.int .i64 (leastL (p.map (·.2)))) ∧ Keeps [] w w' := by
  have z3 : ∀ q ∈ encMap encI p, q.1.size ≤ maxLen := by
    intro q hq
    obtain ⟨x, c⟩ := q
    obtain ⟨n, _, hn⟩ := mem_enc hq
    have := hk _ hn
    simp only at this ⊢
    unfold maxLen; omega
  have z4 : (encMap encI p).length ≤ maxLen := by simp only [encMap, List.length_map, maxLen]; omega
  have Hp := Lib.hid hp
  have Hd := Lib.hid (fun done => ticks_perm (p := p) (done := done))
  clear hp hk hl
  go_enter Try.func99, Try.ntmps99
  go_wp2_with (at_range; refine wpList_range_map rfl _ _ rfl 3 Try.underlying170 Try.underlying9 b _ rfl h z3 z4 ?_; intro w0 cnt hrg0 hk0)
  clear z3 z4
  go_frame
  go_loopg [3] cnt (OldRel w b w.heap.size p)
  case atStart => exact ⟨[], hrg0, by simp [ticksOf], rfl, hk0⟩
  case round =>
    obtain ⟨done, hrg, hall, rfl, hkr⟩ := hrel
    clear hrg0 hk0
    have Ha := Lib.hid (And.intro hall (leastL_step (ticksOf done)))
    clear hall
    go_wp2_with (at_next; refine wpList_next_map rfl _ rfl Try.underlying9 b w.heap.size _ done _ rfl hrg ?_ ?_)
    · intro hperm
      have e := Hd.out done hperm
      have Hk := Lib.hid (And.intro e hkr)
      clear hperm hrg hkr e
      go_wp2_with fail
      go_ret
      exact ⟨by first | (rw [Hk.out.1]; rfl) | rfl, Hk.out.2⟩
    · intro x c w1 cnt1 hmem hnin hxs hrg1 hlt hk1 hen
      obtain ⟨n, rfl, hn⟩ := mem_enc hmem
      simp only [encI] at hen hrg1 ⊢
      obtain ⟨hn0, hn1⟩ := Hp.out _ hn
      simp only at hn0 hn1
      have hst := Ha.out.2 n (fun x hx => (Ha.out.1 x hx).1)
      have hall' : ∀ y ∈ ticksOf (done ++ [(x, Value.int .i64 n)]), 0 ≤ y ∧ y ≤ 9223372036854775807 := by
        intro y hy
        unfold ticksOf at hy
        rw [List.map_append] at hy
        rcases List.mem_append.1 hy with hy | hy
        · exact Ha.out.1 y hy
        · simp [intOf] at hy
          omega
      have ht' : ticksOf (done ++ [(x, Value.int .i64 n)]) = ticksOf done ++ [n] := by simp [ticksOf, intOf]
      have H1 := Lib.hid (And.intro hrg1 (And.intro hall' (And.intro hlt (And.intro ((hkr.after hk1 (fun q hq => .inr (by simp at hq; omega))) : Keeps [] w w1) (ht'.trans rfl)))))
      have Hst := Lib.hid hst
      clear hmem hnin hrg1 hlt hk1 hkr hrg hn hst hall' ht'
      have hzb : -1 ≤ leastL (ticksOf done) ∧ leastL (ticksOf done) ≤ 9223372036854775807 := by
        by_cases hne : ticksOf done = []
        · rw [hne]; simp [leastL]
        · have := Ha.out.1 _ (leastL_mem hne)
          omega
      obtain ⟨hz1, hz2⟩ := hzb
      generalize hz : leastL (ticksOf done) = z at hz1 hz2 Hst ⊢
      clear hz Ha
      by_cases c1 : z < 0
      · go_wp2_with fail
        go_roundg cnt1
        case measure => exact H1.out.2.2.1
        case rel => exact ⟨_, H1.out.1, H1.out.2.1, by rw [H1.out.2.2.2.2, Hst.out, if_pos (.inl c1)], H1.out.2.2.2.1⟩
      · by_cases c2 : n < z
        · go_wp2_with fail
          go_roundg cnt1
          case measure => exact H1.out.2.2.1
          case rel => exact ⟨_, H1.out.1, H1.out.2.1, by rw [H1.out.2.2.2.2, Hst.out, if_pos (.inr c2)], H1.out.2.2.2.1⟩
        · go_wp2_with fail
          go_roundg cnt1
          case measure => exact H1.out.2.2.1
          case rel => exact ⟨_, H1.out.1, H1.out.2.1, by rw [H1.out.2.2.2.2, Hst.out, if_neg (by omega)], H1.out.2.2.2.1⟩
end Go.Proofs.Ytaccjmdljiignaa
