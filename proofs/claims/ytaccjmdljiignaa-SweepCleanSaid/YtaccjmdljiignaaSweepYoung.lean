/-
  SweepYoung answers true for all lists of objects and every tick, and leaves all memory that was there as it was.
  No condition: every input that can be read.
-/
import Derived.Test.YtaccjmdljiignaaSweepAwake
namespace Go.Proofs.Ytaccjmdljiignaa
open Go Go.RowKit Go.Conc

theorem Parted.mono {o : Bkt} {k k' : Nat} (h : Parted o k) (hk : k ≤ k') : Parted o k' := ⟨h.nodup, Nat.le_trans h.len hk, h.obj, h.mark⟩

theorem fill15 (L : List OneS) : FillInv (fillS (L.take 15)) 15 := by
  have h := fillInv (L.take 15) (L.take 15).length (Nat.le_refl _)
  rw [List.take_length] at h
  have hl : (L.take 15).length ≤ 15 := by rw [List.length_take]; omega
  exact ⟨h.parted.mono hl, h.marks, h.mnodup⟩

theorem look_parted {w : World} {b f c mb : Nat} {o : Bkt} {k : Nat} (h : BucketAt w b f c mb false [] o) (hP : Parted o k) (hk : k ≤ 1000) :
    Calls Try.prog 39 #[.pointer (some ⟨b, 0, none⟩), .string ⟨#[]⟩] w fun e w' => ∃ v, e = .returned v ∧ SliceFrom w.heap.size 3 infoOf w' v (listing o ⟨#[]⟩) ∧ Keeps [] w w' := by
  refine (look_spec w b f c mb false [] o h ⟨#[]⟩ (fun p hp => by have := hP.key p hp; unfold maxLen; omega) (fun n => by have := hP.data n; omega) (by have := hP.len; omega)).mono ?_
  rintro e w' ⟨v, rfl, hrow, hk⟩
  exact ⟨v, rfl, sliceFrom_row (e := 87) (fun _ => rfl) hrow, hk⟩


set_option linter.unusedSimpArgs false in
set_option maxRecDepth 100000 in
set_option maxHeartbeats 1000000 in
theorem sweepYoung_walk (w : World) (hv : LibVar w) (v : Value) (L : List OneS) (hL : SliceArg 6 encOne w v L) (now : Int) :
    Calls Try.prog 7 #[v, .int .i64 now] w fun e w' => e = .returned (.bool true) ∧ Keeps [] w w' := by
  have q1 := i64_and31 now
  obtain ⟨n, hn, hn3⟩ : ∃ n : Nat, now % 32 = (n : Int) ∧ n ≤ 31 := ⟨(now % 32).toNat, by omega, by omega⟩
  rw [hn] at q1
  have HL := Lib.hid hL
  have Haw := Lib.hid (awake22_spec w hv)
  have hI := fill15 L
  clear hL hn
  generalize hS : fillS (L.take 15) = S at hI
  have HS := Lib.hid hS
  have hP := hI.parted
  have hV := victR_young hP (now := n) (p := 9) (by omega)
  have HP := Lib.hid (And.intro hP (And.intro hV hv))
  clear hS hI hP hV hv
  go_enter Try.func7, Try.ntmps7
  go_wp2_with fail
  refine Haw.out.mono ?_
  rintro e w1 ⟨rfl, hk1⟩
  have Hf := Lib.hid (filled_spec w1 v L (HL.out.keep hk1))
  have H1 := Lib.hid hk1
  clear hk1
  go_wp2_with fail
  refine Hf.out.mono ?_
  rintro e w2 ⟨b, f, c, mb, mm, rfl, hb2, hm2, hk2, l1, l2, l3, l4, l5⟩
  rw [HS.out] at hb2
  have hw1 : w.heap.size ≤ w1.heap.size := H1.out.size
  have H2 := Lib.hid (And.intro hb2 (H1.out.trans hk2))
  have Hlk := Lib.hid (look_parted hb2 HP.out.1 (by decide))
  have hlt := hb2.lt
  clear hb2 hm2 hk2 H1 Hf
  go_wp2_with fail
  refine Hlk.out.mono ?_
  rintro e w3 ⟨v3, rfl, hs3, hk3⟩
  have hs3' := hs3
  obtain ⟨a3, c3, rfl, x31, x32, -, -⟩ := hs3'
  have hll := listing_len S.1
  rw [hll] at x31 x32
  have hlP := HP.out.1.len
  have H3 := Lib.hid (And.intro (hk3.keep_bucket H2.out.1) (H2.out.2.trans hk3))
  have hw3 : w2.heap.size ≤ w3.heap.size := hk3.size
  rw [hll]
  clear hs3 hk3 hll
  have Hn := Lib.hid (sweepNew_spec w3 (31, 31, 9))
  go_wp2_with fail
  refine Hn.out.mono ?_
  rintro e w4 ⟨p, q, gb, rfl, hz4, hk4⟩
  have hlow : b < w3.heap.size ∧ f < w3.heap.size ∧ c < w3.heap.size ∧ mb < w3.heap.size := H3.out.1.lt
  have Hr := Lib.hid (round_spec w w4 b f c mb w3.heap.size p q gb 15 S.1 ⟨(31, 31, 9), scan0, [], false, 0⟩ n (hk4.keep_bucket H3.out.1) hz4 hlow (by omega) (H3.out.2.trans hk4) HP.out.2.2 HP.out.1 (by decide) (by omega) (by decide) (by decide))
  clear hz4 hk4
  go_wp2_with fail
  refine Hr.out.mono ?_
  rintro e w5 ⟨m, rfl, q5, gb5, hz5, hb5, hk5, -⟩
  have hm0 : ¬ ((m : Int) < 0) := by omega
  rw [HP.out.2.1] at hz5 hb5
  have hb5' : BucketAt w5 b f c mb false [] S.1 := hb5
  have Hlk5 := Lib.hid (look_parted hb5' HP.out.1 (by decide))
  have H5 := Lib.hid (And.intro hz5 (And.intro hb5' hk5))
  clear hz5 hb5 hb5' hk5 Hr Hn
  go_wp2_with fail
  refine Hlk5.out.mono ?_
  rintro e w6 ⟨v6, rfl, hs6, hk6⟩
  obtain ⟨a6, c6, rfl, -, -, -, -⟩ := hs6
  rw [listing_len S.1]
  have hz6 := H5.out.1.keep hk6 (by simp)
  have Hg := Lib.hid (sweepGone_spec w6 w3.heap.size p q5 gb5 _ hz6)
  have Hst := Lib.hid (sweepStep_idle w6 b f c mb w3.heap.size p q5 gb5 false [] S.1 _ n (hk6.keep_bucket H5.out.2.1) hz6 (by simp [stC, HP.out.2.1]))
  have hB : w3.heap.size ≤ p ∧ w3.heap.size ≤ q5 ∧ w3.heap.size ≤ gb5 := by
    obtain ⟨h1, _, _, _, _, _, _, _, _, _, h8⟩ := hz6
    exact ⟨h1, h8.1, h8.2.1⟩
  have H6 := Lib.hid (H5.out.2.2.trans hk6)
  clear hz6 hk6
  go_wp2_with fail
  refine Hg.out.mono ?_
  rintro e w7 ⟨rfl, rfl⟩
  simp only [stC, HP.out.2.1, List.length_nil, Int.natCast_zero, Int.add_zero]
  go_wp2_with fail
  refine Hst.out.mono ?_
  rintro e w7 ⟨rfl, -, -, hk7⟩
  have HE := Lib.hid (show Keeps [] w w7 from H6.out.after hk7 (fun y hy => .inr (by
    simp only [List.mem_cons, List.not_mem_nil, or_false] at hy
    omega)))
  clear hk7
  go_wp2_with fail
  go_ret
  exact ⟨rfl, HE.out⟩
end Go.Proofs.Ytaccjmdljiignaa
