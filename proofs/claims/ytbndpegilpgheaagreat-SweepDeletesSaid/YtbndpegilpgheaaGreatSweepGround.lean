/-
  What the statements on sweeping ask: Config, Look of Filled's buckets, numbers' low bits; an argument of objects opened.
  No condition beyond those that each theorem states.
-/
import Derived.Test.YtbndpegilpgheaaGreatSweepFilled
import Derived.Test.YtbndpegilpgheaaGreatArgs
namespace Go.Proofs.YtbndpegilpgheaaGreat
section
open Go Go.RowKit Go.Conc
theorem i64_and127 (n : Int) : bits .and .i64 n 127 = n % 128 := by
  have h3 : (BitVec.ofInt 64 127).toNat = 2 ^ 7 - 1 := by decide
  have key : (BitVec.ofInt 64 n &&& BitVec.ofInt 64 127).toNat = (n % ((2 ^ 64 : Nat) : Int)).toNat % 2 ^ 7 := by
    rw [BitVec.toNat_and, BitVec.toNat_ofInt, h3, Nat.and_two_pow_sub_one_eq_mod]
  show IntKind.i64.wrap ((BitVec.ofInt 64 n &&& BitVec.ofInt 64 127).toNat : Nat) = n % 128
  rw [key, IntKind.wrap_i64]
  omega

theorem i64_and15 (n : Int) : bits .and .i64 n 15 = n % 16 := by
  have h3 : (BitVec.ofInt 64 15).toNat = 2 ^ 4 - 1 := by decide
  have key : (BitVec.ofInt 64 n &&& BitVec.ofInt 64 15).toNat = (n % ((2 ^ 64 : Nat) : Int)).toNat % 2 ^ 4 := by
    rw [BitVec.toNat_and, BitVec.toNat_ofInt, h3, Nat.and_two_pow_sub_one_eq_mod]
  show IntKind.i64.wrap ((BitVec.ofInt 64 n &&& BitVec.ofInt 64 15).toNat : Nat) = n % 16
  rw [key, IntKind.wrap_i64]
  omega

theorem i64_and1 (n : Int) : bits .and .i64 n 1 = n % 2 := by
  have h3 : (BitVec.ofInt 64 1).toNat = 2 ^ 1 - 1 := by decide
  have key : (BitVec.ofInt 64 n &&& BitVec.ofInt 64 1).toNat = (n % ((2 ^ 64 : Nat) : Int)).toNat % 2 ^ 1 := by
    rw [BitVec.toNat_and, BitVec.toNat_ofInt, h3, Nat.and_two_pow_sub_one_eq_mod]
  show IntKind.i64.wrap ((BitVec.ofInt 64 n &&& BitVec.ofInt 64 1).toNat : Nat) = n % 2
  rw [key, IntKind.wrap_i64]
  omega

theorem i64_and4 (n : Int) : bits .and .i64 n 4 = if n % 8 < 4 then 0 else 4 := by
  have h3 : (BitVec.ofInt 64 4).toNat = 4 := by decide
  have key : (BitVec.ofInt 64 n &&& BitVec.ofInt 64 4).toNat = (n % ((2 ^ 64 : Nat) : Int)).toNat &&& 4 := by
    rw [BitVec.toNat_and, BitVec.toNat_ofInt, h3]
  have k2 : ∀ m : Nat, m &&& 4 = if m % 8 < 4 then 0 else 4 := by
    intro m
    have e : m &&& 4 = (m % 8) &&& 4 := by
      have := Nat.and_two_pow_sub_one_eq_mod m 3
      rw [show m % 8 = m &&& 7 from this.symm, Nat.and_assoc]
      rfl
    rw [e]
    have : m % 8 < 8 := Nat.mod_lt _ (by omega)
    generalize m % 8 = r at *
    match r, this with
    | 0, _ | 1, _ | 2, _ | 3, _ | 4, _ | 5, _ | 6, _ | 7, _ => rfl
  show IntKind.i64.wrap ((BitVec.ofInt 64 n &&& BitVec.ofInt 64 4).toNat : Nat) = _
  rw [key, k2]
  have e8 : (n % ((2 ^ 64 : Nat) : Int)).toNat % 8 < 4 ↔ n % 8 < 4 := by omega
  simp only [e8]
  split <;> rfl

theorem Parted.mono {o : Bkt} {k k' : Nat} (h : Parted o k) (hk : k ≤ k') : Parted o k' := ⟨h.nodup, Nat.le_trans h.len hk, h.obj, h.mark⟩

theorem fill15 (L : List OneS) : FillInv (fillS (L.take 15)) 15 := by
  have h := fillInv (L.take 15) (L.take 15).length (Nat.le_refl _)
  rw [List.take_length] at h
  have hl : (L.take 15).length ≤ 15 := by rw [List.length_take]; omega
  exact ⟨h.parted.mono hl, h.marks, h.mnodup⟩

theorem look_parted {w : World} {b f c mb : Nat} {o : Bkt} {k : Nat} (h : BucketAt w b f c mb false [] o) (hP : Parted o k) (hk : k ≤ 1000) :
    Calls Tryz.prog 18 #[.pointer (some ⟨b, 0, none⟩), .string ⟨#[]⟩] w fun e w' => ∃ v, e = .returned v ∧ SliceFrom w.heap.size 3 infoOf w' v (listing o ⟨#[]⟩) ∧ Keeps [] w w' := by
  refine (look_spec w b f c mb false [] o h ⟨#[]⟩ (fun p hp => by have := hP.key p hp; unfold maxLen; omega) (fun n => by have := hP.data n; omega) (by have := hP.len; omega)).mono ?_
  rintro e w' ⟨v, rfl, hrow, hk⟩
  exact ⟨v, rfl, sliceFrom_row (e := 128) (fun _ => rfl) hrow, hk⟩


def CfgPost (w : World) (a b c : Int) (e : Ending) (w' : World) : Prop := e = .returned (.agg #[.int .i64 a, .int .i64 b, .int .i64 c]) ∧ Keeps [] w w'

set_option maxRecDepth 100000 in
set_option maxHeartbeats 1000000 in
theorem config_spec (w : World) (a b c : Int) : Calls Tryz.prog 15 #[.int .i64 a, .int .i64 b, .int .i64 c] w (CfgPost w (a % 32) (b % 32) (1 + c % 64)) := by
  have q1 := i64_and31 a
  have q2 := i64_and31 b
  have q3 := i64_and63 c
  obtain ⟨an, han, han3⟩ : ∃ n : Nat, a % 32 = (n : Int) ∧ n ≤ 31 := ⟨(a % 32).toNat, by omega, by omega⟩
  obtain ⟨bn, hbn, hbn3⟩ : ∃ n : Nat, b % 32 = (n : Int) ∧ n ≤ 31 := ⟨(b % 32).toNat, by omega, by omega⟩
  obtain ⟨cn, hcn, hcn3⟩ : ∃ n : Nat, c % 64 = (n : Int) ∧ n ≤ 63 := ⟨(c % 64).toNat, by omega, by omega⟩
  rw [han] at q1 ⊢
  rw [hbn] at q2 ⊢
  rw [hcn] at q3 ⊢
  clear han hbn hcn
  have hs : IntKind.i64.wrap (1 + (cn : Int)) = 1 + (cn : Int) := IntWalk.i64_in _ (by omega)
  go_enter Tryz.func15, Tryz.ntmps15
  go_wp2_with fail
  exact bodyPost_ret (v := .agg #[.int .i64 an, .int .i64 bn, .int .i64 (1 + (cn : Int))]) (by simp [results, Tryz.results15, go_sem]) rfl ⟨rfl, (Keeps.refl [] w).alloc _⟩

end
section
open Go Go.RowKit Go.Conc Go.ChangeShapes Go.WideShapes Go.Deep
set_option maxRecDepth 100000 in
theorem open_oneS {H : Type} {e0 : TypeId × Value → H} {W : World} {r : Reach} {b0 : Nat} {v : Value} {d : DataW H} {p : List MemPlace} (hok : Value.okWide Tryz.prog W r b0 45 v) (h : DataW.Trod e0 Tryz.prog W 0 (fun _ => true) true 45 v d p) :
    ∃ L : List OneS, SliceArg 6 encOne W v L ∧ ∀ x ∈ L, True := by
  refine open_structArg (fs := _) encOne (fun _ _ => True) Tryz.underlying45 Tryz.underlying125 (by kernel_rfl) (by kernel_rfl) (Nat.zero_lt_succ _) ?_ hok h
  intro us n hl hf
  obtain ⟨y0, u0, g0, h0⟩ := hf 0 _ rfl
  obtain ⟨y1, u1, g1, h1⟩ := hf 1 _ rfl
  obtain ⟨y2, u2, g2, h2⟩ := hf 2 _ rfl
  obtain ⟨y3, u3, g3, h3⟩ := hf 3 _ rfl
  obtain ⟨y4, u4, g4, h4⟩ := hf 4 _ rfl
  obtain ⟨y5, u5, g5, h5⟩ := hf 5 _ rfl
  obtain ⟨n0, e0', _, _⟩ := DataW.trod_int Tryz.underlying3 h0
  obtain ⟨n1, e1, _, _⟩ := DataW.trod_int Tryz.underlying3 h1
  obtain ⟨n2, e2, _, _⟩ := DataW.trod_int Tryz.underlying3 h2
  obtain ⟨n3, e3, _, _⟩ := DataW.trod_int Tryz.underlying3 h3
  obtain ⟨n4, e4, _, _⟩ := DataW.trod_int Tryz.underlying3 h4
  obtain ⟨b5, e5, _⟩ := DataW.trod_bool Tryz.underlying4 h5
  simp only [List.cons.injEq, and_true] at e0' e1 e2 e3 e4 e5
  subst e0' e1 e2 e3 e4 e5
  refine ⟨⟨n0, n1, n2, n3, n4, b5⟩, trivial, ?_⟩
  match us, hl with
  | [a0, a1, a2, a3, a4, a5], _ =>
    simp only [List.getElem?_cons_zero, List.getElem?_cons_succ, Option.some.injEq] at g0 g1 g2 g3 g4 g5
    subst g0 g1 g2 g3 g4 g5
    rfl

end
end Go.Proofs.YtbndpegilpgheaaGreat
