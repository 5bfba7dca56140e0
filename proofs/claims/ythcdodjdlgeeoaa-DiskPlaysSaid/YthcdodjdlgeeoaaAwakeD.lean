/-
  The disk's answers that the document fixes: awake of package barographlaw04 answers true.
  It holds in every world.
-/
import Derived.Test.YthcdodjdlgeeoaaDiskCrash
import Derived.Test.YthcdodjdlgeeoaaBucketAgain
namespace Go.Proofs.Ythcdodjdlgeeoaa
open Go Go.RowKit Go.Conc

def dA : ByteArray := ⟨#[97]⟩
def dXy : ByteArray := ⟨#[120, 121]⟩
def dZ1 : ByteArray := ⟨#[122, 49]⟩
def dQ : ByteArray := ⟨#[113]⟩
def dO1 : List (ByteArray × Ob) := [(dA, (dXy, 2))]
def dO2 : List (ByteArray × Ob) := [(dA, (⟨#[120, 121, 122, 49]⟩, 2))]
def dO3 : List (ByteArray × Ob) := [(dA, (⟨#[120, 121, 122]⟩, 3))]
def dO4 : List (ByteArray × Ob) := [(dA, (⟨#[120, 121, 122, 113]⟩, 3))]
theorem hasPre_any (n : ByteArray) : hasPre n ⟨#[]⟩ = true := by simp [hasPre, empty_size]; rfl
theorem names_one (n : ByteArray) (x : Ob) : names [(n, x)] ⟨#[]⟩ = [n] := by
  have h : sortedKeys [(n, x)] = [n] := List.perm_singleton.1 (sortB_perm _)
  rw [names, h]
  simp [hasPre_any]
theorem crashA : crashO [1] dO2 = dO3 := by
  unfold crashO dO2
  rw [names_one]
  decide +kernel
theorem sliceN_new {w : World} {t : TypeId} {g : Nat} {x : Int} {f : Nat × Nat} (h : w.heap[g]? = some (.cells #[.int .i64 x] t f)) : SliceArg 1 encN w (.slice (some ⟨g, 0, none⟩) 1 1) [x] := by
  refine ⟨_, 1, rfl, by simp [maxLen], fun i hi => ⟨g, 0, rfl, lt_of_at h, fun j hj => ?_⟩⟩
  obtain rfl : j = 0 := by omega
  obtain rfl : i = 0 := by simp at hi; omega
  rw [cells_at h]
  rfl

set_option maxRecDepth 100000 in
set_option maxHeartbeats 1000000 in
theorem awakeD_spec (w : World) :
    Calls Try.prog 27 #[] w fun e w' => e = .returned (.bool true) ∧ Keeps [] w w' := by
  go_enter Try.func27, Try.ntmps27
  go_wp2_with fail
  refine (newDisk_spec w 100 (by decide)).mono ?_
  rintro e w1 ⟨d, f, c, mb, rfl, hd1', hk1, l1, l2, l3, l4⟩
  have hd1 : DiskAt w1 d f c mb false [] 100 [] := hd1'
  clear hd1'
  have cd := cells_at hd1.cells
  go_wp2_with fail
  refine (append_spec w1 d f c mb _ _ _ _ hd1 dA dXy (by decide)).mono ?_
  rintro e w2 ⟨rfl, hd2', hk2⟩
  have hd2 : DiskAt w2 d f c mb false [] 100 [(dA, (dXy, 0))] := hd2'
  rw [show opErr (appR 100 [] dA dXy) [] = 0 from by decide +kernel]
  clear cd hd2'
  go_wp2_with fail
  refine (sync_spec w2 d f c mb _ _ _ _ hd2 dA).mono ?_
  rintro e w3 ⟨rfl, hd3', hk3⟩
  have hd3 : DiskAt w3 d f c mb false [] 100 dO1 := hd3'
  rw [show opErr (noneR [(dA, (dXy, 0))] dA) [] = 0 from by decide +kernel]
  clear hd3'
  go_wp2_with fail
  refine (append_spec w3 d f c mb _ _ _ _ hd3 dA dZ1 (by decide)).mono ?_
  rintro e w4 ⟨rfl, hd4', hk4⟩
  have hd4 : DiskAt w4 d f c mb false [] 100 dO2 := hd4'
  rw [show opErr (appR 100 dO1 dA dZ1) [] = 0 from by decide +kernel]
  clear hd4'
  go_wp2_with fail
  have hk5 : Keeps [] w4 (w4.alloc (.cells #[.int .i64 1] 3)) := (Keeps.refl [] w4).alloc _
  have hd5 := hd4.same hk5
  have hq5 := heap_new w4 (.cells #[.int .i64 1] 3)
  have hst : ∀ w', Keeps [f, c, mb, d] (w4.alloc (.cells #[.int .i64 1] 3)) w' → SliceArg 1 encN w' (.slice (some ⟨w4.heap.size, 0, none⟩) 1 1) [1] := by
    intro w' k
    obtain ⟨a1, a2, a3, a4⟩ := hd4.lt
    exact sliceN_new (k.at_ hq5 (by simp; omega))
  refine (crash_spec _ d f c mb _ _ _ _ hd5 _ [1] hst (by simp) (by decide) (by decide) (by decide)).mono ?_
  rintro e w6 ⟨rfl, hd6, hk6⟩
  rw [crashA] at hd6
  clear hst hq5 hd5
  go_wp2_with fail
  refine (read_spec w6 d f c mb _ _ _ _ hd6 dA).mono ?_
  rintro e w7 ⟨rfl, hk7⟩
  have hd7 := hd6.same hk7
  rw [show (obOr (look dO3 dA)).1 = ⟨#[120, 121, 122]⟩ from rfl, show (look dO3 dA).isSome = true from rfl]
  have cd := cells_at hd7.cells
  go_wp2_with fail
  refine (arm_ok w7 f c _ _ 0 true (by decide) hd7.fuse (by decide)).mono ?_
  rintro e w8 ⟨rfl, hq8, hk8⟩
  have hd8 : DiskAt w8 d f c mb false [(0, true)] 100 dO3 := hd7.tried hk8 hq8
  clear cd hq8
  go_wp2_with fail
  refine (append_spec w8 d f c mb _ _ _ _ hd8 dA dQ (by decide)).mono ?_
  rintro e w9 ⟨rfl, hd9', hk9⟩
  have hd9 : DiskAt w9 d f c mb false [] 100 dO4 := hd9'
  rw [show opErr (appR 100 dO3 dA dQ) [(0, true)] = 8 from by decide +kernel]
  clear hd9'
  go_wp2_with fail
  refine (read_spec w9 d f c mb _ _ _ _ hd9 dA).mono ?_
  rintro e w10 ⟨rfl, hk10⟩
  have hd10 := hd9.same hk10
  rw [show (obOr (look dO4 dA)).1 = ⟨#[120, 121, 122, 113]⟩ from rfl, show (look dO4 dA).isSome = true from rfl]
  go_wp2_with fail
  refine (used_spec w10 d f c mb _ _ _ _ hd10).mono ?_
  rintro e w11 ⟨rfl, rfl⟩
  rw [show (used dO4 : Int) = 4 from by decide +kernel]
  go_wp2_with fail
  go_ret
  refine ⟨rfl, ?_⟩
  have k1 := hk1.after hk2 (by simp; omega)
  have k2 := (k1.after hk3 (by simp; omega)).after hk4 (by simp; omega)
  have k3 := ((k2.trans hk5).after hk6 (by simp; omega)).trans hk7
  have k4 := (k3.after hk8 (by simp; omega)).after hk9 (by simp; omega)
  exact k4.trans hk10

end Go.Proofs.Ythcdodjdlgeeoaa
