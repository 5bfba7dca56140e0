/-
  slices.Sorted(maps.Keys(m)) at a map of ints: the numbers, rising.
  The map's numbers are ints of 64 bits; they are at most 1000.
-/
import Derived.Test.YtgdkceeonnfejaaGreatDoorHeadG
import Derived.Test.YtgdkceeonnfejaaGreatDoorKeys
import Derived.Test.YtgdkceeonnfejaaGreatDoorShelfK
namespace Go.Proofs.YtgdkceeonnfejaaGreatDoor
set_option maxHeartbeats 2000000
open Go Go.RowKit Go.Maps Go.Sort
theorem MapAtN.owns {P : Program} {kt : TypeId} {w : World} {b : Nat} {m : KVN} (h : MapAtN w b m) (hk : P.underlying kt = some (.int .i64)) (hsz : ∀ p ∈ m, (Lit.int .i64 p.1).wf = true) (hl : m.length ≤ maxLen) :
  ∃ D : DataW Unit, w.ownsMap P kt anyR b m.length D ∧ (intKeys D).Perm (m.map (·.1)) ∧ Maps.size D = m.length := by
 obtain ⟨E, c, h1, h2, rfl⟩ := h
 have hlen : (pairsN E).length = E.length := by simp [pairsN]
 have hkey : ∀ t ∈ E, keyOf P kt (.int .i64 t.1) = some (.int .i64 t.1) := fun t ht => by
  have hw := hsz (t.1, t.2.1) (by simp only [pairsN, List.mem_map]; exact ⟨t, ht, rfl⟩)
  simp [keyOf, hk, mapKey, hw]
 have hrg : ∀ t ∈ E, Go.WideElems.rg P kt anyR (entryN t) = (.int .i64 t.1, .lit (.bool true)) := fun t ht => by
  simp [Go.WideElems.rg, Go.WideElems.rd, entryN, hkey t ht, anyR]
 refine ⟨_, ⟨_, c, h1, ⟨?_, ?_, ?_⟩, ?_, rfl⟩, ?_, ?_⟩
 ·simpa [hlen] using hl
 ·refine ⟨?_, ?_, ?_⟩
  ·intro x hx
   simp only [List.mem_map] at hx
   obtain ⟨t, ht, rfl⟩ := hx
   exact h2.lt t ht
  ·rw [List.map_map]
   rw [List.nodup_iff_pairwise_ne]
   exact List.pairwise_map.2 (h2.born.imp_of_mem fun _ _ hab => Nat.ne_of_lt hab)
  ·rw [List.map_map]
   have := h2.nodup
   refine List.pairwise_map.2 ?_
   exact (List.pairwise_map.1 this).imp_of_mem fun {a b} _ _ hne e => hne (by simpa [entryN] using e)
 ·intro x hx
  simp only [List.mem_map] at hx
  obtain ⟨t, ht, rfl⟩ := hx
  exact ⟨_, by simp [Go.WideElems.rd, entryN, hkey t ht, anyR]; rfl⟩
 ·simp [hlen]
 ·have hmap : (E.map entryN).map (Go.WideElems.rg P kt anyR) = E.map fun t => ((.int .i64 t.1, .lit (.bool true)) : Lit × DataW Unit) := by
   rw [List.map_map]
   exact List.map_congr_left fun t ht => hrg t ht
  show ((((E.map entryN).toArray.toList.map (Go.WideElems.rg P kt anyR)).foldr DataW.insert []).map fun p => Go.intOf p.1).Perm _
  rw [show (E.map entryN).toArray.toList = E.map entryN from rfl, hmap]
  refine ((Go.WideShapes.sorted_perm _).map _).trans ?_
  simp [pairsN, Go.intOf, Function.comp_def]
 ·show (((E.map entryN).toArray.toList.map (Go.WideElems.rg P kt anyR)).foldr DataW.insert []).length = _
  rw [length_sorted]
  simp [pairsN]
theorem keysI_call (w : World) (mb : Option Nat) :
  Calls Tryz.prog 46 #[.map mb] w fun e w' => e = .returned (.func (.func 82) #[] #[.pointer (some ⟨w.heap.size, 0, none⟩)]) ∧ w' = w.alloc (.cells #[.map mb] 79) :=
 (callsIn_wide (n := 5)).1 (AnyZI.keys_in Tryz.keysI Fence.wide 5 trivial rfl mb w)
theorem sortsI (m : Nat) : AnyZI.SortsIn Tryz.prog Tryz.sortedI_ren Fence.wide m :=
 ⟨fun blk off cap ss W hH hblk hsz => callsIn_wide.2 (AnyM.slices_Sort_int Tryz.sortI blk off cap ss W hH hblk hsz),
  fun p cap W => callsIn_wide.2 (AnyM.slices_Sort_int_none Tryz.sortI p cap W)⟩
theorem sortedI_call (w : World) (b : Nat) (m : KVN) (h : MapAtN w b m) (hsz : ∀ p ∈ m, (Lit.int .i64 p.1).wf = true) (hl : m.length ≤ 1000) :
  Calls Tryz.prog 45 #[.func (.func 82) #[] #[.pointer (some ⟨w.heap.size, 0, none⟩)]] (w.alloc (.cells #[.map (some b)] 79))
   fun e w' => ∃ v L, e = .returned v ∧ Own (w.heap.size + 1) w' v L ∧ L.Perm (m.map (·.1)) ∧ Rises L ∧ Keeps [] w w' := by
 have hmx : m.length ≤ maxLen := by unfold maxLen; omega
 obtain ⟨D, hown, hD, hsize⟩ := h.owns (P := Tryz.prog) (kt := 3) Tryz.underlying3 hsz hmx
 have hseq : SeqGives Fence.wide 2 Tryz.prog 82 #[.pointer (some ⟨w.heap.size, 0, none⟩)] encZ (fun ss => ss.Perm (intKeys D)) (Maps.size D) (w.alloc (.cells #[.map (some b)] 79)) :=
  AnyZI.keys_gives (ρ := Tryz.keysI_ren) { Tryz.keysI with } Fence.wide _ trivial rfl (by omega) w.heap.size b m.length D _ (by simp) (by simp) (by
   obtain ⟨es, clock, hb, Ft, hs, hD⟩ := hown
   exact ⟨es, clock, heap_old hb _, Ft, hs, hD⟩)
 have cS := AnyZI.sorted_in Tryz.sortedI Fence.wide 5 trivial trivial trivial trivial rfl (by omega) (sortsI _) (enters_of Tryz.func81 (by kernel_rfl) rfl) 82 #[.pointer (some ⟨w.heap.size, 0, none⟩)] trivial (enters_of Tryz.func82 (by kernel_rfl) rfl) _ _ (by rw [hsize]; exact hmx) (by rw [hsize]; omega) _ hseq
 change CallsIn _ _ Tryz.prog 45 _ _ _ at cS
 refine ((callsIn_wide (n := 5)).1 cS).mono ?_
 rintro e w' ⟨v, ss, rfl, hS, hrow, -, hb⟩
 have hp : (ss.mergeSort leI).Perm (m.map (·.1)) := (List.mergeSort_perm ss leI).trans (hS.trans hD)
 have hw : w.heap.size + 1 = (w.alloc (.cells #[.map (some b)] 79)).heap.size := by simp
 refine ⟨v, ss.mergeSort leI, rfl, ?_, hp, ?_, ((Keeps.refl [] w).alloc _).trans (Keeps.of_below hb)⟩
 ·unfold Own
  rw [List.length_mergeSort, hw]
  exact hrow
 ·have hn : (ss.mergeSort leI).Nodup := hp.nodup_iff.2 h.nodup
  have tr : ∀ a b c : Int, leI a b = true → leI b c = true → leI a c = true := fun a b c h1 h2 => by simp only [leI, decide_eq_true_eq] at *; exact Int.le_trans h1 h2
  have tt : ∀ a b : Int, (leI a b || leI b a) = true := fun a b => by simp only [leI, Bool.or_eq_true, decide_eq_true_eq]; exact Int.le_total a b
  have hpw := List.pairwise_mergeSort tr tt ss
  rw [List.nodup_iff_pairwise_ne] at hn
  exact (hpw.and hn).imp fun ⟨h1, h2⟩ => by
   simp only [leI, decide_eq_true_eq] at h1
   omega
end Go.Proofs.YtgdkceeonnfejaaGreatDoor
