/-
  The keys of a map of strings, sorted: the bridge from MapAt to the shelf's contract on slices.Sorted(maps.Keys(m)); comparing strings.
  No condition beyond those that each theorem states.

  The bucket's Look, List and Peek: what they tell of the objects.
  Each holds for every world in which the bucket's blocks are laid as BucketAt says.

  The bucket's List: what it tells of the objects.
  It holds for every world in which the bucket's blocks are laid as BucketAt says.
-/
import Derived.Test.YtgdkceeonnfejaaGreatDoorMap
import Derived.Test.YtgdkceeonnfejaaGreatDoorIter
import Derived.Maps.Views
import Derived.Test.YtgdkceeonnfejaaGreatDoorFuse
import Derived.Deep.RegionHeld3
import Derived.Deep.LoopGhost
import Derived.Deep.RegionLaw
namespace Go.Proofs.YtgdkceeonnfejaaGreatDoor
open Go Go.RowKit
def anyR : Value → Option (DataW Unit × List MemPlace) := fun _ => some (.lit (.bool true), [])
def sortB (l : List ByteArray) : List ByteArray := ((l.map (·.data.toList)).mergeSort leB).map fun l => ⟨l.toArray⟩
theorem sortB_perm (l : List ByteArray) : (sortB l).Perm l := by
 have h := (List.mergeSort_perm (l.map (·.data.toList)) leB).map (fun l : List UInt8 => (⟨l.toArray⟩ : ByteArray))
 refine h.trans ?_
 rw [List.map_map]
 have : ((fun l : List UInt8 => (⟨l.toArray⟩ : ByteArray)) ∘ fun x : ByteArray => x.data.toList) = id := by
  funext x
  exact ba_mk x
 rw [this, List.map_id]
theorem sortB_length (l : List ByteArray) : (sortB l).length = l.length := (sortB_perm l).length_eq
theorem MapAt.owns {P : Program} {kt : TypeId} {w : World} {b : Nat} {m : KV} (h : MapAt w b m) (hk : P.underlying kt = some .string) (hsz : ∀ p ∈ m, p.1.size ≤ maxLen) (hl : m.length ≤ maxLen) :
  ∃ D : DataW Unit, w.ownsMap P kt anyR b m.length D ∧ (strKeys D).Perm (m.map (·.1.data.toList)) ∧ Maps.size D = m.length := by
 obtain ⟨E, c, h1, h2, rfl⟩ := h
 have hlen : (pairs E).length = E.length := by simp [pairs]
 have hkey : ∀ t ∈ E, keyOf P kt (.string t.1) = some (.string t.1.data.toList) := fun t ht =>
  Go.WideMaps.keyOf_string_mk hk (hsz (t.1, t.2.1) (by simp only [pairs, List.mem_map]; exact ⟨t, ht, rfl⟩))
 have hrg : ∀ t ∈ E, Go.WideElems.rg P kt anyR (entry t) = (.string t.1.data.toList, .lit (.bool true)) := fun t ht => by
  simp [Go.WideElems.rg, Go.WideElems.rd, entry, hkey t ht, anyR]
 refine ⟨_, ⟨_, c, h1, ⟨?_, ?_, ?_⟩, ?_, rfl⟩, ?_, ?_⟩
 ·simpa [hlen] using hl
 ·refine ⟨?_, ?_, ?_⟩
  ·intro x hx
   simp only [List.mem_map] at hx
   obtain ⟨t, ht, rfl⟩ := hx
   exact h2.lt t ht
  ·rw [List.map_map]
   rw [List.nodup_iff_pairwise_ne]
   exact List.pairwise_map.2 (h2.born.imp_of_mem fun _ _ hab => Nat.ne_of_lt hab)
  ·rw [List.map_map]
   have := h2.nodup
   refine List.pairwise_map.2 ?_
   exact (List.pairwise_map.1 this).imp_of_mem fun {a b} _ _ hne e => hne (by simpa [entry] using e)
 ·intro x hx
  simp only [List.mem_map] at hx
  obtain ⟨t, ht, rfl⟩ := hx
  exact ⟨_, by simp [Go.WideElems.rd, entry, hkey t ht, anyR]; rfl⟩
 ·simp [hlen]
 ·have hmap : (E.map entry).map (Go.WideElems.rg P kt anyR) = E.map fun t => ((.string t.1.data.toList, .lit (.bool true)) : Lit × DataW Unit) := by
   rw [List.map_map]
   exact List.map_congr_left fun t ht => hrg t ht
  show ((((E.map entry).toArray.toList.map (Go.WideElems.rg P kt anyR)).foldr DataW.insert []).map fun p => strOf p.1).Perm _
  rw [show (E.map entry).toArray.toList = E.map entry from rfl, hmap]
  refine ((Go.WideShapes.sorted_perm _).map _).trans ?_
  simp [pairs, strOf, Function.comp_def]
 ·show (((E.map entry).toArray.toList.map (Go.WideElems.rg P kt anyR)).foldr DataW.insert []).length = _
  rw [length_sorted]
  simp [pairs]
theorem sorted_of {D : DataW Unit} {m : KV} {ss : List (List UInt8)} {w' : World} {base : Nat} {kt : TypeId} {v : Value} (hp : ss.Perm (strKeys D)) (hD : (strKeys D).Perm (m.map (·.1.data.toList)))
  (h : w'.ownsRow base kt 1 v ss.length ((ss.mergeSort (fun x y => decide (x ≤ y))).map encStr)) :
  w'.ownsRow base kt 1 v (sortB (m.map (·.1))).length ((sortB (m.map (·.1))).map Value.string) := by
 have e1 : ss.mergeSort leB = ((m.map (·.1)).map (·.data.toList)).mergeSort leB := by
  rw [List.map_map]
  exact mergeSort_of_perm (hp.trans hD)
 have e2 : (sortB (m.map (·.1))).map Value.string = (ss.mergeSort leB).map encStr := by
  rw [e1]
  unfold sortB
  rw [List.map_map]
  rfl
 have e3 : (sortB (m.map (·.1))).length = ss.length := by
  rw [sortB_length, List.length_map, (hp.trans hD).length_eq, List.length_map]
 rw [e2, e3]
 exact h
open Go Go.RowKit Go.Conc
def hasPre (s p : ByteArray) : Bool := decide (p.size ≤ s.size) && decide (s.extract 0 p.size = p)
def told (ks : List ByteArray) (o : List (ByteArray × Ob)) (pre : ByteArray) (k : Nat) : List (ByteArray × Ob) := ((ks.take k).filter (hasPre · pre)).map fun n => (n, obOr (look o n))
open Go Go.RowKit Go.Conc
end Go.Proofs.YtgdkceeonnfejaaGreatDoor
