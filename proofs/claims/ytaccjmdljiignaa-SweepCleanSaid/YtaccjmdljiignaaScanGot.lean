/-
  What a scan has got (package scan): Got.
  As in the scan's file.
-/
import Derived.Test.YtaccjmdljiignaaScanStep
import Derived.Test.YtaccjmdljiignaaShelf
namespace Go.Proofs.Ytaccjmdljiignaa
open Go Go.RowKit

def GotPost (w : World) (S : ScanS) (e : Ending) (w' : World) : Prop :=
  e = .returned (.map (some w.heap.size)) ∧ MapAt w' w.heap.size (encMap Value.string S.got) ∧ Keeps [] w w'


set_option maxRecDepth 100000 in
set_option maxHeartbeats 1000000 in
theorem scanGot_spec {X : Nat} (w : World) (B q gb : Nat) (S : ScanS) (h : ScanAt X w B q gb S) : Calls Try.prog 105 #[.pointer (some ⟨q, 0, none⟩)] w (GotPost w S) := by
  obtain ⟨_, _, B1, vi, vw, _, _, h5, _, _, h8, _⟩ := h
  obtain ⟨E, clock, hm, hr, hp⟩ := h8
  have Hc := Lib.hid (AnyW.maps_Clone Try.cloneSS gb (E.map entry).toArray clock w hm)
  have H := Lib.hid (And.intro hr hp)
  have c5 := cells_at h5
  have l5 := lt_of_at h5
  clear h5 hm hr hp
  go_enter Try.func105, Try.ntmps105
  go_wp2_with fail
  refine Hc.out.mono ?_
  rintro e w1 ⟨rfl, rfl⟩
  go_wp2_with fail
  go_ret
  exact ⟨rfl, ⟨E, clock, heap_new w _, H.out.1, H.out.2⟩, (Keeps.refl [] w).alloc _⟩
end Go.Proofs.Ytaccjmdljiignaa
