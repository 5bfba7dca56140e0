/-
  Package posting: an index that is empty: Add of one series of distinct names, walked.
  No condition beyond those that each theorem states.
-/
import Derived.Test.YtejfigbjaiealaaGreatDoorPostRem
import Derived.Test.YtejfigbjaiealaaGreatDoorMapLaw
import Derived.Test.YtejfigbjaiealaaGreatDoorPairs
namespace Go.Proofs.YtejfigbjaiealaaGreatDoor
open Go Go.RowKit

def Added (B : Nat) (w : World) (v : Value) (n : Int) (e : Ending) (w' : World) : Prop := ∃ ao cp, e = .returned (.slice ao 1 cp) ∧ Own B w' (.slice ao 1 cp) [n] ∧ Turns v w (.slice ao 1 cp) w'

set_option maxRecDepth 100000 in
set_option maxHeartbeats 1000000 in
theorem insertSE_spec (B : Nat) (w : World) (n : Int) (a : Option Addr) (c : Nat) (hB : B ≤ w.heap.size) (ho : Own B w (.slice a 0 c) []) (g : Nat) (hg : w.heap[g]? = some (.cells #[.int .i64 n] 3 (0, 0))) : Calls Tryz.prog 66 #[.slice a 0 c, .int .i64 0, .slice (some ⟨g, 0, none⟩) 1 1] w (Added B w (.slice a 0 c) n) := by
  have Ho := Lib.hid ho
  clear ho
  go_enter Tryz.func66, Tryz.ntmps66
  go_wp2_with (at_builtin; refine own_append2 rfl (.tmp 23) (.tmp 24) 36 28 Tryz.underlying36 Tryz.underlying28 rfl B (.slice a 0 c) [] rfl Ho.out ⟨g, 0, none⟩ 1 1 [n] rfl rfl (news_of hg) (by decide) hB ?_; intro ao cp w9 hown9 ht9; have H9 := Lib.hid (And.intro hown9 ht9); clear hown9 ht9)
  go_ret
  exact ⟨_, _, rfl, H9.out.1, H9.out.2⟩

set_option maxRecDepth 100000 in
set_option maxHeartbeats 1000000 in
theorem insertE_spec (B : Nat) (w : World) (n : Int) (a : Option Addr) (c : Nat) (hB : B ≤ w.heap.size) (ho : Own B w (.slice a 0 c) []) : Calls Tryz.prog 46 #[.slice a 0 c, .int .i64 n] w (Added B w (.slice a 0 c) n) := by
  have Hf := Lib.hid ho
  have hb0 : Calls Tryz.prog 65 #[.slice a 0 c, .int .i64 n] w fun e w' => e = .returned (.tuple #[.int .i64 0, .bool false]) ∧ ∃ q, w' = w.drewN q := bsearch_spec B w (.slice a 0 c) [] n ho List.Pairwise.nil (by decide)
  have Hb := Lib.hid hb0
  clear hb0
  clear ho
  go_enter Tryz.func46, Tryz.ntmps46
  go_wp2_with fail
  refine Hb.out.mono ?_
  rintro e w1 ⟨rfl, q, rfl⟩
  have kq : Keeps [] w (w.drewN q) := (Keeps.refl [] w).drewN q
  have H1 := Lib.hid (And.intro (go1 kq Hf.out) kq)
  clear kq Hb
  generalize w.drewN q = w1 at H1 ⊢
  have k2 : Keeps [] w1 (w1.alloc (.cells #[.int .i64 n] 3)) := (Keeps.refl [] w1).alloc _
  have H2 := Lib.hid (And.intro (heap_new w1 (.cells #[.int .i64 n] 3)) (And.intro (go1 k2 H1.out.1) (H1.out.2.trans k2)))
  clear k2
  go_wp2_with fail
  refine (insertSE_spec B _ n a c (Nat.le_trans hB H2.out.2.2.size) H2.out.2.1 _ H2.out.1).mono ?_
  rintro e w2 ⟨a2, c2, rfl, hown, hk⟩
  have H3 := Lib.hid (And.intro hown (Turns.since H2.out.2.2 hk))
  clear hown hk
  go_wp2_with fail
  go_ret
  exact ⟨_, _, rfl, H3.out.1, H3.out.2⟩
end Go.Proofs.YtejfigbjaiealaaGreatDoor
