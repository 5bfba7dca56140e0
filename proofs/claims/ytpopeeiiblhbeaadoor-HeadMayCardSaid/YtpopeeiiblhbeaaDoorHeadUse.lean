/-
  Package head: (*Head).Add of two points of one new series; (*Head).Oldest and (*Head).Samples then.
  No condition beyond those that each theorem states.
-/
import Derived.Test.YtpopeeiiblhbeaaDoorHeadAdd
import Derived.Maps.RangeWalk
namespace Go.Proofs.YtpopeeiiblhbeaaDoor
open Go Go.RowKit Go.Maps

theorem HeadN.keep {b w w' : World} {h n : Nat} {xs : List Value} {top : Int} (H : HeadN b w h n xs top) (k : Keeps [] w w') : HeadN b w' h n xs top := by
  obtain ⟨rb, ob, x, sb, lb, va, h1, h2, h3, h4, h5, h6, h7, h8⟩ := H
  exact ⟨rb, ob, x, sb, lb, va, go1 k h1, go1 k h2, go1 k h3, go1 k h4, go1 k h5, go1 k h6, h7, h8⟩

instance go1HeadN {b w w' : World} {h n : Nat} {xs : List Value} {top : Int} : Go1 w w' (HeadN b w h n xs top) (HeadN b w' h n xs top) := ⟨fun k H => H.keep k⟩

theorem Head0.keep {B : Nat} {w w' : World} {h : Nat} {p q r : Int} (H : Head0 B w h p q r) (k : Keeps [] w w') : Head0 B w' h p q r := by
  obtain ⟨rb, ob, x, mb, h1, h2, h3, h4, h5, h6⟩ := H
  exact ⟨rb, ob, x, mb, go1 k h1, go1 k h2, go1 k h3, go1 k h4, go1 k h5, h6⟩

instance go1Head0 {B : Nat} {w w' : World} {h : Nat} {p q r : Int} : Go1 w w' (Head0 B w h p q r) (Head0 B w' h p q r) := ⟨fun k H => H.keep k⟩

def AddRel (b w : World) (h : Nat) (gk : Nat) (u8 : Value) (wr : World) : Prop :=
  (gk = 2 ∧ u8 = .int .i64 0 ∧ Head0 b.heap.size wr h 5 50 10 ∧ Keeps [] b wr ∧ StillP w wr) ∨ (gk = 1 ∧ u8 = .int .i64 1 ∧ HeadN b wr h 1 [.int .i64 3, .int .u64 0] 3 ∧ StillP w wr) ∨ (gk = 0 ∧ u8 = .int .i64 2 ∧ HeadN b wr h 2 [.int .i64 3, .int .u64 0, .int .i64 25, .int .u64 0] 25 ∧ StillP w wr)

set_option linter.unusedSimpArgs false in
set_option maxRecDepth 100000 in
set_option maxHeartbeats 1000000 in
theorem headAdd_spec (b w : World) (h pb cp : Nat) (g c : Nat) (cur : Array Value) (hc1 : 1 ≤ c) (hcm : c ≤ maxLen) (hcs : cur.size = c * 2) (hb : w.heap[g]? = some (.cells cur 117 (0, 0))) (h0 : cur[0]? = some (.string ⟨#[97]⟩)) (h1 : cur[1]? = some (.string ⟨#[49]⟩))
    (hp : w.heap[pb]? = some (.cells #[.slice (some ⟨g, 0, none⟩) 1 c, .int .i64 3, .int .u64 0, .slice (some ⟨g, 0, none⟩) 1 c, .int .i64 25, .int .u64 0] 103 (0, 0))) (hh : Head0 b.heap.size w h 5 50 10) (hkb : Keeps [] b w) (hbh : b.heap.size ≤ h) :
    Calls Tryd.prog 49 #[.pointer (some ⟨h, 0, none⟩), .slice (some ⟨pb, 0, none⟩) 2 cp] w fun e w' => e = .returned (.tuple #[]) ∧ HeadN b w' h 2 [.int .i64 3, .int .u64 0, .int .i64 25, .int .u64 0] 25 ∧ StillP w w' := by
  have H0 := Lib.hid (And.intro hh hkb)
  clear hh hkb
  go_enter Tryd.func49, Tryd.ntmps49
  go_wp2_with fail
  go_loopg [8] 2 (AddRel b w h)
  case atStart => exact .inl ⟨rfl, rfl, H0.out.1, H0.out.2, fun _ _ _ _ h _ => h⟩
  case round =>
    clear H0
    rcases hrel with ⟨hgk, rfl, hh, hkb, hst⟩ | ⟨hgk, rfl, hh, hst⟩ | ⟨hgk, rfl, hh, hst⟩
    · have Hg := Lib.hid hgk
      have hpw := hst _ _ _ _ hp (.inr rfl)
      have e0 : wr.cell? ⟨pb, 0, none⟩ = some (.slice (some ⟨g, 0, none⟩) 1 c) := cells_at hpw 0
      have e1 : wr.cell? ⟨pb, 1, none⟩ = some (.int .i64 3) := cells_at hpw 1
      have e2 : wr.cell? ⟨pb, 2, none⟩ = some (.int .u64 0) := cells_at hpw 2
      have hlw := lt_of_at hpw
      have kp : Keeps [] wr (wr.alloc (.cells #[.slice (some ⟨g, 0, none⟩) 1 c, .int .i64 3, .int .u64 0] 103)) := (Keeps.refl [] wr).alloc _
      have H0 := Lib.hid (And.intro (kp.at_ (hst _ _ _ _ hb (.inl rfl)) (by simp)) (And.intro (go1 kp hh) (And.intro (go1 kp hkb) (go1 kp hst))))
      clear kp hh hst hgk hpw hkb
      go_wp2_with fail
      refine (addNew_spec b _ h g c cur hc1 hcm hcs H0.out.1 h0 h1 H0.out.2.1 H0.out.2.2.1 hbh).mono ?_
      rintro e w2 ⟨rfl, hn, hs⟩
      have H2 := Lib.hid (And.intro hn (H0.out.2.2.2.trans hs))
      clear hn hs H0 e0 e1 e2 hlw
      go_wp2_with fail
      go_roundg 1
      case measure => have := Hg.out; omega
      case rel => exact .inr (.inl ⟨rfl, rfl, H2.out⟩)
    · have Hg := Lib.hid hgk
      have hpw := hst _ _ _ _ hp (.inr rfl)
      have e0 : wr.cell? ⟨pb, 3, none⟩ = some (.slice (some ⟨g, 0, none⟩) 1 c) := cells_at hpw 3
      have e1 : wr.cell? ⟨pb, 4, none⟩ = some (.int .i64 25) := cells_at hpw 4
      have e2 : wr.cell? ⟨pb, 5, none⟩ = some (.int .u64 0) := cells_at hpw 5
      have hlw := lt_of_at hpw
      have kp : Keeps [] wr (wr.alloc (.cells #[.slice (some ⟨g, 0, none⟩) 1 c, .int .i64 25, .int .u64 0] 103)) := (Keeps.refl [] wr).alloc _
      have H0 := Lib.hid (And.intro (kp.at_ (hst _ _ _ _ hb (.inl rfl)) (by simp)) (And.intro (go1 kp hh) (go1 kp hst)))
      clear kp hh hst hgk hpw
      go_wp2_with fail
      refine (addOld_spec b _ h g c cur H0.out.1 h0 h1 H0.out.2.1).mono ?_
      rintro e w2 ⟨rfl, hn, hs⟩
      have H2 := Lib.hid (And.intro hn (H0.out.2.2.trans hs))
      clear hn hs H0 e0 e1 e2 hlw
      go_wp2_with fail
      go_roundg 0
      case measure => have := Hg.out; omega
      case rel => exact .inr (.inr ⟨rfl, rfl, H2.out⟩)
    · have H2 := Lib.hid (And.intro hh hst)
      clear hh hst
      go_wp2_with fail
      go_end0
      exact ⟨rfl, H2.out⟩

set_option maxRecDepth 100000 in
set_option maxHeartbeats 1000000 in
theorem samples_spec (b w : World) (h : Nat) (n : Nat) (xs : List Value) (top : Int) (hh : HeadN b w h n xs top) : Calls Tryd.prog 51 #[.pointer (some ⟨h, 0, none⟩)] w fun e w' => e = .returned (.int .i64 n) ∧ Keeps [] w w' := by
  obtain ⟨rb, ob, x, sb, lb, va, hhc, -⟩ := hh
  have c7 : w.cell? ⟨h, 7, none⟩ = some (.int .i64 n) := cells_at hhc 7
  clear hhc
  go_enter Tryd.func51, Tryd.ntmps51
  go_wp2_with fail
  go_ret
  exact ⟨rfl, Keeps.refl _ _⟩

def OldRel (w : World) (h rb ob x sb : Nat) (lb va : Value) (gk : Nat) (u5 : Value) (wr : World) : Prop :=
  HeadC wr h 5 50 10 rb ob x 2 2 0 25 ∧ One wr ob sb ∧ wr.heap[sb]? = some (.cells #[lb, va, .int .i64 25] 147 (0, 0)) ∧ wr.ownsRow 0 101 2 va 2 [.int .i64 3, .int .u64 0, .int .i64 25, .int .u64 0] ∧ Keeps [] w wr ∧
    ((gk = 1 ∧ u5 = .int .i64 (-1) ∧ wr.heap[w.heap.size]? = some (.mapIter (some ob) 1 #[] 1)) ∨ (gk = 0 ∧ u5 = .int .i64 3 ∧ wr.heap[w.heap.size]? = some (.mapIter (some ob) 1 #[0] 1)))

set_option linter.unusedSimpArgs false in
set_option maxRecDepth 100000 in
set_option maxHeartbeats 1000000 in
theorem oldest_spec (b w : World) (h : Nat) (hh : HeadN b w h 2 [.int .i64 3, .int .u64 0, .int .i64 25, .int .u64 0] 25) :
    Calls Tryd.prog 50 #[.pointer (some ⟨h, 0, none⟩)] w fun e w' => e = .returned (.tuple #[.int .i64 0, .int .i64 10, .bool true]) ∧ Keeps [] w w' := by
  obtain ⟨rb, ob, x, sb, lb, va, hhc, hmr, hob, hsb, hva, hkb, hbb⟩ := hh
  have hva0 := row_base (b' := 0) hva (Nat.zero_le _)
  have c4 : w.cell? ⟨h, 4, none⟩ = some (.map (some ob)) := cells_at hhc 4
  have k0 : Keeps [] w (w.alloc (.mapIter (some ob) 1 #[] 1)) := (Keeps.refl [] w).alloc _
  have H0 := Lib.hid (And.intro (go1 k0 hhc) (And.intro (go1 k0 hob) (And.intro (go1 k0 hsb) (And.intro (go1 k0 hva0) (And.intro k0 (heap_new w (.mapIter (some ob) 1 #[] 1)))))))
  have Hob := Lib.hid hob
  clear hhc hmr hsb hva hva0 hkb hbb k0 hob
  go_enter Tryd.func50, Tryd.ntmps50
  go_wp2_with (at_range; refine wpList_range1 rfl _ rfl rfl Hob.out ?_)
  clear c4
  go_frame
  go_loopg [5] 1 (OldRel w h rb ob x sb lb va)
  case atStart => exact ⟨H0.out.1, H0.out.2.1, H0.out.2.2.1, H0.out.2.2.2.1, H0.out.2.2.2.2.1, .inl ⟨rfl, rfl, H0.out.2.2.2.2.2⟩⟩
  case round =>
    clear H0 Hob
    obtain ⟨hhc, hob, hsb, hva, hkw, hrel⟩ := hrel
    rcases hrel with ⟨hgk, rfl, hit⟩ | ⟨hgk, rfl, hit⟩
    · have Hg := Lib.hid hgk
      have H1 := Lib.hid (And.intro hhc (And.intro hob (And.intro hsb (And.intro hva (And.intro hkw hit)))))
      clear hhc hob hsb hva hkw hit hgk
      go_wp2_with (at_next; refine wpList_next1 (r := w.heap.size) rfl _ rfl rfl H1.out.2.1 H1.out.2.2.2.2.2 ?_; intro w1 hi1 hk1; have hen := run_entry1 (show One w1 ob sb from at_but hk1 H1.out.2.1 H1.out.2.2.2.2.2 (by simp)) hi1; have s1 : w1.cell? ⟨sb, 1, none⟩ = some va := cells_at (at_but hk1 H1.out.2.2.1 H1.out.2.2.2.2.2 (by simp)) 1; have hva1 := hk1.row H1.out.2.2.2.1 (fun q hq => by simpa using row_ne_obj H1.out.2.2.2.1 H1.out.2.2.2.2.2 (by simp) q hq); obtain ⟨ao, cp, rfl, -, -, hcell⟩ := row_slice hva1; obtain ⟨gq, rfl, -, -, hc0⟩ := hcell 0 (by decide); clear hcell; have H3 := Lib.hid (And.intro (show HeadC w1 h 5 50 10 rb ob x 2 2 0 25 from at_but hk1 H1.out.1 H1.out.2.2.2.2.2 (by simp)) (And.intro (show One w1 ob sb from at_but hk1 H1.out.2.1 H1.out.2.2.2.2.2 (by simp)) (And.intro (at_but hk1 H1.out.2.2.1 H1.out.2.2.2.2.2 (by simp)) (And.intro hva1 (And.intro (H1.out.2.2.2.2.1.after hk1 (fun y hy => .inr (by rw [show y = w.heap.size from (by simpa using hy)]; exact Nat.le_refl _))) hi1))))); clear hva1 hi1 hk1)
      clear H1 hen s1 hc0
      go_roundg 0
      case measure => have := Hg.out; omega
      case rel => exact ⟨H3.out.1, H3.out.2.1, H3.out.2.2.1, H3.out.2.2.2.1, H3.out.2.2.2.2.1, .inr ⟨rfl, rfl, H3.out.2.2.2.2.2⟩⟩
    · have c2 : wr.cell? ⟨h, 2, none⟩ = some (.int .i64 10) := cells_at hhc 2
      have c9 : wr.cell? ⟨h, 9, none⟩ = some (.int .i64 25) := cells_at hhc 9
      have H1 := Lib.hid (And.intro hob (And.intro hit hkw))
      clear hhc hob hsb hva hkw hit hgk
      go_wp2_with (at_next; refine wpList_next2 (r := w.heap.size) rfl _ rfl rfl H1.out.1 H1.out.2.1 ?_)
      go_quiet (fail)
      go_wp2_with fail
      go_ret3
      exact ⟨rfl, H1.out.2.2.drewN _⟩
end Go.Proofs.YtpopeeiiblhbeaaDoor
