/-
  Package barographlaw06: Few: at most ten pairs, each text of at most 42 bytes; Told: the same pairs as the document's.
  No condition beyond those that each theorem states.
-/
import Derived.Test.YtgdkceeonnfejaaGreatDoorPostLaw
import Derived.Test.YtgdkceeonnfejaaGreatDoorLabel1
import Derived.Test.YtgdkceeonnfejaaGreatDoorLibVar
namespace Go.Proofs.YtgdkceeonnfejaaGreatDoor
set_option maxRecDepth 100000
set_option maxHeartbeats 1000000
set_option linter.unusedSimpArgs false
open Go Go.RowKit
theorem step_appP {P : Program} {ops : Array Oper} {o : Oper} {a : Act} {w : World} {K : Act → World → Prop} {Q : Exit → Act → World → Prop} {E : Prop} (hg : o.guard = none) (s x : Operand) (t : TypeId)
  (ho : o.op = .call { callee := .builtin .append, args := #[s, x], argTypes := #[t, t] })
  (base : Nat) (e : TypeId) (i : TypeInfo) (z : Value) (size bytes : Nat) (ht : P.underlying t = some (.slice e)) (hi : P.info? e = some i) (hz : i.zero = some z)
  (hsize : i.size = size) (hby : i.bytes = bytes) (hzs : z.cells.size = size) (hsz : 0 < size)
  (v : Value) (n : Nat) (xs : List Value) (hs : a.eval s = v) (hown : w.ownsRow base e size v n xs)
  (ad : Addr) (m c : Nat) (news : List Value) (hx : a.eval x = .slice (some ad) m c) (hl : news.length = m * size) (hnews : ∀ j u, news[j]? = some u → w.cell? (ad.add j) = some u) (h1 : ∀ u ∈ news, u.oneCell' = true)
  (h63 : n + m ≤ maxLen) (hbytes : (n + m) * bytes ≤ 140737488355328) (hbase : base ≤ w.heap.size)
  (h : ∀ v' w', w'.ownsRow base e size v' (n + m) (xs ++ news) → w.grownBy w' v.ownBlock → K (a.put o.dst v') w') : if Region.wanted o (yielded ops a.tmps) = true then Oper.wp P o a w K Q else E := by
 have hw : Region.wanted o (yielded ops a.tmps) = true := by simp [Region.wanted, hg]
 rw [if_pos hw]
 exact wp_append_own w s x t ho base e i z size bytes ht hi hz hsize hby hzs hsz v n xs hs hown ad m c news hx hl hnews h1 h63 hbytes hbase (fun v' w' h2 h3 _ => h v' w' h2 h3)
abbrev PairB := ByteArray × ByteArray
def encPB (p : PairB) : List Value := [.string p.1, .string p.2]
theorem news_two {w : World} {g : Nat} {x y : Value} {t : TypeId} (hg : w.heap[g]? = some (.cells #[x, y] t (0, 0))) : ∀ j u, ([x, y] : List Value)[j]? = some u → w.cell? ((⟨g, 0, none⟩ : Addr).add j) = some u := by
 intro j u hu
 have hadd : (⟨g, 0, none⟩ : Addr).add j = ⟨g, j, none⟩ := by unfold Addr.add; split <;> simp_all
 rw [hadd, cells_at hg]
 match j with
 | 0 => exact hu
 | 1 => exact hu
 | n + 2 => simp at hu
theorem pair_at {w : World} {v : Value} {L : List PairB} (h : SliceArg 2 encPB w v L) (k : Nat) (hk : k < L.length) : ∃ b off cap, v = .slice (some ⟨b, off, none⟩) L.length cap ∧ b < w.heap.size ∧ w.cell? ⟨b, off + k * 2, none⟩ = some (.string L[k].1) ∧ w.cell? ⟨b, off + k * 2 + 1, none⟩ = some (.string L[k].2) := by
 obtain ⟨ao, cap, e, hl, h⟩ := h
 obtain ⟨b, off, e2, hb, hc⟩ := h k hk
 subst e2
 exact ⟨b, off, cap, e, hb, hc 0 (by decide), (by have := hc 1 (by decide); rw [← Nat.add_assoc] at this; exact this)⟩
theorem infoPair6 : (Tryz.prog.info? 152).map (fun i => (i.zero, i.size, i.bytes)) = some (some (.agg #[.string ⟨#[]⟩, .string ⟨#[]⟩]), 2, 32) := by kernel_rfl
def ToldRel6 (w : World) (L : List PairB) (gk : Nat) (u3 u9 : Value) (wr : World) : Prop :=
 ∃ k, k ≤ L.length ∧ gk = L.length - k ∧ u9 = .int .i64 k ∧ wr.ownsRow w.heap.size 152 2 u3 k ((L.take k).flatMap encPB) ∧ Keeps [] w wr
theorem told6_spec (w : World) (v : Value) (L : List PairB) (h : SliceArg 2 encPB w v L) (hl6 : L.length ≤ 1000000) :
  Calls Tryz.prog 36 #[v] w fun e w' => ∃ v', e = .returned v' ∧ w'.ownsRow w.heap.size 152 2 v' L.length (L.flatMap encPB) ∧ Keeps [] w w' := by
 obtain ⟨ip, hip, hz0, hz1, hz2⟩ := info_parts infoPair6
 have Hf := Lib.hid h
 obtain ⟨ao, cap, rfl, hl, -⟩ := h
 unfold maxLen at hl
 have H0 := Lib.hid (And.intro (own_made w w.heap.size 152 2 (Nat.le_refl _)) ((Keeps.refl [] w).alloc (.cells #[] 152)))
 go_enter Tryz.func36, Tryz.ntmps36
 go_wp2_with fail
 go_loopg [3, 9] L.length (ToldRel6 w L)
 case atStart => exact ⟨0, Nat.zero_le _, rfl, rfl, by simpa using H0.out.1, H0.out.2⟩
 case round =>
  obtain ⟨k, hk, hgk, rfl, hown, hkw⟩ := hrel
  have Hg := Lib.hid hgk
  clear hgk H0
  obtain ⟨a3, c3, rfl, -, -, -⟩ := row_slice hown
  by_cases hlt : k < L.length
  ·obtain ⟨b, off, cap', ea, hbW, d0, d1⟩ := pair_at (Hf.out.keep hkw) k hlt
   injection ea with ea _ ec
   subst ea ec
   have hlt' : (k : Int) < (L.length : Int) := by omega
   obtain ⟨p, hp⟩ : ∃ p, p = L[k] := ⟨_, rfl⟩
   rw [← hp] at d0 d1
   have Hp := Lib.hid hp
   obtain ⟨p1, p2⟩ := p
   dsimp only at d0 d1
   have kA : Keeps [] wr (wr.alloc (.cells #[.string p1, .string p2] 149)) := (Keeps.refl [] wr).alloc _
   have kB : Keeps [] (wr.alloc (.cells #[.string p1, .string p2] 149)) ((wr.alloc (.cells #[.string p1, .string p2] 149)).alloc (.cells #[.string p1, .string p2] 152)) := (Keeps.refl [] _).alloc _
   have n2 := heap_new (wr.alloc (.cells #[.string p1, .string p2] 149)) (.cells #[.string p1, .string p2] 152)
   rw [show (wr.alloc (.cells #[.string p1, .string p2] 149)).heap.size = wr.heap.size + 1 from by simp] at n2
   have Hr := Lib.hid (And.intro n2 (go1 (kA.trans kB) (And.intro hown hkw)))
   clear hown hkw hp kA kB n2
   go_wp2_with (at_builtin; refine wpList_append_own _ rfl (.tmp 13) (.tmp 15) 39 rfl w.heap.size 152 ip _ 2 32 Tryz.underlying39 hip hz0 hz1 hz2 rfl (by decide) (.slice a3 k c3) k ((L.take k).flatMap encPB) rfl Hr.out.2.1 ⟨wr.heap.size + 1, 0, none⟩ 1 1 [.string p1, .string p2] rfl rfl (news_two Hr.out.1) (by simp [Value.oneCell']) (by simp only [maxLen]; omega) (by omega) Hr.out.2.2.size ?_; intro v5 w5 hown5 hgrow5 hnil5; clear hnil5; obtain ⟨ao5, cp5, rfl, -, -, -⟩ := row_slice hown5; have HB := Lib.hid (And.intro hown5 (keeps_own Hr.out.2.2 hgrow5 (fun q hq => (World.ownsRow.lt Hr.out.2.1 q hq).1))); clear hown5 hgrow5)
   go_roundg (L.length - (k + 1))
   case measure => have := Hg.out; omega
   case rel =>
    refine ⟨k + 1, hlt, rfl, by go_num, ?_, HB.out.2⟩
    have h6 := HB.out.1
    rw [List.take_add_one, List.getElem?_eq_getElem hlt, Option.toList_some, List.flatMap_append, ← Hp.out]
    simpa [encPB] using h6
  ·have hkn := Lib.hid (show k = L.length from by omega)
   have hlt' : ¬ (k : Int) < (L.length : Int) := by omega
   have Hr := Lib.hid (And.intro hown hkw)
   clear hown hkw
   go_wp2_with fail
   go_ret
   refine ⟨_, rfl, ?_, Hr.out.2⟩
   have h6 := Hr.out.1
   rw [hkn.out, List.take_length] at h6
   rw [← hkn.out] at h6 ⊢
   exact h6
end Go.Proofs.YtgdkceeonnfejaaGreatDoor
