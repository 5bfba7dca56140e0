/-
  Slices of bytes that the walk owns: append of bytes, of a string; the slice as a string.
  No condition beyond those that each theorem states.
-/
import Derived.Test.YtgdkceeonnfejaaGreatDoorRows
import Derived.Test.YtgdkceeonnfejaaGreatDoorBase
import Derived.Lib.AppendStr
import Derived.Lib.SlBytesRow
import Derived.Lib.BufferRead
import Derived.Lib.Hide
namespace Go.Proofs.YtgdkceeonnfejaaGreatDoor
open Go Go.RowKit
structure Turns (v : Value) (w : World) (v' : Value) (w' : World) : Prop where
 keeps : Keeps v.ownBlock.toList w w'
 own : ∀ g, v'.ownBlock = some g → v.ownBlock = some g ∨ w.heap.size ≤ g
theorem Turns.refl (v : Value) (w : World) : Turns v w v w := ⟨Keeps.refl _ _, fun _ h => .inl h⟩
theorem Turns.trans {v v1 v2 : Value} {w w1 w2 : World} (h : Turns v w v1 w1) (k : Turns v1 w1 v2 w2) : Turns v w v2 w2 := by
 refine ⟨h.keeps.after k.keeps fun x hx => ?_, fun g hg => ?_⟩
 ·rcases h.own x (by simpa using hx) with e | e
  ·exact .inl (by simp [e])
  ·exact .inr e
 ·rcases k.own g hg with e | e
  ·exact h.own g e
  ·exact .inr (Nat.le_trans h.keeps.size e)
theorem Turns.keep {v v1 : Value} {w w1 w2 : World} (h : Turns v w v1 w1) (k : Keeps [] w1 w2) : Turns v w v1 w2 := ⟨h.keeps.after k (by simp), h.own⟩
theorem Turns.since {v v1 : Value} {w0 w w1 : World} (k : Keeps [] w0 w) (h : Turns v w v1 w1) : Turns v w0 v1 w1 :=
 ⟨(k.mono (by simp)).after h.keeps fun x hx => .inl hx, fun g hg => (h.own g hg).imp_right fun e => Nat.le_trans k.size e⟩
theorem Turns.box {v v1 : Value} {w w1 : World} (h : Turns v w v1 w1) {b : Nat} {x : Obj} (hb : w.heap[b]? = some x) (hne : ∀ g, v.ownBlock = some g → g ≠ b) : w1.heap[b]? = some x ∧ ∀ g, v1.ownBlock = some g → g ≠ b := by
 refine ⟨h.keeps.at_ hb (fun hm => hne b (by simpa using hm) rfl), fun g hg => ?_⟩
 rcases h.own g hg with e | e
 ·exact hne g e
 ·have := lt_of_at hb; omega
theorem Turns.fresh {v v1 : Value} {w0 w w1 : World} (h : Turns v w v1 w1) (k : Keeps [] w0 w) (hv : ∀ g, v.ownBlock = some g → w0.heap.size ≤ g) : Keeps [] w0 w1 ∧ ∀ g, v1.ownBlock = some g → w0.heap.size ≤ g := by
 refine ⟨k.after h.keeps fun x hx => .inr (hv x (by simpa using hx)), fun g hg => ?_⟩
 rcases h.own g hg with e | e
 ·exact hv g e
 ·exact Nat.le_trans k.size e
section
variable {P : Program} (w : World)
theorem run_append_turns (base : Nat) (t ty e : TypeId) (i : TypeInfo) (z : Value) (size bytes : Nat) (ht : P.underlying t = some (.slice e)) (hi : P.info? e = some i) (hz : i.zero = some z)
  (hsize : i.size = size) (hby : i.bytes = bytes) (hzs : z.cells.size = size) (hsz : 0 < size)
  (v : Value) (n : Nat) (xs : List Value) (hown : w.ownsRow base e size v n xs)
  (a : Addr) (m c : Nat) (news : List Value) (hl : news.length = m * size) (hnews : ∀ j u, news[j]? = some u → w.cell? (a.add j) = some u) (h1 : ∀ u ∈ news, u.oneCell' = true)
  (h63 : n + m ≤ maxLen) (hbytes : (n + m) * bytes ≤ 140737488355328) (hbase : base ≤ w.heap.size) :
  ∃ v' w', (Builtin.append_ #[t, t] ty #[v, .slice (some a) m c]).run P w = .ok v' w' ∧ w'.ownsRow base e size v' (n + m) (xs ++ news) ∧ Turns v w v' w' := by
 obtain ⟨v', w', hr, h2, h3, -⟩ := run_append_own (P := P) w base t ty e i z size bytes ht hi hz hsize hby hzs hsz v n xs hown a m c news hl hnews h1 h63 hbytes hbase
 refine ⟨v', w', hr, h2, Keeps.of_grown h3 (fun k hk => .inl (by simp [hk])), ?_⟩
 have hxl := hown.1
 rcases hown.2 with ⟨rfl, rfl⟩ | ⟨g, cap, cur, rfl, hbg, hg, hnc, hcm, hcs, htake⟩
 ·have hown2 : w.ownsRow w.heap.size e size (.slice none 0 0) 0 xs := ⟨hxl, .inl ⟨rfl, rfl⟩⟩
  obtain ⟨v2, w2, hr2, h22, -, -⟩ := run_append_own (P := P) w w.heap.size t ty e i z size bytes ht hi hz hsize hby hzs hsz _ 0 xs hown2 a m c news hl hnews h1 h63 hbytes (Nat.le_refl _)
  rw [hr] at hr2
  injection hr2 with e1 e2
  subst e1 e2
  exact fun q hq => .inr (h22.lt q hq).1
 ·subst hsize hby
  by_cases hroom : n + m ≤ cap
  ·have hr2 := run_append_room (P := P) w t ty e i ht hi g n cap cur hg a m c news hl hnews h1 hroom (by
    rw [hl, ← Nat.add_mul, hcs]; exact Nat.mul_le_mul_right _ hroom)
   rw [hr] at hr2
   injection hr2 with e1 e2
   subst e1
   exact fun q hq => .inl (by simpa [Value.ownBlock] using hq)
  ·have holds : ∀ j u, xs[j]? = some u → w.cell? ((⟨g, 0, none⟩ : Addr).add j) = some u := hown.cells (g := g) rfl
   have hr2 := run_append_grow (P := P) w t ty e i z ht hi hz ⟨g, 0, none⟩ n cap xs hxl holds a m c news hl hnews (by omega) (by simp only [maxLen] at h63; omega) (growslice_fits (by omega) (by omega))
   rw [hr] at hr2
   injection hr2 with e1 e2
   subst e1
   exact fun q hq => .inr (by simp [Value.ownBlock] at hq; omega)
theorem run_append_turns_str (base : Nat) (t u ty e : TypeId) (i : TypeInfo) (ht : P.underlying t = some (.slice e)) (hu : P.underlying u = some .string) (hi : P.info? e = some i) (hz : i.zero = some (.int .u8 0))
  (hsize : i.size = 1) (hby : i.bytes = 1) (v : Value) (n : Nat) (xs : List Value) (hown : w.ownsRow base e 1 v n xs) (s : ByteArray)
  (h63 : n + s.size ≤ maxLen) (hbytes : n + s.size ≤ 140737488355328) (hbase : base ≤ w.heap.size) :
  ∃ v' w', (Builtin.append_ #[t, u] ty #[v, .string s]).run P w = .ok v' w' ∧ w'.ownsRow base e 1 v' (n + s.size) (xs ++ Lib.strCells s) ∧ Turns v w v' w' := by
 obtain ⟨v', w', hr, h2, h3, -⟩ := Lib.run_append_own_string (P := P) w base t u ty e i ht hu hi hz hsize hby v n xs hown s h63 hbytes hbase
 refine ⟨v', w', hr, h2, Keeps.of_grown h3 (fun k hk => .inl (by simp [hk])), ?_⟩
 have hxl := hown.1
 rcases hown.2 with ⟨rfl, rfl⟩ | ⟨g, cap, cur, rfl, hbg, hg, hnc, hcm, hcs, htake⟩
 ·have hown2 : w.ownsRow w.heap.size e 1 (.slice none 0 0) 0 xs := ⟨hxl, .inl ⟨rfl, rfl⟩⟩
  obtain ⟨v2, w2, hr2, h22, -, -⟩ := Lib.run_append_own_string (P := P) w w.heap.size t u ty e i ht hu hi hz hsize hby _ 0 xs hown2 s h63 hbytes (Nat.le_refl _)
  rw [hr] at hr2
  injection hr2 with e1 e2
  subst e1 e2
  exact fun q hq => .inr (h22.lt q hq).1
 ·by_cases hroom : n + s.size ≤ cap
  ·have hr2 := Lib.run_append_room_string (P := P) w t u ty e i ht hu hi hsize g n cap cur hg s hroom (by omega)
   rw [hr] at hr2
   injection hr2 with e1 e2
   subst e1
   exact fun q hq => .inl (by simpa [Value.ownBlock] using hq)
  ·have holds : ∀ j u, xs[j]? = some u → w.cell? ((⟨g, 0, none⟩ : Addr).add j) = some u := hown.cells (g := g) rfl
   have hr2 := Lib.run_append_grow_string (P := P) w t u ty e i (.int .u8 0) ht hu hi hz ⟨g, 0, none⟩ n cap xs (by rw [hsize]; simpa using hxl) holds s (by omega) (by simp only [maxLen] at h63; omega) (by rw [hby]; exact growslice_fits (by omega) (by omega))
   rw [hr] at hr2
   injection hr2 with e1 e2
   subst e1
   exact fun q hq => .inr (by simp [Value.ownBlock] at hq; omega)
end
/-! ## Bytes -/
def bytesV (l : List UInt8) : List Value := l.map fun b => Value.int .u8 b.toNat
theorem bytesV_len (l : List UInt8) : (bytesV l).length = l.length := by simp [bytesV]
theorem bytesV_append (a b : List UInt8) : bytesV (a ++ b) = bytesV a ++ bytesV b := by simp [bytesV]
theorem bytesV_one (l : List UInt8) : ∀ u ∈ bytesV l, u.oneCell' = true := by
 intro u hu
 simp only [bytesV, List.mem_map] at hu
 obtain ⟨b, _, rfl⟩ := hu
 rfl
theorem infoByte : (Tryz.prog.info? 5).map (fun i => (i.zero, i.size, i.bytes)) = some (some (.int .u8 0), 1, 1) := by kernel_rfl
def Buf (w : World) (v : Value) (l : List UInt8) : Prop := w.ownsRow 0 5 1 v l.length (bytesV l)
theorem buf_nil (w : World) : Buf w (.slice none 0 0) [] := World.ownsRow_nil w 0 _ 1
theorem Buf.keep {w w' : World} {v : Value} {l : List UInt8} {S : List Nat} (h : Buf w v l) (k : Keeps S w w') (hS : ∀ g, v.ownBlock = some g → g ∉ S) : Buf w' v l := k.row h hS
theorem Buf.same {w w' : World} {v : Value} {l : List UInt8} (h : Buf w v l) (k : Keeps [] w w') : Buf w' v l := h.keep k (by simp)
theorem Buf.lt {w : World} {v : Value} {l : List UInt8} (h : Buf w v l) : ∀ g, v.ownBlock = some g → g < w.heap.size := fun g hg => (World.ownsRow.lt h g hg).2
def BufPost (w : World) (v : Value) (l : List UInt8) (e : Ending) (w' : World) : Prop := ∃ v', e = .returned v' ∧ Buf w' v' l ∧ Turns v w v' w'
section
variable {ops : Array Oper} {rest : List Oper} {o : Oper} {a : Act} {Q : Exit → Act → World → Prop}
theorem buf_append {w : World} (hgd : o.guard = none) (s x : Operand) (ho : o.op = .call { callee := .builtin .append, args := #[s, x], argTypes := #[138, 138] })
  (v : Value) (l : List UInt8) (hs : a.eval s = v) (hb : Buf w v l) (ad : Addr) (m c : Nat) (news : List UInt8) (hm : news.length = m) (hx : a.eval x = .slice (some ad) m c) (hnews : ∀ j u, (bytesV news)[j]? = some u → w.cell? (ad.add j) = some u)
  (h63 : l.length + m ≤ 140737488355328) (h : ∀ v' w', Buf w' v' (l ++ news) → Turns v w v' w' → wpList Tryz.prog ops Q rest (a.put o.dst v') w') : wpList Tryz.prog ops Q (o :: rest) a w := by
 obtain ⟨i, hi, hz0, hz1, hz2⟩ := info_parts infoByte
 refine wpList_plain hgd fun K hK => ?_
 obtain ⟨v', w', hr, h2, h3⟩ := run_append_turns (P := Tryz.prog) w 0 138 o.type 5 i _ 1 1 Tryz.underlying138 hi hz0 hz1 hz2 rfl (by decide) v _ _ hb ad m c (bytesV news) (by rw [bytesV_len, hm, Nat.mul_one]) hnews (bytesV_one _) (by simp only [maxLen]; omega) (by omega) (Nat.zero_le _)
 unfold Oper.wp execOp
 simp only [ho, resolve, invoke, builtin, Sem.run_bind, Sem.run_pure, Result.andThen_ok, List.map_toArray, List.map_cons, List.map_nil, hs, hx, hr]
 exact hK _ _ (h v' w' (by unfold Buf; rw [bytesV_append, List.length_append, hm]; exact h2) h3)
theorem buf_append_str {w : World} (hgd : o.guard = none) (s x : Operand) (ho : o.op = .call { callee := .builtin .append, args := #[s, x], argTypes := #[138, 9] })
  (v : Value) (l : List UInt8) (hs : a.eval s = v) (hb : Buf w v l) (st : ByteArray) (hx : a.eval x = .string st)
  (h63 : l.length + st.size ≤ 140737488355328) (h : ∀ v' w', Buf w' v' (l ++ st.data.toList) → Turns v w v' w' → wpList Tryz.prog ops Q rest (a.put o.dst v') w') : wpList Tryz.prog ops Q (o :: rest) a w := by
 obtain ⟨i, hi, hz0, hz1, hz2⟩ := info_parts infoByte
 refine wpList_plain hgd fun K hK => ?_
 obtain ⟨v', w', hr, h2, h3⟩ := run_append_turns_str (P := Tryz.prog) w 0 138 9 o.type 5 i Tryz.underlying138 Tryz.underlying9 hi hz0 hz1 hz2 v _ _ hb st (by simp only [maxLen]; omega) (by omega) (Nat.zero_le _)
 unfold Oper.wp execOp
 simp only [ho, resolve, invoke, builtin, Sem.run_bind, Sem.run_pure, Result.andThen_ok, List.map_toArray, List.map_cons, List.map_nil, hs, hx, hr]
 have hl : st.data.toList.length = st.size := by simp
 exact hK _ _ (h v' w' (by unfold Buf; rw [bytesV_append, List.length_append, hl]; exact h2) h3)
end
theorem cells_new {w : World} {b : Nat} {xs : List Value} {t : TypeId} {f : Nat × Nat} (h : w.heap[b]? = some (.cells xs.toArray t f)) : ∀ j u, xs[j]? = some u → w.cell? ((⟨b, 0, none⟩ : Addr).add j) = some u := by
 intro j u hj
 rw [Addr.add_lit, Nat.zero_add, cells_at h]
 simpa using hj
theorem Buf.run_string {w : World} {v : Value} {l : List UInt8} (h : Buf w v l) : (convert 138 9 v).run Tryz.prog w = .ok (.string ⟨l.toArray⟩) w := by
 rcases h.2 with ⟨rfl, hn⟩ | ⟨g, cap, cur, rfl, hbg, hg, hnc, hcm, hcs, htake⟩
 ·have : l = [] := List.eq_nil_of_length_eq_zero hn
  subst this
  exact Lib.run_convert_nil_bytes w _ _ 5 0 Tryz.underlying138 Tryz.underlying5 Tryz.underlying9
 ·have hc : Lib.Bytes w g 0 ⟨l.toArray⟩ := by
   intro i hi
   have hil : i < l.length := hi
   have h1 := World.ownsRow.cellAt h i (by omega)
   rw [Nat.zero_add]
   have h2 : (bytesV l)[i]? = some (.int .u8 (l[i].toNat : Int)) := by simp [bytesV, hil]
   rw [h2] at h1
   exact h1
  have hr := Lib.run_convert_whole (P := Tryz.prog) w 138 5 9 Tryz.underlying138 Tryz.underlying5 Tryz.underlying9 g 0 ⟨l.toArray⟩ hc cap
  exact hr
end Go.Proofs.YtgdkceeonnfejaaGreatDoor
