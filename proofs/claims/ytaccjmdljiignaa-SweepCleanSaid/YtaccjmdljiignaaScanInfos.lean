/-
  What a scan has listed (package scan): Infos.
  As in the scan's file.
-/
import Derived.Test.YtaccjmdljiignaaScanGot
import Derived.Laws.OwnMore
namespace Go.Proofs.Ytaccjmdljiignaa
open Go Go.RowKit

/-- append, where its run is known. -/
theorem wpList_append_run {P : Program} {ops : Array Oper} {rest : List Oper} {o : Oper} {a : Act} {w : World} {Q : Exit → Act → World → Prop} (hgd : o.guard = none) (s x : Operand) (t : TypeId)
    (ho : o.op = .call { callee := .builtin .append, args := #[s, x], argTypes := #[t, t] }) (v u : Value) (hs : a.eval s = v) (hx : a.eval x = u) (v' : Value) (w' : World)
    (hr : (Builtin.append_ #[t, t] o.type #[v, u]).run P w = .ok v' w') (h : wpList P ops Q rest (a.put o.dst v') w') : wpList P ops Q (o :: rest) a w := by
  refine wpList_plain hgd fun K hK => ?_
  unfold Oper.wp execOp
  simp only [ho, resolve, invoke, builtin, Sem.run_bind, Sem.run_pure, Result.andThen_ok, List.map_toArray, List.map_cons, List.map_nil, hs, hx, hr]
  exact hK _ _ h

def InfosPost (w : World) (S : ScanS) (e : Ending) (w' : World) : Prop :=
  ∃ v, e = .returned v ∧ SliceFrom w.heap.size 3 infoOf w' v S.infos ∧ Keeps [] w w'

set_option maxRecDepth 100000 in
set_option maxHeartbeats 1000000 in
/-- A copy of a slice of what a listing tells. -/
theorem infos_copy {B1 : Nat} {w : World} {v : Value} {L : List (ByteArray × Ob)} (h : SliceFrom B1 3 infoOf w v L) (hl : L.length ≤ 1000000000) :
    ∃ v' w', (Builtin.append_ #[84, 84] 84 #[.slice (some ⟨w.heap.size, 0, none⟩) 0 0, v]).run Try.prog (w.alloc (.cells #[] 87)) = .ok v' w' ∧
      SliceFrom w.heap.size 3 infoOf w' v' L ∧ Keeps [] w w' := by
  obtain ⟨ii, hii, hz0, hz1, hz2⟩ := info_parts infoInfo
  have hown : (w.alloc (.cells #[] 87)).ownsRow w.heap.size 87 3 (.slice (some ⟨w.heap.size, 0, none⟩) 0 0) 0 [] :=
    ⟨rfl, .inr ⟨w.heap.size, 0, #[], rfl, Nat.le_refl _, heap_new w _, Nat.le_refl _, by simp [maxLen], rfl, rfl⟩⟩
  have ka : Keeps [] w (w.alloc (.cells #[] 87)) := (Keeps.refl [] w).alloc _
  obtain ⟨ao, cap, rfl, h1, h2, h3, hx⟩ := h
  cases L with
  | nil =>
    cases ao with
    | none =>
      obtain rfl := h3 rfl
      exact ⟨_, _, run_append_owned_none (P := Try.prog) (w := w.alloc (.cells #[] 87)) w.heap.size 84 84 87 ii 3 Try.underlying84 hii _ 0 [] hown, sliceFrom_row (enc := infoOf) (size := 3) (fun _ => rfl) hown, ka⟩
    | some ad =>
      obtain ⟨v', w', hr, ho, hg, _⟩ := run_append_own (P := Try.prog) (w.alloc (.cells #[] 87)) w.heap.size 84 84 87 ii _ 3 32 Try.underlying84 hii hz0 hz1 hz2 rfl (by decide) _ 0 [] hown ad 0 cap [] (by simp) (fun j u hu => by simp at hu) (fun u hu => by cases hu) (by simp [maxLen]) (by simp) (by simp)
      exact ⟨v', w', hr, sliceFrom_row (enc := infoOf) (size := 3) (L := []) (fun _ => rfl) ho, keeps_grown ka hg (fun q hq => (hown.lt q hq).1)⟩
  | cons y L =>
    obtain ⟨b2, of2, rfl, hb, hlt, hc⟩ := hx 0 (by simp)
    obtain ⟨v', w', hr, ho, hg, _⟩ := run_append_own (P := Try.prog) (w.alloc (.cells #[] 87)) w.heap.size 84 84 87 ii _ 3 32 Try.underlying84 hii hz0 hz1 hz2 rfl (by decide) _ 0 [] hown ⟨b2, of2, none⟩ (y :: L).length cap ((y :: L).flatMap infoOf)
      (by induction (y :: L) with
          | nil => rfl
          | cons a l ih => simp only [List.flatMap_cons, List.length_append, ih, List.length_cons, infoOf, List.length_nil]; omega)
      (fun j u hu => by
        have hjl : j < (y :: L).length * 3 := by
          have hq := (List.getElem?_eq_some_iff.1 hu).1
          have hlen : ∀ l : List (ByteArray × Ob), (l.flatMap infoOf).length = l.length * 3 := fun l => by
            induction l with
            | nil => rfl
            | cons a l ih => simp only [List.flatMap_cons, List.length_append, ih, List.length_cons, infoOf, List.length_nil]; omega
          rwa [hlen] at hq
        have hk : j / 3 < (y :: L).length := by omega
        obtain ⟨b', o', e', _, hlt', hcell⟩ := hx (j / 3) hk
        injection e' with e'
        injection e' with e1 e2 _
        subst e1 e2
        have hr := hcell (j % 3) (by omega)
        rw [← flatMap_at infoOf 3 (fun _ => rfl) (y :: L) (j / 3) hk (j % 3) (by omega), show j / 3 * 3 + j % 3 = j from by omega, hu] at hr
        have hadd : (⟨b2, of2, none⟩ : Addr).add j = ⟨b2, of2 + j, none⟩ := by unfold Addr.add; split <;> simp_all
        rw [hadd]
        exact (ka.cell hlt (by simp)).trans hr)
      (fun u hu => by
        obtain ⟨p, _, hp⟩ := List.mem_flatMap.1 hu
        simp only [infoOf, List.mem_cons, List.not_mem_nil, or_false] at hp
        rcases hp with rfl | rfl | rfl <;> rfl)
      (by simp only [maxLen]; omega) (by omega) (by simp)
    rw [Nat.zero_add, List.nil_append] at ho
    exact ⟨v', w', hr, sliceFrom_row (enc := infoOf) (size := 3) (fun _ => rfl) ho, keeps_grown ka hg (fun q hq => (hown.lt q hq).1)⟩


set_option maxRecDepth 100000 in
set_option maxHeartbeats 1000000 in
theorem scanInfos_spec {X : Nat} (w : World) (B q gb : Nat) (S : ScanS) (h : ScanAt X w B q gb S) (hl : S.infos.length ≤ 1000000000) : Calls Try.prog 74 #[.pointer (some ⟨q, 0, none⟩)] w (InfosPost w S) := by
  obtain ⟨_, _, B1, vi, vw, _, _, h5, h6, _, _, _⟩ := h
  obtain ⟨v', w', hr, hs, hk⟩ := infos_copy h6 hl
  have H := Lib.hid (And.intro hs hk)
  have Hr := Lib.hid hr
  clear hr
  have c5 := cells_at ((((Keeps.refl [] w).alloc (.cells #[] 87)).at_ h5 (by simp)))
  have l5 := lt_of_at h5
  clear h5 h6 hs hk
  go_enter Try.func74, Try.ntmps74
  go_wp2_with (at_builtin; refine wpList_append_run rfl (.tmp 3) (.tmp 7) 84 rfl _ _ rfl rfl v' w' Hr.out ?_)
  go_ret
  exact ⟨v', rfl, H.out.1, H.out.2⟩
end Go.Proofs.Ytaccjmdljiignaa
