/-
  Plain law: the document's Crash tells the files that the disk's Crash leaves.
  No program in sight.
-/
import Derived.Test.YthcdodjdlgeeoaaDiskJoin
namespace Go.Proofs.Ythcdodjdlgeeoaa
open Go Go.RowKit

theorem crash_fold (ch : List Int) : ∀ (M G oc : List (ByteArray × Ob)) (k : Nat), (M.map (·.1)).Nodup → (∀ p ∈ M, look oc p.1 = some p.2) →
    (M.foldl (refStep ch) (G, k)).1 = G ++ M.map (fun p => (p.1, obOr (look ((M.map (·.1)).foldl (crashStep ch) (oc, k)).1 p.1))) ∧
    ∀ n, n ∉ M.map (·.1) → look ((M.map (·.1)).foldl (crashStep ch) (oc, k)).1 n = look oc n
  | [], G, oc, k, _, _ => ⟨by simp, fun _ _ => rfl⟩
  | p :: M, G, oc, k, hn, hl => by
    obtain ⟨n, x⟩ := p
    simp only [List.map_cons, List.nodup_cons] at hn
    have hx : look oc n = some x := hl (n, x) (by simp)
    simp only [List.map_cons, List.foldl_cons]
    have hcs : crashStep ch (oc, k) n = if x.1.size - x.2.toNat = 0 then (oc, k) else (put oc n (x.1.extract 0 (x.2.toNat + keepOf ch k (x.1.size - x.2.toNat)), ((x.2.toNat + keepOf ch k (x.1.size - x.2.toNat) : Nat) : Int)), k + 1) := by
      unfold crashStep
      simp only [hx, obOr, Option.getD_some]
    have hrs : refStep ch (G, k) (n, x) = if x.1.size - x.2.toNat = 0 then (G ++ [(n, x)], k) else (G ++ [(n, (x.1.extract 0 (x.2.toNat + keepOf ch k (x.1.size - x.2.toNat)), ((x.2.toNat + keepOf ch k (x.1.size - x.2.toNat) : Nat) : Int)))], k + 1) := rfl
    rw [hcs, hrs]
    by_cases hz : x.1.size - x.2.toNat = 0
    · rw [if_pos hz, if_pos hz]
      obtain ⟨h1, h2⟩ := crash_fold ch M (G ++ [(n, x)]) oc k hn.2 (fun p hp => hl p (by simp [hp]))
      refine ⟨?_, fun m hm => ?_⟩
      · rw [h1, h2 n hn.1, hx]
        simp [obOr]
      · simp only [List.mem_cons, not_or] at hm
        exact h2 m hm.2
    · rw [if_neg hz, if_neg hz]
      generalize (x.1.extract 0 (x.2.toNat + keepOf ch k (x.1.size - x.2.toNat)), ((x.2.toNat + keepOf ch k (x.1.size - x.2.toNat) : Nat) : Int)) = y
      obtain ⟨h1, h2⟩ := crash_fold ch M (G ++ [(n, y)]) (put oc n y) (k + 1) hn.2 (fun p hp => by
        rw [look_put, if_neg (fun e => hn.1 (by rw [← e]; exact List.mem_map.2 ⟨p, hp, rfl⟩))]
        exact hl p (by simp [hp]))
      refine ⟨?_, fun m hm => ?_⟩
      · rw [h1, h2 n hn.1, look_put, if_pos rfl]
        simp [obOr]
      · simp only [List.mem_cons, not_or] at hm
        rw [h2 m hm.2, look_put, if_neg hm.1]

theorem crash_keys (ch : List Int) : ∀ (M : List ByteArray) (s : List (ByteArray × Ob) × Nat), (∀ n ∈ M, n ∈ s.1.map (·.1)) → (M.foldl (crashStep ch) s).1.map (·.1) = s.1.map (·.1)
  | [], _, _ => rfl
  | n :: M, s, h => by
    have h1 := (crash_step_keep ch s n (h n (by simp))).1
    rw [List.foldl_cons, crash_keys ch M _ (fun m hm => by rw [h1]; exact h m (by simp [hm])), h1]

theorem full_crash {o : List (ByteArray × Ob)} (hn : (o.map (·.1)).Nodup) (ch : List Int) : full (crashO ch o) = refCrash ch (full o) := by
  have hnames : names o ⟨#[]⟩ = (full o).map (·.1) := by
    rw [full_keys]
    unfold names
    exact List.filter_eq_self.2 fun n _ => hasPre_nil n
  have e1 : crashO ch o = (((full o).map (·.1)).foldl (crashStep ch) (o, 0)).1 := by
    unfold crashO crashK
    rw [hnames, List.take_length]
  have e2 : refCrash ch (full o) = ((full o).foldl (refStep ch) ([], 0)).1 := by
    unfold refCrash refK
    rw [List.take_length]
  obtain ⟨h1, _⟩ := crash_fold ch (full o) [] o 0 (full_nodup hn) (fun p hp => (full_sorts.mem p.1 p.2).1 hp)
  have hk : (((full o).map (·.1)).foldl (crashStep ch) (o, 0)).1.map (·.1) = o.map (·.1) := crash_keys ch _ _ fun n hm => by
    rw [← hnames] at hm
    exact mem_names hm
  rw [e2, h1, List.nil_append, e1, full_eq, sortedKeys, hk, ← sortedKeys, ← full_keys, List.map_map]
  rfl

theorem crash_nodup {o : List (ByteArray × Ob)} (hn : (o.map (·.1)).Nodup) (ch : List Int) : ((crashO ch o).map (·.1)).Nodup := by
  have hk : (crashO ch o).map (·.1) = o.map (·.1) := crash_keys ch _ (o, 0) fun n hm => mem_names (List.mem_of_mem_take hm)
  rw [hk]
  exact hn
end Go.Proofs.Ythcdodjdlgeeoaa
