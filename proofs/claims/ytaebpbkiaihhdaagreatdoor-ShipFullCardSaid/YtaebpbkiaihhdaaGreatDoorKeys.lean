/-
  The keys of a map of strings, sorted: the bridge from MapAt to the shelf's contract on slices.Sorted(maps.Keys(m)); comparing strings.
  No condition beyond those that each theorem states.

  The bucket's Look, List and Peek: what they tell of the objects.
  Each holds for every world in which the bucket's blocks are laid as BucketAt says.

  The bucket's List: what it tells of the objects.
  It holds for every world in which the bucket's blocks are laid as BucketAt says.
-/
import Derived.Test.YtaebpbkiaihhdaaGreatDoorMap
import Derived.Test.YtaebpbkiaihhdaaGreatDoorIter
import Derived.Maps.Views
import Derived.Test.YtaebpbkiaihhdaaGreatDoorFuse
import Derived.Deep.RegionHeld3
import Derived.Deep.LoopGhost
import Derived.Deep.RegionLaw
namespace Go.Proofs.YtaebpbkiaihhdaaGreatDoor
open Go Go.RowKit

/-- How any value reads, for a map of which the keys alone are asked. -/
def anyR : Value → Option (DataW Unit × List MemPlace) := fun _ => some (.lit (.bool true), [])


/-- Byte strings, rising. -/
def sortB (l : List ByteArray) : List ByteArray := ((l.map (·.data.toList)).mergeSort leB).map fun l => ⟨l.toArray⟩


theorem sortB_perm (l : List ByteArray) : (sortB l).Perm l := by
  have h := (List.mergeSort_perm (l.map (·.data.toList)) leB).map (fun l : List UInt8 => (⟨l.toArray⟩ : ByteArray))
  refine h.trans ?_
  rw [List.map_map]
  have : ((fun l : List UInt8 => (⟨l.toArray⟩ : ByteArray)) ∘ fun x : ByteArray => x.data.toList) = id := by
    funext x
    exact ba_mk x
  rw [this, List.map_id]


theorem sortB_length (l : List ByteArray) : (sortB l).length = l.length := (sortB_perm l).length_eq


theorem sortB_congr {l l' : List ByteArray} (h : l.Perm l') : sortB l = sortB l' := by
  unfold sortB
  rw [mergeSort_of_perm (h.map _)]


theorem MapAt.owns {P : Program} {kt : TypeId} {w : World} {b : Nat} {m : KV} (h : MapAt w b m) (hk : P.underlying kt = some .string) (hsz : ∀ p ∈ m, p.1.size ≤ maxLen) (hl : m.length ≤ maxLen) :
    ∃ D : DataW Unit, w.ownsMap P kt anyR b m.length D ∧ (strKeys D).Perm (m.map (·.1.data.toList)) ∧ Maps.size D = m.length := by
  obtain ⟨E, c, h1, h2, rfl⟩ := h
  have hlen : (pairs E).length = E.length := by simp [pairs]
  have hkey : ∀ t ∈ E, keyOf P kt (.string t.1) = some (.string t.1.data.toList) := fun t ht =>
    Go.WideMaps.keyOf_string_mk hk (hsz (t.1, t.2.1) (by simp only [pairs, List.mem_map]; exact ⟨t, ht, rfl⟩))
  have hrg : ∀ t ∈ E, Go.WideElems.rg P kt anyR (entry t) = (.string t.1.data.toList, .lit (.bool true)) := fun t ht => by
    simp [Go.WideElems.rg, Go.WideElems.rd, entry, hkey t ht, anyR]
  refine ⟨_, ⟨_, c, h1, ⟨?_, ?_, ?_⟩, ?_, rfl⟩, ?_, ?_⟩
  · simpa [hlen] using hl
  · refine ⟨?_, ?_, ?_⟩
    · intro x hx
      simp only [List.mem_map] at hx
      obtain ⟨t, ht, rfl⟩ := hx
      exact h2.lt t ht
    · rw [List.map_map]
      rw [List.nodup_iff_pairwise_ne]
      exact List.pairwise_map.2 (h2.born.imp_of_mem fun _ _ hab => Nat.ne_of_lt hab)
    · rw [List.map_map]
      have := h2.nodup
      refine List.pairwise_map.2 ?_
      exact (List.pairwise_map.1 this).imp_of_mem fun {a b} _ _ hne e => hne (by simpa [entry] using e)
  · intro x hx
    simp only [List.mem_map] at hx
    obtain ⟨t, ht, rfl⟩ := hx
    exact ⟨_, by simp [Go.WideElems.rd, entry, hkey t ht, anyR]; rfl⟩
  · simp [hlen]
  · have hmap : (E.map entry).map (Go.WideElems.rg P kt anyR) = E.map fun t => ((.string t.1.data.toList, .lit (.bool true)) : Lit × DataW Unit) := by
      rw [List.map_map]
      exact List.map_congr_left fun t ht => hrg t ht
    show ((((E.map entry).toArray.toList.map (Go.WideElems.rg P kt anyR)).foldr DataW.insert []).map fun p => strOf p.1).Perm _
    rw [show (E.map entry).toArray.toList = E.map entry from rfl, hmap]
    refine ((Go.WideShapes.sorted_perm _).map _).trans ?_
    simp [pairs, strOf, Function.comp_def]
  · show (((E.map entry).toArray.toList.map (Go.WideElems.rg P kt anyR)).foldr DataW.insert []).length = _
    rw [length_sorted]
    simp [pairs]


/-- What the shelf's contract gives, in the words of this seat. -/
theorem sorted_of {D : DataW Unit} {m : KV} {ss : List (List UInt8)} {w' : World} {base : Nat} {kt : TypeId} {v : Value} (hp : ss.Perm (strKeys D)) (hD : (strKeys D).Perm (m.map (·.1.data.toList)))
    (h : w'.ownsRow base kt 1 v ss.length ((ss.mergeSort (fun x y => decide (x ≤ y))).map encStr)) :
    w'.ownsRow base kt 1 v (sortB (m.map (·.1))).length ((sortB (m.map (·.1))).map Value.string) := by
  have e1 : ss.mergeSort leB = ((m.map (·.1)).map (·.data.toList)).mergeSort leB := by
    rw [List.map_map]
    exact mergeSort_of_perm (hp.trans hD)
  have e2 : (sortB (m.map (·.1))).map Value.string = (ss.mergeSort leB).map encStr := by
    rw [e1]
    unfold sortB
    rw [List.map_map]
    rfl
  have e3 : (sortB (m.map (·.1))).length = ss.length := by
    rw [sortB_length, List.length_map, (hp.trans hD).length_eq, List.length_map]
  rw [e2, e3]
  exact h

end Go.Proofs.YtaebpbkiaihhdaaGreatDoor

namespace Go.Proofs.YtaebpbkiaihhdaaGreatDoor
open Go Go.RowKit Go.Conc

/-- Does a text begin so? -/
def hasPre (s p : ByteArray) : Bool := decide (p.size ≤ s.size) && decide (s.extract 0 p.size = p)


set_option maxHeartbeats 400000 in
theorem hasPrefix_any (s p : ByteArray) (w : World) :
    Calls Tryz.prog 42 #[.string s, .string p] w fun e w' => e = .returned (.bool (hasPre s p)) ∧ w = w' := by
  by_cases hle : p.size ≤ s.size
  · go_enter Tryz.func42, Tryz.ntmps42
    go_wp2
    go_ret
    exact ⟨by simp [hasPre, hle, toList_beq], rfl⟩
  · go_enter Tryz.func42, Tryz.ntmps42
    go_wp2
    go_ret
    exact ⟨by simp [hasPre, hle], rfl⟩


/-- The keys, rising. -/
def sortedKeys (o : List (ByteArray × Ob)) : List ByteArray := sortB (o.map (·.1))

def listing (o : List (ByteArray × Ob)) (pre : ByteArray) : List (ByteArray × Ob) := ((sortedKeys o).filter (hasPre · pre)).map fun n => (n, obOr (look o n))

def infoOf (p : ByteArray × Ob) : List Value := [.string p.1, .int .i64 p.2.1.size, .int .i64 p.2.2]


set_option maxRecDepth 100000 in
set_option maxHeartbeats 1000000 in
theorem peek_spec (w : World) (b f c mb : Nat) (armed : Bool) (Q : List (Int × Bool)) (o : List (ByteArray × Ob)) (h : BucketAt w b f c mb armed Q o) (name : ByteArray) :
    Calls Tryz.prog 15 #[.pointer (some ⟨b, 0, none⟩), .string name] w fun e w' => e = .returned (.tuple #[.string (obOr (look o name)).1, .bool (look o name).isSome]) ∧ Keeps [] w w' := by
  have cb := cells_at h.cells
  obtain ⟨l0, lf, lc, lm⟩ := h.lt
  have hrun := h.map.run_lookup (P := Tryz.prog) Tryz.underlying45 Tryz.underlying9 (zeroOb _) name true
  cases hlk : look o name with
  | none =>
    simp only [lookVal, look_enc, hlk, Option.map_none, Option.getD_none, Option.isSome_none, if_true] at hrun
    clear hlk
    go_enter Tryz.func15, Tryz.ntmps15
    go_wp2
    go_ret2
    exact ⟨rfl, (Keeps.refl _ _).alloc _⟩
  | some x =>
    simp only [lookVal, look_enc, hlk, Option.map_some, Option.getD_some, Option.isSome_some, if_true, encOb] at hrun
    clear hlk
    go_enter Tryz.func15, Tryz.ntmps15
    go_wp2
    go_ret2
    exact ⟨rfl, (Keeps.refl _ _).alloc _⟩


theorem infoInfo : (Tryz.prog.info? 51).map (fun i => (i.zero, i.size, i.bytes)) = some (some (.agg #[.string ⟨#[]⟩, .int .i64 0, .int .i64 0]), 3, 32) := by kernel_rfl


/-- The contract of slices.Sorted(maps.Keys(m)) at the bucket's map. -/
theorem sortedKeys_call (w : World) (mb : Nat) (o : List (ByteArray × Ob)) (h : MapAt w mb (encMap encOb o)) (hk : ∀ p ∈ o, p.1.size ≤ maxLen) (hl : o.length * 16 ≤ 140737488355328) :
    Calls Tryz.prog 40 #[.func (.func 80) #[] #[.pointer (some ⟨w.heap.size, 0, none⟩)]] (w.alloc (.cells #[.map (some mb)] 45))
      fun e w' => ∃ v, e = .returned v ∧ w'.ownsRow (w.heap.size + 1) 9 1 v (sortedKeys o).length ((sortedKeys o).map Value.string) ∧ Keeps [] w w' := by
  obtain ⟨D, hown, hD, hsz⟩ := h.owns (P := Tryz.prog) Tryz.underlying9 (fun p hp => by
    simp only [encMap, List.mem_map] at hp
    obtain ⟨q, hq, rfl⟩ := hp
    exact hk q hq) (by simp only [encMap, List.length_map, maxLen]; omega)
  have hlen : (encMap encOb o).length = o.length := by simp [encMap]
  refine (callsIn_wide.1 (Tryz.slices_Sorted_keys_40_41 mb _ D anyR w hown (by rw [hsz, hlen]; simp only [maxLen]; omega) (by rw [hsz, hlen]; omega))).mono ?_
  rintro e w' ⟨v, ss, rfl, hp, hrow, _, hb⟩
  have := sorted_of hp hD hrow
  rw [keys_enc] at this
  refine ⟨v, rfl, ?_, (Keeps.refl [] w).alloc _ |>.trans (Keeps.of_below hb)⟩
  simpa [sortedKeys] using this


/-- maps.Keys: a function value over one new block. -/
theorem mapKeys_call (w : World) (mb : Nat) :
    Calls Tryz.prog 41 #[.map (some mb)] w
      fun e w' => e = .returned (.func (.func 80) #[] #[.pointer (some ⟨w.heap.size, 0, none⟩)]) ∧ w' = w.alloc (.cells #[.map (some mb)] 45) :=
  callsIn_wide.1 (Tryz.maps_Keys_41 (some mb) w)


theorem Keeps.keep_bucket {w w' : World} (k : Keeps [] w w') {b f c mb : Nat} {armed : Bool} {Q : List (Int × Bool)} {o : List (ByteArray × Ob)} (h : BucketAt w b f c mb armed Q o) : BucketAt w' b f c mb armed Q o := h.keep k (by simp) (by simp) (by simp) (by simp)


theorem fieldOb (s : ByteArray) (n : Int) (w : World) : (Instr.field 98 (.agg #[.string s, .int .i64 n]) 0).run Tryz.prog w = .ok (.string s) w := by kernel_rfl

theorem fieldOb2 (s : ByteArray) (n : Int) (w : World) : (Instr.field 98 (.agg #[.string s, .int .i64 n]) 1).run Tryz.prog w = .ok (.int .i64 n) w := by kernel_rfl


/-- What has been told of the first k keys. -/
def told (ks : List ByteArray) (o : List (ByteArray × Ob)) (pre : ByteArray) (k : Nat) : List (ByteArray × Ob) := ((ks.take k).filter (hasPre · pre)).map fun n => (n, obOr (look o n))

theorem told_yes (ks : List ByteArray) (o : List (ByteArray × Ob)) (pre : ByteArray) (k : Nat) (hk : k < ks.length) (h : hasPre ks[k] pre = true) : told ks o pre (k + 1) = told ks o pre k ++ [(ks[k], obOr (look o ks[k]))] := by
  unfold told
  rw [List.take_succ_eq_append_getElem hk, List.filter_append, List.map_append]
  simp [h]

theorem told_no (ks : List ByteArray) (o : List (ByteArray × Ob)) (pre : ByteArray) (k : Nat) (hk : k < ks.length) (h : hasPre ks[k] pre = false) : told ks o pre (k + 1) = told ks o pre k := by
  unfold told
  rw [List.take_succ_eq_append_getElem hk, List.filter_append, List.map_append]
  simp [h]

theorem told_le (ks : List ByteArray) (o : List (ByteArray × Ob)) (pre : ByteArray) (k : Nat) : (told ks o pre k).length ≤ k := by
  unfold told
  rw [List.length_map]
  exact Nat.le_trans (List.length_filter_le _ _) (by rw [List.length_take]; omega)

theorem lookVal_ob (o : List (ByteArray × Ob)) (n : ByteArray) : lookVal (encMap encOb o) n (.agg #[.string ⟨#[]⟩, .int .i64 0]) false = .agg #[.string (obOr (look o n)).1, .int .i64 (obOr (look o n)).2] := by
  unfold lookVal
  rw [look_enc]
  cases look o n <;> rfl


def LookL (w : World) (L : List (ByteArray × Ob)) (e : Ending) (w' : World) : Prop :=
  ∃ v, e = .returned v ∧ w'.ownsRow w.heap.size 51 3 v L.length (L.flatMap infoOf) ∧ Keeps [] w w'


/-- The loop's relation. -/
def LookRel (w1 : World) (ks : List ByteArray) (o : List (ByteArray × Ob)) (pre : ByteArray) (gk : Nat) (v i : Value) (wr : World) : Prop :=
  ∃ k, k ≤ ks.length ∧ i = .int .i64 k ∧ gk = ks.length - k ∧ wr.ownsRow w1.heap.size 51 3 v (told ks o pre k).length ((told ks o pre k).flatMap infoOf) ∧ Below w1.heap.size w1 wr


set_option maxRecDepth 100000 in
set_option maxHeartbeats 1000000 in
theorem look_spec (w : World) (b f c mb : Nat) (armed : Bool) (Q : List (Int × Bool)) (o : List (ByteArray × Ob)) (h : BucketAt w b f c mb armed Q o) (pre : ByteArray)
    (hk : ∀ p ∈ o, p.1.size ≤ maxLen) (hd : ∀ n, (obOr (look o n)).1.size ≤ 9223372036854775807) (hl : o.length * 32 ≤ 140737488355328) :
    Calls Tryz.prog 14 #[.pointer (some ⟨b, 0, none⟩), .string pre] w (LookL w (listing o pre)) := by
  have cb := cells_at h.cells
  obtain ⟨l0, lf, lc, lm⟩ := h.lt
  obtain ⟨ii, hii, hz0, hz1, hz2⟩ := info_parts infoInfo
  have hfd := fieldOb
  have hfd2 := fieldOb2
  go_enter Tryz.func14, Tryz.ntmps14
  go_wp2_with fail
  refine (mapKeys_call w mb).mono ?_
  rintro e w1 ⟨rfl, rfl⟩
  go_wp2_with fail
  refine (sortedKeys_call w mb o h.map hk (by omega)).mono ?_
  rintro e w1 ⟨v0, rfl, hrow, hk1⟩
  have hlen : (sortedKeys o).length = o.length := by simp [sortedKeys, sortB_length]
  have Hfin : Hid (listing o pre = told (sortedKeys o) o pre (sortedKeys o).length) := by
    apply Lib.hid
    simp [listing, told]
  generalize sortedKeys o = ks at hrow hlen Hfin
  obtain ⟨ao, cap, rfl, hcap, hcap2, hcell⟩ := row_slice hrow
  have Hc := Lib.hid hcell
  have Hrow := Lib.hid hrow
  have Hlen := Lib.hid hlen
  clear hcell hrow hlen
  unfold maxLen at hcap2
  have hB1 := hk1.keep_bucket h
  go_wp2_with fail
  go_loopg [5, 15] ks.length (LookRel w1 ks o pre)
  case atStart => exact ⟨0, Nat.zero_le _, rfl, rfl, by simpa [told] using World.ownsRow_nil w1 _ _ 3, Below.refl _ _⟩
  case round =>
    obtain ⟨k, hkl, rfl, hgk, hown, hbel⟩ := hrel
    have Hg := Lib.hid hgk
    clear hgk
    by_cases hlt : k < ks.length
    · obtain ⟨g, rfl, hg1, hg2, hg3⟩ := Hc.out k (by omega)
      have hck : wr.cell? ⟨g, k, none⟩ = some (.string ks[k]) := by
        rw [hbel.cell (p := ⟨g, k, none⟩) hg2, hg3]
        simp [hlt]
      have lg := lt_more (Nat.lt_of_lt_of_le hg2 hbel.size)
      have Hb := Lib.hid hbel
      have Ho := Lib.hid hown
      clear hbel hown
      have hcap3 : k < cap := by omega
      cases hpb : hasPre ks[k] pre with
      | false =>
        have Hpb := Lib.hid hpb
        clear hpb
        go_wp2_with (go_at_call 42; refine (hasPrefix_any _ _ _).mono ?_; rintro e w' ⟨rfl, rfl⟩; rw [Hpb.out])
        go_roundg (ks.length - (k + 1))
        case measure => have := Hg.out; omega
        case rel => exact ⟨k + 1, by omega, by go_num, rfl, by rw [told_no _ _ _ _ hlt Hpb.out]; exact Ho.out, Hb.out⟩
      | true =>
        have Hpb := Lib.hid hpb
        clear hpb
        have hBr := (Keeps.of_below Hb.out).keep_bucket hB1
        have cbr := cells_at hBr.cells
        have hrun := (hBr.map.drew).run_lookup (P := Tryz.prog) Tryz.underlying45 Tryz.underlying9 (zeroOb _) ks[k] false
        rw [lookVal_ob] at hrun
        have hsz := hd ks[k]
        go_wp2_with (go_at_call 42; refine (hasPrefix_any _ _ _).mono ?_; rintro e w' ⟨rfl, rfl⟩; rw [Hpb.out])
        have hown := Ho.out
        have hle := told_le ks o pre k
        have hlen := Nat.le_of_eq Hlen.out
        go_region_law (refine step_append_own rfl (.tmp 22) (.tmp 40) 38 rfl w1.heap.size 51 ii _ 3 32 Tryz.underlying38 hii hz0 hz1 hz2 rfl (by decide) _ (told ks o pre k).length _ (by rfl) (own_drew (hown.alloc _)) ⟨wr.heap.size, 0, none⟩ 1 1 (infoOf (ks[k], obOr (look o ks[k]))) (by rfl) (by rfl) (news_of (heap_new wr _)) (by simp [infoOf, Value.oneCell']) (by simp only [maxLen]; omega) (by omega) (by simp; have := Hb.out.size; omega) ?_; intro v' w' hown' hgrow)
        all_goals
          have hbl : ∀ q, u5.ownBlock = some q → w1.heap.size ≤ q := fun q hq => (hown.lt q hq).1
          have hbel' : Below w1.heap.size w1 w' := ((Hb.out.alloc Hb.out.size _).drew).grown hgrow (by simp; have := Hb.out.size; omega) hbl
          have Hfi := Lib.hid (And.intro hown' hbel')
          clear hown' hbel' hbl hgrow hown
          go_wp2_with fail
          go_roundg (ks.length - (k + 1))
          case measure => have := Hg.out; omega
          case rel =>
            refine ⟨k + 1, by omega, by go_num, rfl, ?_, Hfi.out.2⟩
            rw [told_yes _ _ _ _ hlt Hpb.out]
            simpa using Hfi.out.1
    · have Hb := Lib.hid hbel
      have Ho := Lib.hid hown
      clear hbel hown
      go_wp2_with fail
      go_ret
      have hbel := Hb.out
      have hown := Ho.out
      have hkk : k = ks.length := by omega
      subst hkk
      refine ⟨_, rfl, ?_, hk1.trans (Keeps.of_below hbel)⟩
      rw [Hfin.out]
      exact row_base hown (by have := hk1.size; omega)

end Go.Proofs.YtaebpbkiaihhdaaGreatDoor

namespace Go.Proofs.YtaebpbkiaihhdaaGreatDoor
open Go Go.RowKit Go.Conc



/-- What List tells. -/
def listL (Q : List (Int × Bool)) (o : List (ByteArray × Ob)) (pre : ByteArray) : List (ByteArray × Ob) := if tryWorks Q then listing o pre else []


def ListPost (w : World) (b f c mb : Nat) (Q : List (Int × Bool)) (o : List (ByteArray × Ob)) (L : List (ByteArray × Ob)) (e : Ending) (w' : World) : Prop :=
  ∃ v, e = .returned (.tuple #[v, .int .i64 (ioErr Q)]) ∧ BucketAt w' b f c mb (tryArmed Q) (tryQ Q) o ∧ Keeps [f, c] w w' ∧
    w'.ownsRow w.heap.size 51 3 v L.length (L.flatMap infoOf)


end Go.Proofs.YtaebpbkiaihhdaaGreatDoor
