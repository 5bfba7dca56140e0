/-
  ship.Locals: where the files of blocks are those of one block, whole or without its meta.
  The meta is one that may be.
-/
import Derived.Test.YtaebpbkiaihhdaaGreatDoorShipLoad
import Derived.Test.YtaebpbkiaihhdaaGreatDoorShipP
import Derived.Test.YtaebpbkiaihhdaaGreatDoorShelfA
namespace Go.Proofs.YtaebpbkiaihhdaaGreatDoor
open Go Go.RowKit

theorem trimPrefix_app (p s : List UInt8) : Lib.trimPrefix (p ++ s) p = s := by
  unfold Lib.trimPrefix
  rw [if_pos (by unfold Lib.hasPrefix; simp)]
  exact List.drop_left

theorem trimSuffix_app (s p : List UInt8) : Lib.trimSuffix (s ++ p) p = s := by
  unfold Lib.trimSuffix
  rw [if_pos (by unfold Lib.hasSuffix; simp)]
  rw [List.length_append, Nat.add_sub_cancel, List.take_left]

theorem hasSuffix_app (s p : List UInt8) : Lib.hasSuffix (s ++ p) p = true := by unfold Lib.hasSuffix; simp

theorem hasSuffix_no {a b p : List UInt8} {x y : UInt8} (hb : b.getLast? = some x) (hp : p.getLast? = some y) (hne : x ≠ y) : Lib.hasSuffix (a ++ b) p = false := by
  rw [Bool.eq_false_iff]
  intro h
  unfold Lib.hasSuffix at h
  obtain ⟨t, ht⟩ := List.isSuffixOf_iff_suffix.1 h
  have e := congrArg List.getLast? ht
  rw [List.getLast?_append, List.getLast?_append, hb, hp] at e
  simp at e
  exact hne e.symm

/-- A file's name behind 'blk-'. -/
def restB (id p : ByteArray) : ByteArray := id ++ ((⟨#[45]⟩ : ByteArray) ++ p)

theorem trim_file (id p : ByteArray) : (⟨(Lib.trimPrefix (fileB id p).data.toList (⟨#[98, 108, 107, 45]⟩ : ByteArray).data.toList).toArray⟩ : ByteArray) = restB id p := by
  rw [fileB_app]
  apply ba_ext
  have e : (blkB ++ (id ++ ((⟨#[45]⟩ : ByteArray) ++ p))).data.toList = blkB.data.toList ++ (restB id p).data.toList := by simp [restB]
  rw [e]
  exact trimPrefix_app blkB.data.toList _

theorem cut_meta (id : ByteArray) : (⟨(Lib.trimSuffix (restB id metaB).data.toList (⟨#[45, 109, 101, 116, 97]⟩ : ByteArray).data.toList).toArray⟩ : ByteArray) = id ∧ Lib.hasSuffix (restB id metaB).data.toList (⟨#[45, 109, 101, 116, 97]⟩ : ByteArray).data.toList = true := by
  have e : (restB id metaB).data.toList = id.data.toList ++ (⟨#[45, 109, 101, 116, 97]⟩ : ByteArray).data.toList := by simp [restB, metaB]
  rw [e]
  refine ⟨?_, hasSuffix_app _ _⟩
  apply ba_ext
  exact trimSuffix_app _ _

theorem cut_no (id : ByteArray) {j : Nat} (hj : j < 2) : Lib.hasSuffix (restB id (partN j)).data.toList (⟨#[45, 109, 101, 116, 97]⟩ : ByteArray).data.toList = false := by
  have e : (restB id (partN j)).data.toList = (id.data.toList ++ [45]) ++ (partN j).data.toList := by simp [restB]
  rw [e]
  rcases (by omega : j = 0 ∨ j = 1) with rfl | rfl
  · exact hasSuffix_no (x := 115) (y := 97) (by decide) (by decide) (by decide)
  · exact hasSuffix_no (x := 120) (y := 97) (by decide) (by decide) (by decide)

/-- Whole: the three files are there. -/
def WholeAt (o : List (ByteArray × Ob)) (M : MetaS) (cb ib : ByteArray) : Prop := ∃ x0 x1 x2, look o (fileB M.id chunksB) = some (cb, x0) ∧ look o (fileB M.id indexB) = some (ib, x1) ∧ look o (fileB M.id metaB) = some (encM M, x2)

def metaN (M : MetaS) (n : ByteArray) : Bool := decide (n = fileB M.id metaB)

def LocRel (w1 : World) (M : MetaS) (N : List ByteArray) (gk : Nat) (u3 u13 : Value) (wr : World) : Prop :=
  ∃ k, k ≤ N.length ∧ gk = N.length - k ∧ u13 = .int .i64 k ∧ wr.ownsRow w1.heap.size 9 1 u3 ((N.take k).filter (metaN M)).length (((N.take k).filter (metaN M)).map fun _ => Value.string M.id) ∧ Keeps [] w1 wr

def LocPost (w : World) (n : Nat) (e : Ending) (w' : World) : Prop := ∃ a c, e = .returned (.slice a n c) ∧ Keeps [] w w'

set_option linter.unusedSimpArgs false in
set_option maxRecDepth 100000 in
set_option maxHeartbeats 4000000 in
theorem locals_spec (w : World) (d f c mb : Nat) (armed : Bool) (Q : List (Int × Bool)) (room : Nat) (o : List (ByteArray × Ob)) (h : DiskAt w d f c mb armed Q room o) (hk : ∀ p ∈ o, p.1.size ≤ maxLen) (hl : o.length * 16 ≤ 140737488355328) (M : MetaS) (hok : MetaOk M) (cb ib : ByteArray) (hfl : M.files = [(chunksB, cb.size, moreN 0 cb.data.toList), (indexB, ib.size, moreN 0 ib.data.toList)]) (hcz : cb.size ≤ 160000) (hiz : ib.size ≤ 14000)
    (hn : ∀ n ∈ names o blkB, ∃ j, j < 3 ∧ n = fileB M.id (partN j)) (hw : look o (fileB M.id metaB) = none ∨ WholeAt o M cb ib) (hN : (names o blkB).length ≤ 1000) :
    Calls Tryz.prog 29 #[.pointer (some ⟨d, 0, none⟩)] w (LocPost w ((names o blkB).filter (metaN M)).length) := by
  obtain ⟨ii, hii, hz0, hz1, hz2⟩ := info_parts infoString
  have Hl := Lib.hid (listD_spec w d f c mb armed Q room o h blkB hk hl)
  have hmem : ∀ n ∈ names o blkB, n ∈ o.map (·.1) := fun n hn => mem_names hn
  have hld : fileB M.id metaB ∈ names o blkB → WholeAt o M cb ib := fun hm => by
    rcases hw with hw | hw
    · exact absurd (hmem _ hm) ((look_none_iff _ _).1 hw)
    · exact hw
  obtain ⟨N, hNN⟩ : ∃ N, N = names o blkB := ⟨_, rfl⟩
  rw [← hNN] at Hl hn hld hN ⊢
  have hid16 := id16 hok.id
  have HL := Lib.hid (fun W (hk : Keeps [] w W) (hm : fileB M.id metaB ∈ N) => by
    obtain ⟨x0, x1, x2, a0, a1, a2⟩ := hld hm
    exact load_some W d f c mb armed Q room o (h.same hk) M hok cb ib hfl hcz hiz x2 x0 x1 a2 a0 a1)
  have Hn := Lib.hid (And.intro hn hld)
  have HNN := Lib.hid hNN
  clear h hk hl hn hw hmem hld hNN hfl hok
  go_enter Tryz.func29, Tryz.ntmps29
  go_wp2_with fail
  refine Hl.out.mono ?_
  rintro e w1 ⟨v, rfl, hrow, hk1⟩
  obtain ⟨av, cv, rfl, -, -, -⟩ := row_slice hrow
  have H1 := Lib.hid (And.intro hrow hk1)
  obtain ⟨tn, htn⟩ : ∃ tn, tn = N.length := ⟨_, rfl⟩
  rw [← htn] at hN ⊢
  have Htn := Lib.hid htn
  clear hk1 hrow htn
  go_wp2_with fail
  go_loopg [3, 13] tn (LocRel w1 M N)
  case atStart => exact ⟨0, Nat.zero_le _, by rw [Htn.out]; rfl, rfl, by simpa using World.ownsRow_nil w1 _ _ 1, Keeps.refl _ _⟩
  case round =>
    obtain ⟨k, hkN, hgk, rfl, hown, hkr⟩ := hrel
    obtain ⟨ao, co, rfl, -, -, -⟩ := row_slice hown
    have Hr := Lib.hid (And.intro hgk (And.intro hown hkr))
    by_cases hlt : k < N.length
    · have hlt' : (k : Int) < (tn : Int) := by have := Htn.out; omega
      have hcn : ∃ g, av = some ⟨g, 0, none⟩ ∧ wr.cell? ⟨g, k, none⟩ = some (.string N[k]) ∧ g < wr.heap.size := by
        obtain ⟨-, ⟨e, _⟩ | ⟨g, cp, cur, e, -⟩⟩ := id H1.out.1
        · injection e with _ e _
          omega
        · injection e with e _ _
          subst e
          have hlg := (World.ownsRow.lt H1.out.1 g rfl).2
          refine ⟨g, rfl, ?_, hkr.lt hlg⟩
          rw [hkr.cell hlg (by simp), World.ownsRow.cellAt H1.out.1 k (by omega)]
          simp [hlt]
      obtain ⟨g, rfl, cg, lg⟩ := hcn
      obtain ⟨j, hj, hnj⟩ := Hn.out.1 N[k] (List.getElem_mem _)
      have hNk : N[k] ∈ N := List.getElem_mem _
      have hyes := take_yes N (metaN M) k hlt
      have hno := take_no N (metaN M) k hlt
      generalize N[k] = n at cg hnj hNk hyes hno
      subst hnj
      have hpz := partN_size j
      have hz : (fileB M.id (partN j)).size ≤ 100 := by rw [fileB_size]; omega
      have hrz : (restB M.id (partN j)).size ≤ 100 := by
        unfold restB
        rw [ByteArray.size_append, ByteArray.size_append]
        show M.id.size + (1 + (partN j).size) ≤ 100
        omega
      have Htp := Lib.hid (fun W => Tryz.strings_TrimPrefix (fileB M.id (partN j)) ⟨#[98, 108, 107, 45]⟩ W)
      rw [trim_file] at Htp
      have Hcs := Lib.hid (fun W => Tryz.strings_CutSuffix (restB M.id (partN j)) ⟨#[45, 109, 101, 116, 97]⟩ W (by omega))
      clear hgk hown hkr hrz hz
      by_cases hj2 : j = 2
      · subst hj2
        have hm : metaN M (fileB M.id (partN 2)) = true := decide_eq_true rfl
        have Hy := Lib.hid (hyes hm)
        rw [show partN 2 = metaB from rfl, (cut_meta M.id).1, (cut_meta M.id).2] at Hcs
        clear hyes hno hm hpz
        have hNm := Lib.hid hNk
        clear hNk
        go_wp2_with fail
        refine (Htp.out wr).mono ?_
        rintro e w2 ⟨rfl, rfl⟩
        go_wp2_with fail
        refine (Hcs.out _).mono ?_
        rintro e w2 ⟨rfl, rfl⟩
        go_wp2_with fail
        refine (HL.out _ (H1.out.2.trans Hr.out.2.2) hNm.out).mono ?_
        rintro e w3 ⟨af, ao2, nf, cf, no, co2, rfl, hk3⟩
        obtain ⟨W4, hW4⟩ : ∃ W, W = w3.alloc (.cells #[.string M.id, .int .i64 M.mn, .int .i64 M.mx, .int .i64 M.level, .int .i64 M.series, .int .i64 M.samples, .slice af nf cf, .slice ao2 no co2, .string cb, .string ib] 28) := ⟨_, rfl⟩
        have ka : Keeps [] w3 W4 := by rw [hW4]; exact (Keeps.refl [] w3).alloc _
        have hGk := take_le N (metaN M) k
        have Hvl := Lib.hid (fun g hg => (World.ownsRow.lt Hr.out.2.1 g hg).1)
        have H4 := Lib.hid (And.intro ((hk3.trans ka).row Hr.out.2.1 (by simp)) (Hr.out.2.2.trans (hk3.trans ka)))
        have hsz := H4.out.2.size
        clear hk3 ka cg lg
        generalize (N.take k).filter (metaN M) = G at Hy H4 Hvl hGk ⊢
        go_upto_region 9 with fail
        rw [← hW4]
        clear hW4
        go_wp2_with (at_builtin; refine wpList_append_own _ rfl (.tmp 33) (.tmp 35) 24 rfl w1.heap.size 9 ii _ 1 16 Tryz.underlying24 hii hz0 hz1 hz2 rfl (by decide) (.slice ao G.length co) G.length (G.map fun _ => Value.string M.id) rfl (H4.out.1.alloc _) ⟨W4.heap.size, 0, none⟩ 1 1 [.string M.id] rfl rfl (news_of (heap_new W4 _)) (by simp [Value.oneCell']) (by simp only [maxLen]; omega) (by omega) (by simp; omega) ?_; intro v8 w8 hown8 hgrow8 hnil; clear hnil)
        have hk8 : Keeps [] w1 w8 := keeps_grownM (H4.out.2.alloc _) hgrow8 Hvl.out
        go_roundg (tn - (k + 1))
        case measure => have := Hr.out.1; have := Htn.out; omega
        case rel => exact ⟨k + 1, hlt, by rw [Htn.out], by go_num, by rw [Hy.out]; simpa using hown8, hk8⟩
      · have hm : metaN M (fileB M.id (partN j)) = false := decide_eq_false (fun e => by
          have := file_part (id := M.id) hj (show 2 < 3 by decide) hj2
          exact this e)
        have Hy := Lib.hid (hno hm)
        have hj3 : j < 2 := by omega
        rw [cut_no M.id hj3] at Hcs
        clear hyes hno hm hNk
        go_wp2_with fail
        refine (Htp.out wr).mono ?_
        rintro e w2 ⟨rfl, rfl⟩
        go_wp2_with fail
        refine (Hcs.out _).mono ?_
        rintro e w2 ⟨rfl, rfl⟩
        go_wp2_with fail
        go_roundg (tn - (k + 1))
        case measure => have := Hr.out.1; have := Htn.out; omega
        case rel => exact ⟨k + 1, hlt, by rw [Htn.out], by go_num, by rw [Hy.out]; exact Hr.out.2.1, Hr.out.2.2⟩
    · obtain rfl : k = N.length := by omega
      have hge : ¬ ((N.length : Nat) : Int) < (tn : Int) := by have := Htn.out; omega
      clear hgk hown hkr
      go_wp2_with fail
      go_ret
      exact ⟨ao, co, rfl, H1.out.2.trans Hr.out.2.2⟩
end Go.Proofs.YtaebpbkiaihhdaaGreatDoor
