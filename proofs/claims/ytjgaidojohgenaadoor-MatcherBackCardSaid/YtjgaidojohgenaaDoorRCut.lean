/-
  The document's cut: a text's parts between a byte; what stands behind a sign.
  The text is no longer than 1000000 bytes.
-/
import Derived.Test.YtjgaidojohgenaaDoorMatParse
namespace Go.Proofs.YtjgaidojohgenaaDoor
open Go Go.RowKit

/-- A part's beginning, ahead of the first of the parts that follow. -/
def glueL (p : List UInt8) : List (List UInt8) → List (List UInt8)
  | [] => [p]
  | x :: r => (p ++ x) :: r

theorem partsL_ne (c : UInt8) : ∀ l : List UInt8, ∃ x r, partsL c l = x :: r
  | [] => ⟨_, _, rfl⟩
  | x :: l => by
    obtain ⟨y, r, h⟩ := partsL_ne c l
    unfold partsL
    split
    · exact ⟨_, _, rfl⟩
    · rw [h]
      exact ⟨_, _, rfl⟩

theorem glue_nil (c : UInt8) (l : List UInt8) : glueL [] (partsL c l) = partsL c l := by
  obtain ⟨x, r, h⟩ := partsL_ne c l
  rw [h]
  rfl

theorem glue_hit (c : UInt8) (p l : List UInt8) : glueL p (partsL c (c :: l)) = p :: partsL c l := by
  rw [show partsL c (c :: l) = [] :: partsL c l from by rw [partsL, if_pos rfl]]
  simp [glueL]

theorem glue_miss (c x : UInt8) (hx : ¬ x = c) (p l : List UInt8) : glueL p (partsL c (x :: l)) = glueL (p ++ [x]) (partsL c l) := by
  obtain ⟨y, r, h⟩ := partsL_ne c l
  rw [partsL, if_neg hx, h]
  simp [glueL]

def CutRel (w : World) (c : UInt8) (s : ByteArray) (gk : Nat) (u5 u6 u7 : Value) (wr : World) : Prop :=
  ∃ (i : Nat) (D : List ByteArray) (p : ByteArray), i ≤ s.size ∧ gk = s.size - i ∧ u7 = .int .i64 i ∧ u6 = .string p ∧ p.size ≤ i ∧ D.length ≤ i ∧ wr.ownsRow w.heap.size 9 1 u5 D.length (D.map Value.string) ∧
    partsL c s.data.toList = D.map (fun x => x.data.toList) ++ glueL p.data.toList (partsL c (s.data.toList.drop i)) ∧ Keeps [] w wr

theorem parts_of_lists {c : UInt8} {s : ByteArray} {D : List ByteArray} (h : partsL c s.data.toList = D.map (fun x => x.data.toList)) : partsB c s = D := by
  unfold partsB
  rw [h, List.map_map]
  have : ((fun p : List UInt8 => (⟨p.toArray⟩ : ByteArray)) ∘ fun x : ByteArray => x.data.toList) = id := funext fun x => ba_ext (by simp)
  rw [this, List.map_id]

set_option linter.unusedSimpArgs false in
set_option maxRecDepth 100000 in
set_option maxHeartbeats 1000000 in
theorem cutR_spec (w : World) (s : ByteArray) (c : UInt8) (hs : s.size ≤ 1000000) :
    Calls Tryd.prog 48 #[.string s, .int .u8 (c.toNat : Int)] w fun e w' => ∃ v, e = .returned v ∧ w'.ownsRow w.heap.size 9 1 v (partsB c s).length ((partsB c s).map Value.string) ∧ Keeps [] w w' := by
  obtain ⟨ip, hip, hz0, hz1, hz2⟩ := info_parts infoStr
  have k0 : Keeps [] w (w.alloc (.cells #[] 9)) := (Keeps.refl [] w).alloc _
  have H0 := Lib.hid (And.intro (own_made w w.heap.size 9 1 (Nat.le_refl _)) k0)
  clear k0
  go_enter Tryd.func48, Tryd.ntmps48
  go_wp2_with fail
  go_loopg [5, 6, 7] s.size (CutRel w c s)
  case atStart => exact ⟨0, [], ⟨#[]⟩, Nat.zero_le _, rfl, rfl, rfl, Nat.le_refl _, Nat.le_refl _, H0.out.1, by simp [glue_nil], H0.out.2⟩
  case round =>
    obtain ⟨i, D, p, hi, hgk, rfl, rfl, hp, hD, hrow, hpl, hkw⟩ := hrel
    have Hg := Lib.hid (And.intro hgk hpl)
    obtain ⟨aD, cD, rfl, -, -, -⟩ := row_slice hrow
    have Hr := Lib.hid (And.intro hrow hkw)
    have hws := hkw.size
    clear hgk hpl hrow hkw H0
    by_cases hlt : i < s.size
    · have hlt' : (i : Int) < (s.size : Int) := by omega
      have hl : i < s.data.toList.length := by simpa using hlt
      obtain ⟨x, hx⟩ : ∃ x, x = s[i]'hlt := ⟨_, rfl⟩
      have Hdrop := Lib.hid (show s.data.toList.drop i = x :: s.data.toList.drop (i + 1) from by
        rw [List.drop_eq_getElem_cons hl, hx]
        rfl)
      by_cases hxc : x = c
      · have he : (s[i].toNat : Int) = (c.toNat : Int) := by rw [← hx, hxc]
        subst hxc
        have kA : Keeps [] wr (wr.alloc (.cells #[.string p] 9)) := (Keeps.refl [] wr).alloc _
        have H2 := Lib.hid (And.intro (heap_new wr (.cells #[.string p] 9)) (go1 kA Hr.out))
        clear kA hx
        go_wp2_with (at_builtin; refine wpList_append_own _ rfl (.tmp 20) (.tmp 22) 34 rfl w.heap.size 9 ip _ 1 16 Tryd.underlying34 hip hz0 hz1 hz2 rfl (by decide) (.slice aD D.length cD) D.length (D.map Value.string) rfl H2.out.2.1 ⟨wr.heap.size, 0, none⟩ 1 1 [.string p] rfl rfl (news_of H2.out.1) (by simp [Value.oneCell']) (by simp only [maxLen]; omega) (by omega) H2.out.2.2.size ?_; intro v6 w6 hown6 hgrow6 hnil6; clear hnil6; obtain ⟨a6, c6, rfl, -, -, -⟩ := row_slice hown6; have H6 := Lib.hid (And.intro hown6 (keeps_own H2.out.2.2 hgrow6 (fun q hq => (World.ownsRow.lt H2.out.2.1 q hq).1))); clear hown6 hgrow6)
        go_roundg (s.size - (i + 1))
        case measure => have := Hg.out.1; omega
        case rel =>
          refine ⟨i + 1, D ++ [p], ⟨#[]⟩, hlt, rfl, by go_num, rfl, Nat.zero_le _, by rw [List.length_append]; simp; omega, ?_, ?_, H6.out.2⟩
          · have h6 := H6.out.1
            rw [List.length_append, List.map_append]
            simpa using h6
          · rw [Hg.out.2, Hdrop.out, glue_hit]
            simp [glue_nil]
      · have he : ¬ (s[i].toNat : Int) = (c.toNat : Int) := fun e => hxc (by rw [hx]; exact UInt8.toNat_inj.1 (by omega))
        have Hxc := Lib.hid hxc
        have hps : (p.size : Int) + ((s.extract i (i + 1)).size : Int) ≤ 1000001 := by rw [ByteArray.size_extract]; omega
        clear hxc
        go_wp2_with fail
        go_roundg (s.size - (i + 1))
        case measure => have := Hg.out.1; omega
        case rel =>
          refine ⟨i + 1, D, p ++ s.extract i (i + 1), hlt, rfl, by go_num, rfl, by rw [ByteArray.size_append, ByteArray.size_extract]; omega, by omega, Hr.out.1, ?_, Hr.out.2⟩
          rw [Hg.out.2, Hdrop.out, glue_miss c x Hxc.out]
          congr 2
          have e : (s.extract i (i + 1)).data.toList = [x] := by
            rw [ByteArray.data_extract, Array.toList_extract, List.extract_eq_take_drop, show i + 1 - i = 1 from by omega, Hdrop.out]
            rfl
          rw [ByteArray.data_append, Array.toList_append, e]
    · have hlt' : ¬ (i : Int) < (s.size : Int) := by omega
      have hie := Lib.hid (show i = s.size from by omega)
      have kA : Keeps [] wr (wr.alloc (.cells #[.string p] 9)) := (Keeps.refl [] wr).alloc _
      have H2 := Lib.hid (And.intro (heap_new wr (.cells #[.string p] 9)) (go1 kA Hr.out))
      clear kA
      go_wp2_with (at_builtin; refine wpList_append_own _ rfl (.tmp 31) (.tmp 33) 34 rfl w.heap.size 9 ip _ 1 16 Tryd.underlying34 hip hz0 hz1 hz2 rfl (by decide) (.slice aD D.length cD) D.length (D.map Value.string) rfl H2.out.2.1 ⟨wr.heap.size, 0, none⟩ 1 1 [.string p] rfl rfl (news_of H2.out.1) (by simp [Value.oneCell']) (by simp only [maxLen]; omega) (by omega) H2.out.2.2.size ?_; intro v6 w6 hown6 hgrow6 hnil6; clear hnil6; obtain ⟨a6, c6, rfl, -, -, -⟩ := row_slice hown6; have H6 := Lib.hid (And.intro hown6 (keeps_own H2.out.2.2 hgrow6 (fun q hq => (World.ownsRow.lt H2.out.2.1 q hq).1))); clear hown6 hgrow6)
      go_ret
      have hpb : partsB c s = D ++ [p] := by
        refine parts_of_lists ?_
        rw [Hg.out.2, hie.out, List.drop_of_length_le (by simp)]
        simp [partsL, glueL]
      rw [hpb]
      refine ⟨_, rfl, ?_, H6.out.2⟩
      have h6 := H6.out.1
      rw [List.length_append, List.map_append]
      simpa using h6

def signs4 : List UInt8 := [61, 33, 94, 64]

theorem idx_hit {s : ByteArray} {i : Nat} {x : UInt8} (hno : Lib.NoAny s.data.toList signs4 i) (hi : i < s.size) (hx : x = s[i]'hi) (hc : signs4.contains x = true) : idxB s = i :=
  Lib.indexAny_hit hno (by rw [hx]; exact Lib.data_getElem? s i hi) hc

theorem idx_none {s : ByteArray} (hno : Lib.NoAny s.data.toList signs4 s.size) : idxB s = -1 :=
  Lib.indexAny_none (by rw [← Lib.size_eq]; exact hno)

theorem pick_is {rs : ByteArray} {t : List UInt8} (h : rs.data.toList = 61 :: t) : pickB rs = (1, [⟨t.toArray⟩]) := by
  unfold pickB preB trimB signOf Lib.trimPrefix Lib.hasPrefix
  simp [h, List.isPrefixOf]

theorem pick_begins {rs : ByteArray} {t : List UInt8} (h : rs.data.toList = 94 :: t) : pickB rs = (3, [⟨t.toArray⟩]) := by
  unfold pickB preB trimB signOf Lib.trimPrefix Lib.hasPrefix
  simp [h, List.isPrefixOf]

theorem pick_among {rs : ByteArray} {t : List UInt8} (h : rs.data.toList = 64 :: t) : pickB rs = (4, partsB 124 ⟨t.toArray⟩) := by
  unfold pickB preB trimB signOf Lib.trimPrefix Lib.hasPrefix
  simp [h, List.isPrefixOf]

theorem pick_not {rs : ByteArray} {t : List UInt8} (h : rs.data.toList = 33 :: 61 :: t) : pickB rs = (2, [⟨t.toArray⟩]) := by
  unfold pickB preB trimB signOf Lib.trimPrefix Lib.hasPrefix
  simp [h, List.isPrefixOf]

theorem pick_no {rs : ByteArray} {t : List UInt8} (h : rs.data.toList = 33 :: t) (hn : t.head? ≠ some 61) : pickB rs = (0, []) := by
  have h2 : ([33, 61] : List UInt8).isPrefixOf (33 :: t) = false := by
    cases t with
    | nil => rfl
    | cons y t =>
      have : ¬ (61 : UInt8) = y := fun e => hn (by rw [← e]; rfl)
      simp [List.isPrefixOf, this]
  unfold pickB preB trimB signOf Lib.trimPrefix Lib.hasPrefix
  simp only [h, h2]
  simp [List.isPrefixOf]

theorem rest_at {s : ByteArray} {i : Nat} (hi : i < s.size) : (s.extract i s.size).data.toList = s[i]'hi :: (s.data.toList.drop (i + 1)) := by
  have hl : i < s.data.toList.length := by simpa using hi
  rw [extract_lst]
  show s.data.toList.drop i = _
  rw [List.drop_eq_getElem_cons hl]
  rfl

theorem chkB_zero (n : ByteArray) (V : List ByteArray) : chkB (0, n, V) = false := by
  unfold chkB headB
  simp

/-- What a text whose sign stands at i gives. -/
theorem mparseB_at {s : ByteArray} {i : Nat} (h : idxB s = i) (kv : Int × List ByteArray) (hp : pickB (s.extract i s.size) = kv) : mparseB s = if chkB (kv.1, s.extract 0 i, kv.2) = true then some (kv.1, s.extract 0 i, kv.2) else none := by
  unfold mparseB
  rw [h, if_neg (by omega), show ((i : Int)).toNat = i from by omega, hp]

theorem mparseB_none {s : ByteArray} (h : idxB s = -1) : mparseB s = none := by
  unfold mparseB
  rw [h, if_pos (by decide)]
end Go.Proofs.YtjgaidojohgenaaDoor
