/-
  The document's Split of any name (package barographref08) is splitL.
  No condition beyond those that each theorem states.

  What the document takes of any bytes as a mark (DecodeMark): what the program takes (unmarkL).
  The text has at most 1,000,000 bytes.

  The listing of objects as the document tells it (package barographref10, bytes, Of): the blocks that they are, by rising names.
  At most 15 objects, each name once; their texts are short.
-/
import Derived.Test.YtjffdcflkkgpfaaGreatRefIdent
import Derived.Test.YtjffdcflkkgpfaaGreatRTake
import Derived.Test.YtjffdcflkkgpfaaGreatOfLaw
namespace Go.Proofs.YtjffdcflkkgpfaaGreat
open Go Go.RowKit

theorem splitL_not {l : List UInt8} (h : ∀ id part, l = id ++ 47 :: part → isIDB id = true → isPart part = true → False) : splitL l = none := by
  cases e : splitL l with
  | none => rfl
  | some r =>
    obtain ⟨h1, h2, h3⟩ := splitL_some (id := r.1) (part := r.2) e
    exact (h _ _ h1 h2 h3).elim

theorem isPart_memR {part : List UInt8} (h : isPart part = true) : (⟨part.toArray⟩ : ByteArray) ∈ partsB := by
  unfold isPart at h
  simp only [Bool.or_eq_true, beq_iff_eq] at h
  rcases h with ((h | h) | h) | h <;> subst h <;> simp [partsB, chunksB, indexB, metaB, markB]

/-- A name of at least 17 bytes, cut. -/
theorem name_cut {s : ByteArray} (h : 16 < s.size) (h47 : s[16] = 47) : s.data.toList = (s.extract 0 16).data.toList ++ 47 :: (s.extract 17 s.size).data.toList := by
  have hl : 16 < s.data.toList.length := by rw [dsize]; exact h
  have e16 : s.data.toList[16] = 47 := h47
  rw [take_data, drop_data, ← e16]
  conv => lhs; rw [← List.take_append_drop 16 s.data.toList]
  rw [List.drop_eq_getElem_cons hl]

set_option linter.unusedSimpArgs false in
set_option maxRecDepth 100000 in
set_option maxHeartbeats 1000000 in
theorem refSplitG_spec (w : World) (s : ByteArray) :
    Calls Tryz.prog 48 #[.string s] w fun e w' => e = .returned (splitVals (splitL s.data.toList)) ∧ Keeps [] w w' := by
  cases hsp : splitL s.data.toList with
  | some r =>
    obtain ⟨id, part⟩ := r
    obtain ⟨h1, h2, h3⟩ := splitL_some hsp
    have h := refSplit_spec w ⟨id.toArray⟩ ⟨part.toArray⟩ h2 (isPart_memR h3)
    have e : s = objectB ⟨id.toArray⟩ ⟨part.toArray⟩ := ba_ext (by rw [object_data]; exact h1)
    rw [e]
    refine h.mono ?_
    rintro e w1 ⟨rfl, hk⟩
    exact ⟨rfl, hk⟩
  | none =>
    by_cases h17 : s.size < 17
    · have hlt : (s.size : Int) < 17 := by omega
      clear hsp h17
      go_enter Tryz.func48, Tryz.ntmps48
      go_wp2_with fail
      go_ret3
      exact ⟨rfl, Keeps.refl _ _⟩
    have hlt : ¬ (s.size : Int) < 17 := by omega
    have hl1 : 16 < s.size := by omega
    have hl2 : 17 ≤ s.size := by omega
    have hl3 : (17 : Int) ≤ (s.size : Int) := by omega
    by_cases h47 : s[16] = 47
    · have hb3 : (s[16].toNat : Int) = 47 := by rw [h47]; rfl
      have hcut := name_cut hl1 h47
      have Hp := Lib.hid (fun w => refParseG_spec w (s.extract 0 16))
      obtain ⟨x, hx⟩ : ∃ x, x = s.extract 17 s.size := ⟨_, rfl⟩
      have hx2 : s.extract 17 s.size = x := hx.symm
      have hno : ∀ r, parseL (s.extract 0 16).data.toList = some r → isPart x.data.toList = false := fun r hr => by
        cases hp : isPart x.data.toList with
        | false => rfl
        | true =>
          have hid : isIDB (s.extract 0 16).data.toList = true := by unfold isIDB; rw [hr]; rfl
          rw [hcut, hx2, split_object hid hp] at hsp
          cases hsp
      generalize parseL (s.extract 0 16).data.toList = R at Hp hno
      clear hcut hsp hx h17
      cases R with
      | none =>
        clear hno
        go_enter Tryz.func48, Tryz.ntmps48
        go_wp2_with fail
        refine (Hp.out _).mono ?_
        rintro e w1 ⟨rfl, hk1⟩
        have Hk := Lib.hid hk1
        clear hk1
        simp only [rParseV]
        go_wp2_with fail
        go_ret3
        exact ⟨rfl, Hk.out⟩
      | some r =>
        have hn := hno r rfl
        obtain ⟨a, b⟩ := r
        unfold isPart at hn
        simp only [Bool.or_eq_false_iff] at hn
        obtain ⟨⟨⟨n1, n2⟩, n3⟩, n4⟩ := hn
        have m1 : (x.toList == [99, 104, 117, 110, 107, 115]) = false := by rw [ByteArray.toList_eq]; exact n1
        have m2 : (x.toList == [105, 110, 100, 101, 120]) = false := by rw [ByteArray.toList_eq]; exact n2
        have m3 : (x.toList == [109, 101, 116, 97]) = false := by rw [ByteArray.toList_eq]; exact n3
        have m4 : (x.toList == [109, 97, 114, 107]) = false := by rw [ByteArray.toList_eq]; exact n4
        have p1 : (x.toList != [99, 104, 117, 110, 107, 115]) = true := by rw [bne, m1]; rfl
        have p2 : (x.toList != [105, 110, 100, 101, 120]) = true := by rw [bne, m2]; rfl
        have p3 : (x.toList != [109, 101, 116, 97]) = true := by rw [bne, m3]; rfl
        have p4 : (x.toList != [109, 97, 114, 107]) = true := by rw [bne, m4]; rfl
        clear hno n1 n2 n3 n4
        go_enter Tryz.func48, Tryz.ntmps48
        go_wp2_with fail
        refine (Hp.out _).mono ?_
        rintro e w1 ⟨rfl, hk1⟩
        have Hk := Lib.hid hk1
        clear hk1
        simp only [rParseV, rParse]
        go_wp2_with fail
        go_ret3
        exact ⟨rfl, Hk.out⟩
    · have hb3 : ¬ (s[16].toNat : Int) = 47 := fun e => h47 (UInt8.toNat_inj.1 (by have : (47 : UInt8).toNat = 47 := rfl; omega))
      have hb4 : ((s[16].toNat : Int) == 47) = false := by rw [beq_eq_false_iff_ne]; exact hb3
      have hb5 : ((s[16].toNat : Int) != 47) = true := by rw [bne, hb4]; rfl
      clear hsp h47 h17
      go_enter Tryz.func48, Tryz.ntmps48
      go_wp2_with fail
      go_ret3
      exact ⟨rfl, Keeps.refl _ _⟩
end Go.Proofs.YtjffdcflkkgpfaaGreat

namespace Go.Proofs.YtjffdcflkkgpfaaGreat
open Go Go.RowKit

set_option linter.unusedSimpArgs false in
set_option maxRecDepth 100000 in
set_option maxHeartbeats 4000000 in
theorem rDecodeMark_spec (w : World) (s : ByteArray) (hs : s.size ≤ 1000000) :
    Calls Tryz.prog 50 #[.string s] w (UnmarkPost w (unmarkL s.data.toList)) := by
  have Ho := Lib.hid (rOnly_spec w s hs 2)
  have hD : (onlyL s.data.toList 2).1.length ≤ maxLen := by
    have := nextF_len s.data.toList
    rw [dsize] at this
    show (nextF s.data.toList).2.1.length ≤ maxLen
    unfold maxLen; omega
  have hM : markTk s.data.toList = (((tkT ((onlyL s.data.toList 2).1, (onlyL s.data.toList 2).2) 16).1, (tkN (tkT ((onlyL s.data.toList 2).1, (onlyL s.data.toList 2).2) 16).2 1099511627776).1), (tkN (tkT ((onlyL s.data.toList 2).1, (onlyL s.data.toList 2).2) 16).2 1099511627776).2) := rfl
  have herr := @unmark_err s.data.toList
  have hform := @unmark_form s.data.toList
  have hok := @unmark_ok s.data.toList
  generalize unmarkL s.data.toList = R at herr hform hok
  generalize markTk s.data.toList = M at hM herr hform hok
  generalize onlyL s.data.toList 2 = o at Ho hD hM
  obtain ⟨D, e0⟩ := o
  dsimp only at Ho hD hM
  by_cases he : e0 = 0
  · subst he
    have hTl := tkT_left (D, 0) 16
    obtain ⟨A, hA⟩ : ∃ A, A = tkT (D, 0) 16 := ⟨_, rfl⟩
    rw [← hA] at hM hTl
    have HA := Lib.hid hA
    clear hA
    obtain ⟨nm, s1⟩ := A
    dsimp only at hM hTl
    obtain ⟨B, hB⟩ : ∃ B, B = tkN s1 1099511627776 := ⟨_, rfl⟩
    rw [← hB] at hM
    have HB := Lib.hid hB
    clear hB
    obtain ⟨at_, l2, e2⟩ := B
    dsimp only at hM
    subst hM
    dsimp only at herr hform hok
    have hs1 : s1.1.length ≤ maxLen := Nat.le_trans hTl hD
    have HU := Lib.hid (And.intro herr (And.intro hform hok))
    clear herr hform hok hTl
    go_enter Tryz.func50, Tryz.ntmps50
    go_wp2_with fail
    refine Ho.out.mono ?_
    rintro e w1 ⟨x, rfl, hx, hk1⟩
    obtain rfl := hx (by simp)
    clear hx
    go_wp2_with fail
    refine (rText_spec w1 (D, 0) hD 16 (by decide)).mono ?_
    rintro e w2 ⟨rfl, hk2⟩
    rw [← HA.out]
    dsimp only
    obtain ⟨nb, hnb⟩ : ∃ b : ByteArray, b = ⟨nm.toArray⟩ := ⟨_, rfl⟩
    rw [← hnb]
    have Hnb := Lib.hid (And.intro hnb (show nb.data.toList = nm from by rw [hnb]))
    clear hnb
    obtain ⟨l1, e1⟩ := s1
    rw [show curV (l1, e1) = .agg #[.string ⟨l1.toArray⟩, .int .i64 e1] from rfl]
    have kA : Keeps [] w2 (w2.alloc (.cells #[.string ⟨l1.toArray⟩, .int .i64 e1] 178)) := (Keeps.refl [] w2).alloc _
    have H3 := Lib.hid (And.intro (heap_new w2 (.cells #[.string ⟨l1.toArray⟩, .int .i64 e1] 178)) (And.intro ((hk1.trans hk2).trans kA) (Nat.le_trans (hk1.trans hk2).size (Nat.le_refl _))))
    clear kA hk1 hk2
    go_upto_region 5 with fail
    generalize w2.alloc (.cells #[.string ⟨l1.toArray⟩, .int .i64 e1] 178) = w3 at H3 ⊢
    generalize w2.heap.size = pb at H3 ⊢
    have cb := cells_at H3.out.1
    have lb := lt_of_at H3.out.1
    go_wp2_with fail
    clear cb lb
    refine (rNum_spec w3 (l1, e1) hs1 1099511627776 (by decide)).mono ?_
    rintro e w4 ⟨rfl, hk4⟩
    rw [← HB.out]
    dsimp only
    rw [show curV (l2, e2) = .agg #[.string ⟨l2.toArray⟩, .int .i64 e2] from rfl]
    obtain ⟨lb2, hlb2⟩ : ∃ b : ByteArray, b = ⟨l2.toArray⟩ := ⟨_, rfl⟩
    rw [← hlb2]
    have hlz : lb2.size = l2.length := by rw [hlb2]; rfl
    have H4 := Lib.hid (And.intro (hk4.at_ H3.out.1 (by simp)) (And.intro (H3.out.2.1.trans hk4) H3.out.2.2))
    clear hk4 H3 hlb2
    have cb := cells_at H4.out.1
    have fb := free_at H4.out.1
    have lb := lt_of_at H4.out.1
    go_upto_region 6 with fail
    clear cb fb lb
    have t := heap_cell_same (i := 1) (heap_cell_same (i := 0) H4.out.1 (.string lb2)) (.int .i64 e2)
    have kq : Keeps [] w ((w4.setCell ⟨pb, 0, none⟩ (.string lb2)).setCell ⟨pb, 1, none⟩ (.int .i64 e2)) := (H4.out.2.1.setCell (.inr H4.out.2.2) _).setCell (.inr H4.out.2.2) _
    have H5 := Lib.hid (And.intro (show _ = some (Obj.cells #[.string lb2, .int .i64 e2] 178 (0, 0)) from t.trans (by simp)) (And.intro kq H4.out.2.2))
    clear t kq H4
    generalize (w4.setCell ⟨pb, 0, none⟩ (.string lb2)).setCell ⟨pb, 1, none⟩ (.int .i64 e2) = w5 at H5 ⊢
    have cb := cells_at H5.out.1
    have fb := free_at H5.out.1
    have lb := lt_of_at H5.out.1
    have hpw := H5.out.2.2
    have hmark : ∀ (wq : World) (e : Int), wq.heap[pb]? = some (.cells #[.string lb2, .int .i64 e] 178 (0, 0)) → Keeps [] w wq → ((wq.setCell ⟨pb, 1, none⟩ (.int .i64 3)).heap[pb]? = some (.cells #[.string lb2, .int .i64 3] 178 (0, 0)) ∧ Keeps [] w (wq.setCell ⟨pb, 1, none⟩ (.int .i64 3))) := by
      intro wq e h1 h2
      exact ⟨(heap_cell_same (i := 1) h1 (.int .i64 3)).trans (by simp), h2.setCell (.inr hpw) _⟩
    clear hpw
    have Hmark := Lib.hid hmark
    clear hmark
    by_cases he2 : e2 = 0
    · subst he2
      by_cases hl2 : l2 = []
      · obtain ⟨z1, z2⟩ := is_empty (s := lb2) (by rw [hlz, hl2]; rfl)
        clear hlz
        go_wp2_with fail
        refine (rId_spec w5 nb).mono ?_
        rintro e w6 ⟨rfl, hk6⟩
        rw [Hnb.out.2]
        have H6 := Lib.hid (And.intro (hk6.at_ H5.out.1 (by simp)) (H5.out.2.1.trans hk6))
        clear hk6 cb fb lb
        have cb := cells_at H6.out.1
        have fb := free_at H6.out.1
        have lb := lt_of_at H6.out.1
        cases hid : isIDB nm with
        | true =>
          have HR := Lib.hid (HU.out.2.2 (by simp) hl2 hid)
          clear hl2 hid
          go_wp2_with fail
          go_ret3
          exact ⟨by rw [HR.out, Hnb.out.1]; rfl, H6.out.2⟩
        | false =>
          have HR := Lib.hid (HU.out.2.1 (by simp) (.inr hid))
          clear hl2 hid
          go_wp2_with fail
          have hm := Hmark.out w6 0 H6.out.1 H6.out.2
          clear cb fb lb H6
          generalize w6.setCell ⟨pb, 1, none⟩ (.int .i64 3) = wz at hm ⊢
          have cz := cells_at hm.1
          have lz := lt_of_at hm.1
          go_region
          go_wp2_with fail
          go_ret3
          exact ⟨by rw [HR.out]; rfl, hm.2.drew⟩
      · obtain ⟨z1, z2⟩ := ne_empty (s := lb2) (by rw [hlz]; intro e; exact hl2 (List.eq_nil_of_length_eq_zero e))
        have HR := Lib.hid (HU.out.2.1 (by simp) (.inl hl2))
        clear hlz hl2
        go_wp2_with fail
        have hm := Hmark.out w5 0 H5.out.1 H5.out.2.1
        clear cb fb lb H5
        generalize w5.setCell ⟨pb, 1, none⟩ (.int .i64 3) = wz at hm ⊢
        have cz := cells_at hm.1
        have lz := lt_of_at hm.1
        go_region
        go_wp2_with fail
        go_ret3
        exact ⟨by rw [HR.out]; rfl, hm.2.drew⟩
    · have he3 : (e2 == 0) = false := by simp [he2]
      have he4 : (e2 != 0) = true := by simp [he2]
      have HR := Lib.hid (HU.out.1 he2)
      clear hlz he2
      go_wp2_with fail
      go_region
      go_wp2_with fail
      go_ret3
      exact ⟨by rw [HR.out]; rfl, H5.out.2.1.drew⟩
  · have hA : tkT (D, e0) 16 = ([], (D, e0)) := by unfold tkT; rw [if_pos he]
    have hB : tkN (D, e0) 1099511627776 = (0, (D, e0)) := by unfold tkN; rw [if_pos he]
    rw [hA] at hM
    dsimp only at hM
    rw [hB] at hM
    subst hM
    have HR := Lib.hid (herr he)
    have he3 : (e0 == 0) = false := by simp [he]
    have he4 : (e0 != 0) = true := by simp [he]
    clear herr hform hok hA hB he
    go_enter Tryz.func50, Tryz.ntmps50
    go_wp2_with fail
    refine Ho.out.mono ?_
    rintro e w1 ⟨x, rfl, hx, hk1⟩
    have Hk := Lib.hid hk1
    clear hx hk1
    go_wp2_with fail
    go_ret3
    exact ⟨by rw [HR.out]; rfl, Hk.out⟩
end Go.Proofs.YtjffdcflkkgpfaaGreat

namespace Go.Proofs.YtjffdcflkkgpfaaGreat
open Go Go.RowKit Go.Conc
open Go.Op (bytesLess)

theorem look_first : ∀ {L : List ObjS} {k : Nat} {n : ByteArray} (h : k < L.length), (∀ o ∈ L.take k, o.1 ≠ n) → L[k].1 = n → look L n = some L[k].2
  | [], k, n, h, _, _ => by simp at h
  | (x, y) :: L, 0, n, _, _, e => by
    simp only [List.getElem_cons_zero] at e ⊢
    simp [look, e]
  | (x, y) :: L, k + 1, n, h, hn, e => by
    simp only [List.take_succ_cons, List.mem_cons] at hn
    have h1 := hn (x, y) (.inl rfl)
    simp only [List.getElem_cons_succ] at e ⊢
    unfold look
    rw [if_neg (fun e2 => h1 e2.symm)]
    exact look_first (by simpa using h) (fun o ho => hn o (.inr ho)) e

theorem look_noneO : ∀ {L : List ObjS} {n : ByteArray}, (∀ o ∈ L, o.1 ≠ n) → look L n = none
  | [], _, _ => rfl
  | (x, y) :: L, n, hn => by
    have h1 := hn (x, y) (by simp)
    unfold look
    rw [if_neg (fun e2 => h1 e2.symm)]
    exact look_noneO (fun o ho => hn o (by simp [ho]))

theorem bytesO_first {L : List ObjS} {k : Nat} {n : ByteArray} (h : k < L.length) (hn : ∀ o ∈ L.take k, o.1 ≠ n) (e : L[k].1 = n) : bytesO L n = L[k].2 := by unfold bytesO; rw [look_first h hn e]

theorem bytesO_none {L : List ObjS} {n : ByteArray} (hn : ∀ o ∈ L, o.1 ≠ n) : bytesO L n = ⟨#[]⟩ := by unfold bytesO; rw [look_noneO hn]

theorem bytesO_sizeR {L : List ObjS} (h : ∀ o ∈ L, o.1.size ≤ 1000 ∧ o.2.size ≤ 5000) (n : ByteArray) : (bytesO L n).size ≤ 5000 := by
  unfold bytesO
  cases hl : look L n with
  | none => exact Nat.zero_le _
  | some d => exact (h _ (look_mem hl)).2

def BytesRel (w : World) (L : List ObjS) (n : ByteArray) (gk : Nat) (u : Value) (wr : World) : Prop := ∃ k, k ≤ L.length ∧ gk = L.length - k ∧ u = .int .i64 k ∧ (∀ o ∈ L.take k, o.1 ≠ n) ∧ Keeps [] w wr

set_option linter.unusedSimpArgs false in
set_option maxRecDepth 100000 in
set_option maxHeartbeats 4000000 in
theorem rBytes_spec (w : World) (v : Value) (L : List ObjS) (n : ByteArray) (hO : SliceArg 2 encObj w v L) :
    Calls Tryz.prog 51 #[v, .string n] w fun e w' => e = .returned (.string (bytesO L n)) ∧ Keeps [] w w' := by
  have HO := Lib.hid hO
  obtain ⟨av, cv, rfl, hvm, -⟩ := hO
  unfold maxLen at hvm
  obtain ⟨R, hR⟩ : ∃ R, R = bytesO L n := ⟨_, rfl⟩
  have HR := Lib.hid hR
  rw [← hR]
  clear hR
  go_enter Tryz.func51, Tryz.ntmps51
  go_wp2_with fail
  go_loopg [9] L.length (BytesRel w L n)
  case atStart => exact ⟨0, Nat.zero_le _, rfl, rfl, by simp, Keeps.refl _ _⟩
  case round =>
    obtain ⟨k, hk, hgk, rfl, hno, hkr⟩ := hrel
    have Hg := Lib.hid (And.intro hgk (And.intro hno hkr))
    clear hgk hno
    by_cases hlt : k < L.length
    · have hlt' : (k : Int) < (L.length : Int) := by omega
      obtain ⟨b6, of6, ea, hb6w, hc6w⟩ := HO.out.atI k hlt
      subst ea
      have hb6 := hkr.lt hb6w
      have d0 : wr.cell? ⟨b6, of6 + k * 2, none⟩ = some (.string L[k].1) := (hkr.cell hb6w (by simp)).trans (hc6w 0 (by decide))
      have d1 : wr.cell? ⟨b6, of6 + k * 2 + 1, none⟩ = some (.string L[k].2) := (hkr.cell hb6w (by simp)).trans (hc6w 1 (by decide))
      have Hf := Lib.hid (bytesO_first (n := n) hlt Hg.out.2.1)
      have Hsn := Lib.hid (show L[k].1 ≠ n → ∀ o ∈ L.take (k + 1), o.1 ≠ n from fun hne o ho => by
        rw [List.take_succ_eq_append_getElem hlt] at ho
        rcases List.mem_append.1 ho with ho | ho
        · exact Hg.out.2.1 o ho
        · obtain rfl := List.mem_singleton.1 ho
          exact hne)
      clear hc6w hb6w
      obtain ⟨o, hoe⟩ : ∃ o, o = L[k] := ⟨_, rfl⟩
      rw [← hoe] at d0 d1 Hf Hsn
      clear hoe
      obtain ⟨nm, dt⟩ := o
      dsimp only at d0 d1 Hf Hsn
      have kw := hkr.alloc (.cells #[.string nm, .string dt] 28)
      have Hk := Lib.hid kw
      clear hkr kw
      by_cases hnn : nm = n
      · have e1 : (nm.toList == n.toList) = true := by rw [hnn]; simp
        have Hd := Lib.hid (HR.out.trans (Hf.out hnn))
        clear hnn Hsn Hf
        go_wp2_with fail
        go_ret
        exact ⟨by rw [Hd.out]; rfl, Hk.out⟩
      · have e1 : (nm.toList == n.toList) = false := by rw [toList_beq]; exact decide_eq_false hnn
        have Hs2 := Lib.hid (Hsn.out hnn)
        clear hnn Hsn Hf
        go_wp2_with fail
        go_roundg (L.length - (k + 1))
        case measure => have := Hg.out.1; omega
        case rel => exact ⟨k + 1, by omega, rfl, by go_num, Hs2.out, Hk.out⟩
    · obtain rfl : k = L.length := by omega
      have hge : ¬ (L.length : Int) < (L.length : Int) := by omega
      have Hd := Lib.hid (HR.out.trans (bytesO_none (n := n) (fun o ho => Hg.out.2.1 o (by rw [List.take_length]; exact ho))))
      clear hkr
      go_wp2_with fail
      go_ret
      exact ⟨by rw [Hd.out]; rfl, Hg.out.2.2⟩

theorem slash_mark (ib : ByteArray) : ib ++ (⟨#[47, 109, 97, 114, 107]⟩ : ByteArray) = objectB ib markB := by
  refine ba_ext ?_
  rw [object_data, ByteArray.data_append, Array.toList_append]
  rfl

theorem BlksV.keepS {B : Nat} {w w' : World} {v : Value} {T : List BlkS} {S : List Nat} (h : BlksV B w v T) (k : Keeps S w w') (hS : ∀ x ∈ S, x < B) : BlksV B w' v T := by
  obtain ⟨VS, h1, h2, h3⟩ := h
  refine ⟨VS, h1.keep k hS, h2, fun i hi hi' => ?_⟩
  obtain ⟨vs, e, hm⟩ := h3 i hi hi'
  exact ⟨vs, e, hm.keep k hS⟩

theorem BlksV.lowS {B B' : Nat} {w : World} {v : Value} {T : List BlkS} (h : BlksV B w v T) (hB : B' ≤ B) : BlksV B' w v T := by
  obtain ⟨VS, h1, h2, h3⟩ := h
  refine ⟨VS, h1.low hB, h2, fun i hi hi' => ?_⟩
  obtain ⟨vs, e, hm⟩ := h3 i hi hi'
  exact ⟨vs, e, hm.low hB⟩

theorem whenO_neg {L : List ObjS} {id : ByteArray} {U : List UInt8 × Int × Int} (hU : unmarkL (bytesO L (objectB id markB)).data.toList = U) (h : ¬ (U.2.2 = 0 ∧ U.1 = id.data.toList)) : whenO L id = -1 := by
  unfold whenO
  rw [hU, if_neg h]

theorem whenO_pos {L : List ObjS} {id : ByteArray} {U : List UInt8 × Int × Int} (hU : unmarkL (bytesO L (objectB id markB)).data.toList = U) (h : U.2.2 = 0 ∧ U.1 = id.data.toList) : whenO L id = U.2.1 := by
  unfold whenO
  rw [hU, if_pos h]

def RowsQ (base : Nat) (w : World) (R : List (List Value)) (S : List BlkS) : Prop := ∀ i (h : i < R.length) (h' : i < S.length), ∃ vs, R[i] = vs ++ [.int .i64 S[i].2] ∧ MetaQ base w vs S[i].1

theorem RowsQ.same {base : Nat} {w w' : World} {R : List (List Value)} {S : List BlkS} (h : RowsQ base w R S) (k : Keeps [] w w') : RowsQ base w' R S := fun i hi hi' => by
  obtain ⟨vs, e, hm⟩ := h i hi hi'
  exact ⟨vs, e, hm.same k⟩

theorem RowsQ.keepRow {b base s n : Nat} {e : TypeId} {w w' : World} {xs : List Value} {v : Value} {R : List (List Value)} {S : List BlkS} (h : RowsQ base w R S) (hr : w.ownsRow b e s v n xs) (k : Keeps v.ownBlock.toList w w') (h1 : e ≠ 170) (h2 : e ≠ 9) : RowsQ base w' R S := fun i hi hi' => by
  obtain ⟨vs, e, hm⟩ := h i hi hi'
  exact ⟨vs, e, hm.keepRow hr k h1 h2⟩

theorem RowsQ.out {base b : Nat} {w w' : World} {R : List (List Value)} {S : List BlkS} {cs : Array Value} {t : TypeId} {z : Nat × Nat} (h : RowsQ base w R S) (k : Keeps [b] w w') (hb : w.heap[b]? = some (.cells cs t z)) (h1 : t ≠ 170) (h2 : t ≠ 9) : RowsQ base w' R S := fun i hi hi' => by
  obtain ⟨vs, e, hm⟩ := h i hi hi'
  exact ⟨vs, e, hm.out k hb h1 h2⟩

theorem RowsQ.snoc {base : Nat} {w : World} {R : List (List Value)} {S : List BlkS} {vs : List Value} {p : BlkS} (h : RowsQ base w R S) (hl : R.length = S.length) (hm : MetaQ base w vs p.1) : RowsQ base w (R ++ [vs ++ [.int .i64 p.2]]) (S ++ [p]) := by
  intro i hi hi'
  by_cases e : i < R.length
  · rw [List.getElem_append_left e, List.getElem_append_left (by omega)]
    exact h i e (by omega)
  · have e1 : i = R.length := by simp at hi; omega
    subst e1
    rw [List.getElem_append_right (by omega), List.getElem_append_right (by omega)]
    exact ⟨vs, by simp, by simpa [hl] using hm⟩

theorem metaQ_len {base : Nat} {w : World} {vs : List Value} {m : MetaS} (h : MetaQ base w vs m) : vs.length = 8 := by
  obtain ⟨vf, vo, e, _⟩ := h
  rw [e]
  rfl

theorem RowsQ.blks {base : Nat} {w : World} {R : List (List Value)} {S : List BlkS} {v : Value} (h : RowsQ base w R S) (hl : R.length = S.length) (hr : w.ownsRow base 68 9 v R.length (R.flatMap id)) : BlksV base w v S := by
  let g : BlkS × List Value → List Value := fun p => if p.2.length = 9 then p.2 else List.replicate 9 undef
  have hall : ∀ x ∈ R, x.length = 9 := fun x hx => by
    obtain ⟨i, hi, rfl⟩ := List.getElem_of_mem hx
    obtain ⟨vs, e, hm⟩ := h i hi (by omega)
    rw [e, List.length_append, metaQ_len hm]
    rfl
  refine ⟨R, ?_, hl, fun i hi hi' => ?_⟩
  · have h9 : ∀ x : List Value, (if x.length = 9 then x else List.replicate 9 undef).length = 9 := fun x => by
      by_cases e : x.length = 9
      · rw [if_pos e]; exact e
      · rw [if_neg e]; simp
    have hf : R.flatMap (fun x : List Value => if x.length = 9 then x else List.replicate 9 undef) = R.flatMap id := by
      have key : ∀ Q : List (List Value), (∀ x ∈ Q, x.length = 9) → Q.flatMap (fun x : List Value => if x.length = 9 then x else List.replicate 9 undef) = Q.flatMap id := by
        intro Q
        induction Q with
        | nil => intro _; rfl
        | cons a Q ih =>
          intro hq
          rw [List.flatMap_cons, List.flatMap_cons, ih (fun x hx => hq x (by simp [hx])), if_pos (hq a (by simp))]
          rfl
      exact key R hall
    rw [← hf] at hr
    have h3 := sliceFrom_row (enc := fun x : List Value => if x.length = 9 then x else List.replicate 9 undef) h9 hr
    obtain ⟨aa, cp, e, a1, a2, a3, a4⟩ := h3
    refine ⟨aa, cp, e, a1, a2, a3, fun i hi => ?_⟩
    obtain ⟨b, off, e2, hb, hlt, hc⟩ := a4 i hi
    refine ⟨b, off, e2, hb, hlt, fun j hj => ?_⟩
    have h0 := hc j hj
    dsimp only at h0
    rw [if_pos (hall _ (List.getElem_mem hi))] at h0
    exact h0
  · obtain ⟨vs, e, hm⟩ := h i hi hi'
    exact ⟨vs, e, hm.metaV⟩

def ROfRel (w : World) (at_ : Int) (L : List ObjS) (rb ob : Nat) (gk : Nat) (u : Value) (wr : World) : Prop :=
  ∃ (k : Nat) (R : List (List Value)) (vl : Value), k ≤ L.length ∧ gk = L.length - k ∧ u = .int .i64 k ∧ R.length = (ofN L k).length ∧ RowsQ (w.heap.size + 2) wr R (ofN L k) ∧ wr.ownsRow (w.heap.size + 2) 68 9 vl R.length (R.flatMap id) ∧
    wr.heap[ob]? = some (.cells #[.int .i64 at_, vl] 40 (0, 0)) ∧ wr.heap[rb]? = some (.cells #[.int .i64 0, .slice none 0 0] 40 (0, 0)) ∧ Keeps [] w wr


set_option linter.unusedSimpArgs false in
set_option maxRecDepth 100000 in
set_option maxHeartbeats 4000000 in
theorem rOf_spec (w : World) (at_ : Int) (v : Value) (L : List ObjS) (hO : SliceArg 2 encObj w v L) (hsz : ∀ o ∈ L, o.1.size ≤ 1000 ∧ o.2.size ≤ 5000) (hl : L.length ≤ 15) :
    Calls Tryz.prog 13 #[.int .i64 at_, v] w fun e w' => ∃ u, e = .returned (.agg #[.int .i64 at_, u]) ∧ BlksV w.heap.size w' u (sortT (ofN L L.length)) ∧ Keeps [] w w' := by
  obtain ⟨TF, hTF⟩ : ∃ T, T = ofN L L.length := ⟨_, rfl⟩
  rw [← hTF]
  have HTF := Lib.hid hTF
  have HO := Lib.hid (And.intro hO hsz)
  obtain ⟨av, cv, rfl, hvm, -⟩ := hO
  obtain ⟨ibk, hibk, hzb0, hzb1, hzb2⟩ := info_parts infoBlk
  obtain ⟨rb, hrb⟩ : ∃ n, n = w.heap.size := ⟨_, rfl⟩
  obtain ⟨ob, hob⟩ : ∃ n, n = w.heap.size + 1 := ⟨_, rfl⟩
  have n0 := new2 w (.cells #[.int .i64 0, .slice none 0 0] 40) (.cells #[.int .i64 at_, .slice none 0 0] 40)
  have k0 : Keeps [] w ((w.alloc (.cells #[.int .i64 0, .slice none 0 0] 40)).alloc (.cells #[.int .i64 at_, .slice none 0 0] 40)) := ((Keeps.refl [] w).alloc _).alloc _
  have hw0 : w.heap.size ≤ rb ∧ rb < w.heap.size + 1 ∧ w.heap.size + 1 ≤ ob ∧ ob < w.heap.size + 2 ∧ rb ≠ ob := by omega
  have HB := Lib.hid (And.intro hrb hob)
  have H0 := Lib.hid (And.intro n0.1 (And.intro n0.2 k0))
  clear n0 k0 hrb hob hsz hTF
  go_enter Tryz.func13, Tryz.ntmps13
  go_upto_region 2 with fail
  rw [← HB.out.2] at H0 ⊢
  rw [← HB.out.1] at H0 ⊢
  generalize (w.alloc (.cells #[.int .i64 0, .slice none 0 0] 40)).alloc (.cells #[.int .i64 at_, .slice none 0 0] 40) = W0 at H0 ⊢
  go_wp2_with fail
  go_loopg [21] L.length (ROfRel w at_ L rb ob)
  case atStart => exact ⟨0, [], .slice none 0 0, Nat.zero_le _, rfl, rfl, by rw [ofN_zero]; rfl, by rw [ofN_zero]; intro i h; simp at h, World.ownsRow_nil W0 (w.heap.size + 2) _ 9, H0.out.2.1, H0.out.1, H0.out.2.2⟩
  case round =>
    obtain ⟨k, R, vl, hk, hgk, rfl, hRl, hRR, hrow, hob, hrb, hkr⟩ := hrel
    have Hg := Lib.hid hgk
    clear H0 hgk
    obtain ⟨al, cl, rfl, -, -, -⟩ := row_slice hrow
    have hR15 : R.length ≤ 15 := by have := ofN_len L k; omega
    by_cases hlt : k < L.length
    · have hlt' : (k : Int) < (L.length : Int) := by omega
      obtain ⟨b6, of6, ea, hb6w, hc6w⟩ := HO.out.1.atI k hlt
      subst ea
      have hb6 := hkr.lt hb6w
      have d0 : wr.cell? ⟨b6, of6 + k * 2, none⟩ = some (.string L[k].1) := (hkr.cell hb6w (by simp)).trans (hc6w 0 (by decide))
      have d1 : wr.cell? ⟨b6, of6 + k * 2 + 1, none⟩ = some (.string L[k].2) := (hkr.cell hb6w (by simp)).trans (hc6w 1 (by decide))
      have hnone := ofN_none hlt
      have hsome := fun M => ofN_some (L := L) (k := k) hlt (M := M)
      have hod : L[k].2.size ≤ 5000 := (HO.out.2 _ (List.getElem_mem hlt)).2
      clear hc6w hb6w
      obtain ⟨o, hoe⟩ : ∃ o, o = L[k] := ⟨_, rfl⟩
      rw [← hoe] at d0 d1 hnone hsome hod
      clear hoe
      obtain ⟨nm, dt⟩ := o
      dsimp only at d0 d1 hod
      have Hst0 := Lib.hid (And.intro hnone hsome)
      have ka : Keeps [] wr (wr.alloc (.cells #[.string nm, .string dt] 28)) := (Keeps.refl [] wr).alloc _
      have na := heap_new wr (.cells #[.string nm, .string dt] 28)
      obtain ⟨tb, htb⟩ : ∃ n, n = wr.heap.size := ⟨_, rfl⟩
      rw [← htb] at na
      have Htb := Lib.hid htb
      have H := Lib.hid (And.intro hRl (And.intro (hRR.same ka) (And.intro (ka.row hrow (by simp)) (And.intro (ka.at_ hob (by simp)) (And.intro (ka.at_ hrb (by simp)) (And.intro (hkr.trans ka) na))))))
      clear hnone hsome hRl hRR hrow hob hrb hkr ka na htb
      go_upto_region 5 with fail
      clear d0 d1
      rw [← Htb.out]
      clear Htb
      generalize wr.alloc (.cells #[.string nm, .string dt] 28) = W1 at H ⊢
      have ct := cells_at H.out.2.2.2.2.2.2
      have lt := lt_of_at H.out.2.2.2.2.2.2
      go_wp2_with fail
      clear ct lt
      refine (refSplitG_spec W1 nm).mono ?_
      rintro e w1 ⟨rfl, hk1⟩
      have H2 := Lib.hid (And.intro H.out.1 (And.intro (H.out.2.1.same hk1) (And.intro (hk1.row H.out.2.2.1 (by simp)) (And.intro (hk1.at_ H.out.2.2.2.1 (by simp)) (And.intro (hk1.at_ H.out.2.2.2.2.1 (by simp)) (And.intro (H.out.2.2.2.2.2.1.trans hk1) (hk1.at_ H.out.2.2.2.2.2.2 (by simp))))))))
      clear hk1 H
      cases hsp : splitL nm.data.toList with
      | none =>
        have hst := Hst0.out.1 (metaO_skip hsp)
        have Hst := Lib.hid hst
        clear hst hsp
        simp only [splitVals]
        go_wp2_with fail
        go_roundg (L.length - (k + 1))
        case measure => have := Hg.out; omega
        case rel => exact ⟨k + 1, R, .slice al R.length cl, by omega, rfl, by go_num, by rw [Hst.out]; exact H2.out.1, by rw [Hst.out]; exact H2.out.2.1, H2.out.2.2.1, H2.out.2.2.2.1, H2.out.2.2.2.2.1, H2.out.2.2.2.2.2.1⟩
      | some r =>
        obtain ⟨idn, part⟩ := r
        simp only [splitVals]
        obtain ⟨ib, hib⟩ : ∃ b : ByteArray, b = ⟨idn.toArray⟩ := ⟨_, rfl⟩
        obtain ⟨pb, hpb⟩ : ∃ b : ByteArray, b = ⟨part.toArray⟩ := ⟨_, rfl⟩
        have hid : ib.data.toList = idn := by rw [hib]
        have hpd : pb.data.toList = part := by rw [hpb]
        rw [← hib, ← hpb]
        have Hib := Lib.hid (And.intro hid hpd)
        clear hib hpb hid hpd
        by_cases hpm : part = metaB.data.toList
        rotate_left
        · have hst := Hst0.out.1 (metaO_part hsp hpm)
          have Hst := Lib.hid hst
          have m3 : (pb.toList == [109, 101, 116, 97]) = false := by rw [ByteArray.toList_eq, Hib.out.2, beq_eq_false_iff_ne]; exact hpm
          have p3 : (pb.toList != [109, 101, 116, 97]) = true := by rw [bne, m3]; rfl
          clear hst hsp hpm
          go_wp2_with fail
          go_roundg (L.length - (k + 1))
          case measure => have := Hg.out; omega
          case rel => exact ⟨k + 1, R, .slice al R.length cl, by omega, rfl, by go_num, by rw [Hst.out]; exact H2.out.1, by rw [Hst.out]; exact H2.out.2.1, H2.out.2.2.1, H2.out.2.2.2.1, H2.out.2.2.2.2.1, H2.out.2.2.2.2.2.1⟩
        subst hpm
        have m3 : (pb.toList == [109, 101, 116, 97]) = true := by rw [ByteArray.toList_eq, Hib.out.2]; rfl
        have p3 : (pb.toList != [109, 101, 116, 97]) = false := by rw [bne, m3]; rfl
        have hiid : isIDB idn = true := (splitL_some hsp).2.1
        have Hsp := Lib.hid (And.intro hsp hiid)
        have ct := cells_at H2.out.2.2.2.2.2.2
        have lt := lt_of_at H2.out.2.2.2.2.2.2
        clear hsp hiid
        go_wp2_with fail
        clear ct lt m3 p3
        refine (rDecode_spec w1 dt (by omega)).mono ?_
        rintro e w3 hdec
        have hbw2 := H2.out.2.2.2.2.2.1.size
        cases hd : decS dt.data.toList with
        | none =>
          rw [hd] at hdec
          obtain ⟨c, hc, rfl, hk3⟩ := hdec
          have hst := Hst0.out.1 (metaO_bad Hsp.out.1 hd)
          have Hst := Lib.hid hst
          have hc1 : (c == 0) = false := by simp [hc]
          have hc2 : (c != 0) = true := by simp [hc]
          have k3a := hk3.trans ((Keeps.refl [] w3).alloc (.cells #[.string ⟨#[]⟩, .int .i64 0, .int .i64 0, .int .i64 0, .int .i64 0, .int .i64 0, .slice none 0 0, .slice none 0 0] 66))
          have H3 := Lib.hid (And.intro H2.out.1 (And.intro (H2.out.2.1.same k3a) (And.intro (k3a.row H2.out.2.2.1 (by simp)) (And.intro (k3a.at_ H2.out.2.2.2.1 (by simp)) (And.intro (k3a.at_ H2.out.2.2.2.2.1 (by simp)) (H2.out.2.2.2.2.2.1.trans k3a))))))
          clear hst hd hc hk3 k3a H2
          unfold zeroT
          go_wp2_with fail
          go_roundg (L.length - (k + 1))
          case measure => have := Hg.out; omega
          case rel => exact ⟨k + 1, R, .slice al R.length cl, by omega, rfl, by go_num, by rw [Hst.out]; exact H3.out.1, by rw [Hst.out]; exact H3.out.2.1, H3.out.2.2.1, H3.out.2.2.2.1, H3.out.2.2.2.2.1, H3.out.2.2.2.2.2⟩
        | some M =>
          rw [hd] at hdec
          obtain ⟨vs, rfl, hmr, hk3⟩ := hdec
          have hvs := hmr
          obtain ⟨vf, vo, rfl, hsf, hso⟩ := hvs
          obtain ⟨af, cf, rfl, -, -, -⟩ := row_slice hsf
          obtain ⟨ao, co, rfl, -, -, -⟩ := row_slice hso
          clear hsf hso
          have ka : Keeps [] w3 (w3.alloc (.cells #[.string M.id, .int .i64 M.mn, .int .i64 M.mx, .int .i64 M.level, .int .i64 M.series, .int .i64 M.samples, .slice af M.files.length cf, .slice ao M.sources.length co] 66)) := (Keeps.refl [] w3).alloc _
          have na := heap_new w3 (.cells #[.string M.id, .int .i64 M.mn, .int .i64 M.mx, .int .i64 M.level, .int .i64 M.series, .int .i64 M.samples, .slice af M.files.length cf, .slice ao M.sources.length co] 66)
          obtain ⟨xb, hxb⟩ : ∃ n, n = w3.heap.size := ⟨_, rfl⟩
          rw [← hxb] at na
          have Hxb := Lib.hid hxb
          have k3a := hk3.trans ka
          have hlow : w.heap.size + 2 ≤ w1.heap.size := by have := lt_of_at H2.out.2.2.2.1; omega
          have H3 := Lib.hid (And.intro H2.out.1 (And.intro (H2.out.2.1.same k3a) (And.intro (k3a.row H2.out.2.2.1 (by simp)) (And.intro (k3a.at_ H2.out.2.2.2.1 (by simp)) (And.intro (k3a.at_ H2.out.2.2.2.2.1 (by simp)) (And.intro (H2.out.2.2.2.2.2.1.trans k3a) (And.intro na ((hmr.same ka).low hlow))))))))
          clear na ka hxb hk3 k3a hmr H2
          go_upto_region 8 with fail
          rw [← Hxb.out]
          clear Hxb
          generalize w3.alloc (.cells #[.string M.id, .int .i64 M.mn, .int .i64 M.mx, .int .i64 M.level, .int .i64 M.series, .int .i64 M.samples, .slice af M.files.length cf, .slice ao M.sources.length co] 66) = W4 at H3 ⊢
          have ct := cells_at H3.out.2.2.2.2.2.2.1
          have lt := lt_of_at H3.out.2.2.2.2.2.2.1
          by_cases hii : M.id.data.toList = idn
          rotate_left
          · have hst := Hst0.out.1 (metaO_other Hsp.out.1 hd hii)
            have Hst := Lib.hid hst
            have i1 : (M.id.toList == ib.toList) = false := by rw [ByteArray.toList_eq, ByteArray.toList_eq, Hib.out.1, beq_eq_false_iff_ne]; exact hii
            have i2 : (M.id.toList != ib.toList) = true := by rw [bne, i1]; rfl
            clear hst hd hii
            go_wp2_with fail
            go_roundg (L.length - (k + 1))
            case measure => have := Hg.out; omega
            case rel => exact ⟨k + 1, R, .slice al R.length cl, by omega, rfl, by go_num, by rw [Hst.out]; exact H3.out.1, by rw [Hst.out]; exact H3.out.2.1, H3.out.2.2.1, H3.out.2.2.2.1, H3.out.2.2.2.2.1, H3.out.2.2.2.2.2.1⟩
          have hst := Hst0.out.2 M (metaO_yes Hsp.out.1 hd hii)
          have Hst := Lib.hid hst
          have i1 : (M.id.toList == ib.toList) = true := by rw [ByteArray.toList_eq, ByteArray.toList_eq, Hib.out.1, hii]; simp
          have i2 : (M.id.toList != ib.toList) = false := by rw [bne, i1]; rfl
          have hie : ib = M.id := ba_ext (by rw [Hib.out.1, hii])
          have hi16 : ib.size ≤ 16 := by have := (isID_signs Hsp.out.2).1; rw [← dsize, Hib.out.1]; omega
          have Hie := Lib.hid hie
          clear hst hd hii hie
          have ka : Keeps [] W4 (W4.alloc (.cells #[.string M.id, .int .i64 M.mn, .int .i64 M.mx, .int .i64 M.level, .int .i64 M.series, .int .i64 M.samples, .slice af M.files.length cf, .slice ao M.sources.length co, .int .i64 (-1)] 68)) := (Keeps.refl [] W4).alloc _
          have na := heap_new W4 (.cells #[.string M.id, .int .i64 M.mn, .int .i64 M.mx, .int .i64 M.level, .int .i64 M.series, .int .i64 M.samples, .slice af M.files.length cf, .slice ao M.sources.length co, .int .i64 (-1)] 68)
          obtain ⟨zb, hzb⟩ : ∃ n, n = W4.heap.size := ⟨_, rfl⟩
          have hzn : w.heap.size + 2 ≤ zb ∧ W4.heap.size ≤ zb := by have := lt_of_at H3.out.2.2.2.1; omega
          rw [← hzb] at na
          have Hzb := Lib.hid hzb
          have H5 := Lib.hid (And.intro H3.out.1 (And.intro (H3.out.2.1.same ka) (And.intro (ka.row H3.out.2.2.1 (by simp)) (And.intro (ka.at_ H3.out.2.2.2.1 (by simp)) (And.intro (ka.at_ H3.out.2.2.2.2.1 (by simp)) (And.intro (H3.out.2.2.2.2.2.1.trans ka) (And.intro na (H3.out.2.2.2.2.2.2.2.same ka))))))))
          have Hzr := Lib.hid (show ∀ g, (Value.slice al R.length cl).ownBlock = some g → g ≠ zb from fun g hg => by have := (World.ownsRow.lt H3.out.2.2.1 g hg).2; omega)
          clear na ka hzb H3
          go_upto_region 10 with fail
          clear i1 i2 ct lt
          rw [← Hzb.out]
          clear Hzb
          generalize W4.alloc (.cells #[.string M.id, .int .i64 M.mn, .int .i64 M.mx, .int .i64 M.level, .int .i64 M.series, .int .i64 M.samples, .slice af M.files.length cf, .slice ao M.sources.length co, .int .i64 (-1)] 68) = W5 at H5 ⊢
          have Hby := Lib.hid (rBytes_spec W5 _ L (ib ++ (⟨#[47, 109, 97, 114, 107]⟩ : ByteArray)) (HO.out.1.keep H5.out.2.2.2.2.2.1))
          go_wp2_with fail
          refine Hby.out.mono ?_
          rintro e w6 ⟨rfl, hk6⟩
          rw [slash_mark]
          clear Hby
          have hbz := bytesO_sizeR HO.out.2 (objectB ib markB)
          obtain ⟨U, hU⟩ : ∃ U, unmarkL (bytesO L (objectB ib markB)).data.toList = U := ⟨_, rfl⟩
          have Hdm := Lib.hid (fun W => by
            have h := rDecodeMark_spec W (bytesO L (objectB ib markB)) (by omega)
            rw [hU] at h
            exact h)
          have HU := Lib.hid (show unmarkL (bytesO L (objectB M.id markB)).data.toList = U from by rw [← Hie.out]; exact hU)
          clear hU
          generalize bytesO L (objectB ib markB) = md at hbz Hdm ⊢
          go_wp2_with fail
          refine (Hdm.out _).mono ?_
          rintro e w7 ⟨rfl, hk7⟩
          have k67 := hk6.trans hk7
          have H7 := Lib.hid (And.intro H5.out.1 (And.intro (H5.out.2.1.same k67) (And.intro (k67.row H5.out.2.2.1 (by simp)) (And.intro (k67.at_ H5.out.2.2.2.1 (by simp)) (And.intro (k67.at_ H5.out.2.2.2.2.1 (by simp)) (And.intro (H5.out.2.2.2.2.2.1.trans k67) (And.intro (k67.at_ H5.out.2.2.2.2.2.2.1 (by simp)) (H5.out.2.2.2.2.2.2.2.same k67))))))))
          clear hk6 hk7 k67 Hdm H5
          obtain ⟨um, ut, ue⟩ := U
          simp only [unmarkVals]
          obtain ⟨ub, hub⟩ : ∃ b : ByteArray, b = ⟨um.toArray⟩ := ⟨_, rfl⟩
          have hud : ub.data.toList = um := by rw [hub]
          rw [← hub]
          have Hub := Lib.hid hud
          clear hub hud
          by_cases hmk : ue = 0 ∧ um = M.id.data.toList
          · obtain ⟨rfl, hum⟩ := hmk
            have hwh := whenO_pos HU.out ⟨rfl, hum⟩
            have Hms := Lib.hid (show ofN L (k + 1) = ofN L k ++ [(M, ut)] from by rw [Hst.out, hwh])
            have i3 : (ub.toList == ib.toList) = true := by rw [ByteArray.toList_eq, ByteArray.toList_eq, Hub.out, Hie.out, hum]; simp
            clear hum hwh
            have cz := cells_at H7.out.2.2.2.2.2.2.1
            have fz := free_at H7.out.2.2.2.2.2.2.1
            have lz := lt_of_at H7.out.2.2.2.2.2.2.1
            have nz : (w7.setCell ⟨zb, 8, none⟩ (.int .i64 ut)).heap[zb]? = some (.cells #[.string M.id, .int .i64 M.mn, .int .i64 M.mx, .int .i64 M.level, .int .i64 M.series, .int .i64 M.samples, .slice af M.files.length cf, .slice ao M.sources.length co, .int .i64 ut] 68 (0, 0)) := (heap_cell_same (i := 8) H7.out.2.2.2.2.2.2.1 _).trans (by simp)
            have kz : Keeps [zb] w7 (w7.setCell ⟨zb, 8, none⟩ (.int .i64 ut)) := (Keeps.refl [zb] w7).setCell (.inl (by simp)) _
            have hzrow : ∀ g, (Value.slice al R.length cl).ownBlock = some g → g ∉ [zb] := fun g hg => by have := Hzr.out g hg; simpa using this
            have H8 := Lib.hid (And.intro H7.out.1 (And.intro (H7.out.2.1.out kz H7.out.2.2.2.2.2.2.1 (by decide) (by decide)) (And.intro (kz.row H7.out.2.2.1 hzrow) (And.intro (kz.at_ H7.out.2.2.2.1 (by simp; omega)) (And.intro (kz.at_ H7.out.2.2.2.2.1 (by simp; omega)) (And.intro (H7.out.2.2.2.2.2.1.after kz (fun x hx => .inr (by simp only [List.mem_singleton] at hx; omega))) (And.intro nz (H7.out.2.2.2.2.2.2.2.out kz H7.out.2.2.2.2.2.2.1 (by decide) (by decide)))))))))
            clear nz kz hzrow H7
            go_upto_region 13 with fail
            clear cz fz lz i3
            generalize w7.setCell ⟨zb, 8, none⟩ (.int .i64 ut) = W8 at H8 ⊢
            have cob := cells_at H8.out.2.2.2.1
            have lob := lt_of_at H8.out.2.2.2.1
            have cz := cells_at H8.out.2.2.2.2.2.2.1
            have lz := lt_of_at H8.out.2.2.2.2.2.2.1
            have hwz := H8.out.2.2.2.2.2.1.size
            have hvl : ∀ g, (Value.slice al R.length cl).ownBlock = some g → w.heap.size ≤ g := fun g hg => by have := (World.ownsRow.lt H8.out.2.2.1 g hg).1; omega
            have Hvl := Lib.hid hvl
            clear hvl
            go_wp2_with (at_builtin; refine wpList_append_own _ rfl (.tmp 73) (.tmp 75) 38 rfl (w.heap.size + 2) 68 ibk _ 9 112 Tryz.underlying38 hibk hzb0 hzb1 hzb2 rfl (by decide) (.slice al R.length cl) R.length (R.flatMap id) rfl (H8.out.2.2.1.alloc _) ⟨W8.heap.size, 0, none⟩ 1 1 [.string M.id, .int .i64 M.mn, .int .i64 M.mx, .int .i64 M.level, .int .i64 M.series, .int .i64 M.samples, .slice af M.files.length cf, .slice ao M.sources.length co, .int .i64 ut] rfl rfl (news_of (heap_new W8 _)) (by simp [Value.oneCell']) (by simp only [maxLen]; omega) (by omega) (by simp; omega) ?_; intro v8 w8 hown8 hgrow8 hnil; clear hnil; obtain ⟨ao8, cp8, hv8, -, -, -⟩ := row_slice hown8; subst hv8; have nm8 := (hgrow8.block ob (by simp; omega) (fun e => row_ne_type H8.out.2.2.1 H8.out.2.2.2.1 (by decide) _ e.symm rfl)).trans (heap_old H8.out.2.2.2.1 _); have cm8 := cells_at nm8; have fm8 := free_at nm8; have lm8 := lt_of_at nm8)
            have ka : Keeps [] W8 (W8.alloc (.cells #[.string M.id, .int .i64 M.mn, .int .i64 M.mx, .int .i64 M.level, .int .i64 M.series, .int .i64 M.samples, .slice af M.files.length cf, .slice ao M.sources.length co, .int .i64 ut] 68)) := (Keeps.refl [] W8).alloc _
            have kg := keeps_rowM hgrow8
            have hrowa := H8.out.2.2.1.alloc (.cells #[.string M.id, .int .i64 M.mn, .int .i64 M.mx, .int .i64 M.level, .int .i64 M.series, .int .i64 M.samples, .slice af M.files.length cf, .slice ao M.sources.length co, .int .i64 ut] 68)
            have hRs9 : RowsQ (w.heap.size + 2) w8 R (ofN L k) := (H8.out.2.1.same ka).keepRow hrowa kg (by decide) (by decide)
            have hm9 : MetaQ (w.heap.size + 2) w8 [.string M.id, .int .i64 M.mn, .int .i64 M.mx, .int .i64 M.level, .int .i64 M.series, .int .i64 M.samples, .slice af M.files.length cf, .slice ao M.sources.length co] M := (H8.out.2.2.2.2.2.2.2.same ka).keepRow hrowa kg (by decide) (by decide)
            have hra := ka.at_ H8.out.2.2.2.2.1 (by simp)
            have nr9 := kg.at_ hra (row_ne_typeM hrowa hra (by decide))
            have hk9 : Keeps [] w w8 := keeps_grownM (H8.out.2.2.2.2.2.1.alloc _) hgrow8 Hvl.out
            have hRs10 := hRs9.snoc (p := (M, ut)) H8.out.1 hm9
            rw [← Hms.out] at hRs10
            have hrow9 : w8.ownsRow (w.heap.size + 2) 68 9 (.slice ao8 (R ++ [([.string M.id, .int .i64 M.mn, .int .i64 M.mx, .int .i64 M.level, .int .i64 M.series, .int .i64 M.samples, .slice af M.files.length cf, .slice ao M.sources.length co] : List Value) ++ [Value.int .i64 ut]]).length cp8) (R ++ [([.string M.id, .int .i64 M.mn, .int .i64 M.mx, .int .i64 M.level, .int .i64 M.series, .int .i64 M.samples, .slice af M.files.length cf, .slice ao M.sources.length co] : List Value) ++ [Value.int .i64 ut]]).length ((R ++ [([.string M.id, .int .i64 M.mn, .int .i64 M.mx, .int .i64 M.level, .int .i64 M.series, .int .i64 M.samples, .slice af M.files.length cf, .slice ao M.sources.length co] : List Value) ++ [Value.int .i64 ut]]).flatMap id) := by
              rw [List.flatMap_append, List.length_append]
              simpa using hown8
            have hR1 : (R ++ [([.string M.id, .int .i64 M.mn, .int .i64 M.mx, .int .i64 M.level, .int .i64 M.series, .int .i64 M.samples, .slice af M.files.length cf, .slice ao M.sources.length co] : List Value) ++ [Value.int .i64 ut]]).length = R.length + 1 := by simp
            have HR1 := Lib.hid (And.intro hR1 (show (R ++ [([.string M.id, .int .i64 M.mn, .int .i64 M.mx, .int .i64 M.level, .int .i64 M.series, .int .i64 M.samples, .slice af M.files.length cf, .slice ao M.sources.length co] : List Value) ++ [Value.int .i64 ut]]).length = (ofN L (k + 1)).length from by rw [Hms.out, List.length_append, List.length_append, H8.out.1]; rfl))
            have k89 : Keeps [ob] w8 (w8.setCell ⟨ob, 1, none⟩ (.slice ao8 (R.length + 1) cp8)) := (Keeps.refl [ob] w8).setCell (.inl (by simp)) _
            have nm9 : (w8.setCell ⟨ob, 1, none⟩ (.slice ao8 (R.length + 1) cp8)).heap[ob]? = some (.cells #[.int .i64 at_, .slice ao8 (R.length + 1) cp8] 40 (0, 0)) := (heap_cell_same (i := 1) nm8 _).trans (by simp)
            have H9 := Lib.hid (And.intro (hRs10.out k89 nm8 (by decide) (by decide)) (And.intro (k89.row hrow9 (fun g hg => by have := row_ne_type hrow9 nm8 (by decide) g hg; simpa using this)) (And.intro nm9 (And.intro (k89.at_ nr9 (by simp; omega)) (hk9.after k89 (fun x hx => .inr (by simp only [List.mem_singleton] at hx; omega)))))))
            clear ka kg hrowa hRs9 hm9 hra nr9 hk9 hRs10 hrow9 hown8 hgrow8 Hvl H8 hR1 k89 nm9 nm8 cm8 fm8 lm8 cob lob cz lz
            go_roundg (L.length - (k + 1))
            case measure => have := Hg.out; omega
            case rel => exact ⟨k + 1, R ++ [([.string M.id, .int .i64 M.mn, .int .i64 M.mx, .int .i64 M.level, .int .i64 M.series, .int .i64 M.samples, .slice af M.files.length cf, .slice ao M.sources.length co] : List Value) ++ [Value.int .i64 ut]], .slice ao8 (R.length + 1) cp8, by omega, rfl, by go_num, HR1.out.2, H9.out.1, by have h := H9.out.2.1; rw [HR1.out.1] at h ⊢; exact h, H9.out.2.2.1, H9.out.2.2.2.1, H9.out.2.2.2.2⟩
          · have hwh := whenO_neg HU.out hmk
            have Hms := Lib.hid (show ofN L (k + 1) = ofN L k ++ [(M, -1)] from by rw [Hst.out, hwh])
            have H8 := H7
            clear hwh H7
            obtain ⟨W8, hW8⟩ : ∃ W, W = w7 := ⟨_, rfl⟩
            rw [← hW8] at H8 ⊢
            clear hW8
            by_cases hue : ue = 0
            · subst hue
              have i3 : (ub.toList == ib.toList) = false := by rw [ByteArray.toList_eq, ByteArray.toList_eq, Hub.out, Hie.out, beq_eq_false_iff_ne]; exact fun e => hmk ⟨rfl, e⟩
              clear hmk
              go_upto_region 13 with fail
              clear i3
              have cob := cells_at H8.out.2.2.2.1
              have lob := lt_of_at H8.out.2.2.2.1
              have cz := cells_at H8.out.2.2.2.2.2.2.1
              have lz := lt_of_at H8.out.2.2.2.2.2.2.1
              have hwz := H8.out.2.2.2.2.2.1.size
              have hvl : ∀ g, (Value.slice al R.length cl).ownBlock = some g → w.heap.size ≤ g := fun g hg => by have := (World.ownsRow.lt H8.out.2.2.1 g hg).1; omega
              have Hvl := Lib.hid hvl
              clear hvl
              go_wp2_with (at_builtin; refine wpList_append_own _ rfl (.tmp 73) (.tmp 75) 38 rfl (w.heap.size + 2) 68 ibk _ 9 112 Tryz.underlying38 hibk hzb0 hzb1 hzb2 rfl (by decide) (.slice al R.length cl) R.length (R.flatMap id) rfl (H8.out.2.2.1.alloc _) ⟨W8.heap.size, 0, none⟩ 1 1 [.string M.id, .int .i64 M.mn, .int .i64 M.mx, .int .i64 M.level, .int .i64 M.series, .int .i64 M.samples, .slice af M.files.length cf, .slice ao M.sources.length co, .int .i64 (-1)] rfl rfl (news_of (heap_new W8 _)) (by simp [Value.oneCell']) (by simp only [maxLen]; omega) (by omega) (by simp; omega) ?_; intro v8 w8 hown8 hgrow8 hnil; clear hnil; obtain ⟨ao8, cp8, hv8, -, -, -⟩ := row_slice hown8; subst hv8; have nm8 := (hgrow8.block ob (by simp; omega) (fun e => row_ne_type H8.out.2.2.1 H8.out.2.2.2.1 (by decide) _ e.symm rfl)).trans (heap_old H8.out.2.2.2.1 _); have cm8 := cells_at nm8; have fm8 := free_at nm8; have lm8 := lt_of_at nm8)
              have ka : Keeps [] W8 (W8.alloc (.cells #[.string M.id, .int .i64 M.mn, .int .i64 M.mx, .int .i64 M.level, .int .i64 M.series, .int .i64 M.samples, .slice af M.files.length cf, .slice ao M.sources.length co, .int .i64 (-1)] 68)) := (Keeps.refl [] W8).alloc _
              have kg := keeps_rowM hgrow8
              have hrowa := H8.out.2.2.1.alloc (.cells #[.string M.id, .int .i64 M.mn, .int .i64 M.mx, .int .i64 M.level, .int .i64 M.series, .int .i64 M.samples, .slice af M.files.length cf, .slice ao M.sources.length co, .int .i64 (-1)] 68)
              have hRs9 : RowsQ (w.heap.size + 2) w8 R (ofN L k) := (H8.out.2.1.same ka).keepRow hrowa kg (by decide) (by decide)
              have hm9 : MetaQ (w.heap.size + 2) w8 [.string M.id, .int .i64 M.mn, .int .i64 M.mx, .int .i64 M.level, .int .i64 M.series, .int .i64 M.samples, .slice af M.files.length cf, .slice ao M.sources.length co] M := (H8.out.2.2.2.2.2.2.2.same ka).keepRow hrowa kg (by decide) (by decide)
              have hra := ka.at_ H8.out.2.2.2.2.1 (by simp)
              have nr9 := kg.at_ hra (row_ne_typeM hrowa hra (by decide))
              have hk9 : Keeps [] w w8 := keeps_grownM (H8.out.2.2.2.2.2.1.alloc _) hgrow8 Hvl.out
              have hRs10 := hRs9.snoc (p := (M, (-1))) H8.out.1 hm9
              rw [← Hms.out] at hRs10
              have hrow9 : w8.ownsRow (w.heap.size + 2) 68 9 (.slice ao8 (R ++ [([.string M.id, .int .i64 M.mn, .int .i64 M.mx, .int .i64 M.level, .int .i64 M.series, .int .i64 M.samples, .slice af M.files.length cf, .slice ao M.sources.length co] : List Value) ++ [Value.int .i64 (-1)]]).length cp8) (R ++ [([.string M.id, .int .i64 M.mn, .int .i64 M.mx, .int .i64 M.level, .int .i64 M.series, .int .i64 M.samples, .slice af M.files.length cf, .slice ao M.sources.length co] : List Value) ++ [Value.int .i64 (-1)]]).length ((R ++ [([.string M.id, .int .i64 M.mn, .int .i64 M.mx, .int .i64 M.level, .int .i64 M.series, .int .i64 M.samples, .slice af M.files.length cf, .slice ao M.sources.length co] : List Value) ++ [Value.int .i64 (-1)]]).flatMap id) := by
                rw [List.flatMap_append, List.length_append]
                simpa using hown8
              have hR1 : (R ++ [([.string M.id, .int .i64 M.mn, .int .i64 M.mx, .int .i64 M.level, .int .i64 M.series, .int .i64 M.samples, .slice af M.files.length cf, .slice ao M.sources.length co] : List Value) ++ [Value.int .i64 (-1)]]).length = R.length + 1 := by simp
              have HR1 := Lib.hid (And.intro hR1 (show (R ++ [([.string M.id, .int .i64 M.mn, .int .i64 M.mx, .int .i64 M.level, .int .i64 M.series, .int .i64 M.samples, .slice af M.files.length cf, .slice ao M.sources.length co] : List Value) ++ [Value.int .i64 (-1)]]).length = (ofN L (k + 1)).length from by rw [Hms.out, List.length_append, List.length_append, H8.out.1]; rfl))
              have k89 : Keeps [ob] w8 (w8.setCell ⟨ob, 1, none⟩ (.slice ao8 (R.length + 1) cp8)) := (Keeps.refl [ob] w8).setCell (.inl (by simp)) _
              have nm9 : (w8.setCell ⟨ob, 1, none⟩ (.slice ao8 (R.length + 1) cp8)).heap[ob]? = some (.cells #[.int .i64 at_, .slice ao8 (R.length + 1) cp8] 40 (0, 0)) := (heap_cell_same (i := 1) nm8 _).trans (by simp)
              have H9 := Lib.hid (And.intro (hRs10.out k89 nm8 (by decide) (by decide)) (And.intro (k89.row hrow9 (fun g hg => by have := row_ne_type hrow9 nm8 (by decide) g hg; simpa using this)) (And.intro nm9 (And.intro (k89.at_ nr9 (by simp; omega)) (hk9.after k89 (fun x hx => .inr (by simp only [List.mem_singleton] at hx; omega)))))))
              clear ka kg hrowa hRs9 hm9 hra nr9 hk9 hRs10 hrow9 hown8 hgrow8 Hvl H8 hR1 k89 nm9 nm8 cm8 fm8 lm8 cob lob cz lz
              go_roundg (L.length - (k + 1))
              case measure => have := Hg.out; omega
              case rel => exact ⟨k + 1, R ++ [([.string M.id, .int .i64 M.mn, .int .i64 M.mx, .int .i64 M.level, .int .i64 M.series, .int .i64 M.samples, .slice af M.files.length cf, .slice ao M.sources.length co] : List Value) ++ [Value.int .i64 (-1)]], .slice ao8 (R.length + 1) cp8, by omega, rfl, by go_num, HR1.out.2, H9.out.1, by have h := H9.out.2.1; rw [HR1.out.1] at h ⊢; exact h, H9.out.2.2.1, H9.out.2.2.2.1, H9.out.2.2.2.2⟩
            · have hu1 : (ue == 0) = false := by simp [hue]
              clear hmk hue
              go_upto_region 13 with fail
              clear hu1
              have cob := cells_at H8.out.2.2.2.1
              have lob := lt_of_at H8.out.2.2.2.1
              have cz := cells_at H8.out.2.2.2.2.2.2.1
              have lz := lt_of_at H8.out.2.2.2.2.2.2.1
              have hwz := H8.out.2.2.2.2.2.1.size
              have hvl : ∀ g, (Value.slice al R.length cl).ownBlock = some g → w.heap.size ≤ g := fun g hg => by have := (World.ownsRow.lt H8.out.2.2.1 g hg).1; omega
              have Hvl := Lib.hid hvl
              clear hvl
              go_wp2_with (at_builtin; refine wpList_append_own _ rfl (.tmp 73) (.tmp 75) 38 rfl (w.heap.size + 2) 68 ibk _ 9 112 Tryz.underlying38 hibk hzb0 hzb1 hzb2 rfl (by decide) (.slice al R.length cl) R.length (R.flatMap id) rfl (H8.out.2.2.1.alloc _) ⟨W8.heap.size, 0, none⟩ 1 1 [.string M.id, .int .i64 M.mn, .int .i64 M.mx, .int .i64 M.level, .int .i64 M.series, .int .i64 M.samples, .slice af M.files.length cf, .slice ao M.sources.length co, .int .i64 (-1)] rfl rfl (news_of (heap_new W8 _)) (by simp [Value.oneCell']) (by simp only [maxLen]; omega) (by omega) (by simp; omega) ?_; intro v8 w8 hown8 hgrow8 hnil; clear hnil; obtain ⟨ao8, cp8, hv8, -, -, -⟩ := row_slice hown8; subst hv8; have nm8 := (hgrow8.block ob (by simp; omega) (fun e => row_ne_type H8.out.2.2.1 H8.out.2.2.2.1 (by decide) _ e.symm rfl)).trans (heap_old H8.out.2.2.2.1 _); have cm8 := cells_at nm8; have fm8 := free_at nm8; have lm8 := lt_of_at nm8)
              have ka : Keeps [] W8 (W8.alloc (.cells #[.string M.id, .int .i64 M.mn, .int .i64 M.mx, .int .i64 M.level, .int .i64 M.series, .int .i64 M.samples, .slice af M.files.length cf, .slice ao M.sources.length co, .int .i64 (-1)] 68)) := (Keeps.refl [] W8).alloc _
              have kg := keeps_rowM hgrow8
              have hrowa := H8.out.2.2.1.alloc (.cells #[.string M.id, .int .i64 M.mn, .int .i64 M.mx, .int .i64 M.level, .int .i64 M.series, .int .i64 M.samples, .slice af M.files.length cf, .slice ao M.sources.length co, .int .i64 (-1)] 68)
              have hRs9 : RowsQ (w.heap.size + 2) w8 R (ofN L k) := (H8.out.2.1.same ka).keepRow hrowa kg (by decide) (by decide)
              have hm9 : MetaQ (w.heap.size + 2) w8 [.string M.id, .int .i64 M.mn, .int .i64 M.mx, .int .i64 M.level, .int .i64 M.series, .int .i64 M.samples, .slice af M.files.length cf, .slice ao M.sources.length co] M := (H8.out.2.2.2.2.2.2.2.same ka).keepRow hrowa kg (by decide) (by decide)
              have hra := ka.at_ H8.out.2.2.2.2.1 (by simp)
              have nr9 := kg.at_ hra (row_ne_typeM hrowa hra (by decide))
              have hk9 : Keeps [] w w8 := keeps_grownM (H8.out.2.2.2.2.2.1.alloc _) hgrow8 Hvl.out
              have hRs10 := hRs9.snoc (p := (M, (-1))) H8.out.1 hm9
              rw [← Hms.out] at hRs10
              have hrow9 : w8.ownsRow (w.heap.size + 2) 68 9 (.slice ao8 (R ++ [([.string M.id, .int .i64 M.mn, .int .i64 M.mx, .int .i64 M.level, .int .i64 M.series, .int .i64 M.samples, .slice af M.files.length cf, .slice ao M.sources.length co] : List Value) ++ [Value.int .i64 (-1)]]).length cp8) (R ++ [([.string M.id, .int .i64 M.mn, .int .i64 M.mx, .int .i64 M.level, .int .i64 M.series, .int .i64 M.samples, .slice af M.files.length cf, .slice ao M.sources.length co] : List Value) ++ [Value.int .i64 (-1)]]).length ((R ++ [([.string M.id, .int .i64 M.mn, .int .i64 M.mx, .int .i64 M.level, .int .i64 M.series, .int .i64 M.samples, .slice af M.files.length cf, .slice ao M.sources.length co] : List Value) ++ [Value.int .i64 (-1)]]).flatMap id) := by
                rw [List.flatMap_append, List.length_append]
                simpa using hown8
              have hR1 : (R ++ [([.string M.id, .int .i64 M.mn, .int .i64 M.mx, .int .i64 M.level, .int .i64 M.series, .int .i64 M.samples, .slice af M.files.length cf, .slice ao M.sources.length co] : List Value) ++ [Value.int .i64 (-1)]]).length = R.length + 1 := by simp
              have HR1 := Lib.hid (And.intro hR1 (show (R ++ [([.string M.id, .int .i64 M.mn, .int .i64 M.mx, .int .i64 M.level, .int .i64 M.series, .int .i64 M.samples, .slice af M.files.length cf, .slice ao M.sources.length co] : List Value) ++ [Value.int .i64 (-1)]]).length = (ofN L (k + 1)).length from by rw [Hms.out, List.length_append, List.length_append, H8.out.1]; rfl))
              have k89 : Keeps [ob] w8 (w8.setCell ⟨ob, 1, none⟩ (.slice ao8 (R.length + 1) cp8)) := (Keeps.refl [ob] w8).setCell (.inl (by simp)) _
              have nm9 : (w8.setCell ⟨ob, 1, none⟩ (.slice ao8 (R.length + 1) cp8)).heap[ob]? = some (.cells #[.int .i64 at_, .slice ao8 (R.length + 1) cp8] 40 (0, 0)) := (heap_cell_same (i := 1) nm8 _).trans (by simp)
              have H9 := Lib.hid (And.intro (hRs10.out k89 nm8 (by decide) (by decide)) (And.intro (k89.row hrow9 (fun g hg => by have := row_ne_type hrow9 nm8 (by decide) g hg; simpa using this)) (And.intro nm9 (And.intro (k89.at_ nr9 (by simp; omega)) (hk9.after k89 (fun x hx => .inr (by simp only [List.mem_singleton] at hx; omega)))))))
              clear ka kg hrowa hRs9 hm9 hra nr9 hk9 hRs10 hrow9 hown8 hgrow8 Hvl H8 hR1 k89 nm9 nm8 cm8 fm8 lm8 cob lob cz lz
              go_roundg (L.length - (k + 1))
              case measure => have := Hg.out; omega
              case rel => exact ⟨k + 1, R ++ [([.string M.id, .int .i64 M.mn, .int .i64 M.mx, .int .i64 M.level, .int .i64 M.series, .int .i64 M.samples, .slice af M.files.length cf, .slice ao M.sources.length co] : List Value) ++ [Value.int .i64 (-1)]], .slice ao8 (R.length + 1) cp8, by omega, rfl, by go_num, HR1.out.2, H9.out.1, by have h := H9.out.2.1; rw [HR1.out.1] at h ⊢; exact h, H9.out.2.2.1, H9.out.2.2.2.1, H9.out.2.2.2.2⟩
    · obtain rfl : k = L.length := by omega
      rw [← HTF.out] at hRl hRR
      have hge : ¬ (L.length : Int) < (L.length : Int) := by omega
      have hwz := hkr.size
      have hblk := RowsQ.blks hRR hRl hrow
      have hTl : TF.length ≤ 20 := by omega
      have hrlt := lt_of_at hrb
      have holt := lt_of_at hob
      have Hso := Lib.hid (sortedR_spec (w.heap.size + 2) wr _ TF hblk hTl (by omega))
      have HE := Lib.hid (And.intro hob (And.intro hrb hkr))
      have cob := cells_at hob
      have lob := lt_of_at hob
      clear hlt hRl hRR hrow hob hrb hkr hblk
      go_wp2_with fail
      clear cob lob
      refine Hso.out.mono ?_
      rintro e w2 ⟨u, rfl, hb2, hk2⟩
      have nob := hk2.at_ HE.out.1 (by simp)
      have cob := cells_at nob
      have fo := free_at nob
      have lob := lt_of_at nob
      have nob2 : (w2.setCell ⟨ob, 1, none⟩ u).heap[ob]? = some (.cells #[.int .i64 at_, u] 40 (0, 0)) := (heap_cell_same (i := 1) nob u).trans (by simp)
      have ko : Keeps [ob] w2 (w2.setCell ⟨ob, 1, none⟩ u) := (Keeps.refl [ob] w2).setCell (.inl (by simp)) _
      obtain ⟨au, cu, rfl⟩ := hb2.form
      have H3 := Lib.hid (And.intro nob2 (And.intro (ko.at_ (hk2.at_ HE.out.2.1 (by simp)) (by simp; omega)) (And.intro (hb2.keepS ko (by simp only [List.mem_singleton]; rintro x rfl; omega)) ((HE.out.2.2.trans hk2).after ko (fun x hx => .inr (by simp only [List.mem_singleton] at hx; omega))))))
      clear nob nob2 ko hb2 hk2 Hso HE
      generalize hSl : (sortT TF).length = sl at H3 ⊢
      clear hSl
      go_upto_region 16 with fail
      clear cob fo lob
      generalize w2.setCell ⟨ob, 1, none⟩ (.slice au sl cu) = W3 at H3 ⊢
      have cob := cells_at H3.out.1
      have lob := lt_of_at H3.out.1
      have cr := cells_at H3.out.2.1
      have fr := free_at H3.out.2.1
      have lr := lt_of_at H3.out.2.1
      go_wp2_with fail
      have se := set2c (v0 := .int .i64 at_) (v1 := .slice au sl cu) H3.out.2.1
      have hc := cells_at se.1
      have hlr := lt_of_at se.1
      refine bodyPost_ret (v := .agg #[.int .i64 at_, .slice au sl cu]) ?_ rfl ⟨.slice au sl cu, rfl, (H3.out.2.2.1.keepS se.2 (by simp only [List.mem_singleton]; rintro x rfl; omega)).lowS (by omega), H3.out.2.2.2.after se.2 (fun x hx => .inr (by simp only [List.mem_singleton] at hx; omega))⟩
      simp [results, Tryz.results13, go_sem, hc, hlr]
end Go.Proofs.YtjffdcflkkgpfaaGreat
