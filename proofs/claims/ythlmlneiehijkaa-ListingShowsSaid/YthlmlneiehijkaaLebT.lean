/-
  Texts as bytes (leb): Text, TakeText, TakeByte.
  Each contract holds in every world; old memory is left as it was.
-/
import Derived.Test.YthlmlneiehijkaaLeb
namespace Go.Proofs.Ythlmlneiehijkaa
open Go Go.RowKit

theorem dsize (s : ByteArray) : s.data.toList.length = s.size := by simp

set_option maxRecDepth 100000 in
set_option maxHeartbeats 1000000 in
theorem text_spec (w : World) (v : Value) (l : List UInt8) (s : ByteArray) (hl : l.length + s.size ≤ 140737488354000) (h : Buf w v l) :
    Calls Try.prog 76 #[v, .string s] w (BufPost w v (l ++ textL s.data.toList)) := by
  have hcv : IntKind.u64.wrap (s.size : Int) = (s.size : Int) := IntWalk.u64_in _ (by omega)
  have Hu := Lib.hid (uint_spec w v l s.size (by omega) (by omega) h)
  have Hlen := lebL_len10 (v := s.size) (by omega)
  have Hl := Lib.hid (show (l ++ lebL s.size).length = l.length + (lebL s.size).length from List.length_append)
  clear h
  go_enter Try.func76, Try.ntmps76
  go_wp2_with fail
  refine Hu.out.mono ?_
  rintro e w1 ⟨v1, rfl, hb1, ht1⟩
  have Hb := Lib.hid (And.intro hb1 ht1)
  clear hb1 ht1
  go_wp2_with (at_builtin; refine buf_append_str rfl (.tmp 9) (.tmp 10) rfl v1 (l ++ lebL s.size) rfl Hb.out.1 s rfl (by rw [Hl.out]; omega) ?_; intro v2 w2 hb2 ht2)
  go_ret
  exact ⟨_, rfl, by unfold textL; rw [dsize, ← List.append_assoc]; exact hb2, Hb.out.2.trans ht2⟩


def byteVals (l : List UInt8) : Value := match l with
  | [] => .tuple #[.int .u8 0, .string ⟨#[]⟩, .int .i64 2]
  | c :: r => .tuple #[.int .u8 c.toNat, .string ⟨r.toArray⟩, .int .i64 0]

theorem toList_of_cons {s : ByteArray} {c : UInt8} {r : List UInt8} (h : s.data.toList = c :: r) : s = ⟨(c :: r).toArray⟩ := ba_ext (by simpa using h)

set_option maxRecDepth 100000 in
set_option maxHeartbeats 1000000 in
theorem takeByte_spec (w : World) (s : ByteArray) (hs : s.size ≤ maxLen) :
    Calls Try.prog 52 #[.string s] w fun e w' => e = .returned (byteVals s.data.toList) ∧ ∃ n, w' = w.drewN n := by
  unfold maxLen at hs
  have hd := dsize s
  by_cases h0 : s.size = 0
  · obtain ⟨e1, e2⟩ := is_empty h0
    have Hn := Lib.hid (show s.data.toList = [] from List.eq_nil_of_length_eq_zero (by omega))
    clear h0 hd
    go_enter Try.func52, Try.ntmps52
    go_wp2_with fail
    go_ret3
    exact ⟨by rw [Hn.out]; rfl, 0, rfl⟩
  · obtain ⟨e1, e2⟩ := ne_empty h0
    have hlt : (0 : Int) < (s.size : Int) := by omega
    have hlt2 : (1 : Int) ≤ (s.size : Int) := by omega
    have hlt3 : 0 < s.size := by omega
    have Hex := Lib.hid (extract_end s 1)
    have Hc := Lib.hid (show s.data.toList = s[0] :: s.data.toList.drop 1 from by
      have := List.drop_eq_getElem_cons (l := s.data.toList) (i := 0) (by omega)
      rw [List.drop_zero] at this
      exact this)
    clear h0 hd
    go_enter Try.func52, Try.ntmps52
    go_wp2_with fail
    go_quiet (fail)
    go_wp2_with fail
    go_ret3
    exact ⟨by rw [Hc.out]; simp only [byteVals]; rw [← Hex.out]; rfl, _, rfl⟩


def takeTVals (r : List UInt8 × List UInt8 × Int) : Value := .tuple #[.string ⟨r.1.toArray⟩, .string ⟨r.2.1.toArray⟩, .int .i64 r.2.2]

theorem takeM_left (l : List UInt8) (most : Int) : (takeM l most).2.1.length ≤ l.length := by
  have h0 := @takeL_left l 0 0
  unfold takeM
  split
  · simp
  · exact h0

set_option maxRecDepth 100000 in
set_option maxHeartbeats 1000000 in
theorem takeText_spec (w : World) (s : ByteArray) (hs : s.size ≤ maxLen) (most : Int) (hm : most ≤ 9223372036854775807) :
    Calls Try.prog 87 #[.string s, .int .i64 most] w fun e w' => e = .returned (takeTVals (takeT s.data.toList most)) ∧ ∃ n, w' = w.drewN n := by
  have hleft := takeM_left s.data.toList most
  have Hcall := Lib.hid (takeMost_spec w s hs most hm)
  have hb := takeM_bounds s.data.toList hm
  rw [dsize] at hleft
  unfold maxLen at hs
  have hT : takeT s.data.toList most = (if (takeM s.data.toList most).2.2 ≠ 0 then ([], [], (takeM s.data.toList most).2.2)
    else if ((takeM s.data.toList most).2.1.length : Int) < (takeM s.data.toList most).1 then ([], [], 2)
    else ((takeM s.data.toList most).2.1.take (takeM s.data.toList most).1.toNat, (takeM s.data.toList most).2.1.drop (takeM s.data.toList most).1.toNat, 0)) := rfl
  generalize takeT s.data.toList most = R at hT
  generalize takeM s.data.toList most = r at hleft Hcall hT hb
  obtain ⟨u, rest, er⟩ := r
  simp only at hleft hT hb
  by_cases he : er = 0
  · rw [if_neg (fun h => h he)] at hT
    have he' : (er == 0) = true := by simp [he]
    by_cases hbig : (rest.length : Int) < u
    · rw [if_pos hbig] at hT
      have HT := Lib.hid hT
      have hsz : ((⟨rest.toArray⟩ : ByteArray).size : Int) < u := hbig
      clear hT
      subst he
      go_enter Try.func87, Try.ntmps87
      go_wp2_with fail
      refine Hcall.out.mono ?_
      rintro e w' ⟨rfl, nq, rfl⟩
      simp only [takeMVals]
      generalize (⟨rest.toArray⟩ : ByteArray) = rs at hsz ⊢
      go_wp2_with fail
      go_ret3
      exact ⟨by rw [HT.out]; rfl, _, rfl⟩
    · rw [if_neg hbig] at hT
      have HT := Lib.hid hT
      obtain ⟨rs, hrs⟩ : ∃ rs : ByteArray, rs = ⟨rest.toArray⟩ := ⟨_, rfl⟩
      have hrl : rs.size = rest.length := by rw [hrs]; rfl
      have hdt : rs.data.toList = rest := by rw [hrs]
      have Hrs := Lib.hid hrs
      clear hrs
      subst he
      clear hT
      go_enter Try.func87, Try.ntmps87
      go_wp2_with fail
      refine Hcall.out.mono ?_
      rintro e w' ⟨rfl, nq, rfl⟩
      simp only [takeMVals]
      rw [← Hrs.out]
      obtain ⟨k, rfl⟩ : ∃ k : Nat, u = k := ⟨u.toNat, by omega⟩
      have h1 : (k : Int) ≤ (rs.size : Int) := by omega
      have h2 : ¬ ((rs.size : Int) < (k : Int)) := by omega
      have h3 : k ≤ rs.size := by omega
      have Hx := Lib.hid (And.intro (show rs.extract 0 k = ⟨(rest.take k).toArray⟩ from by apply ba_ext; simp [ByteArray.data_extract, List.extract_eq_take_drop, hdt]) (show rs.extract k rs.size = ⟨(rest.drop k).toArray⟩ from by rw [extract_end, hdt]))
      clear hrl hdt hb hbig
      go_wp2_with fail
      go_quiet (fail)
      go_wp2_with fail
      go_ret3
      exact ⟨by rw [HT.out, Hx.out.1, Hx.out.2]; rfl, _, World.drewN_drewN _ _ _⟩
  · rw [if_pos he] at hT
    have he' : (er == 0) = false := by simp [he]
    have HT := Lib.hid hT
    clear hT
    go_enter Try.func87, Try.ntmps87
    go_wp2_with fail
    refine Hcall.out.mono ?_
    rintro e w' ⟨rfl, nq, rfl⟩
    simp only [takeMVals]
    generalize (⟨rest.toArray⟩ : ByteArray) = rs
    go_wp2_with fail
    go_ret3
    exact ⟨by rw [HT.out]; rfl, _, rfl⟩

end Go.Proofs.Ythlmlneiehijkaa
