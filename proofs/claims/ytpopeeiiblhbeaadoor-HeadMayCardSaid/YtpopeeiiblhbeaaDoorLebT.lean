/-
  Texts as bytes (leb): Text, TakeText, TakeByte.
  Each contract holds in every world; old memory is left as it was.
-/
import Derived.Test.YtpopeeiiblhbeaaDoorLeb
namespace Go.Proofs.YtpopeeiiblhbeaaDoor
open Go Go.RowKit

theorem dsize (s : ByteArray) : s.data.toList.length = s.size := by simp

set_option maxRecDepth 100000 in
set_option maxHeartbeats 1000000 in
theorem text_spec (w : World) (v : Value) (l : List UInt8) (s : ByteArray) (hl : l.length + s.size ≤ 140737488354000) (h : Buf w v l) :
    Calls Tryd.prog 104 #[v, .string s] w (BufPost w v (l ++ textL s.data.toList)) := by
  have hcv : IntKind.u64.wrap (s.size : Int) = (s.size : Int) := IntWalk.u64_in _ (by omega)
  have Hu := Lib.hid (uint_spec w v l s.size (by omega) (by omega) h)
  have Hlen := lebL_len10 (v := s.size) (by omega)
  have Hl := Lib.hid (show (l ++ lebL s.size).length = l.length + (lebL s.size).length from List.length_append)
  clear h
  go_enter Tryd.func104, Tryd.ntmps104
  go_wp2_with fail
  refine Hu.out.mono ?_
  rintro e w1 ⟨v1, rfl, hb1, ht1⟩
  have Hb := Lib.hid (And.intro hb1 ht1)
  clear hb1 ht1
  go_wp2_with (at_builtin; refine buf_append_str rfl (.tmp 9) (.tmp 10) rfl v1 (l ++ lebL s.size) rfl Hb.out.1 s rfl (by rw [Hl.out]; omega) ?_; intro v2 w2 hb2 ht2)
  go_ret
  exact ⟨_, rfl, by unfold textL; rw [dsize, ← List.append_assoc]; exact hb2, Hb.out.2.trans ht2⟩


def byteVals (l : List UInt8) : Value := match l with
  | [] => .tuple #[.int .u8 0, .string ⟨#[]⟩, .int .i64 2]
  | c :: r => .tuple #[.int .u8 c.toNat, .string ⟨r.toArray⟩, .int .i64 0]

theorem toList_of_cons {s : ByteArray} {c : UInt8} {r : List UInt8} (h : s.data.toList = c :: r) : s = ⟨(c :: r).toArray⟩ := ba_ext (by simpa using h)


def takeTVals (r : List UInt8 × List UInt8 × Int) : Value := .tuple #[.string ⟨r.1.toArray⟩, .string ⟨r.2.1.toArray⟩, .int .i64 r.2.2]

theorem takeM_left (l : List UInt8) (most : Int) : (takeM l most).2.1.length ≤ l.length := by
  have h0 := @takeL_left l 0 0
  unfold takeM
  split
  · simp
  · exact h0

end Go.Proofs.YtpopeeiiblhbeaaDoor
