/-
  strings.SplitSeq at a separator of one byte, whatever the text: the contract of the function that it hands back.
  The text is shorter than 4294967281 bytes; the library's variable internal/bytealg.MaxLen holds some number.
-/
import Derived.Test.YtjgaidojohgenaaDoorSeqB
import Derived.Test.YtjgaidojohgenaaDoorLabel1P
namespace Go.Proofs.YtjgaidojohgenaaDoor
open Go Go.RowKit

/-- The parts of a text between the bytes c. -/
def partsL (c : UInt8) : List UInt8 → List (List UInt8)
  | [] => [[]]
  | x :: r => if x = c then [] :: partsL c r else (match partsL c r with | [] => [[x]] | p :: ps => (x :: p) :: ps)

theorem partsL_index (c : UInt8) : ∀ l : List UInt8, (Lib.index l [c] = -1 ∧ partsL c l = [l]) ∨ ∃ i : Nat, Lib.index l [c] = (i : Int) ∧ i < l.length ∧ partsL c l = l.take i :: partsL c (l.drop (i + 1))
  | [] => .inl ⟨rfl, rfl⟩
  | x :: r => by
    have hp : [c].isPrefixOf (x :: r) = (c == x) := by simp [List.isPrefixOf]
    by_cases h : x = c
    · subst h
      exact .inr ⟨0, by simp [Lib.index, hp], by simp, by simp [partsL]⟩
    · have hx : (c == x) = false := by simpa using fun e : c = x => h e.symm
      rcases partsL_index c r with ⟨h1, h2⟩ | ⟨i, h1, h2, h3⟩
      · exact .inl ⟨by simp [Lib.index, hp, hx, h1], by simp [partsL, h, h2]⟩
      · refine .inr ⟨i + 1, ?_, by simp; omega, by simp [partsL, h, h3]⟩
        have hn : ((i : Int) == -1) = false := by rw [beq_eq_false_iff_ne]; omega
        unfold Lib.index
        rw [hp, hx, h1, hn]
        rfl

def partsB (c : UInt8) (s : ByteArray) : List ByteArray := (partsL c s.data.toList).map fun p => ⟨p.toArray⟩

theorem extract_fst (s : ByteArray) (k : Nat) : s.extract 0 k = ⟨(s.data.toList.take k).toArray⟩ := by
  apply ba_ext
  simp [ByteArray.data_extract, Array.toList_extract, List.extract_eq_take_drop]

theorem extract_lst (s : ByteArray) (k : Nat) : s.extract k s.size = ⟨(s.data.toList.drop k).toArray⟩ := by
  apply ba_ext
  simp only [ByteArray.data_extract, Array.toList_extract, List.extract_eq_take_drop]
  exact List.take_of_length_le (by simp)

theorem partsB_index (c : UInt8) (s : ByteArray) : (Lib.index s.data.toList [c] = -1 ∧ partsB c s = [s]) ∨ ∃ i : Nat, Lib.index s.data.toList [c] = (i : Int) ∧ i < s.size ∧ partsB c s = s.extract 0 i :: partsB c (s.extract (i + 1) s.size) := by
  rcases partsL_index c s.data.toList with ⟨h1, h2⟩ | ⟨i, h1, h2, h3⟩
  · exact .inl ⟨h1, by unfold partsB; rw [h2]; simp⟩
  · exact .inr ⟨i, h1, by simpa using h2, by unfold partsB; rw [h3, extract_fst, extract_lst]; simp⟩

def leftB (b : Nat) (w : World) : Nat := match w.cell? ⟨b, 0, none⟩ with | some (.string t) => t.size | _ => 0

theorem leftB_of {b : Nat} {w : World} {t : ByteArray} (h : w.cell? ⟨b, 0, none⟩ = some (.string t)) : leftB b w = t.size := by unfold leftB; rw [h]

/-- The cells of the function that SplitSeq hands back. -/
def SplitAt (w : World) (b1 b2 b3 : Nat) (c : UInt8) (t : ByteArray) (m : Int) : Prop :=
  Boxed w b1 9 (.string ⟨#[c]⟩) ∧ Boxed w b2 9 (.string t) ∧ Boxed w b3 3 (.int .i64 0) ∧ w.cell? ⟨1, 0, none⟩ = some (.int .i64 m) ∧ b1 ≠ b2 ∧ b3 ≠ b2 ∧ 1 ≠ b2

theorem SplitAt.stands {w w' : World} {b1 b2 b3 : Nat} {c : UInt8} {t : ByteArray} {m : Int} (h : SplitAt w b1 b2 b3 c t m) (k : Stands [b1, b2, b3, 1] w w') : SplitAt w' b1 b2 b3 c t m := by
  obtain ⟨h1, h2, h3, h4, h5⟩ := h
  exact ⟨(k b1 (by simp)).trans h1, (k b2 (by simp)).trans h2, (k b3 (by simp)).trans h3, (World.cell?_of_block (k 1 (by simp))).trans h4, h5⟩

theorem SplitAt.set {w : World} {b1 b2 b3 : Nat} {c : UInt8} {t : ByteArray} {m : Int} (h : SplitAt w b1 b2 b3 c t m) (t' : ByteArray) : SplitAt (w.setCell ⟨b2, 0, none⟩ (.string t')) b1 b2 b3 c t' m := by
  obtain ⟨h1, h2, h3, h4, h5, h6, h7⟩ := h
  exact ⟨h1.other h5 _, h2.set _, h3.other h6 _, (World.cell?_of_block (Below.heap_setCell w ⟨b2, 0, none⟩ _ _ h7)).trans h4, h5, h6, h7⟩

set_option linter.unusedSimpArgs false in
set_option maxRecDepth 100000 in
set_option maxHeartbeats 2000000 in
theorem splitB_seq (n : Nat) (hn : 1 ≤ n) (b1 b2 b3 : Nat) (c : UInt8) (s : ByteArray) (m : Int) (hs : s.size < 4294967281) :
    SeqB Fence.wide n Tryd.prog 83 #[.pointer (some ⟨b1, 0, none⟩), .pointer (some ⟨b2, 0, none⟩), .pointer (some ⟨b3, 0, none⟩)] (fun x : ByteArray => #[Value.string x]) b2 [b1, b2, b3, 1]
      (fun ys => ys = partsB c s) (fun pre => ∃ r, pre ++ r = partsB c s) (partsB c s).length (fun w => SplitAt w b1 b2 b3 c s m) := by
  intro l J Jx W hW hJb hY h0
  have Hs0 := Lib.hid (And.intro hW h0)
  have c1 := hW.1.cell
  have h1c : 0 < (1 : Int) := by decide
  clear hW h0
  refine callsIn_of_wp Tryd.func83 rfl trivial ?_ rfl
  simp only [Tryd.ntmps83, List.size_toArray, List.length_cons, List.length_nil, Nat.reduceAdd, Nat.reduceSub, Array.replicate_succ, Array.replicate_zero, List.push_toArray, List.append_toArray, List.nil_append, List.cons_append]
  gi_wp2
  gi_loopw [7] (fun _ wr => ∃ pre t, pre ++ partsB c t = partsB c s ∧ t.size ≤ s.size ∧ SplitAt wr b1 b2 b3 c t m ∧ J pre wr) (fun _ wr => leftB b2 wr)
  case atStart => exact ⟨[], s, rfl, Nat.le_refl _, Hs0.out.1, Hs0.out.2⟩
  case round =>
    clear c1 Hs0
    obtain ⟨pre, t, hpt, hts, hat, hJ⟩ := hrel
    have hm := hat.2.2.2.1
    have Hi := Lib.hid (Tryd.strings_Index t ⟨#[c]⟩ m wr (by omega) hm)
    have x1 := hat.1.cell
    have x2 := hat.2.1.cell
    have x3 := hat.2.2.1.cell
    have HA := Lib.hid (And.intro hat (And.intro hpt (And.intro hJ hts)))
    clear hat hpt hJ hm hts
    gi_wp2
    refine ⟨trivial, (callsIn_wide.2 Hi.out).mono ?_⟩
    rintro e w' ⟨rfl, rfl⟩
    rcases partsB_index c t with ⟨h1, h2⟩ | ⟨i, h1, h2, h3⟩
    · have hix : Lib.index t.data.toList (⟨#[c]⟩ : ByteArray).data.toList = -1 := h1
      rw [hix]
      have hlen : pre.length < (partsB c s).length := by rw [← HA.out.2.1, h2]; simp
      obtain ⟨fn, tmps, assign, body, hy, hR⟩ := hY pre t w' HA.out.2.2.1 hlen ⟨[], by rw [List.append_nil, ← HA.out.2.1, h2]⟩
      have H2 := Lib.hid (show pre ++ [t] = partsB c s from by rw [← HA.out.2.1, h2])
      clear h1 h2 hix hlen
      gi_wp2
      refine hR.mono ?_
      rintro e W1 (⟨rfl, hJ1, _⟩ | ⟨rfl, hx1⟩)
      · gi_wp2
        go_end0
        exact ⟨⟨_, rfl⟩, .inl ⟨_, H2.out, hJ1⟩⟩
      · gi_wp2
        go_end0
        exact ⟨⟨_, rfl⟩, .inr ⟨_, ⟨[], by rw [List.append_nil]; exact H2.out⟩, hx1⟩⟩
    · have hix : Lib.index t.data.toList (⟨#[c]⟩ : ByteArray).data.toList = (i : Int) := h1
      rw [hix]
      have hlen : pre.length < (partsB c s).length := by
        rw [← HA.out.2.1, h3, List.length_append, List.length_cons]
        omega
      obtain ⟨fn, tmps, assign, body, hy, hR⟩ := hY pre (t.extract 0 i) w' HA.out.2.2.1 hlen ⟨partsB c (t.extract (i + 1) t.size), by rw [← HA.out.2.1, h3]; simp⟩
      have hts := HA.out.2.2.2
      have hn0 : ¬ ((i : Int) < 0) := by omega
      have hle : (i : Int) ≤ (t.size : Int) := by omega
      have hle1 : (i : Int) + 1 ≤ (t.size : Int) := by omega
      have H2 := Lib.hid (show (pre ++ [t.extract 0 i]) ++ partsB c (t.extract (i + 1) t.size) = partsB c s from by rw [← HA.out.2.1, h3]; simp)
      have HL := Lib.hid (leftB_of x2)
      clear h1 h3 hix hlen
      gi_wp2
      refine hR.mono ?_
      rintro e W1 (⟨rfl, hJ1, hst⟩ | ⟨rfl, hx1⟩)
      · have hat1 := HA.out.1.stands hst
        have y1 := hat1.1.cell
        have y2 := hat1.2.1.cell
        have f2 := hat1.2.1.frozen
        have l2 := hat1.2.1.lt
        have H3 := Lib.hid (And.intro (hat1.set (t.extract (i + 1) t.size)) (hJb _ _ (.string (t.extract (i + 1) t.size)) hJ1))
        clear hJ1 hst hat1
        gi_wp2
        go_roundw
        case rel => exact ⟨_, _, H2.out, by simp; omega, H3.out.1, H3.out.2⟩
        case measure =>
          rw [leftB_of H3.out.1.2.1.cell, HL.out]
          simp
          omega
      · gi_wp2
        refine bodyPost_ret (results_none rfl _ _ _) rfl ?_
        exact ⟨⟨_, rfl⟩, .inr ⟨_, ⟨_, H2.out⟩, hx1⟩⟩
end Go.Proofs.YtjgaidojohgenaaDoor
