/-
  strings.IndexRune, IndexAny, ContainsAny at any text, the signs that are looked for being of ASCII (four to eight of them); how a text's code points are read.
  No condition beyond those that each theorem states.
-/
import Derived.Test.YtgcfkhcogllgfaaGreatDoorGetP
import Derived.Test.YtgcfkhcogllgfaaGreatDoorShelfA
import Derived.Test.YtgcfkhcogllgfaaGreatDoorLabelN
import Derived.Laws.Runes
import Derived.WalkMore
import Derived.BigQuiet
namespace Go.Proofs.YtgcfkhcogllgfaaGreatDoor
set_option maxRecDepth 100000
set_option maxHeartbeats 1000000
set_option linter.unusedSimpArgs false
open Go Go.RowKit
def signsB : ByteArray := ⟨#[61, 33, 94, 64, 44, 124]⟩
def asciiB (s : ByteArray) : Prop := ∀ (j : Nat) b, s.data.toList[j]? = some b → b.toNat < 128
theorem zero256 (w : World) : (zeroValue 209).run Tryz.prog w = .ok (.agg (Array.replicate 256 (.bool false))) w := by kernel_rfl
theorem signs_ascii : asciiB signsB := by
 intro j b h
 match j with
 | 0 => cases h; decide
 | 1 => cases h; decide
 | 2 => cases h; decide
 | 3 => cases h; decide
 | 4 => cases h; decide
 | 5 => cases h; decide
 | n + 6 => simp [signsB] at h
theorem get_at (s : ByteArray) (k : Nat) (h : k < s.size) : s.get! k = s[k]'h := by
 show s.get! k = _
 simp [ByteArray.get!, getElem!_pos, h]
 rfl
def HighTo (s : ByteArray) (pos n : Nat) : Prop := pos + n ≤ s.size ∧ ∀ (j : Nat) b, pos ≤ j → j < pos + n → s.data.toList[j]? = some b → 128 ≤ b.toNat
theorem highTo_of {s : ByteArray} {pos n : Nat} (hn : pos + n ≤ s.size) (h : ∀ i, i < n → 128 ≤ (s.get! (pos + i)).toNat) : HighTo s pos n := by
 refine ⟨hn, fun j b hj1 hj2 hb => ?_⟩
 have h1 := h (j - pos) (by omega)
 rw [show pos + (j - pos) = j from by omega, get_at s j (by omega)] at h1
 have h2 : s.data.toList[j]? = some (s[j]'(by omega)) := Lib.data_getElem? s j (by omega)
 rw [h2] at hb
 cases hb
 exact h1
theorem decode_high (s : ByteArray) (pos : Nat) (h : pos < s.size) (hb : ¬ (s.get! (pos + 0)).toNat < 128) :
  128 ≤ (Utf8.decode s pos).1 ∧ (Utf8.decode s pos).1 ≤ 1114111 ∧ 1 ≤ (Utf8.decode s pos).2 ∧ HighTo s pos (Utf8.decode s pos).2 := by
 have h1 : HighTo s pos 1 := highTo_of (by omega) (fun i hi => by obtain rfl : i = 0 := (by omega); omega)
 have e1 : 128 ≤ (Utf8.runeError, 1).1 ∧ (Utf8.runeError, 1).1 ≤ 1114111 ∧ 1 ≤ (Utf8.runeError, 1).2 ∧ HighTo s pos (Utf8.runeError, 1).2 := ⟨by decide, by decide, by decide, h1⟩
 unfold Utf8.decode
 simp only [hb, if_false]
 split
 ·rename_i h2
  rw [Bool.and_eq_true, Bool.and_eq_true, decide_eq_true_eq, beq_iff_eq, beq_iff_eq] at h2
  split
  ·refine ⟨by assumption, by simp only; omega, by simp, highTo_of (by simp only; omega) (fun i hi => ?_)⟩
   simp only at hi
   match i, hi with
   | 0, _ => omega
   | 1, _ => omega
  ·exact e1
 split
 ·rename_i h2
  simp only [Bool.and_eq_true, decide_eq_true_eq, beq_iff_eq] at h2
  split
  ·rename_i h3
   simp only [ge_iff_le, Bool.and_eq_true, decide_eq_true_eq] at h3
   refine ⟨by simp only; omega, by simp only; omega, by simp, highTo_of (by simp only; omega) (fun i hi => ?_)⟩
   simp only at hi
   match i, hi with
   | 0, _ => omega
   | 1, _ => omega
   | 2, _ => omega
  ·exact e1
 split
 ·rename_i h2
  simp only [Bool.and_eq_true, decide_eq_true_eq, beq_iff_eq] at h2
  split
  ·rename_i h3
   simp only [ge_iff_le, Bool.and_eq_true, decide_eq_true_eq, Utf8.valid, Bool.or_eq_true] at h3
   refine ⟨by simp only; omega, by simp only; omega, by simp, highTo_of (by simp only; omega) (fun i hi => ?_)⟩
   simp only at hi
   match i, hi with
   | 0, _ => omega
   | 1, _ => omega
   | 2, _ => omega
   | 3, _ => omega
  ·exact e1
 exact e1
theorem noAny_high {s : ByteArray} {chars : List UInt8} {pos n : Nat} (hc : ∀ b ∈ chars, b.toNat < 128) (h : Lib.NoAny s.data.toList chars pos) (hh : HighTo s pos n) : Lib.NoAny s.data.toList chars (pos + n) := by
 intro j b hj hb
 by_cases hlt : j < pos
 ·exact h j b hlt hb
 ·have h1 := hh.2 j b (by omega) hj hb
  cases hcb : chars.contains b with
  | false => rfl
  | true =>
   have := hc b (List.contains_iff_mem.1 hcb)
   omega
theorem encode_high (r : Int) (h : 128 ≤ r) : ∃ n x, (Utf8.encode r).size = n + 2 ∧ n ≤ 2 ∧ (Utf8.encode r).data.toList[n + 1]? = some x ∧ 128 ≤ x.toNat := by
 have hl : ∀ c : Nat, (UInt8.ofNat (0x80 + c % 64)).toNat = 128 + c % 64 := fun c => by
  rw [UInt8.toNat_ofNat']
  omega
 obtain ⟨c, hc⟩ : ∃ c, c = (if Utf8.valid r then r.toNat else Utf8.runeError) := ⟨_, rfl⟩
 have hc1 : ¬ c < 128 := by
  rw [hc]
  split
  ·omega
  ·decide
 unfold Utf8.encode
 simp only [← hc, hc1, if_false]
 split
 ·exact ⟨0, _, rfl, by decide, rfl, by rw [hl]; omega⟩
 split
 ·exact ⟨1, _, rfl, by decide, rfl, by rw [hl]; omega⟩
 ·exact ⟨2, _, rfl, by decide, rfl, by rw [hl]; omega⟩
theorem indexByte_high (c : UInt8) (hc : 128 ≤ c.toNat) : ∀ l : List UInt8, (∀ b ∈ l, b.toNat < 128) → Lib.indexByte l c = -1
 | [], _ => rfl
 | b :: l, h => by
  have ih := indexByte_high c hc l (fun x hx => h x (List.mem_cons_of_mem _ hx))
  have hb := h b (List.mem_cons_self ..)
  have he : (b == c) = false := by
   rw [beq_eq_false_iff_ne]
   intro e
   subst e
   omega
  unfold Lib.indexByte
  rw [he, ih]
  rfl
theorem asciiB_mem {s : ByteArray} (h : asciiB s) : ∀ b ∈ s.data.toList, b.toNat < 128 := fun b hb => by
 obtain ⟨j, hj, rfl⟩ := List.mem_iff_getElem.1 hb
 exact h j _ (List.getElem?_eq_getElem hj)
def ABool (w : World) (e : Ending) (w' : World) : Prop := ∃ b, e = .returned (.bool b) ∧ w' = w
theorem validRune_any (w : World) (r : Int) : Calls Tryz.prog 132 #[.int .i32 r] w (ABool w) := by
 go_enter Tryz.func132, Tryz.ntmps132
 by_cases h1 : (0 : Int) ≤ r
 ·by_cases h2 : r < 55296
  ·go_wp2_with fail
   go_ret
   exact ⟨_, rfl, rfl⟩
  ·by_cases h3 : (57343 : Int) < r
   ·by_cases h4 : r ≤ 1114111
    ·go_wp2_with fail
     go_ret
     exact ⟨_, rfl, rfl⟩
    ·go_wp2_with fail
     go_ret
     exact ⟨_, rfl, rfl⟩
   ·go_wp2_with fail
    go_ret
    exact ⟨_, rfl, rfl⟩
 ·by_cases h3 : (57343 : Int) < r
  ·exfalso
   omega
  ·go_wp2_with fail
   go_ret
   exact ⟨_, rfl, rfl⟩
theorem quiet_stay {P : Program} {f : FuncId} {args : Array Value} {w : World} {n : Nat} {v : Value} (h : Calls P f args (w.drewN n) fun e w' => e = .returned v ∧ w' = w.drewN n) : Calls P f args (w.drewN n) fun e w'' => e = .returned v ∧ ∃ m, w'' = w.drewN m :=
 h.mono fun _ _ ⟨he, hm⟩ => ⟨he, n, hm⟩
theorem indexByte_none (s : ByteArray) (hs : asciiB s) (x : UInt8) (hx : 128 ≤ x.toNat) (k : Nat) (w : World) :
  Calls Tryz.prog 131 #[.string (s.extract k s.size), .int .u8 (x.toNat : Int)] w fun e w' => e = .returned (.int .i64 (-1)) ∧ w' = w := by
 refine (Tryz.strings_IndexByte _ _ w).mono ?_
 rintro e w' ⟨rfl, rfl⟩
 refine ⟨?_, rfl⟩
 rw [show ((x.toNat : Int)).toNat.toUInt8 = x from by simp, indexByte_high x hx _ (fun b hb => asciiB_mem hs b ?_)]
 rw [extract_lst] at hb
 exact List.mem_of_mem_drop hb
theorem indexRune_high (w : World) (chars : ByteArray) (hc : asciiB chars) (h4 : 4 ≤ chars.size) (h8 : chars.size ≤ 8) (r : Int) (h1 : 128 ≤ r) :
  Calls Tryz.prog 107 #[.string chars, .int .i32 r] w fun e w' => e = .returned (.int .i64 (-1)) ∧ Keeps [] w w' := by
 have HC := Lib.hid hc
 have g0 : (0 : Int) ≤ r := by omega
 have g1 : ¬ r < 128 := by omega
 clear hc
 go_enter Tryz.func107, Tryz.ntmps107
 by_cases hre : r = 65533
 ·subst hre
  go_wp2_with fail
  go_loopg [5, 6] chars.size (fun gk _ _ wr => ∃ i : Nat, i + gk = chars.size ∧ wr = w.iter chars i)
  case atStart => exact ⟨0, by omega, rfl⟩
  case round =>
   obtain ⟨i, hig, rfl⟩ := hrel
   have Hg := Lib.hid hig
   by_cases hi : i < chars.size
   ·obtain ⟨x, hx⟩ : ∃ x : UInt8, chars[i]'hi = x := ⟨_, rfl⟩
    have hx128 : x.toNat < 128 := HC.out i x (by rw [← hx]; exact Lib.data_getElem? chars i hi)
    have hnx := fun ty => run_next_ascii (P := Tryz.prog) w chars i ty hi (by rw [hx]; exact hx128)
    rw [hx] at hnx
    have hne : ¬ (x.toNat : Int) = 65533 := by omega
    clear hx hig
    go_wp2_with fail
    go_roundg (chars.size - (i + 1))
    case measure => have := Hg.out; omega
    case rel => exact ⟨i + 1, by omega, rfl⟩
   ·obtain rfl : i = chars.size := by omega
    have hnx := run_next_end (P := Tryz.prog) w chars chars.size
    clear hig
    go_wp2_with fail
    go_ret
    exact ⟨rfl, (Keeps.refl [] w).alloc _⟩
 ·have hbe : (r == 65533) = false := by rw [beq_eq_false_iff_ne]; exact hre
  have HE := Lib.hid hre
  clear hre
  go_wp2_with fail
  refine (validRune_any w r).mono ?_
  rintro e w ⟨b, rfl, rfl⟩
  cases b with
  | false =>
   go_wp2_with fail
   go_ret
   exact ⟨rfl, Keeps.refl _ _⟩
  | true =>
   obtain ⟨n, x, hsz, hn2, hx, hx128⟩ := encode_high r h1
   go_wp2_with fail
   go_step3
   go_upto_region 2 with fail
   generalize Utf8.encode r = rs at hsz hx ⊢
   have hsz' : (rs.size : Int) = (n : Int) + 2 := by omega
   have hw1 : IntKind.i64.wrap ((n : Int) + 2 - 1) = (n : Int) + 1 := by rw [IntWalk.i64_in _ (by omega)]; omega
   have hlt : n + 1 < chars.size := by omega
   have hlt' : (n : Int) + 1 < (chars.size : Int) := by omega
   have hxr : rs[n + 1]'(by omega) = x := by
    have := Lib.data_getElem? rs (n + 1) (by omega)
    rw [this] at hx
    exact Option.some.inj hx
   obtain ⟨y, hy⟩ : ∃ y : UInt8, chars[n + 1]'hlt = y := ⟨_, rfl⟩
   have hy128 : y.toNat < 128 := HC.out (n + 1) y (by rw [← hy]; exact Lib.data_getElem? chars (n + 1) hlt)
   have hxy : ¬ (y.toNat : Int) = (x.toNat : Int) := by omega
   go_wp2_with fail
   go_loopg [9, 10, 11, 12] 0 (fun gk u9 _ _ _ wr => u9 = .int .i64 ((n : Int) + 1) ∧ wr = w)
   case atStart => exact ⟨rfl, rfl⟩
   case round =>
    obtain ⟨rfl, rfl⟩ := hrel
    have hle2 : (n : Int) + 2 ≤ (chars.size : Int) := by omega
    have hix : ∀ W : World, (Instr.index 9 (.string rs) (.int .i64 ((n : Int) + 1))).run Tryz.prog W = .ok (.int .u8 (x.toNat : Int)) W := fun W => by
     rw [run_index_string (h := by simp [go_sem]), dif_pos ⟨by omega, by omega⟩]
     have e : ((n : Int) + 1).toNat = n + 1 := by omega
     simp only [e, hxr]
    have hsl : ∀ W : World, (Instr.slice 9 (.string chars) (some (.int .i64 ((n : Int) + 2))) none none).run Tryz.prog W = .ok (.string (chars.extract (n + 2) chars.size)) W := fun W =>
     run_slice_string_l W 9 chars (by simp [go_sem]) .i64 ((n : Int) + 2) (by omega) (by omega)
    have hw2 : IntKind.i64.wrap ((n : Int) + 1 + 1) = (n : Int) + 2 := by rw [IntWalk.i64_in _ (by omega)]; omega
    go_wp2_with fail
    go_step3
    go_wp2_with fail
    go_quiet (fail)
    go_wp2_with fail
    have kq : Keeps [] wr (wr.drewN nq) := (Keeps.refl [] wr).drewN nq
    generalize wr.drewN nq = W2 at kq ⊢
    have HK := Lib.hid kq
    clear kq
    go_quiet ((go_at_call 131; exact quiet_stay (indexByte_none chars HC.out x hx128 _ _)))
    go_wp2_with fail
    simp only [Exit.noGoto_ret, Exit.inBlock, Exit.then]
    go_ret
    exact ⟨rfl, HK.out.drewN _⟩
theorem next_at (W : World) (p : Nat) (s : ByteArray) (pos : Nat) (ty : TypeId) (hp : W.heap[p]? = some (.stringIter s pos)) (h : pos < s.size) :
  (Instr.next (.pointer (some ⟨p, 0, none⟩)) true ty).run Tryz.prog W = .ok (.tuple #[.bool true, .int .i64 pos, .int .i32 (Utf8.decode s pos).1]) (W.putObj p (.stringIter s (pos + (Utf8.decode s pos).2))) := by
 simp only [Instr.next, getObj, setObj, Sem.run_bind, Sem.run, hp, Result.andThen, h, if_true]
 simp [goInt, World.putObj]
theorem next_end (W : World) (p : Nat) (s : ByteArray) (pos : Nat) (ty : TypeId) (hp : W.heap[p]? = some (.stringIter s pos)) (h : ¬ pos < s.size) :
  (Instr.next (.pointer (some ⟨p, 0, none⟩)) true ty).run Tryz.prog W = .ok (.tuple #[.bool false]) W := by
 simp [Instr.next, getObj, Sem.run, hp, h]
def IdxRel (w : World) (s : ByteArray) (chars : List UInt8) (gk : Nat) (wr : World) : Prop := ∃ i : Nat, i ≤ s.size ∧ gk = s.size - i ∧ wr.heap[w.heap.size]? = some (.stringIter s i) ∧ Lib.NoAny s.data.toList chars i ∧ Keeps [] w wr
theorem indexAny_few (w : World) (s chars : ByteArray) (hc : asciiB chars) (h4 : 4 ≤ chars.size) (hc8 : chars.size ≤ 8) (h8 : s.size ≤ 8) :
  Calls Tryz.prog 76 #[.string s, .string chars] w fun e w' => e = .returned (.int .i64 (Lib.indexAny s.data.toList chars.data.toList)) ∧ Keeps [] w w' := by
 have HC := Lib.hid hc
 have hemp : chars.toList.isEmpty = false := by
  rw [Lib.toList_data]
  cases h : chars.data.toList with
  | nil => have := Lib.size_eq chars; rw [h, List.length_nil] at this; omega
  | cons _ _ => rfl
 have hce : ¬ chars = ⟨#[]⟩ := by
  intro e
  rw [e] at h4
  exact absurd h4 (by decide)
 obtain ⟨q1, q2, q3⟩ := not_empty hce
 have hn1 : ((chars.size : Int) == 1) = false := beq_eq_false_iff_ne.2 (by omega)
 have h8z : decide ((8 : Int) < (s.size : Int)) = false := decide_eq_false (by omega)
 have n0 : (w.iter s 0).heap[w.heap.size]? = some (.stringIter s 0) := World.iter_heap w s 0
 have H0 := Lib.hid (And.intro n0 ((Keeps.refl [] w).alloc (.stringIter s 0)))
 clear hc hce n0
 go_enter Tryz.func76, Tryz.ntmps76
 go_wp2_with fail
 refine (Tryz.strings_shouldUseASCIISet _ _).mono ?_
 rintro e w ⟨rfl, rfl⟩
 rw [h8z]
 go_wp2_with fail
 clear q1 q2 q3 hn1 hemp h8z
 go_loopg [9, 10] s.size (fun gk _ _ wr => IdxRel w s chars.data.toList gk wr)
 case atStart => exact ⟨0, Nat.zero_le _, rfl, H0.out.1, Lib.NoAny.zero _ _, H0.out.2⟩
 case round =>
  obtain ⟨i, hi, hgk, hp, hno, hkw⟩ := hrel
  have Hg := Lib.hid (And.intro hgk hno)
  clear hgk hno H0
  by_cases hlt : i < s.size
  ·have hnx := fun ty => next_at wr w.heap.size s i ty hp hlt
   have hpl := lt_of_at hp
   have kP : ∀ o, Keeps [] w (wr.putObj w.heap.size o) := fun o => hkw.after (Keeps.of_grown (S := [w.heap.size]) (grownBy_putObj' wr w.heap.size o) (fun k hk => .inl (by simp at hk; simp [hk]))) (fun y hy => .inr (by simp at hy; omega))
   have hpp : ∀ o : Obj, (wr.putObj w.heap.size o).heap[w.heap.size]? = some o := fun o => World.putObj_heap_same hpl
   by_cases h128 : (s.get! (i + 0)).toNat < 128
   ·have hx : s.get! (i + 0) = s[i]'hlt := get_at s i hlt
    have hd := decode_ascii s i hlt (by rw [← hx]; exact h128)
    obtain ⟨x, hxx⟩ : ∃ x : UInt8, x = s[i]'hlt := ⟨_, rfl⟩
    rw [hx] at h128
    rw [← hxx] at hd h128
    have Hx := Lib.hid (show s.data.toList[i]? = some x from by rw [hxx]; exact Lib.data_getElem? s i hlt)
    have hback : ((x.toNat : Int)).toNat.toUInt8 = x := by simp
    simp only [hd] at hnx
    have HK := Lib.hid (And.intro (kP (.stringIter s (i + 1))) (hpp (.stringIter s (i + 1))))
    have Hr := Lib.hid (Tryz.strings_IndexRune_ascii chars (x.toNat : Int) (wr.putObj w.heap.size (.stringIter s (i + 1))) (by omega) (by omega))
    have hcon := Lib.contains_iff_indexByte chars.data.toList x
    clear hx hxx hd kP hpp hp hkw
    cases hin : chars.data.toList.contains x with
    | false =>
     rw [hin] at hcon
     have hno : ¬ ((0 : Int) ≤ Lib.indexByte chars.data.toList x) := of_decide_eq_false hcon.symm
     have Hin := Lib.hid hin
     clear hcon hin
     go_wp2_with fail
     refine Hr.out.mono ?_
     rintro e w' ⟨rfl, rfl⟩
     rw [hback]
     go_wp2_with fail
     go_roundg (s.size - (i + 1))
     case measure => have := Hg.out.1; omega
     case rel => exact ⟨i + 1, hlt, rfl, HK.out.2, Hg.out.2.succ Hx.out Hin.out, HK.out.1⟩
    | true =>
     rw [hin] at hcon
     have hge : (0 : Int) ≤ Lib.indexByte chars.data.toList x := of_decide_eq_true hcon.symm
     have Hin := Lib.hid hin
     clear hcon hin
     go_wp2_with fail
     refine Hr.out.mono ?_
     rintro e w' ⟨rfl, rfl⟩
     rw [hback]
     go_wp2_with fail
     go_ret
     exact ⟨by rw [Lib.indexAny_hit Hg.out.2 Hx.out Hin.out]; rfl, HK.out.1⟩
   ·obtain ⟨d1, d2, d3, d4⟩ := decode_high s i hlt h128
    obtain ⟨r, hr⟩ : ∃ r, r = (Utf8.decode s i).1 := ⟨_, rfl⟩
    obtain ⟨n, hn⟩ : ∃ n, n = (Utf8.decode s i).2 := ⟨_, rfl⟩
    simp only [← hr, ← hn] at hnx d1 d2 d3 d4
    have hin1 : i + n ≤ s.size := d4.1
    have HK := Lib.hid (And.intro (hpp (.stringIter s (i + n))) (kP (.stringIter s (i + n))))
    have Hn := Lib.hid (noAny_high (fun b hb => asciiB_mem HC.out b hb) Hg.out.2 d4)
    have Hd3 := Lib.hid d3
    clear hr hn kP hpp hp hkw d2 d3 d4 h128
    go_wp2_with fail
    refine (indexRune_high _ chars HC.out h4 hc8 r (by omega)).mono ?_
    rintro e w2 ⟨rfl, hk2⟩
    have H2 := Lib.hid (And.intro (hk2.at_ HK.out.1 (by simp)) (HK.out.2.trans hk2))
    clear hk2 HK
    go_wp2_with fail
    go_roundg (s.size - (i + n))
    case measure => have := Hg.out.1; have := Hd3.out; omega
    case rel => exact ⟨i + n, hin1, rfl, H2.out.1, Hn.out, H2.out.2⟩
  ·have hnx := fun ty => next_end wr w.heap.size s i ty hp hlt
   have Hk := Lib.hid hkw
   have hie := Lib.hid (show i = s.size from by omega)
   clear hkw hp
   go_wp2_with fail
   go_ret
   exact ⟨by rw [Lib.indexAny_none (by rw [← Lib.size_eq, ← hie.out]; exact Hg.out.2)]; rfl, Hk.out⟩
theorem indexAny_spec (w : World) (s chars : ByteArray) (hc : asciiB chars) (h4 : 4 ≤ chars.size) (hc8 : chars.size ≤ 8) (hs : s.size < 4294967281) :
  Calls Tryz.prog 76 #[.string s, .string chars] w fun e w' => e = .returned (.int .i64 (Lib.indexAny s.data.toList chars.data.toList)) ∧ Keeps [] w w' := by
 by_cases h8 : s.size ≤ 8
 ·exact indexAny_few w s chars hc h4 hc8 h8
 ·refine (Tryz.strings_IndexAny_long zero256 s chars w (by omega) (by omega) hs (by omega) hc).mono ?_
  rintro e w' ⟨rfl, rfl⟩
  exact ⟨rfl, ((Keeps.refl [] w).alloc _).alloc _⟩
theorem containsAny_spec (w : World) (s chars : ByteArray) (hc : asciiB chars) (h4 : 4 ≤ chars.size) (hc8 : chars.size ≤ 8) (hs : s.size < 4294967281) :
  Calls Tryz.prog 113 #[.string s, .string chars] w fun e w' => e = .returned (.bool (Lib.containsAny s.data.toList chars.data.toList)) ∧ Keeps [] w w' := by
 go_enter Tryz.func113, Tryz.ntmps113
 go_wp2_with fail
 refine (indexAny_spec w s chars hc h4 hc8 hs).mono ?_
 rintro e w1 ⟨rfl, hk1⟩
 have Hk := Lib.hid hk1
 clear hk1
 go_wp2_with fail
 go_ret
 exact ⟨rfl, Hk.out⟩
end Go.Proofs.YtgcfkhcogllgfaaGreatDoor
