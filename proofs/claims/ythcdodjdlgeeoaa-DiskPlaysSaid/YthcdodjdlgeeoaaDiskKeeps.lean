/-
  DiskKeeps answers true for every two texts and all choices, and leaves all memory that was there as it was.
  No condition: every input that can be read.
-/
import Derived.Test.YthcdodjdlgeeoaaAwakeD
import Derived.Test.YthcdodjdlgeeoaaCut
namespace Go.Proofs.Ythcdodjdlgeeoaa
open Go Go.RowKit Go.Conc

def dF : ByteArray := ⟨#[102]⟩
/-- How much of the loose bytes of one file is kept. -/
def kept1 (ch : List Int) (L : Nat) : Nat := if L = 0 then 0 else keepOf ch 0 L
theorem kept1_le (ch : List Int) (L : Nat) : kept1 ch L ≤ L := by
  unfold kept1
  split
  · omega
  · exact keepOf_le ch 0 L
theorem kept1_at (ch : List Int) (L : Nat) (h : 0 < ch.length) (h0 : 0 ≤ ch[0]) (h1 : ch[0] ≤ L) : (kept1 ch L : Int) = ch[0] := by
  unfold kept1
  split
  · omega
  · unfold keepOf
    rw [List.getElem?_eq_getElem h]
    simp only [Int.natCast_add, Int.natCast_one]
    rw [Int.tmod_eq_emod_of_nonneg h0, Int.emod_eq_of_lt h0 (by omega), Int.add_assoc, Int.add_emod_right, Int.emod_eq_of_lt h0 (by omega)]
    omega
theorem crash_one (ch : List Int) (n s : ByteArray) (t : Nat) (ht : t ≤ s.size) : crashO ch [(n, (s, (t : Int)))] = [(n, (s.extract 0 (t + kept1 ch (s.size - t)), ((t + kept1 ch (s.size - t) : Nat) : Int)))] := by
  unfold crashO
  rw [names_one]
  have hl : look [(n, (s, (t : Int)))] n = some (s, (t : Int)) := by simp [look]
  simp only [crashK, List.length_singleton, List.take_succ_cons, List.take_zero, List.foldl_cons, List.foldl_nil, crashStep, hl, obOr, Option.getD_some, Int.toNat_natCast]
  unfold kept1
  split
  · rename_i h
    have : t = s.size := by omega
    simp [this]
  · simp [put]

set_option maxRecDepth 100000 in
set_option maxHeartbeats 1000000 in
theorem diskKeeps_walk (w : World) (a b : ByteArray) (v : Value) (ch : List Int) (hs : SliceArg 1 encN w v ch) (hci : ∀ x ∈ ch, -9223372036854775808 ≤ x ∧ x ≤ 9223372036854775807) :
    Calls Try.prog 9 #[.string a, .string b, v] w fun e w' => e = .returned (.bool true) ∧ Keeps [] w w' := by
  have ha := cut_size a 60
  have hb := cut_size b 60
  have hvf : ∃ ao cap, v = .slice ao ch.length cap := by obtain ⟨ao, cap, e, _⟩ := hs; exact ⟨ao, cap, e⟩
  have hvl := hs.len
  unfold maxLen at hvl
  obtain ⟨ao, cap, rfl⟩ := hvf
  have Hs := Lib.hid hs
  have Hci := Lib.hid hci
  clear hs hci
  go_enter Try.func9, Try.ntmps9
  go_wp2_with fail
  refine (cut_any a 60 _ (by decide)).mono ?_
  rintro e w' ⟨rfl, rfl⟩
  go_wp2_with fail
  refine (cut_any b 60 _ (by decide)).mono ?_
  rintro e w' ⟨rfl, rfl⟩
  generalize cut a 60 = a' at ha ⊢
  generalize cut b 60 = b' at hb ⊢
  go_wp2_with fail
  refine (newDisk_spec w 1000 (by decide)).mono ?_
  rintro e w1 ⟨d, f, c, mb, rfl, hd1', hk1, l1, l2, l3, l4⟩
  have hd1 : DiskAt w1 d f c mb false [] 1000 [] := hd1'
  clear hd1'
  go_wp2_with fail
  refine (awakeD_spec w1).mono ?_
  rintro e w2 ⟨rfl, hk2⟩
  have hd2 := hd1.same hk2
  clear hd1
  go_wp2_with fail
  refine (append_spec w2 d f c mb _ _ _ _ hd2 dF a' (by decide)).mono ?_
  rintro e w3 ⟨rfl, hd3', hk3⟩
  have hr3 : appR 1000 [] dF a' = none := by
    unfold appR
    rw [if_neg (by decide), if_neg (by simp [used]; omega)]
  rw [hr3] at hd3' ⊢
  have hd3 : DiskAt w3 d f c mb false [] 1000 [(dF, (⟨#[]⟩ ++ a', 0))] := hd3'
  rw [show opErr none [] = 0 from rfl]
  have e0 : (⟨#[]⟩ : ByteArray) ++ a' = a' := by show ByteArray.empty ++ a' = a'; simp
  rw [e0] at hd3
  clear hr3 hd3' e0
  go_wp2_with fail
  refine (sync_spec w3 d f c mb _ _ _ _ hd3 dF).mono ?_
  rintro e w4 ⟨rfl, hd4', hk4⟩
  have hd4 : DiskAt w4 d f c mb false [] 1000 [(dF, (a', a'.size))] := hd4'
  rw [show opErr (noneR [(dF, (a', 0))] dF) [] = 0 from rfl]
  clear hd4'
  go_wp2_with fail
  refine (append_spec w4 d f c mb _ _ _ _ hd4 dF b' (by decide)).mono ?_
  rintro e w5 ⟨rfl, hd5', hk5⟩
  have hr5 : appR 1000 [(dF, (a', a'.size))] dF b' = none := by
    unfold appR
    rw [if_neg (by decide), if_neg (by simp [used]; omega)]
  rw [hr5] at hd5' ⊢
  have hd5 : DiskAt w5 d f c mb false [] 1000 [(dF, (a' ++ b', a'.size))] := hd5'
  rw [show opErr none [] = 0 from rfl]
  clear hr5 hd5'
  have hk05 : Keeps [] w w5 := (((hk1.trans hk2).after hk3 (by simp; omega)).after hk4 (by simp; omega)).after hk5 (by simp; omega)
  clear hd2 hd3 hd4 hk1 hk2 hk3 hk4 hk5
  go_wp2_with fail
  have hst : ∀ w', Keeps [f, c, mb, d] w5 w' → SliceArg 1 encN w' (.slice ao ch.length cap) ch := fun w' k => Hs.out.keep (hk05.after k (by simp; omega))
  refine (crash_spec w5 d f c mb _ _ _ _ hd5 _ ch hst Hci.out (by simp only [List.mem_singleton]; rintro p rfl; show dF.size ≤ maxLen; decide) (by simp) (by simp [used]; omega)).mono ?_
  rintro e w6 ⟨rfl, hd6, hk6⟩
  rw [crash_one ch dF (a' ++ b') a'.size (by simp), show (a' ++ b').size - a'.size = b'.size from by simp] at hd6
  have hk06 : Keeps [] w w6 := hk05.after hk6 (by simp; omega)
  have hkp := kept1_le ch b'.size
  have hat := kept1_at ch b'.size
  generalize kept1 ch b'.size = kp at hd6 hkp hat
  clear hst hd5 hk05 hk6
  go_wp2_with fail
  refine (read_spec w6 d f c mb _ _ _ _ hd6 dF).mono ?_
  rintro e w7 ⟨rfl, hk7⟩
  have hl : look [(dF, ((a' ++ b').extract 0 (a'.size + kp), ((a'.size + kp : Nat) : Int)))] dF = some ((a' ++ b').extract 0 (a'.size + kp), ((a'.size + kp : Nat) : Int)) := rfl
  rw [hl]
  simp only [obOr, Option.getD_some, Option.isSome_some, if_true]
  have hk07 := hk06.trans hk7
  have hsz : ((a' ++ b').extract 0 (a'.size + kp)).size = a'.size + kp := by simp; omega
  have hall : (a' ++ b').size = a'.size + b'.size := by simp
  have hsv := Hs.out.keep hk07
  clear hd6 hk7 hl hk06
  have Hat := Lib.hid hat
  clear hat
  by_cases h0 : ch.length = 0
  · have h0' : ((ch.length : Int) == 0) = true := by simp [h0]
    go_wp2_with fail
    go_ret
    exact ⟨rfl, hk07⟩
  · have h0' : ((ch.length : Int) == 0) = false := by rw [beq_eq_false_iff_ne]; omega
    have hpos : 0 < ch.length := by omega
    have hposi : (0 : Int) < (ch.length : Int) := by omega
    obtain ⟨ao', cap', he, _, hcc⟩ := hsv
    injection he with e1 e2 e3
    subst e1
    obtain ⟨b3, of3, rfl, l3', hc3⟩ := hcc 0 hpos
    have hcell : w7.cell? ⟨b3, of3, none⟩ = some (.int .i64 ch[0]) := by simpa [encN] using hc3 0 (by omega)
    clear hcc hc3 e2 e3
    have hcb := Hci.out ch[0] (List.getElem_mem _)
    have hat := Hat.out hpos
    generalize ch[0] = c0 at hcell hat hcb
    by_cases hn : c0 < 0
    · have hn' : decide (c0 < 0) = true := by simpa using hn
      clear hat
      go_wp2_with fail
      go_ret
      exact ⟨rfl, hk07⟩
    · have hn' : decide (c0 < 0) = false := by simpa using hn
      by_cases hg : (b'.size : Int) < c0
      · have hg' : decide (c0 > (b'.size : Int)) = true := by simpa using hg
        clear hat
        go_wp2_with fail
        go_ret
        exact ⟨rfl, hk07⟩
      · have hc : (kp : Int) = c0 := hat (by omega) (by omega)
        subst hc
        have hg' : decide ((kp : Int) > (b'.size : Int)) = false := by simp; omega
        clear hat
        go_wp2_with fail
        go_ret
        exact ⟨rfl, hk07⟩

theorem diskKeeps_law (W : World) (a : ByteArray) (_ : a.size ≤ maxLen) (b : ByteArray) (_ : b.size ≤ maxLen) (v : Value) (h : ∃ zs : List Int, SliceArg 1 (fun n => [Value.int .i64 n]) W v zs ∧ ∀ n ∈ zs, -9223372036854775808 ≤ n ∧ n ≤ 9223372036854775807) :
    Calls Try.prog 9 #[.string a, .string b, v] W fun e w' => e = .returned (.bool true) ∧ Keeps [] W w' := by
  obtain ⟨zs, h1, h2⟩ := h
  exact diskKeeps_walk W a b v zs h1 h2

end Go.Proofs.Ythcdodjdlgeeoaa
