/-
  Package label: the key of a set, whatever its pairs are.
  The set has at most 1000 pairs of texts of at most 1000 bytes.

  Package label: two sets of one key are one.
  No program in sight. The sets are small.
-/
import Derived.Test.YtgdkceeonnfejaaGreatDoorPairs
import Derived.Test.YtgdkceeonnfejaaGreatDoorLebLaw
namespace Go.Proofs.YtgdkceeonnfejaaGreatDoor
set_option maxRecDepth 100000
set_option maxHeartbeats 1000000
set_option linter.unusedSimpArgs false
open Go Go.RowKit
def pairL (p : PairB) : List UInt8 := textL p.1.data.toList ++ textL p.2.data.toList
def keyL (P : List PairB) (k : Nat) : List UInt8 := lebL P.length ++ (P.take k).flatMap pairL
def keyP (P : List PairB) : ByteArray := ⟨(keyL P P.length).toArray⟩
def SmallP (P : List PairB) : Prop := P.length ≤ 1000 ∧ ∀ p ∈ P, p.1.size ≤ 1000 ∧ p.2.size ≤ 1000
theorem textL_len (s : ByteArray) (h : s.size ≤ 1000) : (textL s.data.toList).length ≤ 1010 := by
 unfold textL
 rw [List.length_append]
 have h2 : s.data.toList.length = s.size := rfl
 have := lebL_len10 (v := s.data.toList.length) (by omega)
 omega
theorem pairs_len {P : List PairB} (h : ∀ p ∈ P, p.1.size ≤ 1000 ∧ p.2.size ≤ 1000) : (P.flatMap pairL).length ≤ P.length * 2020 := by
 induction P with
 | nil => simp
 | cons p P ih =>
  rw [List.flatMap_cons, List.length_append, List.length_cons]
  have h1 := ih (fun q hq => h q (List.mem_cons_of_mem _ hq))
  have h2 := h p (by simp)
  have h3 : (pairL p).length ≤ 2020 := by
   unfold pairL
   rw [List.length_append]
   have := textL_len p.1 h2.1
   have := textL_len p.2 h2.2
   omega
  omega
theorem keyL_len {P : List PairB} (h : SmallP P) (k : Nat) : (keyL P k).length ≤ 2100000 := by
 unfold keyL
 rw [List.length_append]
 have h1 := lebL_len10 (v := P.length) (by have := h.1; omega)
 have h2 := pairs_len (P := P.take k) (fun q hq => h.2 q (List.mem_of_mem_take hq))
 have h3 : (P.take k).length ≤ 1000 := by rw [List.length_take]; have := h.1; omega
 omega
theorem keyL_next {P : List PairB} {k : Nat} (hk : k < P.length) : keyL P (k + 1) = (keyL P k ++ textL P[k].1.data.toList) ++ textL P[k].2.data.toList := by
 unfold keyL
 rw [List.take_succ_eq_append_getElem hk, List.flatMap_append]
 simp [pairL]
def KeyRel (w : World) (P : List PairB) (gk : Nat) (u3 u12 : Value) (wr : World) : Prop :=
 ∃ k, k ≤ P.length ∧ gk = P.length - k ∧ u12 = .int .i64 k ∧ Buf wr u3 (keyL P k) ∧ (∀ g, u3.ownBlock = some g → w.heap.size ≤ g) ∧ Keeps [] w wr
theorem keyG_spec (w : World) (v : Value) (P : List PairB) (h : SliceArg 2 encPB w v P) (hs : SmallP P) :
  Calls Tryz.prog 38 #[v] w fun e w' => e = .returned (.string (keyP P)) ∧ Keeps [] w w' := by
 have Hf := Lib.hid (And.intro h hs)
 have hlen := hs.1
 obtain ⟨ao, cap, rfl, -⟩ := h
 have hcv : IntKind.u64.wrap (P.length : Int) = (P.length : Int) := IntWalk.u64_in _ (by omega)
 clear hs
 go_enter Tryz.func38, Tryz.ntmps38
 go_wp2_with fail
 refine (uint_spec w (.slice none 0 0) [] P.length (by omega) (by decide) (buf_nil w)).mono ?_
 rintro e w1 ⟨v1, rfl, hbuf, ht⟩
 have hf := ht.fresh (Keeps.refl [] w) (fun g hg => by simp [Value.ownBlock] at hg)
 have hl1 : [] ++ lebL P.length = keyL P 0 := by unfold keyL; simp
 rw [hl1] at hbuf
 have H1 := Lib.hid (And.intro hbuf hf)
 obtain ⟨l0, hl0⟩ : ∃ l0, l0 = keyL P 0 := ⟨_, rfl⟩
 rw [← hl0] at hbuf
 clear hl0
 obtain ⟨a1, c1, rfl, -, -, -⟩ := row_slice hbuf
 clear hbuf ht hf hl1 hcv
 go_wp2_with fail
 go_loopg [3, 12] P.length (KeyRel w P)
 case atStart => exact ⟨0, Nat.zero_le _, rfl, rfl, H1.out.1, H1.out.2.2, H1.out.2.1⟩
 case round =>
  obtain ⟨k, hk, hgk, rfl, hbuf, hown, hkw⟩ := hrel
  have Hg := Lib.hid hgk
  clear hgk
  by_cases hlt : k < P.length
  ·obtain ⟨b, off, cap2, ea, hbW, e0, e1⟩ := pair_at (Hf.out.1.keep hkw) k hlt
   injection ea with ea _ ec
   subst ea ec
   have hlt' : (k : Int) < (P.length : Int) := by omega
   have hsz := Hf.out.2.2 P[k] (List.getElem_mem hlt)
   have Hnx := Lib.hid (keyL_next hlt)
   have hkl := keyL_len Hf.out.2 k
   obtain ⟨l0, hl0⟩ : ∃ l0, l0 = keyL P k := ⟨_, rfl⟩
   rw [← hl0] at hbuf Hnx hkl
   clear hl0
   generalize P[k] = p at e0 e1 hsz Hnx
   obtain ⟨p1, p2⟩ := p
   dsimp only at e0 e1 hsz Hnx
   have hp := heap_new wr (.cells #[.string p1, .string p2] 149)
   have kp : Keeps [] wr (wr.alloc (.cells #[.string p1, .string p2] 149)) := (Keeps.refl [] wr).alloc _
   have hne : ∀ g, u3.ownBlock = some g → g ≠ wr.heap.size := fun g hg => by have := hbuf.lt g hg; omega
   obtain ⟨W0, hW0⟩ : ∃ W0, W0 = (wr.alloc (.cells #[.string p1, .string p2] 149)).drew := ⟨_, rfl⟩
   have kW : Keeps [] wr W0 := by rw [hW0]; exact kp.drew
   have hp0 : W0.heap[wr.heap.size]? = some (.cells #[.string p1, .string p2] 149 (0, 0)) := by rw [hW0]; exact hp
   have Hbuf0 := Lib.hid (hbuf.same kW)
   obtain ⟨ao3, cp3, rfl, -, -, -⟩ := row_slice hbuf
   have HB := Lib.hid (And.intro Hbuf0.out (And.intro hown (And.intro (hkw.trans kW) (And.intro hp0 hne))))
   have s1 : W0.cell? ⟨wr.heap.size, 0, none⟩ = some (.string p1) := cells_at hp0 0
   have s2 : W0.cell? ⟨wr.heap.size, 1, none⟩ = some (.string p2) := cells_at hp0 1
   have HW := Lib.hid hW0
   have Hz := Lib.hid (And.intro hsz hkl)
   clear hkw hbuf hown hp kp hne kW hp0 hW0 Hbuf0 hsz hkl
   go_upto_region 5 with fail
   generalize wr.heap.size = pb at HB s1 s2 ⊢
   clear e0 e1
   refine wp_region_held_drew (S := fun w' => w'.cell? ⟨pb, 0, none⟩ = some (.string p1) ∧ w'.cell? ⟨pb, 1, none⟩ = some (.string p2)) (by kernel_rfl) (by rw [← HW.out]; exact ⟨s1, s2⟩) (fun hS => ?_)
   rw [← HW.out] at hS ⊢
   refine tk (v := ?_) 0 rfl ?_ ?_; rotate_left
   ·rintro _ ⟨s1, s2⟩; go_simp; (try with_reducible rfl)
   simp only [Act.put, zz]
   refine tk (v := ?_) 1 rfl ?_ ?_; rotate_left
   ·rintro _ ⟨s1, s2⟩; go_simp; (try with_reducible rfl)
   simp only [Act.put, zz]
   refine tk (v := ?_) 2 rfl ?_ ?_; rotate_left
   ·rintro _ ⟨s1, s2⟩; go_simp; (try with_reducible rfl)
   simp only [Act.put, zz]
   refine tk (v := ?_) 4 rfl ?_ ?_; rotate_left
   ·rintro _ ⟨s1, s2⟩; go_simp; (try with_reducible rfl)
   simp only [Act.put, zz]
   refine tk (v := ?_) 5 rfl ?_ ?_; rotate_left
   ·rintro _ ⟨s1, s2⟩; go_simp; (try with_reducible rfl)
   simp only [Act.put, zz]
   refine rd 3 rfl fun K hK => ?_
   go_simp
   go_at_call 66
   refine (text_spec W0 _ l0 p1 (by have := Hz.out; omega) HB.out.1).mono ?_
   rintro e A1 ⟨v2, rfl, hb2, ht2⟩
   have hx2 := ht2.box HB.out.2.2.2.1 HB.out.2.2.2.2
   have hf2 := ht2.fresh HB.out.2.2.1 HB.out.2.1
   obtain ⟨l2, hl2⟩ : ∃ l2, l2 = l0 ++ textL p1.data.toList := ⟨_, rfl⟩
   rw [← hl2] at hb2
   have Hl2 := Lib.hid hl2
   clear hl2
   have H2 := Lib.hid (And.intro hb2 (And.intro hx2 hf2))
   obtain ⟨ao2, cp2, rfl, -, -, -⟩ := row_slice hb2
   have t1 : A1.cell? ⟨pb, 0, none⟩ = some (.string p1) := cells_at hx2.1 0
   have t2 : A1.cell? ⟨pb, 1, none⟩ = some (.string p2) := cells_at hx2.1 1
   clear hb2 ht2 hx2 hf2
   go_simp
   refine hK.out _ _ ⟨t1, t2⟩ (fun hS => ?_)
   clear hK K
   try simp only [Act.put, zz]
   refine rd 6 rfl fun K hK => ?_
   go_simp
   go_at_call 66
   refine (text_spec A1 _ l2 p2 (by have := Hz.out; have := textL_len p1 (by omega); rw [Hl2.out, List.length_append]; omega) H2.out.1).mono ?_
   rintro e A2 ⟨v3, rfl, hb3, ht3⟩
   have hx3 := ht3.box H2.out.2.1.1 H2.out.2.1.2
   have hf3 := ht3.fresh H2.out.2.2.1 H2.out.2.2.2
   rw [Hl2.out, ← Hnx.out] at hb3
   obtain ⟨l3, hl3⟩ : ∃ l3, l3 = keyL P (k + 1) := ⟨_, rfl⟩
   rw [← hl3] at hb3
   have Hl3 := Lib.hid hl3
   clear hl3
   have H3 := Lib.hid (And.intro hb3 (And.intro hf3.2 hf3.1))
   obtain ⟨ao4, cp4, rfl, -, -, -⟩ := row_slice hb3
   have r1 : A2.cell? ⟨pb, 0, none⟩ = some (.string p1) := cells_at hx3.1 0
   have r2 : A2.cell? ⟨pb, 1, none⟩ = some (.string p2) := cells_at hx3.1 1
   clear hb3 ht3 hx3 hf3
   go_simp
   refine hK.out _ _ ⟨r1, r2⟩ (fun hS => ?_)
   clear hK K
   try simp only [Act.put, zz]
   refine rd 7 rfl fun K hK => ?_
   go_simp
   go_simp
   refine hK.out _ _ ⟨r1, r2⟩ (fun hS => ?_)
   clear hK K
   try simp only [Act.put, zz]
   refine wpAnyH_done (by kernel_rfl) ?_ _
   clear hS s1 s2 t1 t2 r1 r2
   go_wp2_with fail
   go_roundg (P.length - (k + 1))
   case measure => have := Hg.out; omega
   case rel => exact ⟨k + 1, hlt, rfl, by go_num, by rw [← Hl3.out]; exact H3.out.1, H3.out.2.1, H3.out.2.2⟩
  ·have hge : ¬ (k : Int) < (P.length : Int) := by omega
   obtain rfl : k = P.length := by omega
   have hrun : (convert 138 9 u3).run Tryz.prog wr = .ok (.string (keyP P)) wr := hbuf.run_string
   obtain ⟨l0, hl0⟩ : ∃ l0, l0 = keyL P P.length := ⟨_, rfl⟩
   rw [← hl0] at hbuf
   clear hl0
   obtain ⟨ao3, cp3, rfl, -, -, -⟩ := row_slice hbuf
   have H2 := Lib.hid hkw
   clear hbuf hkw
   go_wp2_with fail
   go_ret
   exact ⟨rfl, H2.out⟩
theorem pairs_inj : ∀ {P Q : List PairB}, P.length = Q.length → (∀ p ∈ P, p.1.size ≤ 1000 ∧ p.2.size ≤ 1000) → (∀ p ∈ Q, p.1.size ≤ 1000 ∧ p.2.size ≤ 1000) → P.flatMap pairL = Q.flatMap pairL → P = Q
 | [], [], _, _, _, _ => rfl
 | [], _ :: _, h, _, _, _ => by simp at h
 | _ :: _, [], h, _, _, _ => by simp at h
 | p :: P, q :: Q, h, hP, hQ, he => by
  have hp := hP p List.mem_cons_self
  have hq := hQ q List.mem_cons_self
  have len : ∀ s : ByteArray, s.data.toList.length = s.size := fun s => rfl
  rw [List.flatMap_cons, List.flatMap_cons] at he
  unfold pairL at he
  simp only [List.append_assoc] at he
  have h1 := congrArg (fun l => takeT l 1000) he
  rw [takeT_text _ _ (by rw [len]; omega) (by decide), takeT_text _ _ (by rw [len]; omega) (by decide)] at h1
  injection h1 with e1 h1
  injection h1 with h1 _
  have h2 := congrArg (fun l => takeT l 1000) h1
  rw [takeT_text _ _ (by rw [len]; omega) (by decide), takeT_text _ _ (by rw [len]; omega) (by decide)] at h2
  injection h2 with e2 h2
  injection h2 with h2 _
  have ih := pairs_inj (P := P) (Q := Q) (by simpa using h) (fun x hx => hP x (List.mem_cons_of_mem _ hx)) (fun x hx => hQ x (List.mem_cons_of_mem _ hx)) h2
  have ep : p = q := Prod.ext (ba_ext e1) (ba_ext e2)
  rw [ep, ih]
theorem keyP_inj {P Q : List PairB} (hP : SmallP P) (hQ : SmallP Q) (h : keyP P = keyP Q) : P = Q := by
 unfold keyP keyL at h
 rw [List.take_length, List.take_length] at h
 injection h with h
 have h := congrArg Array.toList h
 have h1 := congrArg takeU h
 rw [takeU_leb _ (by have := hP.1; omega), takeU_leb _ (by have := hQ.1; omega)] at h1
 injection h1 with e1 h1
 injection h1 with h1 _
 exact pairs_inj e1 hP.2 hQ.2 h1
end Go.Proofs.YtgdkceeonnfejaaGreatDoor
