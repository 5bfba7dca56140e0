/-
  Blocks on the disk (package ship): file, Save, Note, Erase, Forget.
  The meta is one that may be; its lists lie in other blocks than the disk's.
-/
import Derived.Test.YtaebpbkiaihhdaaGreatDoorUpload
import Derived.Test.YtaebpbkiaihhdaaGreatDoorShipNext
import Derived.StillTailTactics
import Derived.Deep.CutBlock
namespace Go.Proofs.YtaebpbkiaihhdaaGreatDoor
open Go Go.RowKit

/-- 'blk-' id '-' part -/
def fileB (id p : ByteArray) : ByteArray := (((⟨#[98, 108, 107, 45]⟩ : ByteArray) ++ id) ++ (⟨#[45]⟩ : ByteArray)) ++ p

/-- 'shp-' id -/
def noteB (id : ByteArray) : ByteArray := (⟨#[115, 104, 112, 45]⟩ : ByteArray) ++ id

set_option linter.unusedSimpArgs false in
set_option maxRecDepth 100000 in
theorem file_spec (w : World) (id p : ByteArray) (h1 : id.size ≤ 1000000) (h2 : p.size ≤ 1000000) :
    Calls Tryz.prog 52 #[.string id, .string p] w fun e w' => e = .returned (.string (fileB id p)) ∧ w = w' := by
  have z1 : ((⟨#[98, 108, 107, 45]⟩ : ByteArray) ++ id).size ≤ 1000004 := by rw [ByteArray.size_append]; show 4 + id.size ≤ _; omega
  have z2 : (((⟨#[98, 108, 107, 45]⟩ : ByteArray) ++ id) ++ (⟨#[45]⟩ : ByteArray)).size ≤ 1000005 := by rw [ByteArray.size_append]; show _ + 1 ≤ _; omega
  go_enter Tryz.func52, Tryz.ntmps52
  go_wp2_with fail
  go_ret
  exact ⟨rfl, rfl⟩

theorem fileB_size (id p : ByteArray) : (fileB id p).size = 5 + id.size + p.size := by
  unfold fileB
  rw [ByteArray.size_append, ByteArray.size_append, ByteArray.size_append]
  show 4 + id.size + 1 + p.size = _
  omega

theorem noteB_size (id : ByteArray) : (noteB id).size = 4 + id.size := by
  unfold noteB
  rw [ByteArray.size_append]
  rfl

/-- What a block's saving leaves behind k of its files. -/
def saveK (room : Nat) (Q : List (Int × Bool)) (o : List (ByteArray × Ob)) (M : MetaS) (cb ib : ByteArray) : Nat → OpS
  | 0 => (0, Q, o)
  | k + 1 => if (saveK room Q o M cb ib k).1 = 0 then freshS room (saveK room Q o M cb ib k).2.1 (saveK room Q o M cb ib k).2.2 (fileB M.id (partN k)) (dataN M cb ib k) else saveK room Q o M cb ib k

def saveS (room : Nat) (Q : List (Int × Bool)) (o : List (ByteArray × Ob)) (M : MetaS) (cb ib : ByteArray) : OpS :=
  if (cb.size : Int) + ib.size + (encM M).size > (room : Int) - used o then (7, Q, o) else saveK room Q o M cb ib 3

theorem saveK_stop {room : Nat} {Q : List (Int × Bool)} {o : List (ByteArray × Ob)} {M : MetaS} {cb ib : ByteArray} {k : Nat} (h : (saveK room Q o M cb ib k).1 ≠ 0) : ∀ j, k ≤ j → saveK room Q o M cb ib j = saveK room Q o M cb ib k
  | 0, hj => by obtain rfl : k = 0 := by omega
                rfl
  | j + 1, hj => by
    by_cases e : k = j + 1
    · rw [e]
    · have ih := saveK_stop h j (by omega)
      show (if (saveK room Q o M cb ib j).1 = 0 then _ else _) = _
      rw [ih, if_neg h]

theorem ixP_0 (a b c d e f : ByteArray) (w : World) : (Instr.index 123 (.agg #[.string a, .string b, .string c, .string d, .string e, .string f]) (.int .i64 0)).run Tryz.prog w = .ok (.agg #[.string a, .string b]) w := by kernel_rfl

theorem ixP_1 (a b c d e f : ByteArray) (w : World) : (Instr.index 123 (.agg #[.string a, .string b, .string c, .string d, .string e, .string f]) (.int .i64 1)).run Tryz.prog w = .ok (.agg #[.string c, .string d]) w := by kernel_rfl

theorem ixP_2 (a b c d e f : ByteArray) (w : World) : (Instr.index 123 (.agg #[.string a, .string b, .string c, .string d, .string e, .string f]) (.int .i64 2)).run Tryz.prog w = .ok (.agg #[.string e, .string f]) w := by kernel_rfl

theorem ixP (M : MetaS) (cb ib : ByteArray) (k : Nat) (hk : k < 3) (w : World) : (Instr.index 123 (.agg #[.string ⟨#[99, 104, 117, 110, 107, 115]⟩, .string cb, .string ⟨#[105, 110, 100, 101, 120]⟩, .string ib, .string ⟨#[109, 101, 116, 97]⟩, .string (encM M)]) (.int .i64 k)).run Tryz.prog w = .ok (.agg #[.string (partN k), .string (dataN M cb ib k)]) w := by
  rcases (by omega : k = 0 ∨ k = 1 ∨ k = 2) with rfl | rfl | rfl
  · exact ixP_0 _ _ _ _ _ _ w
  · exact ixP_1 _ _ _ _ _ _ w
  · exact ixP_2 _ _ _ _ _ _ w

def SaveRel (w : World) (d f c mb room : Nat) (Q : List (Int × Bool)) (o : List (ByteArray × Ob)) (M : MetaS) (cb ib : ByteArray) (gk : Nat) (u34 : Value) (wr : World) : Prop :=
  ∃ k a, k ≤ 3 ∧ gk = 3 - k ∧ u34 = .int .i64 k ∧ (saveK room Q o M cb ib k).1 = 0 ∧ DiskAt wr d f c mb a (saveK room Q o M cb ib k).2.1 room (saveK room Q o M cb ib k).2.2 ∧ Keeps [f, c, mb, d] w wr

theorem partN_size (k : Nat) : (partN k).size ≤ 6 := by unfold partN; split <;> decide

set_option linter.unusedSimpArgs false in
set_option maxRecDepth 100000 in
set_option maxHeartbeats 4000000 in
theorem save_spec (w : World) (d f c mb B : Nat) (armed : Bool) (Q : List (Int × Bool)) (room : Nat) (o : List (ByteArray × Ob)) (h : DiskAt w d f c mb armed Q room o) (M : MetaS) (af ao : Option Addr) (nf cf no co : Nat) (cb ib : ByteArray) (hM : MetaV B w (metaCs M (.slice af nf cf) (.slice ao no co)) M) (hok : MetaOk M) (hc : cb.size ≤ 160000) (hi : ib.size ≤ 14000) :
    Calls Tryz.prog 24 #[.pointer (some ⟨d, 0, none⟩), .agg #[.string M.id, .int .i64 M.mn, .int .i64 M.mx, .int .i64 M.level, .int .i64 M.series, .int .i64 M.samples, .slice af nf cf, .slice ao no co, .string cb, .string ib]] w (FreshPost w d f c mb room (saveS room Q o M cb ib)) := by
  obtain ⟨q, hq⟩ : ∃ q, q = w.heap.size := ⟨_, rfl⟩
  obtain ⟨W1, hW1⟩ : ∃ W1, W1 = w.alloc (.cells #[.string M.id, .int .i64 M.mn, .int .i64 M.mx, .int .i64 M.level, .int .i64 M.series, .int .i64 M.samples, .slice af nf cf, .slice ao no co, .string cb, .string ib] 28) := ⟨_, rfl⟩
  have k1 : Keeps [] w W1 := by rw [hW1]; exact (Keeps.refl [] w).alloc _
  have n1 : W1.heap[q]? = some (.cells #[.string M.id, .int .i64 M.mn, .int .i64 M.mx, .int .i64 M.level, .int .i64 M.series, .int .i64 M.samples, .slice af nf cf, .slice ao no co, .string cb, .string ib] 28 (0, 0)) := by rw [hW1, hq]; exact heap_new w _
  have hlt := h.lt
  have hqd : q ≠ f ∧ q ≠ c ∧ q ≠ mb ∧ q ≠ d := by omega
  have H := Lib.hid (And.intro h (And.intro hM (And.intro hok (And.intro k1 (And.intro n1 hqd)))))
  have HE := Lib.hid (metaEnc_spec B W1 _ M (hM.same k1) hok)
  have c1 := cells_at n1
  have l1 := lt_of_at n1
  have hid16 := id16 hok.id
  have hem : (encM M).size ≤ 3000 := frame_meta_len hok
  clear h hM hok k1 n1 hlt hqd
  go_enter Tryz.func24, Tryz.ntmps24
  go_wp2_with fail
  rw [← hq, ← hW1]
  clear hq hW1
  refine HE.out.mono ?_
  rintro e W2 ⟨rfl, k2⟩
  rw [show (⟨(frameL 1 (metaL M)).toArray⟩ : ByteArray) = encM M from rfl]
  have k02 := H.out.2.2.2.1.trans k2
  have n2 := k2.at_ H.out.2.2.2.2.1 (by simp)
  have H2 := Lib.hid (And.intro (H.out.1.same k02) (And.intro n2 k02))
  clear c1 l1 k2 k02
  have c2 := cells_at n2
  have l2 := lt_of_at n2
  clear n2
  obtain ⟨em, hemm⟩ : ∃ em, em = encM M := ⟨_, rfl⟩
  rw [← hemm] at hem ⊢
  have Hem := Lib.hid hemm
  clear hemm
  have hs1 : IntKind.i64.wrap ((cb.size : Int) + (ib.size : Int)) = (cb.size : Int) + (ib.size : Int) := IntWalk.i64_in _ (by omega)
  have hs2 : IntKind.i64.wrap ((cb.size : Int) + (ib.size : Int) + (em.size : Int)) = (cb.size : Int) + (ib.size : Int) + (em.size : Int) := IntWalk.i64_in _ (by omega)
  go_upto_region 2 with fail
  by_cases hroom : (cb.size : Int) + (ib.size : Int) + (em.size : Int) > (room : Int) - (used o : Int)
  · have hd : decide ((cb.size : Int) + (ib.size : Int) + (em.size : Int) > (room : Int) - (used o : Int)) = true := decide_eq_true hroom
    have Hs := Lib.hid (show saveS room Q o M cb ib = (7, Q, o) from by unfold saveS; rw [← Hem.out]; exact if_pos hroom)
    go_quiet ((go_at_call 44; exact Calls.quiet_of (free_spec _ d f c mb armed Q room o (H2.out.1.same ((Keeps.refl [] _).drewN _)))))
    rename_i nq
    have kd : Keeps [] W2 (W2.drewN nq) := (Keeps.refl [] _).drewN nq
    have H3 := Lib.hid (And.intro (H2.out.1.same kd) (H2.out.2.2.trans kd))
    clear kd c2 l2
    generalize W2.drewN nq = W3 at H3 ⊢
    go_wp2_with fail
    go_ret
    exact fresh_end (T := (7, Q, o)) Hs.out H3.out.1 (H3.out.2.mono (by simp))
  · have hd : decide ((cb.size : Int) + (ib.size : Int) + (em.size : Int) > (room : Int) - (used o : Int)) = false := decide_eq_false hroom
    have Hs := Lib.hid (show saveS room Q o M cb ib = saveK room Q o M cb ib 3 from by unfold saveS; rw [← Hem.out]; exact if_neg hroom)
    go_quiet ((go_at_call 44; exact Calls.quiet_of (free_spec _ d f c mb armed Q room o (H2.out.1.same ((Keeps.refl [] _).drewN _)))))
    rename_i nq
    have kd : Keeps [] W2 (W2.drewN nq) := (Keeps.refl [] _).drewN nq
    have n3 := kd.at_ H2.out.2.1 (by simp)
    have H3 := Lib.hid (And.intro (H2.out.1.same kd) (And.intro n3 (H2.out.2.2.trans kd)))
    clear kd c2 l2 n3 hd hroom
    generalize W2.drewN nq = W3 at H3 ⊢
    have c3 := cells_at H3.out.2.1
    have l3 := lt_of_at H3.out.2.1
    go_wp2_with fail
    clear c3 l3
    rw [Hem.out]
    go_loopg [34] 3 (SaveRel W3 d f c mb room Q o M cb ib)
    case atStart => exact ⟨0, armed, by decide, rfl, rfl, rfl, H3.out.1, Keeps.refl _ _⟩
    case round =>
      obtain ⟨k, a, hk, hgk, rfl, hz, hDk, hkr⟩ := hrel
      by_cases hlt : k < 3
      · have hk3 : (k : Int) < 3 := by omega
        have hix := ixP M cb ib k hlt
        obtain ⟨p, hp⟩ : ∃ p, p = wr.heap.size := ⟨_, rfl⟩
        obtain ⟨W4, hW4⟩ : ∃ W, W = wr.alloc (.cells #[.string (partN k), .string (dataN M cb ib k)] 122) := ⟨_, rfl⟩
        have k4 : Keeps [] wr W4 := by rw [hW4]; exact (Keeps.refl [] wr).alloc _
        have np4 : W4.heap[p]? = some (.cells #[.string (partN k), .string (dataN M cb ib k)] 122 (0, 0)) := by rw [hW4, hp]; exact heap_new wr _
        have nq4 := k4.at_ (hkr.at_ H3.out.2.1 (by have := H.out.2.2.2.2.2; simp; omega)) (by simp)
        have H4 := Lib.hid (And.intro (hDk.same k4) (And.intro np4 (And.intro nq4 (hkr.trans (k4.mono (by simp))))))
        have Hk := Lib.hid (And.intro hgk (And.intro hz hlt))
        clear hgk hz hDk hkr k4 np4 nq4 hlt
        go_upto_region 7 with fail
        rw [← hW4, ← hp]
        clear hW4 hp hix
        have kd : Keeps [] W4 W4.drew := (Keeps.refl [] _).drew
        have np5 := kd.at_ H4.out.2.1 (by simp)
        have nq5 := kd.at_ H4.out.2.2.1 (by simp)
        have H5 := Lib.hid (And.intro (H4.out.1.same kd) (H4.out.2.2.2.trans (kd.mono (by simp))))
        have cp := cells_at np5
        have lp := lt_of_at np5
        have cq := cells_at nq5
        have lq := lt_of_at nq5
        clear kd np5 nq5
        refine wp_region_still_tail 9 (by kernel_rfl) (by kernel_rfl) ?_
        simp only [List.take_succ_cons, List.take_zero, List.drop_succ_cons, List.drop_zero]
        repeat still_step
        still_call ((file_spec _ M.id (partN k) (by omega) (by have := partN_size k; omega)).mono (fun _ _ h => ⟨h.1, h.2.symm⟩))
        repeat still_step
        refine wpStill_nil ?_
        change wpList _ _ _ _ _ W4.drew
        generalize W4.drew = W5 at H5 cp lp cq lq ⊢
        go_wp2_with fail
        refine (fresh_spec W5 d f c mb a _ room _ H5.out.1 (fileB M.id (partN k)) (dataN M cb ib k) (by rw [fileB_size]; have := partN_size k; omega)).mono ?_
        rintro e W6 ⟨rfl, a6, hD6, hk6⟩
        obtain ⟨S6, hS6⟩ : ∃ S6 : OpS, S6 = freshS room (saveK room Q o M cb ib k).2.1 (saveK room Q o M cb ib k).2.2 (fileB M.id (partN k)) (dataN M cb ib k) := ⟨_, rfl⟩
        have hn : saveK room Q o M cb ib (k + 1) = S6 := by rw [hS6]; exact if_pos Hk.out.2.1
        rw [← hS6] at hD6 ⊢
        have H6 := Lib.hid (And.intro hD6 (And.intro (H5.out.2.trans hk6) hn))
        clear hD6 hk6 hn hS6 cp lp cq lq
        by_cases hz6 : S6.1 = 0
        · have Hz6 := Lib.hid hz6
          rw [hz6]
          clear hz6
          go_wp2_with fail
          go_roundg (3 - (k + 1))
          case measure => have := Hk.out.1; have := Hk.out.2.2; omega
          case rel => exact ⟨k + 1, a6, Hk.out.2.2, rfl, by go_num, by rw [H6.out.2.2]; exact Hz6.out, by rw [H6.out.2.2]; exact H6.out.1, H6.out.2.1⟩
        · have Hz6 := Lib.hid hz6
          have hz1 : (S6.1 != 0) = true := by simp [hz6]
          have hz2 : (S6.1 == 0) = false := by simp [hz6]
          clear hz6
          go_wp2_with fail
          go_ret
          exact fresh_end (T := S6) (by rw [Hs.out, saveK_stop (k := k + 1) (by rw [H6.out.2.2]; exact Hz6.out) 3 (by have := Hk.out.2.2; omega), H6.out.2.2]) H6.out.1 ((H3.out.2.2.mono (by simp)).trans H6.out.2.1)
      · obtain rfl : k = 3 := by omega
        have H4 := Lib.hid (And.intro hDk hkr)
        have Hz := Lib.hid hz
        clear hgk hz hDk hkr hlt
        rw [show ((3 : Nat) : Int) = 3 from rfl]
        go_wp2_with fail
        go_ret
        have e := fresh_end (S := saveS room Q o M cb ib) (T := saveK room Q o M cb ib 3) Hs.out H4.out.1 ((H3.out.2.2.mono (by simp)).trans H4.out.2)
        rw [Hz.out] at e
        exact e


/-- A file is gone: that it wasn't there is no error. -/
def rmS (Q : List (Int × Bool)) (o : List (ByteArray × Ob)) (n : ByteArray) : OpS := (if opErr (noneR o n) Q = 5 then 0 else opErr (noneR o n) Q, opQ (noneR o n) Q, opO (noneR o n) Q o (del o n))

theorem opErr_none (Q : List (Int × Bool)) (o : List (ByteArray × Ob)) (n : ByteArray) : opErr (noneR o n) Q = 0 ∨ opErr (noneR o n) Q = 5 ∨ opErr (noneR o n) Q = 8 := by
  unfold noneR opErr
  split
  · show ioErr Q = 0 ∨ ioErr Q = 5 ∨ ioErr Q = 8
    unfold ioErr
    split
    · exact .inl rfl
    · exact .inr (.inr rfl)
  · exact .inr (.inl rfl)

set_option linter.unusedSimpArgs false in
set_option maxRecDepth 100000 in
theorem forget_spec (w : World) (d f c mb : Nat) (armed : Bool) (Q : List (Int × Bool)) (room : Nat) (o : List (ByteArray × Ob)) (h : DiskAt w d f c mb armed Q room o) (id : ByteArray) (hz : id.size ≤ 1000000) :
    Calls Tryz.prog 23 #[.pointer (some ⟨d, 0, none⟩), .string id] w (FreshPost w d f c mb room (rmS Q o (noteB id))) := by
  have Hr := Lib.hid (remove_spec w d f c mb armed Q room o h (noteB id))
  have hcs := opErr_none Q o (noteB id)
  clear h
  go_enter Tryz.func23, Tryz.ntmps23
  go_wp2_with fail
  refine Hr.out.mono ?_
  rintro e w1 ⟨rfl, hD1, hk1⟩
  have H1 := Lib.hid (And.intro hD1 hk1)
  clear hD1 hk1
  have key : ∀ E : Int, E = opErr (noneR o (noteB id)) Q → (if E = 5 then 0 else E) = (rmS Q o (noteB id)).1 := fun E hE => by rw [hE]; rfl
  have HK := Lib.hid key
  clear key
  obtain ⟨E, hE⟩ : ∃ E, E = opErr (noneR o (noteB id)) Q := ⟨_, rfl⟩
  have HE := Lib.hid (HK.out E hE)
  rw [← hE] at hcs ⊢
  clear hE
  rcases hcs with rfl | rfl | rfl
  · go_wp2_with fail
    go_ret
    exact ⟨by rw [← HE.out]; rfl, _, H1.out⟩
  · go_wp2_with fail
    go_ret
    exact ⟨by rw [← HE.out]; rfl, _, H1.out⟩
  · go_wp2_with fail
    go_ret
    exact ⟨by rw [← HE.out]; rfl, _, H1.out⟩

/-- The parts in the order in which they go. -/
def partE (k : Nat) : ByteArray := partN (2 - k)

def eraseK (Q : List (Int × Bool)) (o : List (ByteArray × Ob)) (id : ByteArray) : Nat → OpS
  | 0 => (0, Q, o)
  | k + 1 => if (eraseK Q o id k).1 = 0 then rmS (eraseK Q o id k).2.1 (eraseK Q o id k).2.2 (fileB id (partE k)) else eraseK Q o id k

theorem eraseK_stop {Q : List (Int × Bool)} {o : List (ByteArray × Ob)} {id : ByteArray} {k : Nat} (h : (eraseK Q o id k).1 ≠ 0) : ∀ j, k ≤ j → eraseK Q o id j = eraseK Q o id k
  | 0, hj => by obtain rfl : k = 0 := by omega
                rfl
  | j + 1, hj => by
    by_cases e : k = j + 1
    · rw [e]
    · have ih := eraseK_stop h j (by omega)
      show (if (eraseK Q o id j).1 = 0 then _ else _) = _
      rw [ih, if_neg h]

theorem ixE (k : Nat) (hk : k < 3) (w : World) : (Instr.index 89 (.agg #[.string ⟨#[109, 101, 116, 97]⟩, .string ⟨#[105, 110, 100, 101, 120]⟩, .string ⟨#[99, 104, 117, 110, 107, 115]⟩]) (.int .i64 k)).run Tryz.prog w = .ok (.string (partE k)) w := by
  rcases (by omega : k = 0 ∨ k = 1 ∨ k = 2) with rfl | rfl | rfl
  · exact ix3_0 _ _ _ w
  · exact ix3_1 _ _ _ w
  · exact ix3_2 _ _ _ w

def EraseRel (w : World) (d f c mb room : Nat) (Q : List (Int × Bool)) (o : List (ByteArray × Ob)) (id : ByteArray) (gk : Nat) (u9 : Value) (wr : World) : Prop :=
  ∃ k a, k ≤ 3 ∧ gk = 3 - k ∧ u9 = .int .i64 k ∧ (eraseK Q o id k).1 = 0 ∧ DiskAt wr d f c mb a (eraseK Q o id k).2.1 room (eraseK Q o id k).2.2 ∧ Keeps [f, c, mb, d] w wr

set_option linter.unusedSimpArgs false in
set_option maxRecDepth 100000 in
set_option maxHeartbeats 1000000 in
theorem erase_spec (w : World) (d f c mb : Nat) (armed : Bool) (Q : List (Int × Bool)) (room : Nat) (o : List (ByteArray × Ob)) (h : DiskAt w d f c mb armed Q room o) (id : ByteArray) (hz : id.size ≤ 1000000) :
    Calls Tryz.prog 25 #[.pointer (some ⟨d, 0, none⟩), .string id] w (FreshPost w d f c mb room (eraseK Q o id 3)) := by
  have H := Lib.hid h
  clear h
  go_enter Tryz.func25, Tryz.ntmps25
  go_wp2_with fail
  go_loopg [9] 3 (EraseRel w d f c mb room Q o id)
  case atStart => exact ⟨0, armed, by decide, rfl, rfl, rfl, H.out, Keeps.refl _ _⟩
  case round =>
    obtain ⟨k, a, hk, hgk, rfl, he, hDk, hkr⟩ := hrel
    by_cases hlt : k < 3
    · have hk3 : (k : Int) < 3 := by omega
      have hix := ixE k hlt
      have Hr := Lib.hid (remove_spec wr d f c mb a _ room _ hDk (fileB id (partE k)))
      have hcs := opErr_none (eraseK Q o id k).2.1 (eraseK Q o id k).2.2 (fileB id (partE k))
      have Hk := Lib.hid (And.intro hgk (And.intro he (And.intro hkr hlt)))
      have hpz : (partE k).size ≤ 6 := partN_size _
      clear hgk he hDk hkr hlt
      go_wp2_with fail
      clear hix
      refine (file_spec wr id (partE k) hz (by omega)).mono ?_
      rintro e w1 ⟨rfl, rfl⟩
      go_wp2_with fail
      refine Hr.out.mono ?_
      rintro e w2 ⟨rfl, hD2, hk2⟩
      have hn : eraseK Q o id (k + 1) = rmS (eraseK Q o id k).2.1 (eraseK Q o id k).2.2 (fileB id (partE k)) := if_pos Hk.out.2.1
      have H2 := Lib.hid (And.intro hD2 (And.intro (Hk.out.2.2.1.trans hk2) hn))
      clear hD2 hk2 hn
      have key : ∀ E : Int, E = opErr (noneR (eraseK Q o id k).2.2 (fileB id (partE k))) (eraseK Q o id k).2.1 → (if E = 5 then 0 else E) = (rmS (eraseK Q o id k).2.1 (eraseK Q o id k).2.2 (fileB id (partE k))).1 := fun E hE => by rw [hE]; rfl
      obtain ⟨E, hE⟩ : ∃ E, E = opErr (noneR (eraseK Q o id k).2.2 (fileB id (partE k))) (eraseK Q o id k).2.1 := ⟨_, rfl⟩
      have HE := Lib.hid (key E hE)
      rw [← hE] at hcs ⊢
      clear hE key
      rcases hcs with rfl | rfl | rfl
      · go_wp2_with fail
        go_roundg (3 - (k + 1))
        case measure => have := Hk.out.1; have := Hk.out.2.2.2; omega
        case rel => exact ⟨k + 1, _, Hk.out.2.2.2, rfl, by go_num, by rw [H2.out.2.2, ← HE.out]; rfl, by rw [H2.out.2.2]; exact H2.out.1, H2.out.2.1⟩
      · go_wp2_with fail
        go_roundg (3 - (k + 1))
        case measure => have := Hk.out.1; have := Hk.out.2.2.2; omega
        case rel => exact ⟨k + 1, _, Hk.out.2.2.2, rfl, by go_num, by rw [H2.out.2.2, ← HE.out]; rfl, by rw [H2.out.2.2]; exact H2.out.1, H2.out.2.1⟩
      · go_wp2_with fail
        go_ret
        have e8 : (eraseK Q o id (k + 1)).1 = 8 := by rw [H2.out.2.2, ← HE.out]; rfl
        have e := fresh_end (S := eraseK Q o id 3) (T := eraseK Q o id (k + 1)) (eraseK_stop (k := k + 1) (by rw [e8]; decide) 3 (by have := Hk.out.2.2.2; omega)) (by rw [H2.out.2.2]; exact H2.out.1) H2.out.2.1
        rw [e8] at e
        exact e
    · obtain rfl : k = 3 := by omega
      have H4 := Lib.hid (And.intro hDk hkr)
      have Hz := Lib.hid he
      clear hgk he hDk hkr hlt
      rw [show ((3 : Nat) : Int) = 3 from rfl]
      go_wp2_with fail
      go_ret
      have e := fresh_end (S := eraseK Q o id 3) (T := eraseK Q o id 3) rfl H4.out.1 H4.out.2
      rw [Hz.out] at e
      exact e

theorem wp_region_keptD {P : Program} {id : Nat} {Q : Exit → Act → World → Prop} {a : Act} {w : World} {l : List Oper} (W : World) (hm : P.follows .mixedOrders = true) (hB : Region.lexB .any l.toArray = true) (hW : Keeps [] W w.drew)
    (h : wpQuiet P l.toArray (fun w' => ∃ s : Kept W, w' = s.val) (fun a' => ∀ w', (∃ s : Kept W, w' = s.val) → Q .normal a' w') l a) : (Code.region id l.toArray true).wp P Q a w :=
  wp_region_quiet (C := fun w' => ∃ s : Kept W, w' = s.val) hm hB ⟨⟨_, hW⟩, rfl⟩ h

theorem Calls.keptD {P : Program} {f : FuncId} {args : Array Value} {W : World} {s : Kept W} {v : Value} (h : ∀ w, Keeps [] W w → Calls P f args w fun e w' => e = .returned v ∧ Keeps [] w w') :
    Calls P f args s.val fun e w'' => e = .returned v ∧ ∃ s' : Kept W, w'' = s'.val :=
  (h s.val s.property).mono fun _ w'' ⟨he, hk⟩ => ⟨he, ⟨w'', s.property.trans hk⟩, rfl⟩

/-- The text of a note. -/
def noteT (M : MetaS) (a : Nat) : ByteArray := encM M ++ ⟨(markL M.id.data.toList a).toArray⟩

def noteS (room : Nat) (Q : List (Int × Bool)) (o : List (ByteArray × Ob)) (M : MetaS) (a : Nat) : OpS :=
  if ((noteT M a).size : Int) > (room : Int) - used o then (7, Q, o) else freshS room Q o (noteB M.id) (noteT M a)

theorem markL_len {id : List UInt8} {n : Nat} (h : id.length = 16) (hn : n ≤ 1099511627776) : (markL id n).length ≤ 100 := by
  unfold markL
  rw [frameL_len]
  have h1 : (textL id ++ lebL n).length ≤ 40 := by
    rw [List.length_append]
    unfold textL
    rw [List.length_append, h]
    have := lebL_len10 (v := n) (by omega)
    have := lebL_len10 (v := 16) (by omega)
    omega
  have := lebL_len10 (v := (textL id ++ lebL n).length) (by omega)
  omega

set_option linter.unusedSimpArgs false in
set_option maxRecDepth 100000 in
set_option maxHeartbeats 2000000 in
theorem note_spec (w : World) (d f c mb B : Nat) (armed : Bool) (Q : List (Int × Bool)) (room : Nat) (o : List (ByteArray × Ob)) (h : DiskAt w d f c mb armed Q room o) (M : MetaS) (af ao : Option Addr) (nf cf no co : Nat) (hM : MetaV B w (metaCs M (.slice af nf cf) (.slice ao no co)) M) (hok : MetaOk M) (a : Nat) (ha : a ≤ 1099511627776) :
    Calls Tryz.prog 20 #[.pointer (some ⟨d, 0, none⟩), .agg #[.string M.id, .int .i64 M.mn, .int .i64 M.mx, .int .i64 M.level, .int .i64 M.series, .int .i64 M.samples, .slice af nf cf, .slice ao no co, .int .i64 a]] w (FreshPost w d f c mb room (noteS room Q o M a)) := by
  obtain ⟨q, hq⟩ : ∃ q, q = w.heap.size := ⟨_, rfl⟩
  obtain ⟨W1, hW1⟩ : ∃ W1, W1 = w.alloc (.cells #[.string M.id, .int .i64 M.mn, .int .i64 M.mx, .int .i64 M.level, .int .i64 M.series, .int .i64 M.samples, .slice af nf cf, .slice ao no co, .int .i64 a] 58) := ⟨_, rfl⟩
  have k1 : Keeps [] w W1 := by rw [hW1]; exact (Keeps.refl [] w).alloc _
  have n1 : W1.heap[q]? = some (.cells #[.string M.id, .int .i64 M.mn, .int .i64 M.mx, .int .i64 M.level, .int .i64 M.series, .int .i64 M.samples, .slice af nf cf, .slice ao no co, .int .i64 a] 58 (0, 0)) := by rw [hW1, hq]; exact heap_new w _
  have hid16 := id16 hok.id
  have H := Lib.hid (And.intro h (And.intro hM (And.intro hok (And.intro k1 n1))))
  have hm16 : M.id.data.toList.length = 16 := by rw [dsize]; exact hid16
  have hem : (encM M).size ≤ 3000 := frame_meta_len hok
  obtain ⟨mk, hmk⟩ : ∃ b : ByteArray, b = ⟨(markL M.id.data.toList a).toArray⟩ := ⟨_, rfl⟩
  have hmz : mk.size ≤ 100 := by rw [hmk]; exact markL_len hm16 ha
  have HE := Lib.hid (fun W (hk : Keeps [] W1 W) => metaEnc_spec B W _ M (hM.same (k1.trans hk)) hok)
  have HK := Lib.hid (fun W (hk : Keeps [] W1 W) => encodeMark_spec W M.id (by omega) (a : Int) a (by omega) (by omega))
  rw [← hmk] at HK
  rw [show (⟨(frameL 1 (metaL M)).toArray⟩ : ByteArray) = encM M from rfl] at HE
  obtain ⟨em, hemm⟩ : ∃ em, em = encM M := ⟨_, rfl⟩
  rw [← hemm] at hem HE
  have hnt : noteT M a = em ++ mk := by unfold noteT; rw [hemm, hmk]
  have hnz : (em ++ mk).size ≤ 3100 := by rw [ByteArray.size_append]; omega
  have hnt2 := Lib.hid hnt
  have hnn := noteB_size M.id
  clear h hM hok hmk hemm hnt hm16
  go_enter Tryz.func20, Tryz.ntmps20
  go_upto_region 1 with fail
  rw [← hq, ← hW1]
  clear hq hW1
  have c1 : ∀ (s : Kept W1) i, s.val.cell? ⟨q, i, none⟩ = (#[.string M.id, .int .i64 M.mn, .int .i64 M.mx, .int .i64 M.level, .int .i64 M.series, .int .i64 M.samples, .slice af nf cf, .slice ao no co, .int .i64 a] : Array Value)[i]? := fun s i => (s.property.cell (lt_of_at n1) (by simp)).trans (cells_at n1 i)
  have l1 : ∀ s : Kept W1, q < s.val.heap.size := fun s => s.property.lt (lt_of_at n1)
  refine wp_region_keptD W1 (by kernel_rfl) (by kernel_rfl) ((Keeps.refl [] W1).drew) ?_
  repeat (go_big_quiet_step (first | (go_at_call 37; exact Calls.keptD HE.out) | (go_at_call 43; exact Calls.keptD HK.out)))
  refine wpQuiet_nil ?_
  rintro w9 ⟨⟨_, hk9⟩, rfl⟩
  have n9 := hk9.at_ n1 (by simp)
  have hD9 := H.out.1.same (H.out.2.2.2.1.trans hk9)
  have H9 := Lib.hid (And.intro hD9 (H.out.2.2.2.1.trans hk9))
  have hS1 : ((em ++ mk).size : Int) > (room : Int) - (used o : Int) → noteS room Q o M a = (7, Q, o) := fun hr => by
    unfold noteS
    rw [hnt2.out]
    exact if_pos hr
  have hS2 : ¬ ((em ++ mk).size : Int) > (room : Int) - (used o : Int) → noteS room Q o M a = freshS room Q o (noteB M.id) (em ++ mk) := fun hr => by
    unfold noteS
    rw [hnt2.out]
    exact if_neg hr
  have HS := Lib.hid (And.intro hS1 hS2)
  clear hS1 hS2 c1 l1 n1 hk9
  generalize em ++ mk = T at hnz HS ⊢
  have c9 := cells_at n9
  have l9 := lt_of_at n9
  go_wp2_with fail
  refine (free_spec _ d f c mb armed Q room o hD9).mono ?_
  rintro e w10 ⟨rfl, nn, rfl⟩
  have kd : Keeps [] w9 (w9.drewN nn) := (Keeps.refl [] _).drewN nn
  have n10 := kd.at_ n9 (by simp)
  have H10 := Lib.hid (And.intro (hD9.same kd) (H9.out.2.trans kd))
  clear c9 l9 n9 hD9 kd
  generalize w9.drewN nn = w10 at n10 H10 ⊢
  have c10 := cells_at n10
  have l10 := lt_of_at n10
  clear n10
  by_cases hroom : (T.size : Int) > (room : Int) - (used o : Int)
  · have hr := Lib.hid (HS.out.1 hroom)
    go_wp2_with fail
    go_ret
    exact fresh_end (T := (7, Q, o)) hr.out H10.out.1 (H10.out.2.mono (by simp))
  · have hr := Lib.hid (HS.out.2 (Int.not_lt.1 hroom))
    go_wp2_with fail
    clear c10 l10
    refine (fresh_spec w10 d f c mb armed Q room o H10.out.1 (noteB M.id) T (by omega)).mono ?_
    rintro e w11 ⟨rfl, a11, hD11, hk11⟩
    have H11 := Lib.hid (And.intro hD11 ((H10.out.2.mono (by simp)).trans hk11))
    clear hD11 hk11
    obtain ⟨S6, hS6⟩ : ∃ S6 : OpS, S6 = freshS room Q o (noteB M.id) T := ⟨_, rfl⟩
    rw [← hS6] at hr H11 ⊢
    clear hS6
    go_wp2_with fail
    go_ret
    exact fresh_end (T := S6) hr.out H11.out.1 H11.out.2
end Go.Proofs.YtaebpbkiaihhdaaGreatDoor
