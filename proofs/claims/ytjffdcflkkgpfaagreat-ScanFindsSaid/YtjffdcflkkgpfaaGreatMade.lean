/-
  A meta that may be said, made of one (package barographlaw09): Made. What it makes, in plain words.
  No condition beyond those that each theorem states.
-/
import Derived.Test.YtjffdcflkkgpfaaGreatListNew
import Derived.Test.YtjffdcflkkgpfaaGreatCut
namespace Go.Proofs.YtjffdcflkkgpfaaGreat
open Go Go.RowKit Go.Conc
open Go.Op (bytesLess)

theorem i64_and1023 (n : Int) : bits .and .i64 n 1023 = n % 1024 := by
  have h3 : (BitVec.ofInt 64 1023).toNat = 2 ^ 10 - 1 := by decide
  have key : (BitVec.ofInt 64 n &&& BitVec.ofInt 64 1023).toNat = (n % ((2 ^ 64 : Nat) : Int)).toNat % 2 ^ 10 := by
    rw [BitVec.toNat_and, BitVec.toNat_ofInt, h3, Nat.and_two_pow_sub_one_eq_mod]
  show IntKind.i64.wrap ((BitVec.ofInt 64 n &&& BitVec.ofInt 64 1023).toNat : Nat) = n % 1024
  rw [key, IntKind.wrap_i64]
  omega

theorem i64_and20 (n : Int) : bits .and .i64 n 1048575 = n % 1048576 := by
  have h3 : (BitVec.ofInt 64 1048575).toNat = 2 ^ 20 - 1 := by decide
  have key : (BitVec.ofInt 64 n &&& BitVec.ofInt 64 1048575).toNat = (n % ((2 ^ 64 : Nat) : Int)).toNat % 2 ^ 20 := by
    rw [BitVec.toNat_and, BitVec.toNat_ofInt, h3, Nat.and_two_pow_sub_one_eq_mod]
  show IntKind.i64.wrap ((BitVec.ofInt 64 n &&& BitVec.ofInt 64 1048575).toNat : Nat) = n % 1048576
  rw [key, IntKind.wrap_i64]
  omega

theorem i64_and7 (n : Int) : bits .and .i64 n 7 = n % 8 := by
  have h3 : (BitVec.ofInt 64 7).toNat = 2 ^ 3 - 1 := by decide
  have key : (BitVec.ofInt 64 n &&& BitVec.ofInt 64 7).toNat = (n % ((2 ^ 64 : Nat) : Int)).toNat % 2 ^ 3 := by
    rw [BitVec.toNat_and, BitVec.toNat_ofInt, h3, Nat.and_two_pow_sub_one_eq_mod]
  show IntKind.i64.wrap ((BitVec.ofInt 64 n &&& BitVec.ofInt 64 7).toNat : Nat) = n % 8
  rw [key, IntKind.wrap_i64]
  omega

theorem i64_and16 (n : Int) : bits .and .i64 n 65535 = n % 65536 := by
  have h3 : (BitVec.ofInt 64 65535).toNat = 2 ^ 16 - 1 := by decide
  have key : (BitVec.ofInt 64 n &&& BitVec.ofInt 64 65535).toNat = (n % ((2 ^ 64 : Nat) : Int)).toNat % 2 ^ 16 := by
    rw [BitVec.toNat_and, BitVec.toNat_ofInt, h3, Nat.and_two_pow_sub_one_eq_mod]
  show IntKind.i64.wrap ((BitVec.ofInt 64 n &&& BitVec.ofInt 64 65535).toNat : Nat) = n % 65536
  rw [key, IntKind.wrap_i64]
  omega


/-- A meta that came in: anything. -/
structure RawM where
  id : ByteArray
  mn : Int
  mx : Int
  level : Int
  series : Int
  samples : Int
  fa : Option Addr
  fn : Nat
  fc : Nat
  sa : Option Addr
  sn : Nat
  sc : Nat

def encRaw (o : RawM) : List Value := [.string o.id, .int .i64 o.mn, .int .i64 o.mx, .int .i64 o.level, .int .i64 o.series, .int .i64 o.samples, .slice o.fa o.fn o.fc, .slice o.sa o.sn o.sc]

def identB (t s : Nat) : ByteArray := ⟨(identL t s).toArray⟩

/-- What Made makes of it (without sources). -/
def madeS (o : RawM) (tick seq : Int) : MetaS where
  id := identB (1 + (tick % 1024).toNat) (seq % 1024).toNat
  mn := (o.mn % 1048576).toNat
  mx := (o.mn % 1048576).toNat + 1 + (o.mx % 65536).toNat
  level := 1 + (o.level % 8).toNat
  series := (o.series % 1024).toNat
  samples := (o.series % 1024).toNat + (o.samples % 1024).toNat
  files := [(chunksB, 1, moreN 0 [99]), (indexB, (cut o.id 20).size, moreN 0 (cut o.id 20).data.toList)]
  sources := []

theorem identB_id {t s : Nat} (ht : t < 1099511627776) (hs : s < 1099511627776) : isIDB (identB t s).data.toList = true := by
  unfold identB
  rw [List.toList_toArray]
  exact isID_ident ht hs

theorem identB_inj {t s t' s' : Nat} (ht : t < 1099511627776) (hs : s < 1099511627776) (ht' : t' < 1099511627776) (hs' : s' < 1099511627776) (h : identB t s = identB t' s') : t = t' ∧ s = s' := by
  have h1 : identL t s = identL t' s' := by
    have := congrArg (fun b : ByteArray => b.data.toList) h
    simpa [identB] using this
  have h2 := parseL_ident ht hs
  rw [h1, parseL_ident ht' hs'] at h2
  simp only [Option.some.injEq, Prod.mk.injEq] at h2
  exact ⟨h2.1.symm, h2.2.symm⟩

/-- It may be said, with sources that rise and are others. -/
theorem made_ok (o : RawM) (tick seq : Int) (S : List ByteArray) (hS : ∀ s ∈ S, isIDB s.data.toList = true ∧ s ≠ (madeS o tick seq).id) (hr : S.Pairwise fun a b => bytesLess a.data.toList b.data.toList = true) (hl : S.length ≤ 50) : MetaOk { madeS o tick seq with sources := S } where
  id := identB_id (by omega) (by omega)
  time := by simp only [madeS]; omega
  level := by simp only [madeS]; omega
  samples := by simp only [madeS]; omega
  files := ⟨1, moreN 0 [99], (cut o.id 20).size, moreN 0 (cut o.id 20).data.toList, rfl, by omega, by have := cut_size o.id 20; omega, moreN_lt _ _, moreN_lt _ _⟩
  few := hl
  src := hS
  rise := hr


def madeVs (m : MetaS) (vf vo : Value) : Array Value := #[.string m.id, .int .i64 m.mn, .int .i64 m.mx, .int .i64 m.level, .int .i64 m.series, .int .i64 m.samples, vf, vo]

def Made9Post (w : World) (m : MetaS) (e : Ending) (w' : World) : Prop :=
  ∃ vf a n c, e = .returned (.agg (madeVs m vf (.slice a n c))) ∧ w'.ownsRow w.heap.size 149 3 vf 2 (m.files.flatMap encFile) ∧ Keeps [] w w'

def MadeMid (w : World) (m : MetaS) (pb rb xb : Nat) (raw zero : Array Value) (wc : World) : Prop :=
  ∃ vf, wc.heap[xb]? = some (.cells (madeVs m vf (.slice none 0 0)) 63 (0, 0)) ∧ wc.heap[pb]? = some (.cells raw 63 (0, 0)) ∧ wc.heap[rb]? = some (.cells zero 63 (0, 0)) ∧ wc.ownsRow w.heap.size 149 3 vf 2 (m.files.flatMap encFile) ∧ Keeps [] w wc

def MadeRel9 (w : World) (m : MetaS) (pb rb xb : Nat) (raw zero : Array Value) (n gk : Nat) (u : Value) (wr : World) : Prop :=
  ∃ (k : Nat) (S : List Value) (vo : Value), k ≤ n ∧ gk = n - k ∧ u = .int .i64 k ∧ S.length = k ∧ wr.ownsRow w.heap.size 9 1 vo k S ∧
    ∃ vf, wr.heap[xb]? = some (.cells (madeVs m vf vo) 63 (0, 0)) ∧ wr.heap[pb]? = some (.cells raw 63 (0, 0)) ∧ wr.heap[rb]? = some (.cells zero 63 (0, 0)) ∧ wr.ownsRow w.heap.size 149 3 vf 2 (m.files.flatMap encFile) ∧ Keeps [] w wr

set_option linter.unusedSimpArgs false in
set_option maxRecDepth 100000 in
set_option maxHeartbeats 4000000 in
theorem made9_spec (w : World) (o : RawM) (tick seq : Int) :
    Calls Tryz.prog 35 #[.agg (encRaw o).toArray, .int .i64 tick, .int .i64 seq] w (Made9Post w (madeS o tick seq)) := by
  have q1 := i64_and1023 tick
  have q2 := i64_and1023 seq
  have q3 := i64_and20 o.mn
  have q4 := i64_and7 o.level
  have q5 := i64_and1023 o.series
  have q6 := i64_and16 o.mx
  have q7 := i64_and1023 o.samples
  obtain ⟨m, hm⟩ : ∃ m, m = madeS o tick seq := ⟨_, rfl⟩
  rw [← hm]
  obtain ⟨oid, omn, omx, olv, osr, osp, fa, fn, fc, sa, sn, sc⟩ := o
  simp only [madeS] at hm
  simp only at q1 q2 q3 q4 q5 q6 q7
  obtain ⟨tn, h1⟩ : ∃ n : Nat, n = (tick % 1024).toNat := ⟨_, rfl⟩
  obtain ⟨qn, h2⟩ : ∃ n : Nat, n = (seq % 1024).toNat := ⟨_, rfl⟩
  obtain ⟨mn, h3⟩ : ∃ n : Nat, n = (omn % 1048576).toNat := ⟨_, rfl⟩
  obtain ⟨lv, h4⟩ : ∃ n : Nat, n = (olv % 8).toNat := ⟨_, rfl⟩
  obtain ⟨sr, h5⟩ : ∃ n : Nat, n = (osr % 1024).toNat := ⟨_, rfl⟩
  obtain ⟨md, h6⟩ : ∃ n : Nat, n = (omx % 65536).toNat := ⟨_, rfl⟩
  obtain ⟨sp, h7⟩ : ∃ n : Nat, n = (osp % 1024).toNat := ⟨_, rfl⟩
  rw [← h1, ← h2, ← h3, ← h4, ← h5, ← h6, ← h7] at hm
  rw [show tick % 1024 = (tn : Int) from by omega] at q1
  rw [show seq % 1024 = (qn : Int) from by omega] at q2
  rw [show omn % 1048576 = (mn : Int) from by omega] at q3
  rw [show olv % 8 = (lv : Int) from by omega] at q4
  rw [show osr % 1024 = (sr : Int) from by omega] at q5
  rw [show omx % 65536 = (md : Int) from by omega] at q6
  rw [show osp % 1024 = (sp : Int) from by omega] at q7
  have b1 : tn ≤ 1023 := by omega
  have b2 : qn ≤ 1023 := by omega
  have b3 : mn ≤ 1048575 := by omega
  have b4 : lv ≤ 7 := by omega
  have b5 : sr ≤ 1023 := by omega
  have b6 : md ≤ 65535 := by omega
  have b7 : sp ≤ 1023 := by omega
  clear h1 h2 h3 h4 h5 h6 h7
  obtain ⟨t1, ht1⟩ : ∃ n : Nat, n = 1 + tn := ⟨_, rfl⟩
  obtain ⟨l1, hl1⟩ : ∃ n : Nat, n = 1 + lv := ⟨_, rfl⟩
  obtain ⟨m1, hm1⟩ : ∃ n : Nat, n = mn + 1 := ⟨_, rfl⟩
  obtain ⟨mx, hmx⟩ : ∃ n : Nat, n = m1 + md := ⟨_, rfl⟩
  obtain ⟨ss, hss⟩ : ∃ n : Nat, n = sr + sp := ⟨_, rfl⟩
  have r1 : IntKind.i64.wrap (1 + (tn : Int)) = (t1 : Int) := by rw [IntWalk.i64_in _ (by omega)]; omega
  have r2 : IntKind.i64.wrap (1 + (lv : Int)) = (l1 : Int) := by rw [IntWalk.i64_in _ (by omega)]; omega
  have r3 : IntKind.i64.wrap ((mn : Int) + 1) = (m1 : Int) := by rw [IntWalk.i64_in _ (by omega)]; omega
  have r4 : IntKind.i64.wrap ((m1 : Int) + (md : Int)) = (mx : Int) := by rw [IntWalk.i64_in _ (by omega)]; omega
  have r5 : IntKind.i64.wrap ((sr : Int) + (sp : Int)) = (ss : Int) := by rw [IntWalk.i64_in _ (by omega)]; omega
  rw [← ht1, ← hm1, ← hmx, ← hl1, ← hss] at hm
  have t1b : t1 ≤ 1024 := by omega
  have Hm := Lib.hid hm
  obtain ⟨idv, hidv⟩ : ∃ s : ByteArray, s = identB t1 qn := ⟨_, rfl⟩
  have HIv := Lib.hid hidv
  obtain ⟨xs, hxs⟩ : ∃ s : ByteArray, s = cut oid 20 := ⟨_, rfl⟩
  have hxz : xs.size ≤ 20 := by rw [hxs]; exact cut_size _ _
  have Hxs := Lib.hid hxs
  unfold encRaw
  simp only
  obtain ⟨pb, hpb⟩ : ∃ n, n = w.heap.size := ⟨_, rfl⟩
  obtain ⟨rb, hrb⟩ : ∃ n, n = pb + 1 := ⟨_, rfl⟩
  obtain ⟨raw, hraw⟩ : ∃ r : Array Value, r = #[.string oid, .int .i64 omn, .int .i64 omx, .int .i64 olv, .int .i64 osr, .int .i64 osp, .slice fa fn fc, .slice sa sn sc] := ⟨_, rfl⟩
  obtain ⟨zero, hzero⟩ : ∃ r : Array Value, r = #[.string ⟨#[]⟩, .int .i64 0, .int .i64 0, .int .i64 0, .int .i64 0, .int .i64 0, .slice none 0 0, .slice none 0 0] := ⟨_, rfl⟩
  have n0 := new2 w (.cells raw 63) (.cells zero 63)
  have k0 : Keeps [] w ((w.alloc (.cells raw 63)).alloc (.cells zero 63)) := ((Keeps.refl [] w).alloc _).alloc _
  rw [← hpb, ← hrb] at n0
  rw [hraw, hzero] at n0 k0
  have H0 := Lib.hid (And.intro n0.1 (And.intro n0.2 k0))
  have HB := Lib.hid (And.intro hpb hrb)
  have hbb : w.heap.size ≤ pb ∧ w.heap.size ≤ rb := by omega
  obtain ⟨c0, hc0⟩ : ∃ n, n = moreN 0 [99] := ⟨_, rfl⟩
  obtain ⟨c1, hc1⟩ : ∃ n, n = moreN 0 xs.data.toList := ⟨_, rfl⟩
  obtain ⟨zx, hzx⟩ : ∃ n, n = xs.size := ⟨_, rfl⟩
  have Hof0 : Hid (∀ W, Calls Tryz.prog 72 #[.string ⟨#[99, 104, 117, 110, 107, 115]⟩, .string ⟨#[99]⟩] W (fun e w' => e = .returned (.agg #[.string chunksB, .int .i64 1, .int .u32 c0]) ∧ Keeps [] W w')) := Lib.hid fun W => by rw [hc0]; exact of_spec W chunksB ⟨#[99]⟩ (by decide)
  have Hof1 : Hid (∀ W, Calls Tryz.prog 72 #[.string ⟨#[105, 110, 100, 101, 120]⟩, .string xs] W (fun e w' => e = .returned (.agg #[.string indexB, .int .i64 zx, .int .u32 c1]) ∧ Keeps [] W w')) := Lib.hid fun W => by rw [hc1, hzx]; exact of_spec W indexB xs (by omega)
  have Hcut : Hid (∀ W, Calls Tryz.prog 36 #[.string oid, .int .i64 20] W (fun e w' => e = .returned (.string xs) ∧ Keeps [] W w')) := Lib.hid fun W => (cut_any oid 20 W (by decide)).mono fun e w' h => by
    obtain ⟨rfl, rfl⟩ := h
    exact ⟨by rw [Hxs.out], Keeps.refl _ _⟩
  have Hmk0 : Hid (∀ W (k : Nat), k < 1000 → Calls Tryz.prog 71 #[.int .i64 0, .int .i64 k] W (fun e w' => e = .returned (.tuple #[.string (identB 0 k), .int .i64 0]) ∧ Keeps [] W w')) := Lib.hid fun W k h => make_spec W 0 k (by decide) (by omega)
  have hmf : m.files = [(chunksB, 1, c0), (indexB, zx, c1)] := by rw [hm, hc0, hc1, hzx, hxs]
  have hmi : m.id = idv ∧ m.mn = mn ∧ m.mx = mx ∧ m.level = l1 ∧ m.series = sr ∧ m.samples = ss := by rw [hm, hidv]; exact ⟨rfl, rfl, rfl, rfl, rfl, rfl⟩
  have HM := Lib.hid (And.intro hmf hmi)
  obtain ⟨is, his, hzs0, hzs1, hzs2⟩ := info_parts infoStrM
  clear hc0 hc1 hzx hmf hmi
  clear n0 k0 hpb hrb hraw hzero raw zero ht1 hl1 hm1 hmx hss hm hidv hxs
  go_enter Tryz.func35, Tryz.ntmps35
  go_wp2_with fail
  rw [← HB.out.1, ← HB.out.2]
  have hmk := fun W => make_spec W t1 qn (by omega) (by omega)
  rw [show (⟨(identL t1 qn).toArray⟩ : ByteArray) = idv from HIv.out.symm] at hmk
  have Hmk := Lib.hid hmk
  clear hmk
  generalize (w.alloc (.cells #[.string oid, .int .i64 omn, .int .i64 omx, .int .i64 olv, .int .i64 osr, .int .i64 osp, .slice fa fn fc, .slice sa sn sc] 63)).alloc (.cells #[.string ⟨#[]⟩, .int .i64 0, .int .i64 0, .int .i64 0, .int .i64 0, .int .i64 0, .slice none 0 0, .slice none 0 0] 63) = W0 at H0 ⊢
  refine (Hmk.out _).mono ?_
  rintro e w1 ⟨rfl, hk1⟩
  have n1 := hk1.at_ H0.out.1 (by simp)
  have c1 := cells_at n1
  have lp1 := lt_of_at n1
  have H1 := Lib.hid (And.intro n1 (And.intro (hk1.at_ H0.out.2.1 (by simp)) (H0.out.2.2.trans hk1)))
  have hsz1 := hk1.size
  clear n1 hk1 H0 Hmk
  go_upto_region 5 with fail
  obtain ⟨xb, hxb⟩ : ∃ n, n = w1.heap.size := ⟨_, rfl⟩
  rw [← hxb]
  have n2 := heap_new w1 (.cells #[.string idv, .int .i64 mn, .int .i64 mx, .int .i64 l1, .int .i64 sr, .int .i64 ss, .slice none 0 0, .slice none 0 0] 63)
  have k2 : Keeps [] w1 (w1.alloc (.cells #[.string idv, .int .i64 mn, .int .i64 mx, .int .i64 l1, .int .i64 sr, .int .i64 ss, .slice none 0 0, .slice none 0 0] 63)) := (Keeps.refl [] w1).alloc _
  rw [← hxb] at n2
  have hxx : w.heap.size ≤ xb ∧ xb ≠ pb ∧ xb ≠ rb := by
    have := H1.out.2.2.size
    have := lt_of_at H1.out.1
    have := lt_of_at H1.out.2.1
    omega
  have H2 := Lib.hid (And.intro n2 (And.intro (k2.at_ H1.out.1 (by simp)) (And.intro (k2.at_ H1.out.2.1 (by simp)) (H1.out.2.2.trans k2))))
  clear n2 k2 H1 c1 lp1 hsz1 hxb
  generalize w1.alloc (.cells #[.string idv, .int .i64 mn, .int .i64 mx, .int .i64 l1, .int .i64 sr, .int .i64 ss, .slice none 0 0, .slice none 0 0] 63) = W2 at H2 ⊢
  go_cut [] from 49 to 55 (MadeMid w m pb rb xb #[.string oid, .int .i64 omn, .int .i64 omx, .int .i64 olv, .int .i64 osr, .int .i64 osp, .slice fa fn fc, .slice sa sn sc] #[.string ⟨#[]⟩, .int .i64 0, .int .i64 0, .int .i64 0, .int .i64 0, .int .i64 0, .slice none 0 0, .slice none 0 0])
  case first =>
    have np := H2.out.2.1
    have d0 : W2.cell? ⟨pb, 0, none⟩ = some (.string oid) := by rw [cells_at np]; rfl
    have lp2 := lt_of_at np
    have kA0 : Keeps [] W2 W2.drew := (Keeps.refl [] W2).drew
    clear np
    refine wp_region_held_drew (S := fun w' => w'.cell? ⟨pb, 0, none⟩ = some (.string oid)) (by kernel_rfl) d0 (fun hS => ?_)
    generalize W2.drew = A0 at kA0 hS ⊢
    refine wpAnyH_take (i := 1) (v := ?_) rfl (by kernel_rfl) (by kernel_rfl) (by kernel_rfl) (fun _ _ _ h => h) (Or.inl ⟨by rfl, ?_⟩) (by assumption) ?_
    rotate_left
    · intro w' s1; go_simp; (try with_reducible rfl)
    simp only [Act.put, List.getElem_toArray, List.getElem_cons_succ, List.getElem_cons_zero, List.setIfInBounds_toArray, List.set_cons_zero, List.set_cons_succ]
    refine wpAnyH_take (i := 2) (v := ?_) rfl (by kernel_rfl) (by kernel_rfl) (by kernel_rfl) (fun _ _ _ h => h) (Or.inl ⟨by rfl, ?_⟩) (by assumption) ?_
    rotate_left
    · intro w' s1; go_simp; (try with_reducible rfl)
    simp only [Act.put, List.getElem_toArray, List.getElem_cons_succ, List.getElem_cons_zero, List.setIfInBounds_toArray, List.set_cons_zero, List.set_cons_succ]
    refine wpAnyH_ready (rs := [0]) (by kernel_rfl) (by simp) ?_
    refine AllReadyH.cons rfl (fun K hK => ?_) AllReadyH.nil
    go_simp
    go_at_call 72
    refine (Hof0.out _).mono ?_
    rintro e A1 ⟨rfl, hkA1⟩
    have kA1 : Keeps [] W2 A1 := kA0.trans hkA1
    clear hkA1
    go_simp
    refine hK.out _ _ ((kA1.cell lp2 (by simp)).trans d0) (fun hS => ?_)
    clear hK K
    try simp only [Act.put, List.getElem_toArray, List.getElem_cons_succ, List.getElem_cons_zero, List.setIfInBounds_toArray, List.set_cons_zero, List.set_cons_succ]
    refine wpAnyH_ready (rs := [3]) (by kernel_rfl) (by simp) ?_
    refine AllReadyH.cons rfl (fun K hK => ?_) AllReadyH.nil
    go_simp
    go_at_call 36
    refine (Hcut.out _).mono ?_
    rintro e A2 ⟨rfl, hkA2⟩
    have kA2 : Keeps [] W2 A2 := kA1.trans hkA2
    clear hkA2
    go_simp
    refine hK.out _ _ ((kA2.cell lp2 (by simp)).trans d0) (fun hS => ?_)
    clear hK K
    try simp only [Act.put, List.getElem_toArray, List.getElem_cons_succ, List.getElem_cons_zero, List.setIfInBounds_toArray, List.set_cons_zero, List.set_cons_succ]
    refine wpAnyH_ready (rs := [4]) (by kernel_rfl) (by simp) ?_
    refine AllReadyH.cons rfl (fun K hK => ?_) AllReadyH.nil
    go_simp
    go_at_call 72
    refine (Hof1.out _).mono ?_
    rintro e A3 ⟨rfl, hkA3⟩
    have kA3 : Keeps [] W2 A3 := kA2.trans hkA3
    clear hkA3
    go_simp
    refine hK.out _ _ ((kA3.cell lp2 (by simp)).trans d0) (fun hS => ?_)
    clear hK K
    try simp only [Act.put, List.getElem_toArray, List.getElem_cons_succ, List.getElem_cons_zero, List.setIfInBounds_toArray, List.set_cons_zero, List.set_cons_succ]
    refine wpAnyH_ready (rs := [5]) (by kernel_rfl) (by simp) ?_
    refine AllReadyH.cons rfl (fun K hK => ?_) AllReadyH.nil
    go_simp
    have kA4 : Keeps [] W2 (A3.alloc (.cells #[.string chunksB, .int .i64 1, .int .u32 c0, .string indexB, .int .i64 zx, .int .u32 c1] 149)) := kA3.alloc _
    have ns := heap_new A3 (.cells #[.string chunksB, .int .i64 1, .int .u32 c0, .string indexB, .int .i64 zx, .int .u32 c1] 149)
    have hsb := kA3.size
    generalize hgs : A3.heap.size = sb at ns hsb ⊢
    generalize A3.alloc (.cells #[.string chunksB, .int .i64 1, .int .u32 c0, .string indexB, .int .i64 zx, .int .u32 c1] 149) = A4 at kA4 ns ⊢
    clear hgs
    refine hK.out _ _ ((kA4.cell lp2 (by simp)).trans d0) (fun hS => ?_)
    clear hK K
    try simp only [Act.put, List.getElem_toArray, List.getElem_cons_succ, List.getElem_cons_zero, List.setIfInBounds_toArray, List.set_cons_zero, List.set_cons_succ]
    refine wpAnyH_ready (rs := [6]) (by kernel_rfl) (by simp) ?_
    refine AllReadyH.cons rfl (fun K hK => ?_) AllReadyH.nil
    go_simp
    refine hK.out _ _ ((kA4.cell lp2 (by simp)).trans d0) (fun hS => ?_)
    clear hK K
    try simp only [Act.put, List.getElem_toArray, List.getElem_cons_succ, List.getElem_cons_zero, List.setIfInBounds_toArray, List.set_cons_zero, List.set_cons_succ]
    refine wpAnyH_ready (rs := [7]) (by kernel_rfl) (by simp) ?_
    refine AllReadyH.cons rfl (fun K hK => ?_) AllReadyH.nil
    have nx := kA4.at_ H2.out.1 (by simp)
    have cx := cells_at nx
    have fx := free_at nx
    have lx := lt_of_at nx
    go_simp
    have ks : Keeps [xb] A4 (A4.setCell ⟨xb, 6, none⟩ (.slice (some ⟨sb, 0, none⟩) 2 2)) := (Keeps.refl [xb] _).setCell (.inl (by simp)) _
    refine hK.out _ _ ((ks.cell (kA4.lt lp2) (by simp; omega)).trans ((kA4.cell lp2 (by simp)).trans d0)) (fun hS => ?_)
    clear hK K
    try simp only [Act.put, List.getElem_toArray, List.getElem_cons_succ, List.getElem_cons_zero, List.setIfInBounds_toArray, List.set_cons_zero, List.set_cons_succ]
    refine wpAnyH_done (by kernel_rfl) ?_ _
    clear hS
    have hw2 := H2.out.2.2.2.size
    have k2w := H2.out.2.2.2.trans kA4
    have nx' := heap_cell_same (i := 6) nx (.slice (some ⟨sb, 0, none⟩) 2 2)
    have np' := ks.at_ (kA4.at_ H2.out.2.1 (by simp)) (by simp; omega)
    have nr' := ks.at_ (kA4.at_ H2.out.2.2.1 (by simp)) (by simp; omega)
    have ns' := ks.at_ ns (by have := ne_of_at ns nx (by simp); simpa using this)
    have kw' := k2w.after ks (fun x hx => .inr (by simp only [List.mem_singleton] at hx; omega))
    have hrow : (A4.setCell ⟨xb, 6, none⟩ (.slice (some ⟨sb, 0, none⟩) 2 2)).ownsRow w.heap.size 149 3 (.slice (some ⟨sb, 0, none⟩) 2 2) 2 (m.files.flatMap encFile) := by
      rw [HM.out.1]
      exact ⟨rfl, .inr ⟨sb, 2, _, rfl, by omega, ns', by decide, by decide, rfl, rfl⟩⟩
    have Hr := Lib.hid (And.intro nx' (And.intro np' (And.intro nr' (And.intro hrow kw'))))
    clear nx' np' nr' ns' kw' hrow nx cx fx lx ks k2w ns
    go_wp2_with fail
    go_meet
    case rel =>
      refine ⟨.slice (some ⟨sb, 0, none⟩) 2 2, ?_, Hr.out.2.1, Hr.out.2.2.1, Hr.out.2.2.2.1, Hr.out.2.2.2.2⟩
      obtain ⟨e1, e2, e3, e4, e5, e6⟩ := HM.out.2
      unfold madeVs
      rw [e1, e2, e3, e4, e5, e6]
      exact Hr.out.1
  case rest =>
    obtain ⟨vf0, nx, np, nr, hrow, hkw⟩ := hcut
    have HC := Lib.hid (And.intro nx (And.intro np (And.intro nr (And.intro hrow hkw))))
    obtain ⟨n, hn⟩ : ∃ n, n = min sn 9 := ⟨_, rfl⟩
    clear nx np nr hrow hkw H2 Hof0 Hof1 Hcut Hm HIv Hxs
    go_wp2_with fail
    go_loopg [10] n (MadeRel9 w m pb rb xb #[.string oid, .int .i64 omn, .int .i64 omx, .int .i64 olv, .int .i64 osr, .int .i64 osp, .slice fa fn fc, .slice sa sn sc] #[.string ⟨#[]⟩, .int .i64 0, .int .i64 0, .int .i64 0, .int .i64 0, .int .i64 0, .slice none 0 0, .slice none 0 0] n)
    case atStart => exact ⟨0, [], .slice none 0 0, Nat.zero_le _, rfl, rfl, rfl, World.ownsRow_nil _ _ _ 1, vf0, HC.out⟩
    case round =>
      obtain ⟨k, S, vo, hk, hgk, rfl, hSk, hso, vf, nx, np, nr, hrow, hkw⟩ := hrel
      have Hg := Lib.hid hgk
      have HSk := Lib.hid hSk
      obtain ⟨ao, co, rfl, hkc, hcm, -⟩ := row_slice hso
      obtain ⟨af, cf, rfl, -, -, -⟩ := row_slice hrow
      have nx2 : wr.heap[xb]? = some (.cells #[.string m.id, .int .i64 m.mn, .int .i64 m.mx, .int .i64 m.level, .int .i64 m.series, .int .i64 m.samples, .slice af 2 cf, .slice ao k co] 63 (0, 0)) := nx
      have cp := cells_at np
      have lp := lt_of_at np
      by_cases hlt : k < n
      · have g1 : (k : Int) < (sn : Int) := by omega
        have g2 : (k : Int) < 9 := by omega
        have hk9 : k ≤ 8 := by omega
        have H := Lib.hid (And.intro nx2 (And.intro np (And.intro nr (And.intro hrow (And.intro hso hkw)))))
        clear hgk hSk nx nx2 np nr hrow hso hkw HC hn
        go_wp2_with fail
        refine (Hmk0.out _ k (by omega)).mono ?_
        rintro e w3 ⟨rfl, hk3⟩
        obtain ⟨ids, hids⟩ : ∃ s : ByteArray, s = identB 0 k := ⟨_, rfl⟩
        rw [← hids]
        clear cp lp hids
        have nx3 := hk3.at_ H.out.1 (by simp)
        have cx := cells_at nx3
        have lx := lt_of_at nx3
        have H3 := Lib.hid (And.intro nx3 (And.intro (hk3.at_ H.out.2.1 (by simp)) (And.intro (hk3.at_ H.out.2.2.1 (by simp)) (And.intro (hk3.row H.out.2.2.2.1 (by simp)) (And.intro (hk3.row H.out.2.2.2.2.1 (by simp)) (H.out.2.2.2.2.2.trans hk3))))))
        have hwz := H3.out.2.2.2.2.2.size
        clear nx3 hk3 H
        go_upto_region 8 with (at_builtin; refine wpList_append_own _ rfl (.tmp 73) (.tmp 75) 25 rfl (w.heap.size) 9 is _ 1 16 Tryz.underlying25 his hzs0 hzs1 hzs2 rfl (by decide) (.slice ao k co) k S rfl (H3.out.2.2.2.2.1.alloc _) ⟨w3.heap.size, 0, none⟩ 1 1 [.string ids] rfl rfl (news_of (heap_new w3 _)) (by simp [Value.oneCell']) (by simp only [maxLen]; omega) (by omega) (by simp; omega) ?_; intro v8 w8 hown8 hgrow8 hnil; clear hnil; obtain ⟨ao8, cp8, hv8, -, -, -⟩ := row_slice hown8; subst hv8; have nx8 := (keeps_rowM hgrow8).at_ (heap_old H3.out.1 _) (row_ne_typeM H3.out.2.2.2.2.1 H3.out.1 (by decide)); have cx8 := cells_at nx8; have fx8 := free_at nx8; have lx8 := lt_of_at nx8; have H8a := Lib.hid (And.intro hown8 (And.intro hgrow8 nx8)); clear hown8 hgrow8 nx8 cx lx)
        clear cx8 fx8 lx8
        have hboxw := heap_cell_same (i := 7) H8a.out.2.2 (.slice ao8 (k + 1) cp8)
        have k89 : Keeps [xb] w8 (w8.setCell ⟨xb, 7, none⟩ (.slice ao8 (k + 1) cp8)) := (Keeps.refl [xb] w8).setCell (.inl (by simp)) _
        have kb := keeps_rowM H8a.out.2.1
        have hrowa := H3.out.2.2.2.2.1.alloc (.cells #[.string ids] 9)
        have hfil := H3.out.2.2.2.1.alloc (.cells #[.string ids] 9)
        have np9 := k89.at_ (kb.at_ (heap_old H3.out.2.1 (.cells #[.string ids] 9)) (row_ne_typeM hrowa (heap_old H3.out.2.1 _) (by decide))) (by simp; omega)
        have nr9 := k89.at_ (kb.at_ (heap_old H3.out.2.2.1 (.cells #[.string ids] 9)) (row_ne_typeM hrowa (heap_old H3.out.2.2.1 _) (by decide))) (by simp; omega)
        have hfil8 := kb.row hfil (rows_neM hrowa hfil (by decide))
        have hfil9 := k89.row hfil8 (fun g hg => by have := row_ne_type hfil8 H8a.out.2.2 (by decide) g hg; simpa using this)
        have hrow9 := k89.row H8a.out.1 (fun g hg => by have := row_ne_type H8a.out.1 H8a.out.2.2 (by decide) g hg; simpa using this)
        have hk9w : Keeps [] w (w8.setCell ⟨xb, 7, none⟩ (.slice ao8 (k + 1) cp8)) := (keeps_grownM (H3.out.2.2.2.2.2.alloc _) H8a.out.2.1 (fun g hg => (World.ownsRow.lt H3.out.2.2.2.2.1 g hg).1)).after k89 (fun x hx => .inr (by simp only [List.mem_singleton] at hx; omega))
        have H9 := Lib.hid (And.intro hrow9 (And.intro hboxw (And.intro np9 (And.intro nr9 (And.intro hfil9 hk9w)))))
        clear hboxw k89 kb hrowa hfil np9 nr9 hfil8 hfil9 hrow9 hk9w H8a H3
        generalize (w8.setCell ⟨xb, 7, none⟩ (.slice ao8 (k + 1) cp8)) = W9 at H9 ⊢
        go_wp2_with fail
        go_roundg (n - (k + 1))
        case measure => have := Hg.out; omega
        case rel => exact ⟨k + 1, S ++ [.string ids], .slice ao8 (k + 1) cp8, by omega, rfl, by go_num, by simp [HSk.out], H9.out.1, .slice af 2 cf, by simpa [madeVs] using H9.out.2.1, H9.out.2.2⟩
      · have hkn : k = n := by omega
        have cx := cells_at nx2
        have lx := lt_of_at nx2
        have cr := cells_at nr
        have fr := free_at nr
        have lr := lt_of_at nr
        have se := set8 (v0 := .string m.id) (v1 := .int .i64 m.mn) (v2 := .int .i64 m.mx) (v3 := .int .i64 m.level) (v4 := .int .i64 m.series) (v5 := .int .i64 m.samples) (v6 := .slice af 2 cf) (v7 := .slice ao k co) nr
        have hfilF := se.2.row hrow (fun g hg => by have := row_ne_type hrow nr (by decide) g hg; simpa using this)
        have hkwF := hkw.after se.2 (fun x hx => .inr (by simp only [List.mem_singleton] at hx; omega))
        have hcF := cells_at se.1
        have hlF := lt_of_at se.1
        have HF := Lib.hid (And.intro hfilF (And.intro hkwF (And.intro hcF hlF)))
        by_cases hs : sn ≤ 9
        · have g1 : ¬ (k : Int) < (sn : Int) := by omega
          clear se hfilF hkwF hcF hlF nx nx2 np nr hrow hkw HC hso hgk hSk hn hkn
          go_wp2_with fail
          have hc := HF.out.2.2.1
          have hl := HF.out.2.2.2
          refine bodyPost_ret (v := .agg (madeVs m (.slice af 2 cf) (.slice ao k co))) ?_ rfl ⟨.slice af 2 cf, ao, k, co, rfl, HF.out.1, HF.out.2.1⟩
          simp [results, Tryz.results35, go_sem, hc, hl, madeVs]
        · have g1 : (k : Int) < (sn : Int) := by omega
          have g2 : ¬ (k : Int) < 9 := by omega
          clear se hfilF hkwF hcF hlF nx nx2 np nr hrow hkw HC hso hgk hSk hn hkn
          go_wp2_with fail
          have hc := HF.out.2.2.1
          have hl := HF.out.2.2.2
          refine bodyPost_ret (v := .agg (madeVs m (.slice af 2 cf) (.slice ao k co))) ?_ rfl ⟨.slice af 2 cf, ao, k, co, rfl, HF.out.1, HF.out.2.1⟩
          simp [results, Tryz.results35, go_sem, hc, hl, madeVs]
end Go.Proofs.YtjffdcflkkgpfaaGreat
