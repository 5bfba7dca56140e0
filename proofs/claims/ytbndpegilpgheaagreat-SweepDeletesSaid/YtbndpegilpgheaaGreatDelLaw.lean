/-
  What a sweeper's steps take away (plain): it was marked for long, or never became a block; meta first, mark last.
  No condition beyond those that each theorem states.
-/
import Derived.Test.YtbndpegilpgheaaGreatSweepStepD
import Derived.Test.YtbndpegilpgheaaGreatSweepFill
namespace Go.Proofs.YtbndpegilpgheaaGreat
open Go Go.RowKit

/-! ## Keys -/
theorem mem_put_keys {α : Type} {o : List (ByteArray × α)} {n m : ByteArray} {v : α} : m ∈ (put o n v).map (·.1) ↔ m = n ∨ m ∈ o.map (·.1) := by
  have e : ∀ o' : List (ByteArray × α), m ∈ o'.map (·.1) ↔ look o' m ≠ none := fun o' => by rw [Ne, look_none_iff, Classical.not_not]
  rw [e, e, look_put]
  by_cases h : m = n
  · simp [h]
  · simp [h]

theorem mem_del_keys {o : Bkt} (h : (o.map (·.1)).Nodup) {n x : ByteArray} : n ∈ (del o x).map (·.1) ↔ n ∈ o.map (·.1) ∧ n ≠ x := by
  have := mem_delAll h (V := [x]) (n := n)
  simpa [delAll] using this

theorem filter_one {x : ByteArray} : ∀ {l : List ByteArray}, l.Nodup → (l.filter fun n => decide (n = x)).length = if x ∈ l then 1 else 0
  | [], _ => by simp
  | a :: l, h => by
    rw [List.nodup_cons] at h
    have ih := filter_one (x := x) h.2
    by_cases e : a = x
    · subst e
      rw [if_neg h.1] at ih
      simp [ih]
    · have e2 : ¬ x = a := fun h => e h.symm
      simp [e, e2, ih]

/-- How many names of the one are not in the other. -/
def cntK (o o' : Bkt) : Nat := ((o.map (·.1)).filter fun n => decide (n ∉ o'.map (·.1))).length

theorem cntK_same (o : Bkt) : cntK o o = 0 := by
  unfold cntK
  rw [List.length_eq_zero_iff, List.filter_eq_nil_iff]
  intro n hn
  simpa using List.mem_map.1 hn

theorem cntK_del {o : Bkt} (h : (o.map (·.1)).Nodup) (x : ByteArray) : cntK o (del o x) = if x ∈ o.map (·.1) then 1 else 0 := by
  rw [← filter_one h]
  unfold cntK
  congr 1
  apply List.filter_congr
  intro n hn
  rw [decide_eq_decide, mem_del_keys h]
  constructor
  · intro h2
    exact Classical.byContradiction fun h3 => h2 ⟨hn, h3⟩
  · intro h2 h3
    exact h3.2 h2

theorem del_len {o : Bkt} (h : (o.map (·.1)).Nodup) (x : ByteArray) : (del o x).length ≤ o.length ∧ o.length ≤ (del o x).length + cntK o (del o x) := by
  have h1 := delAll_len o [x]
  have e : delAll o [x] = del o x := rfl
  rw [e] at h1
  refine ⟨h1, ?_⟩
  rw [cntK_del h]
  have key : ∀ n ∈ o.map (·.1), n ∈ x :: (del o x).map (·.1) := by
    intro n hn
    by_cases e : n = x
    · simp [e]
    · exact List.mem_cons_of_mem _ ((mem_del_keys h).2 ⟨hn, e⟩)
  split
  · have := nodup_len h key
    simpa using this
  · rename_i hx
    have key2 : ∀ n ∈ o.map (·.1), n ∈ (del o x).map (·.1) := fun n hn => (mem_del_keys h).2 ⟨hn, fun e => hx (e ▸ hn)⟩
    have := nodup_len h key2
    simpa using this

/-! ## May an object go? -/
def hasO (o : Bkt) (id p : ByteArray) : Bool := (look o (objectB id p)).isSome

def mayI (d g now : Int) (o : Bkt) (H : PartsM) (id part : ByteArray) : Bool :=
  if (part ≠ metaB ∧ hasO o id metaB = true) ∨ (part = chunksB ∧ hasO o id indexB = true) ∨ (part = markB ∧ (hasO o id indexB = true ∨ hasO o id chunksB = true)) then false else
  match markIn o id with
  | some t => decide (d < now - t)
  | none => !(hasO o id metaB) && decide (g < now - (look H id).getD 0)

def mayB (d g now : Int) (o : Bkt) (H : PartsM) (n : ByteArray) : Bool :=
  match splitL n.data.toList with
  | none => false
  | some (a, b) => mayI d g now o H ⟨a.toArray⟩ ⟨b.toArray⟩

/-! ## The steps -/
def againZ (Z : SweepS) : SweepS := ⟨Z.cfg, scan0, [], false, Z.gone⟩

/-- One call of a sweeper (behind an idle one it begins again), in plain words: the error, the sweeper, the objects. -/
inductive DStep (now : Int) (Q : List (Int × Bool)) (o : Bkt) (Z : SweepS) : Int → SweepS → Bkt → Prop
  | idle (hr : Z.ready = true) (hl : Z.left = []) : DStep now Q o Z 17 (againZ Z) o
  | stale (hr : Z.ready = false) : DStep now Q o Z 14 (againZ Z) o
  | start (hr : Z.ready = false) (hb : Z.scan.begun = false) : DStep now Q o Z (ioErr Q) (readyZ Z (scanOf Q now (listing o ⟨#[]⟩) Z.scan)) o
  | get (x : ByteArray) (r : List ByteArray) (hr : Z.ready = false) (hb : Z.scan.begun = true) (hw : Z.scan.wait = x :: r) : DStep now Q o Z (gotErr (getVal Q o x)) (readyZ Z (gotOf (getVal Q o x) x r Z.scan)) o
  | del (x : ByteArray) (r : List ByteArray) (hr : Z.ready = true) (hl : Z.left = x :: r) : DStep now Q o Z (ioErr Q) (goneZ Q Z r) (chg Q o (del o x))

/-! ## What holds between the steps -/
def Named (n : ByteArray) : Prop := ∃ id part, isIDB id.data.toList = true ∧ part ∈ partsB ∧ n = objectB id part

structure ObjOk (now : Int) (p : ByteArray × Ob) : Prop where
  name : Named p.1
  at0 : 0 ≤ p.2.2
  at1 : p.2.2 ≤ now
  small : p.2.1.size ≤ 1000
  mark : ∀ id t, p.1 = objectB id markB → markSays id p.2.1 = some t → 0 ≤ t ∧ t ≤ 31

def Old (i : Nat) (n : ByteArray) : Prop := ∀ id part, isIDB id.data.toList = true → part ∈ partsB → n = objectB id part → ∀ t j : Nat, t < 1099511627776 → i ≤ j → j < 1000 → id ≠ idN t (100 + j)

def Noted (H : PartsM) (L : Bkt) : Prop := ∀ id part, isIDB id.data.toList = true → part ∈ partsB → ∀ x, look L (objectB id part) = some x → ∃ h, look H id = some h ∧ h ≤ x.2

structure BInv (i : Nat) (now : Int) (o : Bkt) : Prop where
  nodup : (o.map (·.1)).Nodup
  obj : ∀ p ∈ o, ObjOk now p
  old : ∀ p ∈ o, Old i p.1
  len : o.length ≤ 15 + i

structure SInv (o : Bkt) (S : ScanS) (H : PartsM) : Prop where
  un : S.begun = false → S = scan0
  agree : ∀ n x y, look S.infos n = some x → look o n = some y → x = y
  ahead : ∀ id pa pb, isIDB id.data.toList = true → pa ∈ partsB → pb ∈ partsB → objectB id pa ∈ S.infos.map (·.1) → objectB id pb ∈ o.map (·.1) → objectB id pb ∈ S.infos.map (·.1)
  noted : Noted H S.infos
  gotIn : ∀ n d, look S.got n = some d → ∃ x, look S.infos n = some x ∧ x.1 = d
  gotNd : (S.got.map (·.1)).Nodup
  waits : ∀ n x, look S.infos n = some x → isWait n = true → n ∈ S.wait ∨ look S.got n = some x.1
  waitIn : ∀ n ∈ S.wait, n ∈ S.infos.map (·.1)

def lostK (l : List ByteArray) (o : Bkt) : Int := match l with | [] => 0 | x :: _ => if x ∈ o.map (·.1) then 0 else 1

def victS (cfg : Int × Int × Int) (S : ScanS) : List ByteArray := victimsL cfg.1 cfg.2.1 S.tick S.infos (markOf S.got)

structure DInv (cfg : Int × Int × Int) (i : Nat) (now : Int) (o : Bkt) (Z : SweepS) (H : PartsM) (g : Int) : Prop where
  ecfg : Z.cfg = cfg
  b : BInv i now o
  c : BInv i now Z.scan.infos
  tick : Z.scan.begun = true → 0 ≤ Z.scan.tick ∧ Z.scan.tick ≤ now
  s : SInv o Z.scan H
  hb : ∀ id h, look H id = some h → 0 ≤ h ∧ h ≤ now
  scan : Z.ready = false → Z.left = [] ∧ (∀ n ∈ Z.scan.infos.map (·.1), n ∈ o.map (·.1)) ∧ (Z.scan.begun = true → Z.scan.wait ≠ []) ∧ Z.gone ≤ g
  swp : Z.ready = true → Z.scan.begun = true ∧ Z.scan.wait = [] ∧ (∃ k, Z.left = (victS cfg Z.scan).drop k ∧ ∀ x ∈ (victS cfg Z.scan).take k, x ∉ o.map (·.1)) ∧ (∀ x ∈ Z.left.tail, x ∈ o.map (·.1)) ∧ Z.gone + lostK Z.left o ≤ g
  gone0 : 0 ≤ Z.gone


theorem look_in {α : Type} {o : List (ByteArray × α)} (h : (o.map (·.1)).Nodup) {p : ByteArray × α} (hp : p ∈ o) : look o p.1 = some p.2 := look_of_mem h hp

theorem mem_of_look {o : Bkt} {n : ByteArray} {x : Ob} (h : look o n = some x) : n ∈ o.map (·.1) := List.mem_map.2 ⟨_, look_mem h, rfl⟩

theorem vict_in {cfg : Int × Int × Int} {S : ScanS} (h : (S.infos.map (·.1)).Nodup) {n : ByteArray} (hn : n ∈ victS cfg S) : n ∈ S.infos.map (·.1) := by
  obtain ⟨_, _, _, _, _, hl, _⟩ := (mem_victims h).1 hn
  exact mem_of_isSome hl

theorem SInv.zero (o : Bkt) (H : PartsM) : SInv o scan0 H := by
  refine ⟨fun _ => rfl, ?_, ?_, ?_, ?_, ?_, ?_, ?_⟩ <;> simp [scan0, Noted, look]

theorem BInv.zero (i : Nat) (now : Int) : BInv i now [] := ⟨by simp, by simp, by simp, by simp⟩


theorem DInv.again {cfg : Int × Int × Int} {i : Nat} {now : Int} {o : Bkt} {Z : SweepS} {H : PartsM} {g : Int} (h : DInv cfg i now o Z H g) (hg : Z.gone ≤ g) : DInv cfg i now o (againZ Z) H g :=
  ⟨h.ecfg, h.b, BInv.zero _ _, fun e => (by cases e), SInv.zero _ _, h.hb, fun _ => ⟨rfl, fun n hn => (by cases hn), fun e => (by cases e), hg⟩, fun e => (by cases e), h.gone0⟩

theorem DInv.goneLe {cfg : Int × Int × Int} {i : Nat} {now : Int} {o : Bkt} {Z : SweepS} {H : PartsM} {g : Int} (h : DInv cfg i now o Z H g) : Z.gone ≤ g := by
  cases hr : Z.ready with
  | false => exact (h.scan hr).2.2.2
  | true =>
    have := (h.swp hr).2.2.2.2
    have h0 : 0 ≤ lostK Z.left o := by
      unfold lostK
      split
      · omega
      · split <;> omega
    omega

/-- What a scan's step makes of a sweeper. -/
theorem DInv.ready {cfg : Int × Int × Int} {i : Nat} {now : Int} {o : Bkt} {Z : SweepS} {H : PartsM} {g : Int} (h : DInv cfg i now o Z H g) (hr : Z.ready = false) {S : ScanS} (hS : SInv o S H) (hc : BInv i now S.infos) (ht : S.begun = true → 0 ≤ S.tick ∧ S.tick ≤ now)
    (hin : ∀ n ∈ S.infos.map (·.1), n ∈ o.map (·.1)) : DInv cfg i now o (readyZ Z S) H g := by
  obtain ⟨h1, _, _, h4⟩ := h.scan hr
  unfold readyZ
  split
  · rename_i hd
    rw [h.ecfg]
    refine ⟨rfl, h.b, hc, ht, hS, h.hb, (fun e => by cases e), fun _ => ⟨hd.1, hd.2, ⟨0, rfl, by simp⟩, fun x hx => hin _ (vict_in hc.nodup (List.mem_of_mem_tail hx)), ?_⟩, h.gone0⟩
    show Z.gone + lostK (victS cfg S) o ≤ g
    have : lostK (victS cfg S) o = 0 := by
      unfold lostK
      split
      · rfl
      · rename_i x r e
        rw [if_pos (hin _ (vict_in hc.nodup (cfg := cfg) (by rw [e]; simp)))]
    omega
  · rename_i hd
    exact ⟨h.ecfg, h.b, hc, ht, hS, h.hb, fun _ => ⟨h1, hin, fun hb hw => hd ⟨hb, hw⟩, h4⟩, (fun e => by cases e), h.gone0⟩

theorem listing_binv {i : Nat} {now : Int} {o : Bkt} (h : BInv i now o) : BInv i now (listing o ⟨#[]⟩) :=
  ⟨listing_nodup h.nodup, fun p hp => h.obj p (listing_of hp), fun p hp => h.old p (listing_of hp), by rw [listing_len]; exact h.len⟩

/-- A scan that begins. -/
theorem SInv.start {i : Nat} {now : Int} {o : Bkt} {H : PartsM} (hb : BInv i now o) (hn : Noted H o) : SInv o ⟨true, now, listing o ⟨#[]⟩, waitOf (listing o ⟨#[]⟩), []⟩ H := by
  refine ⟨fun e => (by cases e), fun n x y hx hy => ?_, fun id pa pb _ _ _ _ h => listing_mem.2 h, fun id part hi hp x hx => ?_, fun n d hd => ?_, by simp, fun n x hx hw => ?_, fun n hn => ?_⟩
  · simp only [listing_look hb.nodup] at hx
    rw [hx] at hy
    injection hy
  · rw [listing_look hb.nodup] at hx
    exact hn id part hi hp x hx
  · simp [look] at hd
  · left
    exact List.mem_filter.2 ⟨mem_of_look hx, hw⟩
  · exact (List.mem_filter.1 hn).1

/-- A scan that gets. -/
theorem SInv.get {o : Bkt} {S : ScanS} {H : PartsM} (h : SInv o S H) {x : ByteArray} {r : List ByteArray} (hw : S.wait = x :: r) {y : Ob} (hy : look o x = some y) (hb : S.begun = true) : SInv o ⟨S.begun, S.tick, S.infos, r, put S.got x y.1⟩ H := by
  have hx : x ∈ S.infos.map (·.1) := h.waitIn x (by rw [hw]; simp)
  obtain ⟨z, hz⟩ := look_isSome hx
  have hzy := h.agree x z y hz hy
  subst hzy
  refine ⟨fun e => (by rw [hb] at e; cases e), h.agree, h.ahead, h.noted, fun n d hd => ?_, put_nodup h.gotNd _ _, fun n u hu hwt => ?_, fun n hn => h.waitIn n (by rw [hw]; exact List.mem_cons_of_mem _ hn)⟩
  · rw [look_put] at hd
    split at hd
    · rename_i e
      subst e
      injection hd with hd
      exact ⟨z, hz, hd⟩
    · exact h.gotIn n d hd
  · have hu' : look S.infos n = some u := hu
    show n ∈ r ∨ look (put S.got x z.1) n = some u.1
    rw [look_put]
    by_cases e : n = x
    · subst e
      rw [hz] at hu'
      injection hu' with hu'
      rw [if_pos rfl, hu']
      exact .inr rfl
    · rw [if_neg e]
      rcases h.waits n u hu' hwt with h1 | h1
      · rw [hw] at h1
        rcases List.mem_cons.1 h1 with h2 | h2
        · exact absurd h2 e
        · exact .inl h2
      · exact .inr h1

/-! ## What goes -/
theorem rankP_inj {a b : ByteArray} (ha : a ∈ partsB) (hb : b ∈ partsB) (h : rankP a = rankP b) : a = b := by
  unfold partsB at ha hb
  simp only [List.mem_cons, List.not_mem_nil, or_false] at ha hb
  rcases ha with rfl | rfl | rfl | rfl <;> rcases hb with rfl | rfl | rfl | rfl <;> first | rfl | exact absurd h (by decide)

theorem rankP_le {p : ByteArray} : rankP p ≤ 3 := by
  unfold rankP
  repeat' split
  all_goals omega

theorem isWait_mark' {id : ByteArray} (h : isIDB id.data.toList = true) : isWait (objectB id markB) = true := isWait_mark h

theorem DInv.may {cfg : Int × Int × Int} {i : Nat} {now : Int} {o : Bkt} {Z : SweepS} {H : PartsM} {g : Int} (h : DInv cfg i now o Z H g) (hr : Z.ready = true) {x : ByteArray} {r : List ByteArray} (hl : Z.left = x :: r) (hx : x ∈ o.map (·.1)) : mayB cfg.1 cfg.2.1 now o H x = true := by
  obtain ⟨hbg, hw, ⟨k, hk, hgone⟩, htail, _⟩ := h.swp hr
  rw [hl] at hk htail
  simp only [List.tail_cons] at htail
  have hnd := h.c.nodup
  have hxV : x ∈ victS cfg Z.scan := List.mem_of_mem_drop (i := k) (by rw [← hk]; simp)
  obtain ⟨id, part, hi, hp, hxn, hxl, hgo⟩ := (mem_victims hnd).1 hxV
  have hord : (victS cfg Z.scan).Pairwise Ahead := victims_order hnd
  have hordD := hord.drop (i := k)
  rw [← hk, List.pairwise_cons] at hordD
  have hordT := hord
  rw [← List.take_append_drop k (victS cfg Z.scan), List.pairwise_append] at hordT
  have hinV : ∀ p ∈ partsB, objectB id p ∈ Z.scan.infos.map (·.1) → objectB id p ∈ victS cfg Z.scan := fun p hp' hm => (mem_victims hnd).2 ⟨id, p, hi, hp', rfl, isSome_of_mem hm, hgo⟩
  have hinO : ∀ p ∈ partsB, objectB id p ∈ o.map (·.1) → objectB id p ∈ Z.scan.infos.map (·.1) := fun p hp' hm => h.s.ahead id part p hi hp hp' (by rw [← hxn]; exact mem_of_isSome hxl) hm
  have hrank : ∀ p ∈ partsB, objectB id p ∈ o.map (·.1) → rankP part ≤ rankP p := by
    intro p hp' hm
    have hv := hinV p hp' (hinO p hp' hm)
    rw [← List.take_append_drop k (victS cfg Z.scan)] at hv
    rcases List.mem_append.1 hv with h1 | h1
    · exact absurd hm (hgone _ h1)
    · rw [← hk] at h1
      rcases List.mem_cons.1 h1 with h2 | h2
      · rw [hxn] at h2
        rw [(object_inj hi hp' hi hp h2).2]
        exact Nat.le_refl _
      · exact Nat.le_of_lt (hordD.1 _ h2 id part p hi hp hp' hxn rfl)
  have hmarkIn : objectB id markB ∈ Z.scan.infos.map (·.1) → objectB id markB ∈ o.map (·.1) := by
    intro hm
    have hv := hinV markB mark_part hm
    have hv0 := hv
    rw [← List.take_append_drop k (victS cfg Z.scan)] at hv
    rcases List.mem_append.1 hv with h1 | h1
    · have := hordT.2.2 _ h1 x (by rw [← hk]; simp) id markB part hi mark_part hp rfl hxn
      have h3 : rankP markB = 3 := by decide
      have := rankP_le (p := part)
      omega
    · rw [← hk] at h1
      rcases List.mem_cons.1 h1 with h2 | h2
      · rw [h2]; exact hx
      · exact htail _ h2
  have hhas : ∀ p, hasO o id p = true ↔ objectB id p ∈ o.map (·.1) := fun p => ⟨fun e => mem_of_isSome e, fun e => isSome_of_mem e⟩
  have hspl : splitL x.data.toList = some (id.data.toList, part.data.toList) := by rw [hxn]; exact object_split hi hp
  have r0 : rankP metaB = 0 := by decide
  have r1 : rankP indexB = 1 := by decide
  have r2 : rankP chunksB = 2 := by decide
  have r3 : rankP markB = 3 := by decide
  have pm : metaB ∈ partsB := by simp [partsB]
  have px : indexB ∈ partsB := by simp [partsB]
  have pc : chunksB ∈ partsB := by simp [partsB]
  unfold mayB
  rw [hspl]
  simp only [ba_mk]
  unfold mayI
  rw [if_neg (by
    rintro (⟨h1, h2⟩ | ⟨h1, h2⟩ | ⟨h1, h2 | h2⟩)
    · have := hrank _ pm ((hhas _).1 h2)
      exact h1 (rankP_inj hp pm (by omega))
    · have := hrank _ px ((hhas _).1 h2)
      rw [h1] at this
      omega
    · have := hrank _ px ((hhas _).1 h2)
      rw [h1] at this
      omega
    · have := hrank _ pc ((hhas _).1 h2)
      rw [h1] at this
      omega)]
  have htick := h.tick hbg
  have hall : ∀ n y, look Z.scan.infos n = some y → isWait n = true → look Z.scan.got n = some y.1 := by
    intro n y hy hwt
    rcases h.s.waits n y hy hwt with h1 | h1
    · rw [hw] at h1; cases h1
    · exact h1
  cases hm : markIn o id with
  | some t =>
    simp only
    unfold markIn at hm
    cases hlo : look o (objectB id markB) with
    | none => rw [hlo] at hm; cases hm
    | some y =>
      rw [hlo] at hm
      obtain ⟨z, hz⟩ := look_isSome (hinO markB mark_part (mem_of_look hlo))
      have hzy := h.s.agree _ z y hz hlo
      subst hzy
      have hg := hall _ _ hz (isWait_mark hi)
      have hmo : markOf Z.scan.got id = some t := by
        unfold markOf
        rw [hg]
        exact hm
      rw [hmo] at hgo
      unfold goesB at hgo
      simp only [decide_eq_true_eq] at hgo ⊢
      omega
  | none =>
    simp only
    have hmo : markOf Z.scan.got id = none := by
      cases hmo : markOf Z.scan.got id with
      | none => rfl
      | some t =>
        exfalso
        unfold markOf at hmo
        cases hlg : look Z.scan.got (objectB id markB) with
        | none => rw [hlg] at hmo; cases hmo
        | some dd =>
          rw [hlg] at hmo
          obtain ⟨y, hy, hyd⟩ := h.s.gotIn _ _ hlg
          obtain ⟨z, hz⟩ := look_isSome (hmarkIn (mem_of_look hy))
          have hyz := h.s.agree _ y z hy hz
          subst hyz
          unfold markIn at hm
          rw [hz] at hm
          simp only [Option.bind_some] at hm hmo
          rw [hyd, hmo] at hm
          cases hm
    rw [hmo] at hgo
    unfold goesB at hgo
    simp only [Bool.and_eq_true, decide_eq_true_eq] at hgo
    obtain ⟨hg1, hg2⟩ := hgo
    have inv := blocks_inv hnd
    have hnm : hasO o id metaB = false := by
      cases hc : hasO o id metaB with
      | false => rfl
      | true =>
        exfalso
        have h1 := hinO metaB pm ((hhas _).1 hc)
        obtain ⟨y, hy⟩ := look_isSome h1
        have h2 := inv.says id metaB
        rw [if_pos ⟨hi, isPart_mem.2 pm⟩, hy] at h2
        unfold blkOf at hg1
        rw [h2] at hg1
        cases hg1
    rw [hnm]
    simp only [Bool.not_false, Bool.true_and, decide_eq_true_eq]
    have hbne : ((blkOf Z.scan.infos id).map (·.2)) ≠ [] := by
      intro e
      have h2 := inv.says id part
      rw [if_pos ⟨hi, isPart_mem.2 hp⟩] at h2
      unfold blkOf at e
      rw [List.map_eq_nil_iff] at e
      rw [e, ← hxn] at h2
      obtain ⟨y, hy⟩ := Option.isSome_iff_exists.1 hxl
      rw [hy] at h2
      simp [look] at h2
    have hmem := leastL_mem hbne
    obtain ⟨q, hq, hq2⟩ := List.mem_map.1 hmem
    have hbk : look (blocksOf Z.scan.infos) id = some (blkOf Z.scan.infos id) := by
      unfold blkOf at hq ⊢
      cases hc : look (blocksOf Z.scan.infos) id with
      | none => rw [hc] at hq; cases hq
      | some m => rfl
    have hkeys := inv.keys _ (look_mem hbk)
    simp only at hkeys
    have hq1 := hkeys.2 q hq
    have hlq : look (blkOf Z.scan.infos id) q.1 = some q.2 := look_in hkeys.1 hq
    have h2 := inv.says id q.1
    rw [if_pos ⟨hi, isPart_mem.2 hq1⟩] at h2
    unfold blkOf at hlq
    rw [hlq] at h2
    cases hli : look Z.scan.infos (objectB id q.1) with
    | none => rw [hli] at h2; cases h2
    | some y =>
      rw [hli] at h2
      simp only [Option.map_some, Option.some.injEq] at h2
      obtain ⟨hh, hh1, hh2⟩ := h.s.noted id q.1 hi hq1 y hli
      rw [hh1, Option.getD_some]
      omega

/-! ## One step -/
theorem DInv.step {cfg : Int × Int × Int} {i : Nat} {now : Int} {o o' : Bkt} {Z Z' : SweepS} {H : PartsM} {g err : Int} {Q : List (Int × Bool)} (h : DInv cfg i now o Z H g) (hn : Noted H o) (hnow : 0 ≤ now) (st : DStep now Q o Z err Z' o') :
    DInv cfg i now o' Z' H (g + cntK o o') ∧ (∀ n ∈ o.map (·.1), n ∉ o'.map (·.1) → mayB cfg.1 cfg.2.1 now o H n = true) ∧ o'.length ≤ o.length ∧ o.length ≤ o'.length + cntK o o' := by
  have same : ∀ {Y : SweepS}, DInv cfg i now o Y H g → DInv cfg i now o Y H (g + cntK o o) ∧ (∀ n ∈ o.map (·.1), n ∉ o.map (·.1) → mayB cfg.1 cfg.2.1 now o H n = true) ∧ o.length ≤ o.length ∧ o.length ≤ o.length + cntK o o := by
    intro Y hY
    rw [cntK_same]
    refine ⟨by simpa using hY, fun n h1 h2 => absurd h1 h2, Nat.le_refl _, Nat.le_refl _⟩
  cases st with
  | idle hr hl => exact same (h.again h.goneLe)
  | stale hr => exact same (h.again h.goneLe)
  | start hr hb =>
    refine same (h.ready hr ?_ ?_ ?_ ?_)
    all_goals
      unfold scanOf
      split
    · rw [h.s.un hb]; exact SInv.start h.b hn
    · exact h.s
    · exact listing_binv h.b
    · exact h.c
    · exact fun _ => ⟨hnow, Int.le_refl _⟩
    · exact h.tick
    · exact fun n hm => listing_mem.1 hm
    · exact (h.scan hr).2.1
  | get x r hr hb hw =>
    have hxo := (h.scan hr).2.1 x (h.s.waitIn x (by rw [hw]; simp))
    obtain ⟨y, hy⟩ := look_isSome hxo
    have hg : gotOf (getVal Q o x) x r Z.scan = ⟨Z.scan.begun, Z.scan.tick, Z.scan.infos, r, put Z.scan.got x y.1⟩ ∨ gotOf (getVal Q o x) x r Z.scan = Z.scan := by
      unfold getVal
      rw [hy]
      split
      · left; rfl
      · right; rfl
    rcases hg with e | e
    · rw [e]
      exact same (h.ready hr (h.s.get hw hy hb) h.c h.tick (h.scan hr).2.1)
    · rw [e]
      exact same (h.ready hr h.s h.c h.tick (h.scan hr).2.1)
  | del x r hr hl =>
    obtain ⟨hbg, hw, ⟨k, hk, hgone⟩, htail, hcnt⟩ := h.swp hr
    rw [hl] at hk htail hcnt
    simp only [List.tail_cons] at htail
    have hVn : (victS cfg Z.scan).Nodup := victims_nodup h.c.nodup
    have hdn : (x :: r).Nodup := by rw [hk]; exact List.Pairwise.drop hVn
    rw [List.nodup_cons] at hdn
    have hk2 : (victS cfg Z.scan).take (k + 1) = (victS cfg Z.scan).take k ++ [x] ∧ r = (victS cfg Z.scan).drop (k + 1) := by
      have hkl : k < (victS cfg Z.scan).length := by
        by_cases hc : k < (victS cfg Z.scan).length
        · exact hc
        · rw [List.drop_eq_nil_iff.2 (by omega)] at hk
          cases hk
      have h2 := List.drop_eq_getElem_cons hkl
      rw [← hk, List.cons.injEq] at h2
      exact ⟨by rw [List.take_succ_eq_append_getElem hkl, h2.1], h2.2⟩
    have hmay : ∀ o'' : Bkt, (∀ n, n ∈ o''.map (·.1) ↔ n ∈ o.map (·.1) ∧ n ≠ x) → ∀ n ∈ o.map (·.1), n ∉ o''.map (·.1) → mayB cfg.1 cfg.2.1 now o H n = true := by
      intro o'' hk n h1 h2
      have e : n = x := Classical.byContradiction fun e => h2 ((hk n).2 ⟨h1, e⟩)
      subst e
      exact h.may hr hl h1
    have hs' : SInv (del o x) Z.scan H := by
      refine ⟨h.s.un, fun n u v hu hv => ?_, fun id pa pb a1 a2 a3 a4 a5 => h.s.ahead id pa pb a1 a2 a3 a4 ((mem_del_keys h.b.nodup).1 a5).1, h.s.noted, h.s.gotIn, h.s.gotNd, h.s.waits, h.s.waitIn⟩
      rw [look_del _ _ _ h.b.nodup] at hv
      split at hv
      · cases hv
      · exact h.s.agree n u v hu hv
    have hb' : BInv i now (del o x) := by
      have hsub : ∀ p ∈ del o x, p ∈ o := fun p hp => delAll_sub o [x] p hp
      exact ⟨del_nodup h.b.nodup x, fun p hp => h.b.obj p (hsub p hp), fun p hp => h.b.old p (hsub p hp), Nat.le_trans (del_len h.b.nodup x).1 h.b.len⟩
    have htl : ∀ y ∈ r, y ∈ (del o x).map (·.1) := fun y hy => (mem_del_keys h.b.nodup).2 ⟨htail y hy, fun e => hdn.1 (e ▸ hy)⟩
    have hlx : lostK (x :: r) o = 1 - cntK o (del o x) := by
      unfold lostK
      simp only
      rw [cntK_del h.b.nodup]
      split <;> simp
    cases hwk : tryWorks Q with
    | true =>
      have hd := tryDone_of Q hwk
      have e1 : goneZ Q Z r = ⟨Z.cfg, Z.scan, r, true, Z.gone + 1⟩ := by unfold goneZ; rw [if_pos hwk]
      have e2 : chg Q o (del o x) = del o x := by unfold chg; rw [if_pos hd]
      rw [e1, e2]
      refine ⟨⟨h.ecfg, hb', h.c, h.tick, hs', h.hb, (fun e => by cases e), fun _ => ⟨hbg, hw, ⟨k + 1, hk2.2, fun y hy => ?_⟩, fun y hy => htl y (List.mem_of_mem_tail hy), ?_⟩, by have := h.gone0; show 0 ≤ Z.gone + 1; omega⟩, hmay _ fun n => mem_del_keys h.b.nodup, del_len h.b.nodup x⟩
      · have hy' : y ∈ (victS cfg Z.scan).take (k + 1) := hy
        rw [hk2.1] at hy'
        intro hm
        have hm' := (mem_del_keys h.b.nodup).1 hm
        rcases List.mem_append.1 hy' with h1 | h1
        · exact hgone y h1 hm'.1
        · exact hm'.2 (by simpa using h1)
      · show Z.gone + 1 + lostK r (del o x) ≤ g + cntK o (del o x)
        have : lostK r (del o x) = 0 := by
          unfold lostK
          split
          · rfl
          · rw [if_pos (htl _ (by simp))]
        omega
    | false =>
      have e1 : goneZ Q Z r = Z := by unfold goneZ; rw [if_neg (by rw [hwk]; simp)]
      rw [e1]
      unfold chg
      split
      · refine ⟨⟨h.ecfg, hb', h.c, h.tick, hs', h.hb, (fun e => by rw [hr] at e; cases e), fun _ => ⟨hbg, hw, ⟨k, by rw [hl]; exact hk, fun y hy hm => hgone y hy ((mem_del_keys h.b.nodup).1 hm).1⟩, by rw [hl]; exact htl, ?_⟩, h.gone0⟩, hmay _ fun n => mem_del_keys h.b.nodup, del_len h.b.nodup x⟩
        rw [hl]
        have : lostK (x :: r) (del o x) = 1 := by
          unfold lostK
          simp only
          rw [if_neg (fun hm => ((mem_del_keys h.b.nodup).1 hm).2 rfl)]
        omega
      · exact same h

/-! ## Between the steps -/
theorem ObjOk.now {n n' : Int} {p : ByteArray × Ob} (h : ObjOk n p) (hn : n ≤ n') : ObjOk n' p := ⟨h.name, h.at0, Int.le_trans h.at1 hn, h.small, h.mark⟩

theorem BInv.now {i : Nat} {n n' : Int} {o : Bkt} (h : BInv i n o) (hn : n ≤ n') : BInv i n' o := ⟨h.nodup, fun p hp => (h.obj p hp).now hn, h.old, h.len⟩

theorem DInv.now {cfg : Int × Int × Int} {i : Nat} {n n' : Int} {o : Bkt} {Z : SweepS} {H : PartsM} {g : Int} (h : DInv cfg i n o Z H g) (hn : n ≤ n') : DInv cfg i n' o Z H g :=
  ⟨h.ecfg, h.b.now hn, h.c.now hn, fun e => ⟨(h.tick e).1, Int.le_trans (h.tick e).2 hn⟩, h.s, fun id t ht => ⟨(h.hb id t ht).1, Int.le_trans (h.hb id t ht).2 hn⟩, h.scan, h.swp, h.gone0⟩

/-- What note makes of the ticks that were seen. -/
structure NoteP (now : Int) (H : PartsM) (o : Bkt) (H' : PartsM) : Prop where
  keep : ∀ id t, look H id = some t → ∃ t', look H' id = some t' ∧ t' ≤ t
  noted : Noted H' o
  hb : ∀ id t, look H' id = some t → 0 ≤ t ∧ t ≤ now

theorem DInv.note {cfg : Int × Int × Int} {i : Nat} {now : Int} {o : Bkt} {Z : SweepS} {H H' : PartsM} {g : Int} (h : DInv cfg i now o Z H g) (hn : NoteP now H o H') : DInv cfg i now o Z H' g := by
  refine ⟨h.ecfg, h.b, h.c, h.tick, ⟨h.s.un, h.s.agree, h.s.ahead, fun id part hi hp x hx => ?_, h.s.gotIn, h.s.gotNd, h.s.waits, h.s.waitIn⟩, hn.hb, h.scan, h.swp, h.gone0⟩
  obtain ⟨t, h1, h2⟩ := h.s.noted id part hi hp x hx
  obtain ⟨t', h3, h4⟩ := hn.keep id t h1
  exact ⟨t', h3, by omega⟩

theorem Old.next {i : Nat} {n : ByteArray} (h : Old i n) : Old (i + 1) n := fun id part hi hp e t j ht hj hj2 => h id part hi hp e t j ht (by omega) hj2

theorem BInv.next {i : Nat} {now : Int} {o : Bkt} (h : BInv i now o) : BInv (i + 1) now o := ⟨h.nodup, h.obj, fun p hp => (h.old p hp).next, by have := h.len; omega⟩

theorem DInv.next {cfg : Int × Int × Int} {i : Nat} {now : Int} {o : Bkt} {Z : SweepS} {H : PartsM} {g : Int} (h : DInv cfg i now o Z H g) : DInv cfg (i + 1) now o Z H g :=
  ⟨h.ecfg, h.b.next, h.c.next, h.tick, h.s, h.hb, h.scan, h.swp, h.gone0⟩

theorem idN_inj {t s t' s' : Nat} (ht : t < 1099511627776) (hs : s < 1099511627776) (ht' : t' < 1099511627776) (hs' : s' < 1099511627776) (h : idN t s = idN t' s') : t = t' ∧ s = s' := by
  have h1 : identL t s = identL t' s' := by
    have := congrArg (fun b : ByteArray => b.data.toList) h
    simpa [idN] using this
  have h2 := parseL_ident ht hs
  rw [h1, parseL_ident ht' hs'] at h2
  simp only [Option.some.injEq, Prod.mk.injEq] at h2
  exact ⟨h2.1.symm, h2.2.symm⟩

/-- An object of a block that never was. -/
theorem DInv.put {cfg : Int × Int × Int} {i t : Nat} {now : Int} {o : Bkt} {Z : SweepS} {H : PartsM} {g : Int} (h : DInv cfg i now o Z H g) (hi : i < 900) (ht : t < 1099511627776) {part : ByteArray} (hp : part ∈ partsB) {v : Ob} (hv : ObjOk now (objectB (idN t (100 + i)) part, v)) :
    DInv cfg (i + 1) now (put o (objectB (idN t (100 + i)) part) v) Z H g := by
  have hid : isIDB (idN t (100 + i)).data.toList = true := idN_ok ht (by omega)
  have hnew : ∀ n, (∀ q ∈ n, Old i q.1) → objectB (idN t (100 + i)) part ∉ (n : Bkt).map (·.1) := by
    intro n hn hm
    obtain ⟨q, hq, e⟩ := List.mem_map.1 hm
    exact hn q hq _ _ hid hp e t i ht (Nat.le_refl _) (by omega) rfl
  have hno := hnew o h.b.old
  have hni := hnew Z.scan.infos h.c.old
  generalize hN : objectB (idN t (100 + i)) part = N at hv hno hni ⊢
  have hmk : ∀ n, n ∈ Z.scan.infos.map (·.1) → (n ∈ (Go.Proofs.YtbndpegilpgheaaGreat.put o N v).map (·.1) ↔ n ∈ o.map (·.1)) := fun n hm => by
    rw [mem_put_keys]
    exact ⟨fun hh => hh.resolve_left fun e => hni (e ▸ hm), .inr⟩
  refine ⟨h.ecfg, ⟨put_nodup h.b.nodup _ _, fun p hm => ?_, fun p hm => ?_, ?_⟩, h.c.next, h.tick, ⟨h.s.un, fun n x y hx hy => ?_, fun id pa pb a1 a2 a3 a4 a5 => ?_, h.s.noted, h.s.gotIn, h.s.gotNd, h.s.waits, h.s.waitIn⟩, h.hb, fun hr => ?_, fun hr => ?_, h.gone0⟩
  · rcases mem_put hm with rfl | hm
    · exact hv
    · exact h.b.obj p hm
  · rcases mem_put hm with rfl | hm
    · intro id' part' hi' hp' e t' j ht' hj hj2 e2
      subst e2
      have e3 := (object_inj hid hp hi' hp' (hN.trans e)).1
      have := (idN_inj ht (by omega) ht' (by omega) e3).2
      omega
    · exact (h.b.old p hm).next
  · have h1 := length_put N v o
    have h2 := h.b.len
    omega
  · have hx' : look Z.scan.infos n = some x := hx
    have hy' := hy
    rw [look_put, if_neg (fun (e : n = N) => hni (by rw [← e]; exact mem_of_look hx'))] at hy'
    exact h.s.agree n x y hx hy'
  · rcases mem_put_keys.1 a5 with e | hm
    · exfalso
      have e3 := (object_inj a1 a3 hid hp (e.trans hN.symm)).1
      obtain ⟨q, hq, e4⟩ := List.mem_map.1 a4
      exact h.c.old q hq id pa a1 a2 e4 t i ht (Nat.le_refl _) (by omega) e3
    · exact h.s.ahead id pa pb a1 a2 a3 a4 hm
  · obtain ⟨c1, c2, c3, c4⟩ := h.scan hr
    exact ⟨c1, fun n hm => mem_put_keys.2 (.inr (c2 n hm)), c3, c4⟩
  · obtain ⟨c1, c2, ⟨k, c3, c4⟩, c5, c6⟩ := h.swp hr
    refine ⟨c1, c2, ⟨k, c3, fun x hx => ?_⟩, fun x hx => mem_put_keys.2 (.inr (c5 x hx)), ?_⟩
    · rw [hmk x (vict_in h.c.nodup (List.mem_of_mem_take hx))]
      exact c4 x hx
    · have e : lostK Z.left (Go.Proofs.YtbndpegilpgheaaGreat.put o N v) = lostK Z.left o := by
        cases hl : Z.left with
        | nil => rfl
        | cons x r =>
          unfold lostK
          simp only
          have hx : x ∈ Z.scan.infos.map (·.1) := by
            refine vict_in h.c.nodup (cfg := cfg) (List.mem_of_mem_drop (i := k) ?_)
            rw [← c3, hl]
            simp
          simp only [hmk x hx]
      rw [e]
      exact c6

/-! ## The start -/
theorem fill_ids : ∀ L : List OneS, ∀ p ∈ (fillS L).1, ∃ a b part, a < 4 ∧ b < 4 ∧ part ∈ partsB ∧ p.1 = objectB (idN a b) part := by
  have key : ∀ (L : List OneS) (s : Bkt × PartsM), (∀ p ∈ s.1, ∃ a b part, a < 4 ∧ b < 4 ∧ part ∈ partsB ∧ p.1 = objectB (idN a b) part) → ∀ p ∈ (L.foldl fillStep s).1, ∃ a b part, a < 4 ∧ b < 4 ∧ part ∈ partsB ∧ p.1 = objectB (idN a b) part := by
    intro L
    induction L with
    | nil => intro s h; exact h
    | cons x L ih =>
      intro s h
      refine ih _ fun p hp => ?_
      rcases mem_put hp with rfl | hp
      · exact ⟨_, _, _, by omega, by omega, partN_mem _, rfl⟩
      · exact h p hp
  exact fun L => key L _ (by simp)

theorem DInv.first {cfg : Int × Int × Int} {o : Bkt} (h : Parted o 15) (hid : ∀ p ∈ o, ∃ a b part, a < 4 ∧ b < 4 ∧ part ∈ partsB ∧ p.1 = objectB (idN a b) part) : DInv cfg 0 31 o ⟨cfg, scan0, [], false, 0⟩ [] 0 := by
  refine ⟨rfl, ⟨h.nodup, fun p hp => ?_, fun p hp => ?_, h.len⟩, BInv.zero _ _, fun e => (by cases e), SInv.zero _ _, fun id t ht => (by simp [look] at ht), fun _ => ⟨rfl, fun n hn => (by cases hn), fun e => (by cases e), Int.le_refl _⟩, fun e => (by cases e), Int.le_refl _⟩
  · obtain ⟨h1, h2, h3, h4⟩ := h.obj p hp
    refine ⟨h1, h2, h3, h4, fun id t e ht => h.mark id t ?_⟩
    unfold markIn
    rw [← e, look_in h.nodup hp]
    exact ht
  · intro id part hi hpp e t j ht hj hj2 e2
    subst e2
    obtain ⟨a, b, part', ha, hb, hp', e3⟩ := hid p hp
    have := (idN_inj (by omega) (by omega) ht (by omega) (object_inj (idN_ok (by omega) (by omega)) hp' hi hpp (e3.symm.trans e)).1).2
    omega

theorem DInv.found {i : Nat} {now : Int} {o : Bkt} {S : ScanS} {H : PartsM} (hs : SInv o S H) (hc : BInv i now S.infos) (ht : S.begun = true → 0 ≤ S.tick ∧ S.tick ≤ now) (hi : i ≤ 900) (hn : now ≤ 1099511627776) : Found S := by
  have hnm : ∀ n ∈ S.infos.map (·.1), n.size ≤ 40 := by
    intro n hn
    obtain ⟨p, hp, rfl⟩ := List.mem_map.1 hn
    obtain ⟨id, part, h1, h2, e⟩ := (hc.obj p hp).name
    rw [e]
    have := (object_size h1 h2).1
    omega
  have hgot : ∀ x ∈ S.got, ∃ y, look S.infos x.1 = some y ∧ y.1 = x.2 := fun x hx => hs.gotIn x.1 x.2 (look_in hs.gotNd hx)
  refine ⟨fun x hx => ?_, by have := hc.len; omega, hc.nodup, fun x hx => ?_, ?_, fun id t hm => ?_, fun hb => ?_⟩
  · have h1 := hc.obj x hx
    exact ⟨hnm _ (List.mem_map.2 ⟨x, hx, rfl⟩), h1.at0, Int.le_trans h1.at1 hn⟩
  · obtain ⟨y, hy, e⟩ := hgot x hx
    have h1 := (hc.obj _ (look_mem hy)).small
    simp only at h1
    exact ⟨hnm _ (mem_of_look hy), by rw [← e]; omega⟩
  · have := nodup_len hs.gotNd (m := S.infos.map (·.1)) fun n hn => by
      obtain ⟨x, hx, rfl⟩ := List.mem_map.1 hn
      obtain ⟨y, hy, _⟩ := hgot x hx
      exact mem_of_look hy
    have h2 := hc.len
    simp only [List.length_map] at this
    omega
  · unfold markOf at hm
    cases hl : look S.got (objectB id markB) with
    | none => rw [hl] at hm; cases hm
    | some d =>
      rw [hl] at hm
      obtain ⟨y, hy, e⟩ := hs.gotIn _ _ hl
      have := (hc.obj _ (look_mem hy)).mark id t rfl (by show markSays id y.1 = some t; rw [e]; exact hm)
      omega
  · have := ht hb
    omega
end Go.Proofs.YtbndpegilpgheaaGreat
