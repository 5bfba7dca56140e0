/-
  Package head: (*Head).Check, in general, walked: the first point that may not be added.
  The points' labels may be, or are none; the head's series are fewer than 12 (printed by headchkg.py).

  Package head: (*Head).Add of several points, in general, walked.
  The points' labels may be; what holds between the points is given as a property of the head's state.
-/
import Derived.Test.YtgdkceeonnfejaaGreatDoorHeadAddG
namespace Go.Proofs.YtgdkceeonnfejaaGreatDoor
set_option maxRecDepth 100000
set_option maxHeartbeats 4000000
set_option linter.unusedSimpArgs false
open Go Go.RowKit Go.Maps
abbrev PtB := List PairB × SmpB
def encPt (q : Value × SmpB) : List Value := [q.1, .int .i64 q.2.1, .int .u64 q.2.2]
def PtsAt (w : World) (v : Value) (L : List PtB) : Prop := ∃ QS : List (Value × SmpB), QS.map (·.2) = L.map (·.2) ∧ w.ownsRow 0 89 3 v L.length (QS.flatMap encPt) ∧ ∀ i (h : i < QS.length) (h' : i < L.length), w.ownsRow 0 149 2 QS[i].1 L[i].1.length (L[i].1.flatMap encPB)
theorem PtsAt.keep {w w' : World} {v : Value} {L : List PtB} (h : PtsAt w v L) (k : Keeps [] w w') : PtsAt w' v L := by
 obtain ⟨QS, h1, h2, h3⟩ := h
 exact ⟨QS, h1, go1 k h2, fun i hi hi' => go1 k (h3 i hi hi')⟩
instance go1PtsAt {w w' : World} {v : Value} {L : List PtB} : Go1 w w' (PtsAt w v L) (PtsAt w' v L) := ⟨fun k h => h.keep k⟩
theorem PtsAt.fr {X : List Nat} {w0 w w' : World} {v : Value} {L : List PtB} (h : PtsAt w v L) (f : HFr X w0 w w') : PtsAt w' v L := by
 obtain ⟨QS, h1, h2, h3⟩ := h
 exact ⟨QS, h1, f.row h2 (by decide), fun i hi hi' => f.row (h3 i hi hi') (by decide)⟩
theorem PtsAt.form {w : World} {v : Value} {L : List PtB} (h : PtsAt w v L) : ∃ a c, v = .slice a L.length c := by
 obtain ⟨QS, h1, h2, h3⟩ := h
 obtain ⟨a, c, e, -, -, -⟩ := row_slice h2
 exact ⟨a, c, e⟩
theorem PtsAt.at_ {w : World} {a : Option Addr} {n c : Nat} {L : List PtB} (h : PtsAt w (.slice a n c) L) (k : Nat) (hk : k < L.length) : ∃ b off u, a = some ⟨b, off, none⟩ ∧ b < w.heap.size ∧ w.cell? ⟨b, off + k * 3, none⟩ = some u ∧ w.cell? ⟨b, off + k * 3 + 1, none⟩ = some (.int .i64 L[k].2.1) ∧ w.cell? ⟨b, off + k * 3 + 2, none⟩ = some (.int .u64 L[k].2.2) ∧ w.ownsRow 0 149 2 u L[k].1.length (L[k].1.flatMap encPB) := by
 obtain ⟨QS, h1, h2, h3⟩ := h
 have hl : QS.length = L.length := by have := congrArg List.length h1; simpa using this
 have hk' : k < QS.length := by omega
 have h2' : w.ownsRow 0 89 3 (.slice a n c) QS.length (QS.flatMap encPt) := by rw [hl]; exact h2
 obtain ⟨b, off, e, _, hb, hc⟩ := sf_at (sliceFrom_row (enc := encPt) (fun _ => rfl) h2') k hk'
 have e2 : QS[k].2 = L[k].2 := by
  have := congrArg (fun l => l[k]?) h1
  simpa [hk', hk] using this
 refine ⟨b, off, QS[k].1, e, hb, by simpa [encPt] using hc 0 (by decide), ?_, ?_, h3 k hk' hk⟩
 ·have := hc 1 (by decide)
  rw [← Nat.add_assoc] at this
  simpa [encPt, e2] using this
 ·have := hc 2 (by decide)
  rw [← Nat.add_assoc] at this
  simpa [encPt, e2] using this
def lastM (S : List SerH) (m : List (ByteArray × Int)) (k : ByteArray) : Option Int := match look m k with | some t => some t | none => (S.find? fun s => decide (keyP s.lab = k)).map (·.last)
def chkW (a b floor nS nN : Int) (was : Option Int) (fresh i t : Int) : Int :=
 match was with
 | some x => if t = x then 11 else if t < floor ∨ t < x then 10 else if a < nS + fresh ∨ b < nN + i + 1 then 13 else 0
 | none => if t < floor then 10 else if a < nS + (fresh + 1) ∨ b < nN + i + 1 then 13 else 0
theorem chkW_some {a b floor nS nN x fresh i t : Int} : chkW a b floor nS nN (some x) fresh i t = if t = x then 11 else if t < floor ∨ t < x then 10 else if a < nS + fresh ∨ b < nN + i + 1 then 13 else 0 := rfl
theorem chkW_none {a b floor nS nN fresh i t : Int} : chkW a b floor nS nN none fresh i t = if t < floor then 10 else if a < nS + (fresh + 1) ∨ b < nN + i + 1 then 13 else 0 := rfl
def chkP (a b floor nN : Int) (S : List SerH) (m : List (ByteArray × Int)) (fresh i : Int) (p : PtB) : Int :=
 if chkSet p.1 = false then 12 else if p.2.1 < 0 ∨ 1099511627776 ≤ p.2.1 then 1 else chkW a b floor S.length nN (lastM S m (keyP p.1)) fresh i p.2.1
def chkG (a b floor nN : Int) (S : List SerH) : List PtB → Int → List (ByteArray × Int) → Int → Int × Int
 | [], _, _, _ => (-1, 0)
 | p :: L, i, m, fresh => if chkP a b floor nN S m fresh i p = 0 then chkG a b floor nN S L (i + 1) (put m (keyP p.1) p.2.1) (fresh + if (lastM S m (keyP p.1)).isSome then 0 else 1) else (i, chkP a b floor nN S m fresh i p)
theorem chkG_bad {a b floor nN : Int} {S : List SerH} {p : PtB} {L : List PtB} {i : Int} {m : List (ByteArray × Int)} {fresh e : Int} (h : chkP a b floor nN S m fresh i p = e) (he : e ≠ 0) : chkG a b floor nN S (p :: L) i m fresh = (i, e) := by
 unfold chkG
 rw [h, if_neg he]
theorem chkG_ok {a b floor nN : Int} {S : List SerH} {p : PtB} {L : List PtB} {i : Int} {m : List (ByteArray × Int)} {fresh : Int} (h : chkP a b floor nN S m fresh i p = 0) : chkG a b floor nN S (p :: L) i m fresh = chkG a b floor nN S L (i + 1) (put m (keyP p.1) p.2.1) (fresh + if (lastM S m (keyP p.1)).isSome then 0 else 1) := by
 rw [chkG, if_pos h]
def encT (t : Int) : Value := .int .i64 t
theorem map_inj {α β : Type} {f : α → β} : ∀ {S : List α}, (S.map f).Nodup → ∀ {s t : α}, s ∈ S → t ∈ S → f s = f t → s = t
 | a :: S, hn, s, t, hs, ht, e => by
  rw [List.map_cons, List.nodup_cons] at hn
  rcases List.mem_cons.1 hs with h1 | h1
  ·rcases List.mem_cons.1 ht with h2 | h2
   ·rw [h1, h2]
   ·exact (hn.1 (List.mem_map.2 ⟨t, h2, by rw [← e, h1]⟩)).elim
  ·rcases List.mem_cons.1 ht with h2 | h2
   ·exact (hn.1 (List.mem_map.2 ⟨s, h1, by rw [e, h2]⟩)).elim
   ·exact map_inj hn.2 h1 h2 e
theorem zero64G (w : World) : (zeroValue 2).run Tryz.prog w = .ok (.int .i64 0) w := by kernel_rfl
theorem MapAtN.run_lenH {w : World} {q : Nat} {m : KVN} (h : MapAtN w q m) : (Builtin.len_ #[79] 3 #[.map (some q)]).run Tryz.prog w = .ok (.int .i64 m.length) w := by
 obtain ⟨E, c, h1, _, rfl⟩ := h
 refine (run_len_map (w := w) 79 3 q _ c Tryz.underlying79 h1).trans ?_
 simp only [pairsN, List.length_map, List.size_toArray]
 rfl
theorem chkNone_spec (w : World) (ao : Option Addr) (c : Nat) : Calls Tryz.prog 37 #[.slice ao 0 c] w fun e w' => e = .returned (.int .i64 12) ∧ Keeps [] w w' := by
 go_enter Tryz.func37, Tryz.ntmps37
 go_wp2_with fail
 go_ret
 exact ⟨rfl, Keeps.refl _ _⟩
def ChkGRel (w : World) (a b floor nN : Int) (S : List SerH) (L : List PtB) (R : Int × Int) (gk : Nat) (u7 u19 : Value) (wr : World) : Prop :=
 ∃ (k : Nat) (m : List (ByteArray × Int)) (f : Int), k ≤ L.length ∧ gk = L.length - k ∧ u19 = .int .i64 (k : Nat) ∧ u7 = .int .i64 f ∧ 0 ≤ f ∧ f ≤ (k : Int) ∧ MapAt wr w.heap.size (encMap encT m) ∧ chkG a b floor nN S (L.drop k) (k : Nat) m f = R ∧ Keeps [] w wr
theorem chkG_spec (B : Nat) (X : List Nat) (w : World) (h : Nat) (a b c : Int) (S : List SerH) (next n floor top : Int) (v : Value) (L : List PtB) (hH : HeadAt B X w h a b c S next n floor top) (hp : PtsAt w v L) (hck : ∀ p ∈ L, chkSet p.1 = true ∨ p.1 = []) (hl : L.length ≤ 1000) (h12 : S.length ≤ 12) (hn : 0 ≤ n ∧ n ≤ 1000000000) :
  Calls Tryz.prog 11 #[.pointer (some ⟨h, 0, none⟩), v] w fun e w' => e = .returned (.tuple #[.int .i64 (chkG a b floor n S L 0 [] 0).1, .int .i64 (chkG a b floor n S L 0 [] 0).2]) ∧ Keeps [] w w' := by
 have hmm := @run_makeMap Tryz.prog
 obtain ⟨R, hR⟩ : ∃ R, R = chkG a b floor n S L 0 [] 0 := ⟨_, rfl⟩
 rw [← hR]
 obtain ⟨rb, ob, x, mb, va, E, all, HP, -, -, -⟩ := hH
 obtain ⟨av, cv, rfl⟩ := hp.form
 have HF := Lib.hid (And.intro HP (And.intro hp (And.intro hck hR.symm)))
 have k0 : Keeps [] w (w.alloc (.map #[] 0)) := (Keeps.refl [] w).alloc _
 have Hm := Lib.hid (And.intro (mapAt_new w) k0)
 clear HP hp hck hR k0
 go_enter Tryz.func11, Tryz.ntmps11
 go_wp2_with fail
 go_loopg [7, 19] L.length (ChkGRel w a b floor n S L R)
 case atStart => exact ⟨0, [], 0, Nat.zero_le _, rfl, rfl, rfl, Int.le_refl _, Int.le_refl _, Hm.out.1, HF.out.2.2.2, Hm.out.2⟩
 case round =>
  obtain ⟨k, m, f, hk, hgk, rfl, rfl, hf0, hfk, hm, hres, hkw⟩ := hrel
  have Hg := Lib.hid hgk
  clear hgk Hm
  by_cases hlt : k < L.length
  ·have hlt' : (k : Int) < (L.length : Int) := by omega
   obtain ⟨b0, off, u, ea, hb0, d0, d1, d2, hlab⟩ := (go1 hkw HF.out.2.1).at_ k hlt
   subst ea
   rw [List.drop_eq_getElem_cons hlt] at hres
   have hckp := HF.out.2.2.1 _ (List.getElem_mem hlt)
   generalize L[k] = p at d0 d1 d2 hlab hres hckp
   obtain ⟨P, t, y⟩ := p
   dsimp only at d0 d1 d2 hlab hckp
   obtain ⟨al, cl, rfl, -, -, -⟩ := row_slice hlab
   have kp : Keeps [] wr (wr.alloc (.cells #[.slice al P.length cl, .int .i64 t, .int .u64 y] 89)) := (Keeps.refl [] wr).alloc _
   have hpk := heap_new wr (.cells #[.slice al P.length cl, .int .i64 t, .int .u64 y] 89)
   have H0 := Lib.hid (And.intro hpk (And.intro (go1 kp hlab) (And.intro (go1 kp (go1 hkw HF.out.1)) (And.intro (go1 kp hm) (hkw.trans kp)))))
   have Hres := Lib.hid hres
   clear kp hpk hlab hkw hm hres
   rcases hckp with hc | rfl
   ·obtain ⟨hser, hsml, hPne⟩ := serOk_of (P := P) 0 hc
    have Hc := Lib.hid (And.intro hc hsml)
    clear hc hsml hser hPne
    go_wp2_with fail
    refine (checkN_spec _ _ P (rowP H0.out.2.1) Hc.out.1).mono ?_
    rintro e w2 ⟨rfl, hk2⟩
    have H2 := Lib.hid (go1 hk2 H0.out)
    clear hk2 H0 d0 d1 d2 hb0
    generalize wr.heap.size = pk at H2 ⊢
    have s0 : w2.cell? ⟨pk, 0, none⟩ = some (.slice al P.length cl) := cells_at H2.out.1 0
    have s1 : w2.cell? ⟨pk, 1, none⟩ = some (.int .i64 t) := cells_at H2.out.1 1
    have lp := lt_of_at H2.out.1
    by_cases ht0 : t < 0
    ·have Hr := Lib.hid (show R = (((k : Nat) : Int), 1) from by
      rw [← Hres.out]
      exact chkG_bad (by unfold chkP; rw [if_neg (by rw [Hc.out.1]; decide), if_pos (.inl ht0)]) (by decide))
     go_wp2_with fail
     go_ret2
     exact ⟨by rw [Hr.out]; rfl, H2.out.2.2.2.2⟩
    ·by_cases ht1 : t ≥ 1099511627776
     ·have Hr := Lib.hid (show R = (((k : Nat) : Int), 1) from by
       rw [← Hres.out]
       exact chkG_bad (by unfold chkP; rw [if_neg (by rw [Hc.out.1]; decide), if_pos (.inr ht1)]) (by decide))
      go_wp2_with fail
      go_ret2
      exact ⟨by rw [Hr.out]; rfl, H2.out.2.2.2.2⟩
     ·have HcP := Lib.hid (show ∀ (f i : Int), chkP a b floor n S m f i (P, t, y) = chkW a b floor S.length n (lastM S m (keyP P)) f i t from fun f i => by
       unfold chkP
       rw [if_neg (by rw [Hc.out.1]; decide), if_neg (by show ¬ (t < 0 ∨ 1099511627776 ≤ t); omega)])
      go_wp2_with fail
      refine (keyG_spec _ _ P (rowP H2.out.2.1) Hc.out.2).mono ?_
      rintro e w3 ⟨rfl, hk3⟩
      have H3 := Lib.hid (go1 hk3 H2.out)
      clear hk3 H2 s0 s1 lp ht0 ht1
      have s1 : w3.cell? ⟨pk, 1, none⟩ = some (.int .i64 t) := cells_at H3.out.1 1
      have lp := lt_of_at H3.out.1
      have hh := H3.out.2.2.1.hc
      have c0 : w3.cell? ⟨h, 0, none⟩ = some (.int .i64 a) := cells_at hh 0
      have c1 : w3.cell? ⟨h, 1, none⟩ = some (.int .i64 b) := cells_at hh 1
      have c3 : w3.cell? ⟨h, 3, none⟩ = some (.map (some rb)) := cells_at hh 3
      have c4 : w3.cell? ⟨h, 4, none⟩ = some (.map (some ob)) := cells_at hh 4
      have c7 : w3.cell? ⟨h, 7, none⟩ = some (.int .i64 n) := cells_at hh 7
      have c8 : w3.cell? ⟨h, 8, none⟩ = some (.int .i64 floor) := cells_at hh 8
      have lh := lt_of_at hh
      have hn1 : ∀ q, (Builtin.len_ #[79] 3 #[.map (some ob)]).run Tryz.prog (w3.drewN q) = .ok (.int .i64 (S.length : Nat)) (w3.drewN q) := fun q => ((H3.out.2.2.1.of_.drewN q).run_lenH).trans (by simp)
      have hwr1 : IntKind.i64.wrap ((S.length : Int) + f) = (S.length : Int) + f := IntWalk.i64_in _ (by omega)
      have hwr2 : IntKind.i64.wrap (f + 1) = f + 1 := IntWalk.i64_in _ (by omega)
      have hwr3 : IntKind.i64.wrap ((S.length : Int) + (f + 1)) = (S.length : Int) + (f + 1) := IntWalk.i64_in _ (by omega)
      have hwr4 : IntKind.i64.wrap (n + (k : Int)) = n + (k : Int) := IntWalk.i64_in _ (by omega)
      have hwr5 : IntKind.i64.wrap (n + (k : Int) + 1) = n + (k : Int) + 1 := IntWalk.i64_in _ (by omega)
      clear hh
      have hlk := H3.out.2.2.2.1.run_lookup (P := Tryz.prog) Tryz.underlying96 Tryz.underlying9 (zero64G w3) (keyP P) true
      have hlr := H3.out.2.2.1.refs.run_lookup (P := Tryz.prog) Tryz.underlying78 Tryz.underlying9 (zeroIntH w3) (keyP P) true
      cases hq : look m (keyP P) with
      | some x =>
       rw [show lookVal (encMap encT m) (keyP P) (.int .i64 0) true = .tuple #[.int .i64 x, .bool true] from by simp [lookVal, look_enc, hq, encT]] at hlk
       have Hlast := Lib.hid (show lastM S m (keyP P) = some x from by unfold lastM; rw [hq])
       obtain ⟨r0, ok, hlv⟩ : ∃ (r0 : Int) (ok : Bool), lookVal (S.map refE) (keyP P) (.int .i64 0) true = .tuple #[.int .i64 r0, .bool ok] := by
        cases hy : look (S.map refE) (keyP P) with
        | none => exact ⟨0, false, by simp [lookVal, hy]⟩
        | some z =>
         obtain ⟨s, hs, e⟩ := List.mem_map.1 (look_memG hy)
         refine ⟨s.ref, true, ?_⟩
         simp only [refE] at e
         injection e with _ e
         simp [lookVal, hy, ← e]
       rw [hlv] at hlr
       clear hq hlv
       cases ok
       all_goals
        by_cases he : t = x
        ·have he2 : (t == x) = true := by simpa using he
         have Hr := Lib.hid (show R = (((k : Nat) : Int), 11) from by
          rw [← Hres.out]
          exact chkG_bad ((HcP.out _ _).trans (by rw [Hlast.out]; rw [chkW_some]; exact if_pos he)) (by decide))
         go_wp2_with fail
         go_ret2
         first | exact ⟨by rw [Hr.out]; rfl, H3.out.2.2.2.2⟩ | exact ⟨by rw [Hr.out]; rfl, H3.out.2.2.2.2.drewN _⟩ | exact ⟨by rw [Hr.out]; rfl, (H3.out.2.2.2.2.drewN _).drewN _⟩
        ·have he2 : (t == x) = false := by simpa using he
         by_cases hfl : t < floor
         ·have hd1 : decide (t < floor) = true := decide_eq_true hfl
          have Hr := Lib.hid (show R = (((k : Nat) : Int), 10) from by
           rw [← Hres.out]
           exact chkG_bad ((HcP.out _ _).trans (by rw [Hlast.out]; rw [chkW_some, if_neg he, if_pos (.inl hfl)])) (by decide))
          go_wp2_with fail
          go_quiet (fail)
          go_wp2_with fail
          go_ret2
          first | exact ⟨by rw [Hr.out]; rfl, H3.out.2.2.2.2⟩ | exact ⟨by rw [Hr.out]; rfl, H3.out.2.2.2.2.drewN _⟩ | exact ⟨by rw [Hr.out]; rfl, (H3.out.2.2.2.2.drewN _).drewN _⟩
         ·have hd1 : decide (t < floor) = false := decide_eq_false hfl
          by_cases hwl : t < x
          ·have hd2 : decide (t < x) = true := decide_eq_true hwl
           have Hr := Lib.hid (show R = (((k : Nat) : Int), 10) from by
            rw [← Hres.out]
            exact chkG_bad ((HcP.out _ _).trans (by rw [Hlast.out]; rw [chkW_some, if_neg he, if_pos (.inr hwl)])) (by decide))
           go_wp2_with fail
           go_quiet (fail)
           go_wp2_with fail
           go_ret2
           first | exact ⟨by rw [Hr.out]; rfl, H3.out.2.2.2.2⟩ | exact ⟨by rw [Hr.out]; rfl, H3.out.2.2.2.2.drewN _⟩ | exact ⟨by rw [Hr.out]; rfl, (H3.out.2.2.2.2.drewN _).drewN _⟩
          ·have hd2 : decide (t < x) = false := decide_eq_false hwl
           by_cases ha : (S.length : Int) + f > a
           ·have hd3 : decide ((S.length : Int) + f > a) = true := decide_eq_true ha
            have Hr := Lib.hid (show R = (((k : Nat) : Int), 13) from by
             rw [← Hres.out]
             exact chkG_bad ((HcP.out _ _).trans (by rw [Hlast.out]; rw [chkW_some, if_neg he, if_neg (fun hh => hh.elim hfl hwl), if_pos (.inl (by omega))])) (by decide))
            go_wp2_with fail
            go_quiet (fail)
            go_wp2_with fail
            go_quiet (fail)
            go_wp2_with fail
            go_ret2
            first | exact ⟨by rw [Hr.out]; rfl, H3.out.2.2.2.2⟩ | exact ⟨by rw [Hr.out]; rfl, H3.out.2.2.2.2.drewN _⟩ | exact ⟨by rw [Hr.out]; rfl, (H3.out.2.2.2.2.drewN _).drewN _⟩
           ·have hd3 : decide ((S.length : Int) + f > a) = false := decide_eq_false ha
            by_cases hb : n + (k : Int) + 1 > b
            ·have hd4 : decide (n + (k : Int) + 1 > b) = true := decide_eq_true hb
             have Hr := Lib.hid (show R = (((k : Nat) : Int), 13) from by
              rw [← Hres.out]
              exact chkG_bad ((HcP.out _ _).trans (by rw [Hlast.out]; rw [chkW_some, if_neg he, if_neg (fun hh => hh.elim hfl hwl), if_pos (.inr (by omega))])) (by decide))
             go_wp2_with fail
             go_quiet (fail)
             go_wp2_with fail
             go_quiet (fail)
             go_wp2_with fail
             go_ret2
             first | exact ⟨by rw [Hr.out]; rfl, H3.out.2.2.2.2⟩ | exact ⟨by rw [Hr.out]; rfl, H3.out.2.2.2.2.drewN _⟩ | exact ⟨by rw [Hr.out]; rfl, (H3.out.2.2.2.2.drewN _).drewN _⟩
            ·have hd4 : decide (n + (k : Int) + 1 > b) = false := decide_eq_false hb
             have Hz := Lib.hid (show chkW a b floor S.length n (lastM S m (keyP P)) f (k : Nat) t = 0 from by rw [Hlast.out]; rw [chkW_some, if_neg he, if_neg (fun hh => hh.elim hfl hwl), if_neg (fun hh => by rcases hh with hh | hh <;> omega)])
             go_wp2_with fail
             go_quiet (fail)
             go_wp2_with fail
             go_quiet (fail)
             have c7' := c7
             go_wp2_with (refine wpList_update_str _ rfl (.tmp 137) (.tmp 138) (.tmp 141) _ _ _ rfl Tryz.underlying96 Tryz.underlying9 w.heap.size _ (keyP P) (.int .i64 t) (by rfl) (by rfl) (by rfl) H3.out.2.2.2.1 ?_; intro w5 hm5 hk5)
             rw [show put (encMap encT m) (keyP P) (.int .i64 t) = encMap encT (put m (keyP P) t) from put_enc encT (keyP P) t m] at hm5
             have H5 := Lib.hid (And.intro hm5 ((H3.out.2.2.2.2.drewN _).after hk5 (fun y hy => .inr (by simp at hy; omega))))
             clear hm5 hk5 H3
             go_roundg (L.length - (k + 1))
             case measure => have := Hg.out; omega
             case rel => exact ⟨k + 1, put m (keyP P) t, f, hlt, rfl, by go_num, rfl, by omega, by omega, H5.out.1, by rw [← Hres.out, chkG_ok ((HcP.out _ _).trans Hz.out)]; simp [Hlast.out], H5.out.2⟩
      | none =>
       rw [show lookVal (encMap encT m) (keyP P) (.int .i64 0) true = .tuple #[.int .i64 0, .bool false] from by simp [lookVal, look_enc, hq]] at hlk
       by_cases hx : ∃ s ∈ S, keyP s.lab = keyP P
       ·obtain ⟨s, hs, hkey⟩ := hx
        obtain ⟨S1, S2, hS12⟩ := List.append_of_mem hs
        obtain ⟨x, hx⟩ : ∃ x, x = s.last := ⟨_, rfl⟩
        have Hlast := Lib.hid (show lastM S m (keyP P) = some x from by
         have hn := H3.out.2.2.1.refs.nodup
         have h1 : ∃ t, (S.find? fun s => decide (keyP s.lab = keyP P)) = some t := by
          cases hf : S.find? fun s => decide (keyP s.lab = keyP P) with
          | none => exact absurd (List.find?_eq_none.1 hf s hs) (by simpa using hkey)
          | some t => exact ⟨t, rfl⟩
         obtain ⟨t', ht'⟩ := h1
         have h2 := List.mem_of_find?_eq_some ht'
         have h3 : keyP t'.lab = keyP P := by simpa using List.find?_some ht'
         have hn' : (S.map fun s => keyP s.lab).Nodup := by rw [List.map_map] at hn; exact hn
         have h4 : t' = s := map_inj hn' h2 hs (h3.trans hkey.symm)
         unfold lastM
         rw [hq, ht', h4, hx]
         rfl)
        rw [show lookVal (S.map refE) (keyP P) (.int .i64 0) true = .tuple #[.int .i64 s.ref, .bool true] from by
         have := H3.out.2.2.1.refs
         rw [hS12] at this ⊢
         have := look_refs this
         rw [hkey] at this
         show Value.tuple #[(look _ _).getD _, .bool (look _ _).isSome] = _
         rw [this]
         rfl] at hlr
        have hlo : (Instr.lookup 79 (.map (some ob)) (.int .i64 s.ref) false).run Tryz.prog w3 = .ok (.pointer (some ⟨s.sb, 0, none⟩)) w3 := (H3.out.2.2.1.of_.run_lookup Tryz.underlying79 Tryz.underlying3 (zeroSerH w3) s.ref false).trans (by
         have := H3.out.2.2.1.of_
         rw [hS12] at this ⊢
         show Result.ok ((lookN _ _).getD _) w3 = _
         rw [look_of this]
         rfl)
        have c9 : w3.cell? ⟨s.sb, 2, none⟩ = some (.int .i64 x) := by rw [hx]; exact cells_at (H3.out.2.2.1.ser s hs).at_ 2
        have lsb := lt_of_at (H3.out.2.2.1.ser s hs).at_
        clear hq hx hS12 hkey
        by_cases he : t = x
        ·have he2 : (t == x) = true := by simpa using he
         have Hr := Lib.hid (show R = (((k : Nat) : Int), 11) from by
          rw [← Hres.out]
          exact chkG_bad ((HcP.out _ _).trans (by rw [Hlast.out]; rw [chkW_some]; exact if_pos he)) (by decide))
         go_wp2_with fail
         go_ret2
         first | exact ⟨by rw [Hr.out]; rfl, H3.out.2.2.2.2⟩ | exact ⟨by rw [Hr.out]; rfl, H3.out.2.2.2.2.drewN _⟩ | exact ⟨by rw [Hr.out]; rfl, (H3.out.2.2.2.2.drewN _).drewN _⟩
        ·have he2 : (t == x) = false := by simpa using he
         by_cases hfl : t < floor
         ·have hd1 : decide (t < floor) = true := decide_eq_true hfl
          have Hr := Lib.hid (show R = (((k : Nat) : Int), 10) from by
           rw [← Hres.out]
           exact chkG_bad ((HcP.out _ _).trans (by rw [Hlast.out]; rw [chkW_some, if_neg he, if_pos (.inl hfl)])) (by decide))
          go_wp2_with fail
          go_quiet (fail)
          go_wp2_with fail
          go_ret2
          first | exact ⟨by rw [Hr.out]; rfl, H3.out.2.2.2.2⟩ | exact ⟨by rw [Hr.out]; rfl, H3.out.2.2.2.2.drewN _⟩ | exact ⟨by rw [Hr.out]; rfl, (H3.out.2.2.2.2.drewN _).drewN _⟩
         ·have hd1 : decide (t < floor) = false := decide_eq_false hfl
          by_cases hwl : t < x
          ·have hd2 : decide (t < x) = true := decide_eq_true hwl
           have Hr := Lib.hid (show R = (((k : Nat) : Int), 10) from by
            rw [← Hres.out]
            exact chkG_bad ((HcP.out _ _).trans (by rw [Hlast.out]; rw [chkW_some, if_neg he, if_pos (.inr hwl)])) (by decide))
           go_wp2_with fail
           go_quiet (fail)
           go_wp2_with fail
           go_ret2
           first | exact ⟨by rw [Hr.out]; rfl, H3.out.2.2.2.2⟩ | exact ⟨by rw [Hr.out]; rfl, H3.out.2.2.2.2.drewN _⟩ | exact ⟨by rw [Hr.out]; rfl, (H3.out.2.2.2.2.drewN _).drewN _⟩
          ·have hd2 : decide (t < x) = false := decide_eq_false hwl
           by_cases ha : (S.length : Int) + f > a
           ·have hd3 : decide ((S.length : Int) + f > a) = true := decide_eq_true ha
            have Hr := Lib.hid (show R = (((k : Nat) : Int), 13) from by
             rw [← Hres.out]
             exact chkG_bad ((HcP.out _ _).trans (by rw [Hlast.out]; rw [chkW_some, if_neg he, if_neg (fun hh => hh.elim hfl hwl), if_pos (.inl (by omega))])) (by decide))
            go_wp2_with fail
            go_quiet (fail)
            go_wp2_with fail
            go_quiet (fail)
            go_wp2_with fail
            go_ret2
            first | exact ⟨by rw [Hr.out]; rfl, H3.out.2.2.2.2⟩ | exact ⟨by rw [Hr.out]; rfl, H3.out.2.2.2.2.drewN _⟩ | exact ⟨by rw [Hr.out]; rfl, (H3.out.2.2.2.2.drewN _).drewN _⟩
           ·have hd3 : decide ((S.length : Int) + f > a) = false := decide_eq_false ha
            by_cases hb : n + (k : Int) + 1 > b
            ·have hd4 : decide (n + (k : Int) + 1 > b) = true := decide_eq_true hb
             have Hr := Lib.hid (show R = (((k : Nat) : Int), 13) from by
              rw [← Hres.out]
              exact chkG_bad ((HcP.out _ _).trans (by rw [Hlast.out]; rw [chkW_some, if_neg he, if_neg (fun hh => hh.elim hfl hwl), if_pos (.inr (by omega))])) (by decide))
             go_wp2_with fail
             go_quiet (fail)
             go_wp2_with fail
             go_quiet (fail)
             go_wp2_with fail
             go_ret2
             first | exact ⟨by rw [Hr.out]; rfl, H3.out.2.2.2.2⟩ | exact ⟨by rw [Hr.out]; rfl, H3.out.2.2.2.2.drewN _⟩ | exact ⟨by rw [Hr.out]; rfl, (H3.out.2.2.2.2.drewN _).drewN _⟩
            ·have hd4 : decide (n + (k : Int) + 1 > b) = false := decide_eq_false hb
             have Hz := Lib.hid (show chkW a b floor S.length n (lastM S m (keyP P)) f (k : Nat) t = 0 from by rw [Hlast.out]; rw [chkW_some, if_neg he, if_neg (fun hh => hh.elim hfl hwl), if_neg (fun hh => by rcases hh with hh | hh <;> omega)])
             go_wp2_with fail
             go_quiet (fail)
             go_wp2_with fail
             go_quiet (fail)
             have c7' := c7
             go_wp2_with (refine wpList_update_str _ rfl (.tmp 137) (.tmp 138) (.tmp 141) _ _ _ rfl Tryz.underlying96 Tryz.underlying9 w.heap.size _ (keyP P) (.int .i64 t) (by rfl) (by rfl) (by rfl) H3.out.2.2.2.1 ?_; intro w5 hm5 hk5)
             rw [show put (encMap encT m) (keyP P) (.int .i64 t) = encMap encT (put m (keyP P) t) from put_enc encT (keyP P) t m] at hm5
             have H5 := Lib.hid (And.intro hm5 ((H3.out.2.2.2.2.drewN _).after hk5 (fun y hy => .inr (by simp at hy; omega))))
             clear hm5 hk5 H3
             go_roundg (L.length - (k + 1))
             case measure => have := Hg.out; omega
             case rel => exact ⟨k + 1, put m (keyP P) t, f, hlt, rfl, by go_num, rfl, by omega, by omega, H5.out.1, by rw [← Hres.out, chkG_ok ((HcP.out _ _).trans Hz.out)]; simp [Hlast.out], H5.out.2⟩
       ·have hno : ∀ s ∈ S, keyP s.lab ≠ keyP P := fun s hs e => hx ⟨s, hs, e⟩
        have Hlast := Lib.hid (show lastM S m (keyP P) = none from by
         unfold lastM
         rw [hq, List.find?_eq_none.2 (fun s hs => by simpa using hno s hs)]
         rfl)
        rw [show lookVal (S.map refE) (keyP P) (.int .i64 0) true = .tuple #[.int .i64 0, .bool false] from by simp [lookVal, look_refs_none hno]] at hlr
        clear hq hx hno
        by_cases hfl : t < floor
        ·have hd1 : decide (t < floor) = true := decide_eq_true hfl
         have Hr := Lib.hid (show R = (((k : Nat) : Int), 10) from by
          rw [← Hres.out]
          exact chkG_bad ((HcP.out _ _).trans (by rw [Hlast.out]; rw [chkW_none, if_pos hfl])) (by decide))
         go_wp2_with fail
         go_quiet (fail)
         go_wp2_with fail
         go_ret2
         first | exact ⟨by rw [Hr.out]; rfl, H3.out.2.2.2.2⟩ | exact ⟨by rw [Hr.out]; rfl, H3.out.2.2.2.2.drewN _⟩ | exact ⟨by rw [Hr.out]; rfl, (H3.out.2.2.2.2.drewN _).drewN _⟩
        ·have hd1 : decide (t < floor) = false := decide_eq_false hfl
         by_cases ha : (S.length : Int) + (f + 1) > a
         ·have hd3 : decide ((S.length : Int) + (f + 1) > a) = true := decide_eq_true ha
          have Hr := Lib.hid (show R = (((k : Nat) : Int), 13) from by
           rw [← Hres.out]
           exact chkG_bad ((HcP.out _ _).trans (by rw [Hlast.out]; rw [chkW_none, if_neg hfl, if_pos (.inl (by omega))])) (by decide))
          go_wp2_with fail
          go_quiet (fail)
          go_wp2_with fail
          go_quiet (fail)
          go_wp2_with fail
          go_ret2
          first | exact ⟨by rw [Hr.out]; rfl, H3.out.2.2.2.2⟩ | exact ⟨by rw [Hr.out]; rfl, H3.out.2.2.2.2.drewN _⟩ | exact ⟨by rw [Hr.out]; rfl, (H3.out.2.2.2.2.drewN _).drewN _⟩
         ·have hd3 : decide ((S.length : Int) + (f + 1) > a) = false := decide_eq_false ha
          by_cases hb : n + (k : Int) + 1 > b
          ·have hd4 : decide (n + (k : Int) + 1 > b) = true := decide_eq_true hb
           have Hr := Lib.hid (show R = (((k : Nat) : Int), 13) from by
            rw [← Hres.out]
            exact chkG_bad ((HcP.out _ _).trans (by rw [Hlast.out]; rw [chkW_none, if_neg hfl, if_pos (.inr (by omega))])) (by decide))
           go_wp2_with fail
           go_quiet (fail)
           go_wp2_with fail
           go_quiet (fail)
           go_wp2_with fail
           go_ret2
           first | exact ⟨by rw [Hr.out]; rfl, H3.out.2.2.2.2⟩ | exact ⟨by rw [Hr.out]; rfl, H3.out.2.2.2.2.drewN _⟩ | exact ⟨by rw [Hr.out]; rfl, (H3.out.2.2.2.2.drewN _).drewN _⟩
          ·have hd4 : decide (n + (k : Int) + 1 > b) = false := decide_eq_false hb
           have Hz := Lib.hid (show chkW a b floor S.length n (lastM S m (keyP P)) f (k : Nat) t = 0 from by rw [Hlast.out]; rw [chkW_none, if_neg hfl, if_neg (fun hh => by rcases hh with hh | hh <;> omega)])
           go_wp2_with fail
           go_quiet (fail)
           go_wp2_with fail
           go_quiet (fail)
           have c7' := c7
           go_wp2_with (refine wpList_update_str _ rfl (.tmp 137) (.tmp 138) (.tmp 141) _ _ _ rfl Tryz.underlying96 Tryz.underlying9 w.heap.size _ (keyP P) (.int .i64 t) (by rfl) (by rfl) (by rfl) H3.out.2.2.2.1 ?_; intro w5 hm5 hk5)
           rw [show put (encMap encT m) (keyP P) (.int .i64 t) = encMap encT (put m (keyP P) t) from put_enc encT (keyP P) t m] at hm5
           have H5 := Lib.hid (And.intro hm5 ((H3.out.2.2.2.2.drewN _).after hk5 (fun y hy => .inr (by simp at hy; omega))))
           clear hm5 hk5 H3
           go_roundg (L.length - (k + 1))
           case measure => have := Hg.out; omega
           case rel => exact ⟨k + 1, put m (keyP P) t, f + 1, hlt, rfl, by go_num, rfl, by omega, by omega, H5.out.1, by rw [← Hres.out, chkG_ok ((HcP.out _ _).trans Hz.out)]; simp [Hlast.out], H5.out.2⟩
   ·go_wp2_with fail
    refine (chkNone_spec _ _ _).mono ?_
    rintro e w2 ⟨rfl, hk2⟩
    have H2 := Lib.hid (H0.out.2.2.2.2.trans hk2)
    have Hr := Lib.hid (show R = (((k : Nat) : Int), 12) from by
     rw [← Hres.out]
     exact chkG_bad (by unfold chkP; rw [if_pos (show chkSet [] = false from by decide)]) (by decide))
    clear hk2 H0 d0 d1 d2 hb0
    go_wp2_with fail
    go_ret2
    exact ⟨by rw [Hr.out]; rfl, H2.out⟩
  ·have hge : ¬ (k : Int) < (L.length : Int) := by omega
   have Hr := Lib.hid (show R = (-1, 0) from by
    rw [← hres, List.drop_of_length_le (by omega)]
    rfl)
   have Hk := Lib.hid hkw
   clear hres hkw hm
   go_wp2_with fail
   go_ret2
   exact ⟨by rw [Hr.out]; rfl, Hk.out⟩
abbrev StH := List SerH × Int × Int × Int
def stepH (s : StH) (p : PtB) (s' : StH) : Prop := ∃ ref, AddedH s.1 s.2.1 p.1 p.2 s'.1 s'.2.1 ref ∧ s'.2.2.1 = s.2.2.1 + 1 ∧ s'.2.2.2 = max s.2.2.2 p.2.1
def stepsH : List PtB → StH → StH → Prop
 | [], s, s' => s' = s
 | p :: L, s, s' => ∃ s1, stepH s p s1 ∧ stepsH L s1 s'
theorem stepsH_snoc {p : PtB} {s2 : StH} : ∀ {L : List PtB} {s s1 : StH}, stepsH L s s1 → stepH s1 p s2 → stepsH (L ++ [p]) s s2
 | [], s, s1, h, h2 => by
  have e : s1 = s := h
  subst e
  exact ⟨s2, h2, rfl⟩
 | _ :: _, _, _, ⟨t, h1, h⟩, h2 => ⟨t, h1, stepsH_snoc h h2⟩
def AddPre (st : StH) : Prop := (∀ s ∈ st.1, s.ref ≠ st.2.1) ∧ st.1.length < 12 ∧ (∀ s ∈ st.1, s.l.length ≤ 100000) ∧ (0 ≤ st.2.2.1 ∧ st.2.2.1 ≤ 1000000000) ∧ (0 ≤ st.2.1 ∧ st.2.1 ≤ 1000000000)
def AddAllPost (B : Nat) (X : List Nat) (w0 w : World) (h : Nat) (a b c floor : Int) (st : StH) (L : List PtB) (I : Nat → StH → Prop) (e : Ending) (w' : World) : Prop :=
 ∃ st', e = .returned (.tuple #[]) ∧ HeadAt B X w' h a b c st'.1 st'.2.1 st'.2.2.1 floor st'.2.2.2 ∧ HFr X w0 w w' ∧ stepsH L st st' ∧ I L.length st'
def AddAllRel (B : Nat) (X : List Nat) (w0 w : World) (h : Nat) (a b c floor : Int) (st0 : StH) (L : List PtB) (I : Nat → StH → Prop) (gk : Nat) (u8 : Value) (wr : World) : Prop :=
 ∃ k st, k ≤ L.length ∧ gk = L.length - k ∧ u8 = .int .i64 (k : Nat) ∧ HeadAt B X wr h a b c st.1 st.2.1 st.2.2.1 floor st.2.2.2 ∧ HFr X w0 w wr ∧ stepsH (L.take k) st0 st ∧ I k st
theorem addAll_spec (B : Nat) (X : List Nat) (w0 w : World) (h : Nat) (a b c floor : Int) (st : StH) (v : Value) (L : List PtB) (I : Nat → StH → Prop) (hH : HeadAt B X w h a b c st.1 st.2.1 st.2.2.1 floor st.2.2.2) (k0 : Keeps [] w0 w) (hB0 : w0.heap.size ≤ B) (hB : B ≤ w.heap.size)
  (hp : PtsAt w v L) (hck : ∀ p ∈ L, chkSet p.1 = true) (hl : L.length ≤ 1000) (h0 : I 0 st) (hpre : ∀ k st, k < L.length → I k st → AddPre st) (hstep : ∀ k st st', ∀ hk : k < L.length, I k st → stepH st L[k] st' → I (k + 1) st') :
  Calls Tryz.prog 12 #[.pointer (some ⟨h, 0, none⟩), v] w (AddAllPost B X w0 w h a b c floor st L I) := by
 obtain ⟨av, cv, rfl⟩ := hp.form
 have Hf := Lib.hid (And.intro hp (And.intro hck (And.intro hpre hstep)))
 have H0 := Lib.hid (And.intro hH h0)
 clear hH hp hck h0 hpre hstep
 go_enter Tryz.func12, Tryz.ntmps12
 go_wp2_with fail
 go_loopg [8] L.length (AddAllRel B X w0 w h a b c floor st L I)
 case atStart => exact ⟨0, st, Nat.zero_le _, rfl, rfl, H0.out.1, HFr.refl k0, rfl, H0.out.2⟩
 case round =>
  obtain ⟨k, st1, hk, hgk, rfl, hH, hfr, hst, hI⟩ := hrel
  have Hg := Lib.hid hgk
  clear hgk
  by_cases hlt : k < L.length
  ·have hlt' : (k : Int) < (L.length : Int) := by omega
   obtain ⟨b0, off, u, ea, hb0, d0, d1, d2, hlab⟩ := (Hf.out.1.fr hfr).at_ k hlt
   subst ea
   have Htk := Lib.hid (show L.take (k + 1) = L.take k ++ [L[k]] from List.take_succ_eq_append_getElem hlt)
   have hck := Hf.out.2.1 _ (List.getElem_mem hlt)
   have hpre := Hf.out.2.2.1 k st1 hlt hI
   have hstep := Hf.out.2.2.2 k st1
   have Hst := Lib.hid (And.intro hck (And.intro hpre (And.intro (fun st' => hstep st' hlt hI) hst)))
   clear hck hpre hstep hst hI
   generalize L[k] = p at d0 d1 d2 hlab Hst Htk
   obtain ⟨P, t, y⟩ := p
   dsimp only at d0 d1 d2 hlab
   obtain ⟨al, cl, rfl, -, -, -⟩ := row_slice hlab
   have kp : Keeps [] wr (wr.alloc (.cells #[.slice al P.length cl, .int .i64 t, .int .u64 y] 89)) := (Keeps.refl [] wr).alloc _
   have hpk := heap_new wr (.cells #[.slice al P.length cl, .int .i64 t, .int .u64 y] 89)
   have H1 := Lib.hid (And.intro hpk (And.intro (go1 kp hlab) (And.intro (hH.keep kp) (hfr.keep kp))))
   have hsz : w.heap.size ≤ wr.heap.size := hfr.size
   clear kp hpk hlab hH hfr H0
   go_wp2_with fail
   refine (addH_spec B X w0 _ h a b c st1.1 st1.2.1 st1.2.2.1 floor st1.2.2.2 _ P (t, y) H1.out.2.2.1 H1.out.2.2.2.keeps hB0 (by rw [World.size_alloc]; omega) H1.out.2.1 Hst.out.1 Hst.out.2.1.1 Hst.out.2.1.2.1 Hst.out.2.1.2.2.1 Hst.out.2.1.2.2.2.1 Hst.out.2.1.2.2.2.2).mono ?_
   rintro e w2 ⟨S', next', ref, rfl, hH2, hf2, had⟩
   have hs : stepH st1 (P, t, y) (S', next', st1.2.2.1 + 1, max st1.2.2.2 t) := ⟨ref, had, rfl, rfl⟩
   have H2 := Lib.hid (And.intro hH2 (And.intro (H1.out.2.2.2.trans hf2) (And.intro (stepsH_snoc Hst.out.2.2.2 hs) (Hst.out.2.2.1 _ hs))))
   clear hH2 hf2 had hs H1 Hst d0 d1 d2 hb0
   go_wp2_with fail
   go_roundg (L.length - (k + 1))
   case measure => have := Hg.out; omega
   case rel => exact ⟨k + 1, (S', next', st1.2.2.1 + 1, max st1.2.2.2 t), hlt, rfl, by go_num, H2.out.1, H2.out.2.1, by rw [Htk.out]; exact H2.out.2.2.1, H2.out.2.2.2⟩
  ·have hge : ¬ (k : Int) < (L.length : Int) := by omega
   have hke : k = L.length := by omega
   rw [hke, List.take_length] at hst
   rw [hke] at hI
   have Hr := Lib.hid (And.intro hH (And.intro hfr (And.intro hst hI)))
   clear hH hfr hst hI H0 hke
   go_wp2_with fail
   go_end0
   exact ⟨st1, rfl, Hr.out⟩
end Go.Proofs.YtgdkceeonnfejaaGreatDoor
