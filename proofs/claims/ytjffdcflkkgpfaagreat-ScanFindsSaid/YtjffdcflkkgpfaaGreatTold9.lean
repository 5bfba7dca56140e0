/-
  A meta as the document's (package barographlaw09): Told.
  Its files are few.
-/
import Derived.Test.YtjffdcflkkgpfaaGreatStb
import Derived.Test.YtjffdcflkkgpfaaGreatListTake
namespace Go.Proofs.YtjffdcflkkgpfaaGreat
open Go Go.RowKit Go.Conc

theorem infoFile9 : (Tryz.prog.info? 170).map (fun i => (i.zero, i.size, i.bytes)) = some (some (.agg #[.string ⟨#[]⟩, .int .i64 0, .int .u32 0]), 3, 32) := by kernel_rfl

def metaVs (m : MetaS) (vf vo : Value) : Array Value := #[.string m.id, .int .i64 m.mn, .int .i64 m.mx, .int .i64 m.level, .int .i64 m.series, .int .i64 m.samples, vf, vo]

def Told9Post (w : World) (m : MetaS) (vo : Value) (e : Ending) (w' : World) : Prop :=
  ∃ vf, e = .returned (.agg (metaVs m vf vo)) ∧ w'.ownsRow w.heap.size 170 3 vf m.files.length (m.files.flatMap encFile) ∧ Keeps [] w w'

def Told9Rel (w : World) (m : MetaS) (vf vo : Value) (pb rb xb : Nat) (gk : Nat) (u : Value) (wr : World) : Prop :=
  ∃ (k : Nat) (vx : Value), k ≤ m.files.length ∧ gk = m.files.length - k ∧ u = .int .i64 k ∧ wr.ownsRow w.heap.size 170 3 vx k ((m.files.take k).flatMap encFile) ∧
    wr.heap[xb]? = some (.cells (metaVs m vx vo) 66 (0, 0)) ∧ wr.heap[pb]? = some (.cells (metaVs m vf vo) 63 (0, 0)) ∧ wr.heap[rb]? = some (.cells #[.string ⟨#[]⟩, .int .i64 0, .int .i64 0, .int .i64 0, .int .i64 0, .int .i64 0, .slice none 0 0, .slice none 0 0] 66 (0, 0)) ∧ Keeps [] w wr

set_option linter.unusedSimpArgs false in
set_option maxRecDepth 100000 in
set_option maxHeartbeats 4000000 in
theorem told9_spec (B : Nat) (w : World) (vf vo : Value) (m : MetaS) (hf : SliceFrom B 3 encFile w vf m.files) (hvo : ∃ a n c, vo = .slice a n c) (hl : m.files.length ≤ 10) :
    Calls Tryz.prog 47 #[.agg (metaVs m vf vo)] w (Told9Post w m vo) := by
  have Hf := Lib.hid hf
  obtain ⟨af, cf, rfl, -, -, -, -⟩ := hf
  obtain ⟨ao, no, co, rfl⟩ := hvo
  obtain ⟨ifl, hif, hzf0, hzf1, hzf2⟩ := info_parts infoFile9
  obtain ⟨pb, hpb⟩ : ∃ n, n = w.heap.size := ⟨_, rfl⟩
  obtain ⟨rb, hrb⟩ : ∃ n, n = pb + 1 := ⟨_, rfl⟩
  obtain ⟨xb, hxb⟩ : ∃ n, n = rb + 1 := ⟨_, rfl⟩
  have n0 := new3 w (.cells #[.string m.id, .int .i64 m.mn, .int .i64 m.mx, .int .i64 m.level, .int .i64 m.series, .int .i64 m.samples, .slice af m.files.length cf, .slice ao no co] 63) (.cells #[.string ⟨#[]⟩, .int .i64 0, .int .i64 0, .int .i64 0, .int .i64 0, .int .i64 0, .slice none 0 0, .slice none 0 0] 66) (.cells #[.string m.id, .int .i64 m.mn, .int .i64 m.mx, .int .i64 m.level, .int .i64 m.series, .int .i64 m.samples, .slice none 0 0, .slice ao no co] 66)
  have k0 : Keeps [] w (((w.alloc (.cells #[.string m.id, .int .i64 m.mn, .int .i64 m.mx, .int .i64 m.level, .int .i64 m.series, .int .i64 m.samples, .slice af m.files.length cf, .slice ao no co] 63)).alloc (.cells #[.string ⟨#[]⟩, .int .i64 0, .int .i64 0, .int .i64 0, .int .i64 0, .int .i64 0, .slice none 0 0, .slice none 0 0] 66)).alloc (.cells #[.string m.id, .int .i64 m.mn, .int .i64 m.mx, .int .i64 m.level, .int .i64 m.series, .int .i64 m.samples, .slice none 0 0, .slice ao no co] 66)) := (((Keeps.refl [] w).alloc _).alloc _).alloc _
  rw [← hpb, ← hrb, ← hxb] at n0
  have H0 := Lib.hid (And.intro n0 k0)
  have HB := Lib.hid (And.intro hpb (And.intro hrb hxb))
  have hbb : w.heap.size ≤ pb ∧ w.heap.size ≤ rb ∧ w.heap.size ≤ xb ∧ pb ≠ rb ∧ pb ≠ xb ∧ rb ≠ xb := by omega
  clear n0 k0 hpb hrb hxb
  unfold metaVs
  go_enter Tryz.func47, Tryz.ntmps47
  go_upto_region 2 with fail
  rw [← HB.out.1, ← HB.out.2.1, ← HB.out.2.2]
  generalize (((w.alloc (.cells #[.string m.id, .int .i64 m.mn, .int .i64 m.mx, .int .i64 m.level, .int .i64 m.series, .int .i64 m.samples, .slice af m.files.length cf, .slice ao no co] 63)).alloc (.cells #[.string ⟨#[]⟩, .int .i64 0, .int .i64 0, .int .i64 0, .int .i64 0, .int .i64 0, .slice none 0 0, .slice none 0 0] 66)).alloc (.cells #[.string m.id, .int .i64 m.mn, .int .i64 m.mx, .int .i64 m.level, .int .i64 m.series, .int .i64 m.samples, .slice none 0 0, .slice ao no co] 66)) = W0 at H0 ⊢
  have cp := cells_at H0.out.1.1
  have lp := lt_of_at H0.out.1.1
  go_wp2_with fail
  clear cp lp
  go_loopg [24] m.files.length (Told9Rel w m (.slice af m.files.length cf) (.slice ao no co) pb rb xb)
  case atStart => exact ⟨0, .slice none 0 0, Nat.zero_le _, rfl, rfl, World.ownsRow_nil _ _ _ 3, H0.out.1.2.2, H0.out.1.1, H0.out.1.2.1, H0.out.2⟩
  case round =>
    obtain ⟨k, vx, hk, hgk, rfl, hrow, nx, np, nr, hkw⟩ := hrel
    have Hg := Lib.hid hgk
    obtain ⟨ax, cx, rfl, hkc, hcm, -⟩ := row_slice hrow
    have nx2 : wr.heap[xb]? = some (.cells #[.string m.id, .int .i64 m.mn, .int .i64 m.mx, .int .i64 m.level, .int .i64 m.series, .int .i64 m.samples, .slice ax k cx, .slice ao no co] 66 (0, 0)) := nx
    by_cases hlt : k < m.files.length
    · obtain ⟨b6, of6, ea, -, hb6, hc6⟩ := (Hf.out.keep hkw (by simp)).atI k hlt
      subst ea
      have hnx : (m.files.take (k + 1)).flatMap encFile = (m.files.take k).flatMap encFile ++ encFile m.files[k] := by rw [List.take_succ_eq_append_getElem hlt, List.flatMap_append]; simp
      obtain ⟨⟨fm, fs, fc⟩, hfe⟩ : ∃ f, f = m.files[k] := ⟨_, rfl⟩
      rw [← hfe] at hc6 hnx
      have Hnx := Lib.hid hnx
      have d0 : wr.cell? ⟨b6, of6 + k * 3, none⟩ = some (.string fm) := hc6 0 (by decide)
      have d1 : wr.cell? ⟨b6, of6 + k * 3 + 1, none⟩ = some (.int .i64 fs) := hc6 1 (by decide)
      have d2 : wr.cell? ⟨b6, of6 + k * 3 + 2, none⟩ = some (.int .u32 fc) := hc6 2 (by decide)
      have hlt' : (k : Int) < (m.files.length : Int) := by omega
      have ka : Keeps [] wr (wr.alloc (.cells #[.string fm, .int .i64 fs, .int .u32 fc] 149)) := (Keeps.refl [] wr).alloc _
      have na := heap_new wr (.cells #[.string fm, .int .i64 fs, .int .u32 fc] 149)
      have H := Lib.hid (And.intro (kp ka (And.intro nx2 (And.intro np (And.intro nr (And.intro hrow hkw))))) na)
      clear hgk nx nx2 np nr hrow hkw hnx hc6 hfe ka na H0
      go_upto_region 5 with fail
      clear d0 d1 d2
      generalize wr.alloc (.cells #[.string fm, .int .i64 fs, .int .u32 fc] 149) = W1 at H ⊢
      generalize wr.heap.size = fb at H ⊢
      have cx1 := cells_at H.out.1.1
      have lx1 := lt_of_at H.out.1.1
      have cf1 := cells_at H.out.2
      have lf1 := lt_of_at H.out.2
      have hwz := H.out.1.2.2.2.2.size
      go_upto_region 6 with (at_builtin; refine wpList_append_own _ rfl (.tmp 29) (.tmp 31) 64 rfl w.heap.size 170 ifl _ 3 32 Tryz.underlying64 hif hzf0 hzf1 hzf2 rfl (by decide) (.slice ax k cx) k ((m.files.take k).flatMap encFile) rfl (H.out.1.2.2.2.1.alloc _) ⟨W1.heap.size, 0, none⟩ 1 1 [.string fm, .int .i64 fs, .int .u32 fc] rfl rfl (news_of (heap_new W1 _)) (by simp [Value.oneCell']) (by simp only [maxLen]; omega) (by omega) (by simp; omega) ?_; intro v8 w8 hown8 hgrow8 hnil; clear hnil; obtain ⟨ao8, cp8, hv8, -, -, -⟩ := row_slice hown8; subst hv8; have nx8 := (keeps_rowM hgrow8).at_ (heap_old H.out.1.1 _) (row_ne_typeM H.out.1.2.2.2.1 H.out.1.1 (by decide)); have cx8 := cells_at nx8; have fx8 := free_at nx8; have lx8 := lt_of_at nx8; have H8 := Lib.hid (And.intro hown8 hgrow8); clear hown8 hgrow8 nx8 cx1 lx1 cf1 lf1)
      clear cx8 fx8 lx8
      have ha := app_field (i := 6) H.out.1.1 H.out.1.2.2.2.1 (by decide) H8.out.1 H8.out.2
      have hown := H.out.1.2.2.2.1
      have np9 := ha.2.2.at_ H.out.1.2.1 (by
        intro hm
        rcases List.mem_cons.1 hm with e | hm
        · omega
        · exact row_ne_typeM hown H.out.1.2.1 (by decide) hm)
      have nr9 := ha.2.2.at_ H.out.1.2.2.1 (by
        intro hm
        rcases List.mem_cons.1 hm with e | hm
        · omega
        · exact row_ne_typeM hown H.out.1.2.2.1 (by decide) hm)
      have kw9 := H.out.1.2.2.2.2.after ha.2.2 (fun x hx => .inr (by
        rcases List.mem_cons.1 hx with e | hx
        · omega
        · exact (World.ownsRow.lt hown x (by simpa using hx)).1))
      have H9 := Lib.hid (And.intro ha.1 (And.intro ha.2.1 (And.intro np9 (And.intro nr9 kw9))))
      clear ha hown np9 nr9 kw9 H8 H
      generalize w8.setCell ⟨xb, 6, none⟩ (.slice ao8 (k + 1) cp8) = W9 at H9 ⊢
      go_wp2_with fail
      go_roundg (m.files.length - (k + 1))
      case measure => have := Hg.out; omega
      case rel => exact ⟨k + 1, .slice ao8 (k + 1) cp8, by omega, rfl, by go_num, by rw [Hnx.out]; exact H9.out.2.1, by simpa [metaVs] using H9.out.1, H9.out.2.2⟩
    · have hkn : k = m.files.length := by omega
      subst hkn
      rw [List.take_length] at hrow
      have cx1 := cells_at nx2
      have lx1 := lt_of_at nx2
      have cr := cells_at nr
      have fr := free_at nr
      have lr := lt_of_at nr
      have se := set8 (v0 := .string m.id) (v1 := .int .i64 m.mn) (v2 := .int .i64 m.mx) (v3 := .int .i64 m.level) (v4 := .int .i64 m.series) (v5 := .int .i64 m.samples) (v6 := .slice ax m.files.length cx) (v7 := .slice ao no co) nr
      have hfilF := se.2.row hrow (fun g hg => by have := row_ne_type hrow nr (by decide) g hg; simpa using this)
      have hkwF := hkw.after se.2 (fun x hx => .inr (by simp only [List.mem_singleton] at hx; omega))
      have HF := Lib.hid (And.intro hfilF (And.intro hkwF (And.intro (cells_at se.1) (lt_of_at se.1))))
      clear se hfilF hkwF nx nx2 np nr hrow hkw hgk H0
      go_wp2_with fail
      have hc := HF.out.2.2.1
      have hl := HF.out.2.2.2
      refine bodyPost_ret (v := .agg (metaVs m (.slice ax m.files.length cx) (.slice ao no co))) ?_ rfl ⟨.slice ax m.files.length cx, rfl, HF.out.1, HF.out.2.1⟩
      simp [results, Tryz.results47, go_sem, hc, hl, metaVs]
end Go.Proofs.YtjffdcflkkgpfaaGreat
