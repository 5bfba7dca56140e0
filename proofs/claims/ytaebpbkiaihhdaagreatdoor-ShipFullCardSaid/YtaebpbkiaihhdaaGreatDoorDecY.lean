/-
  meta.Decode at the bytes of a meta that may be.
  No condition beyond those that each theorem states.
-/
import Derived.Test.YtaebpbkiaihhdaaGreatDoorMetaTake
import Derived.Test.YtaebpbkiaihhdaaGreatDoorTabMk
namespace Go.Proofs.YtaebpbkiaihhdaaGreatDoor
open Go Go.RowKit

def DecYPost (w : World) (M : MetaS) (e : Ending) (w' : World) : Prop := ∃ vs, e = .returned (.tuple #[.agg vs.toArray, .int .i64 0]) ∧ MetaR w.heap.size w' vs M ∧ Keeps [] w w'

set_option linter.unusedSimpArgs false in
set_option maxRecDepth 100000 in
set_option maxHeartbeats 2000000 in
theorem decodeY_spec (w : World) (M : MetaS) (ok : MetaOk M) :
    Calls Tryz.prog 49 #[.string ⟨(frameL 1 (metaL M)).toArray⟩] w (DecYPost w M) := by
  obtain ⟨s, hs⟩ : ∃ s : ByteArray, s = ⟨(frameL 1 (metaL M)).toArray⟩ := ⟨_, rfl⟩
  have hsl : s.data.toList = frameL 1 (metaL M) := by rw [hs]
  have hz : s.size ≤ 3000 := by rw [← dsize, hsl]; exact frame_meta_len ok
  have hml : (metaL M).length ≤ 3000 := by
    have := frame_meta_len ok
    rw [frameL_len] at this
    omega
  have hon : onlyL s.data.toList 1 = (metaL M, 0) := by
    have h := nextF_frame 1 (metaL M) [] (by omega)
    rw [List.append_nil] at h
    unfold onlyL onlyE
    rw [hsl, h]
    rfl
  have Ho := Lib.hid (fun W => only_spec W s (by omega) 1)
  rw [hon] at Ho
  obtain ⟨ds, hds⟩ : ∃ b : ByteArray, b = ⟨(metaL M).toArray⟩ := ⟨_, rfl⟩
  have hdd : ds.data.toList = metaL M ++ [] := by rw [hds, List.append_nil]
  have hdz : ds.size ≤ 3000 := by rw [hds]; exact hml
  rw [show (⟨((metaL M, (0 : Int)) : List UInt8 × Int).1.toArray⟩ : ByteArray) = ds from hds.symm] at Ho
  have Ht := Lib.hid (fun W => take_spec W ds M [] hdd ok (by omega))
  obtain ⟨rb, hrb⟩ : ∃ n, n = w.heap.size := ⟨_, rfl⟩
  have HB := Lib.hid hrb
  have hwr : w.heap.size ≤ rb := by omega
  have n0 := heap_new w (.cells #[.string ⟨#[]⟩, .int .i64 0, .int .i64 0, .int .i64 0, .int .i64 0, .int .i64 0, .slice none 0 0, .slice none 0 0] 26)
  have k0 : Keeps [] w (w.alloc (.cells #[.string ⟨#[]⟩, .int .i64 0, .int .i64 0, .int .i64 0, .int .i64 0, .int .i64 0, .slice none 0 0, .slice none 0 0] 26)) := (Keeps.refl [] w).alloc _
  have hsz : rb < (w.alloc (.cells #[.string ⟨#[]⟩, .int .i64 0, .int .i64 0, .int .i64 0, .int .i64 0, .int .i64 0, .slice none 0 0, .slice none 0 0] 26)).heap.size := by simp; omega
  rw [← hrb] at n0
  rw [← hs]
  have H0 := Lib.hid (And.intro n0 k0)
  clear hs hsl hz hml hon hds hdd hdz hrb n0 k0
  go_enter Tryz.func49, Tryz.ntmps49
  go_wp2_with fail
  rw [← HB.out]
  generalize w.alloc (.cells #[.string ⟨#[]⟩, .int .i64 0, .int .i64 0, .int .i64 0, .int .i64 0, .int .i64 0, .slice none 0 0, .slice none 0 0] 26) = W at H0 hsz ⊢
  refine (Ho.out W).mono ?_
  rintro e w1 ⟨rfl, hk1⟩
  have nr1 := hk1.at_ H0.out.1 (by simp)
  have cr1 := cells_at nr1
  have fr1 := free_at nr1
  have lr1 := lt_of_at nr1
  have H1 := Lib.hid (And.intro nr1 (H0.out.2.trans hk1))
  clear nr1 hk1 H0
  go_wp2_with fail
  have hl1 := Lib.hid lr1
  clear cr1 fr1 lr1
  refine (Ht.out w1).mono ?_
  rintro e w3 ⟨vs, rfl, hm3, hk3⟩
  have hvs := hm3
  obtain ⟨vf, vo, rfl, hsf, hso⟩ := hvs
  obtain ⟨af, cf, rfl, -, -, -⟩ := row_slice hsf
  obtain ⟨ao, co, rfl, -, -, -⟩ := row_slice hso
  clear hsf hso
  have nr3 := hk3.at_ H1.out.1 (by simp)
  have ka : Keeps [] w3 (w3.alloc (.cells #[.string M.id, .int .i64 M.mn, .int .i64 M.mx, .int .i64 M.level, .int .i64 M.series, .int .i64 M.samples, .slice af M.files.length cf, .slice ao M.sources.length co] 26)) := (Keeps.refl [] w3).alloc _
  have na := heap_new w3 (.cells #[.string M.id, .int .i64 M.mn, .int .i64 M.mx, .int .i64 M.level, .int .i64 M.series, .int .i64 M.samples, .slice af M.files.length cf, .slice ao M.sources.length co] 26)
  have nr4 := ka.at_ nr3 (by simp)
  have k4 := (H1.out.2.trans hk3).trans ka
  have hw1 := H1.out.2.size
  have H4 := Lib.hid (And.intro nr4 (And.intro (hm3.same ka) k4))
  have cr := cells_at nr4
  have fr := free_at nr4
  have lr := lt_of_at nr4
  have ca := cells_at na
  have la := lt_of_at na
  clear nr3 ka nr4 k4 hk3 na hm3
  go_wp2_with fail
  clear cr fr lr ca la
  have se := set8 (v0 := .string M.id) (v1 := .int .i64 M.mn) (v2 := .int .i64 M.mx) (v3 := .int .i64 M.level) (v4 := .int .i64 M.series) (v5 := .int .i64 M.samples) (v6 := .slice af M.files.length cf) (v7 := .slice ao M.sources.length co) H4.out.1
  have hc := cells_at se.1
  have hlr := lt_of_at se.1
  refine bodyPost_ret (v := .tuple #[.agg #[.string M.id, .int .i64 M.mn, .int .i64 M.mx, .int .i64 M.level, .int .i64 M.series, .int .i64 M.samples, .slice af M.files.length cf, .slice ao M.sources.length co], .int .i64 0]) ?_ rfl ⟨[.string M.id, .int .i64 M.mn, .int .i64 M.mx, .int .i64 M.level, .int .i64 M.series, .int .i64 M.samples, .slice af M.files.length cf, .slice ao M.sources.length co], rfl, ?_, ?_⟩
  · simp [results, Tryz.results49, go_sem, hc, hlr]
  · exact (H4.out.2.1.keep se.2 (by simp only [List.mem_singleton]; rintro x rfl; exact hl1.out)).low hw1
  · exact H4.out.2.2.after se.2 (fun x hx => .inr (by simp only [List.mem_singleton] at hx; omega))
end Go.Proofs.YtaebpbkiaihhdaaGreatDoor
