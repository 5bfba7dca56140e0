/-
  ship.Noted: where nothing was noted, and where one block was.
  The meta is one that may be.
-/
import Derived.Test.YtaebpbkiaihhdaaGreatDoorFrameAll
import Derived.Test.YtaebpbkiaihhdaaGreatDoorShipDisk
namespace Go.Proofs.YtaebpbkiaihhdaaGreatDoor
open Go Go.RowKit

/-- 'shp-' -/
def shpB : ByteArray := ⟨#[115, 104, 112, 45]⟩

theorem infoSent : (Tryz.prog.info? 58).map (fun i => (i.zero, i.size, i.bytes)) = some (some (.agg #[.string ⟨#[]⟩, .int .i64 0, .int .i64 0, .int .i64 0, .int .i64 0, .int .i64 0, .slice none 0 0, .slice none 0 0, .int .i64 0]), 9, 112) := by kernel_rfl

set_option linter.unusedSimpArgs false in
set_option maxRecDepth 100000 in
set_option maxHeartbeats 1000000 in
theorem noted_none (w : World) (d f c mb : Nat) (armed : Bool) (Q : List (Int × Bool)) (room : Nat) (o : List (ByteArray × Ob)) (h : DiskAt w d f c mb armed Q room o) (hk : ∀ p ∈ o, p.1.size ≤ maxLen) (hl : o.length * 16 ≤ 140737488355328) (hn : names o shpB = []) :
    Calls Tryz.prog 22 #[.pointer (some ⟨d, 0, none⟩)] w fun e w' => e = .returned (.slice none 0 0) ∧ Keeps [] w w' := by
  have Hl := Lib.hid (listD_spec w d f c mb armed Q room o h shpB hk hl)
  rw [hn] at Hl
  clear h hk hl hn
  go_enter Tryz.func22, Tryz.ntmps22
  go_wp2_with fail
  refine Hl.out.mono ?_
  rintro e w1 ⟨v, rfl, hrow, hk1⟩
  obtain ⟨av, cv, rfl, -, -, -⟩ := row_slice hrow
  rw [show (([] : List ByteArray).length) = 0 from rfl]
  have Hk1 := Lib.hid hk1
  clear hk1 hrow
  go_wp2_with fail
  go_loopg [3, 19] 0 (fun gk u3 u wr => gk = 0 ∧ u3 = .slice none 0 0 ∧ u = .int .i64 0 ∧ Keeps [] w wr)
  case atStart => exact ⟨rfl, rfl, rfl, Hk1.out⟩
  case round =>
    obtain ⟨-, rfl, rfl, hkr⟩ := hrel
    have HK := Lib.hid hkr
    clear hkr
    go_wp2_with fail
    go_ret
    exact ⟨rfl, HK.out⟩

def NoteRec (M : MetaS) (a : Nat) : List (UInt8 × ByteArray) := [(1, ⟨(metaL M).toArray⟩), (2, ⟨(textL M.id.data.toList ++ lebL a).toArray⟩)]

theorem noteT_frames (M : MetaS) (a : Nat) : (noteT M a).data.toList = framesL (NoteRec M a) := by
  unfold noteT framesL NoteRec encM markL
  simp

def NotedRel (w : World) (M : MetaS) (a : Nat) (gk : Nat) (u3 u19 : Value) (wr : World) : Prop :=
  Keeps [] w wr ∧ (gk = 1 ∧ u19 = .int .i64 0 ∧ u3 = .slice none 0 0 ∨ gk = 0 ∧ u19 = .int .i64 1 ∧ ∃ vf vo, wr.ownsRow w.heap.size 58 9 u3 1 (metaCs M vf vo ++ [.int .i64 a]))

def NotedPost (w : World) (M : MetaS) (a : Nat) (e : Ending) (w' : World) : Prop := ∃ v vf vo, e = .returned v ∧ w'.ownsRow w.heap.size 58 9 v 1 (metaCs M vf vo ++ [.int .i64 a]) ∧ Keeps [] w w'

set_option linter.unusedSimpArgs false in
set_option maxRecDepth 100000 in
set_option maxHeartbeats 4000000 in
theorem noted_one (w : World) (d f c mb : Nat) (armed : Bool) (Q : List (Int × Bool)) (room : Nat) (o : List (ByteArray × Ob)) (h : DiskAt w d f c mb armed Q room o) (hk : ∀ p ∈ o, p.1.size ≤ maxLen) (hl : o.length * 16 ≤ 140737488355328) (M : MetaS) (hok : MetaOk M) (a : Nat) (ha : a ≤ 1099511627776) (hn : names o shpB = [noteB M.id]) (x : Int) (hx : look o (noteB M.id) = some (noteT M a, x)) :
    Calls Tryz.prog 22 #[.pointer (some ⟨d, 0, none⟩)] w (NotedPost w M a) := by
  obtain ⟨ii, hii, hz0, hz1, hz2⟩ := info_parts infoSent
  have Hl := Lib.hid (listD_spec w d f c mb armed Q room o h shpB hk hl)
  rw [hn] at Hl
  have hid16 := id16 hok.id
  have hm16 : M.id.data.toList.length = 16 := by rw [dsize]; exact hid16
  have hem : (encM M).size ≤ 3000 := frame_meta_len hok
  obtain ⟨mk, hmk⟩ : ∃ b : ByteArray, b = ⟨(markL M.id.data.toList a).toArray⟩ := ⟨_, rfl⟩
  have hmz : mk.size ≤ 100 := by rw [hmk]; exact markL_len hm16 ha
  have hml : (metaL M).length ≤ 3000 := by
    have := frame_meta_len hok
    rw [frameL_len] at this
    omega
  obtain ⟨em, hemm⟩ : ∃ em, em = encM M := ⟨_, rfl⟩
  have hT : noteT M a = em ++ mk := by unfold noteT; rw [hemm, hmk]
  rw [← hemm] at hem
  have hTz : (em ++ mk).size = em.size + mk.size := ByteArray.size_append
  have hrd := fun W (hk : Keeps [] w W) => read_spec W d f c mb armed Q room o (h.same hk) (noteB M.id)
  rw [hx] at hrd
  rw [show (obOr (some (noteT M a, x))).1 = em ++ mk from hT] at hrd
  have hall : ∀ W, Calls Tryz.prog 47 #[.string (em ++ mk)] W (AllPost W (NoteRec M a)) := fun W => all_spec W (em ++ mk) (NoteRec M a) (by rw [← hT]; exact noteT_frames M a) (by omega) (by show 2 ≤ 2; decide) (fun r hr => by
    unfold NoteRec at hr
    rcases List.mem_cons.1 hr with rfl | hr
    · exact Nat.le_trans hml (by decide)
    · obtain rfl : r = (2, ⟨(textL M.id.data.toList ++ lebL a).toArray⟩) := by simpa using hr
      have : (markL M.id.data.toList a).length ≤ 100 := markL_len hm16 ha
      unfold markL at this
      rw [frameL_len] at this
      show (textL M.id.data.toList ++ lebL a).length ≤ 10000
      omega)
  have happ : ∀ W, Calls Tryz.prog 48 #[.slice none 0 0, .agg #[.int .u8 (1 : Nat), .string ⟨(metaL M).toArray⟩]] W (BufPost W (.slice none 0 0) ([] ++ frameL 1 (metaL M))) := fun W => frameAppend_spec W (.slice none 0 0) [] 1 ⟨(metaL M).toArray⟩ (by show 0 + (metaL M).length ≤ _; omega) (buf_nil W)
  have hdec : ∀ W, Calls Tryz.prog 49 #[.string em] W (DecYPost W M) := fun W => by rw [hemm]; exact decodeY_spec W M hok
  have hmark : ∀ W, Calls Tryz.prog 50 #[.string mk] W fun e w' => e = .returned (.tuple #[.string M.id, .int .i64 a, .int .i64 0]) ∧ Keeps [] W w' := fun W => by
    have := decodeMark_spec W mk (by omega)
    rw [hmk, show (⟨(markL M.id.data.toList a).toArray⟩ : ByteArray).data.toList = markL M.id.data.toList a from rfl, unmark_mark hok.id ha] at this
    rw [hmk]
    exact this
  have hfl : (frameL 1 (metaL M)).length = em.size := by rw [hemm]; rfl
  have hx1 : (em ++ mk).extract 0 em.size = em := by rw [ByteArray.extract_append_eq_left rfl]
  have hx2 : (em ++ mk).extract em.size (em.size + mk.size) = mk := by
    rw [ByteArray.extract_append_eq_right rfl rfl]
  obtain ⟨T, hTT⟩ : ∃ T, T = em ++ mk := ⟨_, rfl⟩
  rw [← hTT] at hTz hrd hall hx1 hx2
  have Hrd := Lib.hid hrd
  have Hall := Lib.hid hall
  have Happ := Lib.hid happ
  have Hdec := Lib.hid hdec
  have Hmark := Lib.hid hmark
  have Hx := Lib.hid (And.intro hx1 (And.intro hx2 (And.intro hfl hTz)))
  clear h hk hl hn hx hm16 hmk hml hemm hT hrd hall happ hdec hmark hx1 hx2 hTT hfl
  go_enter Tryz.func22, Tryz.ntmps22
  go_wp2_with fail
  refine Hl.out.mono ?_
  rintro e w1 ⟨v, rfl, hrow, hk1⟩
  obtain ⟨av, cv, rfl, -, -, -⟩ := row_slice hrow
  rw [show (([noteB M.id] : List ByteArray).length) = 1 from rfl] at hrow ⊢
  have H1 := Lib.hid (And.intro hrow hk1)
  clear hk1 hrow
  go_wp2_with fail
  go_loopg [3, 19] 1 (NotedRel w1 M a)
  case atStart => exact ⟨Keeps.refl _ _, .inl ⟨rfl, rfl, rfl⟩⟩
  case round =>
    obtain ⟨hkr, ⟨hgk, rfl, rfl⟩ | ⟨hgk, rfl, vf, vo, hown⟩⟩ := hrel
    · have hcn : ∃ g, av = some ⟨g, 0, none⟩ ∧ wr.cell? ⟨g, 0, none⟩ = some (.string (noteB M.id)) ∧ g < wr.heap.size := by
        obtain ⟨-, ⟨e, _⟩ | ⟨g, cp, cur, e, -⟩⟩ := id H1.out.1
        · cases e
        · injection e with e _ _
          subst e
          have hlt := (World.ownsRow.lt H1.out.1 g rfl).2
          refine ⟨g, rfl, ?_, hkr.lt hlt⟩
          rw [hkr.cell hlt (by simp), World.ownsRow.cellAt H1.out.1 0 (by decide)]
          rfl
      obtain ⟨g, rfl, cg, lg⟩ := hcn
      have Hr := Lib.hid (And.intro hgk hkr)
      clear hgk hkr
      go_wp2_with fail
      refine (Hrd.out wr (H1.out.2.trans Hr.out.2)).mono ?_
      rintro e w2 ⟨rfl, hk2⟩
      rw [show (if (some (noteT M a, x)).isSome = true then (0 : Int) else 5) = 0 from rfl]
      have H2 := Lib.hid (Hr.out.2.trans hk2)
      clear hk2 cg lg
      go_wp2_with fail
      refine (Hall.out w2).mono ?_
      rintro e w3 ⟨v3, n3, rfl, hrow3, hk3⟩
      obtain ⟨a3, c3, rfl, -, -, -⟩ := row_slice hrow3
      rw [show (NoteRec M a).length = 2 from rfl] at hrow3 ⊢
      have hc3 : ∃ g, a3 = some ⟨g, 0, none⟩ ∧ w3.cell? ⟨g, 0, none⟩ = some (.int .u8 (1 : Nat)) ∧ w3.cell? ⟨g, 1, none⟩ = some (.string ⟨(metaL M).toArray⟩) ∧ g < w3.heap.size := by
        obtain ⟨-, ⟨e, _⟩ | ⟨g, cp, cur, e, -⟩⟩ := id hrow3
        · cases e
        · injection e with e _ _
          subst e
          refine ⟨g, rfl, ?_, ?_, (World.ownsRow.lt hrow3 g rfl).2⟩
          · rw [World.ownsRow.cellAt hrow3 0 (by decide)]; rfl
          · rw [World.ownsRow.cellAt hrow3 1 (by decide)]; rfl
      obtain ⟨g3, rfl, cg0, cg1, lg3⟩ := hc3
      have H3 := Lib.hid (H2.out.trans hk3)
      clear hrow3 hk3
      go_wp2_with fail
      refine (Happ.out w3).mono ?_
      rintro e w4 ⟨v4, rfl, hb4, ht4⟩
      have hk4 := (ht4.fresh (Keeps.refl [] _) (by simp [Value.ownBlock])).1
      rw [List.nil_append] at hb4
      obtain ⟨a4, c4, rfl, -, -, -⟩ := row_slice hb4
      rw [Hx.out.2.2.1]
      have H4 := Lib.hid (H3.out.trans hk4)
      clear hb4 ht4 hk4 cg0 cg1 lg3
      go_wp2_with fail
      rw [Hx.out.1]
      refine (Hdec.out w4).mono ?_
      rintro e w5 ⟨vs, rfl, ⟨vf, vo, rfl, r1, r2⟩, hk5⟩
      obtain ⟨af, cf, rfl, -, -, -⟩ := row_slice r1
      obtain ⟨ao, co, rfl, -, -, -⟩ := row_slice r2
      obtain ⟨q, hq⟩ : ∃ q, q = w5.heap.size := ⟨_, rfl⟩
      obtain ⟨W6, hW6⟩ : ∃ W, W = w5.alloc (.cells #[.string M.id, .int .i64 M.mn, .int .i64 M.mx, .int .i64 M.level, .int .i64 M.series, .int .i64 M.samples, .slice af M.files.length cf, .slice ao M.sources.length co] 26) := ⟨_, rfl⟩
      have k6 : Keeps [] w5 W6 := by rw [hW6]; exact (Keeps.refl [] _).alloc _
      have n6 : W6.heap[q]? = some (.cells #[.string M.id, .int .i64 M.mn, .int .i64 M.mx, .int .i64 M.level, .int .i64 M.series, .int .i64 M.samples, .slice af M.files.length cf, .slice ao M.sources.length co] 26 (0, 0)) := by rw [hW6, hq]; exact heap_new _ _
      have H6 := Lib.hid (And.intro n6 ((H4.out.trans hk5).trans k6))
      clear r1 r2 hk5 k6 n6
      go_wp2_with fail
      rw [← hq, ← hW6, Hx.out.2.1]
      clear hq hW6
      refine (Hmark.out W6).mono ?_
      rintro e w7 ⟨rfl, hk7⟩
      have n7 := hk7.at_ H6.out.1 (by simp)
      have H7 := Lib.hid (H6.out.2.trans hk7)
      have c7 := cells_at n7
      have l7 := lt_of_at n7
      have hsz := H7.out.size
      clear n7 hk7
      go_wp2_with (at_builtin; refine wpList_append_own _ rfl (.tmp 69) (.tmp 73) 60 rfl w1.heap.size 58 ii _ 9 112 Tryz.underlying60 hii hz0 hz1 hz2 rfl (by decide) (.slice none 0 0) 0 [] rfl (World.ownsRow_nil _ _ _ 9) ⟨w7.heap.size, 0, none⟩ 1 1 [.string M.id, .int .i64 M.mn, .int .i64 M.mx, .int .i64 M.level, .int .i64 M.series, .int .i64 M.samples, .slice af M.files.length cf, .slice ao M.sources.length co, .int .i64 a] rfl rfl (news_of (heap_new w7 _)) (by simp [Value.oneCell']) (by simp only [maxLen]; omega) (by omega) (by simp; omega) ?_; intro v8 w8 hown8 hgrow8 hnil; clear hnil)
      have hk8 : Keeps [] w1 w8 := keeps_grownM (H7.out.alloc _) hgrow8 (by simp [Value.ownBlock])
      go_roundg 0
      case measure => have := Hr.out.1; omega
      case rel => exact ⟨hk8, .inr ⟨rfl, by go_num, .slice af M.files.length cf, .slice ao M.sources.length co, by simpa [metaCs] using hown8⟩⟩
    · have H2 := Lib.hid (And.intro hkr hown)
      clear hgk hkr hown
      go_wp2_with fail
      go_ret
      exact ⟨_, vf, vo, rfl, row_base H2.out.2 H1.out.2.size, H1.out.2.trans H2.out.1⟩
end Go.Proofs.YtaebpbkiaihhdaaGreatDoor
