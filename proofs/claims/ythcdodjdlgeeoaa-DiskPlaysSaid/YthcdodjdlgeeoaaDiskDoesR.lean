/-
  DiskPlays: Does, of Crash.
-/
import Derived.Test.YthcdodjdlgeeoaaDiskDoesC
namespace Go.Proofs.Ythcdodjdlgeeoaa
open Go Go.RowKit Go.ChangeShapes Go.WideShapes Go.Deep

set_option linter.unusedSimpArgs false in
set_option maxRecDepth 100000 in
set_option maxHeartbeats 1000000 in
theorem doesD_crash (w : World) (d f c mb k room : Nat) (armed : Bool) (Q : List (Int × Bool)) (o : List (ByteArray × Ob)) (v : Value) (an : Int) (aa ab : ByteArray) (ad : Bool) (co : Option Addr) (cc : Nat) (ch : List Int) (hch : ∀ w', Keeps [f, c, mb, d] w w' → SliceArg 1 encN w' (.slice co ch.length cc) ch) (hci : ∀ x ∈ ch, -9223372036854775808 ≤ x ∧ x ≤ 9223372036854775807) (hk40 : k ≤ 40)
    (hD : DiskAt w d f c mb armed Q room o) (hx : RefD w v (full o) (room : Int) Q) (hinv : InvD o k) :
    Calls Try.prog 44 #[.pointer (some ⟨d, 0, none⟩), v, .agg #[.int .i64 5, .int .i64 an, .string aa, .string ab, .bool ad, .slice co ch.length cc]] w (DoesDPost w d f c mb (k + 1) room) := by
  obtain ⟨a, ca, b, cb, rfl⟩ := hx.form
  have H := Lib.hid (And.intro hD (And.intro hx hinv))
  have hlt := hD.lt
  clear hD hx hinv
  have Hch := Lib.hid (And.intro hch hci)
  clear hch hci
  go_enter Try.func44, Try.ntmps44
  go_upto_region 1 with fail
  have hk3 : Keeps [] w (((w.alloc (.cells #[.slice a (full o).length ca, .int .i64 (room : Int), .slice b Q.length cb] 96)).alloc (.cells #[.int .i64 5, .int .i64 an, .string aa, .string ab, .bool ad, .slice co ch.length cc] 70)).alloc (.cells #[.slice none 0 0, .int .i64 0, .slice none 0 0] 96)) := (((Keeps.refl [] w).alloc _).alloc _).alloc _
  obtain ⟨q0, q1, q2⟩ := new3 w (.cells #[.slice a (full o).length ca, .int .i64 (room : Int), .slice b Q.length cb] 96) (.cells #[.int .i64 5, .int .i64 an, .string aa, .string ab, .bool ad, .slice co ch.length cc] 70) (.cells #[.slice none 0 0, .int .i64 0, .slice none 0 0] 96)
  generalize (((w.alloc (.cells #[.slice a (full o).length ca, .int .i64 (room : Int), .slice b Q.length cb] 96)).alloc (.cells #[.int .i64 5, .int .i64 an, .string aa, .string ab, .bool ad, .slice co ch.length cc] 70)).alloc (.cells #[.slice none 0 0, .int .i64 0, .slice none 0 0] 96)) = W3 at hk3 q0 q1 q2 ⊢
  have c1 := cells_at q1
  have l1 := lt_of_at q1
  go_quiet ((go_at_call 14; exact quiet_same ((cut_any _ _ _ (by decide)))))
  generalize cut aa 45 = n
  generalize cut ab 50 = s
  have p0 : (W3.drewN nq).heap[w.heap.size]? = _ := q0
  have p1 : (W3.drewN nq).heap[w.heap.size + 1]? = _ := q1
  have p2 : (W3.drewN nq).heap[w.heap.size + 1 + 1]? = _ := q2
  have kp := hk3.drewN nq
  clear c1 l1 q0 q1 q2 hk3
  generalize W3.drewN nq = W4 at p0 p1 p2 kp ⊢
  have c1 := cells_at p1
  go_wp2_with fail
  have hi := H.out.2.2
  have hnd := H.out.1.nodup
  have hkey : ∀ p ∈ o, p.1.size ≤ maxLen := fun p hp => by have := hi.key p.1 (List.mem_map.2 ⟨p, hp, rfl⟩); unfold maxLen; omega
  refine (crash_spec W4 d f c mb armed Q room o (H.out.1.same kp) _ ch (fun w' k => Hch.out.1 w' ((kp.mono (by simp)).trans k)) Hch.out.2 hkey (by have := hi.len; omega) (by have := hi.usd; omega)).mono ?_
  rintro e w5 ⟨rfl, hd5, hk5⟩
  have hx5 := (H.out.2.1.keep kp).calls (H.out.1.same kp) hk5
  have hk05 : Keeps [f, c, mb, d] w w5 := (kp.mono (by simp)).after hk5 (fun q hq => .inl hq)
  replace p0 := hk5.at_ p0 (by simp; omega)
  replace p1 := hk5.at_ p1 (by simp; omega)
  replace p2 := hk5.at_ p2 (by simp; omega)
  have c0 := cells_at p0
  have c1 := cells_at p1
  have hcr := crashD_spec w5 _ (full o) (room : Int) Q (by rw [full_len]; have := hi.len; omega) hx5 (fun p hp => by
    have h1 := (full_sorts.mem p.1 p.2).1 hp
    have h2 := H.out.1.sure p.1 p.2 h1
    have h3 := look_le (n := p.1) o
    rw [h1] at h3
    simp only [obOr, Option.getD_some] at h3
    have := hi.usd
    exact ⟨h2.1, h2.2, by omega⟩) _ ch (Hch.out.1 w5 hk05) Hch.out.2
  rw [← full_crash hnd ch] at hcr
  have Hcr := Lib.hid hcr
  have Hi := Lib.hid (hi.crash ch)
  have Hd := Lib.hid (And.intro hd5 (And.intro hk05 (And.intro p0 (And.intro p1 p2))))
  clear hcr hi hd5 hk5 hx5 hk05 kp p0 p1 p2 hkey
  go_wp2_with fail
  refine Hcr.out.mono ?_
  rintro e w6 ⟨v6, rfl, hx6, hk6⟩
  obtain ⟨a6, c6, b6, d6, rfl⟩ := hx6.form
  have r2 := hk6.at_ Hd.out.2.2.2.2 (by simp)
  have hd6 := Hd.out.1.same hk6
  have hk06 : Keeps [f, c, mb, d] w w6 := Hd.out.2.1.after hk6 (by simp)
  generalize crashO ch o = o5 at hx6 hd6 Hi r2 ⊢
  have kq : Keeps [w.heap.size + 1 + 1] w6 (((w6.setCell ⟨w.heap.size + 1 + 1, 0, none⟩ (.slice a6 (full o5).length c6)).setCell ⟨w.heap.size + 1 + 1, 1, none⟩ (.int .i64 (room : Int))).setCell ⟨w.heap.size + 1 + 1, 2, none⟩ (.slice b6 ([] : List (Int × Bool)).length d6)) := (((Keeps.refl _ w6).setCell (.inl (by simp)) _).setCell (.inl (by simp)) _).setCell (.inl (by simp)) _
  have hx7 := hx6.step ⟨_, _, _, _, _, _, _, r2⟩ kq
  have hd7 := hd6.keep kq (by simp; omega) (by simp; omega) (by simp; omega) (by simp; omega)
  have hk07 : Keeps [f, c, mb, d] w _ := hk06.after kq (fun q hq => .inr (by simp only [List.mem_singleton] at hq; omega))
  have r7 := heap_cell_same (i := 2) (heap_cell_same (i := 1) (heap_cell_same (i := 0) r2 (.slice a6 (full o5).length c6)) (.int .i64 (room : Int))) (.slice b6 ([] : List (Int × Bool)).length d6)
  have Hfin := Lib.hid (And.intro hx7 (And.intro hd7 (And.intro hk07 r7)))
  have c2 := cells_at r2
  have f2 := free_at r2
  have l2 := lt_of_at r2
  clear hx6 hd6 hk06 kq hx7 hd7 hk07 r7 r2 hk6 Hd Hcr c0 c1
  go_wp2_with fail
  have hc := cells_at Hfin.out.2.2.2
  simp only [List.length_nil] at hc
  refine bodyPost_ret (v := .tuple #[.agg #[.slice a6 (full o5).length c6, .int .i64 (room : Int), .slice b6 0 d6], .bool true]) ?_ rfl ?_
  · simp [results, Try.results44, go_sem, hc, l2]
  · exact ⟨_, _, _, o5, rfl, Hfin.out.2.1, Hfin.out.1, Hi.out, Hfin.out.2.2.1⟩

end Go.Proofs.Ythcdodjdlgeeoaa
