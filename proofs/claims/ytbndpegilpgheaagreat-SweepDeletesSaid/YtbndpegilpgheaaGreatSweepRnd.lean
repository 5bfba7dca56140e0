/-
  A round of a sweep when nothing fails (barographlaw22.round), step by step.
  The bucket's objects are parts of blocks, ticks are small.
-/
import Derived.Test.YtbndpegilpgheaaGreatSweepStepD
import Derived.Test.YtbndpegilpgheaaGreatSweepFill
namespace Go.Proofs.YtbndpegilpgheaaGreat
open Go Go.RowKit

theorem mem_gotUp {o : Bkt} {p : ByteArray × ByteArray} : ∀ {W : List ByteArray} {G : List (ByteArray × ByteArray)}, p ∈ W.foldl (fun G n => put G n (obOr (look o n)).1) G → (p.1 ∈ W ∧ p.2 = (obOr (look o p.1)).1) ∨ p ∈ G
  | [], _, h => .inr h
  | m :: W, G, h => by
    rcases mem_gotUp (W := W) h with ⟨h1, h2⟩ | h
    · exact .inl ⟨by simp [h1], h2⟩
    · rcases mem_put h with rfl | h
      · exact .inl ⟨by simp, rfl⟩
      · exact .inr h

theorem foldl_put_len {o : Bkt} : ∀ (W : List ByteArray) (G : List (ByteArray × ByteArray)), (W.foldl (fun G n => put G n (obOr (look o n)).1) G).length ≤ G.length + W.length
  | [], G => by simp
  | m :: W, G => by
    have h1 := foldl_put_len (o := o) W (put G m (obOr (look o m)).1)
    have h2 := length_put m (obOr (look o m)).1 G
    simp only [List.foldl_cons, List.length_cons]
    omega

theorem found_of {o : Bkt} {k : Nat} (h : Parted o k) (hk : k ≤ 1000) {now : Int} (hn : 0 ≤ now ∧ now ≤ 1099511627776) (wt : List ByteArray) (j : Nat) : Found ⟨true, now, listing o ⟨#[]⟩, wt, gotUp o ((waitR o).take j)⟩ := by
  have hmem : ∀ x ∈ gotUp o ((waitR o).take j), x.1 ∈ o.map (·.1) ∧ x.2 = (obOr (look o x.1)).1 := by
    intro x hx
    rcases mem_gotUp hx with ⟨h1, h2⟩ | h1
    · exact ⟨(mem_wait.1 (List.mem_of_mem_take h1)).1, h2⟩
    · cases h1
  refine ⟨fun x hx => ?_, ?_, listing_nodup h.nodup, fun x hx => ?_, ?_, fun id t ht => ?_, fun _ => hn⟩
  · have hx := listing_of hx
    have h1 := h.key x hx
    have h2 := h.obj x hx
    omega
  · show (listing o ⟨#[]⟩).length ≤ 1000
    rw [listing_len]
    have := h.len
    omega
  · obtain ⟨h1, h2⟩ := hmem x hx
    obtain ⟨p, hp, e⟩ := List.mem_map.1 h1
    have h3 := h.key p hp
    have h4 := h.data x.1
    rw [e] at h3
    rw [← h2] at h4
    omega
  · have h1 := foldl_put_len (o := o) ((waitR o).take j) []
    have h2 := wait_len (o := o)
    have h3 := h.len
    have h4 : ((waitR o).take j).length ≤ (waitR o).length := by rw [List.length_take]; exact Nat.min_le_right _ _
    have h5 : (gotUp o ((waitR o).take j)).length ≤ ([] : List (ByteArray × ByteArray)).length + ((waitR o).take j).length := h1
    simp only [List.length_nil] at h5
    show (gotUp o ((waitR o).take j)).length ≤ 1000
    omega
  · have ht' : markOf (gotUp o ((waitR o).take j)) id = some t := ht
    unfold markOf at ht'
    cases hl : look (gotUp o ((waitR o).take j)) (objectB id markB) with
    | none => rw [hl] at ht'; cases ht'
    | some dt =>
      rw [hl] at ht'
      obtain ⟨h1, h2⟩ := hmem _ (look_mem hl)
      obtain ⟨x, hx⟩ := look_isSome h1
      simp only at h1 h2
      rw [hx] at h2
      have hm : markIn o id = some t := by
        unfold markIn
        rw [hx]
        simp only [Option.bind_some] at ht' ⊢
        rw [h2] at ht'
        exact ht'
      have := h.mark id t hm
      omega


def RndStep (w : World) (b f c mb B p q gb : Nat) (cfg : Int × Int × Int) (now g0 : Int) (o : Bkt) (i : Nat) (e : Ending) (w' : World) : Prop :=
  ∃ Z o2, StepZ w b f c mb B p q gb false [] o2 Z 0 e w' ∧ Rnd cfg now g0 o i Z o2

theorem rnd_step (w : World) (b f c mb B p q gb : Nat) (cfg : Int × Int × Int) (now g0 : Int) (o o1 : Bkt) (i k : Nat) (Z : SweepS) (hR : Rnd cfg now g0 o i Z o1) (hnd : (Z.ready && Z.left.isEmpty) = false) (hb : BucketAt w b f c mb false [] o1) (hz : SweepAt w B p q gb Z) (hlow : b < B ∧ f < B ∧ c < B ∧ mb < B)
    (hv : LibVar w) (hvB : 0 < B) (hP : Parted o k) (hk : k ≤ 1000) (hn : 0 ≤ now ∧ now ≤ 1099511627776) (hc : 0 ≤ cfg.2.2) (hg : 0 ≤ g0 ∧ g0 ≤ 1000000) :
    Calls Tryz.prog 24 #[.pointer (some ⟨p, 0, none⟩), .pointer (some ⟨b, 0, none⟩), .int .i64 now] w (RndStep w b f c mb B p q gb cfg now g0 o (i + 1)) := by
  have hvn := hb.fuse.neLib hv
  have h8 := hz.2.2.2
  obtain ⟨_, _, _, _, _, _, _, h8⟩ := h8
  have hd : ∀ n, (obOr (look o n)).1.size ≤ 9223372036854775807 := fun n => by have := hP.data n; omega
  cases hR with
  | a =>
    have hst := scanStep_begin (X := p + 1) w b f c mb B q gb false [] o scan0 now hb h8 rfl hlow hv hvB hP.key hd (by have := hP.len; omega)
    have hF : Found (scanOf [] now (listing o ⟨#[]⟩) scan0) := by
      have := found_of hP hk hn (waitR o) 0
      exact this
    refine (sweepStep_scan w b f c mb B p q gb o (stA cfg g0) now hz rfl hlow hv hvB hvn _ _ _ _ hst (fun h => by cases h) hn hF).mono ?_
    intro e w' he
    exact ⟨_, _, he, rnd_first⟩
  | b j hj =>
    have hst := scanStep_get (X := p + 1) w b f c mb B q gb false [] o (stB cfg now g0 o j).scan now (waitR o)[j] ((waitR o).drop (j + 1)) hb h8 rfl (rnd_wait hj) hlow
    obtain ⟨hg1, hg2⟩ := rnd_got (cfg := cfg) (now := now) (g0 := g0) hj
    rw [hg1] at hst
    have hF : Found (gotOf (getVal [] o (waitR o)[j]) (waitR o)[j] ((waitR o).drop (j + 1)) (stB cfg now g0 o j).scan) := by
      rw [got_scan hj]
      exact found_of hP hk hn _ (j + 1)
    refine (sweepStep_scan w b f c mb B p q gb o (stB cfg now g0 o j) now hz rfl hlow hv hvB hvn _ _ _ _ hst (fun _ => ⟨hn.1, hn.2, by show now - now ≤ cfg.2.2; omega⟩) hn hF).mono ?_
    intro e w' he
    exact ⟨_, _, he, hg2⟩
  | c j hj =>
    have hj' : j < (victR cfg now o).length := by
      have : ((victR cfg now o).drop j).isEmpty = false := by simpa [stC] using hnd
      rw [List.isEmpty_eq_false_iff] at this
      have := mt List.drop_eq_nil_iff.2 this
      omega
    have hl1 := vict_len (cfg := cfg) (now := now) hP.nodup
    have hl2 := hP.len
    have := sweepStep_del w b f c mb B p q gb false [] _ (stC cfg now g0 o j) now _ _ hb hz rfl (rnd_left hj') hlow (by show 0 ≤ g0 + (j : Int) ∧ g0 + (j : Int) ≤ 1000000000; omega)
    refine this.mono ?_
    intro e w' he
    exact ⟨_, _, he, rnd_del hj'⟩
end Go.Proofs.YtbndpegilpgheaaGreat
