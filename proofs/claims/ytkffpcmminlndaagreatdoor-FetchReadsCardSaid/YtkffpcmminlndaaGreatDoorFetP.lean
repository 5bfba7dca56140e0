/-
  A table's rows and its block's entries, side by side, in plain words.
  No condition beyond those that each theorem states.
-/
import Derived.Test.YtkffpcmminlndaaGreatDoorFetL
namespace Go.Proofs.YtkffpcmminlndaaGreatDoor
open Go Go.RowKit

/-- The entries of a table, each with its row. -/
def entsR : Nat → TabT → List (EntP × RowT)
  | _, [] => []
  | at_, r :: A => ((r.1, at_, (chunkF r.2).length, firstT r.2, lastT r.2), r) :: entsR (at_ + (chunkF r.2).length) A

theorem entsR_fst : ∀ (at_ : Nat) (A : TabT), (entsR at_ A).map (·.1) = entsF at_ A
  | _, [] => rfl
  | at_, r :: A => by rw [entsR, List.map_cons, entsR_fst _ A, entsF]

theorem entsR_snd : ∀ (at_ : Nat) (A : TabT), (entsR at_ A).map (·.2) = A
  | _, [] => rfl
  | at_, r :: A => by rw [entsR, List.map_cons, entsR_snd _ A]

theorem entsR_at : ∀ {A : TabT} {at_ : Nat} {x : EntP × RowT}, x ∈ entsR at_ A → x.2 ∈ A ∧ x.1.1 = x.2.1 ∧ x.1.2.2.1 = (chunkF x.2.2).length ∧ x.1.2.2.2.1 = firstT x.2.2 ∧ x.1.2.2.2.2 = lastT x.2.2 ∧ ∃ C D, chunksL A = C ++ (chunkF x.2.2 ++ D) ∧ at_ + C.length = x.1.2.1
  | [], _, _, h => by cases h
  | r :: A, at_, x, h => by
    rw [entsR] at h
    rcases List.mem_cons.1 h with rfl | h
    · exact ⟨by simp, rfl, rfl, rfl, rfl, [], chunksL A, by simp [chunksL], by simp⟩
    · obtain ⟨h1, h2, h3, h4, h5, C, D, h6, h7⟩ := entsR_at h
      refine ⟨by simp [h1], h2, h3, h4, h5, chunkF r.2 ++ C, D, ?_, by rw [List.length_append]; omega⟩
      unfold chunksL at h6 ⊢
      rw [List.flatMap_cons, h6, List.append_assoc]

def wantP (fr up : Int) (L : List MatB) (A : TabT) : List (EntP × RowT) := (entsR 0 A).filter fun x => wantE fr up L x.1

theorem wantP_fst (fr up : Int) (L : List MatB) (A : TabT) : (wantP fr up L A).map (·.1) = (entsF 0 A).filter (wantE fr up L) := by
  unfold wantP
  rw [← entsR_fst 0 A, List.filter_map]
  rfl

theorem wantP_snd (fr up : Int) (L : List MatB) (A : TabT) : (wantP fr up L A).map (·.2) = wantT fr up L A := by
  unfold wantP wantT
  conv => rhs; rw [← entsR_snd 0 A]
  rw [List.filter_map]
  congr 1
  refine List.filter_congr fun x hx => ?_
  obtain ⟨-, h1, -, h2, h3, -⟩ := entsR_at hx
  show wantE fr up L x.1 = wantR fr up L x.2
  unfold wantE wantR meetsR fitR
  rw [h1, h2, h3]

theorem extract_mid (a b c : List UInt8) : (⟨(a ++ (b ++ c)).toArray⟩ : ByteArray).extract a.length (a.length + b.length) = ⟨b.toArray⟩ := by
  apply ByteArray.ext
  apply Array.ext'
  simp [ByteArray.data_extract]

/-- What a fetch finds at a wanted entry. -/
theorem BlkOk.wantAt {A : TabT} {fr0 up0 : Nat} (h : BlkOk A fr0 up0) {fr up : Int} {L : List MatB} {x : EntP × RowT} (hx : x ∈ wantP fr up L A) :
    x.1.1 = x.2.1 ∧ SmpsOk x.2.2 ∧ 0 < x.2.2.length ∧ x.2.2.length ≤ 110 ∧ 0 < x.2.1.length ∧ x.2.1.length ≤ 8 ∧ x.1.2.2.2.1 = firstT x.2.2 ∧ x.1.2.2.2.2 = lastT x.2.2 ∧ x.1.2.1 ≤ 200000 ∧ x.1.2.2.1 ≤ 3000 ∧ x.1.2.2.1 = (chunkF x.2.2).length ∧
      cutVal (chunksT A, 0) x.1.2.1 x.1.2.2.1 = (⟨(chunkF x.2.2).toArray⟩, 0) ∧ x.2.2[0]?.map (·.1) = some ((firstT x.2.2 : Nat) : Int) ∧ x.2.2[x.2.2.length - 1]?.map (·.1) = some ((lastT x.2.2 : Nat) : Int) := by
  obtain ⟨hA, h1, h2, h3, h4, C, D, h5, h6⟩ := entsR_at (List.mem_filter.1 hx).1
  obtain ⟨hl, -, -, -, -, g5, g6⟩ := h.row hA
  have hs := h.smps hA
  have hf := h.few.2 _ hA
  have hcl := chunkF_len (L := x.2.2) (by omega) hs
  have hlen := chunksL_len h.chunks
  have hA40 := h.few.1
  obtain ⟨⟨nl, hnl⟩, -⟩ := h.vals _ hA
  have hlab := labN_small nl
  rw [← hnl] at hlab
  have hCl : C.length + (chunkF x.2.2).length ≤ (chunksL A).length := by rw [h5, List.length_append, List.length_append]; omega
  refine ⟨h1, hs, hl, hf.2, hlab.2.2.2, by omega, h3, h4, by omega, by omega, h2, ?_, g5, g6⟩
  rw [Nat.zero_add] at h6
  unfold cutVal
  have hsz : (chunksT A).size = (chunksL A).length := rfl
  rw [if_neg (by dsimp only; omega)]
  dsimp only
  rw [show ((x.1.2.1 : Nat) : Int).toNat = C.length by omega, show ((x.1.2.1 : Int) + min (x.1.2.2.1 : Int) (((chunksT A).size : Int) - (x.1.2.1 : Int))).toNat = C.length + (chunkF x.2.2).length by omega]
  have e : chunksT A = ⟨(C ++ (chunkF x.2.2 ++ D)).toArray⟩ := by unfold chunksT; rw [h5]
  rw [e, extract_mid]

theorem cutVal_any (s : ByteArray) (x : Int) (a n : Int) : cutVal (s, x) a n = cutVal (s, 0) a n := rfl

theorem BlkOk.entT {A : TabT} {fr up : Nat} (h : BlkOk A fr up) : ∀ e ∈ entsF 0 A, EntT e := fun e he => by
  rw [← entsR_fst] at he
  obtain ⟨x, hx, rfl⟩ := List.mem_map.1 he
  obtain ⟨hA, h1, h2, h3, h4, C, D, h5, h6⟩ := entsR_at hx
  obtain ⟨hl, g1, g2, g3, g4, -, -⟩ := h.row hA
  have hs := h.smps hA
  have hf := h.few.2 _ hA
  have hcl := chunkF_len (L := x.2.2) (by omega) hs
  have hlen := chunksL_len h.chunks
  have hA40 := h.few.1
  have ht := h.time
  obtain ⟨⟨nl, hnl⟩, hv⟩ := h.vals _ hA
  have hlab := labN_small nl
  rw [← hnl] at hlab
  have hCl : C.length + (chunkF x.2.2).length ≤ (chunksL A).length := by rw [h5, List.length_append, List.length_append]; omega
  have hpos : 0 < (chunkF x.2.2).length := by
    unfold chunkF
    rw [frameL_len]
    omega
  refine ⟨⟨by rw [h1]; exact hlab.2.2.1, by rw [h1]; omega, fun p hp => ?_⟩, by omega, by omega, by omega, ?_, by omega⟩
  · rw [h1] at hp
    obtain ⟨i, hi, rfl⟩ := List.mem_iff_getElem.1 hp
    have h8 := chkSet_at hlab.2.2.1 i hi
    refine ⟨?_, h8.2.2.1⟩
    have h9 := h8.1
    unfold goodB at h9
    simp only [Bool.and_eq_true, decide_eq_true_eq] at h9
    exact h9.1.2
  · rw [h3, h4]
    have hp := first_le hs.1 (fun s hs' => (hs.2 s hs').1) x.2.2[0] (List.getElem_mem hl)
    omega

theorem BlkOk.entP {A : TabT} {fr up : Nat} (h : BlkOk A fr up) : (entsF 0 A).Pairwise fun a b => ltL a.1 b.1 := by
  have hg := h.good.rows
  suffices hs : ∀ (at_ : Nat) (A : TabT), (A.Pairwise fun a b => ltL a.1 b.1) → (entsF at_ A).Pairwise (fun a b => ltL a.1 b.1) ∧ ∀ e ∈ entsF at_ A, ∃ r ∈ A, e.1 = r.1 from (hs 0 A hg).1
  intro at_ A
  induction A generalizing at_ with
  | nil => exact fun _ => ⟨List.Pairwise.nil, fun e he => by cases he⟩
  | cons r A ih =>
    intro hp
    obtain ⟨h1, h2⟩ := List.pairwise_cons.1 hp
    obtain ⟨i1, i2⟩ := ih (at_ + (chunkF r.2).length) h2
    rw [entsF]
    refine ⟨List.pairwise_cons.2 ⟨fun e he => ?_, i1⟩, fun e he => ?_⟩
    · obtain ⟨q, hq, e1⟩ := i2 e he
      show ltL r.1 e.1
      rw [e1]
      exact h1 q hq
    · rcases List.mem_cons.1 he with rfl | he
      · exact ⟨r, by simp, rfl⟩
      · obtain ⟨q, hq, e1⟩ := i2 e he
        exact ⟨q, by simp [hq], e1⟩
end Go.Proofs.YtkffpcmminlndaaGreatDoor
