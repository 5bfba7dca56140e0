/-
  DERIVED: THE SHELF's CONTRACTS AT THIS DUMP, IN PLAIN WORDS (tools/lay-plain.mjs out of 'YtfbmopganmljlaaIter0.lean', which tools/lay-shelf.mjs wrote): THE SAME DECLARATIONS UNDER THE SAME NAMES: 'import', 'namespace', 'open', 'def', 'theorem' AND NOTHING ELSE: no command of the shelf's: FOR A HAND-IN. Each laying: the table of numbers ('.._ren') and one theorem, a field a fact of the dump's own or the kernel's comparison; each contract: ONE APPLICATION.
-/
import Derived.Shelf.SlIter.Nil
import Derived.Shelf.SortM.Plain
import Derived.Shelf.SortM.SortNone
import Derived.Ground.GgzProg
import Derived.Ground.SlgmProg
import Derived.Test.YtfbmopganmljlaaProg
namespace Go.Proofs
open Go.Shelf
def Try.keys92_ren : Go.Shelf.Ren := ⟨fun | 7 => 92 | 10 => 127 | n => n, fun | 23 => 154 | 26 => 9 | 3 => 160 | 28 => 170 | 0 => 0 | 27 => 169 | 33 => 76 | 4 => 4 | n => n, fun | n => n⟩
theorem Try.keys92 : Go.Proofs.SlLaysZ.n7 Try.prog Try.keys92_ren := {
  mixed := by kernel_rfl
  f7 := ⟨Try.f92.name, by decide, Try.func92.trans (congrArg some (by kernel_rfl))⟩
  f10 := ⟨Try.f127.name, by decide, Try.func127.trans (congrArg some (by kernel_rfl))⟩
  t0 := Try.underlying0
  a0 := Try.isAgg0
  z0 := Try.sizeOf0
  v0 := Try.zeroValue0
  t4 := Try.underlying4
  a4 := Try.isAgg4
  z4 := Try.sizeOf4
  v4 := Try.zeroValue4
  t23 := Try.underlying154
  a23 := Try.isAgg154
  z23 := Try.sizeOf154
  v23 := Try.zeroValue154
  t26 := Try.underlying9
  a26 := Try.isAgg9
  z26 := Try.sizeOf9
  v26 := Try.zeroValue9
  t27 := Try.underlying169
  a27 := Try.isAgg169
  z27 := Try.sizeOf169
  v27 := Try.zeroValue169
  t28 := Try.underlying170
  a28 := Try.isAgg170
  z28 := Try.sizeOf170
  v28 := Try.zeroValue170
  t33 := Try.underlying76
  a33 := Try.isAgg76
  z33 := Try.sizeOf76
  v33 := Try.zeroValue76 }
def Try.sorted91_ren : Go.Shelf.Ren := ⟨fun | 6 => 91 | 8 => 126 | 9 => 117 | 11 => 156 | 13 => 109 | 12 => 148 | 23 => 144 | 24 => 145 | 14 => 164 | 15 => 165 | 16 => 166 | 17 => 167 | 18 => 168 | 19 => 169 | 20 => 170 | 21 => 171 | 22 => 172 | 25 => 180 | 26 => 160 | 27 => 161 | 28 => 181 | 29 => 182 | 30 => 183 | 31 => 186 | n => n, fun | 26 => 9 | 28 => 170 | 24 => 61 | 0 => 0 | 3 => 3 | 37 => 180 | 48 => 145 | 50 => 125 | 4 => 4 | 40 => 212 | 39 => 211 | 45 => 106 | 5 => 5 | 9 => 9 | 51 => 232 | 55 => 236 | 57 => 245 | 58 => 246 | 33 => 76 | n => n, fun | n => n⟩
theorem Try.sorted91 : Go.Proofs.SlLaysZ.n6 Try.prog Try.sorted91_ren := {
  mixed := by kernel_rfl
  f6 := ⟨Try.f91.name, by decide, Try.func91.trans (congrArg some (by kernel_rfl))⟩
  f8 := ⟨Try.f126.name, by decide, Try.func126.trans (congrArg some (by kernel_rfl))⟩
  f11 := ⟨Try.f156.name, by decide, Try.func156.trans (congrArg some (by kernel_rfl))⟩
  t0 := Try.underlying0
  a0 := Try.isAgg0
  z0 := Try.sizeOf0
  v0 := Try.zeroValue0
  t24 := Try.underlying61
  a24 := Try.isAgg61
  z24 := Try.sizeOf61
  v24 := Try.zeroValue61
  t26 := Try.underlying9
  a26 := Try.isAgg9
  z26 := Try.sizeOf9
  v26 := Try.zeroValue9
  t28 := Try.underlying170
  a28 := Try.isAgg170
  z28 := Try.sizeOf170
  v28 := Try.zeroValue170
  i26 := by kernel_rfl }
def Try.sort117_ren : Go.Shelf.Ren := ⟨fun | 6 => 117 | 8 => 109 | 9 => 148 | 19 => 144 | 20 => 145 | 21 => 164 | 22 => 165 | 23 => 166 | 24 => 167 | 25 => 168 | 26 => 169 | 27 => 170 | 28 => 171 | 29 => 172 | 36 => 180 | 31 => 160 | 32 => 161 | 37 => 181 | 38 => 182 | 39 => 183 | 41 => 186 | n => n, fun | 27 => 61 | 29 => 9 | 3 => 3 | 32 => 180 | 26 => 61 | 0 => 0 | 44 => 145 | 46 => 125 | 4 => 4 | 36 => 212 | 35 => 211 | 41 => 106 | 5 => 5 | 9 => 9 | 53 => 232 | 57 => 236 | 63 => 245 | 64 => 246 | n => n, fun | n => n⟩
theorem Try.sort117 : Go.Proofs.SlLaysM.n6 Try.prog Try.sort117_ren := {
  mixed := by kernel_rfl
  f6 := ⟨Try.f117.name, by decide, Try.func117.trans (congrArg some (by kernel_rfl))⟩
  f8 := Try.func109.trans (congrArg some (by kernel_rfl))
  f9 := ⟨Try.f148.name, by decide, Try.func148.trans (congrArg some (by kernel_rfl))⟩
  f19 := Try.func144.trans (congrArg some (by kernel_rfl))
  f20 := Try.func145.trans (congrArg some (by kernel_rfl))
  f21 := ⟨Try.f164.name, by decide, Try.func164.trans (congrArg some (by kernel_rfl))⟩
  f22 := ⟨Try.f165.name, by decide, Try.func165.trans (congrArg some (by kernel_rfl))⟩
  f23 := ⟨Try.f166.name, by decide, Try.func166.trans (congrArg some (by kernel_rfl))⟩
  f24 := ⟨Try.f167.name, by decide, Try.func167.trans (congrArg some (by kernel_rfl))⟩
  f25 := ⟨Try.f168.name, by decide, Try.func168.trans (congrArg some (by kernel_rfl))⟩
  f26 := ⟨Try.f169.name, by decide, Try.func169.trans (congrArg some (by kernel_rfl))⟩
  f27 := ⟨Try.f170.name, by decide, Try.func170.trans (congrArg some (by kernel_rfl))⟩
  f28 := ⟨Try.f171.name, by decide, Try.func171.trans (congrArg some (by kernel_rfl))⟩
  f29 := ⟨Try.f172.name, by decide, Try.func172.trans (congrArg some (by kernel_rfl))⟩
  f31 := Try.func160.trans (congrArg some (by kernel_rfl))
  f32 := Try.func161.trans (congrArg some (by kernel_rfl))
  f36 := ⟨Try.f180.name, by decide, Try.func180.trans (congrArg some (by kernel_rfl))⟩
  f37 := ⟨Try.f181.name, by decide, Try.func181.trans (congrArg some (by kernel_rfl))⟩
  f38 := ⟨Try.f182.name, by decide, Try.func182.trans (congrArg some (by kernel_rfl))⟩
  f39 := ⟨Try.f183.name, by decide, Try.func183.trans (congrArg some (by kernel_rfl))⟩
  f41 := ⟨Try.f186.name, by decide, Try.func186.trans (congrArg some (by kernel_rfl))⟩
  t0 := Try.underlying0
  a0 := Try.isAgg0
  z0 := Try.sizeOf0
  v0 := Try.zeroValue0
  t3 := Try.underlying3
  a3 := Try.isAgg3
  z3 := Try.sizeOf3
  v3 := Try.zeroValue3
  t4 := Try.underlying4
  a4 := Try.isAgg4
  z4 := Try.sizeOf4
  v4 := Try.zeroValue4
  t5 := Try.underlying5
  a5 := Try.isAgg5
  z5 := Try.sizeOf5
  v5 := Try.zeroValue5
  t9 := Try.underlying9
  a9 := Try.isAgg9
  z9 := Try.sizeOf9
  v9 := Try.zeroValue9
  t26 := Try.underlying61
  a26 := Try.isAgg61
  z26 := Try.sizeOf61
  v26 := Try.zeroValue61
  t27 := Try.underlying61
  a27 := Try.isAgg61
  z27 := Try.sizeOf61
  v27 := Try.zeroValue61
  t29 := Try.underlying9
  a29 := Try.isAgg9
  z29 := Try.sizeOf9
  v29 := Try.zeroValue9
  t32 := Try.underlying180
  a32 := Try.isAgg180
  z32 := Try.sizeOf180
  v32 := Try.zeroValue180
  t35 := Try.underlying211
  a35 := Try.isAgg211
  z35 := Try.sizeOf211
  v35 := Try.zeroValue211
  t36 := Try.underlying212
  a36 := Try.isAgg212
  z36 := Try.sizeOf212
  v36 := Try.zeroValue212
  t41 := Try.underlying106
  a41 := Try.isAgg106
  z41 := Try.sizeOf106
  v41 := Try.zeroValue106
  t44 := Try.underlying145
  a44 := Try.isAgg145
  z44 := Try.sizeOf145
  v44 := Try.zeroValue145
  t46 := Try.underlying125
  a46 := Try.isAgg125
  z46 := Try.sizeOf125
  v46 := Try.zeroValue125
  t53 := Try.underlying232
  a53 := Try.isAgg232
  z53 := Try.sizeOf232
  v53 := Try.zeroValue232
  t57 := Try.underlying236
  a57 := Try.isAgg236
  z57 := Try.sizeOf236
  v57 := Try.zeroValue236
  t63 := Try.underlying245
  a63 := Try.isAgg245
  z63 := Try.sizeOf245
  v63 := Try.zeroValue245
  t64 := Try.underlying246
  a64 := Try.isAgg246
  z64 := Try.sizeOf246
  v64 := Try.zeroValue246 }
open Go.RowKit Go.Maps Go.Sort in
/-- slices.Sort's two contracts at this dump, at the fence that asks nothing. -/
theorem Try.sorts91 (m : Nat) : AnyZ.SortsIn Try.prog Try.sorted91_ren Fence.wide m :=
  ⟨fun blk off cap ss W hH hblk hsz => callsIn_wide.2 (AnyM.slices_Sort_string Try.sort117 blk off cap ss W hH hblk hsz),
   fun p cap W => callsIn_wide.2 (AnyM.slices_Sort_string_none Try.sort117 p cap W)⟩
open Go.RowKit Go.Maps Go.Sort in
/-- **maps.Keys[map[string]barograph/bucket.object,string,barograph/bucket.object], at whatever map, the nil one too:** a function value over ONE NEW BLOCK, which holds the map. -/
theorem Try.maps_Keys_92 (mb : Option Nat) (W : World) : CallsIn Fence.wide 5 Try.prog 92 #[.map mb] W fun e w' => e = .returned (.func (.func 127) #[] #[.pointer (some ⟨W.heap.size, 0, none⟩)]) ∧ w' = W.alloc (.cells #[.map mb] 154) :=
  AnyZ.keys_in Try.keys92 Fence.wide 5 trivial rfl mb W
open Go.RowKit Go.Maps Go.Sort in
/-- **slices.Sorted[string] AT WHAT maps.Keys[map[string]barograph/bucket.object,string,barograph/bucket.object] HANDED BACK FOR A MAP THAT IS NOT nil** ('w': the world AHEAD of maps.Keys' call): A NEW SLICE THAT HOLDS THE MAP's KEYS, SORTED; nil just where it has none; nothing that lay before has turned. -/
theorem Try.slices_Sorted_keys_91_92 {H : Type} (b nn : Nat) (D0 : DataW H) (R : Value → Option (DataW H × List MemPlace)) (w : World) (hown : w.ownsMap Try.prog 9 R b nn D0) (hmax : Maps.size D0 ≤ maxLen) (hbytes : Maps.size D0 * 16 ≤ 140737488355328) :
    CallsIn Fence.wide 5 Try.prog 91 #[.func (.func 127) #[] #[.pointer (some ⟨w.heap.size, 0, none⟩)]] (w.alloc (.cells #[.map (some b)] 154)) fun e w' => ∃ (v : Value) (ss : List (List UInt8)), e = .returned v ∧ ss.Perm (strKeys D0) ∧
      w'.ownsRow (w.alloc (.cells #[.map (some b)] 154)).heap.size 9 1 v ss.length ((ss.mergeSort (fun x y => decide (x ≤ y))).map encStr) ∧ (v = .slice none 0 0 ↔ ss = []) ∧ Below (w.alloc (.cells #[.map (some b)] 154)).heap.size (w.alloc (.cells #[.map (some b)] 154)) w' := by
  have hbl := hown.lt
  have hseq : SeqGives Fence.wide 2 Try.prog 127 #[.pointer (some ⟨w.heap.size, 0, none⟩)] encStr (fun ss => ss.Perm (strKeys D0)) (Maps.size D0) (w.alloc (.cells #[.map (some b)] 154)) :=
    AnyZ.keys_gives (ρ := Try.keys92_ren) { Try.keys92 with } Fence.wide _ trivial rfl (by omega) w.heap.size b nn D0 _ (by simp) (by simp) (by
      obtain ⟨es, clock, hb, Ft, hs, hD⟩ := hown
      exact ⟨es, clock, (Below.heap_alloc _ _ b hbl).trans hb, Ft, hs, hD⟩)
  exact AnyZ.sorted_in Try.sorted91 Fence.wide 5 trivial trivial trivial trivial rfl (by omega) (Try.sorts91 _) (enters_of Try.func117 (by kernel_rfl) rfl) 127 #[.pointer (some ⟨w.heap.size, 0, none⟩)] trivial (enters_of Try.func127 (by kernel_rfl) rfl) _ _ hmax hbytes _ hseq
open Go.RowKit Go.Maps Go.Sort in
/-- **.. AND FOR THE nil MAP: nil.** -/
theorem Try.slices_Sorted_keys_nil_91_92 (w : World) :
    CallsIn Fence.wide 5 Try.prog 91 #[.func (.func 127) #[] #[.pointer (some ⟨w.heap.size, 0, none⟩)]] (w.alloc (.cells #[.map none] 154)) fun e w' => ∃ (v : Value) (ss : List (List UInt8)), e = .returned v ∧ ss = [] ∧
      w'.ownsRow (w.alloc (.cells #[.map none] 154)).heap.size 9 1 v ss.length ((ss.mergeSort (fun x y => decide (x ≤ y))).map encStr) ∧ (v = .slice none 0 0 ↔ ss = []) ∧ Below (w.alloc (.cells #[.map none] 154)).heap.size (w.alloc (.cells #[.map none] 154)) w' := by
  have hseq : SeqGives Fence.wide 2 Try.prog 127 #[.pointer (some ⟨w.heap.size, 0, none⟩)] encStr (fun ss : List (List UInt8) => ss = []) 0 (w.alloc (.cells #[.map none] 154)) :=
    AnyZ.keys_gives_nil (ρ := Try.keys92_ren) { Try.keys92 with } Fence.wide _ trivial rfl w.heap.size _ (by simp) (by simp)
  exact AnyZ.sorted_in Try.sorted91 Fence.wide 5 trivial trivial trivial trivial rfl (by omega) (Try.sorts91 _) (enters_of Try.func117 (by kernel_rfl) rfl) 127 #[.pointer (some ⟨w.heap.size, 0, none⟩)] trivial (enters_of Try.func127 (by kernel_rfl) rfl) _ 0 (Nat.zero_le _) (by omega) _ hseq
def Try.keys104_ren : Go.Shelf.Ren := ⟨fun | 7 => 104 | 10 => 135 | n => n, fun | 23 => 30 | 26 => 9 | 3 => 129 | 28 => 170 | 0 => 0 | 27 => 169 | 33 => 76 | 4 => 4 | n => n, fun | n => n⟩
theorem Try.keys104 : Go.Proofs.SlLaysZ.n7 Try.prog Try.keys104_ren := {
  mixed := by kernel_rfl
  f7 := ⟨Try.f104.name, by decide, Try.func104.trans (congrArg some (by kernel_rfl))⟩
  f10 := ⟨Try.f135.name, by decide, Try.func135.trans (congrArg some (by kernel_rfl))⟩
  t0 := Try.underlying0
  a0 := Try.isAgg0
  z0 := Try.sizeOf0
  v0 := Try.zeroValue0
  t4 := Try.underlying4
  a4 := Try.isAgg4
  z4 := Try.sizeOf4
  v4 := Try.zeroValue4
  t23 := Try.underlying30
  a23 := Try.isAgg30
  z23 := Try.sizeOf30
  v23 := Try.zeroValue30
  t26 := Try.underlying9
  a26 := Try.isAgg9
  z26 := Try.sizeOf9
  v26 := Try.zeroValue9
  t27 := Try.underlying169
  a27 := Try.isAgg169
  z27 := Try.sizeOf169
  v27 := Try.zeroValue169
  t28 := Try.underlying170
  a28 := Try.isAgg170
  z28 := Try.sizeOf170
  v28 := Try.zeroValue170
  t33 := Try.underlying76
  a33 := Try.isAgg76
  z33 := Try.sizeOf76
  v33 := Try.zeroValue76 }
open Go.RowKit Go.Maps Go.Sort in
/-- **maps.Keys[map[string]barograph/disk.file,string,barograph/disk.file], at whatever map, the nil one too:** a function value over ONE NEW BLOCK, which holds the map. -/
theorem Try.maps_Keys_104 (mb : Option Nat) (W : World) : CallsIn Fence.wide 5 Try.prog 104 #[.map mb] W fun e w' => e = .returned (.func (.func 135) #[] #[.pointer (some ⟨W.heap.size, 0, none⟩)]) ∧ w' = W.alloc (.cells #[.map mb] 30) :=
  AnyZ.keys_in Try.keys104 Fence.wide 5 trivial rfl mb W
open Go.RowKit Go.Maps Go.Sort in
/-- **slices.Sorted[string] AT WHAT maps.Keys[map[string]barograph/disk.file,string,barograph/disk.file] HANDED BACK FOR A MAP THAT IS NOT nil** ('w': the world AHEAD of maps.Keys' call): A NEW SLICE THAT HOLDS THE MAP's KEYS, SORTED; nil just where it has none; nothing that lay before has turned. -/
theorem Try.slices_Sorted_keys_91_104 {H : Type} (b nn : Nat) (D0 : DataW H) (R : Value → Option (DataW H × List MemPlace)) (w : World) (hown : w.ownsMap Try.prog 9 R b nn D0) (hmax : Maps.size D0 ≤ maxLen) (hbytes : Maps.size D0 * 16 ≤ 140737488355328) :
    CallsIn Fence.wide 5 Try.prog 91 #[.func (.func 135) #[] #[.pointer (some ⟨w.heap.size, 0, none⟩)]] (w.alloc (.cells #[.map (some b)] 30)) fun e w' => ∃ (v : Value) (ss : List (List UInt8)), e = .returned v ∧ ss.Perm (strKeys D0) ∧
      w'.ownsRow (w.alloc (.cells #[.map (some b)] 30)).heap.size 9 1 v ss.length ((ss.mergeSort (fun x y => decide (x ≤ y))).map encStr) ∧ (v = .slice none 0 0 ↔ ss = []) ∧ Below (w.alloc (.cells #[.map (some b)] 30)).heap.size (w.alloc (.cells #[.map (some b)] 30)) w' := by
  have hbl := hown.lt
  have hseq : SeqGives Fence.wide 2 Try.prog 135 #[.pointer (some ⟨w.heap.size, 0, none⟩)] encStr (fun ss => ss.Perm (strKeys D0)) (Maps.size D0) (w.alloc (.cells #[.map (some b)] 30)) :=
    AnyZ.keys_gives (ρ := Try.keys104_ren) { Try.keys104 with } Fence.wide _ trivial rfl (by omega) w.heap.size b nn D0 _ (by simp) (by simp) (by
      obtain ⟨es, clock, hb, Ft, hs, hD⟩ := hown
      exact ⟨es, clock, (Below.heap_alloc _ _ b hbl).trans hb, Ft, hs, hD⟩)
  exact AnyZ.sorted_in Try.sorted91 Fence.wide 5 trivial trivial trivial trivial rfl (by omega) (Try.sorts91 _) (enters_of Try.func117 (by kernel_rfl) rfl) 135 #[.pointer (some ⟨w.heap.size, 0, none⟩)] trivial (enters_of Try.func135 (by kernel_rfl) rfl) _ _ hmax hbytes _ hseq
open Go.RowKit Go.Maps Go.Sort in
/-- **.. AND FOR THE nil MAP: nil.** -/
theorem Try.slices_Sorted_keys_nil_91_104 (w : World) :
    CallsIn Fence.wide 5 Try.prog 91 #[.func (.func 135) #[] #[.pointer (some ⟨w.heap.size, 0, none⟩)]] (w.alloc (.cells #[.map none] 30)) fun e w' => ∃ (v : Value) (ss : List (List UInt8)), e = .returned v ∧ ss = [] ∧
      w'.ownsRow (w.alloc (.cells #[.map none] 30)).heap.size 9 1 v ss.length ((ss.mergeSort (fun x y => decide (x ≤ y))).map encStr) ∧ (v = .slice none 0 0 ↔ ss = []) ∧ Below (w.alloc (.cells #[.map none] 30)).heap.size (w.alloc (.cells #[.map none] 30)) w' := by
  have hseq : SeqGives Fence.wide 2 Try.prog 135 #[.pointer (some ⟨w.heap.size, 0, none⟩)] encStr (fun ss : List (List UInt8) => ss = []) 0 (w.alloc (.cells #[.map none] 30)) :=
    AnyZ.keys_gives_nil (ρ := Try.keys104_ren) { Try.keys104 with } Fence.wide _ trivial rfl w.heap.size _ (by simp) (by simp)
  exact AnyZ.sorted_in Try.sorted91 Fence.wide 5 trivial trivial trivial trivial rfl (by omega) (Try.sorts91 _) (enters_of Try.func117 (by kernel_rfl) rfl) 135 #[.pointer (some ⟨w.heap.size, 0, none⟩)] trivial (enters_of Try.func135 (by kernel_rfl) rfl) _ 0 (Nat.zero_le _) (by omega) _ hseq
end Go.Proofs
