/-
  The library's word on slices.Sorted(maps.Keys(m)), at this program: the layings of the shelf, printed in plain words by its own tools (lay-iter, lay-plain).
-/
import Derived.Shelf.SlIter.Nil
import Derived.Shelf.SortM.Plain
import Derived.Shelf.SortM.SortNone
import Derived.Ground.GgzProg
import Derived.Ground.SlgmProg
import Derived.Shelf.SlMaps.Clone
import Derived.Ground.SlmcProg
import Derived.Test.YtkokkanklmmfmaaGreatDoorProg
set_option linter.all false
namespace Go.Proofs
open Go.RowKit Go.Maps Go.Sort Go.Shelf

def Tryz.keys138_ren : Go.Shelf.Ren := ⟨fun | 7 => 138 | 10 => 197 | n => n, fun | 23 => 194 | 26 => 9 | 3 => 212 | 28 => 209 | 0 => 0 | 27 => 208 | 33 => 186 | 4 => 4 | n => n, fun | n => n⟩
theorem Tryz.keys138 : Go.Proofs.SlLaysZ.n7 Tryz.prog Tryz.keys138_ren := {
  mixed := by kernel_rfl
  f7 := ⟨Tryz.f138.name, by decide, Tryz.func138.trans (congrArg some (by kernel_rfl))⟩
  f10 := ⟨Tryz.f197.name, by decide, Tryz.func197.trans (congrArg some (by kernel_rfl))⟩
  t0 := Tryz.underlying0
  a0 := Tryz.isAgg0
  z0 := Tryz.sizeOf0
  v0 := Tryz.zeroValue0
  t4 := Tryz.underlying4
  a4 := Tryz.isAgg4
  z4 := Tryz.sizeOf4
  v4 := Tryz.zeroValue4
  t23 := Tryz.underlying194
  a23 := Tryz.isAgg194
  z23 := Tryz.sizeOf194
  v23 := Tryz.zeroValue194
  t26 := Tryz.underlying9
  a26 := Tryz.isAgg9
  z26 := Tryz.sizeOf9
  v26 := Tryz.zeroValue9
  t27 := Tryz.underlying208
  a27 := Tryz.isAgg208
  z27 := Tryz.sizeOf208
  v27 := Tryz.zeroValue208
  t28 := Tryz.underlying209
  a28 := Tryz.isAgg209
  z28 := Tryz.sizeOf209
  v28 := Tryz.zeroValue209
  t33 := Tryz.underlying186
  a33 := Tryz.isAgg186
  z33 := Tryz.sizeOf186
  v33 := Tryz.zeroValue186 }
def Tryz.sorted137_ren : Go.Shelf.Ren := ⟨fun | 6 => 137 | 8 => 195 | 9 => 196 | 11 => 239 | 13 => 241 | 12 => 240 | 23 => 269 | 24 => 270 | 14 => 260 | 15 => 261 | 16 => 262 | 17 => 263 | 18 => 264 | 19 => 265 | 20 => 266 | 21 => 267 | 22 => 268 | 25 => 284 | 26 => 285 | 27 => 286 | 28 => 287 | 29 => 288 | 30 => 289 | 31 => 293 | n => n, fun | 26 => 9 | 28 => 209 | 24 => 32 | 0 => 0 | 3 => 3 | 37 => 294 | 48 => 319 | 50 => 321 | 4 => 4 | 40 => 312 | 39 => 311 | 45 => 316 | 5 => 5 | 9 => 9 | 51 => 330 | 55 => 278 | 57 => 338 | 58 => 129 | 33 => 186 | n => n, fun | n => n⟩
theorem Tryz.sorted137 : Go.Proofs.SlLaysZ.n6 Tryz.prog Tryz.sorted137_ren := {
  mixed := by kernel_rfl
  f6 := ⟨Tryz.f137.name, by decide, Tryz.func137.trans (congrArg some (by kernel_rfl))⟩
  f8 := ⟨Tryz.f195.name, by decide, Tryz.func195.trans (congrArg some (by kernel_rfl))⟩
  f11 := ⟨Tryz.f239.name, by decide, Tryz.func239.trans (congrArg some (by kernel_rfl))⟩
  t0 := Tryz.underlying0
  a0 := Tryz.isAgg0
  z0 := Tryz.sizeOf0
  v0 := Tryz.zeroValue0
  t24 := Tryz.underlying32
  a24 := Tryz.isAgg32
  z24 := Tryz.sizeOf32
  v24 := Tryz.zeroValue32
  t26 := Tryz.underlying9
  a26 := Tryz.isAgg9
  z26 := Tryz.sizeOf9
  v26 := Tryz.zeroValue9
  t28 := Tryz.underlying209
  a28 := Tryz.isAgg209
  z28 := Tryz.sizeOf209
  v28 := Tryz.zeroValue209
  i26 := by kernel_rfl }
def Tryz.sort196_ren : Go.Shelf.Ren := ⟨fun | 6 => 196 | 8 => 241 | 9 => 240 | 19 => 269 | 20 => 270 | 21 => 260 | 22 => 261 | 23 => 262 | 24 => 263 | 25 => 264 | 26 => 265 | 27 => 266 | 28 => 267 | 29 => 268 | 36 => 284 | 31 => 285 | 32 => 286 | 37 => 287 | 38 => 288 | 39 => 289 | 41 => 293 | n => n, fun | 27 => 32 | 29 => 9 | 3 => 3 | 32 => 294 | 26 => 32 | 0 => 0 | 44 => 319 | 46 => 321 | 4 => 4 | 36 => 312 | 35 => 311 | 41 => 316 | 5 => 5 | 9 => 9 | 53 => 330 | 57 => 278 | 63 => 338 | 64 => 129 | n => n, fun | n => n⟩
theorem Tryz.sort196 : Go.Proofs.SlLaysM.n6 Tryz.prog Tryz.sort196_ren := {
  mixed := by kernel_rfl
  f6 := ⟨Tryz.f196.name, by decide, Tryz.func196.trans (congrArg some (by kernel_rfl))⟩
  f8 := Tryz.func241.trans (congrArg some (by kernel_rfl))
  f9 := ⟨Tryz.f240.name, by decide, Tryz.func240.trans (congrArg some (by kernel_rfl))⟩
  f19 := Tryz.func269.trans (congrArg some (by kernel_rfl))
  f20 := Tryz.func270.trans (congrArg some (by kernel_rfl))
  f21 := ⟨Tryz.f260.name, by decide, Tryz.func260.trans (congrArg some (by kernel_rfl))⟩
  f22 := ⟨Tryz.f261.name, by decide, Tryz.func261.trans (congrArg some (by kernel_rfl))⟩
  f23 := ⟨Tryz.f262.name, by decide, Tryz.func262.trans (congrArg some (by kernel_rfl))⟩
  f24 := ⟨Tryz.f263.name, by decide, Tryz.func263.trans (congrArg some (by kernel_rfl))⟩
  f25 := ⟨Tryz.f264.name, by decide, Tryz.func264.trans (congrArg some (by kernel_rfl))⟩
  f26 := ⟨Tryz.f265.name, by decide, Tryz.func265.trans (congrArg some (by kernel_rfl))⟩
  f27 := ⟨Tryz.f266.name, by decide, Tryz.func266.trans (congrArg some (by kernel_rfl))⟩
  f28 := ⟨Tryz.f267.name, by decide, Tryz.func267.trans (congrArg some (by kernel_rfl))⟩
  f29 := ⟨Tryz.f268.name, by decide, Tryz.func268.trans (congrArg some (by kernel_rfl))⟩
  f31 := Tryz.func285.trans (congrArg some (by kernel_rfl))
  f32 := Tryz.func286.trans (congrArg some (by kernel_rfl))
  f36 := ⟨Tryz.f284.name, by decide, Tryz.func284.trans (congrArg some (by kernel_rfl))⟩
  f37 := ⟨Tryz.f287.name, by decide, Tryz.func287.trans (congrArg some (by kernel_rfl))⟩
  f38 := ⟨Tryz.f288.name, by decide, Tryz.func288.trans (congrArg some (by kernel_rfl))⟩
  f39 := ⟨Tryz.f289.name, by decide, Tryz.func289.trans (congrArg some (by kernel_rfl))⟩
  f41 := ⟨Tryz.f293.name, by decide, Tryz.func293.trans (congrArg some (by kernel_rfl))⟩
  t0 := Tryz.underlying0
  a0 := Tryz.isAgg0
  z0 := Tryz.sizeOf0
  v0 := Tryz.zeroValue0
  t3 := Tryz.underlying3
  a3 := Tryz.isAgg3
  z3 := Tryz.sizeOf3
  v3 := Tryz.zeroValue3
  t4 := Tryz.underlying4
  a4 := Tryz.isAgg4
  z4 := Tryz.sizeOf4
  v4 := Tryz.zeroValue4
  t5 := Tryz.underlying5
  a5 := Tryz.isAgg5
  z5 := Tryz.sizeOf5
  v5 := Tryz.zeroValue5
  t9 := Tryz.underlying9
  a9 := Tryz.isAgg9
  z9 := Tryz.sizeOf9
  v9 := Tryz.zeroValue9
  t26 := Tryz.underlying32
  a26 := Tryz.isAgg32
  z26 := Tryz.sizeOf32
  v26 := Tryz.zeroValue32
  t27 := Tryz.underlying32
  a27 := Tryz.isAgg32
  z27 := Tryz.sizeOf32
  v27 := Tryz.zeroValue32
  t29 := Tryz.underlying9
  a29 := Tryz.isAgg9
  z29 := Tryz.sizeOf9
  v29 := Tryz.zeroValue9
  t32 := Tryz.underlying294
  a32 := Tryz.isAgg294
  z32 := Tryz.sizeOf294
  v32 := Tryz.zeroValue294
  t35 := Tryz.underlying311
  a35 := Tryz.isAgg311
  z35 := Tryz.sizeOf311
  v35 := Tryz.zeroValue311
  t36 := Tryz.underlying312
  a36 := Tryz.isAgg312
  z36 := Tryz.sizeOf312
  v36 := Tryz.zeroValue312
  t41 := Tryz.underlying316
  a41 := Tryz.isAgg316
  z41 := Tryz.sizeOf316
  v41 := Tryz.zeroValue316
  t44 := Tryz.underlying319
  a44 := Tryz.isAgg319
  z44 := Tryz.sizeOf319
  v44 := Tryz.zeroValue319
  t46 := Tryz.underlying321
  a46 := Tryz.isAgg321
  z46 := Tryz.sizeOf321
  v46 := Tryz.zeroValue321
  t53 := Tryz.underlying330
  a53 := Tryz.isAgg330
  z53 := Tryz.sizeOf330
  v53 := Tryz.zeroValue330
  t57 := Tryz.underlying278
  a57 := Tryz.isAgg278
  z57 := Tryz.sizeOf278
  v57 := Tryz.zeroValue278
  t63 := Tryz.underlying338
  a63 := Tryz.isAgg338
  z63 := Tryz.sizeOf338
  v63 := Tryz.zeroValue338
  t64 := Tryz.underlying129
  a64 := Tryz.isAgg129
  z64 := Tryz.sizeOf129
  v64 := Tryz.zeroValue129 }
def Tryz.clone86_ren : Go.Shelf.Ren := ⟨fun | 5 => 86 | 7 => 143 | n => n, fun | 23 => 82 | 25 => 9 | 3 => 29 | 4 => 4 | 20 => 20 | n => n, fun | n => n⟩
theorem Tryz.clone86 : Go.Proofs.SlLaysW.n5 Tryz.prog Tryz.clone86_ren := {
  mixed := by kernel_rfl
  f5 := ⟨Tryz.f86.name, by decide, Tryz.func86.trans (congrArg some (by kernel_rfl))⟩
  f7 := Tryz.func143.trans (congrArg some (by kernel_rfl))
  t4 := Tryz.underlying4
  a4 := Tryz.isAgg4
  z4 := Tryz.sizeOf4
  v4 := Tryz.zeroValue4
  t20 := Tryz.underlying20
  a20 := Tryz.isAgg20
  z20 := Tryz.sizeOf20
  v20 := Tryz.zeroValue20
  t23 := Tryz.underlying82
  a23 := Tryz.isAgg82
  z23 := Tryz.sizeOf82
  v23 := Tryz.zeroValue82 }
def Tryz.clone142_ren : Go.Shelf.Ren := ⟨fun | 5 => 142 | 7 => 143 | n => n, fun | 23 => 194 | 25 => 9 | 3 => 212 | 4 => 4 | 20 => 20 | n => n, fun | n => n⟩
theorem Tryz.clone142 : Go.Proofs.SlLaysW.n5 Tryz.prog Tryz.clone142_ren := {
  mixed := by kernel_rfl
  f5 := ⟨Tryz.f142.name, by decide, Tryz.func142.trans (congrArg some (by kernel_rfl))⟩
  f7 := Tryz.func143.trans (congrArg some (by kernel_rfl))
  t4 := Tryz.underlying4
  a4 := Tryz.isAgg4
  z4 := Tryz.sizeOf4
  v4 := Tryz.zeroValue4
  t20 := Tryz.underlying20
  a20 := Tryz.isAgg20
  z20 := Tryz.sizeOf20
  v20 := Tryz.zeroValue20
  t23 := Tryz.underlying194
  a23 := Tryz.isAgg194
  z23 := Tryz.sizeOf194
  v23 := Tryz.zeroValue194 }


theorem Tryz.sorts137 (m : Nat) : AnyZ.SortsIn Tryz.prog Tryz.sorted137_ren Fence.wide m :=
  ⟨fun blk off cap ss W hH hblk hsz => callsIn_wide.2 (AnyM.slices_Sort_string Tryz.sort196 blk off cap ss W hH hblk hsz),
   fun p cap W => callsIn_wide.2 (AnyM.slices_Sort_string_none Tryz.sort196 p cap W)⟩

theorem Tryz.maps_Keys_138 (mb : Option Nat) (W : World) : CallsIn Fence.wide 5 Tryz.prog 138 #[.map mb] W fun e w' => e = .returned (.func (.func 197) #[] #[.pointer (some ⟨W.heap.size, 0, none⟩)]) ∧ w' = W.alloc (.cells #[.map mb] 194) :=
  AnyZ.keys_in Tryz.keys138 Fence.wide 5 trivial rfl mb W

set_option maxHeartbeats 1000000 in
theorem Tryz.slices_Sorted_keys_137_138 {H : Type} (b nn : Nat) (D0 : DataW H) (R : Value → Option (DataW H × List MemPlace)) (w : World) (hown : w.ownsMap Tryz.prog 9 R b nn D0) (hmax : Maps.size D0 ≤ maxLen) (hbytes : Maps.size D0 * 16 ≤ 140737488355328) :
    CallsIn Fence.wide 5 Tryz.prog 137 #[.func (.func 197) #[] #[.pointer (some ⟨w.heap.size, 0, none⟩)]] (w.alloc (.cells #[.map (some b)] 194)) fun e w' => ∃ (v : Value) (ss : List (List UInt8)), e = .returned v ∧ ss.Perm (strKeys D0) ∧
      w'.ownsRow (w.alloc (.cells #[.map (some b)] 194)).heap.size 9 1 v ss.length ((ss.mergeSort (fun x y => decide (x ≤ y))).map encStr) ∧ (v = .slice none 0 0 ↔ ss = []) ∧ Below (w.alloc (.cells #[.map (some b)] 194)).heap.size (w.alloc (.cells #[.map (some b)] 194)) w' := by
  have hbl := hown.lt
  have hseq : SeqGives Fence.wide 2 Tryz.prog 197 #[.pointer (some ⟨w.heap.size, 0, none⟩)] encStr (fun ss => ss.Perm (strKeys D0)) (Maps.size D0) (w.alloc (.cells #[.map (some b)] 194)) :=
    AnyZ.keys_gives (ρ := Tryz.keys138_ren) { Tryz.keys138 with } Fence.wide _ trivial rfl (by omega) w.heap.size b nn D0 _ (by simp) (by simp) (by
      obtain ⟨es, clock, hb, Ft, hs, hD⟩ := hown
      exact ⟨es, clock, (Below.heap_alloc _ _ b hbl).trans hb, Ft, hs, hD⟩)
  exact AnyZ.sorted_in Tryz.sorted137 Fence.wide 5 trivial trivial trivial trivial rfl (by omega) (Tryz.sorts137 _) (enters_of Tryz.func196 (by kernel_rfl) rfl) 197 #[.pointer (some ⟨w.heap.size, 0, none⟩)] trivial (enters_of Tryz.func197 (by kernel_rfl) rfl) _ _ hmax hbytes _ hseq

set_option maxHeartbeats 1000000 in
theorem Tryz.slices_Sorted_keys_nil_137_138 (w : World) :
    CallsIn Fence.wide 5 Tryz.prog 137 #[.func (.func 197) #[] #[.pointer (some ⟨w.heap.size, 0, none⟩)]] (w.alloc (.cells #[.map none] 194)) fun e w' => ∃ (v : Value) (ss : List (List UInt8)), e = .returned v ∧ ss = [] ∧
      w'.ownsRow (w.alloc (.cells #[.map none] 194)).heap.size 9 1 v ss.length ((ss.mergeSort (fun x y => decide (x ≤ y))).map encStr) ∧ (v = .slice none 0 0 ↔ ss = []) ∧ Below (w.alloc (.cells #[.map none] 194)).heap.size (w.alloc (.cells #[.map none] 194)) w' := by
  have hseq : SeqGives Fence.wide 2 Tryz.prog 197 #[.pointer (some ⟨w.heap.size, 0, none⟩)] encStr (fun ss : List (List UInt8) => ss = []) 0 (w.alloc (.cells #[.map none] 194)) :=
    AnyZ.keys_gives_nil (ρ := Tryz.keys138_ren) { Tryz.keys138 with } Fence.wide _ trivial rfl w.heap.size _ (by simp) (by simp)
  exact AnyZ.sorted_in Tryz.sorted137 Fence.wide 5 trivial trivial trivial trivial rfl (by omega) (Tryz.sorts137 _) (enters_of Tryz.func196 (by kernel_rfl) rfl) 197 #[.pointer (some ⟨w.heap.size, 0, none⟩)] trivial (enters_of Tryz.func197 (by kernel_rfl) rfl) _ 0 (Nat.zero_le _) (by omega) _ hseq


end Go.Proofs
