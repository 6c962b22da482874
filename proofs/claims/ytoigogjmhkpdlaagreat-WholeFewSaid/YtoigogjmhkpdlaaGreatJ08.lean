/- A part of the proof of WholeFew: the texts Lays, Crash, Take, Structs, Sorted, Recs. -/
import Derived.Test.YtoigogjmhkpdlaaGreatJ07
import Derived.Shelf.SlIter.Nil
import Derived.Shelf.SlIterI.Nil
import Derived.Shelf.SortM.Plain
import Derived.Shelf.SortM.SortNone
set_option maxHeartbeats 1600000
set_option maxRecDepth 100000
namespace Go.Proofs.YtoigogjmhkpdlaaGreat
open Go.RowKit Go.Maps Go.Sort Go.Shelf Go.WideShapes
def keysV_ren : Go.Shelf.Ren := ⟨fun | 7 => 82 | 10 => 127 | n => n, fun | 23 => 107 | 26 => 3 | 3 => 62 | 28 => 158 | 0 => 0 | 27 => 157 | 33 => 46 | 4 => 4 | n => n, fun | n => n⟩
theorem keysV : Go.Proofs.SlLaysZI.n7 Tryz.prog keysV_ren where
  mixed := by kernel_rfl
  f7 := ⟨ "maps.Keys[map[int]shardlog/api.Vote,int,shardlog/api.Vote]", by decide, Tryz.func82.trans (congrArg some (by kernel_rfl))⟩
  f10 := ⟨ "maps.Keys[map[int]shardlog/api.Vote,int,shardlog/api.Vote]$1", by decide, Tryz.func127.trans (congrArg some (by kernel_rfl))⟩
  t0 := Tryz.underlying0
  a0 := Tryz.isAgg0
  z0 := Tryz.sizeOf0
  v0 := Tryz.zeroValue0
  t4 := Tryz.underlying4
  a4 := Tryz.isAgg4
  z4 := Tryz.sizeOf4
  v4 := Tryz.zeroValue4
  t23 := Tryz.underlying107
  a23 := Tryz.isAgg107
  z23 := Tryz.sizeOf107
  v23 := Tryz.zeroValue107
  t26 := Tryz.underlying3
  a26 := Tryz.isAgg3
  z26 := Tryz.sizeOf3
  v26 := Tryz.zeroValue3
  t27 := Tryz.underlying157
  a27 := Tryz.isAgg157
  z27 := Tryz.sizeOf157
  v27 := Tryz.zeroValue157
  t28 := Tryz.underlying158
  a28 := Tryz.isAgg158
  z28 := Tryz.sizeOf158
  v28 := Tryz.zeroValue158
  t33 := Tryz.underlying46
  a33 := Tryz.isAgg46
  z33 := Tryz.sizeOf46
  v33 := Tryz.zeroValue46
def sortedV_ren : Go.Shelf.Ren := ⟨fun | 6 => 81 | 8 => 125 | 9 => 126 | 11 => 166 | 13 => 168 | 12 => 167 | 23 => 207 | 24 => 208 | 14 => 198 | 15 => 199 | 16 => 200 | 17 => 201 | 18 => 202 | 19 => 203 | 20 => 204 | 21 => 205 | 22 => 206 | 25 => 230 | 26 => 231 | 27 => 232 | 28 => 233 | 29 => 234 | 30 => 221 | 31 => 262 | n => n, fun | 26 => 3 | 28 => 158 | 24 => 35 | 0 => 0 | 3 => 3 | 37 => 33 | 48 => 161 | 50 => 246 | 4 => 4 | 40 => 293 | 39 => 292 | 45 => 297 | 5 => 5 | 9 => 9 | 51 => 322 | 55 => 326 | 57 => 360 | 58 => 361 | 33 => 46 | n => n, fun | n => n⟩
theorem sortedV : Go.Proofs.SlLaysZI.n6 Tryz.prog sortedV_ren where
  mixed := by kernel_rfl
  f6 := ⟨ "slices.Sorted[int]", by decide, Tryz.func81.trans (congrArg some (by kernel_rfl))⟩
  f8 := ⟨ "slices.Collect[int]", by decide, Tryz.func125.trans (congrArg some (by kernel_rfl))⟩
  f11 := ⟨ "slices.AppendSeq[[]int,int]", by decide, Tryz.func166.trans (congrArg some (by kernel_rfl))⟩
  t0 := Tryz.underlying0
  a0 := Tryz.isAgg0
  z0 := Tryz.sizeOf0
  v0 := Tryz.zeroValue0
  t24 := Tryz.underlying35
  a24 := Tryz.isAgg35
  z24 := Tryz.sizeOf35
  v24 := Tryz.zeroValue35
  t26 := Tryz.underlying3
  a26 := Tryz.isAgg3
  z26 := Tryz.sizeOf3
  v26 := Tryz.zeroValue3
  t28 := Tryz.underlying158
  a28 := Tryz.isAgg158
  z28 := Tryz.sizeOf158
  v28 := Tryz.zeroValue158
  i26 := by kernel_rfl
def sortV_ren : Go.Shelf.Ren := ⟨fun | 5 => 126 | 8 => 168 | 7 => 167 | 19 => 207 | 20 => 208 | 10 => 198 | 11 => 199 | 12 => 200 | 13 => 201 | 14 => 202 | 15 => 203 | 16 => 204 | 17 => 205 | 18 => 206 | 30 => 230 | 31 => 231 | 32 => 232 | 33 => 233 | 34 => 234 | 35 => 221 | 40 => 262 | n => n, fun | 23 => 35 | 25 => 3 | 3 => 3 | 32 => 33 | 22 => 35 | 0 => 0 | 44 => 161 | 46 => 246 | 4 => 4 | 36 => 293 | 35 => 292 | 41 => 297 | 5 => 5 | 9 => 9 | 53 => 322 | 57 => 326 | 63 => 360 | 64 => 361 | n => n, fun | n => n⟩
theorem sortV : Go.Proofs.SlLaysM.n5 Tryz.prog sortV_ren where
  mixed := by kernel_rfl
  f5 := ⟨ "slices.Sort[[]int,int]", by decide, Tryz.func126.trans (congrArg some (by kernel_rfl))⟩
  f7 := ⟨ "slices.pdqsortOrdered[int]", by decide, Tryz.func167.trans (congrArg some (by kernel_rfl))⟩
  f8 := Tryz.func168.trans (congrArg some (by kernel_rfl))
  f10 := ⟨ "slices.insertionSortOrdered[int]", by decide, Tryz.func198.trans (congrArg some (by kernel_rfl))⟩
  f11 := ⟨ "slices.heapSortOrdered[int]", by decide, Tryz.func199.trans (congrArg some (by kernel_rfl))⟩
  f12 := ⟨ "slices.breakPatternsOrdered[int]", by decide, Tryz.func200.trans (congrArg some (by kernel_rfl))⟩
  f13 := ⟨ "slices.choosePivotOrdered[int]", by decide, Tryz.func201.trans (congrArg some (by kernel_rfl))⟩
  f14 := ⟨ "slices.reverseRangeOrdered[int]", by decide, Tryz.func202.trans (congrArg some (by kernel_rfl))⟩
  f15 := ⟨ "slices.partialInsertionSortOrdered[int]", by decide, Tryz.func203.trans (congrArg some (by kernel_rfl))⟩
  f16 := ⟨ "cmp.Less[int]", by decide, Tryz.func204.trans (congrArg some (by kernel_rfl))⟩
  f17 := ⟨ "slices.partitionEqualOrdered[int]", by decide, Tryz.func205.trans (congrArg some (by kernel_rfl))⟩
  f18 := ⟨ "slices.partitionOrdered[int]", by decide, Tryz.func206.trans (congrArg some (by kernel_rfl))⟩
  f19 := Tryz.func207.trans (congrArg some (by kernel_rfl))
  f20 := Tryz.func208.trans (congrArg some (by kernel_rfl))
  f30 := ⟨ "slices.siftDownOrdered[int]", by decide, Tryz.func230.trans (congrArg some (by kernel_rfl))⟩
  f31 := Tryz.func231.trans (congrArg some (by kernel_rfl))
  f32 := Tryz.func232.trans (congrArg some (by kernel_rfl))
  f33 := ⟨ "slices.medianAdjacentOrdered[int]", by decide, Tryz.func233.trans (congrArg some (by kernel_rfl))⟩
  f34 := ⟨ "slices.medianOrdered[int]", by decide, Tryz.func234.trans (congrArg some (by kernel_rfl))⟩
  f35 := ⟨ "cmp.isNaN[int]", by decide, Tryz.func221.trans (congrArg some (by kernel_rfl))⟩
  f40 := ⟨ "slices.order2Ordered[int]", by decide, Tryz.func262.trans (congrArg some (by kernel_rfl))⟩
  t0 := Tryz.underlying0
  a0 := Tryz.isAgg0
  z0 := Tryz.sizeOf0
  v0 := Tryz.zeroValue0
  t3 := Tryz.underlying3
  a3 := Tryz.isAgg3
  z3 := Tryz.sizeOf3
  v3 := Tryz.zeroValue3
  t4 := Tryz.underlying4
  a4 := Tryz.isAgg4
  z4 := Tryz.sizeOf4
  v4 := Tryz.zeroValue4
  t5 := Tryz.underlying5
  a5 := Tryz.isAgg5
  z5 := Tryz.sizeOf5
  v5 := Tryz.zeroValue5
  t9 := Tryz.underlying9
  a9 := Tryz.isAgg9
  z9 := Tryz.sizeOf9
  v9 := Tryz.zeroValue9
  t22 := Tryz.underlying35
  a22 := Tryz.isAgg35
  z22 := Tryz.sizeOf35
  v22 := Tryz.zeroValue35
  t23 := Tryz.underlying35
  a23 := Tryz.isAgg35
  z23 := Tryz.sizeOf35
  v23 := Tryz.zeroValue35
  t25 := Tryz.underlying3
  a25 := Tryz.isAgg3
  z25 := Tryz.sizeOf3
  v25 := Tryz.zeroValue3
  t32 := Tryz.underlying33
  a32 := Tryz.isAgg33
  z32 := Tryz.sizeOf33
  v32 := Tryz.zeroValue33
  t35 := Tryz.underlying292
  a35 := Tryz.isAgg292
  z35 := Tryz.sizeOf292
  v35 := Tryz.zeroValue292
  t36 := Tryz.underlying293
  a36 := Tryz.isAgg293
  z36 := Tryz.sizeOf293
  v36 := Tryz.zeroValue293
  t41 := Tryz.underlying297
  a41 := Tryz.isAgg297
  z41 := Tryz.sizeOf297
  v41 := Tryz.zeroValue297
  t44 := Tryz.underlying161
  a44 := Tryz.isAgg161
  z44 := Tryz.sizeOf161
  v44 := Tryz.zeroValue161
  t46 := Tryz.underlying246
  a46 := Tryz.isAgg246
  z46 := Tryz.sizeOf246
  v46 := Tryz.zeroValue246
  t53 := Tryz.underlying322
  a53 := Tryz.isAgg322
  z53 := Tryz.sizeOf322
  v53 := Tryz.zeroValue322
  t57 := Tryz.underlying326
  a57 := Tryz.isAgg326
  z57 := Tryz.sizeOf326
  v57 := Tryz.zeroValue326
  t63 := Tryz.underlying360
  a63 := Tryz.isAgg360
  z63 := Tryz.sizeOf360
  v63 := Tryz.zeroValue360
  t64 := Tryz.underlying361
  a64 := Tryz.isAgg361
  z64 := Tryz.sizeOf361
  v64 := Tryz.zeroValue361
def keysD_ren : Go.Shelf.Ren := ⟨fun | 7 => 195 | 10 => 228 | n => n, fun | 23 => 98 | 26 => 9 | 3 => 97 | 28 => 286 | 0 => 0 | 27 => 285 | 33 => 202 | 4 => 4 | n => n, fun | n => n⟩
theorem keysD : Go.Proofs.SlLaysZ.n7 Tryz.prog keysD_ren where
  mixed := by kernel_rfl
  f7 := ⟨ "maps.Keys[map[string]*shardlog/disk.file,string,*shardlog/disk.file]", by decide, Tryz.func195.trans (congrArg some (by kernel_rfl))⟩
  f10 := ⟨ "maps.Keys[map[string]*shardlog/disk.file,string,*shardlog/disk.file]$1", by decide, Tryz.func228.trans (congrArg some (by kernel_rfl))⟩
  t0 := Tryz.underlying0
  a0 := Tryz.isAgg0
  z0 := Tryz.sizeOf0
  v0 := Tryz.zeroValue0
  t4 := Tryz.underlying4
  a4 := Tryz.isAgg4
  z4 := Tryz.sizeOf4
  v4 := Tryz.zeroValue4
  t23 := Tryz.underlying98
  a23 := Tryz.isAgg98
  z23 := Tryz.sizeOf98
  v23 := Tryz.zeroValue98
  t26 := Tryz.underlying9
  a26 := Tryz.isAgg9
  z26 := Tryz.sizeOf9
  v26 := Tryz.zeroValue9
  t27 := Tryz.underlying285
  a27 := Tryz.isAgg285
  z27 := Tryz.sizeOf285
  v27 := Tryz.zeroValue285
  t28 := Tryz.underlying286
  a28 := Tryz.isAgg286
  z28 := Tryz.sizeOf286
  v28 := Tryz.zeroValue286
  t33 := Tryz.underlying202
  a33 := Tryz.isAgg202
  z33 := Tryz.sizeOf202
  v33 := Tryz.zeroValue202
def sortedD_ren : Go.Shelf.Ren := ⟨fun | 6 => 194 | 8 => 226 | 9 => 227 | 11 => 259 | 13 => 168 | 12 => 260 | 23 => 207 | 24 => 208 | 14 => 284 | 15 => 285 | 16 => 286 | 17 => 287 | 18 => 288 | 19 => 289 | 20 => 290 | 21 => 291 | 22 => 292 | 25 => 313 | 26 => 231 | 27 => 232 | 28 => 314 | 29 => 315 | 30 => 316 | 31 => 333 | n => n, fun | 26 => 9 | 28 => 286 | 24 => 118 | 0 => 0 | 3 => 3 | 37 => 33 | 48 => 161 | 50 => 246 | 4 => 4 | 40 => 293 | 39 => 292 | 45 => 297 | 5 => 5 | 9 => 9 | 51 => 322 | 55 => 326 | 57 => 360 | 58 => 361 | 33 => 202 | n => n, fun | n => n⟩
theorem sortedD : Go.Proofs.SlLaysZ.n6 Tryz.prog sortedD_ren where
  mixed := by kernel_rfl
  f6 := ⟨ "slices.Sorted[string]", by decide, Tryz.func194.trans (congrArg some (by kernel_rfl))⟩
  f8 := ⟨ "slices.Collect[string]", by decide, Tryz.func226.trans (congrArg some (by kernel_rfl))⟩
  f11 := ⟨ "slices.AppendSeq[[]string,string]", by decide, Tryz.func259.trans (congrArg some (by kernel_rfl))⟩
  t0 := Tryz.underlying0
  a0 := Tryz.isAgg0
  z0 := Tryz.sizeOf0
  v0 := Tryz.zeroValue0
  t24 := Tryz.underlying118
  a24 := Tryz.isAgg118
  z24 := Tryz.sizeOf118
  v24 := Tryz.zeroValue118
  t26 := Tryz.underlying9
  a26 := Tryz.isAgg9
  z26 := Tryz.sizeOf9
  v26 := Tryz.zeroValue9
  t28 := Tryz.underlying286
  a28 := Tryz.isAgg286
  z28 := Tryz.sizeOf286
  v28 := Tryz.zeroValue286
  i26 := by kernel_rfl
def sortD_ren : Go.Shelf.Ren := ⟨fun | 6 => 227 | 8 => 168 | 9 => 260 | 19 => 207 | 20 => 208 | 21 => 284 | 22 => 285 | 23 => 286 | 24 => 287 | 25 => 288 | 26 => 289 | 27 => 290 | 28 => 291 | 29 => 292 | 36 => 313 | 31 => 231 | 32 => 232 | 37 => 314 | 38 => 315 | 39 => 316 | 41 => 333 | n => n, fun | 27 => 118 | 29 => 9 | 3 => 3 | 32 => 33 | 26 => 118 | 0 => 0 | 44 => 161 | 46 => 246 | 4 => 4 | 36 => 293 | 35 => 292 | 41 => 297 | 5 => 5 | 9 => 9 | 53 => 322 | 57 => 326 | 63 => 360 | 64 => 361 | n => n, fun | n => n⟩
theorem sortD : Go.Proofs.SlLaysM.n6 Tryz.prog sortD_ren where
  mixed := by kernel_rfl
  f6 := ⟨ "slices.Sort[[]string,string]", by decide, Tryz.func227.trans (congrArg some (by kernel_rfl))⟩
  f8 := Tryz.func168.trans (congrArg some (by kernel_rfl))
  f9 := ⟨ "slices.pdqsortOrdered[string]", by decide, Tryz.func260.trans (congrArg some (by kernel_rfl))⟩
  f19 := Tryz.func207.trans (congrArg some (by kernel_rfl))
  f20 := Tryz.func208.trans (congrArg some (by kernel_rfl))
  f21 := ⟨ "slices.insertionSortOrdered[string]", by decide, Tryz.func284.trans (congrArg some (by kernel_rfl))⟩
  f22 := ⟨ "slices.heapSortOrdered[string]", by decide, Tryz.func285.trans (congrArg some (by kernel_rfl))⟩
  f23 := ⟨ "slices.breakPatternsOrdered[string]", by decide, Tryz.func286.trans (congrArg some (by kernel_rfl))⟩
  f24 := ⟨ "slices.choosePivotOrdered[string]", by decide, Tryz.func287.trans (congrArg some (by kernel_rfl))⟩
  f25 := ⟨ "slices.reverseRangeOrdered[string]", by decide, Tryz.func288.trans (congrArg some (by kernel_rfl))⟩
  f26 := ⟨ "slices.partialInsertionSortOrdered[string]", by decide, Tryz.func289.trans (congrArg some (by kernel_rfl))⟩
  f27 := ⟨ "cmp.Less[string]", by decide, Tryz.func290.trans (congrArg some (by kernel_rfl))⟩
  f28 := ⟨ "slices.partitionEqualOrdered[string]", by decide, Tryz.func291.trans (congrArg some (by kernel_rfl))⟩
  f29 := ⟨ "slices.partitionOrdered[string]", by decide, Tryz.func292.trans (congrArg some (by kernel_rfl))⟩
  f31 := Tryz.func231.trans (congrArg some (by kernel_rfl))
  f32 := Tryz.func232.trans (congrArg some (by kernel_rfl))
  f36 := ⟨ "slices.siftDownOrdered[string]", by decide, Tryz.func313.trans (congrArg some (by kernel_rfl))⟩
  f37 := ⟨ "slices.medianAdjacentOrdered[string]", by decide, Tryz.func314.trans (congrArg some (by kernel_rfl))⟩
  f38 := ⟨ "slices.medianOrdered[string]", by decide, Tryz.func315.trans (congrArg some (by kernel_rfl))⟩
  f39 := ⟨ "cmp.isNaN[string]", by decide, Tryz.func316.trans (congrArg some (by kernel_rfl))⟩
  f41 := ⟨ "slices.order2Ordered[string]", by decide, Tryz.func333.trans (congrArg some (by kernel_rfl))⟩
  t0 := Tryz.underlying0
  a0 := Tryz.isAgg0
  z0 := Tryz.sizeOf0
  v0 := Tryz.zeroValue0
  t3 := Tryz.underlying3
  a3 := Tryz.isAgg3
  z3 := Tryz.sizeOf3
  v3 := Tryz.zeroValue3
  t4 := Tryz.underlying4
  a4 := Tryz.isAgg4
  z4 := Tryz.sizeOf4
  v4 := Tryz.zeroValue4
  t5 := Tryz.underlying5
  a5 := Tryz.isAgg5
  z5 := Tryz.sizeOf5
  v5 := Tryz.zeroValue5
  t9 := Tryz.underlying9
  a9 := Tryz.isAgg9
  z9 := Tryz.sizeOf9
  v9 := Tryz.zeroValue9
  t26 := Tryz.underlying118
  a26 := Tryz.isAgg118
  z26 := Tryz.sizeOf118
  v26 := Tryz.zeroValue118
  t27 := Tryz.underlying118
  a27 := Tryz.isAgg118
  z27 := Tryz.sizeOf118
  v27 := Tryz.zeroValue118
  t29 := Tryz.underlying9
  a29 := Tryz.isAgg9
  z29 := Tryz.sizeOf9
  v29 := Tryz.zeroValue9
  t32 := Tryz.underlying33
  a32 := Tryz.isAgg33
  z32 := Tryz.sizeOf33
  v32 := Tryz.zeroValue33
  t35 := Tryz.underlying292
  a35 := Tryz.isAgg292
  z35 := Tryz.sizeOf292
  v35 := Tryz.zeroValue292
  t36 := Tryz.underlying293
  a36 := Tryz.isAgg293
  z36 := Tryz.sizeOf293
  v36 := Tryz.zeroValue293
  t41 := Tryz.underlying297
  a41 := Tryz.isAgg297
  z41 := Tryz.sizeOf297
  v41 := Tryz.zeroValue297
  t44 := Tryz.underlying161
  a44 := Tryz.isAgg161
  z44 := Tryz.sizeOf161
  v44 := Tryz.zeroValue161
  t46 := Tryz.underlying246
  a46 := Tryz.isAgg246
  z46 := Tryz.sizeOf246
  v46 := Tryz.zeroValue246
  t53 := Tryz.underlying322
  a53 := Tryz.isAgg322
  z53 := Tryz.sizeOf322
  v53 := Tryz.zeroValue322
  t57 := Tryz.underlying326
  a57 := Tryz.isAgg326
  z57 := Tryz.sizeOf326
  v57 := Tryz.zeroValue326
  t63 := Tryz.underlying360
  a63 := Tryz.isAgg360
  z63 := Tryz.sizeOf360
  v63 := Tryz.zeroValue360
  t64 := Tryz.underlying361
  a64 := Tryz.isAgg361
  z64 := Tryz.sizeOf361
  v64 := Tryz.zeroValue361
theorem sortsV (m : Nat) : AnyZI.SortsIn Tryz.prog sortedV_ren Fence.wide m :=
  ⟨fun blk off cap ss W hH hblk hsz => callsIn_wide.2 (AnyM.slices_Sort_int sortV blk off cap ss W hH hblk hsz),
   fun p cap W => callsIn_wide.2 (AnyM.slices_Sort_int_none sortV p cap W)⟩
theorem sortsD (m : Nat) : AnyZ.SortsIn Tryz.prog sortedD_ren Fence.wide m :=
  ⟨fun blk off cap ss W hH hblk hsz => callsIn_wide.2 (AnyM.slices_Sort_string sortD blk off cap ss W hH hblk hsz),
   fun p cap W => callsIn_wide.2 (AnyM.slices_Sort_string_none sortD p cap W)⟩
theorem keysV_any (mb : Option Nat) (W : World) : Calls Tryz.prog 82 #[.map mb] W fun e w' => e = .returned (.func (.func 127) #[] #[.pointer (some ⟨W.heap.size, 0, none⟩)]) ∧ w' = W.alloc (.cells #[.map mb] 107) :=
  (callsIn_wide (n := 5)).1 (AnyZI.keys_in keysV Fence.wide 5 trivial rfl mb W)
theorem keysD_any (mb : Option Nat) (W : World) : Calls Tryz.prog 195 #[.map mb] W fun e w' => e = .returned (.func (.func 228) #[] #[.pointer (some ⟨W.heap.size, 0, none⟩)]) ∧ w' = W.alloc (.cells #[.map mb] 98) :=
  (callsIn_wide (n := 5)).1 (AnyZ.keys_in keysD Fence.wide 5 trivial rfl mb W)
def dull (_ : Value) : Option (DataW Unit × List MemPlace) := some (.nil, [])
theorem owns_int {W : World} {M : Nat} {l : List (Value × Value)} (hM : MapIs W (.int .i64) M l) (ks : List Int) (hl : l.map (·.1) = ks.map (Value.int .i64)) (hw : ∀ k ∈ ks, (Lit.int .i64 k).wf = true) (hn : l.length ≤ 1000) :
    ∃ D : DataW Unit, W.ownsMap Tryz.prog 3 dull M 1000 D ∧ (intKeys D).Perm ks ∧ Maps.size D ≤ 1000 := by
  obtain ⟨es, clock, hb, hS, hK, hes, _⟩ := hM
  have hlen : es.size = l.length := by rw [← hes]; simp
  have hkey : ∀ x ∈ es.toList, ∃ k ∈ ks, x.key = .int .i64 k := by
    intro x hx
    have h1 : x.key ∈ l.map (·.1) := by rw [← hes, List.map_map]; exact List.mem_map.2 ⟨x, hx, rfl⟩
    rw [hl] at h1
    obtain ⟨k, hk, e⟩ := List.mem_map.1 h1
    exact ⟨k, hk, e.symm⟩
  have hrd : ∀ x ∈ es.toList, ∃ k ∈ ks, x.key = .int .i64 k ∧ WideElems.rd Tryz.prog 3 dull x = some (.int .i64 k, .nil) := by
    intro x hx
    obtain ⟨k, hk, e⟩ := hkey x hx
    refine ⟨k, hk, e, ?_⟩
    unfold WideElems.rd dull
    rw [e, keyOf_int_mk Tryz.underlying3 (hw k hk)]
    rfl
  refine ⟨_, ⟨es, clock, hb, ⟨by rw [hlen]; unfold maxLen; omega, hS, fun x hx => by obtain ⟨k, _, _, h⟩ := hrd x hx; exact ⟨_, h⟩⟩, by omega, rfl⟩, ?_, ?_⟩
  · have hp := sorted_perm (H := Unit) (es.toList.map (WideElems.rg Tryz.prog 3 dull))
    have h1 : (intKeys (DataW.map ((es.toList.map (WideElems.rg Tryz.prog 3 dull)).foldr DataW.insert []))).Perm ((es.toList.map (WideElems.rg Tryz.prog 3 dull)).map fun p => Go.intOf p.1) := hp.map _
    refine h1.trans (List.Perm.of_eq ?_)
    have h2 : es.toList.map (·.key) = ks.map (Value.int .i64) := by rw [← hl, ← hes, List.map_map]; rfl
    have h3 : (es.toList.map (WideElems.rg Tryz.prog 3 dull)).map (fun p => Value.int .i64 (Go.intOf p.1)) = es.toList.map (·.key) := by
      rw [List.map_map]
      refine List.map_congr_left fun x hx => ?_
      obtain ⟨k, _, e, hr⟩ := hrd x hx
      simp only [Function.comp_apply, WideElems.rg, hr, Option.getD_some, e]
      rfl
    have h4 := h3.trans h2
    refine List.map_inj_right (f := Value.int .i64) (fun a b h => by injection h) |>.1 ?_
    rw [← h4, List.map_map]; rfl
  · have hp := (sorted_perm (H := Unit) (es.toList.map (WideElems.rg Tryz.prog 3 dull))).length_eq
    show ((es.toList.map (WideElems.rg Tryz.prog 3 dull)).foldr DataW.insert []).length ≤ 1000
    rw [hp]; simp; omega
theorem sortedV_any (g M : Nat) (l : List (Value × Value)) (ks : List Int) (W : World) (hg : W.cell? ⟨g, 0, none⟩ = some (.map (some M))) (hM : MapIs W (.int .i64) M l) (hl : l.map (·.1) = ks.map (Value.int .i64)) (hw : ∀ k ∈ ks, (Lit.int .i64 k).wf = true) (hn : l.length ≤ 1000) :
    Calls Tryz.prog 81 #[.func (.func 127) #[] #[.pointer (some ⟨g, 0, none⟩)]] W fun e w' =>
      ∃ (ss : List Int) (A : Option Addr) (c : Nat), ss.Perm ks ∧ e = .returned (.slice A ss.length c) ∧ w'.ownsRow W.heap.size 3 1 (.slice A ss.length c) ss.length ((ss.mergeSort fun x y => decide (x ≤ y)).map (Value.int .i64)) ∧ Below W.heap.size W w' := by
  obtain ⟨D, hown, hp, hsz⟩ := owns_int hM ks hl hw hn
  have hgl : g < W.heap.size := lt_of_cell hg
  refine (callsIn_wide (n := 5)).1 ?_
  have hseq : SeqGives Fence.wide 2 Tryz.prog 127 #[.pointer (some ⟨g, 0, none⟩)] encZ (fun ss => ss.Perm (intKeys D)) (Maps.size D) W :=
    AnyZI.keys_gives (ρ := keysV_ren) { keysV with } Fence.wide _ trivial rfl (by omega) g M 1000 D W hgl hg hown
  have cS := AnyZI.sorted_in sortedV Fence.wide 5 trivial trivial trivial trivial rfl (by omega) (sortsV _) (enters_of Tryz.func126 (by kernel_rfl) rfl) 127 #[.pointer (some ⟨g, 0, none⟩)] trivial (enters_of Tryz.func127 (by kernel_rfl) rfl) _ _ (by unfold maxLen; omega) (by omega) _ hseq
  change CallsIn _ _ Tryz.prog 81 _ _ _ at cS
  refine cS.mono ?_
  rintro e w' ⟨v, ss, rfl, hS, hrow, _, hb⟩
  have hv : ∃ A c, v = .slice A ss.length c := by
    rcases hrow.2 with ⟨rfl, h0⟩ | ⟨g2, cap, cur, rfl, _⟩
    · exact ⟨none, 0, by rw [h0]⟩
    · exact ⟨_, _, rfl⟩
  obtain ⟨A, c, rfl⟩ := hv
  exact ⟨ss, A, c, hS.trans hp, rfl, hrow, hb⟩
theorem owns_one {W : World} {M : Nat} {v : Value} (hM : MapIs W .string M [(.string logName, v)]) :
    ∃ D : DataW Unit, W.ownsMap Tryz.prog 9 dull M 1 D ∧ strKeys D = [[108, 111, 103]] ∧ Maps.size D = 1 := by
  obtain ⟨es, clock, hb, hS, hK, hes, _⟩ := hM
  obtain ⟨e0, rfl, hk, hv⟩ := one_entry hes
  have hrd : WideElems.rd Tryz.prog 9 dull e0 = some (.string [108, 111, 103], .nil) := by
    unfold WideElems.rd dull
    rw [hk, Go.WideMaps.keyOf_string_mk Tryz.underlying9 (by decide)]
    rfl
  have hrg : WideElems.rg Tryz.prog 9 dull e0 = (.string [108, 111, 103], .nil) := by unfold WideElems.rg; rw [hrd]; rfl
  refine ⟨_, ⟨#[e0], clock, hb, ⟨by simp [maxLen], hS, fun x hx => by simp at hx; subst hx; exact ⟨_, hrd⟩⟩, by simp, rfl⟩, ?_, ?_⟩
  · simp [hrg, DataW.insert, strKeys, strOf]
  · simp [hrg, DataW.insert, Maps.size]
theorem sortedD_any (g M : Nat) (v : Value) (W : World) (hg : W.cell? ⟨g, 0, none⟩ = some (.map (some M))) (hM : MapIs W .string M [(.string logName, v)]) :
    Calls Tryz.prog 194 #[.func (.func 228) #[] #[.pointer (some ⟨g, 0, none⟩)]] W fun e w' =>
      ∃ (A : Option Addr) (c : Nat), e = .returned (.slice A 1 c) ∧ w'.ownsRow W.heap.size 9 1 (.slice A 1 c) 1 [.string logName] ∧ Below W.heap.size W w' := by
  obtain ⟨D, hown, hp, hsz⟩ := owns_one hM
  have hgl : g < W.heap.size := lt_of_cell hg
  refine (callsIn_wide (n := 5)).1 ?_
  have hseq : SeqGives Fence.wide 2 Tryz.prog 228 #[.pointer (some ⟨g, 0, none⟩)] encStr (fun ss => ss.Perm (strKeys D)) (Maps.size D) W :=
    AnyZ.keys_gives (ρ := keysD_ren) { keysD with } Fence.wide _ trivial rfl (by omega) g M 1 D W hgl hg hown
  have cS := AnyZ.sorted_in sortedD Fence.wide 5 trivial trivial trivial trivial rfl (by omega) (sortsD _) (enters_of Tryz.func227 (by kernel_rfl) rfl) 228 #[.pointer (some ⟨g, 0, none⟩)] trivial (enters_of Tryz.func228 (by kernel_rfl) rfl) _ _ (by rw [hsz]; simp [maxLen]) (by rw [hsz]; decide) _ hseq
  change CallsIn _ _ Tryz.prog 194 _ _ _ at cS
  refine cS.mono ?_
  rintro e w' ⟨v, ss, rfl, hS, hrow, _, hb⟩
  rw [hp] at hS
  obtain rfl := List.perm_singleton.1 hS
  rw [List.mergeSort_singleton] at hrow
  have hv : ∃ A c, v = .slice A 1 c := by
    rcases hrow.2 with ⟨rfl, h0⟩ | ⟨g2, cap, cur, rfl, _⟩
    · cases h0
    · exact ⟨_, _, rfl⟩
  obtain ⟨A, c, rfl⟩ := hv
  exact ⟨A, c, rfl, hrow, hb⟩
end Go.Proofs.YtoigogjmhkpdlaaGreat
namespace Go.Proofs.YtoigogjmhkpdlaaGreat
open Go.RowKit
def sv (s : ByteArray) : Value := .string s
theorem dnames_some (S : Nat → Prop) (D m : Nat) (bs : List Nat) (syn : Nat) (W : World) (h : DiskAt W S D m (some (bs, syn))) :
    Calls Tryz.prog 158 #[.pointer (some ⟨D, 0, none⟩)] W fun e W' => ∃ g c, e = .returned (.slice (some ⟨g, 0, none⟩) 1 c) ∧ W'.cell? ⟨g, 0, none⟩ = some (.string logName) ∧ W.heap.size ≤ g ∧ Below W.heap.size W W' := by
  obtain ⟨M, hD, sD, sM, hMD, hm, F, hM, _⟩ := h
  have c0 : W.cell? ⟨D, 0, none⟩ = some (.map (some M)) := by simp [World.cell?, hD]
  have hMl := hM.lt
  have hM1 := hM.of_block (heap_alloc_old W (.cells #[.map (some M)] 98) hMl)
  have hg : (W.alloc (.cells #[.map (some M)] 98)).cell? ⟨W.heap.size, 0, none⟩ = some (.map (some M)) := cell_new W _ _ _ 0 _ rfl rfl
  go_enter Tryz.func158, Tryz.ntmps158
  go_wp2_with (first
    | (go_at_call 195; refine (keysD_any _ _).mono ?_; rintro e w1 ⟨rfl, rfl⟩)
    | (go_at_call 194; refine (sortedD_any W.heap.size M _ _ hg hM1).mono ?_; rintro e w2 ⟨A, c, rfl, hrow, hb⟩))
  go_ret
  have hB := ((Below.refl W.heap.size W).alloc (Nat.le_refl _) (.cells #[.map (some M)] 98)).trans (hb.mono (by simp))
  rcases hrow.2 with ⟨h0, h1⟩ | ⟨g, cap, cur, hv, hgb, hh, hr⟩
  · cases h1
  · injection hv with hA hn hc
    subst hA
    refine ⟨g, c, rfl, ?_, by simp at hgb; omega, hB⟩
    have := World.ownsRow.cells (hrow) rfl 0 (.string logName) (by simp)
    exact this
theorem dcrash_synced (S : Nat → Prop) (D m : Nat) (bs : List Nat) (W : World) (h : DiskAt W S D m (some (bs, bs.length))) (K : Value) :
    Calls Tryz.prog 117 #[.pointer (some ⟨D, 0, none⟩), K] W fun e W' => e = .returned (.tuple #[]) ∧ Below W.heap.size W W' := by
  have hN := Lib.hid (dnames_some S D m bs _ W h)
  obtain ⟨M, hD, sD, sM, hMD, hm, F, hM, ⟨A, c, hF, hO, sF, hA, hbs, hsy, hl⟩, hFM, hFD⟩ := h
  have hDl : D < W.heap.size := (Array.getElem?_eq_some_iff.1 hD).1
  have hFl : F < W.heap.size := (Array.getElem?_eq_some_iff.1 hF).1
  have hMl := hM.lt
  go_enter Tryz.func117, Tryz.ntmps117
  go_wp2_with fail
  refine (hN.out).mono ?_
  rintro e w1 ⟨g, cg, rfl, hg, hgb, hb1⟩
  have hD1 := (hb1.block D hDl).trans hD
  have hF1 := (hb1.block F hFl).trans hF
  have hM1 := hM.of_block (hb1.block M hMl)
  have c0 : w1.cell? ⟨D, 0, none⟩ = some (.map (some M)) := by simp [World.cell?, hD1]
  have c2 : w1.cell? ⟨F, 0, none⟩ = some (.slice A bs.length c) := by simp [World.cell?, hF1]
  have c3 : w1.cell? ⟨F, 1, none⟩ = some (.int .i64 (bs.length : Int)) := by simp [World.cell?, hF1]
  have hl2 := hM1.look (P := Tryz.prog) (key := .string logName) Tryz.underlying98 Tryz.underlying9 trivial false (v := .pointer (some ⟨F, 0, none⟩)) (by simp)
  go_wp2
  refine wp_loop_rounds 2 ?_
  rw [rounds_succ]
  go_wp2
  go_region
  go_wp2
  rw [rounds_succ]
  go_wp2
  go_end0
  exact ⟨rfl, hb1.drew⟩
theorem named_old {w1 w2 : World} {o : Obj} (h : w2 = w1.alloc o) {k : Nat} {y : Obj} (hk : w1.heap[k]? = some y) : w2.heap[k]? = some y := by
  subst h; exact (heap_alloc_old _ _ (Array.getElem?_eq_some_iff.1 hk).1).trans hk
theorem named_new {w1 w2 : World} {o : Obj} (h : w2 = w1.alloc o) : w2.heap[w1.heap.size]? = some o := by subst h; exact heap_alloc_new _ _
theorem named_size {w1 w2 : World} {o : Obj} (h : w2 = w1.alloc o) : w2.heap.size = w1.heap.size + 1 := by subst h; simp
theorem named_set_same {w1 w2 : World} {X j : Nat} {v : Value} (h : w2 = (w1.setCell ⟨X, j, none⟩ v).drew) {cs : Array Value} {t : TypeId} (hX : w1.heap[X]? = some (.cells cs t)) : w2.heap[X]? = some (.cells (cs.setIfInBounds j v) t) := by
  subst h; exact heap_setCell_same _ X j _ _ _ hX
theorem named_set_other {w1 w2 : World} {X j : Nat} {v : Value} (h : w2 = (w1.setCell ⟨X, j, none⟩ v).drew) {k : Nat} (hk : k ≠ X) : w2.heap[k]? = w1.heap[k]? := by
  subst h; exact heap_setCell_other _ _ _ _ hk
theorem named_below {w1 w2 : World} {o : Obj} (h : w2 = w1.alloc o) : Below w1.heap.size w1 w2 := by subst h; exact (Below.refl _ _).alloc (Nat.le_refl _) _
def vkv (v : Vt) : Value × Value := (.int .i64 (v.slot : Int), vtv v)
def SaysAt (W : World) (S : Nat → Prop) (X p : Nat) (vs : List Vt) : Prop :=
  ∃ M, W.heap[X]? = some (.cells #[.int .i64 (p : Int), .map (some M)] 109) ∧ S X ∧ S M ∧ M ≠ X ∧ MapIs W (.int .i64) M (vs.map vkv)
theorem SaysAt.frame {W W' : World} {S : Nat → Prop} {X p : Nat} {vs : List Vt} (h : SaysAt W S X p vs) (hb : ∀ k, S k → W'.heap[k]? = W.heap[k]?) : SaysAt W' S X p vs := by
  obtain ⟨M, hX, sX, sM, h3, h4⟩ := h
  exact ⟨M, (hb X sX).trans hX, sX, sM, h3, h4.of_block (hb M sM)⟩
theorem take_p (S : Nat → Prop) (X p : Nat) (vs : List Vt) (b : Nat) (h1 : 1 ≤ b) (h2 : b ≤ 2147483647) (A : Option Addr) (L : List Nat) (hL : Hid (L = recP b)) (c : Nat) (hc : L.length ≤ c) (hcm : c ≤ 9223372036854775807) (W : World) (h : SaysAt W S X p vs) (hS : Lt S W) (hr : RdB W A L) :
    Calls Tryz.prog 79 #[.pointer (some ⟨X, 0, none⟩), .slice A L.length c] W fun e W' => e = .returned (.bool true) ∧ SaysAt W' S X (max p b) vs ∧ Turned S W W' := by
  have Hg := Lib.hid (getp_any b h1 h2 A c (by rw [← hL.out]; exact hc) hcm W (by rw [← hL.out]; exact hr))
  obtain ⟨M, hX, sX, sM, hMX, hM⟩ := h
  have hXl := hS X sX; have hMl := hS M sM
  have Hg2 : Hid (Calls Tryz.prog 122 #[.slice A L.length c] W fun e W' => e = .returned (.tuple #[.int .i64 (b : Int), zeroV, .int .i64 0]) ∧ Below W.heap.size W W') := by rw [hL.out]; exact Hg
  clear hr Hg
  unfold zeroV at Hg2
  have hb0 : ((b : Int) == 0) = false := by rw [beq_eq_false_iff_ne]; omega
  go_enter Tryz.func79, Tryz.ntmps79
  go_wp2_with fail
  refine (Hg2.out).mono ?_
  rintro e w1 ⟨rfl, hb1⟩
  have hX1 := (hb1.block X hXl).trans hX
  have hM1 := hM.of_block (hb1.block M hMl)
  go_wp2
  obtain ⟨w2, hw2⟩ : ∃ w2, w2 = w1.alloc (.cells #[.int .i64 0, .int .i64 0, .int .i64 0, .bool false, .string ByteArray.empty] 62) := ⟨_, rfl⟩
  rw [← hw2]
  have hX2 := named_old hw2 hX1
  have hV2 := named_new hw2
  have hM2 := hM1.of_block ((named_below hw2).block M hM1.lt)
  have HT2 := Lib.hid ((Turned.of_below (S := S) hb1).below (named_below hw2) hb1.size)
  have hsz := hb1.size
  have hne : X ≠ w1.heap.size := by omega
  clear hw2
  have c0 : w2.cell? ⟨X, 0, none⟩ = some (.int .i64 (p : Int)) := by simp [World.cell?, hX2]
  have c1 : w2.cell? ⟨X, 1, none⟩ = some (.map (some M)) := by simp [World.cell?, hX2]
  have f0 : w2.frozen? ⟨X, 0, none⟩ = false := by simp [World.frozen?, hX2]
  have c2 : w2.cell? ⟨w1.heap.size, 1, none⟩ = some (.int .i64 0) := by simp [World.cell?, hV2]
  rcases (show p < b ∨ ¬ p < b by omega) with hpb | hpb
  all_goals
    go_region
    go_wp2
    go_quiet (fail)
    go_wp2
    go_ret
    refine ⟨rfl, ⟨M, ?_, sX, sM, hMX, hM2.of_block (heap_setCell_other _ _ _ _ hMX)⟩, ((HT2.out.setCell (p := ⟨X, 0, none⟩) (.inl sX) _).drew).drewN _⟩
    first
      | (rw [show max p b = b by omega]; exact heap_setCell_same _ X 0 _ _ _ hX2)
      | (rw [show max p b = p by omega]; exact heap_setCell_same _ X 0 _ _ _ hX2)
theorem take_v (S : Nat → Prop) (X p : Nat) (vs : List Vt) (v : Vt) (hp : p ≤ v.ballot) (hv : VRight v) (hvs : ∀ u ∈ vs, u.slot ≠ v.slot) (A : Option Addr) (L : List Nat) (hL : Hid (L = recV v)) (c : Nat) (hc : L.length ≤ c) (hcm : c ≤ 9223372036854775807) (W : World) (h : SaysAt W S X p vs) (hS : Lt S W) (hr : RdB W A L) :
    Calls Tryz.prog 79 #[.pointer (some ⟨X, 0, none⟩), .slice A L.length c] W fun e W' => e = .returned (.bool true) ∧ SaysAt W' S X v.ballot (vs ++ [v]) ∧ Turned S W W' := by
  have Hg := Lib.hid (getv_any v hv A c (by rw [← hL.out]; exact hc) hcm W (by rw [← hL.out]; exact hr))
  obtain ⟨M, hX, sX, sM, hMX, hM⟩ := h
  have hXl := hS X sX; have hMl := hS M sM
  have Hg2 : Hid (Calls Tryz.prog 122 #[.slice A L.length c] W fun e W' => e = .returned (.tuple #[.int .i64 0, vtv v, .int .i64 0]) ∧ Below W.heap.size W W') := by rw [hL.out]; exact Hg
  clear hr Hg
  have hb1v := hv.b1
  have hb2v := hv.b2
  unfold vtv at Hg2
  have hnot : ∀ q ∈ vs.map vkv, q.1 ≠ .int .i64 (v.slot : Int) := by
    intro q hq e
    obtain ⟨u, hu, rfl⟩ := List.mem_map.1 hq
    injection e with _ e
    exact hvs u hu (by omega)
  have Hnot := Lib.hid hnot
  clear hnot
  go_enter Tryz.func79, Tryz.ntmps79
  go_wp2_with fail
  refine (Hg2.out).mono ?_
  rintro e w1 ⟨rfl, hb1⟩
  have hX1 := (hb1.block X hXl).trans hX
  have hM1 := hM.of_block (hb1.block M hMl)
  go_wp2
  obtain ⟨w2, hw2⟩ : ∃ w2, w2 = w1.alloc (.cells #[.int .i64 (v.slot : Int), .int .i64 (v.ballot : Int), .int .i64 (v.origin : Int), .bool v.full, .string v.bytes] 62) := ⟨_, rfl⟩
  rw [← hw2]
  have hX2 := named_old hw2 hX1
  have hV2 := named_new hw2
  have hM2 := hM1.of_block ((named_below hw2).block M hM1.lt)
  have HT2 := Lib.hid ((Turned.of_below (S := S) hb1).below (named_below hw2) hb1.size)
  have hsz := hb1.size
  have hne : X ≠ w1.heap.size := by omega
  have hne2 : w1.heap.size ≠ X := by omega
  clear hw2
  have c0 : w2.cell? ⟨X, 0, none⟩ = some (.int .i64 (p : Int)) := by simp [World.cell?, hX2]
  have f0 : w2.frozen? ⟨X, 0, none⟩ = false := by simp [World.frozen?, hX2]
  have d1 : w2.cell? ⟨w1.heap.size, 1, none⟩ = some (.int .i64 (v.ballot : Int)) := by simp [World.cell?, hV2]
  rcases Nat.lt_or_eq_of_le hp with hpb | rfl
  all_goals
    go_region
    go_wp2
    obtain ⟨w3, hw3⟩ : ∃ w3, w3 = (w2.setCell ⟨X, 0, none⟩ (.int .i64 (v.ballot : Int))).drew := ⟨_, rfl⟩
    rw [← hw3]
    have hX3 := named_set_same hw3 hX2
    have hV3 := (named_set_other hw3 hne2).trans hV2
    have hM3 := hM2.of_block (named_set_other hw3 hMX)
    have HT3 := Lib.hid (show Turned S W w3 by rw [hw3]; exact (HT2.out.setCell (p := ⟨X, 0, none⟩) (.inl sX) _).drew)
    clear hw3
    have e1 : w3.cell? ⟨X, 1, none⟩ = some (.map (some M)) := by simp [World.cell?, hX3]
    have e2 : w3.cell? ⟨w1.heap.size, 1, none⟩ = some (.int .i64 (v.ballot : Int)) := by simp [World.cell?, hV3]
    have e3 : w3.cell? ⟨w1.heap.size, 0, none⟩ = some (.int .i64 (v.slot : Int)) := by simp [World.cell?, hV3]
    have hz : ∀ n, (zeroValue 62).run Tryz.prog (w3.drewN n) = .ok zeroV (w3.drewN n) := fun n => by kernel_rfl
    have hl3 := fun n => (hM3.of_block (w' := w3.drewN n) rfl).look_none (P := Tryz.prog) (key := .int .i64 (v.slot : Int)) Tryz.underlying107 Tryz.underlying3 rfl false Hnot.out (hz n)
    simp only [Bool.false_eq_true, if_false, zeroV] at hl3
    have hfd : ∀ w, (Instr.field 62 (.agg #[.int .i64 0, .int .i64 0, .int .i64 0, .bool false, .string ByteArray.empty]) 1).run Tryz.prog w = .ok (.int .i64 0) w := fun w => by kernel_rfl
    go_quiet (fail)
    go_wp2
    obtain ⟨w4, hw4⟩ : ∃ w4, w4 = w3.drewN nq := ⟨_, rfl⟩
    rw [← hw4]
    have hh4 : w4.heap = w3.heap := by rw [hw4]; rfl
    have hX4 : w4.heap[X]? = some _ := (by rw [hh4]; exact hX3)
    have hV4 : w4.heap[w1.heap.size]? = some _ := (by rw [hh4]; exact hV3)
    have HT4 := Lib.hid (show Turned S W w4 by rw [hw4]; exact HT3.out.drewN nq)
    clear hw4
    have g1 : w4.cell? ⟨X, 1, none⟩ = some (.map (some M)) := by simp [World.cell?, hX4]
    have g3 : w4.cell? ⟨w1.heap.size, 0, none⟩ = some (.int .i64 (v.slot : Int)) := by simp [World.cell?, hV4]
    have g4 : w4.cell? ⟨w1.heap.size, 1, none⟩ = some (.int .i64 (v.ballot : Int)) := by simp [World.cell?, hV4]
    have g5 : w4.cell? ⟨w1.heap.size, 2, none⟩ = some (.int .i64 (v.origin : Int)) := by simp [World.cell?, hV4]
    have g6 : w4.cell? ⟨w1.heap.size, 3, none⟩ = some (.bool v.full) := by simp [World.cell?, hV4]
    have g7 : w4.cell? ⟨w1.heap.size, 4, none⟩ = some (.string v.bytes) := by simp [World.cell?, hV4]
    obtain ⟨w5, hst, hM5, hg5, hs5⟩ := (hM3.of_block (w' := w4.drew) (by show w4.heap[_]? = _; rw [hh4])).store_new (P := Tryz.prog) (key := .int .i64 (v.slot : Int)) Tryz.underlying107 Tryz.underlying3 rfl Hnot.out (vtv v)
    unfold vtv at hst
    have HM5 := Lib.hid hM5
    clear hM5
    go_region
    go_wp2
    go_ret
    refine ⟨rfl, ⟨M, ?_, sX, sM, hMX, ?_⟩, HT4.out.drew.grown hg5 (fun k hk => by cases hk; exact .inl sM)⟩
    · exact (hg5.block X (by show X < w4.heap.size; exact (Array.getElem?_eq_some_iff.1 hX4).1) (by simpa using hMX.symm)).trans hX4
    · rw [List.map_append]; exact HM5.out
theorem flat_get {α : Type} (mk : α → List Value) (sz : Nat) (hsz : ∀ x, (mk x).length = sz) : ∀ (l : List α) (j i : Nat) (hj : j < l.length), i < sz → (l.flatMap mk)[j * sz + i]? = (mk l[j])[i]?
  | x :: l, 0, i, _, hi => by
    rw [List.flatMap_cons, List.getElem?_append_left (by rw [hsz]; omega)]
    simp
  | x :: l, j + 1, i, hj, hi => by
    rw [List.flatMap_cons, List.getElem?_append_right (by rw [hsz, Nat.add_mul]; omega), hsz]
    rw [show (j + 1) * sz + i - sz = j * sz + i by rw [Nat.add_mul]; omega]
    rw [flat_get mk sz hsz l j i (by simpa using hj) hi]
    simp
theorem flat_len {α : Type} (mk : α → List Value) (sz : Nat) (hsz : ∀ x, (mk x).length = sz) : ∀ (l : List α), (l.flatMap mk).length = l.length * sz
  | [] => by simp
  | x :: l => by rw [List.flatMap_cons, List.length_append, hsz, flat_len mk sz hsz l]; simp [Nat.add_mul]; omega
def OwnT {α : Type} (mk : α → List Value) (e : TypeId) (sz : Nat) (w : World) (base : Nat) (A : Option Addr) (c : Nat) (l : List α) : Prop := w.ownsRow base e sz (.slice A l.length c) l.length (l.flatMap mk)
section
variable {α : Type} {mk : α → List Value} {e : TypeId} {sz : Nat} {w w' : World} {base : Nat} {A : Option Addr} {c : Nat} {l : List α}
theorem OwnT.nil (mk : α → List Value) (e : TypeId) (sz : Nat) (w : World) (base : Nat) : OwnT mk e sz w base none 0 [] := World.ownsRow_nil w base e sz
theorem OwnT.lt (h : OwnT mk e sz w base A c l) : ∀ k, blk A = some k → base ≤ k ∧ k < w.heap.size := fun k hk => World.ownsRow.lt h k (by rw [ownBlock_blk]; exact hk)
theorem OwnT.of_block (h : OwnT mk e sz w base A c l) (hb : ∀ k, blk A = some k → w'.heap[k]? = w.heap[k]?) : OwnT mk e sz w' base A c l := by
  refine ⟨h.1, ?_⟩
  rcases h.2 with h0 | ⟨g, cap, cur, hv, hg, hh, hr⟩
  · exact .inl h0
  · have hA : A = some ⟨g, 0, none⟩ := by injection hv
    exact .inr ⟨g, cap, cur, hv, hg, (hb g (by rw [hA]; rfl)).trans hh, hr⟩
theorem OwnT.below {B : Nat} (h : OwnT mk e sz w base A c l) (hb : Below B w w') (hB : w.heap.size ≤ B) : OwnT mk e sz w' base A c l :=
  h.of_block fun k hk => hb.block k (Nat.lt_of_lt_of_le (h.lt k hk).2 hB)
theorem OwnT.low {b' : Nat} (h : OwnT mk e sz w base A c l) (hb : b' ≤ base) : OwnT mk e sz w b' A c l := World.ownsRow_base h hb
theorem OwnT.form (h : OwnT mk e sz w base A c l) (hl : 0 < l.length) : ∃ g, A = some ⟨g, 0, none⟩ ∧ base ≤ g ∧ g < w.heap.size ∧ l.length ≤ c := by
  rcases h.2 with ⟨_, h0⟩ | ⟨g, cap, cur, hv, hb, hh, hn, _⟩
  · omega
  · injection hv with hA _ hc
    exact ⟨g, hA, hb, (Array.getElem?_eq_some_iff.1 hh).1, by omega⟩
theorem OwnT.cap (h : OwnT mk e sz w base A c l) : l.length ≤ c ∧ c ≤ maxLen := by
  rcases h.2 with ⟨h1, h0⟩ | ⟨g, cap, cur, hv, hb, hh, hn, hm, _⟩
  · injection h1 with _ _ hc; rw [h0, hc]; exact ⟨Nat.zero_le _, Nat.zero_le _⟩
  · injection hv with hA _ hc; omega
theorem OwnT.cell {g : Nat} (h : OwnT mk e sz w base (some ⟨g, 0, none⟩) c l) (hsz : ∀ x, (mk x).length = sz) (j i : Nat) (hj : j < l.length) (u : Value) (hu : (mk l[j])[i]? = some u) : w.cell? ⟨g, j * sz + i, none⟩ = some u := by
  have hi : i < sz := by
    rcases Nat.lt_or_ge i sz with h' | h'
    · exact h'
    · rw [List.getElem?_eq_none (by rw [hsz]; exact h')] at hu; cases hu
  have hlt : j * sz + i < l.length * sz := by
    have : (j + 1) * sz ≤ l.length * sz := Nat.mul_le_mul_right _ hj
    rw [Nat.add_mul] at this; omega
  rw [World.ownsRow.cellAt h _ hlt, flat_get mk sz hsz l j i hj hi, hu]
theorem OwnT.free {g : Nat} (h : OwnT mk e sz w base (some ⟨g, 0, none⟩) c l) (j : Nat) : w.frozen? ⟨g, j, none⟩ = false := World.ownsRow.frozenAt h j
end
section
variable {P : Program} {α : Type} (mk : α → List Value) (w : World)
theorem run_append_st (h1 : ∀ x, ∀ u ∈ mk x, u.oneCell' = true) (base : Nat) (t ty e : TypeId) (i : TypeInfo) (z : Value) (sz bsz : Nat) (hmk : ∀ x, (mk x).length = sz) (hs0 : 0 < sz) (ht : P.underlying t = some (.slice e)) (hi : P.info? e = some i) (hz : i.zero = some z)
    (hsize : i.size = sz) (hby : i.bytes = bsz) (hzs : z.cells.size = sz) (S : Option Addr) (d : Nat) (l : List α) (hown : OwnT mk e sz w base S d l)
    (g : Nat) (c : Nat) (x : α) (fr : Nat × Nat) (te : TypeId) (hr : w.heap[g]? = some (.cells (mk x).toArray te fr)) (h63 : l.length + 1 ≤ maxLen) (hb : (l.length + 1) * bsz ≤ 140737488355328) (hbase : base ≤ w.heap.size) :
    ∃ A' c' w', (Builtin.append_ #[t, t] ty #[.slice S l.length d, .slice (some ⟨g, 0, none⟩) 1 c]).run P w = .ok (.slice A' (l ++ [x]).length c') w' ∧ OwnT mk e sz w' base A' c' (l ++ [x]) ∧ Below base w w' ∧ w.grownBy w' (blk S) ∧ (blk A' = blk S ∨ blk A' = some w.heap.size) := by
  obtain ⟨v', w', hrun, h2, h3, _, h5⟩ := run_append_own_at (P := P) w base t ty e i z sz bsz ht hi hz hsize hby hzs hs0 (.slice S l.length d) l.length (l.flatMap mk) hown ⟨g, 0, none⟩ 1 c (mk x) (by rw [hmk]; omega)
    (fun j u hu => by
      rw [Addr.add_lit]
      unfold World.cell?
      simp only [hr, Nat.zero_add]
      simpa using hu) (h1 x)
    h63 hb hbase
  have hshape : ∃ A' c', v' = .slice A' (l ++ [x]).length c' := by
    rcases h2.2 with ⟨e1, e2⟩ | ⟨g, cap, cur, e1, _⟩
    · omega
    · exact ⟨_, _, by rw [e1, List.length_append]; rfl⟩
  obtain ⟨A', c', rfl⟩ := hshape
  rw [ownBlock_blk] at h3; rw [ownBlock_blk, ownBlock_blk] at h5
  refine ⟨A', c', w', hrun, ?_, ?_, h3, h5⟩
  · unfold OwnT; rw [List.flatMap_append, List.length_append]; rw [List.length_append] at h2; simpa using h2
  · refine (Below.refl base w).grown h3 hbase fun k hk => ?_
    exact (World.ownsRow.lt hown k (by rw [ownBlock_blk]; exact hk)).1
theorem wpList_append_st (h1 : ∀ x, ∀ u ∈ mk x, u.oneCell' = true) {ops : Array Oper} {rest : List Oper} {o : Oper} {a : Act} {Q : Exit → Act → World → Prop} (hgd : o.guard = none) (s x : Operand) (t : TypeId)
    (ho : o.op = .call { callee := .builtin .append, args := #[s, x], argTypes := #[t, t] })
    (base : Nat) (e : TypeId) (i : TypeInfo) (z : Value) (sz bsz : Nat) (hmk : ∀ x, (mk x).length = sz) (hs0 : 0 < sz) (ht : P.underlying t = some (.slice e)) (hi : P.info? e = some i) (hz : i.zero = some z)
    (hsize : i.size = sz) (hby : i.bytes = bsz) (hzs : z.cells.size = sz) (S : Option Addr) (d : Nat) (l : List α) (hs : a.eval s = .slice S l.length d) (hown : OwnT mk e sz w base S d l)
    (g : Nat) (c : Nat) (y : α) (fr : Nat × Nat) (te : TypeId) (hx : a.eval x = .slice (some ⟨g, 0, none⟩) 1 c) (hr : w.heap[g]? = some (.cells (mk y).toArray te fr)) (h63 : l.length + 1 ≤ maxLen) (hb : (l.length + 1) * bsz ≤ 140737488355328) (hbase : base ≤ w.heap.size)
    (h : ∀ L A' c' w', Hid (L = l ++ [y]) → OwnT mk e sz w' base A' c' L → Below base w w' → w.grownBy w' (blk S) → (blk A' = blk S ∨ blk A' = some w.heap.size) → wpList P ops Q rest (a.put o.dst (.slice A' L.length c')) w') :
    wpList P ops Q (o :: rest) a w := by
  refine wpList_plain hgd fun K hK => ?_
  obtain ⟨A', c', w', hrun, h2, h3, h4, h5⟩ := run_append_st (P := P) mk w h1 base t o.type e i z sz bsz hmk hs0 ht hi hz hsize hby hzs S d l hown g c y fr te hr h63 hb hbase
  unfold Oper.wp execOp
  simp only [ho, resolve, invoke, builtin, Sem.run_bind, Sem.run_pure, Result.andThen_ok, List.map_toArray, List.map_cons, List.map_nil, hs, hx, hrun]
  exact hK _ _ (h _ A' c' w' (Lib.hid rfl) h2 h3 h4 h5)
end
def vcells (v : Vt) : List Value := [.int .i64 (v.slot : Int), .int .i64 (v.ballot : Int), .int .i64 (v.origin : Int), .bool v.full, .string v.bytes]
theorem vcells_len (v : Vt) : (vcells v).length = 5 := rfl
theorem vcells_one (v : Vt) : ∀ u ∈ vcells v, u.oneCell' = true := by
  intro u hu
  simp only [vcells, List.mem_cons, List.not_mem_nil, or_false] at hu
  rcases hu with rfl | rfl | rfl | rfl | rfl <;> rfl
theorem Tryz.infoV : (Tryz.prog.info? 62).map (fun i => (i.zero, i.size, i.bytes)) = some (some (.agg #[.int .i64 0, .int .i64 0, .int .i64 0, .bool false, .string ByteArray.empty]), 5, 48) := by kernel_rfl
theorem lit_wf_i64 (n : Int) : (Lit.int .i64 n).wf = true ↔ (-9223372036854775808 ≤ n ∧ n ≤ 9223372036854775807) := by
  simp only [Lit.wf, Bool.and_eq_true, decide_eq_true_eq]
  rw [show IntKind.i64.min = -9223372036854775808 from rfl, show IntKind.i64.max = 9223372036854775807 from rfl]
def Rising (vs : List Vt) : Prop := vs.Pairwise (fun a b => a.slot < b.slot)
theorem keys_sorted (vs : List Vt) (hr : Rising vs) (ss : List Int) (hp : ss.Perm (vs.map (fun v => (v.slot : Int)))) : (ss.mergeSort fun x y => decide (x ≤ y)) = vs.map (fun v => (v.slot : Int)) := by
  have h1 : ((ss.mergeSort fun x y => decide (x ≤ y))).Perm (vs.map (fun v => (v.slot : Int))) := (List.mergeSort_perm ss _).trans hp
  have h2 : (ss.mergeSort fun x y => decide (x ≤ y)).Pairwise (fun x y => decide (x ≤ y) = true) := List.pairwise_mergeSort (by intro a b c h1 h2; simp at *; omega) (by intro a b; simp; omega) ss
  have h3 : (vs.map (fun v => (v.slot : Int))).Pairwise (fun x y => decide (x ≤ y) = true) := by
    rw [List.pairwise_map]
    exact hr.imp (fun h => by simp; omega)
  exact h1.eq_of_pairwise (fun a b _ _ h1 h2 => by simp at h1 h2; omega) h2 h3
theorem vs_unique {vs : List Vt} {k : Nat} (h : k < vs.length) : (vkv vs[k]) ∈ vs.map vkv := List.mem_map.2 ⟨_, List.getElem_mem _, rfl⟩
theorem sorted_any (S : Nat → Prop) (X p : Nat) (vs : List Vt) (hr : Rising vs) (hn : vs.length ≤ 64) (hs : ∀ v ∈ vs, VRight v) (W : World) (h : SaysAt W S X p vs) (hS : Lt S W) :
    Calls Tryz.prog 49 #[.pointer (some ⟨X, 0, none⟩)] W fun e W' => ∃ (L : List Vt) (A : Option Addr) (c : Nat), Hid (L = vs) ∧ e = .returned (.slice A L.length c) ∧ OwnT vcells 62 5 W' W.heap.size A c L ∧ (vs = [] → A = none ∧ c = 0) ∧ Below W.heap.size W W' := by
  obtain ⟨M, hX, sX, sM, hMX, hM⟩ := h
  have hXl := hS X sX; have hMl := hS M sM
  obtain ⟨i1, hi1, hy0, hy1, hy2⟩ := info_parts Tryz.infoV
  have c1 : W.cell? ⟨X, 1, none⟩ = some (.map (some M)) := by simp [World.cell?, hX]
  have hM1 := hM.of_block (heap_alloc_old W (.cells #[.map (some M)] 107) hMl)
  have hg : (W.alloc (.cells #[.map (some M)] 107)).cell? ⟨W.heap.size, 0, none⟩ = some (.map (some M)) := cell_new W _ _ _ 0 _ rfl rfl
  have HK := Lib.hid (show (vs.map vkv).map (·.1) = (vs.map (fun v => (v.slot : Int))).map (Value.int .i64) by rw [List.map_map, List.map_map]; rfl)
  have HW := Lib.hid (show ∀ k ∈ vs.map (fun v => (v.slot : Int)), (Lit.int .i64 k).wf = true by
    intro k hk
    obtain ⟨v, hv, rfl⟩ := List.mem_map.1 hk
    have := (hs v hv).s
    exact (lit_wf_i64 _).2 (by omega))
  go_enter Tryz.func49, Tryz.ntmps49
  go_wp2_with (first
    | (go_at_call 82; refine (keysV_any _ _).mono ?_; rintro e w1 ⟨rfl, rfl⟩)
    | (go_at_call 81; refine (sortedV_any W.heap.size M _ _ _ hg hM1 HK.out HW.out (by simp; omega)).mono ?_; rintro e w2 ⟨ss, A, c, hp, rfl, hrow, hb⟩))
  have hB2 := ((Below.refl W.heap.size W).alloc (Nat.le_refl _) (.cells #[.map (some M)] 107)).trans (hb.mono (by simp))
  have hlen : ss.length = vs.length := by rw [hp.length_eq]; simp
  rw [keys_sorted vs hr ss hp] at hrow
  have hX2 := (hB2.block X hXl).trans hX
  have hM2 := hM.of_block (hB2.block M hMl)
  have hs2 := hB2.size
  rw [hlen] at hrow ⊢
  clear hg hM1 hb
  have Hrow := Lib.hid hrow
  clear hrow
  go_loopw [3, 13] (fun o i wr => ∃ (k : Nat) (L : List Vt) (A2 : Option Addr) (c2 : Nat), k ≤ vs.length ∧ i = .int .i64 k ∧ o = .slice A2 L.length c2 ∧ Hid (L = vs.take k) ∧ OwnT vcells 62 5 wr w2.heap.size A2 c2 L ∧ (k = 0 → A2 = none ∧ c2 = 0) ∧ Below w2.heap.size w2 wr) (fun _ i _ => vs.length - (intOf i).toNat)
  case atStart => exact ⟨0, [], none, 0, Nat.zero_le _, rfl, rfl, Lib.hid rfl, OwnT.nil _ _ _ _ _, fun _ => ⟨rfl, rfl⟩, Below.refl _ _⟩
  case round =>
    obtain ⟨k, L, A2, c2, hk, rfl, rfl, hL, hO, h0, hB⟩ := hrel
    have hsw := hB.size
    by_cases hkn : k < vs.length
    · have hlk : L.length = k := by rw [hL.out, List.length_take]; omega
      obtain ⟨g, cap, cur, hv, hgb, hh, hn1, hc1, hc2, htk⟩ : ∃ g cap cur, Value.slice A vs.length c = .slice (some ⟨g, 0, none⟩) vs.length cap ∧ _ ∧ w2.heap[g]? = some (.cells cur 3 (0, 0)) ∧ vs.length ≤ cap ∧ cap ≤ maxLen ∧ cur.size = cap * 1 ∧ cur.toList.take (vs.length * 1) = (vs.map (fun v => (v.slot : Int))).map (Value.int .i64) := by
        rcases Hrow.out.2 with ⟨_, hz⟩ | h
        · omega
        · exact h
      injection hv with hA _ hc
      subst hA hc
      have hgl := (Array.getElem?_eq_some_iff.1 hh).1
      have hkey : wr.cell? ⟨g, k, none⟩ = some (.int .i64 (vs[k].slot : Int)) := by
        rw [hB.cell (p := ⟨g, k, none⟩) hgl]
        have := World.ownsRow.cells Hrow.out rfl k (.int .i64 (vs[k].slot : Int)) (by simp [hkn])
        simpa [Addr.add_lit] using this
      have hX3 := (hB.block X (by omega)).trans hX2
      have hM3 := hM2.of_block (hB.block M (by omega))
      have c2' : wr.cell? ⟨X, 1, none⟩ = some (.map (some M)) := by simp [World.cell?, hX3]
      have hl3 := hM3.look (P := Tryz.prog) (key := .int .i64 (vs[k].slot : Int)) Tryz.underlying107 Tryz.underlying3 rfl false (vs_unique hkn)
      unfold vtv at hl3
      simp only [Bool.false_eq_true, if_false] at hl3
      go_wp2_with (at_builtin; refine wpList_append_st vcells _ vcells_one rfl (.tmp 17) (.tmp 24) _ rfl w2.heap.size 62 i1 _ 5 48 vcells_len (by decide) Tryz.underlying72 hi1 hy0 hy1 hy2 rfl _ _ L rfl (hO.below ((Below.refl wr.heap.size wr).alloc (Nat.le_refl _) _) (Nat.le_refl _)) wr.heap.size _ vs[k] (0, 0) _ rfl (heap_alloc_new _ _) (by unfold maxLen; omega) (by omega) (by simp; omega) ?_; intro X2 B4 d4 w4 hX2 ho4 hb4 hg4 ha4)
      have hl4 : X2.length = k + 1 := by rw [hX2.out, List.length_append, hlk]; rfl
      have hl5 : X2 = vs.take (k + 1) := by rw [hX2.out, hL.out, List.take_succ_eq_append_getElem hkn]
      have hB4 : Below w2.heap.size w2 w4 := (hB.alloc hsw (.cells #[.int .i64 (vs[k].slot : Int), .int .i64 (vs[k].ballot : Int), .int .i64 (vs[k].origin : Int), .bool vs[k].full, .string vs[k].bytes] 62)).trans hb4
      go_roundw
      case rel => exact ⟨k + 1, X2, B4, d4, by omega, by go_num, rfl, Lib.hid hl5, ho4, by omega, hB4⟩
      case measure => simp [intOf]; omega
    · obtain rfl : k = vs.length := by omega
      go_wp2
      go_ret
      exact ⟨L, A2, c2, Lib.hid (by rw [hL.out, List.take_length]), rfl, hO.low hs2, fun e => h0 (by rw [e]; rfl), hB2.trans (hB.mono hs2)⟩
open Crc
inductive Rc
  | p (b : Nat)
  | v (v : Vt)
def rcB : Rc → List Nat
  | .p b => recP b
  | .v v => recV v
def say1 (s : Nat × List Vt) : Rc → Nat × List Vt
  | .p b => (max s.1 b, s.2)
  | .v v => (v.ballot, s.2 ++ [v])
def say (rs : List Rc) : Nat × List Vt := rs.foldl say1 (0, [])
def ok1 (s : Nat × List Vt) : Rc → Prop
  | .p b => 1 ≤ b ∧ b ≤ 2147483647
  | .v v => VRight v ∧ s.1 ≤ v.ballot ∧ ∀ u ∈ s.2, u.slot < v.slot
inductive LogOk : List Rc → Prop
  | nil : LogOk []
  | snoc {rs : List Rc} {r : Rc} : LogOk rs → ok1 (say rs) r → LogOk (rs ++ [r])
theorem say_snoc (rs : List Rc) (r : Rc) : say (rs ++ [r]) = say1 (say rs) r := by simp [say]
theorem LogOk.split {rs : List Rc} (h : LogOk rs) : ∀ (k : Nat) (hk : k < rs.length), ok1 (say (rs.take k)) rs[k] := by
  induction h with
  | nil => intro k hk; simp at hk
  | @snoc rs r _ hr ih =>
    intro k hk
    rcases Nat.lt_or_ge k rs.length with hlt | hge
    · have := ih k hlt
      rw [List.take_append_of_le_length (by omega), List.getElem_append_left hlt]; exact this
    · have e : k = rs.length := by simp at hk; omega
      subst e
      simpa using hr
theorem say_take {rs : List Rc} {k : Nat} (hk : k < rs.length) : say (rs.take (k + 1)) = say1 (say (rs.take k)) rs[k] := by
  rw [List.take_succ_eq_append_getElem hk, say_snoc]
theorem LogOk.rising {rs : List Rc} (h : LogOk rs) : Rising (say rs).2 ∧ ∀ v ∈ (say rs).2, VRight v := by
  induction h with
  | nil => exact ⟨List.Pairwise.nil, fun v hv => by cases hv⟩
  | @snoc rs r _ hr ih =>
    rw [say_snoc]
    cases r with
    | p b => exact ih
    | v v =>
      obtain ⟨h1, h2, h3⟩ := hr
      refine ⟨List.pairwise_append.2 ⟨ih.1, List.pairwise_singleton _ _, fun a ha b hb => ?_⟩, fun u hu => ?_⟩
      · obtain rfl := List.mem_singleton.1 hb; exact h3 a ha
      · rcases List.mem_append.1 hu with hu | hu
        · exact ih.2 u hu
        · obtain rfl := List.mem_singleton.1 hu; exact h1
theorem Rising.len {vs : List Vt} (h : Rising vs) (hs : ∀ v ∈ vs, VRight v) : vs.length ≤ 64 := by
  have h1 : ∀ (vs : List Vt) (k : Nat), Rising vs → (∀ v ∈ vs, v.slot < 64 ∧ k ≤ v.slot) → k ≤ 64 → vs.length + k ≤ 64 := by
    intro vs
    induction vs with
    | nil => intro k _ _ h; simpa using h
    | cons v vs ih =>
      intro k hr hv hk
      have hr' := List.pairwise_cons.1 hr
      have hv0 := hv v (List.mem_cons_self ..)
      have := ih (v.slot + 1) hr'.2 (fun u hu => ⟨(hv u (List.mem_cons_of_mem _ hu)).1, hr'.1 u hu⟩) (by omega)
      simp; omega
  have := h1 vs 0 h (fun v hv => ⟨(hs v hv).s, Nat.zero_le _⟩) (by omega)
  omega
theorem ok1_len {s : Nat × List Vt} {r : Rc} (h : ok1 s r) : (rcB r).length ≤ 544 ∧ Bytes (rcB r) ∧ 0 < (rcB r).length := by
  cases r with
  | p b => exact ⟨by simp [rcB, recP, numN_length], recP_bytes b, by simp [rcB, recP, numN_length]⟩
  | v v =>
    have ht := tail_le v h.1
    refine ⟨?_, recV_bytes v, ?_⟩
    · show (recV v).length ≤ 544; rw [recV_eq, List.length_append, numN_length]; omega
    · show 0 < (recV v).length; rw [recV_eq, List.length_append, numN_length]; omega
def logB (rs : List Rc) : List Nat := (rs.map fun r => frameN (rcB r)).flatten
theorem logB_snoc (rs : List Rc) (r : Rc) : logB (rs ++ [r]) = logB rs ++ frameN (rcB r) := by simp [logB]
theorem logB_cons (r : Rc) (rs : List Rc) : logB (r :: rs) = frameN (rcB r) ++ logB rs := by simp [logB]
theorem frameN_length (r : List Nat) : (frameN r).length = 12 + r.length := by simp [frameN, headN_length]
theorem frameN_bytes {r : List Nat} (h : Bytes r) : Bytes (frameN r) := by
  intro x hx
  simp only [frameN, headN, List.mem_append] at hx
  rcases hx with ((h1 | h1) | h1) | h1
  · exact numN_bytes _ x h1
  · exact numN_bytes _ x h1
  · exact numN_bytes _ x h1
  · exact h x h1
theorem cutF_frame (r rest : List Nat) (hr : r.length ≤ 65535) : cutF (frameN r ++ rest) = some (r, rest) := by
  have hu : unNum (frameN r ++ rest) = r.length := by
    simp only [frameN, headN, List.append_assoc]; exact unNum_app _ (by omega) _
  have h12 : (frameN r ++ rest).take 12 = headN r := by
    rw [frameN, List.append_assoc, List.take_append_of_le_length (by rw [headN_length]; omega), List.take_of_length_le (by rw [headN_length]; omega)]
  have hd12 : (frameN r ++ rest).drop 12 = r ++ rest := by
    rw [frameN, List.append_assoc, List.drop_append_of_le_length (by rw [headN_length]; omega), List.drop_of_length_le (by rw [headN_length]; omega)]; rfl
  have h4 : (frameN r ++ rest).take 4 = numN r.length := rfl
  have hl : (frameN r ++ rest).length = 12 + r.length + rest.length := by rw [List.length_append, frameN_length]
  unfold cutF
  rw [hu, h12, hd12, h4, hl, List.take_left, List.drop_left]
  rw [if_pos ⟨by omega, hr, by omega, rfl⟩]
theorem scans_log : ∀ (rs : List Rc), (∀ r ∈ rs, (rcB r).length ≤ 65535) → Scans (logB rs) (rs.map rcB) []
  | [], _ => Scans.stop (by simp [logB, cutF])
  | r :: rs, h => by
    rw [logB_cons]
    exact Scans.step (cutF_frame _ _ (h r (List.mem_cons_self ..))) (scans_log rs fun x hx => h x (List.mem_cons_of_mem _ hx))
theorem LogOk.mem {rs : List Rc} (h : LogOk rs) : ∀ r ∈ rs, (rcB r).length ≤ 544 ∧ Bytes (rcB r) ∧ 0 < (rcB r).length := by
  intro r hr
  obtain ⟨k, hk, rfl⟩ := List.getElem_of_mem hr
  exact ok1_len (h.split k hk)
theorem LogOk.bytes {rs : List Rc} (h : LogOk rs) : Bytes (logB rs) := by
  intro x hx
  obtain ⟨l, hl, hxl⟩ := List.mem_flatten.1 hx
  obtain ⟨r, hr, rfl⟩ := List.mem_map.1 hl
  exact frameN_bytes (h.mem r hr).2.1 x hxl
theorem logB_len (rs : List Rc) : logB rs = [] → rs = [] := by
  cases rs with
  | nil => intro _; rfl
  | cons r rs =>
    intro h
    have := congrArg List.length h
    rw [logB_cons, List.length_append, frameN_length] at this
    simp at this
theorem take_any (S : Nat → Prop) (X : Nat) (s : Nat × List Vt) (r : Rc) (hok : ok1 s r) (A : Option Addr) (L : List Nat) (hL : Hid (L = rcB r)) (c : Nat) (hc : L.length ≤ c) (hcm : c ≤ 9223372036854775807) (W : World) (h : SaysAt W S X s.1 s.2) (hS : Lt S W) (hr : RdB W A L) :
    Calls Tryz.prog 79 #[.pointer (some ⟨X, 0, none⟩), .slice A L.length c] W fun e W' => e = .returned (.bool true) ∧ SaysAt W' S X (say1 s r).1 (say1 s r).2 ∧ Turned S W W' := by
  cases r with
  | p b => exact take_p S X s.1 s.2 b hok.1 hok.2 A L hL c hc hcm W h hS hr
  | v v => exact take_v S X s.1 s.2 v hok.2.1 hok.1 (fun u hu => by have := hok.2.2 u hu; omega) A L hL c hc hcm W h hS hr
end Go.Proofs.YtoigogjmhkpdlaaGreat
