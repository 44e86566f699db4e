/-
  The library's sort at this program: the shelf's contract, laid in plain words by the kit's own tools.
-/
import Derived.Shelf.Sort.Plain
import Derived.Shelf.Slices.In.SortNone
import Derived.Test.YtniljpojpnlmmaaGreatProg
namespace Go.Proofs
open Go.Shelf
def Tryz.lays189_ren : Go.Shelf.Ren := ⟨fun | 189 => 369 | 125 => 274 | 257 => 375 | 128 => 320 | 129 => 321 | 294 => 378 | 295 => 379 | 296 => 380 | 297 => 381 | 298 => 382 | 299 => 383 | 216 => 384 | 300 => 385 | 301 => 386 | 328 => 388 | 329 => 389 | 330 => 390 | 331 => 391 | 332 => 392 | 215 => 393 | 343 => 394 | n => n, fun | 28 => 22 | 3 => 3 | 46 => 190 | 0 => 0 | 51 => 378 | 53 => 189 | 4 => 4 | 183 => 415 | 182 => 414 | 131 => 170 | 5 => 5 | 9 => 9 | 218 => 420 | 222 => 424 | 228 => 426 | 229 => 127 | n => n, fun | n => n⟩
theorem Tryz.lays189 : Go.Proofs.Lays.n189 Tryz.prog Tryz.lays189_ren := {
  mixed := by kernel_rfl
  f125 := Tryz.func274.trans (congrArg some (by kernel_rfl))
  f128 := Tryz.func320.trans (congrArg some (by kernel_rfl))
  f129 := Tryz.func321.trans (congrArg some (by kernel_rfl))
  f189 := Tryz.func369.trans (congrArg some (by kernel_rfl))
  f215 := Tryz.func393.trans (congrArg some (by kernel_rfl))
  f216 := Tryz.func384.trans (congrArg some (by kernel_rfl))
  f257 := Tryz.func375.trans (congrArg some (by kernel_rfl))
  f294 := Tryz.func378.trans (congrArg some (by kernel_rfl))
  f295 := Tryz.func379.trans (congrArg some (by kernel_rfl))
  f296 := Tryz.func380.trans (congrArg some (by kernel_rfl))
  f297 := Tryz.func381.trans (congrArg some (by kernel_rfl))
  f298 := Tryz.func382.trans (congrArg some (by kernel_rfl))
  f299 := Tryz.func383.trans (congrArg some (by kernel_rfl))
  f300 := Tryz.func385.trans (congrArg some (by kernel_rfl))
  f301 := Tryz.func386.trans (congrArg some (by kernel_rfl))
  f328 := Tryz.func388.trans (congrArg some (by kernel_rfl))
  f329 := Tryz.func389.trans (congrArg some (by kernel_rfl))
  f330 := Tryz.func390.trans (congrArg some (by kernel_rfl))
  f331 := Tryz.func391.trans (congrArg some (by kernel_rfl))
  f332 := Tryz.func392.trans (congrArg some (by kernel_rfl))
  f343 := Tryz.func394.trans (congrArg some (by kernel_rfl))
  t0 := Tryz.underlying0
  a0 := Tryz.isAgg0
  z0 := Tryz.sizeOf0
  v0 := Tryz.zeroValue0
  t3 := Tryz.underlying3
  a3 := Tryz.isAgg3
  z3 := Tryz.sizeOf3
  v3 := Tryz.zeroValue3
  t4 := Tryz.underlying4
  a4 := Tryz.isAgg4
  z4 := Tryz.sizeOf4
  v4 := Tryz.zeroValue4
  t5 := Tryz.underlying5
  a5 := Tryz.isAgg5
  z5 := Tryz.sizeOf5
  v5 := Tryz.zeroValue5
  t9 := Tryz.underlying9
  a9 := Tryz.isAgg9
  z9 := Tryz.sizeOf9
  v9 := Tryz.zeroValue9
  t28 := Tryz.underlying22
  a28 := Tryz.isAgg22
  z28 := Tryz.sizeOf22
  v28 := Tryz.zeroValue22
  t46 := Tryz.underlying190
  a46 := Tryz.isAgg190
  z46 := Tryz.sizeOf190
  v46 := Tryz.zeroValue190
  t51 := Tryz.underlying378
  a51 := Tryz.isAgg378
  z51 := Tryz.sizeOf378
  v51 := Tryz.zeroValue378
  t53 := Tryz.underlying189
  a53 := Tryz.isAgg189
  z53 := Tryz.sizeOf189
  v53 := Tryz.zeroValue189
  t131 := Tryz.underlying170
  a131 := Tryz.isAgg170
  z131 := Tryz.sizeOf170
  v131 := Tryz.zeroValue170
  t182 := Tryz.underlying414
  a182 := Tryz.isAgg414
  z182 := Tryz.sizeOf414
  v182 := Tryz.zeroValue414
  t183 := Tryz.underlying415
  a183 := Tryz.isAgg415
  z183 := Tryz.sizeOf415
  v183 := Tryz.zeroValue415
  t218 := Tryz.underlying420
  a218 := Tryz.isAgg420
  z218 := Tryz.sizeOf420
  v218 := Tryz.zeroValue420
  t222 := Tryz.underlying424
  a222 := Tryz.isAgg424
  z222 := Tryz.sizeOf424
  v222 := Tryz.zeroValue424
  t228 := Tryz.underlying426
  a228 := Tryz.isAgg426
  z228 := Tryz.sizeOf426
  v228 := Tryz.zeroValue426
  t229 := Tryz.underlying127
  a229 := Tryz.isAgg127
  z229 := Tryz.sizeOf127
  v229 := Tryz.zeroValue127 }
open Go.Sort Go.RowKit in
theorem Tryz.slices_Sort_int (blk off cap : Nat) (zs : List Int) (w : World) (hH : Holds (Value.int .i64) w blk off zs.toArray) (hblk : blk < w.heap.size) (hsz : zs.length < 4611686018427387904) :
    Calls Tryz.prog 369 #[.slice (some ⟨blk, off, none⟩) zs.length cap] w fun e w' =>
      e = .returned (.tuple #[]) ∧ ∃ n os, w' = grow (putRow (Value.int .i64) (Sort.ahead w n) blk off (zs.mergeSort fun x y => decide (x ≤ y)).toArray) os := Any.slices_Sort_int Tryz.lays189 blk off cap zs w hH hblk hsz
open Go.RowKit Go.Sort in
/-- .. and plain. (LAID: no walk: one application.) -/
theorem Tryz.slices_Sort_int_none (p : Option Addr) (cap : Nat) (w : World) :
    Calls Tryz.prog 369 #[.slice p 0 cap] w fun e w' => e = .returned (.tuple #[]) ∧ w' = w := Any.slices_Sort_int_none Tryz.lays189 p cap w
end Go.Proofs
