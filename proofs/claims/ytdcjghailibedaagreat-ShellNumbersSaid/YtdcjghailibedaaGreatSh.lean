/-
  The library's sort at this program: the shelf's contract, laid in plain words by the kit's own tools.
-/
import Derived.Shelf.Sort.Plain
import Derived.Shelf.Slices.In.SortNone
import Derived.Test.YtdcjghailibedaaGreatProg
namespace Go.Proofs
open Go.Shelf
def Tryz.lays189_ren : Go.Shelf.Ren := ⟨fun | 189 => 275 | 125 => 138 | 257 => 282 | 128 => 194 | 129 => 195 | 294 => 286 | 295 => 287 | 296 => 288 | 297 => 289 | 298 => 290 | 299 => 291 | 216 => 292 | 300 => 293 | 301 => 294 | 328 => 296 | 329 => 297 | 330 => 298 | 331 => 299 | 332 => 300 | 215 => 301 | 343 => 302 | n => n, fun | 28 => 22 | 3 => 3 | 46 => 84 | 0 => 0 | 51 => 268 | 53 => 83 | 4 => 4 | 183 => 327 | 182 => 326 | 131 => 206 | 5 => 5 | 9 => 9 | 218 => 332 | 222 => 336 | 228 => 338 | 229 => 213 | n => n, fun | n => n⟩
theorem Tryz.lays189 : Go.Proofs.Lays.n189 Tryz.prog Tryz.lays189_ren := {
  mixed := by kernel_rfl
  f125 := Tryz.func138.trans (congrArg some (by kernel_rfl))
  f128 := Tryz.func194.trans (congrArg some (by kernel_rfl))
  f129 := Tryz.func195.trans (congrArg some (by kernel_rfl))
  f189 := Tryz.func275.trans (congrArg some (by kernel_rfl))
  f215 := Tryz.func301.trans (congrArg some (by kernel_rfl))
  f216 := Tryz.func292.trans (congrArg some (by kernel_rfl))
  f257 := Tryz.func282.trans (congrArg some (by kernel_rfl))
  f294 := Tryz.func286.trans (congrArg some (by kernel_rfl))
  f295 := Tryz.func287.trans (congrArg some (by kernel_rfl))
  f296 := Tryz.func288.trans (congrArg some (by kernel_rfl))
  f297 := Tryz.func289.trans (congrArg some (by kernel_rfl))
  f298 := Tryz.func290.trans (congrArg some (by kernel_rfl))
  f299 := Tryz.func291.trans (congrArg some (by kernel_rfl))
  f300 := Tryz.func293.trans (congrArg some (by kernel_rfl))
  f301 := Tryz.func294.trans (congrArg some (by kernel_rfl))
  f328 := Tryz.func296.trans (congrArg some (by kernel_rfl))
  f329 := Tryz.func297.trans (congrArg some (by kernel_rfl))
  f330 := Tryz.func298.trans (congrArg some (by kernel_rfl))
  f331 := Tryz.func299.trans (congrArg some (by kernel_rfl))
  f332 := Tryz.func300.trans (congrArg some (by kernel_rfl))
  f343 := Tryz.func302.trans (congrArg some (by kernel_rfl))
  t0 := Tryz.underlying0
  a0 := Tryz.isAgg0
  z0 := Tryz.sizeOf0
  v0 := Tryz.zeroValue0
  t3 := Tryz.underlying3
  a3 := Tryz.isAgg3
  z3 := Tryz.sizeOf3
  v3 := Tryz.zeroValue3
  t4 := Tryz.underlying4
  a4 := Tryz.isAgg4
  z4 := Tryz.sizeOf4
  v4 := Tryz.zeroValue4
  t5 := Tryz.underlying5
  a5 := Tryz.isAgg5
  z5 := Tryz.sizeOf5
  v5 := Tryz.zeroValue5
  t9 := Tryz.underlying9
  a9 := Tryz.isAgg9
  z9 := Tryz.sizeOf9
  v9 := Tryz.zeroValue9
  t28 := Tryz.underlying22
  a28 := Tryz.isAgg22
  z28 := Tryz.sizeOf22
  v28 := Tryz.zeroValue22
  t46 := Tryz.underlying84
  a46 := Tryz.isAgg84
  z46 := Tryz.sizeOf84
  v46 := Tryz.zeroValue84
  t51 := Tryz.underlying268
  a51 := Tryz.isAgg268
  z51 := Tryz.sizeOf268
  v51 := Tryz.zeroValue268
  t53 := Tryz.underlying83
  a53 := Tryz.isAgg83
  z53 := Tryz.sizeOf83
  v53 := Tryz.zeroValue83
  t131 := Tryz.underlying206
  a131 := Tryz.isAgg206
  z131 := Tryz.sizeOf206
  v131 := Tryz.zeroValue206
  t182 := Tryz.underlying326
  a182 := Tryz.isAgg326
  z182 := Tryz.sizeOf326
  v182 := Tryz.zeroValue326
  t183 := Tryz.underlying327
  a183 := Tryz.isAgg327
  z183 := Tryz.sizeOf327
  v183 := Tryz.zeroValue327
  t218 := Tryz.underlying332
  a218 := Tryz.isAgg332
  z218 := Tryz.sizeOf332
  v218 := Tryz.zeroValue332
  t222 := Tryz.underlying336
  a222 := Tryz.isAgg336
  z222 := Tryz.sizeOf336
  v222 := Tryz.zeroValue336
  t228 := Tryz.underlying338
  a228 := Tryz.isAgg338
  z228 := Tryz.sizeOf338
  v228 := Tryz.zeroValue338
  t229 := Tryz.underlying213
  a229 := Tryz.isAgg213
  z229 := Tryz.sizeOf213
  v229 := Tryz.zeroValue213 }
open Go.Sort Go.RowKit in
theorem Tryz.slices_Sort_int (blk off cap : Nat) (zs : List Int) (w : World) (hH : Holds (Value.int .i64) w blk off zs.toArray) (hblk : blk < w.heap.size) (hsz : zs.length < 4611686018427387904) :
    Calls Tryz.prog 275 #[.slice (some ⟨blk, off, none⟩) zs.length cap] w fun e w' =>
      e = .returned (.tuple #[]) ∧ ∃ n os, w' = grow (putRow (Value.int .i64) (Sort.ahead w n) blk off (zs.mergeSort fun x y => decide (x ≤ y)).toArray) os := Any.slices_Sort_int Tryz.lays189 blk off cap zs w hH hblk hsz
open Go.RowKit Go.Sort in
/-- .. and plain. (LAID: no walk: one application.) -/
theorem Tryz.slices_Sort_int_none (p : Option Addr) (cap : Nat) (w : World) :
    Calls Tryz.prog 275 #[.slice p 0 cap] w fun e w' => e = .returned (.tuple #[]) ∧ w' = w := Any.slices_Sort_int_none Tryz.lays189 p cap w
end Go.Proofs
