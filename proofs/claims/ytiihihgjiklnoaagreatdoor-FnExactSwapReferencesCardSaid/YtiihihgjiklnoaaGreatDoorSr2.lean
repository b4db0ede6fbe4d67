/- Part 2 of the proof: the texts Shelf. -/
import Derived.Shelf.Utf8.RuneCount
import Derived.Shelf.Strings.Search1
import Derived.Shelf.Strings.Search2
import Derived.Shelf.Strings.Search3
import Derived.Shelf.Strings.Count
import Derived.Shelf.LaysM
import Derived.Shelf.Strings.Shaped
import Derived.Shelf.Strings.Prefix
import Derived.Shelf.Strings.Split
import Derived.Shelf.Strings.SplitShaped
import Derived.Shelf.Unicode.Decode
import Derived.Shelf.Strings.RuneCount
import Derived.Shelf.Strings.Explode
import Derived.Shelf.Bits.Mul64
import Derived.Shelf.Unicode.DecodeSlow
import Derived.Shelf.Unicode.DecodeAny
import Derived.Shelf.Slices.Turned
import Derived.Shelf.Slices.Equal
import Derived.Ground.Names2Prog
import Derived.Shelf.Slices.Clone
import Derived.Shelf.Slices.Empties2
import Derived.Ground.SlgnProg
import Derived.Shelf.SlicesE.Clone
import Derived.Test.YtiihihgjiklnoaaGreatDoorProg
set_option linter.all false
namespace Go.Proofs
open Go.Shelf
def Tryz.lays99_ren : Go.Shelf.Ren := ⟨fun | 99 => 287 | 206 => 295 | n => n, fun | 9 => 9 | 4 => 4 | 3 => 3 | n => n, fun | n => n⟩
theorem Tryz.lays99 : Go.Proofs.Lays.n99 Tryz.prog Tryz.lays99_ren := {
 mixed := by kernel_rfl
 f99 := Tryz.func287.trans (congrArg some (by kernel_rfl))
 f206 := Tryz.func295.trans (congrArg some (by kernel_rfl))
 t3 := Tryz.underlying3
 a3 := Tryz.isAgg3
 z3 := Tryz.sizeOf3
 v3 := Tryz.zeroValue3
 t4 := Tryz.underlying4
 a4 := Tryz.isAgg4
 z4 := Tryz.sizeOf4
 v4 := Tryz.zeroValue4
 t9 := Tryz.underlying9
 a9 := Tryz.isAgg9
 z9 := Tryz.sizeOf9
 v9 := Tryz.zeroValue9 }
open Go.RowKit Go.Lib in
theorem Tryz.strings_HasPrefix (s p : ByteArray) (w : World) :
   Calls Tryz.prog 287 #[.string s, .string p] w fun e w' => e = .returned (.bool (Lib.hasPrefix s.data.toList p.data.toList)) /\ w' = w := Any.strings_HasPrefix Tryz.lays99 s p w
def Tryz.lays100_ren : Go.Shelf.Ren := ⟨fun | 100 => 269 | 207 => 288 | n => n, fun | 9 => 9 | 4 => 4 | 3 => 3 | n => n, fun | n => n⟩
theorem Tryz.lays100 : Go.Proofs.Lays.n100 Tryz.prog Tryz.lays100_ren := {
 mixed := by kernel_rfl
 f100 := Tryz.func269.trans (congrArg some (by kernel_rfl))
 f207 := Tryz.func288.trans (congrArg some (by kernel_rfl))
 t3 := Tryz.underlying3
 a3 := Tryz.isAgg3
 z3 := Tryz.sizeOf3
 v3 := Tryz.zeroValue3
 t4 := Tryz.underlying4
 a4 := Tryz.isAgg4
 z4 := Tryz.sizeOf4
 v4 := Tryz.zeroValue4
 t9 := Tryz.underlying9
 a9 := Tryz.isAgg9
 z9 := Tryz.sizeOf9
 v9 := Tryz.zeroValue9 }
open Go.RowKit Go.Lib in
theorem Tryz.strings_HasSuffix (s p : ByteArray) (w : World) (hs : s.size <= 9223372036854775807) :
   Calls Tryz.prog 269 #[.string s, .string p] w fun e w' => e = .returned (.bool (Lib.hasSuffix s.data.toList p.data.toList)) /\ w' = w := Any.strings_HasSuffix Tryz.lays100 s p w hs
def Tryz.lays146_ren : Go.Shelf.Ren := ⟨fun | 146 => 270 | 221 => 289 | 268 => 296 | 138 => 297 | 143 => 298 | 195 => 299 | 197 => 300 | 218 => 301 | 219 => 302 | 260 => 303 | 217 => 304 | 225 => 305 | 224 => 306 | 267 => 307 | 266 => 308 | 314 => 309 | n => n, fun | 9 => 9 | 31 => 34 | 3 => 3 | 4 => 4 | 0 => 0 | 105 => 341 | 21 => 21 | 5 => 5 | 46 => 321 | 119 => 344 | 139 => 347 | 138 => 346 | 146 => 334 | 51 => 333 | n => n, fun | 1 => 0 | 3 => 1 | 4 => 2 | n => n⟩
theorem Tryz.lays146 : Go.Proofs.Lays.n146 Tryz.prog Tryz.lays146_ren := {
 mixed := by kernel_rfl
 f138 := Tryz.func297.trans (congrArg some (by kernel_rfl))
 f143 := Tryz.func298.trans (congrArg some (by kernel_rfl))
 f146 := Tryz.func270.trans (congrArg some (by kernel_rfl))
 f195 := Tryz.func299.trans (congrArg some (by kernel_rfl))
 f197 := Tryz.func300.trans (congrArg some (by kernel_rfl))
 f217 := Tryz.func304.trans (congrArg some (by kernel_rfl))
 f218 := Tryz.func301.trans (congrArg some (by kernel_rfl))
 f219 := Tryz.func302.trans (congrArg some (by kernel_rfl))
 f221 := Tryz.func289.trans (congrArg some (by kernel_rfl))
 f224 := Tryz.func306.trans (congrArg some (by kernel_rfl))
 f225 := Tryz.func305.trans (congrArg some (by kernel_rfl))
 f260 := Tryz.func303.trans (congrArg some (by kernel_rfl))
 f266 := Tryz.func308.trans (congrArg some (by kernel_rfl))
 f267 := Tryz.func307.trans (congrArg some (by kernel_rfl))
 f268 := Tryz.func296.trans (congrArg some (by kernel_rfl))
 f314 := Tryz.func309.trans (congrArg some (by kernel_rfl))
 t0 := Tryz.underlying0
 a0 := Tryz.isAgg0
 z0 := Tryz.sizeOf0
 v0 := Tryz.zeroValue0
 t3 := Tryz.underlying3
 a3 := Tryz.isAgg3
 z3 := Tryz.sizeOf3
 v3 := Tryz.zeroValue3
 t4 := Tryz.underlying4
 a4 := Tryz.isAgg4
 z4 := Tryz.sizeOf4
 v4 := Tryz.zeroValue4
 t5 := Tryz.underlying5
 a5 := Tryz.isAgg5
 z5 := Tryz.sizeOf5
 v5 := Tryz.zeroValue5
 t9 := Tryz.underlying9
 a9 := Tryz.isAgg9
 z9 := Tryz.sizeOf9
 v9 := Tryz.zeroValue9
 t21 := Tryz.underlying21
 a21 := Tryz.isAgg21
 z21 := Tryz.sizeOf21
 v21 := Tryz.zeroValue21
 t31 := Tryz.underlying34
 a31 := Tryz.isAgg34
 z31 := Tryz.sizeOf34
 v31 := Tryz.zeroValue34
 t46 := Tryz.underlying321
 a46 := Tryz.isAgg321
 z46 := Tryz.sizeOf321
 v46 := Tryz.zeroValue321
 t51 := Tryz.underlying333
 a51 := Tryz.isAgg333
 z51 := Tryz.sizeOf333
 v51 := Tryz.zeroValue333
 t105 := Tryz.underlying341
 a105 := Tryz.isAgg341
 z105 := Tryz.sizeOf341
 v105 := Tryz.zeroValue341
 t119 := Tryz.underlying344
 a119 := Tryz.isAgg344
 z119 := Tryz.sizeOf344
 t138 := Tryz.underlying346
 a138 := Tryz.isAgg346
 z138 := Tryz.sizeOf346
 v138 := Tryz.zeroValue346
 t139 := Tryz.underlying347
 a139 := Tryz.isAgg347
 z139 := Tryz.sizeOf347
 v139 := Tryz.zeroValue347
 t146 := Tryz.underlying334
 a146 := Tryz.isAgg334
 z146 := Tryz.sizeOf334
 v146 := Tryz.zeroValue334
 g1 := by kernel_rfl
 g3 := by kernel_rfl
 g4 := by kernel_rfl }
open Go.RowKit Go.Lib in
theorem Tryz.strings_Split (s sep : ByteArray) (m : Int) (w : World) (hs : s.size < 4294967281) (hm : w.cell? ⟨0, 0, none⟩ = some (.int .i64 m)) (h1 : 1 <= sep.size) :
   Calls Tryz.prog 270 #[.string s, .string sep] w fun e w' =>
     e = .returned (.slice (some ⟨w.heap.size, 0, none⟩) (Lib.countB s sep + 1) (Lib.countB s sep + 1)) /\ w' = w.alloc (.cells ((Lib.splitB sep 0 (Lib.countB s sep) s).map Value.string).toArray 9) := Any.strings_Split Tryz.lays146 (by kernel_rfl) s sep m w hs hm h1
def Tryz.lays212_ren : Go.Shelf.Ren := ⟨fun | 212 => 271 | 263 => 290 | 264 => 291 | n => n, fun | 46 => 321 | 51 => 333 | 146 => 334 | 53 => 336 | 148 => 337 | n => n, fun | n => n⟩
theorem Tryz.lays212 : Go.Proofs.Lays.n212 Tryz.prog Tryz.lays212_ren := {
 mixed := by kernel_rfl
 f212 := Tryz.func271.trans (congrArg some (by kernel_rfl))
 f263 := Tryz.func290.trans (congrArg some (by kernel_rfl))
 f264 := Tryz.func291.trans (congrArg some (by kernel_rfl))
 t46 := Tryz.underlying321
 a46 := Tryz.isAgg321
 z46 := Tryz.sizeOf321
 v46 := Tryz.zeroValue321
 t51 := Tryz.underlying333
 a51 := Tryz.isAgg333
 z51 := Tryz.sizeOf333
 v51 := Tryz.zeroValue333
 t53 := Tryz.underlying336
 a53 := Tryz.isAgg336
 z53 := Tryz.sizeOf336
 v53 := Tryz.zeroValue336
 t146 := Tryz.underlying334
 a146 := Tryz.isAgg334
 z146 := Tryz.sizeOf334
 v146 := Tryz.zeroValue334
 t148 := Tryz.underlying337
 a148 := Tryz.isAgg337
 z148 := Tryz.sizeOf337
 v148 := Tryz.zeroValue337 }
open Go.RowKit Go.Lib in
theorem Tryz.bits_Mul (x y : Nat) (hx : x < 18446744073709551616) (hy : y < 18446744073709551616) (w : World) :
   Calls Tryz.prog 271 #[.int .u64 x, .int .u64 y] w fun e w' => e = .returned (.tuple #[.int .u64 ((x * y / 18446744073709551616 : Nat) : Int), .int .u64 ((x * y % 18446744073709551616 : Nat) : Int)]) /\ w' = w := Any.bits_Mul Tryz.lays212 x y hx hy w
end Go.Proofs
