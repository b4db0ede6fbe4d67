/- Part 2 of the proof: the texts Shelf. -/
import Derived.Shelf.Strings.Builder1
import Derived.Shelf.Strings.Builder2
import Derived.Shelf.Strings.OnBuilder
import Derived.Shelf.Small.Utf8
import Derived.Shelf.Small.Strs
import Derived.Shelf.Utf8.RuneCount
import Derived.Shelf.Strconv.Itoa0
import Derived.Shelf.Strconv.Itoa1
import Derived.Shelf.LaysM
import Derived.Shelf.Strconv.Itoa2
import Derived.Shelf.Strconv.Itoa3
import Derived.Shelf.Strings.Search1
import Derived.Shelf.Strings.Search2
import Derived.Shelf.Strings.Search3
import Derived.Shelf.Strings.Count
import Derived.Shelf.Strings.Shaped
import Derived.Shelf.Strings.Prefix
import Derived.Shelf.Strings.Split
import Derived.Shelf.Strings.Replace
import Derived.Shelf.Strings.SplitShaped
import Derived.Shelf.Unicode.Decode
import Derived.Shelf.Strings.Runes
import Derived.Shelf.Strings.RuneCount
import Derived.Shelf.Strings.Explode
import Derived.Shelf.Bits.Mul64
import Derived.Shelf.Unicode.DecodeSlow
import Derived.Shelf.Unicode.DecodeAny
import Derived.Shelf.Slices.Turned
import Derived.Shelf.Slices.Equal
import Derived.Ground.Names2Prog
import Derived.Shelf.Slices.Clone
import Derived.Shelf.Slices.Empties2
import Derived.Ground.SlgnProg
import Derived.Shelf.SlicesE.Clone
import Derived.Test.YtigipcbnfeoliaaGreatDoorProg
set_option linter.all false
namespace Go.Proofs
open Go.Shelf
def Tryz.lays156_ren : Go.Shelf.Ren := ⟨fun | 156 => 174 | 165 => 237 | 166 => 238 | 169 => 239 | 240 => 285 | 241 => 286 | 276 => 325 | 277 => 326 | n => n, fun | 31 => 28 | 9 => 9 | 3 => 3 | 4 => 4 | 0 => 0 | 20 => 20 | 72 => 288 | 76 => 291 | 70 => 286 | 37 => 220 | 75 => 290 | 127 => 340 | 164 => 375 | 5 => 5 | 80 => 216 | n => n, fun | n => n⟩
theorem Tryz.lays156 : Go.Proofs.Lays.n156 Tryz.prog Tryz.lays156_ren := {
 mixed := by kernel_rfl
 f156 := Tryz.func174.trans (congrArg some (by kernel_rfl))
 f165 := Tryz.func237.trans (congrArg some (by kernel_rfl))
 f166 := Tryz.func238.trans (congrArg some (by kernel_rfl))
 f169 := Tryz.func239.trans (congrArg some (by kernel_rfl))
 f240 := Tryz.func285.trans (congrArg some (by kernel_rfl))
 f241 := Tryz.func286.trans (congrArg some (by kernel_rfl))
 f276 := Tryz.func325.trans (congrArg some (by kernel_rfl))
 f277 := Tryz.func326.trans (congrArg some (by kernel_rfl))
 t0 := Tryz.underlying0
 a0 := Tryz.isAgg0
 z0 := Tryz.sizeOf0
 v0 := Tryz.zeroValue0
 t3 := Tryz.underlying3
 a3 := Tryz.isAgg3
 z3 := Tryz.sizeOf3
 v3 := Tryz.zeroValue3
 t4 := Tryz.underlying4
 a4 := Tryz.isAgg4
 z4 := Tryz.sizeOf4
 v4 := Tryz.zeroValue4
 t9 := Tryz.underlying9
 a9 := Tryz.isAgg9
 z9 := Tryz.sizeOf9
 v9 := Tryz.zeroValue9
 t20 := Tryz.underlying20
 a20 := Tryz.isAgg20
 z20 := Tryz.sizeOf20
 v20 := Tryz.zeroValue20
 t31 := Tryz.underlying28
 a31 := Tryz.isAgg28
 z31 := Tryz.sizeOf28
 v31 := Tryz.zeroValue28
 t37 := Tryz.underlying220
 a37 := Tryz.isAgg220
 z37 := Tryz.sizeOf220
 v37 := Tryz.zeroValue220
 t70 := Tryz.underlying286
 a70 := Tryz.isAgg286
 z70 := Tryz.sizeOf286
 v70 := Tryz.zeroValue286
 t72 := Tryz.underlying288
 a72 := Tryz.isAgg288
 z72 := Tryz.sizeOf288
 v72 := Tryz.zeroValue288
 t75 := Tryz.underlying290
 a75 := Tryz.isAgg290
 z75 := Tryz.sizeOf290
 v75 := Tryz.zeroValue290
 t76 := Tryz.underlying291
 a76 := Tryz.isAgg291
 z76 := Tryz.sizeOf291
 v76 := Tryz.zeroValue291
 t127 := Tryz.underlying340
 a127 := Tryz.isAgg340
 z127 := Tryz.sizeOf340
 v127 := Tryz.zeroValue340
 t164 := Tryz.underlying375
 a164 := Tryz.isAgg375
 z164 := Tryz.sizeOf375
 v164 := Tryz.zeroValue375 }
theorem Tryz.Builder_Extra_156 : Builder.Extra Tryz.prog Tryz.lays156_ren := {
 sizeBuilder := by kernel_rfl
 liesBuilder := by kernel_rfl
 t5 := Tryz.underlying5
 a5 := Tryz.isAgg5
 z5 := Tryz.sizeOf5
 v5 := Tryz.zeroValue5
 infoByte := by kernel_rfl
 cellsByte := by kernel_rfl
 sizeByte := by kernel_rfl
 neB5 := by decide }
open Go.RowKit in
theorem Tryz.strings_Join (bk o c : Nat) (xs : List ByteArray) (sep : ByteArray) (w : World) (hcells : ∀ (j : Nat) x, xs[j]? = some x -> w.cell? ⟨bk, o + j, none⟩ = some (.string x)) (hbk : bk < w.heap.size) (hN : xs.length <= 140737488355328) (hcap : xs.length <= c) (hlen : (Lib.join (xs.map (·.data.toList)) sep.data.toList).length <= 140737488355328) :
   Calls Tryz.prog 174 #[.slice (some ⟨bk, o, none⟩) xs.length c, .string sep] w fun e w' => e = .returned (.string ⟨(Lib.join (xs.map (·.data.toList)) sep.data.toList).toArray⟩) /\ Below w.heap.size w w' := Any.strings_Join Tryz.lays156 Tryz.Builder_Extra_156 bk o c xs sep w hcells hbk hN hcap hlen
def Tryz.laysM171_ren : Go.Shelf.Ren := ⟨fun | 171 => 171 | 243 => 235 | 246 => 283 | 283 => 318 | 284 => 319 | 285 => 320 | 286 => 321 | 129 => 336 | 317 => 335 | 318 => 337 | 319 => 338 | 320 => 339 | 337 => 348 | 338 => 349 | n => n, fun | 3 => 3 | 9 => 9 | 2 => 2 | 4 => 4 | 171 => 368 | 0 => 0 | 53 => 365 | 37 => 220 | 5 => 5 | 173 => 371 | 212 => 380 | 51 => 362 | 20 => 20 | 213 => 381 | 46 => 333 | 232 => 389 | 233 => 390 | n => n, fun | 17 => 1 | 18 => 4 | 19 => 5 | n => n⟩
theorem Tryz.laysM171 : Go.Proofs.LaysM.n171 Tryz.prog Tryz.laysM171_ren := {
 mixed := by kernel_rfl
 f129 := Tryz.func336.trans (congrArg some (by kernel_rfl))
 f171 := Tryz.func171.trans (congrArg some (by kernel_rfl))
 f243 := Tryz.func235.trans (congrArg some (by kernel_rfl))
 f246 := Tryz.func283.trans (congrArg some (by kernel_rfl))
 f283 := Tryz.func318.trans (congrArg some (by kernel_rfl))
 f284 := Tryz.func319.trans (congrArg some (by kernel_rfl))
 f285 := Tryz.func320.trans (congrArg some (by kernel_rfl))
 f286 := Tryz.func321.trans (congrArg some (by kernel_rfl))
 f317 := Tryz.func335.trans (congrArg some (by kernel_rfl))
 f318 := Tryz.func337.trans (congrArg some (by kernel_rfl))
 f319 := Tryz.func338.trans (congrArg some (by kernel_rfl))
 f320 := Tryz.func339.trans (congrArg some (by kernel_rfl))
 f337 := Tryz.func348.trans (congrArg some (by kernel_rfl))
 f338 := Tryz.func349.trans (congrArg some (by kernel_rfl))
 t0 := Tryz.underlying0
 a0 := Tryz.isAgg0
 z0 := Tryz.sizeOf0
 v0 := Tryz.zeroValue0
 t2 := Tryz.underlying2
 a2 := Tryz.isAgg2
 z2 := Tryz.sizeOf2
 v2 := Tryz.zeroValue2
 t3 := Tryz.underlying3
 a3 := Tryz.isAgg3
 z3 := Tryz.sizeOf3
 v3 := Tryz.zeroValue3
 t4 := Tryz.underlying4
 a4 := Tryz.isAgg4
 z4 := Tryz.sizeOf4
 v4 := Tryz.zeroValue4
 t5 := Tryz.underlying5
 a5 := Tryz.isAgg5
 z5 := Tryz.sizeOf5
 v5 := Tryz.zeroValue5
 t9 := Tryz.underlying9
 a9 := Tryz.isAgg9
 z9 := Tryz.sizeOf9
 v9 := Tryz.zeroValue9
 t20 := Tryz.underlying20
 a20 := Tryz.isAgg20
 z20 := Tryz.sizeOf20
 v20 := Tryz.zeroValue20
 t37 := Tryz.underlying220
 a37 := Tryz.isAgg220
 z37 := Tryz.sizeOf220
 v37 := Tryz.zeroValue220
 t46 := Tryz.underlying333
 a46 := Tryz.isAgg333
 z46 := Tryz.sizeOf333
 v46 := Tryz.zeroValue333
 t51 := Tryz.underlying362
 a51 := Tryz.isAgg362
 z51 := Tryz.sizeOf362
 v51 := Tryz.zeroValue362
 t53 := Tryz.underlying365
 a53 := Tryz.isAgg365
 z53 := Tryz.sizeOf365
 v53 := Tryz.zeroValue365
 t171 := Tryz.underlying368
 a171 := Tryz.isAgg368
 z171 := Tryz.sizeOf368
 v171 := Tryz.zeroValue368
 t173 := Tryz.underlying371
 a173 := Tryz.isAgg371
 z173 := Tryz.sizeOf371
 v173 := Tryz.zeroValue371
 t212 := Tryz.underlying380
 a212 := Tryz.isAgg380
 z212 := Tryz.sizeOf380
 v212 := Tryz.zeroValue380
 t213 := Tryz.underlying381
 a213 := Tryz.isAgg381
 z213 := Tryz.sizeOf381
 t232 := Tryz.underlying389
 a232 := Tryz.isAgg389
 z232 := Tryz.sizeOf389
 v232 := Tryz.zeroValue389
 t233 := Tryz.underlying390
 a233 := Tryz.isAgg390
 z233 := Tryz.sizeOf390
 v233 := Tryz.zeroValue390
 g17 := by kernel_rfl
 g18 := by kernel_rfl
 g19 := by kernel_rfl
 i0 := by kernel_rfl
 i2 := by kernel_rfl
 i3 := by kernel_rfl
 i4 := by kernel_rfl
 i5 := by kernel_rfl
 i9 := by kernel_rfl
 i20 := by kernel_rfl
 i37 := by kernel_rfl
 i46 := by kernel_rfl
 i51 := by kernel_rfl
 i53 := by kernel_rfl
 i171 := by kernel_rfl
 i173 := by kernel_rfl
 i212 := by kernel_rfl
 i232 := by kernel_rfl
 i233 := by kernel_rfl
 m17 := by kernel_rfl
 m18 := by kernel_rfl
 m19 := by kernel_rfl }
open Go.RowKit Go.Sort Go.Lib in
theorem Tryz.strconv_Itoa (n : Int) (h0 : -9223372036854775808 <= n) (h1 : n <= 9223372036854775807) (w : World) (htab : Lib.TabIs Tryz.prog w "internal/strconv.uint64pow10" .u64 Lib.pow10Tab) :
   Calls Tryz.prog 171 #[.int .i64 n] w fun e w' => e = .returned (.string ⟨(Lib.itoa n).toArray⟩) /\ ∃ k os, w' = grow (w.drewN k) os := Any.strconv_Itoa Tryz.laysM171 n h0 h1 w htab
def Tryz.lays99_ren : Go.Shelf.Ren := ⟨fun | 99 => 332 | 206 => 346 | n => n, fun | 9 => 9 | 4 => 4 | 3 => 3 | n => n, fun | n => n⟩
theorem Tryz.lays99 : Go.Proofs.Lays.n99 Tryz.prog Tryz.lays99_ren := {
 mixed := by kernel_rfl
 f99 := Tryz.func332.trans (congrArg some (by kernel_rfl))
 f206 := Tryz.func346.trans (congrArg some (by kernel_rfl))
 t3 := Tryz.underlying3
 a3 := Tryz.isAgg3
 z3 := Tryz.sizeOf3
 v3 := Tryz.zeroValue3
 t4 := Tryz.underlying4
 a4 := Tryz.isAgg4
 z4 := Tryz.sizeOf4
 v4 := Tryz.zeroValue4
 t9 := Tryz.underlying9
 a9 := Tryz.isAgg9
 z9 := Tryz.sizeOf9
 v9 := Tryz.zeroValue9 }
open Go.RowKit Go.Lib in
theorem Tryz.strings_HasPrefix (s p : ByteArray) (w : World) :
   Calls Tryz.prog 332 #[.string s, .string p] w fun e w' => e = .returned (.bool (Lib.hasPrefix s.data.toList p.data.toList)) /\ w' = w := Any.strings_HasPrefix Tryz.lays99 s p w
def Tryz.lays100_ren : Go.Shelf.Ren := ⟨fun | 100 => 312 | 207 => 333 | n => n, fun | 9 => 9 | 4 => 4 | 3 => 3 | n => n, fun | n => n⟩
theorem Tryz.lays100 : Go.Proofs.Lays.n100 Tryz.prog Tryz.lays100_ren := {
 mixed := by kernel_rfl
 f100 := Tryz.func312.trans (congrArg some (by kernel_rfl))
 f207 := Tryz.func333.trans (congrArg some (by kernel_rfl))
 t3 := Tryz.underlying3
 a3 := Tryz.isAgg3
 z3 := Tryz.sizeOf3
 v3 := Tryz.zeroValue3
 t4 := Tryz.underlying4
 a4 := Tryz.isAgg4
 z4 := Tryz.sizeOf4
 v4 := Tryz.zeroValue4
 t9 := Tryz.underlying9
 a9 := Tryz.isAgg9
 z9 := Tryz.sizeOf9
 v9 := Tryz.zeroValue9 }
open Go.RowKit Go.Lib in
theorem Tryz.strings_HasSuffix (s p : ByteArray) (w : World) (hs : s.size <= 9223372036854775807) :
   Calls Tryz.prog 312 #[.string s, .string p] w fun e w' => e = .returned (.bool (Lib.hasSuffix s.data.toList p.data.toList)) /\ w' = w := Any.strings_HasSuffix Tryz.lays100 s p w hs
def Tryz.lays146_ren : Go.Shelf.Ren := ⟨fun | 146 => 313 | 221 => 334 | 268 => 347 | 138 => 322 | 143 => 323 | 195 => 340 | 197 => 324 | 218 => 341 | 219 => 342 | 260 => 343 | 217 => 327 | 225 => 290 | 224 => 289 | 267 => 350 | 266 => 344 | 314 => 351 | n => n, fun | 9 => 9 | 31 => 28 | 3 => 3 | 4 => 4 | 0 => 0 | 105 => 373 | 21 => 21 | 5 => 5 | 46 => 333 | 119 => 385 | 139 => 388 | 138 => 387 | 146 => 363 | 51 => 362 | n => n, fun | 1 => 0 | 3 => 2 | 4 => 3 | n => n⟩
theorem Tryz.lays146 : Go.Proofs.Lays.n146 Tryz.prog Tryz.lays146_ren := {
 mixed := by kernel_rfl
 f138 := Tryz.func322.trans (congrArg some (by kernel_rfl))
 f143 := Tryz.func323.trans (congrArg some (by kernel_rfl))
 f146 := Tryz.func313.trans (congrArg some (by kernel_rfl))
 f195 := Tryz.func340.trans (congrArg some (by kernel_rfl))
 f197 := Tryz.func324.trans (congrArg some (by kernel_rfl))
 f217 := Tryz.func327.trans (congrArg some (by kernel_rfl))
 f218 := Tryz.func341.trans (congrArg some (by kernel_rfl))
 f219 := Tryz.func342.trans (congrArg some (by kernel_rfl))
 f221 := Tryz.func334.trans (congrArg some (by kernel_rfl))
 f224 := Tryz.func289.trans (congrArg some (by kernel_rfl))
 f225 := Tryz.func290.trans (congrArg some (by kernel_rfl))
 f260 := Tryz.func343.trans (congrArg some (by kernel_rfl))
 f266 := Tryz.func344.trans (congrArg some (by kernel_rfl))
 f267 := Tryz.func350.trans (congrArg some (by kernel_rfl))
 f268 := Tryz.func347.trans (congrArg some (by kernel_rfl))
 f314 := Tryz.func351.trans (congrArg some (by kernel_rfl))
 t0 := Tryz.underlying0
 a0 := Tryz.isAgg0
 z0 := Tryz.sizeOf0
 v0 := Tryz.zeroValue0
 t3 := Tryz.underlying3
 a3 := Tryz.isAgg3
 z3 := Tryz.sizeOf3
 v3 := Tryz.zeroValue3
 t4 := Tryz.underlying4
 a4 := Tryz.isAgg4
 z4 := Tryz.sizeOf4
 v4 := Tryz.zeroValue4
 t5 := Tryz.underlying5
 a5 := Tryz.isAgg5
 z5 := Tryz.sizeOf5
 v5 := Tryz.zeroValue5
 t9 := Tryz.underlying9
 a9 := Tryz.isAgg9
 z9 := Tryz.sizeOf9
 v9 := Tryz.zeroValue9
 t21 := Tryz.underlying21
 a21 := Tryz.isAgg21
 z21 := Tryz.sizeOf21
 v21 := Tryz.zeroValue21
 t31 := Tryz.underlying28
 a31 := Tryz.isAgg28
 z31 := Tryz.sizeOf28
 v31 := Tryz.zeroValue28
 t46 := Tryz.underlying333
 a46 := Tryz.isAgg333
 z46 := Tryz.sizeOf333
 v46 := Tryz.zeroValue333
 t51 := Tryz.underlying362
 a51 := Tryz.isAgg362
 z51 := Tryz.sizeOf362
 v51 := Tryz.zeroValue362
 t105 := Tryz.underlying373
 a105 := Tryz.isAgg373
 z105 := Tryz.sizeOf373
 v105 := Tryz.zeroValue373
 t119 := Tryz.underlying385
 a119 := Tryz.isAgg385
 z119 := Tryz.sizeOf385
 t138 := Tryz.underlying387
 a138 := Tryz.isAgg387
 z138 := Tryz.sizeOf387
 v138 := Tryz.zeroValue387
 t139 := Tryz.underlying388
 a139 := Tryz.isAgg388
 z139 := Tryz.sizeOf388
 v139 := Tryz.zeroValue388
 t146 := Tryz.underlying363
 a146 := Tryz.isAgg363
 z146 := Tryz.sizeOf363
 v146 := Tryz.zeroValue363
 g1 := by kernel_rfl
 g3 := by kernel_rfl
 g4 := by kernel_rfl }
open Go.RowKit Go.Lib in
theorem Tryz.strings_Split (s sep : ByteArray) (m : Int) (w : World) (hs : s.size < 4294967281) (hm : w.cell? ⟨0, 0, none⟩ = some (.int .i64 m)) (h1 : 1 <= sep.size) :
   Calls Tryz.prog 313 #[.string s, .string sep] w fun e w' =>
     e = .returned (.slice (some ⟨w.heap.size, 0, none⟩) (Lib.countB s sep + 1) (Lib.countB s sep + 1)) /\ w' = w.alloc (.cells ((Lib.splitB sep 0 (Lib.countB s sep) s).map Value.string).toArray 9) := Any.strings_Split Tryz.lays146 (by kernel_rfl) s sep m w hs hm h1
def Tryz.lays212_ren : Go.Shelf.Ren := ⟨fun | 212 => 276 | 263 => 314 | 264 => 315 | n => n, fun | 46 => 333 | 51 => 362 | 146 => 363 | 53 => 365 | 148 => 366 | n => n, fun | n => n⟩
theorem Tryz.lays212 : Go.Proofs.Lays.n212 Tryz.prog Tryz.lays212_ren := {
 mixed := by kernel_rfl
 f212 := Tryz.func276.trans (congrArg some (by kernel_rfl))
 f263 := Tryz.func314.trans (congrArg some (by kernel_rfl))
 f264 := Tryz.func315.trans (congrArg some (by kernel_rfl))
 t46 := Tryz.underlying333
 a46 := Tryz.isAgg333
 z46 := Tryz.sizeOf333
 v46 := Tryz.zeroValue333
 t51 := Tryz.underlying362
 a51 := Tryz.isAgg362
 z51 := Tryz.sizeOf362
 v51 := Tryz.zeroValue362
 t53 := Tryz.underlying365
 a53 := Tryz.isAgg365
 z53 := Tryz.sizeOf365
 v53 := Tryz.zeroValue365
 t146 := Tryz.underlying363
 a146 := Tryz.isAgg363
 z146 := Tryz.sizeOf363
 v146 := Tryz.zeroValue363
 t148 := Tryz.underlying366
 a148 := Tryz.isAgg366
 z148 := Tryz.sizeOf366
 v148 := Tryz.zeroValue366 }
open Go.RowKit Go.Lib in
theorem Tryz.bits_Mul (x y : Nat) (hx : x < 18446744073709551616) (hy : y < 18446744073709551616) (w : World) :
   Calls Tryz.prog 276 #[.int .u64 x, .int .u64 y] w fun e w' => e = .returned (.tuple #[.int .u64 ((x * y / 18446744073709551616 : Nat) : Int), .int .u64 ((x * y % 18446744073709551616 : Nat) : Int)]) /\ w' = w := Any.bits_Mul Tryz.lays212 x y hx hy w
end Go.Proofs
