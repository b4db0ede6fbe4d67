/- Part 2 of the proof: the texts Shelf. -/
import Derived.Shelf.Strings.Builder1
import Derived.Shelf.Strings.Builder2
import Derived.Shelf.Strings.OnBuilder
import Derived.Shelf.Small.Utf8
import Derived.Shelf.Small.Strs
import Derived.Shelf.Utf8.RuneCount
import Derived.Shelf.Strconv.Itoa0
import Derived.Shelf.Strconv.Itoa1
import Derived.Shelf.LaysM
import Derived.Shelf.Strconv.Itoa2
import Derived.Shelf.Strconv.Itoa3
import Derived.Shelf.Strings.Search1
import Derived.Shelf.Strings.Search2
import Derived.Shelf.Strings.Search3
import Derived.Shelf.Strings.Count
import Derived.Shelf.Strings.Shaped
import Derived.Shelf.Strings.Prefix
import Derived.Shelf.Strings.Split
import Derived.Shelf.Strings.Replace
import Derived.Shelf.Strings.SplitShaped
import Derived.Shelf.Unicode.Decode
import Derived.Shelf.Strings.Runes
import Derived.Shelf.Strings.RuneCount
import Derived.Shelf.Strings.Explode
import Derived.Shelf.Bits.Mul64
import Derived.Shelf.Unicode.DecodeSlow
import Derived.Shelf.Unicode.DecodeAny
import Derived.Shelf.Slices.Turned
import Derived.Shelf.Slices.Equal
import Derived.Ground.Names2Prog
import Derived.Shelf.Slices.Clone
import Derived.Shelf.Slices.Empties2
import Derived.Ground.SlgnProg
import Derived.Shelf.SlicesE.Clone
import Derived.Test.YtofnnnpahglfdaaGreatDoorProg
set_option linter.all false
namespace Go.Proofs
open Go.Shelf
def Tryz.lays156_ren : Go.Shelf.Ren := ⟨fun | 156 => 144 | 165 => 215 | 166 => 216 | 169 => 217 | 240 => 275 | 241 => 276 | 276 => 317 | 277 => 318 | n => n, fun | 31 => 28 | 9 => 9 | 3 => 3 | 4 => 4 | 0 => 0 | 20 => 20 | 72 => 274 | 76 => 277 | 70 => 272 | 37 => 201 | 75 => 276 | 127 => 335 | 164 => 372 | 5 => 5 | 80 => 279 | n => n, fun | n => n⟩
theorem Tryz.lays156 : Go.Proofs.Lays.n156 Tryz.prog Tryz.lays156_ren := {
 mixed := by kernel_rfl
 f156 := Tryz.func144.trans (congrArg some (by kernel_rfl))
 f165 := Tryz.func215.trans (congrArg some (by kernel_rfl))
 f166 := Tryz.func216.trans (congrArg some (by kernel_rfl))
 f169 := Tryz.func217.trans (congrArg some (by kernel_rfl))
 f240 := Tryz.func275.trans (congrArg some (by kernel_rfl))
 f241 := Tryz.func276.trans (congrArg some (by kernel_rfl))
 f276 := Tryz.func317.trans (congrArg some (by kernel_rfl))
 f277 := Tryz.func318.trans (congrArg some (by kernel_rfl))
 t0 := Tryz.underlying0
 a0 := Tryz.isAgg0
 z0 := Tryz.sizeOf0
 v0 := Tryz.zeroValue0
 t3 := Tryz.underlying3
 a3 := Tryz.isAgg3
 z3 := Tryz.sizeOf3
 v3 := Tryz.zeroValue3
 t4 := Tryz.underlying4
 a4 := Tryz.isAgg4
 z4 := Tryz.sizeOf4
 v4 := Tryz.zeroValue4
 t9 := Tryz.underlying9
 a9 := Tryz.isAgg9
 z9 := Tryz.sizeOf9
 v9 := Tryz.zeroValue9
 t20 := Tryz.underlying20
 a20 := Tryz.isAgg20
 z20 := Tryz.sizeOf20
 v20 := Tryz.zeroValue20
 t31 := Tryz.underlying28
 a31 := Tryz.isAgg28
 z31 := Tryz.sizeOf28
 v31 := Tryz.zeroValue28
 t37 := Tryz.underlying201
 a37 := Tryz.isAgg201
 z37 := Tryz.sizeOf201
 v37 := Tryz.zeroValue201
 t70 := Tryz.underlying272
 a70 := Tryz.isAgg272
 z70 := Tryz.sizeOf272
 v70 := Tryz.zeroValue272
 t72 := Tryz.underlying274
 a72 := Tryz.isAgg274
 z72 := Tryz.sizeOf274
 v72 := Tryz.zeroValue274
 t75 := Tryz.underlying276
 a75 := Tryz.isAgg276
 z75 := Tryz.sizeOf276
 v75 := Tryz.zeroValue276
 t76 := Tryz.underlying277
 a76 := Tryz.isAgg277
 z76 := Tryz.sizeOf277
 v76 := Tryz.zeroValue277
 t127 := Tryz.underlying335
 a127 := Tryz.isAgg335
 z127 := Tryz.sizeOf335
 v127 := Tryz.zeroValue335
 t164 := Tryz.underlying372
 a164 := Tryz.isAgg372
 z164 := Tryz.sizeOf372
 v164 := Tryz.zeroValue372 }
theorem Tryz.Builder_Extra_156 : Builder.Extra Tryz.prog Tryz.lays156_ren := {
 sizeBuilder := by kernel_rfl
 liesBuilder := by kernel_rfl
 t5 := Tryz.underlying5
 a5 := Tryz.isAgg5
 z5 := Tryz.sizeOf5
 v5 := Tryz.zeroValue5
 infoByte := by kernel_rfl
 cellsByte := by kernel_rfl
 sizeByte := by kernel_rfl
 neB5 := by decide }
open Go.RowKit in
theorem Tryz.strings_Join_none (a : Option Addr) (c : Nat) (sep : ByteArray) (w : World) :
   Calls Tryz.prog 144 #[.slice a 0 c, .string sep] w fun e w' => e = .returned (.string ⟨#[]⟩) /\ w' = w := Any.strings_Join_none Tryz.lays156 Tryz.Builder_Extra_156 a c sep w
open Go.RowKit in
theorem Tryz.strings_Join (bk o c : Nat) (xs : List ByteArray) (sep : ByteArray) (w : World) (hcells : ∀ (j : Nat) x, xs[j]? = some x -> w.cell? ⟨bk, o + j, none⟩ = some (.string x)) (hbk : bk < w.heap.size) (hN : xs.length <= 140737488355328) (hcap : xs.length <= c) (hlen : (Lib.join (xs.map (·.data.toList)) sep.data.toList).length <= 140737488355328) :
   Calls Tryz.prog 144 #[.slice (some ⟨bk, o, none⟩) xs.length c, .string sep] w fun e w' => e = .returned (.string ⟨(Lib.join (xs.map (·.data.toList)) sep.data.toList).toArray⟩) /\ Below w.heap.size w w' := Any.strings_Join Tryz.lays156 Tryz.Builder_Extra_156 bk o c xs sep w hcells hbk hN hcap hlen
def Tryz.laysM171_ren : Go.Shelf.Ren := ⟨fun | 171 => 141 | 243 => 213 | 246 => 273 | 283 => 310 | 284 => 311 | 285 => 312 | 286 => 313 | 129 => 328 | 317 => 327 | 318 => 329 | 319 => 330 | 320 => 331 | 337 => 340 | 338 => 341 | n => n, fun | 3 => 3 | 9 => 9 | 2 => 2 | 4 => 4 | 171 => 365 | 0 => 0 | 53 => 361 | 37 => 201 | 5 => 5 | 173 => 368 | 212 => 377 | 51 => 358 | 20 => 20 | 213 => 378 | 46 => 328 | 232 => 386 | 233 => 387 | n => n, fun | 17 => 1 | 18 => 4 | 19 => 5 | n => n⟩
theorem Tryz.laysM171 : Go.Proofs.LaysM.n171 Tryz.prog Tryz.laysM171_ren := {
 mixed := by kernel_rfl
 f129 := Tryz.func328.trans (congrArg some (by kernel_rfl))
 f171 := Tryz.func141.trans (congrArg some (by kernel_rfl))
 f243 := Tryz.func213.trans (congrArg some (by kernel_rfl))
 f246 := Tryz.func273.trans (congrArg some (by kernel_rfl))
 f283 := Tryz.func310.trans (congrArg some (by kernel_rfl))
 f284 := Tryz.func311.trans (congrArg some (by kernel_rfl))
 f285 := Tryz.func312.trans (congrArg some (by kernel_rfl))
 f286 := Tryz.func313.trans (congrArg some (by kernel_rfl))
 f317 := Tryz.func327.trans (congrArg some (by kernel_rfl))
 f318 := Tryz.func329.trans (congrArg some (by kernel_rfl))
 f319 := Tryz.func330.trans (congrArg some (by kernel_rfl))
 f320 := Tryz.func331.trans (congrArg some (by kernel_rfl))
 f337 := Tryz.func340.trans (congrArg some (by kernel_rfl))
 f338 := Tryz.func341.trans (congrArg some (by kernel_rfl))
 t0 := Tryz.underlying0
 a0 := Tryz.isAgg0
 z0 := Tryz.sizeOf0
 v0 := Tryz.zeroValue0
 t2 := Tryz.underlying2
 a2 := Tryz.isAgg2
 z2 := Tryz.sizeOf2
 v2 := Tryz.zeroValue2
 t3 := Tryz.underlying3
 a3 := Tryz.isAgg3
 z3 := Tryz.sizeOf3
 v3 := Tryz.zeroValue3
 t4 := Tryz.underlying4
 a4 := Tryz.isAgg4
 z4 := Tryz.sizeOf4
 v4 := Tryz.zeroValue4
 t5 := Tryz.underlying5
 a5 := Tryz.isAgg5
 z5 := Tryz.sizeOf5
 v5 := Tryz.zeroValue5
 t9 := Tryz.underlying9
 a9 := Tryz.isAgg9
 z9 := Tryz.sizeOf9
 v9 := Tryz.zeroValue9
 t20 := Tryz.underlying20
 a20 := Tryz.isAgg20
 z20 := Tryz.sizeOf20
 v20 := Tryz.zeroValue20
 t37 := Tryz.underlying201
 a37 := Tryz.isAgg201
 z37 := Tryz.sizeOf201
 v37 := Tryz.zeroValue201
 t46 := Tryz.underlying328
 a46 := Tryz.isAgg328
 z46 := Tryz.sizeOf328
 v46 := Tryz.zeroValue328
 t51 := Tryz.underlying358
 a51 := Tryz.isAgg358
 z51 := Tryz.sizeOf358
 v51 := Tryz.zeroValue358
 t53 := Tryz.underlying361
 a53 := Tryz.isAgg361
 z53 := Tryz.sizeOf361
 v53 := Tryz.zeroValue361
 t171 := Tryz.underlying365
 a171 := Tryz.isAgg365
 z171 := Tryz.sizeOf365
 v171 := Tryz.zeroValue365
 t173 := Tryz.underlying368
 a173 := Tryz.isAgg368
 z173 := Tryz.sizeOf368
 v173 := Tryz.zeroValue368
 t212 := Tryz.underlying377
 a212 := Tryz.isAgg377
 z212 := Tryz.sizeOf377
 v212 := Tryz.zeroValue377
 t213 := Tryz.underlying378
 a213 := Tryz.isAgg378
 z213 := Tryz.sizeOf378
 t232 := Tryz.underlying386
 a232 := Tryz.isAgg386
 z232 := Tryz.sizeOf386
 v232 := Tryz.zeroValue386
 t233 := Tryz.underlying387
 a233 := Tryz.isAgg387
 z233 := Tryz.sizeOf387
 v233 := Tryz.zeroValue387
 g17 := by kernel_rfl
 g18 := by kernel_rfl
 g19 := by kernel_rfl
 i0 := by kernel_rfl
 i2 := by kernel_rfl
 i3 := by kernel_rfl
 i4 := by kernel_rfl
 i5 := by kernel_rfl
 i9 := by kernel_rfl
 i20 := by kernel_rfl
 i37 := by kernel_rfl
 i46 := by kernel_rfl
 i51 := by kernel_rfl
 i53 := by kernel_rfl
 i171 := by kernel_rfl
 i173 := by kernel_rfl
 i212 := by kernel_rfl
 i232 := by kernel_rfl
 i233 := by kernel_rfl
 m17 := by kernel_rfl
 m18 := by kernel_rfl
 m19 := by kernel_rfl }
open Go.RowKit Go.Sort Go.Lib in
theorem Tryz.strconv_Itoa (n : Int) (h0 : -9223372036854775808 <= n) (h1 : n <= 9223372036854775807) (w : World) (htab : Lib.TabIs Tryz.prog w "internal/strconv.uint64pow10" .u64 Lib.pow10Tab) :
   Calls Tryz.prog 141 #[.int .i64 n] w fun e w' => e = .returned (.string ⟨(Lib.itoa n).toArray⟩) /\ ∃ k os, w' = grow (w.drewN k) os := Any.strconv_Itoa Tryz.laysM171 n h0 h1 w htab
def Tryz.lays99_ren : Go.Shelf.Ren := ⟨fun | 99 => 324 | 206 => 338 | n => n, fun | 9 => 9 | 4 => 4 | 3 => 3 | n => n, fun | n => n⟩
theorem Tryz.lays99 : Go.Proofs.Lays.n99 Tryz.prog Tryz.lays99_ren := {
 mixed := by kernel_rfl
 f99 := Tryz.func324.trans (congrArg some (by kernel_rfl))
 f206 := Tryz.func338.trans (congrArg some (by kernel_rfl))
 t3 := Tryz.underlying3
 a3 := Tryz.isAgg3
 z3 := Tryz.sizeOf3
 v3 := Tryz.zeroValue3
 t4 := Tryz.underlying4
 a4 := Tryz.isAgg4
 z4 := Tryz.sizeOf4
 v4 := Tryz.zeroValue4
 t9 := Tryz.underlying9
 a9 := Tryz.isAgg9
 z9 := Tryz.sizeOf9
 v9 := Tryz.zeroValue9 }
open Go.RowKit Go.Lib in
theorem Tryz.strings_HasPrefix (s p : ByteArray) (w : World) :
   Calls Tryz.prog 324 #[.string s, .string p] w fun e w' => e = .returned (.bool (Lib.hasPrefix s.data.toList p.data.toList)) /\ w' = w := Any.strings_HasPrefix Tryz.lays99 s p w
def Tryz.lays100_ren : Go.Shelf.Ren := ⟨fun | 100 => 304 | 207 => 325 | n => n, fun | 9 => 9 | 4 => 4 | 3 => 3 | n => n, fun | n => n⟩
theorem Tryz.lays100 : Go.Proofs.Lays.n100 Tryz.prog Tryz.lays100_ren := {
 mixed := by kernel_rfl
 f100 := Tryz.func304.trans (congrArg some (by kernel_rfl))
 f207 := Tryz.func325.trans (congrArg some (by kernel_rfl))
 t3 := Tryz.underlying3
 a3 := Tryz.isAgg3
 z3 := Tryz.sizeOf3
 v3 := Tryz.zeroValue3
 t4 := Tryz.underlying4
 a4 := Tryz.isAgg4
 z4 := Tryz.sizeOf4
 v4 := Tryz.zeroValue4
 t9 := Tryz.underlying9
 a9 := Tryz.isAgg9
 z9 := Tryz.sizeOf9
 v9 := Tryz.zeroValue9 }
open Go.RowKit Go.Lib in
theorem Tryz.strings_HasSuffix (s p : ByteArray) (w : World) (hs : s.size <= 9223372036854775807) :
   Calls Tryz.prog 304 #[.string s, .string p] w fun e w' => e = .returned (.bool (Lib.hasSuffix s.data.toList p.data.toList)) /\ w' = w := Any.strings_HasSuffix Tryz.lays100 s p w hs
def Tryz.lays146_ren : Go.Shelf.Ren := ⟨fun | 146 => 305 | 221 => 326 | 268 => 339 | 138 => 314 | 143 => 315 | 195 => 332 | 197 => 316 | 218 => 333 | 219 => 334 | 260 => 335 | 217 => 319 | 225 => 280 | 224 => 279 | 267 => 342 | 266 => 336 | 314 => 343 | n => n, fun | 9 => 9 | 31 => 28 | 3 => 3 | 4 => 4 | 0 => 0 | 105 => 370 | 21 => 21 | 5 => 5 | 46 => 328 | 119 => 382 | 139 => 385 | 138 => 384 | 146 => 359 | 51 => 358 | n => n, fun | 1 => 0 | 3 => 2 | 4 => 3 | n => n⟩
theorem Tryz.lays146 : Go.Proofs.Lays.n146 Tryz.prog Tryz.lays146_ren := {
 mixed := by kernel_rfl
 f138 := Tryz.func314.trans (congrArg some (by kernel_rfl))
 f143 := Tryz.func315.trans (congrArg some (by kernel_rfl))
 f146 := Tryz.func305.trans (congrArg some (by kernel_rfl))
 f195 := Tryz.func332.trans (congrArg some (by kernel_rfl))
 f197 := Tryz.func316.trans (congrArg some (by kernel_rfl))
 f217 := Tryz.func319.trans (congrArg some (by kernel_rfl))
 f218 := Tryz.func333.trans (congrArg some (by kernel_rfl))
 f219 := Tryz.func334.trans (congrArg some (by kernel_rfl))
 f221 := Tryz.func326.trans (congrArg some (by kernel_rfl))
 f224 := Tryz.func279.trans (congrArg some (by kernel_rfl))
 f225 := Tryz.func280.trans (congrArg some (by kernel_rfl))
 f260 := Tryz.func335.trans (congrArg some (by kernel_rfl))
 f266 := Tryz.func336.trans (congrArg some (by kernel_rfl))
 f267 := Tryz.func342.trans (congrArg some (by kernel_rfl))
 f268 := Tryz.func339.trans (congrArg some (by kernel_rfl))
 f314 := Tryz.func343.trans (congrArg some (by kernel_rfl))
 t0 := Tryz.underlying0
 a0 := Tryz.isAgg0
 z0 := Tryz.sizeOf0
 v0 := Tryz.zeroValue0
 t3 := Tryz.underlying3
 a3 := Tryz.isAgg3
 z3 := Tryz.sizeOf3
 v3 := Tryz.zeroValue3
 t4 := Tryz.underlying4
 a4 := Tryz.isAgg4
 z4 := Tryz.sizeOf4
 v4 := Tryz.zeroValue4
 t5 := Tryz.underlying5
 a5 := Tryz.isAgg5
 z5 := Tryz.sizeOf5
 v5 := Tryz.zeroValue5
 t9 := Tryz.underlying9
 a9 := Tryz.isAgg9
 z9 := Tryz.sizeOf9
 v9 := Tryz.zeroValue9
 t21 := Tryz.underlying21
 a21 := Tryz.isAgg21
 z21 := Tryz.sizeOf21
 v21 := Tryz.zeroValue21
 t31 := Tryz.underlying28
 a31 := Tryz.isAgg28
 z31 := Tryz.sizeOf28
 v31 := Tryz.zeroValue28
 t46 := Tryz.underlying328
 a46 := Tryz.isAgg328
 z46 := Tryz.sizeOf328
 v46 := Tryz.zeroValue328
 t51 := Tryz.underlying358
 a51 := Tryz.isAgg358
 z51 := Tryz.sizeOf358
 v51 := Tryz.zeroValue358
 t105 := Tryz.underlying370
 a105 := Tryz.isAgg370
 z105 := Tryz.sizeOf370
 v105 := Tryz.zeroValue370
 t119 := Tryz.underlying382
 a119 := Tryz.isAgg382
 z119 := Tryz.sizeOf382
 t138 := Tryz.underlying384
 a138 := Tryz.isAgg384
 z138 := Tryz.sizeOf384
 v138 := Tryz.zeroValue384
 t139 := Tryz.underlying385
 a139 := Tryz.isAgg385
 z139 := Tryz.sizeOf385
 v139 := Tryz.zeroValue385
 t146 := Tryz.underlying359
 a146 := Tryz.isAgg359
 z146 := Tryz.sizeOf359
 v146 := Tryz.zeroValue359
 g1 := by kernel_rfl
 g3 := by kernel_rfl
 g4 := by kernel_rfl }
open Go.RowKit Go.Lib in
theorem Tryz.strings_Split (s sep : ByteArray) (m : Int) (w : World) (hs : s.size < 4294967281) (hm : w.cell? ⟨0, 0, none⟩ = some (.int .i64 m)) (h1 : 1 <= sep.size) :
   Calls Tryz.prog 305 #[.string s, .string sep] w fun e w' =>
     e = .returned (.slice (some ⟨w.heap.size, 0, none⟩) (Lib.countB s sep + 1) (Lib.countB s sep + 1)) /\ w' = w.alloc (.cells ((Lib.splitB sep 0 (Lib.countB s sep) s).map Value.string).toArray 9) := Any.strings_Split Tryz.lays146 (by kernel_rfl) s sep m w hs hm h1
def Tryz.lays155_ren : Go.Shelf.Ren := ⟨fun | 155 => 214 | 154 => 274 | 138 => 314 | 165 => 215 | 143 => 315 | 166 => 216 | 197 => 316 | 169 => 217 | 195 => 332 | 218 => 333 | 240 => 275 | 241 => 276 | 219 => 334 | 260 => 335 | 276 => 317 | 277 => 318 | 217 => 319 | 225 => 280 | 224 => 279 | 267 => 342 | 266 => 336 | 314 => 343 | n => n, fun | 9 => 9 | 3 => 3 | 4 => 4 | 72 => 274 | 0 => 0 | 76 => 277 | 105 => 370 | 21 => 21 | 5 => 5 | 70 => 272 | 20 => 20 | 37 => 201 | 75 => 276 | 127 => 335 | 164 => 372 | 46 => 328 | 119 => 382 | 139 => 385 | 138 => 384 | 146 => 359 | 51 => 358 | 80 => 279 | n => n, fun | 1 => 0 | 3 => 2 | 4 => 3 | n => n⟩
theorem Tryz.lays155 : Go.Proofs.Lays.n155 Tryz.prog Tryz.lays155_ren := {
 mixed := by kernel_rfl
 f138 := Tryz.func314.trans (congrArg some (by kernel_rfl))
 f143 := Tryz.func315.trans (congrArg some (by kernel_rfl))
 f154 := Tryz.func274.trans (congrArg some (by kernel_rfl))
 f155 := Tryz.func214.trans (congrArg some (by kernel_rfl))
 f165 := Tryz.func215.trans (congrArg some (by kernel_rfl))
 f166 := Tryz.func216.trans (congrArg some (by kernel_rfl))
 f169 := Tryz.func217.trans (congrArg some (by kernel_rfl))
 f195 := Tryz.func332.trans (congrArg some (by kernel_rfl))
 f197 := Tryz.func316.trans (congrArg some (by kernel_rfl))
 f217 := Tryz.func319.trans (congrArg some (by kernel_rfl))
 f218 := Tryz.func333.trans (congrArg some (by kernel_rfl))
 f219 := Tryz.func334.trans (congrArg some (by kernel_rfl))
 f224 := Tryz.func279.trans (congrArg some (by kernel_rfl))
 f225 := Tryz.func280.trans (congrArg some (by kernel_rfl))
 f240 := Tryz.func275.trans (congrArg some (by kernel_rfl))
 f241 := Tryz.func276.trans (congrArg some (by kernel_rfl))
 f260 := Tryz.func335.trans (congrArg some (by kernel_rfl))
 f266 := Tryz.func336.trans (congrArg some (by kernel_rfl))
 f267 := Tryz.func342.trans (congrArg some (by kernel_rfl))
 f276 := Tryz.func317.trans (congrArg some (by kernel_rfl))
 f277 := Tryz.func318.trans (congrArg some (by kernel_rfl))
 f314 := Tryz.func343.trans (congrArg some (by kernel_rfl))
 t0 := Tryz.underlying0
 a0 := Tryz.isAgg0
 z0 := Tryz.sizeOf0
 v0 := Tryz.zeroValue0
 t3 := Tryz.underlying3
 a3 := Tryz.isAgg3
 z3 := Tryz.sizeOf3
 v3 := Tryz.zeroValue3
 t4 := Tryz.underlying4
 a4 := Tryz.isAgg4
 z4 := Tryz.sizeOf4
 v4 := Tryz.zeroValue4
 t5 := Tryz.underlying5
 a5 := Tryz.isAgg5
 z5 := Tryz.sizeOf5
 v5 := Tryz.zeroValue5
 t9 := Tryz.underlying9
 a9 := Tryz.isAgg9
 z9 := Tryz.sizeOf9
 v9 := Tryz.zeroValue9
 t20 := Tryz.underlying20
 a20 := Tryz.isAgg20
 z20 := Tryz.sizeOf20
 v20 := Tryz.zeroValue20
 t21 := Tryz.underlying21
 a21 := Tryz.isAgg21
 z21 := Tryz.sizeOf21
 v21 := Tryz.zeroValue21
 t37 := Tryz.underlying201
 a37 := Tryz.isAgg201
 z37 := Tryz.sizeOf201
 v37 := Tryz.zeroValue201
 t46 := Tryz.underlying328
 a46 := Tryz.isAgg328
 z46 := Tryz.sizeOf328
 v46 := Tryz.zeroValue328
 t51 := Tryz.underlying358
 a51 := Tryz.isAgg358
 z51 := Tryz.sizeOf358
 v51 := Tryz.zeroValue358
 t70 := Tryz.underlying272
 a70 := Tryz.isAgg272
 z70 := Tryz.sizeOf272
 v70 := Tryz.zeroValue272
 t72 := Tryz.underlying274
 a72 := Tryz.isAgg274
 z72 := Tryz.sizeOf274
 v72 := Tryz.zeroValue274
 t75 := Tryz.underlying276
 a75 := Tryz.isAgg276
 z75 := Tryz.sizeOf276
 v75 := Tryz.zeroValue276
 t76 := Tryz.underlying277
 a76 := Tryz.isAgg277
 z76 := Tryz.sizeOf277
 v76 := Tryz.zeroValue277
 t105 := Tryz.underlying370
 a105 := Tryz.isAgg370
 z105 := Tryz.sizeOf370
 v105 := Tryz.zeroValue370
 t119 := Tryz.underlying382
 a119 := Tryz.isAgg382
 z119 := Tryz.sizeOf382
 t127 := Tryz.underlying335
 a127 := Tryz.isAgg335
 z127 := Tryz.sizeOf335
 v127 := Tryz.zeroValue335
 t138 := Tryz.underlying384
 a138 := Tryz.isAgg384
 z138 := Tryz.sizeOf384
 v138 := Tryz.zeroValue384
 t139 := Tryz.underlying385
 a139 := Tryz.isAgg385
 z139 := Tryz.sizeOf385
 v139 := Tryz.zeroValue385
 t146 := Tryz.underlying359
 a146 := Tryz.isAgg359
 z146 := Tryz.sizeOf359
 v146 := Tryz.zeroValue359
 t164 := Tryz.underlying372
 a164 := Tryz.isAgg372
 z164 := Tryz.sizeOf372
 v164 := Tryz.zeroValue372
 g1 := by kernel_rfl
 g3 := by kernel_rfl
 g4 := by kernel_rfl }
theorem Tryz.Builder_Extra_155 : Builder.Extra Tryz.prog Tryz.lays155_ren := {
 sizeBuilder := by kernel_rfl
 liesBuilder := by kernel_rfl
 t5 := Tryz.underlying5
 a5 := Tryz.isAgg5
 z5 := Tryz.sizeOf5
 v5 := Tryz.zeroValue5
 infoByte := by kernel_rfl
 cellsByte := by kernel_rfl
 sizeByte := by kernel_rfl
 neB5 := by decide }
open Go.RowKit Go.Lib in
theorem Tryz.strings_ReplaceAll (s old new : ByteArray) (m : Int) (w : World) (hs : s.size < 4294967281) (hm : w.cell? ⟨0, 0, none⟩ = some (.int .i64 m)) (h1 : 1 <= old.size) (hlen : s.size + Lib.countB s old * new.size <= 140737488355328) :
   Calls Tryz.prog 214 #[.string s, .string old, .string new] w fun e w' =>
     e = .returned (.string ⟨(Lib.replaceAll s.data.toList old.data.toList new.data.toList).toArray⟩) /\ Below w.heap.size w w' := Any.strings_ReplaceAll Tryz.lays155 Tryz.Builder_Extra_155 s old new m w hs hm h1 hlen
def Tryz.lays151_ren : Go.Shelf.Ren := ⟨fun | 151 => 145 | 152 => 218 | 137 => 277 | 119 => 278 | 224 => 279 | 225 => 280 | 217 => 319 | 266 => 336 | n => n, fun | 9 => 9 | 21 => 21 | 4 => 4 | 3 => 3 | 5 => 5 | 0 => 0 | 46 => 328 | n => n, fun | n => n⟩
theorem Tryz.lays151 : Go.Proofs.Lays.n151 Tryz.prog Tryz.lays151_ren := {
 mixed := by kernel_rfl
 f119 := Tryz.func278.trans (congrArg some (by kernel_rfl))
 f137 := Tryz.func277.trans (congrArg some (by kernel_rfl))
 f151 := Tryz.func145.trans (congrArg some (by kernel_rfl))
 f152 := Tryz.func218.trans (congrArg some (by kernel_rfl))
 f217 := Tryz.func319.trans (congrArg some (by kernel_rfl))
 f224 := Tryz.func279.trans (congrArg some (by kernel_rfl))
 f225 := Tryz.func280.trans (congrArg some (by kernel_rfl))
 f266 := Tryz.func336.trans (congrArg some (by kernel_rfl))
 t0 := Tryz.underlying0
 a0 := Tryz.isAgg0
 z0 := Tryz.sizeOf0
 v0 := Tryz.zeroValue0
 t3 := Tryz.underlying3
 a3 := Tryz.isAgg3
 z3 := Tryz.sizeOf3
 v3 := Tryz.zeroValue3
 t4 := Tryz.underlying4
 a4 := Tryz.isAgg4
 z4 := Tryz.sizeOf4
 v4 := Tryz.zeroValue4
 t5 := Tryz.underlying5
 a5 := Tryz.isAgg5
 z5 := Tryz.sizeOf5
 v5 := Tryz.zeroValue5
 t9 := Tryz.underlying9
 a9 := Tryz.isAgg9
 z9 := Tryz.sizeOf9
 v9 := Tryz.zeroValue9
 t21 := Tryz.underlying21
 a21 := Tryz.isAgg21
 z21 := Tryz.sizeOf21
 v21 := Tryz.zeroValue21
 t46 := Tryz.underlying328
 a46 := Tryz.isAgg328
 z46 := Tryz.sizeOf328
 v46 := Tryz.zeroValue328 }
open Go.RowKit Go.Lib in
theorem Tryz.strings_ContainsRune_ascii (s : ByteArray) (r : Int) (w : World) (h0 : 0 <= r) (h1 : r < 128) :
   Calls Tryz.prog 145 #[.string s, .int .i32 r] w fun e w' => e = .returned (.bool (decide (0 <= Lib.indexByte s.data.toList r.toNat.toUInt8))) /\ w' = w := Any.strings_ContainsRune_ascii Tryz.lays151 s r w h0 h1
def Tryz.lays212_ren : Go.Shelf.Ren := ⟨fun | 212 => 267 | 263 => 306 | 264 => 307 | n => n, fun | 46 => 328 | 51 => 358 | 146 => 359 | 53 => 361 | 148 => 362 | n => n, fun | n => n⟩
theorem Tryz.lays212 : Go.Proofs.Lays.n212 Tryz.prog Tryz.lays212_ren := {
 mixed := by kernel_rfl
 f212 := Tryz.func267.trans (congrArg some (by kernel_rfl))
 f263 := Tryz.func306.trans (congrArg some (by kernel_rfl))
 f264 := Tryz.func307.trans (congrArg some (by kernel_rfl))
 t46 := Tryz.underlying328
 a46 := Tryz.isAgg328
 z46 := Tryz.sizeOf328
 v46 := Tryz.zeroValue328
 t51 := Tryz.underlying358
 a51 := Tryz.isAgg358
 z51 := Tryz.sizeOf358
 v51 := Tryz.zeroValue358
 t53 := Tryz.underlying361
 a53 := Tryz.isAgg361
 z53 := Tryz.sizeOf361
 v53 := Tryz.zeroValue361
 t146 := Tryz.underlying359
 a146 := Tryz.isAgg359
 z146 := Tryz.sizeOf359
 v146 := Tryz.zeroValue359
 t148 := Tryz.underlying362
 a148 := Tryz.isAgg362
 z148 := Tryz.sizeOf362
 v148 := Tryz.zeroValue362 }
open Go.RowKit Go.Lib in
theorem Tryz.bits_Mul (x y : Nat) (hx : x < 18446744073709551616) (hy : y < 18446744073709551616) (w : World) :
   Calls Tryz.prog 267 #[.int .u64 x, .int .u64 y] w fun e w' => e = .returned (.tuple #[.int .u64 ((x * y / 18446744073709551616 : Nat) : Int), .int .u64 ((x * y % 18446744073709551616 : Nat) : Int)]) /\ w' = w := Any.bits_Mul Tryz.lays212 x y hx hy w
end Go.Proofs
