/- Lemmas and contracts for the theorem of this claim: ShelfS, ScB, ScC, ScD, ScE, ScF. -/
import Derived.Test.YtbfimimhgdkpaaaGreatDoorZhC
import Derived.Shelf.Strings.Builder1
import Derived.Shelf.Strings.Builder2
import Derived.Shelf.Strings.OnBuilder
import Derived.Shelf.Small.Bits
import Derived.Shelf.Small.Strs
import Derived.Shelf.Small.Wraps
import Derived.Shelf.Strings.BuilderF
import Derived.Shelf.Strings.BuilderK
import Derived.Shelf.Strconv.Itoa0
import Derived.Shelf.Strconv.Itoa1
import Derived.Shelf.LaysM
import Derived.Shelf.Strconv.Itoa2
import Derived.Shelf.Strconv.Itoa3
import Derived.Shelf.Strconv.Itoa4
import Derived.Shelf.Strconv.ParseIntEmpty
import Derived.Shelf.Strconv.Clone
import Derived.Shelf.Strconv.SyntaxError
import Derived.Shelf.LaysC
import Derived.Shelf.Strconv.ToError
import Derived.Shelf.Strconv.Lower
import Derived.Shelf.Strconv.ParseUint10
import Derived.Shelf.Strconv.ParseUint10Empty
import Derived.Shelf.Strconv.ParseUint10Any
import Derived.Shelf.Strconv.ParseInt10
import Derived.Shelf.Strconv.RangeError
import Derived.Shelf.Strconv.ToErrorRange
import Derived.Shelf.Strconv.ParseUintEmpty
import Derived.Shelf.Strconv.ParseUint10b64
import Derived.Shelf.Strconv.ParseUint10b32
import Derived.Shelf.Strconv.ParseUint10b16
import Derived.Shelf.Strconv.ParseUint10b8
import Derived.Shelf.Strconv.ParseUint10At
import Derived.Shelf.Strconv.ParseInt10At64
import Derived.Shelf.Strconv.ParseInt10At32
import Derived.Shelf.Strconv.ParseInt10At16
import Derived.Shelf.Strconv.ParseInt10At8
import Derived.Shelf.Strconv.ParseInt10All
import Derived.Shelf.Strconv.ParseIntPublic10
import Derived.Shelf.Strconv.ErrVarParseInt
import Derived.Shelf.Strings.Search1
import Derived.Shelf.Strings.Search2
import Derived.Shelf.Strings.Cut
import Derived.Shelf.Strings.Shaped
import Derived.Shelf.Strconv.AppendUint10
import Derived.Shelf.Strconv.AppendInt10
import Derived.Shelf.Strings.Prefix
import Derived.Shelf.Bits.Mul64
import Derived.Shelf.Strings.Repeat
import Derived.Ground.Names2Prog
import Derived.Shelf.Slices.SearchI
import Derived.Shelf.Bytes.SlEqualAll
import Derived.Shelf.Bytes.Small
import Derived.Test.YtbfimimhgdkpaaaGreatDoorProg
import Derived.Laws.IdiomStrings
import Derived.LoopTactic
import Derived.BigRegion
set_option linter.unusedSimpArgs false
set_option linter.unusedVariables false
/- The contracts of the library at this dump: what the kit's tools (lay-shelf, lay-plain) have written, the ones that are used. No condition. -/

namespace Go.Proofs
open Go.Shelf
def Tryz.lays169_ren : Go.Shelf.Ren := ⟨fun | 169 => 81 | n => n, fun | 70 => 137 | 9 => 9 | 0 => 0 | 72 => 139 | 37 => 25 | 127 => 194 | 3 => 3 | 5 => 5 | n => n, fun | n => n⟩
theorem Tryz.lays169 : Go.Proofs.Lays.n169 Tryz.prog Tryz.lays169_ren := {
  mixed := by kernel_rfl
  f169 := Tryz.func81.trans (congrArg some (by kernel_rfl))
  t0 := Tryz.underlying0
  a0 := Tryz.isAgg0
  z0 := Tryz.sizeOf0
  v0 := Tryz.zeroValue0
  t3 := Tryz.underlying3
  a3 := Tryz.isAgg3
  z3 := Tryz.sizeOf3
  v3 := Tryz.zeroValue3
  t9 := Tryz.underlying9
  a9 := Tryz.isAgg9
  z9 := Tryz.sizeOf9
  v9 := Tryz.zeroValue9
  t37 := Tryz.underlying25
  a37 := Tryz.isAgg25
  z37 := Tryz.sizeOf25
  v37 := Tryz.zeroValue25
  t70 := Tryz.underlying137
  a70 := Tryz.isAgg137
  z70 := Tryz.sizeOf137
  v70 := Tryz.zeroValue137
  t72 := Tryz.underlying139
  a72 := Tryz.isAgg139
  z72 := Tryz.sizeOf139
  v72 := Tryz.zeroValue139
  t127 := Tryz.underlying194
  a127 := Tryz.isAgg194
  z127 := Tryz.sizeOf194
  v127 := Tryz.zeroValue194 }
theorem Tryz.Builder_Extra_169 : Builder.Extra Tryz.prog Tryz.lays169_ren := {
  sizeBuilder := by kernel_rfl
  liesBuilder := by kernel_rfl
  t5 := Tryz.underlying5
  a5 := Tryz.isAgg5
  z5 := Tryz.sizeOf5
  v5 := Tryz.zeroValue5
  infoByte := by kernel_rfl
  cellsByte := by kernel_rfl
  sizeByte := by kernel_rfl
  neB5 := by decide }
def Tryz.lays156_ren : Go.Shelf.Ren := ⟨fun | 156 => 40 | 165 => 84 | 166 => 79 | 169 => 81 | 240 => 119 | 241 => 123 | 276 => 172 | 277 => 173 | n => n, fun | 31 => 68 | 9 => 9 | 3 => 3 | 4 => 4 | 0 => 0 | 20 => 20 | 72 => 139 | 76 => 142 | 70 => 137 | 37 => 25 | 75 => 141 | 127 => 194 | 164 => 234 | 5 => 5 | 80 => 122 | n => n, fun | n => n⟩
theorem Tryz.lays156 : Go.Proofs.Lays.n156 Tryz.prog Tryz.lays156_ren := {
  mixed := by kernel_rfl
  f156 := Tryz.func40.trans (congrArg some (by kernel_rfl))
  f165 := Tryz.func84.trans (congrArg some (by kernel_rfl))
  f166 := Tryz.func79.trans (congrArg some (by kernel_rfl))
  f169 := Tryz.func81.trans (congrArg some (by kernel_rfl))
  f240 := Tryz.func119.trans (congrArg some (by kernel_rfl))
  f241 := Tryz.func123.trans (congrArg some (by kernel_rfl))
  f276 := Tryz.func172.trans (congrArg some (by kernel_rfl))
  f277 := Tryz.func173.trans (congrArg some (by kernel_rfl))
  t0 := Tryz.underlying0
  a0 := Tryz.isAgg0
  z0 := Tryz.sizeOf0
  v0 := Tryz.zeroValue0
  t3 := Tryz.underlying3
  a3 := Tryz.isAgg3
  z3 := Tryz.sizeOf3
  v3 := Tryz.zeroValue3
  t4 := Tryz.underlying4
  a4 := Tryz.isAgg4
  z4 := Tryz.sizeOf4
  v4 := Tryz.zeroValue4
  t9 := Tryz.underlying9
  a9 := Tryz.isAgg9
  z9 := Tryz.sizeOf9
  v9 := Tryz.zeroValue9
  t20 := Tryz.underlying20
  a20 := Tryz.isAgg20
  z20 := Tryz.sizeOf20
  v20 := Tryz.zeroValue20
  t31 := Tryz.underlying68
  a31 := Tryz.isAgg68
  z31 := Tryz.sizeOf68
  v31 := Tryz.zeroValue68
  t37 := Tryz.underlying25
  a37 := Tryz.isAgg25
  z37 := Tryz.sizeOf25
  v37 := Tryz.zeroValue25
  t70 := Tryz.underlying137
  a70 := Tryz.isAgg137
  z70 := Tryz.sizeOf137
  v70 := Tryz.zeroValue137
  t72 := Tryz.underlying139
  a72 := Tryz.isAgg139
  z72 := Tryz.sizeOf139
  v72 := Tryz.zeroValue139
  t75 := Tryz.underlying141
  a75 := Tryz.isAgg141
  z75 := Tryz.sizeOf141
  v75 := Tryz.zeroValue141
  t76 := Tryz.underlying142
  a76 := Tryz.isAgg142
  z76 := Tryz.sizeOf142
  v76 := Tryz.zeroValue142
  t127 := Tryz.underlying194
  a127 := Tryz.isAgg194
  z127 := Tryz.sizeOf194
  v127 := Tryz.zeroValue194
  t164 := Tryz.underlying234
  a164 := Tryz.isAgg234
  z164 := Tryz.sizeOf234
  v164 := Tryz.zeroValue234 }
theorem Tryz.Builder_Extra_156 : Builder.Extra Tryz.prog Tryz.lays156_ren := {
  sizeBuilder := by kernel_rfl
  liesBuilder := by kernel_rfl
  t5 := Tryz.underlying5
  a5 := Tryz.isAgg5
  z5 := Tryz.sizeOf5
  v5 := Tryz.zeroValue5
  infoByte := by kernel_rfl
  cellsByte := by kernel_rfl
  sizeByte := by kernel_rfl
  neB5 := by decide }
open Go.RowKit in
theorem Tryz.strings_Join_none (a : Option Addr) (c : Nat) (sep : ByteArray) (w : World) :
    Calls Tryz.prog 40 #[.slice a 0 c, .string sep] w fun e w' => e = .returned (.string ⟨#[]⟩) ∧ w' = w := Any.strings_Join_none Tryz.lays156 Tryz.Builder_Extra_156 a c sep w
open Go.RowKit in
theorem Tryz.strings_Join (bk o c : Nat) (xs : List ByteArray) (sep : ByteArray) (w : World) (hcells : ∀ (j : Nat) x, xs[j]? = some x → w.cell? ⟨bk, o + j, none⟩ = some (.string x)) (hbk : bk < w.heap.size) (hN : xs.length ≤ 140737488355328) (hcap : xs.length ≤ c) (hlen : (Lib.join (xs.map (·.data.toList)) sep.data.toList).length ≤ 140737488355328) :
    Calls Tryz.prog 40 #[.slice (some ⟨bk, o, none⟩) xs.length c, .string sep] w fun e w' => e = .returned (.string ⟨(Lib.join (xs.map (·.data.toList)) sep.data.toList).toArray⟩) ∧ Below w.heap.size w w' := Any.strings_Join Tryz.lays156 Tryz.Builder_Extra_156 bk o c xs sep w hcells hbk hN hcap hlen
def Tryz.lays133_ren : Go.Shelf.Ren := ⟨fun | 133 => 223 | 128 => 224 | n => n, fun | 51 => 23 | 3 => 3 | 4 => 4 | 46 => 145 | 5 => 5 | 9 => 9 | n => n, fun | n => n⟩
theorem Tryz.lays133 : Go.Proofs.Lays.n133 Tryz.prog Tryz.lays133_ren := {
  mixed := by kernel_rfl
  f128 := Tryz.func224.trans (congrArg some (by kernel_rfl))
  f133 := Tryz.func223.trans (congrArg some (by kernel_rfl))
  t3 := Tryz.underlying3
  a3 := Tryz.isAgg3
  z3 := Tryz.sizeOf3
  v3 := Tryz.zeroValue3
  t4 := Tryz.underlying4
  a4 := Tryz.isAgg4
  z4 := Tryz.sizeOf4
  v4 := Tryz.zeroValue4
  t5 := Tryz.underlying5
  a5 := Tryz.isAgg5
  z5 := Tryz.sizeOf5
  v5 := Tryz.zeroValue5
  t9 := Tryz.underlying9
  a9 := Tryz.isAgg9
  z9 := Tryz.sizeOf9
  v9 := Tryz.zeroValue9
  t46 := Tryz.underlying145
  a46 := Tryz.isAgg145
  z46 := Tryz.sizeOf145
  v46 := Tryz.zeroValue145
  t51 := Tryz.underlying23
  a51 := Tryz.isAgg23
  z51 := Tryz.sizeOf23
  v51 := Tryz.zeroValue23 }
theorem Tryz.bits_LeadingZeros32 (x : Int) (w : World) (h0 : 0 ≤ x) (h1 : x ≤ 4294967295) :
    Calls Tryz.prog 223 #[.int .u32 x] w fun e w' => e = .returned (.int .i64 (32 - (Lib.bitLen x.toNat : Int))) ∧ w' = w := Any.bits_LeadingZeros32 Tryz.lays133 x w h0 h1
def Tryz.lays137_ren : Go.Shelf.Ren := ⟨fun | 137 => 142 | 217 => 176 | 266 => 195 | n => n, fun | 9 => 9 | 5 => 5 | 3 => 3 | n => n, fun | n => n⟩
theorem Tryz.lays137 : Go.Proofs.Lays.n137 Tryz.prog Tryz.lays137_ren := {
  mixed := by kernel_rfl
  f137 := Tryz.func142.trans (congrArg some (by kernel_rfl))
  f217 := Tryz.func176.trans (congrArg some (by kernel_rfl))
  f266 := Tryz.func195.trans (congrArg some (by kernel_rfl))
  t3 := Tryz.underlying3
  a3 := Tryz.isAgg3
  z3 := Tryz.sizeOf3
  v3 := Tryz.zeroValue3
  t5 := Tryz.underlying5
  a5 := Tryz.isAgg5
  z5 := Tryz.sizeOf5
  v5 := Tryz.zeroValue5
  t9 := Tryz.underlying9
  a9 := Tryz.isAgg9
  z9 := Tryz.sizeOf9
  v9 := Tryz.zeroValue9 }
open Go.RowKit in
theorem Tryz.strings_IndexByte (s : ByteArray) (c : Int) (w : World) :
    Calls Tryz.prog 142 #[.string s, .int .u8 c] w fun e w' => e = .returned (.int .i64 (Lib.indexByte s.data.toList c.toNat.toUInt8)) ∧ w' = w := Any.strings_IndexByte Tryz.lays137 s c w
def Tryz.lays122_ren : Go.Shelf.Ren := ⟨fun | 122 => 118 | 215 => 171 | n => n, fun | 3 => 3 | 4 => 4 | n => n, fun | n => n⟩
theorem Tryz.lays122 : Go.Proofs.Lays.n122 Tryz.prog Tryz.lays122_ren := {
  mixed := by kernel_rfl
  f122 := Tryz.func118.trans (congrArg some (by kernel_rfl))
  f215 := Tryz.func171.trans (congrArg some (by kernel_rfl))
  t3 := Tryz.underlying3
  a3 := Tryz.isAgg3
  z3 := Tryz.sizeOf3
  v3 := Tryz.zeroValue3
  t4 := Tryz.underlying4
  a4 := Tryz.isAgg4
  z4 := Tryz.sizeOf4
  v4 := Tryz.zeroValue4 }
open Go.RowKit in
theorem Tryz.cmp_Compare_int (x y : Int) (w : World) :
    Calls Tryz.prog 118 #[.int .i64 x, .int .i64 y] w fun e w' => e = .returned (.int .i64 (Lib.compareInt x y)) ∧ w' = w := Any.cmp_Compare_int Tryz.lays122 x y w
open Go.RowKit in
theorem Tryz.Builder_String_any_k (B b : Nat) (l : List UInt8) (w : World) (h : Lib.IsBuilderF 139 5 B b (Lib.byteCells l) w) (hBw : B ≤ w.heap.size) :
    Calls Tryz.prog 81 #[.pointer (some ⟨b, 0, none⟩)] w fun e w' => e = .returned (.string ⟨l.toArray⟩) ∧ (Lib.IsBuilderF 139 5 B b (Lib.byteCells l) w' ∧ Below B w w' ∧ Lib.OthersKept 5 (some b) w w') := Any.Builder_String_any_k Tryz.lays169 Tryz.Builder_Extra_169 B b l w h hBw
def Tryz.laysM171_ren : Go.Shelf.Ren := ⟨fun | 171 => 48 | 243 => 94 | 246 => 95 | 283 => 143 | 284 => 144 | 285 => 145 | 286 => 146 | 129 => 178 | 317 => 177 | 318 => 179 | 319 => 180 | 320 => 181 | 337 => 196 | 338 => 197 | n => n, fun | 3 => 3 | 9 => 9 | 2 => 2 | 4 => 4 | 171 => 203 | 0 => 0 | 53 => 175 | 37 => 25 | 5 => 5 | 173 => 206 | 212 => 240 | 51 => 23 | 20 => 20 | 213 => 241 | 46 => 145 | 232 => 274 | 233 => 275 | n => n, fun | 17 => 0 | 18 => 4 | 19 => 5 | n => n⟩
theorem Tryz.laysM171 : Go.Proofs.LaysM.n171 Tryz.prog Tryz.laysM171_ren := {
  mixed := by kernel_rfl
  f129 := Tryz.func178.trans (congrArg some (by kernel_rfl))
  f171 := Tryz.func48.trans (congrArg some (by kernel_rfl))
  f243 := Tryz.func94.trans (congrArg some (by kernel_rfl))
  f246 := Tryz.func95.trans (congrArg some (by kernel_rfl))
  f283 := Tryz.func143.trans (congrArg some (by kernel_rfl))
  f284 := Tryz.func144.trans (congrArg some (by kernel_rfl))
  f285 := Tryz.func145.trans (congrArg some (by kernel_rfl))
  f286 := Tryz.func146.trans (congrArg some (by kernel_rfl))
  f317 := Tryz.func177.trans (congrArg some (by kernel_rfl))
  f318 := Tryz.func179.trans (congrArg some (by kernel_rfl))
  f319 := Tryz.func180.trans (congrArg some (by kernel_rfl))
  f320 := Tryz.func181.trans (congrArg some (by kernel_rfl))
  f337 := Tryz.func196.trans (congrArg some (by kernel_rfl))
  f338 := Tryz.func197.trans (congrArg some (by kernel_rfl))
  t0 := Tryz.underlying0
  a0 := Tryz.isAgg0
  z0 := Tryz.sizeOf0
  v0 := Tryz.zeroValue0
  t2 := Tryz.underlying2
  a2 := Tryz.isAgg2
  z2 := Tryz.sizeOf2
  v2 := Tryz.zeroValue2
  t3 := Tryz.underlying3
  a3 := Tryz.isAgg3
  z3 := Tryz.sizeOf3
  v3 := Tryz.zeroValue3
  t4 := Tryz.underlying4
  a4 := Tryz.isAgg4
  z4 := Tryz.sizeOf4
  v4 := Tryz.zeroValue4
  t5 := Tryz.underlying5
  a5 := Tryz.isAgg5
  z5 := Tryz.sizeOf5
  v5 := Tryz.zeroValue5
  t9 := Tryz.underlying9
  a9 := Tryz.isAgg9
  z9 := Tryz.sizeOf9
  v9 := Tryz.zeroValue9
  t20 := Tryz.underlying20
  a20 := Tryz.isAgg20
  z20 := Tryz.sizeOf20
  v20 := Tryz.zeroValue20
  t37 := Tryz.underlying25
  a37 := Tryz.isAgg25
  z37 := Tryz.sizeOf25
  v37 := Tryz.zeroValue25
  t46 := Tryz.underlying145
  a46 := Tryz.isAgg145
  z46 := Tryz.sizeOf145
  v46 := Tryz.zeroValue145
  t51 := Tryz.underlying23
  a51 := Tryz.isAgg23
  z51 := Tryz.sizeOf23
  v51 := Tryz.zeroValue23
  t53 := Tryz.underlying175
  a53 := Tryz.isAgg175
  z53 := Tryz.sizeOf175
  v53 := Tryz.zeroValue175
  t171 := Tryz.underlying203
  a171 := Tryz.isAgg203
  z171 := Tryz.sizeOf203
  v171 := Tryz.zeroValue203
  t173 := Tryz.underlying206
  a173 := Tryz.isAgg206
  z173 := Tryz.sizeOf206
  v173 := Tryz.zeroValue206
  t212 := Tryz.underlying240
  a212 := Tryz.isAgg240
  z212 := Tryz.sizeOf240
  v212 := Tryz.zeroValue240
  t213 := Tryz.underlying241
  a213 := Tryz.isAgg241
  z213 := Tryz.sizeOf241
  t232 := Tryz.underlying274
  a232 := Tryz.isAgg274
  z232 := Tryz.sizeOf274
  v232 := Tryz.zeroValue274
  t233 := Tryz.underlying275
  a233 := Tryz.isAgg275
  z233 := Tryz.sizeOf275
  v233 := Tryz.zeroValue275
  g17 := by kernel_rfl
  g18 := by kernel_rfl
  g19 := by kernel_rfl
  i0 := by kernel_rfl
  i2 := by kernel_rfl
  i3 := by kernel_rfl
  i4 := by kernel_rfl
  i5 := by kernel_rfl
  i9 := by kernel_rfl
  i20 := by kernel_rfl
  i37 := by kernel_rfl
  i46 := by kernel_rfl
  i51 := by kernel_rfl
  i53 := by kernel_rfl
  i171 := by kernel_rfl
  i173 := by kernel_rfl
  i212 := by kernel_rfl
  i232 := by kernel_rfl
  i233 := by kernel_rfl
  m17 := by kernel_rfl
  m18 := by kernel_rfl
  m19 := by kernel_rfl }
open Go.RowKit Go.Sort Go.Lib in
theorem Tryz.strconv_Itoa (n : Int) (h0 : -9223372036854775808 ≤ n) (h1 : n ≤ 9223372036854775807) (w : World) (htab : Lib.TabIs Tryz.prog w "internal/strconv.uint64pow10" .u64 Lib.pow10Tab) :
    Calls Tryz.prog 48 #[.int .i64 n] w fun e w' => e = .returned (.string ⟨(Lib.itoa n).toArray⟩) ∧ ∃ k os, w' = grow (w.drewN k) os := Any.strconv_Itoa Tryz.laysM171 n h0 h1 w htab
def Tryz.laysM173_ren : Go.Shelf.Ren := ⟨fun | 173 => 49 | 246 => 95 | 283 => 143 | 284 => 144 | 285 => 145 | 286 => 146 | 129 => 178 | 317 => 177 | 318 => 179 | 319 => 180 | 320 => 181 | 337 => 196 | 338 => 197 | n => n, fun | 2 => 2 | 3 => 3 | 9 => 9 | 4 => 4 | 171 => 203 | 0 => 0 | 53 => 175 | 37 => 25 | 5 => 5 | 173 => 206 | 212 => 240 | 51 => 23 | 20 => 20 | 213 => 241 | 46 => 145 | 232 => 274 | 233 => 275 | n => n, fun | 17 => 0 | 18 => 4 | 19 => 5 | n => n⟩
theorem Tryz.laysM173 : Go.Proofs.LaysM.n173 Tryz.prog Tryz.laysM173_ren := {
  mixed := by kernel_rfl
  f129 := Tryz.func178.trans (congrArg some (by kernel_rfl))
  f173 := Tryz.func49.trans (congrArg some (by kernel_rfl))
  f246 := Tryz.func95.trans (congrArg some (by kernel_rfl))
  f283 := Tryz.func143.trans (congrArg some (by kernel_rfl))
  f284 := Tryz.func144.trans (congrArg some (by kernel_rfl))
  f285 := Tryz.func145.trans (congrArg some (by kernel_rfl))
  f286 := Tryz.func146.trans (congrArg some (by kernel_rfl))
  f317 := Tryz.func177.trans (congrArg some (by kernel_rfl))
  f318 := Tryz.func179.trans (congrArg some (by kernel_rfl))
  f319 := Tryz.func180.trans (congrArg some (by kernel_rfl))
  f320 := Tryz.func181.trans (congrArg some (by kernel_rfl))
  f337 := Tryz.func196.trans (congrArg some (by kernel_rfl))
  f338 := Tryz.func197.trans (congrArg some (by kernel_rfl))
  t0 := Tryz.underlying0
  a0 := Tryz.isAgg0
  z0 := Tryz.sizeOf0
  v0 := Tryz.zeroValue0
  t2 := Tryz.underlying2
  a2 := Tryz.isAgg2
  z2 := Tryz.sizeOf2
  v2 := Tryz.zeroValue2
  t3 := Tryz.underlying3
  a3 := Tryz.isAgg3
  z3 := Tryz.sizeOf3
  v3 := Tryz.zeroValue3
  t4 := Tryz.underlying4
  a4 := Tryz.isAgg4
  z4 := Tryz.sizeOf4
  v4 := Tryz.zeroValue4
  t5 := Tryz.underlying5
  a5 := Tryz.isAgg5
  z5 := Tryz.sizeOf5
  v5 := Tryz.zeroValue5
  t9 := Tryz.underlying9
  a9 := Tryz.isAgg9
  z9 := Tryz.sizeOf9
  v9 := Tryz.zeroValue9
  t20 := Tryz.underlying20
  a20 := Tryz.isAgg20
  z20 := Tryz.sizeOf20
  v20 := Tryz.zeroValue20
  t37 := Tryz.underlying25
  a37 := Tryz.isAgg25
  z37 := Tryz.sizeOf25
  v37 := Tryz.zeroValue25
  t46 := Tryz.underlying145
  a46 := Tryz.isAgg145
  z46 := Tryz.sizeOf145
  v46 := Tryz.zeroValue145
  t51 := Tryz.underlying23
  a51 := Tryz.isAgg23
  z51 := Tryz.sizeOf23
  v51 := Tryz.zeroValue23
  t53 := Tryz.underlying175
  a53 := Tryz.isAgg175
  z53 := Tryz.sizeOf175
  v53 := Tryz.zeroValue175
  t171 := Tryz.underlying203
  a171 := Tryz.isAgg203
  z171 := Tryz.sizeOf203
  v171 := Tryz.zeroValue203
  t173 := Tryz.underlying206
  a173 := Tryz.isAgg206
  z173 := Tryz.sizeOf206
  v173 := Tryz.zeroValue206
  t212 := Tryz.underlying240
  a212 := Tryz.isAgg240
  z212 := Tryz.sizeOf240
  v212 := Tryz.zeroValue240
  t213 := Tryz.underlying241
  a213 := Tryz.isAgg241
  z213 := Tryz.sizeOf241
  t232 := Tryz.underlying274
  a232 := Tryz.isAgg274
  z232 := Tryz.sizeOf274
  v232 := Tryz.zeroValue274
  t233 := Tryz.underlying275
  a233 := Tryz.isAgg275
  z233 := Tryz.sizeOf275
  v233 := Tryz.zeroValue275
  g17 := by kernel_rfl
  g18 := by kernel_rfl
  g19 := by kernel_rfl
  i0 := by kernel_rfl
  i2 := by kernel_rfl
  i3 := by kernel_rfl
  i4 := by kernel_rfl
  i5 := by kernel_rfl
  i9 := by kernel_rfl
  i20 := by kernel_rfl
  i37 := by kernel_rfl
  i46 := by kernel_rfl
  i51 := by kernel_rfl
  i53 := by kernel_rfl
  i171 := by kernel_rfl
  i173 := by kernel_rfl
  i212 := by kernel_rfl
  i232 := by kernel_rfl
  i233 := by kernel_rfl
  m17 := by kernel_rfl
  m18 := by kernel_rfl
  m19 := by kernel_rfl }
open Go.RowKit Go.Sort Go.Lib in
theorem Tryz.strconv_FormatInt_10 (n : Int) (h0 : -9223372036854775808 ≤ n) (h1 : n ≤ 9223372036854775807) (w : World) (htab : Lib.TabIs Tryz.prog w "internal/strconv.uint64pow10" .u64 Lib.pow10Tab) :
    Calls Tryz.prog 49 #[.int .i64 n, .int .i64 10] w fun e w' => e = .returned (.string ⟨(Lib.itoa n).toArray⟩) ∧ ∃ k os, w' = grow (w.drewN k) os := Any.strconv_FormatInt_10 Tryz.laysM173 n h0 h1 w htab
def Tryz.laysC174_ren : Go.Shelf.Ren := ⟨fun | 174 => 128 | 247 => 174 | 245 => 175 | 287 => 190 | 279 => 191 | 280 => 192 | 281 => 193 | 282 => 194 | 321 => 203 | 322 => 204 | 316 => 205 | 171 => 48 | 205 => 206 | 243 => 94 | 246 => 95 | 283 => 143 | 284 => 144 | 285 => 145 | 286 => 146 | 129 => 178 | 317 => 177 | 318 => 179 | 319 => 180 | 320 => 181 | 337 => 196 | 338 => 197 | n => n, fun | 9 => 9 | 3 => 3 | 2 => 2 | 75 => 141 | 85 => 199 | 4 => 4 | 167 => 253 | 5 => 5 | 53 => 175 | 175 => 254 | 46 => 145 | 168 => 256 | 37 => 25 | 0 => 0 | 210 => 272 | 21 => 21 | 127 => 194 | 145 => 285 | 143 => 283 | 171 => 203 | 173 => 206 | 212 => 240 | 51 => 23 | 20 => 20 | 213 => 241 | 232 => 274 | 233 => 275 | 80 => 122 | n => n, fun | 15 => 2 | 16 => 3 | 17 => 0 | 18 => 4 | 19 => 5 | n => n⟩
theorem Tryz.laysC174 : Go.Proofs.LaysC.n174 Tryz.prog Tryz.laysC174_ren := {
  mixed := by kernel_rfl
  f129 := Tryz.func178.trans (congrArg some (by kernel_rfl))
  f171 := Tryz.func48.trans (congrArg some (by kernel_rfl))
  f174 := Tryz.func128.trans (congrArg some (by kernel_rfl))
  f205 := Tryz.func206.trans (congrArg some (by kernel_rfl))
  f243 := Tryz.func94.trans (congrArg some (by kernel_rfl))
  f245 := Tryz.func175.trans (congrArg some (by kernel_rfl))
  f246 := Tryz.func95.trans (congrArg some (by kernel_rfl))
  f247 := Tryz.func174.trans (congrArg some (by kernel_rfl))
  f279 := Tryz.func191.trans (congrArg some (by kernel_rfl))
  f280 := Tryz.func192.trans (congrArg some (by kernel_rfl))
  f281 := Tryz.func193.trans (congrArg some (by kernel_rfl))
  f282 := Tryz.func194.trans (congrArg some (by kernel_rfl))
  f283 := Tryz.func143.trans (congrArg some (by kernel_rfl))
  f284 := Tryz.func144.trans (congrArg some (by kernel_rfl))
  f285 := Tryz.func145.trans (congrArg some (by kernel_rfl))
  f286 := Tryz.func146.trans (congrArg some (by kernel_rfl))
  f287 := Tryz.func190.trans (congrArg some (by kernel_rfl))
  f316 := Tryz.func205.trans (congrArg some (by kernel_rfl))
  f317 := Tryz.func177.trans (congrArg some (by kernel_rfl))
  f318 := Tryz.func179.trans (congrArg some (by kernel_rfl))
  f319 := Tryz.func180.trans (congrArg some (by kernel_rfl))
  f320 := Tryz.func181.trans (congrArg some (by kernel_rfl))
  f321 := Tryz.func203.trans (congrArg some (by kernel_rfl))
  f322 := Tryz.func204.trans (congrArg some (by kernel_rfl))
  f337 := Tryz.func196.trans (congrArg some (by kernel_rfl))
  f338 := Tryz.func197.trans (congrArg some (by kernel_rfl))
  t0 := Tryz.underlying0
  a0 := Tryz.isAgg0
  z0 := Tryz.sizeOf0
  v0 := Tryz.zeroValue0
  t2 := Tryz.underlying2
  a2 := Tryz.isAgg2
  z2 := Tryz.sizeOf2
  v2 := Tryz.zeroValue2
  t3 := Tryz.underlying3
  a3 := Tryz.isAgg3
  z3 := Tryz.sizeOf3
  v3 := Tryz.zeroValue3
  t4 := Tryz.underlying4
  a4 := Tryz.isAgg4
  z4 := Tryz.sizeOf4
  v4 := Tryz.zeroValue4
  t5 := Tryz.underlying5
  a5 := Tryz.isAgg5
  z5 := Tryz.sizeOf5
  v5 := Tryz.zeroValue5
  t9 := Tryz.underlying9
  a9 := Tryz.isAgg9
  z9 := Tryz.sizeOf9
  v9 := Tryz.zeroValue9
  t20 := Tryz.underlying20
  a20 := Tryz.isAgg20
  z20 := Tryz.sizeOf20
  v20 := Tryz.zeroValue20
  t21 := Tryz.underlying21
  a21 := Tryz.isAgg21
  z21 := Tryz.sizeOf21
  v21 := Tryz.zeroValue21
  t37 := Tryz.underlying25
  a37 := Tryz.isAgg25
  z37 := Tryz.sizeOf25
  v37 := Tryz.zeroValue25
  t46 := Tryz.underlying145
  a46 := Tryz.isAgg145
  z46 := Tryz.sizeOf145
  v46 := Tryz.zeroValue145
  t51 := Tryz.underlying23
  a51 := Tryz.isAgg23
  z51 := Tryz.sizeOf23
  v51 := Tryz.zeroValue23
  t53 := Tryz.underlying175
  a53 := Tryz.isAgg175
  z53 := Tryz.sizeOf175
  v53 := Tryz.zeroValue175
  t75 := Tryz.underlying141
  a75 := Tryz.isAgg141
  z75 := Tryz.sizeOf141
  v75 := Tryz.zeroValue141
  t85 := Tryz.underlying199
  a85 := Tryz.isAgg199
  z85 := Tryz.sizeOf199
  v85 := Tryz.zeroValue199
  t127 := Tryz.underlying194
  a127 := Tryz.isAgg194
  z127 := Tryz.sizeOf194
  v127 := Tryz.zeroValue194
  t143 := Tryz.underlying283
  a143 := Tryz.isAgg283
  z143 := Tryz.sizeOf283
  v143 := Tryz.zeroValue283
  t145 := Tryz.underlying285
  a145 := Tryz.isAgg285
  z145 := Tryz.sizeOf285
  v145 := Tryz.zeroValue285
  t167 := Tryz.underlying253
  a167 := Tryz.isAgg253
  z167 := Tryz.sizeOf253
  v167 := Tryz.zeroValue253
  t168 := Tryz.underlying256
  a168 := Tryz.isAgg256
  z168 := Tryz.sizeOf256
  v168 := Tryz.zeroValue256
  t171 := Tryz.underlying203
  a171 := Tryz.isAgg203
  z171 := Tryz.sizeOf203
  v171 := Tryz.zeroValue203
  t173 := Tryz.underlying206
  a173 := Tryz.isAgg206
  z173 := Tryz.sizeOf206
  v173 := Tryz.zeroValue206
  t175 := Tryz.underlying254
  a175 := Tryz.isAgg254
  z175 := Tryz.sizeOf254
  v175 := Tryz.zeroValue254
  t210 := Tryz.underlying272
  a210 := Tryz.isAgg272
  z210 := Tryz.sizeOf272
  v210 := Tryz.zeroValue272
  t212 := Tryz.underlying240
  a212 := Tryz.isAgg240
  z212 := Tryz.sizeOf240
  v212 := Tryz.zeroValue240
  t213 := Tryz.underlying241
  a213 := Tryz.isAgg241
  z213 := Tryz.sizeOf241
  t232 := Tryz.underlying274
  a232 := Tryz.isAgg274
  z232 := Tryz.sizeOf274
  v232 := Tryz.zeroValue274
  t233 := Tryz.underlying275
  a233 := Tryz.isAgg275
  z233 := Tryz.sizeOf275
  v233 := Tryz.zeroValue275
  g15 := by kernel_rfl
  g16 := by kernel_rfl
  g17 := by kernel_rfl
  g18 := by kernel_rfl
  g19 := by kernel_rfl
  t80 := Tryz.underlying122
  a80 := Tryz.isAgg122
  z80 := Tryz.sizeOf122
  v80 := Tryz.zeroValue122
  i0 := by kernel_rfl
  i2 := by kernel_rfl
  i3 := by kernel_rfl
  i4 := by kernel_rfl
  i5 := by kernel_rfl
  i9 := by kernel_rfl
  i20 := by kernel_rfl
  i21 := by kernel_rfl
  i37 := by kernel_rfl
  i46 := by kernel_rfl
  i51 := by kernel_rfl
  i53 := by kernel_rfl
  i75 := by kernel_rfl
  i80 := by kernel_rfl
  i85 := by kernel_rfl
  i127 := by kernel_rfl
  i143 := by kernel_rfl
  i145 := by kernel_rfl
  i167 := by kernel_rfl
  i168 := by kernel_rfl
  i171 := by kernel_rfl
  i173 := by kernel_rfl
  i175 := by kernel_rfl
  i210 := by kernel_rfl
  i212 := by kernel_rfl
  i232 := by kernel_rfl
  i233 := by kernel_rfl
  m15 := by kernel_rfl
  m16 := by kernel_rfl
  m17 := by kernel_rfl
  m18 := by kernel_rfl
  m19 := by kernel_rfl
  c0 := by kernel_rfl
  c2 := by kernel_rfl
  c3 := by kernel_rfl
  c4 := by kernel_rfl
  c5 := by kernel_rfl
  c9 := by kernel_rfl
  c20 := by kernel_rfl
  c21 := by kernel_rfl
  c37 := by kernel_rfl
  c46 := by kernel_rfl
  c51 := by kernel_rfl
  c53 := by kernel_rfl
  c75 := by kernel_rfl
  c80 := by kernel_rfl
  c85 := by kernel_rfl
  c127 := by kernel_rfl
  c143 := by kernel_rfl
  c145 := by kernel_rfl
  c167 := by kernel_rfl
  c168 := by kernel_rfl
  c171 := by kernel_rfl
  c173 := by kernel_rfl
  c175 := by kernel_rfl
  c210 := by kernel_rfl
  c212 := by kernel_rfl
  c213 := by kernel_rfl
  c232 := by kernel_rfl
  c233 := by kernel_rfl }
open Go.RowKit in
theorem Tryz.strconv_ParseInt_10_at64_ok (s : ByteArray) (hmax : s.size ≤ 9223372036854775806) (v : Int) (h : Lib.parseIntB 64 s.data.toList = .ok v) (w : World) :
    Calls Tryz.prog 128 #[.string s, .int .i64 10, .int .i64 64] w fun e w' => e = .returned (.tuple #[.int .i64 v, .nilIface]) ∧ (w' = w ∨ ∃ t, w' = Lib.bytesWorld w 5 t) := Any.strconv_ParseInt_10_at64_ok Tryz.laysC174 s hmax v h w
open Go.RowKit in
theorem Tryz.strconv_ParseInt_10_at64_syntax_var (s : ByteArray) (hlim : s.size ≤ 281474976710656) (h : Lib.parseIntB 64 s.data.toList = Lib.parseIntB 64 []) (tp : TypeId) (p : Value) (w : World) (hvar : w.var? Tryz.prog "strconv.ErrSyntax" = some #[.iface tp p]) :
    Calls Tryz.prog 128 #[.string s, .int .i64 10, .int .i64 64] w fun e w' => ∃ N, e = .returned (.tuple #[.int .i64 (0), .iface 256 (.pointer (some ⟨N, 0, none⟩))]) ∧ w.heap.size ≤ N ∧ w'.heap[N]? = some (.cells #[.string ⟨#[80, 97, 114, 115, 101, 73, 110, 116]⟩, .string s, .iface tp p] 272 (0, 0)) ∧ Below w.heap.size w w' := Any.strconv_ParseInt_10_at64_syntax_var Tryz.laysC174 s hlim (h.trans (by decide +kernel)) tp p w hvar
open Go.RowKit in
theorem Tryz.strconv_ParseInt_10_at64_range_var (s : ByteArray) (hlim : s.size ≤ 281474976710656) (h : Lib.parseIntB 64 s.data.toList = .range) (tp : TypeId) (p : Value) (w : World) (hvar : w.var? Tryz.prog "strconv.ErrRange" = some #[.iface tp p]) :
    Calls Tryz.prog 128 #[.string s, .int .i64 10, .int .i64 64] w fun e w' => ∃ N, e = .returned (.tuple #[.int .i64 (Lib.intSat 64 s.data.toList), .iface 256 (.pointer (some ⟨N, 0, none⟩))]) ∧ w.heap.size ≤ N ∧ w'.heap[N]? = some (.cells #[.string ⟨#[80, 97, 114, 115, 101, 73, 110, 116]⟩, .string s, .iface tp p] 272 (0, 0)) ∧ Below w.heap.size w w' := Any.strconv_ParseInt_10_at64_range_var Tryz.laysC174 s hlim h tp p w hvar
def Tryz.lays145_ren : Go.Shelf.Ren := ⟨fun | 145 => 115 | 220 => 169 | 219 => 189 | 217 => 176 | 225 => 200 | 224 => 201 | 267 => 202 | 266 => 195 | 314 => 215 | n => n, fun | 9 => 9 | 4 => 4 | 59 => 189 | 3 => 3 | 5 => 5 | 46 => 145 | 146 => 195 | 51 => 23 | n => n, fun | 1 => 1 | n => n⟩
theorem Tryz.lays145 : Go.Proofs.Lays.n145 Tryz.prog Tryz.lays145_ren := {
  mixed := by kernel_rfl
  f145 := Tryz.func115.trans (congrArg some (by kernel_rfl))
  f217 := Tryz.func176.trans (congrArg some (by kernel_rfl))
  f219 := Tryz.func189.trans (congrArg some (by kernel_rfl))
  f220 := Tryz.func169.trans (congrArg some (by kernel_rfl))
  f224 := Tryz.func201.trans (congrArg some (by kernel_rfl))
  f225 := Tryz.func200.trans (congrArg some (by kernel_rfl))
  f266 := Tryz.func195.trans (congrArg some (by kernel_rfl))
  f267 := Tryz.func202.trans (congrArg some (by kernel_rfl))
  f314 := Tryz.func215.trans (congrArg some (by kernel_rfl))
  t3 := Tryz.underlying3
  a3 := Tryz.isAgg3
  z3 := Tryz.sizeOf3
  v3 := Tryz.zeroValue3
  t4 := Tryz.underlying4
  a4 := Tryz.isAgg4
  z4 := Tryz.sizeOf4
  v4 := Tryz.zeroValue4
  t5 := Tryz.underlying5
  a5 := Tryz.isAgg5
  z5 := Tryz.sizeOf5
  v5 := Tryz.zeroValue5
  t9 := Tryz.underlying9
  a9 := Tryz.isAgg9
  z9 := Tryz.sizeOf9
  v9 := Tryz.zeroValue9
  t46 := Tryz.underlying145
  a46 := Tryz.isAgg145
  z46 := Tryz.sizeOf145
  v46 := Tryz.zeroValue145
  t51 := Tryz.underlying23
  a51 := Tryz.isAgg23
  z51 := Tryz.sizeOf23
  v51 := Tryz.zeroValue23
  t59 := Tryz.underlying189
  a59 := Tryz.isAgg189
  z59 := Tryz.sizeOf189
  v59 := Tryz.zeroValue189
  t146 := Tryz.underlying195
  a146 := Tryz.isAgg195
  z146 := Tryz.sizeOf195
  v146 := Tryz.zeroValue195
  g1 := by kernel_rfl }
open Go.RowKit Go.Lib in
theorem Tryz.strings_Cut (s sep : ByteArray) (m : Int) (w : World) (hs : s.size < 4294967281) (hm : w.cell? ⟨1, 0, none⟩ = some (.int .i64 m)) :
    Calls Tryz.prog 115 #[.string s, .string sep] w fun e w' => e = .returned (.tuple #[.string ⟨(Lib.cut s.data.toList sep.data.toList).1.toArray⟩, .string ⟨(Lib.cut s.data.toList sep.data.toList).2.1.toArray⟩, .bool (Lib.cut s.data.toList sep.data.toList).2.2]) ∧ ∃ n, w' = w.drewN n := Any.strings_Cut Tryz.lays145 s sep m w hs hm
def Tryz.laysM145_ren : Go.Shelf.Ren := ⟨fun | 145 => 115 | 220 => 169 | 219 => 189 | 217 => 176 | 225 => 200 | 224 => 201 | 267 => 202 | 266 => 195 | 314 => 215 | n => n, fun | 9 => 9 | 4 => 4 | 59 => 189 | 3 => 3 | 5 => 5 | 46 => 145 | 146 => 195 | 51 => 23 | n => n, fun | 1 => 1 | n => n⟩
theorem Tryz.laysM145 : Go.Proofs.LaysM.n145 Tryz.prog Tryz.laysM145_ren := {
  mixed := by kernel_rfl
  f145 := Tryz.func115.trans (congrArg some (by kernel_rfl))
  f217 := Tryz.func176.trans (congrArg some (by kernel_rfl))
  f219 := Tryz.func189.trans (congrArg some (by kernel_rfl))
  f220 := Tryz.func169.trans (congrArg some (by kernel_rfl))
  f224 := Tryz.func201.trans (congrArg some (by kernel_rfl))
  f225 := Tryz.func200.trans (congrArg some (by kernel_rfl))
  f266 := Tryz.func195.trans (congrArg some (by kernel_rfl))
  f267 := Tryz.func202.trans (congrArg some (by kernel_rfl))
  f314 := Tryz.func215.trans (congrArg some (by kernel_rfl))
  t3 := Tryz.underlying3
  a3 := Tryz.isAgg3
  z3 := Tryz.sizeOf3
  v3 := Tryz.zeroValue3
  t4 := Tryz.underlying4
  a4 := Tryz.isAgg4
  z4 := Tryz.sizeOf4
  v4 := Tryz.zeroValue4
  t5 := Tryz.underlying5
  a5 := Tryz.isAgg5
  z5 := Tryz.sizeOf5
  v5 := Tryz.zeroValue5
  t9 := Tryz.underlying9
  a9 := Tryz.isAgg9
  z9 := Tryz.sizeOf9
  v9 := Tryz.zeroValue9
  t46 := Tryz.underlying145
  a46 := Tryz.isAgg145
  z46 := Tryz.sizeOf145
  v46 := Tryz.zeroValue145
  t51 := Tryz.underlying23
  a51 := Tryz.isAgg23
  z51 := Tryz.sizeOf23
  v51 := Tryz.zeroValue23
  t59 := Tryz.underlying189
  a59 := Tryz.isAgg189
  z59 := Tryz.sizeOf189
  v59 := Tryz.zeroValue189
  t146 := Tryz.underlying195
  a146 := Tryz.isAgg195
  z146 := Tryz.sizeOf195
  v146 := Tryz.zeroValue195
  g1 := by kernel_rfl
  i3 := by kernel_rfl
  i4 := by kernel_rfl
  i5 := by kernel_rfl
  i9 := by kernel_rfl
  i46 := by kernel_rfl
  i51 := by kernel_rfl
  i59 := by kernel_rfl
  i146 := by kernel_rfl
  m1 := by kernel_rfl
  s1_3 := fun w h => Go.Proofs.cell_of_shapedOpen_int (zero := #[.int .i64 0]) (t := 3) h (of_decide_eq_true (by kernel_rfl)) (by kernel_rfl) rfl (by kernel_rfl) (by kernel_rfl) Tryz.underlying3 }
open Go.RowKit Go.Lib in
theorem Tryz.strings_Cut_shaped (s sep : ByteArray) (w : World) (h : w.ShapedOpen Tryz.prog) (hs : s.size < 4294967281) :
    Calls Tryz.prog 115 #[.string s, .string sep] w fun e w' => e = .returned (.tuple #[.string ⟨(Lib.cut s.data.toList sep.data.toList).1.toArray⟩, .string ⟨(Lib.cut s.data.toList sep.data.toList).2.1.toArray⟩, .bool (Lib.cut s.data.toList sep.data.toList).2.2]) ∧ ∃ n, w' = w.drewN n := Any.strings_Cut_shaped Tryz.laysM145 s sep w h hs
def Tryz.laysM288_ren : Go.Shelf.Ren := ⟨fun | 288 => 159 | 283 => 143 | 284 => 144 | 285 => 145 | 286 => 146 | 129 => 178 | 317 => 177 | 318 => 179 | 319 => 180 | 320 => 181 | 337 => 196 | 338 => 197 | n => n, fun | 37 => 25 | 53 => 175 | 3 => 3 | 4 => 4 | 9 => 9 | 171 => 203 | 0 => 0 | 173 => 206 | 212 => 240 | 51 => 23 | 5 => 5 | 20 => 20 | 213 => 241 | 46 => 145 | 232 => 274 | 233 => 275 | n => n, fun | 17 => 0 | 18 => 4 | 19 => 5 | n => n⟩
theorem Tryz.laysM288 : Go.Proofs.LaysM.n288 Tryz.prog Tryz.laysM288_ren := {
  mixed := by kernel_rfl
  f129 := Tryz.func178.trans (congrArg some (by kernel_rfl))
  f283 := Tryz.func143.trans (congrArg some (by kernel_rfl))
  f284 := Tryz.func144.trans (congrArg some (by kernel_rfl))
  f285 := Tryz.func145.trans (congrArg some (by kernel_rfl))
  f286 := Tryz.func146.trans (congrArg some (by kernel_rfl))
  f288 := Tryz.func159.trans (congrArg some (by kernel_rfl))
  f317 := Tryz.func177.trans (congrArg some (by kernel_rfl))
  f318 := Tryz.func179.trans (congrArg some (by kernel_rfl))
  f319 := Tryz.func180.trans (congrArg some (by kernel_rfl))
  f320 := Tryz.func181.trans (congrArg some (by kernel_rfl))
  f337 := Tryz.func196.trans (congrArg some (by kernel_rfl))
  f338 := Tryz.func197.trans (congrArg some (by kernel_rfl))
  t0 := Tryz.underlying0
  a0 := Tryz.isAgg0
  z0 := Tryz.sizeOf0
  v0 := Tryz.zeroValue0
  t3 := Tryz.underlying3
  a3 := Tryz.isAgg3
  z3 := Tryz.sizeOf3
  v3 := Tryz.zeroValue3
  t4 := Tryz.underlying4
  a4 := Tryz.isAgg4
  z4 := Tryz.sizeOf4
  v4 := Tryz.zeroValue4
  t5 := Tryz.underlying5
  a5 := Tryz.isAgg5
  z5 := Tryz.sizeOf5
  v5 := Tryz.zeroValue5
  t9 := Tryz.underlying9
  a9 := Tryz.isAgg9
  z9 := Tryz.sizeOf9
  v9 := Tryz.zeroValue9
  t20 := Tryz.underlying20
  a20 := Tryz.isAgg20
  z20 := Tryz.sizeOf20
  v20 := Tryz.zeroValue20
  t37 := Tryz.underlying25
  a37 := Tryz.isAgg25
  z37 := Tryz.sizeOf25
  v37 := Tryz.zeroValue25
  t46 := Tryz.underlying145
  a46 := Tryz.isAgg145
  z46 := Tryz.sizeOf145
  v46 := Tryz.zeroValue145
  t51 := Tryz.underlying23
  a51 := Tryz.isAgg23
  z51 := Tryz.sizeOf23
  v51 := Tryz.zeroValue23
  t53 := Tryz.underlying175
  a53 := Tryz.isAgg175
  z53 := Tryz.sizeOf175
  v53 := Tryz.zeroValue175
  t171 := Tryz.underlying203
  a171 := Tryz.isAgg203
  z171 := Tryz.sizeOf203
  v171 := Tryz.zeroValue203
  t173 := Tryz.underlying206
  a173 := Tryz.isAgg206
  z173 := Tryz.sizeOf206
  v173 := Tryz.zeroValue206
  t212 := Tryz.underlying240
  a212 := Tryz.isAgg240
  z212 := Tryz.sizeOf240
  v212 := Tryz.zeroValue240
  t213 := Tryz.underlying241
  a213 := Tryz.isAgg241
  z213 := Tryz.sizeOf241
  t232 := Tryz.underlying274
  a232 := Tryz.isAgg274
  z232 := Tryz.sizeOf274
  v232 := Tryz.zeroValue274
  t233 := Tryz.underlying275
  a233 := Tryz.isAgg275
  z233 := Tryz.sizeOf275
  v233 := Tryz.zeroValue275
  g17 := by kernel_rfl
  g18 := by kernel_rfl
  g19 := by kernel_rfl
  i0 := by kernel_rfl
  i3 := by kernel_rfl
  i4 := by kernel_rfl
  i5 := by kernel_rfl
  i9 := by kernel_rfl
  i20 := by kernel_rfl
  i37 := by kernel_rfl
  i46 := by kernel_rfl
  i51 := by kernel_rfl
  i53 := by kernel_rfl
  i171 := by kernel_rfl
  i173 := by kernel_rfl
  i212 := by kernel_rfl
  i232 := by kernel_rfl
  i233 := by kernel_rfl
  m17 := by kernel_rfl
  m18 := by kernel_rfl
  m19 := by kernel_rfl }
open Go.RowKit Go.Sort Go.Lib in
theorem Tryz.internal_strconv_AppendUint_10 (B n u : Nat) (hu64 : u < 18446744073709551616) (sv : Value) (xs : List Value) (w : World) (hown : w.ownsRow B 5 1 sv n xs) (hBw : B ≤ w.heap.size) (hlim : n + 20 ≤ 140737488355328) (htab : Lib.TabIs Tryz.prog w "internal/strconv.uint64pow10" .u64 Lib.pow10Tab) :
    Calls Tryz.prog 159 #[sv, .int .u64 u, .int .i64 10] w fun e w' => ∃ v', e = .returned v' ∧ w'.ownsRow B 5 1 v' (n + (Lib.decDigits u).length) (xs ++ Lib.byteCells (Lib.decDigits u)) ∧ Below B w w' ∧ Lib.OthersKept 5 none w w' := Any.internal_strconv_AppendUint_10 Tryz.laysM288 B n u hu64 sv xs w hown hBw hlim htab
def Tryz.lays105_ren : Go.Shelf.Ren := ⟨fun | 105 => 36 | 212 => 82 | 99 => 83 | 165 => 84 | 166 => 79 | 170 => 85 | 169 => 81 | 263 => 120 | 264 => 121 | 206 => 122 | 240 => 119 | 241 => 123 | 276 => 172 | 277 => 173 | n => n, fun | 9 => 9 | 3 => 3 | 4 => 4 | 20 => 20 | 0 => 0 | 46 => 145 | 109 => 146 | 5 => 5 | 72 => 139 | 76 => 142 | 51 => 23 | 146 => 195 | 53 => 175 | 148 => 197 | 70 => 137 | 37 => 25 | 75 => 141 | 127 => 194 | 164 => 234 | 80 => 122 | n => n, fun | n => n⟩
theorem Tryz.lays105 : Go.Proofs.Lays.n105 Tryz.prog Tryz.lays105_ren := {
  mixed := by kernel_rfl
  f99 := Tryz.func83.trans (congrArg some (by kernel_rfl))
  f105 := Tryz.func36.trans (congrArg some (by kernel_rfl))
  f165 := Tryz.func84.trans (congrArg some (by kernel_rfl))
  f166 := Tryz.func79.trans (congrArg some (by kernel_rfl))
  f169 := Tryz.func81.trans (congrArg some (by kernel_rfl))
  f170 := Tryz.func85.trans (congrArg some (by kernel_rfl))
  f206 := Tryz.func122.trans (congrArg some (by kernel_rfl))
  f212 := Tryz.func82.trans (congrArg some (by kernel_rfl))
  f240 := Tryz.func119.trans (congrArg some (by kernel_rfl))
  f241 := Tryz.func123.trans (congrArg some (by kernel_rfl))
  f263 := Tryz.func120.trans (congrArg some (by kernel_rfl))
  f264 := Tryz.func121.trans (congrArg some (by kernel_rfl))
  f276 := Tryz.func172.trans (congrArg some (by kernel_rfl))
  f277 := Tryz.func173.trans (congrArg some (by kernel_rfl))
  t0 := Tryz.underlying0
  a0 := Tryz.isAgg0
  z0 := Tryz.sizeOf0
  v0 := Tryz.zeroValue0
  t3 := Tryz.underlying3
  a3 := Tryz.isAgg3
  z3 := Tryz.sizeOf3
  v3 := Tryz.zeroValue3
  t4 := Tryz.underlying4
  a4 := Tryz.isAgg4
  z4 := Tryz.sizeOf4
  v4 := Tryz.zeroValue4
  t5 := Tryz.underlying5
  a5 := Tryz.isAgg5
  z5 := Tryz.sizeOf5
  v5 := Tryz.zeroValue5
  t9 := Tryz.underlying9
  a9 := Tryz.isAgg9
  z9 := Tryz.sizeOf9
  v9 := Tryz.zeroValue9
  t20 := Tryz.underlying20
  a20 := Tryz.isAgg20
  z20 := Tryz.sizeOf20
  v20 := Tryz.zeroValue20
  t37 := Tryz.underlying25
  a37 := Tryz.isAgg25
  z37 := Tryz.sizeOf25
  v37 := Tryz.zeroValue25
  t46 := Tryz.underlying145
  a46 := Tryz.isAgg145
  z46 := Tryz.sizeOf145
  v46 := Tryz.zeroValue145
  t51 := Tryz.underlying23
  a51 := Tryz.isAgg23
  z51 := Tryz.sizeOf23
  v51 := Tryz.zeroValue23
  t53 := Tryz.underlying175
  a53 := Tryz.isAgg175
  z53 := Tryz.sizeOf175
  v53 := Tryz.zeroValue175
  t70 := Tryz.underlying137
  a70 := Tryz.isAgg137
  z70 := Tryz.sizeOf137
  v70 := Tryz.zeroValue137
  t72 := Tryz.underlying139
  a72 := Tryz.isAgg139
  z72 := Tryz.sizeOf139
  v72 := Tryz.zeroValue139
  t75 := Tryz.underlying141
  a75 := Tryz.isAgg141
  z75 := Tryz.sizeOf141
  v75 := Tryz.zeroValue141
  t76 := Tryz.underlying142
  a76 := Tryz.isAgg142
  z76 := Tryz.sizeOf142
  v76 := Tryz.zeroValue142
  t109 := Tryz.underlying146
  a109 := Tryz.isAgg146
  z109 := Tryz.sizeOf146
  v109 := Tryz.zeroValue146
  t127 := Tryz.underlying194
  a127 := Tryz.isAgg194
  z127 := Tryz.sizeOf194
  v127 := Tryz.zeroValue194
  t146 := Tryz.underlying195
  a146 := Tryz.isAgg195
  z146 := Tryz.sizeOf195
  v146 := Tryz.zeroValue195
  t148 := Tryz.underlying197
  a148 := Tryz.isAgg197
  z148 := Tryz.sizeOf197
  v148 := Tryz.zeroValue197
  t164 := Tryz.underlying234
  a164 := Tryz.isAgg234
  z164 := Tryz.sizeOf234
  v164 := Tryz.zeroValue234 }
theorem Tryz.Builder_Extra_105 : Builder.Extra Tryz.prog Tryz.lays105_ren := {
  sizeBuilder := by kernel_rfl
  liesBuilder := by kernel_rfl
  t5 := Tryz.underlying5
  a5 := Tryz.isAgg5
  z5 := Tryz.sizeOf5
  v5 := Tryz.zeroValue5
  infoByte := by kernel_rfl
  cellsByte := by kernel_rfl
  sizeByte := by kernel_rfl
  neB5 := by decide }
open Go.RowKit Go.Lib in
theorem Tryz.strings_Repeat (s : ByteArray) (c : Nat) (w : World) (hc : c ≤ 9223372036854775807) (hlen : s.size * c ≤ 140737488355328) :
    Calls Tryz.prog 36 #[.string s, .int .i64 c] w fun e w' => e = .returned (.string ⟨(Lib.repeatL s.data.toList c).toArray⟩) ∧ Below w.heap.size w w' := Any.strings_Repeat Tryz.lays105 Tryz.Builder_Extra_105 s c w hc hlen
def Tryz.laysnb115_ren : Go.Shelf.Ren := ⟨fun | 115 => 52 | n => n, fun | 37 => 25 | 4 => 4 | 9 => 9 | 5 => 5 | n => n, fun | n => n⟩
theorem Tryz.laysnb115 : Go.Proofs.Lays.nb115 Tryz.prog Tryz.laysnb115_ren := {
  mixed := by kernel_rfl
  f115 := Tryz.func52.trans (congrArg some (by kernel_rfl))
  t4 := Tryz.underlying4
  a4 := Tryz.isAgg4
  z4 := Tryz.sizeOf4
  v4 := Tryz.zeroValue4
  t9 := Tryz.underlying9
  a9 := Tryz.isAgg9
  z9 := Tryz.sizeOf9
  v9 := Tryz.zeroValue9
  t37 := Tryz.underlying25
  a37 := Tryz.isAgg25
  z37 := Tryz.sizeOf25
  v37 := Tryz.zeroValue25
  t5 := Tryz.underlying5
  a5 := Tryz.isAgg5
  z5 := Tryz.sizeOf5
  v5 := Tryz.zeroValue5 }
theorem Tryz.bytes_Equal_all (p1 p2 : Option Addr) (n c m d : Nat) (xs ys : List Int) (w : World) (hx : xs.length = n) (hy : ys.length = m) (h1 : Lib.BytesIn w p1 n xs) (h2 : Lib.BytesIn w p2 m ys) :
    Calls Tryz.prog 52 #[.slice p1 n c, .slice p2 m d] w fun e w' => e = .returned (.bool (Lib.bytesOf xs == Lib.bytesOf ys)) ∧ w' = w := Any.bytes_Equal_all Tryz.laysnb115 p1 p2 n c m d xs ys w hx hy h1 h2
def Tryz.lays115_ren : Go.Shelf.Ren := ⟨fun | 115 => 52 | n => n, fun | 37 => 25 | 4 => 4 | 9 => 9 | 5 => 5 | n => n, fun | n => n⟩
theorem Tryz.lays115 : Go.Proofs.Lays.n115 Tryz.prog Tryz.lays115_ren := {
  mixed := by kernel_rfl
  f115 := Tryz.func52.trans (congrArg some (by kernel_rfl))
  t4 := Tryz.underlying4
  a4 := Tryz.isAgg4
  z4 := Tryz.sizeOf4
  v4 := Tryz.zeroValue4
  t9 := Tryz.underlying9
  a9 := Tryz.isAgg9
  z9 := Tryz.sizeOf9
  v9 := Tryz.zeroValue9
  t37 := Tryz.underlying25
  a37 := Tryz.isAgg25
  z37 := Tryz.sizeOf25
  v37 := Tryz.zeroValue25 }
theorem Tryz.bytes_Equal (v1 v2 : Value) (xs ys : List Int) (w : World) (h1 : (convert 25 9 v1).run Tryz.prog w = .ok (.string (strOfNums xs)) w) (h2 : (convert 25 9 v2).run Tryz.prog w = .ok (.string (strOfNums ys)) w) :
    Calls Tryz.prog 52 #[v1, v2] w fun e w' => e = .returned (.bool (Lib.bytesOf xs == Lib.bytesOf ys)) ∧ w' = w := Any.bytes_Equal Tryz.lays115 v1 v2 xs ys w h1 h2
end Go.Proofs

/- Package script over the library: numbers written and read. No condition. -/
namespace Go.Proofs.YtbfimimhgdkpaaaGreatDoor
open Go.RowKit

/-- A string of bytes. -/
abbrev strB (l : List UInt8) : ByteArray := ⟨l.toArray⟩
theorem strB_list (l : List UInt8) : (strB l).data.toList = l := by simp [strB]
theorem strB_of (s : ByteArray) : strB s.data.toList = s := by simp [strB]

/-- What the library's variables hold. -/
structure LibOk (w : World) : Prop where
  tab : Lib.TabIs Tryz.prog w "internal/strconv.uint64pow10" .u64 Lib.pow10Tab
  syn : ∃ tp p, w.var? Tryz.prog "strconv.ErrSyntax" = some #[.iface tp p]
  ran : ∃ tp p, w.var? Tryz.prog "strconv.ErrRange" = some #[.iface tp p]
theorem var_keep {w w' : World} {nm : String} {cs : Array Value} (h : w.var? Tryz.prog nm = some cs) (k : Kp w w') : w'.var? Tryz.prog nm = some cs := by
  unfold World.var? at h ⊢
  cases hg : Tryz.prog.globalNamed nm with
  | none => rw [hg] at h; cases h
  | some g =>
    rw [hg] at h
    simp only [Option.bind_some] at h ⊢
    cases hb : w.heap[g]? with
    | none => rw [hb] at h; cases h
    | some o =>
      rw [k.heap (Array.getElem?_eq_some_iff.1 hb).1]
      exact h
theorem LibOk.keep {w w' : World} (h : LibOk w) (k : Kp w w') : LibOk w' := by
  obtain ⟨a, ⟨t, p, b⟩, ⟨t2, p2, c⟩⟩ := h
  exact ⟨var_keep a k, ⟨t, p, var_keep b k⟩, ⟨t2, p2, var_keep c k⟩⟩

theorem kp_grow (w : World) (k : Nat) (os : Array Obj) : Kp w (Sort.grow (w.drewN k) os) :=
  ⟨rfl, rfl, rfl, by simp [Sort.grow], fun i hi => by
    unfold Sort.grow
    simp only [World.drewN]
    rw [Array.getElem?_append_left hi]⟩
theorem kp_bytes (w : World) (e : TypeId) (s : ByteArray) : Kp w (Lib.bytesWorld w e s) := Lib.bytesWorld_below w e s

theorem format_any (n : Int) (h0 : -9223372036854775808 ≤ n) (h1 : n ≤ 9223372036854775807) (w : World) (L : LibOk w) :
    Calls Tryz.prog 49 #[.int .i64 n, .int .i64 10] w fun e w' => e = .returned (.string (strB (Lib.itoa n))) ∧ Kp w w' := by
  refine (Tryz.strconv_FormatInt_10 n h0 h1 w L.tab).mono ?_
  rintro e w' ⟨rfl, k, os, rfl⟩
  exact ⟨rfl, kp_grow w k os⟩
theorem itoa_any (n : Int) (h0 : -9223372036854775808 ≤ n) (h1 : n ≤ 9223372036854775807) (w : World) (L : LibOk w) :
    Calls Tryz.prog 48 #[.int .i64 n] w fun e w' => e = .returned (.string (strB (Lib.itoa n))) ∧ Kp w w' := by
  refine (Tryz.strconv_Itoa n h0 h1 w L.tab).mono ?_
  rintro e w' ⟨rfl, k, os, rfl⟩
  exact ⟨rfl, kp_grow w k os⟩
theorem parse_ok (s : ByteArray) (hs : s.size ≤ 281474976710656) (n : Int) (h : Lib.parseIntB 64 s.data.toList = .ok n) (w : World) :
    Calls Tryz.prog 128 #[.string s, .int .i64 10, .int .i64 64] w fun e w' => e = .returned (.tuple #[.int .i64 n, .nilIface]) ∧ Kp w w' := by
  refine (Tryz.strconv_ParseInt_10_at64_ok s (by omega) n h w).mono ?_
  rintro e w' ⟨rfl, rfl | ⟨t, rfl⟩⟩
  · exact ⟨rfl, Kp.refl _⟩
  · exact ⟨rfl, kp_bytes _ _ _⟩
theorem parse_no (s : ByteArray) (hs : s.size ≤ 281474976710656) (h : ∀ n, Lib.parseIntB 64 s.data.toList ≠ .ok n) (w : World) (L : LibOk w) :
    Calls Tryz.prog 128 #[.string s, .int .i64 10, .int .i64 64] w fun e w' => (∃ n tp p, e = .returned (.tuple #[.int .i64 n, .iface tp p])) ∧ Kp w w' := by
  cases hp : Lib.parseIntB 64 s.data.toList with
  | ok n => exact absurd hp (h n)
  | range =>
    obtain ⟨tp, p, hv⟩ := L.ran
    refine (Tryz.strconv_ParseInt_10_at64_range_var s hs hp tp p w hv).mono ?_
    rintro e w' ⟨N, rfl, _, _, hb⟩
    exact ⟨⟨_, _, _, rfl⟩, hb⟩
  | _ =>
    obtain ⟨tp, p, hv⟩ := L.syn
    refine (Tryz.strconv_ParseInt_10_at64_syntax_var s hs (hp.trans (by decide +kernel)) tp p w hv).mono ?_
    rintro e w' ⟨N, rfl, _, _, hb⟩
    exact ⟨⟨_, _, _, rfl⟩, hb⟩

set_option maxRecDepth 100000 in
set_option maxHeartbeats 400000 in
theorem digits_int (n : Int) (h0 : -9223372036854775808 ≤ n) (h1 : n ≤ 9223372036854775807) (w : World) (L : LibOk w) :
    Calls Tryz.prog 126 #[.int .i64 n] w fun e w' => e = .returned (.string (strB (Lib.itoa n))) ∧ Kp w w' := by
  go_enter Tryz.func126, Tryz.ntmps126
  go_wp2_with fail
  refine (format_any n h0 h1 _ L).mono ?_
  rintro e w' ⟨rfl, hK⟩
  go_wp2_with fail
  go_ret
  exact ⟨rfl, hK⟩
set_option maxRecDepth 100000 in
set_option maxHeartbeats 400000 in
theorem digits_int64 (n : Int) (h0 : -9223372036854775808 ≤ n) (h1 : n ≤ 9223372036854775807) (w : World) (L : LibOk w) :
    Calls Tryz.prog 129 #[.int .i64 n] w fun e w' => e = .returned (.string (strB (Lib.itoa n))) ∧ Kp w w' := by
  go_enter Tryz.func129, Tryz.ntmps129
  go_wp2_with fail
  refine (format_any n h0 h1 _ L).mono ?_
  rintro e w' ⟨rfl, hK⟩
  go_wp2_with fail
  go_ret
  exact ⟨rfl, hK⟩

set_option maxRecDepth 100000 in
set_option maxHeartbeats 400000 in
theorem tell_a (b : Nat) (f : Ev) (fv : Value) (ok : EvOk f) (w : World) (L : LibOk w) (hb : w.cell? ⟨b, 0, none⟩ = some (.func (.func 87) #[] #[])) :
    Calls Tryz.prog 125 #[evV f fv, .pointer (some ⟨b, 0, none⟩)] w fun e w' => e = .returned (.string (strB (tellE .a f))) ∧ Kp w w' := by
  have hblt := World.block_lt_of_cell? w _ hb
  simp only at hblt
  have hne3 : ¬ b = w.heap.size := by omega
  have hK : ∀ o, Kp w (w.alloc o) := fun o => (Kp.refl w).alloc o
  go_enter Tryz.func125, Tryz.ntmps125
  go_wp2_with (first | (go_at_call 87; refine (of_a _ 0 _).mono ?_; rintro e w' ⟨rfl, rfl⟩) | (go_at_call 126; refine (digits_int f.a ok.a0 ok.a1 _ (L.keep (hK _))).mono ?_; rintro e w' ⟨rfl, hK1⟩))
  go_ret
  exact ⟨rfl, (hK _).trans hK1⟩

set_option maxRecDepth 100000 in
set_option maxHeartbeats 400000 in
theorem tell_b (b : Nat) (f : Ev) (fv : Value) (ok : EvOk f) (w : World) (L : LibOk w) (hb : w.cell? ⟨b, 0, none⟩ = some (.func (.func 88) #[] #[])) :
    Calls Tryz.prog 125 #[evV f fv, .pointer (some ⟨b, 0, none⟩)] w fun e w' => e = .returned (.string (strB (tellE .b f))) ∧ Kp w w' := by
  have hblt := World.block_lt_of_cell? w _ hb
  simp only at hblt
  have hne3 : ¬ b = w.heap.size := by omega
  have hK : ∀ o, Kp w (w.alloc o) := fun o => (Kp.refl w).alloc o
  go_enter Tryz.func125, Tryz.ntmps125
  go_wp2_with (first | (go_at_call 88; refine (of_b _ 0 _).mono ?_; rintro e w' ⟨rfl, rfl⟩) | (go_at_call 126; refine (digits_int f.b ok.b0 ok.b1 _ (L.keep (hK _))).mono ?_; rintro e w' ⟨rfl, hK1⟩))
  go_ret
  exact ⟨rfl, (hK _).trans hK1⟩

set_option maxRecDepth 100000 in
set_option maxHeartbeats 400000 in
theorem tell_d (b : Nat) (f : Ev) (fv : Value) (ok : EvOk f) (w : World) (L : LibOk w) (hb : w.cell? ⟨b, 0, none⟩ = some (.func (.func 90) #[] #[])) :
    Calls Tryz.prog 131 #[evV f fv, .pointer (some ⟨b, 0, none⟩)] w fun e w' => e = .returned (.string (strB (tellE .d f))) ∧ Kp w w' := by
  have hblt := World.block_lt_of_cell? w _ hb
  simp only at hblt
  have hne3 : ¬ b = w.heap.size := by omega
  have hK : ∀ o, Kp w (w.alloc o) := fun o => (Kp.refl w).alloc o
  go_enter Tryz.func131, Tryz.ntmps131
  go_wp2_with (first | (go_at_call 90; refine (of_d _ 0 _).mono ?_; rintro e w' ⟨rfl, rfl⟩) | (go_at_call 129; refine (digits_int64 f.draw ok.d0 ok.d1 _ (L.keep (hK _))).mono ?_; rintro e w' ⟨rfl, hK1⟩))
  go_ret
  exact ⟨rfl, (hK _).trans hK1⟩

set_option maxRecDepth 100000 in
set_option maxHeartbeats 800000 in
theorem read_a (g b : Nat) (T : TypeId) (cs : Array Value) (h3 : 1 < cs.size) (s : ByteArray) (hs : s.size ≤ 281474976710656) (w : World) (L : LibOk w) (B : Blk w g T cs) (hbg : ¬ b = g) (hb : w.cell? ⟨b, 0, none⟩ = some (.func (.func 87) #[] #[])) :
    Calls Tryz.prog 127 #[.pointer (some ⟨g, 0, none⟩), .string s, .pointer (some ⟨b, 0, none⟩)] w fun e w' =>
      (∀ n, numP s.data.toList = some n → e = .returned (.tuple #[]) ∧ Blk w' g T (cs.setIfInBounds 1 (.int .i64 n)) ∧ Only [g] w w') ∧ (numP s.data.toList = none → e = gaveS 260 ∧ Kp w w') := by
  by_cases hp : ∃ n, Lib.parseIntB 64 s.data.toList = .ok n
  · obtain ⟨n, hp⟩ := hp
    obtain ⟨b0, b1⟩ := Lib.parseIntB_bounds hp
    have n0 : -9223372036854775808 ≤ n := by simpa using b0
    have n1 : n ≤ 9223372036854775807 := by have h2 := b1; rw [show ((2 ^ (64 - 1) : Nat) : Int) = 9223372036854775808 from rfl] at h2; omega
    clear b0 b1
    have hnn : (n == n) = true := by simp
    by_cases he : Lib.itoa n = s.data.toList
    · have hv : numP s.data.toList = some n := by unfold numP; rw [hp]; simp [he]
      have Hv := Lib.hid hv; clear hv
      have hes : strB (Lib.itoa n) = s := (congrArg strB he).trans (strB_of s)
      clear he
      go_enter Tryz.func127, Tryz.ntmps127
      go_wp2_with fail
      refine (parse_ok s hs n hp _).mono ?_
      rintro e w1 ⟨rfl, hK1⟩
      have L1 := L.keep hK1
      have B1 := B.keep hK1
      have c1 : w1.cell? ⟨g, 1, none⟩ = some cs[1] := by rw [B1.cell 1, Array.getElem?_eq_getElem h3]
      have f1 := B1.frozen 1
      have hb1 := hK1.cell hb
      go_wp2_with (first | (go_at_call 45; refine (need_ok _ _).mono ?_; rintro e w' ⟨rfl, rfl⟩))
      refine (digits_int64 n n0 n1 _ L1).mono ?_
      rintro e w2 ⟨rfl, hK2⟩
      rw [hes]
      have B2 := B1.keep hK2
      have c2 : w2.cell? ⟨g, 1, none⟩ = some cs[1] := by rw [B2.cell 1, Array.getElem?_eq_getElem h3]
      have f2 := B2.frozen 1
      have hb2 := hK2.cell hb1
      go_wp2_with (first | (go_at_call 45; refine (need_ok _ _).mono ?_; rintro e w' ⟨rfl, rfl⟩) | (go_at_call 87; refine (of_a _ 0 _).mono ?_; rintro e w' ⟨rfl, rfl⟩))
      go_end0
      refine ⟨fun m hm => ?_, fun hm => ?_⟩
      · rw [Hv.out, Option.some.injEq] at hm
        subst hm
        exact ⟨rfl, B2.set_ 1 _, (Only.of_kp (hK1.trans hK2)).setCell (.inl (by simp)) _⟩
      · rw [Hv.out] at hm; cases hm
    · have hv : numP s.data.toList = none := by unfold numP; rw [hp]; simp [he]
      have Hv := Lib.hid hv; clear hv
      have hes : (Lib.itoa n == s.toList) = false := by rw [Lib.toList_data]; simpa using he
      go_enter Tryz.func127, Tryz.ntmps127
      go_wp2_with fail
      refine (parse_ok s hs n hp _).mono ?_
      rintro e w1 ⟨rfl, hK1⟩
      have L1 := L.keep hK1
      go_wp2_with (first | (go_at_call 45; refine (need_ok _ _).mono ?_; rintro e w' ⟨rfl, rfl⟩))
      refine (digits_int64 n n0 n1 _ L1).mono ?_
      rintro e w2 ⟨rfl, hK2⟩
      go_wp2_with (first | (go_at_call 45; refine (need_no _ _).mono ?_; rintro e w' ⟨rfl, rfl⟩))
      refine ⟨rfl, fun m hm => ?_, fun hm => ⟨rfl, hK1.trans hK2⟩⟩
      rw [Hv.out] at hm; cases hm
  · have hp' : ∀ n, Lib.parseIntB 64 s.data.toList ≠ .ok n := fun n h => hp ⟨n, h⟩
    have hv : numP s.data.toList = none := by
      unfold numP
      cases h : Lib.parseIntB 64 s.data.toList with
      | ok n => exact absurd h (hp' n)
      | range => rfl
      | _ => rfl
    have Hv := Lib.hid hv; clear hv hp
    go_enter Tryz.func127, Tryz.ntmps127
    go_wp2_with fail
    refine (parse_no s hs hp' _ L).mono ?_
    rintro e w1 ⟨⟨n, tp, p, rfl⟩, hK1⟩
    go_wp2_with (first | (go_at_call 45; refine (need_no _ _).mono ?_; rintro e w' ⟨rfl, rfl⟩))
    refine ⟨rfl, fun m hm => ?_, fun hm => ⟨rfl, hK1⟩⟩
    rw [Hv.out] at hm; cases hm

set_option maxRecDepth 100000 in
set_option maxHeartbeats 800000 in
theorem read_b (g b : Nat) (T : TypeId) (cs : Array Value) (h3 : 2 < cs.size) (s : ByteArray) (hs : s.size ≤ 281474976710656) (w : World) (L : LibOk w) (B : Blk w g T cs) (hbg : ¬ b = g) (hb : w.cell? ⟨b, 0, none⟩ = some (.func (.func 88) #[] #[])) :
    Calls Tryz.prog 127 #[.pointer (some ⟨g, 0, none⟩), .string s, .pointer (some ⟨b, 0, none⟩)] w fun e w' =>
      (∀ n, numP s.data.toList = some n → e = .returned (.tuple #[]) ∧ Blk w' g T (cs.setIfInBounds 2 (.int .i64 n)) ∧ Only [g] w w') ∧ (numP s.data.toList = none → e = gaveS 260 ∧ Kp w w') := by
  by_cases hp : ∃ n, Lib.parseIntB 64 s.data.toList = .ok n
  · obtain ⟨n, hp⟩ := hp
    obtain ⟨b0, b1⟩ := Lib.parseIntB_bounds hp
    have n0 : -9223372036854775808 ≤ n := by simpa using b0
    have n1 : n ≤ 9223372036854775807 := by have h2 := b1; rw [show ((2 ^ (64 - 1) : Nat) : Int) = 9223372036854775808 from rfl] at h2; omega
    clear b0 b1
    have hnn : (n == n) = true := by simp
    by_cases he : Lib.itoa n = s.data.toList
    · have hv : numP s.data.toList = some n := by unfold numP; rw [hp]; simp [he]
      have Hv := Lib.hid hv; clear hv
      have hes : strB (Lib.itoa n) = s := (congrArg strB he).trans (strB_of s)
      clear he
      go_enter Tryz.func127, Tryz.ntmps127
      go_wp2_with fail
      refine (parse_ok s hs n hp _).mono ?_
      rintro e w1 ⟨rfl, hK1⟩
      have L1 := L.keep hK1
      have B1 := B.keep hK1
      have c1 : w1.cell? ⟨g, 2, none⟩ = some cs[2] := by rw [B1.cell 2, Array.getElem?_eq_getElem h3]
      have f1 := B1.frozen 2
      have hb1 := hK1.cell hb
      go_wp2_with (first | (go_at_call 45; refine (need_ok _ _).mono ?_; rintro e w' ⟨rfl, rfl⟩))
      refine (digits_int64 n n0 n1 _ L1).mono ?_
      rintro e w2 ⟨rfl, hK2⟩
      rw [hes]
      have B2 := B1.keep hK2
      have c2 : w2.cell? ⟨g, 2, none⟩ = some cs[2] := by rw [B2.cell 2, Array.getElem?_eq_getElem h3]
      have f2 := B2.frozen 2
      have hb2 := hK2.cell hb1
      go_wp2_with (first | (go_at_call 45; refine (need_ok _ _).mono ?_; rintro e w' ⟨rfl, rfl⟩) | (go_at_call 88; refine (of_b _ 0 _).mono ?_; rintro e w' ⟨rfl, rfl⟩))
      go_end0
      refine ⟨fun m hm => ?_, fun hm => ?_⟩
      · rw [Hv.out, Option.some.injEq] at hm
        subst hm
        exact ⟨rfl, B2.set_ 2 _, (Only.of_kp (hK1.trans hK2)).setCell (.inl (by simp)) _⟩
      · rw [Hv.out] at hm; cases hm
    · have hv : numP s.data.toList = none := by unfold numP; rw [hp]; simp [he]
      have Hv := Lib.hid hv; clear hv
      have hes : (Lib.itoa n == s.toList) = false := by rw [Lib.toList_data]; simpa using he
      go_enter Tryz.func127, Tryz.ntmps127
      go_wp2_with fail
      refine (parse_ok s hs n hp _).mono ?_
      rintro e w1 ⟨rfl, hK1⟩
      have L1 := L.keep hK1
      go_wp2_with (first | (go_at_call 45; refine (need_ok _ _).mono ?_; rintro e w' ⟨rfl, rfl⟩))
      refine (digits_int64 n n0 n1 _ L1).mono ?_
      rintro e w2 ⟨rfl, hK2⟩
      go_wp2_with (first | (go_at_call 45; refine (need_no _ _).mono ?_; rintro e w' ⟨rfl, rfl⟩))
      refine ⟨rfl, fun m hm => ?_, fun hm => ⟨rfl, hK1.trans hK2⟩⟩
      rw [Hv.out] at hm; cases hm
  · have hp' : ∀ n, Lib.parseIntB 64 s.data.toList ≠ .ok n := fun n h => hp ⟨n, h⟩
    have hv : numP s.data.toList = none := by
      unfold numP
      cases h : Lib.parseIntB 64 s.data.toList with
      | ok n => exact absurd h (hp' n)
      | range => rfl
      | _ => rfl
    have Hv := Lib.hid hv; clear hv hp
    go_enter Tryz.func127, Tryz.ntmps127
    go_wp2_with fail
    refine (parse_no s hs hp' _ L).mono ?_
    rintro e w1 ⟨⟨n, tp, p, rfl⟩, hK1⟩
    go_wp2_with (first | (go_at_call 45; refine (need_no _ _).mono ?_; rintro e w' ⟨rfl, rfl⟩))
    refine ⟨rfl, fun m hm => ?_, fun hm => ⟨rfl, hK1⟩⟩
    rw [Hv.out] at hm; cases hm

set_option maxRecDepth 100000 in
set_option maxHeartbeats 800000 in
theorem read_d (g b : Nat) (T : TypeId) (cs : Array Value) (h3 : 4 < cs.size) (s : ByteArray) (hs : s.size ≤ 281474976710656) (w : World) (L : LibOk w) (B : Blk w g T cs) (hbg : ¬ b = g) (hb : w.cell? ⟨b, 0, none⟩ = some (.func (.func 90) #[] #[])) :
    Calls Tryz.prog 132 #[.pointer (some ⟨g, 0, none⟩), .string s, .pointer (some ⟨b, 0, none⟩)] w fun e w' =>
      (∀ n, numP s.data.toList = some n → e = .returned (.tuple #[]) ∧ Blk w' g T (cs.setIfInBounds 4 (.int .i64 n)) ∧ Only [g] w w') ∧ (numP s.data.toList = none → e = gaveS 260 ∧ Kp w w') := by
  by_cases hp : ∃ n, Lib.parseIntB 64 s.data.toList = .ok n
  · obtain ⟨n, hp⟩ := hp
    obtain ⟨b0, b1⟩ := Lib.parseIntB_bounds hp
    have n0 : -9223372036854775808 ≤ n := by simpa using b0
    have n1 : n ≤ 9223372036854775807 := by have h2 := b1; rw [show ((2 ^ (64 - 1) : Nat) : Int) = 9223372036854775808 from rfl] at h2; omega
    clear b0 b1
    have hnn : (n == n) = true := by simp
    by_cases he : Lib.itoa n = s.data.toList
    · have hv : numP s.data.toList = some n := by unfold numP; rw [hp]; simp [he]
      have Hv := Lib.hid hv; clear hv
      have hes : strB (Lib.itoa n) = s := (congrArg strB he).trans (strB_of s)
      clear he
      go_enter Tryz.func132, Tryz.ntmps132
      go_wp2_with fail
      refine (parse_ok s hs n hp _).mono ?_
      rintro e w1 ⟨rfl, hK1⟩
      have L1 := L.keep hK1
      have B1 := B.keep hK1
      have c1 : w1.cell? ⟨g, 4, none⟩ = some cs[4] := by rw [B1.cell 4, Array.getElem?_eq_getElem h3]
      have f1 := B1.frozen 4
      have hb1 := hK1.cell hb
      go_wp2_with (first | (go_at_call 45; refine (need_ok _ _).mono ?_; rintro e w' ⟨rfl, rfl⟩))
      refine (digits_int64 n n0 n1 _ L1).mono ?_
      rintro e w2 ⟨rfl, hK2⟩
      rw [hes]
      have B2 := B1.keep hK2
      have c2 : w2.cell? ⟨g, 4, none⟩ = some cs[4] := by rw [B2.cell 4, Array.getElem?_eq_getElem h3]
      have f2 := B2.frozen 4
      have hb2 := hK2.cell hb1
      go_wp2_with (first | (go_at_call 45; refine (need_ok _ _).mono ?_; rintro e w' ⟨rfl, rfl⟩) | (go_at_call 90; refine (of_d _ 0 _).mono ?_; rintro e w' ⟨rfl, rfl⟩))
      go_end0
      refine ⟨fun m hm => ?_, fun hm => ?_⟩
      · rw [Hv.out, Option.some.injEq] at hm
        subst hm
        exact ⟨rfl, B2.set_ 4 _, (Only.of_kp (hK1.trans hK2)).setCell (.inl (by simp)) _⟩
      · rw [Hv.out] at hm; cases hm
    · have hv : numP s.data.toList = none := by unfold numP; rw [hp]; simp [he]
      have Hv := Lib.hid hv; clear hv
      have hes : (Lib.itoa n == s.toList) = false := by rw [Lib.toList_data]; simpa using he
      go_enter Tryz.func132, Tryz.ntmps132
      go_wp2_with fail
      refine (parse_ok s hs n hp _).mono ?_
      rintro e w1 ⟨rfl, hK1⟩
      have L1 := L.keep hK1
      go_wp2_with (first | (go_at_call 45; refine (need_ok _ _).mono ?_; rintro e w' ⟨rfl, rfl⟩))
      refine (digits_int64 n n0 n1 _ L1).mono ?_
      rintro e w2 ⟨rfl, hK2⟩
      go_wp2_with (first | (go_at_call 45; refine (need_no _ _).mono ?_; rintro e w' ⟨rfl, rfl⟩))
      refine ⟨rfl, fun m hm => ?_, fun hm => ⟨rfl, hK1.trans hK2⟩⟩
      rw [Hv.out] at hm; cases hm
  · have hp' : ∀ n, Lib.parseIntB 64 s.data.toList ≠ .ok n := fun n h => hp ⟨n, h⟩
    have hv : numP s.data.toList = none := by
      unfold numP
      cases h : Lib.parseIntB 64 s.data.toList with
      | ok n => exact absurd h (hp' n)
      | range => rfl
      | _ => rfl
    have Hv := Lib.hid hv; clear hv hp
    go_enter Tryz.func132, Tryz.ntmps132
    go_wp2_with fail
    refine (parse_no s hs hp' _ L).mono ?_
    rintro e w1 ⟨⟨n, tp, p, rfl⟩, hK1⟩
    go_wp2_with (first | (go_at_call 45; refine (need_no _ _).mono ?_; rintro e w' ⟨rfl, rfl⟩))
    refine ⟨rfl, fun m hm => ?_, fun hm => ⟨rfl, hK1⟩⟩
    rw [Hv.out] at hm; cases hm

set_option maxRecDepth 100000 in
set_option maxHeartbeats 800000 in
theorem tell_turn (f : Ev) (fv : Value) (w : World) : Calls Tryz.prog 134 #[evV f fv] w fun e w' => e = .returned (.string (strB (tellE .c f))) ∧ Kp w w' := by
  by_cases h : f.c.tmod 2 = 0
  · have hb : (f.c.tmod 2 == 0) = true := by simpa using h
    have H := Lib.hid (show strB (tellE .c f) = strB downS by simp only [tellE]; rw [if_neg (by simpa using h)]); clear h
    go_enter Tryz.func134, Tryz.ntmps134
    go_wp2
    go_ret
    exact ⟨by rw [H.out]; rfl, (Kp.refl _).alloc _⟩
  · have hb : (f.c.tmod 2 == 0) = false := by simpa using h
    have H := Lib.hid (show strB (tellE .c f) = strB upS by simp only [tellE]; rw [if_pos (by simpa using h)]); clear h
    go_enter Tryz.func134, Tryz.ntmps134
    go_wp2
    go_ret
    exact ⟨by rw [H.out]; rfl, (Kp.refl _).alloc _⟩
set_option maxRecDepth 100000 in
set_option maxHeartbeats 800000 in
theorem read_turn (g : Nat) (T : TypeId) (cs : Array Value) (h3 : 3 < cs.size) (s : ByteArray) (w : World) (B : Blk w g T cs) :
    Calls Tryz.prog 135 #[.pointer (some ⟨g, 0, none⟩), .string s] w fun e w' =>
      (s.data.toList = upS → e = .returned (.tuple #[]) ∧ Blk w' g T (cs.setIfInBounds 3 (.int .i64 1)) ∧ Only [g] w w') ∧
      (s.data.toList ≠ upS → s.data.toList = downS → e = .returned (.tuple #[]) ∧ Kp w w') ∧ (s.data.toList ≠ upS → s.data.toList ≠ downS → e = gaveS 260 ∧ Kp w w') := by
  have c3 : w.cell? ⟨g, 3, none⟩ = some cs[3] := by rw [B.cell 3, Array.getElem?_eq_getElem h3]
  have f3 := B.frozen 3
  by_cases hu : s.data.toList = upS
  · have hb : (s.toList == [117, 112]) = true := by rw [Lib.toList_data, hu]; rfl
    have Hu := Lib.hid hu; clear hu
    go_enter Tryz.func135, Tryz.ntmps135
    go_wp2_with (first | (go_at_call 45; refine (need_ok _ _).mono ?_; rintro e w' ⟨rfl, rfl⟩))
    go_end0
    exact ⟨fun _ => ⟨rfl, B.set_ 3 _, (Only.refl _ _).setCell (.inl (by simp)) _⟩, fun h => absurd Hu.out h, fun h => absurd Hu.out h⟩
  · have hb : (s.toList == [117, 112]) = false := by rw [Lib.toList_data]; simpa [upS] using hu
    have Hu := Lib.hid hu; clear hu
    by_cases hd : s.data.toList = downS
    · have hb2 : (s.toList == [100, 111, 119, 110]) = true := by rw [Lib.toList_data, hd]; rfl
      have Hd := Lib.hid hd; clear hd
      go_enter Tryz.func135, Tryz.ntmps135
      go_wp2_with (first | (go_at_call 45; refine (need_ok _ _).mono ?_; rintro e w' ⟨rfl, rfl⟩))
      go_end0
      exact ⟨fun h => absurd h Hu.out, fun _ _ => ⟨rfl, Kp.refl _⟩, fun _ h => absurd Hd.out h⟩
    · have hb2 : (s.toList == [100, 111, 119, 110]) = false := by rw [Lib.toList_data]; simpa [downS] using hd
      have Hd := Lib.hid hd; clear hd
      go_enter Tryz.func135, Tryz.ntmps135
      go_wp2_with (first | (go_at_call 45; refine (need_no _ _).mono ?_; rintro e w' ⟨rfl, rfl⟩))
      exact ⟨rfl, fun h => absurd h Hu.out, fun _ h => absurd h Hd.out, fun _ _ => ⟨rfl, Kp.refl _⟩⟩
end Go.Proofs.YtbfimimhgdkpaaaGreatDoor

/- An address's text, by the program and by the reference. No condition. -/
namespace Go.Proofs.YtbfimimhgdkpaaaGreatDoor
open Go.RowKit

def byteE (b : UInt8) : List Value := [.int .u8 (b.toNat : Int)]
theorem byteE_len (b : UInt8) : (byteE b).length = 1 := rfl
theorem flat_byte (l : List UInt8) : l.flatMap byteE = Lib.byteCells l := by
  induction l with
  | nil => rfl
  | cons b l ih => rw [List.flatMap_cons, ih]; rfl
theorem EByte : ElemOf Tryz.prog 25 5 (.int .u8 0) 1 1 := ⟨Tryz.underlying25, by kernel_rfl, rfl, by decide⟩
theorem own_string {w : World} {B : Nat} {v : Value} {l : List UInt8} (h : Own w B 5 1 byteE v l) : (convert 25 9 v).run Tryz.prog w = .ok (.string (strB l)) w := by
  unfold Own at h
  rw [flat_byte] at h
  rcases h.2 with ⟨rfl, h0⟩ | ⟨g, cap, cur, rfl, _, _, _, _, _, _⟩
  · have : l = [] := List.length_eq_zero_iff.1 h0
    subst this
    exact run_convert_bytes_nil w 25 5 Tryz.underlying25 Tryz.underlying5 0 0 9 Tryz.underlying9
  · exact run_convert_bytes_back (P := Tryz.prog) w 25 9 5 ⟨g, 0, none⟩ cap l Tryz.underlying25 Tryz.underlying5 Tryz.underlying9 (fun j hj => h.cells (g := g) rfl j _ (by simp [Lib.byteCells, hj]))

theorem appuint_any (B : Nat) (u : Nat) (hu : u < 18446744073709551616) (v : Value) (l : List UInt8) (hl : l.length ≤ 1000000) (w : World) (L : LibOk w) (h : Own w B 5 1 byteE v l) (hB : B ≤ w.heap.size) :
    Calls Tryz.prog 103 #[v, .int .u64 u, .int .i64 10] w fun e w' => ∃ v', e = .returned v' ∧ Own w' B 5 1 byteE v' (l ++ Lib.decDigits u) ∧ Below B w w' := by
  unfold Own at h
  rw [flat_byte] at h
  go_enter Tryz.func103, Tryz.ntmps103
  go_wp2_with (first | (go_at_call 159; refine (Tryz.internal_strconv_AppendUint_10 B l.length u hu v _ w h hB (by omega) L.tab).mono ?_; rintro e w' ⟨v', rfl, ho, hb, _⟩))
  go_ret
  refine ⟨v', rfl, ?_, hb⟩
  unfold Own
  rw [flat_byte, List.length_append]
  have : Lib.byteCells (l ++ Lib.decDigits u) = Lib.byteCells l ++ Lib.byteCells (Lib.decDigits u) := by simp [Lib.byteCells]
  rw [this]
  exact ho

def partA (a : Nat) : Nat → Nat
  | 0 => a / 16777216 | 1 => a / 65536 % 256 | 2 => a / 256 % 256 | _ => a % 256
def preA (a : Nat) : Nat → List UInt8
  | 0 => []
  | k + 1 => (preA a k ++ (if k = 0 then [] else [46])) ++ Lib.decDigits (partA a k)
theorem preA_4 (a : Nat) : preA a 4 = textA a := by simp [preA, partA, textA]
theorem partA_lt {a : Nat} (ha : a < 4294967296) (k : Nat) : partA a k < 256 := by
  rcases k with _ | _ | _ | k <;> simp only [partA] <;> omega
theorem preA_len {a : Nat} (ha : a < 4294967296) : ∀ k, (preA a k).length ≤ 4 * k
  | 0 => by simp [preA]
  | k + 1 => by
    have h1 := preA_len ha k
    have h2 := digits_len (k := 3) (by omega) (partA a k) (by have := partA_lt ha k; omega)
    simp only [preA, List.length_append]
    split <;> simp <;> omega
abbrev partsV (a : Nat) : Value := .agg #[.int .u8 (partA a 0 : Int), .int .u8 (partA a 1 : Int), .int .u8 (partA a 2 : Int), .int .u8 (partA a 3 : Int)]
theorem idx_at (x y z u : Value) (k : Nat) (hk : k < 4) (w : World) : (Instr.index 172 (.agg #[x, y, z, u]) (.int .i64 (k : Int))).run Tryz.prog w = .ok (#[x, y, z, u].getD k undef) w := by
  have : k = 0 ∨ k = 1 ∨ k = 2 ∨ k = 3 := by omega
  rcases this with rfl | rfl | rfl | rfl
  · have : (Instr.index 172 (.agg #[x, y, z, u]) (.int .i64 0)).run Tryz.prog w = .ok x w := by kernel_rfl
    exact this
  · have : (Instr.index 172 (.agg #[x, y, z, u]) (.int .i64 1)).run Tryz.prog w = .ok y w := by kernel_rfl
    exact this
  · have : (Instr.index 172 (.agg #[x, y, z, u]) (.int .i64 2)).run Tryz.prog w = .ok z w := by kernel_rfl
    exact this
  · have : (Instr.index 172 (.agg #[x, y, z, u]) (.int .i64 3)).run Tryz.prog w = .ok u w := by kernel_rfl
    exact this
theorem idx_part (a k : Nat) (hk : k < 4) (w : World) : (Instr.index 172 (partsV a) (.int .i64 (k : Int))).run Tryz.prog w = .ok (.int .u8 (partA a k : Int)) w := by
  rw [idx_at _ _ _ _ k hk]
  have : k = 0 ∨ k = 1 ∨ k = 2 ∨ k = 3 := by omega
  rcases this with rfl | rfl | rfl | rfl <;> rfl

set_option maxRecDepth 100000 in
set_option maxHeartbeats 1000000 in
theorem parts4_any (a : Nat) (w : World) (ha : a < 4294967296) : Calls Tryz.prog 102 #[.int .u32 a] w fun e w' => e = .returned (partsV a) ∧ Kp w w' := by
  go_enter Tryz.func102, Tryz.ntmps102
  go_wp2_with fail
  all_goals first
    | omega
    | exact bodyPost_ret (v := .agg #[.int .u8 ((a : Int) / 16777216), .int .u8 ((a : Int) / 65536 % 256), .int .u8 ((a : Int) / 256 % 256), .int .u8 ((a : Int) % 256)]) (by simp [results, Tryz.results102, go_sem]) rfl ⟨rfl, (Kp.refl _).alloc _⟩

set_option maxRecDepth 100000 in
set_option maxHeartbeats 1000000 in
theorem addr_text (a : Nat) (ha : a < 4294967296) (w : World) (L : LibOk w) :
    Calls Tryz.prog 58 #[.int .u32 a] w fun e w' => e = .returned (.string (strB (textA a))) ∧ Kp w w' := by
  go_enter Tryz.func58, Tryz.ntmps58
  go_wp2_with (first | (go_at_call 102; refine (parts4_any a _ ha).mono ?_; rintro e w1 ⟨rfl, hK1⟩))
  go_loopw [3, 8] (fun v i wr => ∃ k : Nat, k ≤ 4 ∧ i = .int .i64 k ∧ Own wr w.heap.size 5 1 byteE v (preA a k) ∧ Kp w wr) (fun _ i _ => 4 - (intOf i).toNat)
  case atStart => exact ⟨0, by omega, rfl, Own.nil _ _ _ _ _, hK1⟩
  case round =>
    obtain ⟨k, hk, rfl, hown, hK⟩ := hrel
    have Lr := L.keep hK
    have hsz := hK.size
    have hlen := preA_len ha k
    by_cases hlt : k < 4
    · have hx := idx_part a k hlt
      have hp := partA_lt ha k
      rcases Nat.eq_zero_or_pos k with h0 | h0
      · subst h0
        have hx0 : ∀ w, (Instr.index 172 (partsV a) (.int .i64 0)).run Tryz.prog w = .ok (.int .u8 (partA a 0 : Int)) w := hx
        go_wp2_with fail
        refine (appuint_any w.heap.size (partA a 0) (by omega) _ (preA a 0) (by omega) _ Lr hown hsz).mono ?_
        rintro e w' ⟨v', rfl, ho, hb⟩
        go_wp2_with fail
        go_roundw
        case rel => exact ⟨1, by omega, rfl, ho, Below.trans hK hb⟩
        case measure => simp [intOf]
      · have hgt : (0 : Int) < (k : Int) := by omega
        have hne : ¬ k = 0 := by omega
        have Hs := Lib.hid (show preA a (k + 1) = (preA a k ++ [46]) ++ Lib.decDigits (partA a k) by simp only [preA]; rw [if_neg hne])
        clear hne
        go_wp2_with (first | (at_builtin; go_must (refine wpList_appx EByte rfl _ _ rfl (46 : UInt8) rfl hown hK (Nat.le_refl _) hsz rfl rfl rfl rfl rfl (by omega) ?_); intro v2 w2 hown2 hK2 hg2; have L2 := L.keep hK2; have hsz2 := hK2.size))
        refine (appuint_any w.heap.size (partA a k) (by omega) _ (preA a k ++ [46]) (by simp; omega) _ L2 hown2 hsz2).mono ?_
        rintro e w' ⟨v', rfl, ho, hb⟩
        go_wp2_with fail
        go_roundw
        case rel => exact ⟨k + 1, by omega, by go_num, by rw [Hs.out]; exact ho, Below.trans hK2 hb⟩
        case measure => simp [intOf]; omega
    · obtain rfl : k = 4 := by omega
      have hcv := own_string hown
      rw [preA_4] at hcv
      go_wp2
      go_ret
      exact ⟨rfl, hK⟩

theorem strB_app (l m : List UInt8) : strB l ++ strB m = strB (l ++ m) := by
  apply ByteArray.ext
  simp [strB]

set_option maxRecDepth 100000 in
set_option maxHeartbeats 1000000 in
theorem rparts4_any (a : Nat) (w : World) (ha : a < 4294967296) : Calls Tryz.prog 96 #[.int .u32 a] w fun e w' => e = .returned (.agg #[.int .i64 (partA a 0 : Int), .int .i64 (partA a 1 : Int), .int .i64 (partA a 2 : Int), .int .i64 (partA a 3 : Int)]) ∧ Kp w w' := by
  go_enter Tryz.func96, Tryz.ntmps96
  go_wp2_with fail
  exact bodyPost_ret (v := .agg #[.int .i64 ((a : Int) / 16777216), .int .i64 ((a : Int) / 65536 % 256), .int .i64 ((a : Int) / 256 % 256), .int .i64 ((a : Int) % 256)]) (by simp [results, Tryz.results96, go_sem]) rfl ⟨rfl, (Kp.refl _).alloc _⟩

theorem add_fact {x y : ByteArray} {n m : Nat} (hx : x.size ≤ n) (hy : y.size ≤ m) (h : n + m ≤ 1000000000000) :
    ∃ t, t = x ++ y ∧ (∀ w, (Op.stringOp .add x y).run Tryz.prog w = .ok (.string t) w) ∧ t.size ≤ n + m :=
  ⟨_, rfl, fun w => run_string_add_sum w x y (by omega), by rw [ByteArray.size_append]; omega⟩

set_option maxRecDepth 100000 in
set_option maxHeartbeats 2000000 in
theorem ref01_text (a : Nat) (ha : a < 4294967296) (w : World) (L : LibOk w) :
    Calls Tryz.prog 50 #[.int .u32 a] w fun e w' => e = .returned (.string (strB (textA a))) ∧ Kp w w' := by
  have h0 := partA_lt ha 0
  have h1 := partA_lt ha 1
  have h2 := partA_lt ha 2
  have h3 := partA_lt ha 3
  have l0 := digits_len (k := 3) (by omega) (partA a 0) (by omega)
  have l1 := digits_len (k := 3) (by omega) (partA a 1) (by omega)
  have l2 := digits_len (k := 3) (by omega) (partA a 2) (by omega)
  have l3 := digits_len (k := 3) (by omega) (partA a 3) (by omega)
  have it : ∀ k, Lib.itoa ((partA a k : Nat) : Int) = Lib.decDigits (partA a k) := fun k => Lib.itoa_nonneg _
  obtain ⟨s0, e0⟩ : ∃ s, s = strB (Lib.decDigits (partA a 0)) := ⟨_, rfl⟩
  obtain ⟨s1, e1⟩ : ∃ s, s = strB (Lib.decDigits (partA a 1)) := ⟨_, rfl⟩
  obtain ⟨s2, e2⟩ : ∃ s, s = strB (Lib.decDigits (partA a 2)) := ⟨_, rfl⟩
  obtain ⟨s3, e3⟩ : ∃ s, s = strB (Lib.decDigits (partA a 3)) := ⟨_, rfl⟩
  have z0 : s0.size ≤ 3 := by rw [e0]; exact l0
  have z1 : s1.size ≤ 3 := by rw [e1]; exact l1
  have z2 : s2.size ≤ 3 := by rw [e2]; exact l2
  have z3 : s3.size ≤ 3 := by rw [e3]; exact l3
  obtain ⟨t1, f1, q1, y1⟩ := add_fact (n := 3) (m := 1) z0 (show (⟨#[46]⟩ : ByteArray).size ≤ 1 by decide) (by omega)
  obtain ⟨t2, f2, q2, y2⟩ := add_fact y1 z1 (by omega)
  obtain ⟨t3, f3, q3, y3⟩ := add_fact y2 (show (⟨#[46]⟩ : ByteArray).size ≤ 1 by decide) (by omega)
  obtain ⟨t4, f4, q4, y4⟩ := add_fact y3 z2 (by omega)
  obtain ⟨t5, f5, q5, y5⟩ := add_fact y4 (show (⟨#[46]⟩ : ByteArray).size ≤ 1 by decide) (by omega)
  obtain ⟨t6, f6, q6, y6⟩ := add_fact y5 z3 (by omega)
  have Ht : Hid (t6 = strB (textA a)) := by
    refine Lib.hid ?_
    have ed : (⟨#[46]⟩ : ByteArray) = strB [46] := rfl
    rw [f6, f5, f4, f3, f2, f1, e0, e1, e2, e3, ed]
    simp only [strB_app]
    simp [partA, textA]
  clear y1 y2 y3 y4 y5 y6 f1 f2 f3 f4 f5 f6 z0 z1 z2 z3 l0 l1 l2 l3
  have E0 := Lib.hid e0; have E1 := Lib.hid e1; have E2 := Lib.hid e2; have E3 := Lib.hid e3
  clear e0 e1 e2 e3
  go_enter Tryz.func50, Tryz.ntmps50
  go_wp2_with fail
  refine (rparts4_any a _ ha).mono ?_
  rintro e w1 ⟨rfl, hK1⟩
  go_wp2_with fail
  have hKa : Kp w1 (w1.alloc (.cells #[.int .i64 (partA a 0 : Int), .int .i64 (partA a 1 : Int), .int .i64 (partA a 2 : Int), .int .i64 (partA a 3 : Int)] 159)) := (Kp.refl w1).alloc _
  obtain ⟨W, hW, BW⟩ : ∃ W, w1.alloc (.cells #[.int .i64 (partA a 0 : Int), .int .i64 (partA a 1 : Int), .int .i64 (partA a 2 : Int), .int .i64 (partA a 3 : Int)] 159) = W ∧ Blk W w1.heap.size 159 #[.int .i64 (partA a 0 : Int), .int .i64 (partA a 1 : Int), .int .i64 (partA a 2 : Int), .int .i64 (partA a 3 : Int)] := ⟨_, rfl, Blk.new _ _ _⟩
  rw [hW] at hKa ⊢
  clear hW
  have LW : LibOk W := (L.keep hK1).keep hKa
  have c0 : W.cell? ⟨w1.heap.size, 0, none⟩ = some (.int .i64 (partA a 0 : Int)) := BW.cell 0
  have c1 : W.cell? ⟨w1.heap.size, 1, none⟩ = some (.int .i64 (partA a 1 : Int)) := BW.cell 1
  have c2 : W.cell? ⟨w1.heap.size, 2, none⟩ = some (.int .i64 (partA a 2 : Int)) := BW.cell 2
  have c3 : W.cell? ⟨w1.heap.size, 3, none⟩ = some (.int .i64 (partA a 3 : Int)) := BW.cell 3
  have K0 : Kp W W.drew := (Kp.refl W).drew
  go_region_held3 (fun w' => w'.cell? ⟨w1.heap.size, 0, none⟩ = some (.int .i64 (partA a 0 : Int)) ∧ w'.cell? ⟨w1.heap.size, 1, none⟩ = some (.int .i64 (partA a 1 : Int)) ∧ w'.cell? ⟨w1.heap.size, 2, none⟩ = some (.int .i64 (partA a 2 : Int)) ∧ w'.cell? ⟨w1.heap.size, 3, none⟩ = some (.int .i64 (partA a 3 : Int)))
    (first | exact ⟨Kd.cell c0, Kd.cell c1, Kd.cell c2, Kd.cell c3⟩ | exact ⟨Kc.cell c0, Kc.cell c1, Kc.cell c2, Kc.cell c3⟩ | exact ⟨Kb.cell c0, Kb.cell c1, Kb.cell c2, Kb.cell c3⟩ | exact ⟨Ka.cell c0, Ka.cell c1, Ka.cell c2, Ka.cell c3⟩ | go_keep)
    (first
      | (have tk := Kc; go_at_call 48; refine (itoa_any (partA a 3 : Int) (by omega) (by omega) _ (LW.keep Kc)).mono ?_; rintro e wd ⟨rfl, hKd⟩; rw [it, ← E3.out]; have Kd : Kp W wd := Kc.trans hKd; clear tk)
      | (have tk := Kb; go_at_call 48; refine (itoa_any (partA a 2 : Int) (by omega) (by omega) _ (LW.keep Kb)).mono ?_; rintro e wc ⟨rfl, hKc⟩; rw [it, ← E2.out]; have Kc : Kp W wc := Kb.trans hKc; clear tk)
      | (have tk := Ka; go_at_call 48; refine (itoa_any (partA a 1 : Int) (by omega) (by omega) _ (LW.keep Ka)).mono ?_; rintro e wb ⟨rfl, hKb⟩; rw [it, ← E1.out]; have Kb : Kp W wb := Ka.trans hKb; clear tk)
      | (go_at_call 48; refine (itoa_any (partA a 0 : Int) (by omega) (by omega) _ (LW.keep K0)).mono ?_; rintro e wa ⟨rfl, hKa2⟩; rw [it, ← E0.out]; have Ka : Kp W wa := K0.trans hKa2))
  all_goals (try go_wp2_with fail)
  all_goals go_ret
  all_goals exact ⟨by rw [Ht.out]; rfl, (hK1.trans hKa).trans Kd⟩
end Go.Proofs.YtbfimimhgdkpaaaGreatDoor

/- An address's text read by the reference. No condition. -/
namespace Go.Proofs.YtbfimimhgdkpaaaGreatDoor
open Go.RowKit

theorem str_idx {s : ByteArray} {i : Nat} (h : i < s.size) (w : World) : (Instr.index 9 (.string s) (.int .i64 (i : Int))).run Tryz.prog w = .ok (.int .u8 (byteAt s i : Int)) w := by
  have e : s[i]'h = s.data.toList.getD i 0 := get_at s i h
  have e2 : (byteAt s i : Int) = ((s[i]'h).toNat : Int) := by rw [e]; rfl
  rw [e2]
  simp [go_sem, h]

theorem drop_byte {s : ByteArray} {i : Nat} (h : i < s.size) : ∃ c : UInt8, c.toNat = byteAt s i ∧ s.data.toList.drop i = c :: s.data.toList.drop (i + 1) := by
  have h' : i < s.data.toList.length := by rw [Array.length_toList]; exact h
  refine ⟨s.data.toList[i], ?_, List.drop_eq_getElem_cons h'⟩
  unfold byteAt
  rw [List.getD_eq_getElem?_getD, List.getElem?_eq_getElem h', Option.getD_some]
theorem numR_step {l r : List UInt8} {c : UInt8} {n m : Nat} (e : l = c :: r) (h : 48 ≤ c.toNat ∧ c.toNat ≤ 57) (hg : ¬ ((0 < m ∧ n = 0) ∨ 255 < 10 * n + (c.toNat - 48))) : numR 255 n m l = numR 255 (10 * n + (c.toNat - 48)) (m + 1) r := by
  subst e; simp only [numR]; rw [if_pos h, if_neg hg]
theorem numR_stop {l r : List UInt8} {c : UInt8} {n m : Nat} (e : l = c :: r) (h : ¬ (48 ≤ c.toNat ∧ c.toNat ≤ 57) ∨ ((0 < m ∧ n = 0) ∨ 255 < 10 * n + (c.toNat - 48))) : numR 255 n m l = (n, m) := by
  subst e; simp only [numR]
  by_cases hc : 48 ≤ c.toNat ∧ c.toNat ≤ 57
  · rw [if_pos hc, if_pos (h.resolve_left (by simp [hc]))]
  · rw [if_neg hc]

set_option maxRecDepth 100000 in
set_option maxHeartbeats 2000000 in
theorem rnumber_any (s : ByteArray) (at_ : Nat) (hat : at_ ≤ s.size) (hs : s.size ≤ 1000000000000) (w : World) :
    Calls Tryz.prog 167 #[.string s, .int .i64 at_, .int .i64 255] w fun e w' => e = .returned (.tuple #[.int .i64 (numR 255 0 0 (s.data.toList.drop at_)).1, .int .i64 (numR 255 0 0 (s.data.toList.drop at_)).2]) ∧ w' = w := by
  go_enter Tryz.func167, Tryz.ntmps167
  go_wp2
  go_loopw [8, 9] (fun i j wr => ∃ n m : Nat, i = .int .i64 n ∧ j = .int .i64 m ∧ at_ + m ≤ s.size ∧ n ≤ 255 ∧ Hid (numR 255 0 0 (s.data.toList.drop at_) = numR 255 n m (s.data.toList.drop (at_ + m))) ∧ wr = w) (fun _ j _ => s.size - at_ - (intOf j).toNat)
  case atStart => exact ⟨0, 0, rfl, rfl, hat, by omega, rfl, rfl⟩
  case round =>
    obtain ⟨n, m, rfl, rfl, hm, hn, hH, rfl⟩ := hrel
    by_cases hlt : at_ + m < s.size
    · obtain ⟨c, hc, hd⟩ := drop_byte hlt
      have hx : ∀ w, (Instr.index 9 (.string s) (.int .i64 ((at_ : Int) + (m : Int)))).run Tryz.prog w = .ok (.int .u8 (byteAt s (at_ + m) : Int)) w := fun w => by
        have := str_idx hlt w
        rwa [Int.natCast_add] at this
      rw [← hc] at hx
      have hc256 := c.toNat_lt
      obtain ⟨k, hk⟩ : ∃ k, c.toNat = k := ⟨_, rfl⟩
      have Hd := Lib.hid hd; clear hd hc
      rw [hk] at hx hc256
      by_cases h1 : 48 ≤ k ∧ k ≤ 57
      · have Hk := Lib.hid hk; clear hk
        obtain ⟨d, hd2⟩ : ∃ d, k = 48 + d := ⟨k - 48, by omega⟩
        subst hd2
        have Hn := Lib.hid (show n ≤ 255 from hn)
        go_wp2_with fail
        all_goals first
          | (go_ret2; (try simp only [beq_iff_eq, beq_eq_false_iff_ne] at *); exact ⟨by rw [hH.out, numR_stop Hd.out (n := n) (m := m) (by rw [Hk.out]; omega)]; rfl, by first | rfl | trivial⟩)
          | (go_roundw; (try simp only [beq_iff_eq, beq_eq_false_iff_ne] at *); (case rel => exact ⟨10 * n + d, m + 1, by go_num, by go_num, by omega, by omega, by rw [hH.out, numR_step Hd.out (n := n) (m := m) (by rw [Hk.out]; omega) (by rw [Hk.out]; omega), Hk.out, Nat.add_sub_cancel_left]; rfl, by first | rfl | trivial⟩); (case measure => simp [intOf]; omega))
          | (go_ret2; (try simp only [beq_iff_eq, beq_eq_false_iff_ne] at *); obtain rfl : n = 0 := by omega
             exact ⟨by rw [hH.out, numR_stop Hd.out (n := 0) (m := m) (by rw [Hk.out]; omega)]; rfl, by first | rfl | trivial⟩)
      · have Hk := Lib.hid hk; clear hk
        have Hs := Lib.hid (numR_stop Hd.out (n := n) (m := m) (.inl (by rw [Hk.out]; exact h1)))
        rcases Nat.lt_or_ge k 48 with h2 | h2
        · go_wp2_with fail
          go_ret2
          exact ⟨by rw [hH.out, Hs.out]; rfl, rfl⟩
        · have h3 : 57 < k := by omega
          clear h1
          go_wp2_with fail
          go_ret2
          exact ⟨by rw [hH.out, Hs.out]; rfl, rfl⟩
    · have Hs := Lib.hid (show numR 255 n m (s.data.toList.drop (at_ + m)) = (n, m) by
        rw [List.drop_eq_nil_of_le (by rw [Array.length_toList]; exact Nat.le_of_not_lt hlt)]; rfl)
      have h2 : at_ + m = s.size := by omega
      have h3 : ¬ (at_ : Int) + (m : Int) < (s.size : Int) := by omega
      clear h2 hlt
      go_wp2_with fail
      go_ret2
      exact ⟨by rw [hH.out, Hs.out]; rfl, rfl⟩

theorem rnumber_at (s : ByteArray) (a : Int) (at_ : Nat) (ha : a = (at_ : Int)) (hat : at_ ≤ s.size) (hs : s.size ≤ 1000000000000) (w : World) (p m : Nat) (hr : numR 255 0 0 (s.data.toList.drop at_) = (p, m)) :
    Calls Tryz.prog 167 #[.string s, .int .i64 a, .int .i64 255] w fun e w' => e = .returned (.tuple #[.int .i64 p, .int .i64 m]) ∧ w' = w := by
  subst ha
  have := rnumber_any s at_ hat hs w
  rw [hr] at this
  exact this
theorem headR_first {l : List UInt8} {a n p m : Nat} (h : numR 255 0 0 (l.drop a) = (p, m)) : headR l 4 a n = if m = 0 then (0, a, false) else headR l 3 (a + m) (256 * n + p) := by
  have s : headR l 4 a n = if (numR 255 0 0 (l.drop a)).2 = 0 then (0, a, false) else headR l 3 (a + (numR 255 0 0 (l.drop a)).2) (256 * n + (numR 255 0 0 (l.drop a)).1) := rfl
  rw [s, h]
theorem headR_next {l : List UInt8} {i a n p m : Nat} (hi : i < 3) (h : numR 255 0 0 (l.drop (a + 1)) = (p, m)) :
    headR l (i + 1) a n = if l.getD a 0 = 46 ∧ a < l.length then (if m = 0 then (0, a + 1, false) else headR l i (a + 1 + m) (256 * n + p)) else (0, a, false) := by
  have s : headR l (i + 1) a n = if l.getD a 0 = 46 ∧ a < l.length then (if (numR 255 0 0 (l.drop (a + 1))).2 = 0 then (0, a + 1, false) else headR l i (a + 1 + (numR 255 0 0 (l.drop (a + 1))).2) (256 * n + (numR 255 0 0 (l.drop (a + 1))).1)) else (0, a, false) := by
    rcases i with _ | _ | _ | i
    · rfl
    · rfl
    · rfl
    · omega
  rw [s, h]

theorem headR_le (l : List UInt8) : ∀ (i at_ n : Nat), i ≤ 4 → at_ ≤ l.length → (headR l i at_ n).2.1 ≤ l.length
  | 0, at_, n, _, h => h
  | i + 1, at_, n, hi, h => by
    by_cases h3 : i < 3
    · obtain ⟨p, m, hr⟩ : ∃ p m, numR 255 0 0 (l.drop (at_ + 1)) = (p, m) := ⟨_, _, rfl⟩
      rw [headR_next h3 hr]
      split
      · rename_i hz
        split
        · exact hz.2
        · rename_i hm
          exact headR_le l i _ _ (by omega) (numR_at hr hm).1
      · exact h
    · obtain rfl : i = 3 := by omega
      obtain ⟨p, m, hr⟩ : ∃ p m, numR 255 0 0 (l.drop at_) = (p, m) := ⟨_, _, rfl⟩
      rw [headR_first hr]
      split
      · exact h
      · rename_i hm
        exact headR_le l 3 _ _ (by omega) (numR_at hr hm).1

set_option maxRecDepth 100000 in
set_option maxHeartbeats 2000000 in
theorem rhead_any (s : ByteArray) (hs : s.size ≤ 1000000000000) (w : World) :
    Calls Tryz.prog 112 #[.string s, .int .i64 0] w fun e w' => e = .returned (.tuple #[.int .u32 (headR s.data.toList 4 0 0).1, .int .i64 (headR s.data.toList 4 0 0).2.1, .bool (headR s.data.toList 4 0 0).2.2]) ∧ w' = w := by
  have hlen : s.data.toList.length = s.size := by rw [Array.length_toList]; rfl
  have Hlen := Lib.hid hlen; clear hlen
  go_enter Tryz.func112, Tryz.ntmps112
  go_wp2
  go_loopw [1, 7, 8] (fun i v j wr => ∃ at_ n k : Nat, i = .int .i64 at_ ∧ v = .int .i64 n ∧ j = .int .i64 k ∧ k ≤ 4 ∧ at_ ≤ s.size ∧ n < 256 ^ k ∧ Hid (headR s.data.toList 4 0 0 = headR s.data.toList (4 - k) at_ n) ∧ wr = w) (fun _ _ j _ => 4 - (intOf j).toNat)
  case atStart => exact ⟨0, 0, 0, rfl, rfl, rfl, by omega, by omega, by omega, rfl, rfl⟩
  case round =>
    obtain ⟨at_, n, k, rfl, rfl, rfl, hk, hat, hn, hH, rfl⟩ := hrel
    have Hn := Lib.hid hn
    by_cases hlt : k < 4
    · have hn3 : n < 16777216 := Nat.lt_of_lt_of_le hn (by have := Nat.pow_le_pow_right (n := 256) (by omega) (show k ≤ 3 by omega); simpa using this)
      clear hn
      rcases Nat.eq_zero_or_pos k with h0 | h0
      · subst h0
        obtain ⟨p, m, hr⟩ : ∃ p m, numR 255 0 0 (s.data.toList.drop at_) = (p, m) := ⟨_, _, rfl⟩
        have hf := headR_first (n := n) hr
        have hq := fun h : ¬ m = 0 => numR_at hr h
        have Hq := Lib.hid hq; clear hq
        have Hf := Lib.hid hf; clear hf
        have Hr := Lib.hid hr; clear hr
        go_wp2_with fail
        refine (rnumber_at s at_ at_ rfl hat hs _ p m Hr.out).mono ?_
        rintro e w' ⟨rfl, rfl⟩
        by_cases hm : m = 0
        · subst hm
          have H2 := Lib.hid (show headR s.data.toList 4 0 0 = (0, at_, false) by rw [hH.out]; exact Hf.out)
          go_wp2_with fail
          go_ret3
          exact ⟨by rw [H2.out]; rfl, by first | rfl | trivial⟩
        · obtain ⟨q1, q2, _⟩ := Hq.out hm
          rw [Hlen.out] at q1
          have H2 := Lib.hid (show headR s.data.toList 4 0 0 = headR s.data.toList (4 - 1) (at_ + m) (256 * n + p) by rw [hH.out]; exact Hf.out.trans (if_neg hm))
          have hm2 : ¬ (m : Int) = 0 := by omega
          clear hm
          go_wp2_with fail
          go_roundw
          (case rel => exact ⟨at_ + m, 256 * n + p, 1, by go_num, by go_num, rfl, by omega, q1, by have := Hn.out; simp at this ⊢; omega, H2.out, by first | rfl | trivial⟩)
          (case measure => simp [intOf])
      · have hgt : (0 : Int) < (k : Int) := by omega
        have hk4 : (k : Int) < 4 := by omega
        have ek : 4 - k = (3 - k) + 1 := by omega
        have Ek := Lib.hid ek; clear ek
        by_cases hz : at_ < s.size
        · obtain ⟨c, hc, hd⟩ := drop_byte hz
          have Hd := Lib.hid hd; clear hd
          have hx := str_idx hz
          rw [← hc] at hx
          have Hc := Lib.hid hc; clear hc
          have hg : s.data.toList.getD at_ 0 = c := by
            have e1 := Hd.out
            have e2 := List.drop_eq_getElem_cons (show at_ < s.data.toList.length by rw [Hlen.out]; exact hz)
            rw [e1] at e2
            injection e2 with e3 _
            rw [List.getD_eq_getElem?_getD, List.getElem?_eq_getElem (by rw [Hlen.out]; exact hz), ← e3]
            rfl
          have Hg := Lib.hid hg; clear hg
          obtain ⟨x, hxx⟩ : ∃ x, c.toNat = x := ⟨_, rfl⟩
          rw [hxx] at hx
          obtain ⟨p, m, hr⟩ : ∃ p m, numR 255 0 0 (s.data.toList.drop (at_ + 1)) = (p, m) := ⟨_, _, rfl⟩
          have Hf := Lib.hid (headR_next (n := n) (i := 3 - k) (by omega) hr)
          have Hq := Lib.hid (fun h : ¬ m = 0 => numR_at hr h)
          have Hr := Lib.hid hr; clear hr
          have hz2 : (at_ : Int) < (s.size : Int) := by omega
          by_cases h46 : x = 46
          · subst h46
            have Hcc := Lib.hid (show c = 46 from UInt8.toNat.inj hxx); clear hxx
            have Hand := Lib.hid (show s.data.toList.getD at_ 0 = 46 ∧ at_ < s.data.toList.length from ⟨by rw [Hg.out, Hcc.out], by rw [Hlen.out]; exact hz⟩)
            go_wp2_with fail
            refine (rnumber_at s _ (at_ + 1) (by omega) (by omega) hs _ p m Hr.out).mono ?_
            rintro e w' ⟨rfl, rfl⟩
            by_cases hm : m = 0
            · subst hm
              have H2 := Lib.hid (show headR s.data.toList 4 0 0 = (0, at_ + 1, false) by rw [hH.out, Ek.out, Hf.out, if_pos Hand.out]; rfl)
              go_wp2_with fail
              go_ret3
              exact ⟨by rw [H2.out]; rfl, by first | rfl | trivial⟩
            · obtain ⟨q1, q2, _⟩ := Hq.out hm
              rw [Hlen.out] at q1
              have H2 := Lib.hid (show headR s.data.toList 4 0 0 = headR s.data.toList (4 - (k + 1)) (at_ + 1 + m) (256 * n + p) by
                rw [hH.out, Ek.out, Hf.out, if_pos Hand.out, if_neg hm, show 4 - (k + 1) = 3 - k by omega])
              have hm2 : ¬ (m : Int) = 0 := by omega
              clear hm
              go_wp2_with fail
              go_roundw
              (case rel => exact ⟨at_ + 1 + m, 256 * n + p, k + 1, by go_num, by go_num, by go_num, by omega, q1, by have := Hn.out; rw [Nat.pow_succ]; omega, H2.out, by first | rfl | trivial⟩)
              (case measure => simp [intOf]; omega)
          · have H2 := Lib.hid (show headR s.data.toList 4 0 0 = (0, at_, false) by
              rw [hH.out, Ek.out, Hf.out, if_neg]
              rintro ⟨h1, _⟩
              rw [Hg.out] at h1
              rw [h1] at hxx
              exact h46 hxx.symm)
            clear hxx
            have hb1 : ((x : Int) == 46) = false := by rw [beq_eq_false_iff_ne]; omega
            have hb2 : ((x : Int) != 46) = true := by rw [bne_iff_ne]; omega
            have hb3 : ¬ (x : Int) = 46 := by omega
            go_wp2_with fail
            go_ret3
            exact ⟨by rw [H2.out]; rfl, by first | rfl | trivial⟩
        · have Hf := Lib.hid (headR_next (l := s.data.toList) (a := at_) (n := n) (i := 3 - k) (by omega) rfl)
          have H2 := Lib.hid (show headR s.data.toList 4 0 0 = (0, at_, false) by
            rw [hH.out, Ek.out, Hf.out, if_neg]
            rintro ⟨_, h1⟩
            rw [Hlen.out] at h1
            exact hz h1)
          have hz2 : (s.size : Int) ≤ (at_ : Int) := by omega
          go_wp2_with fail
          go_ret3
          exact ⟨by rw [H2.out]; rfl, by first | rfl | trivial⟩
    · obtain rfl : k = 4 := by omega
      have hn2 : n < 4294967296 := by simpa using hn
      have H2 := Lib.hid (show headR s.data.toList 4 0 0 = (n, at_, true) by rw [hH.out]; rfl)
      clear hn
      go_wp2_with fail
      go_ret3
      exact ⟨by rw [H2.out]; rfl, by first | rfl | trivial⟩

set_option maxRecDepth 100000 in
set_option maxHeartbeats 1000000 in
theorem ref01_parse (s : ByteArray) (hs : s.size ≤ 1000000000000) (w : World) :
    Calls Tryz.prog 74 #[.string s] w fun e w' => w' = w ∧ (∀ a, adr s.data.toList = some a → ∃ p : Int, e = .returned (.tuple #[.int .u32 a, .int .i64 p, .int .i64 0])) ∧ (adr s.data.toList = none → ∃ p : Int, e = .returned (.tuple #[.int .u32 0, .int .i64 p, .int .i64 110])) := by
  have ha := adr_eq s.data.toList
  have Hlen := Lib.hid (show s.data.toList.length = s.size by rw [Array.length_toList]; rfl)
  obtain ⟨v, p, b, hv⟩ : ∃ v p b, headR s.data.toList 4 0 0 = (v, p, b) := ⟨_, _, _, rfl⟩
  have hc := rhead_any s hs w
  rw [hv] at hc
  have Hc := Lib.hid hc; clear hc
  unfold adrR at ha
  rw [hv, Hlen.out] at ha
  cases b with
  | false =>
    have Ha := Lib.hid (show adr s.data.toList = none by rw [← ha]; simp); clear ha hv
    go_enter Tryz.func74, Tryz.ntmps74
    go_wp2_with fail
    refine (Hc.out).mono ?_
    rintro e w' ⟨rfl, rfl⟩
    go_wp2_with fail
    go_ret3
    exact ⟨rfl, fun a h => (by rw [Ha.out] at h; cases h), fun _ => ⟨_, rfl⟩⟩
  | true =>
    by_cases hp : p = s.size
    · have Ha := Lib.hid (show adr s.data.toList = some v by rw [← ha]; simp [hp]); clear ha hv
      subst hp
      go_enter Tryz.func74, Tryz.ntmps74
      go_wp2_with fail
      refine (Hc.out).mono ?_
      rintro e w' ⟨rfl, rfl⟩
      go_wp2_with fail
      go_ret3
      exact ⟨rfl, fun a h => (by rw [Ha.out] at h; cases h; exact ⟨_, rfl⟩), fun h => (by rw [Ha.out] at h; cases h)⟩
    · have Ha := Lib.hid (show adr s.data.toList = none by rw [← ha]; simp [hp]); clear ha
      have hlt : (p : Int) < (s.size : Int) := by
        have h1 := headR_le s.data.toList 4 0 0 (by omega) (by omega)
        rw [hv, Hlen.out] at h1
        simp only at h1
        omega
      clear hv hp
      go_enter Tryz.func74, Tryz.ntmps74
      go_wp2_with fail
      refine (Hc.out).mono ?_
      rintro e w' ⟨rfl, rfl⟩
      go_wp2_with fail
      go_ret3
      exact ⟨rfl, fun a h => (by rw [Ha.out] at h; cases h), fun _ => ⟨_, rfl⟩⟩
end Go.Proofs.YtbfimimhgdkpaaaGreatDoor

/- An address's text read by the program. No condition. -/
namespace Go.Proofs.YtbfimimhgdkpaaaGreatDoor
open Go.RowKit

set_option maxRecDepth 100000 in
set_option maxHeartbeats 1000000 in
theorem joined_int (a d : Nat) (ha : a ≤ 255) (hd : d ≤ 9) (g : Nat) (w : World) (B : Blk w g 3 #[.int .i64 a, .int .i64 d]) :
    Calls Tryz.prog 187 #[.int .i64 10, .slice (some ⟨g, 0, none⟩) 2 2] w fun e w' => e = .returned (.int .i64 ((a * 10 + d : Nat) : Int)) ∧ w' = w := by
  have c0 : w.cell? ⟨g, 0, none⟩ = some (.int .i64 a) := B.cell 0
  have c1 : w.cell? ⟨g, 1, none⟩ = some (.int .i64 d) := B.cell 1
  go_enter Tryz.func187, Tryz.ntmps187
  go_wp2
  go_rounds 3
  go_ret
  exact ⟨by simp, rfl⟩
set_option maxRecDepth 100000 in
set_option maxHeartbeats 1000000 in
theorem joined_addr (a b c d : Nat) (ha : a ≤ 255) (hb : b ≤ 255) (hc : c ≤ 255) (hd : d ≤ 255) (g : Nat) (w : World) (B : Blk w g 24 #[.int .u32 a, .int .u32 b, .int .u32 c, .int .u32 d]) :
    Calls Tryz.prog 188 #[.int .u32 256, .slice (some ⟨g, 0, none⟩) 4 4] w fun e w' => e = .returned (.int .u32 ((joinA [a, b, c, d] : Nat) : Int)) ∧ w' = w := by
  have c0 : w.cell? ⟨g, 0, none⟩ = some (.int .u32 a) := B.cell 0
  have c1 : w.cell? ⟨g, 1, none⟩ = some (.int .u32 b) := B.cell 1
  have c2 : w.cell? ⟨g, 2, none⟩ = some (.int .u32 c) := B.cell 2
  have c3 : w.cell? ⟨g, 3, none⟩ = some (.int .u32 d) := B.cell 3
  have H := Lib.hid (show ((joinA [a, b, c, d] : Nat) : Int) = ((((a : Int) * 256 + b) * 256 + c) * 256 + d) by simp only [joinA, List.getD_cons_zero, List.getD_cons_succ]; omega)
  go_enter Tryz.func188, Tryz.ntmps188
  go_wp2
  go_rounds 5
  go_ret
  exact ⟨by rw [H.out]; rfl, rfl⟩
set_option maxRecDepth 100000 in
set_option maxHeartbeats 1000000 in
theorem aof_any (a b c d : Nat) (ha : a ≤ 255) (hb : b ≤ 255) (hc : c ≤ 255) (hd : d ≤ 255) (w : World) :
    Calls Tryz.prog 166 #[.int .u8 a, .int .u8 b, .int .u8 c, .int .u8 d] w fun e w' => e = .returned (.int .u32 ((joinA [a, b, c, d] : Nat) : Int)) ∧ Kp w w' := by
  go_enter Tryz.func166, Tryz.ntmps166
  go_wp2_with (first | (go_at_call 188; refine (joined_addr a b c d ha hb hc hd _ _ (Blk.new w _ _)).mono ?_; rintro e w' ⟨rfl, rfl⟩))
  go_ret
  exact ⟨rfl, (Kp.refl _).alloc _⟩

def cellsA (s : AS) : Array Value := #[.int .u8 (s.ps.getD 0 0 : Int), .int .u8 (s.ps.getD 1 0 : Int), .int .u8 (s.ps.getD 2 0 : Int), .int .u8 (s.ps.getD 3 0 : Int), .int .i64 (s.k : Int), .int .i64 (s.d : Int)]
theorem cellsA_at (s : AS) {j : Nat} (hj : j < 4) : (cellsA s)[j]? = some (.int .u8 (s.ps.getD j 0 : Int)) := by
  have : j = 0 ∨ j = 1 ∨ j = 2 ∨ j = 3 := by omega
  rcases this with rfl | rfl | rfl | rfl <;> rfl
theorem cellsA_set {ps : List Nat} (hl : ps.length = 4) {k : Nat} (hk : k ≤ 3) (d n : Nat) (v u : Value) (hv : v = .int .u8 (n : Int)) (hu : u = .int .i64 ((d + 1 : Nat) : Int)) :
    ((cellsA ⟨ps, k, d⟩).setIfInBounds k v).setIfInBounds 5 u = cellsA ⟨ps.set k n, k, d + 1⟩ := by
  subst hv; subst hu
  match ps, hl with
  | [a, b, c, e], _ =>
    have : k = 0 ∨ k = 1 ∨ k = 2 ∨ k = 3 := by omega
    rcases this with rfl | rfl | rfl | rfl <;> rfl
abbrev wrongV (at_ : Int) : Value := .iface 220 (.int .i64 at_)
abbrev gaveW (at_ : Int) : Ending := .panicked [{ v := wrongV at_, recovered := false }]
def TakeP (g : Nat) (w : World) (c : Nat) (at_ : Int) (s : AS) (e : Ending) (w' : World) : Prop :=
  (∀ s', stepA s c = some s' → e = .returned (.tuple #[]) ∧ Blk w' g 225 (cellsA s') ∧ Only [g] w w') ∧ (stepA s c = none → e = gaveW at_ ∧ Kp w w')

set_option maxRecDepth 100000 in
set_option maxHeartbeats 2000000 in
theorem take_any (g : Nat) (s : AS) (hI : AInv s) (hd : s.d ≤ 1000000) (c : Nat) (hc : c < 2147483648) (at_ : Int) (w : World) (B : Blk w g 225 (cellsA s)) :
    Calls Tryz.prog 164 #[.pointer (some ⟨g, 0, none⟩), .int .i64 at_, .int .i32 c] w (TakeP g w c at_ s) := by
  obtain ⟨ps, k, d⟩ := s
  have hk := hI.k
  have hl := hI.len
  have hle := hI.le
  simp only at hk hl hle hd
  obtain ⟨p, hp⟩ : ∃ p, ps.getD k 0 = p := ⟨_, rfl⟩
  have hp255 : p ≤ 255 := by
    rw [← hp, List.getD_eq_getElem?_getD, List.getElem?_eq_getElem (by omega), Option.getD_some]
    exact hle _ (List.getElem_mem _)
  have hg := B.lt
  have ck : w.cell? ⟨g, k, none⟩ = some (.int .u8 (p : Int)) := by rw [B.cell k, cellsA_at _ (by omega), hp]
  have c4 : w.cell? ⟨g, 4, none⟩ = some (.int .i64 (k : Int)) := B.cell 4
  have c5 : w.cell? ⟨g, 5, none⟩ = some (.int .i64 (d : Int)) := B.cell 5
  have f4 := B.frozen 4
  have f5 := B.frozen 5
  have fk := B.frozen k
  have k0 : (0 : Int) ≤ (k : Int) := by omega
  have k4 : (k : Int) < 4 := by omega
  have hI' := Lib.hid hI; clear hI
  have Hle := Lib.hid hle; clear hle
  have hw1 : IntKind.i64.wrap (p : Int) = (p : Int) := IntWalk.i64_in _ (by omega)
  by_cases h46 : c = 46
  · subst h46
    by_cases hdp : 0 < d
    · by_cases hk3 : k < 3
      · have H := Lib.hid (show stepA ⟨ps, k, d⟩ 46 = some ⟨ps, k + 1, 0⟩ by unfold stepA; rw [if_pos ⟨rfl, hdp, hk3⟩])
        go_enter Tryz.func164, Tryz.ntmps164
        go_wp2_with fail
        go_end0
        refine ⟨fun s' h => ?_, fun h => by rw [H.out] at h; cases h⟩
        rw [H.out, Option.some.injEq] at h
        subst h
        refine ⟨rfl, ?_, ((Only.refl _ _).setCell (.inl (by simp)) _).setCell (.inl (by simp)) _⟩
        have := (B.set_ 4 (.int .i64 ((k : Int) + 1))).set_ 5 (.int .i64 0)
        simpa [cellsA] using this
      · have H := Lib.hid (show stepA ⟨ps, k, d⟩ 46 = none by unfold stepA; rw [if_neg (by simp; omega), if_neg (by omega)])
        have hk5 : ¬ (k : Int) < 3 := by omega
        go_enter Tryz.func164, Tryz.ntmps164
        go_wp2_with fail
        go_quiet (fail)
        go_wp2_with fail
        refine ⟨rfl, fun s' h => (by rw [H.out] at h; cases h), fun h => ⟨rfl, (Kp.refl _).drewN _⟩⟩
    · have H := Lib.hid (show stepA ⟨ps, k, d⟩ 46 = none by unfold stepA; rw [if_neg (by simp; omega), if_neg (by omega)])
      have hd0 : ¬ (0 : Int) < (d : Int) := by omega
      go_enter Tryz.func164, Tryz.ntmps164
      go_wp2_with fail
      go_quiet (fail)
      go_wp2_with fail
      refine ⟨rfl, fun s' h => (by rw [H.out] at h; cases h), fun h => ⟨rfl, (Kp.refl _).drewN _⟩⟩
  · have hb46 : ((c : Int) == 46) = false := by rw [beq_eq_false_iff_ne]; omega
    by_cases hdig : 48 ≤ c ∧ c ≤ 57
    · obtain ⟨e, rfl⟩ : ∃ e, c = 48 + e := ⟨c - 48, by omega⟩
      have he9 : e ≤ 9 := by omega
      have hw2 : IntKind.i32.wrap (e : Int) = (e : Int) := IntWalk.i32_in _ (by omega)
      have hw3 : IntKind.i64.wrap (e : Int) = (e : Int) := IntWalk.i64_in _ (by omega)
      by_cases hok : d = 0 ∨ p ≠ 0
      · by_cases hn : 255 < p * 10 + e
        · have H := Lib.hid (show stepA ⟨ps, k, d⟩ (48 + e) = none by
            unfold stepA; rw [if_neg (by omega), if_pos ⟨by omega, by simp only; rw [hp]; exact hok⟩]; simp only; rw [hp, Nat.add_sub_cancel_left, if_pos hn])
          have hb1 : decide ((48 : Int) ≤ 48 + (e : Int)) = true := by rw [decide_eq_true_iff]; omega
          have hb2 : decide (48 + (e : Int) ≤ 57) = true := by rw [decide_eq_true_iff]; omega
          have hb4 : (48 : Int) ≤ 48 + (e : Int) := by omega
          have hb5 : 48 + (e : Int) ≤ 57 := by omega
          have hb6 : (48 : Int) + (e : Int) - 48 = (e : Int) := by omega
          rcases Nat.eq_zero_or_pos d with hd0 | hd0
          · subst hd0
            clear hok
            go_enter Tryz.func164, Tryz.ntmps164
            go_wp2_with fail
            go_quiet (fail)
            go_wp2_with fail
            go_region_held3 (fun w' => w'.cell? ⟨g, 4, none⟩ = some (.int .i64 (k : Int)) ∧ w'.cell? ⟨g, k, none⟩ = some (.int .u8 (p : Int))) (go_keep) (first | (go_at_call 187; refine (joined_int p e hp255 he9 _ _ (Blk.new _ _ _)).mono ?_; rintro e w' ⟨rfl, rfl⟩))
            go_wp2_with fail
            refine ⟨rfl, fun s' h => (by rw [H.out] at h; cases h), fun h => ⟨rfl, ((Kp.refl _).drewN _).alloc _⟩⟩
          · have hb3 : ((d : Int) == 0) = false := by rw [beq_eq_false_iff_ne]; omega
            have hp0 : p ≠ 0 := by omega
            have hb7 : ((p : Int) != 0) = true := by rw [bne_iff_ne]; omega
            clear hok
            go_enter Tryz.func164, Tryz.ntmps164
            go_wp2_with fail
            go_quiet (fail)
            go_wp2_with fail
            go_region_held3 (fun w' => w'.cell? ⟨g, 4, none⟩ = some (.int .i64 (k : Int)) ∧ w'.cell? ⟨g, k, none⟩ = some (.int .u8 (p : Int))) (go_keep) (first | (go_at_call 187; refine (joined_int p e hp255 he9 _ _ (Blk.new _ _ _)).mono ?_; rintro e w' ⟨rfl, rfl⟩))
            go_wp2_with fail
            refine ⟨rfl, fun s' h => (by rw [H.out] at h; cases h), fun h => ⟨rfl, ((Kp.refl _).drewN _).alloc _⟩⟩
        · have hn2 : ¬ (255 : Int) < (p : Int) * 10 + (e : Int) := by omega
          have hw4 : IntKind.u8.wrap ((p : Int) * 10 + (e : Int)) = (p : Int) * 10 + (e : Int) := IntWalk.u8_in _ (by omega)
          have H := Lib.hid (show stepA ⟨ps, k, d⟩ (48 + e) = some ⟨ps.set k (p * 10 + e), k, d + 1⟩ by
            unfold stepA; rw [if_neg (by omega), if_pos ⟨by omega, by simp only; rw [hp]; exact hok⟩]; simp only; rw [hp, Nat.add_sub_cancel_left, if_neg hn])
          have hb1 : decide ((48 : Int) ≤ 48 + (e : Int)) = true := by rw [decide_eq_true_iff]; omega
          have hb2 : decide (48 + (e : Int) ≤ 57) = true := by rw [decide_eq_true_iff]; omega
          have hb4 : (48 : Int) ≤ 48 + (e : Int) := by omega
          have hb5 : 48 + (e : Int) ≤ 57 := by omega
          have hb6 : (48 : Int) + (e : Int) - 48 = (e : Int) := by omega
          rcases Nat.eq_zero_or_pos d with hd0 | hd0
          · subst hd0
            clear hok
            go_enter Tryz.func164, Tryz.ntmps164
            go_wp2_with fail
            go_quiet (fail)
            go_wp2_with fail
            go_region_held3 (fun w' => w'.cell? ⟨g, 4, none⟩ = some (.int .i64 (k : Int)) ∧ w'.cell? ⟨g, k, none⟩ = some (.int .u8 (p : Int))) (go_keep) (first | (go_at_call 187; refine (joined_int p e hp255 he9 _ _ (Blk.new _ _ _)).mono ?_; rintro e w' ⟨rfl, rfl⟩))
            go_wp2_with fail
            have q4 : ∀ n o, ((w.drewN n).alloc o).cell? ⟨g, 4, none⟩ = some (.int .i64 (k : Int)) := fun n o => (((Kp.refl w).drewN n).alloc o).cell c4
            have q5 : ∀ n o, ((w.drewN n).alloc o).cell? ⟨g, 5, none⟩ = some (.int .i64 ((0 : Nat) : Int)) := fun n o => (((Kp.refl w).drewN n).alloc o).cell c5
            have qk : ∀ n o, ((w.drewN n).alloc o).cell? ⟨g, k, none⟩ = some (.int .u8 (p : Int)) := fun n o => (((Kp.refl w).drewN n).alloc o).cell ck
            have z5 : ∀ n o, ((w.drewN n).alloc o).frozen? ⟨g, 5, none⟩ = false := fun n o => ((((Kp.refl w).drewN n).alloc o).frozen c5).trans f5
            have zk : ∀ n o, ((w.drewN n).alloc o).frozen? ⟨g, k, none⟩ = false := fun n o => ((((Kp.refl w).drewN n).alloc o).frozen ck).trans fk
            have nk5 : ¬ k = 5 := by omega
            have n5k : ¬ 5 = k := by omega
            go_region
            all_goals (try go_wp2_with fail)
            go_end0
            refine ⟨fun s' h => ?_, fun h => (by rw [H.out] at h; cases h)⟩
            rw [H.out, Option.some.injEq] at h
            subst h
            refine ⟨rfl, ?_, (((((Only.refl _ _).drewN _).alloc _).setCell (.inl (by simp)) _).setCell (.inl (by simp)) _).drew⟩
            rw [← cellsA_set hl hk _ (p * 10 + e) _ _ rfl rfl]
            exact ((((B.drewN _).alloc _).set_ k _).set_ 5 _).drew
          · have hb3 : ((d : Int) == 0) = false := by rw [beq_eq_false_iff_ne]; omega
            have hp0 : p ≠ 0 := by omega
            have hb7 : ((p : Int) != 0) = true := by rw [bne_iff_ne]; omega
            clear hok
            go_enter Tryz.func164, Tryz.ntmps164
            go_wp2_with fail
            go_quiet (fail)
            go_wp2_with fail
            go_region_held3 (fun w' => w'.cell? ⟨g, 4, none⟩ = some (.int .i64 (k : Int)) ∧ w'.cell? ⟨g, k, none⟩ = some (.int .u8 (p : Int))) (go_keep) (first | (go_at_call 187; refine (joined_int p e hp255 he9 _ _ (Blk.new _ _ _)).mono ?_; rintro e w' ⟨rfl, rfl⟩))
            go_wp2_with fail
            have q4 : ∀ n o, ((w.drewN n).alloc o).cell? ⟨g, 4, none⟩ = some (.int .i64 (k : Int)) := fun n o => (((Kp.refl w).drewN n).alloc o).cell c4
            have q5 : ∀ n o, ((w.drewN n).alloc o).cell? ⟨g, 5, none⟩ = some (.int .i64 (d : Int)) := fun n o => (((Kp.refl w).drewN n).alloc o).cell c5
            have qk : ∀ n o, ((w.drewN n).alloc o).cell? ⟨g, k, none⟩ = some (.int .u8 (p : Int)) := fun n o => (((Kp.refl w).drewN n).alloc o).cell ck
            have z5 : ∀ n o, ((w.drewN n).alloc o).frozen? ⟨g, 5, none⟩ = false := fun n o => ((((Kp.refl w).drewN n).alloc o).frozen c5).trans f5
            have zk : ∀ n o, ((w.drewN n).alloc o).frozen? ⟨g, k, none⟩ = false := fun n o => ((((Kp.refl w).drewN n).alloc o).frozen ck).trans fk
            have nk5 : ¬ k = 5 := by omega
            have n5k : ¬ 5 = k := by omega
            go_region
            all_goals (try go_wp2_with fail)
            go_end0
            refine ⟨fun s' h => ?_, fun h => (by rw [H.out] at h; cases h)⟩
            rw [H.out, Option.some.injEq] at h
            subst h
            refine ⟨rfl, ?_, (((((Only.refl _ _).drewN _).alloc _).setCell (.inl (by simp)) _).setCell (.inl (by simp)) _).drew⟩
            rw [← cellsA_set hl hk _ (p * 10 + e) _ _ rfl rfl]
            exact ((((B.drewN _).alloc _).set_ k _).set_ 5 _).drew
      · have hd1 : 0 < d := by omega
        have hp0 : p = 0 := by omega
        subst hp0
        have H := Lib.hid (show stepA ⟨ps, k, d⟩ (48 + e) = none by
          unfold stepA; rw [if_neg (by omega), if_neg]; simp only; rw [hp]; simp; omega)
        have hb1 : decide ((48 : Int) ≤ 48 + (e : Int)) = true := by rw [decide_eq_true_iff]; omega
        have hb2 : decide (48 + (e : Int) ≤ 57) = true := by rw [decide_eq_true_iff]; omega
        have hb4 : (48 : Int) ≤ 48 + (e : Int) := by omega
        have hb5 : 48 + (e : Int) ≤ 57 := by omega
        have hb3 : ((d : Int) == 0) = false := by rw [beq_eq_false_iff_ne]; omega
        go_enter Tryz.func164, Tryz.ntmps164
        go_wp2_with fail
        go_quiet (fail)
        go_wp2_with fail
        refine ⟨rfl, fun s' h => (by rw [H.out] at h; cases h), fun h => ⟨rfl, (Kp.refl _).drewN _⟩⟩
    · have H := Lib.hid (show stepA ⟨ps, k, d⟩ c = none by unfold stepA; rw [if_neg (by omega), if_neg (fun h => hdig h.1)])
      rcases Nat.lt_or_ge c 48 with h48 | h48
      · clear hdig
        have hb1 : decide ((48 : Int) ≤ (c : Int)) = false := by rw [decide_eq_false_iff_not]; omega
        have hb2 : ¬ (48 : Int) ≤ (c : Int) := by omega
        go_enter Tryz.func164, Tryz.ntmps164
        go_wp2_with fail
        go_quiet (fail)
        go_wp2_with fail
        refine ⟨rfl, fun s' h => (by rw [H.out] at h; cases h), fun h => ⟨rfl, (Kp.refl _).drewN _⟩⟩
      · have hb1 : decide ((48 : Int) ≤ (c : Int)) = true := by rw [decide_eq_true_iff]; omega
        have hb2 : decide ((c : Int) ≤ 57) = false := by rw [decide_eq_false_iff_not]; omega
        have hb3 : (48 : Int) ≤ (c : Int) := by omega
        have hb4 : ¬ (c : Int) ≤ 57 := by omega
        clear hdig h48
        go_enter Tryz.func164, Tryz.ntmps164
        go_wp2_with fail
        go_quiet (fail)
        go_wp2_with fail
        refine ⟨rfl, fun s' h => (by rw [H.out] at h; cases h), fun h => ⟨rfl, (Kp.refl _).drewN _⟩⟩
end Go.Proofs.YtbfimimhgdkpaaaGreatDoor

/- An address's text read by the program: the whole. No condition but the text's length. -/
namespace Go.Proofs.YtbfimimhgdkpaaaGreatDoor
open Go.RowKit

theorem wta_yes (e : Int) (w : World) : (Instr.typeAssert (wrongV e) 20 220 true).run Tryz.prog w = .ok (.tuple #[.int .i64 e, .bool true]) w := by kernel_rfl
theorem wta_nil (w : World) : (Instr.typeAssert .nilIface 20 220 true).run Tryz.prog w = .ok (.tuple #[.int .i64 0, .bool false]) w := by kernel_rfl
def upW (e : Int) : FrameMode := .panicking [{ v := wrongV e, recovered := false }]
def caughtW (e : Int) : FrameMode := .panicking [{ v := wrongV e, recovered := true }]
theorem recM_upW (e : Int) : recM (upW e) = (wrongV e, caughtW e) := rfl
theorem recM_ret : recM .returning = (.nilIface, .returning) := rfl
theorem makeFunc_run (fn : Fn) (first cap : Array Value) (w : World) : (Instr.makeFunc fn first cap).run Tryz.prog w = .ok (.func fn first cap) w := rfl

set_option maxRecDepth 100000 in
set_option maxHeartbeats 400000 in
theorem catch_addr (p0 p1 p2 : Nat) (x y z : Value) (e : Int) (w : World) (h0 : Blk w p0 24 #[x]) (h1 : Blk w p1 3 #[y]) (h2 : Blk w p2 29 #[z]) (n01 : ¬ p0 = p1) (n02 : ¬ p0 = p2) (n12 : ¬ p1 = p2) :
    CallsD Tryz.prog 163 #[.pointer (some ⟨p0, 0, none⟩), .pointer (some ⟨p1, 0, none⟩), .pointer (some ⟨p2, 0, none⟩)] (upW e) w fun en u' w' =>
      en = .returned (.tuple #[]) ∧ u' = caughtW e ∧ Blk w' p0 24 #[.int .u32 0] ∧ Blk w' p1 3 #[.int .i64 e] ∧ Blk w' p2 29 #[.int .i64 110] ∧ Only [p0, p1, p2] w w' := by
  have c0 : w.cell? ⟨p0, 0, none⟩ = some x := h0.cell 0
  have c1 : w.cell? ⟨p1, 0, none⟩ = some y := h1.cell 0
  have c2 : w.cell? ⟨p2, 0, none⟩ = some z := h2.cell 0
  have z0 := h0.frozen 0
  have z1 := h1.frozen 0
  have z2 := h2.frozen 0
  have n10 : ¬ p1 = p0 := fun h => n01 h.symm
  have n20 : ¬ p2 = p0 := fun h => n02 h.symm
  have n21 : ¬ p2 = p1 := fun h => n12 h.symm
  have hty := wta_yes
  refine callsD_rec _ _ (recM_upW e) Tryz.func163 rfl rfl rfl ?_
  simp only [Tryz.ntmps163, Act.put, List.size_toArray, List.length_cons, List.length_nil, Nat.reduceAdd, Nat.reduceSub, Array.replicate_succ, Array.replicate_zero, List.push_toArray, List.append_toArray, List.nil_append, List.cons_append]
  go_wp2_with fail
  go_end0
  exact ⟨rfl, trivial, ((h0.set_ 0 _).far (p := ⟨p1, 0, none⟩) n01 _).far (p := ⟨p2, 0, none⟩) n02 _, ((h1.far (p := ⟨p0, 0, none⟩) n10 _).set_ 0 _).far (p := ⟨p2, 0, none⟩) n12 _, ((h2.far (p := ⟨p0, 0, none⟩) n20 _).far (p := ⟨p1, 0, none⟩) n21 _).set_ 0 _,
    (((Only.refl _ _).setCell (.inl (by simp)) _).setCell (.inl (by simp)) _).setCell (.inl (by simp)) _⟩
set_option maxRecDepth 100000 in
set_option maxHeartbeats 400000 in
theorem idle_addr (p0 p1 p2 : Value) (w : World) :
    CallsD Tryz.prog 163 #[p0, p1, p2] .returning w fun en u' w' => en = .returned (.tuple #[]) ∧ u' = .returning ∧ w' = w := by
  have hty := wta_nil
  refine callsD_rec _ _ recM_ret Tryz.func163 rfl rfl rfl ?_
  simp only [Tryz.ntmps163, Act.put, List.size_toArray, List.length_cons, List.length_nil, Nat.reduceAdd, Nat.reduceSub, Array.replicate_succ, Array.replicate_zero, List.push_toArray, List.append_toArray, List.nil_append, List.cons_append]
  go_wp2_with fail
  go_end0
  exact ⟨rfl, trivial, rfl⟩

def EndP (g : Nat) (s : AS) (at_ : Int) (w : World) (e : Ending) (w' : World) : Prop :=
  w' = w ∧ (¬ (s.k < 3 ∨ s.d = 0) → e = .returned (.tuple #[])) ∧ ((s.k < 3 ∨ s.d = 0) → e = gaveW at_)
set_option maxRecDepth 100000 in
set_option maxHeartbeats 400000 in
theorem aend_any (g : Nat) (s : AS) (at_ : Int) (w : World) (B : Blk w g 225 (cellsA s)) :
    Calls Tryz.prog 165 #[.pointer (some ⟨g, 0, none⟩), .int .i64 at_] w (EndP g s at_ w) := by
  have c4 : w.cell? ⟨g, 4, none⟩ = some (.int .i64 (s.k : Int)) := B.cell 4
  have c5 : w.cell? ⟨g, 5, none⟩ = some (.int .i64 (s.d : Int)) := B.cell 5
  by_cases hk : s.k < 3
  · have H := Lib.hid hk
    go_enter Tryz.func165, Tryz.ntmps165
    go_wp2_with fail
    exact ⟨rfl, rfl, fun h => absurd (.inl H.out) h, fun _ => rfl⟩
  · by_cases hd : s.d = 0
    · have H := Lib.hid hd
      have hdi : ((s.d : Int) == 0) = true := by rw [beq_iff_eq]; omega
      rw [hd] at c5
      clear hd
      have hki : ¬ (s.k : Int) < 3 := by omega
      go_enter Tryz.func165, Tryz.ntmps165
      go_wp2_with fail
      exact ⟨rfl, rfl, fun h => absurd (.inr H.out) h, fun _ => rfl⟩
    · have H := Lib.hid (show ¬ (s.k < 3 ∨ s.d = 0) by omega)
      have hki : ¬ (s.k : Int) < 3 := by omega
      have hdi : ((s.d : Int) == 0) = false := by rw [beq_eq_false_iff_ne]; omega
      go_enter Tryz.func165, Tryz.ntmps165
      go_wp2_with fail
      go_end0
      exact ⟨rfl, fun _ => rfl, fun h => absurd h H.out⟩

theorem decode_lt (s : ByteArray) (i : Nat) : (Utf8.decode s i).1 < 2097152 := by
  have hb : ∀ j : Nat, (s.get! j).toNat < 256 := fun j => (s.get! j).toNat_lt
  have h0 := hb (i + 0)
  unfold Utf8.decode
  simp only
  have e : Utf8.runeError = 65533 := rfl
  repeat' split
  all_goals simp only [e]
  all_goals omega
theorem stepA_far {s : AS} {c : Nat} (h : 128 ≤ c) : stepA s c = none := by
  unfold stepA
  rw [if_neg (by omega), if_neg (by omega)]
theorem stepA_rune (st : AS) (s : ByteArray) (i : Nat) (hi : i < s.size) :
    (∀ st', stepA st (Utf8.decode s i).1 = some st' → (Utf8.decode s i).2 = 1 ∧ stepA st (byteAt s i) = some st') ∧ (stepA st (Utf8.decode s i).1 = none → stepA st (byteAt s i) = none) := by
  obtain ⟨_, _, h | h⟩ := rune_any s i hi
  · rw [h.2]
    exact ⟨fun st' h => ⟨rfl, h⟩, fun h => h⟩
  · refine ⟨fun st' he => ?_, fun _ => ?_⟩
    · rw [stepA_far h.1] at he; cases he
    · by_cases hk : 0 < (Utf8.decode s i).2
      · exact stepA_far (h.2 0 hk)
      · omega
theorem runA_none {s : ByteArray} {pos : Nat} (hp : pos < s.size) {st : AS} (h : runA st0 (s.data.toList.take pos) = some st) (hn : stepA st (byteAt s pos) = none) : adr s.data.toList = none := by
  obtain ⟨c, hc, hd⟩ := drop_byte hp
  unfold adr
  have e : s.data.toList = s.data.toList.take pos ++ c :: s.data.toList.drop (pos + 1) := by rw [← hd, List.take_append_drop]
  rw [e, runA_app, h, Option.bind_some]
  simp only [runA]
  rw [hc, hn]
  rfl
theorem runA_more {s : ByteArray} {pos : Nat} (hp : pos < s.size) {st st' : AS} (h : runA st0 (s.data.toList.take pos) = some st) (hn : stepA st (byteAt s pos) = some st') : runA st0 (s.data.toList.take (pos + 1)) = some st' := by
  obtain ⟨c, hc, hd⟩ := drop_byte hp
  have hl : pos < s.data.toList.length := by rw [Array.length_toList]; exact hp
  have hcc : s.data.toList[pos] = c := by
    have := List.drop_eq_getElem_cons hl
    rw [hd] at this
    injection this with a b
    exact a.symm
  rw [List.take_add_one, List.getElem?_eq_getElem hl, runA_app, h, Option.bind_some, hcc]
  simp only [Option.toList_some, runA]
  rw [hc, hn]
  rfl
theorem stepA_d {s s' : AS} {c : Nat} (h : stepA s c = some s') : s'.d ≤ s.d + 1 := by
  unfold stepA at h
  split at h
  · injection h with h; subst h; simp
  · split at h
    · split at h
      · cases h
      · injection h with h; subst h; simp
    · cases h

theorem Blk.iterAt {w : World} {g : Nat} {t : TypeId} {cs : Array Value} (h : Blk w g t cs) {k : Nat} (hk : ¬ g = k) (s : ByteArray) (pos : Nat) : Blk (w.iterAt k s pos) g t cs := (Lib.iterAt_other w k g s pos hk).trans h
theorem iter_only {w w' : World} {bs : List Nat} {k : Nat} {s : ByteArray} {pos : Nat} (h : w.heap[k]? = some (.stringIter s pos)) (hO : Only bs w w') (hk : k ∉ bs) : w'.heap[k]? = some (.stringIter s pos) :=
  (hO.block k (Array.getElem?_eq_some_iff.1 h).1 hk).trans h
/-- What stands as the text is gone over. -/
structure ARel (n : Nat) (w : World) (s : ByteArray) (pos : Nat) (st : AS) (wr : World) : Prop where
  le : pos ≤ s.size
  it : wr.heap[n + 1 + 1 + 1 + 1]? = some (.stringIter s pos)
  b0 : Blk wr n 24 #[.int .u32 0]
  b1 : Blk wr (n + 1) 3 #[.int .i64 0]
  b2 : Blk wr (n + 1 + 1) 29 #[.int .i64 0]
  b3 : Blk wr (n + 1 + 1 + 1) 225 (cellsA st)
  inv : AInv st
  d : st.d ≤ pos
  run : runA st0 (s.data.toList.take pos) = some st
  kp : Kp w wr
def AdrP (s : ByteArray) (w : World) (e : Ending) (w' : World) : Prop :=
  Kp w w' ∧ (∀ a, adr s.data.toList = some a → ∃ p : Int, e = .returned (.tuple #[.int .u32 a, .int .i64 p, .int .i64 0])) ∧ (adr s.data.toList = none → ∃ p : Int, e = .returned (.tuple #[.int .u32 0, .int .i64 p, .int .i64 110]))

set_option maxRecDepth 100000 in
set_option maxHeartbeats 2000000 in
theorem addr_parse (s : ByteArray) (hs : s.size ≤ 1000000) (w : World) : Calls Tryz.prog 110 #[.string s] w (AdrP s w) := by
  have hmf := makeFunc_run
  have R0 : ARel w.heap.size w s 0 st0 (((((w.alloc (.cells #[.int .u32 0] 24)).alloc (.cells #[.int .i64 0] 3)).alloc (.cells #[.int .i64 0] 29)).alloc (.cells #[.int .u8 0, .int .u8 0, .int .u8 0, .int .u8 0, .int .i64 0, .int .i64 0] 225)).iter s 0) := by
    refine ⟨by omega, ?_, ?_, ?_, ?_, ?_, AInv.zero, by simp [st0], rfl, ?_⟩
    · have h5 := World.iter_heap ((((w.alloc (.cells #[.int .u32 0] 24)).alloc (.cells #[.int .i64 0] 3)).alloc (.cells #[.int .i64 0] 29)).alloc (.cells #[.int .u8 0, .int .u8 0, .int .u8 0, .int .u8 0, .int .i64 0, .int .i64 0] 225)) s 0
      simpa using h5
    · exact ((((Blk.new w _ _).alloc _).alloc _).alloc _).alloc _
    · exact (((Blk.new1 w _ _ _).alloc _).alloc _).alloc _
    · exact ((Blk.new2 w _ _ _ _).alloc _).alloc _
    · exact (Blk.new3 w _ _ _ _ _).alloc _
    · exact (((((Kp.refl w).alloc _).alloc _).alloc _).alloc _).alloc _
  have HR := Lib.hid R0; clear R0
  go_enter_defers Tryz.func110, Tryz.ntmps110
  go_wp2_with fail
  go_loopw [7] (fun _ wr => ∃ pos st, Hid (ARel w.heap.size w s pos st wr)) (fun _ wr => s.size - wr.iterPos (w.heap.size + 1 + 1 + 1 + 1))
  case atStart => exact ⟨0, st0, HR⟩
  case round =>
    obtain ⟨pos, st, R⟩ := hrel
    have hk := R.out.it
    by_cases hp : pos < s.size
    · have hnext : ∀ ty, (Instr.next (.pointer (some ⟨w.heap.size + 1 + 1 + 1 + 1, 0, none⟩)) true ty).run Tryz.prog wr = _ := fun ty => Lib.run_next_any_at wr (w.heap.size + 1 + 1 + 1 + 1) s pos ty hk hp
      have hc := decode_lt s pos
      have hst := Lib.hid (stepA_rune st s pos hp)
      have hmu : wr.iterPos (w.heap.size + 1 + 1 + 1 + 1) = pos := by simp [World.iterPos, hk]
      obtain ⟨c, m, hcm⟩ : ∃ c m, Utf8.decode s pos = (c, m) := ⟨_, _, rfl⟩
      rw [hcm] at hnext hst hc
      simp only at hnext hst hc
      clear hcm
      have hd6 := R.out.d
      have hB0 := (R.out.b0).iterAt (k := w.heap.size + 1 + 1 + 1 + 1) (by omega) s (pos + m)
      have hB1 := (R.out.b1).iterAt (k := w.heap.size + 1 + 1 + 1 + 1) (by omega) s (pos + m)
      have hB2 := (R.out.b2).iterAt (k := w.heap.size + 1 + 1 + 1 + 1) (by omega) s (pos + m)
      have hB3 := (R.out.b3).iterAt (k := w.heap.size + 1 + 1 + 1 + 1) (by omega) s (pos + m)
      have hK1 : Kp w (wr.iterAt (w.heap.size + 1 + 1 + 1 + 1) s (pos + m)) := Lib.below_iterAt R.out.kp (by omega) s (pos + m)
      have hk1 := Lib.iterAt_heap wr (w.heap.size + 1 + 1 + 1 + 1) s pos (pos + m) hk
      generalize wr.iterAt (w.heap.size + 1 + 1 + 1 + 1) s (pos + m) = W1 at hnext hB0 hB1 hB2 hB3 hK1 hk1
      clear hk
      go_wp2_with fail
      refine (take_any (w.heap.size + 1 + 1 + 1) st R.out.inv (by omega) c (by omega) pos W1 hB3).mono ?_
      rintro e w2 ⟨hY, hN⟩
      cases hsc : stepA st c with
      | some st' =>
        obtain ⟨rfl, hB3', hO⟩ := hY st' hsc
        obtain ⟨rfl, hsb⟩ := hst.out.1 st' hsc
        have hd2 := stepA_d hsc
        have Hn : Hid (ARel w.heap.size w s (pos + 1) st' w2) := Lib.hid ⟨by omega, iter_only hk1 hO (by simp), hB0.only hO (by simp <;> omega), hB1.only hO (by simp), hB2.only hO (by simp), hB3', (stepA_inv (c := s.data.toList.getD pos 0) R.out.inv hsb).1, by omega, runA_more hp R.out.run hsb, hO.kp hK1 (by simp <;> omega)⟩
        clear hY hN hsc hd2
        have hmu2 : w2.iterPos (w.heap.size + 1 + 1 + 1 + 1) = pos + 1 := by simp [World.iterPos, Hn.out.it]
        go_wp2_with fail
        go_roundw
        case rel => exact ⟨pos + 1, st', Hn⟩
        case measure => rw [hmu, hmu2]; omega
      | none =>
        obtain ⟨rfl, hK⟩ := hN hsc
        have Hn := Lib.hid (runA_none hp R.out.run (hst.out.2 hsc))
        clear hY hN hsc
        refine leaves_cons (f := 163) (args := #[.pointer (some ⟨w.heap.size, 0, none⟩), .pointer (some ⟨w.heap.size + 1, 0, none⟩), .pointer (some ⟨w.heap.size + 1 + 1, 0, none⟩)]) (by simp) (by simp [go_sem]) ?_
        refine (catch_addr _ _ _ _ _ _ pos w2 (hB0.keep hK) (hB1.keep hK) (hB2.keep hK) (by omega) (by omega) (by omega)).mono ?_
        rintro e u' w3 ⟨rfl, rfl, C0, C1, C2, hO⟩
        have c0 : w3.cell? ⟨w.heap.size, 0, none⟩ = some (.int .u32 0) := C0.cell 0
        have c1 : w3.cell? ⟨w.heap.size + 1, 0, none⟩ = some (.int .i64 pos) := C1.cell 0
        have c2 : w3.cell? ⟨w.heap.size + 1 + 1, 0, none⟩ = some (.int .i64 110) := C2.cell 0
        show Leaves _ _ _ _ [] .returning _
        refine ⟨.tuple #[.int .u32 0, .int .i64 pos, .int .i64 110], by simp [results, Tryz.results110, go_sem, c0, c1, c2], hO.kp (hK1.trans hK) (by simp <;> omega), fun a ha => (by rw [Hn.out] at ha; cases ha), fun _ => ⟨_, rfl⟩⟩
    · have hnext : ∀ ty, (Instr.next (.pointer (some ⟨w.heap.size + 1 + 1 + 1 + 1, 0, none⟩)) true ty).run Tryz.prog wr = _ := fun ty => Lib.run_next_end_at wr (w.heap.size + 1 + 1 + 1 + 1) s pos ty hk hp
      have hle := R.out.le
      have hB0 := R.out.b0
      have hB1 := R.out.b1
      have hB2 := R.out.b2
      have hB3 := R.out.b3
      have hrun : runA st0 s.data.toList = some st := by
        have h := R.out.run
        rwa [List.take_of_length_le (by rw [Array.length_toList]; show s.size ≤ pos; omega)] at h
      have hK1 := R.out.kp
      have hI := R.out.inv
      clear hk
      have Hrun := Lib.hid hrun; clear hrun
      have HI := Lib.hid hI; clear hI
      go_wp2_with fail
      refine (aend_any (w.heap.size + 1 + 1 + 1) st s.size wr hB3).mono ?_
      rintro e w2 ⟨rfl, hY, hN⟩
      by_cases hbad : st.k < 3 ∨ st.d = 0
      · obtain rfl := hN hbad
        have Hn := Lib.hid (show adr s.data.toList = none by unfold adr; rw [Hrun.out, Option.bind_some, if_pos hbad])
        clear hY hN hbad
        refine leaves_cons (f := 163) (args := #[.pointer (some ⟨w.heap.size, 0, none⟩), .pointer (some ⟨w.heap.size + 1, 0, none⟩), .pointer (some ⟨w.heap.size + 1 + 1, 0, none⟩)]) (by simp) (by simp [go_sem]) ?_
        refine (catch_addr _ _ _ _ _ _ s.size w2 hB0 hB1 hB2 (by omega) (by omega) (by omega)).mono ?_
        rintro e u' w3 ⟨rfl, rfl, C0, C1, C2, hO⟩
        have c0 : w3.cell? ⟨w.heap.size, 0, none⟩ = some (.int .u32 0) := C0.cell 0
        have c1 : w3.cell? ⟨w.heap.size + 1, 0, none⟩ = some (.int .i64 s.size) := C1.cell 0
        have c2 : w3.cell? ⟨w.heap.size + 1 + 1, 0, none⟩ = some (.int .i64 110) := C2.cell 0
        show Leaves _ _ _ _ [] .returning _
        refine ⟨.tuple #[.int .u32 0, .int .i64 s.size, .int .i64 110], by simp [results, Tryz.results110, go_sem, c0, c1, c2], hO.kp hK1 (by simp <;> omega), fun a ha => (by rw [Hn.out] at ha; cases ha), fun _ => ⟨_, rfl⟩⟩
      · obtain rfl := hY hbad
        have Ha := Lib.hid (show adr s.data.toList = some (joinA st.ps) by unfold adr; rw [Hrun.out, Option.bind_some, if_neg hbad])
        clear hY hN hbad
        have hle0 : st.ps.getD 0 0 ≤ 255 ∧ st.ps.getD 1 0 ≤ 255 ∧ st.ps.getD 2 0 ≤ 255 ∧ st.ps.getD 3 0 ≤ 255 ∧ joinA st.ps = joinA [st.ps.getD 0 0, st.ps.getD 1 0, st.ps.getD 2 0, st.ps.getD 3 0] := by
          have h1 := HI.out.len
          have h2 := HI.out.le
          obtain ⟨ps, k, d⟩ := st
          simp only at h1 h2
          match ps, h1 with
          | [x, y, z, t], _ => exact ⟨h2 x (by simp), h2 y (by simp), h2 z (by simp), h2 t (by simp), rfl⟩
        obtain ⟨x, hx⟩ : ∃ x, st.ps.getD 0 0 = x := ⟨_, rfl⟩
        obtain ⟨y, hy⟩ : ∃ x, st.ps.getD 1 0 = x := ⟨_, rfl⟩
        obtain ⟨z, hz⟩ : ∃ x, st.ps.getD 2 0 = x := ⟨_, rfl⟩
        obtain ⟨t, ht⟩ : ∃ x, st.ps.getD 3 0 = x := ⟨_, rfl⟩
        rw [hx, hy, hz, ht] at hle0
        obtain ⟨l0, l1, l2, l3, lj⟩ := hle0
        rw [lj] at Ha
        have d0 : w2.cell? ⟨w.heap.size + 1 + 1 + 1, 0, none⟩ = some (.int .u8 x) := by rw [← hx]; exact hB3.cell 0
        have d1 : w2.cell? ⟨w.heap.size + 1 + 1 + 1, 1, none⟩ = some (.int .u8 y) := by rw [← hy]; exact hB3.cell 1
        have d2 : w2.cell? ⟨w.heap.size + 1 + 1 + 1, 2, none⟩ = some (.int .u8 z) := by rw [← hz]; exact hB3.cell 2
        have d3 : w2.cell? ⟨w.heap.size + 1 + 1 + 1, 3, none⟩ = some (.int .u8 t) := by rw [← ht]; exact hB3.cell 3
        clear hx hy hz ht lj
        go_wp2_with fail
        refine (aof_any x y z t l0 l1 l2 l3 w2).mono ?_
        rintro e w3 ⟨rfl, hK3⟩
        have C0 := hB0.keep hK3
        have C1 := hB1.keep hK3
        have C2 := hB2.keep hK3
        have e0 : w3.cell? ⟨w.heap.size, 0, none⟩ = some (.int .u32 0) := C0.cell 0
        have e1 : w3.cell? ⟨w.heap.size + 1, 0, none⟩ = some (.int .i64 0) := C1.cell 0
        have e2 : w3.cell? ⟨w.heap.size + 1 + 1, 0, none⟩ = some (.int .i64 0) := C2.cell 0
        have z0 := C0.frozen 0
        have z1 := C1.frozen 0
        have z2 := C2.frozen 0
        go_wp2_with fail
        refine leaves_cons (f := 163) (args := #[.pointer (some ⟨w.heap.size, 0, none⟩), .pointer (some ⟨w.heap.size + 1, 0, none⟩), .pointer (some ⟨w.heap.size + 1 + 1, 0, none⟩)]) (by simp) (by simp [go_sem]) ?_
        refine (idle_addr _ _ _ _).mono ?_
        rintro e u' w4 ⟨rfl, rfl, rfl⟩
        have D0 := ((C0.set_ 0 (.int .u32 (joinA [x, y, z, t]))).far (p := ⟨w.heap.size + 1, 0, none⟩) (by simp) (.int .i64 s.size)).far (p := ⟨w.heap.size + 1 + 1, 0, none⟩) (by simp; omega) (.int .i64 0)
        have D1 := ((C1.far (p := ⟨w.heap.size, 0, none⟩) (by simp) (.int .u32 (joinA [x, y, z, t]))).set_ 0 (.int .i64 s.size)).far (p := ⟨w.heap.size + 1 + 1, 0, none⟩) (by simp) (.int .i64 0)
        have D2 := ((C2.far (p := ⟨w.heap.size, 0, none⟩) (by simp; omega) (.int .u32 (joinA [x, y, z, t]))).far (p := ⟨w.heap.size + 1, 0, none⟩) (by simp) (.int .i64 s.size)).set_ 0 (.int .i64 0)
        have g0 := D0.cell 0
        have g1 := D1.cell 0
        have g2 := D2.cell 0
        show Leaves _ _ _ _ [] .returning _
        refine ⟨.tuple #[.int .u32 (joinA [x, y, z, t]), .int .i64 s.size, .int .i64 0], by simp [results, Tryz.results110, go_sem, g0, g1, g2], ?_, fun a ha => (by rw [Ha.out, Option.some.injEq] at ha; subst ha; exact ⟨_, rfl⟩), fun h => (by rw [Ha.out] at h; cases h)⟩
        exact (((hK1.trans hK3).setCell (by simp) _).setCell (by simp) _).setCell (by simp; omega) _
end Go.Proofs.YtbfimimhgdkpaaaGreatDoor
