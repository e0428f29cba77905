/- Printing's small functions, walked. Conditions: each theorem's own. -/
import Derived.Shelf.Strings.Builder1
import Derived.Shelf.Strings.Builder2
import Derived.Shelf.Strings.OnBuilder
import Derived.Shelf.Small.Strs
import Derived.Shelf.Small.Wraps
import Derived.Shelf.Strings.BuilderF
import Derived.Shelf.Strings.BuilderK
import Derived.Shelf.Strings.Builder2Cap
import Derived.Shelf.Strconv.Itoa0
import Derived.Shelf.Strconv.Itoa1
import Derived.Shelf.LaysM
import Derived.Shelf.Strconv.Itoa2
import Derived.Shelf.Strconv.Itoa3
import Derived.Shelf.Strconv.Itoa4
import Derived.Shelf.Strconv.ParseIntEmpty
import Derived.Shelf.Strconv.Clone
import Derived.Shelf.Strconv.SyntaxError
import Derived.Shelf.LaysC
import Derived.Shelf.Strconv.ToError
import Derived.Shelf.Strconv.Lower
import Derived.Shelf.Strconv.ParseUint10
import Derived.Shelf.Strconv.ParseUint10Empty
import Derived.Shelf.Strconv.ParseUint10Any
import Derived.Shelf.Strconv.ParseInt10
import Derived.Shelf.Strconv.RangeError
import Derived.Shelf.Strconv.ToErrorRange
import Derived.Shelf.Strconv.ParseUintEmpty
import Derived.Shelf.Strconv.ParseUint10b64
import Derived.Shelf.Strconv.ParseUint10b32
import Derived.Shelf.Strconv.ParseUint10b16
import Derived.Shelf.Strconv.ParseUint10b8
import Derived.Shelf.Strconv.ParseUint10At
import Derived.Shelf.Strconv.ParseInt10At64
import Derived.Shelf.Strconv.ParseInt10At32
import Derived.Shelf.Strconv.ParseInt10At16
import Derived.Shelf.Strconv.ParseInt10At8
import Derived.Shelf.Strconv.ParseInt10All
import Derived.Shelf.Strconv.ParseIntPublic10
import Derived.Shelf.Strconv.ErrVarParseInt
import Derived.Shelf.Strings.Search1
import Derived.Shelf.Strings.Search2
import Derived.Shelf.Strings.Search3
import Derived.Shelf.Strings.Count
import Derived.Shelf.Strings.Shaped
import Derived.Shelf.Strings.Prefix
import Derived.Shelf.Strings.Split
import Derived.Shelf.Unicode.DecodeSlow
import Derived.Shelf.Strings.BuilderCap
import Derived.Test.YtnpkdiffpgcbhaaGreatDoorS05
import Derived.Test.YtnpkdiffpgcbhaaGreatDoorS10
import Derived.Test.YtnpkdiffpgcbhaaGreatDoorC1
import Derived.Test.YtnpkdiffpgcbhaaGreatDoorS18
import Derived.Test.YtnpkdiffpgcbhaaGreatDoorS49
import Derived.Lib.ItoaLen
set_option maxRecDepth 100000
set_option maxHeartbeats 3200000
namespace Go.Proofs
open Go.Shelf
def Tryz.lays170_ren : Go.Shelf.Ren := ⟨fun | 170 => 29 | n => n, fun | 70 => 69 | 3 => 3 | 0 => 0 | 72 => 72 | 37 => 70 | 5 => 5 | n => n, fun | n => n⟩
theorem Tryz.lays170 : Go.Proofs.Lays.n170 Tryz.prog Tryz.lays170_ren := {
 mixed := by kernel_rfl
 f170 := Tryz.func29.trans (congrArg some (by kernel_rfl))
 t0 := Tryz.underlying0
 a0 := Tryz.isAgg0
 z0 := Tryz.sizeOf0
 v0 := Tryz.zeroValue0
 t3 := Tryz.underlying3
 a3 := Tryz.isAgg3
 z3 := Tryz.sizeOf3
 v3 := Tryz.zeroValue3
 t37 := Tryz.underlying70
 a37 := Tryz.isAgg70
 z37 := Tryz.sizeOf70
 v37 := Tryz.zeroValue70
 t70 := Tryz.underlying69
 a70 := Tryz.isAgg69
 z70 := Tryz.sizeOf69
 v70 := Tryz.zeroValue69
 t72 := Tryz.underlying72
 a72 := Tryz.isAgg72
 z72 := Tryz.sizeOf72
 v72 := Tryz.zeroValue72 }
open Go.RowKit in
theorem Tryz.Builder_Len (B b : Nat) (bs : List Value) (w : World) (h : Lib.IsBuilder 72 5 B b bs w) :
  Calls Tryz.prog 29 #[.pointer (some ⟨b, 0, none⟩)] w fun e w' => e = .returned (.int .i64 bs.length) ∧ w' = w := Any.Builder_Len Tryz.lays170 B b bs w h
def Tryz.lays156_ren : Go.Shelf.Ren := ⟨fun | 156 => 23 | 165 => 50 | 166 => 28 | 169 => 30 | 240 => 60 | 241 => 78 | 276 => 94 | 277 => 111 | n => n, fun | 31 => 42 | 9 => 9 | 3 => 3 | 4 => 4 | 0 => 0 | 20 => 20 | 72 => 72 | 76 => 82 | 70 => 69 | 37 => 70 | 75 => 81 | 127 => 117 | 164 => 148 | 5 => 5 | 80 => 85 | n => n, fun | n => n⟩
theorem Tryz.lays156 : Go.Proofs.Lays.n156 Tryz.prog Tryz.lays156_ren := {
 mixed := by kernel_rfl
 f156 := Tryz.func23.trans (congrArg some (by kernel_rfl))
 f165 := Tryz.func50.trans (congrArg some (by kernel_rfl))
 f166 := Tryz.func28.trans (congrArg some (by kernel_rfl))
 f169 := Tryz.func30.trans (congrArg some (by kernel_rfl))
 f240 := Tryz.func60.trans (congrArg some (by kernel_rfl))
 f241 := Tryz.func78.trans (congrArg some (by kernel_rfl))
 f276 := Tryz.func94.trans (congrArg some (by kernel_rfl))
 f277 := Tryz.func111.trans (congrArg some (by kernel_rfl))
 t0 := Tryz.underlying0
 a0 := Tryz.isAgg0
 z0 := Tryz.sizeOf0
 v0 := Tryz.zeroValue0
 t3 := Tryz.underlying3
 a3 := Tryz.isAgg3
 z3 := Tryz.sizeOf3
 v3 := Tryz.zeroValue3
 t4 := Tryz.underlying4
 a4 := Tryz.isAgg4
 z4 := Tryz.sizeOf4
 v4 := Tryz.zeroValue4
 t9 := Tryz.underlying9
 a9 := Tryz.isAgg9
 z9 := Tryz.sizeOf9
 v9 := Tryz.zeroValue9
 t20 := Tryz.underlying20
 a20 := Tryz.isAgg20
 z20 := Tryz.sizeOf20
 v20 := Tryz.zeroValue20
 t31 := Tryz.underlying42
 a31 := Tryz.isAgg42
 z31 := Tryz.sizeOf42
 v31 := Tryz.zeroValue42
 t37 := Tryz.underlying70
 a37 := Tryz.isAgg70
 z37 := Tryz.sizeOf70
 v37 := Tryz.zeroValue70
 t70 := Tryz.underlying69
 a70 := Tryz.isAgg69
 z70 := Tryz.sizeOf69
 v70 := Tryz.zeroValue69
 t72 := Tryz.underlying72
 a72 := Tryz.isAgg72
 z72 := Tryz.sizeOf72
 v72 := Tryz.zeroValue72
 t75 := Tryz.underlying81
 a75 := Tryz.isAgg81
 z75 := Tryz.sizeOf81
 v75 := Tryz.zeroValue81
 t76 := Tryz.underlying82
 a76 := Tryz.isAgg82
 z76 := Tryz.sizeOf82
 v76 := Tryz.zeroValue82
 t127 := Tryz.underlying117
 a127 := Tryz.isAgg117
 z127 := Tryz.sizeOf117
 v127 := Tryz.zeroValue117
 t164 := Tryz.underlying148
 a164 := Tryz.isAgg148
 z164 := Tryz.sizeOf148
 v164 := Tryz.zeroValue148 }
theorem Tryz.Builder_Extra_156 : Builder.Extra Tryz.prog Tryz.lays156_ren := {
 sizeBuilder := by kernel_rfl
 liesBuilder := by kernel_rfl
 t5 := Tryz.underlying5
 a5 := Tryz.isAgg5
 z5 := Tryz.sizeOf5
 v5 := Tryz.zeroValue5
 infoByte := by kernel_rfl
 cellsByte := by kernel_rfl
 sizeByte := by kernel_rfl
 neB5 := by decide }
open Go.RowKit in
theorem Tryz.strings_Join_none (a : Option Addr) (c : Nat) (sep : ByteArray) (w : World) :
  Calls Tryz.prog 23 #[.slice a 0 c, .string sep] w fun e w' => e = .returned (.string ⟨#[]⟩) ∧ w' = w := Any.strings_Join_none Tryz.lays156 Tryz.Builder_Extra_156 a c sep w
open Go.RowKit in
theorem Tryz.strings_Join (bk o c : Nat) (xs : List ByteArray) (sep : ByteArray) (w : World) (hcells : ∀ (j : Nat) x, xs[j]? = some x → w.cell? ⟨bk, o + j, none⟩ = some (.string x)) (hbk : bk < w.heap.size) (hN : xs.length ≤ 140737488355328) (hcap : xs.length ≤ c) (hlen : (Lib.join (xs.map (·.data.toList)) sep.data.toList).length ≤ 140737488355328) :
  Calls Tryz.prog 23 #[.slice (some ⟨bk, o, none⟩) xs.length c, .string sep] w fun e w' => e = .returned (.string ⟨(Lib.join (xs.map (·.data.toList)) sep.data.toList).toArray⟩) ∧ Below w.heap.size w w' := Any.strings_Join Tryz.lays156 Tryz.Builder_Extra_156 bk o c xs sep w hcells hbk hN hcap hlen
def Tryz.lays121_ren : Go.Shelf.Ren := ⟨fun | 121 => 79 | 214 => 112 | n => n, fun | 4 => 4 | 9 => 9 | n => n, fun | n => n⟩
theorem Tryz.lays121 : Go.Proofs.Lays.n121 Tryz.prog Tryz.lays121_ren := {
 mixed := by kernel_rfl
 f121 := Tryz.func79.trans (congrArg some (by kernel_rfl))
 f214 := Tryz.func112.trans (congrArg some (by kernel_rfl))
 t4 := Tryz.underlying4
 a4 := Tryz.isAgg4
 z4 := Tryz.sizeOf4
 v4 := Tryz.zeroValue4
 t9 := Tryz.underlying9
 a9 := Tryz.isAgg9
 z9 := Tryz.sizeOf9
 v9 := Tryz.zeroValue9 }
open Go.RowKit in
theorem Tryz.strconv_FormatBool (b : Bool) (w : World) :
  Calls Tryz.prog 79 #[.bool b] w fun e w' => e = .returned (.string ⟨(Lib.formatBool b).toArray⟩) ∧ w' = w := Any.strconv_FormatBool Tryz.lays121 b w
def Tryz.laysM171_ren : Go.Shelf.Ren := ⟨fun | 171 => 35 | 243 => 65 | 246 => 103 | 283 => 126 | 284 => 127 | 285 => 128 | 286 => 129 | 129 => 145 | 317 => 144 | 318 => 146 | 319 => 147 | 320 => 148 | 337 => 163 | 338 => 164 | n => n, fun | 3 => 3 | 9 => 9 | 2 => 2 | 4 => 4 | 171 => 173 | 0 => 0 | 53 => 174 | 37 => 70 | 5 => 5 | 173 => 177 | 212 => 194 | 51 => 189 | 20 => 20 | 213 => 195 | 46 => 165 | 232 => 213 | 233 => 214 | n => n, fun | 17 => 1 | 18 => 4 | 19 => 5 | n => n⟩
theorem Tryz.laysM171 : Go.Proofs.LaysM.n171 Tryz.prog Tryz.laysM171_ren := {
 mixed := by kernel_rfl
 f129 := Tryz.func145.trans (congrArg some (by kernel_rfl))
 f171 := Tryz.func35.trans (congrArg some (by kernel_rfl))
 f243 := Tryz.func65.trans (congrArg some (by kernel_rfl))
 f246 := Tryz.func103.trans (congrArg some (by kernel_rfl))
 f283 := Tryz.func126.trans (congrArg some (by kernel_rfl))
 f284 := Tryz.func127.trans (congrArg some (by kernel_rfl))
 f285 := Tryz.func128.trans (congrArg some (by kernel_rfl))
 f286 := Tryz.func129.trans (congrArg some (by kernel_rfl))
 f317 := Tryz.func144.trans (congrArg some (by kernel_rfl))
 f318 := Tryz.func146.trans (congrArg some (by kernel_rfl))
 f319 := Tryz.func147.trans (congrArg some (by kernel_rfl))
 f320 := Tryz.func148.trans (congrArg some (by kernel_rfl))
 f337 := Tryz.func163.trans (congrArg some (by kernel_rfl))
 f338 := Tryz.func164.trans (congrArg some (by kernel_rfl))
 t0 := Tryz.underlying0
 a0 := Tryz.isAgg0
 z0 := Tryz.sizeOf0
 v0 := Tryz.zeroValue0
 t2 := Tryz.underlying2
 a2 := Tryz.isAgg2
 z2 := Tryz.sizeOf2
 v2 := Tryz.zeroValue2
 t3 := Tryz.underlying3
 a3 := Tryz.isAgg3
 z3 := Tryz.sizeOf3
 v3 := Tryz.zeroValue3
 t4 := Tryz.underlying4
 a4 := Tryz.isAgg4
 z4 := Tryz.sizeOf4
 v4 := Tryz.zeroValue4
 t5 := Tryz.underlying5
 a5 := Tryz.isAgg5
 z5 := Tryz.sizeOf5
 v5 := Tryz.zeroValue5
 t9 := Tryz.underlying9
 a9 := Tryz.isAgg9
 z9 := Tryz.sizeOf9
 v9 := Tryz.zeroValue9
 t20 := Tryz.underlying20
 a20 := Tryz.isAgg20
 z20 := Tryz.sizeOf20
 v20 := Tryz.zeroValue20
 t37 := Tryz.underlying70
 a37 := Tryz.isAgg70
 z37 := Tryz.sizeOf70
 v37 := Tryz.zeroValue70
 t46 := Tryz.underlying165
 a46 := Tryz.isAgg165
 z46 := Tryz.sizeOf165
 v46 := Tryz.zeroValue165
 t51 := Tryz.underlying189
 a51 := Tryz.isAgg189
 z51 := Tryz.sizeOf189
 v51 := Tryz.zeroValue189
 t53 := Tryz.underlying174
 a53 := Tryz.isAgg174
 z53 := Tryz.sizeOf174
 v53 := Tryz.zeroValue174
 t171 := Tryz.underlying173
 a171 := Tryz.isAgg173
 z171 := Tryz.sizeOf173
 v171 := Tryz.zeroValue173
 t173 := Tryz.underlying177
 a173 := Tryz.isAgg177
 z173 := Tryz.sizeOf177
 v173 := Tryz.zeroValue177
 t212 := Tryz.underlying194
 a212 := Tryz.isAgg194
 z212 := Tryz.sizeOf194
 v212 := Tryz.zeroValue194
 t213 := Tryz.underlying195
 a213 := Tryz.isAgg195
 z213 := Tryz.sizeOf195
 t232 := Tryz.underlying213
 a232 := Tryz.isAgg213
 z232 := Tryz.sizeOf213
 v232 := Tryz.zeroValue213
 t233 := Tryz.underlying214
 a233 := Tryz.isAgg214
 z233 := Tryz.sizeOf214
 v233 := Tryz.zeroValue214
 g17 := by kernel_rfl
 g18 := by kernel_rfl
 g19 := by kernel_rfl
 i0 := by kernel_rfl
 i2 := by kernel_rfl
 i3 := by kernel_rfl
 i4 := by kernel_rfl
 i5 := by kernel_rfl
 i9 := by kernel_rfl
 i20 := by kernel_rfl
 i37 := by kernel_rfl
 i46 := by kernel_rfl
 i51 := by kernel_rfl
 i53 := by kernel_rfl
 i171 := by kernel_rfl
 i173 := by kernel_rfl
 i212 := by kernel_rfl
 i232 := by kernel_rfl
 i233 := by kernel_rfl
 m17 := by kernel_rfl
 m18 := by kernel_rfl
 m19 := by kernel_rfl }
open Go.RowKit Go.Sort Go.Lib in
theorem Tryz.strconv_Itoa (n : Int) (h0 : -9223372036854775808 ≤ n) (h1 : n ≤ 9223372036854775807) (w : World) (htab : Lib.TabIs Tryz.prog w "internal/strconv.uint64pow10" .u64 Lib.pow10Tab) :
  Calls Tryz.prog 35 #[.int .i64 n] w fun e w' => e = .returned (.string ⟨(Lib.itoa n).toArray⟩) ∧ ∃ k os, w' = grow (w.drewN k) os := Any.strconv_Itoa Tryz.laysM171 n h0 h1 w htab
def Tryz.lays171_ren : Go.Shelf.Ren := ⟨fun | 171 => 35 | 243 => 65 | 246 => 103 | 283 => 126 | 284 => 127 | 285 => 128 | 286 => 129 | 129 => 145 | 317 => 144 | 318 => 146 | 319 => 147 | 320 => 148 | 337 => 163 | 338 => 164 | n => n, fun | 3 => 3 | 9 => 9 | 2 => 2 | 4 => 4 | 171 => 173 | 0 => 0 | 53 => 174 | 37 => 70 | 5 => 5 | 173 => 177 | 212 => 194 | 51 => 189 | 20 => 20 | 213 => 195 | 46 => 165 | 232 => 213 | 233 => 214 | n => n, fun | 17 => 1 | 18 => 4 | 19 => 5 | n => n⟩
theorem Tryz.lays171 : Go.Proofs.Lays.n171 Tryz.prog Tryz.lays171_ren := {
 mixed := by kernel_rfl
 f129 := Tryz.func145.trans (congrArg some (by kernel_rfl))
 f171 := Tryz.func35.trans (congrArg some (by kernel_rfl))
 f243 := Tryz.func65.trans (congrArg some (by kernel_rfl))
 f246 := Tryz.func103.trans (congrArg some (by kernel_rfl))
 f283 := Tryz.func126.trans (congrArg some (by kernel_rfl))
 f284 := Tryz.func127.trans (congrArg some (by kernel_rfl))
 f285 := Tryz.func128.trans (congrArg some (by kernel_rfl))
 f286 := Tryz.func129.trans (congrArg some (by kernel_rfl))
 f317 := Tryz.func144.trans (congrArg some (by kernel_rfl))
 f318 := Tryz.func146.trans (congrArg some (by kernel_rfl))
 f319 := Tryz.func147.trans (congrArg some (by kernel_rfl))
 f320 := Tryz.func148.trans (congrArg some (by kernel_rfl))
 f337 := Tryz.func163.trans (congrArg some (by kernel_rfl))
 f338 := Tryz.func164.trans (congrArg some (by kernel_rfl))
 t0 := Tryz.underlying0
 a0 := Tryz.isAgg0
 z0 := Tryz.sizeOf0
 v0 := Tryz.zeroValue0
 t2 := Tryz.underlying2
 a2 := Tryz.isAgg2
 z2 := Tryz.sizeOf2
 v2 := Tryz.zeroValue2
 t3 := Tryz.underlying3
 a3 := Tryz.isAgg3
 z3 := Tryz.sizeOf3
 v3 := Tryz.zeroValue3
 t4 := Tryz.underlying4
 a4 := Tryz.isAgg4
 z4 := Tryz.sizeOf4
 v4 := Tryz.zeroValue4
 t5 := Tryz.underlying5
 a5 := Tryz.isAgg5
 z5 := Tryz.sizeOf5
 v5 := Tryz.zeroValue5
 t9 := Tryz.underlying9
 a9 := Tryz.isAgg9
 z9 := Tryz.sizeOf9
 v9 := Tryz.zeroValue9
 t20 := Tryz.underlying20
 a20 := Tryz.isAgg20
 z20 := Tryz.sizeOf20
 v20 := Tryz.zeroValue20
 t37 := Tryz.underlying70
 a37 := Tryz.isAgg70
 z37 := Tryz.sizeOf70
 v37 := Tryz.zeroValue70
 t46 := Tryz.underlying165
 a46 := Tryz.isAgg165
 z46 := Tryz.sizeOf165
 v46 := Tryz.zeroValue165
 t51 := Tryz.underlying189
 a51 := Tryz.isAgg189
 z51 := Tryz.sizeOf189
 v51 := Tryz.zeroValue189
 t53 := Tryz.underlying174
 a53 := Tryz.isAgg174
 z53 := Tryz.sizeOf174
 v53 := Tryz.zeroValue174
 t171 := Tryz.underlying173
 a171 := Tryz.isAgg173
 z171 := Tryz.sizeOf173
 v171 := Tryz.zeroValue173
 t173 := Tryz.underlying177
 a173 := Tryz.isAgg177
 z173 := Tryz.sizeOf177
 v173 := Tryz.zeroValue177
 t212 := Tryz.underlying194
 a212 := Tryz.isAgg194
 z212 := Tryz.sizeOf194
 v212 := Tryz.zeroValue194
 t213 := Tryz.underlying195
 a213 := Tryz.isAgg195
 z213 := Tryz.sizeOf195
 t232 := Tryz.underlying213
 a232 := Tryz.isAgg213
 z232 := Tryz.sizeOf213
 v232 := Tryz.zeroValue213
 t233 := Tryz.underlying214
 a233 := Tryz.isAgg214
 z233 := Tryz.sizeOf214
 v233 := Tryz.zeroValue214
 g17 := by kernel_rfl
 g18 := by kernel_rfl
 g19 := by kernel_rfl }
open Go.RowKit Go.Sort Go.Lib in
theorem Tryz.strconv_Itoa_small (i : Nat) (hi : i < 100) (w : World) :
  Calls Tryz.prog 35 #[.int .i64 i] w fun e w' => e = .returned (.string ⟨(Lib.decDigits i).toArray⟩) ∧ w' = w := Any.strconv_Itoa_small Tryz.lays171 i hi w
def Tryz.laysM173_ren : Go.Shelf.Ren := ⟨fun | 173 => 80 | 246 => 103 | 283 => 126 | 284 => 127 | 285 => 128 | 286 => 129 | 129 => 145 | 317 => 144 | 318 => 146 | 319 => 147 | 320 => 148 | 337 => 163 | 338 => 164 | n => n, fun | 2 => 2 | 3 => 3 | 9 => 9 | 4 => 4 | 171 => 173 | 0 => 0 | 53 => 174 | 37 => 70 | 5 => 5 | 173 => 177 | 212 => 194 | 51 => 189 | 20 => 20 | 213 => 195 | 46 => 165 | 232 => 213 | 233 => 214 | n => n, fun | 17 => 1 | 18 => 4 | 19 => 5 | n => n⟩
theorem Tryz.laysM173 : Go.Proofs.LaysM.n173 Tryz.prog Tryz.laysM173_ren := {
 mixed := by kernel_rfl
 f129 := Tryz.func145.trans (congrArg some (by kernel_rfl))
 f173 := Tryz.func80.trans (congrArg some (by kernel_rfl))
 f246 := Tryz.func103.trans (congrArg some (by kernel_rfl))
 f283 := Tryz.func126.trans (congrArg some (by kernel_rfl))
 f284 := Tryz.func127.trans (congrArg some (by kernel_rfl))
 f285 := Tryz.func128.trans (congrArg some (by kernel_rfl))
 f286 := Tryz.func129.trans (congrArg some (by kernel_rfl))
 f317 := Tryz.func144.trans (congrArg some (by kernel_rfl))
 f318 := Tryz.func146.trans (congrArg some (by kernel_rfl))
 f319 := Tryz.func147.trans (congrArg some (by kernel_rfl))
 f320 := Tryz.func148.trans (congrArg some (by kernel_rfl))
 f337 := Tryz.func163.trans (congrArg some (by kernel_rfl))
 f338 := Tryz.func164.trans (congrArg some (by kernel_rfl))
 t0 := Tryz.underlying0
 a0 := Tryz.isAgg0
 z0 := Tryz.sizeOf0
 v0 := Tryz.zeroValue0
 t2 := Tryz.underlying2
 a2 := Tryz.isAgg2
 z2 := Tryz.sizeOf2
 v2 := Tryz.zeroValue2
 t3 := Tryz.underlying3
 a3 := Tryz.isAgg3
 z3 := Tryz.sizeOf3
 v3 := Tryz.zeroValue3
 t4 := Tryz.underlying4
 a4 := Tryz.isAgg4
 z4 := Tryz.sizeOf4
 v4 := Tryz.zeroValue4
 t5 := Tryz.underlying5
 a5 := Tryz.isAgg5
 z5 := Tryz.sizeOf5
 v5 := Tryz.zeroValue5
 t9 := Tryz.underlying9
 a9 := Tryz.isAgg9
 z9 := Tryz.sizeOf9
 v9 := Tryz.zeroValue9
 t20 := Tryz.underlying20
 a20 := Tryz.isAgg20
 z20 := Tryz.sizeOf20
 v20 := Tryz.zeroValue20
 t37 := Tryz.underlying70
 a37 := Tryz.isAgg70
 z37 := Tryz.sizeOf70
 v37 := Tryz.zeroValue70
 t46 := Tryz.underlying165
 a46 := Tryz.isAgg165
 z46 := Tryz.sizeOf165
 v46 := Tryz.zeroValue165
 t51 := Tryz.underlying189
 a51 := Tryz.isAgg189
 z51 := Tryz.sizeOf189
 v51 := Tryz.zeroValue189
 t53 := Tryz.underlying174
 a53 := Tryz.isAgg174
 z53 := Tryz.sizeOf174
 v53 := Tryz.zeroValue174
 t171 := Tryz.underlying173
 a171 := Tryz.isAgg173
 z171 := Tryz.sizeOf173
 v171 := Tryz.zeroValue173
 t173 := Tryz.underlying177
 a173 := Tryz.isAgg177
 z173 := Tryz.sizeOf177
 v173 := Tryz.zeroValue177
 t212 := Tryz.underlying194
 a212 := Tryz.isAgg194
 z212 := Tryz.sizeOf194
 v212 := Tryz.zeroValue194
 t213 := Tryz.underlying195
 a213 := Tryz.isAgg195
 z213 := Tryz.sizeOf195
 t232 := Tryz.underlying213
 a232 := Tryz.isAgg213
 z232 := Tryz.sizeOf213
 v232 := Tryz.zeroValue213
 t233 := Tryz.underlying214
 a233 := Tryz.isAgg214
 z233 := Tryz.sizeOf214
 v233 := Tryz.zeroValue214
 g17 := by kernel_rfl
 g18 := by kernel_rfl
 g19 := by kernel_rfl
 i0 := by kernel_rfl
 i2 := by kernel_rfl
 i3 := by kernel_rfl
 i4 := by kernel_rfl
 i5 := by kernel_rfl
 i9 := by kernel_rfl
 i20 := by kernel_rfl
 i37 := by kernel_rfl
 i46 := by kernel_rfl
 i51 := by kernel_rfl
 i53 := by kernel_rfl
 i171 := by kernel_rfl
 i173 := by kernel_rfl
 i212 := by kernel_rfl
 i232 := by kernel_rfl
 i233 := by kernel_rfl
 m17 := by kernel_rfl
 m18 := by kernel_rfl
 m19 := by kernel_rfl }
open Go.RowKit Go.Sort Go.Lib in
theorem Tryz.strconv_FormatInt_10 (n : Int) (h0 : -9223372036854775808 ≤ n) (h1 : n ≤ 9223372036854775807) (w : World) (htab : Lib.TabIs Tryz.prog w "internal/strconv.uint64pow10" .u64 Lib.pow10Tab) :
  Calls Tryz.prog 80 #[.int .i64 n, .int .i64 10] w fun e w' => e = .returned (.string ⟨(Lib.itoa n).toArray⟩) ∧ ∃ k os, w' = grow (w.drewN k) os := Any.strconv_FormatInt_10 Tryz.laysM173 n h0 h1 w htab
def Tryz.lays144_ren : Go.Shelf.Ren := ⟨fun | 144 => 26 | 143 => 58 | 219 => 92 | 217 => 104 | 225 => 114 | 224 => 115 | 267 => 116 | 266 => 130 | 314 => 141 | n => n, fun | 9 => 9 | 4 => 4 | 3 => 3 | 5 => 5 | 46 => 165 | 146 => 190 | 51 => 189 | n => n, fun | 1 => 0 | n => n⟩
theorem Tryz.lays144 : Go.Proofs.Lays.n144 Tryz.prog Tryz.lays144_ren := {
 mixed := by kernel_rfl
 f143 := Tryz.func58.trans (congrArg some (by kernel_rfl))
 f144 := Tryz.func26.trans (congrArg some (by kernel_rfl))
 f217 := Tryz.func104.trans (congrArg some (by kernel_rfl))
 f219 := Tryz.func92.trans (congrArg some (by kernel_rfl))
 f224 := Tryz.func115.trans (congrArg some (by kernel_rfl))
 f225 := Tryz.func114.trans (congrArg some (by kernel_rfl))
 f266 := Tryz.func130.trans (congrArg some (by kernel_rfl))
 f267 := Tryz.func116.trans (congrArg some (by kernel_rfl))
 f314 := Tryz.func141.trans (congrArg some (by kernel_rfl))
 t3 := Tryz.underlying3
 a3 := Tryz.isAgg3
 z3 := Tryz.sizeOf3
 v3 := Tryz.zeroValue3
 t4 := Tryz.underlying4
 a4 := Tryz.isAgg4
 z4 := Tryz.sizeOf4
 v4 := Tryz.zeroValue4
 t5 := Tryz.underlying5
 a5 := Tryz.isAgg5
 z5 := Tryz.sizeOf5
 v5 := Tryz.zeroValue5
 t9 := Tryz.underlying9
 a9 := Tryz.isAgg9
 z9 := Tryz.sizeOf9
 v9 := Tryz.zeroValue9
 t46 := Tryz.underlying165
 a46 := Tryz.isAgg165
 z46 := Tryz.sizeOf165
 v46 := Tryz.zeroValue165
 t51 := Tryz.underlying189
 a51 := Tryz.isAgg189
 z51 := Tryz.sizeOf189
 v51 := Tryz.zeroValue189
 t146 := Tryz.underlying190
 a146 := Tryz.isAgg190
 z146 := Tryz.sizeOf190
 v146 := Tryz.zeroValue190
 g1 := by kernel_rfl }
open Go.RowKit Go.Lib in
theorem Tryz.strings_Contains_one (s : ByteArray) (c : UInt8) (w : World) :
  Calls Tryz.prog 26 #[.string s, .string ⟨#[c]⟩] w fun e w' => e = .returned (.bool (decide (0 ≤ Lib.indexByte s.data.toList c))) ∧ w' = w := Any.strings_Contains_one Tryz.lays144 s c w
end Go.Proofs
namespace Go.Proofs.YtnpkdiffpgcbhaaGreatDoor
open Go.RowKit
theorem bld_string (B b : Nat) (bs : List Value) (s : ByteArray) (w : World) (h : Lib.IsBuilder 72 5 B b bs w) (hlen : bs.length + s.size ≤ 140737488355328) (hBw : B ≤ w.heap.size) :
  Calls Tryz.prog 28 #[.pointer (some ⟨b, 0, none⟩), .string s] w fun e w' => e = .returned (.tuple #[.int .i64 s.size, .nilIface]) ∧ Lib.BuilderAt 72 5 B b (.pointer (some ⟨b, 0, none⟩)) (bs ++ Lib.strCells s) w' ∧ Below B w w' := by
 obtain ⟨i0, hi, hz0, hz1, hz2⟩ := info_parts infoB
 go_enter Tryz.func28, Tryz.ntmps28
 go_wp2_with (go_at_call 60; refine (bld_check B b bs _ h).mono ?_)
 rintro e w1 ⟨rfl, h1, hb1⟩
 obtain ⟨hB, v, hbk, hown, hne⟩ := h1
 have c0 : w1.cell? ⟨b, 0, none⟩ = some (.pointer (some ⟨b, 0, none⟩)) := by rw [Lib.cell_of_heap hbk]; rfl
 have c1 : w1.cell? ⟨b, 1, none⟩ = some v := by rw [Lib.cell_of_heap hbk]; rfl
 go_wp2_with (at_builtin; refine Lib.wpList_append_own_string _ rfl _ _ 70 9 rfl B 5 i0 Tryz.underlying70 Tryz.underlying9 hi hz0 hz1 hz2 _ _ _ rfl hown s rfl ?c3 ?c4 ?c5 ?_)
 case c3 => unfold maxLen; omega
 case c4 => omega
 case c5 => have := hb1.size; omega
 intro v' w2 hown' hgrow _
 have hlt : b < w1.heap.size := by
  rcases Nat.lt_or_ge b w1.heap.size with h' | h'
  ·exact h'
  ·simp [Array.getElem?_eq_none h'] at hbk
 have hb2 : w2.heap[b]? = some (.cells #[.pointer (some ⟨b, 0, none⟩), v] 72 (0, 0)) := by
  rw [hgrow.block b hlt (fun e => hne e.symm)]
  exact hbk
 have d0 : w2.cell? ⟨b, 0, none⟩ = some (.pointer (some ⟨b, 0, none⟩)) := by rw [Lib.cell_of_heap hb2]; rfl
 have d1 : w2.cell? ⟨b, 1, none⟩ = some v := by rw [Lib.cell_of_heap hb2]; rfl
 have f1 : w2.frozen? ⟨b, 1, none⟩ = false := Lib.frozen_of_heap hb2 1
 obtain ⟨ao, n', cap, rfl⟩ : ∃ ao n' cap, v' = .slice ao n' cap := by
  rcases hown'.2 with ⟨hv, _⟩ | ⟨g, cap, cur, hv, _⟩
  ·exact ⟨_, _, _, hv⟩
  ·exact ⟨_, _, _, hv⟩
 go_wp2
 go_ret2
 refine ⟨rfl, ?_, ?_⟩
 ·exact Lib.BuilderAt.put (T := 72) (e := 5) hB hb2 (bs' := bs ++ Lib.strCells s) (by simpa [Lib.strCells_length] using hown') (by decide)
 ·exact (hb1.grown hgrow (by have := hb1.size; omega) (fun k hk => (hown.lt k hk).1)).setCell (p := ⟨b, 1, none⟩) hB _
end Go.Proofs.YtnpkdiffpgcbhaaGreatDoor
namespace Go.Proofs.YtnpkdiffpgcbhaaGreatDoor
def commas : List Bs → List Bs
 | [] => []
 | [x] => [x]
 | x :: y :: r => x :: [44] :: commas (y :: r)
def wrB : GV → Bs
 | .mk k b i t l =>
  if k = 0 then wNull
  else if k = 1 then (if b then wTrue else wFalse)
  else if k = 2 then (if i < 0 then 45 :: 32 :: Go.Lib.decDigits i.natAbs else Go.Lib.decDigits i.toNat)
  else if k = 3 then quoteB t
  else if k = 5 then 63 :: 32 :: Go.Lib.itoa i
  else joinSp ([91] :: (commas (l.attach.map fun x => wrB x.1) ++ [[93]]))
decreasing_by
 all_goals simp_wf
 have := List.sizeOf_lt_of_mem x.2
 omega
theorem wrB_mk (k : Int) (b : Bool) (i : Int) (t : Bs) (l : List GV) : wrB (.mk k b i t l) =
  if k = 0 then wNull
  else if k = 1 then (if b then wTrue else wFalse)
  else if k = 2 then (if i < 0 then 45 :: 32 :: Go.Lib.decDigits i.natAbs else Go.Lib.decDigits i.toNat)
  else if k = 3 then quoteB t
  else if k = 5 then 63 :: 32 :: Go.Lib.itoa i
  else joinSp ([91] :: (commas (l.map wrB) ++ [[93]])) := by
 rw [wrB, attach_map l wrB]
abbrev srcs (l : List Tok) : List Bs := l.map (·.1)
theorem commas_flat : ∀ (l : List (List Tok)), ∃ L : List (List Bs), commas (l.map fun x => joinSp (srcs x)) = L.map joinSp ∧ L.flatten = srcs (between commaT l) ∧ ((∀ x ∈ l, x ≠ []) → ∀ x ∈ L, x ≠ [])
 | [] => ⟨[], rfl, rfl, fun _ => by simp⟩
 | [x] => ⟨[srcs x], rfl, by simp [between], fun h y hy => by simp at hy; subst hy; simpa [srcs] using h x (by simp)⟩
 | x :: y :: r => by
  obtain ⟨L, h1, h2, h3⟩ := commas_flat (y :: r)
  refine ⟨srcs x :: [[44]] :: L, ?_, ?_, fun h z hz => ?_⟩
  ·rw [List.map_cons, List.map_cons] at *
   rw [commas, h1]; rfl
  ·rw [List.flatten_cons, List.flatten_cons, h2, between]; simp [srcs, commaT, markT]
  ·rcases List.mem_cons.1 hz with rfl | hz
   ·simpa [srcs] using h x (by simp)
   ·rcases List.mem_cons.1 hz with rfl | hz
    ·simp
    ·exact h3 (fun u hu => h u (List.mem_cons_of_mem _ hu)) z hz
theorem wrB_ok {d : Nat} {v : GV} (h : OkV d v) : wrB v = joinSp (srcs (valToks v)) ∧ valToks v ≠ [] := by
 induction h with
 | null d => rw [valToks_null]; exact ⟨by rw [nullV, wrB_mk]; rfl, by simp⟩
 | bool d b => rw [valToks_bool]; exact ⟨by rw [boolV, wrB_mk]; rfl, by simp⟩
 | nat d n h =>
  rw [valToks_nat]
  refine ⟨?_, by simp⟩
  rw [intV, wrB_mk, if_neg (by decide), if_neg (by decide), if_pos rfl, if_neg (by omega)]; rfl
 | neg d n h =>
  rw [valToks_neg]
  refine ⟨?_, by simp⟩
  rw [intV, wrB_mk, if_neg (by decide), if_neg (by decide), if_pos rfl, if_pos (by omega)]
  have : (-((n + 1 : Nat) : Int)).natAbs = n + 1 := by omega
  rw [this]; rfl
 | text d t h => rw [valToks_text]; exact ⟨by rw [textV, wrB_mk]; rfl, by simp⟩
 | fact d n h =>
  rw [valToks_fact]
  refine ⟨?_, by simp⟩
  rw [factV, wrB_mk, if_neg (by decide), if_neg (by decide), if_neg (by decide), if_neg (by decide), if_pos rfl]
  have : Go.Lib.itoa ((n + 1 : Nat) : Int) = Go.Lib.decDigits (n + 1) := by unfold Go.Lib.itoa; rw [if_neg (by omega)]; rfl
  rw [this]; rfl
 | list d l h hl ih =>
  rw [valToks_list]
  refine ⟨?_, by simp⟩
  rw [listV, wrB_mk, if_neg (by decide), if_neg (by decide), if_neg (by decide), if_neg (by decide), if_neg (by decide)]
  obtain ⟨L, h1, h2, h3⟩ := commas_flat (l.map valToks)
  have e1 : l.map wrB = (l.map valToks).map fun x => joinSp (srcs x) := by
   rw [List.map_map]
   exact List.map_congr_left (fun v hv => (ih v hv).1)
  have e2 : [91] :: (commas (l.map wrB) ++ [[93]]) = ([[91]] :: (L ++ [[[93]]])).map joinSp := by
   rw [e1, h1]; simp [joinSp]
  rw [e2, joinSp_flat]
  ·rw [List.flatten_cons, List.flatten_append, h2, srcs, srcs, List.map_cons, List.map_append]; rfl
  ·intro x hx
   rcases List.mem_cons.1 hx with rfl | hx
   ·simp
   ·rcases List.mem_append.1 hx with hx | hx
    ·refine h3 (fun y hy => ?_) x hx
     obtain ⟨v, hv, rfl⟩ := List.mem_map.1 hy
     exact (ih v hv).2
    ·simp at hx; subst hx; simp
def wEq : Bs := [32, 61, 32]
def setsB (l : List (Bs × GV)) : List Bs := [123] :: (commas (l.map fun g => g.1 ++ wEq ++ wrB g.2) ++ [[125]])
def argB (a : Bool × GV) : Bs := if a.1 then wrB a.2 else [42]
def spellB (o : OpV) : List Bs :=
 if o.kind = 1 then wInsert :: o.cls :: setsB o.set
 else if o.kind = 2 then wUpdate :: [63] :: Go.Lib.itoa o.handle :: setsB o.set
 else if o.kind = 3 then [wDelete, [63], Go.Lib.itoa o.handle]
 else if o.kind = 4 then [wFocus, quoteB o.text]
 else if o.kind = 5 then [wFlow, quoteB o.text, if o.on then wOn else wOff]
 else if o.kind = 6 then [wFire, Go.Lib.itoa o.n]
 else if o.kind = 7 then wQuery :: o.text :: [40] :: (commas (o.args.map argB) ++ [[41]])
 else []
def lineG (o : OpV) : Bs := joinSp (spellB o)
theorem itoa_nat (n : Nat) : Go.Lib.itoa (n : Int) = Go.Lib.decDigits n := by unfold Go.Lib.itoa; rw [if_neg (by omega)]; rfl
theorem commas_toks {α : Type} (tk : α → List Tok) (tx : α → Bs) (l : List α) (h : ∀ a ∈ l, tx a = joinSp (srcs (tk a)) ∧ tk a ≠ []) (a b : List Bs) :
  joinSp (a ++ (commas (l.map tx) ++ b)) = joinSp (a ++ (srcs (between commaT (l.map tk)) ++ b)) := by
 obtain ⟨L, h1, h2, h3⟩ := commas_flat (l.map tk)
 have e1 : l.map tx = (l.map tk).map fun x => joinSp (srcs x) := by
  rw [List.map_map]
  exact List.map_congr_left (fun v hv => (h v hv).1)
 have e2 : a ++ (commas (l.map tx) ++ b) = (a.map (fun x => [x]) ++ (L ++ b.map (fun x => [x]))).map joinSp := by
  rw [e1, h1]; simp [joinSp, Function.comp_def]
 have fl : ∀ (m : List Bs), (m.map (fun x => [x])).flatten = m := by
  intro m
  induction m with
  | nil => rfl
  | cons x m ih => rw [List.map_cons, List.flatten_cons, ih]; rfl
 rw [e2, joinSp_flat]
 ·rw [List.flatten_append, List.flatten_append, h2, fl, fl]
 ·intro x hx
  rcases List.mem_append.1 hx with hx | hx
  ·obtain ⟨y, _, rfl⟩ := List.mem_map.1 hx; simp
  ·rcases List.mem_append.1 hx with hx | hx
   ·refine h3 (fun y hy => ?_) x hx
    obtain ⟨v, hv, rfl⟩ := List.mem_map.1 hy
    exact (h v hv).2
   ·obtain ⟨y, _, rfl⟩ := List.mem_map.1 hx; simp
theorem givB_ok {g : Bs × GV} (h : OkG g) : g.1 ++ wEq ++ wrB g.2 = joinSp (srcs (givToks g)) ∧ givToks g ≠ [] := by
 obtain ⟨h1, h2⟩ := wrB_ok h.2
 refine ⟨?_, by simp [givToks]⟩
 have : srcs (givToks g) = g.1 :: [61] :: srcs (valToks g.2) := rfl
 rw [this, joinSp_cons _ (by simp), joinSp_cons _ (by simpa [srcs] using h2), h1]
 simp [wEq]
theorem argB_ok {a : Bool × GV} (h : OkA a) : argB a = joinSp (srcs (argToks a)) ∧ argToks a ≠ [] := by
 rcases h with ⟨h1, h2⟩ | rfl
 ·unfold argB argToks; rw [if_pos h1, if_pos h1]; exact wrB_ok h2
 ·exact ⟨rfl, by simp [argToks]⟩
theorem lineG_ok {o : OpV} (h : OkOp o) : lineG o = lineT o := by
 cases h with
 | insert c l h hl =>
  have := commas_toks givToks (fun g => g.1 ++ wEq ++ wrB g.2) l (fun g hg => givB_ok (hl g hg)) [wInsert, c, [123]] [[125]]
  show joinSp ([wInsert, c, [123]] ++ (commas (l.map fun g => g.1 ++ wEq ++ wrB g.2) ++ [[125]])) = _
  rw [this]
  simp [lineT, opToks, setToks, wordT, markT, srcs]
 | update n l h hl =>
  have := commas_toks givToks (fun g => g.1 ++ wEq ++ wrB g.2) l (fun g hg => givB_ok (hl g hg)) [wUpdate, [63], Go.Lib.itoa (n : Int), [123]] [[125]]
  show joinSp ([wUpdate, [63], Go.Lib.itoa (n : Int), [123]] ++ (commas (l.map fun g => g.1 ++ wEq ++ wrB g.2) ++ [[125]])) = _
  rw [this, itoa_nat]
  simp [lineT, opToks, setToks, wordT, markT, srcs, natT, intT]
 | delete n h =>
  show joinSp [wDelete, [63], Go.Lib.itoa (n : Int)] = _
  rw [itoa_nat]
  simp [lineT, opToks, wordT, markT, natT, intT]
 | focus t h => rfl
 | flow t b h => cases b <;> rfl
 | fire n h =>
  show joinSp [wFire, Go.Lib.itoa (n : Int)] = _
  rw [itoa_nat]
  simp [lineT, opToks, wordT, natT, intT]
 | query q l h hl =>
  have := commas_toks argToks argB l (fun a ha => argB_ok (hl a ha)) [wQuery, q, [40]] [[41]]
  show joinSp ([wQuery, q, [40]] ++ (commas (l.map argB) ++ [[41]])) = _
  rw [this]
  simp [lineT, opToks, argsToks, wordT, markT, srcs]
def deepB : Nat → GV → Bool
 | n, .mk _ _ _ _ l => n ≤ maxDeep && l.attach.all fun x => deepB (n + 1) x.1
decreasing_by
 all_goals simp_wf
 have := List.sizeOf_lt_of_mem x.2
 omega
theorem deepB_mk (n : Nat) (k : Int) (b : Bool) (i : Int) (t : Bs) (l : List GV) : deepB n (.mk k b i t l) = (decide (n ≤ maxDeep) && l.all fun x => deepB (n + 1) x) := by
 rw [deepB]
 congr 1
 rw [Bool.eq_iff_iff]
 simp
theorem deepB_ok {d : Nat} {v : GV} (h : OkV d v) : ∀ n, n + d ≤ maxDeep → deepB n v = true := by
 induction h with
 | list d l h hl ih =>
  intro n hn
  rw [listV, deepB_mk, Bool.and_eq_true, decide_eq_true_eq]
  refine ⟨by omega, ?_⟩
  rw [List.all_eq_true]
  exact fun v hv => ih v hv (n + 1) (by omega)
 | _ => intro n hn; simp only [nullV, boolV, intV, textV, factV, deepB_mk, List.all_nil, Bool.and_true, decide_eq_true_eq]; omega
def takesB (o : OpV) : Prop := (∀ g ∈ o.set, deepB 0 g.2 = true) ∧ (∀ a ∈ o.args, deepB 0 a.2 = true) ∧ lineF (lineG o) = some (some o) ∧ ∀ c ∈ lineG o, c ≠ 10
theorem takes_read {o : OpV} : takesB o ↔ Read o := by
 constructor
 ·intro h
  exact (lineF_read h.2.2.1).1
 ·intro h
  have e := lineG_ok h.ok
  refine ⟨?_, ?_, by rw [e]; exact lineF_back h.ok h.few, by rw [e]; exact lineT_no10 h.ok⟩
  ·have hk := h.ok
   intro g hg
   cases hk with
   | insert c l _ hl => exact deepB_ok (hl g hg).2 0 (by simp)
   | update n l _ hl => exact deepB_ok (hl g hg).2 0 (by simp)
   | _ => cases hg
  ·have hk := h.ok
   intro a ha
   cases hk with
   | query q l _ hl =>
    rcases hl a ha with ⟨_, h2⟩ | rfl
    ·exact deepB_ok h2 0 (by simp)
    ·exact deepB_ok (.null 0) 0 (by simp)
   | _ => cases ha
end Go.Proofs.YtnpkdiffpgcbhaaGreatDoor
namespace Go.Proofs.YtnpkdiffpgcbhaaGreatDoor
open Go.RowKit
attribute [local go_sem] Oper.semAt_some
theorem escQ_index (c : UInt8) : (Lib.indexByte [34, 92, 10, 9] c = -1 ∧ escQ c = [c]) ∨ (Lib.indexByte [34, 92, 10, 9] c = 0 ∧ escQ c = [92, 34]) ∨ (Lib.indexByte [34, 92, 10, 9] c = 1 ∧ escQ c = [92, 92]) ∨ (Lib.indexByte [34, 92, 10, 9] c = 2 ∧ escQ c = [92, 110]) ∨ (Lib.indexByte [34, 92, 10, 9] c = 3 ∧ escQ c = [92, 116]) := by
 by_cases h1 : c = 34
 ·subst h1; right; left; decide
 by_cases h2 : c = 92
 ·subst h2; right; right; left; decide
 by_cases h3 : c = 10
 ·subst h3; right; right; right; left; decide
 by_cases h4 : c = 9
 ·subst h4; right; right; right; right; decide
 left
 have e1 : (c == 34) = false := by simpa using h1
 have e2 : (c == 92) = false := by simpa using h2
 have e3 : (c == 10) = false := by simpa using h3
 have e4 : (c == 9) = false := by simpa using h4
 refine ⟨?_, by unfold escQ; simp [e1, e2, e3, e4]⟩
 have f1 : ((34 : UInt8) == c) = false := by simpa using fun e : 34 = c => h1 e.symm
 have f2 : ((92 : UInt8) == c) = false := by simpa using fun e : 92 = c => h2 e.symm
 have f3 : ((10 : UInt8) == c) = false := by simpa using fun e : 10 = c => h3 e.symm
 have f4 : ((9 : UInt8) == c) = false := by simpa using fun e : 9 = c => h4 e.symm
 simp [Lib.indexByte, f1, f2, f3, f4]
theorem qat_byte {w wl : World} {B : Nat} {acc : Bs} (h : QAt w wl B acc) (c : UInt8) (x : Int) (hx : x = (c.toNat : Int)) (hlen : acc.length + 1 ≤ 140737488355328) :
  Calls Tryz.prog 66 #[.pointer (some ⟨B, 0, none⟩), .int .u8 x] wl fun e w' => e = .returned .nilIface ∧ QAt w w' B (acc ++ [c]) := by
 subst hx
 refine (bld_byte B B (Lib.byteCells acc) (c.toNat : Int) wl h.bld (by rw [byteCells_length]; exact hlen) (by have := h.siz; have := h.bel.size; omega)).mono ?_
 rintro e w' ⟨rfl, h1, h2⟩
 refine ⟨rfl, ?_, h.bel.trans h2, h.siz⟩
 rw [byteCells_snoc]
 exact .inr h1
theorem take_flat {s : ByteArray} {k : Nat} (h : k < s.size) : (s.data.toList.take (k + 1)).flatMap escQ = (s.data.toList.take k).flatMap escQ ++ escQ (s[k]'h) := by
 have hl : k < s.data.toList.length := h
 have he : s.data.toList[k]'hl = s[k]'h := rfl
 rw [List.take_succ_eq_append_getElem hl, List.flatMap_append, he]
 simp
theorem quote_any {w : World} {s : ByteArray} (hs : s.size ≤ 1099511627776) : Calls Tryz.prog 37 #[.string s] w fun e w' => e = .returned (.string ⟨(quoteB s.data.toList).toArray⟩) ∧ FP nob w w' := by
 have hq0 : QAt w (w.alloc (.cells #[.pointer none, .slice none 0 0] 72)) w.heap.size [] := ⟨Lib.fresh_isBuilder 72 5 w, (Below.refl _ _).alloc (Nat.le_refl _) _, rfl⟩
 have HQ0 := Lib.hid hq0
 obtain ⟨B, hB⟩ : ∃ B, w.heap.size = B := ⟨_, rfl⟩
 have HB := Lib.hid hB
 clear hq0
 go_enter Tryz.func37, Tryz.ntmps37
 go_wp2_with fail
 have h1 := qat_byte (w := w) (by rw [← hB]; exact HQ0.out : QAt w _ B []) 34 34 (by decide) (by simp)
 refine h1.mono ?_
 rintro e w1 ⟨rfl, hq1⟩
 have HQ1 := Lib.hid hq1
 clear hq1 h1
 go_wp2_with fail
 go_loopg [9] (s.size + 1) (fun m i wr => ∃ (k : Nat) (acc : Bs), i = .int .i64 (k : Nat) ∧ k ≤ s.size ∧ s.size - k < m ∧ Hid (acc = 34 :: (s.data.toList.take k).flatMap escQ) ∧ acc.length ≤ 2 * k + 1 ∧ Hid (QAt w wr B acc))
 case atStart => exact ⟨0, [34], rfl, Nat.zero_le _, by omega, Lib.hid (by simp), by simp, HQ1⟩
 case round =>
  obtain ⟨k, acc, rfl, hk, hm, HA, hal, HQ⟩ := hrel
  by_cases hlt : k < s.size
  ·have hi0 : (0 : Int) ≤ (k : Int) := by omega
   have hi1 : (k : Int) < (s.size : Int) := by omega
   have hw1 : IntKind.i64.wrap ((k : Int) + 1) = (k : Int) + 1 := IntWalk.i64_in _ (by omega)
   obtain ⟨c, hc⟩ : ∃ c, s[k]'hlt = c := ⟨_, rfl⟩
   have hk67 : ∀ w, Calls Tryz.prog 67 #[.string ⟨#[34, 92, 10, 9]⟩, .int .u8 ((s[k]'hlt).toNat : Int)] w fun e w' => e = .returned (.int .i64 (Lib.indexByte [34, 92, 10, 9] (s[k]'hlt))) ∧ w' = w := fun w => by
    have := Tryz.strings_IndexByte ⟨#[34, 92, 10, 9]⟩ ((s[k]'hlt).toNat : Int) w
    rw [Int.toNat_natCast, show (s[k]'hlt).toNat.toUInt8 = s[k]'hlt from UInt8.toNat_inj.1 (by simp)] at this
    exact this
   have HK67 := Lib.hid hk67
   clear hk67 hc c
   rcases escQ_index (s[k]'hlt) with ⟨hi, he⟩ | ⟨hi, he⟩ | ⟨hi, he⟩ | ⟨hi, he⟩ | ⟨hi, he⟩
   ·have HI := Lib.hid hi
    have HE := Lib.hid he
    clear hi he
    have hk67 := HK67.out
    rw [HI.out] at hk67
    have HK := Lib.hid hk67
    clear hk67
    go_wp2_with fail
    refine (HK.out _).mono ?_
    rintro e w2 ⟨rfl, rfl⟩
    go_wp2_with fail
    refine (qat_byte HQ.out (s[k]'hlt) _ rfl (by omega)).mono ?_
    rintro e w3 ⟨rfl, hq3⟩
    have HQ3 := Lib.hid hq3
    clear hq3
    go_wp2_with fail
    go_roundg (s.size - (k + 1) + 1)
    case measure => omega
    case rel => exact ⟨k + 1, acc ++ [s[k]'hlt], rfl, by omega, by omega, Lib.hid (by rw [take_flat hlt, HE.out, HA.out]; simp), by simp; omega, HQ3⟩
   ·have HI := Lib.hid hi
    have HE := Lib.hid he
    clear hi he
    have hk67 := HK67.out
    rw [HI.out] at hk67
    have HK := Lib.hid hk67
    clear hk67
    go_wp2_with fail
    refine (HK.out _).mono ?_
    rintro e w2 ⟨rfl, rfl⟩
    go_wp2_with fail
    refine (qat_byte HQ.out 92 92 (by decide) (by omega)).mono ?_
    rintro e w3 ⟨rfl, hq3⟩
    have HQ3 := Lib.hid hq3
    clear hq3
    go_wp2_with fail
    refine (qat_byte HQ3.out 34 34 (by decide) (by simp; omega)).mono ?_
    rintro e w4 ⟨rfl, hq4⟩
    have HQ4 := Lib.hid hq4
    clear hq4
    go_wp2_with fail
    go_roundg (s.size - (k + 1) + 1)
    case measure => omega
    case rel => exact ⟨k + 1, acc ++ [92] ++ [34], rfl, by omega, by omega, Lib.hid (by rw [take_flat hlt, HE.out, HA.out]; simp), by simp; omega, HQ4⟩
   ·have HI := Lib.hid hi
    have HE := Lib.hid he
    clear hi he
    have hk67 := HK67.out
    rw [HI.out] at hk67
    have HK := Lib.hid hk67
    clear hk67
    go_wp2_with fail
    refine (HK.out _).mono ?_
    rintro e w2 ⟨rfl, rfl⟩
    go_wp2_with fail
    refine (qat_byte HQ.out 92 92 (by decide) (by omega)).mono ?_
    rintro e w3 ⟨rfl, hq3⟩
    have HQ3 := Lib.hid hq3
    clear hq3
    go_wp2_with fail
    refine (qat_byte HQ3.out 92 92 (by decide) (by simp; omega)).mono ?_
    rintro e w4 ⟨rfl, hq4⟩
    have HQ4 := Lib.hid hq4
    clear hq4
    go_wp2_with fail
    go_roundg (s.size - (k + 1) + 1)
    case measure => omega
    case rel => exact ⟨k + 1, acc ++ [92] ++ [92], rfl, by omega, by omega, Lib.hid (by rw [take_flat hlt, HE.out, HA.out]; simp), by simp; omega, HQ4⟩
   ·have HI := Lib.hid hi
    have HE := Lib.hid he
    clear hi he
    have hk67 := HK67.out
    rw [HI.out] at hk67
    have HK := Lib.hid hk67
    clear hk67
    go_wp2_with fail
    refine (HK.out _).mono ?_
    rintro e w2 ⟨rfl, rfl⟩
    go_wp2_with fail
    refine (qat_byte HQ.out 92 92 (by decide) (by omega)).mono ?_
    rintro e w3 ⟨rfl, hq3⟩
    have HQ3 := Lib.hid hq3
    clear hq3
    go_wp2_with fail
    refine (qat_byte HQ3.out 110 110 (by decide) (by simp; omega)).mono ?_
    rintro e w4 ⟨rfl, hq4⟩
    have HQ4 := Lib.hid hq4
    clear hq4
    go_wp2_with fail
    go_roundg (s.size - (k + 1) + 1)
    case measure => omega
    case rel => exact ⟨k + 1, acc ++ [92] ++ [110], rfl, by omega, by omega, Lib.hid (by rw [take_flat hlt, HE.out, HA.out]; simp), by simp; omega, HQ4⟩
   ·have HI := Lib.hid hi
    have HE := Lib.hid he
    clear hi he
    have hk67 := HK67.out
    rw [HI.out] at hk67
    have HK := Lib.hid hk67
    clear hk67
    go_wp2_with fail
    refine (HK.out _).mono ?_
    rintro e w2 ⟨rfl, rfl⟩
    go_wp2_with fail
    refine (qat_byte HQ.out 92 92 (by decide) (by omega)).mono ?_
    rintro e w3 ⟨rfl, hq3⟩
    have HQ3 := Lib.hid hq3
    clear hq3
    go_wp2_with fail
    refine (qat_byte HQ3.out 116 116 (by decide) (by simp; omega)).mono ?_
    rintro e w4 ⟨rfl, hq4⟩
    have HQ4 := Lib.hid hq4
    clear hq4
    go_wp2_with fail
    go_roundg (s.size - (k + 1) + 1)
    case measure => omega
    case rel => exact ⟨k + 1, acc ++ [92] ++ [116], rfl, by omega, by omega, Lib.hid (by rw [take_flat hlt, HE.out, HA.out]; simp), by simp; omega, HQ4⟩
  ·have hi1 : ¬ (k : Int) < (s.size : Int) := by omega
   have hke : k = s.size := by omega
   have HKE := Lib.hid hke
   clear hke
   go_wp2_with fail
   refine (qat_byte HQ.out 34 34 (by decide) (by omega)).mono ?_
   rintro e w2 ⟨rfl, hq2⟩
   have HQ2 := Lib.hid hq2
   clear hq2
   go_wp2_with fail
   refine (Tryz.Builder_String_any B B (acc ++ [34]) _ HQ2.out.bld (by have := HQ2.out.siz; have := HQ2.out.bel.size; omega)).mono ?_
   rintro e w3 ⟨rfl, hbel⟩
   have HBEL := Lib.hid (HQ2.out.bel.trans hbel)
   clear hbel
   go_wp2_with fail
   refine bodyPost_ret (v := .string ⟨(acc ++ [34]).toArray⟩) (by simp [results, Tryz.results37]) rfl ⟨?_, ?_⟩
   ·rw [HA.out, HKE.out]
    have : s.data.toList.take s.size = s.data.toList := List.take_length
    rw [this]
    rfl
   ·have hb := HBEL.out
    rw [← HB.out] at hb
    exact FP.ofBelow hb
end Go.Proofs.YtnpkdiffpgcbhaaGreatDoor
namespace Go.Proofs.YtnpkdiffpgcbhaaGreatDoor
open Go.RowKit
attribute [local go_sem] Oper.semAt_some
abbrev mk (b : Bs) : ByteArray := ⟨b.toArray⟩
theorem mk_data (b : Bs) : (mk b).data.toList = b := by simp
def SRow (w : World) (base : Nat) (v : Value) (ts : List ByteArray) : Prop := w.ownsRow base 9 1 v ts.length (ts.map Value.string)
theorem SRow.far {w w' : World} {base : Nat} {v : Value} {ts : List ByteArray} (h : SRow w base v ts) (hf : FP nob w w') : SRow w' base v ts := own_far h hf
theorem SRow.nil (w : World) (base : Nat) : SRow w base (.slice none 0 0) [] := World.ownsRow_nil _ _ _ _
theorem SRow.new (w : World) (base : Nat) (hb : base ≤ w.heap.size) (ts : List ByteArray) (hl : ts.length ≤ 1000) (cs : Array Value) (hcs : cs = (ts.map Value.string).toArray) (n : Nat) (hn : ts.length = n) : SRow (w.alloc (.cells cs 9)) base (.slice (some ⟨w.heap.size, 0, none⟩) n n) ts := by
 subst hcs hn
 refine ⟨by simp, .inr ⟨w.heap.size, ts.length, _, rfl, hb, heap_new_at rfl _, Nat.le_refl _, by unfold maxLen; omega, by simp, by simp [List.take_of_length_le]⟩⟩
theorem SRow.shape {w : World} {base : Nat} {v : Value} {ts : List ByteArray} (h : SRow w base v ts) : ∃ a c, v = .slice a ts.length c := own_shape1 h
theorem SRow.cell {w : World} {base : Nat} {v : Value} {ts : List ByteArray} (h : SRow w base v ts) (h0 : ts ≠ []) : ∃ g cap, v = .slice (some ⟨g, 0, none⟩) ts.length cap ∧ ts.length ≤ cap ∧ base ≤ g ∧ g < w.heap.size ∧ ∀ j t, ts[j]? = some t → w.cell? ⟨g, j, none⟩ = some (.string t) := by
 rcases h.2 with ⟨_, h1⟩ | ⟨g, cap, cur, rfl, hb, hg, hn, _, _, ht⟩
 ·exact absurd (List.length_eq_zero_iff.1 h1) h0
 ·refine ⟨g, cap, rfl, hn, hb, lt_blk hg, fun j t hj => ?_⟩
  have := World.ownsRow.cells h (g := g) rfl j (.string t) (by rw [List.getElem?_map, hj]; rfl)
  rwa [Addr.add_lit, Nat.zero_add] at this
theorem infoS : (Tryz.prog.info? 9).map (fun i => (i.zero, i.size, i.bytes)) = some (some (.string ⟨#[]⟩), 1, 16) := by kernel_rfl
theorem wpList_append_srow {w : World} {ops : Array Oper} {rest : List Oper} {o : Oper} {a : Act} {Q : Exit → Act → World → Prop} (hgd : o.guard = none) (s x : Operand)
  (ho : o.op = .call { callee := .builtin .append, args := #[s, x], argTypes := #[42, 42] })
  (base : Nat) (v : Value) (l m : List ByteArray) (hs : a.eval s = v) (hown : SRow w base v l)
  (y : Value) (hx : a.eval x = y) (b2 : Nat) (h1 : SRow w b2 y m) (hl : l.length + m.length ≤ 1099511627776) (hbase : base ≤ w.heap.size)
  (h : ∀ v' w', SRow w' base v' (l ++ m) → w.grownBy w' v.ownBlock → wpList Tryz.prog ops Q rest (a.put o.dst v') w') : wpList Tryz.prog ops Q (o :: rest) a w := by
 obtain ⟨i, hi, hz0, hz1, hz2⟩ := info_parts infoS
 rcases h1.2 with ⟨rfl, hm0⟩ | ⟨g, cap, cur, rfl, hb, hg, hn, hc, hcs, ht⟩
 ·have hme : m = [] := List.length_eq_zero_iff.1 hm0
  subst hme
  refine wpList_append_own_none hgd s x 42 ho base 9 i 1 Tryz.underlying42 hi v l.length _ hs hown hx ?_
  exact h v w (by rw [List.append_nil]; exact hown) ⟨rfl, rfl, rfl, Nat.le_refl _, fun _ _ _ => rfl⟩
 ·refine wpList_append_own w hgd s x 42 ho base 9 i (.string ⟨#[]⟩) 1 16 Tryz.underlying42 hi hz0 hz1 hz2 rfl (by decide) v l.length _ hs hown ⟨g, 0, none⟩ m.length cap (m.map Value.string) hx h1.1 ((World.ownsRow.cells h1 (g := g) rfl)) ?_ (by unfold maxLen; omega) (by omega) hbase ?_
  ·intro u hu
   obtain ⟨t, _, rfl⟩ := List.mem_map.1 hu
   rfl
  ·intro v' w' q1 q2 _
   refine h v' w' ?_ q2
   unfold SRow
   rw [List.length_append, List.map_append]
   exact q1
def commasA : List ByteArray → List ByteArray
 | [] => []
 | [x] => [x]
 | x :: y :: r => x :: ⟨#[44]⟩ :: commasA (y :: r)
def commasF (first : Bool) : List ByteArray → List ByteArray
 | [] => []
 | x :: r => (if first then [x] else [⟨#[44]⟩, x]) ++ commasF false r
theorem commasF_eq : ∀ (l : List ByteArray), commasF true l = commasA l
 | [] => rfl
 | [x] => rfl
 | x :: y :: r => by
  have h : ∀ (m : List ByteArray) (y : ByteArray), commasF false (y :: m) = ⟨#[44]⟩ :: commasA (y :: m) := by
   intro m
   induction m with
   | nil => intro y; rfl
   | cons z m ih =>
    intro y
    show [⟨#[44]⟩, y] ++ commasF false (z :: m) = _
    rw [ih z]
    rfl
  show [x] ++ commasF false (y :: r) = _
  rw [h r y]
  rfl
theorem commasF_snoc (l : List ByteArray) (x : ByteArray) : ∀ b, commasF b (l ++ [x]) = commasF b l ++ (if b && l.isEmpty then [x] else [⟨#[44]⟩, x]) := by
 induction l with
 | nil => intro b; cases b <;> rfl
 | cons y l ih =>
  intro b
  rw [List.cons_append]
  show (if b then [y] else [⟨#[44]⟩, y]) ++ commasF false (l ++ [x]) = _
  rw [ih false]
  cases b <;> simp [commasF]
theorem commasF_len (l : List ByteArray) : ∀ b, (commasF b l).length ≤ 2 * l.length := by
 induction l with
 | nil => intro b; simp [commasF]
 | cons y l ih =>
  intro b
  show ((if b then [y] else [⟨#[44]⟩, y]) ++ commasF false l).length ≤ _
  have := ih false
  rw [List.length_append, List.length_cons]
  cases b <;> simp <;> omega
structure BAt (w0 : World) (v : Value) (acc : List ByteArray) (w : World) : Prop where
 fp : FP nob w0 w
 row : SRow w w0.heap.size v acc
theorem BAt.far {w0 w w' : World} {v : Value} {acc : List ByteArray} (h : BAt w0 v acc w) (hf : FP nob w w') : BAt w0 v acc w' :=
 ⟨h.fp.trans hf (fun _ x => False.elim x), h.row.far hf⟩
theorem BAt.app {w0 w w' : World} {v v' : Value} {acc acc' : List ByteArray} (h : BAt w0 v acc w) (hr : SRow w' w0.heap.size v' acc') (hg : w.grownBy w' v.ownBlock) : BAt w0 v' acc' w' :=
 ⟨FP.grown h.fp hg (fun k hk => Or.inr (World.ownsRow.lt h.row k hk).1), hr⟩
theorem wpList_append_bat {w0 w : World} {ops : Array Oper} {rest : List Oper} {o : Oper} {a : Act} {Q : Exit → Act → World → Prop} (hgd : o.guard = none) (s x : Operand)
  (ho : o.op = .call { callee := .builtin .append, args := #[s, x], argTypes := #[42, 42] })
  (v : Value) (acc : List ByteArray) (hs : a.eval s = v) (HB : Hid (BAt w0 v acc w)) (t : ByteArray) (hx : a.eval x = .slice (some ⟨w.heap.size, 0, none⟩) 1 1) (hl : acc.length + 1 ≤ 1099511627776)
  (h : ∀ v' w', Hid (BAt w0 v' (acc ++ [t]) w') → wpList Tryz.prog ops Q rest (a.put o.dst v') w') : wpList Tryz.prog ops Q (o :: rest) a (w.alloc (.cells #[.string t] 9)) := by
 have h1 : BAt w0 v acc (w.alloc (.cells #[.string t] 9)) := HB.out.far ((FP.refl nob w).alloc _)
 refine wpList_append_srow hgd s x ho w0.heap.size v acc [t] hs h1.row _ hx 0 (SRow.new w 0 (Nat.zero_le _) [t] (by simp) _ rfl 1 rfl) hl h1.fp.size ?_
 intro v' w' r g
 exact h v' w' (Lib.hid (h1.app r g))
theorem between_any {w : World} {b0 : Nat} {v : Value} {ts : List ByteArray} (h : SRow w b0 v ts) (hl : ts.length ≤ 1000000000) : Calls Tryz.prog 53 #[v] w fun e w' => ∃ v', e = .returned v' ∧ SRow w' w.heap.size v' (commasA ts) ∧ FP nob w w' := by
 obtain ⟨ao, cap, rfl⟩ := h.shape
 obtain ⟨n, hn⟩ : ∃ n, ts.length = n := ⟨_, rfl⟩
 rw [hn] at h hl ⊢
 have H := Lib.hid h
 have HN := Lib.hid hn
 clear h hn
 go_enter Tryz.func53, Tryz.ntmps53
 go_wp2_with fail
 go_loopg [8, 3] (n + 1) (fun m i v wr => ∃ (k : Nat) (acc : List ByteArray), i = .int .i64 (k : Nat) ∧ k ≤ n ∧ n - k < m ∧ n ≤ 1000000000 ∧ Hid (acc = commasF true (ts.take k)) ∧ acc.length ≤ 2 * k ∧ Hid (BAt w v acc wr))
 case atStart => exact ⟨0, [], rfl, Nat.zero_le _, by omega, hl, Lib.hid rfl, by simp, Lib.hid ⟨FP.refl _ _, SRow.nil _ _⟩⟩
 case round =>
  obtain ⟨k, acc, rfl, hk, hm, hl, HA, hal, HB⟩ := hrel
  obtain ⟨a1, cp1, hv1⟩ := HB.out.row.shape
  subst hv1
  by_cases hlt : k < n
  ·have hi0 : (0 : Int) ≤ (k : Int) := by omega
   have hi1 : (k : Int) < (n : Int) := by omega
   have hw1 : IntKind.i64.wrap ((k : Int) + 1) = (k : Int) + 1 := IntWalk.i64_in _ (by omega)
   have e0 : ts[k]? = some (ts[k]'(by rw [HN.out]; exact hlt)) := List.getElem?_eq_getElem _
   generalize ts[k]'(by rw [HN.out]; exact hlt) = s at e0
   have hne : ts ≠ [] := by rintro rfl; simp at e0
   obtain ⟨g, cp, hv, hcp, _, _, hcell⟩ := (H.out.far HB.out.fp).cell hne
   injection hv with hv1 hv2 hv3
   subst hv1 hv3
   clear hv2
   have x0 := hcell k s e0
   obtain ⟨g', cp', hv', _, _, _, hcell'⟩ := H.out.cell hne
   injection hv' with hv1 hv2 hv3
   injection hv1 with hv1
   injection hv1 with hv1
   subst hv1
   have HX0 := Lib.hid (hcell' k s e0)
   clear hcell' hv2 hv3
   have hsn := commasF_snoc (ts.take k) s true
   rw [show ts.take k ++ [s] = ts.take (k + 1) by rw [List.take_add_one, e0]; rfl] at hsn
   have HSN := Lib.hid hsn
   clear hcell hsn e0 hne
   rcases Nat.eq_zero_or_pos k with hk0 | hk0
   ·subst hk0
    go_wp2_with (at_builtin; refine wpList_append_bat rfl (.tmp 18) (.tmp 20) rfl (.slice a1 acc.length cp1) acc rfl HB s rfl (by omega) ?_)
    intro v2 w2 HB2
    go_wp2_with fail
    go_roundg (n - (0 + 1) + 1)
    case measure => omega
    case rel => exact ⟨1, _, rfl, by omega, by omega, hl, Lib.hid (by rw [HSN.out, HA.out]; rfl), by simp; omega, HB2⟩
   ·have hk1 : (0 : Int) < (k : Int) := by omega
    go_wp2_with (at_builtin; refine wpList_append_bat rfl (.tmp 15) (.tmp 16) rfl (.slice a1 acc.length cp1) acc rfl HB ⟨#[44]⟩ rfl (by omega) ?_)
    intro v2 w2 HB2
    have x0' := (HB2.out.fp).cell HX0.out
    go_wp2_with (at_builtin; refine wpList_append_bat rfl (.tmp 18) (.tmp 20) rfl v2 _ rfl HB2 s rfl (by simp; omega) ?_)
    intro v3 w3 HB3
    go_wp2_with fail
    go_roundg (n - (k + 1) + 1)
    case measure => omega
    case rel => exact ⟨k + 1, _, rfl, by omega, by omega, hl, Lib.hid (by
     have hne : (ts.take k).isEmpty = false := by
      have : (ts.take k).length = k := by rw [List.length_take, HN.out]; omega
      cases h : ts.take k with
      | nil => rw [h] at this; simp at this; omega
      | cons => rfl
     rw [HSN.out, HA.out, hne]; simp), by simp; omega, HB3⟩
  ·have hi1 : ¬ (k : Int) < (n : Int) := by omega
   have hke : k = n := by omega
   have HKE := Lib.hid hke
   clear hke
   go_wp2_with fail
   refine bodyPost_ret (v := .slice a1 acc.length cp1) (by simp [results, Tryz.results53]) rfl ⟨_, rfl, ?_, HB.out.fp⟩
   have := HB.out.row
   rw [HA.out, HKE.out, ← HN.out, List.take_length, commasF_eq] at this ⊢
   exact this
end Go.Proofs.YtnpkdiffpgcbhaaGreatDoor
namespace Go.Proofs.YtnpkdiffpgcbhaaGreatDoor
open Go.RowKit
attribute [local go_sem] Oper.semAt_some
inductive WOk : GV → Prop where
 | mk (k : Int) (b : Bool) (i : Int) (t : Bs) (l : List GV) (h0 : -9223372036854775808 ≤ i) (h1 : i ≤ 9223372036854775807) (hl : l.length ≤ 4096) (h : ∀ x ∈ l, WOk x) : WOk (.mk k b i t l)
theorem rdv_shape {w : World} {F : Nat → Prop} {c : List Value} {v : GV} (h : RdV w F c v) : ∃ (k : Int) (b : Bool) (i : Int) (t : ByteArray) (a : Option Addr) (n cp : Nat), c = [.int .i64 k, .bool b, .int .i64 i, .string t, .slice a n cp] := by
 cases h with
 | mk k b i t sl xs l hs hl =>
  obtain ⟨a, cp, rfl⟩ := hs.shape
  exact ⟨k, b, i, t, a, _, cp, rfl⟩
theorem cat_data (a b : ByteArray) : (a ++ b).data.toList = a.data.toList ++ b.data.toList := by simp [ByteArray.data_append]
theorem fp_grow {a w : World} (h : FP nob a w) (q : Nat) (os : Array Obj) : FP nob a (Sort.grow (w.drewN q) os) :=
 h.trans (T := nob) ⟨rfl, rfl, rfl, by simp [Sort.grow, World.drewN], fun k hk _ => Sort.heap_grow_old (w.drewN q) os hk⟩ (fun _ x => x.elim)
theorem join_sp : ∀ (l : List Bs), Lib.join l [32] = joinSp l
 | [] => rfl
 | [t] => Lib.join_one _ _
 | t :: u :: r => by
  rw [Lib.join_cons, joinSp_cons _ (by simp), ← join_sp (u :: r), Lib.join_cons]
  simp [Lib.joinTail]
theorem commasA_map : ∀ (l : List ByteArray), (commasA l).map (·.data.toList) = commas (l.map (·.data.toList))
 | [] => rfl
 | [x] => rfl
 | x :: y :: r => by
  show x.data.toList :: [44] :: (commasA (y :: r)).map (·.data.toList) = _
  rw [commasA_map (y :: r)]
  rfl
theorem join_row {w : World} {base : Nat} {v : Value} {ts : List ByteArray} (h : SRow w base v ts) (h0 : ts ≠ []) (hn : ts.length ≤ 1000000000000) (hl : (joinSp (ts.map (·.data.toList))).length ≤ 1099511627776) :
  Calls Tryz.prog 23 #[v, .string ⟨#[32]⟩] w fun e w' => e = .returned (.string (mk (joinSp (ts.map (·.data.toList))))) ∧ FP nob w w' := by
 obtain ⟨g, cap, rfl, h1, _, h2, h3⟩ := h.cell h0
 have e : Lib.join (ts.map (·.data.toList)) (⟨#[32]⟩ : ByteArray).data.toList = joinSp (ts.map (·.data.toList)) := join_sp _
 have hj := Tryz.strings_Join g 0 cap ts ⟨#[32]⟩ w (fun j x hx => by rw [Nat.zero_add]; exact h3 j x hx) h2 (by omega) h1 (by rw [e]; omega)
 rw [e] at hj
 exact hj.mono fun e w' h => ⟨h.1, FP.ofBelow h.2⟩
def WrC (c : List Value) (v : GV) (w : World) : Prop := Calls Tryz.prog 52 #[.agg c.toArray] w fun e w' => e = .returned (.string (mk (wrB v))) ∧ FP nob w w'
theorem written_list {w : World} {F : Nat → Prop} {k : Int} {b : Bool} {i : Int} {t : ByteArray} {sl : Value} {xs : List Value} {l : List GV} (hs : SliceAt w F sl l.length (l.length * 5) xs) (hl : RdVs w F xs l) (hn : l.length ≤ 4096)
  (h0 : k ≠ 0) (h1 : k ≠ 1) (h2 : k ≠ 2) (h3 : k ≠ 3) (h5 : k ≠ 5) (hlen : (wrB (.mk k b i t.data.toList l)).length ≤ 1099511627776)
  (ih : ∀ v ∈ l, ∀ W c, RdV W F c v → FP nob w W → WrC c v W) : WrC [.int .i64 k, .bool b, .int .i64 i, .string t, sl] (.mk k b i t.data.toList l) w := by
 obtain ⟨a0, cap0, rfl⟩ := hs.shape
 obtain ⟨n, hnn⟩ : ∃ n, l.length = n := ⟨_, rfl⟩
 rw [hnn] at hs hn ⊢
 have HS := Lib.hid hs
 have HL := Lib.hid hl
 have HI := Lib.hid ih
 have HN := Lib.hid hnn
 have HLEN := Lib.hid hlen
 have HK := Lib.hid (And.intro h0 (And.intro h1 (And.intro h2 (And.intro h3 h5))))
 have e0 : (k == 0) = false := by simpa using h0
 have e1 : (k == 1) = false := by simpa using h1
 have e2 : (k == 2) = false := by simpa using h2
 have e3 : (k == 3) = false := by simpa using h3
 have e5 : (k == 5) = false := by simpa using h5
 clear hs hl ih hnn hlen h0 h1 h2 h3 h5
 unfold WrC at *
 go_enter Tryz.func52, Tryz.ntmps52
 go_wp2_with fail
 go_loopg [42, 3] (n + 1) (fun m i v wr => ∃ (k : Nat) (acc : List ByteArray), i = .int .i64 (k : Nat) ∧ k ≤ n ∧ n - k < m ∧ n ≤ 4096 ∧ Hid (acc = (l.take k).map (fun v => mk (wrB v))) ∧ acc.length ≤ k ∧ Hid (BAt w v acc wr))
 case atStart => exact ⟨0, [], rfl, Nat.zero_le _, by omega, hn, Lib.hid rfl, by simp, Lib.hid ⟨(FP.refl nob w).alloc _, SRow.nil _ _⟩⟩
 case round =>
  obtain ⟨q, acc, rfl, hk, hm, hn, HA, hal, HB⟩ := hrel
  by_cases hlt : q < n
  ·have hi0 : (0 : Int) ≤ (q : Int) := by omega
   have hi1 : (q : Int) < (n : Int) := by omega
   have hw1 : IntKind.i64.wrap ((q : Int) + 1) = (q : Int) + 1 := IntWalk.i64_in _ (by omega)
   have hfr : ∀ b, b < w.heap.size → wr.heap[b]? = w.heap[b]? := fun b hl => HB.out.fp.blk b hl (fun x => x.elim)
   obtain ⟨g0, o0, cp0, he0, hle0, _, _, hc0⟩ := (HS.out.frame (fun g _ hl => hfr g hl)).cell (by omega)
   cases he0
   have hv : l[q]? = some (l[q]'(by rw [HN.out]; exact hlt)) := List.getElem?_eq_getElem _
   have hmem : l[q]'(by rw [HN.out]; exact hlt) ∈ l := List.getElem_mem _
   generalize l[q]'(by rw [HN.out]; exact hlt) = v1 at hv hmem
   obtain ⟨c, hrc, hxc⟩ := (HL.out.frame (fun g _ hl => hfr g hl)).get hv
   obtain ⟨kk, bb, ii, tt, e0, l0, z0, rfl⟩ := rdv_shape hrc
   have hq := HI.out v1 hmem (wr.alloc (.cells #[.int .i64 kk, .bool bb, .int .i64 ii, .string tt, .slice e0 l0 z0] 52)) _ (hrc.frame (fun g _ hl => heap_alloc_ne (by omega))) (HB.out.fp.alloc _)
   have HQ := Lib.hid hq
   have x0 : wr.cell? ⟨g0, o0 + q * 5, none⟩ = some (.int .i64 kk) := by rw [show o0 + q * 5 = o0 + (q * 5 + 0) from rfl]; exact hc0 _ _ (hxc 0 (by omega))
   have x1 : wr.cell? ⟨g0, o0 + q * 5 + 1, none⟩ = some (.bool bb) := by rw [Nat.add_assoc]; exact hc0 _ _ (hxc 1 (by omega))
   have x2 : wr.cell? ⟨g0, o0 + q * 5 + 2, none⟩ = some (.int .i64 ii) := by rw [Nat.add_assoc]; exact hc0 _ _ (hxc 2 (by omega))
   have x3 : wr.cell? ⟨g0, o0 + q * 5 + 3, none⟩ = some (.string tt) := by rw [Nat.add_assoc]; exact hc0 _ _ (hxc 3 (by omega))
   have x4 : wr.cell? ⟨g0, o0 + q * 5 + 4, none⟩ = some (.slice e0 l0 z0) := by rw [Nat.add_assoc]; exact hc0 _ _ (hxc 4 (by omega))
   have HV := Lib.hid hv
   clear hc0 hxc hrc hv hmem hfr hq
   go_wp2_with fail
   refine HQ.out.mono ?_
   rintro e w2 ⟨rfl, f2⟩
   have HB2 := Lib.hid ((HB.out.far ((FP.refl nob wr).alloc _)).far f2)
   clear f2
   go_wp2_with (at_builtin; refine wpList_append_bat rfl (.tmp 46) (.tmp 49) rfl _ acc rfl HB2 (mk (wrB v1)) rfl (by omega) ?_)
   intro v3 w3 HB3
   go_wp2_with fail
   go_roundg (n - (q + 1) + 1)
   case measure => omega
   case rel => exact ⟨q + 1, _, rfl, by omega, by omega, hn, Lib.hid (by rw [HA.out, List.take_add_one, HV.out]; simp), by simp; omega, HB3⟩
  ·have hi1 : ¬ (q : Int) < (n : Int) := by omega
   have hke : q = n := by omega
   have HKE := Lib.hid hke
   clear hke
   obtain ⟨wb, hwb⟩ : ∃ wb, wr.alloc (.cells #[.string ⟨#[91]⟩] 9) = wb := ⟨_, rfl⟩
   have hfb : FP nob wr wb := by rw [← hwb]; exact (FP.refl nob wr).alloc _
   have hra : SRow wb w.heap.size (.slice (some ⟨wr.heap.size, 0, none⟩) 1 1) [⟨#[91]⟩] := by rw [← hwb]; exact SRow.new wr _ HB.out.fp.size [⟨#[91]⟩] (by simp) _ rfl 1 rfl
   have hrb : SRow wb w.heap.size u3 acc := HB.out.row.far hfb
   have hbt := between_any hrb (by omega)
   have HBT := Lib.hid hbt
   have HRA := Lib.hid hra
   have HFB : Hid (FP nob w wb) := Lib.hid (FP.trans (S := nob) HB.out.fp hfb (fun _ x => x.elim))
   have hcl : (commasA acc).length ≤ 2 * acc.length := by rw [← commasF_eq]; exact commasF_len _ _
   clear hfb hra hrb hbt
   go_wp2_with fail
   refine HBT.out.mono ?_
   rintro e w3 ⟨v3, rfl, hr3, f3⟩
   have HR3 := Lib.hid hr3
   have HF3 := Lib.hid f3
   obtain ⟨wc, hwc⟩ : ∃ wc, w3.alloc (.cells #[.string ⟨#[93]⟩] 9) = wc := ⟨_, rfl⟩
   have hfc : FP nob w3 wc := by rw [← hwc]; exact (FP.refl nob w3).alloc _
   have hrc : SRow wc 0 (.slice (some ⟨w3.heap.size, 0, none⟩) 1 1) [⟨#[93]⟩] := by rw [← hwc]; exact SRow.new w3 _ (Nat.zero_le _) [⟨#[93]⟩] (by simp) _ rfl 1 rfl
   have HRC := Lib.hid hrc
   have HR4 := Lib.hid (hr3.far hfc)
   have HF4 : Hid (FP nob wb wc) := Lib.hid (FP.trans (S := nob) f3 hfc (fun _ x => x.elim))
   clear hfc hrc hr3 f3
   go_wp2_with (at_builtin; refine wpList_append_srow rfl (.tmp 54) (.tmp 55) rfl wb.heap.size v3 _ _ rfl HR4.out _ rfl 0 HRC.out (by simp; omega) HF4.out.size ?_)
   intro v5 w5 hr5 g5
   have f5 : FP nob wb w5 := FP.grown HF4.out g5 (fun k hk => Or.inr (World.ownsRow.lt HR4.out k hk).1)
   have HR5 := Lib.hid hr5
   have HRA5 := Lib.hid (HRA.out.far f5)
   have HF5 : Hid (FP nob w w5) := Lib.hid (FP.trans (S := nob) HFB.out f5 (fun _ x => x.elim))
   clear hr5 g5 f5
   go_wp2_with (at_builtin; refine wpList_append_srow rfl (.tmp 52) (.tmp 56) rfl w.heap.size _ [⟨#[91]⟩] _ rfl HRA5.out v5 rfl wb.heap.size HR5.out (by simp; omega) HF5.out.size ?_)
   intro v6 w6 hr6 g6
   have f6 : FP nob w w6 := FP.grown HF5.out g6 (fun k hk => Or.inr (World.ownsRow.lt HRA5.out k hk).1)
   obtain ⟨X, hX⟩ : ∃ X, ([⟨#[91]⟩] ++ (commasA acc ++ [⟨#[93]⟩]) : List ByteArray) = X := ⟨_, rfl⟩
   have hXm : joinSp (X.map (·.data.toList)) = wrB (.mk k b i t.data.toList l) := by
    obtain ⟨h0, h1, h2, h3, h5⟩ := HK.out
    rw [← hX, wrB_mk, if_neg h0, if_neg h1, if_neg h2, if_neg h3, if_neg h5]
    have e : acc.map (·.data.toList) = l.map wrB := by
     rw [HA.out, HKE.out, ← HN.out, List.take_length, List.map_map]
     exact List.map_congr_left (fun v _ => mk_data _)
    rw [List.map_append, List.map_append, commasA_map, e]
    rfl
   have hjn := join_row (hX ▸ hr6 : SRow w6 w.heap.size v6 X) (by rw [← hX]; simp) (by rw [← hX]; simp; omega) (by rw [hXm]; exact HLEN.out)
   rw [hXm] at hjn
   have HJ := Lib.hid hjn
   have HF6 := Lib.hid f6
   clear hr6 g6 f6 hjn hXm hX
   go_wp2_with fail
   refine HJ.out.mono ?_
   rintro e w7 ⟨rfl, f7⟩
   have HF7 : Hid (FP nob w w7) := Lib.hid (FP.trans (S := nob) HF6.out f7 (fun _ x => x.elim))
   clear f7
   go_wp2_with fail
   exact bodyPost_ret (v := .string (mk (wrB (.mk k b i t.data.toList l)))) (by simp [results, Tryz.results52]) rfl (And.intro rfl HF7.out)
theorem written_plain {w : World} {k : Int} {b : Bool} {i : Int} {t : ByteArray} {a0 : Option Addr} {n0 cap0 : Nat} {l : List GV} (hk : k = 0 ∨ k = 1 ∨ k = 2 ∨ k = 3 ∨ k = 5) (h0 : -9223372036854775808 ≤ i) (h1 : i ≤ 9223372036854775807) (ht : k = 3 → t.size ≤ 1099511627776) (hlib : LibOk w) :
  WrC [.int .i64 k, .bool b, .int .i64 i, .string t, .slice a0 n0 cap0] (.mk k b i t.data.toList l) w := by
 have hlib' : ∀ W, FP nob w W → LibOk W := fun W hW => hlib.fp hW (fun _ x => x.elim)
 have HLB := Lib.hid hlib'
 have HFI := Lib.hid (fun (W : World) (hW : FP nob w W) => Tryz.strconv_FormatInt_10 i h0 h1 W (HLB.out W hW).tab)
 clear hlib hlib'
 unfold WrC
 rcases hk with rfl | rfl | rfl | rfl | rfl
 ·have e : wrB (.mk 0 b i t.data.toList l) = [110, 117, 108, 108] := by rw [wrB_mk, if_pos rfl]; rfl
  rw [e]
  go_enter Tryz.func52, Tryz.ntmps52
  go_wp2_with fail
  exact bodyPost_ret (v := .string (mk [110, 117, 108, 108])) (by simp [results, Tryz.results52]) rfl (And.intro rfl ((FP.refl nob w).alloc _))
 ·have HB := Lib.hid (fun W => Tryz.strconv_FormatBool b W)
  have e : wrB (.mk 1 b i t.data.toList l) = Lib.formatBool b := by rw [wrB_mk, if_neg (by decide), if_pos rfl]; cases b <;> rfl
  rw [e]
  go_enter Tryz.func52, Tryz.ntmps52
  go_wp2_with fail
  refine (HB.out _).mono ?_
  rintro e w1 ⟨rfl, rfl⟩
  go_wp2_with fail
  exact bodyPost_ret (v := .string (mk (Lib.formatBool b))) (by simp [results, Tryz.results52]) rfl (And.intro rfl ((FP.refl nob w).alloc _))
 ·by_cases hi : i < 0
  ·have e : wrB (.mk 2 b i t.data.toList l) = 45 :: 32 :: Lib.decDigits i.natAbs := by rw [wrB_mk, if_neg (by decide), if_neg (by decide), if_pos rfl, if_pos hi]
   have ei : Lib.itoa i = 45 :: Lib.decDigits i.natAbs := by unfold Lib.itoa; rw [if_pos hi]
   rw [e]
   have hf := HFI.out
   rw [ei] at hf
   obtain ⟨s, hs⟩ : ∃ s : ByteArray, (⟨(45 :: Lib.decDigits i.natAbs).toArray⟩ : ByteArray) = s := ⟨_, rfl⟩
   rw [hs] at hf
   have h1s : (1 : Int) ≤ (s.size : Int) := by rw [← hs]; show (1 : Int) ≤ (((45 :: Lib.decDigits i.natAbs).toArray.size : Nat) : Int); simp; omega
   have hss : (s.size : Int) ≤ 100 := by
    have := Lib.itoa_length_le i h0 h1
    rw [ei] at this
    rw [← hs]
    show (((45 :: Lib.decDigits i.natAbs).toArray.size : Nat) : Int) ≤ 100
    rw [List.size_toArray]
    omega
   have HS := Lib.hid hs
   have HF := Lib.hid hf
   clear hs hf e ei
   go_enter Tryz.func52, Tryz.ntmps52
   go_wp2_with fail
   refine (HF.out _ ((FP.refl nob w).alloc _)).mono ?_
   rintro e w1 ⟨rfl, q, os, hg⟩
   have hres : ({ data := #[45, 32] } ++ s.extract 1 s.size : ByteArray) = mk (45 :: 32 :: Lib.decDigits i.natAbs) := by
    have : ({ data := #[45, 32] } ++ s.extract 1 s.size : ByteArray).data.toList = (mk (45 :: 32 :: Lib.decDigits i.natAbs)).data.toList := by
     rw [cat_data, Lib.extract_to_end, ← HS.out, mk_data]
     simp
    exact data_inj this
   have HRES := Lib.hid hres
   clear hres
   go_wp2_with fail
   exact bodyPost_ret (v := .string ({ data := #[45, 32] } ++ s.extract 1 s.size)) (by simp [results, Tryz.results52]) rfl (And.intro (by rw [HRES.out]) (hg ▸ fp_grow ((FP.refl nob w).alloc _) q os))
  ·have e : wrB (.mk 2 b i t.data.toList l) = Lib.itoa i := by rw [wrB_mk, if_neg (by decide), if_neg (by decide), if_pos rfl, if_neg hi]; unfold Lib.itoa; rw [if_neg hi]
   rw [e]
   go_enter Tryz.func52, Tryz.ntmps52
   go_wp2_with fail
   refine (HFI.out _ ((FP.refl nob w).alloc _)).mono ?_
   rintro e w1 ⟨rfl, q, os, hg⟩
   have HW1 : Hid (FP nob w w1) := Lib.hid (hg ▸ fp_grow ((FP.refl nob w).alloc _) q os)
   clear hg
   go_wp2_with fail
   exact bodyPost_ret (v := .string (mk (Lib.itoa i))) (by simp [results, Tryz.results52]) rfl (And.intro rfl HW1.out)
 ·have HQ := Lib.hid (fun (W : World) => quote_any (w := W) (ht rfl))
  have e : wrB (.mk 3 b i t.data.toList l) = quoteB t.data.toList := by rw [wrB_mk, if_neg (by decide), if_neg (by decide), if_neg (by decide), if_pos rfl]
  rw [e]
  go_enter Tryz.func52, Tryz.ntmps52
  go_wp2_with fail
  refine (HQ.out _).mono ?_
  rintro e w1 ⟨rfl, f1⟩
  have HF1 : Hid (FP nob w w1) := Lib.hid (FP.trans (S := nob) ((FP.refl nob w).alloc _) f1 (fun _ x => x.elim))
  clear f1
  go_wp2_with fail
  exact bodyPost_ret (v := .string (mk (quoteB t.data.toList))) (by simp [results, Tryz.results52]) rfl (And.intro rfl HF1.out)
 ·have e : wrB (.mk 5 b i t.data.toList l) = 63 :: 32 :: Lib.itoa i := by rw [wrB_mk, if_neg (by decide), if_neg (by decide), if_neg (by decide), if_neg (by decide), if_pos rfl]
  rw [e]
  obtain ⟨s, hs⟩ : ∃ s : ByteArray, (⟨(Lib.itoa i).toArray⟩ : ByteArray) = s := ⟨_, rfl⟩
  have hf := HFI.out
  rw [hs] at hf
  have hss : s.size ≤ 100 := by
   have := Lib.itoa_length_le i h0 h1
   rw [← hs]
   show (Lib.itoa i).toArray.size ≤ 100
   rw [List.size_toArray]
   omega
  have hcat : ¬ 9223372036854775807 < 2 + s.size := by omega
  have hres : ({ data := #[63, 32] } ++ s : ByteArray) = mk (63 :: 32 :: Lib.itoa i) := by
   have : ({ data := #[63, 32] } ++ s : ByteArray).data.toList = (mk (63 :: 32 :: Lib.itoa i)).data.toList := by
    rw [cat_data, ← hs, mk_data]
    simp
   exact data_inj this
  have HRES := Lib.hid hres
  have HF := Lib.hid hf
  clear hres hf hs e
  go_enter Tryz.func52, Tryz.ntmps52
  go_wp2_with fail
  refine (HF.out _ ((FP.refl nob w).alloc _)).mono ?_
  rintro e w1 ⟨rfl, q, os, hg⟩
  have HW1 : Hid (FP nob w w1) := Lib.hid (hg ▸ fp_grow ((FP.refl nob w).alloc _) q os)
  clear hg
  go_wp2_with fail
  exact bodyPost_ret (v := .string ({ data := #[63, 32] } ++ s)) (by simp [results, Tryz.results52]) rfl (And.intro (by rw [HRES.out]) HW1.out)
theorem joinSp_mem_len {x : Bs} : ∀ {l : List Bs}, x ∈ l → x.length ≤ (joinSp l).length
 | [], h => by cases h
 | [t], h => by simp at h; subst h; exact Nat.le_refl _
 | t :: u :: r, h => by
  rw [joinSp_cons _ (by simp), List.length_append, List.length_cons]
  rcases List.mem_cons.1 h with rfl | h
  ·omega
  ·have := joinSp_mem_len h
   omega
theorem commas_mem : ∀ {l : List Bs} {x : Bs}, x ∈ l → x ∈ commas l
 | [t], x, h => h
 | t :: u :: r, x, h => by
  rcases List.mem_cons.1 h with rfl | h
  ·exact List.mem_cons_self
  ·exact List.mem_cons_of_mem _ (List.mem_cons_of_mem _ (commas_mem h))
theorem written_any (v : GV) : WOk v → (wrB v).length ≤ 1099511627776 → ∀ (w : World) (F : Nat → Prop) (c : List Value), LibOk w → RdV w F c v → WrC c v w := by
 induction v using GV.ind with
 | h k b i t l ih =>
  intro hok hlen w F c hlib h
  cases hok with
  | mk k b i t l h0 h1 hl4 hall =>
   cases h with
   | mk k b i t sl xs l hs hl =>
    by_cases hk : k = 0 ∨ k = 1 ∨ k = 2 ∨ k = 3 ∨ k = 5
    ·obtain ⟨a0, cap0, rfl⟩ := hs.shape
     by_cases h3 : k = 3
     ·subst h3
      refine written_plain hk h0 h1 (fun _ => ?_) hlib
      rw [wrB_mk, if_neg (by decide), if_neg (by decide), if_neg (by decide), if_pos rfl] at hlen
      have hq : t.data.toList.length ≤ (quoteB t.data.toList).length := by
       unfold quoteB
       have : ∀ l : Bs, l.length ≤ (l.flatMap escQ).length := by
        intro l
        induction l with
        | nil => simp
        | cons c l ih =>
         rw [List.flatMap_cons, List.length_append, List.length_cons]
         have : 1 ≤ (escQ c).length := by
          unfold escQ
          repeat' split
          all_goals simp
         omega
       have := this t.data.toList
       rw [List.length_cons, List.length_append]
       omega
      have : t.data.toList.length = t.size := rfl
      omega
     ·exact written_plain hk h0 h1 (fun e => absurd e h3) hlib
    ·have h0' : k ≠ 0 := by omega
     have h1' : k ≠ 1 := by omega
     have h2' : k ≠ 2 := by omega
     have h3' : k ≠ 3 := by omega
     have h5' : k ≠ 5 := by omega
     refine written_list hs hl hl4 h0' h1' h2' h3' h5' hlen (fun v hv W c hr hf => ih v hv (hall v hv) ?_ W F c (hlib.fp hf (fun _ x => x.elim)) hr)
     rw [wrB_mk, if_neg h0', if_neg h1', if_neg h2', if_neg h3', if_neg h5'] at hlen
     refine Nat.le_trans (joinSp_mem_len ?_) hlen
     exact List.mem_cons_of_mem _ (List.mem_append_left _ (commas_mem (List.mem_map_of_mem hv)))
end Go.Proofs.YtnpkdiffpgcbhaaGreatDoor
namespace Go.Proofs.YtnpkdiffpgcbhaaGreatDoor
open Go.RowKit
attribute [local go_sem] Oper.semAt_some
def givB (g : Bs × GV) : Bs := g.1 ++ wEq ++ wrB g.2
structure GOk (g : Bs × GV) : Prop where
 v : WOk g.2
 len : (givB g).length ≤ 1099511627776
theorem step_append_bat {w0 w : World} {ops : Array Oper} {o : Oper} {a : Act} {K : Act → World → Prop} {Q : Exit → Act → World → Prop} {E : Prop} {t : ByteArray} (hgd : o.guard = none) (s x : Operand)
  (ho : o.op = .call { callee := .builtin .append, args := #[s, x], argTypes := #[42, 42] })
  (v : Value) (acc : List ByteArray) (hs : a.eval s = v) (HB : Hid (BAt w0 v acc w)) (hx : a.eval x = .slice (some ⟨w.heap.size, 0, none⟩) 1 1) (hl : acc.length + 1 ≤ 1099511627776)
  (h : ∀ v' w', Hid (BAt w0 v' (acc ++ [t]) w') → (∀ (p : Addr) (u : Value), w.cell? p = some u → v.ownBlock ≠ some p.block → w'.cell? p = some u) → K (a.put o.dst v') w') :
  if Region.wanted o (yielded ops a.tmps) = true then Oper.wp Tryz.prog o a (w.alloc (.cells #[.string t] 9)) K Q else E := by
 have hw : Region.wanted o (yielded ops a.tmps) = true := by simp [Region.wanted, hgd]
 rw [if_pos hw]
 have h1 : BAt w0 v acc (w.alloc (.cells #[.string t] 9)) := HB.out.far ((FP.refl nob w).alloc _)
 have hnew : SRow (w.alloc (.cells #[.string t] 9)) 0 (.slice (some ⟨w.heap.size, 0, none⟩) 1 1) [t] := SRow.new w 0 (Nat.zero_le _) [t] (by simp) _ rfl 1 rfl
 obtain ⟨i, hi, hz0, hz1, hz2⟩ := info_parts infoS
 refine wp_append_own _ s x 42 ho w0.heap.size 9 i (.string ⟨#[]⟩) 1 16 Tryz.underlying42 hi hz0 hz1 hz2 rfl (by decide) v acc.length _ hs h1.row ⟨w.heap.size, 0, none⟩ 1 1 [.string t] hx rfl (World.ownsRow.cells hnew (g := w.heap.size) rfl) ?_ (by unfold maxLen; omega) (by omega) h1.fp.size ?_
 ·intro u hu
  simp at hu
  subst hu
  rfl
 ·intro v' w' q1 q2 _
  refine h v' w' (Lib.hid (h1.app ?_ q2)) (fun p u hp hne => World.grownBy.cell q2 (((FP.refl nob w).alloc (.cells #[.string t] 9)).cell hp) (fun e => hne e.symm))
  unfold SRow
  rw [List.length_append, List.map_append]
  exact q1
theorem sets_any {w : World} {F : Nat → Prop} {sl : Value} {xs : List Value} {l : List (Bs × GV)} (hs : SliceAt w F sl l.length (l.length * 6) xs) (hl : RdRow (RdG w F) xs l) (hn : l.length ≤ 5000) (hok : ∀ g ∈ l, GOk g) (hlib : LibOk w) :
  Calls Tryz.prog 51 #[sl] w fun e w' => ∃ v' ts, e = .returned v' ∧ SRow w' w.heap.size v' ts ∧ ts.map (·.data.toList) = setsB l ∧ FP nob w w' := by
 obtain ⟨a0, cap0, rfl⟩ := hs.shape
 obtain ⟨n, hnn⟩ : ∃ n, l.length = n := ⟨_, rfl⟩
 rw [hnn] at hs hn ⊢
 have HS := Lib.hid hs
 have HL := Lib.hid hl
 have HN := Lib.hid hnn
 have HO := Lib.hid hok
 have HLB := Lib.hid hlib
 clear hs hl hnn hok hlib
 go_enter Tryz.func51, Tryz.ntmps51
 go_wp2_with fail
 go_loopg [8, 3] (n + 1) (fun m i v wr => ∃ (k : Nat) (acc : List ByteArray), i = .int .i64 (k : Nat) ∧ k ≤ n ∧ n - k < m ∧ n ≤ 5000 ∧ Hid (acc = (l.take k).map (fun g => mk (givB g))) ∧ acc.length ≤ k ∧ Hid (BAt w v acc wr))
 case atStart => exact ⟨0, [], rfl, Nat.zero_le _, by omega, hn, Lib.hid rfl, by simp, Lib.hid ⟨(FP.refl nob w), SRow.nil _ _⟩⟩
 case round =>
  obtain ⟨q, acc, rfl, hk, hm, hn, HA, hal, HB⟩ := hrel
  obtain ⟨wo, hwo⟩ : ∃ wo, wo = wr := ⟨_, rfl⟩
  subst hwo
  by_cases hlt : q < n
  ·have hi0 : (0 : Int) ≤ (q : Int) := by omega
   have hi1 : (q : Int) < (n : Int) := by omega
   have hw1 : IntKind.i64.wrap ((q : Int) + 1) = (q : Int) + 1 := IntWalk.i64_in _ (by omega)
   have hfr : ∀ b, b < w.heap.size → wo.heap[b]? = w.heap[b]? := fun b hl => HB.out.fp.blk b hl (fun x => x.elim)
   obtain ⟨g0, o0, cp0, he0, hle0, _, _, hc0⟩ := (HS.out.frame (fun g _ hl => hfr g hl)).cell (by omega)
   cases he0
   have hv : l[q]? = some (l[q]'(by rw [HN.out]; exact hlt)) := List.getElem?_eq_getElem _
   have hmem : l[q]'(by rw [HN.out]; exact hlt) ∈ l := List.getElem_mem _
   generalize l[q]'(by rw [HN.out]; exact hlt) = g1 at hv hmem
   obtain ⟨c, hrc, hxc⟩ := HL.out.get (fun _ _ h => h.len) hv
   cases hrc with
   | mk f d v1 hrd =>
    obtain ⟨kk, bb, ii, tt, e0, l0, z0, rfl⟩ := rdv_shape hrd
    have x0 : wo.cell? ⟨g0, o0 + q * 6, none⟩ = some (.string f) := by rw [show o0 + q * 6 = o0 + (q * 6 + 0) from rfl]; exact hc0 _ _ (hxc 0 (by omega))
    have x1 : wo.cell? ⟨g0, o0 + q * 6 + 1, none⟩ = some (.int .i64 kk) := by rw [Nat.add_assoc]; exact hc0 _ _ (hxc 1 (by omega))
    have x2 : wo.cell? ⟨g0, o0 + q * 6 + 2, none⟩ = some (.bool bb) := by rw [Nat.add_assoc]; exact hc0 _ _ (hxc 2 (by omega))
    have x3 : wo.cell? ⟨g0, o0 + q * 6 + 3, none⟩ = some (.int .i64 ii) := by rw [Nat.add_assoc]; exact hc0 _ _ (hxc 3 (by omega))
    have x4 : wo.cell? ⟨g0, o0 + q * 6 + 4, none⟩ = some (.string tt) := by rw [Nat.add_assoc]; exact hc0 _ _ (hxc 4 (by omega))
    have x5 : wo.cell? ⟨g0, o0 + q * 6 + 5, none⟩ = some (.slice e0 l0 z0) := by rw [Nat.add_assoc]; exact hc0 _ _ (hxc 5 (by omega))
    have hgo := HO.out _ hmem
    have hHV := hv
    clear hc0 hxc
    obtain ⟨wg, hwg⟩ : ∃ wg, wo.alloc (.cells #[.string f, .int .i64 kk, .bool bb, .int .i64 ii, .string tt, .slice e0 l0 z0] 54) = wg := ⟨_, rfl⟩
    have hfg : FP nob wo wg := by rw [← hwg]; exact (FP.refl nob wo).alloc _
    have hgb : wg.heap[wo.heap.size]? = some (.cells #[.string f, .int .i64 kk, .bool bb, .int .i64 ii, .string tt, .slice e0 l0 z0] 54 (0,0)) := by rw [← hwg]; exact heap_new_at rfl _
    have hfd : FP nob w wg.drew := FP.trans (S := nob) HB.out.fp (FP.trans (S := nob) hfg (FP.ofSame (same_drewN wg 1)) (fun _ x => False.elim x)) (fun _ x => False.elim x)
    have hq := written_any v1 hgo.v (Nat.le_trans (by show (wrB v1).length ≤ (f.data.toList ++ wEq ++ wrB v1).length; simp; omega) hgo.len) wg.drew F _ (HLB.out.fp hfd (fun _ x => x.elim)) (hrd.frame (fun g _ hl => hfd.blk g hl (fun x => x.elim)))
    obtain ⟨sv, hsv⟩ : ∃ sv, mk (wrB v1) = sv := ⟨_, rfl⟩
    have hfl : f.size + 3 + sv.size ≤ 1099511627776 := by
     have h1 := hgo.len
     have h2 : (givB (f.data.toList, v1)).length = f.data.toList.length + 3 + (wrB v1).length := by simp [givB, wEq]; omega
     have h3 : f.data.toList.length = f.size := rfl
     have h4 : sv.size = (wrB v1).length := by rw [← hsv]; exact List.size_toArray
     omega
    have hcat1 : ¬ 9223372036854775807 < f.size + 3 := by omega
    have hcat2 : ¬ 9223372036854775807 < f.size + 3 + sv.size := by omega
    unfold WrC at hq
    rw [hsv] at hq
    have HROW := Lib.hid (World.ownsRow.lt HB.out.row)
    obtain ⟨a1, cp1, hv1⟩ := HB.out.row.shape
    subst hv1
    have hqd : Calls Tryz.prog 52 #[.agg #[.int .i64 kk, .bool bb, .int .i64 ii, .string tt, .slice e0 l0 z0]] wg.drew (fun e w' => e = .returned (.string sv) ∧ Hid (BAt w (.slice a1 acc.length cp1) acc w') ∧ w'.cell? ⟨wo.heap.size, 0, none⟩ = some (.string f) ∧ w'.cell? ⟨wo.heap.size, 1, none⟩ = some (.int .i64 kk) ∧ w'.cell? ⟨wo.heap.size, 2, none⟩ = some (.bool bb) ∧ w'.cell? ⟨wo.heap.size, 3, none⟩ = some (.int .i64 ii) ∧ w'.cell? ⟨wo.heap.size, 4, none⟩ = some (.string tt) ∧ w'.cell? ⟨wo.heap.size, 5, none⟩ = some (.slice e0 l0 z0)) := hq.mono (fun e w' h => by
     have hx : FP nob wg w' := FP.trans (S := nob) (FP.ofSame (same_drewN wg 1)) h.2 (fun _ x => False.elim x)
     exact ⟨h.1, Lib.hid (HB.out.far (FP.trans (S := nob) hfg hx (fun _ x => False.elim x))), hx.cell (cell_blk hgb), hx.cell (cell_blk hgb), hx.cell (cell_blk hgb), hx.cell (cell_blk hgb), hx.cell (cell_blk hgb), hx.cell (cell_blk hgb)⟩)
    have HQD := Lib.hid hqd
    have HGIV : Hid (mk (givB (f.data.toList, v1)) = f ++ ⟨#[32, 61, 32]⟩ ++ sv) := Lib.hid (data_inj (by rw [mk_data, cat_data, cat_data, ← hsv]; simp [wEq, givB]))
    have HV := Lib.hid hv
    have b0 : wg.cell? ⟨wo.heap.size, 0, none⟩ = some (.string f) := cell_blk hgb
    have b1 : wg.cell? ⟨wo.heap.size, 1, none⟩ = some (.int .i64 kk) := cell_blk hgb
    have b2 : wg.cell? ⟨wo.heap.size, 2, none⟩ = some (.bool bb) := cell_blk hgb
    have b3 : wg.cell? ⟨wo.heap.size, 3, none⟩ = some (.int .i64 ii) := cell_blk hgb
    have b4 : wg.cell? ⟨wo.heap.size, 4, none⟩ = some (.string tt) := cell_blk hgb
    have b5 : wg.cell? ⟨wo.heap.size, 5, none⟩ = some (.slice e0 l0 z0) := cell_blk hgb
    clear hq hqd hgo hfd hfg hgb hrd hsv hfl hv hHV hmem hfr
    go_upto_region 5 with fail
    clear hwg x0 x1 x2 x3 x4 x5
    go_region_held3 (fun w' => w'.cell? ⟨wo.heap.size, 0, none⟩ = some (.string f) ∧ w'.cell? ⟨wo.heap.size, 1, none⟩ = some (.int .i64 kk) ∧ w'.cell? ⟨wo.heap.size, 2, none⟩ = some (.bool bb) ∧ w'.cell? ⟨wo.heap.size, 3, none⟩ = some (.int .i64 ii) ∧ w'.cell? ⟨wo.heap.size, 4, none⟩ = some (.string tt) ∧ w'.cell? ⟨wo.heap.size, 5, none⟩ = some (.slice e0 l0 z0)) (go_keep) ((first | (go_at_call 52; refine HQD.out.mono ?_; rintro e w2 ⟨rfl, HB2, z0, z1, z2, z3, z4, z5⟩) | (refine step_append_bat rfl (.tmp 12) (.tmp 20) rfl (.slice a1 acc.length cp1) acc rfl HB2 rfl (by omega) ?_; intro v3 w3 HB3 hkp; have t0 := hkp _ _ z0 (fun e => absurd (HROW.out _ e).2 (Nat.lt_irrefl _)); have t1 := hkp _ _ z1 (fun e => absurd (HROW.out _ e).2 (Nat.lt_irrefl _)); have t2 := hkp _ _ z2 (fun e => absurd (HROW.out _ e).2 (Nat.lt_irrefl _)); have t3 := hkp _ _ z3 (fun e => absurd (HROW.out _ e).2 (Nat.lt_irrefl _)); have t4 := hkp _ _ z4 (fun e => absurd (HROW.out _ e).2 (Nat.lt_irrefl _)); have t5 := hkp _ _ z5 (fun e => absurd (HROW.out _ e).2 (Nat.lt_irrefl _)))))
    go_wp2_with fail
    go_roundg (n - (q + 1) + 1)
    case measure => omega
    case rel => exact ⟨q + 1, _, rfl, by omega, by omega, hn, Lib.hid (by rw [HA.out, List.take_add_one, HV.out]; simp [HGIV.out]), by simp; omega, HB3⟩
  ·have hi1 : ¬ (q : Int) < (n : Int) := by omega
   have hke : q = n := by omega
   have HKE := Lib.hid hke
   clear hke
   obtain ⟨wb, hwb⟩ : ∃ wb, wo.alloc (.cells #[.string ⟨#[123]⟩] 9) = wb := ⟨_, rfl⟩
   have hfb : FP nob wo wb := by rw [← hwb]; exact (FP.refl nob wo).alloc _
   have hra : SRow wb w.heap.size (.slice (some ⟨wo.heap.size, 0, none⟩) 1 1) [⟨#[123]⟩] := by rw [← hwb]; exact SRow.new wo _ HB.out.fp.size [⟨#[123]⟩] (by simp) _ rfl 1 rfl
   have hrb : SRow wb w.heap.size u3 acc := HB.out.row.far hfb
   have hbt := between_any hrb (by omega)
   have HBT := Lib.hid hbt
   have HRA := Lib.hid hra
   have HFB : Hid (FP nob w wb) := Lib.hid (FP.trans (S := nob) HB.out.fp hfb (fun _ x => x.elim))
   have hcl : (commasA acc).length ≤ 2 * acc.length := by rw [← commasF_eq]; exact commasF_len _ _
   clear hfb hra hrb hbt
   go_wp2_with fail
   refine HBT.out.mono ?_
   rintro e w3 ⟨v3, rfl, hr3, f3⟩
   have HR3 := Lib.hid hr3
   have HF3 := Lib.hid f3
   obtain ⟨wc, hwc⟩ : ∃ wc, w3.alloc (.cells #[.string ⟨#[125]⟩] 9) = wc := ⟨_, rfl⟩
   have hfc : FP nob w3 wc := by rw [← hwc]; exact (FP.refl nob w3).alloc _
   have hrc : SRow wc 0 (.slice (some ⟨w3.heap.size, 0, none⟩) 1 1) [⟨#[125]⟩] := by rw [← hwc]; exact SRow.new w3 _ (Nat.zero_le _) [⟨#[125]⟩] (by simp) _ rfl 1 rfl
   have HRC := Lib.hid hrc
   have HR4 := Lib.hid (hr3.far hfc)
   have HF4 : Hid (FP nob wb wc) := Lib.hid (FP.trans (S := nob) f3 hfc (fun _ x => x.elim))
   clear hfc hrc hr3 f3
   go_wp2_with (at_builtin; refine wpList_append_srow rfl (.tmp 25) (.tmp 26) rfl wb.heap.size v3 _ _ rfl HR4.out _ rfl 0 HRC.out (by simp; omega) HF4.out.size ?_)
   intro v5 w5 hr5 g5
   have f5 : FP nob wb w5 := FP.grown HF4.out g5 (fun k hk => Or.inr (World.ownsRow.lt HR4.out k hk).1)
   have HR5 := Lib.hid hr5
   have HRA5 := Lib.hid (HRA.out.far f5)
   have HF5 : Hid (FP nob w w5) := Lib.hid (FP.trans (S := nob) HFB.out f5 (fun _ x => x.elim))
   clear hr5 g5 f5
   go_wp2_with (at_builtin; refine wpList_append_srow rfl (.tmp 23) (.tmp 27) rfl w.heap.size _ [⟨#[123]⟩] _ rfl HRA5.out v5 rfl wb.heap.size HR5.out (by simp; omega) HF5.out.size ?_)
   intro v6 w6 hr6 g6
   have f6 : FP nob w w6 := FP.grown HF5.out g6 (fun k hk => Or.inr (World.ownsRow.lt HRA5.out k hk).1)
   have hXm : ([⟨#[123]⟩] ++ (commasA acc ++ [⟨#[125]⟩]) : List ByteArray).map (·.data.toList) = setsB l := by
    have e : acc.map (·.data.toList) = l.map givB := by
     rw [HA.out, HKE.out, ← HN.out, List.take_length, List.map_map]
     exact List.map_congr_left (fun v _ => mk_data _)
    rw [List.map_append, List.map_append, commasA_map, e]
    rfl
   have HX := Lib.hid hXm
   have HR6 := Lib.hid hr6
   have HF6 := Lib.hid f6
   clear hr6 g6 f6 hXm
   go_wp2_with fail
   exact bodyPost_ret (v := v6) (by simp [results, Tryz.results51]) rfl ⟨v6, _, rfl, HR6.out, HX.out, HF6.out⟩
end Go.Proofs.YtnpkdiffpgcbhaaGreatDoor
