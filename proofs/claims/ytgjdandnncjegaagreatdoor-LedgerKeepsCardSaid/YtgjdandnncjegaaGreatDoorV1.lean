/- Parts of the proof of LedgerKeepsCard. -/
import Derived.Shelf.Small.Wraps
import Derived.Shelf.Strconv.Atoi
import Derived.Shelf.Strconv.Itoa0
import Derived.Shelf.Strconv.Itoa1
import Derived.Shelf.LaysM
import Derived.Shelf.Strconv.Itoa2
import Derived.Shelf.Strconv.Itoa3
import Derived.Shelf.Strconv.AtoiErrFast
import Derived.Shelf.Strconv.ParseIntEmpty
import Derived.Shelf.Strconv.AtoiFail
import Derived.Shelf.Strconv.Clone
import Derived.Shelf.Strconv.SyntaxError
import Derived.Shelf.LaysC
import Derived.Shelf.Strconv.ToError
import Derived.Shelf.Strconv.AtoiErr
import Derived.Shelf.Strconv.ErrVar
import Derived.Shelf.Strings.Prefix
import Derived.Test.YtgjdandnncjegaaGreatDoorProg
import Derived.Test.YtgjdandnncjegaaGreatDoorCore9
import Derived.Test.YtgjdandnncjegaaGreatDoorLib
import Derived.Laws.IdiomStrings
import Derived.Lib.BufferRead
import Derived.Laws.Bits64
import Derived.Laws.BitsLemmas
import Derived.Laws.MakeOwn
import Derived.Laws.Externs
import Derived.MapKept
import Derived.WalkKit
/- The shelf's contracts strings_CutPrefix, strconv_Atoi, strconv_Atoi_err_var, strconv_Itoa, laid at this seat's program by the kit's tools. -/
namespace Go.Proofs
open Go.Shelf
def Tryz.lays103_ren : Go.Shelf.Ren := ⟨fun | 103 => 69 | 210 => 89 | 206 => 100 | n => n, fun | 9 => 9 | 4 => 4 | 24 => 95 | 3 => 3 | n => n, fun | n => n⟩
theorem Tryz.lays103 : Go.Proofs.Lays.n103 Tryz.prog Tryz.lays103_ren := {
  mixed := by kernel_rfl
  f103 := Tryz.func69.trans (congrArg some (by kernel_rfl))
  f206 := Tryz.func100.trans (congrArg some (by kernel_rfl))
  f210 := Tryz.func89.trans (congrArg some (by kernel_rfl))
  t3 := Tryz.underlying3
  a3 := Tryz.isAgg3
  z3 := Tryz.sizeOf3
  v3 := Tryz.zeroValue3
  t4 := Tryz.underlying4
  a4 := Tryz.isAgg4
  z4 := Tryz.sizeOf4
  v4 := Tryz.zeroValue4
  t9 := Tryz.underlying9
  a9 := Tryz.isAgg9
  z9 := Tryz.sizeOf9
  v9 := Tryz.zeroValue9
  t24 := Tryz.underlying95
  a24 := Tryz.isAgg95
  z24 := Tryz.sizeOf95
  v24 := Tryz.zeroValue95 }
open Go.RowKit in
/-- strings.CutPrefix: "CutPrefix returns s without the provided leading prefix string and reports whether it found the prefix. If s doesn't start with prefix, CutPrefix returns s, false. If prefix is the empty string, CutPrefix returns s, true.": IT RETURNS '(Lib.trimPrefix s p, Lib.hasPrefix s p)'; the world is as it was. (LAID: no walk: one application.) -/
theorem Tryz.strings_CutPrefix (s p : ByteArray) (w : World) :
    Calls Tryz.prog 69 #[.string s, .string p] w fun e w' => e = .returned (.tuple #[.string ⟨(Lib.trimPrefix s.data.toList p.data.toList).toArray⟩, .bool (Lib.hasPrefix s.data.toList p.data.toList)]) ∧ w' = w := Any.strings_CutPrefix Tryz.lays103 s p w
def Tryz.lays172_ren : Go.Shelf.Ren := ⟨fun | 172 => 70 | 244 => 90 | 245 => 91 | 247 => 101 | 279 => 102 | 280 => 103 | 281 => 104 | 282 => 105 | 287 => 123 | 316 => 124 | 171 => 51 | 205 => 125 | 321 => 145 | 322 => 146 | 243 => 81 | 246 => 96 | 283 => 117 | 284 => 118 | 285 => 119 | 286 => 120 | 129 => 116 | 317 => 132 | 318 => 133 | 319 => 134 | 320 => 135 | 337 => 148 | 338 => 149 | n => n, fun | 9 => 9 | 3 => 3 | 75 => 98 | 76 => 99 | 4 => 4 | 5 => 5 | 167 => 124 | 37 => 27 | 0 => 0 | 85 => 125 | 2 => 2 | 168 => 127 | 53 => 73 | 175 => 147 | 46 => 23 | 210 => 151 | 127 => 169 | 145 => 172 | 143 => 170 | 21 => 21 | 171 => 141 | 173 => 143 | 212 => 161 | 51 => 74 | 20 => 20 | 213 => 162 | 232 => 178 | 233 => 179 | 80 => 181 | n => n, fun | 15 => 1 | 16 => 2 | 17 => 3 | 18 => 4 | 19 => 5 | n => n⟩
theorem Tryz.lays172 : Go.Proofs.Lays.n172 Tryz.prog Tryz.lays172_ren := {
  mixed := by kernel_rfl
  f129 := Tryz.func116.trans (congrArg some (by kernel_rfl))
  f171 := Tryz.func51.trans (congrArg some (by kernel_rfl))
  f172 := Tryz.func70.trans (congrArg some (by kernel_rfl))
  f205 := Tryz.func125.trans (congrArg some (by kernel_rfl))
  f243 := Tryz.func81.trans (congrArg some (by kernel_rfl))
  f244 := Tryz.func90.trans (congrArg some (by kernel_rfl))
  f245 := Tryz.func91.trans (congrArg some (by kernel_rfl))
  f246 := Tryz.func96.trans (congrArg some (by kernel_rfl))
  f247 := Tryz.func101.trans (congrArg some (by kernel_rfl))
  f279 := Tryz.func102.trans (congrArg some (by kernel_rfl))
  f280 := Tryz.func103.trans (congrArg some (by kernel_rfl))
  f281 := Tryz.func104.trans (congrArg some (by kernel_rfl))
  f282 := Tryz.func105.trans (congrArg some (by kernel_rfl))
  f283 := Tryz.func117.trans (congrArg some (by kernel_rfl))
  f284 := Tryz.func118.trans (congrArg some (by kernel_rfl))
  f285 := Tryz.func119.trans (congrArg some (by kernel_rfl))
  f286 := Tryz.func120.trans (congrArg some (by kernel_rfl))
  f287 := Tryz.func123.trans (congrArg some (by kernel_rfl))
  f316 := Tryz.func124.trans (congrArg some (by kernel_rfl))
  f317 := Tryz.func132.trans (congrArg some (by kernel_rfl))
  f318 := Tryz.func133.trans (congrArg some (by kernel_rfl))
  f319 := Tryz.func134.trans (congrArg some (by kernel_rfl))
  f320 := Tryz.func135.trans (congrArg some (by kernel_rfl))
  f321 := Tryz.func145.trans (congrArg some (by kernel_rfl))
  f322 := Tryz.func146.trans (congrArg some (by kernel_rfl))
  f337 := Tryz.func148.trans (congrArg some (by kernel_rfl))
  f338 := Tryz.func149.trans (congrArg some (by kernel_rfl))
  t0 := Tryz.underlying0
  a0 := Tryz.isAgg0
  z0 := Tryz.sizeOf0
  v0 := Tryz.zeroValue0
  t2 := Tryz.underlying2
  a2 := Tryz.isAgg2
  z2 := Tryz.sizeOf2
  v2 := Tryz.zeroValue2
  t3 := Tryz.underlying3
  a3 := Tryz.isAgg3
  z3 := Tryz.sizeOf3
  v3 := Tryz.zeroValue3
  t4 := Tryz.underlying4
  a4 := Tryz.isAgg4
  z4 := Tryz.sizeOf4
  v4 := Tryz.zeroValue4
  t5 := Tryz.underlying5
  a5 := Tryz.isAgg5
  z5 := Tryz.sizeOf5
  v5 := Tryz.zeroValue5
  t9 := Tryz.underlying9
  a9 := Tryz.isAgg9
  z9 := Tryz.sizeOf9
  v9 := Tryz.zeroValue9
  t20 := Tryz.underlying20
  a20 := Tryz.isAgg20
  z20 := Tryz.sizeOf20
  v20 := Tryz.zeroValue20
  t21 := Tryz.underlying21
  a21 := Tryz.isAgg21
  z21 := Tryz.sizeOf21
  v21 := Tryz.zeroValue21
  t37 := Tryz.underlying27
  a37 := Tryz.isAgg27
  z37 := Tryz.sizeOf27
  v37 := Tryz.zeroValue27
  t46 := Tryz.underlying23
  a46 := Tryz.isAgg23
  z46 := Tryz.sizeOf23
  v46 := Tryz.zeroValue23
  t51 := Tryz.underlying74
  a51 := Tryz.isAgg74
  z51 := Tryz.sizeOf74
  v51 := Tryz.zeroValue74
  t53 := Tryz.underlying73
  a53 := Tryz.isAgg73
  z53 := Tryz.sizeOf73
  v53 := Tryz.zeroValue73
  t75 := Tryz.underlying98
  a75 := Tryz.isAgg98
  z75 := Tryz.sizeOf98
  v75 := Tryz.zeroValue98
  t76 := Tryz.underlying99
  a76 := Tryz.isAgg99
  z76 := Tryz.sizeOf99
  v76 := Tryz.zeroValue99
  t85 := Tryz.underlying125
  a85 := Tryz.isAgg125
  z85 := Tryz.sizeOf125
  v85 := Tryz.zeroValue125
  t127 := Tryz.underlying169
  a127 := Tryz.isAgg169
  z127 := Tryz.sizeOf169
  v127 := Tryz.zeroValue169
  t143 := Tryz.underlying170
  a143 := Tryz.isAgg170
  z143 := Tryz.sizeOf170
  v143 := Tryz.zeroValue170
  t145 := Tryz.underlying172
  a145 := Tryz.isAgg172
  z145 := Tryz.sizeOf172
  v145 := Tryz.zeroValue172
  t167 := Tryz.underlying124
  a167 := Tryz.isAgg124
  z167 := Tryz.sizeOf124
  v167 := Tryz.zeroValue124
  t168 := Tryz.underlying127
  a168 := Tryz.isAgg127
  z168 := Tryz.sizeOf127
  v168 := Tryz.zeroValue127
  t171 := Tryz.underlying141
  a171 := Tryz.isAgg141
  z171 := Tryz.sizeOf141
  v171 := Tryz.zeroValue141
  t173 := Tryz.underlying143
  a173 := Tryz.isAgg143
  z173 := Tryz.sizeOf143
  v173 := Tryz.zeroValue143
  t175 := Tryz.underlying147
  a175 := Tryz.isAgg147
  z175 := Tryz.sizeOf147
  v175 := Tryz.zeroValue147
  t210 := Tryz.underlying151
  a210 := Tryz.isAgg151
  z210 := Tryz.sizeOf151
  v210 := Tryz.zeroValue151
  t212 := Tryz.underlying161
  a212 := Tryz.isAgg161
  z212 := Tryz.sizeOf161
  v212 := Tryz.zeroValue161
  t213 := Tryz.underlying162
  a213 := Tryz.isAgg162
  z213 := Tryz.sizeOf162
  t232 := Tryz.underlying178
  a232 := Tryz.isAgg178
  z232 := Tryz.sizeOf178
  v232 := Tryz.zeroValue178
  t233 := Tryz.underlying179
  a233 := Tryz.isAgg179
  z233 := Tryz.sizeOf179
  v233 := Tryz.zeroValue179
  g15 := by kernel_rfl
  g16 := by kernel_rfl
  g17 := by kernel_rfl
  g18 := by kernel_rfl
  g19 := by kernel_rfl }
open Go.RowKit in
/-- strconv.Atoi: "Atoi is equivalent to ParseInt(s, 10, 0), converted to type int.": AT A DECIMAL NUMERAL OF AT MOST 18 BYTES: its value, and a nil error. The world behind the call: the one new row that the library's '[]byte(s)' lays. (LAID: no walk: one application.) -/
theorem Tryz.strconv_Atoi (s : ByteArray) (n : Int) (hl : s.size ≤ 18) (h : Lib.atoi s.data.toList = some n) (w : World) :
    Calls Tryz.prog 70 #[.string s] w fun e w' => e = .returned (.tuple #[.int .i64 n, .nilIface]) ∧ ∃ t, w' = Lib.bytesWorld w 5 t := Any.strconv_Atoi Tryz.lays172 s n hl h w
def Tryz.laysM171_ren : Go.Shelf.Ren := ⟨fun | 171 => 51 | 243 => 81 | 246 => 96 | 283 => 117 | 284 => 118 | 285 => 119 | 286 => 120 | 129 => 116 | 317 => 132 | 318 => 133 | 319 => 134 | 320 => 135 | 337 => 148 | 338 => 149 | n => n, fun | 3 => 3 | 9 => 9 | 2 => 2 | 4 => 4 | 171 => 141 | 0 => 0 | 53 => 73 | 37 => 27 | 5 => 5 | 173 => 143 | 212 => 161 | 51 => 74 | 20 => 20 | 213 => 162 | 46 => 23 | 232 => 178 | 233 => 179 | n => n, fun | 17 => 3 | 18 => 4 | 19 => 5 | n => n⟩
theorem Tryz.laysM171 : Go.Proofs.LaysM.n171 Tryz.prog Tryz.laysM171_ren := {
  mixed := by kernel_rfl
  f129 := Tryz.func116.trans (congrArg some (by kernel_rfl))
  f171 := Tryz.func51.trans (congrArg some (by kernel_rfl))
  f243 := Tryz.func81.trans (congrArg some (by kernel_rfl))
  f246 := Tryz.func96.trans (congrArg some (by kernel_rfl))
  f283 := Tryz.func117.trans (congrArg some (by kernel_rfl))
  f284 := Tryz.func118.trans (congrArg some (by kernel_rfl))
  f285 := Tryz.func119.trans (congrArg some (by kernel_rfl))
  f286 := Tryz.func120.trans (congrArg some (by kernel_rfl))
  f317 := Tryz.func132.trans (congrArg some (by kernel_rfl))
  f318 := Tryz.func133.trans (congrArg some (by kernel_rfl))
  f319 := Tryz.func134.trans (congrArg some (by kernel_rfl))
  f320 := Tryz.func135.trans (congrArg some (by kernel_rfl))
  f337 := Tryz.func148.trans (congrArg some (by kernel_rfl))
  f338 := Tryz.func149.trans (congrArg some (by kernel_rfl))
  t0 := Tryz.underlying0
  a0 := Tryz.isAgg0
  z0 := Tryz.sizeOf0
  v0 := Tryz.zeroValue0
  t2 := Tryz.underlying2
  a2 := Tryz.isAgg2
  z2 := Tryz.sizeOf2
  v2 := Tryz.zeroValue2
  t3 := Tryz.underlying3
  a3 := Tryz.isAgg3
  z3 := Tryz.sizeOf3
  v3 := Tryz.zeroValue3
  t4 := Tryz.underlying4
  a4 := Tryz.isAgg4
  z4 := Tryz.sizeOf4
  v4 := Tryz.zeroValue4
  t5 := Tryz.underlying5
  a5 := Tryz.isAgg5
  z5 := Tryz.sizeOf5
  v5 := Tryz.zeroValue5
  t9 := Tryz.underlying9
  a9 := Tryz.isAgg9
  z9 := Tryz.sizeOf9
  v9 := Tryz.zeroValue9
  t20 := Tryz.underlying20
  a20 := Tryz.isAgg20
  z20 := Tryz.sizeOf20
  v20 := Tryz.zeroValue20
  t37 := Tryz.underlying27
  a37 := Tryz.isAgg27
  z37 := Tryz.sizeOf27
  v37 := Tryz.zeroValue27
  t46 := Tryz.underlying23
  a46 := Tryz.isAgg23
  z46 := Tryz.sizeOf23
  v46 := Tryz.zeroValue23
  t51 := Tryz.underlying74
  a51 := Tryz.isAgg74
  z51 := Tryz.sizeOf74
  v51 := Tryz.zeroValue74
  t53 := Tryz.underlying73
  a53 := Tryz.isAgg73
  z53 := Tryz.sizeOf73
  v53 := Tryz.zeroValue73
  t171 := Tryz.underlying141
  a171 := Tryz.isAgg141
  z171 := Tryz.sizeOf141
  v171 := Tryz.zeroValue141
  t173 := Tryz.underlying143
  a173 := Tryz.isAgg143
  z173 := Tryz.sizeOf143
  v173 := Tryz.zeroValue143
  t212 := Tryz.underlying161
  a212 := Tryz.isAgg161
  z212 := Tryz.sizeOf161
  v212 := Tryz.zeroValue161
  t213 := Tryz.underlying162
  a213 := Tryz.isAgg162
  z213 := Tryz.sizeOf162
  t232 := Tryz.underlying178
  a232 := Tryz.isAgg178
  z232 := Tryz.sizeOf178
  v232 := Tryz.zeroValue178
  t233 := Tryz.underlying179
  a233 := Tryz.isAgg179
  z233 := Tryz.sizeOf179
  v233 := Tryz.zeroValue179
  g17 := by kernel_rfl
  g18 := by kernel_rfl
  g19 := by kernel_rfl
  i0 := by kernel_rfl
  i2 := by kernel_rfl
  i3 := by kernel_rfl
  i4 := by kernel_rfl
  i5 := by kernel_rfl
  i9 := by kernel_rfl
  i20 := by kernel_rfl
  i37 := by kernel_rfl
  i46 := by kernel_rfl
  i51 := by kernel_rfl
  i53 := by kernel_rfl
  i171 := by kernel_rfl
  i173 := by kernel_rfl
  i212 := by kernel_rfl
  i232 := by kernel_rfl
  i233 := by kernel_rfl
  m17 := by kernel_rfl
  m18 := by kernel_rfl
  m19 := by kernel_rfl }
open Go.RowKit Go.Sort Go.Lib in
/-- strconv.Itoa: "Itoa is equivalent to FormatInt(int64(i), 10).": i's DECIMAL NUMERAL ('Lib.itoa': a '-' where i is negative, then the digits), FOR EVERY int. The world behind the call: the world before it, new blocks behind the heap (the library's 'var a [24]byte'), draws. (LAID: no walk: one application.) -/
theorem Tryz.strconv_Itoa (n : Int) (h0 : -9223372036854775808 ≤ n) (h1 : n ≤ 9223372036854775807) (w : World) (htab : Lib.TabIs Tryz.prog w "internal/strconv.uint64pow10" .u64 Lib.pow10Tab) :
    Calls Tryz.prog 51 #[.int .i64 n] w fun e w' => e = .returned (.string ⟨(Lib.itoa n).toArray⟩) ∧ ∃ k os, w' = grow (w.drewN k) os := Any.strconv_Itoa Tryz.laysM171 n h0 h1 w htab
def Tryz.laysC172_ren : Go.Shelf.Ren := ⟨fun | 172 => 70 | 244 => 90 | 245 => 91 | 247 => 101 | 279 => 102 | 280 => 103 | 281 => 104 | 282 => 105 | 287 => 123 | 316 => 124 | 171 => 51 | 205 => 125 | 321 => 145 | 322 => 146 | 243 => 81 | 246 => 96 | 283 => 117 | 284 => 118 | 285 => 119 | 286 => 120 | 129 => 116 | 317 => 132 | 318 => 133 | 319 => 134 | 320 => 135 | 337 => 148 | 338 => 149 | n => n, fun | 9 => 9 | 3 => 3 | 75 => 98 | 76 => 99 | 4 => 4 | 5 => 5 | 167 => 124 | 37 => 27 | 0 => 0 | 85 => 125 | 2 => 2 | 168 => 127 | 53 => 73 | 175 => 147 | 46 => 23 | 210 => 151 | 127 => 169 | 145 => 172 | 143 => 170 | 21 => 21 | 171 => 141 | 173 => 143 | 212 => 161 | 51 => 74 | 20 => 20 | 213 => 162 | 232 => 178 | 233 => 179 | 80 => 181 | n => n, fun | 15 => 1 | 16 => 2 | 17 => 3 | 18 => 4 | 19 => 5 | n => n⟩
theorem Tryz.laysC172 : Go.Proofs.LaysC.n172 Tryz.prog Tryz.laysC172_ren := {
  mixed := by kernel_rfl
  f129 := Tryz.func116.trans (congrArg some (by kernel_rfl))
  f171 := Tryz.func51.trans (congrArg some (by kernel_rfl))
  f172 := Tryz.func70.trans (congrArg some (by kernel_rfl))
  f205 := Tryz.func125.trans (congrArg some (by kernel_rfl))
  f243 := Tryz.func81.trans (congrArg some (by kernel_rfl))
  f244 := Tryz.func90.trans (congrArg some (by kernel_rfl))
  f245 := Tryz.func91.trans (congrArg some (by kernel_rfl))
  f246 := Tryz.func96.trans (congrArg some (by kernel_rfl))
  f247 := Tryz.func101.trans (congrArg some (by kernel_rfl))
  f279 := Tryz.func102.trans (congrArg some (by kernel_rfl))
  f280 := Tryz.func103.trans (congrArg some (by kernel_rfl))
  f281 := Tryz.func104.trans (congrArg some (by kernel_rfl))
  f282 := Tryz.func105.trans (congrArg some (by kernel_rfl))
  f283 := Tryz.func117.trans (congrArg some (by kernel_rfl))
  f284 := Tryz.func118.trans (congrArg some (by kernel_rfl))
  f285 := Tryz.func119.trans (congrArg some (by kernel_rfl))
  f286 := Tryz.func120.trans (congrArg some (by kernel_rfl))
  f287 := Tryz.func123.trans (congrArg some (by kernel_rfl))
  f316 := Tryz.func124.trans (congrArg some (by kernel_rfl))
  f317 := Tryz.func132.trans (congrArg some (by kernel_rfl))
  f318 := Tryz.func133.trans (congrArg some (by kernel_rfl))
  f319 := Tryz.func134.trans (congrArg some (by kernel_rfl))
  f320 := Tryz.func135.trans (congrArg some (by kernel_rfl))
  f321 := Tryz.func145.trans (congrArg some (by kernel_rfl))
  f322 := Tryz.func146.trans (congrArg some (by kernel_rfl))
  f337 := Tryz.func148.trans (congrArg some (by kernel_rfl))
  f338 := Tryz.func149.trans (congrArg some (by kernel_rfl))
  t0 := Tryz.underlying0
  a0 := Tryz.isAgg0
  z0 := Tryz.sizeOf0
  v0 := Tryz.zeroValue0
  t2 := Tryz.underlying2
  a2 := Tryz.isAgg2
  z2 := Tryz.sizeOf2
  v2 := Tryz.zeroValue2
  t3 := Tryz.underlying3
  a3 := Tryz.isAgg3
  z3 := Tryz.sizeOf3
  v3 := Tryz.zeroValue3
  t4 := Tryz.underlying4
  a4 := Tryz.isAgg4
  z4 := Tryz.sizeOf4
  v4 := Tryz.zeroValue4
  t5 := Tryz.underlying5
  a5 := Tryz.isAgg5
  z5 := Tryz.sizeOf5
  v5 := Tryz.zeroValue5
  t9 := Tryz.underlying9
  a9 := Tryz.isAgg9
  z9 := Tryz.sizeOf9
  v9 := Tryz.zeroValue9
  t20 := Tryz.underlying20
  a20 := Tryz.isAgg20
  z20 := Tryz.sizeOf20
  v20 := Tryz.zeroValue20
  t21 := Tryz.underlying21
  a21 := Tryz.isAgg21
  z21 := Tryz.sizeOf21
  v21 := Tryz.zeroValue21
  t37 := Tryz.underlying27
  a37 := Tryz.isAgg27
  z37 := Tryz.sizeOf27
  v37 := Tryz.zeroValue27
  t46 := Tryz.underlying23
  a46 := Tryz.isAgg23
  z46 := Tryz.sizeOf23
  v46 := Tryz.zeroValue23
  t51 := Tryz.underlying74
  a51 := Tryz.isAgg74
  z51 := Tryz.sizeOf74
  v51 := Tryz.zeroValue74
  t53 := Tryz.underlying73
  a53 := Tryz.isAgg73
  z53 := Tryz.sizeOf73
  v53 := Tryz.zeroValue73
  t75 := Tryz.underlying98
  a75 := Tryz.isAgg98
  z75 := Tryz.sizeOf98
  v75 := Tryz.zeroValue98
  t76 := Tryz.underlying99
  a76 := Tryz.isAgg99
  z76 := Tryz.sizeOf99
  v76 := Tryz.zeroValue99
  t85 := Tryz.underlying125
  a85 := Tryz.isAgg125
  z85 := Tryz.sizeOf125
  v85 := Tryz.zeroValue125
  t127 := Tryz.underlying169
  a127 := Tryz.isAgg169
  z127 := Tryz.sizeOf169
  v127 := Tryz.zeroValue169
  t143 := Tryz.underlying170
  a143 := Tryz.isAgg170
  z143 := Tryz.sizeOf170
  v143 := Tryz.zeroValue170
  t145 := Tryz.underlying172
  a145 := Tryz.isAgg172
  z145 := Tryz.sizeOf172
  v145 := Tryz.zeroValue172
  t167 := Tryz.underlying124
  a167 := Tryz.isAgg124
  z167 := Tryz.sizeOf124
  v167 := Tryz.zeroValue124
  t168 := Tryz.underlying127
  a168 := Tryz.isAgg127
  z168 := Tryz.sizeOf127
  v168 := Tryz.zeroValue127
  t171 := Tryz.underlying141
  a171 := Tryz.isAgg141
  z171 := Tryz.sizeOf141
  v171 := Tryz.zeroValue141
  t173 := Tryz.underlying143
  a173 := Tryz.isAgg143
  z173 := Tryz.sizeOf143
  v173 := Tryz.zeroValue143
  t175 := Tryz.underlying147
  a175 := Tryz.isAgg147
  z175 := Tryz.sizeOf147
  v175 := Tryz.zeroValue147
  t210 := Tryz.underlying151
  a210 := Tryz.isAgg151
  z210 := Tryz.sizeOf151
  v210 := Tryz.zeroValue151
  t212 := Tryz.underlying161
  a212 := Tryz.isAgg161
  z212 := Tryz.sizeOf161
  v212 := Tryz.zeroValue161
  t213 := Tryz.underlying162
  a213 := Tryz.isAgg162
  z213 := Tryz.sizeOf162
  t232 := Tryz.underlying178
  a232 := Tryz.isAgg178
  z232 := Tryz.sizeOf178
  v232 := Tryz.zeroValue178
  t233 := Tryz.underlying179
  a233 := Tryz.isAgg179
  z233 := Tryz.sizeOf179
  v233 := Tryz.zeroValue179
  g15 := by kernel_rfl
  g16 := by kernel_rfl
  g17 := by kernel_rfl
  g18 := by kernel_rfl
  g19 := by kernel_rfl
  t80 := Tryz.underlying181
  a80 := Tryz.isAgg181
  z80 := Tryz.sizeOf181
  v80 := Tryz.zeroValue181
  i0 := by kernel_rfl
  i2 := by kernel_rfl
  i3 := by kernel_rfl
  i4 := by kernel_rfl
  i5 := by kernel_rfl
  i9 := by kernel_rfl
  i20 := by kernel_rfl
  i21 := by kernel_rfl
  i37 := by kernel_rfl
  i46 := by kernel_rfl
  i51 := by kernel_rfl
  i53 := by kernel_rfl
  i75 := by kernel_rfl
  i76 := by kernel_rfl
  i80 := by kernel_rfl
  i85 := by kernel_rfl
  i127 := by kernel_rfl
  i143 := by kernel_rfl
  i145 := by kernel_rfl
  i167 := by kernel_rfl
  i168 := by kernel_rfl
  i171 := by kernel_rfl
  i173 := by kernel_rfl
  i175 := by kernel_rfl
  i210 := by kernel_rfl
  i212 := by kernel_rfl
  i232 := by kernel_rfl
  i233 := by kernel_rfl
  m15 := by kernel_rfl
  m16 := by kernel_rfl
  m17 := by kernel_rfl
  m18 := by kernel_rfl
  m19 := by kernel_rfl
  c0 := by kernel_rfl
  c2 := by kernel_rfl
  c3 := by kernel_rfl
  c4 := by kernel_rfl
  c5 := by kernel_rfl
  c9 := by kernel_rfl
  c20 := by kernel_rfl
  c21 := by kernel_rfl
  c37 := by kernel_rfl
  c46 := by kernel_rfl
  c51 := by kernel_rfl
  c53 := by kernel_rfl
  c75 := by kernel_rfl
  c76 := by kernel_rfl
  c80 := by kernel_rfl
  c85 := by kernel_rfl
  c127 := by kernel_rfl
  c143 := by kernel_rfl
  c145 := by kernel_rfl
  c167 := by kernel_rfl
  c168 := by kernel_rfl
  c171 := by kernel_rfl
  c173 := by kernel_rfl
  c175 := by kernel_rfl
  c210 := by kernel_rfl
  c212 := by kernel_rfl
  c213 := by kernel_rfl
  c232 := by kernel_rfl
  c233 := by kernel_rfl }
open Go.RowKit in
theorem Tryz.strconv_Atoi_err_var (s : ByteArray) (hl : s.size ≤ 18) (h : Lib.atoi s.data.toList = none) (tp : TypeId) (p : Value) (w : World) (hvar : w.var? Tryz.prog "strconv.ErrSyntax" = some #[.iface tp p]) :
    Calls Tryz.prog 70 #[.string s] w fun e w' => ∃ N, e = .returned (.tuple #[.int .i64 0, .iface 127 (.pointer (some ⟨N, 0, none⟩))]) ∧ w.heap.size ≤ N ∧ w'.heap[N]? = some (.cells #[.string ⟨#[65, 116, 111, 105]⟩, .string s, .iface tp p] 151 (0, 0)) ∧ Below w.heap.size w w' := Any.strconv_Atoi_err_var Tryz.laysC172 s hl h tp p w hvar
end Go.Proofs

/- The formulas of functions, printed by a program of mine (gen.py) out of the translation. -/
namespace Go.Proofs.YtgjdandnncjegaaGreatDoor
open Go Go.Proofs.YtgjdandnncjegaaGreatDoor.St
open _root_.Go.Value (string int bool slice pointer agg tuple map func nilFunc iface)
open _root_.Go.World (cell? frozen? setCell alloc drew)
open _root_.Go.Addr (add)
open _root_.Go.Obj (cells)
open _root_.Go.IntKind (wrap i64 u64 i32 u32 u8)
set_option maxRecDepth 100000

/-- staith/word.Good -/
noncomputable def C82 : Code := (Tryz.f82.body).getD .skip
def pl82 : Nat → Plan := fun _ => .done
def ls82 : Nat → List (Nat × LT)
  | 3 => [(6, (.one (.int .i64)))]
  | _ => []
def W82 (width : Int) (w : World) (R : Value → World → Prop) : Prop :=
  (∃ x0 : Int, ((cell? w (add (Addr.mk 0 0 none) 0) = some (int i64 x0)) ∧ (∃ x1 : Int, ((cell? w (add (Addr.mk 0 0 none) 1) = some (int i64 x1)) ∧ (∃ x2 : Int, ((cell? w (add (Addr.mk 0 0 none) 2) = some (int i64 x2)) ∧ (∃ x3 : Int, ((cell? w (add (Addr.mk 0 0 none) 3) = some (int i64 x3)) ∧ (∃ z4 : Int → World → Prop, (∃ z5 : Int → World → Nat, ((z4 (0) (w)) ∧ (∀ (_ : Nat → Value), (∀ (x7 : Int), (∀ (w8 : World), ((z4 (x7) (w8)) → (ifK (decide (x7 < 4))
(∃ v9 : Value, (∃ w10 : World, ((Sem.run Tryz.prog (Instr.index 121 (agg (Array.mk (List.reverse [int i64 x3, int i64 x2, int i64 x1, int i64 x0]))) (int i64 x7)) w8 = Result.ok v9 w10) ∧ (∃ x11 : Int, ((v9 = int i64 x11) ∧ (ifK (x11 == width)
(R (bool true) (w10))
((z4 (wrap i64 (x7 + 1)) (w10)) ∧ (z5 (wrap i64 (x7 + 1)) w10 < z5 x7 w8))))))))
(R (bool false) (w8))))))))))))))))))
theorem ca82 (width : Int) (w : World) (R : Value → World → Prop) (h : W82 width w R) : Ca Tryz.prog 82 ⟨[(.int .i64 width)]⟩ w R :=
  caB (fn := Tryz.f82) (pl := pl82) (ls := ls82) Tryz.func82 (by kernel_rfl) (by kernel_rfl) h

/-- staith/word.Put -/
noncomputable def C52 : Code := (Tryz.f52.body).getD .skip
def pl52 : Nat → Plan := fun _ => .done
def ls52 : Nat → List (Nat × LT)
  | 8 => [(7, (.one .slice)), (23, (.one (.int .i64)))]
  | _ => []
def W52 (ba : Option Addr) (bl : Nat) (bc : Nat) (width : Int) (v_ : Int) (w : World) (R : Value → World → Prop) : Prop :=
  (∃ v0 : Value, (∃ w1 : World, ((Sem.run Tryz.prog (Instr.makeSlice 27 (int i64 (↑bl : Int)) (int i64 (wrap i64 ((↑bl : Int) + 8)))) w = Result.ok v0 w1) ∧ (∃ p2 : Option Addr, (∃ n3 : Nat, (∃ n4 : Nat, ((v0 = slice p2 n3 n4) ∧ (∃ v5 : Value, (∃ w6 : World, ((Sem.run Tryz.prog (Builtin.copy_ (Array.mk [27, 27]) 3 (Array.mk [slice p2 n3 n4, slice ba bl bc])) w1 = Result.ok v5 w6) ∧ (∃ x7 : Int, ((v5 = int i64 x7) ∧ (Ca Tryz.prog (82) (Array.mk [int i64 width]) (w6) (fun v8 => (fun w9 =>
(∃ b10 : Bool, ((v8 = bool b10) ∧ (ifK (!b10)
(R (slice p2 n3 n4) (w9))
(∃ z11 : Option Addr → Nat → Nat → Int → World → Prop, (∃ z12 : Option Addr → Nat → Nat → Int → World → Nat, ((z11 (p2) (n3) (n4) (0) (w9)) ∧ (∀ (_ : Nat → Value), (∀ (p14 : Option Addr), (∀ (n15 : Nat), (∀ (n16 : Nat), (∀ (x17 : Int), (∀ (w18 : World), ((z11 (p14) (n15) (n16) (x17) (w18)) → (ifK (decide (x17 < width))
(((0 : Int) ≤ wrap i64 (8 * wrap i64 (wrap i64 (width - 1) - x17))) ∧ (atW (alloc w18 (cells (Array.mk [int u8 (wrap u8 (Int.fdiv v_ (2 ^ min (Int.toNat (wrap i64 (8 * wrap i64 (wrap i64 (width - 1) - x17)))) 64)))]) 5 (0, 0))) (fun w19 =>
(∃ v20 : Value, (∃ w21 : World, ((Sem.run Tryz.prog (Builtin.append_ (Array.mk [27, 27]) 27 (Array.mk [slice p14 n15 n16, slice (some (nw w18)) 1 1])) w19 = Result.ok v20 w21) ∧ (∃ p22 : Option Addr, (∃ n23 : Nat, (∃ n24 : Nat, ((v20 = slice p22 n23 n24) ∧ ((z11 (p22) (n23) (n24) (wrap i64 (x17 + 1)) (w21)) ∧ (z12 p22 n23 n24 (wrap i64 (x17 + 1)) w21 < z12 p14 n15 n16 x17 w18))))))))))))
(R (slice p14 n15 n16) (w18)))))))))))))))))))))))))))))))
theorem ca52 (ba : Option Addr) (bl : Nat) (bc : Nat) (width : Int) (v_ : Int) (w : World) (R : Value → World → Prop) (h : W52 ba bl bc width v_ w R) : Ca Tryz.prog 52 ⟨[(.slice ba bl bc), (.int .i64 width), (.int .u64 v_)]⟩ w R :=
  caB (fn := Tryz.f52) (pl := pl52) (ls := ls52) Tryz.func52 (by kernel_rfl) (by kernel_rfl) h

/-- staith/word.Get -/
noncomputable def C67 : Code := (Tryz.f67.body).getD .skip
def pl67 : Nat → Plan := fun _ => .done
def ls67 : Nat → List (Nat × LT)
  | 7 => [(6, (.one (.int .u64))), (18, (.one (.int .i64)))]
  | _ => []
def W67 (ba : Option Addr) (bl : Nat) (_bc : Nat) (width : Int) (w : World) (R : Value → World → Prop) : Prop :=
  (Ca Tryz.prog (82) (Array.mk [int i64 width]) (w) (fun v0 => (fun w1 =>
(∃ b2 : Bool, ((v0 = bool b2) ∧ (ifK (!b2)
(R (tuple (Array.mk [int u64 0, bool false])) (w1))
(ifK (decide ((↑bl : Int) < width))
(R (tuple (Array.mk [int u64 0, bool false])) (w1))
(∃ z3 : Int → Int → World → Prop, (∃ z4 : Int → Int → World → Nat, ((z3 (0) (0) (w1)) ∧ (∀ (_ : Nat → Value), (∀ (x6 : Int), (∀ (x7 : Int), (∀ (w8 : World), ((z3 (x6) (x7) (w8)) → (ifK (decide (x7 < width))
(((0 : Int) ≤ 8) ∧ (∃ a9 : Addr, ((ba = some a9) ∧ (((0 : Int) ≤ x7) ∧ (((x7 : Int) < (↑bl : Int)) ∧ (∃ x10 : Int, ((cell? w8 (add a9 (Int.toNat x7 * 1)) = some (int u8 x10)) ∧ ((z3 (wrap u64 (↑(BitVec.toNat (BitVec.ofInt 64 (wrap u64 (x6 * 2 ^ 8)) ||| BitVec.ofInt 64 (wrap u64 x10))) : Int)) (wrap i64 (x7 + 1)) (w8)) ∧ (z4 (wrap u64 (↑(BitVec.toNat (BitVec.ofInt 64 (wrap u64 (x6 * 2 ^ 8)) ||| BitVec.ofInt 64 (wrap u64 x10))) : Int)) (wrap i64 (x7 + 1)) w8 < z4 x6 x7 w8)))))))))
(R (tuple (Array.mk [int u64 x6, bool true])) (w8))))))))))))))))))
theorem ca67 (ba : Option Addr) (bl : Nat) (bc : Nat) (width : Int) (w : World) (R : Value → World → Prop) (h : W67 ba bl bc width w R) : Ca Tryz.prog 67 ⟨[(.slice ba bl bc), (.int .i64 width)]⟩ w R :=
  caB (fn := Tryz.f67) (pl := pl67) (ls := ls67) Tryz.func67 (by kernel_rfl) (by kernel_rfl) h

/-- staith/seal.Sum -/
noncomputable def C78 : Code := (Tryz.f78.body).getD .skip
def pl78 : Nat → Plan := fun _ => .done
def ls78 : Nat → List (Nat × LT)
  | 4 => [(3, (.one (.int .u32))), (9, (.one (.int .i64)))]
  | 11 => [(3, (.one (.int .u32))), (18, (.one (.int .i64)))]
  | _ => []
def W78 (ba : Option Addr) (bl : Nat) (_bc : Nat) (w : World) (R : Value → World → Prop) : Prop :=
  (∃ z0 : Int → Int → World → Prop, (∃ z1 : Int → Int → World → Nat, ((z0 (4294967295) (0) (w)) ∧ (∀ (_ : Nat → Value), (∀ (x3 : Int), (∀ (x4 : Int), (∀ (w5 : World), ((z0 (x3) (x4) (w5)) → (ifK (decide (x4 < (↑bl : Int)))
(∃ a6 : Addr, ((ba = some a6) ∧ (((0 : Int) ≤ x4) ∧ (((x4 : Int) < (↑bl : Int)) ∧ (∃ x7 : Int, ((cell? w5 (add a6 (Int.toNat x4 * 1)) = some (int u8 x7)) ∧ (((0 : Int) ≤ 24) ∧ (∃ z8 : Int → Int → World → Prop, (∃ z9 : Int → Int → World → Nat, ((z8 (wrap u32 (↑(BitVec.toNat (BitVec.ofInt 32 x3 ^^^ BitVec.ofInt 32 (wrap u32 (wrap u32 x7 * 2 ^ 24)))) : Int)) (0) (w5)) ∧ (∀ (_ : Nat → Value), (∀ (x11 : Int), (∀ (x12 : Int), (∀ (w13 : World), ((z8 (x11) (x12) (w13)) → (ifK (decide (x12 < 8))
(((0 : Int) ≤ 31) ∧ (((0 : Int) ≤ 1) ∧ ((z8 (wrap u32 (↑(BitVec.toNat (BitVec.ofInt 32 (wrap u32 (x11 * 2 ^ 1)) ^^^ BitVec.ofInt 32 (wrap u32 (↑(BitVec.toNat (BitVec.ofInt 32 1947962583 &&& BitVec.ofInt 32 (wrap u32 (Int.fdiv (wrap i32 x11) (2 ^ 31))))) : Int)))) : Int)) (wrap i64 (x12 + 1)) (w13)) ∧ (z9 (wrap u32 (↑(BitVec.toNat (BitVec.ofInt 32 (wrap u32 (x11 * 2 ^ 1)) ^^^ BitVec.ofInt 32 (wrap u32 (↑(BitVec.toNat (BitVec.ofInt 32 1947962583 &&& BitVec.ofInt 32 (wrap u32 (Int.fdiv (wrap i32 x11) (2 ^ 31))))) : Int)))) : Int)) (wrap i64 (x12 + 1)) w13 < z9 x11 x12 w13))))
((z0 (x11) (wrap i64 (x4 + 1)) (w13)) ∧ (z1 x11 (wrap i64 (x4 + 1)) w13 < z1 x3 x4 w5))))))))))))))))))
(R (int u32 x3) (w5)))))))))))
theorem ca78 (ba : Option Addr) (bl : Nat) (bc : Nat) (w : World) (R : Value → World → Prop) (h : W78 ba bl bc w R) : Ca Tryz.prog 78 ⟨[(.slice ba bl bc)]⟩ w R :=
  caB (fn := Tryz.f78) (pl := pl78) (ls := ls78) Tryz.func78 (by kernel_rfl) (by kernel_rfl) h

/-- staith/seal.Seal -/
noncomputable def C42 : Code := (Tryz.f42.body).getD .skip
def pl42 : Nat → Plan := fun _ => .done
def ls42 : Nat → List (Nat × LT) := fun _ => []
def W42 (ba : Option Addr) (bl : Nat) (bc : Nat) (w : World) (R : Value → World → Prop) : Prop :=
  (ifK (decide ((↑bl : Int) > 1048576))
(R (slice none 0 0) (w))
(Ca Tryz.prog (52) (Array.mk [slice none 0 0, int i64 4, int u64 (wrap u64 (↑bl : Int))]) (w) (fun v0 => (fun w1 =>
(∃ p2 : Option Addr, (∃ n3 : Nat, (∃ n4 : Nat, ((v0 = slice p2 n3 n4) ∧ (∃ v5 : Value, (∃ w6 : World, ((Sem.run Tryz.prog (Builtin.append_ (Array.mk [27, 27]) 27 (Array.mk [slice p2 n3 n4, slice ba bl bc])) w1 = Result.ok v5 w6) ∧ (∃ p7 : Option Addr, (∃ n8 : Nat, (∃ n9 : Nat, ((v5 = slice p7 n8 n9) ∧ (Ca Tryz.prog (78) (Array.mk [slice p7 n8 n9]) (w6) (fun v10 => (fun w11 =>
(∃ x12 : Int, ((v10 = int u32 x12) ∧ (Ca Tryz.prog (52) (Array.mk [slice p7 n8 n9, int i64 4, int u64 (wrap u64 x12)]) (w11) (fun v13 => (fun w14 =>
(∃ p15 : Option Addr, (∃ n16 : Nat, (∃ n17 : Nat, ((v13 = slice p15 n16 n17) ∧ (R (slice p15 n16 n17) (w14)))))))))))))))))))))))))))))
theorem ca42 (ba : Option Addr) (bl : Nat) (bc : Nat) (w : World) (R : Value → World → Prop) (h : W42 ba bl bc w R) : Ca Tryz.prog 42 ⟨[(.slice ba bl bc)]⟩ w R :=
  caB (fn := Tryz.f42) (pl := pl42) (ls := ls42) Tryz.func42 (by kernel_rfl) (by kernel_rfl) h

/-- staith/seal.Open -/
noncomputable def C66 : Code := (Tryz.f66.body).getD .skip
def pl66 : Nat → Plan := fun _ => .done
def ls66 : Nat → List (Nat × LT) := fun _ => []
def W66 (ba : Option Addr) (bl : Nat) (bc : Nat) (w : World) (R : Value → World → Prop) : Prop :=
  (Ca Tryz.prog (67) (Array.mk [slice ba bl bc, int i64 4]) (w) (fun v0 => (fun w1 =>
(∃ x2 : Int, (∃ b3 : Bool, ((v0 = tuple (Array.mk (List.reverse [bool b3, int u64 x2]))) ∧ (ifK (!b3)
(R (tuple (Array.mk [slice none 0 0, int i64 0, int i64 8])) (w1))
(ifK (decide (x2 > 1048576))
(R (tuple (Array.mk [slice none 0 0, int i64 0, int i64 5])) (w1))
(ifK (decide (wrap u64 (↑bl : Int) < wrap u64 (x2 + 8)))
(R (tuple (Array.mk [slice none 0 0, int i64 0, int i64 8])) (w1))
(((0 : Int) ≤ wrap i64 (4 + wrap i64 x2)) ∧ (((wrap i64 (4 + wrap i64 x2) : Int) ≤ (↑bl : Int)) ∧ ((((↑bl : Int) : Int) ≤ (↑bc : Int)) ∧ (Ca Tryz.prog (67) (Array.mk [slice (if bc = Int.toNat (wrap i64 (4 + wrap i64 x2)) then ba else Option.map (fun x => add x (Int.toNat (wrap i64 (4 + wrap i64 x2)) * 1)) ba) (Int.toNat (↑bl : Int) - Int.toNat (wrap i64 (4 + wrap i64 x2))) (bc - Int.toNat (wrap i64 (4 + wrap i64 x2))), int i64 4]) (w1) (fun v4 => (fun w5 =>
(∃ x6 : Int, (∃ b7 : Bool, ((v4 = tuple (Array.mk (List.reverse [bool b7, int u64 x6]))) ∧ (((0 : Int) ≤ 0) ∧ (((0 : Int) ≤ wrap i64 (4 + wrap i64 x2)) ∧ (((wrap i64 (4 + wrap i64 x2) : Int) ≤ (↑bc : Int)) ∧ (Ca Tryz.prog (78) (Array.mk [slice (if bc = 0 then ba else Option.map (fun x => add x 0) ba) (Int.toNat (wrap i64 (4 + wrap i64 x2)) - 0) (bc - 0)]) (w5) (fun v8 => (fun w9 =>
(∃ x10 : Int, ((v8 = int u32 x10) ∧ (ifK (wrap u32 x6 != x10)
(R (tuple (Array.mk [slice none 0 0, int i64 0, int i64 7])) (w9))
(((0 : Int) ≤ 4) ∧ (((4 : Int) ≤ wrap i64 (4 + wrap i64 x2)) ∧ (((wrap i64 (4 + wrap i64 x2) : Int) ≤ (↑bc : Int)) ∧ (∃ v11 : Value, (∃ w12 : World, ((Sem.run Tryz.prog (Builtin.append_ (Array.mk [27, 27]) 27 (Array.mk [slice none 0 0, slice (if bc = 4 then ba else Option.map (fun x => add x 4) ba) (Int.toNat (wrap i64 (4 + wrap i64 x2)) - 4) (bc - 4)])) w9 = Result.ok v11 w12) ∧ (∃ p13 : Option Addr, (∃ n14 : Nat, (∃ n15 : Nat, ((v11 = slice p13 n14 n15) ∧ (R (tuple (Array.mk [slice p13 n14 n15, int i64 (wrap i64 (wrap i64 (4 + wrap i64 x2) + 4)), int i64 0])) (w12)))))))))))))))))))))))))))))))))))))))
theorem ca66 (ba : Option Addr) (bl : Nat) (bc : Nat) (w : World) (R : Value → World → Prop) (h : W66 ba bl bc w R) : Ca Tryz.prog 66 ⟨[(.slice ba bl bc)]⟩ w R :=
  caB (fn := Tryz.f66) (pl := pl66) (ls := ls66) Tryz.func66 (by kernel_rfl) (by kernel_rfl) h

/-- staith/seal.Whole -/
noncomputable def C72 : Code := (Tryz.f72.body).getD .skip
def pl72 : Nat → Plan
  | 7 => (.quiet 0 (.quiet 1 (.quiet 2 (.quiet 3 .done))))
  | _ => .done
def ls72 : Nat → List (Nat × LT)
  | 6 => []
  | _ => []
def W72 (ba : Option Addr) (bl : Nat) (bc : Nat) (w : World) (R : Value → World → Prop) : Prop :=
  (atW (alloc w (cells (Array.mk [slice none 0 0]) 22 (0, 0))) (fun w0 =>
(atW (alloc w0 (cells (Array.mk [int i64 0]) 3 (0, 0))) (fun w1 =>
(st1 (add (nw w0) 0) (int i64 0) w1 (fun w3 =>
(∃ z4 : World → Prop, (∃ z5 : World → Nat, ((z4 (w3)) ∧ (∀ (_ : Nat → Value), (∀ (w7 : World), ((z4 (w7)) → (∃ x8 : Int, ((cell? w7 (nw w0) = some (int i64 x8)) ∧ (((0 : Int) ≤ x8) ∧ (((x8 : Int) ≤ (↑bl : Int)) ∧ ((((↑bl : Int) : Int) ≤ (↑bc : Int)) ∧ (Ca Tryz.prog (66) (Array.mk [slice (if bc = Int.toNat x8 then ba else Option.map (fun x => add x (Int.toNat x8 * 1)) ba) (Int.toNat (↑bl : Int) - Int.toNat x8) (bc - Int.toNat x8)]) (w7) (fun v9 => (fun w10 =>
(∃ p11 : Option Addr, (∃ n12 : Nat, (∃ n13 : Nat, (∃ x14 : Int, (∃ x15 : Int, ((v9 = tuple (Array.mk (List.reverse [int i64 x15, int i64 x14, slice p11 n12 n13]))) ∧ (ifK (x15 != 0)
(atW (drew w10) (fun w16 =>
(∃ p17 : Option Addr, (∃ n18 : Nat, (∃ n19 : Nat, ((cell? w16 (nw w) = some (slice p17 n18 n19)) ∧ (∃ x20 : Int, ((cell? w16 (nw w0) = some (int i64 x20)) ∧ (R (tuple (Array.mk [slice p17 n18 n19, int i64 x20])) (w16))))))))))
(Ca Tryz.prog (94) (Array.mk [slice p11 n12 n13, int i64 x14, pointer (some (nw w)), pointer (some (nw w0))]) (w10) (fun v21 => (fun w22 =>
((v21 = tuple (Array.mk (List.reverse []))) ∧ ((z4 (w22)) ∧ (z5 w22 < z5 w7)))))))))))))))))))))))))))))))))
theorem ca72 (ba : Option Addr) (bl : Nat) (bc : Nat) (w : World) (R : Value → World → Prop) (h : W72 ba bl bc w R) : Ca Tryz.prog 72 ⟨[(.slice ba bl bc)]⟩ w R :=
  caB (fn := Tryz.f72) (pl := pl72) (ls := ls72) Tryz.func72 (by kernel_rfl) (by kernel_rfl) h

/-- staith/seal.Whole$1 -/
noncomputable def C94 : Code := (Tryz.f94.body).getD .skip
def pl94 : Nat → Plan := fun _ => .done
def ls94 : Nat → List (Nat × LT) := fun _ => []
def W94 (ca : Option Addr) (cl : Nat) (cc : Nat) (n : Int) (c0 : Option Addr) (c1 : Option Addr) (w : World) (R : Value → World → Prop) : Prop :=
  (onP (c0) (fun a0 =>
(∃ p1 : Option Addr, (∃ n2 : Nat, (∃ n3 : Nat, ((cell? w a0 = some (slice p1 n2 n3)) ∧ (atW (alloc w (cells (Array.mk [slice ca cl cc]) 27 (0, 0))) (fun w4 =>
(∃ v5 : Value, (∃ w6 : World, ((Sem.run Tryz.prog (Builtin.append_ (Array.mk [22, 22]) 22 (Array.mk [slice p1 n2 n3, slice (some (nw w)) 1 1])) w4 = Result.ok v5 w6) ∧ (∃ p7 : Option Addr, (∃ n8 : Nat, (∃ n9 : Nat, ((v5 = slice p7 n8 n9) ∧ (onP (c0) (fun a10 =>
(st1 (add a10 0) (slice p7 n8 n9) w6 (fun w12 =>
(onP (c1) (fun a13 =>
(∃ x14 : Int, ((cell? w12 a13 = some (int i64 x14)) ∧ (onP (c1) (fun a15 =>
(st1 (add a15 0) (int i64 (wrap i64 (x14 + n))) w12 (fun w17 =>
(R (tuple (Array.mk (List.reverse []))) (w17)))))))))))))))))))))))))))))
theorem ca94 (ca : Option Addr) (cl : Nat) (cc : Nat) (n : Int) (c0 : Option Addr) (c1 : Option Addr) (w : World) (R : Value → World → Prop) (h : W94 ca cl cc n c0 c1 w R) : Ca Tryz.prog 94 ⟨[(.slice ca cl cc), (.int .i64 n), (.pointer c0), (.pointer c1)]⟩ w R :=
  caB (fn := Tryz.f94) (pl := pl94) (ls := ls94) Tryz.func94 (by kernel_rfl) (by kernel_rfl) h
end Go.Proofs.YtgjdandnncjegaaGreatDoor

/- Plain laws on lists of whole numbers: swaps, parts that are sorted. It names no program. -/
namespace Go.Proofs.YtgjdandnncjegaaGreatDoor.St

/-- What can be sorted: of two, one is less or the other is at most so; and what is at most so goes on. -/
class Lin (α : Type) [LE α] [_root_.LT α] : Prop where
  nlt : ∀ {a b : α}, ¬ a < b → b ≤ a
  nle : ∀ {a b : α}, a ≤ b → ¬ b < a
  lle : ∀ {a b : α}, a < b → a ≤ b
  tr : ∀ {a b c : α}, a ≤ b → b ≤ c → a ≤ c
instance : Lin Int := ⟨fun h => by omega, fun h => by omega, fun h => by omega, fun h h' => by omega⟩

section
variable {α : Type} [Inhabited α]
def at0 (xs : List α) (i : Nat) : α := xs.getD i default
/-- At a stands v (a word of its own, so that no solver looks into it). -/
structure AtE (xs : List α) (a : Nat) (v : α) : Prop where
  eq : at0 xs a = v
def swapL (xs : List α) (i j : Nat) : List α := (xs.set i (at0 xs j)).set j (at0 xs i)

theorem at0_eq {xs : List α} {i : Nat} (h : i < xs.length) : at0 xs i = xs[i] := by simp [at0, h]
theorem at0_set {xs : List α} {i k : Nat} {v : α} (h : i < xs.length) : at0 (xs.set i v) k = if k = i then v else at0 xs k := by
  simp only [at0, List.getD_eq_getElem?_getD, List.getElem?_set]
  by_cases e : i = k
  · subst e; simp [h]
  · rw [if_neg e, if_neg (fun h => e h.symm)]
@[simp] theorem length_swapL (xs : List α) (i j : Nat) : (swapL xs i j).length = xs.length := by simp [swapL]
theorem at0_swapL {xs : List α} {i j k : Nat} (hi : i < xs.length) (hj : j < xs.length) : at0 (swapL xs i j) k = if k = j then at0 xs i else if k = i then at0 xs j else at0 xs k := by
  rw [swapL, at0_set (by simpa using hj), at0_set hi]

theorem swapL_perm {xs : List α} {i j : Nat} (hi : i < xs.length) (hj : j < xs.length) : (swapL xs i j).Perm xs := by
  have h := Array.swap_perm (xs := xs.toArray) (i := i) (j := j) (by simpa using hi) (by simpa using hj)
  have e : (xs.toArray.swap i j (by simpa using hi) (by simpa using hj)).toList = swapL xs i j := by
    simp [Array.swap, swapL, at0_eq hi, at0_eq hj]
  rw [← e]
  exact Array.perm_iff_toList_perm.1 h

/-- Of the part [a, b) another order; all else as it was. -/
structure Seg (a b : Nat) (xs ys : List α) : Prop where
  len : ys.length = xs.length
  out : ∀ k, k < a ∨ b ≤ k → at0 ys k = at0 xs k
  perm : ys.Perm xs

theorem Seg.refl (a b : Nat) (xs : List α) : Seg a b xs xs := ⟨rfl, fun _ _ => rfl, .refl _⟩
theorem Seg.trans {a b : Nat} {xs ys zs : List α} (h : Seg a b xs ys) (h' : Seg a b ys zs) : Seg a b xs zs :=
  ⟨h'.len.trans h.len, fun k hk => (h'.out k hk).trans (h.out k hk), h'.perm.trans h.perm⟩
theorem Seg.mono {a b a' b' : Nat} {xs ys : List α} (h : Seg a b xs ys) (ha : a' ≤ a) (hb : b ≤ b') : Seg a' b' xs ys :=
  ⟨h.len, fun k hk => h.out k (by omega), h.perm⟩
theorem Seg.swap {a b i j : Nat} {xs : List α} (hi : i < xs.length) (hj : j < xs.length) (h1 : a ≤ i) (h2 : i < b) (h3 : a ≤ j) (h4 : j < b) : Seg a b xs (swapL xs i j) :=
  ⟨length_swapL _ _ _, fun k hk => by rw [at0_swapL hi hj, if_neg (by omega), if_neg (by omega)], swapL_perm hi hj⟩

/-- The part [a, b) is sorted. -/
def Srt [LE α] (xs : List α) (a b : Nat) : Prop := ∀ p q, a ≤ p → p < q → q < b → at0 xs p ≤ at0 xs q

/-- A part's elements are the same ones. -/
theorem Seg.part {a b : Nat} {xs ys : List α} (h : Seg a b xs ys) (hab : a ≤ b) : ((ys.take b).drop a).Perm ((xs.take b).drop a) := by
  have split : ∀ l : List α, l = l.take a ++ ((l.take b).drop a ++ l.drop b) := by
    intro l
    have h1 : l.take b = l.take a ++ (l.take b).drop a := by
      have := (List.take_append_drop a (l.take b)).symm
      rwa [List.take_take, Nat.min_eq_left hab] at this
    rw [← List.append_assoc, ← h1, List.take_append_drop]
  have ext : ∀ (l l' : List α), l.length = l'.length → (∀ k, k < l.length → at0 l k = at0 l' k) → l = l' := by
    intro l l' hl hk
    apply List.ext_getElem hl
    intro i h1 h2
    have := hk i h1
    rwa [at0_eq h1, at0_eq h2] at this
  have e1 : ys.take a = xs.take a := by
    refine ext _ _ (by simp [h.len]) fun k hk => ?_
    simp at hk
    have := h.out k (.inl (by omega))
    rw [at0_eq (by simp; omega), at0_eq (by have := h.len; simp; omega)]
    rw [at0_eq (by omega), at0_eq (by have := h.len; omega)] at this
    simpa using this
  have e2 : ys.drop b = xs.drop b := by
    refine ext _ _ (by simp [h.len]) fun k hk => ?_
    simp at hk
    have := h.out (b + k) (.inr (by omega))
    rw [at0_eq (by simp; omega), at0_eq (by have := h.len; simp; omega)]
    rw [at0_eq (by omega), at0_eq (by have := h.len; omega)] at this
    simpa using this
  have hp := h.perm
  rw [split ys, split xs, e1, e2] at hp
  exact (List.perm_append_right_iff _).1 ((List.perm_append_left_iff _).1 hp)

theorem Seg.all {a b : Nat} {xs ys : List α} (h : Seg a b xs ys) (hb : b ≤ xs.length) {P : α → Prop} (hx : ∀ k, a ≤ k → k < b → P (at0 xs k)) : ∀ k, a ≤ k → k < b → P (at0 ys k) := by
  intro k h1 h2
  have hp := h.part (by omega : a ≤ b)
  have hl := h.len
  have hm : at0 ys k ∈ (ys.take b).drop a := by
    rw [List.mem_drop_iff_getElem]
    refine ⟨k - a, by simp; omega, ?_⟩
    rw [at0_eq (by omega)]
    simp [show a + (k - a) = k by omega]
  have := hp.mem_iff.1 hm
  rw [List.mem_drop_iff_getElem] at this
  obtain ⟨i, hi, e⟩ := this
  simp at hi
  rw [← e]
  have := hx (a + i) (by omega) (by omega)
  rw [at0_eq (by omega)] at this
  simpa using this

end

section
variable {α : Type} [Inhabited α] [LE α] [_root_.LT α] [Lin α]
omit [Inhabited α] in
theorem Lin.refl (x : α) : x ≤ x := by
  by_cases h : x < x
  · exact Lin.lle h
  · exact Lin.nlt h

omit [_root_.LT α] [Lin α] in
theorem Srt.nil (xs : List α) (a b : Nat) (h : b ≤ a + 1) : Srt xs a b := fun p q _ _ _ => by omega
omit [_root_.LT α] [Lin α] in
theorem Srt.of_out {xs ys : List α} {a b a' b' : Nat} (h : Srt xs a b) (hs : Seg a' b' xs ys) (hd : b ≤ a' ∨ b' ≤ a) : Srt ys a b := fun p q h1 h2 h3 => by
  rw [hs.out p (by omega), hs.out q (by omega)]; exact h p q h1 h2 h3

/-- Insertion: all is sorted but what stands at j. -/
def Ins (xs : List α) (a i j : Nat) : Prop := ∀ p q, a ≤ p → p < q → q ≤ i → q ≠ j → at0 xs p ≤ at0 xs q
omit [_root_.LT α] [Lin α] in
theorem Ins.start {xs : List α} {a i : Nat} (h : Srt xs a i) : Ins xs a i i := fun p q h1 h2 h3 h4 => h p q h1 h2 (by omega)
theorem Ins.done {xs : List α} {a i j : Nat} (h : Ins xs a i j) (hj : j ≤ a ∨ at0 xs (j - 1) ≤ at0 xs j) : Srt xs a (i + 1) := by
  intro p q h1 h2 h3
  by_cases e : q = j
  · subst e
    rcases hj with hj | hj
    · omega
    · by_cases e' : p = q - 1
      · subst e'; exact hj
      · exact Lin.tr (h p (q - 1) h1 (by omega) (by omega) (by omega)) hj
  · exact h p q h1 h2 (by omega) e
theorem Ins.step {xs : List α} {a i j : Nat} (h : Ins xs a i j) (hi : i < xs.length) (hja : a < j) (hji : j ≤ i) (hlt : at0 xs j < at0 xs (j - 1)) : Ins (swapL xs j (j - 1)) a i (j - 1) := by
  have hs : ∀ k, at0 (swapL xs j (j - 1)) k = if k = j - 1 then at0 xs j else if k = j then at0 xs (j - 1) else at0 xs k := fun k => at0_swapL (by omega) (by omega)
  intro p q h1 h2 h3 h4
  rw [hs p, hs q, if_neg h4]
  by_cases hq : q = j
  · subst hq
    rw [if_pos rfl]
    by_cases hp : p = q - 1
    · rw [if_pos hp]; exact Lin.lle hlt
    · rw [if_neg hp, if_neg (by omega)]
      exact h p (q - 1) h1 (by omega) (by omega) (by omega)
  · rw [if_neg hq]
    by_cases hp : p = j - 1
    · rw [if_pos hp]
      exact h j q (by omega) (by omega) h3 hq
    · rw [if_neg hp]
      by_cases hp2 : p = j
      · rw [if_pos hp2]; exact h (j - 1) q (by omega) (by omega) h3 hq
      · rw [if_neg hp2]; exact h p q h1 h2 h3 hq
end
end Go.Proofs.YtgjdandnncjegaaGreatDoor.St

/- Rows of one-cell elements (numbers, strings). It names no program. -/
namespace Go.Proofs.YtgjdandnncjegaaGreatDoor.St
open Go

/-- The row a[:l:c] holds these elements. -/
def Els {α : Type} (val : α → Value) (e : TypeId) (w : World) (a : Option Addr) (l c : Nat) (xs : List α) : Prop := w.ownsRow 0 e 1 (.slice a l c) l (xs.map val)
/-- The row a[:l:c] holds these numbers. -/
abbrev Ints (ik : IntKind) (e : TypeId) (w : World) (a : Option Addr) (l c : Nat) (xs : List Int) : Prop := Els (Value.int ik) e w a l c xs

section
variable {α : Type} {val : α → Value} {e : TypeId} {w w' : World} {a : Option Addr} {l c : Nat} {xs : List α}
theorem Els.len (h : Els val e w a l c xs) : xs.length = l ∧ l ≤ c ∧ c ≤ 9223372036854775807 := by
  obtain ⟨_, h1, h2, h3⟩ := row_len h
  exact ⟨by simpa using h1, h2, h3⟩
theorem Els.blk (h : Els val e w a l c xs) : ∀ k, rowB a k → k < w.heap.size := by
  intro k hk
  rcases h.2 with ⟨hv, _⟩ | ⟨g, cap, cur, hv, _, hg, _⟩
  · injection hv with h1; subst h1; simp [rowB] at hk
  · injection hv with h1; subst h1; simp [rowB] at hk; subst hk; exact lt_of_heap hg
theorem Els.mod {S : Nat → Prop} (h : Els val e w a l c xs) (hm : Mod S w w') (hs : ∀ k, rowB a k → ¬ S k) : Els val e w' a l c xs := row_mod h hm hs
theorem Els.no (h : Els val e w a l c xs) (hm : Mod no w w') : Els val e w' a l c xs := row_mod h hm fun _ _ => id
theorem Els.at (h : Els val e w a l c xs) {i : Nat} (hi : i < xs.length) : ∃ g, a = some ⟨g, 0, none⟩ ∧ w.cell? (Addr.add ⟨g, 0, none⟩ (i * 1)) = some (val xs[i]) :=
  row_at h (i := i) (by simp [hi])
theorem Els.put (h : Els val e w a l c xs) {i : Nat} (hi : i < xs.length) (v : α) :
    ∃ ad, a = some ad ∧ (∃ u, w.cell? (Addr.add (Addr.add ad (i * 1)) 0) = some u) ∧ w.frozen? (Addr.add (Addr.add ad (i * 1)) 0) = false ∧
      Mod (rowB a) w (w.setCell (Addr.add (Addr.add ad (i * 1)) 0) (val v)) ∧ Els val e (w.setCell (Addr.add (Addr.add ad (i * 1)) 0) (val v)) a l c (xs.set i v) := by
  obtain ⟨ad, h1, h2, h3, h4, h5⟩ := row_put h (i := i) (by have := h.len; omega) (val v)
  exact ⟨ad, h1, h2, h3, h4, by rw [Els, List.map_set]; exact h5⟩
end

section
variable {α : Type} [Inhabited α] {val : α → Value} {e : TypeId} {w : World} {a : Option Addr} {l c : Nat} {xs : List α}
theorem Els.get (h : Els val e w a l c xs) {i : Nat} (hi : i < xs.length) : ∃ g, a = some ⟨g, 0, none⟩ ∧ w.cell? (Addr.add ⟨g, 0, none⟩ (i * 1)) = some (val (at0 xs i)) := by
  rw [at0_eq hi]; exact h.at hi
omit [Inhabited α] in
theorem Els.lt (h : Els val e w a l c xs) {i : Nat} (hi : i < l) : i < xs.length := by have := h.len.1; omega
omit [Inhabited α] in
theorem Els.le (h : Els val e w a l c xs) {i : Nat} (hi : i ≤ l) : i ≤ xs.length := by have := h.len.1; omega
/-- Two of a part are swapped. -/
theorem Els.seg (h : Els val e w a l c xs) {p q i j : Nat} (hi : i < l) (hj : j < l) (h1 : p ≤ i) (h2 : i < q) (h3 : p ≤ j) (h4 : j < q) : Seg p q xs (swapL xs i j) := Seg.swap (h.lt hi) (h.lt hj) h1 h2 h3 h4
/-- One is read. -/
theorem Els.rd (h : Els val e w a l c xs) {i : Int} (n : Nat) (hi : i = n) (hn : n < l) {K : α → Prop} (hk : K (at0 xs n)) :
    ∃ ad : Addr, a = some ad ∧ (0 : Int) ≤ i ∧ i < (↑l : Int) ∧ ∃ x : α, w.cell? (Addr.add ad (Int.toNat i * 1)) = some (val x) ∧ K x := by
  subst hi
  obtain ⟨g, rfl, hc⟩ := h.get (i := n) (by have := h.len; omega)
  exact ⟨_, rfl, by omega, by omega, _, hc, hk⟩
omit [Inhabited α] in
/-- One is written. -/
theorem Els.wr (h : Els val e w a l c xs) {i : Int} (n : Nat) (hi : i = n) (hn : n < l) (v : α) {K : World → Prop} (hk : ∀ w', Mod (rowB a) w w' → Els val e w' a l c (xs.set n v) → K w') :
    ∃ ad : Addr, a = some ad ∧ (0 : Int) ≤ i ∧ i < (↑l : Int) ∧ (∃ u : Value, w.cell? (Addr.add (Addr.add ad (Int.toNat i * 1)) 0) = some u) ∧ w.frozen? (Addr.add (Addr.add ad (Int.toNat i * 1)) 0) = false ∧
      atW (w.setCell (Addr.add (Addr.add ad (Int.toNat i * 1)) 0) (val v)) K := by
  subst hi
  obtain ⟨ad, had, hold, hfz, m, hp⟩ := h.put (i := n) (by have := h.len; omega) v
  refine ⟨ad, had, by omega, by omega, hold, hfz, fun w' e => ?_⟩
  subst e
  exact hk _ m hp
/-- Two are swapped. -/
theorem Els.swp (h : Els val e w a l c xs) {i j : Int} (m n : Nat) (hi : i = m) (hj : j = n) (hm : m < l) (hn : n < l) {K : World → Prop}
    (hk : ∀ w', Els val e w' a l c (swapL xs m n) → Mod (rowB a) w w' → K w') :
    ∃ ad : Addr, a = some ad ∧ (0 : Int) ≤ j ∧ j < (↑l : Int) ∧ ∃ x : α, w.cell? (Addr.add ad (Int.toNat j * 1)) = some (val x) ∧
    ∃ ad : Addr, a = some ad ∧ (0 : Int) ≤ i ∧ i < (↑l : Int) ∧ ∃ y : α, w.cell? (Addr.add ad (Int.toNat i * 1)) = some (val y) ∧
    ∃ ad : Addr, a = some ad ∧ (0 : Int) ≤ i ∧ i < (↑l : Int) ∧ (∃ u : Value, w.cell? (Addr.add (Addr.add ad (Int.toNat i * 1)) 0) = some u) ∧ w.frozen? (Addr.add (Addr.add ad (Int.toNat i * 1)) 0) = false ∧
      atW (w.setCell (Addr.add (Addr.add ad (Int.toNat i * 1)) 0) (val x)) fun w1 =>
    ∃ ad : Addr, a = some ad ∧ (0 : Int) ≤ j ∧ j < (↑l : Int) ∧ (∃ u : Value, w1.cell? (Addr.add (Addr.add ad (Int.toNat j * 1)) 0) = some u) ∧ w1.frozen? (Addr.add (Addr.add ad (Int.toNat j * 1)) 0) = false ∧
      atW (w1.setCell (Addr.add (Addr.add ad (Int.toNat j * 1)) 0) (val y)) K := by
  refine h.rd n hj hn (h.rd m hi hm (h.wr m hi hm _ fun w1 m1 h1 => h1.wr n hj hn _ fun w2 m2 h2 => hk w2 h2 (m1.trans m2)))
end

end Go.Proofs.YtgjdandnncjegaaGreatDoor.St

/- Rows of elements of any number of cells. It names no program. -/
namespace Go.Proofs.YtgjdandnncjegaaGreatDoor.St
open Go

/-- How an element lies: s cells, one word each. -/
structure Lay (α : Type) where
  cs : α → List Value
  s : Nat
  pos : 0 < s
  len : ∀ x, (cs x).length = s
  one : ∀ x, ∀ v ∈ cs x, v.oneCell' = true

section
variable {α : Type} (L : Lay α)
/-- The row a[:l:c] holds these elements. -/
def Row (e : TypeId) (w : World) (a : Option Addr) (l c : Nat) (xs : List α) : Prop := w.ownsRow 0 e L.s (.slice a l c) l (xs.flatMap L.cs)
variable {L : Lay α} {e : TypeId} {w w' : World} {a : Option Addr} {l c : Nat} {xs : List α}

theorem Lay.length (L : Lay α) (xs : List α) : (xs.flatMap L.cs).length = xs.length * L.s := by
  induction xs with
  | nil => simp
  | cons x r ih => rw [List.flatMap_cons, List.length_append, L.len, ih, List.length_cons, Nat.add_mul, Nat.one_mul, Nat.add_comm]
theorem Lay.at (L : Lay α) {xs : List α} {i : Nat} (hi : i < xs.length) {j : Nat} {v : Value} (hj : (L.cs xs[i])[j]? = some v) : (xs.flatMap L.cs)[i * L.s + j]? = some v := by
  induction xs generalizing i with
  | nil => simp at hi
  | cons x r ih =>
    have hjs : j < L.s := by
      obtain ⟨h, _⟩ := List.getElem?_eq_some_iff.1 hj
      rwa [L.len] at h
    rw [List.flatMap_cons]
    cases i with
    | zero =>
      rw [List.getElem?_append_left (by rw [L.len]; omega)]
      simpa using hj
    | succ k =>
      rw [List.getElem?_append_right (by rw [L.len, Nat.add_mul, Nat.one_mul]; omega), L.len]
      have := ih (i := k) (by simpa using hi) (by simpa using hj)
      rwa [show (k + 1) * L.s + j - L.s = k * L.s + j by rw [Nat.add_mul, Nat.one_mul]; omega]
theorem Lay.take (L : Lay α) (xs : List α) (i : Nat) : (xs.take i).flatMap L.cs = (xs.flatMap L.cs).take (i * L.s) := by
  induction xs generalizing i with
  | nil => simp
  | cons x r ih =>
    cases i with
    | zero => simp
    | succ k =>
      rw [List.take_succ_cons, List.flatMap_cons, List.flatMap_cons, ih, List.take_append, L.len, List.take_of_length_le (l := L.cs x) (by rw [L.len, Nat.add_mul, Nat.one_mul]; omega), show (k + 1) * L.s - L.s = k * L.s by rw [Nat.add_mul, Nat.one_mul]; omega]
theorem Lay.drop (L : Lay α) (xs : List α) (i : Nat) : (xs.drop i).flatMap L.cs = (xs.flatMap L.cs).drop (i * L.s) := by
  induction xs generalizing i with
  | nil => simp
  | cons x r ih =>
    cases i with
    | zero => simp
    | succ k =>
      rw [List.drop_succ_cons, List.flatMap_cons, ih, List.drop_append, L.len, List.drop_of_length_le (l := L.cs x) (by rw [L.len, Nat.add_mul, Nat.one_mul]; omega), show (k + 1) * L.s - L.s = k * L.s by rw [Nat.add_mul, Nat.one_mul]; omega, List.nil_append]
theorem Lay.ones (L : Lay α) (xs : List α) : ∀ v ∈ xs.flatMap L.cs, v.oneCell' = true := by
  intro v hv
  obtain ⟨x, _, h⟩ := List.mem_flatMap.1 hv
  exact L.one x v h

theorem Row.len (h : Row L e w a l c xs) : xs.length = l ∧ l ≤ c ∧ c ≤ 9223372036854775807 := by
  have h1 : xs.length = l := by
    have := h.1
    rw [L.length] at this
    exact Nat.eq_of_mul_eq_mul_right L.pos this
  rcases h.2 with ⟨hv, h0⟩ | ⟨g, cap, cur, hv, _, _, hn, hm, _⟩
  · injection hv with _ h2 h3; exact ⟨h1, by omega, by omega⟩
  · injection hv with _ h2 h3; subst h3; exact ⟨h1, hn, by simpa [maxLen] using hm⟩
theorem Row.mod {S : Nat → Prop} (h : Row L e w a l c xs) (hm : Mod S w w') (hs : ∀ k, rowB a k → ¬ S k) : Row L e w' a l c xs := by
  refine ⟨h.1, ?_⟩
  rcases h.2 with hn | ⟨g, cap, cur, hv, hb, hg, rest⟩
  · exact .inl hn
  · injection hv with h1 h2 h3
    subst h1; subst h3
    exact .inr ⟨g, c, cur, rfl, hb, hm.at hg (hs g (by simp [rowB])), rest⟩
theorem Row.no (h : Row L e w a l c xs) (hm : Mod no w w') : Row L e w' a l c xs := h.mod hm fun _ _ => id
theorem Row.block (h : Row L e w a l c xs) : (a = none ∧ l = 0 ∧ c = 0 ∧ xs = []) ∨ ∃ g cur, a = some ⟨g, 0, none⟩ ∧ w.heap[g]? = some (.cells cur e (0, 0)) ∧ l ≤ c ∧ c ≤ maxLen ∧ cur.size = c * L.s ∧ cur.toList.take (l * L.s) = xs.flatMap L.cs := by
  have hl := h.len
  rcases h.2 with ⟨hv, h0⟩ | ⟨g, cap, cur, hv, _, hg, h1, h2, h3, h4⟩
  · injection hv with e1 e2 e3
    exact .inl ⟨e1, e2, e3, List.eq_nil_of_length_eq_zero (by omega)⟩
  · injection hv with e1 e2 e3
    subst e1; subst e3
    exact .inr ⟨g, cur, rfl, hg, h1, h2, h3, h4⟩
/-- A row that is there lies in the heap. -/
theorem Row.lt (h : Row L e w a l c xs) : ∀ k, rowB a k → k < w.heap.size := by
  intro k hk
  rcases h.block with ⟨rfl, _⟩ | ⟨g, cur, rfl, hg, _⟩
  · simp [rowB] at hk
  · simp [rowB] at hk; subst hk; exact lt_of_heap hg
theorem Row.empty (L : Lay α) (e : TypeId) (w : World) : Row L e w none 0 0 [] := ⟨by simp, .inl ⟨rfl, rfl⟩⟩
theorem Row.cellAt {g : Nat} (h : Row L e w (some ⟨g, 0, none⟩) l c xs) {k : Nat} {v : Value} (hk : (xs.flatMap L.cs)[k]? = some v) : w.cell? (Addr.add ⟨g, 0, none⟩ k) = some v := by
  rcases h.block with ⟨h0, _⟩ | ⟨g', cur, hg', hg, _, _, _, h4⟩
  · cases h0
  · injection hg' with hg'; injection hg' with hg'; subst hg'
    rw [cl1 hg]
    rw [← h4, List.getElem?_take] at hk
    split at hk
    · simpa using hk
    · cases hk
/-- An element's cells. -/
theorem Row.get (h : Row L e w a l c xs) {i : Nat} (hi : i < xs.length) : ∃ g, a = some ⟨g, 0, none⟩ ∧ ∀ j v, (L.cs xs[i])[j]? = some v → w.cell? (Addr.add (Addr.add ⟨g, 0, none⟩ (i * L.s)) j) = some v := by
  have hl := h.len
  rcases h.block with ⟨_, h0, _⟩ | ⟨g, cur, rfl, _⟩
  · omega
  · refine ⟨g, rfl, fun j v hj => ?_⟩
    have := h.cellAt (L.at hi hj)
    rw [add_lit] at this
    rw [add_lit, add_lit, Nat.add_assoc]
    exact this
/-- The same of a smaller row's place. -/
theorem Row.getS (h : Row L e w a l c xs) {i : Nat} (hi : i < xs.length) {s : Nat} (hs : L.s = s) : ∃ g, a = some ⟨g, 0, none⟩ ∧ ∀ j v, (L.cs xs[i])[j]? = some v → w.cell? (Addr.add (Addr.add ⟨g, 0, none⟩ (i * s)) j) = some v := by
  subst hs; exact h.get hi

/-- t is a slice of e; an e has s cells, and b bytes. -/
def laidOk (P : Program) (t e : TypeId) (s : Nat) : Bool :=
  (match P.underlying t with | some (.slice e') => Nat.beq e' e | _ => false) &&
  (match P.info? e with
    | some i => Nat.beq i.size s && Nat.ble i.bytes 128 && (match i.zero with | some z => Nat.beq z.cells.size s | none => false)
    | none => false)
theorem laidOk_of {P : Program} {t e : TypeId} {s : Nat} (h : laidOk P t e s = true) :
    P.underlying t = some (.slice e) ∧ ∃ i z, P.info? e = some i ∧ i.zero = some z ∧ i.size = s ∧ i.bytes ≤ 128 ∧ z.cells.size = s := by
  simp only [laidOk, Bool.and_eq_true] at h
  obtain ⟨h1, h2⟩ := h
  constructor
  · split at h1
    · rename_i e' hu; rw [hu, Nat.eq_of_beq_eq_true h1]
    · cases h1
  · split at h2
    · rename_i i hi
      simp only [Bool.and_eq_true] at h2
      obtain ⟨⟨h2, h3⟩, h4⟩ := h2
      split at h4
      · rename_i z hz
        exact ⟨i, z, hi, hz, Nat.eq_of_beq_eq_true h2, Nat.le_of_ble_eq_true h3, Nat.eq_of_beq_eq_true h4⟩
      · cases h4
    · cases h2

theorem bytesOf_info {P : Program} {e : TypeId} {i : TypeInfo} (hi : P.info? e = some i) : P.bytesOf e = i.bytes := by simp [Program.bytesOf, hi]
/-- append(row, others..): behind it the row of both; only the row's own block changed, or a new one was made. The others lie where b begins, or there are none. -/
theorem Row.pushBig {P : Program} {t ty : TypeId} (ho : laidOk P t e L.s = true) (h : Row L e w a l c xs) {b : Option Addr} {m cc : Nat} {ys : List α} (hm : ys.length = m)
    (hb : ∀ ad, b = some ad → ∀ j v, (ys.flatMap L.cs)[j]? = some v → w.cell? (ad.add j) = some v) (hb0 : b = none → m = 0 ∧ cc = 0) (hn : (l + m) * P.bytesOf e ≤ 140737488355328) (hmx : l + m ≤ maxLen) :
    ∃ a' c' w', (Builtin.append_ #[t, t] ty #[.slice a l c, .slice b m cc]).run P w = .ok (.slice a' (l + m) c') w' ∧ Row L e w' a' (l + m) c' (xs ++ ys) ∧
      Mod (rowB a) w w' ∧ (∀ k, rowB a' k → rowB a k ∨ w.heap.size ≤ k) := by
  obtain ⟨ht, i, z, hi, hz, hsize, hby, hzs⟩ := laidOk_of ho
  have hxl : xs.length = l := h.len.1
  have hlx : (xs.flatMap L.cs).length = l * i.size := by rw [L.length, hxl, hsize]
  have hnl : (ys.flatMap L.cs).length = m * i.size := by rw [L.length, hm, hsize]
  have same : a = a → ∀ k, rowB a k → rowB a k ∨ w.heap.size ≤ k := fun _ k hk => .inl hk
  rcases hbb : b with _ | ad
  · obtain ⟨rfl, rfl⟩ := hb0 hbb
    have : ys = [] := List.eq_nil_of_length_eq_zero hm
    subst this
    have hr := run_append_owned_none (P := P) w 0 t ty e i L.s ht hi (.slice a l c) l (xs.flatMap L.cs) h
    exact ⟨a, c, w, hr, by simpa using h, Mod.refl _ _, fun k hk => .inl hk⟩
  have hb := hb ad hbb
  have hbytes : (l + m) * i.bytes ≤ 140737488355328 := by rw [bytesOf_info hi] at hn; exact hn
  have grown : ∀ (old : Nat), old < l + m →
      Row L e (w.drew.alloc (.cells ((xs.flatMap L.cs).toArray ++ (ys.flatMap L.cs).toArray ++ Builtin.zeroCells z.cells (grownCap w (l + m) old e - (l + m))) e)) (some ⟨w.heap.size, 0, none⟩) (l + m) (grownCap w (l + m) old e) (xs ++ ys) ∧
      Mod (rowB a) w (w.drew.alloc (.cells ((xs.flatMap L.cs).toArray ++ (ys.flatMap L.cs).toArray ++ Builtin.zeroCells z.cells (grownCap w (l + m) old e - (l + m))) e)) := by
    intro old ho
    have hge := grownCap_ge w (l + m) old e
    have hcm : grownCap w (l + m) old e ≤ maxLen := grownCap_le_maxLen w (l + m) old e hmx
    refine ⟨⟨by rw [L.length]; simp [hxl, hm], .inr ⟨w.heap.size, _, _, rfl, Nat.zero_le _, heap_alloc_new w.drew _, hge, hcm, ?_, ?_⟩⟩, ⟨rfl, rfl, rfl, by simp, fun k hk _ => heap_alloc_old w.drew _ hk⟩⟩
    · simp only [Array.size_append, List.size_toArray, size_zeroCells, hzs, hlx, hnl, hsize]
      rw [← Nat.add_mul, ← Nat.add_mul]
      congr 1
      omega
    · simp only [Array.toList_append, List.flatMap_append]
      exact List.take_left' (by simp [hlx, hnl, hsize, Nat.add_mul])
  have hnew : ∀ k, rowB (some (⟨w.heap.size, 0, none⟩ : Addr)) k → rowB a k ∨ w.heap.size ≤ k := by
    intro k hk
    simp [rowB] at hk
    exact .inr (by omega)
  rcases h.block with ⟨rfl, rfl, rfl, rfl⟩ | ⟨g, cur, rfl, hg, hnc, hcm, hcs, htake⟩
  · by_cases hm0 : m = 0
    · subst hm0
      have : ys = [] := List.eq_nil_of_length_eq_zero hm
      subst this
      have hr := run_append_own (P := P) w 0 t ty e i z L.s i.bytes ht hi hz hsize rfl hzs L.pos (.slice none 0 0) 0 [] ⟨by simp, .inl ⟨rfl, rfl⟩⟩ ad 0 cc [] (by simp) (by simp) (by simp) (by simp [maxLen]) (by simp) (Nat.zero_le _)
      obtain ⟨v', w', hr, ho', hg', hv'⟩ := hr
      have hv : v' = .slice none 0 0 := hv'.2 ⟨rfl, rfl⟩
      subst hv
      refine ⟨none, 0, w', hr, Row.empty _ _ _, (Mod.grown hg').mono fun k _ hk => ?_, fun k hk => by simp [rowB] at hk⟩
      simp [Value.ownBlock] at hk
    · have e63 : (m : Int) ≤ 9223372036854775807 := by simp only [maxLen] at hmx; omega
      have e48 : m * i.bytes ≤ 281474976710656 := by rw [Nat.zero_add] at hbytes; omega
      have hr := run_append_nil (P := P) w t ty e i z ht hi hz ad m cc _ hnl hb (by omega) e63 e48
      have hgr := grown 0 (by omega)
      simp only [Nat.zero_add, List.nil_append, Array.empty_append, List.flatMap_nil] at hgr hr ⊢
      exact ⟨_, _, _, hr, hgr.1, hgr.2, hnew⟩
  · by_cases hroom : l + m ≤ c
    · have hown : w.ownsRow 0 e i.size (.slice (some ⟨g, 0, none⟩) l c) l (xs.flatMap L.cs) := by rw [hsize]; exact h
      obtain ⟨w', hr, ho', hgr⟩ := run_append_fits (P := P) (ty := ty) w 0 t e i i.size ht hi rfl g l c _ hown ad m cc _ hnl hb (L.ones ys) hroom
      rw [hsize, ← List.flatMap_append] at ho'
      refine ⟨_, _, _, hr, ho', (Mod.grown hgr).mono fun k _ hk => ?_, fun k hk => .inl hk⟩
      simp [rowB]
      injection hk with hk
      exact hk.symm
    · have holds : ∀ j u, (xs.flatMap L.cs)[j]? = some u → w.cell? ((⟨g, 0, none⟩ : Addr).add j) = some u := fun j u hj => h.cellAt hj
      have hr := run_append_grow (P := P) w t ty e i z ht hi hz ⟨g, 0, none⟩ l c _ hlx holds ad m cc _ hnl hb (by omega) (by simp only [maxLen] at hmx; omega) (growslice_fits (by omega) hbytes)
      have hgr := grown c (by omega)
      exact ⟨_, _, _, hr, hgr.1, hgr.2, hnew⟩

/-- The same, where there are few. -/
theorem Row.push {P : Program} {t ty : TypeId} (ho : laidOk P t e L.s = true) (h : Row L e w a l c xs) {b : Option Addr} {m cc : Nat} {ys : List α} (hm : ys.length = m)
    (hb : ∀ ad, b = some ad → ∀ j v, (ys.flatMap L.cs)[j]? = some v → w.cell? (ad.add j) = some v) (hb0 : b = none → m = 0 ∧ cc = 0) (hn : l + m ≤ 1099511627776) :
    ∃ a' c' w', (Builtin.append_ #[t, t] ty #[.slice a l c, .slice b m cc]).run P w = .ok (.slice a' (l + m) c') w' ∧ Row L e w' a' (l + m) c' (xs ++ ys) ∧
      Mod (rowB a) w w' ∧ (∀ k, rowB a' k → rowB a k ∨ w.heap.size ≤ k) := by
  obtain ⟨_, i, z, hi, _, _, hby, _⟩ := laidOk_of ho
  exact h.pushBig ho hm hb hb0 (by rw [bytesOf_info hi]; exact Nat.le_trans (Nat.mul_le_mul hn hby) (by decide)) (Nat.le_trans hn (by decide))

/-- The cells of row[k:]. -/
theorem Row.tail (h : Row L e w a l c xs) {k : Nat} (hk : k ≤ l) {s : Nat} (hs : L.s = s) :
    (∀ ad, (if c = k then a else a.map fun x => Addr.add x (k * s)) = some ad → ∀ j v, ((xs.drop k).flatMap L.cs)[j]? = some v → w.cell? (ad.add j) = some v) ∧
    ((if c = k then a else a.map fun x => Addr.add x (k * s)) = none → l - k = 0 ∧ c - k = 0) ∧ (xs.drop k).length = l - k := by
  subst hs
  have hl := h.len
  refine ⟨fun ad had j v hj => ?_, fun hn => ?_, by rw [List.length_drop]; omega⟩
  · split at had
    · rw [List.drop_eq_nil_of_le (by omega)] at hj
      simp at hj
    · rcases h.block with ⟨rfl, _⟩ | ⟨g, cur, rfl, _⟩
      · cases had
      · simp only [Option.map_some, Option.some.injEq] at had
        subst had
        rw [L.drop, List.getElem?_drop] at hj
        have := h.cellAt hj
        rw [add_lit] at this
        rw [add_lit, add_lit, Nat.add_assoc]
        exact this
  · rcases h.block with ⟨rfl, h1, h2, _⟩ | ⟨g, cur, rfl, _⟩
    · omega
    · split at hn <;> cases hn
/-- The cells of row[:k]. -/
theorem Row.head (h : Row L e w a l c xs) {k : Nat} (hk : k ≤ l) :
    (∀ ad, (if c = 0 then a else a.map fun x => Addr.add x 0) = some ad → ∀ j v, ((xs.take k).flatMap L.cs)[j]? = some v → w.cell? (ad.add j) = some v) ∧
    ((if c = 0 then a else a.map fun x => Addr.add x 0) = none → k - 0 = 0 ∧ c - 0 = 0) ∧ (xs.take k).length = k - 0 := by
  have hl := h.len
  refine ⟨fun ad had j v hj => ?_, fun hn => ?_, by rw [List.length_take]; omega⟩
  · rw [L.take, List.getElem?_take] at hj
    split at hj
    · rcases h.block with ⟨rfl, h1, h2, h3⟩ | ⟨g, cur, rfl, _⟩
      · subst h3; simp at hj
      · have := h.cellAt hj
        split at had
        · cases had; exact this
        · simp only [Option.map_some, Option.some.injEq] at had
          subst had
          rw [add_lit] at this
          rw [add_lit, add_lit, Nat.add_assoc]
          simpa using this
    · cases hj
  · rcases h.block with ⟨rfl, h1, h2, _⟩ | ⟨g, cur, rfl, _⟩
    · omega
    · split at hn <;> cases hn
/-- The cells of the whole row. -/
theorem Row.all (h : Row L e w a l c xs) : (∀ ad, a = some ad → ∀ j v, (xs.flatMap L.cs)[j]? = some v → w.cell? (ad.add j) = some v) ∧ (a = none → l = 0 ∧ c = 0) := by
  refine ⟨fun ad had j v hj => ?_, fun hn => ?_⟩
  · rcases h.block with ⟨rfl, _⟩ | ⟨g, cur, rfl, _⟩
    · cases had
    · cases had; exact h.cellAt hj
  · rcases h.block with ⟨_, h1, h2, _⟩ | ⟨g, cur, rfl, _⟩
    · exact ⟨h1, h2⟩
    · cases hn
/-- A row of what a literal made. -/
theorem Row.lit (L : Lay α) {e : TypeId} {w : World} {k : Nat} {cur : Array Value} (hg : w.heap[k]? = some (.cells cur e (0, 0))) (xs : List α) (h : cur.toList = xs.flatMap L.cs) (hn : xs.length ≤ maxLen) :
    Row L e w (some ⟨k, 0, none⟩) xs.length xs.length xs := by
  have hl : cur.size = xs.length * L.s := by rw [← L.length, ← h, Array.length_toList]
  exact ⟨L.length xs, .inr ⟨k, xs.length, cur, rfl, Nat.zero_le _, hg, Nat.le_refl _, hn, hl, by rw [← h, List.take_of_length_le (by rw [Array.length_toList, hl]; exact Nat.le_refl _)]⟩⟩
theorem Lay.set (L : Lay α) (xs : List α) {i : Nat} (hi : i < xs.length) (y : α) {j : Nat} {v : Value} (hj : j < L.s) (hy : L.cs y = (L.cs xs[i]).set j v) : (xs.set i y).flatMap L.cs = (xs.flatMap L.cs).set (i * L.s + j) v := by
  induction xs generalizing i with
  | nil => simp at hi
  | cons x r ih =>
    cases i with
    | zero =>
      rw [List.set_cons_zero, List.flatMap_cons, List.flatMap_cons, hy, Nat.zero_mul, Nat.zero_add, List.set_append, if_pos (by rw [L.len]; exact hj)]
      rfl
    | succ k =>
      rw [List.set_cons_succ, List.flatMap_cons, List.flatMap_cons, ih (by simpa using hi) (by simpa using hy), List.set_append, if_neg (by rw [L.len, Nat.add_mul, Nat.one_mul]; omega), L.len,
        show (k + 1) * L.s + j - L.s = k * L.s + j by rw [Nat.add_mul, Nat.one_mul]; omega]
/-- A cell of an element is written. -/
theorem Row.put (h : Row L e w a l c xs) {i : Nat} (hi : i < xs.length) {j s : Nat} (hs : L.s = s) (hj : j < L.s) (v : Value) (y : α) (hy : L.cs y = (L.cs xs[i]).set j v) :
    ∃ g, a = some ⟨g, 0, none⟩ ∧ (∃ u, w.cell? (Addr.add (Addr.add (Addr.add ⟨g, 0, none⟩ (i * s)) j) 0) = some u) ∧ w.frozen? (Addr.add (Addr.add (Addr.add ⟨g, 0, none⟩ (i * s)) j) 0) = false ∧
      Mod (on g) w (w.setCell (Addr.add (Addr.add (Addr.add ⟨g, 0, none⟩ (i * s)) j) 0) v) ∧ Row L e (w.setCell (Addr.add (Addr.add (Addr.add ⟨g, 0, none⟩ (i * s)) j) 0) v) a l c (xs.set i y) := by
  subst hs
  have hl := h.len
  rcases h.block with ⟨_, h0, _⟩ | ⟨g, cur, rfl, hg, hnc, hcm, hcs, htake⟩
  · omega
  have hlt : i * L.s + j < l * L.s := by
    have : (i + 1) * L.s ≤ l * L.s := Nat.mul_le_mul_right _ (by omega)
    rw [Nat.add_mul, Nat.one_mul] at this
    omega
  have hlc : l * L.s ≤ c * L.s := Nat.mul_le_mul_right _ hnc
  refine ⟨g, rfl, ⟨_, by rw [add_lit, add_lit, add_lit, cl hg]; exact Array.getElem?_eq_getElem (by omega)⟩, by rw [add_lit, add_lit, add_lit]; exact fz0 hg _, by rw [add_lit, add_lit, add_lit]; exact Mod.setCell w ⟨g, _, none⟩ v, ?_⟩
  refine ⟨by rw [L.length, List.length_set, hl.1], .inr ⟨g, c, _, rfl, Nat.zero_le _, by rw [add_lit, add_lit, add_lit]; exact set0 hg _ v, hnc, hcm, by simpa using hcs, ?_⟩⟩
  rw [L.set xs hi y hj hy, ← htake, Array.toList_setIfInBounds, Nat.zero_add, Nat.add_zero, List.take_set]
end

/-! ### Two lists, held against each other -/
structure AllAt {α β : Type} (P : α → β → Prop) (xs : List α) (ys : List β) : Prop where
  len : xs.length = ys.length
  get : ∀ (i : Nat) (h : i < xs.length) (h' : i < ys.length), P xs[i] ys[i]
section
variable {α β : Type} {P Q : α → β → Prop} {xs xs' : List α} {ys ys' : List β}
theorem AllAt.imp (h : AllAt P xs ys) (hq : ∀ x y, P x y → Q x y) : AllAt Q xs ys := ⟨h.len, fun i h1 h2 => hq _ _ (h.get i h1 h2)⟩
theorem AllAt.nil : AllAt P [] [] := ⟨rfl, fun i h => by simp at h⟩
theorem AllAt.append (h : AllAt P xs ys) (h' : AllAt P xs' ys') : AllAt P (xs ++ xs') (ys ++ ys') := by
  refine ⟨by simp [h.len, h'.len], fun i h1 h2 => ?_⟩
  have hl := h.len
  by_cases hi : i < xs.length
  · rw [List.getElem_append_left hi, List.getElem_append_left (by omega)]; exact h.get i _ _
  · rw [List.getElem_append_right (by omega), List.getElem_append_right (by omega)]
    have := h'.get (i - xs.length) (by simp at h1; omega) (by simp at h2; omega)
    simpa only [hl] using this
theorem AllAt.one {x : α} {y : β} (h : P x y) : AllAt P [x] [y] := ⟨rfl, fun i h1 h2 => by
  have : i = 0 := by simpa using h1
  subst this; exact h⟩
theorem AllAt.take (h : AllAt P xs ys) (k : Nat) : AllAt P (xs.take k) (ys.take k) :=
  ⟨by simp [h.len], fun i h1 h2 => by rw [List.getElem_take, List.getElem_take]; exact h.get i _ _⟩
theorem AllAt.drop (h : AllAt P xs ys) (k : Nat) : AllAt P (xs.drop k) (ys.drop k) :=
  ⟨by simp [h.len], fun i h1 h2 => by rw [List.getElem_drop, List.getElem_drop]; exact h.get (k + i) _ _⟩
theorem AllAt.set (h : AllAt P xs ys) (k : Nat) {x : α} {y : β} (hp : P x y) : AllAt P (xs.set k x) (ys.set k y) := by
  refine ⟨by simp [h.len], fun i h1 h2 => ?_⟩
  rw [List.getElem_set, List.getElem_set]
  split
  · exact hp
  · exact h.get i _ _
end

/-! ### A struct of its own, filled cell by cell -/
def fillC (b : Nat) : List Value → Nat → World → (World → Prop) → Prop
  | [], _, w, K => K w
  | v :: r, i, w, K => (∃ u : Value, w.cell? (Addr.add ⟨b, 0, none⟩ i) = some u) ∧ w.frozen? (Addr.add ⟨b, 0, none⟩ i) = false ∧ atW (w.setCell (Addr.add ⟨b, 0, none⟩ i) v) fun w' => fillC b r (i + 1) w' K
theorem fillC_at {b : Nat} {t : TypeId} {K : World → Prop} : ∀ (vs : List Value) (done old : List Value) (w : World), old.length = vs.length → w.heap[b]? = some (.cells (done ++ old).toArray t (0, 0)) →
    (∀ w', w'.heap[b]? = some (.cells (done ++ vs).toArray t (0, 0)) → Mod (on b) w w' → w'.heap.size = w.heap.size → K w') → fillC b vs done.length w K
  | [], done, old, w, hl, h, hk => by
    have : old = [] := List.eq_nil_of_length_eq_zero hl
    subst this
    exact hk w h (Mod.refl _ _) rfl
  | v :: r, done, [], w, hl, h, hk => by simp at hl
  | v :: r, done, o :: old, w, hl, h, hk => by
    refine ⟨⟨o, by rw [cl1 h]; simp⟩, fz1 h _, fun w' e => ?_⟩
    subst e
    have h1 : (w.setCell (Addr.add ⟨b, 0, none⟩ done.length) v).heap[b]? = some (.cells ((done ++ [v]) ++ old).toArray t (0, 0)) := by
      rw [set1 h]
      simp
    have := fillC_at (K := K) r (done ++ [v]) old _ (by simpa using hl) h1 (fun w' h' m' s' => hk w' (by simpa using h') ((Mod.set1 _ _ _ _).trans m') (by rw [s']; simp))
    simpa using this
theorem fillC_ok {b : Nat} {t : TypeId} {K : World → Prop} {vs : List Value} {w : World} {old : Array Value} (h : w.heap[b]? = some (.cells old t (0, 0))) (hl : old.size = vs.length)
    (hk : ∀ w', w'.heap[b]? = some (.cells vs.toArray t (0, 0)) → Mod (on b) w w' → w'.heap.size = w.heap.size → K w') : fillC b vs 0 w K :=
  fillC_at vs [] old.toList w (by simpa using hl) (by simpa using h) (by simpa using hk)
end Go.Proofs.YtgjdandnncjegaaGreatDoor.St

/- Rows of one-cell elements: what is appended. It names no program. -/
namespace Go.Proofs.YtgjdandnncjegaaGreatDoor.St
open Go

section
variable {α : Type} {val : α → Value} {e : TypeId} {w w' : World} {a : Option Addr} {l c : Nat} {xs : List α}
/-- An element is one word. -/
def oneL (val : α → Value) (h : ∀ x, (val x).oneCell' = true) : Lay α where
  cs x := [val x]
  s := 1
  pos := by decide
  len _ := rfl
  one x v hv := by simp at hv; subst hv; exact h x
theorem oneL_cs (val : α → Value) (h : ∀ x, (val x).oneCell' = true) (xs : List α) : xs.flatMap (oneL val h).cs = xs.map val := by
  induction xs with
  | nil => rfl
  | cons x r ih => rw [List.flatMap_cons, ih]; rfl
theorem Els.row (hv : ∀ x, (val x).oneCell' = true) (h : Els val e w a l c xs) : Row (oneL val hv) e w a l c xs := by
  rw [Row, oneL_cs]; exact h
theorem Els.of_row {hv : ∀ x, (val x).oneCell' = true} (h : Row (oneL val hv) e w a l c xs) : Els val e w a l c xs := by
  rw [Row, oneL_cs] at h; exact h
theorem Els.nil (e : TypeId) (w : World) : Els val e w none 0 0 [] := ⟨by simp, .inl ⟨rfl, rfl⟩⟩
theorem Els.lit (hv : ∀ x, (val x).oneCell' = true) {k : Nat} {cur : Array Value} (hg : w.heap[k]? = some (.cells cur e (0, 0))) (xs : List α) (h : cur.toList = xs.map val) (hn : xs.length ≤ maxLen) : Els val e w (some ⟨k, 0, none⟩) xs.length xs.length xs :=
  Els.of_row (hv := hv) (Row.lit _ hg xs (by rw [oneL_cs]; exact h) hn)
theorem Els.all (hv : ∀ x, (val x).oneCell' = true) (h : Els val e w a l c xs) : (∀ ad, a = some ad → ∀ j v, (xs.map val)[j]? = some v → w.cell? (ad.add j) = some v) ∧ (a = none → l = 0 ∧ c = 0) := by
  have := (h.row hv).all
  rw [oneL_cs] at this
  exact this
theorem Els.push {P : Program} {t ty : TypeId} (hv : ∀ x, (val x).oneCell' = true) (ho : laidOk P t e 1 = true) (h : Els val e w a l c xs) {b : Option Addr} {m cc : Nat} {ys : List α} (hm : ys.length = m)
    (hb : ∀ ad, b = some ad → ∀ j v, (ys.map val)[j]? = some v → w.cell? (ad.add j) = some v) (hb0 : b = none → m = 0 ∧ cc = 0) (hn : l + m ≤ 1099511627776) :
    ∃ a' c' w', (Builtin.append_ #[t, t] ty #[.slice a l c, .slice b m cc]).run P w = .ok (.slice a' (l + m) c') w' ∧ Els val e w' a' (l + m) c' (xs ++ ys) ∧
      Mod (rowB a) w w' ∧ (∀ k, rowB a' k → rowB a k ∨ w.heap.size ≤ k) := by
  obtain ⟨a', c', w', h1, h2, h3, h4⟩ := (h.row hv).push (P := P) (ty := ty) ho hm (by rw [oneL_cs]; exact hb) hb0 hn
  exact ⟨a', c', w', h1, Els.of_row h2, h3, h4⟩
/-- append(row, x). -/
theorem Els.push1 {P : Program} {t ty : TypeId} (hv : ∀ x, (val x).oneCell' = true) (ho : laidOk P t e 1 = true) (h : Els val e w a l c xs) {k : Nat} {x : α} {e' : TypeId} (hk : w.heap[k]? = some (.cells #[val x] e' (0, 0))) (hn : l + 1 ≤ 1099511627776) :
    ∃ a' c' w', (Builtin.append_ #[t, t] ty #[.slice a l c, .slice (some ⟨k, 0, none⟩) 1 1]).run P w = .ok (.slice a' (l + 1) c') w' ∧ Els val e w' a' (l + 1) c' (xs ++ [x]) ∧
      Mod (rowB a) w w' ∧ (∀ k, rowB a' k → rowB a k ∨ w.heap.size ≤ k) :=
  h.push hv ho (ys := [x]) rfl (fun ad had j v hj => by cases had; rw [cl1 hk]; simpa using hj) (fun h => by cases h) hn
end
theorem swapL_comm {α : Type} [Inhabited α] {xs : List α} {i j : Nat} (h : i ≠ j) : swapL xs i j = swapL xs j i := by
  unfold swapL
  exact List.set_comm _ _ h
end Go.Proofs.YtgjdandnncjegaaGreatDoor.St

/- Plain laws on lists that are sorted in parts: heaps, parting at an element, what is left to sort. It names no program. -/
namespace Go.Proofs.YtgjdandnncjegaaGreatDoor.St
variable {α : Type} [Inhabited α] [LE α] [_root_.LT α] [Lin α]

/-! ### Heaps -/
def Hp (xs : List α) (f lo hi : Nat) : Prop := ∀ p c, lo ≤ p → (c = 2 * p + 1 ∨ c = 2 * p + 2) → c < hi → at0 xs (f + c) ≤ at0 xs (f + p)
structure Sift (xs : List α) (f lo hi r : Nat) : Prop where
  a : ∀ p c, lo ≤ p → p ≠ r → (c = 2 * p + 1 ∨ c = 2 * p + 2) → c < hi → at0 xs (f + c) ≤ at0 xs (f + p)
  b : ∀ q c, lo ≤ q → (r = 2 * q + 1 ∨ r = 2 * q + 2) → (c = 2 * r + 1 ∨ c = 2 * r + 2) → c < hi → at0 xs (f + c) ≤ at0 xs (f + q)
omit [_root_.LT α] [Lin α] in
theorem Sift.start {xs : List α} {f lo hi : Nat} (h : Hp xs f (lo + 1) hi) : Sift xs f lo hi lo :=
  ⟨fun p c h1 h2 h3 h4 => h p c (by omega) h3 h4, fun q c h1 h2 => by omega⟩
omit [_root_.LT α] [Lin α] in
theorem Sift.done {xs : List α} {f lo hi r : Nat} (h : Sift xs f lo hi r) (hc : ∀ c, (c = 2 * r + 1 ∨ c = 2 * r + 2) → c < hi → at0 xs (f + c) ≤ at0 xs (f + r)) : Hp xs f lo hi := by
  intro p c h1 h2 h3
  by_cases e : p = r
  · subst e; exact hc c h2 h3
  · exact h.a p c h1 e h2 h3
theorem Sift.step {xs : List α} {f lo hi r c : Nat} (h : Sift xs f lo hi r) (hr : lo ≤ r) (hx : f + hi ≤ xs.length) (hc : c = 2 * r + 1 ∨ c = 2 * r + 2) (hch : c < hi)
    (hmax : ∀ e, (e = 2 * r + 1 ∨ e = 2 * r + 2) → e < hi → at0 xs (f + e) ≤ at0 xs (f + c)) (hlt : at0 xs (f + r) < at0 xs (f + c)) : Sift (swapL xs (f + r) (f + c)) f lo hi c := by
  have hs : ∀ k, at0 (swapL xs (f + r) (f + c)) (f + k) = if k = c then at0 xs (f + r) else if k = r then at0 xs (f + c) else at0 xs (f + k) := by
    intro k
    rw [at0_swapL (by omega) (by omega)]
    by_cases h1 : k = c
    · subst h1; rw [if_pos rfl, if_pos rfl]
    · rw [if_neg h1, if_neg (by omega)]
      by_cases h2 : k = r
      · subst h2; rw [if_pos rfl, if_pos rfl]
      · rw [if_neg h2, if_neg (by omega)]
  refine ⟨fun p e h1 h2 h3 h4 => ?_, fun q e h1 h2 h3 h4 => ?_⟩
  · rw [hs e, hs p, if_neg h2]
    by_cases hp : p = r
    · subst hp
      rw [if_pos rfl]
      by_cases he : e = c
      · subst he; rw [if_pos rfl]; exact Lin.lle hlt
      · rw [if_neg he, if_neg (by omega)]; exact hmax e h3 h4
    · rw [if_neg hp]
      by_cases he : e = c
      · omega
      · rw [if_neg he]
        by_cases he' : e = r
        · rw [if_pos he']
          subst he'
          exact h.b p c h1 h3 hc hch
        · rw [if_neg he']; exact h.a p e h1 hp h3 h4
  · have hq : q = r := by omega
    subst hq
    rw [hs e, hs q, if_neg (by omega), if_neg (by omega), if_neg (by omega), if_pos rfl]
    exact h.a c e (by omega) (by omega) h3 h4
theorem Hp.top {xs : List α} {f n : Nat} (h : Hp xs f 0 n) : ∀ k, k < n → at0 xs (f + k) ≤ at0 xs f := by
  intro k
  induction k using Nat.strongRecOn with
  | _ k ih =>
    intro hk
    by_cases h0 : k = 0
    · subst h0; exact Lin.refl _
    · refine Lin.tr (h ((k - 1) / 2) k (Nat.zero_le _) (by omega) hk) (ih _ (by omega) (by omega))

/-- While a heap is taken down: [0, n) is one, what is behind it is sorted, and not less. -/
structure Pop (xs : List α) (f n hi : Nat) : Prop where
  hp : Hp xs f 0 n
  srt : ∀ p q, n ≤ p → p < q → q < hi → at0 xs (f + p) ≤ at0 xs (f + q)
  le : ∀ k q, k < n → n ≤ q → q < hi → at0 xs (f + k) ≤ at0 xs (f + q)
omit [_root_.LT α] [Lin α] in
theorem Pop.swap {xs : List α} {f i hi : Nat} (h : Pop xs f (i + 1) hi) (hi1 : i < hi) (hx : f + hi ≤ xs.length) : Hp (swapL xs f (f + i)) f (0 + 1) i := by
  intro p c h1 h2 h3
  rw [at0_swapL (by omega) (by omega), at0_swapL (by omega) (by omega), if_neg (by omega), if_neg (by omega), if_neg (by omega), if_neg (by omega)]
  exact h.hp p c (by omega) h2 (by omega)
theorem Pop.step {xs zs : List α} {f i hi : Nat} (h : Pop xs f (i + 1) hi) (hi1 : i < hi) (hx : f + hi ≤ xs.length) (hs : Seg (f + 0) (f + i) (swapL xs f (f + i)) zs) (hz : Hp zs f 0 i) : Pop zs f i hi := by
  have hs : Seg f (f + i) (swapL xs f (f + i)) zs := hs
  have sw : ∀ k, at0 (swapL xs f (f + i)) k = if k = f + i then at0 xs f else if k = f then at0 xs (f + i) else at0 xs k := fun k => at0_swapL (by omega) (by omega)
  have hii : at0 zs (f + i) = at0 xs f := by rw [hs.out _ (by omega), sw, if_pos rfl]
  have hq : ∀ q, i < q → at0 zs (f + q) = at0 xs (f + q) := fun q hq => by rw [hs.out _ (by omega), sw, if_neg (by omega), if_neg (by omega)]
  have old : ∀ P : α → Prop, (∀ k, k < i + 1 → P (at0 xs (f + k))) → ∀ k, k < i → P (at0 zs (f + k)) := by
    intro P hP k hk
    refine hs.all (by simp; omega) (P := P) (fun m h1 h2 => ?_) (f + k) (by omega) (by omega)
    rw [sw, if_neg (by omega)]
    by_cases e : m = f
    · rw [if_pos e]; exact hP i (by omega)
    · rw [if_neg e]
      have := hP (m - f) (by omega)
      rwa [show f + (m - f) = m by omega] at this
  refine ⟨hz, fun p q h1 h2 h3 => ?_, fun k q h1 h2 h3 => ?_⟩
  · rw [hq q (by omega)]
    by_cases e : p = i
    · rw [e, hii]; exact h.le 0 q (by omega) (by omega) h3
    · rw [hq p (by omega)]; exact h.srt p q (by omega) h2 h3
  · by_cases e : q = i
    · rw [e, hii]; exact old (fun v => v ≤ at0 xs f) (fun m hm => h.hp.top m hm) k h1
    · rw [hq q (by omega)]; exact old (fun v => v ≤ at0 xs (f + q)) (fun m hm => h.le m q hm (by omega) h3) k h1
omit [_root_.LT α] [Lin α] in
theorem Pop.done {xs : List α} {f hi : Nat} (h : Pop xs f 0 hi) : Srt xs f (f + hi) := by
  intro p q h1 h2 h3
  have := h.srt (p - f) (q - f) (by omega) (by omega) (by omega)
  rwa [show f + (p - f) = p by omega, show f + (q - f) = q by omega] at this
omit [_root_.LT α] [Lin α] in
theorem Pop.start {xs : List α} {f hi : Nat} (h : Hp xs f 0 hi) : Pop xs f hi hi := ⟨h, fun _ _ _ _ _ => by omega, fun _ _ _ _ _ => by omega⟩

/-! ### Parting -/
structure Pt (xs : List α) (a b i j : Nat) : Prop where
  ai : a + 1 ≤ i
  ij : i ≤ j + 1
  jb : j < b
  lo : ∀ k, a < k → k < i → at0 xs k ≤ at0 xs a
  hi : ∀ k, j < k → k < b → at0 xs a ≤ at0 xs k
omit [_root_.LT α] [Lin α] in
theorem Pt.up {xs : List α} {a b i j : Nat} (h : Pt xs a b i j) (hij : i ≤ j) (hx : at0 xs i ≤ at0 xs a) : Pt xs a b (i + 1) j :=
  ⟨by have := h.ai; omega, by omega, h.jb, fun k h1 h2 => by
    by_cases e : k = i
    · rw [e]; exact hx
    · exact h.lo k h1 (by omega), h.hi⟩
omit [_root_.LT α] [Lin α] in
theorem Pt.down {xs : List α} {a b i j : Nat} (h : Pt xs a b i j) (hij : i ≤ j) (hx : at0 xs a ≤ at0 xs j) : Pt xs a b i (j - 1) :=
  ⟨h.ai, by have := h.ai; omega, by have := h.jb; omega, h.lo, fun k h1 h2 => by
    by_cases e : k = j
    · rw [e]; exact hx
    · exact h.hi k (by omega) h2⟩
omit [_root_.LT α] [Lin α] in
theorem Pt.swap {xs : List α} {a b i j : Nat} (h : Pt xs a b i j) (hb : b ≤ xs.length) (hij : i < j) (h1 : at0 xs j ≤ at0 xs a) (h2 : at0 xs a ≤ at0 xs i) : Pt (swapL xs i j) a b (i + 1) (j - 1) := by
  have hai := h.ai
  have hjb := h.jb
  have sw : ∀ k, at0 (swapL xs i j) k = if k = j then at0 xs i else if k = i then at0 xs j else at0 xs k := fun k => at0_swapL (by omega) (by omega)
  have swa : at0 (swapL xs i j) a = at0 xs a := by rw [sw, if_neg (by omega), if_neg (by omega)]
  refine ⟨by omega, by omega, by omega, fun k h3 h4 => ?_, fun k h3 h4 => ?_⟩
  · rw [swa, sw k, if_neg (by omega)]
    by_cases e : k = i
    · rw [if_pos e]; exact h1
    · rw [if_neg e]; exact h.lo k h3 (by omega)
  · rw [swa, sw k]
    by_cases e : k = j
    · rw [if_pos e]; exact h2
    · rw [if_neg e, if_neg (by omega)]; exact h.hi k (by omega) h4
/-- What is at m parts the others. -/
structure Parted (xs : List α) (a m b : Nat) : Prop where
  am : a ≤ m
  mb : m < b
  lo : ∀ k, a ≤ k → k < m → at0 xs k ≤ at0 xs m
  hi : ∀ k, m < k → k < b → at0 xs m ≤ at0 xs k
omit [_root_.LT α] [Lin α] in
theorem Pt.done {xs : List α} {a b i j : Nat} (h : Pt xs a b i j) (hb : b ≤ xs.length) (hij : j < i) : Parted (swapL xs j a) a j b := by
  have hai := h.ai
  have hjb := h.jb
  have hij' := h.ij
  have sw : ∀ k, at0 (swapL xs j a) k = if k = a then at0 xs j else if k = j then at0 xs a else at0 xs k := fun k => at0_swapL (by omega) (by omega)
  have swj : at0 (swapL xs j a) j = at0 xs a := by
    rw [sw]
    by_cases e : j = a
    · rw [if_pos e, e]
    · rw [if_neg e, if_pos rfl]
  refine ⟨by omega, hjb, fun k h1 h2 => ?_, fun k h1 h2 => ?_⟩
  · rw [swj, sw k]
    by_cases e : k = a
    · rw [if_pos e]; exact h.lo j (by omega) (by omega)
    · rw [if_neg e, if_neg (by omega)]; exact h.lo k (by omega) (by omega)
  · rw [swj, sw k, if_neg (by omega), if_neg (by omega)]
    exact h.hi k h1 h2
omit [_root_.LT α] [Lin α] in
theorem Parted.left {xs ys : List α} {a m b : Nat} (h : Parted xs a m b) (hb : b ≤ xs.length) (hs : Seg a m xs ys) : Parted ys a m b := by
  have hm := h.mb
  refine ⟨h.am, h.mb, fun k h1 h2 => ?_, fun k h1 h2 => ?_⟩
  · rw [hs.out m (by omega)]
    exact hs.all (by omega) (P := fun v => v ≤ at0 xs m) (fun k h1 h2 => h.lo k h1 h2) k h1 h2
  · rw [hs.out m (by omega), hs.out k (by omega)]; exact h.hi k h1 h2
omit [_root_.LT α] [Lin α] in
theorem Parted.right {xs ys : List α} {a m b : Nat} (h : Parted xs a m b) (hb : b ≤ xs.length) (hs : Seg (m + 1) b xs ys) : Parted ys a m b := by
  have hm := h.mb
  refine ⟨h.am, h.mb, fun k h1 h2 => ?_, fun k h1 h2 => ?_⟩
  · rw [hs.out m (by omega), hs.out k (by omega)]; exact h.lo k h1 h2
  · rw [hs.out m (by omega)]
    exact hs.all (by omega) (P := fun v => at0 xs m ≤ v) (fun k h1 h2 => h.hi k (by omega) h2) k (by omega) h2

/-! ### What is left to sort -/
/-- Of [a, b) all but [a', b') stands where it belongs. -/
def Alm (xs : List α) (a b a' b' : Nat) : Prop := ∀ p q, a ≤ p → p < q → q < b → ¬ (a' ≤ p ∧ q < b') → at0 xs p ≤ at0 xs q
/-- What stands before a is no more than any of [a, b). -/
def Bel (xs : List α) (a b : Nat) : Prop := 0 < a → ∀ k, a ≤ k → k < b → at0 xs (a - 1) ≤ at0 xs k
section
omit [_root_.LT α] [Lin α]
variable {xs ys : List α} {a b a' b' m : Nat}
theorem Alm.start (xs : List α) (a b : Nat) : Alm xs a b a b := fun _ _ h1 _ h3 h4 => absurd ⟨h1, h3⟩ h4
theorem Alm.seg (h : Alm xs a b a' b') (hs : Seg a' b' xs ys) (ha : a ≤ a') (hb : b' ≤ b) (hx : b ≤ xs.length) : Alm ys a b a' b' := by
  intro p q h1 h2 h3 h4
  by_cases hp : a' ≤ p ∧ p < b'
  · rw [hs.out q (by omega)]
    exact hs.all (by omega) (P := fun v => v ≤ at0 xs q) (fun k h5 h6 => h k q (by omega) (by omega) h3 (by omega)) p hp.1 hp.2
  · rw [hs.out p (by omega)]
    by_cases hq : a' ≤ q ∧ q < b'
    · exact hs.all (by omega) (P := fun v => at0 xs p ≤ v) (fun k h5 h6 => h p k h1 (by omega) (by omega) (by omega)) q hq.1 hq.2
    · rw [hs.out q (by omega)]; exact h p q h1 h2 h3 h4
theorem Alm.full (h : Alm xs a b a' b') (hs : Srt xs a' b') : Srt xs a b := by
  intro p q h1 h2 h3
  by_cases e : a' ≤ p ∧ q < b'
  · exact hs p q e.1 h2 e.2
  · exact h p q h1 h2 h3 e
theorem Bel.seg (h : Bel xs a b) (hs : Seg a b xs ys) (hx : b ≤ xs.length) : Bel ys a b := by
  intro h0 k h1 h2
  rw [hs.out (a - 1) (by omega)]
  exact hs.all hx (P := fun v => at0 xs (a - 1) ≤ v) (fun k h3 h4 => h h0 k h3 h4) k h1 h2
theorem Bel.mono (h : Bel xs a b) (hb : m ≤ b) : Bel xs a m := fun h0 k h1 h2 => h h0 k h1 (by omega)
theorem Parted.bel (h : Parted xs a m b) : Bel xs (m + 1) b := fun _ k h1 h2 => h.hi k (by omega) h2
end
theorem Alm.left {xs : List α} {a b a' b' m : Nat} (h : Alm xs a b a' b') (hp : Parted xs a' m b') (hs : Srt xs a' m) : Alm xs a b (m + 1) b' := by
  intro p q h1 h2 h3 h4
  have := hp.am
  by_cases e : a' ≤ p ∧ q < b'
  · have hpm : p ≤ m := by omega
    by_cases e1 : p = m
    · subst e1; exact hp.hi q h2 e.2
    · have h5 := hp.lo p e.1 (by omega)
      by_cases e2 : q < m
      · exact hs p q e.1 h2 e2
      · by_cases e3 : q = m
        · rw [e3]; exact h5
        · exact Lin.tr h5 (hp.hi q (by omega) e.2)
  · exact h p q h1 h2 h3 e
theorem Alm.right {xs : List α} {a b a' b' m : Nat} (h : Alm xs a b a' b') (hp : Parted xs a' m b') (hs : Srt xs (m + 1) b') : Alm xs a b a' m := by
  intro p q h1 h2 h3 h4
  have := hp.mb
  by_cases e : a' ≤ p ∧ q < b'
  · have hqm : m ≤ q := by omega
    by_cases e1 : q = m
    · subst e1; exact hp.lo p e.1 h2
    · have h5 := hp.hi q (by omega) e.2
      by_cases e2 : m < p
      · exact hs p q (by omega) h2 e.2
      · by_cases e3 : p = m
        · rw [e3]; exact h5
        · exact Lin.tr (hp.lo p e.1 (by omega)) h5
  · exact h p q h1 h2 h3 e
/-- [a, m) is of what is least, [m, b) of what is no less. -/
structure Eqd (xs : List α) (a m b : Nat) : Prop where
  am : a < m
  mb : m ≤ b
  srt : Srt xs a m
  le : ∀ p q, a ≤ p → p < m → m ≤ q → q < b → at0 xs p ≤ at0 xs q
  bel : Bel xs m b
theorem Pt.eqd {xs : List α} {a b i j : Nat} (h : Pt xs a b i j) (hij : j < i) (hmin : ∀ k, a ≤ k → k < b → at0 xs a ≤ at0 xs k) : Eqd xs a i b := by
  have h1 := h.ai
  have h2 := h.ij
  have h3 := h.jb
  have hlo : ∀ k, a ≤ k → k < i → at0 xs k ≤ at0 xs a := fun k h4 h5 => by
    by_cases e : k = a
    · rw [e]; exact Lin.refl _
    · exact h.lo k (by omega) h5
  refine ⟨by omega, by omega, fun p q h4 h5 h6 => ?_, fun p q h4 h5 h6 h7 => ?_, fun _ k h4 h5 => ?_⟩
  · exact Lin.tr (hlo p h4 (by omega)) (hmin q (by omega) (by omega))
  · exact Lin.tr (hlo p h4 h5) (hmin q (by omega) h7)
  · exact Lin.tr (hlo (i - 1) (by omega) (by omega)) (hmin k (by omega) h5)
omit [_root_.LT α] [Lin α] in
theorem Alm.eqd {xs : List α} {a b a' b' m : Nat} (h : Alm xs a b a' b') (he : Eqd xs a' m b') : Alm xs a b m b' := by
  intro p q h1 h2 h3 h4
  by_cases e : a' ≤ p ∧ q < b'
  · by_cases e1 : q < m
    · exact he.srt p q e.1 h2 e1
    · exact he.le p q e.1 (by omega) (by omega) e.2
  · exact h p q h1 h2 h3 e
end Go.Proofs.YtgjdandnncjegaaGreatDoor.St

/- Strings, ordered by their bytes. It names no program. -/
namespace Go.Proofs.YtgjdandnncjegaaGreatDoor.St
open Go

theorem byteAt_eq {s : ByteArray} {i : Nat} (h : i < s.size) : byteAt s i = ((s[i]'h).toNat : Int) := by
  have h' : i < s.data.size := h
  simp only [byteAt, Array.getElem?_eq_getElem h', Option.getD_some]
  rfl
theorem byteArray_toList (s : ByteArray) : s.toList = s.data.toList := by
  have h : ∀ (n : Nat) (i : Nat) (r : List UInt8), s.size - i = n → ByteArray.toList.loop s i r = r.reverse ++ s.data.toList.drop i := by
    intro n
    induction n with
    | zero =>
      intro i r hi
      unfold ByteArray.toList.loop
      have : ¬ i < s.size := by omega
      simp only [this, if_false]
      rw [List.drop_of_length_le (by have : s.size = s.data.size := rfl; simp; omega)]
      simp
    | succ n ih =>
      intro i r hi
      unfold ByteArray.toList.loop
      have hlt : i < s.size := by omega
      simp only [hlt, if_true]
      rw [ih (i + 1) _ (by omega)]
      have hlt' : i < s.data.toList.length := by have : s.size = s.data.size := rfl; simp; omega
      rw [List.drop_eq_getElem_cons hlt']
      have : s.get! i = s.data.toList[i] := by
        have hlt2 : i < s.data.size := by simpa using hlt'
        rw [Array.getElem_toList]
        show s.data[i]! = _
        rw [getElem!_pos s.data i hlt2]
      rw [this]
      simp
  have := h (s.size - 0) 0 [] rfl
  simpa [ByteArray.toList] using this
theorem bytes_empty (s : ByteArray) : (s.toList == (ByteArray.mk #[]).toList) = decide (s.size = 0) := by
  rw [byteArray_toList, byteArray_toList]
  have : s.size = s.data.toList.length := Array.length_toList.symm
  rw [this]
  cases s.data.toList with
  | nil => rfl
  | cons x r => exact (decide_eq_false (Nat.succ_ne_zero _)).symm

theorem bl_irr : ∀ x : List UInt8, Op.bytesLess x x = false
  | [] => rfl
  | a :: x => by
    have h1 : ¬ a < a := by simp
    simp [Op.bytesLess, h1, bl_irr x]
theorem bl_asym : ∀ x y : List UInt8, Op.bytesLess x y = true → Op.bytesLess y x = false
  | [], [], h => by simp [Op.bytesLess] at h
  | [], _ :: _, _ => by simp [Op.bytesLess]
  | _ :: _, [], h => by simp [Op.bytesLess] at h
  | a :: x, b :: y, h => by
    simp only [Op.bytesLess, Bool.or_eq_true, Bool.and_eq_true, decide_eq_true_eq, beq_iff_eq] at h
    rcases h with h | ⟨rfl, h⟩
    · have h1 : ¬ b < a := by
        simp only [UInt8.lt_iff_toNat_lt] at h ⊢
        omega
      have h2 : ¬ b = a := fun e => by subst e; simp at h
      simp [Op.bytesLess, h1, h2]
    · have h1 : ¬ a < a := by simp
      simp [Op.bytesLess, h1, bl_asym x y h]
theorem bl_ntr : ∀ x y z : List UInt8, Op.bytesLess y x = false → Op.bytesLess z y = false → Op.bytesLess z x = false
  | [], y, z, h1, h2 => by cases z <;> simp [Op.bytesLess]
  | a :: x, [], z, h1, h2 => by simp [Op.bytesLess] at h1
  | a :: x, b :: y, [], h1, h2 => by simp [Op.bytesLess] at h2
  | a :: x, b :: y, c :: z, h1, h2 => by
    simp only [Op.bytesLess, Bool.or_eq_false_iff, Bool.and_eq_false_iff, decide_eq_false_iff_not, beq_eq_false_iff_ne, UInt8.lt_iff_toNat_lt] at h1 h2 ⊢
    obtain ⟨h1, h1'⟩ := h1
    obtain ⟨h2, h2'⟩ := h2
    refine ⟨by omega, ?_⟩
    by_cases e : c = a
    · subst e
      have hbc : b = c := by
        apply UInt8.toNat_inj.1
        omega
      subst hbc
      right
      rcases h1' with h | h
      · exact absurd rfl h
      · rcases h2' with h' | h'
        · exact absurd rfl h'
        · exact bl_ntr x y z h h'
    · exact .inl e

instance strLT : _root_.LT ByteArray := ⟨fun x y => Op.bytesLess x.toList y.toList = true⟩
instance strLE : LE ByteArray := ⟨fun x y => ¬ y < x⟩
instance strDec : DecidableLT ByteArray := fun x y => inferInstanceAs (Decidable (Op.bytesLess x.toList y.toList = true))
instance strLin : Lin ByteArray where
  nlt h := h
  nle h := h
  lle {a b} h := by
    intro h'
    have := bl_asym a.toList b.toList h
    rw [show Op.bytesLess b.toList a.toList = true from h'] at this
    cases this
  tr {a b c} h h' := by
    intro h2
    have h1 : Op.bytesLess b.toList a.toList = false := by simpa using (show ¬ Op.bytesLess b.toList a.toList = true from h)
    have h3 : Op.bytesLess c.toList b.toList = false := by simpa using (show ¬ Op.bytesLess c.toList b.toList = true from h')
    have := bl_ntr a.toList b.toList c.toList h1 h3
    rw [show Op.bytesLess c.toList a.toList = true from h2] at this
    cases this
theorem strLess {x y : ByteArray} {w : World} {R : Value → World → Prop} (h : R (.bool (decide (x < y))) w) : R (.bool (Op.bytesLess x.toList y.toList)) w := by
  have : decide (x < y) = Op.bytesLess x.toList y.toList := by
    cases hb : Op.bytesLess x.toList y.toList with
    | true => exact decide_eq_true hb
    | false => exact decide_eq_false fun h => by rw [show Op.bytesLess x.toList y.toList = true from h] at hb; cases hb
  rwa [this] at h
end Go.Proofs.YtgjdandnncjegaaGreatDoor.St

/- The formulas of functions, printed by a program of mine (gen.py) out of the translation. -/
namespace Go.Proofs.YtgjdandnncjegaaGreatDoor
open Go Go.Proofs.YtgjdandnncjegaaGreatDoor.St
open _root_.Go.Value (string int bool slice pointer agg tuple map func nilFunc iface)
open _root_.Go.World (cell? frozen? setCell alloc drew)
open _root_.Go.Addr (add)
open _root_.Go.Obj (cells)
open _root_.Go.IntKind (wrap i64 u64 i32 u32 u8)
set_option maxRecDepth 100000

/-- slices.Clone[[]byte,byte] -/
noncomputable def C39 : Code := (Tryz.f39.body).getD .skip
def pl39 : Nat → Plan := fun _ => .done
def ls39 : Nat → List (Nat × LT) := fun _ => []
def W39 (sa : Option Addr) (sl : Nat) (sc : Nat) (w : World) (R : Value → World → Prop) : Prop :=
  (ifK (Option.isNone sa)
(R (slice none 0 0) (w))
(atW (alloc w (cells (Array.mk []) 5 (0, 0))) (fun w0 =>
(∃ v1 : Value, (∃ w2 : World, ((Sem.run Tryz.prog (Builtin.append_ (Array.mk [27, 27]) 27 (Array.mk [slice (some (nw w)) 0 0, slice sa sl sc])) w0 = Result.ok v1 w2) ∧ (∃ p3 : Option Addr, (∃ n4 : Nat, (∃ n5 : Nat, ((v1 = slice p3 n4 n5) ∧ (R (slice p3 n4 n5) (w2))))))))))))
theorem ca39 (sa : Option Addr) (sl : Nat) (sc : Nat) (w : World) (R : Value → World → Prop) (h : W39 sa sl sc w R) : Ca Tryz.prog 39 ⟨[(.slice sa sl sc)]⟩ w R :=
  caB (fn := Tryz.f39) (pl := pl39) (ls := ls39) Tryz.func39 (by kernel_rfl) (by kernel_rfl) h

/-- slices.Equal[[]byte,byte] -/
noncomputable def C64 : Code := (Tryz.f64.body).getD .skip
def pl64 : Nat → Plan
  | 6 => (.quiet 0 (.quiet 1 (.quiet 2 (.quiet 3 (.quiet 4 (.quiet 5 (.quiet 6 (.quiet 7 (.quiet 8 .done)))))))))
  | _ => .done
def ls64 : Nat → List (Nat × LT)
  | 6 => [(13, (.one (.int .i64)))]
  | _ => []
def W64 (s1_a : Option Addr) (s1_l : Nat) (_s1_c : Nat) (s2_a : Option Addr) (s2_l : Nat) (_s2_c : Nat) (w : World) (R : Value → World → Prop) : Prop :=
  (ifK ((↑s1_l : Int) != (↑s2_l : Int))
(R (bool false) (w))
(∃ z0 : Int → World → Prop, (∃ z1 : Int → World → Nat, ((z0 (0) (w)) ∧ (∀ (_ : Nat → Value), (∀ (x3 : Int), (∀ (w4 : World), ((z0 (x3) (w4)) → (ifK (decide (x3 < (↑s1_l : Int)))
(atW (drew w4) (fun w5 =>
(∃ a6 : Addr, ((s1_a = some a6) ∧ (((0 : Int) ≤ x3) ∧ (((x3 : Int) < (↑s1_l : Int)) ∧ (∃ x7 : Int, ((cell? w5 (add a6 (Int.toNat x3 * 1)) = some (int u8 x7)) ∧ (∃ a8 : Addr, ((s2_a = some a8) ∧ (((0 : Int) ≤ x3) ∧ (((x3 : Int) < (↑s2_l : Int)) ∧ (∃ x9 : Int, ((cell? w5 (add a8 (Int.toNat x3 * 1)) = some (int u8 x9)) ∧ (ifK (x7 != x9)
(R (bool false) (w5))
((z0 (wrap i64 (x3 + 1)) (w5)) ∧ (z1 (wrap i64 (x3 + 1)) w5 < z1 x3 w4)))))))))))))))))
(R (bool true) (w4)))))))))))
theorem ca64 (s1_a : Option Addr) (s1_l : Nat) (s1_c : Nat) (s2_a : Option Addr) (s2_l : Nat) (s2_c : Nat) (w : World) (R : Value → World → Prop) (h : W64 s1_a s1_l s1_c s2_a s2_l s2_c w R) : Ca Tryz.prog 64 ⟨[(.slice s1_a s1_l s1_c), (.slice s2_a s2_l s2_c)]⟩ w R :=
  caB (fn := Tryz.f64) (pl := pl64) (ls := ls64) Tryz.func64 (by kernel_rfl) (by kernel_rfl) h

/-- maps.Clone[staith/store.directory,string,*staith/store.file] -/
noncomputable def C65 : Code := (Tryz.f65.body).getD .skip
def pl65 : Nat → Plan := fun _ => .done
def ls65 : Nat → List (Nat × LT) := fun _ => []
def W65 (m : Option Nat) (w : World) (R : Value → World → Prop) : Prop :=
  (ifK (Option.isNone m)
(R (map none) (w))
False)
theorem ca65 (m : Option Nat) (w : World) (R : Value → World → Prop) (h : W65 m w R) : Ca Tryz.prog 65 ⟨[(.map m)]⟩ w R :=
  caB (fn := Tryz.f65) (pl := pl65) (ls := ls65) Tryz.func65 (by kernel_rfl) (by kernel_rfl) h

/-- slices.Sorted[string] -/
noncomputable def C87 : Code := (Tryz.f87.body).getD .skip
def pl87 : Nat → Plan := fun _ => .done
def ls87 : Nat → List (Nat × LT) := fun _ => []
def W87 (seq : Value) (w : World) (R : Value → World → Prop) : Prop :=
  (Ca Tryz.prog (97) (Array.mk [seq]) (w) (fun v0 => (fun w1 =>
(∃ p2 : Option Addr, (∃ n3 : Nat, (∃ n4 : Nat, ((v0 = slice p2 n3 n4) ∧ (Ca Tryz.prog (98) (Array.mk [slice p2 n3 n4]) (w1) (fun v5 => (fun w6 =>
((v5 = tuple (Array.mk (List.reverse []))) ∧ (R (slice p2 n3 n4) (w6)))))))))))))
theorem ca87 (seq : Value) (w : World) (R : Value → World → Prop) (h : W87 seq w R) : Ca Tryz.prog 87 ⟨[seq]⟩ w R :=
  caB (fn := Tryz.f87) (pl := pl87) (ls := ls87) Tryz.func87 (by kernel_rfl) (by kernel_rfl) h

/-- maps.Keys[staith/store.directory,string,*staith/store.file] -/
noncomputable def C88 : Code := (Tryz.f88.body).getD .skip
def pl88 : Nat → Plan := fun _ => .done
def ls88 : Nat → List (Nat × LT) := fun _ => []
def W88 (m : Option Nat) (w : World) (R : Value → World → Prop) : Prop :=
  (atW (alloc w (cells (Array.mk [map m]) 62 (0, 0))) (fun w0 =>
(R (func (Fn.func 99) (Array.mk []) (Array.mk [pointer (some (nw w))])) (w0))))
theorem ca88 (m : Option Nat) (w : World) (R : Value → World → Prop) (h : W88 m w R) : Ca Tryz.prog 88 ⟨[(.map m)]⟩ w R :=
  caB (fn := Tryz.f88) (pl := pl88) (ls := ls88) Tryz.func88 (by kernel_rfl) (by kernel_rfl) h

/-- maps.Keys[staith/store.directory,string,*staith/store.file]$1 -/
noncomputable def C99 : Code := (Tryz.f99.body).getD .skip
def pl99 : Nat → Plan := fun _ => .done
def ls99 : Nat → List (Nat × LT)
  | 1 => []
  | _ => []
def W99 (yield : Value) (c0 : Option Addr) (w : World) (R : Value → World → Prop) : Prop :=
  (onP (c0) (fun a0 =>
(∃ p1 : Option Nat, ((cell? w a0 = some (map p1)) ∧ (rngM (p1) (w) (fun v2 => (fun w3 =>
(∃ z4 : World → Prop, (∃ z5 : World → Nat, ((z4 (w3)) ∧ (∀ (_ : Nat → Value), (∀ (w7 : World), ((z4 (w7)) → (nxtM Tryz.prog (0) (v2) (w7) (fun _ => (fun _ => (fun w10 =>
(∃ v11 : Value, (∃ v12 : Value, ((Sem.run Tryz.prog (Instr.entry v2) w10 = Result.ok (tuple #[v11, v12]) w10) ∧ (onS (v11) (fun s13 =>
(CaV Tryz.prog (yield) (Array.mk [string s13]) (w10) (fun v14 => (fun w15 =>
(∃ b16 : Bool, ((v14 = bool b16) ∧ (ifK (!b16)
(R (tuple (Array.mk (List.reverse []))) (w15))
((z4 (w15)) ∧ (z5 w15 < z5 w7)))))))))))))))) (fun w17 =>
(R (tuple (Array.mk (List.reverse []))) (w17)))))))))))))))))
theorem ca99 (yield : Value) (c0 : Option Addr) (w : World) (R : Value → World → Prop) (h : W99 yield c0 w R) : Ca Tryz.prog 99 ⟨[yield, (.pointer c0)]⟩ w R :=
  caB (fn := Tryz.f99) (pl := pl99) (ls := ls99) Tryz.func99 (by kernel_rfl) (by kernel_rfl) h

/-- slices.Concat[[]byte,byte] -/
noncomputable def C80 : Code := (Tryz.f80.body).getD .skip
def pl80 : Nat → Plan := fun _ => .done
def ls80 : Nat → List (Nat × LT)
  | 4 => [(3, (.one (.int .i64))), (11, (.one (.int .i64)))]
  | 14 => [(6, (.one .slice)), (27, (.one (.int .i64)))]
  | _ => []
def W80 (slicesa : Option Addr) (slicesl : Nat) (_slicesc : Nat) (w : World) (R : Value → World → Prop) : Prop :=
  (∃ z0 : Int → Int → World → Prop, (∃ z1 : Int → Int → World → Nat, ((z0 (0) (0) (w)) ∧ (∀ (_ : Nat → Value), (∀ (x3 : Int), (∀ (x4 : Int), (∀ (w5 : World), ((z0 (x3) (x4) (w5)) → (ifK (decide (x4 < (↑slicesl : Int)))
(∃ a6 : Addr, ((slicesa = some a6) ∧ (((0 : Int) ≤ x4) ∧ (((x4 : Int) < (↑slicesl : Int)) ∧ (∃ p7 : Option Addr, (∃ n8 : Nat, (∃ n9 : Nat, ((cell? w5 (add a6 (Int.toNat x4 * 1)) = some (slice p7 n8 n9)) ∧ (ifK (decide (wrap i64 (x3 + (↑n8 : Int)) < 0))
False
((z0 (wrap i64 (x3 + (↑n8 : Int))) (wrap i64 (x4 + 1)) (w5)) ∧ (z1 (wrap i64 (x3 + (↑n8 : Int))) (wrap i64 (x4 + 1)) w5 < z1 x3 x4 w5)))))))))))
(Ca Tryz.prog (95) (Array.mk [slice none 0 0, int i64 x3]) (w5) (fun v10 => (fun w11 =>
(∃ p12 : Option Addr, (∃ n13 : Nat, (∃ n14 : Nat, ((v10 = slice p12 n13 n14) ∧ (∃ z15 : Option Addr → Nat → Nat → Int → World → Prop, (∃ z16 : Option Addr → Nat → Nat → Int → World → Nat, ((z15 (p12) (n13) (n14) (0) (w11)) ∧ (∀ (_ : Nat → Value), (∀ (p18 : Option Addr), (∀ (n19 : Nat), (∀ (n20 : Nat), (∀ (x21 : Int), (∀ (w22 : World), ((z15 (p18) (n19) (n20) (x21) (w22)) → (ifK (decide (x21 < (↑slicesl : Int)))
(∃ a23 : Addr, ((slicesa = some a23) ∧ (((0 : Int) ≤ x21) ∧ (((x21 : Int) < (↑slicesl : Int)) ∧ (∃ p24 : Option Addr, (∃ n25 : Nat, (∃ n26 : Nat, ((cell? w22 (add a23 (Int.toNat x21 * 1)) = some (slice p24 n25 n26)) ∧ (∃ v27 : Value, (∃ w28 : World, ((Sem.run Tryz.prog (Builtin.append_ (Array.mk [27, 27]) 27 (Array.mk [slice p18 n19 n20, slice p24 n25 n26])) w22 = Result.ok v27 w28) ∧ (∃ p29 : Option Addr, (∃ n30 : Nat, (∃ n31 : Nat, ((v27 = slice p29 n30 n31) ∧ ((z15 (p29) (n30) (n31) (wrap i64 (x21 + 1)) (w28)) ∧ (z16 p29 n30 n31 (wrap i64 (x21 + 1)) w28 < z16 p18 n19 n20 x21 w22)))))))))))))))))
(R (slice p18 n19 n20) (w22)))))))))))))))))))))))))))))
theorem ca80 (slicesa : Option Addr) (slicesl : Nat) (slicesc : Nat) (w : World) (R : Value → World → Prop) (h : W80 slicesa slicesl slicesc w R) : Ca Tryz.prog 80 ⟨[(.slice slicesa slicesl slicesc)]⟩ w R :=
  caB (fn := Tryz.f80) (pl := pl80) (ls := ls80) Tryz.func80 (by kernel_rfl) (by kernel_rfl) h

/-- slices.Grow[[]byte,byte] -/
noncomputable def C95 : Code := (Tryz.f95.body).getD .skip
def pl95 : Nat → Plan := fun _ => .done
def ls95 : Nat → List (Nat × LT) := fun _ => []
def W95 (sa : Option Addr) (sl : Nat) (sc : Nat) (n : Int) (w : World) (R : Value → World → Prop) : Prop :=
  (ifK (decide (n < 0))
False
(ifK (decide (wrap i64 (n - wrap i64 ((↑sc : Int) - (↑sl : Int))) > 0))
(((0 : Int) ≤ 0) ∧ (((0 : Int) ≤ (↑sc : Int)) ∧ ((((↑sc : Int) : Int) ≤ (↑sc : Int)) ∧ (∃ v0 : Value, (∃ w1 : World, ((Sem.run Tryz.prog (Builtin.append_ (Array.mk [27, 3]) 27 (Array.mk [slice (if sc = 0 then sa else Option.map (fun x => add x 0) sa) (Int.toNat (↑sc : Int) - 0) (sc - 0), int i64 (wrap i64 (n - wrap i64 ((↑sc : Int) - (↑sl : Int))))])) w = Result.ok v0 w1) ∧ (∃ p2 : Option Addr, (∃ n3 : Nat, (∃ n4 : Nat, ((v0 = slice p2 n3 n4) ∧ (((0 : Int) ≤ 0) ∧ (((0 : Int) ≤ (↑sl : Int)) ∧ ((((↑sl : Int) : Int) ≤ (↑n4 : Int)) ∧ (R (slice (if n4 = 0 then p2 else Option.map (fun x => add x 0) p2) (Int.toNat (↑sl : Int) - 0) (n4 - 0)) (w1)))))))))))))))
(R (slice sa sl sc) (w))))
theorem ca95 (sa : Option Addr) (sl : Nat) (sc : Nat) (n : Int) (w : World) (R : Value → World → Prop) (h : W95 sa sl sc n w R) : Ca Tryz.prog 95 ⟨[(.slice sa sl sc), (.int .i64 n)]⟩ w R :=
  caB (fn := Tryz.f95) (pl := pl95) (ls := ls95) Tryz.func95 (by kernel_rfl) (by kernel_rfl) h

/-- slices.Collect[string] -/
noncomputable def C97 : Code := (Tryz.f97.body).getD .skip
def pl97 : Nat → Plan := fun _ => .done
def ls97 : Nat → List (Nat × LT) := fun _ => []
def W97 (seq : Value) (w : World) (R : Value → World → Prop) : Prop :=
  (Ca Tryz.prog (121) (Array.mk [slice none 0 0, seq]) (w) (fun v0 => (fun w1 =>
(∃ p2 : Option Addr, (∃ n3 : Nat, (∃ n4 : Nat, ((v0 = slice p2 n3 n4) ∧ (R (slice p2 n3 n4) (w1)))))))))
theorem ca97 (seq : Value) (w : World) (R : Value → World → Prop) (h : W97 seq w R) : Ca Tryz.prog 97 ⟨[seq]⟩ w R :=
  caB (fn := Tryz.f97) (pl := pl97) (ls := ls97) Tryz.func97 (by kernel_rfl) (by kernel_rfl) h

/-- slices.AppendSeq[[]string,string] -/
noncomputable def C121 : Code := (Tryz.f121.body).getD .skip
def pl121 : Nat → Plan := fun _ => .done
def ls121 : Nat → List (Nat × LT) := fun _ => []
def W121 (sa : Option Addr) (sl : Nat) (sc : Nat) (seq : Value) (w : World) (R : Value → World → Prop) : Prop :=
  (atW (alloc w (cells (Array.mk [slice sa sl sc]) 93 (0, 0))) (fun w0 =>
(rfW Tryz.prog (seq) (w0) (fun v1 => (fun w2 => (fun z3 => (fun z4 =>
(onS (v1) (fun s5 =>
(z3 (fun w6 =>
(∃ p7 : Option Addr, (∃ n8 : Nat, (∃ n9 : Nat, ((cell? w6 (nw w) = some (slice p7 n8 n9)) ∧ (atW (alloc w6 (cells (Array.mk [string s5]) 9 (0, 0))) (fun w10 =>
(∃ v11 : Value, (∃ w12 : World, ((Sem.run Tryz.prog (Builtin.append_ (Array.mk [93, 93]) 93 (Array.mk [slice p7 n8 n9, slice (some (nw w6)) 1 1])) w10 = Result.ok v11 w12) ∧ (∃ p13 : Option Addr, (∃ n14 : Nat, (∃ n15 : Nat, ((v11 = slice p13 n14 n15) ∧ (st1 (add (nw w) 0) (slice p13 n14 n15) w12 (fun w17 =>
(z4 (w17)))))))))))))))))) (w2)))))))) (fun w18 =>
(∃ p19 : Option Addr, (∃ n20 : Nat, (∃ n21 : Nat, ((cell? w18 (nw w) = some (slice p19 n20 n21)) ∧ (((World.heap w18)[Array.size (World.heap w0)]? = some (Obj.deferred (some []))) ∧ (atW (World.putObj w18 (Array.size (World.heap w0)) (Obj.deferred none)) (fun w22 =>
(R (slice p19 n20 n21) (w22)))))))))))))
theorem ca121 (sa : Option Addr) (sl : Nat) (sc : Nat) (seq : Value) (w : World) (R : Value → World → Prop) (h : W121 sa sl sc seq w R) : Ca Tryz.prog 121 ⟨[(.slice sa sl sc), seq]⟩ w R :=
  caB (fn := Tryz.f121) (pl := pl121) (ls := ls121) Tryz.func121 (by kernel_rfl) (by kernel_rfl) h

/-- staith/staithref01.Same -/
noncomputable def C21 : Code := (Tryz.f21.body).getD .skip
def pl21 : Nat → Plan := fun _ => .done
def ls21 : Nat → List (Nat × LT) := fun _ => []
def W21 (a_a : Option Addr) (a_l : Nat) (a_c : Nat) (ba : Option Addr) (bl : Nat) (bc : Nat) (w : World) (R : Value → World → Prop) : Prop :=
  (∃ v0 : Value, (∃ w1 : World, ((Sem.run Tryz.prog (convert 27 9 (slice a_a a_l a_c)) w = Result.ok v0 w1) ∧ (∃ s2 : ByteArray, ((v0 = string s2) ∧ (∃ v3 : Value, (∃ w4 : World, ((Sem.run Tryz.prog (convert 27 9 (slice ba bl bc)) w1 = Result.ok v3 w4) ∧ (∃ s5 : ByteArray, ((v3 = string s5) ∧ (R (bool (ByteArray.toList s2 == ByteArray.toList s5)) (w4))))))))))))
theorem ca21 (a_a : Option Addr) (a_l : Nat) (a_c : Nat) (ba : Option Addr) (bl : Nat) (bc : Nat) (w : World) (R : Value → World → Prop) (h : W21 a_a a_l a_c ba bl bc w R) : Ca Tryz.prog 21 ⟨[(.slice a_a a_l a_c), (.slice ba bl bc)]⟩ w R :=
  caB (fn := Tryz.f21) (pl := pl21) (ls := ls21) Tryz.func21 (by kernel_rfl) (by kernel_rfl) h
end Go.Proofs.YtgjdandnncjegaaGreatDoor

/- Bytes as they lie; the library's Clone, Grow, Concat, Equal of them; the reference's Same. -/
namespace Go.Proofs.YtgjdandnncjegaaGreatDoor
open Go Go.Proofs.YtgjdandnncjegaaGreatDoor.St

abbrev Bs := List UInt8
def u8v (b : UInt8) : Value := .int .u8 (b.toNat : Int)
theorem u8one : ∀ x, (u8v x).oneCell' = true := fun _ => rfl

theorem cell_lt' {w : World} {ad : Addr} {v : Value} (h : w.cell? ad = some v) : ad.block < w.heap.size := by
  unfold World.cell? at h
  cases hb : w.heap[ad.block]? with
  | none => rw [hb] at h; cases h
  | some o => exact lt_of_heap hb
theorem cell_mod {S : Nat → Prop} {w w' : World} (h : Mod S w w') {ad : Addr} {v : Value} (hc : w.cell? ad = some v) (hs : ¬ S ad.block) : w'.cell? ad = some v := by
  have := h.keep ad.block (cell_lt' hc) hs
  unfold World.cell? at hc ⊢
  rw [this]
  exact hc
theorem block_add (ad : Addr) (n : Nat) : (Addr.add ad n).block = ad.block := by unfold Addr.add; split <;> rfl
theorem sub0 (a : Option Addr) (c : Nat) : (if c = 0 then a else Option.map (fun x => Addr.add x 0) a) = a := by
  split
  · rfl
  · cases a <;> simp [Addr.add]

/-- Bytes that are read, wherever they lie. -/
structure Rd (w : World) (a : Option Addr) (l c : Nat) (bs : Bs) : Prop where
  len : bs.length = l
  le : l ≤ c
  cm : c ≤ 9223372036854775807
  all : ∀ ad, a = some ad → ∀ j v, (bs.map u8v)[j]? = some v → w.cell? (ad.add j) = some v
  nil : a = none → l = 0 ∧ c = 0

section
variable {w w' : World} {a : Option Addr} {l c : Nat} {bs : Bs} {e : TypeId}
theorem Rd.mod {S : Nat → Prop} (h : Rd w a l c bs) (hm : Mod S w w') (hs : ∀ k, rowB a k → ¬ S k) : Rd w' a l c bs :=
  ⟨h.len, h.le, h.cm, fun ad had j v hj => cell_mod hm (h.all ad had j v hj) (by rw [block_add]; exact hs _ (by rw [had]; rfl)), h.nil⟩
theorem Rd.mod' {S : Nat → Prop} (h : Rd w a l c bs) (hm : Mod S w w') (hs : 0 < l → ∀ k, rowB a k → ¬ S k) : Rd w' a l c bs := by
  by_cases h0 : 0 < l
  · exact h.mod hm (hs h0)
  · refine ⟨h.len, h.le, h.cm, fun ad _ j v hj => ?_, h.nil⟩
    have : bs = [] := List.eq_nil_of_length_eq_zero (by have := h.len; omega)
    subst this
    simp at hj
theorem Rd.lt (h : Rd w a l c bs) (h0 : 0 < l) : ∀ k, rowB a k → k < w.heap.size := by
  intro k hk
  cases a with
  | none => simp [rowB] at hk
  | some ad =>
    simp [rowB] at hk
    subst hk
    have hb : 0 < bs.length := by have := h.len; omega
    have := cell_lt' (h.all ad rfl 0 (u8v bs[0]) (by simp [hb]))
    rwa [block_add] at this
theorem Rd.no (h : Rd w a l c bs) (hm : Mod no w w') : Rd w' a l c bs := h.mod hm fun _ _ => id
theorem Rd.of_els (h : Els u8v e w a l c bs) : Rd w a l c bs := ⟨h.len.1, h.len.2.1, h.len.2.2, (h.all u8one).1, (h.all u8one).2⟩
theorem Rd.take (h : Rd w a l c bs) {k : Nat} (hk : k ≤ l) : Rd w a k c (bs.take k) := by
  refine ⟨by rw [List.length_take, h.len]; omega, by have := h.le; omega, h.cm, fun ad had j v hj => h.all ad had j v ?_, fun hn => ?_⟩
  · rw [List.map_take, List.getElem?_take] at hj
    split at hj
    · exact hj
    · cases hj
  · have := h.nil hn
    omega
theorem Rd.get (h : Rd w a l c bs) {i : Nat} (hi : i < bs.length) : ∃ ad, a = some ad ∧ w.cell? (Addr.add ad (i * 1)) = some (u8v bs[i]) := by
  cases a with
  | none => have := h.nil rfl; have := h.len; omega
  | some ad => exact ⟨ad, rfl, h.all ad rfl _ _ (by rw [Nat.mul_one]; simp [hi])⟩
theorem Els.take (h : Els u8v e w a l c bs) {k : Nat} (hk : k ≤ l) : Els u8v e w a k c (bs.take k) := by
  have hl := h.len.1
  refine ⟨by rw [List.length_map, List.length_take, hl]; omega, ?_⟩
  rcases h.2 with ⟨hv, h0⟩ | ⟨g, cap, cur, hv, hb, hg, h1, h2, h3, h4⟩
  · injection hv with e1 e2 e3
    subst e1; subst e3
    obtain rfl : k = 0 := by omega
    exact .inl ⟨rfl, rfl⟩
  · injection hv with e1 e2 e3
    subst e1; subst e3
    refine .inr ⟨g, c, cur, rfl, hb, hg, by omega, h2, h3, ?_⟩
    rw [List.map_take, ← h4, List.take_take, Nat.mul_one, Nat.mul_one, Nat.min_eq_left hk]

theorem str_ok (h : Rd w a l c bs) : (convert 27 9 (.slice a l c)).run Tryz.prog w = .ok (.string ⟨bs.toArray⟩) w := by
  cases a with
  | none =>
    obtain ⟨rfl, rfl⟩ := h.nil rfl
    have : bs = [] := List.eq_nil_of_length_eq_zero h.len
    subst this
    exact Lib.run_convert_nil_bytes w _ _ 5 0 Tryz.underlying27 Tryz.underlying5 Tryz.underlying9
  | some ad =>
    rw [← h.len]
    exact run_convert_bytes_back w _ _ 5 ad c bs Tryz.underlying27 Tryz.underlying5 Tryz.underlying9 fun j hj => h.all ad rfl j _ (by simp [hj]; rfl)
theorem str_eq (x y : Bs) : (ByteArray.toList ⟨x.toArray⟩ == ByteArray.toList ⟨y.toArray⟩) = decide (x = y) := by
  rw [byteArray_toList, byteArray_toList, Bool.eq_iff_iff]
  simp
end

theorem same_ok {w : World} {a b : Option Addr} {al ac bl bc : Nat} {xs ys : Bs} (hx : Rd w a al ac xs) (hy : Rd w b bl bc ys) (R : Value → World → Prop) (h : R (.bool (decide (xs = ys))) w) :
    Ca Tryz.prog 21 #[.slice a al ac, .slice b bl bc] w R := by
  refine ca21 a al ac b bl bc w R ?_
  refine ⟨_, w, str_ok hx, _, rfl, _, w, str_ok hy, _, rfl, ?_⟩
  rw [str_eq]
  exact h

theorem equal_ok {w : World} {a b : Option Addr} {al ac bl bc : Nat} {xs ys : Bs} (hx : Rd w a al ac xs) (hy : Rd w b bl bc ys) (hn : al < 4611686018427387904) (R : Value → World → Prop) (h : ∀ w', Mod no w w' → R (.bool (decide (xs = ys))) w') :
    Ca Tryz.prog 64 #[.slice a al ac, .slice b bl bc] w R := by
  have hxl := hx.len
  have hyl := hy.len
  refine ca64 a al ac b bl bc w R ?_
  refine ifK_of (fun hne => ?_) (fun he => ?_)
  · have : ¬ xs = ys := fun e => by
      subst e
      have hne : ((al : Int) != (bl : Int)) = true := hne
      simp at hne
      omega
    have h := h w (Mod.refl _ _)
    rwa [decide_eq_false this] at h
  · have hll : al = bl := by
      have he : ((al : Int) != (bl : Int)) = false := he
      simp at he
      omega
    refine ⟨fun x w' => ∃ i : Nat, x = i ∧ i ≤ al ∧ Mod no w w' ∧ xs.take i = ys.take i, fun x _ => ((al : Int) - x).toNat, ⟨0, rfl, Nat.zero_le _, Mod.refl _ _, rfl⟩, ?_⟩
    rintro _ _ w4 ⟨i, rfl, hi, m4, heq⟩
    have e1 : i < al → IntKind.i64.wrap ((i : Int) + 1) = ((i + 1 : Nat) : Int) := fun h => by rw [wrap64 (by omega) (by omega)]; rfl
    refine ifK_dec (fun hlt => ?_) (fun hge => ?_)
    · have hlt' : i < al := by omega
      intro w5 e5
      have m5 : Mod no w w5 := by subst e5; exact m4.trans (Mod.drew _)
      clear e5
      obtain ⟨ad, had, hc⟩ := (hx.no m5).get (i := i) (by omega)
      obtain ⟨bd, hbd, hd⟩ := (hy.no m5).get (i := i) (by omega)
      rw [e1 hlt']
      clear e1
      refine ⟨ad, had, by omega, hlt, _, by rw [Int.toNat_natCast]; exact hc, bd, hbd, by omega, by omega, _, by rw [Int.toNat_natCast]; exact hd, ifK_of (fun hne => ?_) (fun hee => ?_)⟩
      · have hne : ((xs[i].toNat : Int) != (ys[i].toNat : Int)) = true := hne
        have : ¬ xs = ys := fun e => by
          subst e
          simp at hne
        have h := h w5 m5
        rwa [decide_eq_false this] at h
      · have hee : ((xs[i].toNat : Int) != (ys[i].toNat : Int)) = false := hee
        have hb : xs[i] = ys[i] := by
          simp at hee
          exact UInt8.toNat_inj.1 (by omega)
        refine ⟨⟨i + 1, rfl, hlt', m5, ?_⟩, by simp only; omega⟩
        rw [List.take_add_one, List.take_add_one, heq, List.getElem?_eq_getElem (by omega), List.getElem?_eq_getElem (by omega), hb]
    · have h := h w4 m4
      have hi' : i = al := by omega
      rw [List.take_of_length_le (by omega), List.take_of_length_le (by omega)] at heq
      rwa [decide_eq_true heq] at h

theorem bytesLaid : laidOk Tryz.prog 27 5 1 = true := by kernel_rfl
theorem clone8_ok {w : World} {a : Option Addr} {l c : Nat} {bs : Bs} (hx : Rd w a l c bs) (hn : l ≤ 1099511627776) (R : Value → World → Prop)
    (h : ∀ w' a' c', Els u8v 5 w' a' l c' bs → Mod no w w' → (∀ k, rowB a' k → w.heap.size ≤ k) → R (.slice a' l c') w') : Ca Tryz.prog 39 #[.slice a l c] w R := by
  refine ca39 a l c w R ?_
  cases a with
  | none =>
    obtain ⟨rfl, rfl⟩ := hx.nil rfl
    have : bs = [] := List.eq_nil_of_length_eq_zero hx.len
    subst this
    exact (ifK_of (fun _ => h w none 0 (Els.nil _ _) (Mod.refl _ _) (fun k hk => by simp [rowB] at hk)) (fun h => by cases h) : ifK true _ _)
  | some ad =>
    refine (ifK_of (fun h => by cases h) (fun _ => ?_) : ifK false _ _)
    intro w0 e0
    have m0 : Mod no w w0 := by subst e0; exact Mod.alloc _ _
    have b0 : w0.heap[w.heap.size]? = some (.cells #[] 5 (0, 0)) := by subst e0; exact new_at _ _
    clear e0
    have r0 : Els u8v 5 w0 (some ⟨w.heap.size, 0, none⟩) 0 0 [] := Els.lit u8one b0 [] rfl (by decide)
    have hx0 := hx.no m0
    obtain ⟨a', c', w', hrun, h2, h3, h4⟩ := r0.push (P := Tryz.prog) (ty := 27) u8one bytesLaid (ys := bs) (m := l) (cc := c) hx.len hx0.all hx0.nil (by omega)
    rw [Nat.zero_add] at hrun h2
    refine ⟨_, w', hrun, _, _, _, rfl, h w' a' c' h2 (m0.new h3 fun k hk => by simp [rowB] at hk; omega) fun k hk => ?_⟩
    rcases h4 k hk with h | h
    · simp [rowB] at h; omega
    · exact Nat.le_trans m0.size h

theorem run_append_made {P : Program} (w : World) (t k ty e : TypeId) (i : TypeInfo) (z : Value) (ht : P.underlying t = some (.slice e)) (hk : P.underlying k = some (.int .i64)) (hi : P.info? e = some i) (hz : i.zero = some z) (hs : i.size = 1) (hb : i.bytes = 1)
    (n : Nat) (h0 : 0 < n) (hn : n ≤ 1099511627776) :
    (Builtin.append_ #[t, k] ty #[.slice none 0 0, .int .i64 n]).run P w =
      .ok (.slice (some ⟨w.heap.size, 0, none⟩) n (grownCap w n 0 e)) (w.drew.alloc (.cells (Builtin.zeroCells z.cells n ++ Builtin.zeroCells z.cells (grownCap w n 0 e - n)) e)) := by
  have hw : IntKind.i64.wrap (n : Int) = n := wrap64 (by omega) (by omega)
  have h1 : ¬ ((n : Int) < 0) := by omega
  have h2 : ¬ ((n : Int) > 281474976710656) := by omega
  have h3 : ¬ n = 0 := by omega
  have h63' : ¬ (9223372036854775807 < (n : Int)) := by omega
  have h48' : ¬ (281474976710656 < Builtin.nextslicecap n 0) := by rw [nextslicecap_zero h0]; omega
  simp [Builtin.append_, run_underlying ht, run_underlying hk, sizeOf, typeInfo, zeroValue, hi, hz, hs, hb, asInt, asIntOf, hw, h1, h2, h3, h63', h48', Question.forced, run_firstCells_none, newRow, grownCap]
theorem grow8_ok (w : World) (n : Nat) (hn : n ≤ 1099511627776) (R : Value → World → Prop)
    (h : ∀ w' a c, Els u8v 5 w' a 0 c [] → Mod no w w' → (∀ k, rowB a k → w.heap.size ≤ k) → R (.slice a 0 c) w') : Ca Tryz.prog 95 #[.slice none 0 0, .int .i64 n] w R := by
  refine ca95 none 0 0 n w R ?_
  have e0 : IntKind.i64.wrap (((0 : Nat) : Int) - ((0 : Nat) : Int)) = 0 := by decide
  have e1 : IntKind.i64.wrap ((n : Int) - 0) = n := by rw [Int.sub_zero]; exact wrap64 (by omega) (by omega)
  rw [W95, e0, e1]
  refine ifK_dec (fun h => by omega) (fun _ => ?_)
  refine ifK_dec (fun hpos => ?_) (fun hz => ?_)
  · refine ⟨by decide, by decide, by decide, ?_⟩
    obtain ⟨ht, i, z, hi, hz, hs, hby, hzs⟩ := laidOk_of bytesLaid
    have hb1 : i.bytes = 1 := by
      have : (Tryz.prog.info? 5).map (·.bytes) = some 1 := by kernel_rfl
      rw [hi] at this
      injection this
    have hrun := run_append_made (P := Tryz.prog) w 27 3 27 5 i z ht Tryz.underlying3 hi hz hs hb1 n (by omega) hn
    refine ⟨_, _, hrun, _, _, _, rfl, by decide, by decide, by simp, ?_⟩
    rw [sub0]
    refine h _ _ _ ?_ (Mod.no_trans (Mod.drew _) (Mod.alloc _ _)) (fun k hk => by simp [rowB] at hk; omega)
    have hge := grownCap_ge w n 0 5
    have hle := grownCap_le_maxLen w n 0 5 (by simp only [maxLen]; omega)
    refine ⟨rfl, .inr ⟨w.heap.size, grownCap w n 0 5, _, rfl, Nat.zero_le _, new_at w.drew _, Nat.zero_le _, hle, ?_, by simp⟩⟩
    simp only [Array.size_append, size_zeroCells, hzs, Nat.mul_one]
    omega
  · exact h w none 0 (Els.nil _ _) (Mod.refl _ _) (fun k hk => by simp [rowB] at hk)

theorem concat8_ok {w : World} {g : Nat} {t : TypeId} {a b : Option Addr} {al ac bl bc : Nat} {xs ys : Bs} (hg : w.heap[g]? = some (.cells #[.slice a al ac, .slice b bl bc] t (0, 0))) (hx : Rd w a al ac xs) (hy : Rd w b bl bc ys) (hn : al + bl ≤ 1099511627776) (R : Value → World → Prop)
    (h : ∀ w' a' c', Els u8v 5 w' a' (al + bl) c' (xs ++ ys) → Mod no w w' → (∀ k, rowB a' k → w.heap.size ≤ k) → R (.slice a' (al + bl) c') w') :
    Ca Tryz.prog 80 #[.slice (some ⟨g, 0, none⟩) 2 2] w R := by
  refine ca80 (some ⟨g, 0, none⟩) 2 2 w R ?_
  have hxl := hx.len
  have hyl := hy.len
  refine ⟨fun s x w' => w' = w ∧ ((x = 0 ∧ s = 0) ∨ (x = 1 ∧ s = al) ∨ (x = 2 ∧ s = (al + bl : Nat))), fun _ x _ => (2 - x).toNat, ⟨rfl, .inl ⟨rfl, rfl⟩⟩, ?_⟩
  rintro _ s x w1 ⟨rfl, hc⟩
  refine ifK_dec (fun hlt => ?_) (fun hge => ?_)
  · have w1e : IntKind.i64.wrap (0 + (al : Int)) = al := by rw [Int.zero_add]; exact wrap64 (by omega) (by omega)
    have w2e : IntKind.i64.wrap ((al : Int) + (bl : Int)) = (al + bl : Nat) := by rw [wrap64 (by omega) (by omega)]; omega
    rcases hc with ⟨rfl, rfl⟩ | ⟨rfl, rfl⟩ | ⟨rfl, rfl⟩
    · refine ⟨_, rfl, by decide, by decide, a, al, ac, by rw [cl1 hg]; rfl, ?_⟩
      rw [w1e]
      refine ifK_dec (fun h => by omega) (fun _ => ⟨⟨rfl, .inr (.inl ⟨by decide, rfl⟩)⟩, by simp only; decide⟩)
    · refine ⟨_, rfl, by decide, by decide, b, bl, bc, by rw [cl1 hg]; rfl, ?_⟩
      rw [w2e]
      refine ifK_dec (fun h => by omega) (fun _ => ⟨⟨rfl, .inr (.inr ⟨by decide, rfl⟩)⟩, by simp only; decide⟩)
    · exact absurd hlt (by decide)
  · have hs : s = (al + bl : Nat) := by
      rcases hc with ⟨rfl, rfl⟩ | ⟨rfl, rfl⟩ | ⟨rfl, rfl⟩
      · exact absurd (by decide) hge
      · exact absurd (by decide) hge
      · rfl
    rw [hs]
    clear hs hc hge
    refine grow8_ok w1 _ hn _ fun w2 p c r2 m2 n2 => ⟨p, 0, c, rfl, ?_⟩
    refine ⟨fun p l c x w' => ∃ i : Nat, x = i ∧ i ≤ 2 ∧ Mod no w1 w' ∧ (∀ k, rowB p k → w1.heap.size ≤ k) ∧ Els u8v 5 w' p l c ((if 0 < i then xs else []) ++ (if 1 < i then ys else [])), fun _ _ _ x _ => (2 - x).toNat, ⟨0, rfl, by decide, m2, n2, r2⟩, ?_⟩
    rintro _ p l c _ w3 ⟨i, rfl, hi, m3, n3, r3⟩
    have add : ∀ {d : Option Addr} {dl dc : Nat} {zs : Bs}, Rd w1 d dl dc zs → dl ≤ al + bl → xs.length + ys.length = al + bl → l + dl ≤ al + bl → ∃ a' c' w', (Builtin.append_ #[27, 27] 27 #[.slice p l c, .slice d dl dc]).run Tryz.prog w3 = .ok (.slice a' (l + dl) c') w' ∧
        Els u8v 5 w' a' (l + dl) c' (((if 0 < i then xs else []) ++ (if 1 < i then ys else [])) ++ zs) ∧ Mod no w1 w' ∧ (∀ k, rowB a' k → w1.heap.size ≤ k) := by
      intro d dl dc zs hd _ _ hl
      have hd3 := hd.no m3
      obtain ⟨a', c', w', q1, q2, q3, q4⟩ := r3.push (P := Tryz.prog) (ty := 27) u8one bytesLaid (ys := zs) hd3.len hd3.all hd3.nil (by omega)
      refine ⟨a', c', w', q1, q2, m3.new q3 n3, fun k hk => ?_⟩
      rcases q4 k hk with h | h
      · exact n3 k h
      · exact Nat.le_trans m3.size h
    have hlen := r3.len.1
    have hg3 := m3.at' hg
    match i, hi with
    | 0, _ =>
      refine (ifK_of (fun _ => ?_) (fun h => by cases h) : ifK true _ _)
      obtain ⟨a', c', w', q1, q2, q3, q4⟩ := add hx (by omega) (by omega) (by simp at hlen; omega)
      refine ⟨_, rfl, by decide, by decide, a, al, ac, by rw [cl1 hg3]; rfl, _, w', q1, _, _, _, rfl, ⟨1, by decide, by decide, q3, q4, by simpa using q2⟩, by simp only; decide⟩
    | 1, _ =>
      refine (ifK_of (fun _ => ?_) (fun h => by cases h) : ifK true _ _)
      obtain ⟨a', c', w', q1, q2, q3, q4⟩ := add hy (by omega) (by omega) (by simp at hlen; omega)
      refine ⟨_, rfl, by decide, by decide, b, bl, bc, by rw [cl1 hg3]; rfl, _, w', q1, _, _, _, rfl, ⟨2, by decide, by decide, q3, q4, by simpa using q2⟩, by simp only; decide⟩
    | 2, _ =>
      refine (ifK_of (fun h => by cases h) (fun _ => ?_) : ifK false _ _)
      have hll : l = al + bl := by simp at hlen; omega
      subst hll
      exact h w3 p c (by simpa using r3) m3 n3
end Go.Proofs.YtgjdandnncjegaaGreatDoor

/- Seals in plain Lean: bytes between their count and a sum; what of them is told when they were cut. The sum is any function. -/
namespace Go.Proofs.YtgjdandnncjegaaGreatDoor
open Go
/-- A number of k bytes, the highest first. -/
def putN : Nat → Nat → Bs
  | 0, _ => []
  | k + 1, v => putN k (v / 256) ++ [UInt8.ofNat (v % 256)]
def getL (v : Nat) : Bs → Nat
  | [] => v
  | x :: r => getL (v * 256 + x.toNat) r
/-- The number that k bytes are. -/
def getN (k : Nat) (b : Bs) : Nat := getL 0 (b.take k)
theorem putN_len : ∀ k v, (putN k v).length = k
  | 0, _ => rfl
  | k + 1, v => by rw [putN, List.length_append, putN_len]; rfl
theorem getL_append (v : Nat) : ∀ a b, getL v (a ++ b) = getL (getL v a) b := by
  intro a
  induction a generalizing v with
  | nil => intro b; rfl
  | cons x a ih => intro b; exact ih _ b
theorem getL_put (k v : Nat) (hv : v < 256 ^ k) : getL 0 (putN k v) = v := by
  induction k generalizing v with
  | zero => have : v = 0 := by simp at hv; exact hv
            subst this; rfl
  | succ k ih =>
    rw [putN, getL_append, ih (v / 256) (by rw [Nat.pow_succ] at hv; omega)]
    show v / 256 * 256 + (UInt8.ofNat (v % 256)).toNat = v
    rw [UInt8.toNat_ofNat']
    omega
theorem getN_put (k v : Nat) (hv : v < 256 ^ k) (r : Bs) : getN k (putN k v ++ r) = v := by
  rw [getN, List.take_append_of_le_length (by rw [putN_len]; omega), List.take_of_length_le (by rw [putN_len]; omega), getL_put k v hv]
theorem getL_lt (v : Nat) : ∀ b, getL v b < (v + 1) * 256 ^ b.length
  | [] => by simp [getL]
  | x :: b => by
    have h := getL_lt (v * 256 + x.toNat) b
    have hx : x.toNat < 256 := x.toNat_lt
    rw [getL, List.length_cons, Nat.pow_succ]
    refine Nat.lt_of_lt_of_le h ?_
    rw [Nat.mul_comm (256 ^ _) 256, ← Nat.mul_assoc]
    exact Nat.mul_le_mul_right _ (by omega)
theorem getN_lt (k : Nat) (b : Bs) : getN k b < 256 ^ k := by
  have h := getL_lt 0 (b.take k)
  refine Nat.lt_of_lt_of_le h ?_
  rw [Nat.zero_add, Nat.one_mul]
  exact Nat.pow_le_pow_right (by omega) (by rw [List.length_take]; omega)
theorem getN_take (k n : Nat) (b : Bs) (h : k ≤ n) : getN k (b.take n) = getN k b := by
  rw [getN, List.take_take, Nat.min_eq_left h]; rfl

section
variable (sumB : Bs → Nat)
/-- Bytes between their count and a sum. -/
def sealB (b : Bs) : Bs := (putN 4 b.length ++ b) ++ putN 4 (sumB (putN 4 b.length ++ b))
theorem sealB_len (b : Bs) : (sealB sumB b).length = b.length + 8 := by
  simp only [sealB, List.length_append, putN_len]; omega
/-- What was sealed, how many bytes it took, and an error. -/
def openB (b : Bs) : Bs × Nat × Int :=
  if b.length < 4 then ([], 0, 8) else if 1048576 < getN 4 b then ([], 0, 5) else if b.length < getN 4 b + 8 then ([], 0, 8)
  else if getN 4 (b.drop (4 + getN 4 b)) = sumB (b.take (4 + getN 4 b)) then ((b.take (4 + getN 4 b)).drop 4, 4 + getN 4 b + 4, 0) else ([], 0, 7)
theorem openB_bounds (b : Bs) : (openB sumB b).2.2 = 0 → 8 ≤ (openB sumB b).2.1 ∧ (openB sumB b).2.1 ≤ b.length := by
  unfold openB
  split
  · intro h; cases h
  · split
    · intro h; cases h
    · split
      · intro h; cases h
      · split
        · intro _; simp only; omega
        · intro h; cases h
theorem openB_take (b : Bs) : (openB sumB b).2.2 = 0 → (openB sumB b).1.length + 8 = (openB sumB b).2.1 := by
  unfold openB
  split
  · intro h; cases h
  · split
    · intro h; cases h
    · split
      · intro h; cases h
      · split
        · intro _; simp only [List.length_drop, List.length_take]; omega
        · intro h; cases h
theorem open_seal (hs : ∀ b, sumB b < 4294967296) (b r : Bs) (hb : b.length ≤ 1048576) : openB sumB (sealB sumB b ++ r) = (b, b.length + 8, 0) := by
  have hg : getN 4 (sealB sumB b ++ r) = b.length := by
    rw [sealB, List.append_assoc, List.append_assoc, getN_put 4 _ (by omega)]
  have hl := sealB_len sumB b
  have ht : (sealB sumB b ++ r).take (4 + b.length) = putN 4 b.length ++ b := by
    rw [sealB, List.append_assoc, List.take_append_of_le_length (by rw [List.length_append, putN_len]; omega), List.take_of_length_le (by rw [List.length_append, putN_len]; omega)]
  have hd : (sealB sumB b ++ r).drop (4 + b.length) = putN 4 (sumB (putN 4 b.length ++ b)) ++ r := by
    rw [sealB, List.append_assoc, List.drop_append, List.drop_of_length_le (by rw [List.length_append, putN_len]; omega), List.nil_append, List.length_append, putN_len, Nat.sub_self]
    rfl
  rw [openB, hg, ht, hd, getN_put 4 _ (by have := hs (putN 4 b.length ++ b); omega)]
  rw [if_neg (by rw [List.length_append]; omega), if_neg (by omega), if_neg (by rw [List.length_append]; omega), if_pos rfl]
  rw [List.drop_append, putN_len]
  simp [putN_len]
  omega
theorem open_torn (b : Bs) (hb : b.length ≤ 1048576) (k : Nat) (hk : k < b.length + 8) : (openB sumB ((sealB sumB b).take k)).2.2 ≠ 0 := by
  have hl := sealB_len sumB b
  have hlen : ((sealB sumB b).take k).length = k := by rw [List.length_take]; omega
  rw [openB, hlen]
  split
  · simp
  · rename_i h4
    have hg : getN 4 ((sealB sumB b).take k) = b.length := by
      rw [getN_take 4 k _ (by omega), sealB, List.append_assoc, getN_put 4 _ (by omega)]
    rw [hg, if_neg (by omega), if_pos (by omega)]
    simp
/-- All that was sealed, one behind the other; how many bytes they took. -/
def wholeB (b : Bs) : List Bs × Nat :=
  if _h : (openB sumB b).2.2 = 0 then ((openB sumB b).1 :: (wholeB (b.drop (openB sumB b).2.1)).1, (openB sumB b).2.1 + (wholeB (b.drop (openB sumB b).2.1)).2) else ([], 0)
termination_by b.length
decreasing_by all_goals (have := openB_bounds sumB b _h; rw [List.length_drop]; omega)
theorem wholeB_stop {b : Bs} (h : (openB sumB b).2.2 ≠ 0) : wholeB sumB b = ([], 0) := by rw [wholeB, dif_neg h]
theorem wholeB_go {b : Bs} (h : (openB sumB b).2.2 = 0) : wholeB sumB b = ((openB sumB b).1 :: (wholeB sumB (b.drop (openB sumB b).2.1)).1, (openB sumB b).2.1 + (wholeB sumB (b.drop (openB sumB b).2.1)).2) := by rw [wholeB, dif_pos h]
theorem wholeB_le (b : Bs) : (wholeB sumB b).2 ≤ b.length := by
  induction hn : b.length using Nat.strongRecOn generalizing b with
  | _ n ih =>
    by_cases h : (openB sumB b).2.2 = 0
    · rw [wholeB_go sumB h]
      have h1 := openB_bounds sumB b h
      have h2 := ih (b.drop (openB sumB b).2.1).length (by rw [List.length_drop]; omega) _ rfl
      rw [List.length_drop] at h2
      simp only
      omega
    · rw [wholeB_stop sumB h]
      exact Nat.zero_le _
/-- Records, each sealed, one behind the other. -/
def sealsB : List Bs → Bs
  | [] => []
  | b :: r => sealB sumB b ++ sealsB r
def sizeB (l : List Bs) : Nat := (sealsB sumB l).length
theorem sealsB_append (a b : List Bs) : sealsB sumB (a ++ b) = sealsB sumB a ++ sealsB sumB b := by
  induction a with
  | nil => rfl
  | cons x a ih => rw [List.cons_append, sealsB, sealsB, ih, List.append_assoc]
theorem whole_seals (hs : ∀ b, sumB b < 4294967296) (l : List Bs) (hl : ∀ b ∈ l, b.length ≤ 1048576) (t : Bs) : wholeB sumB (sealsB sumB l ++ t) = (l ++ (wholeB sumB t).1, sizeB sumB l + (wholeB sumB t).2) := by
  induction l with
  | nil => simp [sealsB, sizeB]
  | cons x l ih =>
    have ho := open_seal sumB hs x (sealsB sumB l ++ t) (hl x (by simp))
    have ih := ih fun b hb => hl b (List.mem_cons_of_mem _ hb)
    rw [sealsB, List.append_assoc, wholeB_go sumB (by rw [ho]), ho]
    have hd : (sealB sumB x ++ (sealsB sumB l ++ t)).drop (x.length + 8) = sealsB sumB l ++ t := by
      rw [← sealB_len sumB x, List.drop_left]
    simp only [hd, ih, sizeB, sealsB, List.length_append, sealB_len, List.cons_append]
    simp only [Nat.add_assoc]
theorem whole_all (hs : ∀ b, sumB b < 4294967296) (l : List Bs) (hl : ∀ b ∈ l, b.length ≤ 1048576) : wholeB sumB (sealsB sumB l) = (l, sizeB sumB l) := by
  have h := whole_seals sumB hs l hl []
  have h0 : wholeB sumB [] = ([], 0) := wholeB_stop sumB (by simp [openB])
  rw [List.append_nil, h0] at h
  simpa using h
/-- Of sealed records that were cut anywhere, those that are whole are told. -/
theorem whole_cut (hs : ∀ b, sumB b < 4294967296) (l : List Bs) (hl : ∀ b ∈ l, b.length ≤ 1048576) (n k : Nat) (hk : k ≤ l.length) (h1 : sizeB sumB (l.take k) ≤ n) (h2 : k < l.length → n < sizeB sumB (l.take (k + 1))) :
    wholeB sumB ((sealsB sumB l).take n) = (l.take k, sizeB sumB (l.take k)) := by
  have hsplit : sealsB sumB l = sealsB sumB (l.take k) ++ sealsB sumB (l.drop k) := by rw [← sealsB_append, List.take_append_drop]
  have hl' : ∀ b ∈ l.take k, b.length ≤ 1048576 := fun b hb => hl b (List.mem_of_mem_take hb)
  rw [hsplit, List.take_append, List.take_of_length_le (show (sealsB sumB (l.take k)).length ≤ n from h1), whole_seals sumB hs _ hl']
  have hz : wholeB sumB ((sealsB sumB (l.drop k)).take (n - (sealsB sumB (l.take k)).length)) = ([], 0) := by
    refine wholeB_stop sumB ?_
    by_cases hkl : k < l.length
    · have hd : l.drop k = l[k] :: l.drop (k + 1) := List.drop_eq_getElem_cons hkl
      have ht : l.take (k + 1) = l.take k ++ [l[k]] := List.take_succ_eq_append_getElem hkl
      have h2 := h2 hkl
      rw [ht, sizeB, sealsB_append, List.length_append] at h2
      have hx : (sealsB sumB [l[k]]).length = l[k].length + 8 := by
        rw [sealsB, sealsB, List.append_nil, sealB_len]
      rw [hx] at h2
      rw [hd, sealsB, List.take_append_of_le_length (by rw [sealB_len]; omega)]
      refine open_torn sumB _ (hl _ (List.getElem_mem hkl)) _ ?_
      omega
    · rw [List.drop_of_length_le (by omega), sealsB, List.take_nil]
      simp [openB]
  rw [hz]
  simp [sizeB]
/-- Whatever stands before the cut: some of the records, wholly. -/
theorem whole_prefix (hs : ∀ b, sumB b < 4294967296) (l : List Bs) (hl : ∀ b ∈ l, b.length ≤ 1048576) (n : Nat) : ∃ k, k ≤ l.length ∧ sizeB sumB (l.take k) ≤ n ∧ (k < l.length → n < sizeB sumB (l.take (k + 1))) ∧ wholeB sumB ((sealsB sumB l).take n) = (l.take k, sizeB sumB (l.take k)) := by
  have : ∃ k, k ≤ l.length ∧ sizeB sumB (l.take k) ≤ n ∧ (k < l.length → n < sizeB sumB (l.take (k + 1))) := by
    clear hl hs
    have : ∀ m, m ≤ l.length → sizeB sumB (l.take m) ≤ n → ∃ k, k ≤ l.length ∧ sizeB sumB (l.take k) ≤ n ∧ (k < l.length → n < sizeB sumB (l.take (k + 1))) := by
      intro m hm
      induction hd : l.length - m generalizing m with
      | zero => exact fun h => ⟨m, hm, h, fun h => by omega⟩
      | succ d ih =>
        intro h
        by_cases h2 : n < sizeB sumB (l.take (m + 1))
        · exact ⟨m, hm, h, fun _ => h2⟩
        · exact ih (m + 1) (by omega) (by omega) (by omega)
    exact this 0 (Nat.zero_le _) (by simp [sizeB, sealsB])
  obtain ⟨k, h1, h2, h3⟩ := this
  exact ⟨k, h1, h2, h3, whole_cut sumB hs l hl n k h1 h2 h3⟩
end
end Go.Proofs.YtgjdandnncjegaaGreatDoor

/- Contracts of word: Good, Get. -/
namespace Go.Proofs.YtgjdandnncjegaaGreatDoor
open Go Go.Proofs.YtgjdandnncjegaaGreatDoor.St

/-- The widths that may be, where the program keeps them. -/
def Wid (w : World) : Prop := w.cell? ⟨0, 0, none⟩ = some (.int .i64 1) ∧ w.cell? ⟨0, 1, none⟩ = some (.int .i64 2) ∧ w.cell? ⟨0, 2, none⟩ = some (.int .i64 4) ∧ w.cell? ⟨0, 3, none⟩ = some (.int .i64 8)
theorem Wid.mod {S : Nat → Prop} {w w' : World} (h : Wid w) (hm : Mod S w w') (hs : ¬ S 0) : Wid w' :=
  ⟨cell_mod hm h.1 hs, cell_mod hm h.2.1 hs, cell_mod hm h.2.2.1 hs, cell_mod hm h.2.2.2 hs⟩
theorem Wid.no {w w' : World} (h : Wid w) (hm : Mod no w w') : Wid w' := h.mod hm id

theorem index4 {P : Program} {t e : TypeId} {i : TypeInfo} (w : World) (hu : P.underlying t = some (.array 4 e)) (he : P.underlying e = some (.int .i64)) (hi : P.info? e = some i) (hs : i.size = 1) (a b c d : Int) (n : Nat) (hn : n < 4) :
    (Instr.index t (.agg #[.int .i64 a, .int .i64 b, .int .i64 c, .int .i64 d]) (.int .i64 n)).run P w = .ok (.int .i64 ([a, b, c, d].getD n 0)) w := by
  have ha : (isAgg e).run P w = .ok false w := by simp [isAgg, run_underlying' he]
  have h : n = 0 ∨ n = 1 ∨ n = 2 ∨ n = 3 := by omega
  rcases h with rfl | rfl | rfl | rfl
  all_goals simp [Instr.index, asIntOf, run_underlying' hu, Result.andThen, part, ha, sizeOf, typeInfo, hi, hs]

/-- May it be a width? -/
def wOk (n : Int) : Bool := n == 1 || n == 2 || n == 4 || n == 8
theorem good_width {w : World} (h : Wid w) (n : Int) (R : Value → World → Prop) (hR : R (.bool (wOk n)) w) : Ca Tryz.prog 82 #[.int .i64 n] w R := by
  refine ca82 n w R ?_
  refine ⟨1, h.1, 2, h.2.1, 4, h.2.2.1, 8, h.2.2.2, fun x w' => ∃ k : Nat, x = k ∧ k ≤ 4 ∧ w' = w ∧ ∀ j, j < k → [(1 : Int), 2, 4, 8].getD j 0 ≠ n, fun x _ => (4 - x).toNat, ⟨0, rfl, by omega, rfl, fun _ h => by omega⟩, ?_⟩
  rintro _ _ _ ⟨k, rfl, hk, rfl, hall⟩
  rename_i w
  refine ifK_dec (fun hlt => ?_) (fun hge => ?_)
  · refine ⟨_, _, index4 w Tryz.underlying121 Tryz.underlying3 (i := Tryz.t3) (by kernel_rfl) (by kernel_rfl) 1 2 4 8 k (by omega), _, rfl, ?_⟩
    have hk4 : k = 0 ∨ k = 1 ∨ k = 2 ∨ k = 3 := by omega
    refine ifK_of (fun he => ?_) (fun he => ?_)
    · have he : [(1 : Int), 2, 4, 8].getD k 0 = n := by simpa using he
      have : wOk n = true := by
        rcases hk4 with rfl | rfl | rfl | rfl <;> (simp at he; subst he; rfl)
      rwa [this] at hR
    · have he : [(1 : Int), 2, 4, 8].getD k 0 ≠ n := by simpa using he
      have e1 : IntKind.i64.wrap ((k : Int) + 1) = ((k + 1 : Nat) : Int) := by rw [wrap64 (by omega) (by omega)]; rfl
      rw [e1]
      refine ⟨⟨k + 1, rfl, by omega, rfl, fun j hj => ?_⟩, by show ((4 : Int) - ((k + 1 : Nat) : Int)).toNat < ((4 : Int) - (k : Int)).toNat; omega⟩
      by_cases hjk : j = k
      · subst hjk; exact he
      · exact hall j (by omega)
  · have h0 := hall 0 (by omega)
    have h1 := hall 1 (by omega)
    have h2 := hall 2 (by omega)
    have h3 := hall 3 (by omega)
    simp at h0 h1 h2 h3
    have : wOk n = false := by
      simp only [wOk, Bool.or_eq_false_iff, beq_eq_false_iff_ne]
      exact ⟨⟨⟨Ne.symm h0, Ne.symm h1⟩, Ne.symm h2⟩, Ne.symm h3⟩
    rwa [this] at hR
theorem orB (a b : Nat) (ha : a < 72057594037927936) (hb : b < 256) :
    IntKind.u64.wrap ((BitVec.ofInt 64 (IntKind.u64.wrap ((a : Int) * 2 ^ 8)) ||| BitVec.ofInt 64 (IntKind.u64.wrap (b : Int))).toNat : Int) = ((a * 256 + b : Nat) : Int) := by
  have e1 : IntKind.u64.wrap ((a : Int) * 2 ^ 8) = ((a * 256 : Nat) : Int) := by rw [IntKind.wrap_u64]; omega
  have e2 : IntKind.u64.wrap (b : Int) = (b : Int) := by rw [IntKind.wrap_u64]; omega
  have e3 : (BitVec.ofInt 64 ((a * 256 : Nat) : Int) ||| BitVec.ofInt 64 (b : Int)).toNat = a * 256 + b := by
    rw [BitVec.toNat_or, BitVec.ofInt_natCast, BitVec.ofInt_natCast, BitVec.toNat_ofNat, BitVec.toNat_ofNat, Nat.mod_eq_of_lt (by omega), Nat.mod_eq_of_lt (by omega)]
    have := Nat.two_pow_add_eq_or_of_lt (i := 8) (b := b) (by simpa using hb) a
    rw [Nat.mul_comm a 256]
    exact this.symm
  rw [e1, e2, e3, IntKind.wrap_u64]
  omega

theorem getL_snoc (v : Nat) (b : Bs) (x : UInt8) : getL v (b ++ [x]) = getL v b * 256 + x.toNat := by rw [getL_append]; rfl
theorem wOk_le {k : Nat} (h : wOk k = true) : 1 ≤ k ∧ k ≤ 8 := by
  simp only [wOk, Bool.or_eq_true, beq_iff_eq] at h
  omega
theorem get_ok {w : World} (h : Wid w) {ba : Option Addr} {bl bc : Nat} {bs : Bs} (hr : Rd w ba bl bc bs) (k : Nat) (hk : wOk k = true) (R : Value → World → Prop)
    (h1 : bl < k → R (.tuple #[.int .u64 0, .bool false]) w) (h2 : k ≤ bl → R (.tuple #[.int .u64 (getN k bs), .bool true]) w) : Ca Tryz.prog 67 #[.slice ba bl bc, .int .i64 k] w R := by
  obtain ⟨hk1, hk8⟩ := wOk_le hk
  have hbl := hr.len
  refine ca67 ba bl bc k w R ?_
  refine good_width h k _ ⟨_, rfl, ?_⟩
  rw [hk]
  refine (ifK_of (fun h => by cases h) (fun _ => ?_) : ifK false _ _)
  refine ifK_dec (fun hlt => h1 (by omega)) (fun hge => ?_)
  refine ⟨fun x y w' => ∃ i : Nat, y = i ∧ i ≤ k ∧ x = (getL 0 (bs.take i) : Nat) ∧ w' = w, fun _ y _ => (k - y).toNat, ⟨0, rfl, by omega, rfl, rfl⟩, ?_⟩
  rintro _ _ _ _ ⟨i, rfl, hi, rfl, rfl⟩
  rename_i w
  refine ifK_dec (fun hlt => ?_) (fun hge2 => ?_)
  · have hib : i < bs.length := by omega
    obtain ⟨ad, ha, hc⟩ := hr.get hib
    refine ⟨by omega, ad, ha, by omega, by omega, (bs[i].toNat : Int), by rw [Int.toNat_natCast]; exact hc, ?_⟩
    have hlt1 : getL 0 (bs.take i) < 72057594037927936 := by
      have h1 := getL_lt 0 (bs.take i)
      have h2 : (bs.take i).length ≤ 7 := by rw [List.length_take]; omega
      have h3 : 256 ^ (bs.take i).length ≤ 256 ^ 7 := Nat.pow_le_pow_right (by omega) h2
      have h4 : (256 : Nat) ^ 7 = 72057594037927936 := by decide
      omega
    rw [orB _ _ hlt1 bs[i].toNat_lt]
    have e1 : IntKind.i64.wrap ((i : Int) + 1) = ((i + 1 : Nat) : Int) := by rw [wrap64 (by omega) (by omega)]; rfl
    rw [e1]
    refine ⟨⟨i + 1, rfl, by omega, ?_, rfl⟩, by show ((k : Int) - ((i + 1 : Nat) : Int)).toNat < ((k : Int) - (i : Int)).toNat; omega⟩
    rw [List.take_succ_eq_append_getElem hib, getL_snoc]
  · have : i = k := by omega
    subst this
    exact h2 (by omega)
end Go.Proofs.YtgjdandnncjegaaGreatDoor

/- Rows that make makes. It names no program. -/
namespace Go.Proofs.YtgjdandnncjegaaGreatDoor.St
open Go

section
variable {α : Type} {L : Lay α}
theorem made_cells {z : Array Value} {x0 : α} (hz : z.toList = L.cs x0) (n : Nat) : (madeCells z (n * L.s)).toList = (List.replicate n x0).flatMap L.cs := by
  have hzs : z.size = L.s := by rw [← L.len x0, ← hz, Array.length_toList]
  apply List.ext_getElem
  · rw [Array.length_toList, size_madeCells, L.length, List.length_replicate]
  · intro k h1 h2
    rw [L.length, List.length_replicate] at h2
    have hd : k / L.s < n := (Nat.div_lt_iff_lt_mul L.pos).2 h2
    have hm : k % L.s < L.s := Nat.mod_lt _ L.pos
    have hk : k / L.s * L.s + k % L.s = k := Nat.div_add_mod' k L.s
    have hv : (L.cs x0)[k % L.s]? = some (z[k % L.s]'(by rw [hzs]; exact hm)) := by
      rw [← hz, Array.getElem?_toList, Array.getElem?_eq_getElem]
    have hr : (List.replicate n x0)[k / L.s]'(by simpa using hd) = x0 := List.getElem_replicate ..
    have := L.at (xs := List.replicate n x0) (i := k / L.s) (by simpa using hd) (j := k % L.s) (by rw [hr]; exact hv)
    rw [hk] at this
    have h3 := List.getElem?_eq_some_iff.1 this
    obtain ⟨_, h3⟩ := h3
    rw [h3]
    have h1' : k < (madeCells z (n * L.s)).size := by rwa [Array.length_toList] at h1
    rw [Array.getElem_toList]
    simp only [madeCells, Array.getElem_map, Array.getElem_range]
    have e : k % z.size = k % L.s := by rw [hzs]
    rw [e, getElem!_pos z (k % L.s) (by rw [hzs]; exact hm)]

/-- make([]T, n). -/
theorem row_make {P : Program} {w : World} {t e : TypeId} (ho : laidOk P t e L.s = true) {x0 : α} (h0 : ∀ z, (P.info? e).bind (·.zero) = some z → z.cells.toList = L.cs x0) (kl kc : IntKind) (n : Nat) (hn : n ≤ 1099511627776) :
    ∃ w', (Instr.makeSlice t (.int kl (n : Int)) (.int kc (n : Int))).run P w = .ok (.slice (some ⟨w.heap.size, 0, none⟩) n n) w' ∧ Row L e w' (some ⟨w.heap.size, 0, none⟩) n n (List.replicate n x0) ∧ Mod no w w' := by
  obtain ⟨ht, i, z, hi, hz, hsize, hby, hzs⟩ := laidOk_of ho
  have hb : (i.bytes : Int) * (n : Int) ≤ 281474976710656 := by
    have h1 : i.bytes * n ≤ 128 * 1099511627776 := Nat.mul_le_mul hby hn
    have h2 : ((i.bytes * n : Nat) : Int) ≤ ((128 * 1099511627776 : Nat) : Int) := by exact_mod_cast h1
    rw [Int.natCast_mul] at h2
    omega
  have hr := run_make (P := P) w t e i z ht hi hz kl kc n n (Int.natCast_nonneg n) (Int.le_refl _) hb (by omega)
  simp only [Int.toNat_natCast] at hr
  refine ⟨_, hr, ?_, Mod.alloc _ _⟩
  have hc := made_cells (L := L) (h0 z (by rw [hi]; exact hz)) n
  have := Row.lit L (new_at w (.cells (madeCells z.cells (n * i.size)) e)) (List.replicate n x0) (by rw [hsize]; exact hc) (by simp [maxLen]; omega)
  simpa using this

/-- A cell of an element is written, where its address stands. -/
theorem row_wr {w : World} {e : TypeId} {g l c : Nat} {xs : List α} (h : Row L e w (some ⟨g, 0, none⟩) l c xs) {x : Int} (i : Nat) (hx : x = i) (hi : i < xs.length) {j s : Nat} (hs : L.s = s) (hj : j < L.s) (v : Value) (y : α) (hy : L.cs y = (L.cs xs[i]).set j v) {K : World → Prop}
    (hk : ∀ w', Mod (on g) w w' → Row L e w' (some ⟨g, 0, none⟩) l c (xs.set i y) → K w') :
    (∃ u : Value, w.cell? (Addr.add (Addr.add ⟨g, 0, none⟩ (Int.toNat x * s)) j) = some u) ∧ w.frozen? (Addr.add (Addr.add ⟨g, 0, none⟩ (Int.toNat x * s)) j) = false ∧ atW (w.setCell (Addr.add (Addr.add ⟨g, 0, none⟩ (Int.toNat x * s)) j) v) K := by
  subst hx
  obtain ⟨g', hg', hu, hf, hm, hr⟩ := h.put hi hs hj v y hy
  injection hg' with hg'; injection hg' with hg'; subst hg'
  have e0 : Addr.add (Addr.add (Addr.add ⟨g, 0, none⟩ (i * s)) j) 0 = Addr.add (Addr.add ⟨g, 0, none⟩ (i * s)) j := by rw [add_lit, add_lit, add_lit]; rfl
  rw [e0] at hu hf hm hr
  refine ⟨hu, hf, fun w' e => ?_⟩
  subst e
  exact hk _ hm hr
end
end Go.Proofs.YtgjdandnncjegaaGreatDoor.St

/- Maps with keys of any kind that can be told apart (numbers, strings, pointers). It names no program. -/
namespace Go.Proofs.YtgjdandnncjegaaGreatDoor.St
open Go

section
variable {κ : Type} [BEq κ] [LawfulBEq κ]
/-- The entries, as they lie. -/
def kvL (kv : κ → Value) (L : List (κ × Value)) : List (Value × Value) := L.map fun p => (kv p.1, p.2)
/-- A key's place, and what stands there. -/
def posG (k : κ) : List (κ × Value) → Nat → Option (Nat × Value)
  | [], _ => none
  | p :: r, i => if k == p.1 then some (i, p.2) else posG k r (i + 1)

theorem posG_none {k : κ} : ∀ {L : List (κ × Value)} {i : Nat}, posG k L i = none ↔ k ∉ L.map (·.1)
  | [], i => by simp [posG]
  | p :: r, i => by
    simp only [posG]
    by_cases h : (k == p.1) = true
    · rw [if_pos h]; simp [eq_of_beq h]
    · rw [if_neg h, posG_none]
      have : ¬ k = p.1 := fun e => h (by rw [e]; exact beq_self_eq_true _)
      simp [this]
theorem posG_some {k : κ} {v : Value} {j : Nat} : ∀ {L : List (κ × Value)} {i : Nat}, posG k L i = some (j, v) → ∃ n, j = i + n ∧ ∃ h : n < L.length, L[n] = (k, v) ∧ ∀ m (h' : m < L.length), m < n → L[m].1 ≠ k
  | [], i, h => by simp [posG] at h
  | p :: r, i, h => by
    simp only [posG] at h
    by_cases hk : (k == p.1) = true
    · rw [if_pos hk] at h
      simp only [Option.some.injEq, Prod.mk.injEq] at h
      refine ⟨0, h.1.symm, by simp, ?_, fun m _ hm => by omega⟩
      rw [List.getElem_cons_zero, ← h.2, eq_of_beq hk]
    · rw [if_neg hk] at h
      obtain ⟨n, h1, h2, h3, h4⟩ := posG_some h
      refine ⟨n + 1, by omega, by simpa using h2, by simpa using h3, fun m h' hm => ?_⟩
      cases m with
      | zero => exact fun e => hk (by rw [← e]; exact beq_self_eq_true _)
      | succ m => simpa using h4 m (by simpa using h') (by omega)
/-- What a key has. -/
def getG (k : κ) (L : List (κ × Value)) : Option Value := (L.find? (fun p => k == p.1)).map (·.2)
omit [LawfulBEq κ] in
theorem posG_getG {k : κ} : ∀ {L : List (κ × Value)} {i : Nat}, (posG k L i).map (·.2) = getG k L
  | [], _ => rfl
  | p :: r, i => by
    simp only [posG, getG, List.find?_cons]
    cases h : (k == p.1) with
    | true => rfl
    | false => exact posG_getG (L := r) (i := i + 1)
/-- A key gets a value: where it stands, or at the end. -/
def setG (k : κ) (v : Value) : List (κ × Value) → List (κ × Value)
  | [] => [(k, v)]
  | p :: r => if k == p.1 then (k, v) :: r else p :: setG k v r
def delG (k : κ) : List (κ × Value) → List (κ × Value)
  | [] => []
  | p :: r => if k == p.1 then r else p :: delG k r
theorem posG_del {k : κ} {v : Value} {j : Nat} : ∀ {L : List (κ × Value)} {i : Nat}, posG k L i = some (j, v) → L.eraseIdx (j - i) = delG k L
  | [], i, h => by simp [posG] at h
  | p :: r, i, h => by
    simp only [posG] at h
    by_cases hk : (k == p.1) = true
    · rw [if_pos hk] at h
      simp only [Option.some.injEq, Prod.mk.injEq] at h
      rw [delG, if_pos hk, ← h.1, Nat.sub_self]; rfl
    · rw [if_neg hk] at h
      obtain ⟨n, h1, _⟩ := posG_some h
      have := posG_del h
      rw [delG, if_neg hk, show j - i = (j - (i + 1)) + 1 by omega, List.eraseIdx_cons_succ, this]
theorem delG_none {k : κ} : ∀ {L : List (κ × Value)}, k ∉ L.map (·.1) → delG k L = L
  | [], _ => rfl
  | p :: r, h => by
    simp only [List.map_cons, List.mem_cons, not_or] at h
    rw [delG, if_neg (fun e => h.1 (eq_of_beq e)), delG_none h.2]
theorem setG_none {k : κ} {v : Value} : ∀ {L : List (κ × Value)}, k ∉ L.map (·.1) → setG k v L = L ++ [(k, v)]
  | [], _ => rfl
  | p :: r, h => by
    simp only [List.map_cons, List.mem_cons, not_or] at h
    rw [setG, if_neg (fun e => h.1 (eq_of_beq e)), setG_none h.2]; rfl
theorem posG_set {k : κ} {v u : Value} {j : Nat} : ∀ {L : List (κ × Value)} {i : Nat}, posG k L i = some (j, u) → L.modify (j - i) (fun _ => (k, v)) = setG k v L
  | [], i, h => by simp [posG] at h
  | p :: r, i, h => by
    simp only [posG] at h
    by_cases hk : (k == p.1) = true
    · rw [if_pos hk] at h
      simp only [Option.some.injEq, Prod.mk.injEq] at h
      rw [setG, if_pos hk, ← h.1, Nat.sub_self]; rfl
    · rw [if_neg hk] at h
      obtain ⟨n, h1, _⟩ := posG_some h
      have := posG_set (v := v) h
      rw [setG, if_neg hk, show j - i = (j - (i + 1)) + 1 by omega, List.modify_succ_cons, this]
end

/-- Keys of the type kt are told apart as κ's are, where G holds. -/
structure Keys (P : Program) (kt : TypeId) {κ : Type} [BEq κ] (kv : κ → Value) (G : World → κ → Prop) : Prop where
  check : ∀ b k w, (Instr.checkKey b 10000 kt (kv k)).run P w = .ok () w
  find : ∀ k (L : List (κ × Value)) (es : List MapEntry) w, G w k → (∀ p ∈ L, G w p.1) → es.map (fun e => (e.key, e.val)) = kvL kv L → (Instr.findKey kt (kv k) es).run P w = .ok (posG k L 0) w
  stays : ∀ k w, (Instr.keyThatStays (kv k) (kv k)).run P w = .ok (kv k) w

instance : LawfulBEq ByteArray where
  eq_of_beq {a b} h := by
    cases a; cases b
    exact congrArg ByteArray.mk (eq_of_beq h)
  rfl {a} := by
    cases a
    exact beq_self_eq_true (α := Array UInt8) _

section
variable {P : Program} {kt : TypeId}
theorem find_string {k : ByteArray} : ∀ (es : List MapEntry) (L : List (ByteArray × Value)) (i : Nat), es.map (fun e => (e.key, e.val)) = kvL Value.string L → Instr.findNow .string (.string k) es i = some (posG k L i)
  | [], [], _, _ => rfl
  | [], _ :: _, _, h => by simp [kvL] at h
  | _ :: _, [], _, h => by simp [kvL] at h
  | e :: es, p :: L, i, h => by
    simp only [kvL, List.map_cons, List.cons.injEq, Prod.mk.injEq] at h
    obtain ⟨⟨hk, hv⟩, ht⟩ := h
    simp only [Instr.findNow, hk, Instr.sameNow]
    cases hb : (k == p.1) with
    | true => simp [posG, hb, hv]
    | false =>
      simp only [posG, hb]
      exact find_string es L (i + 1) ht
theorem keys_string (hk : P.underlying kt = some .string) : Keys P kt (κ := ByteArray) Value.string fun _ _ => True := by
  refine ⟨fun b k w => ?_, fun k L es w _ _ h => ?_, fun k w => ?_⟩
  · have h : ∀ n, (Instr.checkKey b (n + 1) kt (.string k)).run P w = .ok () w := by
      intro n
      simp [Instr.checkKey, run_underlying' hk, Result.andThen]
    exact h 9999
  · simp [Instr.findKey, run_underlying' hk, Result.andThen, find_string es L 0 h]
  · simp [Instr.keyThatStays, Instr.sameBits]

variable {κ : Type} [BEq κ] [LawfulBEq κ] {kv : κ → Value} {G : World → κ → Prop} {w : World} {t et : TypeId} {r : Nat} {L : List (κ × Value)}
omit [LawfulBEq κ] in
theorem lookup_k (K : Keys P kt kv G) (hu : P.underlying t = some (.map kt et)) {z : Value} (hz : ∀ w, (zeroValue et).run P w = .ok z w) (hm : MapAt w r (kvL kv L)) (k : κ) (hg : G w k) (hG : ∀ p ∈ L, G w p.1) (b : Bool) :
    (Instr.lookup t (.map (some r)) (kv k) b).run P w = .ok (match getG k L with | some v => if b then .tuple #[v, .bool true] else v | none => if b then .tuple #[z, .bool false] else z) w := by
  obtain ⟨es, clock, hb, he, _⟩ := hm
  have hf := K.find k L es.toList w hg hG he
  rw [← posG_getG (i := 0)]
  cases hp : posG k L 0 with
  | none => rw [hp] at hf; cases b <;> simp [Instr.lookup, run_underlying' hu, Result.andThen, MapKept.run_getObj_map hb, K.check, hf, hz]
  | some p => rw [hp] at hf; cases b <;> simp [Instr.lookup, run_underlying' hu, Result.andThen, MapKept.run_getObj_map hb, K.check, hf]
theorem update_k (K : Keys P kt kv G) (hu : P.underlying t = some (.map kt et)) (hm : MapAt w r (kvL kv L)) (k : κ) (hg : G w k) (hG : ∀ p ∈ L, G w p.1) (v : Value) :
    ∃ w', (Instr.mapUpdate t (.map (some r)) (kv k) v).run P w = .ok () w' ∧ Mod (on r) w w' ∧ MapAt w' r (kvL kv (setG k v L)) := by
  obtain ⟨es, clock, hb, he, hn, hc⟩ := hm
  have hf := K.find k L es.toList w hg hG he
  have hrun : ∀ (es' : Array MapEntry) (c : Nat), (setObj r (.map es' c)).run P w = .ok () (w.putObj r (.map es' c)) := by
    intro es' c; simp [setObj, Sem.run, World.putObj, hb]
  cases hp : posG k L 0 with
  | none =>
    rw [hp] at hf
    refine ⟨w.putObj r (.map (es.push { key := kv k, val := v, born := clock }) (clock + 1)), ?_, Mod.putObj w r _, ⟨_, _, put_at _ hb, ?_, ?_, ?_⟩⟩
    · simp [Instr.mapUpdate, run_underlying' hu, Result.andThen, MapKept.run_getObj_map hb, K.check, hf, hrun]
    · rw [setG_none (posG_none.1 hp)]
      simp [he, kvL]
    · simp only [Array.toList_push, List.map_append, List.map_cons, List.map_nil]
      rw [List.nodup_append]
      refine ⟨hn, by simp, ?_⟩
      intro a ha b hb' hab
      simp only [List.mem_cons, List.not_mem_nil, or_false] at hb'
      obtain ⟨e, he', rfl⟩ := List.mem_map.1 ha
      have := hc e he'
      omega
    · intro e h
      simp only [Array.toList_push, List.mem_append, List.mem_cons, List.not_mem_nil, or_false] at h
      rcases h with h | rfl
      · have := hc e h; omega
      · simp
  | some p =>
    obtain ⟨j, u⟩ := p
    rw [hp] at hf
    obtain ⟨n, hjn, hnl, hLn, _⟩ := posG_some hp
    have hjn : j = n := by omega
    subst hjn
    have hlen : es.size = L.length := by
      have := congrArg List.length he
      simpa [kvL] using this
    have hje : j < es.size := by omega
    have hkey : es[j].key = kv k := by
      have h1 : (es.toList.map fun e => (e.key, e.val))[j]? = some (es[j].key, es[j].val) := by simp [hje]
      rw [he, kvL, List.getElem?_map, List.getElem?_eq_getElem hnl, hLn] at h1
      simp only [Option.map_some, Option.some.injEq, Prod.mk.injEq] at h1
      exact h1.1.symm
    have hst := K.stays k w
    refine ⟨w.putObj r (.map (es.modify j fun e => { e with key := kv k, val := v }) clock), ?_, Mod.putObj w r _, ⟨_, _, put_at _ hb, ?_, ?_, ?_⟩⟩
    · simp [Instr.mapUpdate, run_underlying' hu, Result.andThen, MapKept.run_getObj_map hb, K.check, hf, hje, hkey, hst, hrun]
    · have h2 := posG_set (v := v) hp
      rw [Nat.sub_zero] at h2
      rw [← h2, kvL, Array.toList_modify]
      apply List.ext_getElem?
      intro m
      have h3 : (es.toList.map fun e => (e.key, e.val))[m]? = (kvL kv L)[m]? := by rw [he]
      simp only [kvL, List.getElem?_map] at h3
      simp only [List.getElem?_map, List.getElem?_modify]
      by_cases hmj : j = m
      · subst hmj
        simp [hje, hnl]
      · simp only [hmj, if_false]
        simpa using h3
    · have : (es.modify j fun e => { e with key := kv k, val := v }).toList.map (·.born) = es.toList.map (·.born) := by
        rw [Array.toList_modify]
        apply List.ext_getElem?
        intro m
        simp only [List.getElem?_map, List.getElem?_modify]
        by_cases hmj : j = m
        · subst hmj; simp [hje]
        · simp [hmj]
      rw [this]
      exact hn
    · intro e h
      rw [Array.toList_modify] at h
      obtain ⟨m, hm, rfl⟩ := List.getElem_of_mem h
      have hm' : m < es.toList.length := by simpa using hm
      rw [List.getElem_modify]
      split
      · exact hc es.toList[m] (List.getElem_mem hm')
      · exact hc es.toList[m] (List.getElem_mem hm')
theorem delete_k (K : Keys P kt kv G) {u ty : TypeId} (hu : P.underlying t = some (.map kt et)) (hm : MapAt w r (kvL kv L)) (k : κ) (hg : G w k) (hG : ∀ p ∈ L, G w p.1) :
    ∃ w', (Builtin.delete_ #[t, u] ty #[.map (some r), kv k]).run P w = .ok (.tuple #[]) w' ∧ Mod (on r) w w' ∧ MapAt w' r (kvL kv (delG k L)) := by
  obtain ⟨es, clock, hb, he, hn, hc⟩ := hm
  have hf := K.find k L es.toList w hg hG he
  have hrun : ∀ es' : Array MapEntry, (setObj r (.map es' clock)).run P w = .ok () (w.putObj r (.map es' clock)) := by
    intro es'; simp [setObj, Sem.run, World.putObj, hb]
  cases hp : posG k L 0 with
  | none =>
    rw [hp] at hf
    refine ⟨w.putObj r (.map es clock), ?_, Mod.putObj w r _, ⟨es, clock, put_at _ hb, by rw [delG_none (posG_none.1 hp)]; exact he, hn, hc⟩⟩
    simp [Builtin.delete_, run_underlying' hu, Result.andThen, MapKept.run_getObj_map hb, K.check, hf, hrun]
  | some p =>
    obtain ⟨j, v⟩ := p
    rw [hp] at hf
    refine ⟨w.putObj r (.map (es.eraseIdxIfInBounds j) clock), ?_, Mod.putObj w r _, ⟨es.eraseIdxIfInBounds j, clock, put_at _ hb, ?_, ?_, ?_⟩⟩
    · simp [Builtin.delete_, run_underlying' hu, Result.andThen, MapKept.run_getObj_map hb, K.check, hf, hrun]
    · have := posG_del hp
      rw [Nat.sub_zero] at this
      simp only [Array.toList_eraseIdxIfInBounds, ← eraseIdx_map', he, kvL]
      rw [← this, eraseIdx_map']
    · rw [Array.toList_eraseIdxIfInBounds, ← eraseIdx_map']; exact hn.eraseIdx _
    · intro e h
      rw [Array.toList_eraseIdxIfInBounds] at h
      exact hc e (List.mem_of_mem_eraseIdx h)
end
end Go.Proofs.YtgjdandnncjegaaGreatDoor.St

/- The formulas of functions, printed by a program of mine (gen.py) out of the translation. -/
namespace Go.Proofs.YtgjdandnncjegaaGreatDoor
open Go Go.Proofs.YtgjdandnncjegaaGreatDoor.St
open _root_.Go.Value (string int bool slice pointer agg tuple map func nilFunc iface)
open _root_.Go.World (cell? frozen? setCell alloc drew)
open _root_.Go.Addr (add)
open _root_.Go.Obj (cells)
open _root_.Go.IntKind (wrap i64 u64 i32 u32 u8)
set_option maxRecDepth 100000

/-- staith/store.New -/
noncomputable def C8 : Code := (Tryz.f8.body).getD .skip
def pl8 : Nat → Plan := fun _ => .done
def ls8 : Nat → List (Nat × LT) := fun _ => []
def W8 (room : Int) (w : World) (R : Value → World → Prop) : Prop :=
  (ifK (decide (room < 0))
(R (pointer none) (w))
(ifK (decide (room > 1073741824))
(R (pointer none) (w))
(atW (alloc w (Obj.map #[] 0)) (fun w0 =>
(atW (alloc w0 (Obj.map #[] 0)) (fun w1 =>
(atW (alloc w1 (cells (Array.mk [int i64 room, map (some (Array.size (World.heap w))), map (some (Array.size (World.heap w0))), bool false, int i64 0, int i64 0, int i64 0]) 64 (0, 0))) (fun w2 =>
(R (pointer (some (nw w1))) (w2))))))))))
theorem ca8 (room : Int) (w : World) (R : Value → World → Prop) (h : W8 room w R) : Ca Tryz.prog 8 ⟨[(.int .i64 room)]⟩ w R :=
  caB (fn := Tryz.f8) (pl := pl8) (ls := ls8) Tryz.func8 (by kernel_rfl) (by kernel_rfl) h

/-- staith/store.Good -/
noncomputable def C18 : Code := (Tryz.f18.body).getD .skip
def pl18 : Nat → Plan := fun _ => .done
def ls18 : Nat → List (Nat × LT)
  | 3 => [(10, (.one (.int .i64)))]
  | _ => []
def W18 (name : ByteArray) (w : World) (R : Value → World → Prop) : Prop :=
  (∃ v0 : Value, (∃ w1 : World, ((Sem.run Tryz.prog (convert 9 27 (string name)) w = Result.ok v0 w1) ∧ (∃ p2 : Option Addr, (∃ n3 : Nat, (∃ n4 : Nat, ((v0 = slice p2 n3 n4) ∧ (∃ z5 : Int → World → Prop, (∃ z6 : Int → World → Nat, ((z5 (0) (w1)) ∧ (∀ (_ : Nat → Value), (∀ (x8 : Int), (∀ (w9 : World), ((z5 (x8) (w9)) → (ifK (decide (x8 < (↑n3 : Int)))
(∃ a10 : Addr, ((p2 = some a10) ∧ (((0 : Int) ≤ x8) ∧ (((x8 : Int) < (↑n3 : Int)) ∧ (∃ x11 : Int, ((cell? w9 (add a10 (Int.toNat x8 * 1)) = some (int u8 x11)) ∧ (ifK (decide (97 ≤ x11))
(ifK (x11 == 46)
(ifK (!decide (x11 ≤ 122))
(ifK (x8 == 0)
(R (bool false) (w9))
((z5 (wrap i64 (x8 + 1)) (w9)) ∧ (z6 (wrap i64 (x8 + 1)) w9 < z6 x8 w9)))
((z5 (wrap i64 (x8 + 1)) (w9)) ∧ (z6 (wrap i64 (x8 + 1)) w9 < z6 x8 w9)))
(ifK (decide (48 ≤ x11))
(ifK (!decide (x11 ≤ 122))
(ifK (x8 == 0)
(R (bool false) (w9))
(ifK (!decide (x11 ≤ 57))
(R (bool false) (w9))
((z5 (wrap i64 (x8 + 1)) (w9)) ∧ (z6 (wrap i64 (x8 + 1)) w9 < z6 x8 w9))))
((z5 (wrap i64 (x8 + 1)) (w9)) ∧ (z6 (wrap i64 (x8 + 1)) w9 < z6 x8 w9)))
(ifK (!decide (x11 ≤ 122))
(ifK (x8 == 0)
(R (bool false) (w9))
(R (bool false) (w9)))
((z5 (wrap i64 (x8 + 1)) (w9)) ∧ (z6 (wrap i64 (x8 + 1)) w9 < z6 x8 w9)))))
(ifK (x11 == 46)
(ifK (x8 == 0)
(R (bool false) (w9))
((z5 (wrap i64 (x8 + 1)) (w9)) ∧ (z6 (wrap i64 (x8 + 1)) w9 < z6 x8 w9)))
(ifK (decide (48 ≤ x11))
(ifK (x8 == 0)
(R (bool false) (w9))
(ifK (!decide (x11 ≤ 57))
(R (bool false) (w9))
((z5 (wrap i64 (x8 + 1)) (w9)) ∧ (z6 (wrap i64 (x8 + 1)) w9 < z6 x8 w9))))
(ifK (x8 == 0)
(R (bool false) (w9))
(R (bool false) (w9))))))))))))
(ifK (!ByteArray.toList name == ByteArray.toList (ByteArray.mk #[]))
(R (bool (decide ((↑(ByteArray.size name) : Int) ≤ 30))) (w9))
(R (bool false) (w9))))))))))))))))))
theorem ca18 (name : ByteArray) (w : World) (R : Value → World → Prop) (h : W18 name w R) : Ca Tryz.prog 18 ⟨[(.string name)]⟩ w R :=
  caB (fn := Tryz.f18) (pl := pl18) (ls := ls18) Tryz.func18 (by kernel_rfl) (by kernel_rfl) h

/-- (*staith/store.Store).On -/
noncomputable def C25 : Code := (Tryz.f25.body).getD .skip
def pl25 : Nat → Plan := fun _ => .done
def ls25 : Nat → List (Nat × LT) := fun _ => []
def W25 (s : Option Addr) (w : World) (R : Value → World → Prop) : Prop :=
  (ifK (!Option.isNone s)
(onP (s) (fun a0 =>
(∃ p1 : Option Nat, ((cell? w (add a0 1) = some (map p1)) ∧ (ifK (!Option.isNone p1)
(onP (s) (fun a2 =>
(∃ b3 : Bool, ((cell? w (add a2 3) = some (bool b3)) ∧ (R (bool !b3) (w))))))
(R (bool false) (w)))))))
(R (bool false) (w)))
theorem ca25 (s : Option Addr) (w : World) (R : Value → World → Prop) (h : W25 s w R) : Ca Tryz.prog 25 ⟨[(.pointer s)]⟩ w R :=
  caB (fn := Tryz.f25) (pl := pl25) (ls := ls25) Tryz.func25 (by kernel_rfl) (by kernel_rfl) h

/-- (*staith/store.Store).power -/
noncomputable def C62 : Code := (Tryz.f62.body).getD .skip
def pl62 : Nat → Plan := fun _ => .done
def ls62 : Nat → List (Nat × LT) := fun _ => []
def W62 (s : Option Addr) (w : World) (R : Value → World → Prop) : Prop :=
  (ifK (Option.isNone s)
(R (int i64 1) (w))
(onP (s) (fun a0 =>
(∃ p1 : Option Nat, ((cell? w (add a0 1) = some (map p1)) ∧ (ifK (Option.isNone p1)
(R (int i64 1) (w))
(onP (s) (fun a2 =>
(∃ b3 : Bool, ((cell? w (add a2 3) = some (bool b3)) ∧ (ifK (b3)
(R (int i64 9) (w))
(R (int i64 0) (w)))))))))))))
theorem ca62 (s : Option Addr) (w : World) (R : Value → World → Prop) (h : W62 s w R) : Ca Tryz.prog 62 ⟨[(.pointer s)]⟩ w R :=
  caB (fn := Tryz.f62) (pl := pl62) (ls := ls62) Tryz.func62 (by kernel_rfl) (by kernel_rfl) h

/-- (*staith/store.Store).known -/
noncomputable def C48 : Code := (Tryz.f48.body).getD .skip
def pl48 : Nat → Plan := fun _ => .done
def ls48 : Nat → List (Nat × LT) := fun _ => []
def W48 (s : Option Addr) (name : ByteArray) (w : World) (R : Value → World → Prop) : Prop :=
  (Ca Tryz.prog (62) (Array.mk [pointer s]) (w) (fun v0 => (fun w1 =>
(∃ x2 : Int, ((v0 = int i64 x2) ∧ (ifK (x2 != 0)
(R (tuple (Array.mk [pointer none, int i64 x2])) (w1))
(Ca Tryz.prog (18) (Array.mk [string name]) (w1) (fun v3 => (fun w4 =>
(∃ b5 : Bool, ((v3 = bool b5) ∧ (ifK (!b5)
(R (tuple (Array.mk [pointer none, int i64 2])) (w4))
(onP (s) (fun a6 =>
(∃ p7 : Option Nat, ((cell? w4 (add a6 1) = some (map p7)) ∧ (∃ v8 : Value, (∃ w9 : World, ((Sem.run Tryz.prog (Instr.lookup 62 (map p7) (string name) false) w4 = Result.ok v8 w9) ∧ (∃ p10 : Option Addr, ((v8 = pointer p10) ∧ (ifK (Option.isNone p10)
(R (tuple (Array.mk [pointer none, int i64 3])) (w9))
(R (tuple (Array.mk [pointer p10, int i64 0])) (w9))))))))))))))))))))))))
theorem ca48 (s : Option Addr) (name : ByteArray) (w : World) (R : Value → World → Prop) (h : W48 s name w R) : Ca Tryz.prog 48 ⟨[(.pointer s), (.string name)]⟩ w R :=
  caB (fn := Tryz.f48) (pl := pl48) (ls := ls48) Tryz.func48 (by kernel_rfl) (by kernel_rfl) h

/-- (*staith/store.Store).counted -/
noncomputable def C49 : Code := (Tryz.f49.body).getD .skip
def pl49 : Nat → Plan := fun _ => .done
def ls49 : Nat → List (Nat × LT) := fun _ => []
def W49 (s : Option Addr) (does : Value) (w : World) (R : Value → World → Prop) : Prop :=
  (onP (s) (fun a0 =>
(∃ x1 : Int, ((cell? w (add a0 4) = some (int i64 x1)) ∧ (onP (s) (fun a2 =>
(st1 (add (add a2 4) 0) (int i64 (wrap i64 (x1 + 1))) w (fun w4 =>
(onP (s) (fun a5 =>
(∃ x6 : Int, ((cell? w4 (add a5 5) = some (int i64 x6)) ∧ (ifK (decide (x6 > 0))
(onP (s) (fun a7 =>
(∃ x8 : Int, ((cell? w4 (add a7 5) = some (int i64 x8)) ∧ (onP (s) (fun a9 =>
(st1 (add (add a9 5) 0) (int i64 (wrap i64 (x8 - 1))) w4 (fun w11 =>
(onP (s) (fun a12 =>
(∃ x13 : Int, ((cell? w11 (add a12 5) = some (int i64 x13)) ∧ (ifK (x13 == 0)
(onP (s) (fun a14 =>
(∃ x15 : Int, ((cell? w11 (add a14 6) = some (int i64 x15)) ∧ (Ca Tryz.prog (26) (Array.mk [pointer s, int i64 x15]) (w11) (fun v16 => (fun w17 =>
((v16 = tuple (Array.mk (List.reverse []))) ∧ (R (int i64 9) (w17))))))))))
(CaV Tryz.prog (does) (Array.mk []) (w11) (fun v18 => (fun w19 =>
((v18 = tuple (Array.mk (List.reverse []))) ∧ (R (int i64 0) (w19)))))))))))))))))))
(CaV Tryz.prog (does) (Array.mk []) (w4) (fun v20 => (fun w21 =>
((v20 = tuple (Array.mk (List.reverse []))) ∧ (R (int i64 0) (w21)))))))))))))))))))
theorem ca49 (s : Option Addr) (does : Value) (w : World) (R : Value → World → Prop) (h : W49 s does w R) : Ca Tryz.prog 49 ⟨[(.pointer s), does]⟩ w R :=
  caB (fn := Tryz.f49) (pl := pl49) (ls := ls49) Tryz.func49 (by kernel_rfl) (by kernel_rfl) h

/-- (*staith/store.Store).free -/
noncomputable def C74 : Code := (Tryz.f74.body).getD .skip
def pl74 : Nat → Plan := fun _ => .done
def ls74 : Nat → List (Nat × LT)
  | 4 => [(3, (.one (.int .i64)))]
  | _ => []
def W74 (s : Option Addr) (w : World) (R : Value → World → Prop) : Prop :=
  (onP (s) (fun a0 =>
(∃ x1 : Int, ((cell? w (add a0 0) = some (int i64 x1)) ∧ (onP (s) (fun a2 =>
(∃ p3 : Option Nat, ((cell? w (add a2 1) = some (map p3)) ∧ (rngM (p3) (w) (fun v4 => (fun w5 =>
(∃ z6 : Int → World → Prop, (∃ z7 : Int → World → Nat, ((z6 (x1) (w5)) ∧ (∀ (_ : Nat → Value), (∀ (x9 : Int), (∀ (w10 : World), ((z6 (x9) (w10)) → (nxtM Tryz.prog (0) (v4) (w10) (fun _ => (fun _ => (fun w13 =>
(∃ v14 : Value, (∃ v15 : Value, ((Sem.run Tryz.prog (Instr.entry v4) w13 = Result.ok (tuple #[v14, v15]) w13) ∧ (onPt (v15) (fun p16 =>
(onP (p16) (fun a17 =>
(∃ p18 : Option Addr, (∃ n19 : Nat, (∃ n20 : Nat, ((cell? w13 (add a17 0) = some (slice p18 n19 n20)) ∧ ((z6 (wrap i64 (x9 - wrap i64 (16 + (↑n19 : Int)))) (w13)) ∧ (z7 (wrap i64 (x9 - wrap i64 (16 + (↑n19 : Int)))) w13 < z7 x9 w10)))))))))))))))) (fun w21 =>
(R (int i64 x9) (w21))))))))))))))))))))))
theorem ca74 (s : Option Addr) (w : World) (R : Value → World → Prop) (h : W74 s w R) : Ca Tryz.prog 74 ⟨[(.pointer s)]⟩ w R :=
  caB (fn := Tryz.f74) (pl := pl74) (ls := ls74) Tryz.func74 (by kernel_rfl) (by kernel_rfl) h

/-- (*staith/store.Store).Make -/
noncomputable def C36 : Code := (Tryz.f36.body).getD .skip
def pl36 : Nat → Plan := fun _ => .done
def ls36 : Nat → List (Nat × LT) := fun _ => []
def W36 (s : Option Addr) (name : ByteArray) (w : World) (R : Value → World → Prop) : Prop :=
  (atW (alloc w (cells (Array.mk [pointer s]) 24 (0, 0))) (fun w0 =>
(atW (alloc w0 (cells (Array.mk [string name]) 9 (0, 0))) (fun w1 =>
(∃ p2 : Option Addr, ((cell? w1 (nw w) = some (pointer p2)) ∧ (∃ s3 : ByteArray, ((cell? w1 (nw w0) = some (string s3)) ∧ (Ca Tryz.prog (48) (Array.mk [pointer p2, string s3]) (w1) (fun v4 => (fun w5 =>
(∃ p6 : Option Addr, (∃ x7 : Int, ((v4 = tuple (Array.mk (List.reverse [int i64 x7, pointer p6]))) ∧ (ifK (x7 == 0)
(R (int i64 4) (w5))
(ifK (x7 != 3)
(R (int i64 x7) (w5))
(∃ p8 : Option Addr, ((cell? w5 (nw w) = some (pointer p8)) ∧ (Ca Tryz.prog (74) (Array.mk [pointer p8]) (w5) (fun v9 => (fun w10 =>
(∃ x11 : Int, ((v9 = int i64 x11) ∧ (ifK (decide (x11 < 16))
(R (int i64 6) (w10))
(∃ p12 : Option Addr, ((cell? w10 (nw w) = some (pointer p12)) ∧ (Ca Tryz.prog (49) (Array.mk [pointer p12, func (Fn.func 75) (Array.mk []) (Array.mk [pointer (some (nw w)), pointer (some (nw w0))])]) (w10) (fun v13 => (fun w14 =>
(∃ x15 : Int, ((v13 = int i64 x15) ∧ (R (int i64 x15) (w14)))))))))))))))))))))))))))))))))
theorem ca36 (s : Option Addr) (name : ByteArray) (w : World) (R : Value → World → Prop) (h : W36 s name w R) : Ca Tryz.prog 36 ⟨[(.pointer s), (.string name)]⟩ w R :=
  caB (fn := Tryz.f36) (pl := pl36) (ls := ls36) Tryz.func36 (by kernel_rfl) (by kernel_rfl) h

/-- (*staith/store.Store).Write -/
noncomputable def C44 : Code := (Tryz.f44.body).getD .skip
def pl44 : Nat → Plan
  | 4 => (.quiet 0 (.quiet 2 (.quiet 3 (.eff 1 [2] (.quiet 4 (.quiet 5 .done))))))
  | _ => .done
def ls44 : Nat → List (Nat × LT) := fun _ => []
def W44 (s : Option Addr) (name : ByteArray) (ba : Option Addr) (bl : Nat) (bc : Nat) (w : World) (R : Value → World → Prop) : Prop :=
  (atW (alloc w (cells (Array.mk [slice ba bl bc]) 27 (0, 0))) (fun w0 =>
(Ca Tryz.prog (48) (Array.mk [pointer s, string name]) (w0) (fun v1 => (fun w2 =>
(∃ p3 : Option Addr, (∃ x4 : Int, ((v1 = tuple (Array.mk (List.reverse [int i64 x4, pointer p3]))) ∧ (atW (alloc w2 (cells (Array.mk [pointer none]) 78 (0, 0))) (fun w5 =>
(st1 (add (nw w2) 0) (pointer p3) w5 (fun w7 =>
(ifK (x4 != 0)
(R (int i64 x4) (w7))
(atW (drew w7) (fun w8 =>
(∃ p9 : Option Addr, (∃ n10 : Nat, (∃ n11 : Nat, ((cell? w8 (nw w) = some (slice p9 n10 n11)) ∧ (Ca Tryz.prog (74) (Array.mk [pointer s]) (w8) (fun v12 => (fun w13 =>
(∃ x14 : Int, ((v12 = int i64 x14) ∧ ((cell? w13 (add (nw w) 0) = some (slice p9 n10 n11)) ∧ (ifK (decide (x14 < (↑n10 : Int)))
(R (int i64 6) (w13))
(Ca Tryz.prog (49) (Array.mk [pointer s, func (Fn.func 79) (Array.mk []) (Array.mk [pointer (some (nw w2)), pointer (some (nw w))])]) (w13) (fun v15 => (fun w16 =>
(∃ x17 : Int, ((v15 = int i64 x17) ∧ (R (int i64 x17) (w16)))))))))))))))))))))))))))))))))
theorem ca44 (s : Option Addr) (name : ByteArray) (ba : Option Addr) (bl : Nat) (bc : Nat) (w : World) (R : Value → World → Prop) (h : W44 s name ba bl bc w R) : Ca Tryz.prog 44 ⟨[(.pointer s), (.string name), (.slice ba bl bc)]⟩ w R :=
  caB (fn := Tryz.f44) (pl := pl44) (ls := ls44) Tryz.func44 (by kernel_rfl) (by kernel_rfl) h

/-- (*staith/store.Store).Cut -/
noncomputable def C14 : Code := (Tryz.f14.body).getD .skip
def pl14 : Nat → Plan
  | 4 => (.quiet 0 (.quiet 1 (.quiet 2 (.quiet 3 (.quiet 4 (.quiet 5 (.quiet 6 (.quiet 7 (.quiet 8 (.quiet 9 (.quiet 10 (.quiet 11 .done))))))))))))
  | _ => .done
def ls14 : Nat → List (Nat × LT) := fun _ => []
def W14 (s : Option Addr) (name : ByteArray) (n : Int) (w : World) (R : Value → World → Prop) : Prop :=
  (atW (alloc w (cells (Array.mk [int i64 n]) 3 (0, 0))) (fun w0 =>
(Ca Tryz.prog (48) (Array.mk [pointer s, string name]) (w0) (fun v1 => (fun w2 =>
(∃ p3 : Option Addr, (∃ x4 : Int, ((v1 = tuple (Array.mk (List.reverse [int i64 x4, pointer p3]))) ∧ (atW (alloc w2 (cells (Array.mk [pointer none]) 78 (0, 0))) (fun w5 =>
(st1 (add (nw w2) 0) (pointer p3) w5 (fun w7 =>
(ifK (x4 != 0)
(R (int i64 x4) (w7))
(atW (drew w7) (fun w8 =>
(∃ x9 : Int, ((cell? w8 (nw w) = some (int i64 x9)) ∧ (ifK (decide (x9 < 0))
(R (int i64 2) (w8))
(∃ x10 : Int, ((cell? w8 (nw w) = some (int i64 x10)) ∧ (∃ p11 : Option Addr, ((cell? w8 (nw w2) = some (pointer p11)) ∧ (onP (p11) (fun a12 =>
(∃ p13 : Option Addr, (∃ n14 : Nat, (∃ n15 : Nat, ((cell? w8 (add a12 0) = some (slice p13 n14 n15)) ∧ (ifK (decide (x10 > (↑n14 : Int)))
(R (int i64 2) (w8))
(Ca Tryz.prog (49) (Array.mk [pointer s, func (Fn.func 50) (Array.mk []) (Array.mk [pointer (some (nw w2)), pointer (some (nw w))])]) (w8) (fun v16 => (fun w17 =>
(∃ x18 : Int, ((v16 = int i64 x18) ∧ (R (int i64 x18) (w17))))))))))))))))))))))))))))))))))))
theorem ca14 (s : Option Addr) (name : ByteArray) (n : Int) (w : World) (R : Value → World → Prop) (h : W14 s name n w R) : Ca Tryz.prog 14 ⟨[(.pointer s), (.string name), (.int .i64 n)]⟩ w R :=
  caB (fn := Tryz.f14) (pl := pl14) (ls := ls14) Tryz.func14 (by kernel_rfl) (by kernel_rfl) h

/-- (*staith/store.Store).Sync -/
noncomputable def C34 : Code := (Tryz.f34.body).getD .skip
def pl34 : Nat → Plan := fun _ => .done
def ls34 : Nat → List (Nat × LT) := fun _ => []
def W34 (s : Option Addr) (name : ByteArray) (w : World) (R : Value → World → Prop) : Prop :=
  (Ca Tryz.prog (48) (Array.mk [pointer s, string name]) (w) (fun v0 => (fun w1 =>
(∃ p2 : Option Addr, (∃ x3 : Int, ((v0 = tuple (Array.mk (List.reverse [int i64 x3, pointer p2]))) ∧ (atW (alloc w1 (cells (Array.mk [pointer none]) 78 (0, 0))) (fun w4 =>
(st1 (add (nw w1) 0) (pointer p2) w4 (fun w6 =>
(ifK (x3 != 0)
(R (int i64 x3) (w6))
(Ca Tryz.prog (49) (Array.mk [pointer s, func (Fn.func 73) (Array.mk []) (Array.mk [pointer (some (nw w1))])]) (w6) (fun v7 => (fun w8 =>
(∃ x9 : Int, ((v7 = int i64 x9) ∧ (R (int i64 x9) (w8))))))))))))))))))
theorem ca34 (s : Option Addr) (name : ByteArray) (w : World) (R : Value → World → Prop) (h : W34 s name w R) : Ca Tryz.prog 34 ⟨[(.pointer s), (.string name)]⟩ w R :=
  caB (fn := Tryz.f34) (pl := pl34) (ls := ls34) Tryz.func34 (by kernel_rfl) (by kernel_rfl) h

/-- (*staith/store.Store).Move -/
noncomputable def C60 : Code := (Tryz.f60.body).getD .skip
def pl60 : Nat → Plan := fun _ => .done
def ls60 : Nat → List (Nat × LT) := fun _ => []
def W60 (s : Option Addr) (from_ : ByteArray) (to : ByteArray) (w : World) (R : Value → World → Prop) : Prop :=
  (atW (alloc w (cells (Array.mk [pointer s]) 24 (0, 0))) (fun w0 =>
(atW (alloc w0 (cells (Array.mk [string from_]) 9 (0, 0))) (fun w1 =>
(atW (alloc w1 (cells (Array.mk [string to]) 9 (0, 0))) (fun w2 =>
(∃ p3 : Option Addr, ((cell? w2 (nw w) = some (pointer p3)) ∧ (∃ s4 : ByteArray, ((cell? w2 (nw w0) = some (string s4)) ∧ (Ca Tryz.prog (48) (Array.mk [pointer p3, string s4]) (w2) (fun v5 => (fun w6 =>
(∃ p7 : Option Addr, (∃ x8 : Int, ((v5 = tuple (Array.mk (List.reverse [int i64 x8, pointer p7]))) ∧ (atW (alloc w6 (cells (Array.mk [pointer none]) 78 (0, 0))) (fun w9 =>
(st1 (add (nw w6) 0) (pointer p7) w9 (fun w11 =>
(ifK (x8 != 1)
(ifK (x8 != 9)
(∃ s12 : ByteArray, ((cell? w11 (nw w1) = some (string s12)) ∧ (Ca Tryz.prog (18) (Array.mk [string s12]) (w11) (fun v13 => (fun w14 =>
(∃ b15 : Bool, ((v13 = bool b15) ∧ (ifK (!b15)
(R (int i64 2) (w14))
(ifK (x8 != 0)
(R (int i64 x8) (w14))
(∃ p16 : Option Addr, ((cell? w14 (nw w) = some (pointer p16)) ∧ (Ca Tryz.prog (49) (Array.mk [pointer p16, func (Fn.func 84) (Array.mk []) (Array.mk [pointer (some (nw w)), pointer (some (nw w0)), pointer (some (nw w6)), pointer (some (nw w1))])]) (w14) (fun v17 => (fun w18 =>
(∃ x19 : Int, ((v17 = int i64 x19) ∧ (R (int i64 x19) (w18))))))))))))))))))
(ifK (x8 != 0)
(R (int i64 x8) (w11))
(∃ p20 : Option Addr, ((cell? w11 (nw w) = some (pointer p20)) ∧ (Ca Tryz.prog (49) (Array.mk [pointer p20, func (Fn.func 84) (Array.mk []) (Array.mk [pointer (some (nw w)), pointer (some (nw w0)), pointer (some (nw w6)), pointer (some (nw w1))])]) (w11) (fun v21 => (fun w22 =>
(∃ x23 : Int, ((v21 = int i64 x23) ∧ (R (int i64 x23) (w22)))))))))))
(ifK (x8 != 0)
(R (int i64 x8) (w11))
(∃ p24 : Option Addr, ((cell? w11 (nw w) = some (pointer p24)) ∧ (Ca Tryz.prog (49) (Array.mk [pointer p24, func (Fn.func 84) (Array.mk []) (Array.mk [pointer (some (nw w)), pointer (some (nw w0)), pointer (some (nw w6)), pointer (some (nw w1))])]) (w11) (fun v25 => (fun w26 =>
(∃ x27 : Int, ((v25 = int i64 x27) ∧ (R (int i64 x27) (w26)))))))))))))))))))))))))))))))
theorem ca60 (s : Option Addr) (from_ : ByteArray) (to : ByteArray) (w : World) (R : Value → World → Prop) (h : W60 s from_ to w R) : Ca Tryz.prog 60 ⟨[(.pointer s), (.string from_), (.string to)]⟩ w R :=
  caB (fn := Tryz.f60) (pl := pl60) (ls := ls60) Tryz.func60 (by kernel_rfl) (by kernel_rfl) h

/-- (*staith/store.Store).Drop -/
noncomputable def C54 : Code := (Tryz.f54.body).getD .skip
def pl54 : Nat → Plan := fun _ => .done
def ls54 : Nat → List (Nat × LT) := fun _ => []
def W54 (s : Option Addr) (name : ByteArray) (w : World) (R : Value → World → Prop) : Prop :=
  (atW (alloc w (cells (Array.mk [pointer s]) 24 (0, 0))) (fun w0 =>
(atW (alloc w0 (cells (Array.mk [string name]) 9 (0, 0))) (fun w1 =>
(∃ p2 : Option Addr, ((cell? w1 (nw w) = some (pointer p2)) ∧ (∃ s3 : ByteArray, ((cell? w1 (nw w0) = some (string s3)) ∧ (Ca Tryz.prog (48) (Array.mk [pointer p2, string s3]) (w1) (fun v4 => (fun w5 =>
(∃ p6 : Option Addr, (∃ x7 : Int, ((v4 = tuple (Array.mk (List.reverse [int i64 x7, pointer p6]))) ∧ (ifK (x7 != 0)
(R (int i64 x7) (w5))
(∃ p8 : Option Addr, ((cell? w5 (nw w) = some (pointer p8)) ∧ (Ca Tryz.prog (49) (Array.mk [pointer p8, func (Fn.func 83) (Array.mk []) (Array.mk [pointer (some (nw w)), pointer (some (nw w0))])]) (w5) (fun v9 => (fun w10 =>
(∃ x11 : Int, ((v9 = int i64 x11) ∧ (R (int i64 x11) (w10))))))))))))))))))))))))
theorem ca54 (s : Option Addr) (name : ByteArray) (w : World) (R : Value → World → Prop) (h : W54 s name w R) : Ca Tryz.prog 54 ⟨[(.pointer s), (.string name)]⟩ w R :=
  caB (fn := Tryz.f54) (pl := pl54) (ls := ls54) Tryz.func54 (by kernel_rfl) (by kernel_rfl) h

/-- (*staith/store.Store).Commit -/
noncomputable def C37 : Code := (Tryz.f37.body).getD .skip
def pl37 : Nat → Plan := fun _ => .done
def ls37 : Nat → List (Nat × LT) := fun _ => []
def W37 (s : Option Addr) (w : World) (R : Value → World → Prop) : Prop :=
  (atW (alloc w (cells (Array.mk [pointer s]) 24 (0, 0))) (fun w0 =>
(∃ p1 : Option Addr, ((cell? w0 (nw w) = some (pointer p1)) ∧ (Ca Tryz.prog (62) (Array.mk [pointer p1]) (w0) (fun v2 => (fun w3 =>
(∃ x4 : Int, ((v2 = int i64 x4) ∧ (ifK (x4 != 0)
(R (int i64 x4) (w3))
(∃ p5 : Option Addr, ((cell? w3 (nw w) = some (pointer p5)) ∧ (Ca Tryz.prog (49) (Array.mk [pointer p5, func (Fn.func 76) (Array.mk []) (Array.mk [pointer (some (nw w))])]) (w3) (fun v6 => (fun w7 =>
(∃ x8 : Int, ((v6 = int i64 x8) ∧ (R (int i64 x8) (w7)))))))))))))))))))
theorem ca37 (s : Option Addr) (w : World) (R : Value → World → Prop) (h : W37 s w R) : Ca Tryz.prog 37 ⟨[(.pointer s)]⟩ w R :=
  caB (fn := Tryz.f37) (pl := pl37) (ls := ls37) Tryz.func37 (by kernel_rfl) (by kernel_rfl) h

/-- (*staith/store.Store).Read -/
noncomputable def C15 : Code := (Tryz.f15.body).getD .skip
def pl15 : Nat → Plan := fun _ => .done
def ls15 : Nat → List (Nat × LT) := fun _ => []
def W15 (s : Option Addr) (name : ByteArray) (w : World) (R : Value → World → Prop) : Prop :=
  (Ca Tryz.prog (48) (Array.mk [pointer s, string name]) (w) (fun v0 => (fun w1 =>
(∃ p2 : Option Addr, (∃ x3 : Int, ((v0 = tuple (Array.mk (List.reverse [int i64 x3, pointer p2]))) ∧ (ifK (x3 != 0)
(R (tuple (Array.mk [slice none 0 0, int i64 x3])) (w1))
(onP (p2) (fun a4 =>
(∃ p5 : Option Addr, (∃ n6 : Nat, (∃ n7 : Nat, ((cell? w1 (add a4 0) = some (slice p5 n6 n7)) ∧ (Ca Tryz.prog (39) (Array.mk [slice p5 n6 n7]) (w1) (fun v8 => (fun w9 =>
(∃ p10 : Option Addr, (∃ n11 : Nat, (∃ n12 : Nat, ((v8 = slice p10 n11 n12) ∧ (R (tuple (Array.mk [slice p10 n11 n12, int i64 0])) (w9))))))))))))))))))))))
theorem ca15 (s : Option Addr) (name : ByteArray) (w : World) (R : Value → World → Prop) (h : W15 s name w R) : Ca Tryz.prog 15 ⟨[(.pointer s), (.string name)]⟩ w R :=
  caB (fn := Tryz.f15) (pl := pl15) (ls := ls15) Tryz.func15 (by kernel_rfl) (by kernel_rfl) h

/-- (*staith/store.Store).Names -/
noncomputable def C68 : Code := (Tryz.f68.body).getD .skip
def pl68 : Nat → Plan := fun _ => .done
def ls68 : Nat → List (Nat × LT) := fun _ => []
def W68 (s : Option Addr) (w : World) (R : Value → World → Prop) : Prop :=
  (Ca Tryz.prog (25) (Array.mk [pointer s]) (w) (fun v0 => (fun w1 =>
(∃ b2 : Bool, ((v0 = bool b2) ∧ (ifK (!b2)
(R (slice none 0 0) (w1))
(onP (s) (fun a3 =>
(∃ p4 : Option Nat, ((cell? w1 (add a3 1) = some (map p4)) ∧ (Ca Tryz.prog (88) (Array.mk [map p4]) (w1) (fun v5 => (fun w6 =>
(∃ v7 : Value, ((v5 = v7) ∧ (Ca Tryz.prog (87) (Array.mk [v7]) (w6) (fun v8 => (fun w9 =>
(∃ p10 : Option Addr, (∃ n11 : Nat, (∃ n12 : Nat, ((v8 = slice p10 n11 n12) ∧ (R (slice p10 n11 n12) (w9))))))))))))))))))))))))
theorem ca68 (s : Option Addr) (w : World) (R : Value → World → Prop) (h : W68 s w R) : Ca Tryz.prog 68 ⟨[(.pointer s)]⟩ w R :=
  caB (fn := Tryz.f68) (pl := pl68) (ls := ls68) Tryz.func68 (by kernel_rfl) (by kernel_rfl) h

/-- (*staith/store.Store).Plan -/
noncomputable def C24 : Code := (Tryz.f24.body).getD .skip
def pl24 : Nat → Plan := fun _ => .done
def ls24 : Nat → List (Nat × LT) := fun _ => []
def W24 (s : Option Addr) (n : Int) (keep : Int) (w : World) (R : Value → World → Prop) : Prop :=
  (Ca Tryz.prog (62) (Array.mk [pointer s]) (w) (fun v0 => (fun w1 =>
(∃ x2 : Int, ((v0 = int i64 x2) ∧ (ifK (x2 != 0)
(R (int i64 x2) (w1))
(ifK (decide (n < 0))
(R (int i64 2) (w1))
(onP (s) (fun a3 =>
(st1 (add (add a3 5) 0) (int i64 n) w1 (fun w5 =>
(onP (s) (fun a6 =>
(st1 (add (add a6 6) 0) (int i64 keep) w5 (fun w8 =>
(R (int i64 x2) (w8)))))))))))))))))
theorem ca24 (s : Option Addr) (n : Int) (keep : Int) (w : World) (R : Value → World → Prop) (h : W24 s n keep w R) : Ca Tryz.prog 24 ⟨[(.pointer s), (.int .i64 n), (.int .i64 keep)]⟩ w R :=
  caB (fn := Tryz.f24) (pl := pl24) (ls := ls24) Tryz.func24 (by kernel_rfl) (by kernel_rfl) h

/-- (*staith/store.Store).files -/
noncomputable def C63 : Code := (Tryz.f63.body).getD .skip
def pl63 : Nat → Plan := fun _ => .done
def ls63 : Nat → List (Nat × LT) := fun _ => []
def W63 (s : Option Addr) (w : World) (R : Value → World → Prop) : Prop :=
  (atW (alloc w (cells (Array.mk [pointer s]) 24 (0, 0))) (fun w0 =>
(R (func (Fn.func 85) (Array.mk []) (Array.mk [pointer (some (nw w))])) (w0))))
theorem ca63 (s : Option Addr) (w : World) (R : Value → World → Prop) (h : W63 s w R) : Ca Tryz.prog 63 ⟨[(.pointer s)]⟩ w R :=
  caB (fn := Tryz.f63) (pl := pl63) (ls := ls63) Tryz.func63 (by kernel_rfl) (by kernel_rfl) h

/-- (*staith/store.Store).Fail -/
noncomputable def C26 : Code := (Tryz.f26.body).getD .skip
def pl26 : Nat → Plan
  | 5 => (.quiet 0 (.quiet 1 (.quiet 2 (.quiet 3 (.quiet 4 (.quiet 5 (.quiet 6 (.quiet 7 (.quiet 8 (.quiet 9 (.quiet 10 (.quiet 11 (.quiet 12 (.quiet 13 (.quiet 14 (.quiet 15 (.quiet 16 (.quiet 17 (.eff 18 [] (.quiet 19 .done))))))))))))))))))))
  | 6 => (.quiet 0 (.quiet 1 (.quiet 2 (.quiet 3 (.quiet 4 (.quiet 5 (.quiet 6 (.quiet 7 (.quiet 8 (.quiet 9 (.quiet 10 (.quiet 11 (.quiet 12 (.quiet 13 (.quiet 14 (.quiet 15 (.quiet 16 (.quiet 17 (.quiet 18 (.quiet 19 (.eff 20 [] .done)))))))))))))))))))))
  | _ => .done
def ls26 : Nat → List (Nat × LT) := fun _ => []
def W26 (s : Option Addr) (keep : Int) (w : World) (R : Value → World → Prop) : Prop :=
  (atW (alloc w (cells (Array.mk [int i64 keep]) 3 (0, 0))) (fun w0 =>
(Ca Tryz.prog (25) (Array.mk [pointer s]) (w0) (fun v1 => (fun w2 =>
(∃ b3 : Bool, ((v1 = bool b3) ∧ (ifK (!b3)
(R (tuple (Array.mk (List.reverse []))) (w2))
(Ca Tryz.prog (63) (Array.mk [pointer s]) (w2) (fun v4 => (fun w5 =>
(∃ v6 : Value, ((v4 = v6) ∧ (rfW Tryz.prog (v6) (w5) (fun v7 => (fun w8 => (fun z9 => (fun z10 =>
(onPt (v7) (fun p11 =>
(z9 (fun w12 =>
(onP (p11) (fun a13 =>
(∃ p14 : Option Addr, (∃ n15 : Nat, (∃ n16 : Nat, ((cell? w12 (add a13 1) = some (slice p14 n15 n16)) ∧ (atW (drew w12) (fun w17 =>
(onP (p11) (fun a18 =>
(∃ p19 : Option Addr, (∃ n20 : Nat, (∃ n21 : Nat, ((cell? w17 (add a18 0) = some (slice p19 n20 n21)) ∧ (ifK (decide ((↑n20 : Int) ≥ (↑n15 : Int)))
(onP (p11) (fun a22 =>
(∃ p23 : Option Addr, (∃ n24 : Nat, (∃ n25 : Nat, ((cell? w17 (add a22 0) = some (slice p23 n24 n25)) ∧ (((0 : Int) ≤ 0) ∧ (((0 : Int) ≤ (↑n15 : Int)) ∧ ((((↑n15 : Int) : Int) ≤ (↑n25 : Int)) ∧ (onP (p11) (fun a26 =>
(∃ p27 : Option Addr, (∃ n28 : Nat, (∃ n29 : Nat, ((cell? w17 (add a26 1) = some (slice p27 n28 n29)) ∧ (Ca Tryz.prog (64) (Array.mk [slice (if n25 = 0 then p23 else Option.map (fun x => add x 0) p23) (Int.toNat (↑n15 : Int) - 0) (n25 - 0), slice p27 n28 n29]) (w17) (fun v30 => (fun w31 =>
(∃ b32 : Bool, ((v30 = bool b32) ∧ (ifK (b32)
(atW (drew w31) (fun w33 =>
(onP (p11) (fun a34 =>
(∃ p35 : Option Addr, (∃ n36 : Nat, (∃ n37 : Nat, ((cell? w33 (add a34 0) = some (slice p35 n36 n37)) ∧ (∃ x38 : Int, ((cell? w33 (nw w) = some (int i64 x38)) ∧ (onP (p11) (fun a39 =>
(∃ p40 : Option Addr, (∃ n41 : Nat, (∃ n42 : Nat, ((cell? w33 (add a39 0) = some (slice p40 n41 n42)) ∧ (((0 : Int) ≤ 0) ∧ (((0 : Int) ≤ wrap i64 ((↑n15 : Int) + if wrap i64 ((↑n41 : Int) - (↑n15 : Int)) < if 0 > x38 then 0 else x38 then wrap i64 ((↑n41 : Int) - (↑n15 : Int)) else if 0 > x38 then 0 else x38)) ∧ (((wrap i64 ((↑n15 : Int) + if wrap i64 ((↑n41 : Int) - (↑n15 : Int)) < if 0 > x38 then 0 else x38 then wrap i64 ((↑n41 : Int) - (↑n15 : Int)) else if 0 > x38 then 0 else x38) : Int) ≤ (↑n37 : Int)) ∧ (onP (p11) (fun a43 =>
((∃ v44 : Value, (cell? w33 (add (add a43 1) 0) = some v44)) ∧ ((frozen? w33 (add (add a43 1) 0) = false) ∧ (atW (setCell w33 (add (add a43 1) 0) (slice (if n37 = 0 then p35 else Option.map (fun x => add x 0) p35) (Int.toNat (wrap i64 ((↑n15 : Int) + if wrap i64 ((↑n41 : Int) - (↑n15 : Int)) < if 0 > x38 then 0 else x38 then wrap i64 ((↑n41 : Int) - (↑n15 : Int)) else if 0 > x38 then 0 else x38)) - 0) (n37 - 0))) (fun w45 =>
(onP (p11) (fun a46 =>
(∃ p47 : Option Addr, (∃ n48 : Nat, (∃ n49 : Nat, ((cell? w45 (add a46 1) = some (slice p47 n48 n49)) ∧ (onP (p11) (fun a50 =>
(st1 (add (add a50 0) 0) (slice p47 n48 n49) w45 (fun w52 =>
(z10 (w52)))))))))))))))))))))))))))))))))))))
(onP (p11) (fun a53 =>
(∃ p54 : Option Addr, (∃ n55 : Nat, (∃ n56 : Nat, ((cell? w31 (add a53 1) = some (slice p54 n55 n56)) ∧ (onP (p11) (fun a57 =>
(st1 (add (add a57 0) 0) (slice p54 n55 n56) w31 (fun w59 =>
(z10 (w59)))))))))))))))))))))))))))))))))
(onP (p11) (fun a60 =>
(∃ p61 : Option Addr, (∃ n62 : Nat, (∃ n63 : Nat, ((cell? w17 (add a60 1) = some (slice p61 n62 n63)) ∧ (onP (p11) (fun a64 =>
(st1 (add (add a64 0) 0) (slice p61 n62 n63) w17 (fun w66 =>
(z10 (w66)))))))))))))))))))))))))))) (w8)))))))) (fun w67 =>
(onP (s) (fun a68 =>
(∃ p69 : Option Nat, ((cell? w67 (add a68 2) = some (map p69)) ∧ (Ca Tryz.prog (65) (Array.mk [map p69]) (w67) (fun v70 => (fun w71 =>
(∃ p72 : Option Nat, ((v70 = map p72) ∧ (onP (s) (fun a73 =>
(st1 (add (add a73 1) 0) (map p72) w71 (fun w75 =>
(onP (s) (fun a76 =>
(st1 (add (add a76 3) 0) (bool true) w75 (fun w78 =>
(((World.heap w78)[Array.size (World.heap w5)]? = some (Obj.deferred (some []))) ∧ (atW (World.putObj w78 (Array.size (World.heap w5)) (Obj.deferred none)) (fun w79 =>
(R (tuple (Array.mk (List.reverse []))) (w79)))))))))))))))))))))))))))))))))))))
theorem ca26 (s : Option Addr) (keep : Int) (w : World) (R : Value → World → Prop) (h : W26 s keep w R) : Ca Tryz.prog 26 ⟨[(.pointer s), (.int .i64 keep)]⟩ w R :=
  caB (fn := Tryz.f26) (pl := pl26) (ls := ls26) Tryz.func26 (by kernel_rfl) (by kernel_rfl) h

/-- (*staith/store.Store).Power -/
noncomputable def C27 : Code := (Tryz.f27.body).getD .skip
def pl27 : Nat → Plan := fun _ => .done
def ls27 : Nat → List (Nat × LT) := fun _ => []
def W27 (s : Option Addr) (w : World) (R : Value → World → Prop) : Prop :=
  (ifK (!Option.isNone s)
(onP (s) (fun a0 =>
(∃ p1 : Option Nat, ((cell? w (add a0 1) = some (map p1)) ∧ (ifK (!Option.isNone p1)
(onP (s) (fun a2 =>
(st1 (add (add a2 3) 0) (bool false) w (fun w4 =>
(onP (s) (fun a5 =>
(st1 (add (add a5 5) 0) (int i64 0) w4 (fun w7 =>
(R (tuple (Array.mk (List.reverse []))) (w7))))))))))
(R (tuple (Array.mk (List.reverse []))) (w)))))))
(R (tuple (Array.mk (List.reverse []))) (w)))
theorem ca27 (s : Option Addr) (w : World) (R : Value → World → Prop) (h : W27 s w R) : Ca Tryz.prog 27 ⟨[(.pointer s)]⟩ w R :=
  caB (fn := Tryz.f27) (pl := pl27) (ls := ls27) Tryz.func27 (by kernel_rfl) (by kernel_rfl) h

/-- (*staith/store.Store).files$1 -/
noncomputable def C85 : Code := (Tryz.f85.body).getD .skip
def pl85 : Nat → Plan
  | 1 => (.quiet 0 (.quiet 1 (.quiet 2 (.quiet 3 (.quiet 4 (.quiet 5 (.quiet 6 (.quiet 7 (.quiet 8 (.quiet 9 .done))))))))))
  | _ => .done
def ls85 : Nat → List (Nat × LT)
  | 2 => [(18, (.one (.int .i64)))]
  | 8 => []
  | _ => []
def W85 (yield : Value) (c0 : Option Addr) (w : World) (R : Value → World → Prop) : Prop :=
  (atW (alloc w (Obj.map #[] 0)) (fun w0 =>
(atW (drew w0) (fun w1 =>
(onP (c0) (fun a2 =>
(∃ p3 : Option Addr, ((cell? w1 a2 = some (pointer p3)) ∧ (onP (p3) (fun a4 =>
(∃ p5 : Option Nat, ((cell? w1 (add a4 1) = some (map p5)) ∧ (onP (c0) (fun a6 =>
(∃ p7 : Option Addr, ((cell? w1 a6 = some (pointer p7)) ∧ (onP (p7) (fun a8 =>
(∃ p9 : Option Nat, ((cell? w1 (add a8 2) = some (map p9)) ∧ (∃ z10 : Int → World → Prop, (∃ z11 : Int → World → Nat, ((z10 (0) (w1)) ∧ (∀ (_ : Nat → Value), (∀ (x13 : Int), (∀ (w14 : World), ((z10 (x13) (w14)) → (ifK (decide (x13 < 2))
(∃ v15 : Value, (∃ w16 : World, ((Sem.run Tryz.prog (Instr.index 109 (agg (Array.mk [map p5, map p9])) (int i64 x13)) w14 = Result.ok v15 w16) ∧ (∃ p17 : Option Nat, ((v15 = map p17) ∧ (rngM (p17) (w16) (fun v18 => (fun w19 =>
(∃ z20 : World → Prop, (∃ z21 : World → Nat, ((z20 (w19)) ∧ (∀ (_ : Nat → Value), (∀ (w23 : World), ((z20 (w23)) → (nxtM Tryz.prog (0) (v18) (w23) (fun _ => (fun _ => (fun w26 =>
(∃ v27 : Value, (∃ v28 : Value, ((Sem.run Tryz.prog (Instr.entry v18) w26 = Result.ok (tuple #[v27, v28]) w26) ∧ (onPt (v28) (fun p29 =>
(∃ v30 : Value, (∃ w31 : World, ((Sem.run Tryz.prog (Instr.lookup 108 (map (some (Array.size (World.heap w)))) (pointer p29) false) w26 = Result.ok v30 w31) ∧ (∃ b32 : Bool, ((v30 = bool b32) ∧ (ifK (!b32)
(CaV Tryz.prog (yield) (Array.mk [pointer p29]) (w31) (fun v33 => (fun w34 =>
(∃ b35 : Bool, ((v33 = bool b35) ∧ (ifK (!b35)
(R (tuple (Array.mk (List.reverse []))) (w34))
(∃ w36 : World, ((Sem.run Tryz.prog (Instr.mapUpdate 108 (map (some (Array.size (World.heap w)))) (pointer p29) (bool true)) w34 = Result.ok () w36) ∧ ((z20 (w36)) ∧ (z21 w36 < z21 w23))))))))))
(∃ w37 : World, ((Sem.run Tryz.prog (Instr.mapUpdate 108 (map (some (Array.size (World.heap w)))) (pointer p29) (bool true)) w31 = Result.ok () w37) ∧ ((z20 (w37)) ∧ (z21 w37 < z21 w23)))))))))))))))))) (fun w38 =>
((z10 (wrap i64 (x13 + 1)) (w38)) ∧ (z11 (wrap i64 (x13 + 1)) w38 < z11 x13 w14))))))))))))))))))
(R (tuple (Array.mk (List.reverse []))) (w14))))))))))))))))))))))))))))))
theorem ca85 (yield : Value) (c0 : Option Addr) (w : World) (R : Value → World → Prop) (h : W85 yield c0 w R) : Ca Tryz.prog 85 ⟨[yield, (.pointer c0)]⟩ w R :=
  caB (fn := Tryz.f85) (pl := pl85) (ls := ls85) Tryz.func85 (by kernel_rfl) (by kernel_rfl) h

/-- (*staith/store.Store).Make$1 -/
noncomputable def C75 : Code := (Tryz.f75.body).getD .skip
def pl75 : Nat → Plan
  | 0 => (.quiet 0 (.quiet 1 (.quiet 2 (.quiet 3 (.quiet 4 (.quiet 5 (.eff 6 [0, 3, 4] (.eff 7 [] .done))))))))
  | _ => .done
def ls75 : Nat → List (Nat × LT) := fun _ => []
def W75 (c0 : Option Addr) (c1 : Option Addr) (w : World) (R : Value → World → Prop) : Prop :=
  (atW (drew w) (fun w0 =>
(onP (c0) (fun a1 =>
(∃ p2 : Option Addr, ((cell? w0 a1 = some (pointer p2)) ∧ (onP (p2) (fun a3 =>
(∃ p4 : Option Nat, ((cell? w0 (add a3 1) = some (map p4)) ∧ (onP (c1) (fun a5 =>
(∃ s6 : ByteArray, ((cell? w0 a5 = some (string s6)) ∧ (atW (alloc w0 (cells (Array.mk [slice none 0 0, slice none 0 0]) 82 (0, 0))) (fun w7 =>
(onP (c0) (fun a8 =>
((cell? w7 (add a8 0) = some (pointer p2)) ∧ ((cell? w7 (add (add a3 1) 0) = some (map p4)) ∧ (onP (c1) (fun a9 =>
((cell? w7 (add a9 0) = some (string s6)) ∧ (∃ w10 : World, ((Sem.run Tryz.prog (Instr.mapUpdate 62 (map p4) (string s6) (pointer (some (nw w0)))) w7 = Result.ok () w10) ∧ (R (tuple (Array.mk (List.reverse []))) (w10)))))))))))))))))))))))))))
theorem ca75 (c0 : Option Addr) (c1 : Option Addr) (w : World) (R : Value → World → Prop) (h : W75 c0 c1 w R) : Ca Tryz.prog 75 ⟨[(.pointer c0), (.pointer c1)]⟩ w R :=
  caB (fn := Tryz.f75) (pl := pl75) (ls := ls75) Tryz.func75 (by kernel_rfl) (by kernel_rfl) h

/-- (*staith/store.Store).Write$1 -/
noncomputable def C79 : Code := (Tryz.f79.body).getD .skip
def pl79 : Nat → Plan
  | 0 => (.quiet 0 (.quiet 1 (.quiet 2 (.quiet 3 (.quiet 4 (.quiet 5 (.eff 6 [0] (.eff 7 [0] (.quiet 8 (.quiet 9 (.eff 10 [] .done)))))))))))
  | _ => .done
def ls79 : Nat → List (Nat × LT) := fun _ => []
def W79 (c0 : Option Addr) (c1 : Option Addr) (w : World) (R : Value → World → Prop) : Prop :=
  (atW (drew w) (fun w0 =>
(onP (c0) (fun a1 =>
(∃ p2 : Option Addr, ((cell? w0 a1 = some (pointer p2)) ∧ (onP (c0) (fun a3 =>
(∃ p4 : Option Addr, ((cell? w0 a3 = some (pointer p4)) ∧ (onP (p4) (fun a5 =>
(∃ p6 : Option Addr, (∃ n7 : Nat, (∃ n8 : Nat, ((cell? w0 (add a5 0) = some (slice p6 n7 n8)) ∧ (onP (c1) (fun a9 =>
(∃ p10 : Option Addr, (∃ n11 : Nat, (∃ n12 : Nat, ((cell? w0 a9 = some (slice p10 n11 n12)) ∧ (atW (alloc w0 (cells (Array.mk [slice p6 n7 n8, slice p10 n11 n12]) 27 (0, 0))) (fun w13 =>
(onP (c0) (fun a14 =>
((cell? w13 (add a14 0) = some (pointer p2)) ∧ (Ca Tryz.prog (80) (Array.mk [slice (some (nw w0)) 2 2]) (w13) (fun v15 => (fun w16 =>
(∃ p17 : Option Addr, (∃ n18 : Nat, (∃ n19 : Nat, ((v15 = slice p17 n18 n19) ∧ (onP (c0) (fun a20 =>
((cell? w16 (add a20 0) = some (pointer p2)) ∧ (onP (p2) (fun a21 =>
(st1 (add (add a21 0) 0) (slice p17 n18 n19) w16 (fun w23 =>
(R (tuple (Array.mk (List.reverse []))) (w23)))))))))))))))))))))))))))))))))))))))))))
theorem ca79 (c0 : Option Addr) (c1 : Option Addr) (w : World) (R : Value → World → Prop) (h : W79 c0 c1 w R) : Ca Tryz.prog 79 ⟨[(.pointer c0), (.pointer c1)]⟩ w R :=
  caB (fn := Tryz.f79) (pl := pl79) (ls := ls79) Tryz.func79 (by kernel_rfl) (by kernel_rfl) h

/-- (*staith/store.Store).Cut$1 -/
noncomputable def C50 : Code := (Tryz.f50.body).getD .skip
def pl50 : Nat → Plan
  | 0 => (.quiet 0 (.quiet 1 (.quiet 2 (.quiet 3 (.quiet 4 (.quiet 5 (.quiet 6 (.eff 7 [0] (.quiet 8 (.quiet 9 (.eff 10 [] .done)))))))))))
  | _ => .done
def ls50 : Nat → List (Nat × LT) := fun _ => []
def W50 (c0 : Option Addr) (c1 : Option Addr) (w : World) (R : Value → World → Prop) : Prop :=
  (atW (drew w) (fun w0 =>
(onP (c0) (fun a1 =>
(∃ p2 : Option Addr, ((cell? w0 a1 = some (pointer p2)) ∧ (onP (c0) (fun a3 =>
(∃ p4 : Option Addr, ((cell? w0 a3 = some (pointer p4)) ∧ (onP (p4) (fun a5 =>
(∃ p6 : Option Addr, (∃ n7 : Nat, (∃ n8 : Nat, ((cell? w0 (add a5 0) = some (slice p6 n7 n8)) ∧ (onP (c1) (fun a9 =>
(∃ x10 : Int, ((cell? w0 a9 = some (int i64 x10)) ∧ (((0 : Int) ≤ 0) ∧ (((0 : Int) ≤ x10) ∧ (((x10 : Int) ≤ (↑n8 : Int)) ∧ (Ca Tryz.prog (39) (Array.mk [slice (if n8 = 0 then p6 else Option.map (fun x => add x 0) p6) (Int.toNat x10 - 0) (n8 - 0)]) (w0) (fun v11 => (fun w12 =>
(∃ p13 : Option Addr, (∃ n14 : Nat, (∃ n15 : Nat, ((v11 = slice p13 n14 n15) ∧ (onP (c0) (fun a16 =>
((cell? w12 (add a16 0) = some (pointer p2)) ∧ (onP (p2) (fun a17 =>
(st1 (add (add a17 0) 0) (slice p13 n14 n15) w12 (fun w19 =>
(R (tuple (Array.mk (List.reverse []))) (w19)))))))))))))))))))))))))))))))))))))))
theorem ca50 (c0 : Option Addr) (c1 : Option Addr) (w : World) (R : Value → World → Prop) (h : W50 c0 c1 w R) : Ca Tryz.prog 50 ⟨[(.pointer c0), (.pointer c1)]⟩ w R :=
  caB (fn := Tryz.f50) (pl := pl50) (ls := ls50) Tryz.func50 (by kernel_rfl) (by kernel_rfl) h

/-- (*staith/store.Store).Sync$1 -/
noncomputable def C73 : Code := (Tryz.f73.body).getD .skip
def pl73 : Nat → Plan
  | 0 => (.quiet 0 (.quiet 1 (.quiet 2 (.quiet 3 (.quiet 4 (.quiet 5 (.quiet 6 (.eff 7 [] .done))))))))
  | _ => .done
def ls73 : Nat → List (Nat × LT) := fun _ => []
def W73 (c0 : Option Addr) (w : World) (R : Value → World → Prop) : Prop :=
  (atW (drew w) (fun w0 =>
(onP (c0) (fun a1 =>
(∃ p2 : Option Addr, ((cell? w0 a1 = some (pointer p2)) ∧ (onP (c0) (fun a3 =>
(∃ p4 : Option Addr, ((cell? w0 a3 = some (pointer p4)) ∧ (onP (p4) (fun a5 =>
(∃ p6 : Option Addr, (∃ n7 : Nat, (∃ n8 : Nat, ((cell? w0 (add a5 0) = some (slice p6 n7 n8)) ∧ (onP (p2) (fun a9 =>
(st1 (add (add a9 1) 0) (slice p6 n7 n8) w0 (fun w11 =>
(R (tuple (Array.mk (List.reverse []))) (w11))))))))))))))))))))))
theorem ca73 (c0 : Option Addr) (w : World) (R : Value → World → Prop) (h : W73 c0 w R) : Ca Tryz.prog 73 ⟨[(.pointer c0)]⟩ w R :=
  caB (fn := Tryz.f73) (pl := pl73) (ls := ls73) Tryz.func73 (by kernel_rfl) (by kernel_rfl) h

/-- (*staith/store.Store).Move$1 -/
noncomputable def C84 : Code := (Tryz.f84.body).getD .skip
def pl84 : Nat → Plan
  | 0 => (.quiet 0 (.quiet 1 (.quiet 2 (.quiet 3 (.quiet 4 (.eff 5 [] .done))))))
  | 1 => (.quiet 0 (.quiet 1 (.quiet 2 (.quiet 3 (.quiet 4 (.quiet 5 (.eff 6 [] .done)))))))
  | _ => .done
def ls84 : Nat → List (Nat × LT) := fun _ => []
def W84 (c0 : Option Addr) (c1 : Option Addr) (c2 : Option Addr) (c3 : Option Addr) (w : World) (R : Value → World → Prop) : Prop :=
  (atW (drew w) (fun w0 =>
(onP (c0) (fun a1 =>
(∃ p2 : Option Addr, ((cell? w0 a1 = some (pointer p2)) ∧ (onP (p2) (fun a3 =>
(∃ p4 : Option Nat, ((cell? w0 (add a3 1) = some (map p4)) ∧ (onP (c1) (fun a5 =>
(∃ s6 : ByteArray, ((cell? w0 a5 = some (string s6)) ∧ (∃ v7 : Value, (∃ w8 : World, ((Sem.run Tryz.prog (Builtin.delete_ (Array.mk [62, 9]) 0 (Array.mk [map p4, string s6])) w0 = Result.ok v7 w8) ∧ ((v7 = tuple (Array.mk (List.reverse []))) ∧ (atW (drew w8) (fun w9 =>
(onP (c0) (fun a10 =>
(∃ p11 : Option Addr, ((cell? w9 a10 = some (pointer p11)) ∧ (onP (p11) (fun a12 =>
(∃ p13 : Option Nat, ((cell? w9 (add a12 1) = some (map p13)) ∧ (onP (c3) (fun a14 =>
(∃ s15 : ByteArray, ((cell? w9 a14 = some (string s15)) ∧ (onP (c2) (fun a16 =>
(∃ p17 : Option Addr, ((cell? w9 a16 = some (pointer p17)) ∧ (∃ w18 : World, ((Sem.run Tryz.prog (Instr.mapUpdate 62 (map p13) (string s15) (pointer p17)) w9 = Result.ok () w18) ∧ (R (tuple (Array.mk (List.reverse []))) (w18))))))))))))))))))))))))))))))))))))))))
theorem ca84 (c0 : Option Addr) (c1 : Option Addr) (c2 : Option Addr) (c3 : Option Addr) (w : World) (R : Value → World → Prop) (h : W84 c0 c1 c2 c3 w R) : Ca Tryz.prog 84 ⟨[(.pointer c0), (.pointer c1), (.pointer c2), (.pointer c3)]⟩ w R :=
  caB (fn := Tryz.f84) (pl := pl84) (ls := ls84) Tryz.func84 (by kernel_rfl) (by kernel_rfl) h

/-- (*staith/store.Store).Drop$1 -/
noncomputable def C83 : Code := (Tryz.f83.body).getD .skip
def pl83 : Nat → Plan
  | 0 => (.quiet 0 (.quiet 1 (.quiet 2 (.quiet 3 (.quiet 4 (.eff 5 [] .done))))))
  | _ => .done
def ls83 : Nat → List (Nat × LT) := fun _ => []
def W83 (c0 : Option Addr) (c1 : Option Addr) (w : World) (R : Value → World → Prop) : Prop :=
  (atW (drew w) (fun w0 =>
(onP (c0) (fun a1 =>
(∃ p2 : Option Addr, ((cell? w0 a1 = some (pointer p2)) ∧ (onP (p2) (fun a3 =>
(∃ p4 : Option Nat, ((cell? w0 (add a3 1) = some (map p4)) ∧ (onP (c1) (fun a5 =>
(∃ s6 : ByteArray, ((cell? w0 a5 = some (string s6)) ∧ (∃ v7 : Value, (∃ w8 : World, ((Sem.run Tryz.prog (Builtin.delete_ (Array.mk [62, 9]) 0 (Array.mk [map p4, string s6])) w0 = Result.ok v7 w8) ∧ ((v7 = tuple (Array.mk (List.reverse []))) ∧ (R (tuple (Array.mk (List.reverse []))) (w8))))))))))))))))))))
theorem ca83 (c0 : Option Addr) (c1 : Option Addr) (w : World) (R : Value → World → Prop) (h : W83 c0 c1 w R) : Ca Tryz.prog 83 ⟨[(.pointer c0), (.pointer c1)]⟩ w R :=
  caB (fn := Tryz.f83) (pl := pl83) (ls := ls83) Tryz.func83 (by kernel_rfl) (by kernel_rfl) h

/-- (*staith/store.Store).Commit$1 -/
noncomputable def C76 : Code := (Tryz.f76.body).getD .skip
def pl76 : Nat → Plan
  | 0 => (.quiet 0 (.quiet 1 (.quiet 2 (.quiet 3 (.quiet 4 (.eff 5 [0] (.quiet 6 (.quiet 7 (.eff 8 [] .done)))))))))
  | _ => .done
def ls76 : Nat → List (Nat × LT) := fun _ => []
def W76 (c0 : Option Addr) (w : World) (R : Value → World → Prop) : Prop :=
  (atW (drew w) (fun w0 =>
(onP (c0) (fun a1 =>
(∃ p2 : Option Addr, ((cell? w0 a1 = some (pointer p2)) ∧ (onP (c0) (fun a3 =>
(∃ p4 : Option Addr, ((cell? w0 a3 = some (pointer p4)) ∧ (onP (p4) (fun a5 =>
(∃ p6 : Option Nat, ((cell? w0 (add a5 1) = some (map p6)) ∧ (Ca Tryz.prog (65) (Array.mk [map p6]) (w0) (fun v7 => (fun w8 =>
(∃ p9 : Option Nat, ((v7 = map p9) ∧ (onP (c0) (fun a10 =>
((cell? w8 (add a10 0) = some (pointer p2)) ∧ (onP (p2) (fun a11 =>
(st1 (add (add a11 2) 0) (map p9) w8 (fun w13 =>
(R (tuple (Array.mk (List.reverse []))) (w13))))))))))))))))))))))))))))
theorem ca76 (c0 : Option Addr) (w : World) (R : Value → World → Prop) (h : W76 c0 w R) : Ca Tryz.prog 76 ⟨[(.pointer c0)]⟩ w R :=
  caB (fn := Tryz.f76) (pl := pl76) (ls := ls76) Tryz.func76 (by kernel_rfl) (by kernel_rfl) h
end Go.Proofs.YtgjdandnncjegaaGreatDoor

/- Contracts of the store's functions: which names are good. -/
namespace Go.Proofs.YtgjdandnncjegaaGreatDoor
open Go Go.Proofs.YtgjdandnncjegaaGreatDoor.St

def gch (i c : Nat) : Bool := (decide (97 ≤ c) && decide (c ≤ 122)) || (!(i == 0) && (c == 46 || (decide (48 ≤ c) && decide (c ≤ 57))))
def goodL (s : ByteArray) : Bool := (List.range s.size).all fun i => gch i (byteAt s i).toNat
def goodB (s : ByteArray) : Bool := goodL s && (decide (0 < s.size) && decide (s.size ≤ 30))

theorem goodL_of {s : ByteArray} (h : ∀ i, i < s.size → gch i (byteAt s i).toNat = true) : goodL s = true := by
  rw [goodL, List.all_eq_true]
  intro i hi
  exact h i (List.mem_range.1 hi)
theorem goodL_not {s : ByteArray} {i : Nat} (hi : i < s.size) (h : gch i (byteAt s i).toNat = false) : goodL s = false := by
  cases hg : goodL s with
  | false => rfl
  | true =>
    rw [goodL, List.all_eq_true] at hg
    have := hg i (List.mem_range.2 hi)
    rw [h] at this
    cases this

theorem good_ok (s : ByteArray) (w : World) (hs : s.size < 4611686018427387904) (R : Value → World → Prop) (h : ∀ w', Mod no w w' → R (.bool (goodB s)) w') : Ca Tryz.prog 18 #[.string s] w R := by
  refine ca18 s w R ?_
  refine ⟨_, _, run_bytes_of_string w _ _ 5 s Tryz.underlying9 Tryz.underlying27 Tryz.underlying5, _, _, _, rfl, ?_⟩
  have m1 : Mod no w (w.drew.alloc (.cells (bytesRow s (grownCap w s.size 0 5)) 5 ((bytesRow s (grownCap w s.size 0 5)).size, (bytesRow s (grownCap w s.size 0 5)).size + 1))) := (Mod.drew w).trans (Mod.alloc _ _)
  have b1 : (w.drew.alloc (.cells (bytesRow s (grownCap w s.size 0 5)) 5 ((bytesRow s (grownCap w s.size 0 5)).size, (bytesRow s (grownCap w s.size 0 5)).size + 1))).heap[w.heap.size]? = some (.cells (bytesRow s (grownCap w s.size 0 5)) 5 ((bytesRow s (grownCap w s.size 0 5)).size, (bytesRow s (grownCap w s.size 0 5)).size + 1)) := new_at w.drew _
  generalize (w.drew.alloc (.cells (bytesRow s (grownCap w s.size 0 5)) 5 ((bytesRow s (grownCap w s.size 0 5)).size, (bytesRow s (grownCap w s.size 0 5)).size + 1))) = w1 at m1 b1
  generalize hG : bytesRow s (grownCap w s.size 0 5) = row at b1
  have hrow : ∀ i, i < s.size → row[i]? = some (.int .u8 (byteAt s i)) := fun i hi => by
    rw [← hG, bytesRow_at s _ i hi]
    simp only [byteAt, Array.getElem?_eq_getElem (show i < s.data.size from hi), Option.getD_some]
  have h := h w1 m1
  clear hG m1
  refine ⟨fun x w' => ∃ i : Nat, x = i ∧ i ≤ s.size ∧ w' = w1 ∧ ∀ k, k < i → gch k (byteAt s k).toNat = true, fun x _ => ((s.size : Int) - x).toNat, ⟨0, rfl, Nat.zero_le _, rfl, fun k hk => by omega⟩, ?_⟩
  rintro _ _ _ ⟨i, rfl, hi, rfl, hall⟩
  rename_i w1
  have e1 : i < s.size → IntKind.i64.wrap ((i : Int) + 1) = ((i + 1 : Nat) : Int) := fun h => by rw [wrap64 (by omega) (by omega)]; rfl
  refine ifK_dec (fun hlt => ?_) (fun hge => ?_)
  · have hlt' : i < s.size := by omega
    refine ⟨_, rfl, by omega, hlt, byteAt s i, ?_, ?_⟩
    · rw [Int.toNat_natCast, Nat.mul_one, cl1 b1, hrow i hlt']
    rw [e1 hlt']
    obtain ⟨c, hc⟩ : ∃ c : Nat, byteAt s i = (c : Int) := ⟨_, rfl⟩
    have bad : gch i c = false → R (.bool false) w1 := fun hb => by
      have : goodB s = false := by rw [goodB, goodL_not hlt' (by rw [hc]; exact hb), Bool.false_and]
      rwa [this] at h
    have next : gch i c = true → (∃ i' : Nat, ((i + 1 : Nat) : Int) = i' ∧ i' ≤ s.size ∧ w1 = w1 ∧ ∀ k, k < i' → gch k (byteAt s k).toNat = true) ∧ ((s.size : Int) - ((i + 1 : Nat) : Int)).toNat < ((s.size : Int) - (i : Int)).toNat := fun hg => by
      refine ⟨⟨i + 1, rfl, hlt', rfl, fun k hk => ?_⟩, by omega⟩
      by_cases e : k = i
      · subst e; rw [hc]; exact hg
      · exact hall k (by omega)
    rw [hc]
    clear e1 hall
    repeat' first
      | refine ifK_dec (fun _ => ?_) (fun _ => ?_)
      | refine ifK_eq (fun _ => ?_) (fun _ => ?_)
      | refine ifK_not (fun _ => ?_) (fun _ => ?_)
    all_goals first
      | exact bad (by rw [Bool.eq_false_iff]; simp_all [gch]; omega)
      | exact next (by simp_all [gch]; omega)
      | exact bad (by simp_all [gch])
      | exact next (by simp_all [gch])
  · have hg : goodL s = true := goodL_of fun k hk => hall k (by omega)
    rw [bytes_empty]
    refine ifK_not (fun h1 => ?_) (fun h1 => ?_)
    · have : goodB s = decide ((s.size : Int) ≤ 30) := by
        have h2 : 0 < s.size := by have := of_decide_eq_false h1; omega
        rw [goodB, hg, Bool.true_and, decide_eq_true h2, Bool.true_and, Bool.eq_iff_iff]
        simp
        omega
      rwa [this] at h
    · have : goodB s = false := by
        have h2 : ¬ 0 < s.size := by have := of_decide_eq_true h1; omega
        rw [goodB, decide_eq_false h2, Bool.false_and, Bool.and_false]
      rwa [this] at h
end Go.Proofs.YtgjdandnncjegaaGreatDoor

/- The library's maps.Clone of a directory. -/
namespace Go.Proofs.YtgjdandnncjegaaGreatDoor
open Go Go.RowKit Go.Proofs.YtgjdandnncjegaaGreatDoor.St

theorem run_eqlIn_map {P : Program} (w : World) (d : Nat) (t k e : TypeId) (p : Option Nat) (h : P.underlying t = some (.map k e)) : (Op.equalIn (d + 1) t (.map p) (.map none)).run P w = .ok p.isNone w := by
  cases p <;> simp [Op.equalIn, run_underlying h]
theorem run_eql_map {P : Program} (w : World) (t k e : TypeId) (p : Option Nat) (h : P.underlying t = some (.map k e)) : (binOp .eql t (.map p) (.map none)).run P w = .ok (.bool p.isNone) w := by
  simp only [binOp]
  simp [show Op.equal t (.map p) (.map none) = Op.equalIn (9999 + 1) t (.map p) (.map none) from rfl, run_eqlIn_map w 9999 t k e p h]
theorem run_assert_map {P : Program} (w : World) (t xT k e : TypeId) (v : Value) (h : P.underlying t = some (.map k e)) : (Instr.typeAssert (.iface t v) xT t false).run P w = .ok v w := by
  simp [Instr.typeAssert, run_underlying h, go_sem, Result.andThen]
theorem run_clone {P : Program} (w : World) {r : Nat} {es : Array MapEntry} {clock : Nat} (t : TypeId) (hb : w.heap[r]? = some (.map es clock)) :
    (Extern.MapsClone.clone #[.iface t (.map (some r))]).run P w = .ok (.iface t (.map (some w.heap.size))) (w.alloc (.map es clock)) := by
  have e : Extern.MapsClone.clone #[.iface t (.map (some r))] = (getObj r >>= fun o => match o with
      | .map entries clock => (newObj (.map entries clock) >>= fun n => pure (.iface t (.map (some n))))
      | _ => stuck "maps.clone: a map expected") := rfl
  rw [e]
  simp [MapKept.run_getObj_map hb, Result.andThen, go_sem]

set_option maxRecDepth 100000 in
set_option maxHeartbeats 2000000 in
theorem clone_calls (b : Nat) (es : Array MapEntry) (clock : Nat) (w : World) (hb : w.heap[b]? = some (.map es clock)) :
    Calls Tryz.prog 65 #[.map (some b)] w fun e w' => e = .returned (.map (some w.heap.size)) ∧ w' = w.alloc (.map es clock) := by
  have mixed : Tryz.prog.follows .mixedOrders = true := by kernel_rfl
  have t4 := Tryz.underlying4
  have t20 := Tryz.underlying20
  have tdir := Tryz.underlying62
  have hq := fun w => run_eql_map (P := Tryz.prog) w 62 _ _ (some b) Tryz.underlying62
  go_enter Tryz.func65, Tryz.ntmps65
  go_wp2
  rw [run_callFunc_extern Tryz.func86 (by kernel_rfl) (by kernel_rfl) (by kernel_rfl) (e := Extern.MapsClone.clone) (by kernel_rfl), run_clone w 62 hb]
  simp only [Result.andThen]
  rw [Oper.upon_value]
  go_wp2
  rw [run_assert_map _ 62 20 _ _ _ Tryz.underlying62]
  simp only [Result.andThen]
  rw [Oper.upon_value]
  go_wp2
  go_ret
  exact ⟨rfl, rfl⟩
/-- A new map of the same entries; of nil nil. -/
theorem clone_ok (m : Option Nat) (w : World) (R : Value → World → Prop) (h0 : m = none → R (.map none) w)
    (h : ∀ b kvs w', m = some b → MapAt w b kvs → MapAt w' w.heap.size kvs → Mod no w w' → R (.map (some w.heap.size)) w') (hm : ∀ b, m = some b → ∃ kvs, MapAt w b kvs) :
    Ca Tryz.prog 65 #[.map m] w R := by
  cases m with
  | none => exact ca65 none w R (ifK_of (fun _ => h0 rfl) (fun h => by cases h))
  | some b =>
    obtain ⟨kvs, hkv⟩ := hm b rfl
    have hkv0 := hkv
    obtain ⟨es, clock, hb, he, hn, hc⟩ := hkv
    refine ⟨fun w => callFunc_run (c := C65) Tryz.func65 (by kernel_rfl) (by kernel_rfl) _ w, (clone_calls b es clock w hb).mono fun e w' ⟨h1, h2⟩ => ?_⟩
    subst h2
    exact ⟨_, h1, h b kvs _ rfl hkv0 ⟨es, clock, new_at _ _, he, hn, hc⟩ (Mod.alloc _ _)⟩
end Go.Proofs.YtgjdandnncjegaaGreatDoor

/- The store as it lies; contracts of the functions that look first. -/
namespace Go.Proofs.YtgjdandnncjegaaGreatDoor
open Go Go.Proofs.YtgjdandnncjegaaGreatDoor.St

/-- A directory's entries: names, and the blocks of their files. -/
def dirL (D : List (ByteArray × Nat)) : List (ByteArray × Value) := D.map fun p => (p.1, .pointer (some ⟨p.2, 0, none⟩))
def dget (D : List (ByteArray × Nat)) (k : ByteArray) : Option Nat := (D.find? fun p => k == p.1).map (·.2)
theorem getG_dirL (D : List (ByteArray × Nat)) (k : ByteArray) : getG k (dirL D) = (dget D k).map fun f => .pointer (some ⟨f, 0, none⟩) := by
  rw [getG, dget, dirL, List.find?_map]
  show Option.map _ (Option.map _ (D.find? fun p => k == p.1)) = _
  cases D.find? fun p => k == p.1 <;> rfl

/-- What a store says of itself; nb and sb are its maps' blocks. -/
structure Sto where
  room : Int
  nb : Nat
  sb : Nat
  now : List (ByteArray × Nat)
  sure : List (ByteArray × Nat)
  dark : Bool
  count : Int
  left : Int
  keep : Int

structure StAt (w : World) (s : Nat) (x : Sto) : Prop where
  cell : w.heap[s]? = some (.cells #[.int .i64 x.room, .map (some x.nb), .map (some x.sb), .bool x.dark, .int .i64 x.count, .int .i64 x.left, .int .i64 x.keep] 64 (0, 0))
  now : MapAt w x.nb (kvL Value.string (dirL x.now))
  sure : MapAt w x.sb (kvL Value.string (dirL x.sure))
theorem StAt.no {w w' : World} {s : Nat} {x : Sto} (h : StAt w s x) (hm : Mod no w w') : StAt w' s x := ⟨hm.at' h.cell, h.now.mod hm id, h.sure.mod hm id⟩

theorem power_ok (s : Nat) (x : Sto) (w : World) (hs : StAt w s x) (R : Value → World → Prop) (h : R (.int .i64 (if x.dark then 9 else 0)) w) : Ca Tryz.prog 62 #[.pointer (some ⟨s, 0, none⟩)] w R := by
  refine ca62 _ w R ?_
  refine (ifK_of (fun h => by cases h) (fun _ => ?_) : ifK false _ _)
  refine ⟨some x.nb, by rw [cl1 hs.cell]; rfl, (ifK_of (fun h => by cases h) (fun _ => ?_) : ifK false _ _)⟩
  refine ⟨x.dark, by rw [cl1 hs.cell]; rfl, ifK_of (fun hd => ?_) (fun hd => ?_)⟩
  · rw [hd] at h; exact h
  · rw [hd] at h; exact h
theorem on_ok (s : Nat) (x : Sto) (w : World) (hs : StAt w s x) (R : Value → World → Prop) (h : R (.bool (!x.dark)) w) : Ca Tryz.prog 25 #[.pointer (some ⟨s, 0, none⟩)] w R := by
  refine ca25 _ w R ?_
  refine (ifK_of (fun _ => ?_) (fun h => by cases h) : ifK true _ _)
  refine ⟨some x.nb, by rw [cl1 hs.cell]; rfl, (ifK_of (fun _ => ?_) (fun h => by cases h) : ifK true _ _)⟩
  exact ⟨x.dark, by rw [cl1 hs.cell]; rfl, h⟩

theorem keysDir : Keys Tryz.prog 9 (κ := ByteArray) Value.string fun _ _ => True := keys_string Tryz.underlying9
theorem zeroFile (w : World) : (zeroValue 78).run Tryz.prog w = .ok (.pointer none) w := by
  have hi : (Tryz.prog.info? 78).bind (·.zero) = some (.pointer none) := by kernel_rfl
  cases hh : Tryz.prog.info? 78 with
  | none => rw [hh] at hi; cases hi
  | some i =>
    rw [hh] at hi
    have hi : i.zero = some (.pointer none) := hi
    simp [zeroValue, typeInfo, hh, hi]

theorem known_ok (s : Nat) (x : Sto) (name : ByteArray) (w : World) (hs : StAt w s x) (hn : name.size < 4611686018427387904) (R : Value → World → Prop)
    (h1 : x.dark = true → ∀ w', Mod no w w' → R (.tuple #[.pointer none, .int .i64 9]) w')
    (h2 : x.dark = false → goodB name = false → ∀ w', Mod no w w' → R (.tuple #[.pointer none, .int .i64 2]) w')
    (h3 : x.dark = false → goodB name = true → dget x.now name = none → ∀ w', Mod no w w' → R (.tuple #[.pointer none, .int .i64 3]) w')
    (h4 : ∀ f, x.dark = false → goodB name = true → dget x.now name = some f → ∀ w', Mod no w w' → R (.tuple #[.pointer (some ⟨f, 0, none⟩), .int .i64 0]) w') :
    Ca Tryz.prog 48 #[.pointer (some ⟨s, 0, none⟩), .string name] w R := by
  refine ca48 _ name w R ?_
  refine power_ok s x w hs _ ⟨_, rfl, ?_⟩
  cases hd : x.dark with
  | true => exact (ifK_of (fun _ => h1 hd w (Mod.refl _ _)) (fun h => by cases h) : ifK true _ _)
  | false =>
    refine (ifK_of (fun h => by cases h) (fun _ => ?_) : ifK false _ _)
    refine good_ok name w hn _ fun w2 m2 => ⟨_, rfl, ifK_not (fun hg => h2 hd hg w2 m2) (fun hg => ?_)⟩
    have hs2 := hs.no m2
    have hl := lookup_k keysDir Tryz.underlying62 zeroFile hs2.now name trivial (fun _ _ => trivial) false
    rw [getG_dirL] at hl
    cases hf : dget x.now name with
    | none =>
      rw [hf] at hl
      exact ⟨some x.nb, by rw [cl1 hs2.cell]; rfl, _, w2, hl, none, rfl, (ifK_of (fun _ => h3 hd hg hf w2 m2) (fun h => by cases h) : ifK true _ _)⟩
    | some f =>
      rw [hf] at hl
      exact ⟨some x.nb, by rw [cl1 hs2.cell]; rfl, _, w2, hl, some ⟨f, 0, none⟩, rfl, (ifK_of (fun h => by cases h) (fun _ => h4 f hd hg hf w2 m2) : ifK false _ _)⟩
end Go.Proofs.YtgjdandnncjegaaGreatDoor

/- Iterators as they are ranged over. It names no program. -/
namespace Go.Proofs.YtgjdandnncjegaaGreatDoor.St
open Go

def isIt : Obj → Bool
  | .mapIter _ _ _ _ => true
  | .stringIter _ _ => true
  | _ => false

/-- What was older than B stands, and so do iterators. -/
structure Kp (B : Nat) (w w' : World) : Prop where
  os : w'.os = w.os
  tape : w'.tape = w.tape
  output : w'.output = w.output
  size : w.heap.size ≤ w'.heap.size
  old : ∀ k o, w.heap[k]? = some o → (k < B ∨ isIt o = true) → w'.heap[k]? = some o

theorem Kp.refl (B : Nat) (w : World) : Kp B w w := ⟨rfl, rfl, rfl, Nat.le_refl _, fun _ _ h _ => h⟩
theorem Kp.trans {B : Nat} {w w' w'' : World} (h : Kp B w w') (h' : Kp B w' w'') : Kp B w w'' :=
  ⟨h'.os.trans h.os, h'.tape.trans h.tape, h'.output.trans h.output, Nat.le_trans h.size h'.size, fun k o ho hk => h'.old k o (h.old k o ho hk) hk⟩
theorem Kp.of_mod {B : Nat} {S : Nat → Prop} {w w' : World} (h : Mod S w w') (hs : ∀ k o, w.heap[k]? = some o → (k < B ∨ isIt o = true) → ¬ S k) : Kp B w w' :=
  ⟨h.os, h.tape, h.output, h.size, fun k o ho hk => h.at ho (hs k o ho hk)⟩
theorem Kp.of_no {B : Nat} {w w' : World} (h : Mod no w w') : Kp B w w' := Kp.of_mod h fun _ _ _ _ => id
theorem Kp.mod {w w' : World} (h : Kp w.heap.size w w') : Mod no w w' :=
  ⟨h.os, h.tape, h.output, h.size, fun k hk _ => by rw [h.old k _ (Array.getElem?_eq_getElem hk) (.inl hk), Array.getElem?_eq_getElem hk]⟩

/-- What a yield gathers stands where nothing changes but an iterator. -/
def Stab (J : List Value → World → Prop) : Prop :=
  (∀ l w w', J l w → Mod no w w' → J l w') ∧ ∀ l w w' b o, J l w → w.heap[b]? = some o → isIt o = true → Mod (on b) w w' → J l w'

/-- The function value seq, called with a yield, hands it one of the lists of S, one by one: fewer than N, each a T. -/
def SeqOf (P : Program) (seq : Value) (B : Nat) (w0 : World) (N : Nat) (T : Value → Prop) (S : List Value → Prop) : Prop :=
  (∃ g first cap, seq = .func (.func g) first cap) ∧
  ∀ (J : List Value → World → Prop) (y : Value) (w : World) (R : Value → World → Prop), Kp B w0 w → Stab J → J [] w →
    (∀ pre x w', Kp B w0 w' → J pre w' → pre.length < N → T x → ∀ R' : Value → World → Prop, (∀ w'', Kp B w' w'' → J (pre ++ [x]) w'' → R' (.bool true) w'') → CaV P y #[x] w' R') →
    (∀ w' xs, S xs → J xs w' → Kp B w0 w' → R (.tuple #[]) w') → CaV P seq #[y] w R
end Go.Proofs.YtgjdandnncjegaaGreatDoor.St

/- A range over a map, wherever its iterator lies. It names no program. -/
namespace Go.Proofs.YtgjdandnncjegaaGreatDoor.St
open Go

section
variable {P : Program}
/-- 'next' over a map that stands as it was: nothing is left; or one that is left comes out. -/
theorem next_at {w : World} {ty : TypeId} {it bm since c0 : Nat} {seen : Array Nat} {es : Array MapEntry} {clock : Nat} (hit : w.heap[it]? = some (.mapIter (some bm) since seen c0)) (hb : w.heap[bm]? = some (.map es clock))
    (hold : ∀ x ∈ es.toList, x.born < since) (hsc : since ≤ c0) :
    ((leftOf es seen).size = 0 ∧ (Instr.next (.pointer (some ⟨it, 0, none⟩)) false ty).run P w = .ok (.tuple #[.bool false]) w) ∨
    ∃ e ∈ (leftOf es seen).toList, ∃ w' : World, (Instr.next (.pointer (some ⟨it, 0, none⟩)) false ty).run P w = .ok (.tuple #[.bool true, e.key, e.val]) w' ∧ Mod (on it) w w' ∧
      w'.heap[it]? = some (.mapIter (some bm) since (seen.push e.born) clock) := by
  simp only [Instr.next, getObj, Sem.run_bind, Sem.run, hit, hb, Result.andThen, next_test_false seen es since c0 hold hsc, Bool.false_eq_true, if_false]
  unfold leftOf
  have hmem : ∀ x ∈ (Array.filter (fun e => !seen.contains e.born) es).toList, x.born < since := fun x hx => hold x (by simp at hx ⊢; exact hx.1)
  generalize Array.filter (fun e => !seen.contains e.born) es = L at hmem ⊢
  have e1 : L.filter (fun x => decide (x.born < since)) = L := Array.filter_eq_self.2 (fun x hx => by simpa using hmem x (by simpa using hx))
  have e2 : L.filter (fun x => decide (x.born ≥ since)) = #[] := by
    rw [Array.filter_eq_empty_iff]
    intro x hx
    have := hmem x (by simpa using hx)
    simp
    omega
  simp only [e1, e2, Array.append_empty]
  by_cases h0 : L.size = 0
  · left
    have : L = #[] := Array.eq_empty_of_size_eq_zero h0
    subst this
    refine ⟨rfl, ?_⟩
    simp [choose, Sem.run, Question.forced]
  · right
    have hne : L.isEmpty = false := by simp [Array.isEmpty, h0]
    simp only [hne, Bool.false_eq_true, if_false, Array.empty_append, Array.size_map]
    have hch : ∃ (j : Nat) (w1 : World), j < L.size ∧ Mod no w w1 ∧ w1.heap = w.heap ∧ (choose (Question.mapNext L.size)).run P w = .ok j w1 := by
      by_cases hf : L.size ≤ 1
      · exact ⟨0, w, by omega, Mod.refl _ _, rfl, by simp [choose, Sem.run, Question.forced, hf]⟩
      · exact ⟨_, w.drew, Nat.mod_lt _ (by omega), Mod.drew w, rfl, by
          simp only [choose, Sem.run, Question.forced, decide_eq_true_eq, hf, if_false, Question.cut]
          rfl⟩
    obtain ⟨j, w1, hj, hm1, hheap, hrun⟩ := hch
    have hit1 : w1.heap[it]? = some (.mapIter (some bm) since seen c0) := by rw [hheap, hit]
    have hset : ∀ o' : Obj, (setObj it o').run P w1 = .ok () (w1.putObj it o') := fun o' => by
      simp [setObj, Sem.run, hit1, World.putObj]
    refine ⟨L[j], by simp, w1.putObj it (.mapIter (some bm) since (seen.push L[j].born) clock), ?_, hm1.no_trans (Mod.putObj w1 it _), put_at _ hit1⟩
    simp only [hrun, Array.getElem?_map, Array.getElem?_eq_getElem hj, Option.map_some, Sem.run_bind, hset, Result.andThen]
    rfl

theorem entry_at {w : World} {it bm since : Nat} {seen : Array Nat} {es : Array MapEntry} {clock : Nat} {e : MapEntry} (hit : w.heap[it]? = some (.mapIter (some bm) since (seen.push e.born) clock)) (hb : w.heap[bm]? = some (.map es clock))
    (he : e ∈ es.toList) (hn : (es.toList.map (·.born)).Nodup) : (Instr.entry (.pointer (some ⟨it, 0, none⟩))).run P w = .ok (.tuple #[e.key, e.val]) w := by
  have hf : es.find? (·.born == e.born) = some e := by rw [← Array.find?_toList]; exact find_born e es.toList hn he
  simp only [Instr.entry, getObj, Sem.run_bind, Sem.run, hit, hb, Result.andThen, Array.back?_push, bne_self_eq_false, Bool.false_eq_true, if_false, hf]
  rfl
end

theorem filter_perm {p q : MapEntry → Bool} {e : MapEntry} : ∀ {l : List MapEntry}, (l.map (·.born)).Nodup → e ∈ l → p e = true → (∀ x ∈ l, q x = (p x && !(x.born == e.born))) → (l.filter p).Perm (e :: l.filter q)
  | [], _, h, _, _ => by simp at h
  | x :: l, hn, he, hp, hq => by
    rw [List.map_cons, List.nodup_cons] at hn
    have hqx := hq x (by simp)
    rcases List.mem_cons.1 he with rfl | he'
    · have hqe : q e = false := by rw [hqx]; simp
      rw [List.filter_cons_of_pos hp, List.filter_cons_of_neg (by simp [hqe])]
      have : l.filter p = l.filter q := by
        apply List.filter_congr
        intro y hy
        rw [hq y (by simp [hy])]
        have : (y.born == e.born) = false := beq_false_of_ne fun h => hn.1 (by rw [← h]; exact List.mem_map_of_mem hy)
        simp [this]
      rw [this]
    · have hne : (x.born == e.born) = false := beq_false_of_ne fun h => hn.1 (by rw [h]; exact List.mem_map_of_mem he')
      have ih := filter_perm (l := l) hn.2 he' hp fun y hy => hq y (by simp [hy])
      have hqp : q x = p x := by rw [hqx, hne]; simp
      cases hpx : p x with
      | true =>
        rw [List.filter_cons_of_pos hpx, List.filter_cons_of_pos (by rw [hqp, hpx])]
        exact (List.Perm.cons x ih).trans (List.Perm.swap e x _)
      | false =>
        rw [List.filter_cons_of_neg (by simp [hpx]), List.filter_cons_of_neg (by simp [hqp, hpx])]
        exact ih

theorem left_perm {es : Array MapEntry} {seen : Array Nat} {e : MapEntry} (hn : (es.toList.map (·.born)).Nodup) (he : e ∈ (leftOf es seen).toList) :
    (leftOf es seen).toList.Perm (e :: (leftOf es (seen.push e.born)).toList) := by
  obtain ⟨h1, h2⟩ := mem_left he
  simp only [leftOf, Array.toList_filter]
  refine filter_perm hn h1 (by simpa using h2) fun x _ => ?_
  rw [contains_push, Bool.not_or]
end Go.Proofs.YtgjdandnncjegaaGreatDoor.St
