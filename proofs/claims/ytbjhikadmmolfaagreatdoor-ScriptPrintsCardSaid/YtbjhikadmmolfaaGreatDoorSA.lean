/- DERIVED: THE SHELF's CONTRACTS AT THIS DUMP, IN PLAIN WORDS (tools/lay-plain.mjs out of 'TryzShelf.lean', which tools/lay-shelf.mjs wrote): THE SAME DECLARATIONS UNDER THE SAME NAMES: 'import', 'namespace', 'open', 'def', 'theorem' AND NOTHING ELSE: no command of the shelf's: FOR A HAND-IN. Each laying: the table of numbers ('.._ren') and one theorem, a field a fact of the dump's own or the kernel's comparison; each contract: ONE APPLICATION. -/
import Derived.Test.YtbjhikadmmolfaaGreatDoorMC
import Derived.Shelf.Strings.Builder1
import Derived.Shelf.Strings.Builder2
import Derived.Shelf.Strings.OnBuilder
import Derived.Shelf.Strconv.Atoi
import Derived.Shelf.Strconv.Itoa0
import Derived.Shelf.Strconv.Itoa1
import Derived.Shelf.LaysM
import Derived.Shelf.Strconv.Itoa2
import Derived.Shelf.Strconv.Itoa3
import Derived.Shelf.Strconv.AtoiErrFast
import Derived.Shelf.Strconv.ParseIntEmpty
import Derived.Shelf.Strconv.AtoiFail
import Derived.Shelf.Strconv.Clone
import Derived.Shelf.Strconv.SyntaxError
import Derived.Shelf.LaysC
import Derived.Shelf.Strconv.ToError
import Derived.Shelf.Strconv.AtoiErr
import Derived.Shelf.Strconv.Lower
import Derived.Shelf.Strconv.ParseUint10
import Derived.Shelf.Strconv.ParseUint10Empty
import Derived.Shelf.Strconv.ParseUint10Any
import Derived.Shelf.Strconv.ParseInt10
import Derived.Shelf.Strconv.AtoiLong
import Derived.Shelf.Strconv.AtoiInnerAll
import Derived.Shelf.Strconv.RangeError
import Derived.Shelf.Strconv.ToErrorRange
import Derived.Shelf.Strconv.AtoiAll
import Derived.Shelf.Strings.Search1
import Derived.Shelf.Strings.Search2
import Derived.Shelf.Strings.Cut
import Derived.Shelf.Strings.Shaped
import Derived.Test.YtbjhikadmmolfaaGreatDoorProg
import Derived.KernelRfl
import Derived.Lib.AtoiAllCases
set_option linter.unusedSectionVars false
set_option linter.unusedVariables false
set_option linter.unusedSimpArgs false
set_option maxRecDepth 100000
set_option maxHeartbeats 4000000
namespace Go.Proofs
open Go.Shelf
def Tryz.lays156_ren : Go.Shelf.Ren := ⟨fun | 156 => 15 | 165 => 34 | 166 => 18 | 169 => 23 | 240 => 40 | 241 => 68 | 276 => 69 | 277 => 85 | n => n, fun | 31 => 41 | 9 => 9 | 3 => 3 | 4 => 4 | 0 => 0 | 20 => 20 | 72 => 69 | 76 => 74 | 70 => 67 | 37 => 58 | 75 => 73 | 127 => 110 | 164 => 128 | 5 => 5 | 80 => 80 | n => n, fun | n => n⟩
theorem Tryz.lays156 : Go.Proofs.Lays.n156 Tryz.prog Tryz.lays156_ren := {
 mixed := by kernel_rfl
 f156 := Tryz.func15.trans (congrArg some (by kernel_rfl))
 f165 := Tryz.func34.trans (congrArg some (by kernel_rfl))
 f166 := Tryz.func18.trans (congrArg some (by kernel_rfl))
 f169 := Tryz.func23.trans (congrArg some (by kernel_rfl))
 f240 := Tryz.func40.trans (congrArg some (by kernel_rfl))
 f241 := Tryz.func68.trans (congrArg some (by kernel_rfl))
 f276 := Tryz.func69.trans (congrArg some (by kernel_rfl))
 f277 := Tryz.func85.trans (congrArg some (by kernel_rfl))
 t0 := Tryz.underlying0
 a0 := Tryz.isAgg0
 z0 := Tryz.sizeOf0
 v0 := Tryz.zeroValue0
 t3 := Tryz.underlying3
 a3 := Tryz.isAgg3
 z3 := Tryz.sizeOf3
 v3 := Tryz.zeroValue3
 t4 := Tryz.underlying4
 a4 := Tryz.isAgg4
 z4 := Tryz.sizeOf4
 v4 := Tryz.zeroValue4
 t9 := Tryz.underlying9
 a9 := Tryz.isAgg9
 z9 := Tryz.sizeOf9
 v9 := Tryz.zeroValue9
 t20 := Tryz.underlying20
 a20 := Tryz.isAgg20
 z20 := Tryz.sizeOf20
 v20 := Tryz.zeroValue20
 t31 := Tryz.underlying41
 a31 := Tryz.isAgg41
 z31 := Tryz.sizeOf41
 v31 := Tryz.zeroValue41
 t37 := Tryz.underlying58
 a37 := Tryz.isAgg58
 z37 := Tryz.sizeOf58
 v37 := Tryz.zeroValue58
 t70 := Tryz.underlying67
 a70 := Tryz.isAgg67
 z70 := Tryz.sizeOf67
 v70 := Tryz.zeroValue67
 t72 := Tryz.underlying69
 a72 := Tryz.isAgg69
 z72 := Tryz.sizeOf69
 v72 := Tryz.zeroValue69
 t75 := Tryz.underlying73
 a75 := Tryz.isAgg73
 z75 := Tryz.sizeOf73
 v75 := Tryz.zeroValue73
 t76 := Tryz.underlying74
 a76 := Tryz.isAgg74
 z76 := Tryz.sizeOf74
 v76 := Tryz.zeroValue74
 t127 := Tryz.underlying110
 a127 := Tryz.isAgg110
 z127 := Tryz.sizeOf110
 v127 := Tryz.zeroValue110
 t164 := Tryz.underlying128
 a164 := Tryz.isAgg128
 z164 := Tryz.sizeOf128
 v164 := Tryz.zeroValue128 }
theorem Tryz.Builder_Extra_156 : Builder.Extra Tryz.prog Tryz.lays156_ren := {
 sizeBuilder := by kernel_rfl
 liesBuilder := by kernel_rfl
 t5 := Tryz.underlying5
 a5 := Tryz.isAgg5
 z5 := Tryz.sizeOf5
 v5 := Tryz.zeroValue5
 infoByte := by kernel_rfl
 cellsByte := by kernel_rfl
 sizeByte := by kernel_rfl
 neB5 := by decide }
open Go.RowKit in
theorem Tryz.strings_Join (bk o c : Nat) (xs : List ByteArray) (sep : ByteArray) (w : World) (hcells : ∀ (j : Nat) x, xs[j]? = some x -> w.cell? ⟨bk, o + j, none⟩ = some (.string x)) (hbk : bk < w.heap.size) (hN : xs.length <= 140737488355328) (hcap : xs.length <= c) (hlen : (Lib.join (xs.map (·.data.toList)) sep.data.toList).length <= 140737488355328) :
  Calls Tryz.prog 15 #[.slice (some ⟨bk, o, none⟩) xs.length c, .string sep] w λ e w' => e = .returned (.string ⟨(Lib.join (xs.map (·.data.toList)) sep.data.toList).toArray⟩) /\ Below w.heap.size w w' := Any.strings_Join Tryz.lays156 Tryz.Builder_Extra_156 bk o c xs sep w hcells hbk hN hcap hlen
def Tryz.laysM171_ren : Go.Shelf.Ren := ⟨fun | 171 => 41 | 243 => 70 | 246 => 86 | 283 => 94 | 284 => 95 | 285 => 96 | 286 => 97 | 129 => 105 | 317 => 104 | 318 => 106 | 319 => 107 | 320 => 108 | 337 => 116 | 338 => 117 | n => n, fun | 3 => 3 | 9 => 9 | 2 => 2 | 4 => 4 | 171 => 152 | 0 => 0 | 53 => 115 | 37 => 58 | 5 => 5 | 173 => 155 | 212 => 162 | 51 => 53 | 20 => 20 | 213 => 163 | 46 => 147 | 232 => 56 | 233 => 176 | n => n, fun | 17 => 1 | 18 => 4 | 19 => 5 | n => n⟩
theorem Tryz.laysM171 : Go.Proofs.LaysM.n171 Tryz.prog Tryz.laysM171_ren := {
 mixed := by kernel_rfl
 f129 := Tryz.func105.trans (congrArg some (by kernel_rfl))
 f171 := Tryz.func41.trans (congrArg some (by kernel_rfl))
 f243 := Tryz.func70.trans (congrArg some (by kernel_rfl))
 f246 := Tryz.func86.trans (congrArg some (by kernel_rfl))
 f283 := Tryz.func94.trans (congrArg some (by kernel_rfl))
 f284 := Tryz.func95.trans (congrArg some (by kernel_rfl))
 f285 := Tryz.func96.trans (congrArg some (by kernel_rfl))
 f286 := Tryz.func97.trans (congrArg some (by kernel_rfl))
 f317 := Tryz.func104.trans (congrArg some (by kernel_rfl))
 f318 := Tryz.func106.trans (congrArg some (by kernel_rfl))
 f319 := Tryz.func107.trans (congrArg some (by kernel_rfl))
 f320 := Tryz.func108.trans (congrArg some (by kernel_rfl))
 f337 := Tryz.func116.trans (congrArg some (by kernel_rfl))
 f338 := Tryz.func117.trans (congrArg some (by kernel_rfl))
 t0 := Tryz.underlying0
 a0 := Tryz.isAgg0
 z0 := Tryz.sizeOf0
 v0 := Tryz.zeroValue0
 t2 := Tryz.underlying2
 a2 := Tryz.isAgg2
 z2 := Tryz.sizeOf2
 v2 := Tryz.zeroValue2
 t3 := Tryz.underlying3
 a3 := Tryz.isAgg3
 z3 := Tryz.sizeOf3
 v3 := Tryz.zeroValue3
 t4 := Tryz.underlying4
 a4 := Tryz.isAgg4
 z4 := Tryz.sizeOf4
 v4 := Tryz.zeroValue4
 t5 := Tryz.underlying5
 a5 := Tryz.isAgg5
 z5 := Tryz.sizeOf5
 v5 := Tryz.zeroValue5
 t9 := Tryz.underlying9
 a9 := Tryz.isAgg9
 z9 := Tryz.sizeOf9
 v9 := Tryz.zeroValue9
 t20 := Tryz.underlying20
 a20 := Tryz.isAgg20
 z20 := Tryz.sizeOf20
 v20 := Tryz.zeroValue20
 t37 := Tryz.underlying58
 a37 := Tryz.isAgg58
 z37 := Tryz.sizeOf58
 v37 := Tryz.zeroValue58
 t46 := Tryz.underlying147
 a46 := Tryz.isAgg147
 z46 := Tryz.sizeOf147
 v46 := Tryz.zeroValue147
 t51 := Tryz.underlying53
 a51 := Tryz.isAgg53
 z51 := Tryz.sizeOf53
 v51 := Tryz.zeroValue53
 t53 := Tryz.underlying115
 a53 := Tryz.isAgg115
 z53 := Tryz.sizeOf115
 v53 := Tryz.zeroValue115
 t171 := Tryz.underlying152
 a171 := Tryz.isAgg152
 z171 := Tryz.sizeOf152
 v171 := Tryz.zeroValue152
 t173 := Tryz.underlying155
 a173 := Tryz.isAgg155
 z173 := Tryz.sizeOf155
 v173 := Tryz.zeroValue155
 t212 := Tryz.underlying162
 a212 := Tryz.isAgg162
 z212 := Tryz.sizeOf162
 v212 := Tryz.zeroValue162
 t213 := Tryz.underlying163
 a213 := Tryz.isAgg163
 z213 := Tryz.sizeOf163
 t232 := Tryz.underlying56
 a232 := Tryz.isAgg56
 z232 := Tryz.sizeOf56
 v232 := Tryz.zeroValue56
 t233 := Tryz.underlying176
 a233 := Tryz.isAgg176
 z233 := Tryz.sizeOf176
 v233 := Tryz.zeroValue176
 g17 := by kernel_rfl
 g18 := by kernel_rfl
 g19 := by kernel_rfl
 i0 := by kernel_rfl
 i2 := by kernel_rfl
 i3 := by kernel_rfl
 i4 := by kernel_rfl
 i5 := by kernel_rfl
 i9 := by kernel_rfl
 i20 := by kernel_rfl
 i37 := by kernel_rfl
 i46 := by kernel_rfl
 i51 := by kernel_rfl
 i53 := by kernel_rfl
 i171 := by kernel_rfl
 i173 := by kernel_rfl
 i212 := by kernel_rfl
 i232 := by kernel_rfl
 i233 := by kernel_rfl
 m17 := by kernel_rfl
 m18 := by kernel_rfl
 m19 := by kernel_rfl }
open Go.RowKit Go.Sort Go.Lib in
theorem Tryz.strconv_Itoa (n : Int) (h0 : -9223372036854775808 <= n) (h1 : n <= 9223372036854775807) (w : World) (htab : Lib.TabIs Tryz.prog w "internal/strconv.uint64pow10" .u64 Lib.pow10Tab) :
  Calls Tryz.prog 41 #[.int .i64 n] w λ e w' => e = .returned (.string ⟨(Lib.itoa n).toArray⟩) /\ ∃ k os, w' = grow (w.drewN k) os := Any.strconv_Itoa Tryz.laysM171 n h0 h1 w htab
def Tryz.laysC245_ren : Go.Shelf.Ren := ⟨fun | 245 => 101 | 279 => 110 | 280 => 111 | 281 => 112 | 282 => 113 | 316 => 118 | 171 => 41 | 205 => 119 | 243 => 70 | 246 => 86 | 283 => 94 | 284 => 95 | 285 => 96 | 286 => 97 | 129 => 105 | 317 => 104 | 318 => 106 | 319 => 107 | 320 => 108 | 337 => 116 | 338 => 117 | n => n, fun | 9 => 9 | 3 => 3 | 75 => 73 | 167 => 166 | 4 => 4 | 168 => 169 | 210 => 174 | 37 => 58 | 0 => 0 | 127 => 110 | 145 => 179 | 143 => 177 | 2 => 2 | 171 => 152 | 53 => 115 | 5 => 5 | 173 => 155 | 212 => 162 | 51 => 53 | 20 => 20 | 213 => 163 | 46 => 147 | 232 => 56 | 233 => 176 | 80 => 80 | n => n, fun | 15 => 2 | 16 => 3 | 17 => 1 | 18 => 4 | 19 => 5 | n => n⟩
theorem Tryz.laysC245 : Go.Proofs.LaysC.n245 Tryz.prog Tryz.laysC245_ren := {
 mixed := by kernel_rfl
 f129 := Tryz.func105.trans (congrArg some (by kernel_rfl))
 f171 := Tryz.func41.trans (congrArg some (by kernel_rfl))
 f205 := Tryz.func119.trans (congrArg some (by kernel_rfl))
 f243 := Tryz.func70.trans (congrArg some (by kernel_rfl))
 f245 := Tryz.func101.trans (congrArg some (by kernel_rfl))
 f246 := Tryz.func86.trans (congrArg some (by kernel_rfl))
 f279 := Tryz.func110.trans (congrArg some (by kernel_rfl))
 f280 := Tryz.func111.trans (congrArg some (by kernel_rfl))
 f281 := Tryz.func112.trans (congrArg some (by kernel_rfl))
 f282 := Tryz.func113.trans (congrArg some (by kernel_rfl))
 f283 := Tryz.func94.trans (congrArg some (by kernel_rfl))
 f284 := Tryz.func95.trans (congrArg some (by kernel_rfl))
 f285 := Tryz.func96.trans (congrArg some (by kernel_rfl))
 f286 := Tryz.func97.trans (congrArg some (by kernel_rfl))
 f316 := Tryz.func118.trans (congrArg some (by kernel_rfl))
 f317 := Tryz.func104.trans (congrArg some (by kernel_rfl))
 f318 := Tryz.func106.trans (congrArg some (by kernel_rfl))
 f319 := Tryz.func107.trans (congrArg some (by kernel_rfl))
 f320 := Tryz.func108.trans (congrArg some (by kernel_rfl))
 f337 := Tryz.func116.trans (congrArg some (by kernel_rfl))
 f338 := Tryz.func117.trans (congrArg some (by kernel_rfl))
 t0 := Tryz.underlying0
 a0 := Tryz.isAgg0
 z0 := Tryz.sizeOf0
 v0 := Tryz.zeroValue0
 t2 := Tryz.underlying2
 a2 := Tryz.isAgg2
 z2 := Tryz.sizeOf2
 v2 := Tryz.zeroValue2
 t3 := Tryz.underlying3
 a3 := Tryz.isAgg3
 z3 := Tryz.sizeOf3
 v3 := Tryz.zeroValue3
 t4 := Tryz.underlying4
 a4 := Tryz.isAgg4
 z4 := Tryz.sizeOf4
 v4 := Tryz.zeroValue4
 t5 := Tryz.underlying5
 a5 := Tryz.isAgg5
 z5 := Tryz.sizeOf5
 v5 := Tryz.zeroValue5
 t9 := Tryz.underlying9
 a9 := Tryz.isAgg9
 z9 := Tryz.sizeOf9
 v9 := Tryz.zeroValue9
 t20 := Tryz.underlying20
 a20 := Tryz.isAgg20
 z20 := Tryz.sizeOf20
 v20 := Tryz.zeroValue20
 t37 := Tryz.underlying58
 a37 := Tryz.isAgg58
 z37 := Tryz.sizeOf58
 v37 := Tryz.zeroValue58
 t46 := Tryz.underlying147
 a46 := Tryz.isAgg147
 z46 := Tryz.sizeOf147
 v46 := Tryz.zeroValue147
 t51 := Tryz.underlying53
 a51 := Tryz.isAgg53
 z51 := Tryz.sizeOf53
 v51 := Tryz.zeroValue53
 t53 := Tryz.underlying115
 a53 := Tryz.isAgg115
 z53 := Tryz.sizeOf115
 v53 := Tryz.zeroValue115
 t75 := Tryz.underlying73
 a75 := Tryz.isAgg73
 z75 := Tryz.sizeOf73
 v75 := Tryz.zeroValue73
 t127 := Tryz.underlying110
 a127 := Tryz.isAgg110
 z127 := Tryz.sizeOf110
 v127 := Tryz.zeroValue110
 t143 := Tryz.underlying177
 a143 := Tryz.isAgg177
 z143 := Tryz.sizeOf177
 v143 := Tryz.zeroValue177
 t145 := Tryz.underlying179
 a145 := Tryz.isAgg179
 z145 := Tryz.sizeOf179
 v145 := Tryz.zeroValue179
 t167 := Tryz.underlying166
 a167 := Tryz.isAgg166
 z167 := Tryz.sizeOf166
 v167 := Tryz.zeroValue166
 t168 := Tryz.underlying169
 a168 := Tryz.isAgg169
 z168 := Tryz.sizeOf169
 v168 := Tryz.zeroValue169
 t171 := Tryz.underlying152
 a171 := Tryz.isAgg152
 z171 := Tryz.sizeOf152
 v171 := Tryz.zeroValue152
 t173 := Tryz.underlying155
 a173 := Tryz.isAgg155
 z173 := Tryz.sizeOf155
 v173 := Tryz.zeroValue155
 t210 := Tryz.underlying174
 a210 := Tryz.isAgg174
 z210 := Tryz.sizeOf174
 v210 := Tryz.zeroValue174
 t212 := Tryz.underlying162
 a212 := Tryz.isAgg162
 z212 := Tryz.sizeOf162
 v212 := Tryz.zeroValue162
 t213 := Tryz.underlying163
 a213 := Tryz.isAgg163
 z213 := Tryz.sizeOf163
 t232 := Tryz.underlying56
 a232 := Tryz.isAgg56
 z232 := Tryz.sizeOf56
 v232 := Tryz.zeroValue56
 t233 := Tryz.underlying176
 a233 := Tryz.isAgg176
 z233 := Tryz.sizeOf176
 v233 := Tryz.zeroValue176
 g15 := by kernel_rfl
 g16 := by kernel_rfl
 g17 := by kernel_rfl
 g18 := by kernel_rfl
 g19 := by kernel_rfl
 t80 := Tryz.underlying80
 a80 := Tryz.isAgg80
 z80 := Tryz.sizeOf80
 v80 := Tryz.zeroValue80
 i0 := by kernel_rfl
 i2 := by kernel_rfl
 i3 := by kernel_rfl
 i4 := by kernel_rfl
 i5 := by kernel_rfl
 i9 := by kernel_rfl
 i20 := by kernel_rfl
 i37 := by kernel_rfl
 i46 := by kernel_rfl
 i51 := by kernel_rfl
 i53 := by kernel_rfl
 i75 := by kernel_rfl
 i80 := by kernel_rfl
 i127 := by kernel_rfl
 i143 := by kernel_rfl
 i145 := by kernel_rfl
 i167 := by kernel_rfl
 i168 := by kernel_rfl
 i171 := by kernel_rfl
 i173 := by kernel_rfl
 i210 := by kernel_rfl
 i212 := by kernel_rfl
 i232 := by kernel_rfl
 i233 := by kernel_rfl
 m15 := by kernel_rfl
 m16 := by kernel_rfl
 m17 := by kernel_rfl
 m18 := by kernel_rfl
 m19 := by kernel_rfl
 c0 := by kernel_rfl
 c2 := by kernel_rfl
 c3 := by kernel_rfl
 c4 := by kernel_rfl
 c5 := by kernel_rfl
 c9 := by kernel_rfl
 c20 := by kernel_rfl
 c37 := by kernel_rfl
 c46 := by kernel_rfl
 c51 := by kernel_rfl
 c53 := by kernel_rfl
 c75 := by kernel_rfl
 c80 := by kernel_rfl
 c127 := by kernel_rfl
 c143 := by kernel_rfl
 c145 := by kernel_rfl
 c167 := by kernel_rfl
 c168 := by kernel_rfl
 c171 := by kernel_rfl
 c173 := by kernel_rfl
 c210 := by kernel_rfl
 c212 := by kernel_rfl
 c213 := by kernel_rfl
 c232 := by kernel_rfl
 c233 := by kernel_rfl }
open Go.RowKit in
theorem Tryz.strconv_toError_syntax (fn s : ByteArray) (base bits : Int) (ev : Value) (w : World) (hlim : s.size <= 281474976710656) (hv : w.cell? ⟨2, 0, none⟩ = some ev) (hev : ev = .nilIface ∨ ∃ te pe, ev = .iface te pe) :
  Calls Tryz.prog 101 #[.string fn, .string s, .int .i64 base, .int .i64 bits, .iface 166 (.int .i64 2)] w λ e w' => ∃ N, e = .returned (.iface 169 (.pointer (some ⟨N, 0, none⟩))) /\ w.heap.size <= N /\ w'.heap[N]? = some (.cells #[.string fn, .string s, ev] 174 (0, 0)) /\ Below w.heap.size w w' := Any.strconv_toError_syntax Tryz.laysC245 fn s base bits ev w hlim hv hev
def Tryz.laysC172_ren : Go.Shelf.Ren := ⟨fun | 172 => 91 | 244 => 100 | 245 => 101 | 247 => 109 | 279 => 110 | 280 => 111 | 281 => 112 | 282 => 113 | 287 => 102 | 316 => 118 | 171 => 41 | 205 => 119 | 321 => 114 | 322 => 115 | 243 => 70 | 246 => 86 | 283 => 94 | 284 => 95 | 285 => 96 | 286 => 97 | 129 => 105 | 317 => 104 | 318 => 106 | 319 => 107 | 320 => 108 | 337 => 116 | 338 => 117 | n => n, fun | 9 => 9 | 3 => 3 | 75 => 73 | 76 => 74 | 4 => 4 | 5 => 5 | 167 => 166 | 37 => 58 | 0 => 0 | 85 => 167 | 2 => 2 | 168 => 169 | 53 => 115 | 175 => 150 | 46 => 147 | 210 => 174 | 127 => 110 | 145 => 179 | 143 => 177 | 21 => 21 | 171 => 152 | 173 => 155 | 212 => 162 | 51 => 53 | 20 => 20 | 213 => 163 | 232 => 56 | 233 => 176 | 80 => 80 | n => n, fun | 15 => 2 | 16 => 3 | 17 => 1 | 18 => 4 | 19 => 5 | n => n⟩
theorem Tryz.laysC172 : Go.Proofs.LaysC.n172 Tryz.prog Tryz.laysC172_ren := {
 mixed := by kernel_rfl
 f129 := Tryz.func105.trans (congrArg some (by kernel_rfl))
 f171 := Tryz.func41.trans (congrArg some (by kernel_rfl))
 f172 := Tryz.func91.trans (congrArg some (by kernel_rfl))
 f205 := Tryz.func119.trans (congrArg some (by kernel_rfl))
 f243 := Tryz.func70.trans (congrArg some (by kernel_rfl))
 f244 := Tryz.func100.trans (congrArg some (by kernel_rfl))
 f245 := Tryz.func101.trans (congrArg some (by kernel_rfl))
 f246 := Tryz.func86.trans (congrArg some (by kernel_rfl))
 f247 := Tryz.func109.trans (congrArg some (by kernel_rfl))
 f279 := Tryz.func110.trans (congrArg some (by kernel_rfl))
 f280 := Tryz.func111.trans (congrArg some (by kernel_rfl))
 f281 := Tryz.func112.trans (congrArg some (by kernel_rfl))
 f282 := Tryz.func113.trans (congrArg some (by kernel_rfl))
 f283 := Tryz.func94.trans (congrArg some (by kernel_rfl))
 f284 := Tryz.func95.trans (congrArg some (by kernel_rfl))
 f285 := Tryz.func96.trans (congrArg some (by kernel_rfl))
 f286 := Tryz.func97.trans (congrArg some (by kernel_rfl))
 f287 := Tryz.func102.trans (congrArg some (by kernel_rfl))
 f316 := Tryz.func118.trans (congrArg some (by kernel_rfl))
 f317 := Tryz.func104.trans (congrArg some (by kernel_rfl))
 f318 := Tryz.func106.trans (congrArg some (by kernel_rfl))
 f319 := Tryz.func107.trans (congrArg some (by kernel_rfl))
 f320 := Tryz.func108.trans (congrArg some (by kernel_rfl))
 f321 := Tryz.func114.trans (congrArg some (by kernel_rfl))
 f322 := Tryz.func115.trans (congrArg some (by kernel_rfl))
 f337 := Tryz.func116.trans (congrArg some (by kernel_rfl))
 f338 := Tryz.func117.trans (congrArg some (by kernel_rfl))
 t0 := Tryz.underlying0
 a0 := Tryz.isAgg0
 z0 := Tryz.sizeOf0
 v0 := Tryz.zeroValue0
 t2 := Tryz.underlying2
 a2 := Tryz.isAgg2
 z2 := Tryz.sizeOf2
 v2 := Tryz.zeroValue2
 t3 := Tryz.underlying3
 a3 := Tryz.isAgg3
 z3 := Tryz.sizeOf3
 v3 := Tryz.zeroValue3
 t4 := Tryz.underlying4
 a4 := Tryz.isAgg4
 z4 := Tryz.sizeOf4
 v4 := Tryz.zeroValue4
 t5 := Tryz.underlying5
 a5 := Tryz.isAgg5
 z5 := Tryz.sizeOf5
 v5 := Tryz.zeroValue5
 t9 := Tryz.underlying9
 a9 := Tryz.isAgg9
 z9 := Tryz.sizeOf9
 v9 := Tryz.zeroValue9
 t20 := Tryz.underlying20
 a20 := Tryz.isAgg20
 z20 := Tryz.sizeOf20
 v20 := Tryz.zeroValue20
 t21 := Tryz.underlying21
 a21 := Tryz.isAgg21
 z21 := Tryz.sizeOf21
 v21 := Tryz.zeroValue21
 t37 := Tryz.underlying58
 a37 := Tryz.isAgg58
 z37 := Tryz.sizeOf58
 v37 := Tryz.zeroValue58
 t46 := Tryz.underlying147
 a46 := Tryz.isAgg147
 z46 := Tryz.sizeOf147
 v46 := Tryz.zeroValue147
 t51 := Tryz.underlying53
 a51 := Tryz.isAgg53
 z51 := Tryz.sizeOf53
 v51 := Tryz.zeroValue53
 t53 := Tryz.underlying115
 a53 := Tryz.isAgg115
 z53 := Tryz.sizeOf115
 v53 := Tryz.zeroValue115
 t75 := Tryz.underlying73
 a75 := Tryz.isAgg73
 z75 := Tryz.sizeOf73
 v75 := Tryz.zeroValue73
 t76 := Tryz.underlying74
 a76 := Tryz.isAgg74
 z76 := Tryz.sizeOf74
 v76 := Tryz.zeroValue74
 t85 := Tryz.underlying167
 a85 := Tryz.isAgg167
 z85 := Tryz.sizeOf167
 v85 := Tryz.zeroValue167
 t127 := Tryz.underlying110
 a127 := Tryz.isAgg110
 z127 := Tryz.sizeOf110
 v127 := Tryz.zeroValue110
 t143 := Tryz.underlying177
 a143 := Tryz.isAgg177
 z143 := Tryz.sizeOf177
 v143 := Tryz.zeroValue177
 t145 := Tryz.underlying179
 a145 := Tryz.isAgg179
 z145 := Tryz.sizeOf179
 v145 := Tryz.zeroValue179
 t167 := Tryz.underlying166
 a167 := Tryz.isAgg166
 z167 := Tryz.sizeOf166
 v167 := Tryz.zeroValue166
 t168 := Tryz.underlying169
 a168 := Tryz.isAgg169
 z168 := Tryz.sizeOf169
 v168 := Tryz.zeroValue169
 t171 := Tryz.underlying152
 a171 := Tryz.isAgg152
 z171 := Tryz.sizeOf152
 v171 := Tryz.zeroValue152
 t173 := Tryz.underlying155
 a173 := Tryz.isAgg155
 z173 := Tryz.sizeOf155
 v173 := Tryz.zeroValue155
 t175 := Tryz.underlying150
 a175 := Tryz.isAgg150
 z175 := Tryz.sizeOf150
 v175 := Tryz.zeroValue150
 t210 := Tryz.underlying174
 a210 := Tryz.isAgg174
 z210 := Tryz.sizeOf174
 v210 := Tryz.zeroValue174
 t212 := Tryz.underlying162
 a212 := Tryz.isAgg162
 z212 := Tryz.sizeOf162
 v212 := Tryz.zeroValue162
 t213 := Tryz.underlying163
 a213 := Tryz.isAgg163
 z213 := Tryz.sizeOf163
 t232 := Tryz.underlying56
 a232 := Tryz.isAgg56
 z232 := Tryz.sizeOf56
 v232 := Tryz.zeroValue56
 t233 := Tryz.underlying176
 a233 := Tryz.isAgg176
 z233 := Tryz.sizeOf176
 v233 := Tryz.zeroValue176
 g15 := by kernel_rfl
 g16 := by kernel_rfl
 g17 := by kernel_rfl
 g18 := by kernel_rfl
 g19 := by kernel_rfl
 t80 := Tryz.underlying80
 a80 := Tryz.isAgg80
 z80 := Tryz.sizeOf80
 v80 := Tryz.zeroValue80
 i0 := by kernel_rfl
 i2 := by kernel_rfl
 i3 := by kernel_rfl
 i4 := by kernel_rfl
 i5 := by kernel_rfl
 i9 := by kernel_rfl
 i20 := by kernel_rfl
 i21 := by kernel_rfl
 i37 := by kernel_rfl
 i46 := by kernel_rfl
 i51 := by kernel_rfl
 i53 := by kernel_rfl
 i75 := by kernel_rfl
 i76 := by kernel_rfl
 i80 := by kernel_rfl
 i85 := by kernel_rfl
 i127 := by kernel_rfl
 i143 := by kernel_rfl
 i145 := by kernel_rfl
 i167 := by kernel_rfl
 i168 := by kernel_rfl
 i171 := by kernel_rfl
 i173 := by kernel_rfl
 i175 := by kernel_rfl
 i210 := by kernel_rfl
 i212 := by kernel_rfl
 i232 := by kernel_rfl
 i233 := by kernel_rfl
 m15 := by kernel_rfl
 m16 := by kernel_rfl
 m17 := by kernel_rfl
 m18 := by kernel_rfl
 m19 := by kernel_rfl
 c0 := by kernel_rfl
 c2 := by kernel_rfl
 c3 := by kernel_rfl
 c4 := by kernel_rfl
 c5 := by kernel_rfl
 c9 := by kernel_rfl
 c20 := by kernel_rfl
 c21 := by kernel_rfl
 c37 := by kernel_rfl
 c46 := by kernel_rfl
 c51 := by kernel_rfl
 c53 := by kernel_rfl
 c75 := by kernel_rfl
 c76 := by kernel_rfl
 c80 := by kernel_rfl
 c85 := by kernel_rfl
 c127 := by kernel_rfl
 c143 := by kernel_rfl
 c145 := by kernel_rfl
 c167 := by kernel_rfl
 c168 := by kernel_rfl
 c171 := by kernel_rfl
 c173 := by kernel_rfl
 c175 := by kernel_rfl
 c210 := by kernel_rfl
 c212 := by kernel_rfl
 c213 := by kernel_rfl
 c232 := by kernel_rfl
 c233 := by kernel_rfl }
open Go.RowKit in
theorem Tryz.strconv_Atoi_ok (s : ByteArray) (hmax : s.size <= 9223372036854775806) (v : Int) (h : Lib.atoiAll s.data.toList = .ok v) (w : World) :
  Calls Tryz.prog 91 #[.string s] w λ e w' => e = .returned (.tuple #[.int .i64 v, .nilIface]) /\ (w' = w ∨ ∃ t, w' = Lib.bytesWorld w 5 t) := Any.strconv_Atoi_ok Tryz.laysC172 s hmax v h w
open Go.RowKit in
theorem Tryz.strconv_Atoi_syntax (s : ByteArray) (hlim : s.size <= 281474976710656) (h : Lib.atoiAll s.data.toList = Lib.atoiAll []) (ev : Value) (w : World) (hv : w.cell? ⟨2, 0, none⟩ = some ev) (hev : ev = .nilIface ∨ ∃ te pe, ev = .iface te pe) :
  Calls Tryz.prog 91 #[.string s] w λ e w' => ∃ N, e = .returned (.tuple #[.int .i64 (0), .iface 169 (.pointer (some ⟨N, 0, none⟩))]) /\ w.heap.size <= N /\ w'.heap[N]? = some (.cells #[.string ⟨#[65, 116, 111, 105]⟩, .string s, ev] 174 (0, 0)) /\ Below w.heap.size w w' := Any.strconv_Atoi_syntax Tryz.laysC172 s hlim h ev w hv hev
open Go.RowKit in
theorem Tryz.strconv_Atoi_range (s : ByteArray) (hlim : s.size <= 281474976710656) (h : Lib.atoiAll s.data.toList = .range) (ev : Value) (w : World) (hv : w.cell? ⟨3, 0, none⟩ = some ev) (hev : ev = .nilIface ∨ ∃ te pe, ev = .iface te pe) :
  Calls Tryz.prog 91 #[.string s] w λ e w' => ∃ N, e = .returned (.tuple #[.int .i64 (Lib.atoiSat s.data.toList), .iface 169 (.pointer (some ⟨N, 0, none⟩))]) /\ w.heap.size <= N /\ w'.heap[N]? = some (.cells #[.string ⟨#[65, 116, 111, 105]⟩, .string s, ev] 174 (0, 0)) /\ Below w.heap.size w w' := Any.strconv_Atoi_range Tryz.laysC172 s hlim h ev w hv hev
end Go.Proofs

namespace Go.Proofs.Sz
open Go Go.Am Go.SP
theorem mixed : Tryz.prog.follows .mixedOrders = true := by kernel_rfl
def pow10 (i : Nat) : Int := 10 ^ i
def gvar : Nat -> Option AV
 | 1 => some (.agg [.iarr .u64 20 pow10])
 | 2 => some (.ifc 177 .any)
 | 3 => some (.ifc 177 .any)
 | _ => none
instance : Inhabited GlT := ⟨⟨gvar⟩⟩
theorem gEq_true (b : Bool) : gEq b true = b := rfl
theorem gEq_false (b : Bool) : gEq b false = !b := rfl
theorem nonneg_iff (a b : Int) : (b - a).NonNeg ↔ a <= b := Iff.rfl
theorem natle_iff (a b : Nat) : Nat.le a b ↔ a <= b := Iff.rfl
theorem cond_bt (a b : Bool) : (bif a then true else b) = (a || b) := by cases a <;> rfl
theorem cond_bf (a b : Bool) : (bif a then b else false) = (a && b) := by cases a <;> rfl
theorem wrap64 {x : Int} (h0 : -9223372036854775808 <= x) (h1 : x <= 9223372036854775807) : IntKind.i64.wrap x = x := by
 simp only [IntKind.wrap, IntKind.signed, IntKind.bits]; simp; omega
theorem wrapu64 {x : Int} (h0 : 0 <= x) (h1 : x <= 18446744073709551615) : IntKind.u64.wrap x = x := by
 simp only [IntKind.wrap, IntKind.signed, IntKind.bits]; simp; omega
theorem wrapu8 {x : Int} (h0 : 0 <= x) (h1 : x <= 255) : IntKind.u8.wrap x = x := by
 simp only [IntKind.wrap, IntKind.signed, IntKind.bits]; simp; omega
theorem wrapu32 {x : Int} (h0 : 0 <= x) (h1 : x <= 4294967295) : IntKind.u32.wrap x = x := by
 simp only [IntKind.wrap, IntKind.signed, IntKind.bits]; simp; omega
theorem maxLen_eq : maxLen = 9223372036854775807 := by decide
theorem mkS {f : FuncId} {fn : Func} {args : List AV} {R : AV -> List LObj -> Prop} {C : Table} {an : List Ann} {lt : Bool} {X : Prop}
  (v : vcA false lt 0 [] Tryz.prog C (fn.body.getD .skip) an (finalK Tryz.prog fn R) (startSt fn args) = X) (hC : TableOk Tryz.prog C) (hf : Tryz.prog.funcs[f]? = some fn) (hb : fn.body = some (fn.body.getD .skip)) (h : X) : Am.Spec Tryz.prog f args R :=
 spec_of_code hf hb (vcA_sound hC mixed _ (λ _ => rfl) (v ▸ h))
theorem mkH {f : FuncId} {fn : Func} {H0 : List LObj} {args : List AV} {R : AV -> List LObj -> Prop} {C : Table} {an : List Ann} {lt : Bool} {X : Prop}
  (v : vcA false lt (List.length (H0 : List LObj)) [] Tryz.prog C (fn.body.getD .skip) an (finalKH Tryz.prog fn R) (startStH fn H0 args) = X) (hC : TableOk Tryz.prog C) (hf : Tryz.prog.funcs[f]? = some fn) (hb : fn.body = some (fn.body.getD .skip)) (h : X) : Am.SpecH Tryz.prog f H0 args R :=
 spec_of_codeH hf hb (vcA_sound hC mixed _ (λ _ => rfl) (v ▸ h))
theorem ac {f : FuncId} {e : Ent} {r : List (FuncId × Ent)} (h : EntOk Tryz.prog f e) (k : AllE Tryz.prog r) : AllE Tryz.prog ((f, e) :: r) := ⟨h, k⟩
theorem az : AllE Tryz.prog [] := trivial
theorem tb {L : List (FuncId × Ent)} (h : AllE Tryz.prog L) : TableOk Tryz.prog (mkTab L []) := mkTab_ok h trivial
def TItoa : Trans := λ args K => match args with
 | [.pl (.int .i64 n)] => (-9223372036854775808 <= n /\ n <= 9223372036854775807) /\ K (sl (Lib.itoa n)) []
 | _ => False
theorem XItoa : EntOk Tryz.prog 41 (.lend TItoa) := by
 refine ⟨Am.enters_of Tryz.func41 (by kernel_rfl) (by kernel_rfl), λ args R h => ?_⟩
 unfold TItoa at h
 split at h
 ·rename_i n
  obtain ⟨⟨h0, h1⟩, h⟩ := h
  refine spec_of_calls λ E0 vs hG hF hl hr => ?_
  match vs, hl with
  | [v], _ =>
   obtain rfl := repV_int (hr 0 v _ rfl rfl)
   refine (Tryz.strconv_Itoa n h0 h1 E0.w (hG.tab (g := 1) (f := pow10) (n := 20) rfl (by kernel_rfl) (by omega) (by decide) (λ i hi => ?_))).mono ?_
   ·revert i
    decide
   ·rintro e w' ⟨rfl, k, os, rfl⟩
    have h9 : RowKit.Below E0.w.heap.size E0.w (E0.w.drewN k) := ⟨rfl, rfl, rfl, Nat.le_refl _, λ _ _ => rfl⟩
    exact ⟨_, _, rfl, h, below_grow h9 (Nat.le_refl _) _, λ E => Rep.pl _ rfl⟩
 ·exact h.elim
def TAtoi : Trans := λ args K => match args with
 | [.pl (.string s)] => s.size <= 281474976710656 /\ ((atoiV s.data.toList).2 = true -> K (.tup [nm (atoiV s.data.toList).1, .ifc 169 .any]) []) /\ ((atoiV s.data.toList).2 = false -> K (.tup [nm (atoiV s.data.toList).1, .pl .nilIface]) [])
 | _ => False
theorem XAtoi : EntOk Tryz.prog 91 (.lend TAtoi) := by
 refine ⟨Am.enters_of Tryz.func91 (by kernel_rfl) (by kernel_rfl), λ args R h => ?_⟩
 unfold TAtoi at h
 split at h
 ·rename_i s
  obtain ⟨hs, h1, h2⟩ := h
  refine spec_of_calls λ E0 vs hG hF hl hr => ?_
  have two : ∀ (a b : Value) (x y : AV), (∀ E, RepV1 E a x) -> (∀ E, RepV1 E b y) -> ∀ E, RepV E (.tuple #[a, b]) (.tup [x, y]) := λ a b x y ha hb E => rep_tup2 (ha E) (hb E)
  match vs, hl with
  | [v], _ =>
   obtain rfl := repV_pl (hr 0 v _ rfl rfl)
   rcases hA : Lib.atoiAll s.data.toList with v | _ | _
   ·
    refine (Tryz.strconv_Atoi_ok s (by omega) v hA E0.w).mono ?_
    rintro e w' ⟨rfl, hw⟩
    have hb : RowKit.Below E0.w.heap.size E0.w w' := by
     rcases hw with rfl | ⟨t, rfl⟩
     ·exact RowKit.Below.refl _ _
     ·exact below_bytes _ _ _
    have e1 : atoiV s.data.toList = (v, false) := by unfold atoiV; rw [hA]
    rw [e1] at h2
    exact ⟨_, _, rfl, h2 rfl, hb, two _ _ _ _ (λ E => Rep.pl _ rfl) (λ E => Rep.pl _ rfl)⟩
   ·
    obtain ⟨ev, hev⟩ := hG.cell (g := 2) rfl
    refine (Tryz.strconv_Atoi_syntax s hs hA _ E0.w hev (.inr ⟨_, _, rfl⟩)).mono ?_
    rintro e w' ⟨N, rfl, _, _, hb⟩
    have e1 : atoiV s.data.toList = (0, true) := by unfold atoiV; rw [hA]
    rw [e1] at h1
    exact ⟨_, _, rfl, h1 rfl, hb, two _ _ _ _ (λ E => Rep.pl _ rfl) (λ E => Rep.ifc rfl (.any _ rfl))⟩
   ·
    obtain ⟨ev, hev⟩ := hG.cell (g := 3) rfl
    refine (Tryz.strconv_Atoi_range s hs hA _ E0.w hev (.inr ⟨_, _, rfl⟩)).mono ?_
    rintro e w' ⟨N, rfl, _, _, hb⟩
    have e1 : atoiV s.data.toList = (Lib.atoiSat s.data.toList, true) := by unfold atoiV; rw [hA]
    rw [e1] at h1
    exact ⟨_, _, rfl, h1 rfl, hb, two _ _ _ _ (λ E => Rep.pl _ rfl) (λ E => Rep.ifc rfl (.any _ rfl))⟩
 ·exact h.elim
end Go.Proofs.Sz

namespace Go.Proofs.Sz
open Go Go.Am Go.SP
def FIdx : List LObj -> List AV -> Option (Prop × AV) := λ _ xs => match xs with
 | [.pl (.string s), .pl (.int .u8 c)] => some (0 <= c /\ c < 256, nm (idxL (UInt8.ofNat c.toNat) s.data.toList))
 | _ => none
theorem XIdx : EntOk Tryz.prog 98 (.ext FIdx) := by
 intro E0 E H vs xs p x g hl hr hF hp
 unfold FIdx at hF
 split at hF
 ·rename_i s c
  injection hF with hF
  simp only [Prod.mk.injEq] at hF
  obtain ⟨rfl, rfl⟩ := hF
  match vs, hl with
  | [u, v], _ =>
   obtain rfl := repV_pl (hr 0 u _ rfl rfl)
   obtain rfl := repV_int (hr 1 v _ rfl rfl)
   refine ⟨nmV (idxL (UInt8.ofNat c.toNat) s.data.toList), ?_, Rep.pl _ rfl⟩
   rw [run_callFunc_extern Tryz.func98 (by kernel_rfl) (by kernel_rfl) (by kernel_rfl) (e := Extern.BytealgIndexByte.indexByte) (by kernel_rfl)]
   have h1 : (List.range s.size).find? (λ i => s[i]! == c.toNat.toUInt8) = (List.range s.data.toList.length).find? (λ i => s.data.toList.getD i 0 == UInt8.ofNat c.toNat) := by
    have e1 : s.size = s.data.toList.length := by simp
    rw [e1]
    apply find_congr
    intro i hi
    have hi : i < s.data.toList.length := by simpa using hi
    have hi2 : i < s.size := by omega
    rw [getElem!_pos s i hi2, List.getD_eq_getElem?_getD, List.getElem?_eq_getElem hi]
    rfl
   have h2 := find_idx (UInt8.ofNat c.toNat) s.data.toList
   have hdef : Extern.BytealgIndexByte.indexByte #[.string s, .int .u8 c] = (match (List.range s.size).find? λ i => s[i]! == c.toNat.toUInt8 with
    | some i => pure (goInt i)
    | none => pure (goInt (-1)) : Sem Value) := rfl
   show ((Extern.BytealgIndexByte.indexByte #[.string s, .int .u8 c]).run Tryz.prog E.w).andThen _ = _
   rw [hdef, h1]
   cases hf : (List.range s.data.toList.length).find? (λ i => s.data.toList.getD i 0 == UInt8.ofNat c.toNat) with
   | some i => rw [hf] at h2; simp only [Sem.run_pure, Result.andThen_ok]; rw [<- h2]; rfl
   | none => rw [hf] at h2; simp only [Sem.run_pure, Result.andThen_ok]; rw [<- h2]; rfl
 ·cases hF
def TIdxB : Trans := λ args K => match args with
 | [.pl (.string s), .pl (.int .u8 c)] => (0 <= c /\ c < 256) /\ K (nm (idxL (UInt8.ofNat c.toNat) s.data.toList)) []
 | _ => False
def sepOf (p : ByteArray) : UInt8 := p.data.toList.getD 0 0
def TIndex : Trans := λ args K => match args with
 | [.pl (.string s), .pl (.string p)] => p.size = 1 /\ K (nm (idxL (sepOf p) s.data.toList)) []
 | _ => False
def TCut : Trans := λ args K => match args with
 | [.pl (.string s), .pl (.string p)] => (p.size = 1 /\ s.size <= 9223372036854775806) /\ K (.tup [sl (cutL (sepOf p) s.data.toList).1, sl (cutL (sepOf p) s.data.toList).2.1, bl (cutL (sepOf p) s.data.toList).2.2]) []
 | _ => False
def THasPre : Trans := λ args K => match args with
 | [.pl (.string s), .pl (.string p)] => K (bl (p.data.toList.isPrefixOf s.data.toList)) []
 | _ => False
def TCutPre : Trans := λ args K => match args with
 | [.pl (.string s), .pl (.string p)] => K (.tup [sl (cutPre p.data.toList s.data.toList), bl (p.data.toList.isPrefixOf s.data.toList)]) []
 | _ => False
end Go.Proofs.Sz

namespace Go.Proofs.Sz
open Go Go.Am Go.SP
theorem vIdxB (l : Bs) (c : Int) (R : AV -> List LObj -> Prop) :
  (vcA false false 0 [] Tryz.prog (mkTab [(98, .ext FIdx)]) (Tryz.f87.body.getD .skip) ([]) (finalK Tryz.prog Tryz.f87 (R)) (startSt Tryz.f87 ([sl l, .pl (.int .u8 c)]))) = (
 ((0 : Int) <= c /\ c + (1 : Int) <= (256 : Int)) /\ (True /\ True) /\ True /\ R (nm (idxL (UInt8.ofNat c.toNat) l)) []) := by kernel_rfl
theorem XIdxB : EntOk Tryz.prog 87 (.lend TIdxB) := by
 refine ⟨Am.enters_of Tryz.func87 (by kernel_rfl) (by kernel_rfl), λ args R h => ?_⟩
 unfold TIdxB at h
 split at h
 ·rename_i s c
  obtain ⟨l, rfl⟩ : ∃ l, s = bs l := ⟨_, bs_of s⟩
  refine mkS (vIdxB l c R) (tb (ac XIdx az)) Tryz.func87 (by kernel_rfl) ?_
  simp only [true_and, and_true, and_self, implies_true, forall_const, gEq_true, gEq_false, nonneg_iff, natle_iff, decide_eq_true_eq, decide_eq_false_iff_not, Int.toNat_natCast, cond_bt, cond_bf, Bool.cond_true, Bool.cond_false, Bool.not_true, Bool.not_false, reduceCtorEq, false_implies, implies_true, Bool.true_eq_false, Bool.false_eq_true, Bool.not_eq_true', Bool.not_eq_false']
  exact h
 ·exact h.elim
theorem vIndex (l : Bs) (c : UInt8) (R : AV -> List LObj -> Prop) : (vcA false false 0 [] Tryz.prog (mkTab [(87, .lend TIdxB)]) (Tryz.f77.body.getD .skip) ([]) (finalK Tryz.prog Tryz.f77 (R)) (startSt Tryz.f77 ([sl l, sl
 [c]]))) = (let Q1 := (↑ (([c]).getD (Int.toNat 0) (0 : UInt8)).toNat : Int); let Q0 := (↑ (List.length [c]) : Int); let Q2 := (bif Q0 == 0 then true else (bs [c]).toList == (bs l).toList); (Q2 = true -> (True /\ True) /\
 True /\ R (nm 0) []) /\ (Q2 = false -> ((Q0 == 1) = true -> ((0 : Int) <= 0 /\ (0 : Int) + 1 <= Q0) /\ ((0 : Int) <= Q1 /\ Q1 + 1 <= 256) /\ (True /\ True) /\ True /\ R (nm (idxL (UInt8.ofNat Q1.toNat) l)) []) /\ ((Q0 ==
 1) = false -> (decide (Q0 ≥ (↑ l.length : Int)) = true -> (True /\ True) /\ True /\ R (nm (-1 : Int)) []) /\ (decide (Q0 ≥ (↑ l.length : Int)) = false -> False)))) := by kernel_rfl
theorem vCutL (l : Bs) (c : UInt8) (R : AV -> List LObj -> Prop) : (vcA false false 0 [] Tryz.prog (mkTab [(77, .lend TIndex)]) (Tryz.f64.body.getD .skip) ([]) (finalK Tryz.prog Tryz.f64 (R)) (startSt Tryz.f64 ([sl l, sl
 [c]]))) = (let Q3 := (True /\ True /\ True /\ True); let Q2 := ((0 : Int) <= 0 /\ (0 : Int) <= idxL (sepOf (bs [c])) l /\ idxL (sepOf (bs [c])) l <= (↑ l.length : Int)); let Q1 := (idxL (sepOf (bs [c])) l + (↑
 (List.length [c]) : Int)); let Q0 := ((0 : Int) <= k64Q.wrap Q1 /\ k64Q.wrap Q1 <= (↑ l.length : Int) /\ (↑ l.length : Int) <= (↑ l.length : Int)); (List.length [c]) = 1 /\ (decide (idxL (sepOf (bs [c])) l ≥ 0) = true ->
 Q2 /\ Q2 /\ Q0 /\ Q0 /\ Q3 /\ Q3 /\ R (AV.tup [AV.pl (Value.string ((bs l).extract (Int.toNat 0) (idxL (sepOf (bs [c])) l).toNat)), AV.pl (Value.string ((bs l).extract (k64Q.wrap Q1).toNat (↑ l.length : Int).toNat)), bl
 true]) []) /\ (decide (idxL (sepOf (bs [c])) l ≥ 0) = false -> Q3 /\ Q3 /\ R (AV.tup [sl l, AV.pl (Value.string (ByteArray.mk #[])), bl false]) [])) := by kernel_rfl
theorem vCut (l : Bs) (c : UInt8) (R : AV -> List LObj -> Prop) : (vcA false false 0 [] Tryz.prog (mkTab [(64, .lend TCut)]) (Tryz.f32.body.getD .skip) ([]) (finalK Tryz.prog Tryz.f32 (R)) (startSt Tryz.f32 ([sl l, sl
 [c]]))) = (((List.length [c]) = 1 /\ l.length.le (9223372036854775806 : Nat)) /\ (True /\ True /\ True /\ True) /\ (True /\ True /\ True /\ True) /\ R (AV.tup [sl (cutL (sepOf (bs [c])) l).1, sl (cutL (sepOf (bs [c]))
 l).2.1, bl (cutL (sepOf (bs [c])) l).2.2]) []) := by kernel_rfl
theorem vHasPre (l p : Bs) (R : AV -> List LObj -> Prop) : (vcA false false 0 [] Tryz.prog (mkTab []) (Tryz.f103.body.getD .skip) ([]) (finalK Tryz.prog Tryz.f103 (R)) (startSt Tryz.f103 ([sl l, sl p]))) = ((gEq (decide
 ((↑ l.length : Int) ≥ (↑ p.length : Int))) true = true -> ((0 : Int) <= 0 /\ (0 : Int) <= (↑ p.length : Int) /\ (↑ p.length : Int) <= (↑ l.length : Int)) /\ True) /\ (True /\ True) /\ True /\ R (bl (bif decide ((↑
 l.length : Int) ≥ (↑ p.length : Int)) then ((bs l).extract (Int.toNat 0) (↑ p.length : Int).toNat).toList == (bs p).toList else false)) []) := by kernel_rfl
theorem vCutPreL (l p : Bs) (R : AV -> List LObj -> Prop) : (vcA false false 0 [] Tryz.prog (mkTab [(103, .lend THasPre)]) (Tryz.f93.body.getD .skip) ([]) (finalK Tryz.prog Tryz.f93 (R)) (startSt Tryz.f93 ([sl l, sl
 p]))) = (let Q0 := (True /\ True /\ True); ((! p.isPrefixOf l) = true -> Q0 /\ Q0 /\ R (AV.tup [sl l, bl false]) []) /\ ((! p.isPrefixOf l) = false -> ((0 : Int) <= (↑ p.length : Int) /\ (↑ p.length : Int) <= (↑ l.length
 : Int) /\ (↑ l.length : Int) <= (↑ l.length : Int)) /\ Q0 /\ Q0 /\ R (AV.tup [AV.pl (Value.string ((bs l).extract (↑ p.length : Int).toNat (↑ l.length : Int).toNat)), bl true]) [])) := by kernel_rfl
theorem vCutPre (l p : Bs) (R : AV -> List LObj -> Prop) :
  (vcA false false 0 [] Tryz.prog (mkTab [(93, .lend TCutPre)]) (Tryz.f81.body.getD .skip) ([]) (finalK Tryz.prog Tryz.f81 (R)) (startSt Tryz.f81 ([sl l, sl p]))) = (
 (True /\ True /\ True) /\ (True /\ True /\ True) /\ R (AV.tup [sl (cutPre p l), bl (p.isPrefixOf l)]) []) := by kernel_rfl
theorem byte1 {p : ByteArray} (h : p.size = 1) : ∃ c, p = bs [c] := by
 obtain ⟨l, rfl⟩ : ∃ l, p = bs l := ⟨_, bs_of p⟩
 rw [bs_size] at h
 obtain ⟨c, rfl⟩ := List.length_eq_one_iff.1 h
 exact ⟨c, rfl⟩
theorem sep1 (c : UInt8) : sepOf (bs [c]) = c := by simp [sepOf]
theorem u8_of (c : UInt8) : UInt8.ofNat ((c.toNat : Int)).toNat = c := by simp
theorem u8_lt (c : UInt8) : (c.toNat : Int) + 1 <= 256 := by have := c.toNat_lt; omega
theorem XIndex : EntOk Tryz.prog 77 (.lend TIndex) := by
 refine ⟨Am.enters_of Tryz.func77 (by kernel_rfl) (by kernel_rfl), λ args R h => ?_⟩
 unfold TIndex at h
 split at h
 ·rename_i s p
  obtain ⟨l, rfl⟩ : ∃ l, s = bs l := ⟨_, bs_of s⟩
  obtain ⟨h1, h⟩ := h
  obtain ⟨c, rfl⟩ := byte1 h1
  refine mkS (vIndex l c R) (tb (ac XIdxB az)) Tryz.func77 (by kernel_rfl) ?_
  simp only [true_and, and_true, and_self, implies_true, forall_const, gEq_true, gEq_false, nonneg_iff, natle_iff, decide_eq_true_eq, decide_eq_false_iff_not, Int.toNat_natCast, cond_bt, cond_bf, Bool.cond_true, Bool.cond_false, Bool.not_true, Bool.not_false, reduceCtorEq, false_implies, implies_true, Bool.true_eq_false, Bool.false_eq_true, Bool.not_eq_true', Bool.not_eq_false', bs_size, bs_data, bs_toList, bs_extract, bs_append, bs_mk, byteF, sep1] at h ⊢
  have e0 : (([c] : Bs).length : Int) = 1 := rfl
  have e1 : (((1 : Int)) == 0) = false := rfl
  have e2 : (((1 : Int)) == 1) = true := rfl
  rw [e0, e1, e2]
  refine ⟨λ hb => ?_, λ hb => ⟨λ _ => ⟨⟨Int.le_refl _, by omega⟩, ⟨by omega, u8_lt _⟩, ?_⟩, λ h2 => by cases h2⟩⟩
  ·have : l = [c] := by
    simp only [Bool.false_or, beq_iff_eq] at hb
    exact hb.symm
   subst this
   have e3 : idxL c [c] = 0 := by simp [idxL, cutL]
   rw [e3] at h
   exact h
  ·have e4 : UInt8.ofNat (([c] : Bs).getD (Int.toNat 0) 0).toNat = c := by show UInt8.ofNat c.toNat = c; simp
   rw [e4]
   exact h
 ·exact h.elim
theorem idx_le (c : UInt8) (l : Bs) (h : 0 <= idxL c l) : idxL c l = ((cutL c l).1.length : Nat) /\ (cutL c l).2.2 = true /\ (cutL c l).1.length + 1 <= l.length := by
 cases hf : (cutL c l).2.2 with
 | true =>
  have h1 := congrArg List.length (cutL_found hf).1
  simp at h1
  exact ⟨idxL_found hf, rfl, by omega⟩
 | false => rw [idxL_none hf] at h; omega
theorem XCutL : EntOk Tryz.prog 64 (.lend TCut) := by
 refine ⟨Am.enters_of Tryz.func64 (by kernel_rfl) (by kernel_rfl), λ args R h => ?_⟩
 unfold TCut at h
 split at h
 ·rename_i s p
  obtain ⟨l, rfl⟩ : ∃ l, s = bs l := ⟨_, bs_of s⟩
  obtain ⟨⟨h1, h2⟩, h⟩ := h
  obtain ⟨c, rfl⟩ := byte1 h1
  refine mkS (vCutL l c R) (tb (ac XIndex az)) Tryz.func64 (by kernel_rfl) ?_
  simp only [true_and, and_true, and_self, implies_true, forall_const, gEq_true, gEq_false, nonneg_iff, natle_iff, decide_eq_true_eq, decide_eq_false_iff_not, Int.toNat_natCast, cond_bt, cond_bf, Bool.cond_true, Bool.cond_false, Bool.not_true, Bool.not_false, reduceCtorEq, false_implies, implies_true, Bool.true_eq_false, Bool.false_eq_true, Bool.not_eq_true', Bool.not_eq_false', bs_size, bs_data, bs_toList, bs_extract, bs_append, bs_mk, byteF, sep1, ge_iff_le] at h h2 ⊢
  refine ⟨rfl, λ hb => ?_, λ hb => ?_⟩
  ·obtain ⟨e1, e2, e3⟩ := idx_le c l hb
   have hw : IntKind.i64.wrap (idxL c l + (([c] : Bs).length : Int)) = (((cutL c l).1.length + 1 : Nat) : Int) := by rw [e1, wrap64] <;> simp <;> omega
   rw [hw, e1]
   refine ⟨⟨by omega, by omega, by omega⟩, ⟨by omega, by omega, by omega⟩, ⟨by omega, by omega, by omega⟩, ⟨by omega, by omega, by omega⟩, ?_⟩
   have hc := (cutL_found e2).1
   have g1 : List.take (cutL c l).1.length l = (cutL c l).1 := by
    generalize (cutL c l).1 = a at hc
    generalize (cutL c l).2.1 = b at hc
    subst hc
    simp
   have g2 : List.drop ((cutL c l).1.length + 1) l = (cutL c l).2.1 := by
    generalize (cutL c l).1 = a at hc
    generalize (cutL c l).2.1 = b at hc
    subst hc
    simp
   have z0 : Int.toNat 0 = 0 := rfl
   rw [z0, Int.toNat_natCast, Int.toNat_natCast, List.take_length, List.drop_zero, g1, g2]
   rw [e2] at h
   exact h
  ·have hf : (cutL c l).2.2 = false := by
    cases hf : (cutL c l).2.2 with
    | true => rw [idxL_found hf] at hb; omega
    | false => rfl
   obtain ⟨e1, e2, _⟩ := cutL_none hf
   rw [e1, e2, hf] at h
   exact h
 ·exact h.elim
theorem XCut : EntOk Tryz.prog 32 (.lend TCut) := by
 refine ⟨Am.enters_of Tryz.func32 (by kernel_rfl) (by kernel_rfl), λ args R h => ?_⟩
 unfold TCut at h
 split at h
 ·rename_i s p
  obtain ⟨l, rfl⟩ : ∃ l, s = bs l := ⟨_, bs_of s⟩
  obtain ⟨⟨h1, h2⟩, h⟩ := h
  obtain ⟨c, rfl⟩ := byte1 h1
  refine mkS (vCut l c R) (tb (ac XCutL az)) Tryz.func32 (by kernel_rfl) ?_
  simp only [true_and, and_true, and_self, implies_true, forall_const, gEq_true, gEq_false, nonneg_iff, natle_iff, decide_eq_true_eq, decide_eq_false_iff_not, Int.toNat_natCast, cond_bt, cond_bf, Bool.cond_true, Bool.cond_false, Bool.not_true, Bool.not_false, reduceCtorEq, false_implies, implies_true, Bool.true_eq_false, Bool.false_eq_true, Bool.not_eq_true', Bool.not_eq_false']
  exact ⟨⟨h1, h2⟩, h⟩
 ·exact h.elim
theorem pre_eq (p l : Bs) : (decide (((l.length : Nat) : Int) ≥ (p.length : Nat)) && (l.take p.length) == p) = p.isPrefixOf l := by
 rw [Bool.eq_iff_iff, List.isPrefixOf_iff_prefix]
 by_cases h : p.length <= l.length
 ·rw [show decide (((l.length : Nat) : Int) ≥ (p.length : Nat)) = true by simp; omega]
  simp only [Bool.true_and, beq_iff_eq]
  constructor
  ·intro h; rw [<- h]; exact List.take_prefix _ _
  ·intro h; exact (List.prefix_iff_eq_take.1 h).symm
 ·rw [show decide (((l.length : Nat) : Int) ≥ (p.length : Nat)) = false by simp; omega]
  simp only [Bool.false_and, Bool.false_eq_true, false_iff]
  intro h2
  exact h h2.length_le
theorem XHasPre : EntOk Tryz.prog 103 (.lend THasPre) := by
 refine ⟨Am.enters_of Tryz.func103 (by kernel_rfl) (by kernel_rfl), λ args R h => ?_⟩
 unfold THasPre at h
 split at h
 ·rename_i s p
  obtain ⟨l, rfl⟩ : ∃ l, s = bs l := ⟨_, bs_of s⟩
  obtain ⟨p, rfl⟩ : ∃ l, p = bs l := ⟨_, bs_of p⟩
  refine mkS (vHasPre l p R) (tb az) Tryz.func103 (by kernel_rfl) ?_
  simp only [true_and, and_true, and_self, implies_true, forall_const, gEq_true, gEq_false, nonneg_iff, natle_iff, decide_eq_true_eq, decide_eq_false_iff_not, Int.toNat_natCast, cond_bt, cond_bf, Bool.cond_true, Bool.cond_false, Bool.not_true, Bool.not_false, reduceCtorEq, false_implies, implies_true, Bool.true_eq_false, Bool.false_eq_true, Bool.not_eq_true', Bool.not_eq_false', bs_size, bs_data, bs_toList, bs_extract, bs_append, bs_mk, byteF, Int.toNat_zero, List.drop_zero, pre_eq] at h ⊢
  exact ⟨λ hb => ⟨Int.le_refl _, by omega, by simpa using hb⟩, h⟩
 ·exact h.elim
theorem XCutPreL : EntOk Tryz.prog 93 (.lend TCutPre) := by
 refine ⟨Am.enters_of Tryz.func93 (by kernel_rfl) (by kernel_rfl), λ args R h => ?_⟩
 unfold TCutPre at h
 split at h
 ·rename_i s p
  obtain ⟨l, rfl⟩ : ∃ l, s = bs l := ⟨_, bs_of s⟩
  obtain ⟨p, rfl⟩ : ∃ l, p = bs l := ⟨_, bs_of p⟩
  refine mkS (vCutPreL l p R) (tb (ac XHasPre az)) Tryz.func93 (by kernel_rfl) ?_
  simp only [true_and, and_true, and_self, implies_true, forall_const, gEq_true, gEq_false, nonneg_iff, natle_iff, decide_eq_true_eq, decide_eq_false_iff_not, Int.toNat_natCast, cond_bt, cond_bf, Bool.cond_true, Bool.cond_false, Bool.not_true, Bool.not_false, reduceCtorEq, false_implies, implies_true, Bool.true_eq_false, Bool.false_eq_true, Bool.not_eq_true', Bool.not_eq_false', bs_size, bs_data, bs_toList, bs_extract, bs_append, bs_mk, byteF, cutPre] at h ⊢
  refine ⟨λ hb => ?_, λ hb => ?_⟩
  ·rw [hb] at h; exact h
  ·rw [hb] at h
   have hl := (List.isPrefixOf_iff_prefix.1 hb).length_le
   refine ⟨⟨by omega, by omega, by omega⟩, ?_⟩
   simpa using h
 ·exact h.elim
theorem XCutPre : EntOk Tryz.prog 81 (.lend TCutPre) := by
 refine ⟨Am.enters_of Tryz.func81 (by kernel_rfl) (by kernel_rfl), λ args R h => ?_⟩
 unfold TCutPre at h
 split at h
 ·rename_i s p
  obtain ⟨l, rfl⟩ : ∃ l, s = bs l := ⟨_, bs_of s⟩
  obtain ⟨p, rfl⟩ : ∃ l, p = bs l := ⟨_, bs_of p⟩
  refine mkS (vCutPre l p R) (tb (ac XCutPreL az)) Tryz.func81 (by kernel_rfl) ?_
  simp only [true_and, and_true, and_self, implies_true, forall_const, gEq_true, gEq_false, nonneg_iff, natle_iff, decide_eq_true_eq, decide_eq_false_iff_not, Int.toNat_natCast, cond_bt, cond_bf, Bool.cond_true, Bool.cond_false, Bool.not_true, Bool.not_false, reduceCtorEq, false_implies, implies_true, Bool.true_eq_false, Bool.false_eq_true, Bool.not_eq_true', Bool.not_eq_false']
  exact h
 ·exact h.elim
end Go.Proofs.Sz

namespace Go.Proofs.Sz
open Go Go.Am Go.SP
abbrev tyW : TypeId := 71
abbrev tyU8 : TypeId := 5
def lim : Nat := 140737488355328
def rowB (l : Bs) : LObj := .row 1 tyU8 l.length (byteF (bs l))
def wBox (q n : Nat) : LObj := .box tyW [.ptr 0 0 0 0, .own q 0 n]
def WR (l : Bs) : List LObj := [wBox 2 l.length, .dead, rowB l]
def IsBytes (k : Nat) (e : TypeId) (m n : Nat) (f : Nat -> AV) (l : Bs) : Prop := k = 1 /\ e = tyU8 /\ m = l.length /\ n = l.length /\ ∀ i, i < l.length -> f i = byteF (bs l) i
theorem isBytes_self (l : Bs) : IsBytes 1 tyU8 l.length l.length (byteF (bs l)) l := ⟨rfl, rfl, rfl, rfl, λ _ _ => rfl⟩
def tkW : List LObj -> List AV -> List Nat := λ H xs => match xs with
 | .ptr l 0 0 0 :: _ => match H[l]? with
  | some (.box _ [_, .own q _ _]) => [l, q]
  | _ => [l]
 | _ => []
def TCC : HTrans := λ H args K => match H, args with
 | [.box t [.pl (.pointer none), .pl (.slice none 0 0)]], [.ptr 0 0 0 0] => t = tyW /\ K (.tup []) [.box tyW [.ptr 0 0 0 0, .pl (.slice none 0 0)]]
 | [.box t [.ptr 0 0 0 0, .own 1 0 n], .row k e m f], [.ptr 0 0 0 0] => t = tyW /\ K (.tup []) [wBox 1 n, .row k e m f]
 | _, _ => False
def TWrS : HTrans := λ H args K => match H, args with
 | [.box t [.pl (.pointer none), .pl (.slice none 0 0)]], [.ptr 0 0 0 0, .pl (.string s)] => (t = tyW /\ s.size <= lim) /\ K (.tup [nm s.size, nilErr]) [wBox 1 s.data.toList.length, rowB s.data.toList]
 | [.box t [.ptr 0 0 0 0, .own 1 0 n], .row k e m f], [.ptr 0 0 0 0, .pl (.string s)] => ∃ l : Bs, (t = tyW /\ IsBytes k e m n f l /\ l.length + s.size <= lim) /\ K (.tup [nm s.size, nilErr]) (WR (l ++ s.data.toList))
 | _, _ => False
def TWrB : HTrans := λ H args K => match H, args with
 | [.box t [.ptr 0 0 0 0, .own 1 0 n], .row k e m f], [.ptr 0 0 0 0, .pl (.int .u8 c)] => ∃ l : Bs, (t = tyW /\ IsBytes k e m n f l /\ l.length + 1 <= lim /\ 0 <= c /\ c < 256) /\ K nilErr (WR (l ++ [UInt8.ofNat c.toNat]))
 | _, _ => False
def TBLen : HTrans := λ H args K => match H, args with
 | [.box t [.ptr 0 0 0 0, .own 1 0 n], .row k e m f], [.ptr 0 0 0 0] => t = tyW /\ K (nm n) [wBox 1 n, .row k e m f]
 | _, _ => False
def TBStr : HTrans := λ H args K => match H, args with
 | [.box t [.ptr 0 0 0 0, .own 1 0 n], .row k e m f], [.ptr 0 0 0 0] => ∃ l : Bs, (t = tyW /\ IsBytes k e m n f l /\ 0 < l.length /\ l.length <= lim) /\ K (sl l) [.box tyW [.ptr 0 0 0 0, .any], .dead]
 | _, _ => False
def FNoEsc : List LObj -> List AV -> Option (Prop × AV) := λ _ xs => match xs with
 | [x] => some (True, x)
 | _ => none
end Go.Proofs.Sz

namespace Go.Proofs.Sz
open Go Go.Am Go.SP
theorem vCC0 (R : AV -> List LObj -> Prop) : (vcA false false (List.length ([.box tyW [.pl (.pointer none), .pl (.slice none 0 0)]] : List LObj)) [] Tryz.prog (mkTab [(69, .ext FNoEsc)]) (Tryz.f40.body.getD .skip) ([])
 (finalKH Tryz.prog Tryz.f40 (R)) (startStH Tryz.f40 ([.box tyW [.pl (.pointer none), .pl (.slice none 0 0)]]) ([.ptr 0 0 0 0]))) = (True /\ (true = true -> (Nat.succ (0 : Nat)).le (cw (AV.pl (Value.pointer none))) /\
 True /\ liesAt Tryz.prog (586 : Nat) tyW (1 : Nat) (0 : Nat) (69 : Nat) (1 : Nat) = true /\ True /\ True /\ R (AV.tup []) [LObj.box 71 [AV.ptr 0 0 0 0, nilS]]) /\ (true = false -> False)) := by kernel_rfl
theorem vCC1 (k e m n : Nat) (f : Nat -> AV) (R : AV -> List LObj -> Prop) : (vcA false false (List.length ([.box tyW [.ptr 0 0 0 0, .own 1 0 n], .row k e m f] : List LObj)) [] Tryz.prog (mkTab []) (Tryz.f40.body.getD
 .skip) ([]) (finalKH Tryz.prog Tryz.f40 (R)) (startStH Tryz.f40 ([.box tyW [.ptr 0 0 0 0, .own 1 0 n], .row k e m f]) ([.ptr 0 0 0 0]))) = (True /\ (false = true -> (Nat.succ (0 : Nat)).le (cw (AV.ptr 0 0 0 0)) /\ False)
 /\ (false = false -> True /\ (false = true -> False) /\ (false = false -> True /\ R (AV.tup []) [LObj.box 71 [AV.ptr 0 0 0 0, AV.own 1 0 n], LObj.row k e m f]))) := by kernel_rfl
theorem vWrS0 (s : Bs) (R : AV -> List LObj -> Prop) : (vcA false false (List.length ([.box tyW [.pl (.pointer none), .pl (.slice none 0 0)]] : List LObj)) [] Tryz.prog (mkTab [(40, .hand tkW TCC)]) (Tryz.f18.body.getD
 .skip) ([]) (finalKH Tryz.prog Tryz.f18 (λ y H => ∃ _ : Unit, leSt 1 ⟨[y], H⟩ ⟨[.tup [nm s.length, nilErr]], [wBox 1 s.length, rowB s]⟩ (R (.tup [nm s.length, nilErr]) [wBox 1 s.length, rowB s]))) (startStH Tryz.f18
 ([.box tyW [.pl (.pointer none), .pl (.slice none 0 0)]]) ([.ptr 0 0 0 0, sl s]))) = ((True /\ True) /\ 71 = 71 /\ (True /\ s.length.le maxLen /\ (s.length * 1).le (140737488355328 : Nat)) /\ True /\ (True /\ True /\
 True) /\ ∃ (x : Unit), (((↑ s.length : Int) = (↑ s.length : Int) /\ Value.nilIface = Value.nilIface /\ True) /\ True) /\ ((71 = 71 /\ (True /\ 0 = 0 /\ 0 = 0 /\ 0 = 0) /\ (True /\ 0 = 0 /\ s.length = s.length) /\ True)
 /\ (1 = 1 /\ 5 = 5 /\ s.length.le s.length /\ ∀ i < s.length, AV.pl (Value.int k8Q (↑ (s.getD i (0 : UInt8)).toNat : Int)) = AV.pl (Value.int k8Q (↑ (s.getD i (0 : UInt8)).toNat : Int))) /\ True) /\ R (AV.tup [nm (↑
 s.length : Int), nilErr]) [LObj.box 71 [AV.ptr 0 0 0 0, AV.own 1 0 s.length], LObj.row 1 5 s.length (byteF (bs s))]) := by kernel_rfl
theorem vWrS1 (l s : Bs) (f : Nat -> AV) (R : AV -> List LObj -> Prop) : (vcA false false (List.length ([wBox 1 l.length, .row 1 tyU8 l.length f] : List LObj)) [] Tryz.prog (mkTab [(40, .hand tkW TCC)])
 (Tryz.f18.body.getD .skip) ([]) (finalKH Tryz.prog Tryz.f18 (λ y H => ∃ _ : Unit, leSt 2 ⟨[y], H⟩ ⟨[.tup [nm s.length, nilErr]], WR (l ++ s)⟩ (R (.tup [nm s.length, nilErr]) (WR (l ++ s))))) (startStH Tryz.f18 ([wBox 1
 l.length, .row 1 tyU8 l.length f]) ([.ptr 0 0 0 0, sl s]))) = ((True /\ True) /\ 71 = 71 /\ (True /\ l.length = l.length /\ (l.length + s.length).le maxLen /\ ((l.length + s.length) * 1).le (140737488355328 : Nat)) /\
 True /\ (True /\ True /\ True) /\ ∃ (x : Unit), (((↑ s.length : Int) = (↑ s.length : Int) /\ Value.nilIface = Value.nilIface /\ True) /\ True) /\ ((71 = 71 /\ (True /\ 0 = 0 /\ 0 = 0 /\ 0 = 0) /\ (True /\ 0 = 0 /\
 l.length + s.length = List.length (l ++ s)) /\ True) /\ True /\ (1 = 1 /\ 5 = 5 /\ (List.length (l ++ s)).le (l.length + s.length) /\ ∀ (i : Nat), i < List.length (l ++ s) -> (if i < l.length then f i else AV.pl
 (Value.int k8Q (↑ (s.getD (i - l.length) (0 : UInt8)).toNat : Int))) = AV.pl (Value.int k8Q (↑ ((l ++ s).getD i (0 : UInt8)).toNat : Int))) /\ True) /\ R (AV.tup [nm (↑ s.length : Int), nilErr]) [LObj.box 71 [AV.ptr 0 0
 0 0, AV.own 2 0 (List.length (l ++ s))], LObj.dead, LObj.row 1 5 (List.length (l ++ s)) (byteF (bs (l ++ s)))]) := by kernel_rfl
theorem vWrB (l : Bs) (c : Int) (f : Nat -> AV) (R : AV -> List LObj -> Prop) : (vcA false false (List.length ([wBox 1 l.length, .row 1 tyU8 l.length f] : List LObj)) [] Tryz.prog (mkTab [(40, .hand tkW TCC)])
 (Tryz.f20.body.getD .skip) ([]) (finalKH Tryz.prog Tryz.f20 (λ y H => ∃ _ : Unit, leSt 2 ⟨[y], H⟩ ⟨[nilErr], WR (l ++ [UInt8.ofNat c.toNat])⟩ (R nilErr (WR (l ++ [UInt8.ofNat c.toNat]))))) (startStH Tryz.f20 ([wBox 1
 l.length, .row 1 tyU8 l.length f]) ([.ptr 0 0 0 0, .pl (.int .u8 c)]))) = (let Q0 := (l ++ [UInt8.ofNat c.toNat]); (True /\ True) /\ 71 = 71 /\ True /\ (((0 : Nat) + 1).le (1 : Nat) /\ l.length = l.length /\ (l.length +
 1).le maxLen /\ ((l.length + 1) * 1).le (140737488355328 : Nat)) /\ True /\ (True /\ True) /\ ∃ (x : Unit), (Value.nilIface = Value.nilIface /\ True) /\ ((71 = 71 /\ (True /\ 0 = 0 /\ 0 = 0 /\ 0 = 0) /\ (True /\ 0 = 0 /\
 l.length + 1 = List.length Q0) /\ True) /\ True /\ (1 = 1 /\ 5 = 5 /\ (List.length Q0).le (l.length + 1) /\ ∀ (i : Nat), i < List.length Q0 -> (if i < l.length then f i else rowOf [((0 : Nat), AV.pl (Value.int k8Q c))]
 ((0 : Nat) + (i - l.length))) = AV.pl (Value.int k8Q (↑ (Q0.getD i (0 : UInt8)).toNat : Int))) /\ True) /\ R nilErr [LObj.box 71 [AV.ptr 0 0 0 0, AV.own 2 0 (List.length Q0)], LObj.dead, LObj.row 1 5 (List.length Q0)
 (byteF (bs Q0))]) := by kernel_rfl
theorem vBLen (k e m n : Nat) (f : Nat -> AV) (R : AV -> List LObj -> Prop) : (vcA false false (List.length ([.box tyW [.ptr 0 0 0 0, .own 1 0 n], .row k e m f] : List LObj)) [] Tryz.prog (mkTab []) (Tryz.f22.body.getD
 .skip) ([]) (finalKH Tryz.prog Tryz.f22 (R)) (startStH Tryz.f22 ([.box tyW [.ptr 0 0 0 0, .own 1 0 n], .row k e m f]) ([.ptr 0 0 0 0]))) = ((True /\ True) /\ R (nm (n : Int)) [LObj.box 71 [AV.ptr 0 0 0 0, AV.own 1 0 n],
 LObj.row k e m f]) := by kernel_rfl
theorem vBStr (l : Bs) (f : Nat -> AV) (R : AV -> List LObj -> Prop) : (vcA false false (List.length ([wBox 1 l.length, .row 1 tyU8 l.length f] : List LObj)) [] Tryz.prog (mkTab []) (Tryz.f23.body.getD .skip) ([])
 (finalKH Tryz.prog Tryz.f23 (R)) (startStH Tryz.f23 ([wBox 1 l.length, .row 1 tyU8 l.length f]) ([.ptr 0 0 0 0]))) = ((Nat.succ (0 : Nat)).le l.length /\ 5 = 5 /\ (0 : Int) + 1 <= (↑ l.length : Int) /\ (↑ l.length : Int)
 <= (↑ l.length : Int) /\ (↑ l.length : Int) <= 9223372036854775807 /\ ∃ (bs : ByteArray), bs.size = (↑ l.length : Int).toNat /\ (∀ i < (↑ l.length : Int).toNat, f i = AV.pl (Value.int k8Q (↑ (bs.data.toList.getD i (0 :
 UInt8)).toNat : Int))) /\ (True /\ True) /\ R (AV.pl (Value.string bs)) [LObj.box 71 [AV.ptr 0 0 0 0, AV.any], LObj.dead]) := by kernel_rfl
theorem XNoEsc : EntOk Tryz.prog 69 (.ext FNoEsc) := by
 intro E0 E H vs xs p x g hl hr hF hp
 unfold FNoEsc at hF
 split at hF
 ·rename_i y
  simp only [Option.some.injEq, Prod.mk.injEq] at hF
  obtain ⟨rfl, rfl⟩ := hF
  match vs, hl with
  | [u], _ =>
   refine ⟨u, ?_, hr 0 u _ rfl rfl⟩
   rw [run_callFunc_extern Tryz.func69 (by kernel_rfl) (by kernel_rfl) (by kernel_rfl) (e := Extern.AbiNoEscape.same) (by kernel_rfl)]
   rfl
 ·cases hF
theorem XCC : EntOk Tryz.prog 40 (.hand tkW TCC) := by
 refine ⟨Am.enters_of Tryz.func40 (by kernel_rfl) (by kernel_rfl), λ H0 args R h => ?_⟩
 unfold TCC at h
 split at h
 ·rename_i t
  obtain ⟨rfl, h⟩ := h
  refine mkH (vCC0 R) (tb (ac XNoEsc az)) Tryz.func40 (by kernel_rfl) ?_
  simp only [true_and, and_true, and_self, implies_true, forall_const, gEq_true, gEq_false, nonneg_iff, natle_iff, decide_eq_true_eq, decide_eq_false_iff_not, Int.toNat_natCast, cond_bt, cond_bf, Bool.cond_true, Bool.cond_false, Bool.not_true, Bool.not_false, reduceCtorEq, false_implies, implies_true, Bool.true_eq_false, Bool.false_eq_true, Bool.not_eq_true', Bool.not_eq_false']
  exact ⟨Nat.le_refl _, by kernel_rfl, h⟩
 ·rename_i t n k e m f
  obtain ⟨rfl, h⟩ := h
  refine mkH (vCC1 k e m n f R) (tb az) Tryz.func40 (by kernel_rfl) ?_
  simp only [true_and, and_true, and_self, implies_true, forall_const, gEq_true, gEq_false, nonneg_iff, natle_iff, decide_eq_true_eq, decide_eq_false_iff_not, Int.toNat_natCast, cond_bt, cond_bf, Bool.cond_true, Bool.cond_false, Bool.not_true, Bool.not_false, reduceCtorEq, false_implies, implies_true, Bool.true_eq_false, Bool.false_eq_true, Bool.not_eq_true', Bool.not_eq_false']
  exact h
 ·exact h.elim
theorem u8n {q : Nat} (h : q < 256) : (UInt8.ofNat q).toNat = q := by
 rw [UInt8.toNat_ofNat']; omega
theorem lim_max : lim <= maxLen := by unfold lim maxLen; omega
theorem getD_app (l s : Bs) (i : Nat) : (l ++ s).getD i 0 = if i < l.length then l.getD i 0 else s.getD (i - l.length) 0 := by
 simp only [List.getD_eq_getElem?_getD, List.getElem?_append]
 split <;> rfl
theorem XWrS : EntOk Tryz.prog 18 (.hand tkW TWrS) := by
 refine ⟨Am.enters_of Tryz.func18 (by kernel_rfl) (by kernel_rfl), λ H0 args R h => ?_⟩
 have hlm := lim_max
 unfold lim at hlm
 unfold TWrS at h
 split at h
 ·rename_i t s
  obtain ⟨l, rfl⟩ : ∃ l, s = bs l := ⟨_, bs_of s⟩
  obtain ⟨⟨rfl, h1⟩, h⟩ := h
  refine SpecH.weak (Z := Unit) (X := λ _ => .tup [nm l.length, nilErr]) (HH := λ _ => [wBox 1 l.length, rowB l]) (mkH (vWrS0 l R) (tb (ac XCC az)) Tryz.func18 (by kernel_rfl) ?_)
  simp only [true_and, and_true, and_self, implies_true, forall_const, gEq_true, gEq_false, nonneg_iff, natle_iff, decide_eq_true_eq, decide_eq_false_iff_not, Int.toNat_natCast, cond_bt, cond_bf, Bool.cond_true, Bool.cond_false, Bool.not_true, Bool.not_false, reduceCtorEq, false_implies, implies_true, Bool.true_eq_false, Bool.false_eq_true, Bool.not_eq_true', Bool.not_eq_false', bs_size, bs_data, bs_toList, bs_extract, bs_append, bs_mk, byteF] at h h1 ⊢
  unfold lim at h1
  exact ⟨⟨by omega, by omega⟩, (), Nat.le_refl _, h⟩
 ·rename_i t n k e m f s
  obtain ⟨s, rfl⟩ : ∃ l, s = bs l := ⟨_, bs_of s⟩
  obtain ⟨l, ⟨rfl, ⟨rfl, rfl, rfl, rfl, hf⟩, h1⟩, h⟩ := h
  refine SpecH.weak (Z := Unit) (X := λ _ => .tup [nm s.length, nilErr]) (HH := λ _ => WR (l ++ s)) (mkH (vWrS1 l s f R) (tb (ac XCC az)) Tryz.func18 (by kernel_rfl) ?_)
  simp only [true_and, and_true, and_self, implies_true, forall_const, gEq_true, gEq_false, nonneg_iff, natle_iff, decide_eq_true_eq, decide_eq_false_iff_not, Int.toNat_natCast, cond_bt, cond_bf, Bool.cond_true, Bool.cond_false, Bool.not_true, Bool.not_false, reduceCtorEq, false_implies, implies_true, Bool.true_eq_false, Bool.false_eq_true, Bool.not_eq_true', Bool.not_eq_false', bs_size, bs_data, bs_toList, bs_extract, bs_append, bs_mk, byteF] at h h1 ⊢
  unfold lim at h1
  refine ⟨⟨by omega, by omega⟩, (), ⟨by simp, by simp, λ i hi => ?_⟩, h⟩
  rw [getD_app]
  split
  ·rename_i hlt; rw [hf i hlt, byteF, bs_data]
  ·rfl
 ·exact h.elim
theorem XWrB : EntOk Tryz.prog 20 (.hand tkW TWrB) := by
 refine ⟨Am.enters_of Tryz.func20 (by kernel_rfl) (by kernel_rfl), λ H0 args R h => ?_⟩
 have hlm := lim_max
 unfold lim at hlm
 unfold TWrB at h
 split at h
 ·rename_i t n k e m f c
  obtain ⟨l, ⟨rfl, ⟨rfl, rfl, rfl, rfl, hf⟩, h1, hc0, hc1⟩, h⟩ := h
  refine SpecH.weak (Z := Unit) (X := λ _ => nilErr) (HH := λ _ => WR (l ++ [UInt8.ofNat c.toNat])) (mkH (vWrB l c f R) (tb (ac XCC az)) Tryz.func20 (by kernel_rfl) ?_)
  simp only [true_and, and_true, and_self, implies_true, forall_const, gEq_true, gEq_false, nonneg_iff, natle_iff, decide_eq_true_eq, decide_eq_false_iff_not, Int.toNat_natCast, cond_bt, cond_bf, Bool.cond_true, Bool.cond_false, Bool.not_true, Bool.not_false, reduceCtorEq, false_implies, implies_true, Bool.true_eq_false, Bool.false_eq_true, Bool.not_eq_true', Bool.not_eq_false', bs_size, bs_data, bs_toList, bs_extract, bs_append, bs_mk, byteF] at h h1 ⊢
  unfold lim at h1
  refine ⟨⟨by omega, by omega, by omega⟩, (), ⟨by simp, by simp, λ i hi => ?_⟩, h⟩
  rw [getD_app]
  split
  ·rename_i hlt; rw [hf i hlt, byteF, bs_data]
  ·rename_i hge
   have : i - l.length = 0 := by simp at hi; omega
   rw [this]
   have e1 : ((UInt8.ofNat c.toNat).toNat : Int) = c := by
    obtain ⟨q, rfl⟩ := Int.eq_ofNat_of_zero_le hc0
    rw [Int.toNat_natCast, u8n (by omega)]
   show AV.pl (.int .u8 c) = AV.pl (.int .u8 ((UInt8.ofNat c.toNat).toNat : Int))
   rw [e1]
 ·exact h.elim
theorem XBLen : EntOk Tryz.prog 22 (.hand tkW TBLen) := by
 refine ⟨Am.enters_of Tryz.func22 (by kernel_rfl) (by kernel_rfl), λ H0 args R h => ?_⟩
 unfold TBLen at h
 split at h
 ·rename_i t n k e m f
  obtain ⟨rfl, h⟩ := h
  refine mkH (vBLen k e m n f R) (tb az) Tryz.func22 (by kernel_rfl) ?_
  simp only [true_and, and_true, and_self, implies_true, forall_const, gEq_true, gEq_false, nonneg_iff, natle_iff, decide_eq_true_eq, decide_eq_false_iff_not, Int.toNat_natCast, cond_bt, cond_bf, Bool.cond_true, Bool.cond_false, Bool.not_true, Bool.not_false, reduceCtorEq, false_implies, implies_true, Bool.true_eq_false, Bool.false_eq_true, Bool.not_eq_true', Bool.not_eq_false']
  exact h
 ·exact h.elim
theorem XBStr : EntOk Tryz.prog 23 (.hand tkW TBStr) := by
 refine ⟨Am.enters_of Tryz.func23 (by kernel_rfl) (by kernel_rfl), λ H0 args R h => ?_⟩
 unfold TBStr at h
 split at h
 ·rename_i t n k e m f
  obtain ⟨l, ⟨rfl, ⟨rfl, rfl, rfl, rfl, hf⟩, h0, h1⟩, h⟩ := h
  refine mkH (vBStr l f R) (tb az) Tryz.func23 (by kernel_rfl) ?_
  simp only [true_and, and_true, and_self, implies_true, forall_const, gEq_true, gEq_false, nonneg_iff, natle_iff, decide_eq_true_eq, decide_eq_false_iff_not, Int.toNat_natCast, cond_bt, cond_bf, Bool.cond_true, Bool.cond_false, Bool.not_true, Bool.not_false, reduceCtorEq, false_implies, implies_true, Bool.true_eq_false, Bool.false_eq_true, Bool.not_eq_true', Bool.not_eq_false']
  unfold lim at h1
  refine ⟨h0, by omega, by omega, by omega, bs l, by simp, λ i hi => by rw [hf i (by simpa using hi)]; rfl, h⟩
 ·exact h.elim
end Go.Proofs.Sz

namespace Go.Proofs.Sz
open Go Go.Am Go.SP
def IsInts (x : AV) (ns : List Int) : Prop := match x with
 | .rows k n f => k = 1 /\ n = ns.length /\ ∀ i, i < ns.length -> f i = nm (ns.getD i 0)
 | _ => False
def intsAV (ns : List Int) : AV := .rows 1 ns.length λ i => nm (ns.getD i 0)
theorem isInts_le {x : AV} {ns : List Int} (h : IsInts x ns) (ks : Names) : leA ks x (intsAV ns) := by
 unfold IsInts at h
 split at h
 ·obtain ⟨rfl, rfl, h⟩ := h; exact ⟨rfl, rfl, h⟩
 ·exact h.elim
def IsTexts (x : AV) (ls : List Bs) : Prop := match x with
 | .rows k n f => k = 1 /\ n = ls.length /\ ∀ i, i < ls.length -> f i = sl (ls.getD i [])
 | _ => False
def textsAV (ls : List Bs) : AV := .rows 1 ls.length λ i => sl (ls.getD i [])
theorem isTexts_le {x : AV} {ls : List Bs} (h : IsTexts x ls) (ks : Names) : leA ks x (textsAV ls) := by
 unfold IsTexts at h
 split at h
 ·obtain ⟨rfl, rfl, h⟩ := h; exact ⟨rfl, rfl, h⟩
 ·exact h.elim
def Int64 (n : Int) : Prop := -9223372036854775808 <= n /\ n <= 9223372036854775807
def TNums : HTrans := λ H args K => match H, args with
 | [.box t [.ptr 0 0 0 0, .own 1 0 n], .row k e m f], [.ptr 0 0 0 0, x] => ∃ (l : Bs) (ns : List Int), (t = tyW /\ IsBytes k e m n f l /\ IsInts x ns /\ l.length + 22 * ns.length <= lim /\ ∀ n ∈ ns, Int64 n) /\ K (.tup []) (WR (l ++ nums ns))
 | _, _ => False
def TChar : HTrans := λ H args K => match H, args with
 | [.box t [.ptr 0 0 0 0, .own 1 0 n], .row k e m f], [.ptr 0 0 0 0, .pl (.int .u8 c)] => ∃ l : Bs, (t = tyW /\ IsBytes k e m n f l /\ l.length + 4 <= lim /\ 0 <= c /\ c < 256) /\ K (.tup []) (WR (l ++ qte (UInt8.ofNat c.toNat)))
 | _, _ => False
def txtLen (ls : List Bs) : Nat := (ls.map λ s => 4 * s.length + 3).sum
def TTexts : HTrans := λ H args K => match H, args with
 | [.box t [.pl (.pointer none), .pl (.slice none 0 0)]], [.ptr 0 0 0 0, x] => ∃ s : Bs, (t = tyW /\ IsTexts x [s] /\ 4 * s.length + 3 <= lim) /\ K (.tup []) [wBox 1 (txt s).length, rowB (txt s)]
 | [.box t [.ptr 0 0 0 0, .own 1 0 n], .row k e m f], [.ptr 0 0 0 0, x] => ∃ (l : Bs) (ls : List Bs), (t = tyW /\ IsBytes k e m n f l /\ IsTexts x ls /\ l.length + txtLen ls <= lim) /\ K (.tup []) (WR (l ++ txts ls))
 | _, _ => False
end Go.Proofs.Sz

namespace Go.Proofs.Sz
open Go Go.Am Go.SP
theorem vNums (l : Bs) (ns : List Int) (f : Nat -> AV) (inv : Nat -> Prop) (R : AV -> List LObj -> Prop) : (vcA false false (List.length ([wBox 1 l.length, .row 1 tyU8 l.length f] : List LObj)) [] Tryz.prog (mkTab [(41,
 .lend TItoa), (18, .hand tkW TWrS)]) (Tryz.f19.body.getD .skip) ([.loop 1 Nat inv (λ i => ⟨slotsOf 20 0 [(0, .ptr 0 0 0 0), (6, intsAV ns), (7, nm ns.length), (8, nm i)], WR (l ++ nums (ns.take i))⟩) (λ i =>
 ns.length - i) (λ _ => [])]) (finalKH Tryz.prog Tryz.f19 (λ y H => ∃ _ : Unit, leSt 2 ⟨[y], H⟩ ⟨[.tup []], WR (l ++ nums ns)⟩ (R (.tup []) (WR (l ++ nums ns))))) (startStH Tryz.f19 ([wBox 1 l.length, .row 1 tyU8
 l.length f]) ([.ptr 0 0 0 0, intsAV ns]))) = (let Q1 := (1 = 1 /\ ns.length = ns.length /\ ∀ i < ns.length, nm (ns.getD i (0 : Int)) = nm (ns.getD i (0 : Int))); let Q0 := (True /\ 0 = 0 /\ 0 = 0 /\ 0 = 0); (∃ (x : Nat),
 let Q2 := (l ++ nums (List.take x ns)); (Q0 /\ Q1 /\ (ns.length : Int) = (ns.length : Int) /\ (0 : Int) = (x : Int) /\ True) /\ ((71 = 71 /\ Q0 /\ (True /\ 0 = 0 /\ l.length = List.length Q2) /\ True) /\ True /\ (1 =
 1 /\ 5 = 5 /\ (List.length Q2).le l.length /\ ∀ (i : Nat), i < List.length Q2 -> f i = AV.pl (Value.int k8Q (↑ (Q2.getD i (0 : UInt8)).toNat : Int))) /\ True) /\ inv x) /\ ∀ (x : Nat), let Q4 := (l ++ nums (List.take x
 ns)); let Q3 := (ByteArray.mk #[32] ++ bs (Lib.itoa (ns.getD (x : Int).toNat (0 : Int)))); inv x -> (decide ((x : Int) < (ns.length : Int)) = true -> ((0 : Int) <= (x : Int) /\ (x : Int) + 1 <= (↑ns.length
 : Int)) /\ ((-9223372036854775808 : Int) <= ns.getD (x : Int).toNat (0 : Int) /\ ns.getD (x : Int).toNat (0 : Int) <= 9223372036854775807) /\ ((ByteArray.mk #[32]).size + (List.length (Lib.itoa (ns.getD (↑x :
 Int).toNat (0 : Int))))).le (9223372036854775807 : Nat) /\ (True /\ True /\ True) /\ ∃ (l_1 : Bs), (71 = 71 /\ IsBytes (1 : Nat) (5 : Nat) (List.length Q4) (List.length Q4) (byteF (bs Q4)) l_1 /\ (l_1.length +
 Q3.size).le lim) /\ ∃ (y : Nat), let Q5 := (l ++ nums (List.take y ns)); (Q0 /\ Q1 /\ (ns.length : Int) = (ns.length : Int) /\ k64Q.wrap ((x : Int) + 1) = (y : Int) /\ True) /\ ((71 = 71 /\ Q0 /\ (True /\ 0 = 0 /\
 List.length (l_1 ++ Q3.data.toList) = List.length Q5) /\ True) /\ True /\ (1 = 1 /\ 5 = 5 /\ (List.length Q5).le (List.length (l_1 ++ Q3.data.toList)) /\ ∀ (i : Nat), i < List.length Q5 -> AV.pl (Value.int k8Q (↑ ((l_1
 ++ Q3.data.toList).getD i (0 : UInt8)).toNat : Int)) = AV.pl (Value.int k8Q (↑ (Q5.getD i (0 : UInt8)).toNat : Int))) /\ True) /\ inv y /\ (ns.length - y).succ.le (ns.length - x)) /\ (decide ((x : Int) < (↑ns.length :
 Int)) = false -> True /\ ∃ (x_1 : Unit), (True /\ True) /\ ((71 = 71 /\ Q0 /\ (True /\ 0 = 0 /\ List.length Q4 = List.length (l ++ nums ns)) /\ True) /\ True /\ (1 = 1 /\ 5 = 5 /\ (List.length (l ++ nums ns)).le
 (List.length Q4) /\ ∀ (i : Nat), i < List.length (l ++ nums ns) -> AV.pl (Value.int k8Q (↑ (Q4.getD i (0 : UInt8)).toNat : Int)) = AV.pl (Value.int k8Q (↑ ((l ++ nums ns).getD i (0 : UInt8)).toNat : Int))) /\ True) /\ R
 (AV.tup []) [LObj.box 71 [AV.ptr 0 0 0 0, AV.own 2 0 (List.length (l ++ nums ns))], LObj.dead, LObj.row 1 5 (List.length (l ++ nums ns)) (byteF (bs (l ++ nums ns)))])) := by kernel_rfl
theorem vChar (l : Bs) (c : Int) (f : Nat -> AV) (R : AV -> List LObj -> Prop) : (vcA false false (List.length ([wBox 1 l.length, .row 1 tyU8 l.length f] : List LObj)) [] Tryz.prog (mkTab [(20, .hand tkW TWrB), (18,
 .hand tkW TWrS)]) (Tryz.f71.body.getD .skip) ([]) (finalKH Tryz.prog Tryz.f71 (λ y H => ∃ _ : Unit, leSt 2 ⟨[y], H⟩ ⟨[.tup []], WR (l ++ qte (UInt8.ofNat c.toNat))⟩ (R (.tup []) (WR (l ++ qte (UInt8.ofNat c.toNat))))))
 (startStH Tryz.f71 ([wBox 1 l.length, .row 1 tyU8 l.length f]) ([.ptr 0 0 0 0, .pl (.int .u8 c)]))) = (let Q8 := ([48, 49, 50, 51, 52, 53, 54, 55, 56, 57, 97, 98, 99, 100, 101, 102] : Bs); let Q7 := (True /\ 0 = 0 /\ 0 =
 0 /\ 0 = 0); let Q6 := (True /\ True /\ True); let Q5 := ((2 : Int) ^ min (nat_lit 4) k8Q.bits); let Q4 := (↑ (BitVec.ofInt k8Q.bits c &&& BitVec.ofInt k8Q.bits (15 : Int)).toNat : Int); let Q3 := (↑ (Q8.getD (c.fdiv
 Q5).toNat (0 : UInt8)).toNat : Int); let Q2 := (↑ (ByteArray.mk #[48, 49, 50, 51, 52, 53, 54, 55, 56, 57, 97,
 98, 99, 100, 101, 102]).size : Int); let Q1 := (↑ (Q8.getD (k8Q.wrap Q4).toNat (0 : UInt8)).toNat : Int); let Q0 := (l ++ qte (UInt8.ofNat c.toNat)); ((bif c == 34 then
 true else c == 92) = true -> Q6 /\ ∃ (l_1 : Bs), let Q9 := (l_1 ++ [UInt8.ofNat (Int.toNat 92)]); (71 = 71 /\ IsBytes (1 : Nat) (5 : Nat) l.length l.length f l_1 /\ (l_1.length + 1).le lim /\ (0 : Int) <= 92 /\ (92 :
 Int) + 1 <= 256) /\ Q6 /\ ∃ (l_2 : Bs), let Q10 := (l_2 ++ [UInt8.ofNat c.toNat]); (71 = 71 /\ IsBytes (1 : Nat) (5 : Nat) (List.length Q9) (List.length Q9) (byteF (bs Q9)) l_2 /\ (l_2.length + 1).le lim /\ (0 : Int) <=
 c /\ c + 1 <= 256) /\ True /\ ∃ (x : Unit), (True /\ True) /\ ((71 = 71 /\ Q7 /\ (True /\ 0 = 0 /\ List.length Q10 = List.length Q0) /\ True) /\ True /\ (1 = 1 /\ 5 = 5 /\ (List.length Q0).le (List.length Q10) /\ ∀ (i :
 Nat), i < List.length Q0 -> AV.pl (Value.int k8Q (↑ (Q10.getD i (0 : UInt8)).toNat : Int)) = AV.pl (Value.int k8Q (↑ (Q0.getD i (0 : UInt8)).toNat : Int))) /\ True) /\ R (AV.tup []) [LObj.box 71 [AV.ptr 0 0 0 0, AV.own 2
 0 (List.length Q0)], LObj.dead, LObj.row 1 5 (List.length Q0) (byteF (bs Q0))]) /\ ((bif c == 34 then true else c == 92) = false -> ((c == 10) = true -> Q6 /\ ∃ (l_1 : Bs), (71 = 71 /\ IsBytes (1 : Nat) (5 : Nat)
 l.length l.length f l_1 /\ (l_1.length + (ByteArray.mk #[92, 110]).size).le lim) /\ True /\ ∃ (x : Unit), (True /\ True) /\ ((71 = 71 /\ Q7 /\ (True /\ 0 = 0 /\ List.length (l_1 ++ ([92, 110] : Bs)) =
 List.length Q0) /\ True) /\ True /\ (1 = 1 /\ 5 = 5 /\ (List.length Q0).le (List.length (l_1 ++ ([92, 110] : Bs))) /\ ∀ (i : Nat), i < List.length Q0 -> AV.pl (Value.int k8Q (↑ ((l_1 ++ ([92, 110] : Bs)).getD i (0 :
 UInt8)).toNat : Int)) = AV.pl (Value.int k8Q (↑ (Q0.getD i (0 : UInt8)).toNat : Int))) /\ True) /\ R (AV.tup []) [LObj.box 71 [AV.ptr 0 0 0 0, AV.own 2 0 (List.length Q0)], LObj.dead, LObj.row 1 5 (List.length Q0) (byteF
 (bs Q0))]) /\ ((c == 10) = false -> ((c == 13) = true -> Q6 /\ ∃ (l_1 : Bs), (71 = 71 /\ IsBytes (1 : Nat) (5 : Nat) l.length l.length f l_1 /\ (l_1.length + (ByteArray.mk #[92, 114]).size).le lim) /\
 True /\ ∃ (x : Unit), (True /\ True) /\ ((71 = 71 /\ Q7 /\ (True /\ 0 = 0 /\ List.length (l_1 ++ ([92, 114] : Bs)) = List.length Q0) /\ True) /\ True /\ (1 = 1 /\ 5 = 5 /\ (List.length Q0).le (List.length (l_1 ++ ([92,
 114] : Bs))) /\ ∀ (i : Nat), i < List.length Q0 -> AV.pl (Value.int k8Q (↑ ((l_1 ++ ([92, 114] : Bs)).getD i (0 : UInt8)).toNat : Int)) = AV.pl (Value.int k8Q (↑ (Q0.getD i (0 : UInt8)).toNat : Int))) /\ True) /\ R
 (AV.tup []) [LObj.box 71 [AV.ptr 0 0 0 0, AV.own 2 0 (List.length Q0)], LObj.dead, LObj.row 1 5 (List.length Q0) (byteF (bs Q0))]) /\ ((c == 13) = false -> ((bif decide (c < 32) then true else decide (c > 126)) = true ->
 Q6 /\ ∃ (l_1 : Bs), (71 = 71 /\ IsBytes (1 : Nat) (5 : Nat) l.length l.length f l_1 /\ (l_1.length + (ByteArray.mk #[92, 120]).size).le lim) /\ ((0 : Int) <= c.fdiv Q5 /\ c.fdiv Q5 + 1 <= Q2) /\ ((0 :
 Int) <= c.fdiv Q5 /\ c.fdiv Q5 + 1 <= Q2) /\ Q6 /\ ∃ (l_2 : Bs), let Q11 := (l_2 ++ [UInt8.ofNat Q3.toNat]); (71 = 71 /\ IsBytes (1 : Nat) (5 : Nat) (List.length (l_1 ++ ([92, 120] : Bs))) (List.length (l_1 ++ ([92, 120]
 : Bs))) (byteF (bs (l_1 ++ ([92, 120] : Bs)))) l_2 /\ (l_2.length + 1).le lim /\ (0 : Int) <= Q3 /\ Q3 + 1 <= 256) /\ ((0 : Int) <= k8Q.wrap Q4 /\ k8Q.wrap Q4 + 1 <= Q2) /\ ((0 : Int) <= k8Q.wrap Q4 /\ k8Q.wrap Q4 + 1 <=
 Q2) /\ Q6 /\ ∃ (l_3 : Bs), let Q12 := (l_3 ++ [UInt8.ofNat Q1.toNat]); (71 = 71 /\ IsBytes (1 : Nat) (5 : Nat) (List.length Q11) (List.length Q11) (byteF (bs Q11)) l_3 /\ (l_3.length + 1).le lim /\ (0 : Int) <= Q1 /\ Q1
 + 1 <= 256) /\ True /\ ∃ (x : Unit), (True /\ True) /\ ((71 = 71 /\ Q7 /\ (True /\ 0 = 0 /\ List.length Q12 = List.length Q0) /\ True) /\ True /\ (1 = 1 /\ 5 = 5 /\ (List.length Q0).le (List.length Q12) /\ ∀ (i : Nat), i
 < List.length Q0 -> AV.pl (Value.int k8Q (↑ (Q12.getD i (0 : UInt8)).toNat : Int)) = AV.pl (Value.int k8Q (↑ (Q0.getD i (0 : UInt8)).toNat : Int))) /\ True) /\ R (AV.tup []) [LObj.box 71 [AV.ptr 0 0 0 0, AV.own 2 0
 (List.length Q0)], LObj.dead, LObj.row 1 5 (List.length Q0) (byteF (bs Q0))]) /\ ((bif decide (c < 32) then true else decide (c > 126)) = false -> Q6 /\ ∃ (l_1 : Bs), let Q13 := (l_1 ++ [UInt8.ofNat c.toNat]); (71 = 71
 /\ IsBytes (1 : Nat) (5 : Nat) l.length l.length f l_1 /\ (l_1.length + 1).le lim /\ (0 : Int) <= c /\ c + 1 <= 256) /\ True /\ ∃ (x : Unit), (True /\ True) /\ ((71 = 71 /\ Q7 /\ (True /\ 0 = 0 /\ List.length Q13 =
 List.length Q0) /\ True) /\ True /\ (1 = 1 /\ 5 = 5 /\ (List.length Q0).le (List.length Q13) /\ ∀ (i : Nat), i < List.length Q0 -> AV.pl (Value.int k8Q (↑ (Q13.getD i (0 : UInt8)).toNat : Int)) = AV.pl (Value.int k8Q (↑
 (Q0.getD i (0 : UInt8)).toNat : Int))) /\ True) /\ R (AV.tup []) [LObj.box 71 [AV.ptr 0 0 0 0, AV.own 2 0 (List.length Q0)], LObj.dead, LObj.row 1 5 (List.length Q0) (byteF (bs Q0))]))))) := by kernel_rfl
theorem vTexts (l : Bs) (ls : List Bs) (f : Nat -> AV) (inv : Nat -> Prop) (inv2 : Nat -> Nat -> Prop) (R : AV -> List LObj -> Prop) : (vcA false false (List.length ([wBox 1 l.length, .row 1 tyU8 l.length f] : List
 LObj)) [] Tryz.prog (mkTab [(20, .hand tkW TWrB), (18, .hand tkW TWrS), (71, .hand tkW TChar)]) (Tryz.f45.body.getD .skip) ([.loop 1 Nat inv (λ i => ⟨slotsOf 33 0 [(0, .ptr 0 0 0 0), (7, textsAV ls), (8, nm ls.length),
 (9, nm i)], WR (l ++ txts (ls.take i))⟩) (λ i => ls.length - i) (λ i => [.loop 5 Nat (inv2 i) (λ j => ⟨slotsOf 33 0 [(0, .ptr 0 0 0 0), (7, textsAV ls), (8, nm ls.length), (9, nm i), (5, sl (ls.getD i [])), (18, nm
 (ls.getD i []).length), (19, nm j)], WR (l ++ txts (ls.take i) ++ ([32, 34] ++ quoteL ((ls.getD i []).take j)))⟩) (λ j => (ls.getD i []).length - j) (λ _ => [])])]) (finalKH Tryz.prog Tryz.f45 (λ y H => ∃ _ : Unit,
 leSt 2 ⟨[y], H⟩ ⟨[.tup []], WR (l ++ txts ls)⟩ (R (.tup []) (WR (l ++ txts ls))))) (startStH Tryz.f45 ([wBox 1 l.length, .row 1 tyU8 l.length f]) ([.ptr 0 0 0 0, textsAV ls]))) = (let Q1 := (True /\ 0 = 0 /\ 0 = 0 /\ 0 =
 0); let Q0 := (1 = 1 /\ ls.length = ls.length /\ ∀ i < ls.length, sl (ls.getD i []) = sl (ls.getD i [])); (∃ (x : Nat), let Q2 := (l ++ txts (List.take x ls)); (Q1 /\ Q0 /\ (ls.length : Int) = (ls.length : Int) /\ (0 :
 Int) = (x : Int) /\ True) /\ ((71 = 71 /\ Q1 /\ (True /\ 0 = 0 /\ l.length = List.length Q2) /\ True) /\ True /\ (1 = 1 /\ 5 = 5 /\ (List.length Q2).le l.length /\ ∀ (i : Nat), i < List.length Q2 -> f i = AV.pl
 (Value.int k8Q (↑ (Q2.getD i (0 : UInt8)).toNat : Int))) /\ True) /\ inv x) /\ ∀ (x : Nat), let Q4 := (l ++ txts (List.take x ls)); let Q3 := (↑ (List.length (ls.getD x [])) : Int); inv x -> (decide ((x : Int) <
 (ls.length : Int)) = true -> ((0 : Int) <= (x : Int) /\ (x : Int) + 1 <= (ls.length : Int)) /\ (True /\ True /\ True) /\ ∃ (l_1 : Bs), (71 = 71 /\ IsBytes (1 : Nat) (5 : Nat) (List.length Q4) (List.length Q4) (byteF
 (bs Q4)) l_1 /\ (l_1.length + (ByteArray.mk #[32, 34]).size).le lim) /\ (∃ (x_1 : Nat), let Q5 := (l ++ txts (List.take x ls) ++ ([(32 : UInt8), (34 : UInt8)] ++ quoteL (List.take x_1 (ls.getD x
 [])))); (Q1 /\ bs (ls.getD (x : Int).toNat []) = bs (ls.getD x []) /\ Q0 /\ (ls.length : Int) = (ls.length : Int) /\ (x : Int) = (x : Int) /\ (↑ (List.length (ls.getD (x : Int).toNat [])) : Int) = Q3 /\ (0 : Int) =
 (x_1 : Int) /\ True) /\ ((71 = 71 /\ Q1 /\ (True /\ 0 = 0 /\ List.length (l_1 ++ ([32, 34] : Bs)) = List.length Q5) /\ True) /\ True /\ (1 = 1 /\ 5 = 5 /\ (List.length Q5).le (List.length (l_1 ++ ([32, 34] : Bs))) /\ ∀
 (i : Nat), i < List.length Q5 -> AV.pl (Value.int k8Q (↑ ((l_1 ++ ([32, 34] : Bs)).getD i (0 : UInt8)).toNat : Int)) = AV.pl (Value.int k8Q (↑ (Q5.getD i (0 : UInt8)).toNat : Int))) /\ True) /\ inv2 x x_1) /\ ∀ (x_1 :
 Nat), let Q7 := (↑ ((ls.getD x []).getD (x_1 : Int).toNat (0 : UInt8)).toNat : Int); let Q6 := (l ++ txts (List.take x ls) ++ ([(32 : UInt8), (34 : UInt8)] ++ quoteL (List.take x_1 (ls.getD x [])))); inv2 x x_1 ->
 (decide ((x_1 : Int) < Q3) = true -> ((0 : Int) <= (x_1 : Int) /\ (x_1 : Int) + 1 <= Q3) /\ (True /\ True /\ True) /\ ∃ (l_2 : Bs), let Q8 := (l_2 ++ qte (UInt8.ofNat Q7.toNat)); (71 = 71 /\ IsBytes (1 : Nat) (5 :
 Nat) (List.length Q6) (List.length Q6) (byteF (bs Q6)) l_2 /\ (l_2.length + 4).le lim /\ (0 : Int) <= Q7 /\ Q7 + 1 <= 256) /\ ∃ (y : Nat), let Q9 := (l ++ txts (List.take x ls) ++ ([(32 : UInt8), (34 : UInt8)] ++ quoteL
 (List.take y (ls.getD x [])))); (Q1 /\ bs (ls.getD x []) = bs (ls.getD x []) /\ Q0 /\ (ls.length : Int) = (ls.length : Int) /\ (x : Int) = (x : Int) /\ Q3 = Q3 /\ k64Q.wrap ((x_1 : Int) + 1) = (y : Int) /\ True) /\
 ((71 = 71 /\ Q1 /\ (True /\ 0 = 0 /\ List.length Q8 = List.length Q9) /\ True) /\ True /\ (1 = 1 /\ 5 = 5 /\ (List.length Q9).le (List.length Q8) /\ ∀ (i : Nat), i < List.length Q9 -> AV.pl (Value.int k8Q (↑ (Q8.getD i
 (0 : UInt8)).toNat : Int)) = AV.pl (Value.int k8Q (↑ (Q9.getD i (0 : UInt8)).toNat : Int))) /\ True) /\ inv2 x y /\ (List.length (ls.getD x []) - y).succ.le (List.length (ls.getD x []) - x_1)) /\ (decide ((x_1 : Int) <
 Q3) = false -> (True /\ True /\ True) /\ ∃ (l_2 : Bs), let Q10 := (l_2 ++ [UInt8.ofNat (Int.toNat 34)]); (71 = 71 /\ IsBytes (1 : Nat) (5 : Nat) (List.length Q6) (List.length Q6) (byteF (bs Q6)) l_2 /\ (l_2.length +
 1).le lim /\ (0 : Int) ≤ 34 /\ (34 : Int) + 1 <= 256) /\ ∃ (y : Nat), let Q11 := (l ++ txts (List.take y ls)); (Q1 /\ Q0 /\ (ls.length : Int) = (ls.length : Int) /\ k64Q.wrap ((x : Int) + 1) = (y : Int) /\ True) /\
 ((71 = 71 /\ Q1 /\ (True /\ 0 = 0 /\ List.length Q10 = List.length Q11) /\ True) /\ True /\ (1 = 1 /\ 5 = 5 /\ (List.length Q11).le (List.length Q10) /\ ∀ (i : Nat), i < List.length Q11 -> AV.pl (Value.int k8Q (↑
 (Q10.getD i (0 : UInt8)).toNat : Int)) = AV.pl (Value.int k8Q (↑ (Q11.getD i (0 : UInt8)).toNat : Int))) /\ True) /\ inv y /\ (ls.length - y).succ.le (ls.length - x))) /\ (decide ((x : Int) < (ls.length : Int)) = false
 -> True /\ ∃ (x_1 : Unit), (True /\ True) /\ ((71 = 71 /\ Q1 /\ (True /\ 0 = 0 /\ List.length Q4 = List.length (l ++ txts ls)) /\ True) /\ True /\ (1 = 1 /\ 5 = 5 /\ (List.length (l ++ txts ls)).le (List.length Q4) /\ ∀
 (i : Nat), i < List.length (l ++ txts ls) -> AV.pl (Value.int k8Q (↑ (Q4.getD i (0 : UInt8)).toNat : Int)) = AV.pl (Value.int k8Q (↑ ((l ++ txts ls).getD i (0 : UInt8)).toNat : Int))) /\ True) /\ R (AV.tup []) [LObj.box
 71 [AV.ptr 0 0 0 0, AV.own 2 0 (List.length (l ++ txts ls))], LObj.dead, LObj.row 1 5 (List.length (l ++ txts ls)) (byteF (bs (l ++ txts ls)))])) := by kernel_rfl
theorem rowLe' {l B : Bs} {f : Nat -> AV} (hf : ∀ i, i < l.length -> f i = byteF (bs l) i) (h : l = B) : l.length = B.length /\ B.length <= l.length /\ ∀ i, i < B.length -> f i = AV.pl (.int .u8 ((B.getD i 0).toNat : Int)) := by
 subst h
 exact ⟨rfl, Nat.le_refl _, λ i hi => by rw [hf i hi, byteF, bs_data]⟩
theorem nums_take (ns : List Int) (x : Nat) (h : x < ns.length) : nums (ns.take (x + 1)) = nums (ns.take x) ++ (32 :: Lib.itoa (ns.getD x 0)) := by
 rw [List.take_succ_eq_append_getElem h, nums, nums, List.flatMap_append]
 simp [numL, List.getD_eq_getElem?_getD, h]
theorem itoa_len (n : Int) (h : Int64 n) : (Lib.itoa n).length <= 21 := Lib.itoa_length_le n h.1 h.2
theorem nums_len (ns : List Int) (h : ∀ n ∈ ns, Int64 n) : (nums ns).length <= 22 * ns.length := by
 induction ns with
 | nil => simp [nums]
 | cons n ns ih =>
  have h1 := itoa_len n (h n List.mem_cons_self)
  have h2 := ih (λ m hm => h m (List.mem_cons_of_mem _ hm))
  simp only [nums, List.flatMap_cons, List.length_append, numL, List.length_cons] at h2 ⊢
  omega
theorem XNums : EntOk Tryz.prog 19 (.hand tkW TNums) := by
 refine ⟨Am.enters_of Tryz.func19 (by kernel_rfl) (by kernel_rfl), λ H0 args R h => ?_⟩
 unfold TNums at h
 split at h
 ·rename_i t n k e m f x
  obtain ⟨l, ns, ⟨rfl, ⟨rfl, rfl, rfl, rfl, hf⟩, hx, h1, h2⟩, h⟩ := h
  refine SpecH.args 2 (args' := [.ptr 0 0 0 0, intsAV ns]) ⟨⟨trivial, rfl, rfl, rfl⟩, isInts_le hx _, trivial⟩ (SpecH.weak (Z := Unit) (X := λ _ => .tup []) (HH := λ _ => WR (l ++ nums ns)) (mkH (vNums l ns f (λ i => i <= ns.length) R) (tb (ac XItoa (ac XWrS az))) Tryz.func19 (by kernel_rfl) ?_))
  simp only [true_and, and_true, and_self, implies_true, forall_const, gEq_true, gEq_false, nonneg_iff, natle_iff, decide_eq_true_eq, decide_eq_false_iff_not, Int.toNat_natCast, cond_bt, cond_bf, Bool.cond_true, Bool.cond_false, Bool.not_true, Bool.not_false, reduceCtorEq, false_implies, implies_true, Bool.true_eq_false, Bool.false_eq_true, Bool.not_eq_true', Bool.not_eq_false', bs_size, bs_data, bs_toList, bs_extract, bs_append, bs_mk, byteF] at h h1 ⊢
  have hm : lim = 140737488355328 := rfl
  refine ⟨⟨0, rfl, rowLe' hf (by simp [nums]), Nat.zero_le _⟩, λ x hx => ⟨λ hlt => ?_, λ hge => ?_⟩⟩
  ·have hxl : x < ns.length := by omega
   have hmem : ns.getD x 0 ∈ ns := by rw [List.getD_eq_getElem?_getD, List.getElem?_eq_getElem hxl]; exact List.getElem_mem hxl
   have hi := h2 _ hmem
   have hl := itoa_len _ hi
   have h3 := nums_len (ns.take x) (λ n hn => h2 n (List.mem_of_mem_take hn))
   have h4 : (ns.take x).length <= x := by simp; omega
   refine ⟨⟨by omega, by omega⟩, hi, by simp only [List.length_cons, List.length_nil]; omega, _, ⟨isBytes_self _, by simp only [List.length_append, List.length_cons, List.length_nil]; omega⟩, x + 1, by rw [wrap64] <;> omega, rowLe (by rw [nums_take ns x hxl]; simp), by omega, by omega⟩
  ·have : x = ns.length := by omega
   subst this
   exact ⟨(), rowLe (by simp), h⟩
 ·exact h.elim
theorem fdiv16 : ∀ q : Fin 256, ((q.val : Nat) : Int).fdiv (2 ^ min 4 IntKind.u8.bits) = ((q.val / 16 : Nat) : Int) := by decide +kernel
theorem and15 : ∀ q : Fin 256, IntKind.u8.wrap ((BitVec.ofInt IntKind.u8.bits ((q.val : Nat) : Int) &&& BitVec.ofInt IntKind.u8.bits 15).toNat : Nat) = ((q.val % 16 : Nat) : Int) := by decide +kernel
theorem digs : ∀ q : Fin 16, ([48, 49, 50, 51, 52, 53, 54, 55, 56, 57, 97, 98, 99, 100, 101, 102] : Bs).getD q.val 0 = hexD q.val := by decide +kernel
theorem XChar : EntOk Tryz.prog 71 (.hand tkW TChar) := by
 refine ⟨Am.enters_of Tryz.func71 (by kernel_rfl) (by kernel_rfl), λ H0 args R h => ?_⟩
 unfold TChar at h
 split at h
 ·rename_i t n k e m f c
  obtain ⟨l, ⟨rfl, ⟨rfl, rfl, rfl, rfl, hf⟩, h1, hc0, hc1⟩, h⟩ := h
  refine SpecH.weak (Z := Unit) (X := λ _ => .tup []) (HH := λ _ => WR (l ++ qte (UInt8.ofNat c.toNat))) (mkH (vChar l c f R) (tb (ac XWrB (ac XWrS az))) Tryz.func71 (by kernel_rfl) ?_)
  simp only [true_and, and_true, and_self, implies_true, forall_const, gEq_true, gEq_false, nonneg_iff, natle_iff, decide_eq_true_eq, decide_eq_false_iff_not, Int.toNat_natCast, cond_bt, cond_bf, Bool.cond_true, Bool.cond_false, Bool.not_true, Bool.not_false, reduceCtorEq, false_implies, implies_true, Bool.true_eq_false, Bool.false_eq_true, Bool.not_eq_true', Bool.not_eq_false', bs_size, bs_data, bs_toList, bs_extract, bs_append, bs_mk, byteF] at h h1 ⊢
  have hm : lim = 140737488355328 := rfl
  obtain ⟨q, rfl⟩ := Int.eq_ofNat_of_zero_le hc0
  have hq : q < 256 := by omega
  obtain ⟨c, rfl⟩ : ∃ c : UInt8, q = c.toNat := ⟨UInt8.ofNat q, (u8n hq).symm⟩
  have hce : ∀ k : Nat, k < 256 -> ((((c.toNat : Nat) : Int) == (k : Nat)) = true ↔ c = UInt8.ofNat k) := λ k hk => by
   rw [beq_iff_eq]
   constructor
   ·intro e
    have : c.toNat = k := by omega
    rw [<- this]; simp
   ·intro e; rw [e, u8n hk]
  have c34 := hce 34 (by omega)
  have c92 := hce 92 (by omega)
  have c10 := hce 10 (by omega)
  have c13 := hce 13 (by omega)
  simp only [u8_of] at h ⊢
  refine ⟨λ hb => ?_, λ hb => ⟨λ hb2 => ?_, λ hb2 => ⟨λ hb3 => ?_, λ hb3 => ⟨λ hb4 => ?_, λ hb4 => ?_⟩⟩⟩⟩
  ·rw [Bool.or_eq_true] at hb
   have hc : c = 34 ∨ c = 92 := hb.imp c34.1 c92.1
   rw [qte1 hc] at h ⊢
   exact ⟨l, ⟨⟨rfl, rfl, rfl, rfl, hf⟩, by omega, by omega, by omega⟩, _, ⟨isBytes_self _, by simp; omega, by omega, by omega⟩, (), rowLe (by simp), h⟩
  ·obtain rfl := c10.1 hb2
   exact ⟨l, ⟨⟨rfl, rfl, rfl, rfl, hf⟩, by simp; omega⟩, (), rowLe rfl, h⟩
  ·obtain rfl := c13.1 hb3
   exact ⟨l, ⟨⟨rfl, rfl, rfl, rfl, hf⟩, by simp; omega⟩, (), rowLe rfl, h⟩
  ·have n34 : ¬ (c = 34 ∨ c = 92) := λ e => by
    rw [Bool.or_eq_false_iff] at hb
    rcases e with e | e
    ·exact Bool.noConfusion ((c34.2 e).symm.trans hb.1)
    ·exact Bool.noConfusion ((c92.2 e).symm.trans hb.2)
   have n10 : c ≠ 10 := λ e => Bool.noConfusion ((c10.2 e).symm.trans hb2)
   have n13 : c ≠ 13 := λ e => Bool.noConfusion ((c13.2 e).symm.trans hb3)
   have hr : c.toNat < 32 ∨ c.toNat > 126 := by
    simp only [Bool.or_eq_true, decide_eq_true_eq] at hb4
    omega
   rw [qte4 n34 n10 n13 hr] at h ⊢
   have k1 := fdiv16 ⟨c.toNat, hq⟩
   have k2 := and15 ⟨c.toNat, hq⟩
   dsimp only at k1 k2
   have hl1 : c.toNat / 16 < 16 := by omega
   have hl2 : c.toNat % 16 < 16 := by omega
   have k3 := digs ⟨c.toNat / 16, hl1⟩
   have k4 := digs ⟨c.toNat % 16, hl2⟩
   dsimp only at k3 k4
   have k5 : ∀ d : UInt8, UInt8.ofNat d.toNat = d := λ d => by simp
   have k6 : (([48, 49, 50, 51, 52, 53, 54, 55, 56, 57, 97, 98, 99, 100, 101, 102] : Bs).length : Int) = 16 := rfl
   simp only [k1, k2, Int.toNat_natCast, k3, k4, k5, k6]
   have d1 := (hexD (c.toNat / 16)).toNat_lt
   have d2 := (hexD (c.toNat % 16)).toNat_lt
   exact ⟨l, ⟨⟨rfl, rfl, rfl, rfl, hf⟩, by simp; omega⟩, ⟨by omega, by omega⟩, ⟨by omega, by omega⟩, _, ⟨isBytes_self _, by simp; omega, by omega, by omega⟩, ⟨by omega, by omega⟩, ⟨by omega, by omega⟩, _, ⟨isBytes_self _, by simp; omega, by omega, by omega⟩, (), rowLe (by simp), h⟩
  ·have n34 : ¬ (c = 34 ∨ c = 92) := λ e => by
    rw [Bool.or_eq_false_iff] at hb
    rcases e with e | e
    ·exact Bool.noConfusion ((c34.2 e).symm.trans hb.1)
    ·exact Bool.noConfusion ((c92.2 e).symm.trans hb.2)
   have n10 : c ≠ 10 := λ e => Bool.noConfusion ((c10.2 e).symm.trans hb2)
   have n13 : c ≠ 13 := λ e => Bool.noConfusion ((c13.2 e).symm.trans hb3)
   have hr : ¬ (c.toNat < 32 ∨ c.toNat > 126) := by
    simp only [Bool.or_eq_false_iff, decide_eq_false_iff_not] at hb4
    omega
   rw [qte5 n34 n10 n13 hr] at h ⊢
   exact ⟨l, ⟨⟨rfl, rfl, rfl, rfl, hf⟩, by omega, by omega, by omega⟩, (), rowLe rfl, h⟩
 ·exact h.elim
theorem txts_take (ls : List Bs) (x : Nat) (h : x < ls.length) : txts (ls.take (x + 1)) = txts (ls.take x) ++ ([32, 34] ++ quoteL (ls.getD x []) ++ [34]) := by
 rw [List.take_succ_eq_append_getElem h, txts, txts, List.flatMap_append]
 simp [txt, List.getD_eq_getElem?_getD, h]
theorem quote_take (s : Bs) (j : Nat) (h : j < s.length) : quoteL (s.take (j + 1)) = quoteL (s.take j) ++ qte (s.getD j 0) := by
 rw [List.take_succ_eq_append_getElem h, quoteL, quoteL, List.flatMap_append]
 simp [List.getD_eq_getElem?_getD, h]
theorem quote_len (s : Bs) : (quoteL s).length <= 4 * s.length := by
 induction s with
 | nil => simp [quoteL]
 | cons c s ih =>
  have := qte_len c
  simp only [quoteL, List.flatMap_cons, List.length_append, List.length_cons] at ih ⊢
  omega
theorem txtLen_take (ls : List Bs) (x : Nat) (h : x < ls.length) : (txts (ls.take x)).length + (4 * (ls.getD x []).length + 3) <= txtLen ls := by
 induction ls generalizing x with
 | nil => simp at h
 | cons s ls ih =>
  cases x with
  | zero => simp [txts, txtLen]
  | succ x =>
   have h1 := ih x (by simpa using h)
   have h2 := quote_len s
   simp only [txts, txtLen, List.take_succ_cons, List.flatMap_cons, List.length_append, txt, List.length_cons, List.length_nil, List.map_cons, List.sum_cons, List.getD_cons_succ] at h1 ⊢
   omega
theorem txtLen_ge (ls : List Bs) : 3 * ls.length <= txtLen ls := by
 induction ls with
 | nil => simp
 | cons s ls ih => simp only [txtLen, List.map_cons, List.sum_cons, List.length_cons] at ih ⊢; omega
theorem XTexts1 {l : Bs} {ls : List Bs} {f : Nat -> AV} {R : AV -> List LObj -> Prop} (hf : ∀ i, i < l.length -> f i = byteF (bs l) i) (h1 : l.length + txtLen ls <= lim) (h : R (.tup []) (WR (l ++ txts ls))) :
  Am.SpecH Tryz.prog 45 [wBox 1 l.length, .row 1 tyU8 l.length f] [.ptr 0 0 0 0, textsAV ls] R := by
 refine SpecH.weak (Z := Unit) (X := λ _ => .tup []) (HH := λ _ => WR (l ++ txts ls)) (mkH (vTexts l ls f (λ i => i <= ls.length) (λ i j => i < ls.length /\ j <= (ls.getD i []).length) R) (tb (ac XWrB (ac XWrS (ac XChar az)))) Tryz.func45 (by kernel_rfl) ?_)
 simp only [true_and, and_true, and_self, implies_true, forall_const, gEq_true, gEq_false, nonneg_iff, natle_iff, decide_eq_true_eq, decide_eq_false_iff_not, Int.toNat_natCast, cond_bt, cond_bf, Bool.cond_true, Bool.cond_false, Bool.not_true, Bool.not_false, reduceCtorEq, false_implies, implies_true, Bool.true_eq_false, Bool.false_eq_true, Bool.not_eq_true', Bool.not_eq_false', bs_size, bs_data, bs_toList, bs_extract, bs_append, bs_mk, byteF] at h h1 ⊢
 have hm : lim = 140737488355328 := rfl
 refine ⟨⟨0, rfl, rowLe' hf (by simp [txts]), Nat.zero_le _⟩, λ x hx => ⟨λ hlt => ?_, λ hge => ?_⟩⟩
 ·have hxl : x < ls.length := by omega
  have hlen := txtLen_take ls x hxl
  have hge3 := txtLen_ge ls
  have hb : ∀ j, (quoteL ((ls.getD x []).take j)).length <= 4 * (ls.getD x []).length := λ j => Nat.le_trans (quote_len _) (by simp; omega)
  have u5 : ∀ d : UInt8, UInt8.ofNat d.toNat = d := λ d => by simp
  have u6 : UInt8.ofNat (Int.toNat 34) = 34 := rfl
  refine ⟨⟨by omega, by omega⟩, _, ⟨isBytes_self _, by simp only [List.length_append, List.length_cons, List.length_nil]; omega⟩, ⟨0, rfl, rowLe (by simp [quoteL]), hxl, Nat.zero_le _⟩, λ j hj => ⟨λ hjl => ?_, λ hjl => ?_⟩⟩
  ·have hjl2 : j < (ls.getD x []).length := by omega
   have hb1 := hb j
   have hd := ((ls.getD x []).getD j 0).toNat_lt
   rw [u5]
   have hb2 : (quoteL ((ls.getD x []).take j)).length <= 4 * j := Nat.le_trans (quote_len _) (by simp; omega)
   refine ⟨⟨by omega, by omega⟩, _, ⟨isBytes_self _, by simp only [List.length_append, List.length_cons, List.length_nil]; omega, by omega, by omega⟩, j + 1, by rw [wrap64] <;> omega, rowLe (by rw [quote_take _ _ hjl2]; simp), ⟨hxl, by omega⟩, by omega⟩
  ·have hje : j = (ls.getD x []).length := by omega
   subst hje
   have hb1 := hb (ls.getD x []).length
   rw [u6]
   exact ⟨_, ⟨isBytes_self _, by simp only [List.length_append, List.length_cons, List.length_nil]; omega, by omega, by omega⟩, x + 1, by rw [wrap64] <;> omega, rowLe (by rw [txts_take _ _ hxl]; simp), by omega, by omega⟩
 ·have : x = ls.length := by omega
  subst this
  exact ⟨(), rowLe (by simp), h⟩
theorem vTexts0 (s : Bs) (inv2 : Nat -> Prop) (R : AV -> List LObj -> Prop) : (vcA false false (List.length ([.box tyW [.pl (.pointer none), .pl (.slice none 0 0)]] : List LObj)) [] Tryz.prog (mkTab [(20, .hand tkW
 TWrB), (18, .hand tkW TWrS), (71, .hand tkW TChar)]) (Tryz.f45.body.getD .skip) ([.unroll 1 2 false (λ _ => [.loop 5 Nat inv2 (λ j => ⟨slotsOf 33 0 [(0, .ptr 0 0 0 0), (7, textsAV [s]), (8, nm 1), (9, nm 0), (5, sl
 s), (18, nm s.length), (19, nm j)], [wBox 1 ([32, 34] ++ quoteL (s.take j)).length, rowB ([32, 34] ++ quoteL (s.take j))]⟩) (λ j => s.length - j) (λ _ => [])])]) (finalKH Tryz.prog Tryz.f45 (λ y H => ∃ _ : Unit,
 leSt 1 ⟨[y], H⟩ ⟨[.tup []], [wBox 1 (txt s).length, rowB (txt s)]⟩ (R (.tup []) [wBox 1 (txt s).length, rowB (txt s)]))) (startStH Tryz.f45 ([.box tyW [.pl (.pointer none), .pl (.slice none 0 0)]]) ([.ptr 0 0 0 0,
 textsAV [s]]))) = (let Q2 := (True /\ True /\ True); let Q1 := (True /\ 0 = 0 /\ 0 = 0 /\ 0 = 0); let Q0 := (1 = 1 /\ [s].length = [s].length /\ ∀ i < [s].length, sl ([s].getD i []) = sl ([s].getD i [])); (decide ((0 :
 Int) < (↑ [s].length : Int)) = true -> ((0 : Int) <= 0 /\ (0 : Int) + 1 <= (↑ [s].length : Int)) /\ Q2 /\ (71 = 71 /\ (ByteArray.mk #[32, 34]).size.le lim) /\ (∃ (x : Nat), let Q3 := ([(32 : UInt8),
 (34 : UInt8)] ++ quoteL (List.take x s)); (Q1 /\ bs ([s].getD (Int.toNat 0) []) = bs s /\ Q0 /\ (↑ [s].length : Int) = 1 /\ (0 : Int) = 0 /\ (↑ (List.length ([s].getD (Int.toNat 0) [])) : Int) = (↑ s.length : Int) /\ (0
 : Int) = (x : Int) /\ True) /\ ((71 = 71 /\ Q1 /\ (True /\ 0 = 0 /\ (2 : Nat) = Q3.length) /\ True) /\ (1 = 1 /\ 5 = 5 /\ (List.length Q3).le ([32, 34] : Bs).length /\ ∀ (i : Nat), i < List.length Q3 -> AV.pl (Value.int
 k8Q (↑ (([32, 34] : Bs).getD i (0 : UInt8)).toNat : Int)) = AV.pl (Value.int k8Q (↑ (Q3.getD i (0 : UInt8)).toNat : Int))) /\ True) /\ inv2 x) /\ ∀ (x : Nat), inv2 x -> (decide ((x : Int) < (↑ s.length : Int)) = true ->
 ((0 : Int) <= (x : Int) /\ (x : Int) + 1 <= (↑ s.length : Int)) /\ Q2 /\ ∃ (l : Bs), let Q5 := ([(32 : UInt8), (34 : UInt8)] ++ quoteL (List.take x s)); let Q4 := (↑ (s.getD (x : Int).toNat (0 : UInt8)).toNat : Int);
 let Q6 := (l ++ qte (UInt8.ofNat Q4.toNat)); (71 = 71 /\ IsBytes (1 : Nat) (5 : Nat) (List.length Q5) Q5.length (byteF (bs Q5)) l /\ (l.length + 4).le lim /\ (0 : Int) <= Q4 /\ Q4 + 1 <= 256) /\ ∃ (y : Nat), let Q7 :=
 ([(32 : UInt8), (34 : UInt8)] ++ quoteL (List.take y s)); (Q1 /\ bs s = bs s /\ Q0 /\ (1 : Int) = 1 /\ (0 : Int) = 0 /\ (↑ s.length : Int) = (↑ s.length : Int) /\ k64Q.wrap ((x : Int) + 1) = (y : Int) /\ True) /\ ((71
 = 71 /\ Q1 /\ (True /\ 0 = 0 /\ List.length Q6 = Q7.length) /\ True) /\ (1 = 1 /\ 5 = 5 /\ (List.length Q7).le (List.length Q6) /\ ∀ (i : Nat), i < List.length Q7 -> AV.pl (Value.int k8Q (↑ (Q6.getD i (0 : UInt8)).toNat
 : Int)) = AV.pl (Value.int k8Q (↑ (Q7.getD i (0 : UInt8)).toNat : Int))) /\ True) /\ inv2 y /\ (s.length - y).succ.le (s.length - x)) /\ (decide ((x : Int) < (↑ s.length : Int)) = false -> Q2 /\ ∃ (l : Bs), let Q8 := (l
 ++ [UInt8.ofNat (Int.toNat 34)]); (71 = 71 /\ IsBytes (1 : Nat) (5 : Nat) (List.length ([(32 : UInt8), (34 : UInt8)] ++ quoteL (List.take x s))) ([(32 : UInt8), (34 : UInt8)] ++ quoteL (List.take x s)).length (byteF (bs
 ([(32 : UInt8), (34 : UInt8)] ++ quoteL (List.take x s)))) l /\ (l.length + 1).le lim /\ (0 : Int) <= 34 /\ (34 : Int) + 1 <= 256) /\ (decide (k64Q.wrap ((0 : Int) + 1) < 1) = true -> ((0 : Int) <= k64Q.wrap ((0 : Int) +
 1) /\ k64Q.wrap ((0 : Int) + 1) + 1 <= (↑ [s].length : Int)) /\ Q2 /\ ∃ (l_1 : Bs), (71 = 71 /\ IsBytes (1 : Nat) (5 : Nat) (List.length Q8) (List.length Q8) (byteF (bs Q8)) l_1 /\ (l_1.length + (ByteArray.mk #[32, 34]).size).le lim) /\ (∃ (x : Nat), let Q9 := ([(32 : UInt8), (34 : UInt8)] ++ quoteL (List.take x s)); (Q1 /\ bs ([s].getD (k64Q.wrap ((0 : Int) + 1)).toNat []) = bs s /\ Q0 /\ (1 : Int) = 1 /\
 k64Q.wrap ((0 : Int) + 1) = 0 /\ (↑ (List.length ([s].getD (k64Q.wrap ((0 : Int) + 1)).toNat [])) : Int) = (↑ s.length : Int) /\ (0 : Int) = (x : Int) /\ True) /\ ((71 = 71 /\ Q1 /\ (True /\ 0 = 0 /\ List.length (l_1 ++
 ([32, 34] : Bs)) = Q9.length) /\ True) /\ (1 = 1 /\ 5 = 5 /\ (List.length Q9).le (List.length (l_1 ++ ([32, 34] : Bs))) /\ ∀ (i : Nat), i < List.length Q9 -> AV.pl (Value.int k8Q (↑ ((l_1 ++ ([32, 34] : Bs)).getD i (0 :
 UInt8)).toNat : Int)) = AV.pl (Value.int k8Q (↑ (Q9.getD i (0 : UInt8)).toNat : Int))) /\ True) /\ inv2 x) /\ ∀ (x : Nat), let Q11 := (↑ (s.getD (x : Int).toNat (0 : UInt8)).toNat : Int); let Q10 := ([(32 : UInt8), (34
 : UInt8)] ++ quoteL (List.take x s)); inv2 x -> (decide ((x : Int) < (↑ s.length : Int)) = true -> ((0 : Int) <= (x : Int) /\ (x : Int) + 1 <= (↑ s.length : Int)) /\ Q2 /\ ∃ (l : Bs), let Q12 := (l ++ qte (UInt8.ofNat
 Q11.toNat)); (71 = 71 /\ IsBytes (1 : Nat) (5 : Nat) (List.length Q10) Q10.length (byteF (bs Q10)) l /\ (l.length + 4).le lim /\ (0 : Int) <= Q11 /\ Q11 + 1 <= 256) /\ ∃ (y : Nat), let Q13 := ([(32 : UInt8), (34 :
 UInt8)] ++ quoteL (List.take y s)); (Q1 /\ bs s = bs s /\ Q0 /\ (1 : Int) = 1 /\ (0 : Int) = 0 /\ (↑ s.length : Int) = (↑ s.length : Int) /\ k64Q.wrap ((x : Int) + 1) = (y : Int) /\ True) /\ ((71 = 71 /\ Q1 /\ (True /\
 0 = 0 /\ List.length Q12 = Q13.length) /\ True) /\ (1 = 1 /\ 5 = 5 /\ (List.length Q13).le (List.length Q12) /\ ∀ (i : Nat), i < List.length Q13 -> AV.pl (Value.int k8Q (↑ (Q12.getD i (0 : UInt8)).toNat : Int)) = AV.pl
 (Value.int k8Q (↑ (Q13.getD i (0 : UInt8)).toNat : Int))) /\ True) /\ inv2 y /\ (s.length - y).succ.le (s.length - x)) /\ (decide ((x : Int) < (↑ s.length : Int)) = false -> Q2 /\ ∃ (l : Bs), (71 = 71 /\ IsBytes (1 :
 Nat) (5 : Nat) (List.length Q10) Q10.length (byteF (bs Q10)) l /\ (l.length + 1).le lim /\ (0 : Int) <= 34 /\ (34 : Int) + 1 <= 256) /\ False)) /\ (decide (k64Q.wrap ((0 : Int) + 1) < 1) = false -> True /\ ∃ (x : Unit),
 (True /\ True) /\ ((71 = 71 /\ Q1 /\ (True /\ 0 = 0 /\ List.length Q8 = List.length (txt s)) /\ True) /\ (1 = 1 /\ 5 = 5 /\ (List.length (txt s)).le (List.length Q8) /\ ∀ (i : Nat), i < List.length (txt s) -> AV.pl
 (Value.int k8Q (↑ (Q8.getD i (0 : UInt8)).toNat : Int)) = AV.pl (Value.int k8Q (↑ ((txt s).getD i (0 : UInt8)).toNat : Int))) /\ True) /\ R (AV.tup []) [LObj.box 71 [AV.ptr 0 0 0 0, AV.own 1 0 (List.length (txt s))],
 LObj.row 1 5 (List.length (txt s)) (byteF (bs (txt s)))]))) /\ (decide ((0 : Int) < (↑ [s].length : Int)) = false -> True /\ ∃ (x : Unit), (True /\ True) /\ ((71 = 71 /\ False /\ (True /\ True /\ 0 = 0 /\ List.length
 (txt s) = 0) /\ True) /\ List.length (txt s) = 0 /\ True) /\ R (AV.tup []) [LObj.box 71 [AV.ptr 0 0 0 0, AV.own 1 0 (List.length (txt s))], LObj.row 1 5 (List.length (txt s)) (byteF (bs (txt s)))])) := by kernel_rfl
theorem XTexts0 {s : Bs} {R : AV -> List LObj -> Prop} (h1 : 4 * s.length + 3 <= lim) (h : R (.tup []) [wBox 1 (txt s).length, rowB (txt s)]) :
  Am.SpecH Tryz.prog 45 [.box tyW [.pl (.pointer none), .pl (.slice none 0 0)]] [.ptr 0 0 0 0, textsAV [s]] R := by
 refine SpecH.weak (Z := Unit) (X := λ _ => .tup []) (HH := λ _ => [wBox 1 (txt s).length, rowB (txt s)]) (mkH (vTexts0 s (λ j => j <= s.length) R) (tb (ac XWrB (ac XWrS (ac XChar az)))) Tryz.func45 (by kernel_rfl) ?_)
 have z0 : Int.toNat 0 = 0 := rfl
 have g0 : ([s] : List Bs).getD 0 [] = s := rfl
 have l1 : (([s] : List Bs).length : Int) = 1 := rfl
 simp only [true_and, and_true, and_self, implies_true, forall_const, gEq_true, gEq_false, nonneg_iff, natle_iff, decide_eq_true_eq, decide_eq_false_iff_not, Int.toNat_natCast, cond_bt, cond_bf, Bool.cond_true, Bool.cond_false, Bool.not_true, Bool.not_false, reduceCtorEq, false_implies, implies_true, Bool.true_eq_false, Bool.false_eq_true, Bool.not_eq_true', Bool.not_eq_false', bs_size, bs_data, bs_toList, bs_extract, bs_append, bs_mk, byteF, z0, g0, l1] at h h1 ⊢
 have hm : lim = 140737488355328 := rfl
 have w1 : IntKind.i64.wrap (0 + 1) = 1 := by decide
 have u5 : ∀ d : UInt8, UInt8.ofNat d.toNat = d := λ d => by simp
 have u6 : UInt8.ofNat (Int.toNat 34) = 34 := rfl
 refine ⟨λ _ => ⟨⟨by omega, by omega⟩, by simp only [List.length_cons, List.length_nil]; omega, ⟨0, rfl, rowLe (A := [32, 34]) (B := [32, 34] ++ quoteL (s.take 0)) rfl, Nat.zero_le _⟩, λ j hj => ⟨λ hjl => ?_, λ hjl => ?_⟩⟩, λ hn => absurd Int.one_pos hn⟩
 ·have hjl2 : j < s.length := by omega
  have hd := (s.getD j 0).toNat_lt
  have hb2 : (quoteL (s.take j)).length <= 4 * j := Nat.le_trans (quote_len _) (by simp; omega)
  rw [u5]
  exact ⟨⟨by omega, by omega⟩, _, ⟨isBytes_self _, by simp only [List.length_append, List.length_cons, List.length_nil]; omega, by omega, by omega⟩, j + 1, by rw [wrap64] <;> omega, rowLe (by rw [quote_take _ _ hjl2]; simp), by omega, by omega⟩
 ·have hje : j = s.length := by omega
  subst hje
  have hb2 := quote_len s
  rw [u6, w1]
  refine ⟨_, ⟨isBytes_self _, by simp only [List.length_append, List.length_cons, List.length_nil, List.take_length]; omega, by omega, by omega⟩, λ hn => absurd hn (by omega), λ _ => ⟨(), rowLe (by simp [txt]), h⟩⟩
theorem XTexts : EntOk Tryz.prog 45 (.hand tkW TTexts) := by
 refine ⟨Am.enters_of Tryz.func45 (by kernel_rfl) (by kernel_rfl), λ H0 args R h => ?_⟩
 unfold TTexts at h
 split at h
 ·rename_i t x
  obtain ⟨s, ⟨rfl, hx, h1⟩, h⟩ := h
  exact SpecH.args 1 (args' := [.ptr 0 0 0 0, textsAV [s]]) ⟨⟨trivial, rfl, rfl, rfl⟩, isTexts_le hx _, trivial⟩ (XTexts0 h1 h)
 ·rename_i t n k e m f x
  obtain ⟨l, ls, ⟨rfl, ⟨rfl, rfl, rfl, rfl, hf⟩, hx, h1⟩, h⟩ := h
  exact SpecH.args 2 (args' := [.ptr 0 0 0 0, textsAV ls]) ⟨⟨trivial, rfl, rfl, rfl⟩, isTexts_le hx _, trivial⟩ (XTexts1 hf h1 h)
 ·exact h.elim
end Go.Proofs.Sz

namespace Go.Proofs.Sz
open Go Go.Am Go.SP
abbrev tyRd : TypeId := 125
abbrev tyNE : TypeId := 169
def rdO (r : Rd) : LObj := .box tyRd [sl r.rest, bl r.bad]
def tkR : List LObj -> List AV -> List Nat := λ _ xs => match xs with
 | .ptr l 0 0 0 :: _ => [l]
 | _ => []
def rlim : Nat := 1000000
def TBlank : HTrans := λ H args K => match H, args with
 | [.box t [.pl (.string s), .pl (.bool b)]], [.ptr 0 0 0 0] => (t = tyRd /\ s.size <= rlim) /\ K (sl (blankR ⟨s.data.toList, b⟩).1) [rdO (blankR ⟨s.data.toList, b⟩).2]
 | _, _ => False
def TMore : HTrans := λ H args K => match H, args with
 | [.box t [.pl (.string s), .pl (.bool b)]], [.ptr 0 0 0 0] => t = tyRd /\ K (bl (moreR ⟨s.data.toList, b⟩)) [.box tyRd [.pl (.string s), .pl (.bool b)]]
 | _, _ => False
def TNumber : HTrans := λ H args K => match H, args with
 | [.box t [.pl (.string s), .pl (.bool b)]], [.ptr 0 0 0 0] => (t = tyRd /\ s.size <= rlim) /\ K (nm (numberR ⟨s.data.toList, b⟩).1) [rdO (numberR ⟨s.data.toList, b⟩).2]
 | _, _ => False
def TText : HTrans := λ H args K => match H, args with
 | [.box t [.pl (.string s), .pl (.bool b)]], [.ptr 0 0 0 0] => (t = tyRd /\ s.size <= rlim) /\ K (sl (textR ⟨s.data.toList, b⟩).1) [rdO (textR ⟨s.data.toList, b⟩).2]
 | _, _ => False
def TLower : Trans := λ args K => match args with
 | [.pl (.int .u8 c)] => (0 <= c /\ c < 256) /\ K (u8 (UInt8.ofNat c.toNat ||| 32)) []
 | _ => False
def TPUi : Trans := λ args K => match args with
 | [.pl (.string s), .pl (.int .i64 b), .pl (.int .i64 z)] => (s.size <= 2 /\ b = 16 /\ z = 8) /\
   (∀ v, hex16 s.data.toList = some v -> K (.tup [.pl (.int .u64 v), nilErr]) []) /\ (hex16 s.data.toList = none -> K (.tup [.pl (.int .u64 0), .ifc 166 (.pl (.int .i64 2))]) [])
 | _ => False
def TPU : Trans := λ args K => match args with
 | [.pl (.string s), .pl (.int .i64 b), .pl (.int .i64 z)] => (s.size <= 2 /\ b = 16 /\ z = 8) /\
   (∀ v, hex16 s.data.toList = some v -> K (.tup [.pl (.int .u64 v), nilErr]) []) /\ (hex16 s.data.toList = none -> K (.tup [.pl (.int .u64 0), .ifc tyNE .any]) [])
 | _ => False
def TToErr : Trans := λ args K => match args with
 | [.pl (.string _), .pl (.string s), .pl (.int .i64 _), .pl (.int .i64 _), .ifc t (.pl (.int .i64 e))] => (s.size <= 2 /\ t = 166 /\ e = 2) /\ K (.ifc tyNE .any) []
 | _ => False
end Go.Proofs.Sz

namespace Go.Proofs.Sz
open Go Go.Am Go.SP
theorem XToErr : EntOk Tryz.prog 101 (.lend TToErr) := by
 refine ⟨Am.enters_of Tryz.func101 (by kernel_rfl) (by kernel_rfl), λ args R h => ?_⟩
 unfold TToErr at h
 split at h
 ·rename_i fn s bb zz t e
  obtain ⟨⟨hs, rfl, rfl⟩, h⟩ := h
  refine spec_of_calls λ E0 vs hG hF hl hr => ?_
  match vs, hl with
  | [v1, v2, v3, v4, v5], _ =>
   obtain rfl := repV_pl (hr 0 v1 _ rfl rfl)
   obtain rfl := repV_pl (hr 1 v2 _ rfl rfl)
   obtain rfl := repV_int (hr 2 v3 _ rfl rfl)
   obtain rfl := repV_int (hr 3 v4 _ rfl rfl)
   obtain ⟨w5, hw5⟩ := (show Rep E0 [v5] _ from hr 4 v5 _ rfl rfl).ifc_val
   obtain rfl := hw5
   obtain ⟨ev, hev⟩ := hG.cell (g := 2) rfl
   refine (Tryz.strconv_toError_syntax fn s _ _ _ E0.w (by omega) hev (.inr ⟨_, _, rfl⟩)).mono ?_
   rintro e w' ⟨N, rfl, _, _, hb⟩
   exact ⟨_, _, rfl, h, hb, λ E => Rep.ifc rfl (.any _ rfl)⟩
 ·exact h.elim
theorem vLower (c : Int) (R : AV -> List LObj -> Prop) : (vcA false false 0 [] Tryz.prog (mkTab []) (Tryz.f114.body.getD .skip) ([]) (finalK Tryz.prog Tryz.f114 (R)) (startSt Tryz.f114 ([.pl (.int .u8 c)]))) = ((True /\
 True) /\ True /\ R (AV.pl (Value.int k8Q (k8Q.wrap (↑ (BitVec.ofInt k8Q.bits c ||| BitVec.ofInt k8Q.bits (32 : Int)).toNat : Int)))) []) := by kernel_rfl
theorem vPUi (l : Bs) (pv : Nat -> Nat) (inv : Nat -> Prop) (dg : Nat -> Nat -> Prop) (R : AV -> List LObj -> Prop) : (vcA false false 0 [] Tryz.prog (mkTab [(114, .lend TLower)]) (Tryz.f102.body.getD .skip) ([.cut 21
 Unit (λ _ => True) (λ _ => ⟨slotsOf 172 0 [(0, sl l), (1, nm 16), (2, nm 8), (8, bl false), (9, sl l)], []⟩) (λ _ => [.cut 25 Unit (λ _ => True) (λ _ => ⟨slotsOf 172 0 [(0, sl l), (1, nm 16), (2, nm 8), (8, bl
 false), (9, sl l)], []⟩) (λ _ => [.cut 32 Unit (λ _ => True) (λ _ => ⟨slotsOf 172 0 [(0, sl l), (1, nm 16), (2, nm 8), (8, bl false), (9, sl l), (10, .pl (.int .u64 1152921504606846976))], []⟩) (λ _ => [.loop 36
 Nat inv (λ i => ⟨slotsOf 172 0 [(0, sl l), (1, nm 16), (2, nm 8), (8, bl false), (9, sl l), (10, .pl (.int .u64 1152921504606846976)), (11, .pl (.int .u64 255)), (12, bl false), (13, .pl (.int .u64 (pv i))), (99, .own
 0 0 l.length), (100, nm l.length), (101, nm i)], [.row 1 tyU8 l.length (byteF (bs l))]⟩) (λ i => l.length - i) (λ i => [.cut 46 Nat (dg i) (λ d => ⟨slotsOf 172 0 [(0, sl l), (1, nm 16), (2, nm 8), (8, bl false),
 (9, sl l), (10, .pl (.int .u64 1152921504606846976)), (11, .pl (.int .u64 255)), (12, bl false), (13, .pl (.int .u64 (pv i))), (99, .own 0 0 l.length), (100, nm l.length), (101, nm i), (16, .pl (.int .u8 d))], [.row 1
 tyU8 l.length (byteF (bs l))]⟩) (λ _ => [])])])])])]) (finalK Tryz.prog Tryz.f102 (R)) (startSt Tryz.f102 ([sl l, nm 16, nm 8]))) = (let Q24 := ((↑ (l.getD (Int.toNat 0) (0 : UInt8)).toNat : Int) == 48); let Q23 :=
 (Value.int IntKind.u64 (0 : Int)); let Q21 := (bif decide ((8 : Int) < 0) then true else decide ((8 : Int) > 64)); let Q20 := (bif decide ((2 : Int) <= 16) then decide ((16 : Int) <= 36) else false); let Q19 := (AV.tup
 [AV.pl (Value.int IntKind.u64 (255 : Int)), AV.ifc (166 : Nat) (nm 1)]); let Q18 := ((0 : Int) <= 1 /\ (1 : Int) <= (↑ l.length : Int) /\ (↑ l.length : Int) <= (↑ l.length : Int)); let Q17 := (1152921504606846976 : Int);
 let Q16 := ((bs l).extract (Int.toNat 2) (↑ l.length : Int).toNat = bs l /\ (2 : Int) = 16 /\ (8 : Int) = 8 /\ ((16 : Int) == 0) = false /\ bs l = bs l /\ True); let Q15 := ((bs l).extract (Int.toNat 2) (↑ l.length :
 Int).toNat = bs l /\ (8 : Int) = 16 /\ (8 : Int) = 8 /\ ((16 : Int) == 0) = false /\ bs l = bs l /\ True); let Q14 := ((bs l).extract (Int.toNat 1) (↑ l.length : Int).toNat = bs l /\ (8 : Int) = 16 /\ (8 : Int) = 8 /\
 ((16 : Int) == 0) = false /\ bs l = bs l /\ True); let Q13 := ((bs l).extract (Int.toNat 2) (↑ l.length : Int).toNat = bs l /\ (16 : Int) = 16 /\ (8 : Int) = 8 /\ ((16 : Int) == 0) = false /\ bs l = bs l /\ True); let
 Q12 := (True /\ 0 = 0 /\ l.length = l.length); let Q11 := (decide ((↑ l.length : Int) ≥ 3)); let Q9 := (AV.tup [AV.pl Q23, AV.ifc (166 : Nat) (nm 2)]); let Q7 := (True /\ True /\ True); let Q6 := ((1 = 1 /\ 5 = 5 /\
 l.length.le l.length /\ ∀ i < l.length, byteF (bs l) i = byteF (bs l) i) /\ True); let Q5 := (↑ (l.getD (Int.toNat 1) (0 : UInt8)).toNat : Int); let Q22 := ((0 : Int) <= Q5 /\ Q5 + 1 <= 256); let Q10 := (↑ (UInt8.ofNat
 Q5.toNat ||| (32 : UInt8)).toNat : Int); let Q4 := ((0 : Int) <= 2 /\ (2 : Int) <= (↑ l.length : Int) /\ (↑ l.length : Int) <= (↑ l.length : Int)); let Q3 := (gEq Q11 true = true -> ((0 : Int) <= 1 /\ (1 : Int) + 1 <= (↑
 l.length : Int)) /\ True); let Q1 := (gEq Q11 true = false -> true = true /\ (false = true -> Q4 /\ ∃ (x : Unit), Q13 /\ True /\ True) /\ (false = false -> Q18 /\ ∃ (x : Unit), Q14 /\ True /\ True)); let Q0 := (gEq Q11
 true = true -> Q22 /\ true = true /\ ((bif true then Q10 == 120 else false) = true -> Q4 /\ ∃ (x : Unit), Q13 /\ True /\ True) /\ ((bif true then Q10 == 120 else false) = false -> Q18 /\ ∃ (x : Unit), Q14 /\ True /\
 True)); let Q8 := (gEq Q11 true = false -> true = true /\ (false = true -> Q4 /\ ∃ (x : Unit), Q15 /\ True /\ True) /\ (false = false -> Q3 /\ Q0 /\ Q1)); let Q2 := (gEq Q11 true = true -> Q22 /\ true = true /\ ((bif
 true then Q10 == 111 else false) = true -> Q4 /\ ∃ (x : Unit), Q15 /\ True /\ True) /\ ((bif true then Q10 == 111 else false) = false -> Q3 /\ Q0 /\ Q1)); (((bs l).toList == (ByteArray.mk #[]).toList) = true -> True /\
 Q7 /\ Q7 /\ R Q9 []) /\ (((bs l).toList == (ByteArray.mk #[]).toList) = false -> ((Q20 = true -> ∃ (x : Unit), (bs l = bs l /\ (16 : Int) = 16 /\ (8 : Int) = 8 /\ ((16 : Int) == 0) = false /\ bs l = bs l /\ True) /\ True
 /\ True) /\ (Q20 = false -> (((16 : Int) == 0) = true -> ((0 : Int) <= 0 /\ (0 : Int) + 1 <= (↑ l.length : Int)) /\ (Q24 = true -> Q3 /\ (gEq Q11 true = true -> Q22 /\ true = true /\ ((bif true then Q10 == 98 else false)
 = true -> Q4 /\ ∃ (x : Unit), Q16 /\ True /\ True) /\ ((bif true then Q10 == 98 else false) = false -> Q3 /\ Q2 /\ Q8)) /\ (gEq Q11 true = false -> true = true /\ (false = true -> Q4 /\ ∃ (x : Unit), Q16 /\ True /\ True)
 /\ (false = false -> Q3 /\ Q2 /\ Q8))) /\ (Q24 = false -> ∃ (x : Unit), (bs l = bs l /\ (10 : Int) = 16 /\ (8 : Int) = 8 /\ ((16 : Int) == 0) = false /\ bs l = bs l /\ True) /\ True /\ True)) /\ (((16 : Int) == 0) =
 false -> True /\ Q7 /\ Q7 /\ R (AV.tup [AV.pl Q23, AV.ifc (166 : Nat) (nm 3)]) []))) /\ ∀ (x : Unit), True -> ((((8 : Int) == 0) = true -> ∃ (x : Unit), (bs l = bs l /\ (16 : Int) = 16 /\ (64 : Int) = 8 /\ false = false
 /\ bs l = bs l /\ True) /\ True /\ True) /\ (((8 : Int) == 0) = false -> (Q21 = true -> True /\ Q7 /\ Q7 /\ R (AV.tup [AV.pl Q23, AV.ifc (166 : Nat) (nm 4)]) []) /\ (Q21 = false -> ∃ (x : Unit), (bs l = bs l /\ (16 :
 Int) = 16 /\ (8 : Int) = 8 /\ false = false /\ bs l = bs l /\ True) /\ True /\ True))) /\ ∀ (x : Unit), True -> ((((16 : Int) == 10) = true -> ∃ (x : Unit), (bs l = bs l /\ (16 : Int) = 16 /\ (8 : Int) = 8 /\ false =
 false /\ bs l = bs l /\ (1844674407370955162 : Int) = 1152921504606846976 /\ True) /\ True /\ True) /\ (((16 : Int) == 10) = false -> (((16 : Int) == 16) = true -> ∃ (x : Unit), (bs l = bs l /\ (16 : Int) = 16 /\ (8 :
 Int) = 8 /\ false = false /\ bs l = bs l /\ Q17 = 1152921504606846976 /\ True) /\ True /\ True) /\ (((16 : Int) == 16) = false -> ∃ (x : Unit), (bs l = bs l /\ (16 : Int) = 16 /\ (8 : Int) = 8 /\ false = false /\ bs l =
 bs l /\ IntKind.u64.wrap (IntKind.u64.wrap (Int.tdiv (18446744073709551615 : Int) (Int.ofNat (nat_lit 15 + 1))) + 1) = 1152921504606846976 /\ True) /\ True /\ True))) /\ ∀ (x : Unit), True -> l.length.le maxLen /\ (∃ (x
 : Nat), (bs l = bs l /\ (16 : Int) = 16 /\ (8 : Int) = 8 /\ false = false /\ bs l = bs l /\ Q17 = 1152921504606846976 /\ IntKind.u64.wrap (IntKind.u64.wrap ((1 : Int) * 2 ^ min (nat_lit 8 % ((2 : Int) ^
 IntKind.u64.bits).natAbs) IntKind.u64.bits) - 1) = 255 /\ false = false /\ (0 : Int) = (↑ (pv x) : Int) /\ Q12 /\ (↑ l.length : Int) = (↑ l.length : Int) /\ (0 : Int) = (x : Int) /\ True) /\ Q6 /\ inv x) /\ ∀ (x : Nat),
 let Q26 := ((↑ (pv x) : Int) * IntKind.u64.wrap (16 : Int)); let Q25 := (↑ (l.getD ((0 : Nat) + (x : Int).toNat) (0 : UInt8)).toNat : Int); let Q28 := ((0 : Int) <= Q25 /\ Q25 + 1 <= 256); let Q27 := (↑ (UInt8.ofNat
 Q25.toNat ||| (32 : UInt8)).toNat : Int); inv x -> (decide ((x : Int) < (↑ l.length : Int)) = true -> ((0 : Int) <= (x : Int) /\ (x : Int) + 1 <= (↑ l.length : Int)) /\ (((0 : Nat) + (x : Int).toNat).succ.le l.length
 /\ True) /\ (((bif Q25 == 95 then false else false) = true -> ∃ (y : Nat), (bs l = bs l /\ (16 : Int) = 16 /\ (8 : Int) = 8 /\ false = false /\ bs l = bs l /\ Q17 = 1152921504606846976 /\ (255 : Int) = 255 /\ true =
 false /\ (↑ (pv x) : Int) = (↑ (pv y) : Int) /\ Q12 /\ (↑ l.length : Int) = (↑ l.length : Int) /\ k64Q.wrap ((x : Int) + 1) = (y : Int) /\ True) /\ Q6 /\ inv y /\ (l.length - y).succ.le (l.length - x)) /\ ((bif Q25 ==
 95 then false else false) = false -> ((bif decide ((48 : Int) <= Q25) then decide (Q25 ≤ 57) else false) = true -> ∃ (x_1 : Nat), (bs l = bs l /\ (16 : Int) = 16 /\ (8 : Int) = 8 /\ false = false /\ bs l = bs l /\ Q17 =
 1152921504606846976 /\ (255 : Int) = 255 /\ false = false /\ (↑ (pv x) : Int) = (↑ (pv x) : Int) /\ k8Q.wrap (Q25 - 48) = (x_1 : Int) /\ Q12 /\ (↑ l.length : Int) = (↑ l.length : Int) /\ (x : Int) = (x : Int) /\ True)
 /\ Q6 /\ dg x x_1) /\ ((bif decide ((48 : Int) <= Q25) then decide (Q25 <= 57) else false) = false -> Q28 /\ (gEq (decide ((97 : Int) <= Q27)) true = true -> Q28 /\ true = true /\ ((bif true then decide (Q27 <= 122) else
 false) = true -> Q28 /\ ∃ (x_1 : Nat), (bs l = bs l /\ (16 : Int) = 16 /\ (8 : Int) = 8 /\ false = false /\ bs l = bs l /\ Q17 = 1152921504606846976 /\ (255 : Int) = 255 /\ false = false /\ (↑ (pv x) : Int) = (↑ (pv x) :
 Int) /\ k8Q.wrap (k8Q.wrap (Q27 - 97) + 10) = (x_1 : Int) /\ Q12 /\ (↑ l.length : Int) = (↑ l.length : Int) /\ (x : Int) = (x : Int) /\ True) /\ Q6 /\ dg x x_1) /\ ((bif true then decide (Q27 <= 122) else false) =
 false -> True /\ Q7 /\ Q7 /\ R Q9 [])) /\ (gEq (decide ((97 : Int) <= Q27)) true = false -> true = true /\ (false = true -> Q28 /\ ∃ (x_1 : Nat), (bs l = bs l /\ (16 : Int) = 16 /\ (8 : Int) = 8 /\ false = false /\ bs l
 = bs l /\ Q17 = 1152921504606846976 /\ (255 : Int) = 255 /\ false = false /\ (↑ (pv x) : Int) = (↑ (pv x) : Int) /\ k8Q.wrap (k8Q.wrap (Q27 - 97) + 10) = (x_1 : Int) /\ Q12 /\ (↑ l.length : Int) = (↑ l.length : Int) /\
 (x : Int) = (x : Int) /\ True) /\ Q6 /\ dg x x_1) /\ (false = false -> True /\ Q7 /\ Q7 /\ R Q9 []))))) /\ ∀ (x_1 : Nat), let Q30 := (IntKind.u64.wrap Q26 + IntKind.u64.wrap (x_1 : Int)); let Q29 := (bif decide
 (IntKind.u64.wrap Q30 < IntKind.u64.wrap Q26) then true else decide (IntKind.u64.wrap Q30 > 255)); dg x x_1 -> (decide ((x_1 : Int) ≥ k8Q.wrap (16 : Int)) = true -> True /\ Q7 /\ Q7 /\ R Q9 []) /\ (decide ((x_1 : Int)
 ≥ k8Q.wrap (16 : Int)) = false -> (decide ((↑ (pv x) : Int) ≥ 1152921504606846976) = true -> True /\ Q7 /\ Q7 /\ R Q19 []) /\ (decide ((↑ (pv x) : Int) ≥ 1152921504606846976) = false -> (Q29 = true -> True /\ Q7 /\ Q7 /\
 R Q19 []) /\ (Q29 = false -> ∃ (y : Nat), (bs l = bs l /\ (16 : Int) = 16 /\ (8 : Int) = 8 /\ false = false /\ bs l = bs l /\ Q17 = 1152921504606846976 /\ (255 : Int) = 255 /\ false = false /\ IntKind.u64.wrap Q30 = (↑
 (pv y) : Int) /\ Q12 /\ (↑ l.length : Int) = (↑ l.length : Int) /\ k64Q.wrap ((x : Int) + 1) = (y : Int) /\ True) /\ Q6 /\ inv y /\ (l.length - y).succ.le (l.length - x))))) /\ (decide ((x : Int) < (↑ l.length : Int))
 = false -> (gEq false true = true -> False) /\ (gEq false true = false -> true = true /\ (false = true -> True /\ Q7 /\ Q7 /\ R Q9 []) /\ (false = false -> Q7 /\ Q7 /\ R (AV.tup [AV.pl (Value.int IntKind.u64 (↑ (pv x) :
 Int)), nilErr]) []))))) := by kernel_rfl
theorem vPU (l : Bs) (R : AV -> List LObj -> Prop) : (vcA false false 0 [] Tryz.prog (mkTab [(102, .lend TPUi), (101, .lend TToErr)]) (Tryz.f92.body.getD .skip) ([]) (finalK Tryz.prog Tryz.f92 (R)) (startSt Tryz.f92 ([sl
 l, nm 16, nm 8]))) = (let Q0 := (True /\ True /\ True); (l.length.le (2 : Nat) /\ (16 : Int) = 16 /\ (8 : Int) = 8) /\ (∀ (v : Nat), hex16 l = some v -> True /\ (false = true -> False) /\ (false = false -> Q0 /\ Q0 /\ R
 (AV.tup [AV.pl (Value.int IntKind.u64 (v : Int)), nilErr]) [])) /\ (hex16 l = none -> True /\ (true = true -> (l.length.le (2 : Nat) /\ 166 = 166 /\ (2 : Int) = 2) /\ Q0 /\ Q0 /\ R (AV.tup [AV.pl (Value.int IntKind.u64
 (0 : Int)), AV.ifc (169 : Nat) AV.any]) []) /\ (true = false -> Q0 /\ Q0 /\ R (AV.tup [AV.pl (Value.int IntKind.u64 (0 : Int)), nilErr]) []))) := by kernel_rfl
theorem vBlank (l : Bs) (b : Bool) (R : AV -> List LObj -> Prop) : (vcA false false (List.length ([.box tyRd [sl l, bl b]] : List LObj)) [] Tryz.prog (mkTab [(32, .lend TCut)]) (Tryz.f65.body.getD .skip) ([]) (finalKH
 Tryz.prog Tryz.f65 (R)) (startStH Tryz.f65 ([.box tyRd [sl l, bl b]]) ([.ptr 0 0 0 0]))) = (let Q0 := (cutL (sepOf (ByteArray.mk #[32])) l); (1 = 1 /\ l.length.le (9223372036854775806 : Nat)) /\ True /\ True /\
 (True /\ True) /\ R (sl Q0.1) [LObj.box 125 [sl Q0.2.1, bl (bif b then true else bif Q0.2.2 then (bs Q0.2.1).toList == (ByteArray.mk #[]).toList else false)]]) := by kernel_rfl
theorem vMore (l : Bs) (b : Bool) (R : AV -> List LObj -> Prop) : (vcA false false (List.length ([.box tyRd [sl l, bl b]] : List LObj)) [] Tryz.prog (mkTab []) (Tryz.f82.body.getD .skip) ([]) (finalKH Tryz.prog Tryz.f82
 (R)) (startStH Tryz.f82 ([.box tyRd [sl l, bl b]]) ([.ptr 0 0 0 0]))) = ((True /\ True) /\ R (bl (bif !b then ! (bs l).toList == (ByteArray.mk #[]).toList else false)) [LObj.box 125 [sl l, bl b]]) := by kernel_rfl
theorem vNumber (l : Bs) (b : Bool) (R : AV -> List LObj -> Prop) : (vcA false false (List.length ([.box tyRd [sl l, bl b]] : List LObj)) [] Tryz.prog (mkTab [(65, .hand tkR TBlank), (91, .lend TAtoi), (41, .lend
 TItoa)]) (Tryz.f78.body.getD .skip) ([]) (finalKH Tryz.prog Tryz.f78 (R)) (startStH Tryz.f78 ([.box tyRd [sl l, bl b]]) ([.ptr 0 0 0 0]))) = (let Q3 := (gEq (blankR (Rd.mk l b)).2.bad false = true -> True /\ True); let
 Q0 := (atoiV (blankR (Rd.mk l b)).1); let Q2 := ((-9223372036854775808 : Int) <= Q0.1 /\ Q0.1 <= 9223372036854775807); let Q1 := (bif false then true else ! (bs (Lib.itoa Q0.1)).toList == (bs (blankR (Rd.mk l
 b)).1).toList); (True /\ True) /\ (125 = 125 /\ l.length.le rlim) /\ (List.length (blankR (Rd.mk l b)).1).le (281474976710656 : Nat) /\ (Q0.2 = true -> Q3 /\ (gEq (bif (blankR (Rd.mk l b)).2.bad then true else true)
 false = true -> Q2 /\ true = true /\ True /\ (True /\ True) /\ R (nm Q0.1) [LObj.box 125 [sl (blankR (Rd.mk l b)).2.rest, bl Q1]]) /\ (gEq (bif (blankR (Rd.mk l b)).2.bad then true else true) false = false -> true = true
 /\ True /\ (True /\ True) /\ R (nm Q0.1) [LObj.box 125 [sl (blankR (Rd.mk l b)).2.rest, bl true]])) /\ (Q0.2 = false -> Q3 /\ (gEq (bif (blankR (Rd.mk l b)).2.bad then true else false) false = true -> Q2 /\ true = true
 /\ True /\ (True /\ True) /\ R (nm Q0.1) [LObj.box 125 [sl (blankR (Rd.mk l b)).2.rest, bl Q1]]) /\ (gEq (bif (blankR (Rd.mk l b)).2.bad then true else false) false = false -> true = true /\ True /\ (True /\ True) /\ R
 (nm Q0.1) [LObj.box 125 [sl (blankR (Rd.mk l b)).2.rest, bl true]]))) := by kernel_rfl
end Go.Proofs.Sz

namespace Go.Proofs.Sz
open Go Go.Am Go.SP
theorem or32 : ∀ q : Fin 256, IntKind.u8.wrap ((BitVec.ofInt IntKind.u8.bits ((q.val : Nat) : Int) ||| BitVec.ofInt IntKind.u8.bits 32).toNat : Nat) = ((UInt8.ofNat q.val ||| 32).toNat : Int) := by decide +kernel
theorem XLower : EntOk Tryz.prog 114 (.lend TLower) := by
 refine ⟨Am.enters_of Tryz.func114 (by kernel_rfl) (by kernel_rfl), λ args R h => ?_⟩
 unfold TLower at h
 split at h
 ·rename_i c
  obtain ⟨⟨h0, h1⟩, h⟩ := h
  refine mkS (vLower c R) (tb az) Tryz.func114 (by kernel_rfl) ?_
  simp only [true_and, and_true, and_self, implies_true, forall_const, gEq_true, gEq_false, nonneg_iff, natle_iff, decide_eq_true_eq, decide_eq_false_iff_not, Int.toNat_natCast, cond_bt, cond_bf, Bool.cond_true, Bool.cond_false, Bool.not_true, Bool.not_false, reduceCtorEq, false_implies, implies_true, Bool.true_eq_false, Bool.false_eq_true, Bool.not_eq_true', Bool.not_eq_false']
  obtain ⟨q, rfl⟩ := Int.eq_ofNat_of_zero_le h0
  have := or32 ⟨q, by omega⟩
  dsimp only at this
  rw [this]
  exact h
 ·exact h.elim
theorem hexD1 : ∀ q : Fin 256, 48 <= q.val -> q.val <= 57 -> IntKind.u8.wrap (((q.val : Nat) : Int) - 48) = ((q.val - 48 : Nat) : Int) /\ q.val - 48 < 16 /\ hexV (UInt8.ofNat q.val) = some (q.val - 48) := by decide +kernel
theorem hexD2 : ∀ q : Fin 256, ¬ (48 <= q.val /\ q.val <= 57) -> 97 <= (UInt8.ofNat q.val ||| 32).toNat -> (UInt8.ofNat q.val ||| 32).toNat <= 122 -> IntKind.u8.wrap (IntKind.u8.wrap (((UInt8.ofNat q.val ||| 32).toNat : Int) - 97) + 10) = (((UInt8.ofNat q.val ||| 32).toNat - 87 : Nat) : Int) /\ (UInt8.ofNat q.val ||| 32).toNat - 87 < 36 /\ hexV (UInt8.ofNat q.val) = bif decide ((UInt8.ofNat q.val ||| 32).toNat - 87 < 16) then some ((UInt8.ofNat q.val ||| 32).toNat - 87) else none := by decide +kernel
theorem hexD3 : ∀ q : Fin 256, ¬ (48 <= q.val /\ q.val <= 57) -> ¬ (97 <= (UInt8.ofNat q.val ||| 32).toNat /\ (UInt8.ofNat q.val ||| 32).toNat <= 122) -> hexV (UInt8.ofNat q.val) = none := by decide +kernel
theorem hexV_lt {c : UInt8} {d : Nat} (h : hexV c = some d) : d < 16 := by
 have : ∀ q : Fin 256, ∀ d, hexV (UInt8.ofNat q.val) = some d -> d < 16 := by
  intro q d h
  unfold hexV at h
  split at h
  ·injection h with h; omega
  ·split at h
   ·injection h with h; omega
   ·cases h
 exact this ⟨c.toNat, c.toNat_lt⟩ d (by simpa using h)
theorem hexGo_snoc (n : Nat) (a : Bs) (c : UInt8) : hexGo n (a ++ [c]) = (hexGo n a).bind λ v => (hexV c).map λ d => 16 * v + d := by
 induction a generalizing n with
 | nil =>
  simp only [List.nil_append, hexGo, Option.bind_some]
  cases hexV c <;> rfl
 | cons x a ih =>
  simp only [List.cons_append, hexGo]
  cases hexV x with
  | none => rfl
  | some d => exact ih _
theorem hexGo_app_none (n : Nat) (a b : Bs) (h : hexGo n a = none) : hexGo n (a ++ b) = none := by
 induction a generalizing n with
 | nil => simp [hexGo] at h
 | cons x a ih =>
  simp only [List.cons_append, hexGo] at h ⊢
  cases hx : hexV x with
  | none => rfl
  | some d => rw [hx] at h; exact ih _ h
theorem hexGo_lt (a : Bs) : ∀ (n v : Nat), hexGo n a = some v -> v + 1 <= (n + 1) * 16 ^ a.length := by
 induction a with
 | nil => intro n v h; simp only [hexGo, Option.some.injEq] at h; subst h; simp
 | cons x a ih =>
  intro n v h
  simp only [hexGo] at h
  cases hx : hexV x with
  | none => rw [hx] at h; cases h
  | some d =>
   rw [hx] at h
   have h1 := ih _ _ h
   have h2 := hexV_lt hx
   rw [List.length_cons, Nat.pow_succ]
   have h3 : (16 * n + d + 1) * 16 ^ a.length <= ((n + 1) * 16) * 16 ^ a.length := Nat.mul_le_mul_right _ (by omega)
   have h4 : ((n + 1) * 16) * 16 ^ a.length = (n + 1) * (16 ^ a.length * 16) := by rw [Nat.mul_assoc, Nat.mul_comm 16]
   omega
theorem take_at (l : Bs) (x : Nat) (h : x < l.length) : l.take (x + 1) = l.take x ++ [l.getD x 0] := by
 rw [List.take_succ_eq_append_getElem h, List.getD_eq_getElem?_getD, List.getElem?_eq_getElem h]
 rfl
theorem hex16_ne {l : Bs} (h : l ≠ []) : hex16 l = hexGo 0 l := by
 cases l with
 | nil => exact absurd rfl h
 | cons c l => rfl
set_option maxRecDepth 20000 in
theorem XPUi : EntOk Tryz.prog 102 (.lend TPUi) := by
 refine ⟨Am.enters_of Tryz.func102 (by kernel_rfl) (by kernel_rfl), λ args R h => ?_⟩
 unfold TPUi at h
 split at h
 ·rename_i s b z
  obtain ⟨l, rfl⟩ : ∃ l, s = bs l := ⟨_, bs_of s⟩
  obtain ⟨⟨h1, rfl, rfl⟩, h2, h3⟩ := h
  rw [bs_size] at h1
  rw [bs_data] at h2 h3
  refine mkS (vPUi l (λ i => (hexGo 0 (l.take i)).getD 0) (λ i => i <= l.length /\ (hexGo 0 (l.take i)).isSome) (λ i d => d < 36 /\ hexV (l.getD i 0) = bif decide (d < 16) then some d else none) R) (tb (ac XLower az)) Tryz.func102 (by kernel_rfl) ?_
  have k1 : (bif decide ((2 : Int) <= (16 : Int)) then decide ((16 : Int) <= (36 : Int)) else false) = true := rfl
  have k2 : ((16 : Int) == (0 : Int)) = false := rfl
  have k3 : ((8 : Int) == (0 : Int)) = false := rfl
  have k4 : ((16 : Int) == (10 : Int)) = false := rfl
  have k5 : ((16 : Int) == (16 : Int)) = true := rfl
  have k6 : (decide ((8 : Int) < 0) || decide ((8 : Int) > 64)) = false := rfl
  have k8 : ∀ c : UInt8, UInt8.ofNat c.toNat = c := λ c => by simp
  have k9 : IntKind.u8.wrap 16 = 16 := by decide
  have k10 : IntKind.u64.wrap 16 = 16 := by decide
  simp only [k1, k2, k3, k4, k5, k6, k8, k9, k10, Bool.and_false, true_and, and_true, and_self, implies_true, forall_const, gEq_true, gEq_false, nonneg_iff, natle_iff, decide_eq_true_eq, decide_eq_false_iff_not, Int.toNat_natCast, cond_bt, cond_bf, Bool.cond_true, Bool.cond_false, Bool.not_true, Bool.not_false, reduceCtorEq, false_implies, implies_true, Bool.true_eq_false, Bool.false_eq_true, Bool.not_eq_true', Bool.not_eq_false', bs_size, bs_data, bs_toList, bs_extract, bs_append, bs_mk, byteF]
  refine ⟨λ hb => ?_, λ hb => ⟨⟨(), trivial⟩, ⟨(), trivial⟩, ⟨(), trivial⟩, by unfold maxLen; omega, ⟨0, ⟨by decide +kernel, rfl, rfl⟩, Nat.le_refl _, Nat.zero_le _, rfl⟩, λ x hx => ⟨λ hlt => ?_, λ hge => ?_⟩⟩⟩
  ·obtain rfl := beq_iff_eq.1 hb
   exact h3 rfl
  ·obtain ⟨hx1, hx2⟩ := hx
   have hxl : x < l.length := by omega
   obtain ⟨v, hv⟩ := Option.isSome_iff_exists.1 hx2
   have hvlt := hexGo_lt _ _ _ hv
   have hv16 : v < 16 := by
    have : (l.take x).length = x := by simp; omega
    rw [this] at hvlt
    have : x = 0 ∨ x = 1 := by omega
    rcases this with rfl | rfl <;> omega
   have hne : l ≠ [] := λ e => by subst e; simp at hxl
   have hnone : hexV (l.getD x 0) = none -> R (AV.tup [AV.pl (Value.int IntKind.u64 0), AV.ifc 166 (AV.pl (Value.int IntKind.i64 2))]) [] := λ hn => by
    refine h3 ?_
    rw [hex16_ne hne]
    have : hexGo 0 (l.take (x + 1)) = none := by rw [take_at l x hxl, hexGo_snoc, hv, hn]; rfl
    have := hexGo_app_none 0 _ (l.drop (x + 1)) this
    rwa [List.take_append_drop] at this
   obtain ⟨c, hc⟩ : ∃ c, l.getD x 0 = c := ⟨_, rfl⟩
   simp only [Nat.zero_add, hc] at hnone ⊢
   have hclt := c.toNat_lt
   have d1 := hexD1 ⟨c.toNat, hclt⟩
   have d2 := hexD2 ⟨c.toNat, hclt⟩
   have d3 := hexD3 ⟨c.toNat, hclt⟩
   simp only [k8] at d1 d2 d3
   refine ⟨⟨by omega, by omega⟩, by omega, ⟨λ hd => ?_, λ hd => ⟨⟨by omega, by omega⟩, λ h97 => ⟨⟨by omega, by omega⟩, λ h122 => ⟨⟨by omega, by omega⟩, ?_⟩, λ h122 => ?_⟩, λ h97 => ?_⟩⟩, ?_⟩
   ·simp only [Bool.and_eq_true, decide_eq_true_eq] at hd
    obtain ⟨e1, e2, e3⟩ := d1 (by omega) (by omega)
    refine ⟨_, e1, Nat.le_refl _, by omega, ?_⟩
    rw [e3, decide_eq_true e2]
    rfl
   ·simp only [Bool.and_eq_false_iff, decide_eq_false_iff_not] at hd
    obtain ⟨e1, e2, e3⟩ := d2 (by omega) (by omega) (by omega)
    exact ⟨_, e1, Nat.le_refl _, e2, e3⟩
   ·simp only [Bool.and_eq_false_iff, decide_eq_false_iff_not] at hd
    exact hnone (d3 (by omega) (by omega))
   ·simp only [Bool.and_eq_false_iff, decide_eq_false_iff_not] at hd
    exact hnone (d3 (by omega) (by omega))
   ·rintro d ⟨hd, hvd⟩
    refine ⟨λ h16 => ?_, λ h16 => ?_⟩
    ·rw [decide_eq_false (by omega)] at hvd
     exact hnone hvd
    ·rw [decide_eq_true (by omega)] at hvd
     have w1 : IntKind.u64.wrap ((v : Int) * 16) = (v : Int) * 16 := wrapu64 (by omega) (by omega)
     have w2 : IntKind.u64.wrap (d : Int) = (d : Int) := wrapu64 (by omega) (by omega)
     have w3 : IntKind.u64.wrap ((v : Int) * 16 + d) = (v : Int) * 16 + d := wrapu64 (by omega) (by omega)
     simp only [hv, Option.getD_some, w1, w2, w3]
     have hbig : (decide ((v : Int) * 16 + d < (v : Int) * 16) || decide ((v : Int) * 16 + d > 255)) = false := by simp; omega
     rw [hbig]
     refine ⟨λ h => by omega, λ _ => ⟨λ h => (by cases h), λ _ => ?_⟩⟩
     have hnx : hexGo 0 (l.take (x + 1)) = some (16 * v + d) := by rw [take_at l x hxl, hexGo_snoc, hv, hc, hvd]; rfl
     refine ⟨x + 1, ⟨by rw [hnx, Option.getD_some]; push_cast; omega, by rw [wrap64] <;> omega⟩, Nat.le_refl _, ⟨by omega, by rw [hnx]; rfl⟩, by omega⟩
  ·obtain ⟨hx1, hx2⟩ := hx
   have hxl : x = l.length := by omega
   subst hxl
   rw [List.take_length] at hx2 ⊢
   obtain ⟨v, hv⟩ := Option.isSome_iff_exists.1 hx2
   have hne : l ≠ [] := λ e => by subst e; cases hb
   rw [hv]
   exact h2 v (by rw [hex16_ne hne]; exact hv)
 ·exact h.elim
end Go.Proofs.Sz

namespace Go.Proofs.Sz
open Go Go.Am Go.SP
theorem s32 : sepOf (ByteArray.mk #[32]) = 32 := rfl
theorem cutL_le (c : UInt8) (l : Bs) : (cutL c l).1.length + (cutL c l).2.1.length <= l.length := by
 induction l with
 | nil => simp [cutL]
 | cons x l ih =>
  simp only [cutL]
  cases x == c <;> simp <;> omega
theorem cutL_le2 (c : UInt8) (l : Bs) (h : (cutL c l).2.2 = true) : (cutL c l).1.length + (cutL c l).2.1.length + 1 = l.length := by
 have := congrArg List.length (cutL_found h).1
 simp at this
 omega
theorem atoiV_64 (s : Bs) : Int64 (atoiV s).1 := by
 unfold atoiV
 rcases h : Lib.atoiAll s with v | _ | _
 ·exact Lib.atoiAll_bounds h
 ·exact (⟨by decide, by decide⟩ : Int64 0)
 ·exact Lib.atoiSat_bounds s
theorem blank_le (r : Rd) : (blankR r).1.length + (blankR r).2.rest.length <= r.rest.length := cutL_le 32 r.rest
theorem XPU : EntOk Tryz.prog 92 (.lend TPU) := by
 refine ⟨Am.enters_of Tryz.func92 (by kernel_rfl) (by kernel_rfl), λ args R h => ?_⟩
 unfold TPU at h
 split at h
 ·rename_i s b z
  obtain ⟨l, rfl⟩ : ∃ l, s = bs l := ⟨_, bs_of s⟩
  obtain ⟨⟨h1, rfl, rfl⟩, h2, h3⟩ := h
  refine mkS (vPU l R) (tb (ac XPUi (ac XToErr az))) Tryz.func92 (by kernel_rfl) ?_
  simp only [true_and, and_true, and_self, implies_true, forall_const, gEq_true, gEq_false, nonneg_iff, natle_iff, decide_eq_true_eq, decide_eq_false_iff_not, Int.toNat_natCast, cond_bt, cond_bf, Bool.cond_true, Bool.cond_false, Bool.not_true, Bool.not_false, reduceCtorEq, false_implies, implies_true, Bool.true_eq_false, Bool.false_eq_true, Bool.not_eq_true', Bool.not_eq_false']
  exact ⟨h1, h2, λ hn => ⟨h1, h3 hn⟩⟩
 ·exact h.elim
theorem XBlank : EntOk Tryz.prog 65 (.hand tkR TBlank) := by
 refine ⟨Am.enters_of Tryz.func65 (by kernel_rfl) (by kernel_rfl), λ H0 args R h => ?_⟩
 unfold TBlank at h
 split at h
 ·rename_i t s b
  obtain ⟨l, rfl⟩ : ∃ l, s = bs l := ⟨_, bs_of s⟩
  obtain ⟨⟨rfl, h1⟩, h⟩ := h
  refine mkH (vBlank l b R) (tb (ac XCut az)) Tryz.func65 (by kernel_rfl) ?_
  unfold rlim at h1
  simp only [true_and, and_true, and_self, implies_true, forall_const, gEq_true, gEq_false, nonneg_iff, natle_iff, decide_eq_true_eq, decide_eq_false_iff_not, Int.toNat_natCast, cond_bt, cond_bf, Bool.cond_true, Bool.cond_false, Bool.not_true, Bool.not_false, reduceCtorEq, false_implies, implies_true, Bool.true_eq_false, Bool.false_eq_true, Bool.not_eq_true', Bool.not_eq_false', bs_size, bs_data, bs_toList, bs_extract, bs_append, bs_mk, byteF, s32, blankR, rdO] at h h1 ⊢
  exact ⟨by omega, h⟩
 ·exact h.elim
theorem XMore : EntOk Tryz.prog 82 (.hand tkR TMore) := by
 refine ⟨Am.enters_of Tryz.func82 (by kernel_rfl) (by kernel_rfl), λ H0 args R h => ?_⟩
 unfold TMore at h
 split at h
 ·rename_i t s b
  obtain ⟨l, rfl⟩ : ∃ l, s = bs l := ⟨_, bs_of s⟩
  obtain ⟨rfl, h⟩ := h
  refine mkH (vMore l b R) (tb az) Tryz.func82 (by kernel_rfl) ?_
  simp only [true_and, and_true, and_self, implies_true, forall_const, gEq_true, gEq_false, nonneg_iff, natle_iff, decide_eq_true_eq, decide_eq_false_iff_not, Int.toNat_natCast, cond_bt, cond_bf, Bool.cond_true, Bool.cond_false, Bool.not_true, Bool.not_false, reduceCtorEq, false_implies, implies_true, Bool.true_eq_false, Bool.false_eq_true, Bool.not_eq_true', Bool.not_eq_false', bs_size, bs_data, bs_toList, bs_extract, bs_append, bs_mk, byteF, moreR] at h ⊢
  exact h
 ·exact h.elim
theorem XNumber : EntOk Tryz.prog 78 (.hand tkR TNumber) := by
 refine ⟨Am.enters_of Tryz.func78 (by kernel_rfl) (by kernel_rfl), λ H0 args R h => ?_⟩
 unfold TNumber at h
 split at h
 ·rename_i t s b
  obtain ⟨l, rfl⟩ : ∃ l, s = bs l := ⟨_, bs_of s⟩
  obtain ⟨⟨rfl, h1⟩, h⟩ := h
  refine mkH (vNumber l b R) (tb (ac XBlank (ac XAtoi (ac XItoa az)))) Tryz.func78 (by kernel_rfl) ?_
  have h64 := atoiV_64 (blankR ⟨l, b⟩).1
  have hle := blank_le ⟨l, b⟩
  unfold rlim at *
  simp only [true_and, and_true, and_self, implies_true, forall_const, gEq_true, gEq_false, nonneg_iff, natle_iff, decide_eq_true_eq, decide_eq_false_iff_not, Int.toNat_natCast, cond_bt, cond_bf, Bool.cond_true, Bool.cond_false, Bool.not_true, Bool.not_false, reduceCtorEq, false_implies, implies_true, Bool.true_eq_false, Bool.false_eq_true, Bool.not_eq_true', Bool.not_eq_false', bs_size, bs_data, bs_toList, bs_extract, bs_append, bs_mk, byteF, numberR, rdO] at h h1 ⊢
  refine ⟨h1, by dsimp only at hle; omega, λ ha => ?_, λ ha => ?_⟩
  ·rw [ha] at h
   refine ⟨λ h0 => absurd h0 (by simp), λ _ => ?_⟩
   simpa using h
  ·rw [ha] at h
   refine ⟨λ h0 => ⟨h64, ?_⟩, λ h0 => ?_⟩
   ·simp only [Bool.or_false, Bool.and_true] at h0
    simpa [h0] using h
   ·simp only [Bool.or_false, Bool.and_true] at h0
    simpa [h0] using h
 ·exact h.elim
end Go.Proofs.Sz

namespace Go.Proofs.Sz
open Go Go.Am Go.SP
theorem vText (l s : Bs) (b : Bool) (inv : Nat × Bs × Bool -> Prop) (mu : Nat -> Nat) (inv2 : Nat × Bs × Bool -> Nat × UInt8 × Bool -> Prop) (inv3 : Bs × Bool × Int -> Prop) (R : AV -> List LObj -> Prop) : (vcA false
 false (List.length ([.box tyRd [sl l, bl b]] : List LObj)) [2, 4] Tryz.prog (mkTab [(81, .lend TCutPre), (92, .lend TPU), (45, .hand tkW TTexts), (23, .hand tkW TBStr)]) (Tryz.f80.body.getD .skip) ([.cut 23 (Bs × Bool ×
 Int) inv3 (λ x => ⟨slotsOf 144 0 [(0, .ptr 0 0 0 0), (3, sl s), (4, bl x.2.1), (5, .own 1 0 x.1.length), (6, nm x.2.2)], [.box tyRd [sl l, bl b], rowB x.1]⟩) (λ _ => []), .loop 5 (Nat × Bs × Bool) inv (λ x =>
 ⟨slotsOf 144 0 [(0, .ptr 0 0 0 0), (3, sl s), (4, bl x.2.2), (5, .own 1 0 x.2.1.length), (6, nm (-1)), (7, nm x.1)], [.box tyRd [sl l, bl b], rowB x.2.1]⟩) (λ x => mu x.1) (λ x => [.cut 22 (Nat × UInt8 × Bool) (inv2
 x) (λ y => ⟨slotsOf 144 0 [(0, .ptr 0 0 0 0), (3, sl s), (4, bl y.2.2), (5, .own 1 0 x.2.1.length), (6, nm (-1)), (7, nm y.1), (8, u8 y.2.1)], [.box tyRd [sl l, bl b], rowB x.2.1]⟩) (λ _ => [])])]) (finalKH Tryz.prog
 Tryz.f80 (λ y H => ∃ _ : Unit, leSt 1 ⟨[y], H⟩ ⟨[sl (textR ⟨l, b⟩).1], [rdO (textR ⟨l, b⟩).2]⟩ (R (sl (textR ⟨l, b⟩).1) [rdO (textR ⟨l, b⟩).2]))) (startStH Tryz.f80 ([.box tyRd [sl l, bl b]]) ([.ptr 0 0 0 0]))) = (let
 Q1 := (True /\ 0 = 0 /\ 0 = 0 /\ 0 = 0); let Q0 := (125 = 125 /\ bs l = bs l /\ b = b /\ True); ((∃ (x : Nat × Bs × Bool), (Q1 /\ bs (cutPre ([34] : Bs) l) = bs s /\ ([34] : Bs).isPrefixOf l = x.2.2 /\ (True /\ True /\ 0
 = 0 /\ x.2.1.length = 0) /\ (-1 : Int) = (-1 : Int) /\ (0 : Int) = (↑x.1 : Int) /\ True) /\ (Q0 /\ x.2.1.length = 0 /\ True) /\ inv x) /\ ∀ (x : Nat × Bs × Bool), let Q11 := (k64Q.wrap ((↑x.1 : Int) + 1) + 1); let Q10 :=
 (bif x.2.2 then decide ((↑x.1 : Int) < (↑ s.length : Int)) else false); let Q7 := (k64Q.wrap ((↑x.1 : Int) + 1) + 3); let Q9 := (if (↑ s.length : Int) < k64Q.wrap Q7 then (↑ s.length : Int) else k64Q.wrap Q7); let Q6 :=
 (↑ (s.getD (↑x.1 : Int).toNat (0 : UInt8)).toNat : Int); let Q8 := (bif Q6 == 92 then decide (k64Q.wrap ((↑x.1 : Int) + 1) < (↑ s.length : Int)) else false); let Q5 := (True /\ 0 = 0 /\ x.2.1.length = x.2.1.length); let
 Q4 := (↑ (s.getD (k64Q.wrap ((↑x.1 : Int) + 1)).toNat (0 : UInt8)).toNat : Int); let Q3 := ((bs s).extract (k64Q.wrap Q11).toNat Q9.toNat); let Q2 := (Q0 /\ (1 = 1 /\ 5 = 5 /\ x.2.1.length.le x.2.1.length /\ ∀ i <
 x.2.1.length, AV.pl (Value.int k8Q (↑ (x.2.1.getD i (0 : UInt8)).toNat : Int)) = AV.pl (Value.int k8Q (↑ (x.2.1.getD i (0 : UInt8)).toNat : Int))) /\ True); inv x -> (Q10 = true -> ((0 : Int) <= (↑x.1 : Int) /\ (↑x.1 :
 Int) + 1 <= (↑ s.length : Int)) /\ (((Q6 == 34) = true -> ∃ (x_1 : Bs × Bool × Int), (Q1 /\ bs s = bs s /\ x.2.2 = x_1.2.1 /\ (True /\ 0 = 0 /\ x.2.1.length = x_1.1.length) /\ (↑x.1 : Int) = x_1.2.2 /\ True) /\ (Q0 /\ (1
 = 1 /\ 5 = 5 /\ x_1.1.length.le x.2.1.length /\ ∀ i < x_1.1.length, AV.pl (Value.int k8Q (↑ (x.2.1.getD i (0 : UInt8)).toNat : Int)) = AV.pl (Value.int k8Q (↑ (x_1.1.getD i (0 : UInt8)).toNat : Int))) /\ True) /\ inv3
 x_1) /\ ((Q6 == 34) = false -> (Q8 = true -> ((0 : Int) <= k64Q.wrap ((↑x.1 : Int) + 1) /\ k64Q.wrap ((↑x.1 : Int) + 1) + 1 <= (↑ s.length : Int)) /\ ((Q4 == 110) = true -> ∃ (x_1 : Nat × UInt8 × Bool), (Q1 /\ bs s = bs
 s /\ x.2.2 = x_1.2.2 /\ Q5 /\ (-1 : Int) = (-1 : Int) /\ k64Q.wrap ((↑x.1 : Int) + 1) = (↑x_1.1 : Int) /\ (10 : Int) = (↑x_1.2.1.toNat : Int) /\ True) /\ Q2 /\ inv2 x x_1) /\ ((Q4 == 110) = false -> ((Q4 == 114) = true
 -> ∃ (x_1 : Nat × UInt8 × Bool), (Q1 /\ bs s = bs s /\ x.2.2 = x_1.2.2 /\ Q5 /\ (-1 : Int) = (-1 : Int) /\ k64Q.wrap ((↑x.1 : Int) + 1) = (↑x_1.1 : Int) /\ (13 : Int) = (↑x_1.2.1.toNat : Int) /\ True) /\ Q2 /\ inv2 x
 x_1) /\ ((Q4 == 114) = false -> ((Q4 == 120) = true -> ((0 : Int) <= k64Q.wrap Q11 /\ (k64Q.wrap Q11 <= if (↑ s.length : Int) < k64Q.wrap Q7 then (↑ s.length : Int) else k64Q.wrap Q7) /\ Q9 <= (↑ s.length : Int)) /\
 (Q3.size.le (2 : Nat) /\ (16 : Int) = 16 /\ (8 : Int) = 8) /\ (∀ (v : Nat), hex16 Q3.data.toList = some v -> True /\ ∃ (x_1 : Nat × UInt8 × Bool), (Q1 /\ bs s = bs s /\ true = x_1.2.2 /\ Q5 /\ (-1 : Int) = (-1 : Int) /\
 k64Q.wrap (k64Q.wrap ((↑x.1 : Int) + 1) + 2) = (↑x_1.1 : Int) /\ k8Q.wrap (v : Int) = (↑x_1.2.1.toNat : Int) /\ True) /\ Q2 /\ inv2 x x_1) /\ (hex16 Q3.data.toList = none -> True /\ ∃ (x_1 : Nat × UInt8 × Bool), (Q1 /\
 bs s = bs s /\ false = x_1.2.2 /\ Q5 /\ (-1 : Int) = (-1 : Int) /\ k64Q.wrap (k64Q.wrap ((↑x.1 : Int) + 1) + 2) = (↑x_1.1 : Int) /\ k8Q.wrap (0 : Int) = (↑x_1.2.1.toNat : Int) /\ True) /\ Q2 /\ inv2 x x_1)) /\ ((Q4 ==
 120) = false -> ∃ (x_1 : Nat × UInt8 × Bool), (Q1 /\ bs s = bs s /\ x.2.2 = x_1.2.2 /\ Q5 /\ (-1 : Int) = (-1 : Int) /\ k64Q.wrap ((↑x.1 : Int) + 1) = (↑x_1.1 : Int) /\ Q4 = (↑x_1.2.1.toNat : Int) /\ True) /\ Q2 /\ inv2
 x x_1)))) /\ (Q8 = false -> ∃ (x_1 : Nat × UInt8 × Bool), (Q1 /\ bs s = bs s /\ x.2.2 = x_1.2.2 /\ Q5 /\ (-1 : Int) = (-1 : Int) /\ (↑x.1 : Int) = (↑x_1.1 : Int) /\ Q6 = (↑x_1.2.1.toNat : Int) /\ True) /\ Q2 /\ inv2 x
 x_1))) /\ ∀ (x_1 : Nat × UInt8 × Bool), inv2 x x_1 -> True /\ (((0 : Nat) + 1).le (1 : Nat) /\ x.2.1.length = x.2.1.length /\ (x.2.1.length + 1).le maxLen /\ ((x.2.1.length + 1) * 1).le (140737488355328 : Nat)) /\ ∃ (y :
 Nat × Bs × Bool), (Q1 /\ bs s = bs s /\ x_1.2.2 = y.2.2 /\ (True /\ 0 = 0 /\ x.2.1.length + 1 = y.2.1.length) /\ (-1 : Int) = (-1 : Int) /\ k64Q.wrap ((↑x_1.1 : Int) + 1) = (↑y.1 : Int) /\ True) /\ (Q0 /\ (1 = 1 /\ 5 = 5
 /\ y.2.1.length.le (x.2.1.length + 1) /\ ∀ i < y.2.1.length, (if i < x.2.1.length then AV.pl (Value.int k8Q (↑ (x.2.1.getD i (0 : UInt8)).toNat : Int)) else rowOf [((0 : Nat), AV.pl (Value.int k8Q (↑x_1.2.1.toNat :
 Int)))] ((0 : Nat) + (i - x.2.1.length))) = AV.pl (Value.int k8Q (↑ (y.2.1.getD i (0 : UInt8)).toNat : Int))) /\ True) /\ inv y /\ (mu y.1).succ.le (mu x.1)) /\ (Q10 = false -> ∃ (x_1 : Bs × Bool × Int), (Q1 /\ bs s = bs
 s /\ x.2.2 = x_1.2.1 /\ (True /\ 0 = 0 /\ x.2.1.length = x_1.1.length) /\ (-1 : Int) = x_1.2.2 /\ True) /\ (Q0 /\ (1 = 1 /\ 5 = 5 /\ x_1.1.length.le x.2.1.length /\ ∀ i < x_1.1.length, AV.pl (Value.int k8Q (↑ (x.2.1.getD
 i (0 : UInt8)).toNat : Int)) = AV.pl (Value.int k8Q (↑ (x_1.1.getD i (0 : UInt8)).toNat : Int))) /\ True) /\ inv3 x_1)) /\ ∀ (x : Bs × Bool × Int), let Q12 := (k64Q.wrap (x.2.2 + 1)); inv3 x -> ((bif !x.2.1 then true
 else decide (x.2.2 < 0)) = true -> True /\ True /\ (True /\ True) /\ ∃ (x : Unit), (ByteArray.mk #[] = bs (textR (Rd.mk l b)).1 /\ True) /\ ((125 = 125 /\ ByteArray.mk #[] = bs (textR (Rd.mk l b)).2.rest /\ true = (textR
 (Rd.mk l b)).2.bad /\ True) /\ True) /\ R (sl (textR (Rd.mk l b)).1) [LObj.box 125 [sl (textR (Rd.mk l b)).2.rest, bl (textR (Rd.mk l b)).2.bad]]) /\ ((bif !x.2.1 then true else decide (x.2.2 < 0)) = false -> True /\ ((0
 : Nat) + x.1.length).le x.1.length /\ ∃ (bs : ByteArray), let Q14 := (gEq b false = true -> ((0 : Int) <= 0 /\ (0 : Int) <= k64Q.wrap (x.2.2 + 1) /\ k64Q.wrap (x.2.2 + 1) <= (↑ (SP.bs s).size : Int)) /\ True); let Q13 :=
 (gEq b false = true -> ((ByteArray.mk #[32, 34]).size + ((SP.bs s).extract (Int.toNat 0) Q12.toNat).size).le (9223372036854775807 : Nat) /\ True); bs.size = x.1.length /\ (∀ i < x.1.length, AV.pl
 (Value.int k8Q (↑ ((SP.bs x.1).data.toList.getD ((0 : Nat) + i) (0 : UInt8)).toNat : Int)) = AV.pl (Value.int k8Q (↑ (bs.data.toList.getD i (0 : UInt8)).toNat : Int))) /\ True /\ (True /\ ((0 : Nat) + 1).le (1 : Nat) /\
 True) /\ ∃ (s_1 : Bs), (71 = 71 /\ IsTexts (AV.rows 1 1 λ (i : Nat) => rowOf [((0 : Nat), AV.pl (Value.string bs))] ((0 : Nat) + i)) [s_1] /\ ((4 : Nat) * s_1.length + 3).le lim) /\ nflB (AV.tup []) = true /\ (nflL
 [AV.ptr 0 0 0 0, AV.own 1 0 (List.length (txt s_1))] = true /\ (∀ (i : Nat), i < List.length (txt s_1) -> flatB (byteF (SP.bs (txt s_1)) i) = true) /\ True) /\ ((0 : Int) <= k64Q.wrap (x.2.2 + 1) /\ k64Q.wrap (x.2.2 + 1)
 <= (↑ (SP.bs s).size : Int) /\ (↑ (SP.bs s).size : Int) <= (↑ (SP.bs s).size : Int)) /\ Q14 /\ Q14 /\ Q13 /\ Q13 /\ (gEq b false = true -> (True /\ True) /\ ∃ (l_1 : Bs), (71 = 71 /\ IsBytes (1 : Nat) (5 : Nat)
 (List.length (txt s_1)) (List.length (txt s_1)) (byteF (SP.bs (txt s_1))) l_1 /\ (Nat.succ (0 : Nat)).le l_1.length /\ l_1.length.le lim) /\ true = true /\ True /\ True /\ ((0 : Nat) + x.1.length).le x.1.length /\ ∃ (bs
 : ByteArray), let Q15 := ((SP.bs s).extract Q12.toNat (↑ (SP.bs s).size : Int).toNat); bs.size = x.1.length /\ (∀ i < x.1.length, AV.pl (Value.int k8Q (↑ ((SP.bs x.1).data.toList.getD ((0 : Nat) + i) (0 : UInt8)).toNat :
 Int)) = AV.pl (Value.int k8Q (↑ (bs.data.toList.getD i (0 : UInt8)).toNat : Int))) /\ (True /\ True) /\ ∃ (x_1 : Unit), (bs = SP.bs (textR (Rd.mk l b)).1 /\ True) /\ ((125 = 125 /\ SP.bs (cutPre ([32] : Bs)
 Q15.data.toList) = SP.bs (textR (Rd.mk l b)).2.rest /\ (bif bif false then true else ! (SP.bs l_1).toList == (ByteArray.mk #[32, 34] ++ (SP.bs s).extract (Int.toNat 0) Q12.toNat).toList then true else
 bif ! Q15.toList == (ByteArray.mk #[]).toList then bif ! ([32] : Bs).isPrefixOf Q15.data.toList then true else (SP.bs (cutPre ([32] : Bs) Q15.data.toList)).toList == (ByteArray.mk #[]).toList else false) = (textR (Rd.mk
 l b)).2.bad /\ True) /\ True) /\ R (AV.pl (Value.string (SP.bs (textR (Rd.mk l b)).1))) [LObj.box 125 [AV.pl (Value.string (SP.bs (textR (Rd.mk l b)).2.rest)), bl (textR (Rd.mk l b)).2.bad]]) /\ (gEq b false = false ->
 true = true /\ True /\ True /\ ((0 : Nat) + x.1.length).le x.1.length /\ ∃ (bs : ByteArray), let Q16 := ((SP.bs s).extract Q12.toNat (↑ (SP.bs s).size : Int).toNat); bs.size = x.1.length /\ (∀ i < x.1.length, AV.pl
 (Value.int k8Q (↑ ((SP.bs x.1).data.toList.getD ((0 : Nat) + i) (0 : UInt8)).toNat : Int)) = AV.pl (Value.int k8Q (↑ (bs.data.toList.getD i (0 : UInt8)).toNat : Int))) /\ (True /\ True) /\ ∃ (x_1 : Unit), (bs = SP.bs
 (textR (Rd.mk l b)).1 /\ True) /\ ((125 = 125 /\ SP.bs (cutPre ([32] : Bs) Q16.data.toList) = SP.bs (textR (Rd.mk l b)).2.rest /\ (bif true then true else bif ! Q16.toList == (ByteArray.mk #[]).toList then bif ! ([32] :
 Bs).isPrefixOf Q16.data.toList then true else (SP.bs (cutPre ([32] : Bs) Q16.data.toList)).toList == (ByteArray.mk #[]).toList else false) = (textR (Rd.mk l b)).2.bad /\ True) /\ True) /\ R (AV.pl (Value.string (SP.bs
 (textR (Rd.mk l b)).1))) [LObj.box 125 [AV.pl (Value.string (SP.bs (textR (Rd.mk l b)).2.rest)), bl (textR (Rd.mk l b)).2.bad]]))) := by kernel_rfl
end Go.Proofs.Sz

namespace Go.Proofs.Sz
open Go Go.Am Go.SP
theorem mkHt {f : FuncId} {fn : Func} {H0 : List LObj} {args : List AV} {R : AV -> List LObj -> Prop} {C : Table} {an : List Ann} {ts : List Nat} {lt : Bool} {X : Prop}
  (v : vcA false lt (List.length (H0 : List LObj)) ts Tryz.prog C (fn.body.getD .skip) an (finalKH Tryz.prog fn R) (startStH fn H0 args) = X) (hC : TableOk Tryz.prog C) (hf : Tryz.prog.funcs[f]? = some fn) (hb : fn.body = some (fn.body.getD .skip)) (h : X) : Am.SpecH Tryz.prog f H0 args R :=
 spec_of_codeH hf hb (vcA_sound hC mixed _ (λ _ => rfl) (v ▸ h))
def finR (r : Rd) (s : Bs) (x : Bool × Bs × Option Nat) : Bs × Rd := match x with
 |(true, b, some e) => textEnd r s b e
 | _ => ([], ⟨[], true⟩)
def badR : Bs × Rd := ([], ⟨[], true⟩)
def scanI (r : Rd) (s : Bs) (i : Nat) (b : Bs) : Bs × Rd := finR r s (scan (s.length + 1) (s.drop i) i b)
theorem textR_eq (r : Rd) : textR r = finR r (cutPre [34] r.rest) (textGo (cutPre [34] r.rest) (([34] : Bs).isPrefixOf r.rest)) := by
 unfold textR finR
 rfl
theorem fin_fuel (r : Rd) (s : Bs) {f g : Nat} {l : Bs} (i : Nat) (b : Bs) (hf : l.length < f) (hg : l.length < g) : finR r s (scan f l i b) = finR r s (scan g l i b) := by
 obtain ⟨h1, h2, h3⟩ := scan_fuel f g l i b hf hg
 generalize scan f l i b = x at h1 h2 h3 ⊢
 generalize scan g l i b = y at h1 h2 h3 ⊢
 obtain ⟨x1, x2, x3⟩ := x
 obtain ⟨y1, y2, y3⟩ := y
 dsimp only at h1 h2 h3
 subst h1 h2
 cases x3 with
 | none => cases x1 <;> rfl
 | some e => rw [h3 (by simp)]
theorem textR_scan (r : Rd) : textR r = bif ([34] : Bs).isPrefixOf r.rest then scanI r (cutPre [34] r.rest) 0 [] else badR := by
 rw [textR_eq]
 cases ([34] : Bs).isPrefixOf r.rest <;> rfl
theorem scanI_fuel (r : Rd) (s : Bs) (f i : Nat) (b : Bs) (hf : (s.drop i).length < f) : finR r s (scan f (s.drop i) i b) = scanI r s i b :=
 fin_fuel r s i b hf (by simp; omega)
theorem drop_at (s : Bs) (i : Nat) (h : i < s.length) : s.drop i = s.getD i 0 :: s.drop (i + 1) := by
 rw [List.drop_eq_getElem_cons h, List.getD_eq_getElem?_getD, List.getElem?_eq_getElem h]
 rfl
theorem scanI_end (r : Rd) (s : Bs) (i : Nat) (b : Bs) (h : s.length <= i) : scanI r s i b = badR := by
 unfold scanI
 rw [List.drop_eq_nil_of_le h]
 rfl
theorem scanI_quote (r : Rd) (s : Bs) (i : Nat) (b : Bs) (h : i < s.length) (hc : s.getD i 0 = 34) : scanI r s i b = textEnd r s b i := by
 unfold scanI
 rw [drop_at s i h, hc]
 simp [scan, finR]
theorem scanI_plain (r : Rd) (s : Bs) (i : Nat) (b : Bs) (h : i < s.length) (h1 : s.getD i 0 ≠ 34) (h2 : s.getD i 0 ≠ 92) : scanI r s i b = scanI r s (i + 1) (b ++ [s.getD i 0]) := by
 rw [<- scanI_fuel r s s.length (i + 1) _ (by simp; omega)]
 unfold scanI
 rw [drop_at s i h]
 simp only [scan, if_neg h1, if_neg h2]
theorem scanI_last (r : Rd) (s : Bs) (i : Nat) (b : Bs) (h : i < s.length) (h1 : s.getD i 0 = 92) (h2 : ¬ i + 1 < s.length) : scanI r s i b = badR := by
 unfold scanI
 rw [drop_at s i h, h1, List.drop_eq_nil_of_le (by omega : s.length <= i + 1)]
 simp [scan, finR, badR]
theorem scanI_esc (r : Rd) (s : Bs) (i : Nat) (b : Bs) (h1 : s.getD i 0 = 92) (h2 : i + 1 < s.length) (h3 : s.getD (i + 1) 0 ≠ 120) : scanI r s i b = scanI r s (i + 2) (b ++ [escD (s.getD (i + 1) 0)]) := by
 rw [<- scanI_fuel r s s.length (i + 2) _ (by simp; omega)]
 unfold scanI
 rw [drop_at s i (by omega), h1, drop_at s (i + 1) h2]
 have n : ¬ ((92 : UInt8) = 34) := by decide
 simp only [scan, if_neg n, if_true, if_neg h3]
theorem scanI_hex (r : Rd) (s : Bs) (i : Nat) (b : Bs) (h1 : s.getD i 0 = 92) (h2 : i + 1 < s.length) (h3 : s.getD (i + 1) 0 = 120) (v : Nat) (hv : hex16 ((s.drop (i + 2)).take 2) = some v) : scanI r s i b = scanI r s (i + 4) (b ++ [UInt8.ofNat v]) := by
 rw [<- scanI_fuel r s s.length (i + 4) _ (by simp; omega)]
 unfold scanI
 rw [drop_at s i (by omega), h1, drop_at s (i + 1) h2, h3]
 have n : ¬ ((92 : UInt8) = 34) := by decide
 simp only [scan, if_neg n, if_true, hv, List.drop_drop]
theorem scanI_hexno (r : Rd) (s : Bs) (i : Nat) (b : Bs) (h1 : s.getD i 0 = 92) (h2 : i + 1 < s.length) (h3 : s.getD (i + 1) 0 = 120) (hv : hex16 ((s.drop (i + 2)).take 2) = none) : scanI r s i b = badR := by
 unfold scanI
 rw [drop_at s i (by omega), h1, drop_at s (i + 1) h2, h3]
 have n : ¬ ((92 : UInt8) = 34) := by decide
 simp only [scan, if_neg n, if_true, hv]
 rfl
set_option maxRecDepth 20000 in
theorem XText : EntOk Tryz.prog 80 (.hand tkR TText) := by
 refine ⟨Am.enters_of Tryz.func80 (by kernel_rfl) (by kernel_rfl), λ H0 args R h => ?_⟩
 unfold TText at h
 split at h
 ·rename_i t s b
  obtain ⟨l, rfl⟩ : ∃ l, s = bs l := ⟨_, bs_of s⟩
  obtain ⟨⟨rfl, h1⟩, h⟩ := h
  refine SpecH.weak (Z := Unit) (X := λ _ => sl (textR ⟨l, b⟩).1) (HH := λ _ => [rdO (textR ⟨l, b⟩).2]) (mkHt (vText l (cutPre [34] l) b
   (λ x => x.1 <= (cutPre [34] l).length + 4 /\ x.2.1.length <= x.1 /\ textR ⟨l, b⟩ = bif x.2.2 then scanI ⟨l, b⟩ (cutPre [34] l) x.1 x.2.1 else badR)
   (λ i => (cutPre [34] l).length - i)
   (λ x y => x.1 < (cutPre [34] l).length /\ x.1 <= y.1 /\ y.1 <= (cutPre [34] l).length + 3 /\ x.2.1.length <= x.1 /\ textR ⟨l, b⟩ = bif y.2.2 then scanI ⟨l, b⟩ (cutPre [34] l) (y.1 + 1) (x.2.1 ++ [y.2.1]) else badR)
   (λ x => x.1.length <= (cutPre [34] l).length + 4 /\ (((x.2.1 = false ∨ x.2.2 < 0) /\ textR ⟨l, b⟩ = badR) ∨ ∃ n : Nat, x.2.2 = n /\ n < (cutPre [34] l).length /\ x.2.1 = true /\ textR ⟨l, b⟩ = textEnd ⟨l, b⟩ (cutPre [34] l) x.1 n))
   R) (tb (ac XCutPre (ac XPU (ac XTexts (ac XBStr az))))) Tryz.func80 (by kernel_rfl) ?_)
  have hs : (cutPre [34] l).length <= l.length := by
   unfold cutPre
   cases ([34] : Bs).isPrefixOf l <;> simp
  unfold rlim at h1
  generalize hsd : cutPre [34] l = s at *
  simp only [true_and, and_true, and_self, implies_true, forall_const, gEq_true, gEq_false, nonneg_iff, natle_iff, decide_eq_true_eq, decide_eq_false_iff_not, Int.toNat_natCast, cond_bt, cond_bf, Bool.cond_true, Bool.cond_false, Bool.not_true, Bool.not_false, reduceCtorEq, false_implies, implies_true, Bool.true_eq_false, Bool.false_eq_true, Bool.not_eq_true', Bool.not_eq_false', bs_size, bs_data, bs_toList, bs_extract, bs_append, bs_mk, byteF] at h h1 ⊢
  have w1 : ∀ n : Nat, n <= 2000000 -> IntKind.i64.wrap ((n : Int) + 1) = ((n + 1 : Nat) : Int) := λ n hn => by rw [wrap64] <;> omega
  have w2 : ∀ n : Nat, n <= 2000000 -> IntKind.i64.wrap ((n : Int) + 2) = ((n + 2 : Nat) : Int) := λ n hn => by rw [wrap64] <;> omega
  have w3 : ∀ n : Nat, n <= 2000000 -> IntKind.i64.wrap ((n : Int) + 3) = ((n + 3 : Nat) : Int) := λ n hn => by rw [wrap64] <;> omega
  have hml : 2000000 <= maxLen := by unfold maxLen; omega
  have hlm : lim = 140737488355328 := rfl
  refine ⟨⟨⟨(0, [], ([34] : Bs).isPrefixOf l), ⟨rfl, rfl, rfl⟩, rfl, Nat.zero_le _, Nat.zero_le _, ?_⟩, λ x hx => ?_⟩, λ x hx => ?_⟩
  ·have := textR_scan ⟨l, b⟩
   rw [hsd] at this
   exact this
  ·obtain ⟨i, c, ok⟩ := x
   dsimp only at hx ⊢
   obtain ⟨hi, hc, hT⟩ := hx
   refine ⟨λ hb => ?_, λ hb => ?_⟩
   ·rw [Bool.and_eq_true, decide_eq_true_eq] at hb
    obtain ⟨rfl, hb⟩ := hb
    have hil : i < s.length := by omega
    rw [cond_true] at hT
    rw [w1 i (by omega)]
    simp only [Int.toNat_natCast]
    have h34 : ((((s.getD i 0).toNat : Nat) : Int) == 34) = true ↔ s.getD i 0 = 34 := by
     rw [beq_iff_eq]
     exact ⟨λ e => UInt8.toNat.inj (by show (s.getD i 0).toNat = 34; omega), λ e => by rw [e]; rfl⟩
    have h92 : ((((s.getD i 0).toNat : Nat) : Int) == 92) = true ↔ s.getD i 0 = 92 := by
     rw [beq_iff_eq]
     exact ⟨λ e => UInt8.toNat.inj (by show (s.getD i 0).toNat = 92; omega), λ e => by rw [e]; rfl⟩
    have self : c.length <= c.length /\ ∀ i, i < c.length -> AV.pl (Value.int IntKind.u8 ((c.getD i 0).toNat : Int)) = AV.pl (Value.int IntKind.u8 ((c.getD i 0).toNat : Int)) := ⟨Nat.le_refl _, λ _ _ => rfl⟩
    refine ⟨⟨by omega, by omega⟩, ⟨λ hq => ?_, λ hq => ⟨λ he => ?_, λ he => ?_⟩⟩, λ y hy => ?_⟩
    ·rw [scanI_quote _ _ _ _ hil (h34.1 hq)] at hT
     exact ⟨(c, true, (i : Int)), ⟨rfl, rfl, rfl⟩, self, by dsimp only; omega, .inr ⟨i, rfl, hil, rfl, hT⟩⟩
    ·rw [Bool.and_eq_true, decide_eq_true_eq] at he
     obtain ⟨he1, he2⟩ := he
     have he1 := h92.1 he1
     have hi1 : i + 1 < s.length := by omega
     rw [w1 (i + 1) (by omega), w2 (i + 1) (by omega), w3 (i + 1) (by omega)]
     simp only [Int.toNat_natCast]
     have hd : ∀ k : Nat, k < 256 -> (((((s.getD (i + 1) 0).toNat : Nat) : Int) == (k : Nat)) = true ↔ s.getD (i + 1) 0 = UInt8.ofNat k) := λ k hk => by
      rw [beq_iff_eq]
      exact ⟨λ e => UInt8.toNat.inj (by rw [u8n hk]; omega), λ e => by rw [e, u8n hk]⟩
     have hd110 := hd 110 (by omega)
     have hd114 := hd 114 (by omega)
     have hd120 := hd 120 (by omega)
     refine ⟨⟨by omega, by omega⟩, λ h5 => ?_, λ h5 => ⟨λ h6 => ?_, λ h6 => ⟨λ h7 => ?_, λ h7 => ?_⟩⟩⟩
     ·have e := hd110.1 h5
      rw [scanI_esc _ _ _ _ he1 hi1 (by rw [e]; decide), e] at hT
      exact ⟨(i + 1, 10, true), ⟨rfl, rfl, rfl⟩, self.1, hil, by dsimp only; omega, by dsimp only; omega, hc, hT⟩
     ·have e := hd114.1 h6
      rw [scanI_esc _ _ _ _ he1 hi1 (by rw [e]; decide), e] at hT
      exact ⟨(i + 1, 13, true), ⟨rfl, rfl, rfl⟩, self.1, hil, by dsimp only; omega, by dsimp only; omega, hc, hT⟩
     ·have e := hd120.1 h7
      have hmin : (if ((s.length : Nat) : Int) < ((i + 1 + 3 : Nat) : Int) then ((s.length : Nat) : Int) else ((i + 1 + 3 : Nat) : Int)) = ((min s.length (i + 4) : Nat) : Int) := by
       split <;> omega
      rw [hmin]
      simp only [Int.toNat_natCast]
      have hsub : List.drop (i + 1 + 1) (List.take (min s.length (i + 4)) s) = (s.drop (i + 2)).take 2 := by
       rw [List.drop_take, <- List.drop_take, List.drop_take, List.take_eq_take_iff]
       simp
       omega
      rw [hsub]
      refine ⟨⟨by omega, by omega, by omega⟩, by simp; omega, λ v hv => ?_, λ hv => ?_⟩
      ·rw [scanI_hex _ _ _ _ he1 hi1 e v hv] at hT
       refine ⟨(i + 1 + 2, UInt8.ofNat v, true), ⟨rfl, rfl, ?_⟩, self.1, hil, by dsimp only; omega, by dsimp only; omega, hc, hT⟩
       have hvl : v < 256 := by
        have hne : (s.drop (i + 2)).take 2 ≠ [] := λ e => by rw [e] at hv; cases hv
        rw [hex16_ne hne] at hv
        have h1 := hexGo_lt _ _ _ hv
        have h2 : ((s.drop (i + 2)).take 2).length <= 2 := by simp; omega
        have h3 : 16 ^ ((s.drop (i + 2)).take 2).length <= 16 ^ 2 := Nat.pow_le_pow_right (by omega) h2
        omega
       dsimp only
       rw [u8n hvl, wrapu8] <;> omega
      ·rw [scanI_hexno _ _ _ _ he1 hi1 e hv] at hT
       exact ⟨(i + 1 + 2, 0, false), ⟨rfl, rfl, (by decide : IntKind.u8.wrap 0 = 0)⟩, self.1, hil, by dsimp only; omega, by dsimp only; omega, hc, hT⟩
     ·have n110 : s.getD (i + 1) 0 ≠ 110 := λ e => Bool.noConfusion ((hd110.2 e).symm.trans h5)
      have n114 : s.getD (i + 1) 0 ≠ 114 := λ e => Bool.noConfusion ((hd114.2 e).symm.trans h6)
      have n120 : s.getD (i + 1) 0 ≠ 120 := λ e => Bool.noConfusion ((hd120.2 e).symm.trans h7)
      rw [scanI_esc _ _ _ _ he1 hi1 n120] at hT
      simp only [escD, if_neg n110, if_neg n114] at hT
      exact ⟨(i + 1, s.getD (i + 1) 0, true), ⟨rfl, rfl, rfl⟩, self.1, hil, by dsimp only; omega, by dsimp only; omega, hc, hT⟩
    ·refine ⟨(i, s.getD i 0, true), ⟨rfl, rfl, rfl⟩, self.1, hil, Nat.le_refl _, by dsimp only; omega, hc, ?_⟩
     have n34 : s.getD i 0 ≠ 34 := λ e => Bool.noConfusion ((h34.2 e).symm.trans hq)
     dsimp only
     rw [cond_true, hT]
     by_cases h9 : s.getD i 0 = 92
     ·rw [h92.2 h9, Bool.true_and, decide_eq_false_iff_not] at he
      rw [scanI_last _ _ _ _ hil h9 (by omega), scanI_end _ _ _ _ (by omega)]
     ·exact scanI_plain _ _ _ _ hil n34 h9
    ·obtain ⟨j, d, ok2⟩ := y
     dsimp only at hy ⊢
     obtain ⟨y1, y2, y3, y4, y5⟩ := hy
     refine ⟨⟨by omega, by omega, by omega⟩, (j + 1, c ++ [d], ok2), ⟨rfl, by simp, w1 j (by omega)⟩, ⟨by simp, λ q hq => ?_⟩, ⟨by dsimp only; omega, by dsimp only; simp; omega, y5⟩, by dsimp only; omega⟩
     dsimp only
     rw [getD_app]
     split
     ·rfl
     ·rename_i hge
      have : q - c.length = 0 := by simp at hq; omega
      rw [this]
      rfl
   ·refine ⟨(c, ok, -1), ⟨rfl, rfl, rfl⟩, ⟨Nat.le_refl _, λ _ _ => rfl⟩, by dsimp only; omega, .inl ⟨.inr (by decide : (-1 : Int) < 0), ?_⟩⟩
    cases ok with
    | false => exact hT
    | true =>
     simp only [Bool.true_and, decide_eq_false_iff_not] at hb
     rw [cond_true] at hT
     rw [hT, scanI_end _ _ _ _ (by omega)]
  ·obtain ⟨c, ok, e⟩ := x
   dsimp only at hx ⊢
   obtain ⟨hc, hx⟩ := hx
   refine ⟨λ hb => ?_, λ hb => ?_⟩
   ·have hT : textR ⟨l, b⟩ = badR := by
     rcases hx with ⟨_, hT⟩ | ⟨n, rfl, hn, rfl, hT⟩
     ·exact hT
     ·simp at hb
      omega
    rw [hT] at h ⊢
    exact ⟨(), rfl, ⟨rfl, rfl⟩, h⟩
   ·obtain ⟨n, rfl, hn, rfl, hT⟩ : ∃ n : Nat, e = n /\ n < s.length /\ ok = true /\ textR ⟨l, b⟩ = textEnd ⟨l, b⟩ s c n := by
     rcases hx with ⟨h8, hT⟩ | h8
     ·simp only [Bool.or_eq_false_iff, Bool.not_eq_false', decide_eq_false_iff_not] at hb
      rcases h8 with h8 | h8
      ·rw [hb.1] at h8; cases h8
      ·exact absurd h8 hb.2
     ·exact h8
    rw [w1 n (by omega)]
    simp only [Int.toNat_natCast, Int.toNat_zero, List.drop_zero, List.take_length]
    rw [hT] at h ⊢
    unfold textEnd at h ⊢
    dsimp only at h ⊢
    have hq := quote_len c
    have htl : (txt c).length = (quoteL c).length + 3 := by simp [txt]
    have hb1 : b = false -> ([32, 34] : Bs).length + (List.take (n + 1) s).length <= 9223372036854775807 := λ _ => by simp; omega
    have hb0 : b = false -> (0 : Int) <= 0 /\ (0 : Int) <= ((n + 1 : Nat) : Int) /\ ((n + 1 : Nat) : Int) <= ((s.length : Nat) : Int) := λ _ => ⟨by omega, by omega, by omega⟩
    have hfl : ∀ i, i < (txt c).length -> flatB (AV.pl (Value.int IntKind.u8 (((txt c).getD i 0).toNat : Int))) = true := λ _ _ => rfl
    have hrow : ∀ i, i < c.length -> AV.pl (Value.int IntKind.u8 ((c.getD (0 + i) 0).toNat : Int)) = AV.pl (Value.int IntKind.u8 (((bs c).data.toList.getD i 0).toNat : Int)) := λ i _ => by rw [Nat.zero_add, bs_data]
    refine ⟨by omega, bs c, bs_size c, hrow, by omega, c, ⟨⟨rfl, rfl, λ i hi => ?_⟩, by omega⟩, rfl, ⟨rfl, hfl⟩, ⟨by omega, by omega, by omega⟩, hb0, hb0, hb1, hb1, λ hbf => ?_, λ hbt => ?_⟩
    ·have : i = 0 := by simpa using hi
     subst this
     rfl
    ·subst hbf
     exact ⟨txt c, ⟨isBytes_self _, by omega, by omega⟩, by omega, bs c, bs_size c, hrow, (), rfl, ⟨rfl, rfl⟩, h⟩
    ·subst hbt
     exact ⟨by omega, bs c, bs_size c, hrow, (), rfl, ⟨rfl, rfl⟩, h⟩
 ·exact h.elim
end Go.Proofs.Sz
