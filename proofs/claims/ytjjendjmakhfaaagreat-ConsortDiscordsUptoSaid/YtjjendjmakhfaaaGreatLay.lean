/-
 Contracts of the shelf,laid at this seat.
 Own work (printed by wip/gen/laytxt.py,laytxt_g.py). No Go text.
-/
import Derived.Test.YtjjendjmakhfaaaGreatSo
import Derived.Test.YtjjendjmakhfaaaGreatChecked
set_option linter.all false
namespace Go.Proofs.YtjjendjmakhfaaaGreat
open Go Go.Am Go.RowKit
set_option maxRecDepth 100000
def lay_sort_ren : Go.Shelf.Ren := ⟨fun | 189 => 95 | 125 => 119 | 257 => 120 | 128 => 144 | 129 => 145 | 294 => 146 | 295 => 147 | 296 => 148 | 297 => 149 | 298 => 150 | 299 => 151 | 216 => 152 | 300 => 153 | 301 => 154 | 328 => 169 | 329 => 165 | 330 => 166 | 331 => 170 | 332 => 171 | 215 => 105 | 343 => 178 | n => n,fun | 28 => 54 | 3 => 3 | 46 => 160 | 0 => 0 | 51 => 206 | 53 => 208 | 4 => 4 | 183 => 200 | 182 => 199 | 131 => 176 | 5 => 5 | 9 => 9 | 218 => 222 | 222 => 226 | 228 => 234 | 229 => 235 | n => n,fun | n => n⟩
theorem lay_sort : Go.Proofs.Lays.n189 Tryz.prog lay_sort_ren where
 mixed := by kernel_rfl
 f125 := Tryz.func119.trans (congrArg some (by kernel_rfl))
 f128 := Tryz.func144.trans (congrArg some (by kernel_rfl))
 f129 := Tryz.func145.trans (congrArg some (by kernel_rfl))
 f189 := Tryz.func95.trans (congrArg some (by kernel_rfl))
 f215 := Tryz.func105.trans (congrArg some (by kernel_rfl))
 f216 := Tryz.func152.trans (congrArg some (by kernel_rfl))
 f257 := Tryz.func120.trans (congrArg some (by kernel_rfl))
 f294 := Tryz.func146.trans (congrArg some (by kernel_rfl))
 f295 := Tryz.func147.trans (congrArg some (by kernel_rfl))
 f296 := Tryz.func148.trans (congrArg some (by kernel_rfl))
 f297 := Tryz.func149.trans (congrArg some (by kernel_rfl))
 f298 := Tryz.func150.trans (congrArg some (by kernel_rfl))
 f299 := Tryz.func151.trans (congrArg some (by kernel_rfl))
 f300 := Tryz.func153.trans (congrArg some (by kernel_rfl))
 f301 := Tryz.func154.trans (congrArg some (by kernel_rfl))
 f328 := Tryz.func169.trans (congrArg some (by kernel_rfl))
 f329 := Tryz.func165.trans (congrArg some (by kernel_rfl))
 f330 := Tryz.func166.trans (congrArg some (by kernel_rfl))
 f331 := Tryz.func170.trans (congrArg some (by kernel_rfl))
 f332 := Tryz.func171.trans (congrArg some (by kernel_rfl))
 f343 := Tryz.func178.trans (congrArg some (by kernel_rfl))
 t0 := Tryz.underlying0
 a0 := Tryz.isAgg0
 z0 := Tryz.sizeOf0
 v0 := Tryz.zeroValue0
 t3 := Tryz.underlying3
 a3 := Tryz.isAgg3
 z3 := Tryz.sizeOf3
 v3 := Tryz.zeroValue3
 t4 := Tryz.underlying4
 a4 := Tryz.isAgg4
 z4 := Tryz.sizeOf4
 v4 := Tryz.zeroValue4
 t5 := Tryz.underlying5
 a5 := Tryz.isAgg5
 z5 := Tryz.sizeOf5
 v5 := Tryz.zeroValue5
 t9 := Tryz.underlying9
 a9 := Tryz.isAgg9
 z9 := Tryz.sizeOf9
 v9 := Tryz.zeroValue9
 t28 := Tryz.underlying54
 a28 := Tryz.isAgg54
 z28 := Tryz.sizeOf54
 v28 := Tryz.zeroValue54
 t46 := Tryz.underlying160
 a46 := Tryz.isAgg160
 z46 := Tryz.sizeOf160
 v46 := Tryz.zeroValue160
 t51 := Tryz.underlying206
 a51 := Tryz.isAgg206
 z51 := Tryz.sizeOf206
 v51 := Tryz.zeroValue206
 t53 := Tryz.underlying208
 a53 := Tryz.isAgg208
 z53 := Tryz.sizeOf208
 v53 := Tryz.zeroValue208
 t131 := Tryz.underlying176
 a131 := Tryz.isAgg176
 z131 := Tryz.sizeOf176
 v131 := Tryz.zeroValue176
 t182 := Tryz.underlying199
 a182 := Tryz.isAgg199
 z182 := Tryz.sizeOf199
 v182 := Tryz.zeroValue199
 t183 := Tryz.underlying200
 a183 := Tryz.isAgg200
 z183 := Tryz.sizeOf200
 v183 := Tryz.zeroValue200
 t218 := Tryz.underlying222
 a218 := Tryz.isAgg222
 z218 := Tryz.sizeOf222
 v218 := Tryz.zeroValue222
 t222 := Tryz.underlying226
 a222 := Tryz.isAgg226
 z222 := Tryz.sizeOf226
 v222 := Tryz.zeroValue226
 t228 := Tryz.underlying234
 a228 := Tryz.isAgg234
 z228 := Tryz.sizeOf234
 v228 := Tryz.zeroValue234
 t229 := Tryz.underlying235
 a229 := Tryz.isAgg235
 z229 := Tryz.sizeOf235
 v229 := Tryz.zeroValue235
end Go.Proofs.YtjjendjmakhfaaaGreat
