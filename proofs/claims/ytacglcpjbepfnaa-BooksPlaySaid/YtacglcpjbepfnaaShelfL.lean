/-
  DERIVED: THE SHELF's CONTRACTS AT THIS DUMP, IN PLAIN WORDS (tools/lay-plain.mjs out of 'YtacglcpjbepfnaaShelfTry.lean', which tools/lay-shelf.mjs wrote): THE SAME DECLARATIONS UNDER THE SAME NAMES: 'import', 'namespace', 'open', 'def', 'theorem' AND NOTHING ELSE: no command of the shelf's: FOR A HAND-IN. Each laying: the table of numbers ('.._ren') and one theorem, a field a fact of the dump's own or the kernel's comparison; each contract: ONE APPLICATION.
-/
import Derived.Shelf.SlGeneric
import Derived.Shelf.SlSortCmp.WholeK
import Derived.Ground.SlsfProg
import Derived.Test.YtacglcpjbepfnaaProg
namespace Go.Proofs
open Go.Shelf
def Try.sortRanked_ren : Go.Shelf.Ren := ⟨fun | 6 => 102 | 15 => 120 | 14 => 123 | 28 => 141 | 29 => 142 | 20 => 145 | 21 => 146 | 22 => 147 | 23 => 148 | 24 => 149 | 25 => 150 | 26 => 151 | 27 => 152 | 46 => 161 | 47 => 157 | 48 => 158 | 49 => 162 | 50 => 163 | 57 => 165 | n => n, fun | 22 => 142 | 24 => 143 | 25 => 145 | 3 => 3 | 39 => 165 | 0 => 0 | 53 => 189 | 55 => 79 | 4 => 4 | 46 => 182 | 45 => 181 | 50 => 186 | 5 => 5 | 9 => 9 | 66 => 197 | 70 => 200 | 76 => 204 | 77 => 205 | n => n, fun | n => n⟩
theorem Try.sortRanked : Go.Proofs.SlLaysF0.n6 Try.prog Try.sortRanked_ren := {
  mixed := by kernel_rfl
  f6 := ⟨Try.f102.name, by decide, Try.func102.trans (congrArg some (by kernel_rfl))⟩
  f14 := ⟨Try.f123.name, by decide, Try.func123.trans (congrArg some (by kernel_rfl))⟩
  f15 := Try.func120.trans (congrArg some (by kernel_rfl))
  f20 := ⟨Try.f145.name, by decide, Try.func145.trans (congrArg some (by kernel_rfl))⟩
  f21 := ⟨Try.f146.name, by decide, Try.func146.trans (congrArg some (by kernel_rfl))⟩
  f22 := ⟨Try.f147.name, by decide, Try.func147.trans (congrArg some (by kernel_rfl))⟩
  f23 := ⟨Try.f148.name, by decide, Try.func148.trans (congrArg some (by kernel_rfl))⟩
  f24 := ⟨Try.f149.name, by decide, Try.func149.trans (congrArg some (by kernel_rfl))⟩
  f25 := ⟨Try.f150.name, by decide, Try.func150.trans (congrArg some (by kernel_rfl))⟩
  f26 := ⟨Try.f151.name, by decide, Try.func151.trans (congrArg some (by kernel_rfl))⟩
  f27 := ⟨Try.f152.name, by decide, Try.func152.trans (congrArg some (by kernel_rfl))⟩
  f28 := Try.func141.trans (congrArg some (by kernel_rfl))
  f29 := Try.func142.trans (congrArg some (by kernel_rfl))
  f46 := ⟨Try.f161.name, by decide, Try.func161.trans (congrArg some (by kernel_rfl))⟩
  f47 := Try.func157.trans (congrArg some (by kernel_rfl))
  f48 := Try.func158.trans (congrArg some (by kernel_rfl))
  f49 := ⟨Try.f162.name, by decide, Try.func162.trans (congrArg some (by kernel_rfl))⟩
  f50 := ⟨Try.f163.name, by decide, Try.func163.trans (congrArg some (by kernel_rfl))⟩
  f57 := ⟨Try.f165.name, by decide, Try.func165.trans (congrArg some (by kernel_rfl))⟩
  t0 := Try.underlying0
  a0 := Try.isAgg0
  z0 := Try.sizeOf0
  v0 := Try.zeroValue0
  t3 := Try.underlying3
  a3 := Try.isAgg3
  z3 := Try.sizeOf3
  v3 := Try.zeroValue3
  t4 := Try.underlying4
  a4 := Try.isAgg4
  z4 := Try.sizeOf4
  v4 := Try.zeroValue4
  t5 := Try.underlying5
  a5 := Try.isAgg5
  z5 := Try.sizeOf5
  v5 := Try.zeroValue5
  t9 := Try.underlying9
  a9 := Try.isAgg9
  z9 := Try.sizeOf9
  v9 := Try.zeroValue9
  t22 := Try.underlying142
  a22 := Try.isAgg142
  z22 := Try.sizeOf142
  v22 := Try.zeroValue142
  t25 := Try.underlying145
  a25 := Try.isAgg145
  z25 := Try.sizeOf145
  v25 := Try.zeroValue145
  t39 := Try.underlying165
  a39 := Try.isAgg165
  z39 := Try.sizeOf165
  v39 := Try.zeroValue165
  t45 := Try.underlying181
  a45 := Try.isAgg181
  z45 := Try.sizeOf181
  v45 := Try.zeroValue181
  t46 := Try.underlying182
  a46 := Try.isAgg182
  z46 := Try.sizeOf182
  v46 := Try.zeroValue182
  t50 := Try.underlying186
  a50 := Try.isAgg186
  z50 := Try.sizeOf186
  v50 := Try.zeroValue186
  t53 := Try.underlying189
  a53 := Try.isAgg189
  z53 := Try.sizeOf189
  v53 := Try.zeroValue189
  t55 := Try.underlying79
  a55 := Try.isAgg79
  z55 := Try.sizeOf79
  v55 := Try.zeroValue79
  t66 := Try.underlying197
  a66 := Try.isAgg197
  z66 := Try.sizeOf197
  v66 := Try.zeroValue197
  t70 := Try.underlying200
  a70 := Try.isAgg200
  z70 := Try.sizeOf200
  v70 := Try.zeroValue200
  t76 := Try.underlying204
  a76 := Try.isAgg204
  z76 := Try.sizeOf204
  v76 := Try.zeroValue204
  t77 := Try.underlying205
  a77 := Try.isAgg205
  z77 := Try.sizeOf205
  v77 := Try.zeroValue205 }
end Go.Proofs
