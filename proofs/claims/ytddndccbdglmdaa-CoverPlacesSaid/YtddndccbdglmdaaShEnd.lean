/-
  DERIVED: THE SHELF's CONTRACTS AT THIS DUMP, IN PLAIN WORDS (tools/lay-plain.mjs out of 'TryShelf2.lean', which tools/lay-shelf.mjs wrote): THE SAME DECLARATIONS UNDER THE SAME NAMES: 'import', 'namespace', 'open', 'def', 'theorem' AND NOTHING ELSE: no command of the shelf's: FOR A HAND-IN. Each laying: the table of numbers ('.._ren') and one theorem, a field a fact of the dump's own or the kernel's comparison; each contract: ONE APPLICATION.
-/
import Derived.Shelf.SlSortCmp.WholeK
import Derived.Test.YtddndccbdglmdaaProg
namespace Go.Proofs
open Go.Shelf
def Try.sortEnd_ren : Go.Shelf.Ren := ⟨fun | 6 => 161 | 15 => 117 | 14 => 202 | 28 => 173 | 29 => 174 | 20 => 229 | 21 => 230 | 22 => 231 | 23 => 232 | 24 => 233 | 25 => 234 | 26 => 235 | 27 => 236 | 46 => 251 | 47 => 204 | 48 => 205 | 49 => 252 | 50 => 253 | 57 => 258 | n => n, fun | 22 => 176 | 24 => 179 | 25 => 234 | 3 => 3 | 39 => 27 | 0 => 0 | 53 => 243 | 55 => 170 | 4 => 4 | 46 => 237 | 45 => 236 | 50 => 145 | 5 => 5 | 9 => 9 | 66 => 269 | 70 => 273 | 76 => 296 | 77 => 49 | n => n, fun | n => n⟩
theorem Try.sortEnd : Go.Proofs.SlLaysF0.n6 Try.prog Try.sortEnd_ren := {
  mixed := by kernel_rfl
  f6 := ⟨Try.f161.name, by decide, Try.func161.trans (congrArg some (by kernel_rfl))⟩
  f14 := ⟨Try.f202.name, by decide, Try.func202.trans (congrArg some (by kernel_rfl))⟩
  f15 := Try.func117.trans (congrArg some (by kernel_rfl))
  f20 := ⟨Try.f229.name, by decide, Try.func229.trans (congrArg some (by kernel_rfl))⟩
  f21 := ⟨Try.f230.name, by decide, Try.func230.trans (congrArg some (by kernel_rfl))⟩
  f22 := ⟨Try.f231.name, by decide, Try.func231.trans (congrArg some (by kernel_rfl))⟩
  f23 := ⟨Try.f232.name, by decide, Try.func232.trans (congrArg some (by kernel_rfl))⟩
  f24 := ⟨Try.f233.name, by decide, Try.func233.trans (congrArg some (by kernel_rfl))⟩
  f25 := ⟨Try.f234.name, by decide, Try.func234.trans (congrArg some (by kernel_rfl))⟩
  f26 := ⟨Try.f235.name, by decide, Try.func235.trans (congrArg some (by kernel_rfl))⟩
  f27 := ⟨Try.f236.name, by decide, Try.func236.trans (congrArg some (by kernel_rfl))⟩
  f28 := Try.func173.trans (congrArg some (by kernel_rfl))
  f29 := Try.func174.trans (congrArg some (by kernel_rfl))
  f46 := ⟨Try.f251.name, by decide, Try.func251.trans (congrArg some (by kernel_rfl))⟩
  f47 := Try.func204.trans (congrArg some (by kernel_rfl))
  f48 := Try.func205.trans (congrArg some (by kernel_rfl))
  f49 := ⟨Try.f252.name, by decide, Try.func252.trans (congrArg some (by kernel_rfl))⟩
  f50 := ⟨Try.f253.name, by decide, Try.func253.trans (congrArg some (by kernel_rfl))⟩
  f57 := ⟨Try.f258.name, by decide, Try.func258.trans (congrArg some (by kernel_rfl))⟩
  t0 := Try.underlying0
  a0 := Try.isAgg0
  z0 := Try.sizeOf0
  v0 := Try.zeroValue0
  t3 := Try.underlying3
  a3 := Try.isAgg3
  z3 := Try.sizeOf3
  v3 := Try.zeroValue3
  t4 := Try.underlying4
  a4 := Try.isAgg4
  z4 := Try.sizeOf4
  v4 := Try.zeroValue4
  t5 := Try.underlying5
  a5 := Try.isAgg5
  z5 := Try.sizeOf5
  v5 := Try.zeroValue5
  t9 := Try.underlying9
  a9 := Try.isAgg9
  z9 := Try.sizeOf9
  v9 := Try.zeroValue9
  t22 := Try.underlying176
  a22 := Try.isAgg176
  z22 := Try.sizeOf176
  v22 := Try.zeroValue176
  t25 := Try.underlying234
  a25 := Try.isAgg234
  z25 := Try.sizeOf234
  v25 := Try.zeroValue234
  t39 := Try.underlying27
  a39 := Try.isAgg27
  z39 := Try.sizeOf27
  v39 := Try.zeroValue27
  t45 := Try.underlying236
  a45 := Try.isAgg236
  z45 := Try.sizeOf236
  v45 := Try.zeroValue236
  t46 := Try.underlying237
  a46 := Try.isAgg237
  z46 := Try.sizeOf237
  v46 := Try.zeroValue237
  t50 := Try.underlying145
  a50 := Try.isAgg145
  z50 := Try.sizeOf145
  v50 := Try.zeroValue145
  t53 := Try.underlying243
  a53 := Try.isAgg243
  z53 := Try.sizeOf243
  v53 := Try.zeroValue243
  t55 := Try.underlying170
  a55 := Try.isAgg170
  z55 := Try.sizeOf170
  v55 := Try.zeroValue170
  t66 := Try.underlying269
  a66 := Try.isAgg269
  z66 := Try.sizeOf269
  v66 := Try.zeroValue269
  t70 := Try.underlying273
  a70 := Try.isAgg273
  z70 := Try.sizeOf273
  v70 := Try.zeroValue273
  t76 := Try.underlying296
  a76 := Try.isAgg296
  z76 := Try.sizeOf296
  v76 := Try.zeroValue296
  t77 := Try.underlying49
  a77 := Try.isAgg49
  z77 := Try.sizeOf49
  v77 := Try.zeroValue49 }
end Go.Proofs
