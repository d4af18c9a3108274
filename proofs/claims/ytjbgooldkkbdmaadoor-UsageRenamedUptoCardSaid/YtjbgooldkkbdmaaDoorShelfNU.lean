/-
  DERIVED: THE SHELF's CONTRACTS AT THIS DUMP, IN PLAIN WORDS (tools/lay-plain.mjs out of 'TrydShelfSortF2.lean', which tools/lay-shelf.mjs wrote): THE SAME DECLARATIONS UNDER THE SAME NAMES: 'import', 'namespace', 'open', 'def', 'theorem' AND NOTHING ELSE: no command of the shelf's: FOR A HAND-IN. Each laying: the table of numbers ('.._ren') and one theorem, a field a fact of the dump's own or the kernel's comparison; each contract: ONE APPLICATION.
-/
import Derived.Shelf.SlSortCmp.NoneTotal
import Derived.Shelf.SlicesG.Cmp
import Derived.Test.YtjbgooldkkbdmaaDoorProg
namespace Go.Proofs
open Go.Shelf
def Tryd.sortU_ren:Go.Shelf.Ren:=⟨fun | 6=>14 | 15=>29 | 14=>28 | 28=>52 | 29=>53 | 20=>44 | 21=>45 | 22=>46 | 23=>47 | 24=>48 | 25=>49 | 26=>50 | 27=>51 | 46=>59 | 47=>60 | 48=>61 | 49=>62 | 50=>63 | 57=>67 | n=>n,fun | 22=>23 | 24=>29 | 25=>55 | 3=>3 | 39=>72 | 0=>0 | 53=>97 | 55=>99 | 4=>4 | 46=>91 | 45=>90 | 50=>81 | 5=>5 | 9=>9 | 66=>106 | 70=>110 | 76=>115 | 77=>116 | n=>n,fun | n=>n⟩
theorem Tryd.sortU:Go.Proofs.SlLaysF0.n6 Tryd.prog Tryd.sortU_ren:={
 mixed:=by kernel_rfl
 f6:=⟨Tryd.f14.name,by decide,Tryd.func14.trans (congrArg some (by kernel_rfl))⟩
 f14:=⟨Tryd.f28.name,by decide,Tryd.func28.trans (congrArg some (by kernel_rfl))⟩
 f15:=Tryd.func29.trans (congrArg some (by kernel_rfl))
 f20:=⟨Tryd.f44.name,by decide,Tryd.func44.trans (congrArg some (by kernel_rfl))⟩
 f21:=⟨Tryd.f45.name,by decide,Tryd.func45.trans (congrArg some (by kernel_rfl))⟩
 f22:=⟨Tryd.f46.name,by decide,Tryd.func46.trans (congrArg some (by kernel_rfl))⟩
 f23:=⟨Tryd.f47.name,by decide,Tryd.func47.trans (congrArg some (by kernel_rfl))⟩
 f24:=⟨Tryd.f48.name,by decide,Tryd.func48.trans (congrArg some (by kernel_rfl))⟩
 f25:=⟨Tryd.f49.name,by decide,Tryd.func49.trans (congrArg some (by kernel_rfl))⟩
 f26:=⟨Tryd.f50.name,by decide,Tryd.func50.trans (congrArg some (by kernel_rfl))⟩
 f27:=⟨Tryd.f51.name,by decide,Tryd.func51.trans (congrArg some (by kernel_rfl))⟩
 f28:=Tryd.func52.trans (congrArg some (by kernel_rfl))
 f29:=Tryd.func53.trans (congrArg some (by kernel_rfl))
 f46:=⟨Tryd.f59.name,by decide,Tryd.func59.trans (congrArg some (by kernel_rfl))⟩
 f47:=Tryd.func60.trans (congrArg some (by kernel_rfl))
 f48:=Tryd.func61.trans (congrArg some (by kernel_rfl))
 f49:=⟨Tryd.f62.name,by decide,Tryd.func62.trans (congrArg some (by kernel_rfl))⟩
 f50:=⟨Tryd.f63.name,by decide,Tryd.func63.trans (congrArg some (by kernel_rfl))⟩
 f57:=⟨Tryd.f67.name,by decide,Tryd.func67.trans (congrArg some (by kernel_rfl))⟩
 t0:=Tryd.underlying0
 a0:=Tryd.isAgg0
 z0:=Tryd.sizeOf0
 v0:=Tryd.zeroValue0
 t3:=Tryd.underlying3
 a3:=Tryd.isAgg3
 z3:=Tryd.sizeOf3
 v3:=Tryd.zeroValue3
 t4:=Tryd.underlying4
 a4:=Tryd.isAgg4
 z4:=Tryd.sizeOf4
 v4:=Tryd.zeroValue4
 t5:=Tryd.underlying5
 a5:=Tryd.isAgg5
 z5:=Tryd.sizeOf5
 v5:=Tryd.zeroValue5
 t9:=Tryd.underlying9
 a9:=Tryd.isAgg9
 z9:=Tryd.sizeOf9
 v9:=Tryd.zeroValue9
 t22:=Tryd.underlying23
 a22:=Tryd.isAgg23
 z22:=Tryd.sizeOf23
 v22:=Tryd.zeroValue23
 t25:=Tryd.underlying55
 a25:=Tryd.isAgg55
 z25:=Tryd.sizeOf55
 v25:=Tryd.zeroValue55
 t39:=Tryd.underlying72
 a39:=Tryd.isAgg72
 z39:=Tryd.sizeOf72
 v39:=Tryd.zeroValue72
 t45:=Tryd.underlying90
 a45:=Tryd.isAgg90
 z45:=Tryd.sizeOf90
 v45:=Tryd.zeroValue90
 t46:=Tryd.underlying91
 a46:=Tryd.isAgg91
 z46:=Tryd.sizeOf91
 v46:=Tryd.zeroValue91
 t50:=Tryd.underlying81
 a50:=Tryd.isAgg81
 z50:=Tryd.sizeOf81
 v50:=Tryd.zeroValue81
 t53:=Tryd.underlying97
 a53:=Tryd.isAgg97
 z53:=Tryd.sizeOf97
 v53:=Tryd.zeroValue97
 t55:=Tryd.underlying99
 a55:=Tryd.isAgg99
 z55:=Tryd.sizeOf99
 v55:=Tryd.zeroValue99
 t66:=Tryd.underlying106
 a66:=Tryd.isAgg106
 z66:=Tryd.sizeOf106
 v66:=Tryd.zeroValue106
 t70:=Tryd.underlying110
 a70:=Tryd.isAgg110
 z70:=Tryd.sizeOf110
 v70:=Tryd.zeroValue110
 t76:=Tryd.underlying115
 a76:=Tryd.isAgg115
 z76:=Tryd.sizeOf115
 v76:=Tryd.zeroValue115
 t77:=Tryd.underlying116
 a77:=Tryd.isAgg116
 z77:=Tryd.sizeOf116
 v77:=Tryd.zeroValue116 }
def Tryd.cmpI_ren:Go.Shelf.Ren:=⟨fun | 5=>16 | 7=>30 | n=>n,fun | 22=>3 | 3=>3 | 4=>4 | n=>n,fun | n=>n⟩
theorem Tryd.cmpI:Go.Proofs.SlLaysC2.n5 Tryd.prog Tryd.cmpI_ren:={
 mixed:=by kernel_rfl
 f5:=⟨Tryd.f16.name,by decide,Tryd.func16.trans (congrArg some (by kernel_rfl))⟩
 f7:=⟨Tryd.f30.name,by decide,Tryd.func30.trans (congrArg some (by kernel_rfl))⟩
 t3:=Tryd.underlying3
 a3:=Tryd.isAgg3
 z3:=Tryd.sizeOf3
 v3:=Tryd.zeroValue3
 t4:=Tryd.underlying4
 a4:=Tryd.isAgg4
 z4:=Tryd.sizeOf4
 v4:=Tryd.zeroValue4
 t22:=Tryd.underlying3
 a22:=Tryd.isAgg3
 z22:=Tryd.sizeOf3
 v22:=Tryd.zeroValue3 }
end Go.Proofs
