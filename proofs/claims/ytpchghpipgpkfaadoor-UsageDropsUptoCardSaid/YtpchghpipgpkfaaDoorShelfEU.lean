/-
  DERIVED: THE SHELF's CONTRACTS AT THIS DUMP, IN PLAIN WORDS (tools/lay-plain.mjs out of 'TrydShelfSortF.lean', which tools/lay-shelf.mjs wrote): THE SAME DECLARATIONS UNDER THE SAME NAMES: 'import', 'namespace', 'open', 'def', 'theorem' AND NOTHING ELSE: no command of the shelf's: FOR A HAND-IN. Each laying: the table of numbers ('.._ren') and one theorem, a field a fact of the dump's own or the kernel's comparison; each contract: ONE APPLICATION.
-/
import Derived.Shelf.SlSortCmp.NoneTotal
import Derived.Shelf.SlicesG.Cmp
import Derived.Test.YtpchghpipgpkfaaDoorProg
namespace Go.Proofs
open Go.Shelf
def Tryd.sortU_ren:Go.Shelf.Ren:=⟨fun | 6=>53 | 15=>83 | 14=>82 | 28=>108 | 29=>109 | 20=>100 | 21=>101 | 22=>102 | 23=>103 | 24=>104 | 25=>105 | 26=>106 | 27=>107 | 46=>113 | 47=>114 | 48=>115 | 49=>116 | 50=>117 | 57=>129 | n=>n,fun | 22=>54 | 24=>59 | 25=>98 | 3=>3 | 39=>126 | 0=>0 | 53=>145 | 55=>147 | 4=>4 | 46=>139 | 45=>138 | 50=>111 | 5=>5 | 9=>9 | 66=>151 | 70=>155 | 76=>165 | 77=>166 | n=>n,fun | n=>n⟩
theorem Tryd.sortU:Go.Proofs.SlLaysF0.n6 Tryd.prog Tryd.sortU_ren:={
 mixed:=by kernel_rfl
 f6:=⟨Tryd.f53.name,by decide,Tryd.func53.trans (congrArg some (by kernel_rfl))⟩
 f14:=⟨Tryd.f82.name,by decide,Tryd.func82.trans (congrArg some (by kernel_rfl))⟩
 f15:=Tryd.func83.trans (congrArg some (by kernel_rfl))
 f20:=⟨Tryd.f100.name,by decide,Tryd.func100.trans (congrArg some (by kernel_rfl))⟩
 f21:=⟨Tryd.f101.name,by decide,Tryd.func101.trans (congrArg some (by kernel_rfl))⟩
 f22:=⟨Tryd.f102.name,by decide,Tryd.func102.trans (congrArg some (by kernel_rfl))⟩
 f23:=⟨Tryd.f103.name,by decide,Tryd.func103.trans (congrArg some (by kernel_rfl))⟩
 f24:=⟨Tryd.f104.name,by decide,Tryd.func104.trans (congrArg some (by kernel_rfl))⟩
 f25:=⟨Tryd.f105.name,by decide,Tryd.func105.trans (congrArg some (by kernel_rfl))⟩
 f26:=⟨Tryd.f106.name,by decide,Tryd.func106.trans (congrArg some (by kernel_rfl))⟩
 f27:=⟨Tryd.f107.name,by decide,Tryd.func107.trans (congrArg some (by kernel_rfl))⟩
 f28:=Tryd.func108.trans (congrArg some (by kernel_rfl))
 f29:=Tryd.func109.trans (congrArg some (by kernel_rfl))
 f46:=⟨Tryd.f113.name,by decide,Tryd.func113.trans (congrArg some (by kernel_rfl))⟩
 f47:=Tryd.func114.trans (congrArg some (by kernel_rfl))
 f48:=Tryd.func115.trans (congrArg some (by kernel_rfl))
 f49:=⟨Tryd.f116.name,by decide,Tryd.func116.trans (congrArg some (by kernel_rfl))⟩
 f50:=⟨Tryd.f117.name,by decide,Tryd.func117.trans (congrArg some (by kernel_rfl))⟩
 f57:=⟨Tryd.f129.name,by decide,Tryd.func129.trans (congrArg some (by kernel_rfl))⟩
 t0:=Tryd.underlying0
 a0:=Tryd.isAgg0
 z0:=Tryd.sizeOf0
 v0:=Tryd.zeroValue0
 t3:=Tryd.underlying3
 a3:=Tryd.isAgg3
 z3:=Tryd.sizeOf3
 v3:=Tryd.zeroValue3
 t4:=Tryd.underlying4
 a4:=Tryd.isAgg4
 z4:=Tryd.sizeOf4
 v4:=Tryd.zeroValue4
 t5:=Tryd.underlying5
 a5:=Tryd.isAgg5
 z5:=Tryd.sizeOf5
 v5:=Tryd.zeroValue5
 t9:=Tryd.underlying9
 a9:=Tryd.isAgg9
 z9:=Tryd.sizeOf9
 v9:=Tryd.zeroValue9
 t22:=Tryd.underlying54
 a22:=Tryd.isAgg54
 z22:=Tryd.sizeOf54
 v22:=Tryd.zeroValue54
 t25:=Tryd.underlying98
 a25:=Tryd.isAgg98
 z25:=Tryd.sizeOf98
 v25:=Tryd.zeroValue98
 t39:=Tryd.underlying126
 a39:=Tryd.isAgg126
 z39:=Tryd.sizeOf126
 v39:=Tryd.zeroValue126
 t45:=Tryd.underlying138
 a45:=Tryd.isAgg138
 z45:=Tryd.sizeOf138
 v45:=Tryd.zeroValue138
 t46:=Tryd.underlying139
 a46:=Tryd.isAgg139
 z46:=Tryd.sizeOf139
 v46:=Tryd.zeroValue139
 t50:=Tryd.underlying111
 a50:=Tryd.isAgg111
 z50:=Tryd.sizeOf111
 v50:=Tryd.zeroValue111
 t53:=Tryd.underlying145
 a53:=Tryd.isAgg145
 z53:=Tryd.sizeOf145
 v53:=Tryd.zeroValue145
 t55:=Tryd.underlying147
 a55:=Tryd.isAgg147
 z55:=Tryd.sizeOf147
 v55:=Tryd.zeroValue147
 t66:=Tryd.underlying151
 a66:=Tryd.isAgg151
 z66:=Tryd.sizeOf151
 v66:=Tryd.zeroValue151
 t70:=Tryd.underlying155
 a70:=Tryd.isAgg155
 z70:=Tryd.sizeOf155
 v70:=Tryd.zeroValue155
 t76:=Tryd.underlying165
 a76:=Tryd.isAgg165
 z76:=Tryd.sizeOf165
 v76:=Tryd.zeroValue165
 t77:=Tryd.underlying166
 a77:=Tryd.isAgg166
 z77:=Tryd.sizeOf166
 v77:=Tryd.zeroValue166 }
def Tryd.cmpI_ren:Go.Shelf.Ren:=⟨fun | 5=>55 | 7=>84 | n=>n,fun | 22=>3 | 3=>3 | 4=>4 | n=>n,fun | n=>n⟩
theorem Tryd.cmpI:Go.Proofs.SlLaysC2.n5 Tryd.prog Tryd.cmpI_ren:={
 mixed:=by kernel_rfl
 f5:=⟨Tryd.f55.name,by decide,Tryd.func55.trans (congrArg some (by kernel_rfl))⟩
 f7:=⟨Tryd.f84.name,by decide,Tryd.func84.trans (congrArg some (by kernel_rfl))⟩
 t3:=Tryd.underlying3
 a3:=Tryd.isAgg3
 z3:=Tryd.sizeOf3
 v3:=Tryd.zeroValue3
 t4:=Tryd.underlying4
 a4:=Tryd.isAgg4
 z4:=Tryd.sizeOf4
 v4:=Tryd.zeroValue4
 t22:=Tryd.underlying3
 a22:=Tryd.isAgg3
 z22:=Tryd.sizeOf3
 v22:=Tryd.zeroValue3 }
end Go.Proofs
