/- The shelf's premises at this program (printed by a program of ours). -/
import Derived.Test.YtpackolbhcmomaaGreatF
import Derived.Test.YtpackolbhcmomaaGreatFwS
namespace Go.Proofs.YtpackolbhcmomaaGreat
open Go Go.Fw Go.Shelf
set_option maxRecDepth 8000
set_option maxHeartbeats 1000000
def REN147:Go.Shelf.Ren:=⟨fun | 6=>147 | 15=>177 | 14=>176 | 28=>198 | 29=>199 | 20=>190 | 21=>191 | 22=>192 | 23=>193 | 24=>194 | 25=>195 | 26=>196 | 27=>197 | 46=>203 | 47=>204 | 48=>205 | 49=>206 | 50=>207 | 57=>210 | n=>n,fun | 22=>24 | 24=>75 | 25=>181 | 3=>3 | 39=>191 | 0=>0 | 53=>223 | 55=>76 | 4=>4 | 46=>217 | 45=>216 | 50=>132 | 5=>5 | 9=>9 | 66=>229 | 70=>233 | 76=>237 | 77=>95 | n=>n,fun n=>n⟩
theorem SL147:SlLaysF0.n6 Tryz.prog REN147 where
  mixed:=MX
  f6:=⟨ "slices.SortFunc[[]fretwork/api.Triple,fretwork/api.Triple]",by decide,Tryz.func147.trans (congrArg some (by kernel_rfl))⟩
  f14:=⟨ "slices.pdqsortCmpFunc[fretwork/api.Triple]",by decide,Tryz.func176.trans (congrArg some (by kernel_rfl))⟩
  f15:=Tryz.func177.trans (congrArg some (by kernel_rfl))
  f20:=⟨ "slices.insertionSortCmpFunc[fretwork/api.Triple]",by decide,Tryz.func190.trans (congrArg some (by kernel_rfl))⟩
  f21:=⟨ "slices.heapSortCmpFunc[fretwork/api.Triple]",by decide,Tryz.func191.trans (congrArg some (by kernel_rfl))⟩
  f22:=⟨ "slices.breakPatternsCmpFunc[fretwork/api.Triple]",by decide,Tryz.func192.trans (congrArg some (by kernel_rfl))⟩
  f23:=⟨ "slices.choosePivotCmpFunc[fretwork/api.Triple]",by decide,Tryz.func193.trans (congrArg some (by kernel_rfl))⟩
  f24:=⟨ "slices.reverseRangeCmpFunc[fretwork/api.Triple]",by decide,Tryz.func194.trans (congrArg some (by kernel_rfl))⟩
  f25:=⟨ "slices.partialInsertionSortCmpFunc[fretwork/api.Triple]",by decide,Tryz.func195.trans (congrArg some (by kernel_rfl))⟩
  f26:=⟨ "slices.partitionEqualCmpFunc[fretwork/api.Triple]",by decide,Tryz.func196.trans (congrArg some (by kernel_rfl))⟩
  f27:=⟨ "slices.partitionCmpFunc[fretwork/api.Triple]",by decide,Tryz.func197.trans (congrArg some (by kernel_rfl))⟩
  f28:=Tryz.func198.trans (congrArg some (by kernel_rfl))
  f29:=Tryz.func199.trans (congrArg some (by kernel_rfl))
  f46:=⟨ "slices.siftDownCmpFunc[fretwork/api.Triple]",by decide,Tryz.func203.trans (congrArg some (by kernel_rfl))⟩
  f47:=Tryz.func204.trans (congrArg some (by kernel_rfl))
  f48:=Tryz.func205.trans (congrArg some (by kernel_rfl))
  f49:=⟨ "slices.medianAdjacentCmpFunc[fretwork/api.Triple]",by decide,Tryz.func206.trans (congrArg some (by kernel_rfl))⟩
  f50:=⟨ "slices.medianCmpFunc[fretwork/api.Triple]",by decide,Tryz.func207.trans (congrArg some (by kernel_rfl))⟩
  f57:=⟨ "slices.order2CmpFunc[fretwork/api.Triple]",by decide,Tryz.func210.trans (congrArg some (by kernel_rfl))⟩
  t0:=Tryz.underlying0
  a0:=Tryz.isAgg0
  z0:=Tryz.sizeOf0
  v0:=Tryz.zeroValue0
  t3:=Tryz.underlying3
  a3:=Tryz.isAgg3
  z3:=Tryz.sizeOf3
  v3:=Tryz.zeroValue3
  t4:=Tryz.underlying4
  a4:=Tryz.isAgg4
  z4:=Tryz.sizeOf4
  v4:=Tryz.zeroValue4
  t5:=Tryz.underlying5
  a5:=Tryz.isAgg5
  z5:=Tryz.sizeOf5
  v5:=Tryz.zeroValue5
  t9:=Tryz.underlying9
  a9:=Tryz.isAgg9
  z9:=Tryz.sizeOf9
  v9:=Tryz.zeroValue9
  t22:=Tryz.underlying24
  a22:=Tryz.isAgg24
  z22:=Tryz.sizeOf24
  v22:=Tryz.zeroValue24
  t25:=Tryz.underlying181
  a25:=Tryz.isAgg181
  z25:=Tryz.sizeOf181
  v25:=Tryz.zeroValue181
  t39:=Tryz.underlying191
  a39:=Tryz.isAgg191
  z39:=Tryz.sizeOf191
  v39:=Tryz.zeroValue191
  t45:=Tryz.underlying216
  a45:=Tryz.isAgg216
  z45:=Tryz.sizeOf216
  v45:=Tryz.zeroValue216
  t46:=Tryz.underlying217
  a46:=Tryz.isAgg217
  z46:=Tryz.sizeOf217
  v46:=Tryz.zeroValue217
  t50:=Tryz.underlying132
  a50:=Tryz.isAgg132
  z50:=Tryz.sizeOf132
  v50:=Tryz.zeroValue132
  t53:=Tryz.underlying223
  a53:=Tryz.isAgg223
  z53:=Tryz.sizeOf223
  v53:=Tryz.zeroValue223
  t55:=Tryz.underlying76
  a55:=Tryz.isAgg76
  z55:=Tryz.sizeOf76
  v55:=Tryz.zeroValue76
  t66:=Tryz.underlying229
  a66:=Tryz.isAgg229
  z66:=Tryz.sizeOf229
  v66:=Tryz.zeroValue229
  t70:=Tryz.underlying233
  a70:=Tryz.isAgg233
  z70:=Tryz.sizeOf233
  v70:=Tryz.zeroValue233
  t76:=Tryz.underlying237
  a76:=Tryz.isAgg237
  z76:=Tryz.sizeOf237
  v76:=Tryz.zeroValue237
  t77:=Tryz.underlying95
  a77:=Tryz.isAgg95
  z77:=Tryz.sizeOf95
  v77:=Tryz.zeroValue95
end Go.Proofs.YtpackolbhcmomaaGreat
