/- The shelf's premises at this program (printed by a program of ours). -/
import Derived.Test.YtccpfgdefibdnaaGreatF
import Derived.Test.YtccpfgdefibdnaaGreatFwS
namespace Go.Proofs.YtccpfgdefibdnaaGreat
open Go Go.Fw Go.Shelf
set_option maxRecDepth 8000
set_option maxHeartbeats 1000000
def REN183:Go.Shelf.Ren:=⟨fun | 6=>183 | 15=>201 | 14=>200 | 28=>219 | 29=>220 | 20=>211 | 21=>212 | 22=>213 | 23=>214 | 24=>215 | 25=>216 | 26=>217 | 27=>218 | 46=>224 | 47=>225 | 48=>226 | 49=>227 | 50=>228 | 57=>230 | n=>n,fun | 22=>26 | 24=>70 | 25=>202 | 3=>3 | 39=>148 | 0=>0 | 53=>225 | 55=>96 | 4=>4 | 46=>219 | 45=>218 | 50=>171 | 5=>5 | 9=>9 | 66=>229 | 70=>233 | 76=>236 | 77=>190 | n=>n,fun n=>n⟩
theorem SL183:SlLaysF0.n6 Tryz.prog REN183 where
  mixed:=MX
  f6:=⟨ "slices.SortFunc[[]fretwork/api.Edge,fretwork/api.Edge]",by decide,Tryz.func183.trans (congrArg some (by kernel_rfl))⟩
  f14:=⟨ "slices.pdqsortCmpFunc[fretwork/api.Edge]",by decide,Tryz.func200.trans (congrArg some (by kernel_rfl))⟩
  f15:=Tryz.func201.trans (congrArg some (by kernel_rfl))
  f20:=⟨ "slices.insertionSortCmpFunc[fretwork/api.Edge]",by decide,Tryz.func211.trans (congrArg some (by kernel_rfl))⟩
  f21:=⟨ "slices.heapSortCmpFunc[fretwork/api.Edge]",by decide,Tryz.func212.trans (congrArg some (by kernel_rfl))⟩
  f22:=⟨ "slices.breakPatternsCmpFunc[fretwork/api.Edge]",by decide,Tryz.func213.trans (congrArg some (by kernel_rfl))⟩
  f23:=⟨ "slices.choosePivotCmpFunc[fretwork/api.Edge]",by decide,Tryz.func214.trans (congrArg some (by kernel_rfl))⟩
  f24:=⟨ "slices.reverseRangeCmpFunc[fretwork/api.Edge]",by decide,Tryz.func215.trans (congrArg some (by kernel_rfl))⟩
  f25:=⟨ "slices.partialInsertionSortCmpFunc[fretwork/api.Edge]",by decide,Tryz.func216.trans (congrArg some (by kernel_rfl))⟩
  f26:=⟨ "slices.partitionEqualCmpFunc[fretwork/api.Edge]",by decide,Tryz.func217.trans (congrArg some (by kernel_rfl))⟩
  f27:=⟨ "slices.partitionCmpFunc[fretwork/api.Edge]",by decide,Tryz.func218.trans (congrArg some (by kernel_rfl))⟩
  f28:=Tryz.func219.trans (congrArg some (by kernel_rfl))
  f29:=Tryz.func220.trans (congrArg some (by kernel_rfl))
  f46:=⟨ "slices.siftDownCmpFunc[fretwork/api.Edge]",by decide,Tryz.func224.trans (congrArg some (by kernel_rfl))⟩
  f47:=Tryz.func225.trans (congrArg some (by kernel_rfl))
  f48:=Tryz.func226.trans (congrArg some (by kernel_rfl))
  f49:=⟨ "slices.medianAdjacentCmpFunc[fretwork/api.Edge]",by decide,Tryz.func227.trans (congrArg some (by kernel_rfl))⟩
  f50:=⟨ "slices.medianCmpFunc[fretwork/api.Edge]",by decide,Tryz.func228.trans (congrArg some (by kernel_rfl))⟩
  f57:=⟨ "slices.order2CmpFunc[fretwork/api.Edge]",by decide,Tryz.func230.trans (congrArg some (by kernel_rfl))⟩
  t0:=Tryz.underlying0
  a0:=Tryz.isAgg0
  z0:=Tryz.sizeOf0
  v0:=Tryz.zeroValue0
  t3:=Tryz.underlying3
  a3:=Tryz.isAgg3
  z3:=Tryz.sizeOf3
  v3:=Tryz.zeroValue3
  t4:=Tryz.underlying4
  a4:=Tryz.isAgg4
  z4:=Tryz.sizeOf4
  v4:=Tryz.zeroValue4
  t5:=Tryz.underlying5
  a5:=Tryz.isAgg5
  z5:=Tryz.sizeOf5
  v5:=Tryz.zeroValue5
  t9:=Tryz.underlying9
  a9:=Tryz.isAgg9
  z9:=Tryz.sizeOf9
  v9:=Tryz.zeroValue9
  t22:=Tryz.underlying26
  a22:=Tryz.isAgg26
  z22:=Tryz.sizeOf26
  v22:=Tryz.zeroValue26
  t25:=Tryz.underlying202
  a25:=Tryz.isAgg202
  z25:=Tryz.sizeOf202
  v25:=Tryz.zeroValue202
  t39:=Tryz.underlying148
  a39:=Tryz.isAgg148
  z39:=Tryz.sizeOf148
  v39:=Tryz.zeroValue148
  t45:=Tryz.underlying218
  a45:=Tryz.isAgg218
  z45:=Tryz.sizeOf218
  v45:=Tryz.zeroValue218
  t46:=Tryz.underlying219
  a46:=Tryz.isAgg219
  z46:=Tryz.sizeOf219
  v46:=Tryz.zeroValue219
  t50:=Tryz.underlying171
  a50:=Tryz.isAgg171
  z50:=Tryz.sizeOf171
  v50:=Tryz.zeroValue171
  t53:=Tryz.underlying225
  a53:=Tryz.isAgg225
  z53:=Tryz.sizeOf225
  v53:=Tryz.zeroValue225
  t55:=Tryz.underlying96
  a55:=Tryz.isAgg96
  z55:=Tryz.sizeOf96
  v55:=Tryz.zeroValue96
  t66:=Tryz.underlying229
  a66:=Tryz.isAgg229
  z66:=Tryz.sizeOf229
  v66:=Tryz.zeroValue229
  t70:=Tryz.underlying233
  a70:=Tryz.isAgg233
  z70:=Tryz.sizeOf233
  v70:=Tryz.zeroValue233
  t76:=Tryz.underlying236
  a76:=Tryz.isAgg236
  z76:=Tryz.sizeOf236
  v76:=Tryz.zeroValue236
  t77:=Tryz.underlying190
  a77:=Tryz.isAgg190
  z77:=Tryz.sizeOf190
  v77:=Tryz.zeroValue190
end Go.Proofs.YtccpfgdefibdnaaGreat
