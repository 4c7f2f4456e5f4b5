/- The shelf's premises at this program (printed by a program of ours). -/
import Derived.Test.YtaefnmlbnkmahaaGreatF
import Derived.Test.YtaefnmlbnkmahaaGreatFwS
namespace Go.Proofs.YtaefnmlbnkmahaaGreat
open Go Go.Fw Go.Shelf
set_option maxRecDepth 8000
set_option maxHeartbeats 1000000
def REN234:Go.Shelf.Ren:=⟨fun | 6=>234 | 15=>257 | 14=>256 | 28=>273 | 29=>274 | 20=>265 | 21=>266 | 22=>267 | 23=>268 | 24=>269 | 25=>270 | 26=>271 | 27=>272 | 46=>286 | 47=>287 | 48=>288 | 49=>289 | 50=>290 | 57=>294 | n=>n,fun | 22=>99 | 24=>101 | 25=>249 | 3=>3 | 39=>201 | 0=>0 | 53=>279 | 55=>125 | 4=>4 | 46=>273 | 45=>272 | 50=>241 | 5=>5 | 9=>9 | 66=>286 | 70=>290 | 76=>294 | 77=>216 | n=>n,fun n=>n⟩
def REN241:Go.Shelf.Ren:=⟨fun | 6=>241 | 15=>257 | 14=>258 | 28=>273 | 29=>274 | 20=>275 | 21=>276 | 22=>277 | 23=>278 | 24=>279 | 25=>280 | 26=>281 | 27=>282 | 46=>291 | 47=>287 | 48=>288 | 49=>292 | 50=>293 | 57=>295 | n=>n,fun | 22=>22 | 24=>27 | 25=>255 | 3=>3 | 39=>201 | 0=>0 | 53=>279 | 55=>125 | 4=>4 | 46=>273 | 45=>272 | 50=>241 | 5=>5 | 9=>9 | 66=>286 | 70=>290 | 76=>294 | 77=>216 | n=>n,fun n=>n⟩
theorem SL241:SlLaysF0.n6 Tryz.prog REN241 where
  mixed:=MX
  f6:=⟨ "slices.SortFunc[[]fretwork/api.Edge,fretwork/api.Edge]",by decide,Tryz.func241.trans (congrArg some (by kernel_rfl))⟩
  f14:=⟨ "slices.pdqsortCmpFunc[fretwork/api.Edge]",by decide,Tryz.func258.trans (congrArg some (by kernel_rfl))⟩
  f15:=Tryz.func257.trans (congrArg some (by kernel_rfl))
  f20:=⟨ "slices.insertionSortCmpFunc[fretwork/api.Edge]",by decide,Tryz.func275.trans (congrArg some (by kernel_rfl))⟩
  f21:=⟨ "slices.heapSortCmpFunc[fretwork/api.Edge]",by decide,Tryz.func276.trans (congrArg some (by kernel_rfl))⟩
  f22:=⟨ "slices.breakPatternsCmpFunc[fretwork/api.Edge]",by decide,Tryz.func277.trans (congrArg some (by kernel_rfl))⟩
  f23:=⟨ "slices.choosePivotCmpFunc[fretwork/api.Edge]",by decide,Tryz.func278.trans (congrArg some (by kernel_rfl))⟩
  f24:=⟨ "slices.reverseRangeCmpFunc[fretwork/api.Edge]",by decide,Tryz.func279.trans (congrArg some (by kernel_rfl))⟩
  f25:=⟨ "slices.partialInsertionSortCmpFunc[fretwork/api.Edge]",by decide,Tryz.func280.trans (congrArg some (by kernel_rfl))⟩
  f26:=⟨ "slices.partitionEqualCmpFunc[fretwork/api.Edge]",by decide,Tryz.func281.trans (congrArg some (by kernel_rfl))⟩
  f27:=⟨ "slices.partitionCmpFunc[fretwork/api.Edge]",by decide,Tryz.func282.trans (congrArg some (by kernel_rfl))⟩
  f28:=Tryz.func273.trans (congrArg some (by kernel_rfl))
  f29:=Tryz.func274.trans (congrArg some (by kernel_rfl))
  f46:=⟨ "slices.siftDownCmpFunc[fretwork/api.Edge]",by decide,Tryz.func291.trans (congrArg some (by kernel_rfl))⟩
  f47:=Tryz.func287.trans (congrArg some (by kernel_rfl))
  f48:=Tryz.func288.trans (congrArg some (by kernel_rfl))
  f49:=⟨ "slices.medianAdjacentCmpFunc[fretwork/api.Edge]",by decide,Tryz.func292.trans (congrArg some (by kernel_rfl))⟩
  f50:=⟨ "slices.medianCmpFunc[fretwork/api.Edge]",by decide,Tryz.func293.trans (congrArg some (by kernel_rfl))⟩
  f57:=⟨ "slices.order2CmpFunc[fretwork/api.Edge]",by decide,Tryz.func295.trans (congrArg some (by kernel_rfl))⟩
  t0:=Tryz.underlying0
  a0:=Tryz.isAgg0
  z0:=Tryz.sizeOf0
  v0:=Tryz.zeroValue0
  t3:=Tryz.underlying3
  a3:=Tryz.isAgg3
  z3:=Tryz.sizeOf3
  v3:=Tryz.zeroValue3
  t4:=Tryz.underlying4
  a4:=Tryz.isAgg4
  z4:=Tryz.sizeOf4
  v4:=Tryz.zeroValue4
  t5:=Tryz.underlying5
  a5:=Tryz.isAgg5
  z5:=Tryz.sizeOf5
  v5:=Tryz.zeroValue5
  t9:=Tryz.underlying9
  a9:=Tryz.isAgg9
  z9:=Tryz.sizeOf9
  v9:=Tryz.zeroValue9
  t22:=Tryz.underlying22
  a22:=Tryz.isAgg22
  z22:=Tryz.sizeOf22
  v22:=Tryz.zeroValue22
  t25:=Tryz.underlying255
  a25:=Tryz.isAgg255
  z25:=Tryz.sizeOf255
  v25:=Tryz.zeroValue255
  t39:=Tryz.underlying201
  a39:=Tryz.isAgg201
  z39:=Tryz.sizeOf201
  v39:=Tryz.zeroValue201
  t45:=Tryz.underlying272
  a45:=Tryz.isAgg272
  z45:=Tryz.sizeOf272
  v45:=Tryz.zeroValue272
  t46:=Tryz.underlying273
  a46:=Tryz.isAgg273
  z46:=Tryz.sizeOf273
  v46:=Tryz.zeroValue273
  t50:=Tryz.underlying241
  a50:=Tryz.isAgg241
  z50:=Tryz.sizeOf241
  v50:=Tryz.zeroValue241
  t53:=Tryz.underlying279
  a53:=Tryz.isAgg279
  z53:=Tryz.sizeOf279
  v53:=Tryz.zeroValue279
  t55:=Tryz.underlying125
  a55:=Tryz.isAgg125
  z55:=Tryz.sizeOf125
  v55:=Tryz.zeroValue125
  t66:=Tryz.underlying286
  a66:=Tryz.isAgg286
  z66:=Tryz.sizeOf286
  v66:=Tryz.zeroValue286
  t70:=Tryz.underlying290
  a70:=Tryz.isAgg290
  z70:=Tryz.sizeOf290
  v70:=Tryz.zeroValue290
  t76:=Tryz.underlying294
  a76:=Tryz.isAgg294
  z76:=Tryz.sizeOf294
  v76:=Tryz.zeroValue294
  t77:=Tryz.underlying216
  a77:=Tryz.isAgg216
  z77:=Tryz.sizeOf216
  v77:=Tryz.zeroValue216
end Go.Proofs.YtaefnmlbnkmahaaGreat
