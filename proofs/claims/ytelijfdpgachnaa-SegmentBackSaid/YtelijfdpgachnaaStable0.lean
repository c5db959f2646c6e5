/- What the stable sort at segment's entries leans on of the program, so that it can be walked with the size of an entry left open. -/
import Derived.Test.YtelijfdpgachnaaProg
import Derived.Test.YtelijfdpgachnaaPureSeg
import Derived.Shelf.SlSortCmp.KitK
import Derived.Shelf.SlSortFuncK.SWK
import Derived.Sort.WalkB2
import Derived.Sort.WalkB12
import Derived.Deep.LoopGhost
import Derived.WalkKit
import Derived.BigRegion
import Derived.Test.YtelijfdpgachnaaBase
namespace Go.Proofs.Ytelijfdpgachnaa
open Go Go.RowKit Go.Sort
structure SE (P : Program) (k : Nat) : Prop where
  mixed : P.follows .mixedOrders = true
  f1 : P.funcs[67]? = some Try.f67
  f2 : P.funcs[118]? = some Try.f118
  f3 : P.funcs[144]? = some Try.f144
  f4 : P.funcs[145]? = some Try.f145
  f5 : P.funcs[155]? = some Try.f155
  f6 : P.funcs[169]? = some Try.f169
  t0 : P.underlying 0 = some (TypeDesc.tuple #[])
  a0 : ∀ w, (isAgg 0).run P w = .ok false w
  z0 : ∀ w, (Go.sizeOf 0).run P w = .ok 1 w
  v0 : ∀ w, (zeroValue 0).run P w = .ok (Value.tuple #[]) w
  ti : P.underlying 3 = some (TypeDesc.int IntKind.i64)
  ai : ∀ w, (isAgg 3).run P w = .ok false w
  zi : ∀ w, (Go.sizeOf 3).run P w = .ok 1 w
  vi : ∀ w, (zeroValue 3).run P w = .ok (Value.int IntKind.i64 0) w
  tu : P.underlying 183 = some (TypeDesc.int IntKind.u64)
  au : ∀ w, (isAgg 183).run P w = .ok false w
  zu : ∀ w, (Go.sizeOf 183).run P w = .ok 1 w
  vu : ∀ w, (zeroValue 183).run P w = .ok (Value.int IntKind.u64 0) w
  tb : P.underlying 4 = some (TypeDesc.bool)
  ab : ∀ w, (isAgg 4).run P w = .ok false w
  zb : ∀ w, (Go.sizeOf 4).run P w = .ok 1 w
  vb : ∀ w, (zeroValue 4).run P w = .ok (Value.bool false) w
  ts : P.underlying 30 = some (TypeDesc.slice 54)
  az : ∀ w, (isAgg 30).run P w = .ok false w
  zs : ∀ w, (Go.sizeOf 30).run P w = .ok 1 w
  vs : ∀ w, (zeroValue 30).run P w = .ok (Value.slice none 0 0) w
  tf : P.underlying 137 = some (TypeDesc.func #[54, 54] #[3] false)
  af : ∀ w, (isAgg 137).run P w = .ok false w
  zf : ∀ w, (Go.sizeOf 137).run P w = .ok 1 w
  vf : ∀ w, (zeroValue 137).run P w = .ok (Value.nilFunc) w
  aE : ∀ w, (isAgg 54).run P w = .ok true w
  zE : ∀ w, (Go.sizeOf 54).run P w = .ok k w
theorem se : SE Try.prog 35 := {
  mixed := by kernel_rfl
  f1 := Try.func67
  f2 := Try.func118
  f3 := Try.func144
  f4 := Try.func145
  f5 := Try.func155
  f6 := Try.func169
  t0 := Try.underlying0
  a0 := Try.isAgg0
  z0 := Try.sizeOf0
  v0 := Try.zeroValue0
  ti := Try.underlying3
  ai := Try.isAgg3
  zi := Try.sizeOf3
  vi := Try.zeroValue3
  tu := Try.underlying183
  au := Try.isAgg183
  zu := Try.sizeOf183
  vu := Try.zeroValue183
  tb := Try.underlying4
  ab := Try.isAgg4
  zb := Try.sizeOf4
  vb := Try.zeroValue4
  ts := Try.underlying30
  az := Try.isAgg30
  zs := Try.sizeOf30
  vs := Try.zeroValue30
  tf := Try.underlying137
  af := Try.isAgg137
  zf := Try.sizeOf137
  vf := Try.zeroValue137
  aE := Try.isAgg54
  zE := Try.sizeOf54 }
end Go.Proofs.Ytelijfdpgachnaa
