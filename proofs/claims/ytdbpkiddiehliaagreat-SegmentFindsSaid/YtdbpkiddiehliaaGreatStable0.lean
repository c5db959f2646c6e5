/- What the stable sort at segment's entries leans on of the program, so that it can be walked with the size of an entry left open. -/
import Derived.Test.YtdbpkiddiehliaaGreatProg
import Derived.Test.YtdbpkiddiehliaaGreatPureSeg
import Derived.Shelf.SlSortCmp.KitK
import Derived.Shelf.SlSortFuncK.SWK
import Derived.Sort.WalkB2
import Derived.Sort.WalkB12
import Derived.Deep.LoopGhost
import Derived.WalkKit
import Derived.BigRegion
import Derived.Test.YtdbpkiddiehliaaGreatBase
namespace Go.Proofs.YtdbpkiddiehliaaGreat
open Go Go.RowKit Go.Sort
structure SE (P : Program) (k : Nat) : Prop where
  mixed : P.follows .mixedOrders = true
  f1 : P.funcs[39]? = some Tryz.f39
  f2 : P.funcs[54]? = some Tryz.f54
  f3 : P.funcs[69]? = some Tryz.f69
  f4 : P.funcs[70]? = some Tryz.f70
  f5 : P.funcs[79]? = some Tryz.f79
  f6 : P.funcs[84]? = some Tryz.f84
  t0 : P.underlying 0 = some (TypeDesc.tuple #[])
  a0 : ∀ w, (isAgg 0).run P w = .ok false w
  z0 : ∀ w, (Go.sizeOf 0).run P w = .ok 1 w
  v0 : ∀ w, (zeroValue 0).run P w = .ok (Value.tuple #[]) w
  ti : P.underlying 3 = some (TypeDesc.int IntKind.i64)
  ai : ∀ w, (isAgg 3).run P w = .ok false w
  zi : ∀ w, (Go.sizeOf 3).run P w = .ok 1 w
  vi : ∀ w, (zeroValue 3).run P w = .ok (Value.int IntKind.i64 0) w
  tu : P.underlying 98 = some (TypeDesc.int IntKind.u64)
  au : ∀ w, (isAgg 98).run P w = .ok false w
  zu : ∀ w, (Go.sizeOf 98).run P w = .ok 1 w
  vu : ∀ w, (zeroValue 98).run P w = .ok (Value.int IntKind.u64 0) w
  tb : P.underlying 4 = some (TypeDesc.bool)
  ab : ∀ w, (isAgg 4).run P w = .ok false w
  zb : ∀ w, (Go.sizeOf 4).run P w = .ok 1 w
  vb : ∀ w, (zeroValue 4).run P w = .ok (Value.bool false) w
  ts : P.underlying 31 = some (TypeDesc.slice 54)
  az : ∀ w, (isAgg 31).run P w = .ok false w
  zs : ∀ w, (Go.sizeOf 31).run P w = .ok 1 w
  vs : ∀ w, (zeroValue 31).run P w = .ok (Value.slice none 0 0) w
  tf : P.underlying 101 = some (TypeDesc.func #[54, 54] #[3] false)
  af : ∀ w, (isAgg 101).run P w = .ok false w
  zf : ∀ w, (Go.sizeOf 101).run P w = .ok 1 w
  vf : ∀ w, (zeroValue 101).run P w = .ok (Value.nilFunc) w
  aE : ∀ w, (isAgg 54).run P w = .ok true w
  zE : ∀ w, (Go.sizeOf 54).run P w = .ok k w
theorem se : SE Tryz.prog 35 := {
  mixed := by kernel_rfl
  f1 := Tryz.func39
  f2 := Tryz.func54
  f3 := Tryz.func69
  f4 := Tryz.func70
  f5 := Tryz.func79
  f6 := Tryz.func84
  t0 := Tryz.underlying0
  a0 := Tryz.isAgg0
  z0 := Tryz.sizeOf0
  v0 := Tryz.zeroValue0
  ti := Tryz.underlying3
  ai := Tryz.isAgg3
  zi := Tryz.sizeOf3
  vi := Tryz.zeroValue3
  tu := Tryz.underlying98
  au := Tryz.isAgg98
  zu := Tryz.sizeOf98
  vu := Tryz.zeroValue98
  tb := Tryz.underlying4
  ab := Tryz.isAgg4
  zb := Tryz.sizeOf4
  vb := Tryz.zeroValue4
  ts := Tryz.underlying31
  az := Tryz.isAgg31
  zs := Tryz.sizeOf31
  vs := Tryz.zeroValue31
  tf := Tryz.underlying101
  af := Tryz.isAgg101
  zf := Tryz.sizeOf101
  vf := Tryz.zeroValue101
  aE := Tryz.isAgg54
  zE := Tryz.sizeOf54 }
end Go.Proofs.YtdbpkiddiehliaaGreat
