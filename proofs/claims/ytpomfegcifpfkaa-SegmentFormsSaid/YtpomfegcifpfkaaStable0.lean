/- What the stable sort at segment's entries leans on of the program, so that it can be walked with the size of an entry left open. -/
import Derived.Test.YtpomfegcifpfkaaProg
import Derived.Test.YtpomfegcifpfkaaPureSeg
import Derived.Shelf.SlSortCmp.KitK
import Derived.Shelf.SlSortFuncK.SWK
import Derived.Sort.WalkB2
import Derived.Sort.WalkB12
import Derived.Deep.LoopGhost
import Derived.WalkKit
import Derived.BigRegion
import Derived.Test.YtpomfegcifpfkaaBase
namespace Go.Proofs.Ytpomfegcifpfkaa
open Go Go.RowKit Go.Sort
structure SE (P : Program) (k : Nat) : Prop where
  mixed : P.follows .mixedOrders = true
  f1 : P.funcs[37]? = some Try.f37
  f2 : P.funcs[55]? = some Try.f55
  f3 : P.funcs[63]? = some Try.f63
  f4 : P.funcs[64]? = some Try.f64
  f5 : P.funcs[68]? = some Try.f68
  f6 : P.funcs[72]? = some Try.f72
  t0 : P.underlying 0 = some (TypeDesc.tuple #[])
  a0 : ∀ w, (isAgg 0).run P w = .ok false w
  z0 : ∀ w, (Go.sizeOf 0).run P w = .ok 1 w
  v0 : ∀ w, (zeroValue 0).run P w = .ok (Value.tuple #[]) w
  ti : P.underlying 3 = some (TypeDesc.int IntKind.i64)
  ai : ∀ w, (isAgg 3).run P w = .ok false w
  zi : ∀ w, (Go.sizeOf 3).run P w = .ok 1 w
  vi : ∀ w, (zeroValue 3).run P w = .ok (Value.int IntKind.i64 0) w
  tu : P.underlying 114 = some (TypeDesc.int IntKind.u64)
  au : ∀ w, (isAgg 114).run P w = .ok false w
  zu : ∀ w, (Go.sizeOf 114).run P w = .ok 1 w
  vu : ∀ w, (zeroValue 114).run P w = .ok (Value.int IntKind.u64 0) w
  tb : P.underlying 4 = some (TypeDesc.bool)
  ab : ∀ w, (isAgg 4).run P w = .ok false w
  zb : ∀ w, (Go.sizeOf 4).run P w = .ok 1 w
  vb : ∀ w, (zeroValue 4).run P w = .ok (Value.bool false) w
  ts : P.underlying 30 = some (TypeDesc.slice 50)
  az : ∀ w, (isAgg 30).run P w = .ok false w
  zs : ∀ w, (Go.sizeOf 30).run P w = .ok 1 w
  vs : ∀ w, (zeroValue 30).run P w = .ok (Value.slice none 0 0) w
  tf : P.underlying 99 = some (TypeDesc.func #[50, 50] #[3] false)
  af : ∀ w, (isAgg 99).run P w = .ok false w
  zf : ∀ w, (Go.sizeOf 99).run P w = .ok 1 w
  vf : ∀ w, (zeroValue 99).run P w = .ok (Value.nilFunc) w
  aE : ∀ w, (isAgg 50).run P w = .ok true w
  zE : ∀ w, (Go.sizeOf 50).run P w = .ok k w
theorem se : SE Try.prog 35 := {
  mixed := by kernel_rfl
  f1 := Try.func37
  f2 := Try.func55
  f3 := Try.func63
  f4 := Try.func64
  f5 := Try.func68
  f6 := Try.func72
  t0 := Try.underlying0
  a0 := Try.isAgg0
  z0 := Try.sizeOf0
  v0 := Try.zeroValue0
  ti := Try.underlying3
  ai := Try.isAgg3
  zi := Try.sizeOf3
  vi := Try.zeroValue3
  tu := Try.underlying114
  au := Try.isAgg114
  zu := Try.sizeOf114
  vu := Try.zeroValue114
  tb := Try.underlying4
  ab := Try.isAgg4
  zb := Try.sizeOf4
  vb := Try.zeroValue4
  ts := Try.underlying30
  az := Try.isAgg30
  zs := Try.sizeOf30
  vs := Try.zeroValue30
  tf := Try.underlying99
  af := Try.isAgg99
  zf := Try.sizeOf99
  vf := Try.zeroValue99
  aE := Try.isAgg50
  zE := Try.sizeOf50 }
end Go.Proofs.Ytpomfegcifpfkaa
