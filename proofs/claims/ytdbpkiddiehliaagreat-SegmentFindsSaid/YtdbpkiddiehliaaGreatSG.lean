/- What segment's functions lean on of the program: the sizes of an entry and of a name are left open. -/
import Derived.Test.YtdbpkiddiehliaaGreatCmpE3
import Derived.Test.YtdbpkiddiehliaaGreatRow
namespace Go.Proofs.YtdbpkiddiehliaaGreat
open Go Go.RowKit Go.Sort
structure SG (P : Program) (k h : Nat) : Prop where
  mixed : P.follows .mixedOrders = true
  se : SE P k
  sc : SC P k h
  hk : k = 35
  hh : h = 32
  etE : ET P 31 54 k 56 (.agg (entC default).toArray)
  iW : (P.info? 28).map (·.size) = some 3
  u_tUnit : P.underlying 0 = some (TypeDesc.tuple #[])
  r_tUnit : ∀ w, (underlying 0).run P w = .ok (TypeDesc.tuple #[]) w
  a_tUnit : ∀ w, Sem.run P (isAgg 0) w = Result.ok false w
  z_tUnit : ∀ w, Sem.run P (Go.sizeOf 0) w = Result.ok 1 w
  v_tUnit : ∀ w, Sem.run P (zeroValue 0) w = Result.ok (Value.tuple #[]) w
  u_tInt : P.underlying 3 = some (TypeDesc.int IntKind.i64)
  r_tInt : ∀ w, (underlying 3).run P w = .ok (TypeDesc.int IntKind.i64) w
  a_tInt : ∀ w, Sem.run P (isAgg 3) w = Result.ok false w
  z_tInt : ∀ w, Sem.run P (Go.sizeOf 3) w = Result.ok 1 w
  v_tInt : ∀ w, Sem.run P (zeroValue 3) w = Result.ok (Value.int IntKind.i64 0) w
  u_tBool : P.underlying 4 = some TypeDesc.bool
  r_tBool : ∀ w, (underlying 4).run P w = .ok TypeDesc.bool w
  a_tBool : ∀ w, Sem.run P (isAgg 4) w = Result.ok false w
  z_tBool : ∀ w, Sem.run P (Go.sizeOf 4) w = Result.ok 1 w
  v_tBool : ∀ w, Sem.run P (zeroValue 4) w = Result.ok (Value.bool false) w
  u_tUint : P.underlying 98 = some (TypeDesc.int IntKind.u64)
  r_tUint : ∀ w, (underlying 98).run P w = .ok (TypeDesc.int IntKind.u64) w
  a_tUint : ∀ w, Sem.run P (isAgg 98) w = Result.ok false w
  z_tUint : ∀ w, Sem.run P (Go.sizeOf 98) w = Result.ok 1 w
  v_tUint : ∀ w, Sem.run P (zeroValue 98) w = Result.ok (Value.int IntKind.u64 0) w
  u_tByte : P.underlying 5 = some (TypeDesc.int IntKind.u8)
  r_tByte : ∀ w, (underlying 5).run P w = .ok (TypeDesc.int IntKind.u8) w
  a_tByte : ∀ w, Sem.run P (isAgg 5) w = Result.ok false w
  z_tByte : ∀ w, Sem.run P (Go.sizeOf 5) w = Result.ok 1 w
  v_tByte : ∀ w, Sem.run P (zeroValue 5) w = Result.ok (Value.int IntKind.u8 0) w
  u_tBytes : P.underlying 49 = some (TypeDesc.slice 5)
  r_tBytes : ∀ w, (underlying 49).run P w = .ok (TypeDesc.slice 5) w
  a_tBytes : ∀ w, Sem.run P (isAgg 49) w = Result.ok false w
  z_tBytes : ∀ w, Sem.run P (Go.sizeOf 49) w = Result.ok 1 w
  v_tBytes : ∀ w, Sem.run P (zeroValue 49) w = Result.ok (Value.slice none 0 0) w
  u_tHash : P.underlying 24 = some (TypeDesc.array 32 5)
  r_tHash : ∀ w, (underlying 24).run P w = .ok (TypeDesc.array 32 5) w
  a_tHash : ∀ w, Sem.run P (isAgg 24) w = Result.ok true w
  z_tHash : ∀ w, (Go.sizeOf 24).run P w = .ok h w
  v_tHash : ∀ w, (zeroValue 24).run P w = .ok (.agg (bcells (default : Nm).1).toArray) w
  u_tWhere : P.underlying 28 = some (TypeDesc.struct #[{ name := "Pack", type := 3, offset := 0, embedded := false, tag := "", pkgPath := "", byteOffset := 0 }, { name := "At", type := 3, offset := 1, embedded := false, tag := "", pkgPath := "", byteOffset := 8 }, { name := "Len", type := 3, offset := 2, embedded := false, tag := "", pkgPath := "", byteOffset := 16 }])
  r_tWhere : ∀ w, (underlying 28).run P w = .ok (TypeDesc.struct #[{ name := "Pack", type := 3, offset := 0, embedded := false, tag := "", pkgPath := "", byteOffset := 0 }, { name := "At", type := 3, offset := 1, embedded := false, tag := "", pkgPath := "", byteOffset := 8 }, { name := "Len", type := 3, offset := 2, embedded := false, tag := "", pkgPath := "", byteOffset := 16 }]) w
  a_tWhere : ∀ w, Sem.run P (isAgg 28) w = Result.ok true w
  z_tWhere : ∀ w, Sem.run P (Go.sizeOf 28) w = Result.ok 3 w
  v_tWhere : ∀ w, Sem.run P (zeroValue 28) w = Result.ok (Value.agg #[Value.int IntKind.i64 0, Value.int IntKind.i64 0, Value.int IntKind.i64 0]) w
  u_tEnt : P.underlying 54 = some (TypeDesc.struct #[{ name := "Name", type := 24, offset := 0, embedded := false, tag := "", pkgPath := "", byteOffset := 0 }, { name := "W", type := 28, offset := 32, embedded := false, tag := "", pkgPath := "", byteOffset := 32 }])
  r_tEnt : ∀ w, (underlying 54).run P w = .ok (TypeDesc.struct #[{ name := "Name", type := 24, offset := 0, embedded := false, tag := "", pkgPath := "", byteOffset := 0 }, { name := "W", type := 28, offset := 32, embedded := false, tag := "", pkgPath := "", byteOffset := 32 }]) w
  a_tEnt : ∀ w, Sem.run P (isAgg 54) w = Result.ok true w
  z_tEnt : ∀ w, (Go.sizeOf 54).run P w = .ok k w
  v_tEnt : ∀ w, (zeroValue 54).run P w = .ok (.agg (entC default).toArray) w
  u_tREnt : P.underlying 61 = some (TypeDesc.struct #[{ name := "Name", type := 24, offset := 0, embedded := false, tag := "", pkgPath := "", byteOffset := 0 }, { name := "W", type := 33, offset := 32, embedded := false, tag := "", pkgPath := "", byteOffset := 32 }])
  r_tREnt : ∀ w, (underlying 61).run P w = .ok (TypeDesc.struct #[{ name := "Name", type := 24, offset := 0, embedded := false, tag := "", pkgPath := "", byteOffset := 0 }, { name := "W", type := 33, offset := 32, embedded := false, tag := "", pkgPath := "", byteOffset := 32 }]) w
  a_tREnt : ∀ w, Sem.run P (isAgg 61) w = Result.ok true w
  z_tREnt : ∀ w, (Go.sizeOf 61).run P w = .ok k w
  v_tREnt : ∀ w, (zeroValue 61).run P w = .ok (.agg (entC default).toArray) w
  u_tRWhere : P.underlying 33 = some (TypeDesc.struct #[{ name := "Pack", type := 3, offset := 0, embedded := false, tag := "", pkgPath := "", byteOffset := 0 }, { name := "At", type := 3, offset := 1, embedded := false, tag := "", pkgPath := "", byteOffset := 8 }, { name := "Len", type := 3, offset := 2, embedded := false, tag := "", pkgPath := "", byteOffset := 16 }])
  r_tRWhere : ∀ w, (underlying 33).run P w = .ok (TypeDesc.struct #[{ name := "Pack", type := 3, offset := 0, embedded := false, tag := "", pkgPath := "", byteOffset := 0 }, { name := "At", type := 3, offset := 1, embedded := false, tag := "", pkgPath := "", byteOffset := 8 }, { name := "Len", type := 3, offset := 2, embedded := false, tag := "", pkgPath := "", byteOffset := 16 }]) w
  a_tRWhere : ∀ w, Sem.run P (isAgg 33) w = Result.ok true w
  z_tRWhere : ∀ w, Sem.run P (Go.sizeOf 33) w = Result.ok 3 w
  v_tRWhere : ∀ w, Sem.run P (zeroValue 33) w = Result.ok (Value.agg #[Value.int IntKind.i64 0, Value.int IntKind.i64 0, Value.int IntKind.i64 0]) w
  u_tEnts : P.underlying 31 = some (TypeDesc.slice 54)
  r_tEnts : ∀ w, (underlying 31).run P w = .ok (TypeDesc.slice 54) w
  a_tEnts : ∀ w, Sem.run P (isAgg 31) w = Result.ok false w
  z_tEnts : ∀ w, Sem.run P (Go.sizeOf 31) w = Result.ok 1 w
  v_tEnts : ∀ w, Sem.run P (zeroValue 31) w = Result.ok (Value.slice none 0 0) w
  u_tREnts : P.underlying 22 = some (TypeDesc.slice 61)
  r_tREnts : ∀ w, (underlying 22).run P w = .ok (TypeDesc.slice 61) w
  a_tREnts : ∀ w, Sem.run P (isAgg 22) w = Result.ok false w
  z_tREnts : ∀ w, Sem.run P (Go.sizeOf 22) w = Result.ok 1 w
  v_tREnts : ∀ w, Sem.run P (zeroValue 22) w = Result.ok (Value.slice none 0 0) w
  u_tEntss : P.underlying 104 = some (TypeDesc.slice 31)
  r_tEntss : ∀ w, (underlying 104).run P w = .ok (TypeDesc.slice 31) w
  a_tEntss : ∀ w, Sem.run P (isAgg 104) w = Result.ok false w
  z_tEntss : ∀ w, Sem.run P (Go.sizeOf 104) w = Result.ok 1 w
  v_tEntss : ∀ w, Sem.run P (zeroValue 104) w = Result.ok (Value.slice none 0 0) w
  u_tCmpE : P.underlying 101 = some (TypeDesc.func #[54, 54] #[3] false)
  r_tCmpE : ∀ w, (underlying 101).run P w = .ok (TypeDesc.func #[54, 54] #[3] false) w
  a_tCmpE : ∀ w, Sem.run P (isAgg 101) w = Result.ok false w
  z_tCmpE : ∀ w, Sem.run P (Go.sizeOf 101) w = Result.ok 1 w
  v_tCmpE : ∀ w, Sem.run P (zeroValue 101) w = Result.ok Value.nilFunc w
  u_tEqE : P.underlying 103 = some (TypeDesc.func #[54, 54] #[4] false)
  r_tEqE : ∀ w, (underlying 103).run P w = .ok (TypeDesc.func #[54, 54] #[4] false) w
  a_tEqE : ∀ w, Sem.run P (isAgg 103) w = Result.ok false w
  z_tEqE : ∀ w, Sem.run P (Go.sizeOf 103) w = Result.ok 1 w
  v_tEqE : ∀ w, Sem.run P (zeroValue 103) w = Result.ok Value.nilFunc w
  u_tAgainst : P.underlying 58 = some (TypeDesc.func #[54, 24] #[3] false)
  r_tAgainst : ∀ w, (underlying 58).run P w = .ok (TypeDesc.func #[54, 24] #[3] false) w
  a_tAgainst : ∀ w, Sem.run P (isAgg 58) w = Result.ok false w
  z_tAgainst : ∀ w, Sem.run P (Go.sizeOf 58) w = Result.ok 1 w
  v_tAgainst : ∀ w, Sem.run P (zeroValue 58) w = Result.ok Value.nilFunc w
  u_tIntBool : P.underlying 56 = some (TypeDesc.tuple #[3, 4])
  r_tIntBool : ∀ w, (underlying 56).run P w = .ok (TypeDesc.tuple #[3, 4]) w
  a_tIntBool : ∀ w, Sem.run P (isAgg 56) w = Result.ok false w
  z_tIntBool : ∀ w, Sem.run P (Go.sizeOf 56) w = Result.ok 1 w
  v_tIntBool : ∀ w, Sem.run P (zeroValue 56) w = Result.ok (Value.tuple #[Value.int IntKind.i64 0, Value.bool false]) w
  u_tWhereBool : P.underlying 29 = some (TypeDesc.tuple #[28, 4])
  r_tWhereBool : ∀ w, (underlying 29).run P w = .ok (TypeDesc.tuple #[28, 4]) w
  a_tWhereBool : ∀ w, Sem.run P (isAgg 29) w = Result.ok false w
  z_tWhereBool : ∀ w, Sem.run P (Go.sizeOf 29) w = Result.ok 1 w
  v_tWhereBool : ∀ w, Sem.run P (zeroValue 29) w = Result.ok (Value.tuple #[Value.agg #[Value.int IntKind.i64 0, Value.int IntKind.i64 0, Value.int IntKind.i64 0], Value.bool false]) w
  f_segRight : P.funcs[20]? = some Tryz.f20
  f_segRightE : P.funcs[36]? = some Tryz.f36
  f_segSort : P.funcs[24]? = some Tryz.f24
  f_segFind : P.funcs[5]? = some Tryz.f5
  f_segJoin : P.funcs[11]? = some Tryz.f11
  f_cloneE : P.funcs[28]? = some Tryz.f28
  f_compactE : P.funcs[40]? = some Tryz.f40
  f_concatE : P.funcs[25]? = some Tryz.f25
  f_growE : P.funcs[42]? = some Tryz.f42
  f_searchE : P.funcs[21]? = some Tryz.f21
  f_l10Own : P.funcs[6]? = some Tryz.f6
  f_l10Back : P.funcs[10]? = some Tryz.f10
  f_l10Where : P.funcs[8]? = some Tryz.f8
  f_r10Same : P.funcs[9]? = some Tryz.f9
  f_sortStE : P.funcs[39]? = some Tryz.f39
  f_sortEq : P.funcs[41]? = some Tryz.f41
  f_segCompare : P.funcs[37]? = some Tryz.f37
  f_segAgainst : P.funcs[22]? = some Tryz.f22
theorem sg : SG Tryz.prog 35 32 := {
  mixed := by kernel_rfl
  se := se
  sc := sc
  hk := rfl
  hh := rfl
  etE := ⟨Tryz.underlying31, by kernel_rfl, by kernel_rfl, by decide, by decide⟩
  iW := by kernel_rfl
  u_tUnit := Tryz.underlying0
  r_tUnit := fun w => run_underlying Tryz.underlying0 w
  a_tUnit := Tryz.isAgg0
  z_tUnit := Tryz.sizeOf0
  v_tUnit := Tryz.zeroValue0
  u_tInt := Tryz.underlying3
  r_tInt := fun w => run_underlying Tryz.underlying3 w
  a_tInt := Tryz.isAgg3
  z_tInt := Tryz.sizeOf3
  v_tInt := Tryz.zeroValue3
  u_tBool := Tryz.underlying4
  r_tBool := fun w => run_underlying Tryz.underlying4 w
  a_tBool := Tryz.isAgg4
  z_tBool := Tryz.sizeOf4
  v_tBool := Tryz.zeroValue4
  u_tUint := Tryz.underlying98
  r_tUint := fun w => run_underlying Tryz.underlying98 w
  a_tUint := Tryz.isAgg98
  z_tUint := Tryz.sizeOf98
  v_tUint := Tryz.zeroValue98
  u_tByte := Tryz.underlying5
  r_tByte := fun w => run_underlying Tryz.underlying5 w
  a_tByte := Tryz.isAgg5
  z_tByte := Tryz.sizeOf5
  v_tByte := Tryz.zeroValue5
  u_tBytes := Tryz.underlying49
  r_tBytes := fun w => run_underlying Tryz.underlying49 w
  a_tBytes := Tryz.isAgg49
  z_tBytes := Tryz.sizeOf49
  v_tBytes := Tryz.zeroValue49
  u_tHash := Tryz.underlying24
  r_tHash := fun w => run_underlying Tryz.underlying24 w
  a_tHash := Tryz.isAgg24
  z_tHash := Tryz.sizeOf24
  v_tHash := fun w => (Tryz.zeroValue24 w).trans (by kernel_rfl)
  u_tWhere := Tryz.underlying28
  r_tWhere := fun w => run_underlying Tryz.underlying28 w
  a_tWhere := Tryz.isAgg28
  z_tWhere := Tryz.sizeOf28
  v_tWhere := Tryz.zeroValue28
  u_tEnt := Tryz.underlying54
  r_tEnt := fun w => run_underlying Tryz.underlying54 w
  a_tEnt := Tryz.isAgg54
  z_tEnt := Tryz.sizeOf54
  v_tEnt := fun w => (Tryz.zeroValue54 w).trans (by kernel_rfl)
  u_tREnt := Tryz.underlying61
  r_tREnt := fun w => run_underlying Tryz.underlying61 w
  a_tREnt := Tryz.isAgg61
  z_tREnt := Tryz.sizeOf61
  v_tREnt := fun w => (Tryz.zeroValue61 w).trans (by kernel_rfl)
  u_tRWhere := Tryz.underlying33
  r_tRWhere := fun w => run_underlying Tryz.underlying33 w
  a_tRWhere := Tryz.isAgg33
  z_tRWhere := Tryz.sizeOf33
  v_tRWhere := Tryz.zeroValue33
  u_tEnts := Tryz.underlying31
  r_tEnts := fun w => run_underlying Tryz.underlying31 w
  a_tEnts := Tryz.isAgg31
  z_tEnts := Tryz.sizeOf31
  v_tEnts := Tryz.zeroValue31
  u_tREnts := Tryz.underlying22
  r_tREnts := fun w => run_underlying Tryz.underlying22 w
  a_tREnts := Tryz.isAgg22
  z_tREnts := Tryz.sizeOf22
  v_tREnts := Tryz.zeroValue22
  u_tEntss := Tryz.underlying104
  r_tEntss := fun w => run_underlying Tryz.underlying104 w
  a_tEntss := Tryz.isAgg104
  z_tEntss := Tryz.sizeOf104
  v_tEntss := Tryz.zeroValue104
  u_tCmpE := Tryz.underlying101
  r_tCmpE := fun w => run_underlying Tryz.underlying101 w
  a_tCmpE := Tryz.isAgg101
  z_tCmpE := Tryz.sizeOf101
  v_tCmpE := Tryz.zeroValue101
  u_tEqE := Tryz.underlying103
  r_tEqE := fun w => run_underlying Tryz.underlying103 w
  a_tEqE := Tryz.isAgg103
  z_tEqE := Tryz.sizeOf103
  v_tEqE := Tryz.zeroValue103
  u_tAgainst := Tryz.underlying58
  r_tAgainst := fun w => run_underlying Tryz.underlying58 w
  a_tAgainst := Tryz.isAgg58
  z_tAgainst := Tryz.sizeOf58
  v_tAgainst := Tryz.zeroValue58
  u_tIntBool := Tryz.underlying56
  r_tIntBool := fun w => run_underlying Tryz.underlying56 w
  a_tIntBool := Tryz.isAgg56
  z_tIntBool := Tryz.sizeOf56
  v_tIntBool := Tryz.zeroValue56
  u_tWhereBool := Tryz.underlying29
  r_tWhereBool := fun w => run_underlying Tryz.underlying29 w
  a_tWhereBool := Tryz.isAgg29
  z_tWhereBool := Tryz.sizeOf29
  v_tWhereBool := Tryz.zeroValue29
  f_segRight := Tryz.func20
  f_segRightE := Tryz.func36
  f_segSort := Tryz.func24
  f_segFind := Tryz.func5
  f_segJoin := Tryz.func11
  f_cloneE := Tryz.func28
  f_compactE := Tryz.func40
  f_concatE := Tryz.func25
  f_growE := Tryz.func42
  f_searchE := Tryz.func21
  f_l10Own := Tryz.func6
  f_l10Back := Tryz.func10
  f_l10Where := Tryz.func8
  f_r10Same := Tryz.func9
  f_sortStE := Tryz.func39
  f_sortEq := Tryz.func41
  f_segCompare := Tryz.func37
  f_segAgainst := Tryz.func22
  }
end Go.Proofs.YtdbpkiddiehliaaGreat
