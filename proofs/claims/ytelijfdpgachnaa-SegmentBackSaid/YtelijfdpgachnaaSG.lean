/- What segment's functions lean on of the program: the sizes of an entry and of a name are left open. -/
import Derived.Test.YtelijfdpgachnaaCmpE3
import Derived.Test.YtelijfdpgachnaaRow
namespace Go.Proofs.Ytelijfdpgachnaa
open Go Go.RowKit Go.Sort
structure SG (P : Program) (k h : Nat) : Prop where
  mixed : P.follows .mixedOrders = true
  se : SE P k
  sc : SC P k h
  hk : k = 35
  hh : h = 32
  etE : ET P 30 54 k 56 (.agg (entC default).toArray)
  iW : (P.info? 48).map (·.size) = some 3
  u_tUnit : P.underlying 0 = some (TypeDesc.tuple #[])
  r_tUnit : ∀ w, (underlying 0).run P w = .ok (TypeDesc.tuple #[]) w
  a_tUnit : ∀ w, Sem.run P (isAgg 0) w = Result.ok false w
  z_tUnit : ∀ w, Sem.run P (Go.sizeOf 0) w = Result.ok 1 w
  v_tUnit : ∀ w, Sem.run P (zeroValue 0) w = Result.ok (Value.tuple #[]) w
  u_tInt : P.underlying 3 = some (TypeDesc.int IntKind.i64)
  r_tInt : ∀ w, (underlying 3).run P w = .ok (TypeDesc.int IntKind.i64) w
  a_tInt : ∀ w, Sem.run P (isAgg 3) w = Result.ok false w
  z_tInt : ∀ w, Sem.run P (Go.sizeOf 3) w = Result.ok 1 w
  v_tInt : ∀ w, Sem.run P (zeroValue 3) w = Result.ok (Value.int IntKind.i64 0) w
  u_tBool : P.underlying 4 = some TypeDesc.bool
  r_tBool : ∀ w, (underlying 4).run P w = .ok TypeDesc.bool w
  a_tBool : ∀ w, Sem.run P (isAgg 4) w = Result.ok false w
  z_tBool : ∀ w, Sem.run P (Go.sizeOf 4) w = Result.ok 1 w
  v_tBool : ∀ w, Sem.run P (zeroValue 4) w = Result.ok (Value.bool false) w
  u_tUint : P.underlying 183 = some (TypeDesc.int IntKind.u64)
  r_tUint : ∀ w, (underlying 183).run P w = .ok (TypeDesc.int IntKind.u64) w
  a_tUint : ∀ w, Sem.run P (isAgg 183) w = Result.ok false w
  z_tUint : ∀ w, Sem.run P (Go.sizeOf 183) w = Result.ok 1 w
  v_tUint : ∀ w, Sem.run P (zeroValue 183) w = Result.ok (Value.int IntKind.u64 0) w
  u_tByte : P.underlying 5 = some (TypeDesc.int IntKind.u8)
  r_tByte : ∀ w, (underlying 5).run P w = .ok (TypeDesc.int IntKind.u8) w
  a_tByte : ∀ w, Sem.run P (isAgg 5) w = Result.ok false w
  z_tByte : ∀ w, Sem.run P (Go.sizeOf 5) w = Result.ok 1 w
  v_tByte : ∀ w, Sem.run P (zeroValue 5) w = Result.ok (Value.int IntKind.u8 0) w
  u_tBytes : P.underlying 23 = some (TypeDesc.slice 5)
  r_tBytes : ∀ w, (underlying 23).run P w = .ok (TypeDesc.slice 5) w
  a_tBytes : ∀ w, Sem.run P (isAgg 23) w = Result.ok false w
  z_tBytes : ∀ w, Sem.run P (Go.sizeOf 23) w = Result.ok 1 w
  v_tBytes : ∀ w, Sem.run P (zeroValue 23) w = Result.ok (Value.slice none 0 0) w
  u_tHash : P.underlying 52 = some (TypeDesc.array 32 5)
  r_tHash : ∀ w, (underlying 52).run P w = .ok (TypeDesc.array 32 5) w
  a_tHash : ∀ w, Sem.run P (isAgg 52) w = Result.ok true w
  z_tHash : ∀ w, (Go.sizeOf 52).run P w = .ok h w
  v_tHash : ∀ w, (zeroValue 52).run P w = .ok (.agg (bcells (default : Nm).1).toArray) w
  u_tWhere : P.underlying 48 = some (TypeDesc.struct #[{ name := "Pack", type := 3, offset := 0, embedded := false, tag := "", pkgPath := "", byteOffset := 0 }, { name := "At", type := 3, offset := 1, embedded := false, tag := "", pkgPath := "", byteOffset := 8 }, { name := "Len", type := 3, offset := 2, embedded := false, tag := "", pkgPath := "", byteOffset := 16 }])
  r_tWhere : ∀ w, (underlying 48).run P w = .ok (TypeDesc.struct #[{ name := "Pack", type := 3, offset := 0, embedded := false, tag := "", pkgPath := "", byteOffset := 0 }, { name := "At", type := 3, offset := 1, embedded := false, tag := "", pkgPath := "", byteOffset := 8 }, { name := "Len", type := 3, offset := 2, embedded := false, tag := "", pkgPath := "", byteOffset := 16 }]) w
  a_tWhere : ∀ w, Sem.run P (isAgg 48) w = Result.ok true w
  z_tWhere : ∀ w, Sem.run P (Go.sizeOf 48) w = Result.ok 3 w
  v_tWhere : ∀ w, Sem.run P (zeroValue 48) w = Result.ok (Value.agg #[Value.int IntKind.i64 0, Value.int IntKind.i64 0, Value.int IntKind.i64 0]) w
  u_tEnt : P.underlying 54 = some (TypeDesc.struct #[{ name := "Name", type := 52, offset := 0, embedded := false, tag := "", pkgPath := "", byteOffset := 0 }, { name := "W", type := 48, offset := 32, embedded := false, tag := "", pkgPath := "", byteOffset := 32 }])
  r_tEnt : ∀ w, (underlying 54).run P w = .ok (TypeDesc.struct #[{ name := "Name", type := 52, offset := 0, embedded := false, tag := "", pkgPath := "", byteOffset := 0 }, { name := "W", type := 48, offset := 32, embedded := false, tag := "", pkgPath := "", byteOffset := 32 }]) w
  a_tEnt : ∀ w, Sem.run P (isAgg 54) w = Result.ok true w
  z_tEnt : ∀ w, (Go.sizeOf 54).run P w = .ok k w
  v_tEnt : ∀ w, (zeroValue 54).run P w = .ok (.agg (entC default).toArray) w
  u_tREnt : P.underlying 119 = some (TypeDesc.struct #[{ name := "Name", type := 52, offset := 0, embedded := false, tag := "", pkgPath := "", byteOffset := 0 }, { name := "W", type := 117, offset := 32, embedded := false, tag := "", pkgPath := "", byteOffset := 32 }])
  r_tREnt : ∀ w, (underlying 119).run P w = .ok (TypeDesc.struct #[{ name := "Name", type := 52, offset := 0, embedded := false, tag := "", pkgPath := "", byteOffset := 0 }, { name := "W", type := 117, offset := 32, embedded := false, tag := "", pkgPath := "", byteOffset := 32 }]) w
  a_tREnt : ∀ w, Sem.run P (isAgg 119) w = Result.ok true w
  z_tREnt : ∀ w, (Go.sizeOf 119).run P w = .ok k w
  v_tREnt : ∀ w, (zeroValue 119).run P w = .ok (.agg (entC default).toArray) w
  u_tRWhere : P.underlying 117 = some (TypeDesc.struct #[{ name := "Pack", type := 3, offset := 0, embedded := false, tag := "", pkgPath := "", byteOffset := 0 }, { name := "At", type := 3, offset := 1, embedded := false, tag := "", pkgPath := "", byteOffset := 8 }, { name := "Len", type := 3, offset := 2, embedded := false, tag := "", pkgPath := "", byteOffset := 16 }])
  r_tRWhere : ∀ w, (underlying 117).run P w = .ok (TypeDesc.struct #[{ name := "Pack", type := 3, offset := 0, embedded := false, tag := "", pkgPath := "", byteOffset := 0 }, { name := "At", type := 3, offset := 1, embedded := false, tag := "", pkgPath := "", byteOffset := 8 }, { name := "Len", type := 3, offset := 2, embedded := false, tag := "", pkgPath := "", byteOffset := 16 }]) w
  a_tRWhere : ∀ w, Sem.run P (isAgg 117) w = Result.ok true w
  z_tRWhere : ∀ w, Sem.run P (Go.sizeOf 117) w = Result.ok 3 w
  v_tRWhere : ∀ w, Sem.run P (zeroValue 117) w = Result.ok (Value.agg #[Value.int IntKind.i64 0, Value.int IntKind.i64 0, Value.int IntKind.i64 0]) w
  u_tEnts : P.underlying 30 = some (TypeDesc.slice 54)
  r_tEnts : ∀ w, (underlying 30).run P w = .ok (TypeDesc.slice 54) w
  a_tEnts : ∀ w, Sem.run P (isAgg 30) w = Result.ok false w
  z_tEnts : ∀ w, Sem.run P (Go.sizeOf 30) w = Result.ok 1 w
  v_tEnts : ∀ w, Sem.run P (zeroValue 30) w = Result.ok (Value.slice none 0 0) w
  u_tREnts : P.underlying 22 = some (TypeDesc.slice 119)
  r_tREnts : ∀ w, (underlying 22).run P w = .ok (TypeDesc.slice 119) w
  a_tREnts : ∀ w, Sem.run P (isAgg 22) w = Result.ok false w
  z_tREnts : ∀ w, Sem.run P (Go.sizeOf 22) w = Result.ok 1 w
  v_tREnts : ∀ w, Sem.run P (zeroValue 22) w = Result.ok (Value.slice none 0 0) w
  u_tEntss : P.underlying 194 = some (TypeDesc.slice 30)
  r_tEntss : ∀ w, (underlying 194).run P w = .ok (TypeDesc.slice 30) w
  a_tEntss : ∀ w, Sem.run P (isAgg 194) w = Result.ok false w
  z_tEntss : ∀ w, Sem.run P (Go.sizeOf 194) w = Result.ok 1 w
  v_tEntss : ∀ w, Sem.run P (zeroValue 194) w = Result.ok (Value.slice none 0 0) w
  u_tCmpE : P.underlying 137 = some (TypeDesc.func #[54, 54] #[3] false)
  r_tCmpE : ∀ w, (underlying 137).run P w = .ok (TypeDesc.func #[54, 54] #[3] false) w
  a_tCmpE : ∀ w, Sem.run P (isAgg 137) w = Result.ok false w
  z_tCmpE : ∀ w, Sem.run P (Go.sizeOf 137) w = Result.ok 1 w
  v_tCmpE : ∀ w, Sem.run P (zeroValue 137) w = Result.ok Value.nilFunc w
  u_tEqE : P.underlying 139 = some (TypeDesc.func #[54, 54] #[4] false)
  r_tEqE : ∀ w, (underlying 139).run P w = .ok (TypeDesc.func #[54, 54] #[4] false) w
  a_tEqE : ∀ w, Sem.run P (isAgg 139) w = Result.ok false w
  z_tEqE : ∀ w, Sem.run P (Go.sizeOf 139) w = Result.ok 1 w
  v_tEqE : ∀ w, Sem.run P (zeroValue 139) w = Result.ok Value.nilFunc w
  u_tAgainst : P.underlying 143 = some (TypeDesc.func #[54, 52] #[3] false)
  r_tAgainst : ∀ w, (underlying 143).run P w = .ok (TypeDesc.func #[54, 52] #[3] false) w
  a_tAgainst : ∀ w, Sem.run P (isAgg 143) w = Result.ok false w
  z_tAgainst : ∀ w, Sem.run P (Go.sizeOf 143) w = Result.ok 1 w
  v_tAgainst : ∀ w, Sem.run P (zeroValue 143) w = Result.ok Value.nilFunc w
  u_tIntBool : P.underlying 141 = some (TypeDesc.tuple #[3, 4])
  r_tIntBool : ∀ w, (underlying 141).run P w = .ok (TypeDesc.tuple #[3, 4]) w
  a_tIntBool : ∀ w, Sem.run P (isAgg 141) w = Result.ok false w
  z_tIntBool : ∀ w, Sem.run P (Go.sizeOf 141) w = Result.ok 1 w
  v_tIntBool : ∀ w, Sem.run P (zeroValue 141) w = Result.ok (Value.tuple #[Value.int IntKind.i64 0, Value.bool false]) w
  u_tWhereBool : P.underlying 49 = some (TypeDesc.tuple #[48, 4])
  r_tWhereBool : ∀ w, (underlying 49).run P w = .ok (TypeDesc.tuple #[48, 4]) w
  a_tWhereBool : ∀ w, Sem.run P (isAgg 49) w = Result.ok false w
  z_tWhereBool : ∀ w, Sem.run P (Go.sizeOf 49) w = Result.ok 1 w
  v_tWhereBool : ∀ w, Sem.run P (zeroValue 49) w = Result.ok (Value.tuple #[Value.agg #[Value.int IntKind.i64 0, Value.int IntKind.i64 0, Value.int IntKind.i64 0], Value.bool false]) w
  f_segRight : P.funcs[16]? = some Try.f16
  f_segRightE : P.funcs[62]? = some Try.f62
  f_segSort : P.funcs[20]? = some Try.f20
  f_segFind : P.funcs[24]? = some Try.f24
  f_segJoin : P.funcs[23]? = some Try.f23
  f_cloneE : P.funcs[66]? = some Try.f66
  f_compactE : P.funcs[68]? = some Try.f68
  f_concatE : P.funcs[70]? = some Try.f70
  f_growE : P.funcs[119]? = some Try.f119
  f_searchE : P.funcs[71]? = some Try.f71
  f_l10Own : P.funcs[12]? = some Try.f12
  f_l10Back : P.funcs[19]? = some Try.f19
  f_l10Where : P.funcs[65]? = some Try.f65
  f_r10Same : P.funcs[18]? = some Try.f18
  f_segJoins : P.funcs[5]? = some Try.f5
  f_sortStE : P.funcs[67]? = some Try.f67
  f_sortEq : P.funcs[69]? = some Try.f69
  f_segCompare : P.funcs[63]? = some Try.f63
  f_segAgainst : P.funcs[72]? = some Try.f72
theorem sg : SG Try.prog 35 32 := {
  mixed := by kernel_rfl
  se := se
  sc := sc
  hk := rfl
  hh := rfl
  etE := ⟨Try.underlying30, by kernel_rfl, by kernel_rfl, by decide, by decide⟩
  iW := by kernel_rfl
  u_tUnit := Try.underlying0
  r_tUnit := fun w => run_underlying Try.underlying0 w
  a_tUnit := Try.isAgg0
  z_tUnit := Try.sizeOf0
  v_tUnit := Try.zeroValue0
  u_tInt := Try.underlying3
  r_tInt := fun w => run_underlying Try.underlying3 w
  a_tInt := Try.isAgg3
  z_tInt := Try.sizeOf3
  v_tInt := Try.zeroValue3
  u_tBool := Try.underlying4
  r_tBool := fun w => run_underlying Try.underlying4 w
  a_tBool := Try.isAgg4
  z_tBool := Try.sizeOf4
  v_tBool := Try.zeroValue4
  u_tUint := Try.underlying183
  r_tUint := fun w => run_underlying Try.underlying183 w
  a_tUint := Try.isAgg183
  z_tUint := Try.sizeOf183
  v_tUint := Try.zeroValue183
  u_tByte := Try.underlying5
  r_tByte := fun w => run_underlying Try.underlying5 w
  a_tByte := Try.isAgg5
  z_tByte := Try.sizeOf5
  v_tByte := Try.zeroValue5
  u_tBytes := Try.underlying23
  r_tBytes := fun w => run_underlying Try.underlying23 w
  a_tBytes := Try.isAgg23
  z_tBytes := Try.sizeOf23
  v_tBytes := Try.zeroValue23
  u_tHash := Try.underlying52
  r_tHash := fun w => run_underlying Try.underlying52 w
  a_tHash := Try.isAgg52
  z_tHash := Try.sizeOf52
  v_tHash := fun w => (Try.zeroValue52 w).trans (by kernel_rfl)
  u_tWhere := Try.underlying48
  r_tWhere := fun w => run_underlying Try.underlying48 w
  a_tWhere := Try.isAgg48
  z_tWhere := Try.sizeOf48
  v_tWhere := Try.zeroValue48
  u_tEnt := Try.underlying54
  r_tEnt := fun w => run_underlying Try.underlying54 w
  a_tEnt := Try.isAgg54
  z_tEnt := Try.sizeOf54
  v_tEnt := fun w => (Try.zeroValue54 w).trans (by kernel_rfl)
  u_tREnt := Try.underlying119
  r_tREnt := fun w => run_underlying Try.underlying119 w
  a_tREnt := Try.isAgg119
  z_tREnt := Try.sizeOf119
  v_tREnt := fun w => (Try.zeroValue119 w).trans (by kernel_rfl)
  u_tRWhere := Try.underlying117
  r_tRWhere := fun w => run_underlying Try.underlying117 w
  a_tRWhere := Try.isAgg117
  z_tRWhere := Try.sizeOf117
  v_tRWhere := Try.zeroValue117
  u_tEnts := Try.underlying30
  r_tEnts := fun w => run_underlying Try.underlying30 w
  a_tEnts := Try.isAgg30
  z_tEnts := Try.sizeOf30
  v_tEnts := Try.zeroValue30
  u_tREnts := Try.underlying22
  r_tREnts := fun w => run_underlying Try.underlying22 w
  a_tREnts := Try.isAgg22
  z_tREnts := Try.sizeOf22
  v_tREnts := Try.zeroValue22
  u_tEntss := Try.underlying194
  r_tEntss := fun w => run_underlying Try.underlying194 w
  a_tEntss := Try.isAgg194
  z_tEntss := Try.sizeOf194
  v_tEntss := Try.zeroValue194
  u_tCmpE := Try.underlying137
  r_tCmpE := fun w => run_underlying Try.underlying137 w
  a_tCmpE := Try.isAgg137
  z_tCmpE := Try.sizeOf137
  v_tCmpE := Try.zeroValue137
  u_tEqE := Try.underlying139
  r_tEqE := fun w => run_underlying Try.underlying139 w
  a_tEqE := Try.isAgg139
  z_tEqE := Try.sizeOf139
  v_tEqE := Try.zeroValue139
  u_tAgainst := Try.underlying143
  r_tAgainst := fun w => run_underlying Try.underlying143 w
  a_tAgainst := Try.isAgg143
  z_tAgainst := Try.sizeOf143
  v_tAgainst := Try.zeroValue143
  u_tIntBool := Try.underlying141
  r_tIntBool := fun w => run_underlying Try.underlying141 w
  a_tIntBool := Try.isAgg141
  z_tIntBool := Try.sizeOf141
  v_tIntBool := Try.zeroValue141
  u_tWhereBool := Try.underlying49
  r_tWhereBool := fun w => run_underlying Try.underlying49 w
  a_tWhereBool := Try.isAgg49
  z_tWhereBool := Try.sizeOf49
  v_tWhereBool := Try.zeroValue49
  f_segRight := Try.func16
  f_segRightE := Try.func62
  f_segSort := Try.func20
  f_segFind := Try.func24
  f_segJoin := Try.func23
  f_cloneE := Try.func66
  f_compactE := Try.func68
  f_concatE := Try.func70
  f_growE := Try.func119
  f_searchE := Try.func71
  f_l10Own := Try.func12
  f_l10Back := Try.func19
  f_l10Where := Try.func65
  f_r10Same := Try.func18
  f_segJoins := Try.func5
  f_sortStE := Try.func67
  f_sortEq := Try.func69
  f_segCompare := Try.func63
  f_segAgainst := Try.func72
  }
end Go.Proofs.Ytelijfdpgachnaa
