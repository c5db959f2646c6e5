/- What segment's bytes lean on of the program, and the contracts of what they call: over a program that is a variable. -/
import Derived.Test.YtpomfegcifpfkaaSegValue
import Derived.Test.YtpomfegcifpfkaaSegPut0
import Derived.Test.YtpomfegcifpfkaaTlvGet
namespace Go.Proofs.Ytpomfegcifpfkaa
open Go Go.RowKit Go.Sort
structure SK (P : Program) : Prop where
  etV : ET P 71 74 4 64 (.agg #[.int .i64 0, .int .u64 0, .slice none 0 0, .slice none 0 0])
  u_tVal : P.underlying 74 = some (TypeDesc.struct #[{ name := "Tag", type := 3, offset := 0, embedded := false, tag := "", pkgPath := "", byteOffset := 0 }, { name := "N", type := 72, offset := 1, embedded := false, tag := "", pkgPath := "", byteOffset := 8 }, { name := "B", type := 23, offset := 2, embedded := false, tag := "", pkgPath := "", byteOffset := 16 }, { name := "List", type := 71, offset := 3, embedded := false, tag := "", pkgPath := "", byteOffset := 40 }])
  r_tVal : ∀ w, (underlying 74).run P w = .ok (TypeDesc.struct #[{ name := "Tag", type := 3, offset := 0, embedded := false, tag := "", pkgPath := "", byteOffset := 0 }, { name := "N", type := 72, offset := 1, embedded := false, tag := "", pkgPath := "", byteOffset := 8 }, { name := "B", type := 23, offset := 2, embedded := false, tag := "", pkgPath := "", byteOffset := 16 }, { name := "List", type := 71, offset := 3, embedded := false, tag := "", pkgPath := "", byteOffset := 40 }]) w
  a_tVal : ∀ w, Sem.run P (isAgg 74) w = Result.ok true w
  z_tVal : ∀ w, Sem.run P (Go.sizeOf 74) w = Result.ok 4 w
  v_tVal : ∀ w, Sem.run P (zeroValue 74) w = Result.ok (Value.agg #[Value.int IntKind.i64 0, Value.int IntKind.u64 0, Value.slice none 0 0, Value.slice none 0 0]) w
  u_tVals : P.underlying 71 = some (TypeDesc.slice 74)
  r_tVals : ∀ w, (underlying 71).run P w = .ok (TypeDesc.slice 74) w
  a_tVals : ∀ w, Sem.run P (isAgg 71) w = Result.ok false w
  z_tVals : ∀ w, Sem.run P (Go.sizeOf 71) w = Result.ok 1 w
  v_tVals : ∀ w, Sem.run P (zeroValue 71) w = Result.ok (Value.slice none 0 0) w
  u_tFault : P.underlying 27 = some (TypeDesc.int IntKind.i64)
  r_tFault : ∀ w, (underlying 27).run P w = .ok (TypeDesc.int IntKind.i64) w
  a_tFault : ∀ w, Sem.run P (isAgg 27) w = Result.ok false w
  z_tFault : ∀ w, Sem.run P (Go.sizeOf 27) w = Result.ok 1 w
  v_tFault : ∀ w, Sem.run P (zeroValue 27) w = Result.ok (Value.int IntKind.i64 0) w
  u_tPtrTab : P.underlying 25 = some (TypeDesc.pointer 70)
  r_tPtrTab : ∀ w, (underlying 25).run P w = .ok (TypeDesc.pointer 70) w
  a_tPtrTab : ∀ w, Sem.run P (isAgg 25) w = Result.ok false w
  z_tPtrTab : ∀ w, Sem.run P (Go.sizeOf 25) w = Result.ok 1 w
  v_tPtrTab : ∀ w, Sem.run P (zeroValue 25) w = Result.ok (Value.pointer none) w
  u_tBytesFault : P.underlying 28 = some (TypeDesc.tuple #[23, 27])
  r_tBytesFault : ∀ w, (underlying 28).run P w = .ok (TypeDesc.tuple #[23, 27]) w
  a_tBytesFault : ∀ w, Sem.run P (isAgg 28) w = Result.ok false w
  z_tBytesFault : ∀ w, Sem.run P (Go.sizeOf 28) w = Result.ok 1 w
  v_tBytesFault : ∀ w, Sem.run P (zeroValue 28) w = Result.ok (Value.tuple #[Value.slice none 0 0, Value.int IntKind.i64 0]) w
  u_tValFault : P.underlying 88 = some (TypeDesc.tuple #[74, 27])
  r_tValFault : ∀ w, (underlying 88).run P w = .ok (TypeDesc.tuple #[74, 27]) w
  a_tValFault : ∀ w, Sem.run P (isAgg 88) w = Result.ok false w
  z_tValFault : ∀ w, Sem.run P (Go.sizeOf 88) w = Result.ok 1 w
  v_tValFault : ∀ w, Sem.run P (zeroValue 88) w = Result.ok (Value.tuple #[Value.agg #[Value.int IntKind.i64 0, Value.int IntKind.u64 0, Value.slice none 0 0, Value.slice none 0 0], Value.int IntKind.i64 0]) w
  u_tEntsFault : P.underlying 33 = some (TypeDesc.tuple #[30, 27])
  r_tEntsFault : ∀ w, (underlying 33).run P w = .ok (TypeDesc.tuple #[30, 27]) w
  a_tEntsFault : ∀ w, Sem.run P (isAgg 33) w = Result.ok false w
  z_tEntsFault : ∀ w, Sem.run P (Go.sizeOf 33) w = Result.ok 1 w
  v_tEntsFault : ∀ w, Sem.run P (zeroValue 33) w = Result.ok (Value.tuple #[Value.slice none 0 0, Value.int IntKind.i64 0]) w
  u_tEntBool : P.underlying 90 = some (TypeDesc.tuple #[50, 4])
  r_tEntBool : ∀ w, (underlying 90).run P w = .ok (TypeDesc.tuple #[50, 4]) w
  a_tEntBool : ∀ w, Sem.run P (isAgg 90) w = Result.ok false w
  z_tEntBool : ∀ w, Sem.run P (Go.sizeOf 90) w = Result.ok 1 w
  v_tEntBool : ∀ w, Sem.run P (zeroValue 90) w = Result.ok (Value.tuple #[Value.agg #[Value.int IntKind.u8 0, Value.int IntKind.u8 0, Value.int IntKind.u8 0, Value.int IntKind.u8 0, Value.int IntKind.u8 0, Value.int IntKind.u8 0, Value.int IntKind.u8 0, Value.int IntKind.u8 0, Value.int IntKind.u8 0, Value.int IntKind.u8 0, Value.int IntKind.u8 0, Value.int IntKind.u8 0, Value.int IntKind.u8 0, Value.int IntKind.u8 0, Value.int IntKind.u8 0, Value.int IntKind.u8 0, Value.int IntKind.u8 0, Value.int IntKind.u8 0, Value.int IntKind.u8 0, Value.int IntKind.u8 0, Value.int IntKind.u8 0, Value.int IntKind.u8 0, Value.int IntKind.u8 0, Value.int IntKind.u8 0, Value.int IntKind.u8 0, Value.int IntKind.u8 0, Value.int IntKind.u8 0, Value.int IntKind.u8 0, Value.int IntKind.u8 0, Value.int IntKind.u8 0, Value.int IntKind.u8 0, Value.int IntKind.u8 0, Value.int IntKind.i64 0, Value.int IntKind.i64 0, Value.int IntKind.i64 0], Value.bool false]) w
  u_tU64 : P.underlying 72 = some (TypeDesc.int IntKind.u64)
  r_tU64 : ∀ w, (underlying 72).run P w = .ok (TypeDesc.int IntKind.u64) w
  a_tU64 : ∀ w, Sem.run P (isAgg 72) w = Result.ok false w
  z_tU64 : ∀ w, Sem.run P (Go.sizeOf 72) w = Result.ok 1 w
  v_tU64 : ∀ w, Sem.run P (zeroValue 72) w = Result.ok (Value.int IntKind.u64 0) w
  u_tPInt : P.underlying 119 = some (TypeDesc.pointer 3)
  r_tPInt : ∀ w, (underlying 119).run P w = .ok (TypeDesc.pointer 3) w
  a_tPInt : ∀ w, Sem.run P (isAgg 119) w = Result.ok false w
  z_tPInt : ∀ w, Sem.run P (Go.sizeOf 119) w = Result.ok 1 w
  v_tPInt : ∀ w, Sem.run P (zeroValue 119) w = Result.ok (Value.pointer none) w
  u_tArrP : P.underlying 120 = some (TypeDesc.array 3 119)
  r_tArrP : ∀ w, (underlying 120).run P w = .ok (TypeDesc.array 3 119) w
  a_tArrP : ∀ w, Sem.run P (isAgg 120) w = Result.ok true w
  z_tArrP : ∀ w, Sem.run P (Go.sizeOf 120) w = Result.ok 3 w
  v_tArrP : ∀ w, Sem.run P (zeroValue 120) w = Result.ok (Value.agg #[Value.pointer none, Value.pointer none, Value.pointer none]) w
  f_segPut : P.funcs[6]? = some Try.f6
  f_segGet : P.funcs[9]? = some Try.f9
  f_segEntry : P.funcs[28]? = some Try.f28
  f_segValue : P.funcs[19]? = some Try.f19
  f_tlvMany : P.funcs[21]? = some Try.f21
  f_tlvPut : P.funcs[20]? = some Try.f20
  f_tlvGet : P.funcs[27]? = some Try.f27
  f_crcSeal : P.funcs[22]? = some Try.f22
  f_crcOpen : P.funcs[26]? = some Try.f26
  cValue : ∀ (W : World) (e : Ent), rightP e = true → Calls P 19 #[.agg (entC e).toArray] W fun r w' => ∃ x0 x1 x2 x3, r = .returned (.agg #[x0, x1, x2, x3]) ∧ TVr (fun k => k < W.heap.size) w' (segTV e) [x0, x1, x2, x3] ∧ Below W.heap.size W w'
  cMany : ∀ (W : World) (x : Value) (l : List TV), TVsl (fun _ => False) W l x → l.length ≤ 1000 → Calls P 21 #[x] W fun r w' => ∃ c0 c1 c2 c3, r = .returned (.agg #[c0, c1, c2, c3]) ∧ TVv (fun _ => False) w' (.mk 3 0 [] l) (.agg #[c0, c1, c2, c3]) ∧ Below W.heap.size W w'
  cPut : ∀ (W : World) (x : Value) (v : TV) (b : List UInt8), TVv (fun _ => False) W v x → putF v = (b, 0) → Calls P 20 #[x] W fun r w' => ∃ a c, r = .returned (.tuple #[.slice a b.length c, .int .i64 0]) ∧ OwnB w' W.heap.size (.slice a b.length c) b ∧ Below W.heap.size W w'
  cSeal : ∀ (t : Nat) (W : World) (a : Option Addr) (c : Nat) (b : List UInt8), Tab W t → OwnB W (t + 1) (.slice a b.length c) b → b.length ≤ 100000 → Calls P 22 #[.pointer (some ⟨t, 0, none⟩), .slice a b.length c] W fun r w' => ∃ a' c', r = .returned (.slice a' (sealed b).length c') ∧ OwnB w' W.heap.size (.slice a' (sealed b).length c') (sealed b) ∧ Tab w' t ∧ Fr (· = t) W w'
theorem sk : SK Try.prog := {
  etV := et_cloneV
  u_tVal := Try.underlying74
  r_tVal := fun w => run_underlying Try.underlying74 w
  a_tVal := Try.isAgg74
  z_tVal := Try.sizeOf74
  v_tVal := Try.zeroValue74
  u_tVals := Try.underlying71
  r_tVals := fun w => run_underlying Try.underlying71 w
  a_tVals := Try.isAgg71
  z_tVals := Try.sizeOf71
  v_tVals := Try.zeroValue71
  u_tFault := Try.underlying27
  r_tFault := fun w => run_underlying Try.underlying27 w
  a_tFault := Try.isAgg27
  z_tFault := Try.sizeOf27
  v_tFault := Try.zeroValue27
  u_tPtrTab := Try.underlying25
  r_tPtrTab := fun w => run_underlying Try.underlying25 w
  a_tPtrTab := Try.isAgg25
  z_tPtrTab := Try.sizeOf25
  v_tPtrTab := Try.zeroValue25
  u_tBytesFault := Try.underlying28
  r_tBytesFault := fun w => run_underlying Try.underlying28 w
  a_tBytesFault := Try.isAgg28
  z_tBytesFault := Try.sizeOf28
  v_tBytesFault := Try.zeroValue28
  u_tValFault := Try.underlying88
  r_tValFault := fun w => run_underlying Try.underlying88 w
  a_tValFault := Try.isAgg88
  z_tValFault := Try.sizeOf88
  v_tValFault := Try.zeroValue88
  u_tEntsFault := Try.underlying33
  r_tEntsFault := fun w => run_underlying Try.underlying33 w
  a_tEntsFault := Try.isAgg33
  z_tEntsFault := Try.sizeOf33
  v_tEntsFault := Try.zeroValue33
  u_tEntBool := Try.underlying90
  r_tEntBool := fun w => run_underlying Try.underlying90 w
  a_tEntBool := Try.isAgg90
  z_tEntBool := Try.sizeOf90
  v_tEntBool := Try.zeroValue90
  u_tU64 := Try.underlying72
  r_tU64 := fun w => run_underlying Try.underlying72 w
  a_tU64 := Try.isAgg72
  z_tU64 := Try.sizeOf72
  v_tU64 := Try.zeroValue72
  u_tPInt := Try.underlying119
  r_tPInt := fun w => run_underlying Try.underlying119 w
  a_tPInt := Try.isAgg119
  z_tPInt := Try.sizeOf119
  v_tPInt := Try.zeroValue119
  u_tArrP := Try.underlying120
  r_tArrP := fun w => run_underlying Try.underlying120 w
  a_tArrP := Try.isAgg120
  z_tArrP := Try.sizeOf120
  v_tArrP := Try.zeroValue120
  f_segPut := Try.func6
  f_segGet := Try.func9
  f_segEntry := Try.func28
  f_segValue := Try.func19
  f_tlvMany := Try.func21
  f_tlvPut := Try.func20
  f_tlvGet := Try.func27
  f_crcSeal := Try.func22
  f_crcOpen := Try.func26
  cValue := fun W e hr => by
    obtain ⟨n1, n2, n3, p1, p2, p3⟩ := rightP_nums hr
    have h := segValue_ok W e.nm e.pk.toNat e.pos.toNat e.ln.toNat n1 n2 n3
    rw [Int.toNat_of_nonneg p1, Int.toNat_of_nonneg p2, Int.toNat_of_nonneg p3] at h
    refine h.mono ?_
    rintro r w' ⟨x, rfl, ⟨x0, x1, x2, x3, rfl, hv⟩, hb⟩
    exact ⟨x0, x1, x2, x3, rfl, hv, hb⟩
  cMany := fun W x l hx hl => by
    refine (many_ok (S' := fun _ => False) x l W hx (by omega)).mono ?_
    rintro e w' ⟨y, rfl, h1, h2⟩
    have h3 := h1 (fun _ => False) (fun _ h => h) (fun _ _ _ h => h)
    obtain ⟨c0, c1, c2, c3, rfl, _⟩ := id h3
    exact ⟨c0, c1, c2, c3, rfl, h3, h2⟩
  cPut := fun W x v b hx hv => by
    have := put_ok (S := fun _ => False) v x W hx
    rw [hv] at this
    refine this.mono ?_
    rintro e w' ⟨v', rfl, ho, hb⟩
    obtain ⟨a, c, rfl, _⟩ := ho.len
    exact ⟨a, c, rfl, ho, hb⟩
  cSeal := fun t W a c b hT ho hl => by
    refine (seal_ok t _ b W hT (ho.bs (fun k hk _ e => by omega)) (by omega)).mono ?_
    rintro e w' ⟨v', rfl, ho', h2, h3⟩
    obtain ⟨a', c', rfl, _⟩ := ho'.len
    exact ⟨a', c', rfl, ho', h2, h3⟩
  }
end Go.Proofs.Ytpomfegcifpfkaa
