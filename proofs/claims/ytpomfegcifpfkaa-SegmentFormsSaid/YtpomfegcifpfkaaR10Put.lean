/- ref10's Put. -/
import Derived.Test.YtpomfegcifpfkaaRegHeld
import Derived.Test.YtpomfegcifpfkaaR10Num
import Derived.Test.YtpomfegcifpfkaaR10Right
import Derived.Test.YtpomfegcifpfkaaSegEntry2
import Derived.Test.YtpomfegcifpfkaaRef02
namespace Go.Proofs.Ytpomfegcifpfkaa
open Go Go.RowKit Go.Sort
/-- What ref10's bytes lean on, over a program that is a variable. -/
structure RK (P : Program) : Prop where
  etV : ET P 82 84 4 64 (.agg #[.int .i64 0, .int .u64 0, .slice none 0 0, .slice none 0 0])
  u_rVal : P.underlying 84 = some (TypeDesc.struct #[{ name := "Tag", type := 3, offset := 0, embedded := false, tag := "", pkgPath := "", byteOffset := 0 }, { name := "N", type := 72, offset := 1, embedded := false, tag := "", pkgPath := "", byteOffset := 8 }, { name := "B", type := 23, offset := 2, embedded := false, tag := "", pkgPath := "", byteOffset := 16 }, { name := "List", type := 82, offset := 3, embedded := false, tag := "", pkgPath := "", byteOffset := 40 }])
  r_rVal : ∀ w, (underlying 84).run P w = .ok (TypeDesc.struct #[{ name := "Tag", type := 3, offset := 0, embedded := false, tag := "", pkgPath := "", byteOffset := 0 }, { name := "N", type := 72, offset := 1, embedded := false, tag := "", pkgPath := "", byteOffset := 8 }, { name := "B", type := 23, offset := 2, embedded := false, tag := "", pkgPath := "", byteOffset := 16 }, { name := "List", type := 82, offset := 3, embedded := false, tag := "", pkgPath := "", byteOffset := 40 }]) w
  a_rVal : ∀ w, Sem.run P (isAgg 84) w = Result.ok true w
  z_rVal : ∀ w, Sem.run P (Go.sizeOf 84) w = Result.ok 4 w
  v_rVal : ∀ w, Sem.run P (zeroValue 84) w = Result.ok (Value.agg #[Value.int IntKind.i64 0, Value.int IntKind.u64 0, Value.slice none 0 0, Value.slice none 0 0]) w
  u_rVals : P.underlying 82 = some (TypeDesc.slice 84)
  r_rVals : ∀ w, (underlying 82).run P w = .ok (TypeDesc.slice 84) w
  a_rVals : ∀ w, Sem.run P (isAgg 82) w = Result.ok false w
  z_rVals : ∀ w, Sem.run P (Go.sizeOf 82) w = Result.ok 1 w
  v_rVals : ∀ w, Sem.run P (zeroValue 82) w = Result.ok (Value.slice none 0 0) w
  u_tFault : P.underlying 27 = some (TypeDesc.int IntKind.i64)
  r_tFault : ∀ w, (underlying 27).run P w = .ok (TypeDesc.int IntKind.i64) w
  a_tFault : ∀ w, Sem.run P (isAgg 27) w = Result.ok false w
  z_tFault : ∀ w, Sem.run P (Go.sizeOf 27) w = Result.ok 1 w
  v_tFault : ∀ w, Sem.run P (zeroValue 27) w = Result.ok (Value.int IntKind.i64 0) w
  u_tBytesFault : P.underlying 28 = some (TypeDesc.tuple #[23, 27])
  r_tBytesFault : ∀ w, (underlying 28).run P w = .ok (TypeDesc.tuple #[23, 27]) w
  a_tBytesFault : ∀ w, Sem.run P (isAgg 28) w = Result.ok false w
  z_tBytesFault : ∀ w, Sem.run P (Go.sizeOf 28) w = Result.ok 1 w
  v_tBytesFault : ∀ w, Sem.run P (zeroValue 28) w = Result.ok (Value.tuple #[Value.slice none 0 0, Value.int IntKind.i64 0]) w
  u_tU64 : P.underlying 72 = some (TypeDesc.int IntKind.u64)
  r_tU64 : ∀ w, (underlying 72).run P w = .ok (TypeDesc.int IntKind.u64) w
  a_tU64 : ∀ w, Sem.run P (isAgg 72) w = Result.ok false w
  z_tU64 : ∀ w, Sem.run P (Go.sizeOf 72) w = Result.ok 1 w
  v_tU64 : ∀ w, Sem.run P (zeroValue 72) w = Result.ok (Value.int IntKind.u64 0) w
  f_refPut : P.funcs[24]? = some Try.f24
  f_refGet : P.funcs[30]? = some Try.f30
  f_r10Number : P.funcs[23]? = some Try.f23
  f_r10Small : P.funcs[31]? = some Try.f31
  f_r02Seal : P.funcs[25]? = some Try.f25
  f_r02Open : P.funcs[29]? = some Try.f29
  f_r10Put : P.funcs[8]? = some Try.f8
  f_r10Get : P.funcs[10]? = some Try.f10
  cNum : ∀ (W : World) (n : Int), 0 ≤ n → n ≤ 999999 → Calls P 23 #[.int .i64 n] W fun r w' => r = .returned (.agg #[.int .i64 1, .int .u64 n, .slice none 0 0, .slice none 0 0]) ∧ Below W.heap.size W w'
  cPut : ∀ (W : World) (x : Value) (v : TV) (b : List UInt8), TVv (fun _ => False) W v x → putF v = (b, 0) → Calls P 24 #[x] W fun r w' => ∃ a c, r = .returned (.tuple #[.slice a b.length c, .int .i64 0]) ∧ OwnB w' W.heap.size (.slice a b.length c) b ∧ Below W.heap.size W w'
  cSeal : ∀ (W : World) (base : Nat) (a : Option Addr) (c : Nat) (b : List UInt8), OwnB W base (.slice a b.length c) b → b.length ≤ 100000 → Calls P 25 #[.slice a b.length c] W fun r w' => ∃ a' c', r = .returned (.slice a' (sealed b).length c') ∧ OwnB w' W.heap.size (.slice a' (sealed b).length c') (sealed b) ∧ Below W.heap.size W w'
theorem rk : RK Try.prog := {
  etV := et_rvals
  u_rVal := Try.underlying84
  r_rVal := fun w => run_underlying Try.underlying84 w
  a_rVal := Try.isAgg84
  z_rVal := Try.sizeOf84
  v_rVal := Try.zeroValue84
  u_rVals := Try.underlying82
  r_rVals := fun w => run_underlying Try.underlying82 w
  a_rVals := Try.isAgg82
  z_rVals := Try.sizeOf82
  v_rVals := Try.zeroValue82
  u_tFault := Try.underlying27
  r_tFault := fun w => run_underlying Try.underlying27 w
  a_tFault := Try.isAgg27
  z_tFault := Try.sizeOf27
  v_tFault := Try.zeroValue27
  u_tBytesFault := Try.underlying28
  r_tBytesFault := fun w => run_underlying Try.underlying28 w
  a_tBytesFault := Try.isAgg28
  z_tBytesFault := Try.sizeOf28
  v_tBytesFault := Try.zeroValue28
  u_tU64 := Try.underlying72
  r_tU64 := fun w => run_underlying Try.underlying72 w
  a_tU64 := Try.isAgg72
  z_tU64 := Try.sizeOf72
  v_tU64 := Try.zeroValue72
  f_refPut := Try.func24
  f_refGet := Try.func30
  f_r10Number := Try.func23
  f_r10Small := Try.func31
  f_r02Seal := Try.func25
  f_r02Open := Try.func29
  f_r10Put := Try.func8
  f_r10Get := Try.func10
  cNum := fun W n h0 h1 => by
    have := r10Number_ok W n.toNat (by omega)
    rw [Int.toNat_of_nonneg h0] at this
    exact this
  cPut := fun W x v b hx hv => by
    have := refPut_ok (S := fun _ => False) v x W hx
    rw [hv] at this
    refine this.mono ?_
    rintro e w' ⟨v', rfl, ho, hb⟩
    obtain ⟨a, c, rfl, _⟩ := ho.len
    exact ⟨a, c, rfl, ho, hb⟩
  cSeal := fun W base a c b ho hl => by
    refine (seal02_ok (S := fun _ => False) _ b W (ho.bs (fun k hk _ e => e)) (by omega)).mono ?_
    rintro e w' ⟨v', rfl, ho', h2⟩
    obtain ⟨a', c', rfl, _⟩ := ho'.len
    exact ⟨a', c', rfl, ho', h2⟩
  }
variable {P : Program} {k h : Nat}
set_option maxHeartbeats 2000000 in
set_option maxRecDepth 100000 in
theorem r10Put_bad (L : SG P k h) (R : SR P) (K : RK P) {S : Nat → Prop} (w : World) (v : Value) (l : List Ent) (hv : Es S w v l) (hr : rightL l = false) :
    Calls P 8 #[v] w fun e w' => e = .returned (.tuple #[.slice none 0 0, .int .i64 1]) ∧ Grown w w' := by
  have hR := r10Right_ok L R w v l hv
  rw [hr] at hR
  obtain ⟨a, c, rfl, hl1, hl2, hl3, _, h4⟩ := hv.cases
  have HR := hid hR
  clear hR h4 hv
  have u_tUnit := L.u_tUnit; have r_tUnit := L.r_tUnit; have a_tUnit := L.a_tUnit; have z_tUnit := L.z_tUnit; have v_tUnit := L.v_tUnit; have u_tInt := L.u_tInt; have r_tInt := L.r_tInt; have a_tInt := L.a_tInt; have z_tInt := L.z_tInt; have v_tInt := L.v_tInt; have u_tBool := L.u_tBool; have r_tBool := L.r_tBool; have a_tBool := L.a_tBool; have z_tBool := L.z_tBool; have v_tBool := L.v_tBool; have u_tREnts := L.u_tREnts; have r_tREnts := L.r_tREnts; have a_tREnts := L.a_tREnts; have z_tREnts := L.z_tREnts; have v_tREnts := L.v_tREnts; have u_tBytes := L.u_tBytes; have r_tBytes := L.r_tBytes; have a_tBytes := L.a_tBytes; have z_tBytes := L.z_tBytes; have v_tBytes := L.v_tBytes
  have u_rVal := K.u_rVal; have r_rVal := K.r_rVal; have a_rVal := K.a_rVal; have z_rVal := K.z_rVal; have v_rVal := K.v_rVal; have u_rVals := K.u_rVals; have r_rVals := K.r_rVals; have a_rVals := K.a_rVals; have z_rVals := K.z_rVals; have v_rVals := K.v_rVals; have u_tFault := K.u_tFault; have r_tFault := K.r_tFault; have a_tFault := K.a_tFault; have z_tFault := K.z_tFault; have v_tFault := K.v_tFault; have u_tBytesFault := K.u_tBytesFault; have r_tBytesFault := K.r_tBytesFault; have a_tBytesFault := K.a_tBytesFault; have z_tBytesFault := K.z_tBytesFault; have v_tBytesFault := K.v_tBytesFault
  have mixed := L.mixed
  have e_r10Right : ∀ args w, (callFunc 12 args).run P w = .ok (.enter 12 args) w := enters_of R.f_r10Right rfl rfl
  go_enter K.f_r10Put, Try.ntmps8
  go_wp2_with (go_at_fn 12; refine HR.out.mono ?_; rintro r w1 ⟨rfl, hg1⟩)
  go_ret2
  exact ⟨rfl, hg1⟩
/-- The cells that Put's drawn statement reads. -/
def PutS (B X : Nat) (cb cx : Obj) (v : World) : Prop := v.heap[B]? = some cb ∧ v.heap[X]? = some cx
theorem PutS.on {B X : Nat} {cb cx : Obj} {v v' : World} (h : PutS B X cb cx v) (hb : Below v.heap.size v v') : PutS B X cb cx v' := ⟨(hb.block _ (lt_of_heap h.1)).trans h.1, (hb.block _ (lt_of_heap h.2)).trans h.2⟩
theorem row_atS {S : Nat → Prop} {w : World} {g n size : Nat} {cs : Array Value} {e : TypeId} {fz : Nat × Nat} (hg : w.heap[g]? = some (.cells cs e fz)) (hS : ¬ S g) (hn : cs.size = n * size) (hl : n ≤ 140737488355328) : Row S w (.slice (some ⟨g, 0, none⟩) n n) n size cs.toList := by
  refine ⟨by simp [hn], _, n, rfl, ⟨Nat.le_refl _, hl, by unfold maxLen; omega⟩, (fun h => nomatch h), .inr ⟨g, 0, rfl, lt_of_heap hg, hS, fun j x hx => ?_⟩⟩
  rw [cell_of_heap hg, Nat.zero_add, ← Array.getElem?_toList]
  exact hx
theorem num_lies {S : Nat → Prop} {W : World} {n : Int} (h0 : 0 ≤ n) (h1 : n ≤ 999999) : TVr S W (.mk 1 n.toNat [] []) [.int .i64 1, .int .u64 n, .slice none 0 0, .slice none 0 0] := by
  rw [TVr]
  exact ⟨by omega, _, _, [], by rw [Int.toNat_of_nonneg h0]; rfl, Bs.nil0' _ _, ⟨rfl, none, 0, rfl, ⟨Nat.le_refl _, Nat.zero_le _, Nat.zero_le _⟩, fun _ => rfl, .inl rfl⟩, by rw [TVch]⟩
theorem bcells_at {xs : List UInt8} {j : Nat} {x : UInt8} (h : xs[j]? = some x) : (bcells xs)[j]? = some (.int .u8 (x.toNat : Int)) := by
  unfold bcells
  rw [List.getElem?_map, h]; rfl
/-- An entry's value, as ref10's Put builds it. -/
theorem segTV_lies {S : Nat → Prop} {W : World} {e : Ent} {b o g : Nat} {t : Nat} (hre : rightP e = true)
    (hy : W.heap[g]? = some (.cells #[.int .i64 2, .int .u64 0, .slice (some ⟨b, o, none⟩) 32 32, .slice none 0 0, .int .i64 1, .int .u64 e.pk, .slice none 0 0, .slice none 0 0, .int .i64 1, .int .u64 e.pos, .slice none 0 0, .slice none 0 0, .int .i64 1, .int .u64 e.ln, .slice none 0 0, .slice none 0 0] t (0, 0)))
    (hgS : ¬ S g) (hbW : b < W.heap.size) (hbS : ¬ S b) (hcell : ∀ j x, e.nm.1[j]? = some x → W.cell? ⟨b, o + j, none⟩ = some (.int .u8 (x.toNat : Int))) :
    TVr S W (segTV e) [.int .i64 3, .int .u64 0, .slice none 0 0, .slice (some ⟨g, 0, none⟩) 4 4] := by
  obtain ⟨n1, n2, n3, p1, p2, p3⟩ := rightP_nums hre
  have hrow := row_atS hy hgS (n := 4) (size := 4) rfl (by omega)
  have hb : Bs S W (.slice (some ⟨b, o, none⟩) 32 32) e.nm.1 := ⟨some ⟨b, o, none⟩, 32, by rw [e.nm.2], by rw [e.nm.2]; exact ⟨Nat.le_refl _, by omega, by unfold maxLen; omega⟩, (fun h => nomatch h), .inr ⟨b, o, rfl, hbW, hbS, hcell⟩⟩
  rw [segTV, TVr]
  refine ⟨by omega, _, _, _, rfl, Bs.nil0' _ _, hrow, ?_⟩
  rw [TVch]
  refine ⟨[.int .i64 2, .int .u64 0, .slice (some ⟨b, o, none⟩) 32 32, .slice none 0 0], _, rfl, ?_, ?_⟩
  · rw [TVr]
    exact ⟨by omega, _, _, [], rfl, hb, ⟨rfl, none, 0, rfl, ⟨Nat.le_refl _, Nat.zero_le _, Nat.zero_le _⟩, fun _ => rfl, .inl rfl⟩, by rw [TVch]⟩
  rw [TVch]
  refine ⟨[.int .i64 1, .int .u64 e.pk, .slice none 0 0, .slice none 0 0], _, rfl, num_lies p1 (by omega), ?_⟩
  rw [TVch]
  refine ⟨[.int .i64 1, .int .u64 e.pos, .slice none 0 0, .slice none 0 0], _, rfl, num_lies p2 (by omega), ?_⟩
  rw [TVch]
  refine ⟨[.int .i64 1, .int .u64 e.ln, .slice none 0 0, .slice none 0 0], [], rfl, num_lies p3 (by omega), ?_⟩
  rw [TVch]
set_option maxHeartbeats 4000000 in
set_option maxRecDepth 100000 in
theorem r10Put_good (L : SG P k h) (R : SR P) (K : RK P) {S : Nat → Prop} (w : World) (v : Value) (l : List Ent) (hv : Es S w v l) (hr : rightL l = true) :
    Calls P 8 #[v] w fun e w' => ∃ a c, e = .returned (.tuple #[.slice a (sealed (enc (segsTV l))).length c, .int .i64 0]) ∧ OwnB w' w.heap.size (.slice a (sealed (enc (segsTV l))).length c) (sealed (enc (segsTV l))) ∧ Below w.heap.size w w' := by
  have hR := r10Right_ok L R w v l hv
  rw [hr] at hR
  obtain ⟨a, c, rfl, hl1, hl2, hl3, _, h4⟩ := hv.cases
  have hlen := rightL_len hr
  have HR := hid hR
  have H4 := hid h4
  have HRL := hid hr
  unfold maxLen at hl3
  clear hR h4 hv hr
  have u_tUnit := L.u_tUnit; have r_tUnit := L.r_tUnit; have a_tUnit := L.a_tUnit; have z_tUnit := L.z_tUnit; have v_tUnit := L.v_tUnit; have u_tInt := L.u_tInt; have r_tInt := L.r_tInt; have a_tInt := L.a_tInt; have z_tInt := L.z_tInt; have v_tInt := L.v_tInt; have u_tBool := L.u_tBool; have r_tBool := L.r_tBool; have a_tBool := L.a_tBool; have z_tBool := L.z_tBool; have v_tBool := L.v_tBool; have u_tHash := L.u_tHash; have r_tHash := L.r_tHash; have a_tHash := L.a_tHash; have z_tHash := L.z_tHash; have v_tHash := L.v_tHash; have u_tRWhere := L.u_tRWhere; have r_tRWhere := L.r_tRWhere; have a_tRWhere := L.a_tRWhere; have z_tRWhere := L.z_tRWhere; have v_tRWhere := L.v_tRWhere; have u_tREnt := L.u_tREnt; have r_tREnt := L.r_tREnt; have a_tREnt := L.a_tREnt; have z_tREnt := L.z_tREnt; have v_tREnt := L.v_tREnt; have u_tREnts := L.u_tREnts; have r_tREnts := L.r_tREnts; have a_tREnts := L.a_tREnts; have z_tREnts := L.z_tREnts; have v_tREnts := L.v_tREnts; have u_tBytes := L.u_tBytes; have r_tBytes := L.r_tBytes; have a_tBytes := L.a_tBytes; have z_tBytes := L.z_tBytes; have v_tBytes := L.v_tBytes; have u_tByte := L.u_tByte; have r_tByte := L.r_tByte; have a_tByte := L.a_tByte; have z_tByte := L.z_tByte; have v_tByte := L.v_tByte
  have u_rVal := K.u_rVal; have r_rVal := K.r_rVal; have a_rVal := K.a_rVal; have z_rVal := K.z_rVal; have v_rVal := K.v_rVal; have u_rVals := K.u_rVals; have r_rVals := K.r_rVals; have a_rVals := K.a_rVals; have z_rVals := K.z_rVals; have v_rVals := K.v_rVals; have u_tFault := K.u_tFault; have r_tFault := K.r_tFault; have a_tFault := K.a_tFault; have z_tFault := K.z_tFault; have v_tFault := K.v_tFault; have u_tBytesFault := K.u_tBytesFault; have r_tBytesFault := K.r_tBytesFault; have a_tBytesFault := K.a_tBytesFault; have z_tBytesFault := K.z_tBytesFault; have v_tBytesFault := K.v_tBytesFault; have u_tU64 := K.u_tU64; have r_tU64 := K.r_tU64; have a_tU64 := K.a_tU64; have z_tU64 := K.z_tU64; have v_tU64 := K.v_tU64
  have mixed := L.mixed
  have etV := K.etV
  have e_r10Right : ∀ args w, (callFunc 12 args).run P w = .ok (.enter 12 args) w := enters_of R.f_r10Right rfl rfl
  have e_refPut : ∀ args w, (callFunc 24 args).run P w = .ok (.enter 24 args) w := enters_of K.f_refPut rfl rfl
  have e_r10Number : ∀ args w, (callFunc 23 args).run P w = .ok (.enter 23 args) w := enters_of K.f_r10Number rfl rfl
  have e_r02Seal : ∀ args w, (callFunc 25 args).run P w = .ok (.enter 25 args) w := enters_of K.f_r02Seal rfl rfl
  have CP := hid K.cPut
  have CS := hid K.cSeal
  have CN := hid K.cNum
  go_enter K.f_r10Put, Try.ntmps8
  go_wp2_with (go_at_fn 12; refine HR.out.mono ?_; rintro r w1 ⟨rfl, hg1⟩; have G1 := hid hg1; have hz1 := hg1.below.size; clear hg1)
  have HBX0 := hid (heap_alloc_new w1 (.cells #[.int .i64 3, .int .u64 0, .slice none 0 0, .slice none 0 0] 84 (0, 0)))
  have HB0 := hid (show Below w.heap.size w (w1.alloc (.cells #[.int .i64 3, .int .u64 0, .slice none 0 0, .slice none 0 0] 84 (0, 0))) from G1.out.below.alloc hz1 _)
  go_loopg [5] l.length (fun kx s5 wr => ∃ (i : Nat) (a : Option Addr) (c : Nat) (ks : List Value), s5 = .int .i64 i ∧ i ≤ l.length ∧ l.length - i ≤ kx ∧ Hid (wr.heap[w1.heap.size]? = some (.cells #[.int .i64 3, .int .u64 0, .slice none 0 0, .slice a i c] 84 (0, 0))) ∧ Hid (Own wr (w1.heap.size + 1) 84 4 (.slice a i c) i ks) ∧ Hid (TVch (fun q => q = w1.heap.size ∨ mine (.slice a i c) q) wr ((l.take i).map segTV) ks) ∧ Hid (Below w.heap.size w wr))
  case atStart => exact ⟨0, none, 0, [], rfl, Nat.zero_le _, Nat.le_refl _, HBX0, hid (Own.nil _ _ _ _), hid (by rw [List.take_zero, List.map_nil, TVch]), HB0⟩
  case round =>
    obtain ⟨i, a6, c6, ks, rfl, hi, hkx, HX, HO, HC, HB⟩ := hrel
    by_cases hlt : i < l.length
    · obtain ⟨b, off, rfl, hb, hS, hcell⟩ := H4.out.resolve_left (fun e => by subst e; simp at hlt)
      obtain ⟨e, he⟩ : ∃ e, l[i]? = some e := ⟨l[i], by simp [hlt]⟩
      have hre : rightP e = true := rightL_mem HRL.out (List.mem_of_getElem? he)
      obtain ⟨n1, n2, n3, p1, p2, p3⟩ := rightP_nums hre
      have hcr : ∀ j x, (entC e)[j]? = some x → wr.cell? ⟨b, off + i * 35 + j, none⟩ = some x := fun j x h2 => (HB.out.cell (p := ⟨b, off + i * 35 + j, none⟩) hb).trans (hcell i e j x he h2)
      have hE := entC_at e
      have c0 : wr.cell? ⟨b, off + i * k + 32, none⟩ = some (.int .i64 e.pk) := by rw [L.hk]; exact hcr 32 _ hE.1
      have c1 : wr.cell? ⟨b, off + i * k + 33, none⟩ = some (.int .i64 e.pos) := by rw [L.hk]; exact hcr 33 _ hE.2.1
      have c2 : wr.cell? ⟨b, off + i * k + 34, none⟩ = some (.int .i64 e.ln) := by rw [L.hk]; exact hcr 34 _ hE.2.2
      have k0 : ¬ k = 0 := by rw [L.hk]; omega
      have h0 : ¬ h = 0 := by rw [L.hh]; omega
      obtain ⟨wx, hwx⟩ : ∃ wx, wx = wr.alloc (.cells #[.int .i64 e.pk, .int .i64 e.pos, .int .i64 e.ln] 79 (0, 0)) := ⟨_, rfl⟩
      have hbx : Below wr.heap.size wr wx := by rw [hwx]; exact (Below.refl _ _).alloc (Nat.le_refl _) _
      have hx : wx.heap[wr.heap.size]? = some (.cells #[.int .i64 e.pk, .int .i64 e.pos, .int .i64 e.ln] 79 (0, 0)) := by rw [hwx]; exact heap_alloc_new wr _
      have hPS : PutS w1.heap.size wr.heap.size _ _ wx.drew := ⟨(hbx.block _ (lt_of_heap HX.out)).trans HX.out, hx⟩
      have HPS := hid hPS
      have HHE := hid he
      have HCL := hid hcell
      clear hcell hcr hE hPS hx he hre
      have F1 := hid (show ∀ v, (Instr.fieldAt 84 (.pointer (some ⟨w1.heap.size, 0, none⟩)) 3).run P v = .ok (.pointer (some ⟨w1.heap.size, 3, none⟩)) v from fun v => by go_simp)
      have F2 := hid (show ∀ v, PutS w1.heap.size wr.heap.size (.cells #[.int .i64 3, .int .u64 0, .slice none 0 0, .slice a6 i c6] 84 (0, 0)) (.cells #[.int .i64 e.pk, .int .i64 e.pos, .int .i64 e.ln] 79 (0, 0)) v → (Instr.loadAt 82 (.pointer (some ⟨w1.heap.size, 3, none⟩))).run P v = .ok (.slice a6 i c6) v from fun v hv => by have hc := cell_of_heap hv.1 3; go_simp)
      have F3 := hid (show ∀ v, (Instr.indexAt 22 (.slice (some ⟨b, off, none⟩) l.length c) (.int .i64 (i : Int))).run P v = .ok (.pointer (some ⟨b, off + i * k, none⟩)) v from fun v => by go_simp)
      have F4 := hid (show ∀ v, (Instr.fieldAt 81 (.pointer (some ⟨b, off + i * k, none⟩)) 0).run P v = .ok (.pointer (some ⟨b, off + i * k, none⟩)) v from fun v => by go_simp)
      have F5 := hid (show ∀ v, (Instr.sliceAt 46 (.pointer (some ⟨b, off + i * k, none⟩)) none none none).run P v = .ok (.slice (some ⟨b, off + i * k, none⟩) 32 32) v from fun v => by go_simp)
      have F6 := hid (show ∀ v xa xn xc, (Instr.build 84 #[(0, .int .i64 2), (2, .slice xa xn xc)]).run P v = .ok (.agg #[.int .i64 2, .int .u64 0, .slice xa xn xc, .slice none 0 0]) v from fun v xa xn xc => by go_simp)
      have F70 := hid (show ∀ v, (Instr.fieldAt 79 (.pointer (some ⟨wr.heap.size, 0, none⟩)) 0).run P v = .ok (.pointer (some ⟨wr.heap.size, 0, none⟩)) v from fun v => by go_simp)
      have F80 := hid (show ∀ v, PutS w1.heap.size wr.heap.size (.cells #[.int .i64 3, .int .u64 0, .slice none 0 0, .slice a6 i c6] 84 (0, 0)) (.cells #[.int .i64 e.pk, .int .i64 e.pos, .int .i64 e.ln] 79 (0, 0)) v → (Instr.loadAt 3 (.pointer (some ⟨wr.heap.size, 0, none⟩))).run P v = .ok (.int .i64 e.pk) v from fun v hv => by have hc := cell_of_heap hv.2 0; go_simp)
      have F71 := hid (show ∀ v, (Instr.fieldAt 79 (.pointer (some ⟨wr.heap.size, 0, none⟩)) 1).run P v = .ok (.pointer (some ⟨wr.heap.size, 1, none⟩)) v from fun v => by go_simp)
      have F81 := hid (show ∀ v, PutS w1.heap.size wr.heap.size (.cells #[.int .i64 3, .int .u64 0, .slice none 0 0, .slice a6 i c6] 84 (0, 0)) (.cells #[.int .i64 e.pk, .int .i64 e.pos, .int .i64 e.ln] 79 (0, 0)) v → (Instr.loadAt 3 (.pointer (some ⟨wr.heap.size, 1, none⟩))).run P v = .ok (.int .i64 e.pos) v from fun v hv => by have hc := cell_of_heap hv.2 1; go_simp)
      have F72 := hid (show ∀ v, (Instr.fieldAt 79 (.pointer (some ⟨wr.heap.size, 0, none⟩)) 2).run P v = .ok (.pointer (some ⟨wr.heap.size, 2, none⟩)) v from fun v => by go_simp)
      have F82 := hid (show ∀ v, PutS w1.heap.size wr.heap.size (.cells #[.int .i64 3, .int .u64 0, .slice none 0 0, .slice a6 i c6] 84 (0, 0)) (.cells #[.int .i64 e.pk, .int .i64 e.pos, .int .i64 e.ln] 79 (0, 0)) v → (Instr.loadAt 3 (.pointer (some ⟨wr.heap.size, 2, none⟩))).run P v = .ok (.int .i64 e.ln) v from fun v hv => by have hc := cell_of_heap hv.2 2; go_simp)
      have F9 := hid (show ∀ v xa xn xc, (Instr.build 84 #[(0, .int .i64 3), (3, .slice xa xn xc)]).run P v = .ok (.agg #[.int .i64 3, .int .u64 0, .slice none 0 0, .slice xa xn xc]) v from fun v xa xn xc => by go_simp)
      have FA := hid (show ∀ (v : World) y0 y1 y2 y3, (Instr.buildSlice 82 1 #[(0, .agg #[y0, y1, y2, y3])]).run P v = .ok (.slice (some ⟨v.heap.size, 0, none⟩) 1 1) (v.alloc (.cells #[y0, y1, y2, y3] 84 (0, 0))) from fun v y0 y1 y2 y3 => by go_simp)
      have FB := hid (show ∀ (v : World) x n1 n2 n3, (Instr.buildSlice 82 4 #[(0, .agg #[.int .i64 2, .int .u64 0, x, .slice none 0 0]), (1, .agg #[.int .i64 1, .int .u64 n1, .slice none 0 0, .slice none 0 0]), (2, .agg #[.int .i64 1, .int .u64 n2, .slice none 0 0, .slice none 0 0]), (3, .agg #[.int .i64 1, .int .u64 n3, .slice none 0 0, .slice none 0 0])]).run P v = .ok (.slice (some ⟨v.heap.size, 0, none⟩) 4 4) (v.alloc (.cells #[.int .i64 2, .int .u64 0, x, .slice none 0 0, .int .i64 1, .int .u64 n1, .slice none 0 0, .slice none 0 0, .int .i64 1, .int .u64 n2, .slice none 0 0, .slice none 0 0, .int .i64 1, .int .u64 n3, .slice none 0 0, .slice none 0 0] 84 (0, 0))) from fun v x n1 n2 n3 => by go_simp)
      have FS := hid (show ∀ (v : World) xa xn xc, PutS w1.heap.size wr.heap.size (.cells #[.int .i64 3, .int .u64 0, .slice none 0 0, .slice a6 i c6] 84 (0, 0)) (.cells #[.int .i64 e.pk, .int .i64 e.pos, .int .i64 e.ln] 79 (0, 0)) v → (Instr.storeAt 82 (.pointer (some ⟨w1.heap.size, 3, none⟩)) (.slice xa xn xc)).run P v = .ok () (v.setCell ⟨w1.heap.size, 3, none⟩ (.slice xa xn xc)) from fun v xa xn xc hv => by have hc := cell_of_heap hv.1 3; have hf := frozen_of_row _ _ 3 _ _ hv.1; go_simp)
      go_upto_region 8 with (fail)
      rw [← hwx]
      have HWX := hid hwx
      have HBXX := hid hbx
      clear hwx hbx c0 c1 c2
      refine hg_start (PutS w1.heap.size wr.heap.size (.cells #[.int .i64 3, .int .u64 0, .slice none 0 0, .slice a6 i c6] 84 (0, 0)) (.cells #[.int .i64 e.pk, .int .i64 e.pos, .int .i64 e.ln] 79 (0, 0))) 22 mixed ?_
      refine hgt 0 24 kFA (84, .tmp 4, 3) (.pointer (some ⟨w1.heap.size, 3, none⟩)) (by kernel_rfl) (by kernel_rfl) (by kernel_rfl) (by kernel_rfl) (by exact fun _ _ _ h => h) (by kernel_rfl) (by kernel_rfl) HPS.out (fun o w' ho hs => ex_fa ho (by kernel_rfl) (F1.out _)) ?_
      refine hgt 1 25 kLoad (82, .tmp 24) (.slice a6 i c6) (by kernel_rfl) (by kernel_rfl) (by kernel_rfl) (by kernel_rfl) (by exact fun _ _ _ h => h) (by kernel_rfl) (by kernel_rfl) HPS.out (fun o w' ho hs => ex_load ho (by kernel_rfl) (F2.out _ hs)) ?_
      refine hgt 2 26 kMove (.tmp 0) (.slice (some ⟨b, off, none⟩) l.length c) (by kernel_rfl) (by kernel_rfl) (by kernel_rfl) (by kernel_rfl) (by exact fun _ _ _ h => h) (by kernel_rfl) (by kernel_rfl) HPS.out (fun o w' ho hs => ex_move ho (by kernel_rfl)) ?_
      refine hgt 3 27 kMove (.tmp 5) (.int .i64 (i : Int)) (by kernel_rfl) (by kernel_rfl) (by kernel_rfl) (by kernel_rfl) (by exact fun _ _ _ h => h) (by kernel_rfl) (by kernel_rfl) HPS.out (fun o w' ho hs => ex_move ho (by kernel_rfl)) ?_
      refine hgt 4 28 kIA (22, .tmp 26, .tmp 27) (.pointer (some ⟨b, off + i * k, none⟩)) (by kernel_rfl) (by kernel_rfl) (by kernel_rfl) (by kernel_rfl) (by exact fun _ _ _ h => h) (by kernel_rfl) (by kernel_rfl) HPS.out (fun o w' ho hs => ex_ia ho (by kernel_rfl) (by kernel_rfl) (F3.out _)) ?_
      refine hgt 5 29 kFA (81, .tmp 28, 0) (.pointer (some ⟨b, off + i * k, none⟩)) (by kernel_rfl) (by kernel_rfl) (by kernel_rfl) (by kernel_rfl) (by exact fun _ _ _ h => h) (by kernel_rfl) (by kernel_rfl) HPS.out (fun o w' ho hs => ex_fa ho (by kernel_rfl) (F4.out _)) ?_
      refine hgt 6 30 kSl (46, .tmp 29, none, none, none) (.slice (some ⟨b, off + i * k, none⟩) 32 32) (by kernel_rfl) (by kernel_rfl) (by kernel_rfl) (by kernel_rfl) (by exact fun _ _ _ h => h) (by kernel_rfl) (by kernel_rfl) HPS.out (fun o w' ho hs => ex_sl (l := none) (h' := none) (m := none) ho (by kernel_rfl) (by kernel_rfl) (by kernel_rfl) (by kernel_rfl) (F5.out _)) ?_
      refine hgt 7 31 kBuild (84, [(0, .const (.int .i64 2)), (2, .tmp 30)]) (.agg #[.int .i64 2, .int .u64 0, .slice (some ⟨b, off + i * k, none⟩) 32 32, .slice none 0 0]) (by kernel_rfl) (by kernel_rfl) (by kernel_rfl) (by kernel_rfl) (by exact fun _ _ _ h => h) (by kernel_rfl) (by kernel_rfl) HPS.out (fun o w' ho hs => ex_build (vs := [(0, .int .i64 2), (2, .slice (some ⟨b, off + i * k, none⟩) 32 32)]) ho (by kernel_rfl) (F6.out _ _ _ _)) ?_
      refine hgt 8 32 kFA (79, .tmp 6, 0) (.pointer (some ⟨wr.heap.size, 0, none⟩)) (by kernel_rfl) (by kernel_rfl) (by kernel_rfl) (by kernel_rfl) (by exact fun _ _ _ h => h) (by kernel_rfl) (by kernel_rfl) HPS.out (fun o w' ho hs => ex_fa ho (by kernel_rfl) (F70.out _)) ?_
      refine hgt 9 33 kLoad (3, .tmp 32) (.int .i64 e.pk) (by kernel_rfl) (by kernel_rfl) (by kernel_rfl) (by kernel_rfl) (by exact fun _ _ _ h => h) (by kernel_rfl) (by kernel_rfl) HPS.out (fun o w' ho hs => ex_load ho (by kernel_rfl) (F80.out _ hs)) ?_
      refine hgt 11 35 kFA (79, .tmp 6, 1) (.pointer (some ⟨wr.heap.size, 1, none⟩)) (by kernel_rfl) (by kernel_rfl) (by kernel_rfl) (by kernel_rfl) (by exact fun _ _ _ h => h) (by kernel_rfl) (by kernel_rfl) HPS.out (fun o w' ho hs => ex_fa ho (by kernel_rfl) (F71.out _)) ?_
      refine hgt 12 36 kLoad (3, .tmp 35) (.int .i64 e.pos) (by kernel_rfl) (by kernel_rfl) (by kernel_rfl) (by kernel_rfl) (by exact fun _ _ _ h => h) (by kernel_rfl) (by kernel_rfl) HPS.out (fun o w' ho hs => ex_load ho (by kernel_rfl) (F81.out _ hs)) ?_
      refine hgt 14 38 kFA (79, .tmp 6, 2) (.pointer (some ⟨wr.heap.size, 2, none⟩)) (by kernel_rfl) (by kernel_rfl) (by kernel_rfl) (by kernel_rfl) (by exact fun _ _ _ h => h) (by kernel_rfl) (by kernel_rfl) HPS.out (fun o w' ho hs => ex_fa ho (by kernel_rfl) (F72.out _)) ?_
      refine hgt 15 39 kLoad (3, .tmp 38) (.int .i64 e.ln) (by kernel_rfl) (by kernel_rfl) (by kernel_rfl) (by kernel_rfl) (by exact fun _ _ _ h => h) (by kernel_rfl) (by kernel_rfl) HPS.out (fun o w' ho hs => ex_load ho (by kernel_rfl) (F82.out _ hs)) ?_
      refine hg1 10 (by kernel_rfl) ?_
      refine hg_call 34 23 [.tmp 33] [.int .i64 e.pk] (by kernel_rfl) (by kernel_rfl) e_r10Number (CN.out _ (e.pk) (by omega) (by omega)) ?_
      rintro r v1 ⟨rfl, hb1⟩
      have PS1 := hid (HPS.out.on hb1)
      have BB1 := hid hb1
      clear hb1
      refine ⟨_, rfl, .inr PS1.out, ?_⟩
      refine hg1 13 (by kernel_rfl) ?_
      refine hg_call 37 23 [.tmp 36] [.int .i64 e.pos] (by kernel_rfl) (by kernel_rfl) e_r10Number (CN.out _ (e.pos) (by omega) (by omega)) ?_
      rintro r v2 ⟨rfl, hb2⟩
      have PS2 := hid (PS1.out.on hb2)
      have BB2 := hid hb2
      clear hb2
      refine ⟨_, rfl, .inr PS2.out, ?_⟩
      refine hg1 16 (by kernel_rfl) ?_
      refine hg_call 40 23 [.tmp 39] [.int .i64 e.ln] (by kernel_rfl) (by kernel_rfl) e_r10Number (CN.out _ (e.ln) (by omega) (by omega)) ?_
      rintro r v3 ⟨rfl, hb3⟩
      have PS3 := hid (PS2.out.on hb3)
      have BB3 := hid hb3
      clear hb3
      refine ⟨_, rfl, .inr PS3.out, ?_⟩
      have PS4 := hid (PS3.out.on ((Below.refl _ _).alloc (Nat.le_refl _) (.cells #[.int .i64 2, .int .u64 0, .slice (some ⟨b, off + i * k, none⟩) 32 32, .slice none 0 0, .int .i64 1, .int .u64 e.pk, .slice none 0 0, .slice none 0 0, .int .i64 1, .int .u64 e.pos, .slice none 0 0, .slice none 0 0, .int .i64 1, .int .u64 e.ln, .slice none 0 0, .slice none 0 0] 84 (0, 0))))
      refine hg1 17 (by kernel_rfl) ?_
      refine hg_val 41 kBS (82, 4, [(0, .tmp 31), (1, .tmp 34), (2, .tmp 37), (3, .tmp 40)]) (.slice (some ⟨v3.heap.size, 0, none⟩) 4 4) (by kernel_rfl) (fun o ho => ex_bs (vs := [(0, .agg #[.int .i64 2, .int .u64 0, .slice (some ⟨b, off + i * k, none⟩) 32 32, .slice none 0 0]), (1, .agg #[.int .i64 1, .int .u64 (e.pk), .slice none 0 0, .slice none 0 0]), (2, .agg #[.int .i64 1, .int .u64 (e.pos), .slice none 0 0, .slice none 0 0]), (3, .agg #[.int .i64 1, .int .u64 (e.ln), .slice none 0 0, .slice none 0 0])]) ho (by kernel_rfl) (FB.out v3 _ _ _ _)) (.inr PS4.out) ?_
      have HY4 := hid (heap_alloc_new v3 (.cells #[.int .i64 2, .int .u64 0, .slice (some ⟨b, off + i * k, none⟩) 32 32, .slice none 0 0, .int .i64 1, .int .u64 e.pk, .slice none 0 0, .slice none 0 0, .int .i64 1, .int .u64 e.pos, .slice none 0 0, .slice none 0 0, .int .i64 1, .int .u64 e.ln, .slice none 0 0, .slice none 0 0] 84 (0, 0)))
      have BB4 := hid (show Below v3.heap.size v3 (v3.alloc (.cells #[.int .i64 2, .int .u64 0, .slice (some ⟨b, off + i * k, none⟩) 32 32, .slice none 0 0, .int .i64 1, .int .u64 e.pk, .slice none 0 0, .slice none 0 0, .int .i64 1, .int .u64 e.pos, .slice none 0 0, .slice none 0 0, .int .i64 1, .int .u64 e.ln, .slice none 0 0, .slice none 0 0] 84 (0, 0))) from (Below.refl _ _).alloc (Nat.le_refl _) _)
      generalize v3.alloc (.cells #[.int .i64 2, .int .u64 0, .slice (some ⟨b, off + i * k, none⟩) 32 32, .slice none 0 0, .int .i64 1, .int .u64 e.pk, .slice none 0 0, .slice none 0 0, .int .i64 1, .int .u64 e.pos, .slice none 0 0, .slice none 0 0, .int .i64 1, .int .u64 e.ln, .slice none 0 0, .slice none 0 0] 84 (0, 0)) = v4 at *
      refine hg1 18 (by kernel_rfl) ?_
      refine hg_val 42 kBuild (84, [(0, .const (.int .i64 3)), (3, .tmp 41)]) (.agg #[.int .i64 3, .int .u64 0, .slice none 0 0, .slice (some ⟨v3.heap.size, 0, none⟩) 4 4]) (by kernel_rfl) (fun o ho => ex_build (vs := [(0, .int .i64 3), (3, .slice (some ⟨v3.heap.size, 0, none⟩) 4 4)]) ho (by kernel_rfl) (F9.out _ _ _ _)) (.inr PS4.out) ?_
      have PS5 := hid (PS4.out.on ((Below.refl _ _).alloc (Nat.le_refl _) (.cells #[.int .i64 3, .int .u64 0, .slice none 0 0, .slice (some ⟨v3.heap.size, 0, none⟩) 4 4] 84 (0, 0))))
      refine hg1 19 (by kernel_rfl) ?_
      refine hg_val 43 kBS (82, 1, [(0, .tmp 42)]) (.slice (some ⟨v4.heap.size, 0, none⟩) 1 1) (by kernel_rfl) (fun o ho => ex_bs (vs := [(0, .agg #[.int .i64 3, .int .u64 0, .slice none 0 0, .slice (some ⟨v3.heap.size, 0, none⟩) 4 4])]) ho (by kernel_rfl) (FA.out v4 _ _ _ _)) (.inr PS5.out) ?_
      have HZ5 := hid (heap_alloc_new v4 (.cells #[.int .i64 3, .int .u64 0, .slice none 0 0, .slice (some ⟨v3.heap.size, 0, none⟩) 4 4] 84 (0, 0)))
      have BB5 := hid (show Below v4.heap.size v4 (v4.alloc (.cells #[.int .i64 3, .int .u64 0, .slice none 0 0, .slice (some ⟨v3.heap.size, 0, none⟩) 4 4] 84 (0, 0))) from (Below.refl _ _).alloc (Nat.le_refl _) _)
      generalize v4.alloc (.cells #[.int .i64 3, .int .u64 0, .slice none 0 0, .slice (some ⟨v3.heap.size, 0, none⟩) 4 4] 84 (0, 0)) = v5 at *
      have BA := hid (Below.below (Below.below (Below.below (Below.below (Below.below (show Below wr.heap.size wr wx.drew from below_dN HBXX.out 1) BB1.out) BB2.out) BB3.out) BB4.out) BB5.out)
      refine hg1 20 (by kernel_rfl) ?_
      refine hg_app 44 (.tmp 25) (.tmp 43) 82 (.slice a6 i c6) (.slice (some ⟨v4.heap.size, 0, none⟩) 1 1) (by kernel_rfl) (by kernel_rfl) (by kernel_rfl) (fun ty => ?_)
      obtain ⟨v', v6, hr6, ho6, hf6, hm6⟩ := append_mine (P := P) (ty := ty) etV (Own.fr HO.out (Fr.of_below BA.out : Fr (fun _ => False) _ _) (fun _ _ h => h)) (S := fun _ => False) (row_atk HZ5.out rfl (by omega)) (by simp [Value.oneCell']) (by omega) (by have := lt_of_heap HX.out; have := BA.out.size; omega)
      obtain ⟨a6', c6', rfl, _⟩ := ho6.len
      have HNB : ¬ mine (.slice a6 i c6) w1.heap.size := fun hk => by have := (Own.mine_ge HO.out hk).1; omega
      have HNX : ¬ mine (.slice a6 i c6) wr.heap.size := fun hk => by have := (Own.mine_ge HO.out hk).2; omega
      have PS6 := hid (show PutS w1.heap.size wr.heap.size (.cells #[.int .i64 3, .int .u64 0, .slice none 0 0, .slice a6 i c6] 84 (0, 0)) (.cells #[.int .i64 e.pk, .int .i64 e.pos, .int .i64 e.ln] 79 (0, 0)) v6 from ⟨hf6.heap PS5.out.1 HNB, hf6.heap PS5.out.2 HNX⟩)
      have HO6 := hid (And.intro ho6 (And.intro hf6 hm6))
      clear ho6 hf6 hm6
      refine ⟨_, v6, hr6, .inr PS6.out, ?_⟩
      clear hr6
      refine hgt 21 45 kFA (84, .tmp 4, 3) (.pointer (some ⟨w1.heap.size, 3, none⟩)) (by kernel_rfl) (by kernel_rfl) (by kernel_rfl) (by kernel_rfl) (by exact fun _ _ _ h => h) (by kernel_rfl) (by kernel_rfl) PS6.out (fun o w' ho hs => ex_fa ho (by kernel_rfl) (F1.out _)) ?_
      refine hg1 22 (by kernel_rfl) ?_
      refine hg_store 82 (.tmp 45) (.tmp 44) (.pointer (some ⟨w1.heap.size, 3, none⟩)) (.slice a6' (i + 1) c6') (by kernel_rfl) (by kernel_rfl) (by kernel_rfl) (FS.out v6 _ _ _ PS6.out) (.inl rfl) ?_
      refine hg_done (by kernel_rfl) ?_
      have q40 : IntKind.i64.wrap ((i : Int) + 1) = (i : Int) + 1 := IntWalk.i64_in _ (by omega)
      clear F1 F2 F3 F4 F5 F6 F9 FA FB FS F70 F71 F72 F80 F81 F82
      go_wp2
      go_roundg (l.length - (i + 1))
      case measure => omega
      case rel =>
        obtain ⟨ho6, hf6, hm6⟩ := HO6.out
        have hBw : w.heap.size ≤ w1.heap.size := hz1
        have hXw := lt_of_heap HX.out
        have hz5 := BA.out.size
        have hz3 : wr.heap.size < v3.heap.size := by have h0 := HBXX.out.size; have h1 := BB1.out.size; have h2 := BB2.out.size; have h3 := BB3.out.size; have h4 := lt_of_heap HPS.out.2; simp at h1 h4; omega
        have hel : TVr (fun q => q = w1.heap.size ∨ mine (.slice a6 i c6) q) v5 (segTV e) [.int .i64 3, .int .u64 0, .slice none 0 0, .slice (some ⟨v3.heap.size, 0, none⟩) 4 4] := by
          refine segTV_lies (b := b) (o := off + i * k) (rightL_mem HRL.out (List.mem_of_getElem? HHE.out)) ((BB5.out.block _ (lt_of_heap HY4.out)).trans HY4.out) (fun hs => hs.elim (fun e => by omega) (fun hs => by have := (Own.mine_ge HO.out hs).2; omega)) (by have := HB.out.size; omega) (fun hs => hs.elim (fun e => by omega) (fun hs => by have := (Own.mine_ge HO.out hs).1; omega)) (fun j x hx => ?_)
          rw [L.hk]
          refine (BA.out.cell (p := ⟨b, off + i * 35 + j, none⟩) (by have := HB.out.size; show b < wr.heap.size; omega)).trans ((HB.out.cell (p := ⟨b, off + i * 35 + j, none⟩) hb).trans (HCL.out i e j _ HHE.out ?_))
          unfold entC
          have hj := (List.getElem?_eq_some_iff.1 hx).1
          rw [List.getElem?_append_left (by rw [bcells_length]; omega)]
          exact bcells_at hx
        have hold := TVch.fr (Fr.of_below BA.out : Fr (fun _ => False) _ _) (fun _ _ h => h.elim) _ _ HC.out
        have hall := TVch.shift (S' := fun q => q = w1.heap.size ∨ mine (.slice a6' (i + 1) c6') q) (hold.snoc hel) hf6 (fun q hq hs => .inr hs) (fun q hq hs => hs.elim .inl (fun hs => (hm6 q hs).elim .inr (fun h => by omega)))
        have hfs := (Fr.refl (· = w1.heap.size) v6).set1 3 (.slice a6' (i + 1) c6')
        have hall2 := TVch.fr hfs (fun q hq e => .inl e) _ _ hall
        have hsn : (l.take i).map segTV ++ [segTV e] = (l.take (i + 1)).map segTV := by rw [List.take_add_one, HHE.out]; simp
        rw [hsn] at hall2
        refine ⟨i + 1, a6', c6', _, by go_num, hlt, Nat.le_refl _, hid (heap_store PS6.out.1 3 (.slice a6' (i + 1) c6')), hid (Own.fr ho6 hfs (fun q hq e => by have := (Own.mine_ge ho6 hq).1; omega)), hid hall2, hid ?_⟩
        refine Below.fr (Below.fr (HB.out.trans (BA.out.mono HB.out.size)) hf6 (fun q hq hs => by have := (Own.mine_ge HO.out hs).1; omega)) hfs (fun q hq e => by omega)
    · obtain rfl : i = l.length := by omega
      have hch : TVv (fun _ => False) wr (segsTV l) (.agg #[.int .i64 3, .int .u64 0, .slice none 0 0, .slice a6 l.length c6]) := by
        refine ⟨_, _, _, _, rfl, ?_⟩
        rw [segsTV, TVr]
        have h2 := HC.out
        rw [List.take_of_length_le (Nat.le_refl _)] at h2
        exact ⟨by omega, _, _, ks, rfl, Bs.nil0' _ _, by rw [List.length_map]; exact HO.out.row (S := fun _ => False) (fun _ _ _ => id), TVch.mono (fun _ _ h => h.elim) _ _ h2⟩
      have hP := CP.out wr _ _ _ hch (putF_segs HRL.out)
      have hS := fun W base a c ho => CS.out W base a c _ ho (enc_segs_len HRL.out)
      have HP := hid hP
      have HS := hid hS
      have b0 := cell_of_heap HX.out 0
      have b1 := cell_of_heap HX.out 1
      have b2 := cell_of_heap HX.out 2
      have b3 := cell_of_heap HX.out 3
      simp at b0 b1 b2 b3
      have hle := HB.out.size
      clear hP hS hch
      generalize hbs : enc (segsTV l) = bs at *
      have HBS := hid hbs
      clear hbs
      go_wp2_with (first | (go_at_fn 24; refine HP.out.mono ?_; rintro e w3 ⟨a3, q3, rfl, ho3, hb3⟩; have B3 := hid (And.intro ho3 hb3); clear ho3 hb3) | (go_at_fn 25; refine (HS.out _ _ _ _ B3.out.1).mono ?_; rintro e w4 ⟨a4, q4, rfl, ho4, hb4⟩; have B4 := hid (And.intro ho4 hb4); clear ho4 hb4))
      go_ret2
      have z3 := B3.out.2.size
      have hbs := HBS.out
      subst hbs
      exact ⟨a4, q4, rfl, Own.mono B4.out.1 (by omega), (HB.out.trans (B3.out.2.mono hle)).trans (B4.out.2.mono (by omega))⟩
end Go.Proofs.Ytpomfegcifpfkaa
