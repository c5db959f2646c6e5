/- An entry of the document's equals itself. -/
import Derived.Test.YtdbpkiddiehliaaGreatSegSort
import Derived.Deep.Slices
import Derived.WideShapes
namespace Go.Proofs.YtdbpkiddiehliaaGreat
open Go Go.RowKit
theorem entC_take (e : Ent) : (entC e).toArray.extract 0 32 = (bcells e.nm.1).toArray := by
  have h : (bcells e.nm.1).length = 32 := by rw [bcells_length, e.nm.2]
  unfold entC
  simp [← h]
theorem entC_drop (e : Ent) : (entC e).toArray.extract 32 35 = #[.int .i64 e.pk, .int .i64 e.pos, .int .i64 e.ln] := by
  have h : (bcells e.nm.1).length = 32 := by rw [bcells_length, e.nm.2]
  unfold entC
  simp [← h]
  rw [h]; rfl
set_option maxRecDepth 1000000 in
theorem eq_rwhere (x y z : Int) (w : World) : (Op.equalIn 9999 33 (.agg #[.int .i64 x, .int .i64 y, .int .i64 z]) (.agg #[.int .i64 x, .int .i64 y, .int .i64 z])).run Tryz.prog w = .ok true w := by
  have h1 := run_equalIn_agg (P := Tryz.prog) w 9998 33 #[.int .i64 x, .int .i64 y, .int .i64 z] #[.int .i64 x, .int .i64 y, .int .i64 z] Tryz.underlying33 (by kernel_rfl)
  rw [h1]
  have hi : ∀ (a b : Int) (w : World), (Op.equalIn 9998 3 (.int .i64 a) (.int .i64 b)).run Tryz.prog w = .ok (a == b) w := fun a b w => run_equalIn_int w 9997 3 .i64 .i64 a b Tryz.underlying3
  have hf : (Tryz.prog.fieldsOf 33).toList = [{ name := "Pack", type := 3, offset := 0, embedded := false, tag := "", pkgPath := "", byteOffset := 0 }, { name := "At", type := 3, offset := 1, embedded := false, tag := "", pkgPath := "", byteOffset := 8 }, { name := "Len", type := 3, offset := 2, embedded := false, tag := "", pkgPath := "", byteOffset := 16 }] := by
    unfold Program.fieldsOf; rw [Tryz.underlying33]
  have p0 : ∀ w : World, (part 3 #[.int .i64 x, .int .i64 y, .int .i64 z] 0).run Tryz.prog w = .ok (.int .i64 x) w := fun w => by simp [part, Tryz.isAgg3]
  have p1 : ∀ w : World, (part 3 #[.int .i64 x, .int .i64 y, .int .i64 z] 1).run Tryz.prog w = .ok (.int .i64 y) w := fun w => by simp [part, Tryz.isAgg3]
  have p2 : ∀ w : World, (part 3 #[.int .i64 x, .int .i64 y, .int .i64 z] 2).run Tryz.prog w = .ok (.int .i64 z) w := fun w => by simp [part, Tryz.isAgg3]
  rw [hf]
  simp [Op.eqFields, Sem.run_bind, p0, p1, p2, hi, Result.andThen_ok, Sem.run_ite, Sem.run_pure]
set_option maxRecDepth 1000000 in
theorem eq_rent (e : Ent) (w : World) : (Op.equalIn 10000 61 (.agg (entC e).toArray) (.agg (entC e).toArray)).run Tryz.prog w = .ok true w := by
  have h1 := run_equalIn_agg (P := Tryz.prog) w 9999 61 (entC e).toArray (entC e).toArray Tryz.underlying61 (by kernel_rfl)
  rw [h1]
  have hh : ∀ w : World, (Op.equalIn 9999 24 (.agg (bcells e.nm.1).toArray) (.agg (bcells e.nm.1).toArray)).run Tryz.prog w = .ok true w := fun w => by
    have := run_equalIn_bytes (P := Tryz.prog) w 9997 24 5 32 Tryz.underlying24 Tryz.underlying5 Tryz.sizeOf5 e.nm.1 e.nm.1 e.nm.2 e.nm.2
    exact this.trans (by simp)
  have hf : (Tryz.prog.fieldsOf 61).toList = [{ name := "Name", type := 24, offset := 0, embedded := false, tag := "", pkgPath := "", byteOffset := 0 }, { name := "W", type := 33, offset := 32, embedded := false, tag := "", pkgPath := "", byteOffset := 32 }] := by
    unfold Program.fieldsOf; rw [Tryz.underlying61]
  have p0 : ∀ w : World, (part 24 (entC e).toArray 0).run Tryz.prog w = .ok (.agg (bcells e.nm.1).toArray) w := fun w => by
    simp only [part, Sem.run_bind, Tryz.isAgg24, Tryz.sizeOf24, Result.andThen_ok, Sem.run_ite, Sem.run_pure, if_true]
    rw [← entC_take e]
  have p1 : ∀ w : World, (part 33 (entC e).toArray 32).run Tryz.prog w = .ok (.agg #[.int .i64 e.pk, .int .i64 e.pos, .int .i64 e.ln]) w := fun w => by
    simp only [part, Sem.run_bind, Tryz.isAgg33, Tryz.sizeOf33, Result.andThen_ok, Sem.run_ite, Sem.run_pure, if_true]
    rw [← entC_drop e]
  rw [hf]
  simp [Op.eqFields, Sem.run_bind, p0, p1, hh, eq_rwhere, Result.andThen_ok, Sem.run_ite, Sem.run_pure]
end Go.Proofs.YtdbpkiddiehliaaGreat
