/- An entry of the document's equals itself. -/
import Derived.Test.YtpomfegcifpfkaaSegSort
import Derived.Deep.Slices
import Derived.WideShapes
namespace Go.Proofs.Ytpomfegcifpfkaa
open Go Go.RowKit
theorem entC_take (e : Ent) : (entC e).toArray.extract 0 32 = (bcells e.nm.1).toArray := by
  have h : (bcells e.nm.1).length = 32 := by rw [bcells_length, e.nm.2]
  unfold entC
  simp [← h]
theorem entC_drop (e : Ent) : (entC e).toArray.extract 32 35 = #[.int .i64 e.pk, .int .i64 e.pos, .int .i64 e.ln] := by
  have h : (bcells e.nm.1).length = 32 := by rw [bcells_length, e.nm.2]
  unfold entC
  simp [← h]
  rw [h]; rfl
set_option maxRecDepth 1000000 in
theorem eq_rwhere (x y z : Int) (w : World) : (Op.equalIn 9999 79 (.agg #[.int .i64 x, .int .i64 y, .int .i64 z]) (.agg #[.int .i64 x, .int .i64 y, .int .i64 z])).run Try.prog w = .ok true w := by
  have h1 := run_equalIn_agg (P := Try.prog) w 9998 79 #[.int .i64 x, .int .i64 y, .int .i64 z] #[.int .i64 x, .int .i64 y, .int .i64 z] Try.underlying79 (by kernel_rfl)
  rw [h1]
  have hi : ∀ (a b : Int) (w : World), (Op.equalIn 9998 3 (.int .i64 a) (.int .i64 b)).run Try.prog w = .ok (a == b) w := fun a b w => run_equalIn_int w 9997 3 .i64 .i64 a b Try.underlying3
  have hf : (Try.prog.fieldsOf 79).toList = [{ name := "Pack", type := 3, offset := 0, embedded := false, tag := "", pkgPath := "", byteOffset := 0 }, { name := "At", type := 3, offset := 1, embedded := false, tag := "", pkgPath := "", byteOffset := 8 }, { name := "Len", type := 3, offset := 2, embedded := false, tag := "", pkgPath := "", byteOffset := 16 }] := by
    unfold Program.fieldsOf; rw [Try.underlying79]
  have p0 : ∀ w : World, (part 3 #[.int .i64 x, .int .i64 y, .int .i64 z] 0).run Try.prog w = .ok (.int .i64 x) w := fun w => by simp [part, Try.isAgg3]
  have p1 : ∀ w : World, (part 3 #[.int .i64 x, .int .i64 y, .int .i64 z] 1).run Try.prog w = .ok (.int .i64 y) w := fun w => by simp [part, Try.isAgg3]
  have p2 : ∀ w : World, (part 3 #[.int .i64 x, .int .i64 y, .int .i64 z] 2).run Try.prog w = .ok (.int .i64 z) w := fun w => by simp [part, Try.isAgg3]
  rw [hf]
  simp [Op.eqFields, Sem.run_bind, p0, p1, p2, hi, Result.andThen_ok, Sem.run_ite, Sem.run_pure]
set_option maxRecDepth 1000000 in
theorem eq_rent (e : Ent) (w : World) : (Op.equalIn 10000 81 (.agg (entC e).toArray) (.agg (entC e).toArray)).run Try.prog w = .ok true w := by
  have h1 := run_equalIn_agg (P := Try.prog) w 9999 81 (entC e).toArray (entC e).toArray Try.underlying81 (by kernel_rfl)
  rw [h1]
  have hh : ∀ w : World, (Op.equalIn 9999 46 (.agg (bcells e.nm.1).toArray) (.agg (bcells e.nm.1).toArray)).run Try.prog w = .ok true w := fun w => by
    have := run_equalIn_bytes (P := Try.prog) w 9997 46 5 32 Try.underlying46 Try.underlying5 Try.sizeOf5 e.nm.1 e.nm.1 e.nm.2 e.nm.2
    exact this.trans (by simp)
  have hf : (Try.prog.fieldsOf 81).toList = [{ name := "Name", type := 46, offset := 0, embedded := false, tag := "", pkgPath := "", byteOffset := 0 }, { name := "W", type := 79, offset := 32, embedded := false, tag := "", pkgPath := "", byteOffset := 32 }] := by
    unfold Program.fieldsOf; rw [Try.underlying81]
  have p0 : ∀ w : World, (part 46 (entC e).toArray 0).run Try.prog w = .ok (.agg (bcells e.nm.1).toArray) w := fun w => by
    simp only [part, Sem.run_bind, Try.isAgg46, Try.sizeOf46, Result.andThen_ok, Sem.run_ite, Sem.run_pure, if_true]
    rw [← entC_take e]
  have p1 : ∀ w : World, (part 79 (entC e).toArray 32).run Try.prog w = .ok (.agg #[.int .i64 e.pk, .int .i64 e.pos, .int .i64 e.ln]) w := fun w => by
    simp only [part, Sem.run_bind, Try.isAgg79, Try.sizeOf79, Result.andThen_ok, Sem.run_ite, Sem.run_pure, if_true]
    rw [← entC_drop e]
  rw [hf]
  simp [Op.eqFields, Sem.run_bind, p0, p1, hh, eq_rwhere, Result.andThen_ok, Sem.run_ite, Sem.run_pure]
end Go.Proofs.Ytpomfegcifpfkaa
