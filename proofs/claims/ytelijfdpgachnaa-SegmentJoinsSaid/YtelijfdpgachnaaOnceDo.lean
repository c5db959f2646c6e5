/- sync.Once's Do over crc's table: the first time it fills the table, later it does nothing. -/
import Derived.Test.YtelijfdpgachnaaOnce
import Derived.Test.YtelijfdpgachnaaFill
namespace Go.Proofs.Ytelijfdpgachnaa
open Go Go.RowKit
/-- A table's cells behind the first use. -/
def filled (c : Array Value) : Array Value := ((rowsTo (c.setIfInBounds 1 (.int .i32 1)) 256).setIfInBounds 0 (.int .u32 1)).setIfInBounds 1 (.int .i32 0)

set_option maxRecDepth 100000 in
set_option maxHeartbeats 1600000 in
theorem slow_ok (t : Nat) (c : Array Value) (w : World) (hT : w.heap[t]? = some (.cells c 108 (0, 0))) (hsz : c.size = 260) (h0 : c[0]? = some (.int .u32 0)) (h1 : c[1]? = some (.int .i32 0)) :
    Calls Try.prog 178 #[.pointer (some ⟨t, 0, none⟩), .func (.func 167) #[.pointer (some ⟨t, 0, none⟩)] #[]] w fun e w' => e = .returned (.tuple #[]) ∧
      w'.heap[t]? = some (.cells (filled c) 108 (0, 0)) ∧ Fr (· = t) w w' := by
  have c0 : w.cell? ⟨t, 0, none⟩ = some (.int .u32 0) := by rw [cell_of_heap hT]; exact h0
  have c1 : w.cell? ⟨t, 1, none⟩ = some (.int .i32 0) := by rw [cell_of_heap hT]; exact h1
  have f1 : w.frozen? ⟨t, 1, none⟩ = false := frozen_of_row w t 1 _ _ hT
  have HT1 := hid (heap_store hT 1 (.int .i32 1))
  have hl := run_call_load (P := Try.prog) Try.func180 (by kernel_rfl) (by kernel_rfl) (by kernel_rfl) .u32 (by kernel_rfl) (w := w.setCell ⟨t, 1, none⟩ (.int .i32 1)) (a := ⟨t, 0, none⟩) (x := 0) ((World.cell?_setCell_other _ ⟨t, 1, none⟩ ⟨t, 0, none⟩ _ (by simp)).trans c0)
  have hnot : ∀ (x : Bool) (w : World), (Op.unary .not (.bool x)).run Try.prog w = .ok (.bool (!x)) w := fun _ _ => rfl
  have HZ := hid hsz
  have HT0 := hid hT
  clear hT h0 h1 hsz
  go_enter_defers Try.func178, Try.ntmps178
  go_wp2_with (first | (go_at_call 181; refine (lock_free ⟨t, 1, none⟩ _ (by go_simp) (by go_simp)).mono ?_; rintro e w' ⟨rfl, rfl⟩) | (go_at_call 177; go_in))
  refine (fill_ok t _ _ HT1.out (by simpa using HZ.out)).mono ?_
  rintro e w2 ⟨rfl, hT2, hF2⟩
  have HT2 := hid hT2
  have HF2 := hid hF2
  clear hT2 hF2
  go_wp2
  have c20 : w2.cell? ⟨t, 0, none⟩ = some (.int .u32 0) := by
    rw [cell_of_heap HT2.out, rowsTo_head _ _ _ (by omega), Array.getElem?_setIfInBounds_ne (by omega), ← cell_of_heap HT0.out, c0]
  have f20 : w2.frozen? ⟨t, 0, none⟩ = false := frozen_of_row w2 t 0 _ _ HT2.out
  have hT3 := heap_store (w := w2.drew) (heap_drew w2 ▸ HT2.out) 0 (.int .u32 1)
  refine leaves_cons (f := 183) (args := #[.pointer (some ⟨t, 0, none⟩), .bool true]) (by simp) (by simp [go_sem]) ?_
  refine (store_deferred ⟨t, 0, none⟩ (.int .u32 0) .returning _ c20 f20).mono ?_
  rintro e u' w'' ⟨rfl, rfl, rfl⟩
  refine leaves_cons (f := 182) (args := #[.pointer (some ⟨t, 1, none⟩)]) (by simp [settle]) (by simp [go_sem]) ?_
  refine (unlock_deferred ⟨t, 1, none⟩ _ _ ?_ (frozen_of_row _ t 1 _ _ hT3)).mono ?_
  · rw [cell_of_heap hT3, Array.getElem?_setIfInBounds_ne (by omega), rowsTo_head _ _ _ (by omega), Array.getElem?_setIfInBounds_self_of_lt (by rw [HZ.out]; omega)]
  rintro e u' w'' ⟨rfl, rfl, rfl⟩
  have hF : Fr (· = t) w w2 := (((Fr.refl (· = t) w).setCell (p := ⟨t, 1, none⟩) (fun _ => rfl) (.int .i32 1))).trans HF2.out
  simp [Leaves, settle, results, Try.results178]
  exact ⟨heap_store hT3 1 _, (hF.drew.setCell (fun _ => rfl) _).setCell (fun _ => rfl) _⟩

set_option maxRecDepth 100000 in
set_option maxHeartbeats 1600000 in
theorem do_first (t : Nat) (c : Array Value) (w : World) (hT : w.heap[t]? = some (.cells c 108 (0, 0))) (hsz : c.size = 260) (h0 : c[0]? = some (.int .u32 0)) (h1 : c[1]? = some (.int .i32 0)) :
    Calls Try.prog 168 #[.pointer (some ⟨t, 0, none⟩), .func (.func 167) #[.pointer (some ⟨t, 0, none⟩)] #[]] w fun e w' => e = .returned (.tuple #[]) ∧
      w'.heap[t]? = some (.cells (filled c) 108 (0, 0)) ∧ Fr (· = t) w w' := by
  have HS := hid (slow_ok t c w hT hsz h0 h1)
  have c0 : w.cell? ⟨t, 0, none⟩ = some (.int .u32 0) := by rw [cell_of_heap hT]; exact h0
  have hl := run_call_load (P := Try.prog) Try.func180 (by kernel_rfl) (by kernel_rfl) (by kernel_rfl) .u32 (by kernel_rfl) c0
  have hnot : ∀ (x : Bool) (w : World), (Op.unary .not (.bool x)).run Try.prog w = .ok (.bool (!x)) w := fun _ _ => rfl
  clear hT hsz h0 h1
  go_enter Try.func168, Try.ntmps168
  go_wp2_with (first | (go_at_call 178; refine (HS.out).mono ?_; rintro e w' ⟨rfl, hT, hF⟩) | (go_at_call 177; go_in))
  go_end0
  exact ⟨rfl, hT, hF⟩

theorem do_again (t : Nat) (c : Array Value) (fv : Value) (w : World) (hT : w.heap[t]? = some (.cells c 108 (0, 0))) (h0 : c[0]? = some (.int .u32 1)) :
    Calls Try.prog 168 #[.pointer (some ⟨t, 0, none⟩), fv] w fun e w' => e = .returned (.tuple #[]) ∧ w = w' := by
  have c0 : w.cell? ⟨t, 0, none⟩ = some (.int .u32 1) := by rw [cell_of_heap hT]; exact h0
  have hl := run_call_load (P := Try.prog) Try.func180 (by kernel_rfl) (by kernel_rfl) (by kernel_rfl) .u32 (by kernel_rfl) c0
  have hnot : ∀ (x : Bool) (w : World), (Op.unary .not (.bool x)).run Try.prog w = .ok (.bool (!x)) w := fun _ _ => rfl
  clear hT h0
  go_enter Try.func168, Try.ntmps168
  go_wp2
  go_end0
  exact ⟨rfl, rfl⟩
end Go.Proofs.Ytelijfdpgachnaa
