/- crc's table that is filled. -/
import Derived.Test.YtdbpkiddiehliaaGreatProg
import Derived.Test.YtdbpkiddiehliaaGreatBase
import Derived.Test.YtdbpkiddiehliaaGreatHalf
import Derived.Outline
import Derived.Tactics
import Derived.Tactics2
import Derived.Defers
import Derived.Laws.Pointers
import Derived.Laws.LoneSync
import Derived.RegionTactic
import Derived.RegionCalls
import Derived.ChangeAlike
namespace Go.Proofs.YtdbpkiddiehliaaGreat
open Go Go.RowKit
/-- A table's cells with its first k rows laid. -/
def rowsTo (c : Array Value) : Nat → Array Value
  | 0 => c
  | k + 1 => (rowsTo c k).setIfInBounds (3 + k) (vu32 (crcRow k))
theorem rowsTo_size (c : Array Value) (k : Nat) : (rowsTo c k).size = c.size := by
  induction k with
  | zero => rfl
  | succ k ih => simp [rowsTo, ih]
theorem rowsTo_head (c : Array Value) (k j : Nat) (h : j < 3 ∨ 3 + k ≤ j) : (rowsTo c k)[j]? = c[j]? := by
  induction k with
  | zero => rfl
  | succ k ih => rw [rowsTo, Array.getElem?_setIfInBounds_ne (by omega)]; exact ih (by omega)
theorem rowsTo_row (c : Array Value) (k j : Nat) (h : j < k) (hs : 3 + k ≤ c.size) : (rowsTo c k)[3 + j]? = some (vu32 (crcRow j)) := by
  induction k with
  | zero => omega
  | succ k ih =>
    rw [rowsTo]
    by_cases e : j = k
    · subst e; rw [Array.getElem?_setIfInBounds_self_of_lt (by rw [rowsTo_size]; omega)]
    · rw [Array.getElem?_setIfInBounds_ne (by omega)]; exact ih (by omega) (by omega)

set_option maxRecDepth 100000 in
set_option maxHeartbeats 1000000 in
/-- '(*crc.Table).fill': all rows. -/
theorem fill_ok (t : Nat) (c : Array Value) (w : World) (hT : w.heap[t]? = some (.cells c 88 (0, 0))) (hsz : c.size = 260) :
    Calls Tryz.prog 81 #[.pointer (some ⟨t, 0, none⟩)] w fun e w' => e = .returned (.tuple #[]) ∧ w'.heap[t]? = some (.cells (rowsTo c 256) 88 (0, 0)) ∧ Fr (· = t) w w' := by
  have HT := hid hT
  have HZ := hid hsz
  clear hT hsz
  go_enter Tryz.func81, Tryz.ntmps81
  go_wp2
  go_loopw [2, 3, 4, 9] (fun _ _ i _ wr => ∃ k : Nat, k ≤ 256 ∧ i = .int .i64 k ∧ wr.heap[t]? = some (.cells (rowsTo c k) 88 (0, 0)) ∧ Fr (· = t) w wr) (fun _ _ i _ _ => 256 - (intOf i).toNat)
  case atStart => exact ⟨0, by omega, rfl, HT.out, Fr.refl _ _⟩
  case round =>
    obtain ⟨k, hk, rfl, hT, hF⟩ := hrel
    by_cases hlt : k < 256
    · have HT := hid hT
      clear hT
      have hd : decide ((k : Int) < 256) = true := by simp; omega
      go_wp2
      go_loop [3, 9] (fun r i => ∃ j : Nat, j ≤ 8 ∧ i = .int .i64 j ∧ r = vu32 (halfs j (BitVec.ofNat 32 k))) (fun _ i => 8 - (intOf i).toNat)
      case atStart => exact ⟨0, by omega, rfl, by rw [vu32, halfs, BitVec.toNat_ofNat, Nat.mod_eq_of_lt (by omega)]⟩
      case round =>
        obtain ⟨j, hj, rfl, rfl⟩ := hrel
        by_cases hj8 : j < 8
        · go_wp2_with (go_at_call 85; refine (half_ok _ _).mono ?_; rintro e w' ⟨rfl, rfl⟩)
          go_round
          case rel => exact ⟨j + 1, by omega, by go_num, rfl⟩
          case measure => simp [intOf]; omega
        · obtain rfl : j = 8 := by omega
          have hc := cell_of_heap HT.out (3 + k)
          have hz := frozen_of_row wr t (3 + k) _ _ HT.out
          have hs : (rowsTo c k)[3 + k]? = some ((rowsTo c k)[3 + k]'(by rw [rowsTo_size, HZ.out]; omega)) := Array.getElem?_eq_getElem _
          rw [hs] at hc
          have HH := heap_store HT.out (3 + k) (vu32 (crcRow k))
          have HH := hid HH
          clear hs
          generalize (rowsTo c k)[3 + k]'(by rw [rowsTo_size, HZ.out]; omega) = old at hc
          rw [show halfs 8 (BitVec.ofNat 32 k) = crcRow k from rfl]
          unfold vu32 at HH ⊢
          generalize hq : (crcRow k).toNat = q at *
          have HQ := hid hq
          clear hq
          go_wp2
          go_roundw
          case rel => exact ⟨k + 1, by omega, by go_num, by rw [rowsTo, vu32, HQ.out]; exact HH.out, hF.setCell (fun _ => rfl) _⟩
          case measure => simp [intOf]; omega
    · obtain rfl : k = 256 := by omega
      go_wp2
      go_end0
      exact ⟨rfl, hT, hF⟩
end Go.Proofs.YtdbpkiddiehliaaGreat
/- sync.Once and the lock in it, in one goroutine: each of its calls; and crc's table that is filled. -/
namespace Go.Proofs.YtdbpkiddiehliaaGreat
open Go Go.RowKit
theorem disable (w : World) : (callFunc 97 #[]).run Tryz.prog w = .ok (.value (.tuple #[])) w := run_call_mark0 Tryz.func97 (by kernel_rfl) (by kernel_rfl) (by kernel_rfl) .disable (by kernel_rfl) w
theorem enable (w : World) : (callFunc 99 #[]).run Tryz.prog w = .ok (.value (.tuple #[])) w := run_call_mark0 Tryz.func99 (by kernel_rfl) (by kernel_rfl) (by kernel_rfl) .enable (by kernel_rfl) w
theorem acquire (a : Addr) (w : World) : (callFunc 100 #[.pointer (some a)]).run Tryz.prog w = .ok (.value (.tuple #[])) w := run_call_marked Tryz.func100 (by kernel_rfl) (by kernel_rfl) (by kernel_rfl) .acquire (by kernel_rfl) a w
theorem releaseMerge (a : Addr) (w : World) : (callFunc 102 #[.pointer (some a)]).run Tryz.prog w = .ok (.value (.tuple #[])) w := run_call_marked Tryz.func102 (by kernel_rfl) (by kernel_rfl) (by kernel_rfl) .releaseMerge (by kernel_rfl) a w
/-- '(*sync/atomic.Bool).Store(true)', entered as a deferred call: the cell holds 1. -/
theorem store_deferred (a : Addr) (x : Value) (u : FrameMode) (w : World) (hc : w.cell? a = some x) (hz : w.frozen? a = false) :
    CallsD Tryz.prog 92 #[.pointer (some a), .bool true] u w fun e u' w' => u' = u ∧ (e = .returned (.tuple #[]) ∧ w' = w.drew.setCell a (.int .u32 1)) := by
  have hc' : w.drew.cell? a = some x := by go_simp
  have hz' : w.drew.frozen? a = false := by go_simp
  have hst := run_call_store (P := Tryz.prog) Tryz.func95 (by kernel_rfl) (by kernel_rfl) (by kernel_rfl) (by kernel_rfl) (k := .u32) (y := 1) hc' hz'
  go_enter_d Tryz.func92, Tryz.ntmps92
  go_wp2
  go_region_calls
  all_goals (go_end0; exact ⟨rfl, rfl⟩)
set_option maxRecDepth 100000 in
/-- '(*sync.Mutex).Unlock', entered as a deferred call, the lock held and nobody waiting: state 0. -/
theorem unlock_deferred (a : Addr) (u : FrameMode) (w : World) (hc : w.cell? a = some (.int .i32 1)) (hz : w.frozen? a = false) :
    CallsD Tryz.prog 91 #[.pointer (some a)] u w fun e u' w' => u' = u ∧ (e = .returned (.tuple #[]) ∧ w' = w.setCell a (.int .i32 0)) := by
  have hd := disable
  have he := enable
  have hr := releaseMerge
  have hadd := run_call_add (P := Tryz.prog) Tryz.func103 (by kernel_rfl) (by kernel_rfl) (by kernel_rfl) .i32 (by kernel_rfl) (y := -1) (s := 0) hc hz (by simp [go_sem]; rfl)
  have hcv := run_convert_to_unsafe (P := Tryz.prog) (src := 158) (dst := 162) Tryz.underlying158 Tryz.underlying162 (by kernel_rfl) hc
  go_enter_d Tryz.func91, Tryz.ntmps91
  go_wp2
  go_end0
  go_wp2
  go_end0
  exact ⟨rfl, rfl⟩
set_option maxRecDepth 100000 in
/-- '(*sync.Mutex).Lock', the lock free: state 1. -/
theorem lock_free (a : Addr) (w : World) (hc : w.cell? a = some (.int .i32 0)) (hz : w.frozen? a = false) :
    Calls Tryz.prog 90 #[.pointer (some a)] w fun e w' => e = .returned (.tuple #[]) ∧ w' = w.setCell a (.int .i32 1) := by
  have hd := disable
  have he := enable
  have ha := acquire
  have hcas := run_call_cas_hit (P := Tryz.prog) Tryz.func98 (by kernel_rfl) (by kernel_rfl) (by kernel_rfl) .i32 (by kernel_rfl) (y := 1) hc hz
  have hc' : (w.setCell a (.int .i32 1)).cell? a = some (.int .i32 1) := World.cell?_setCell_same w a _ hc
  have hcv := run_convert_to_unsafe (P := Tryz.prog) (src := 158) (dst := 162) Tryz.underlying158 Tryz.underlying162 (by kernel_rfl) hc'
  go_enter Tryz.func90, Tryz.ntmps90
  go_wp2
  first | go_end0 | (simp only [Exit.inBlock, Exit.then]; refine bodyPost_ret (results_none rfl _ _ _) rfl ?_) | refine bodyPost_ret (results_none rfl _ _ _) rfl ?_
  go_wp2
  go_end0
  exact ⟨rfl, rfl⟩

end Go.Proofs.YtdbpkiddiehliaaGreat
/- sync.Once's Do over crc's table: the first time it fills the table, later it does nothing. -/
namespace Go.Proofs.YtdbpkiddiehliaaGreat
open Go Go.RowKit
/-- A table's cells behind the first use. -/
def filled (c : Array Value) : Array Value := ((rowsTo (c.setIfInBounds 1 (.int .i32 1)) 256).setIfInBounds 0 (.int .u32 1)).setIfInBounds 1 (.int .i32 0)

set_option maxRecDepth 100000 in
set_option maxHeartbeats 1600000 in
theorem slow_ok (t : Nat) (c : Array Value) (w : World) (hT : w.heap[t]? = some (.cells c 88 (0, 0))) (hsz : c.size = 260) (h0 : c[0]? = some (.int .u32 0)) (h1 : c[1]? = some (.int .i32 0)) :
    Calls Tryz.prog 87 #[.pointer (some ⟨t, 0, none⟩), .func (.func 81) #[.pointer (some ⟨t, 0, none⟩)] #[]] w fun e w' => e = .returned (.tuple #[]) ∧
      w'.heap[t]? = some (.cells (filled c) 88 (0, 0)) ∧ Fr (· = t) w w' := by
  have c0 : w.cell? ⟨t, 0, none⟩ = some (.int .u32 0) := by rw [cell_of_heap hT]; exact h0
  have c1 : w.cell? ⟨t, 1, none⟩ = some (.int .i32 0) := by rw [cell_of_heap hT]; exact h1
  have f1 : w.frozen? ⟨t, 1, none⟩ = false := frozen_of_row w t 1 _ _ hT
  have HT1 := hid (heap_store hT 1 (.int .i32 1))
  have hl := run_call_load (P := Tryz.prog) Tryz.func89 (by kernel_rfl) (by kernel_rfl) (by kernel_rfl) .u32 (by kernel_rfl) (w := w.setCell ⟨t, 1, none⟩ (.int .i32 1)) (a := ⟨t, 0, none⟩) (x := 0) ((World.cell?_setCell_other _ ⟨t, 1, none⟩ ⟨t, 0, none⟩ _ (by simp)).trans c0)
  have hnot : ∀ (x : Bool) (w : World), (Op.unary .not (.bool x)).run Tryz.prog w = .ok (.bool (!x)) w := fun _ _ => rfl
  have HZ := hid hsz
  have HT0 := hid hT
  clear hT h0 h1 hsz
  go_enter_defers Tryz.func87, Tryz.ntmps87
  go_wp2_with (first | (go_at_call 90; refine (lock_free ⟨t, 1, none⟩ _ (by go_simp) (by go_simp)).mono ?_; rintro e w' ⟨rfl, rfl⟩) | (go_at_call 86; go_in))
  refine (fill_ok t _ _ HT1.out (by simpa using HZ.out)).mono ?_
  rintro e w2 ⟨rfl, hT2, hF2⟩
  have HT2 := hid hT2
  have HF2 := hid hF2
  clear hT2 hF2
  go_wp2
  have c20 : w2.cell? ⟨t, 0, none⟩ = some (.int .u32 0) := by
    rw [cell_of_heap HT2.out, rowsTo_head _ _ _ (by omega), Array.getElem?_setIfInBounds_ne (by omega), ← cell_of_heap HT0.out, c0]
  have f20 : w2.frozen? ⟨t, 0, none⟩ = false := frozen_of_row w2 t 0 _ _ HT2.out
  have hT3 := heap_store (w := w2.drew) (heap_drew w2 ▸ HT2.out) 0 (.int .u32 1)
  refine leaves_cons (f := 92) (args := #[.pointer (some ⟨t, 0, none⟩), .bool true]) (by simp) (by simp [go_sem]) ?_
  refine (store_deferred ⟨t, 0, none⟩ (.int .u32 0) .returning _ c20 f20).mono ?_
  rintro e u' w'' ⟨rfl, rfl, rfl⟩
  refine leaves_cons (f := 91) (args := #[.pointer (some ⟨t, 1, none⟩)]) (by simp [settle]) (by simp [go_sem]) ?_
  refine (unlock_deferred ⟨t, 1, none⟩ _ _ ?_ (frozen_of_row _ t 1 _ _ hT3)).mono ?_
  · rw [cell_of_heap hT3, Array.getElem?_setIfInBounds_ne (by omega), rowsTo_head _ _ _ (by omega), Array.getElem?_setIfInBounds_self_of_lt (by rw [HZ.out]; omega)]
  rintro e u' w'' ⟨rfl, rfl, rfl⟩
  have hF : Fr (· = t) w w2 := (((Fr.refl (· = t) w).setCell (p := ⟨t, 1, none⟩) (fun _ => rfl) (.int .i32 1))).trans HF2.out
  simp [Leaves, settle, results, Tryz.results87]
  exact ⟨heap_store hT3 1 _, (hF.drew.setCell (fun _ => rfl) _).setCell (fun _ => rfl) _⟩

set_option maxRecDepth 100000 in
set_option maxHeartbeats 1600000 in
theorem do_first (t : Nat) (c : Array Value) (w : World) (hT : w.heap[t]? = some (.cells c 88 (0, 0))) (hsz : c.size = 260) (h0 : c[0]? = some (.int .u32 0)) (h1 : c[1]? = some (.int .i32 0)) :
    Calls Tryz.prog 82 #[.pointer (some ⟨t, 0, none⟩), .func (.func 81) #[.pointer (some ⟨t, 0, none⟩)] #[]] w fun e w' => e = .returned (.tuple #[]) ∧
      w'.heap[t]? = some (.cells (filled c) 88 (0, 0)) ∧ Fr (· = t) w w' := by
  have HS := hid (slow_ok t c w hT hsz h0 h1)
  have c0 : w.cell? ⟨t, 0, none⟩ = some (.int .u32 0) := by rw [cell_of_heap hT]; exact h0
  have hl := run_call_load (P := Tryz.prog) Tryz.func89 (by kernel_rfl) (by kernel_rfl) (by kernel_rfl) .u32 (by kernel_rfl) c0
  have hnot : ∀ (x : Bool) (w : World), (Op.unary .not (.bool x)).run Tryz.prog w = .ok (.bool (!x)) w := fun _ _ => rfl
  clear hT hsz h0 h1
  go_enter Tryz.func82, Tryz.ntmps82
  go_wp2_with (first | (go_at_call 87; refine (HS.out).mono ?_; rintro e w' ⟨rfl, hT, hF⟩) | (go_at_call 86; go_in))
  go_end0
  exact ⟨rfl, hT, hF⟩

theorem do_again (t : Nat) (c : Array Value) (fv : Value) (w : World) (hT : w.heap[t]? = some (.cells c 88 (0, 0))) (h0 : c[0]? = some (.int .u32 1)) :
    Calls Tryz.prog 82 #[.pointer (some ⟨t, 0, none⟩), fv] w fun e w' => e = .returned (.tuple #[]) ∧ w = w' := by
  have c0 : w.cell? ⟨t, 0, none⟩ = some (.int .u32 1) := by rw [cell_of_heap hT]; exact h0
  have hl := run_call_load (P := Tryz.prog) Tryz.func89 (by kernel_rfl) (by kernel_rfl) (by kernel_rfl) .u32 (by kernel_rfl) c0
  have hnot : ∀ (x : Bool) (w : World), (Op.unary .not (.bool x)).run Tryz.prog w = .ok (.bool (!x)) w := fun _ _ => rfl
  clear hT h0
  go_enter Tryz.func82, Tryz.ntmps82
  go_wp2
  go_end0
  exact ⟨rfl, rfl⟩
end Go.Proofs.YtdbpkiddiehliaaGreat
