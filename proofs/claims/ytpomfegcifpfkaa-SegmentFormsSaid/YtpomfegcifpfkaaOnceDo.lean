/- The check sum of 32 bits as plain functions on bit vectors: a register halved, the table's row, a byte taken in; what the model's operations on uint32 are in these words. -/
import Derived.WalkKit
import Derived.Test.YtpomfegcifpfkaaProg
import Derived.Outline
import Derived.Test.YtpomfegcifpfkaaBase
import Derived.Tactics
import Derived.Tactics2
import Derived.Defers
import Derived.Laws.Pointers
import Derived.Laws.LoneSync
import Derived.RegionTactic
import Derived.RegionCalls
import Derived.ChangeAlike
namespace Go.Proofs.Ytpomfegcifpfkaa
open Go Go.RowKit

/-- A 32-bit register, one bit down. -/
def half (r : BitVec 32) : BitVec 32 := if r.getLsbD 0 then (r >>> 1) ^^^ 0x82f63b78#32 else r >>> 1
/-- k bits down. -/
def halfs : Nat → BitVec 32 → BitVec 32
  | 0, r => r
  | k + 1, r => half (halfs k r)
/-- The table's row i. -/
def crcRow (i : Nat) : BitVec 32 := halfs 8 (BitVec.ofNat 32 i)
/-- One byte through a register, by the table. -/
def crcByte (r : BitVec 32) (c : UInt8) : BitVec 32 := crcRow ((r.toNat % 256) ^^^ c.toNat) ^^^ (r >>> 8)
def crcRun (r : BitVec 32) (l : List UInt8) : BitVec 32 := l.foldl crcByte r
def crcMore (s : BitVec 32) (l : List UInt8) : BitVec 32 := ~~~ crcRun (~~~ s) l
def crcSum (l : List UInt8) : BitVec 32 := crcMore 0 l
/-- A register as a value. -/
def vu32 (r : BitVec 32) : Value := .int .u32 (r.toNat : Int)

theorem ofInt_u32 (r : BitVec 32) : BitVec.ofInt 32 (r.toNat : Int) = r := by
  rw [BitVec.ofInt_natCast]; simp
theorem wrap_u32_id (n : Nat) (h : n < 4294967296) : IntKind.u32.wrap (n : Int) = n := by
  simp [IntKind.wrap, IntKind.signed, IntKind.bits]; omega
theorem bits_xor_u32 (a b : BitVec 32) : bits .xor .u32 (a.toNat : Int) (b.toNat : Int) = ((a ^^^ b).toNat : Int) := by
  show IntKind.u32.wrap ((BitVec.ofInt 32 (a.toNat : Int) ^^^ BitVec.ofInt 32 (b.toNat : Int)).toNat : Int) = _
  rw [ofInt_u32, ofInt_u32, wrap_u32_id _ (BitVec.isLt _)]
theorem bits_and_u32 (a b : BitVec 32) : bits .and .u32 (a.toNat : Int) (b.toNat : Int) = ((a &&& b).toNat : Int) := by
  show IntKind.u32.wrap ((BitVec.ofInt 32 (a.toNat : Int) &&& BitVec.ofInt 32 (b.toNat : Int)).toNat : Int) = _
  rw [ofInt_u32, ofInt_u32, wrap_u32_id _ (BitVec.isLt _)]
theorem shr_u32 (r : BitVec 32) (k : Nat) : ((r.toNat : Int) / (2 ^ k : Nat)) = ((r >>> k).toNat : Int) := by
  rw [BitVec.toNat_ushiftRight, Nat.shiftRight_eq_div_pow]; rfl
theorem and_one_u32 (r : BitVec 32) : ((bits .and .u32 (r.toNat : Int) 1 == 1) = r.getLsbD 0) := by
  have h := bits_and_u32 r 1#32
  rw [show ((1#32).toNat : Int) = 1 from rfl] at h
  rw [h]
  have e : (r &&& 1#32).toNat = r.toNat % 2 := by
    rw [BitVec.toNat_and]; show r.toNat &&& 1 = _; rw [Nat.and_one_is_mod]
  rw [e]
  rw [BitVec.getLsbD, Nat.testBit_zero]
  have := Nat.mod_two_eq_zero_or_one r.toNat
  rcases this with h | h <;> simp [h]
theorem half_odd (r : BitVec 32) (h : r.getLsbD 0 = true) : bits .xor .u32 ((r.toNat : Int) / 2) 2197175160 = ((half r).toNat : Int) := by
  have e := shr_u32 r 1
  rw [show ((2 ^ 1 : Nat) : Int) = 2 from rfl] at e
  rw [e]
  have h2 := bits_xor_u32 (r >>> 1) 0x82f63b78#32
  rw [show ((0x82f63b78#32).toNat : Int) = 2197175160 from rfl] at h2
  rw [h2, half, if_pos h]
theorem half_even (r : BitVec 32) (h : r.getLsbD 0 = false) : ((r.toNat : Int) / 2) = ((half r).toNat : Int) := by
  have e := shr_u32 r 1
  rw [show ((2 ^ 1 : Nat) : Int) = 2 from rfl] at e
  rw [e, half, if_neg (by rw [h]; exact Bool.false_ne_true)]
theorem halfs_succ' (k : Nat) (r : BitVec 32) : half (halfs k r) = halfs (k + 1) r := rfl

/-- The row that a byte asks of a register. -/
def crcAt (r : BitVec 32) (c : UInt8) : Nat := (r.toNat % 256) ^^^ c.toNat
theorem crcAt_lt (r : BitVec 32) (c : UInt8) : crcAt r c < 256 :=
  Nat.xor_lt_two_pow (n := 8) (Nat.mod_lt _ (by decide)) c.toNat_lt
theorem ofInt_u8 (n : Nat) (h : n < 256) : (BitVec.ofInt 8 (n : Int)).toNat = n := by
  rw [BitVec.ofInt_natCast, BitVec.toNat_ofNat]; exact Nat.mod_eq_of_lt h
theorem bits_xor_u8 (a b : Nat) (ha : a < 256) (hb : b < 256) : bits .xor .u8 (a : Int) (b : Int) = ((a ^^^ b : Nat) : Int) := by
  have hx : a ^^^ b < 256 := Nat.xor_lt_two_pow (n := 8) ha hb
  show IntKind.u8.wrap ((BitVec.ofInt 8 (a : Int) ^^^ BitVec.ofInt 8 (b : Int)).toNat : Int) = _
  rw [BitVec.toNat_xor, ofInt_u8 a ha, ofInt_u8 b hb]
  simp [IntKind.wrap, IntKind.signed, IntKind.bits]; omega
theorem crcAt_bits (r : BitVec 32) (c : UInt8) : bits .xor .u8 ((r.toNat : Int) % 256) (c.toNat : Int) = (crcAt r c : Int) :=
  bits_xor_u8 (r.toNat % 256) c.toNat (Nat.mod_lt _ (by decide)) c.toNat_lt
theorem crcByte_bits (r : BitVec 32) (c : UInt8) : bits .xor .u32 ((crcRow (crcAt r c)).toNat : Int) ((r.toNat : Int) / 256) = ((crcByte r c).toNat : Int) := by
  have e := shr_u32 r 8
  rw [show ((2 ^ 8 : Nat) : Int) = 256 from rfl] at e
  rw [e, bits_xor_u32]; rfl
theorem crcRun_snoc (r : BitVec 32) (l : List UInt8) (k : Nat) (h : k < l.length) : crcRun r (l.take (k + 1)) = crcByte (crcRun r (l.take k)) l[k] := by
  rw [List.take_succ_eq_append_getElem h, crcRun, List.foldl_append]; rfl
end Go.Proofs.Ytpomfegcifpfkaa
/- crc's half: a register, one bit down. -/
namespace Go.Proofs.Ytpomfegcifpfkaa
open Go Go.RowKit
set_option maxHeartbeats 400000 in
theorem half_ok (r : BitVec 32) (w : World) : Calls Try.prog 73 #[vu32 r] w fun e w' => e = .returned (vu32 (half r)) ∧ w = w' := by
  have hb : (0 : Int) ≤ (r.toNat : Int) := by omega
  have hb2 : (r.toNat : Int) < 4294967296 := by have := r.isLt; omega
  have ho := and_one_u32 r
  unfold vu32
  cases hr : r.getLsbD 0
  · rw [hr] at ho
    have H := half_even r hr
    clear hr
    go_enter Try.func73, Try.ntmps73
    go_wp2
    go_ret
    exact ⟨by rw [← H]; simp, rfl⟩
  · rw [hr] at ho
    have H := half_odd r hr
    clear hr
    go_enter Try.func73, Try.ntmps73
    go_wp2
    go_ret
    exact ⟨by rw [← H]; simp, rfl⟩
end Go.Proofs.Ytpomfegcifpfkaa
/- crc's table that is filled. -/
namespace Go.Proofs.Ytpomfegcifpfkaa
open Go Go.RowKit
/-- A table's cells with its first k rows laid. -/
def rowsTo (c : Array Value) : Nat → Array Value
  | 0 => c
  | k + 1 => (rowsTo c k).setIfInBounds (3 + k) (vu32 (crcRow k))
theorem rowsTo_size (c : Array Value) (k : Nat) : (rowsTo c k).size = c.size := by
  induction k with
  | zero => rfl
  | succ k ih => simp [rowsTo, ih]
theorem rowsTo_head (c : Array Value) (k j : Nat) (h : j < 3 ∨ 3 + k ≤ j) : (rowsTo c k)[j]? = c[j]? := by
  induction k with
  | zero => rfl
  | succ k ih => rw [rowsTo, Array.getElem?_setIfInBounds_ne (by omega)]; exact ih (by omega)
theorem rowsTo_row (c : Array Value) (k j : Nat) (h : j < k) (hs : 3 + k ≤ c.size) : (rowsTo c k)[3 + j]? = some (vu32 (crcRow j)) := by
  induction k with
  | zero => omega
  | succ k ih =>
    rw [rowsTo]
    by_cases e : j = k
    · subst e; rw [Array.getElem?_setIfInBounds_self_of_lt (by rw [rowsTo_size]; omega)]
    · rw [Array.getElem?_setIfInBounds_ne (by omega)]; exact ih (by omega) (by omega)

set_option maxRecDepth 100000 in
set_option maxHeartbeats 1000000 in
/-- '(*crc.Table).fill': all rows. -/
theorem fill_ok (t : Nat) (c : Array Value) (w : World) (hT : w.heap[t]? = some (.cells c 70 (0, 0))) (hsz : c.size = 260) :
    Calls Try.prog 69 #[.pointer (some ⟨t, 0, none⟩)] w fun e w' => e = .returned (.tuple #[]) ∧ w'.heap[t]? = some (.cells (rowsTo c 256) 70 (0, 0)) ∧ Fr (· = t) w w' := by
  have HT := hid hT
  have HZ := hid hsz
  clear hT hsz
  go_enter Try.func69, Try.ntmps69
  go_wp2
  go_loopw [2, 3, 4, 9] (fun _ _ i _ wr => ∃ k : Nat, k ≤ 256 ∧ i = .int .i64 k ∧ wr.heap[t]? = some (.cells (rowsTo c k) 70 (0, 0)) ∧ Fr (· = t) w wr) (fun _ _ i _ _ => 256 - (intOf i).toNat)
  case atStart => exact ⟨0, by omega, rfl, HT.out, Fr.refl _ _⟩
  case round =>
    obtain ⟨k, hk, rfl, hT, hF⟩ := hrel
    by_cases hlt : k < 256
    · have HT := hid hT
      clear hT
      have hd : decide ((k : Int) < 256) = true := by simp; omega
      go_wp2
      go_loop [3, 9] (fun r i => ∃ j : Nat, j ≤ 8 ∧ i = .int .i64 j ∧ r = vu32 (halfs j (BitVec.ofNat 32 k))) (fun _ i => 8 - (intOf i).toNat)
      case atStart => exact ⟨0, by omega, rfl, by rw [vu32, halfs, BitVec.toNat_ofNat, Nat.mod_eq_of_lt (by omega)]⟩
      case round =>
        obtain ⟨j, hj, rfl, rfl⟩ := hrel
        by_cases hj8 : j < 8
        · go_wp2_with (go_at_call 73; refine (half_ok _ _).mono ?_; rintro e w' ⟨rfl, rfl⟩)
          go_round
          case rel => exact ⟨j + 1, by omega, by go_num, rfl⟩
          case measure => simp [intOf]; omega
        · obtain rfl : j = 8 := by omega
          have hc := cell_of_heap HT.out (3 + k)
          have hz := frozen_of_row wr t (3 + k) _ _ HT.out
          have hs : (rowsTo c k)[3 + k]? = some ((rowsTo c k)[3 + k]'(by rw [rowsTo_size, HZ.out]; omega)) := Array.getElem?_eq_getElem _
          rw [hs] at hc
          have HH := heap_store HT.out (3 + k) (vu32 (crcRow k))
          have HH := hid HH
          clear hs
          generalize (rowsTo c k)[3 + k]'(by rw [rowsTo_size, HZ.out]; omega) = old at hc
          rw [show halfs 8 (BitVec.ofNat 32 k) = crcRow k from rfl]
          unfold vu32 at HH ⊢
          generalize hq : (crcRow k).toNat = q at *
          have HQ := hid hq
          clear hq
          go_wp2
          go_roundw
          case rel => exact ⟨k + 1, by omega, by go_num, by rw [rowsTo, vu32, HQ.out]; exact HH.out, hF.setCell (fun _ => rfl) _⟩
          case measure => simp [intOf]; omega
    · obtain rfl : k = 256 := by omega
      go_wp2
      go_end0
      exact ⟨rfl, hT, hF⟩
end Go.Proofs.Ytpomfegcifpfkaa
/- sync.Once and the lock in it, in one goroutine: each of its calls; and crc's table that is filled. -/
namespace Go.Proofs.Ytpomfegcifpfkaa
open Go Go.RowKit
theorem disable (w : World) : (callFunc 85 #[]).run Try.prog w = .ok (.value (.tuple #[])) w := run_call_mark0 Try.func85 (by kernel_rfl) (by kernel_rfl) (by kernel_rfl) .disable (by kernel_rfl) w
theorem enable (w : World) : (callFunc 87 #[]).run Try.prog w = .ok (.value (.tuple #[])) w := run_call_mark0 Try.func87 (by kernel_rfl) (by kernel_rfl) (by kernel_rfl) .enable (by kernel_rfl) w
theorem acquire (a : Addr) (w : World) : (callFunc 88 #[.pointer (some a)]).run Try.prog w = .ok (.value (.tuple #[])) w := run_call_marked Try.func88 (by kernel_rfl) (by kernel_rfl) (by kernel_rfl) .acquire (by kernel_rfl) a w
theorem releaseMerge (a : Addr) (w : World) : (callFunc 90 #[.pointer (some a)]).run Try.prog w = .ok (.value (.tuple #[])) w := run_call_marked Try.func90 (by kernel_rfl) (by kernel_rfl) (by kernel_rfl) .releaseMerge (by kernel_rfl) a w
/-- '(*sync/atomic.Bool).Store(true)', entered as a deferred call: the cell holds 1. -/
theorem store_deferred (a : Addr) (x : Value) (u : FrameMode) (w : World) (hc : w.cell? a = some x) (hz : w.frozen? a = false) :
    CallsD Try.prog 80 #[.pointer (some a), .bool true] u w fun e u' w' => u' = u ∧ (e = .returned (.tuple #[]) ∧ w' = w.drew.setCell a (.int .u32 1)) := by
  have hc' : w.drew.cell? a = some x := by go_simp
  have hz' : w.drew.frozen? a = false := by go_simp
  have hst := run_call_store (P := Try.prog) Try.func83 (by kernel_rfl) (by kernel_rfl) (by kernel_rfl) (by kernel_rfl) (k := .u32) (y := 1) hc' hz'
  go_enter_d Try.func80, Try.ntmps80
  go_wp2
  go_region_calls
  all_goals (go_end0; exact ⟨rfl, rfl⟩)
set_option maxRecDepth 100000 in
/-- '(*sync.Mutex).Unlock', entered as a deferred call, the lock held and nobody waiting: state 0. -/
theorem unlock_deferred (a : Addr) (u : FrameMode) (w : World) (hc : w.cell? a = some (.int .i32 1)) (hz : w.frozen? a = false) :
    CallsD Try.prog 79 #[.pointer (some a)] u w fun e u' w' => u' = u ∧ (e = .returned (.tuple #[]) ∧ w' = w.setCell a (.int .i32 0)) := by
  have hd := disable
  have he := enable
  have hr := releaseMerge
  have hadd := run_call_add (P := Try.prog) Try.func91 (by kernel_rfl) (by kernel_rfl) (by kernel_rfl) .i32 (by kernel_rfl) (y := -1) (s := 0) hc hz (by simp [go_sem]; rfl)
  have hcv := run_convert_to_unsafe (P := Try.prog) (src := 150) (dst := 154) Try.underlying150 Try.underlying154 (by kernel_rfl) hc
  go_enter_d Try.func79, Try.ntmps79
  go_wp2
  go_end0
  go_wp2
  go_end0
  exact ⟨rfl, rfl⟩
set_option maxRecDepth 100000 in
/-- '(*sync.Mutex).Lock', the lock free: state 1. -/
theorem lock_free (a : Addr) (w : World) (hc : w.cell? a = some (.int .i32 0)) (hz : w.frozen? a = false) :
    Calls Try.prog 78 #[.pointer (some a)] w fun e w' => e = .returned (.tuple #[]) ∧ w' = w.setCell a (.int .i32 1) := by
  have hd := disable
  have he := enable
  have ha := acquire
  have hcas := run_call_cas_hit (P := Try.prog) Try.func86 (by kernel_rfl) (by kernel_rfl) (by kernel_rfl) .i32 (by kernel_rfl) (y := 1) hc hz
  have hc' : (w.setCell a (.int .i32 1)).cell? a = some (.int .i32 1) := World.cell?_setCell_same w a _ hc
  have hcv := run_convert_to_unsafe (P := Try.prog) (src := 150) (dst := 154) Try.underlying150 Try.underlying154 (by kernel_rfl) hc'
  go_enter Try.func78, Try.ntmps78
  go_wp2
  first | go_end0 | (simp only [Exit.inBlock, Exit.then]; refine bodyPost_ret (results_none rfl _ _ _) rfl ?_) | refine bodyPost_ret (results_none rfl _ _ _) rfl ?_
  go_wp2
  go_end0
  exact ⟨rfl, rfl⟩

end Go.Proofs.Ytpomfegcifpfkaa
/- sync.Once's Do over crc's table: the first time it fills the table, later it does nothing. -/
namespace Go.Proofs.Ytpomfegcifpfkaa
open Go Go.RowKit
/-- A table's cells behind the first use. -/
def filled (c : Array Value) : Array Value := ((rowsTo (c.setIfInBounds 1 (.int .i32 1)) 256).setIfInBounds 0 (.int .u32 1)).setIfInBounds 1 (.int .i32 0)

set_option maxRecDepth 100000 in
set_option maxHeartbeats 1600000 in
theorem slow_ok (t : Nat) (c : Array Value) (w : World) (hT : w.heap[t]? = some (.cells c 70 (0, 0))) (hsz : c.size = 260) (h0 : c[0]? = some (.int .u32 0)) (h1 : c[1]? = some (.int .i32 0)) :
    Calls Try.prog 75 #[.pointer (some ⟨t, 0, none⟩), .func (.func 69) #[.pointer (some ⟨t, 0, none⟩)] #[]] w fun e w' => e = .returned (.tuple #[]) ∧
      w'.heap[t]? = some (.cells (filled c) 70 (0, 0)) ∧ Fr (· = t) w w' := by
  have c0 : w.cell? ⟨t, 0, none⟩ = some (.int .u32 0) := by rw [cell_of_heap hT]; exact h0
  have c1 : w.cell? ⟨t, 1, none⟩ = some (.int .i32 0) := by rw [cell_of_heap hT]; exact h1
  have f1 : w.frozen? ⟨t, 1, none⟩ = false := frozen_of_row w t 1 _ _ hT
  have HT1 := hid (heap_store hT 1 (.int .i32 1))
  have hl := run_call_load (P := Try.prog) Try.func77 (by kernel_rfl) (by kernel_rfl) (by kernel_rfl) .u32 (by kernel_rfl) (w := w.setCell ⟨t, 1, none⟩ (.int .i32 1)) (a := ⟨t, 0, none⟩) (x := 0) ((World.cell?_setCell_other _ ⟨t, 1, none⟩ ⟨t, 0, none⟩ _ (by simp)).trans c0)
  have hnot : ∀ (x : Bool) (w : World), (Op.unary .not (.bool x)).run Try.prog w = .ok (.bool (!x)) w := fun _ _ => rfl
  have HZ := hid hsz
  have HT0 := hid hT
  clear hT h0 h1 hsz
  go_enter_defers Try.func75, Try.ntmps75
  go_wp2_with (first | (go_at_call 78; refine (lock_free ⟨t, 1, none⟩ _ (by go_simp) (by go_simp)).mono ?_; rintro e w' ⟨rfl, rfl⟩) | (go_at_call 74; go_in))
  refine (fill_ok t _ _ HT1.out (by simpa using HZ.out)).mono ?_
  rintro e w2 ⟨rfl, hT2, hF2⟩
  have HT2 := hid hT2
  have HF2 := hid hF2
  clear hT2 hF2
  go_wp2
  have c20 : w2.cell? ⟨t, 0, none⟩ = some (.int .u32 0) := by
    rw [cell_of_heap HT2.out, rowsTo_head _ _ _ (by omega), Array.getElem?_setIfInBounds_ne (by omega), ← cell_of_heap HT0.out, c0]
  have f20 : w2.frozen? ⟨t, 0, none⟩ = false := frozen_of_row w2 t 0 _ _ HT2.out
  have hT3 := heap_store (w := w2.drew) (heap_drew w2 ▸ HT2.out) 0 (.int .u32 1)
  refine leaves_cons (f := 80) (args := #[.pointer (some ⟨t, 0, none⟩), .bool true]) (by simp) (by simp [go_sem]) ?_
  refine (store_deferred ⟨t, 0, none⟩ (.int .u32 0) .returning _ c20 f20).mono ?_
  rintro e u' w'' ⟨rfl, rfl, rfl⟩
  refine leaves_cons (f := 79) (args := #[.pointer (some ⟨t, 1, none⟩)]) (by simp [settle]) (by simp [go_sem]) ?_
  refine (unlock_deferred ⟨t, 1, none⟩ _ _ ?_ (frozen_of_row _ t 1 _ _ hT3)).mono ?_
  · rw [cell_of_heap hT3, Array.getElem?_setIfInBounds_ne (by omega), rowsTo_head _ _ _ (by omega), Array.getElem?_setIfInBounds_self_of_lt (by rw [HZ.out]; omega)]
  rintro e u' w'' ⟨rfl, rfl, rfl⟩
  have hF : Fr (· = t) w w2 := (((Fr.refl (· = t) w).setCell (p := ⟨t, 1, none⟩) (fun _ => rfl) (.int .i32 1))).trans HF2.out
  simp [Leaves, settle, results, Try.results75]
  exact ⟨heap_store hT3 1 _, (hF.drew.setCell (fun _ => rfl) _).setCell (fun _ => rfl) _⟩

set_option maxRecDepth 100000 in
set_option maxHeartbeats 1600000 in
theorem do_first (t : Nat) (c : Array Value) (w : World) (hT : w.heap[t]? = some (.cells c 70 (0, 0))) (hsz : c.size = 260) (h0 : c[0]? = some (.int .u32 0)) (h1 : c[1]? = some (.int .i32 0)) :
    Calls Try.prog 70 #[.pointer (some ⟨t, 0, none⟩), .func (.func 69) #[.pointer (some ⟨t, 0, none⟩)] #[]] w fun e w' => e = .returned (.tuple #[]) ∧
      w'.heap[t]? = some (.cells (filled c) 70 (0, 0)) ∧ Fr (· = t) w w' := by
  have HS := hid (slow_ok t c w hT hsz h0 h1)
  have c0 : w.cell? ⟨t, 0, none⟩ = some (.int .u32 0) := by rw [cell_of_heap hT]; exact h0
  have hl := run_call_load (P := Try.prog) Try.func77 (by kernel_rfl) (by kernel_rfl) (by kernel_rfl) .u32 (by kernel_rfl) c0
  have hnot : ∀ (x : Bool) (w : World), (Op.unary .not (.bool x)).run Try.prog w = .ok (.bool (!x)) w := fun _ _ => rfl
  clear hT hsz h0 h1
  go_enter Try.func70, Try.ntmps70
  go_wp2_with (first | (go_at_call 75; refine (HS.out).mono ?_; rintro e w' ⟨rfl, hT, hF⟩) | (go_at_call 74; go_in))
  go_end0
  exact ⟨rfl, hT, hF⟩

theorem do_again (t : Nat) (c : Array Value) (fv : Value) (w : World) (hT : w.heap[t]? = some (.cells c 70 (0, 0))) (h0 : c[0]? = some (.int .u32 1)) :
    Calls Try.prog 70 #[.pointer (some ⟨t, 0, none⟩), fv] w fun e w' => e = .returned (.tuple #[]) ∧ w = w' := by
  have c0 : w.cell? ⟨t, 0, none⟩ = some (.int .u32 1) := by rw [cell_of_heap hT]; exact h0
  have hl := run_call_load (P := Try.prog) Try.func77 (by kernel_rfl) (by kernel_rfl) (by kernel_rfl) .u32 (by kernel_rfl) c0
  have hnot : ∀ (x : Bool) (w : World), (Op.unary .not (.bool x)).run Try.prog w = .ok (.bool (!x)) w := fun _ _ => rfl
  clear hT h0
  go_enter Try.func70, Try.ntmps70
  go_wp2
  go_end0
  exact ⟨rfl, rfl⟩
end Go.Proofs.Ytpomfegcifpfkaa
