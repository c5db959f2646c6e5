/- crc's table that is filled. -/
import Derived.Test.YtelijfdpgachnaaProg
import Derived.Test.YtelijfdpgachnaaBase
import Derived.Test.YtelijfdpgachnaaHalf
import Derived.Outline
namespace Go.Proofs.Ytelijfdpgachnaa
open Go Go.RowKit
/-- A table's cells with its first k rows laid. -/
def rowsTo (c : Array Value) : Nat → Array Value
  | 0 => c
  | k + 1 => (rowsTo c k).setIfInBounds (3 + k) (vu32 (crcRow k))
theorem rowsTo_size (c : Array Value) (k : Nat) : (rowsTo c k).size = c.size := by
  induction k with
  | zero => rfl
  | succ k ih => simp [rowsTo, ih]
theorem rowsTo_head (c : Array Value) (k j : Nat) (h : j < 3 ∨ 3 + k ≤ j) : (rowsTo c k)[j]? = c[j]? := by
  induction k with
  | zero => rfl
  | succ k ih => rw [rowsTo, Array.getElem?_setIfInBounds_ne (by omega)]; exact ih (by omega)
theorem rowsTo_row (c : Array Value) (k j : Nat) (h : j < k) (hs : 3 + k ≤ c.size) : (rowsTo c k)[3 + j]? = some (vu32 (crcRow j)) := by
  induction k with
  | zero => omega
  | succ k ih =>
    rw [rowsTo]
    by_cases e : j = k
    · subst e; rw [Array.getElem?_setIfInBounds_self_of_lt (by rw [rowsTo_size]; omega)]
    · rw [Array.getElem?_setIfInBounds_ne (by omega)]; exact ih (by omega) (by omega)

set_option maxRecDepth 100000 in
set_option maxHeartbeats 1000000 in
/-- '(*crc.Table).fill': all rows. -/
theorem fill_ok (t : Nat) (c : Array Value) (w : World) (hT : w.heap[t]? = some (.cells c 108 (0, 0))) (hsz : c.size = 260) :
    Calls Try.prog 167 #[.pointer (some ⟨t, 0, none⟩)] w fun e w' => e = .returned (.tuple #[]) ∧ w'.heap[t]? = some (.cells (rowsTo c 256) 108 (0, 0)) ∧ Fr (· = t) w w' := by
  have HT := hid hT
  have HZ := hid hsz
  clear hT hsz
  go_enter Try.func167, Try.ntmps167
  go_wp2
  go_loopw [2, 3, 4, 9] (fun _ _ i _ wr => ∃ k : Nat, k ≤ 256 ∧ i = .int .i64 k ∧ wr.heap[t]? = some (.cells (rowsTo c k) 108 (0, 0)) ∧ Fr (· = t) w wr) (fun _ _ i _ _ => 256 - (intOf i).toNat)
  case atStart => exact ⟨0, by omega, rfl, HT.out, Fr.refl _ _⟩
  case round =>
    obtain ⟨k, hk, rfl, hT, hF⟩ := hrel
    by_cases hlt : k < 256
    · have HT := hid hT
      clear hT
      have hd : decide ((k : Int) < 256) = true := by simp; omega
      go_wp2
      go_loop [3, 9] (fun r i => ∃ j : Nat, j ≤ 8 ∧ i = .int .i64 j ∧ r = vu32 (halfs j (BitVec.ofNat 32 k))) (fun _ i => 8 - (intOf i).toNat)
      case atStart => exact ⟨0, by omega, rfl, by rw [vu32, halfs, BitVec.toNat_ofNat, Nat.mod_eq_of_lt (by omega)]⟩
      case round =>
        obtain ⟨j, hj, rfl, rfl⟩ := hrel
        by_cases hj8 : j < 8
        · go_wp2_with (go_at_call 176; refine (half_ok _ _).mono ?_; rintro e w' ⟨rfl, rfl⟩)
          go_round
          case rel => exact ⟨j + 1, by omega, by go_num, rfl⟩
          case measure => simp [intOf]; omega
        · obtain rfl : j = 8 := by omega
          have hc := cell_of_heap HT.out (3 + k)
          have hz := frozen_of_row wr t (3 + k) _ _ HT.out
          have hs : (rowsTo c k)[3 + k]? = some ((rowsTo c k)[3 + k]'(by rw [rowsTo_size, HZ.out]; omega)) := Array.getElem?_eq_getElem _
          rw [hs] at hc
          have HH := heap_store HT.out (3 + k) (vu32 (crcRow k))
          have HH := hid HH
          clear hs
          generalize (rowsTo c k)[3 + k]'(by rw [rowsTo_size, HZ.out]; omega) = old at hc
          rw [show halfs 8 (BitVec.ofNat 32 k) = crcRow k from rfl]
          unfold vu32 at HH ⊢
          generalize hq : (crcRow k).toNat = q at *
          have HQ := hid hq
          clear hq
          go_wp2
          go_roundw
          case rel => exact ⟨k + 1, by omega, by go_num, by rw [rowsTo, vu32, HQ.out]; exact HH.out, hF.setCell (fun _ => rfl) _⟩
          case measure => simp [intOf]; omega
    · obtain rfl : k = 256 := by omega
      go_wp2
      go_end0
      exact ⟨rfl, hT, hF⟩
end Go.Proofs.Ytelijfdpgachnaa
