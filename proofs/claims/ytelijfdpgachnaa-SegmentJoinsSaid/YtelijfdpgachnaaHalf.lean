/- crc's half: a register, one bit down. -/
import Derived.Test.YtelijfdpgachnaaProg
import Derived.Test.YtelijfdpgachnaaPureCrc
import Derived.Outline
namespace Go.Proofs.Ytelijfdpgachnaa
open Go Go.RowKit
set_option maxHeartbeats 400000 in
theorem half_ok (r : BitVec 32) (w : World) : Calls Try.prog 176 #[vu32 r] w fun e w' => e = .returned (vu32 (half r)) ∧ w = w' := by
  have hb : (0 : Int) ≤ (r.toNat : Int) := by omega
  have hb2 : (r.toNat : Int) < 4294967296 := by have := r.isLt; omega
  have ho := and_one_u32 r
  unfold vu32
  cases hr : r.getLsbD 0
  · rw [hr] at ho
    have H := half_even r hr
    clear hr
    go_enter Try.func176, Try.ntmps176
    go_wp2
    go_ret
    exact ⟨by rw [← H]; simp, rfl⟩
  · rw [hr] at ho
    have H := half_odd r hr
    clear hr
    go_enter Try.func176, Try.ntmps176
    go_wp2
    go_ret
    exact ⟨by rw [← H]; simp, rfl⟩
end Go.Proofs.Ytelijfdpgachnaa
