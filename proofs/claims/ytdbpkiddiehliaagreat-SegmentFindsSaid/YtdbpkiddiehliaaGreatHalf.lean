/- The check sum of 32 bits as plain functions on bit vectors: a register halved, the table's row, a byte taken in; what the model's operations on uint32 are in these words. -/
import Derived.WalkKit
import Derived.Test.YtdbpkiddiehliaaGreatProg
import Derived.Outline
namespace Go.Proofs.YtdbpkiddiehliaaGreat
open Go Go.RowKit

/-- A 32-bit register, one bit down. -/
def half (r : BitVec 32) : BitVec 32 := if r.getLsbD 0 then (r >>> 1) ^^^ 0x82f63b78#32 else r >>> 1
/-- k bits down. -/
def halfs : Nat → BitVec 32 → BitVec 32
  | 0, r => r
  | k + 1, r => half (halfs k r)
/-- The table's row i. -/
def crcRow (i : Nat) : BitVec 32 := halfs 8 (BitVec.ofNat 32 i)
/-- One byte through a register, by the table. -/
def crcByte (r : BitVec 32) (c : UInt8) : BitVec 32 := crcRow ((r.toNat % 256) ^^^ c.toNat) ^^^ (r >>> 8)
def crcRun (r : BitVec 32) (l : List UInt8) : BitVec 32 := l.foldl crcByte r
def crcMore (s : BitVec 32) (l : List UInt8) : BitVec 32 := ~~~ crcRun (~~~ s) l
def crcSum (l : List UInt8) : BitVec 32 := crcMore 0 l
/-- A register as a value. -/
def vu32 (r : BitVec 32) : Value := .int .u32 (r.toNat : Int)

theorem ofInt_u32 (r : BitVec 32) : BitVec.ofInt 32 (r.toNat : Int) = r := by
  rw [BitVec.ofInt_natCast]; simp
theorem wrap_u32_id (n : Nat) (h : n < 4294967296) : IntKind.u32.wrap (n : Int) = n := by
  simp [IntKind.wrap, IntKind.signed, IntKind.bits]; omega
theorem bits_xor_u32 (a b : BitVec 32) : bits .xor .u32 (a.toNat : Int) (b.toNat : Int) = ((a ^^^ b).toNat : Int) := by
  show IntKind.u32.wrap ((BitVec.ofInt 32 (a.toNat : Int) ^^^ BitVec.ofInt 32 (b.toNat : Int)).toNat : Int) = _
  rw [ofInt_u32, ofInt_u32, wrap_u32_id _ (BitVec.isLt _)]
theorem bits_and_u32 (a b : BitVec 32) : bits .and .u32 (a.toNat : Int) (b.toNat : Int) = ((a &&& b).toNat : Int) := by
  show IntKind.u32.wrap ((BitVec.ofInt 32 (a.toNat : Int) &&& BitVec.ofInt 32 (b.toNat : Int)).toNat : Int) = _
  rw [ofInt_u32, ofInt_u32, wrap_u32_id _ (BitVec.isLt _)]
theorem shr_u32 (r : BitVec 32) (k : Nat) : ((r.toNat : Int) / (2 ^ k : Nat)) = ((r >>> k).toNat : Int) := by
  rw [BitVec.toNat_ushiftRight, Nat.shiftRight_eq_div_pow]; rfl
theorem and_one_u32 (r : BitVec 32) : ((bits .and .u32 (r.toNat : Int) 1 == 1) = r.getLsbD 0) := by
  have h := bits_and_u32 r 1#32
  rw [show ((1#32).toNat : Int) = 1 from rfl] at h
  rw [h]
  have e : (r &&& 1#32).toNat = r.toNat % 2 := by
    rw [BitVec.toNat_and]; show r.toNat &&& 1 = _; rw [Nat.and_one_is_mod]
  rw [e]
  rw [BitVec.getLsbD, Nat.testBit_zero]
  have := Nat.mod_two_eq_zero_or_one r.toNat
  rcases this with h | h <;> simp [h]
theorem half_odd (r : BitVec 32) (h : r.getLsbD 0 = true) : bits .xor .u32 ((r.toNat : Int) / 2) 2197175160 = ((half r).toNat : Int) := by
  have e := shr_u32 r 1
  rw [show ((2 ^ 1 : Nat) : Int) = 2 from rfl] at e
  rw [e]
  have h2 := bits_xor_u32 (r >>> 1) 0x82f63b78#32
  rw [show ((0x82f63b78#32).toNat : Int) = 2197175160 from rfl] at h2
  rw [h2, half, if_pos h]
theorem half_even (r : BitVec 32) (h : r.getLsbD 0 = false) : ((r.toNat : Int) / 2) = ((half r).toNat : Int) := by
  have e := shr_u32 r 1
  rw [show ((2 ^ 1 : Nat) : Int) = 2 from rfl] at e
  rw [e, half, if_neg (by rw [h]; exact Bool.false_ne_true)]
theorem halfs_succ' (k : Nat) (r : BitVec 32) : half (halfs k r) = halfs (k + 1) r := rfl

/-- The row that a byte asks of a register. -/
def crcAt (r : BitVec 32) (c : UInt8) : Nat := (r.toNat % 256) ^^^ c.toNat
theorem crcAt_lt (r : BitVec 32) (c : UInt8) : crcAt r c < 256 :=
  Nat.xor_lt_two_pow (n := 8) (Nat.mod_lt _ (by decide)) c.toNat_lt
theorem ofInt_u8 (n : Nat) (h : n < 256) : (BitVec.ofInt 8 (n : Int)).toNat = n := by
  rw [BitVec.ofInt_natCast, BitVec.toNat_ofNat]; exact Nat.mod_eq_of_lt h
theorem bits_xor_u8 (a b : Nat) (ha : a < 256) (hb : b < 256) : bits .xor .u8 (a : Int) (b : Int) = ((a ^^^ b : Nat) : Int) := by
  have hx : a ^^^ b < 256 := Nat.xor_lt_two_pow (n := 8) ha hb
  show IntKind.u8.wrap ((BitVec.ofInt 8 (a : Int) ^^^ BitVec.ofInt 8 (b : Int)).toNat : Int) = _
  rw [BitVec.toNat_xor, ofInt_u8 a ha, ofInt_u8 b hb]
  simp [IntKind.wrap, IntKind.signed, IntKind.bits]; omega
theorem crcAt_bits (r : BitVec 32) (c : UInt8) : bits .xor .u8 ((r.toNat : Int) % 256) (c.toNat : Int) = (crcAt r c : Int) :=
  bits_xor_u8 (r.toNat % 256) c.toNat (Nat.mod_lt _ (by decide)) c.toNat_lt
theorem crcByte_bits (r : BitVec 32) (c : UInt8) : bits .xor .u32 ((crcRow (crcAt r c)).toNat : Int) ((r.toNat : Int) / 256) = ((crcByte r c).toNat : Int) := by
  have e := shr_u32 r 8
  rw [show ((2 ^ 8 : Nat) : Int) = 256 from rfl] at e
  rw [e, bits_xor_u32]; rfl
theorem crcRun_snoc (r : BitVec 32) (l : List UInt8) (k : Nat) (h : k < l.length) : crcRun r (l.take (k + 1)) = crcByte (crcRun r (l.take k)) l[k] := by
  rw [List.take_succ_eq_append_getElem h, crcRun, List.foldl_append]; rfl
end Go.Proofs.YtdbpkiddiehliaaGreat
/- crc's half: a register, one bit down. -/
namespace Go.Proofs.YtdbpkiddiehliaaGreat
open Go Go.RowKit
set_option maxHeartbeats 400000 in
theorem half_ok (r : BitVec 32) (w : World) : Calls Tryz.prog 85 #[vu32 r] w fun e w' => e = .returned (vu32 (half r)) ∧ w = w' := by
  have hb : (0 : Int) ≤ (r.toNat : Int) := by omega
  have hb2 : (r.toNat : Int) < 4294967296 := by have := r.isLt; omega
  have ho := and_one_u32 r
  unfold vu32
  cases hr : r.getLsbD 0
  · rw [hr] at ho
    have H := half_even r hr
    clear hr
    go_enter Tryz.func85, Tryz.ntmps85
    go_wp2
    go_ret
    exact ⟨by rw [← H]; simp, rfl⟩
  · rw [hr] at ho
    have H := half_odd r hr
    clear hr
    go_enter Tryz.func85, Tryz.ntmps85
    go_wp2
    go_ret
    exact ⟨by rw [← H]; simp, rfl⟩
end Go.Proofs.YtdbpkiddiehliaaGreat
