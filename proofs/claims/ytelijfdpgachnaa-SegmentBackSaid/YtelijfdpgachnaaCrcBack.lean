/- One byte of sealed bytes turned is told: the sum is linear, and no step of it loses anything. -/
import Derived.Test.YtelijfdpgachnaaCrcOpen
namespace Go.Proofs.Ytelijfdpgachnaa
open Go Go.RowKit
theorem xor_left (a b c : BitVec 32) : a ^^^ (b ^^^ c) = b ^^^ (a ^^^ c) := by rw [← BitVec.xor_assoc, BitVec.xor_comm a b, BitVec.xor_assoc]
theorem half_xor (a b : BitVec 32) : half (a ^^^ b) = half a ^^^ half b := by
  unfold half
  rw [BitVec.getLsbD_xor, BitVec.ushiftRight_xor_distrib]
  cases a.getLsbD 0 <;> cases b.getLsbD 0 <;> simp [BitVec.xor_assoc] <;> first | done | exact xor_left _ _ _ | exact BitVec.xor_comm _ _ | (rw [xor_left, BitVec.xor_self, BitVec.xor_zero]) | (rw [xor_left, BitVec.xor_comm])
theorem halfs_xor (k : Nat) (a b : BitVec 32) : halfs k (a ^^^ b) = halfs k a ^^^ halfs k b := by
  induction k with
  | zero => rfl
  | succ k ih => rw [halfs, halfs, halfs, ih, half_xor]
theorem half_eq_zero {x : BitVec 32} (h : half x = 0#32) : x = 0#32 := by
  unfold half at h
  split at h
  · exfalso
    have h31 := congrArg (fun y : BitVec 32 => y.getLsbD 31) h
    simp only [BitVec.getLsbD_xor, BitVec.getLsbD_ushiftRight] at h31
    rw [BitVec.getLsbD_of_ge x (1 + 31) (by omega)] at h31
    revert h31
    decide
  · rename_i h0
    apply BitVec.eq_of_getLsbD_eq
    intro i hi
    rw [BitVec.getLsbD_zero]
    cases i with
    | zero => simpa using h0
    | succ i =>
      have := congrArg (fun y : BitVec 32 => y.getLsbD i) h
      simp only [BitVec.getLsbD_ushiftRight, BitVec.getLsbD_zero] at this
      rw [Nat.add_comm]; exact this
theorem xor_eq_zero {a b : BitVec 32} (h : a ^^^ b = 0#32) : a = b := by
  have := congrArg (fun y => y ^^^ b) h
  simpa [BitVec.xor_assoc] using this
theorem halfs_eq_zero : ∀ (k : Nat) {x : BitVec 32}, halfs k x = 0#32 → x = 0#32
  | 0, _, h => h
  | k + 1, _, h => halfs_eq_zero k (half_eq_zero h)
theorem halfs_inj {k : Nat} {a b : BitVec 32} (h : halfs k a = halfs k b) : a = b :=
  xor_eq_zero (halfs_eq_zero k (by rw [halfs_xor, h, BitVec.xor_self]))
theorem half_up {x : BitVec 32} (h : x.toNat % 2 = 0) : half x = x >>> 1 := by
  unfold half
  rw [if_neg]
  rw [BitVec.getLsbD, Nat.testBit_zero]; simp [h]
theorem halfs_up : ∀ (k : Nat) {x : BitVec 32}, x.toNat % 2 ^ k = 0 → halfs k x = x >>> k
  | 0, x, _ => by simp [halfs]
  | k + 1, x, h => by
    have h1 : x.toNat % 2 ^ k = 0 := by
      have := Nat.mod_mod_of_dvd x.toNat (Nat.pow_dvd_pow 2 (Nat.le_succ k))
      rw [h] at this; simpa using this.symm
    rw [halfs, halfs_up k h1, half_up]
    · rw [BitVec.shiftRight_add]
    · rw [BitVec.toNat_ushiftRight, Nat.shiftRight_eq_div_pow]
      rw [Nat.pow_succ] at h
      rw [Nat.mod_mul] at h
      rw [h1, Nat.zero_add] at h
      rcases Nat.mul_eq_zero.mp h with h | h
      · have := Nat.two_pow_pos k; omega
      · exact h
/-- A byte through a register is eight bits of it. -/
theorem crcByte_halfs (r : BitVec 32) (c : UInt8) : crcByte r c = halfs 8 (r ^^^ BitVec.ofNat 32 c.toNat) := by
  have hs : r = BitVec.ofNat 32 (r.toNat % 256) ^^^ BitVec.ofNat 32 (r.toNat / 256 * 256) := by
    apply BitVec.eq_of_toNat_eq
    rw [BitVec.toNat_xor, BitVec.toNat_ofNat, BitVec.toNat_ofNat, Nat.mod_eq_of_lt (a := r.toNat % 256) (by omega), Nat.mod_eq_of_lt (a := r.toNat / 256 * 256) (by have := r.isLt; omega)]
    apply Nat.eq_of_testBit_eq
    intro i
    rw [Nat.testBit_xor, show (256 : Nat) = 2 ^ 8 from rfl, Nat.testBit_mod_two_pow, Nat.testBit_mul_two_pow, Nat.testBit_div_two_pow]
    by_cases hi : i < 8
    · simp [hi, Nat.not_le.mpr hi]
    · have : 8 ≤ i := by omega
      simp [hi, this, Nat.sub_add_cancel this]
  have hm : (BitVec.ofNat 32 (r.toNat / 256 * 256)).toNat = r.toNat / 256 * 256 := by
    rw [BitVec.toNat_ofNat, Nat.mod_eq_of_lt (by have := r.isLt; omega)]
  have hu := halfs_up 8 (x := BitVec.ofNat 32 (r.toNat / 256 * 256)) (by rw [hm]; exact Nat.mul_mod_left _ _)
  have hx : BitVec.ofNat 32 ((r.toNat % 256) ^^^ c.toNat) = BitVec.ofNat 32 (r.toNat % 256) ^^^ BitVec.ofNat 32 c.toNat := by
    apply BitVec.eq_of_toNat_eq
    have h1 : (r.toNat % 256) ^^^ c.toNat < 256 := Nat.xor_lt_two_pow (n := 8) (Nat.mod_lt _ (by decide)) c.toNat_lt
    have h2 : c.toNat < 256 := c.toNat_lt
    rw [BitVec.toNat_xor, BitVec.toNat_ofNat, BitVec.toNat_ofNat, BitVec.toNat_ofNat, Nat.mod_eq_of_lt (by omega), Nat.mod_eq_of_lt (a := r.toNat % 256) (by omega), Nat.mod_eq_of_lt (a := c.toNat) (by omega)]
  have hsh : (BitVec.ofNat 32 (r.toNat / 256 * 256)) >>> 8 = r >>> 8 := by
    apply BitVec.eq_of_toNat_eq
    rw [BitVec.toNat_ushiftRight, BitVec.toNat_ushiftRight, hm, Nat.shiftRight_eq_div_pow, Nat.shiftRight_eq_div_pow]
    show r.toNat / 256 * 256 / 256 = r.toNat / 256
    omega
  rw [crcByte, crcRow, hx, ← hsh, ← hu, ← halfs_xor]
  congr 1
  conv => rhs; rw [hs]
  rw [BitVec.xor_assoc, BitVec.xor_comm (BitVec.ofNat 32 c.toNat), BitVec.xor_assoc]
theorem xor_right_inj {a b c : BitVec 32} (h : a ^^^ c = b ^^^ c) : a = b := by
  have := congrArg (fun y => y ^^^ c) h
  simpa [BitVec.xor_assoc] using this
theorem crcByte_left {r s : BitVec 32} {c : UInt8} (h : crcByte r c = crcByte s c) : r = s := by
  rw [crcByte_halfs, crcByte_halfs] at h
  exact xor_right_inj (halfs_inj h)
theorem crcByte_right {r : BitVec 32} {c d : UInt8} (h : crcByte r c = crcByte r d) : c = d := by
  rw [crcByte_halfs, crcByte_halfs, BitVec.xor_comm r, BitVec.xor_comm r] at h
  have h := congrArg BitVec.toNat (xor_right_inj (halfs_inj h))
  have h1 := c.toNat_lt
  have h2 := d.toNat_lt
  rw [BitVec.toNat_ofNat, BitVec.toNat_ofNat, Nat.mod_eq_of_lt (by omega), Nat.mod_eq_of_lt (by omega)] at h
  exact UInt8.toNat_inj.mp h
theorem crcRun_left : ∀ (l : List UInt8) {r s : BitVec 32}, crcRun r l = crcRun s l → r = s
  | [], _, _, h => h
  | c :: l, r, s, h => crcByte_left (c := c) (crcRun_left l (by simpa [crcRun] using h))
theorem crcRun_turned (r : BitVec 32) (p q : List UInt8) {c d : UInt8} (h : crcRun r (p ++ c :: q) = crcRun r (p ++ d :: q)) : c = d := by
  simp only [crcRun, List.foldl_append, List.foldl_cons] at h
  exact crcByte_right (crcRun_left q h)
theorem crcSum_turned (p q : List UInt8) {c d : UInt8} (h : crcSum (p ++ c :: q) = crcSum (p ++ d :: q)) : c = d := by
  unfold crcSum crcMore at h
  have h := congrArg (fun y => ~~~ y) h
  simp only [BitVec.not_not] at h
  exact crcRun_turned _ p q h
theorem tail4_inj {a b : BitVec 32} (h : tail4 a = tail4 b) : a = b := by
  simp only [tail4, List.cons.injEq, and_true] at h
  obtain ⟨h0, h1, h2, h3⟩ := h
  have e : ∀ k, sumByte a k = sumByte b k → a.toNat / 2 ^ (8 * k) % 256 = b.toNat / 2 ^ (8 * k) % 256 := by
    intro k h
    have := congrArg UInt8.toNat h
    rw [sumByte, sumByte, UInt8.toNat_ofNat', UInt8.toNat_ofNat'] at this
    exact this
  have e0 := e 0 h0
  have e1 := e 1 h1
  have e2 := e 2 h2
  have e3 := e 3 h3
  apply BitVec.eq_of_toNat_eq
  have := a.isLt
  have := b.isLt
  simp only [Nat.reduceMul, Nat.reducePow, Nat.div_one] at e0 e1 e2 e3
  omega
theorem crcOpen_sealed (l : List UInt8) : crcOpenF (sealed l) = (l, 0) := by
  have h : (sealed l).length = l.length + 4 := by simp [sealed, tail4]
  have ht : (sealed l).take ((sealed l).length - 4) = l := by rw [h, Nat.add_sub_cancel, sealed, List.take_left]
  rw [crcOpen_ok (by omega) (by rw [ht]), ht]
theorem crcOpen_back {x l : List UInt8} (h : crcOpenF x = (l, 0)) : x = sealed l := by
  unfold crcOpenF at h
  split at h
  · simp at h
  · split at h
    · rename_i hs
      simp only [Prod.mk.injEq, and_true] at h
      rw [h] at hs; exact hs.symm
    · simp at h
/-- Sealed bytes of which one is another one are corrupt. -/
theorem crcOpen_turned (l : List UInt8) (k : Nat) (hk : k < (sealed l).length) (d : UInt8) (hd : d ≠ (sealed l)[k]) : crcOpenF ((sealed l).set k d) = ([], 4) := by
  have h : (sealed l).length = l.length + 4 := by simp [sealed, tail4]
  have hn : ((sealed l).set k d).length - 4 = l.length := by rw [List.length_set, h, Nat.add_sub_cancel]
  refine crcOpen_bad (by rw [List.length_set]; omega) ?_
  rw [hn]
  intro he
  by_cases hl : k < l.length
  · have ht : ((sealed l).set k d) = l.set k d ++ tail4 (crcSum l) := by rw [sealed, List.set_append_left _ _ hl]
    rw [ht, List.take_left' (by rw [List.length_set])] at he
    rw [sealed] at he
    have h4 := tail4_inj (List.append_cancel_left he)
    rw [List.set_eq_take_append_cons_drop, if_pos hl] at h4
    have hsl : l = l.take k ++ l[k] :: l.drop (k + 1) := by rw [← List.drop_eq_getElem_cons hl, List.take_append_drop]
    conv at h4 => rhs; rw [hsl]
    have := crcSum_turned _ _ h4
    apply hd
    simp only [sealed, List.getElem_append_left hl, this]
  · have ht : ((sealed l).set k d).take l.length = l := by
      rw [List.take_set_of_le (by omega)]
      exact List.take_left
    rw [ht] at he
    apply hd
    have := congrArg (fun y : List UInt8 => y[k]?) he
    simp only [List.getElem?_set_self hk, List.getElem?_eq_getElem hk, Option.some.injEq] at this
    exact this.symm
end Go.Proofs.Ytelijfdpgachnaa
