/- crc's calls: New, More, Sum, Seal, Open. -/
import Derived.Test.YtelijfdpgachnaaCrcRun
import Derived.Test.YtelijfdpgachnaaEqual
namespace Go.Proofs.Ytelijfdpgachnaa
open Go Go.RowKit
theorem not_u32 (r : BitVec 32) : bits .xor .u32 IntKind.u32.max (r.toNat : Int) = ((~~~ r).toNat : Int) := by
  have h := bits_xor_u32 (BitVec.allOnes 32) r
  rw [show (((BitVec.allOnes 32).toNat : Nat) : Int) = IntKind.u32.max from rfl] at h
  rw [h, BitVec.allOnes_xor]
/-- A byte of a sum. -/
def sumByte (r : BitVec 32) (k : Nat) : UInt8 := UInt8.ofNat (r.toNat / 2 ^ (8 * k))
/-- The four bytes of a sum, the lowest ahead. -/
def tail4 (r : BitVec 32) : List UInt8 := [sumByte r 0, sumByte r 1, sumByte r 2, sumByte r 3]
/-- Bytes, and their sum behind them. -/
def sealed (l : List UInt8) : List UInt8 := l ++ tail4 (crcSum l)
theorem sumByte_val (r : BitVec 32) (k : Nat) : bcell (sumByte r k) = .int .u8 ((r.toNat : Int) / (2 ^ (8 * k) : Nat) % 256) := by
  rw [bcell, sumByte, UInt8.toNat_ofNat']; rfl

set_option maxRecDepth 100000 in
theorem more_ok (t : Nat) (s : BitVec 32) (b : Value) (xs : List UInt8) (w : World) (hT : Tab w t) (hb : Bs (· = t) w b xs) :
    Calls Try.prog 139 #[.pointer (some ⟨t, 0, none⟩), vu32 s, b] w fun e w' => e = .returned (vu32 (crcMore s xs)) ∧ Tab w' t ∧ Fr (· = t) w w' := by
  have HR := hid (run_ok t (~~~ s) b xs w hT hb)
  have h1 := not_u32 s
  have h2 := not_u32 (crcRun (~~~ s) xs)
  clear hT hb
  unfold crcMore
  generalize ~~~ s = q at *
  generalize crcRun q xs = p at *
  generalize ~~~ p = z at *
  have H1 := hid h1
  have H2 := hid h2
  clear h1 h2
  unfold vu32 at HR ⊢
  go_enter Try.func139, Try.ntmps139
  go_wp2_with fail
  rw [H1.out]
  refine (HR.out).mono ?_
  rintro e w1 ⟨rfl, hT, hF⟩
  go_wp2
  go_ret
  exact ⟨ret_int H2.out, hT, hF⟩
set_option maxRecDepth 100000 in
theorem sum_ok (t : Nat) (b : Value) (xs : List UInt8) (w : World) (hT : Tab w t) (hb : Bs (· = t) w b xs) :
    Calls Try.prog 110 #[.pointer (some ⟨t, 0, none⟩), b] w fun e w' => e = .returned (vu32 (crcSum xs)) ∧ Tab w' t ∧ Fr (· = t) w w' := by
  have HR := hid (more_ok t 0 b xs w hT hb)
  clear hT hb
  unfold crcSum
  unfold vu32 at HR ⊢
  rw [show (((0 : BitVec 32).toNat : Nat) : Int) = 0 from rfl] at HR
  go_enter Try.func110, Try.ntmps110
  go_wp2_with (go_at_call 139; refine (HR.out).mono ?_; rintro e w1 ⟨rfl, hT, hF⟩)
  go_ret
  exact ⟨rfl, hT, hF⟩
theorem tail_row (w : World) (r : BitVec 32) : Row (fun _ => False) (w.alloc (.cells #[.int .u8 ((r.toNat : Int) % 256), .int .u8 ((r.toNat : Int) / 256 % 256), .int .u8 ((r.toNat : Int) / 65536 % 256), .int .u8 ((r.toNat : Int) / 16777216)] 5)) (.slice (some ⟨w.heap.size, 0, none⟩) 4 4) 4 1 (bcells (tail4 r)) := by
  refine ⟨rfl, _, 4, rfl, ⟨Nat.le_refl _, by omega, by unfold maxLen; omega⟩, (fun h => nomatch h), .inr ⟨w.heap.size, 0, rfl, by simp, id, fun j x hx => ?_⟩⟩
  rw [cell_of_heap (heap_alloc_new w _)]
  simp only [tail4, bcells, List.map_cons, List.map_nil, sumByte_val] at hx
  match j, hx with
  | 0, hx => simpa using hx
  | 1, hx => simpa using hx
  | 2, hx => simpa using hx
  | 3, hx =>
    have hr := r.isLt
    rw [show ((r.toNat : Int) / 16777216) = (r.toNat : Int) / (2 ^ (8 * 3) : Nat) % 256 from by omega]
    simpa using hx
  | n + 4, hx => simp at hx
set_option maxRecDepth 100000 in
set_option maxHeartbeats 800000 in
theorem seal_ok (t : Nat) (b : Value) (xs : List UInt8) (w : World) (hT : Tab w t) (hb : Bs (· = t) w b xs) (hlen : xs.length ≤ 1099511627776) :
    Calls Try.prog 52 #[.pointer (some ⟨t, 0, none⟩), b] w fun e w' => ∃ v', e = .returned v' ∧ OwnB w' w.heap.size v' (sealed xs) ∧ Tab w' t ∧ Fr (· = t) w w' := by
  have ht := hT.lt
  have HR := hid (sum_ok t b xs w hT hb)
  have HB := hid hb
  clear hT hb
  unfold vu32 at HR
  go_enter Try.func52, Try.ntmps52
  go_wp2_with (first | (go_at_call 110; refine (HR.out).mono ?_; rintro e w1 ⟨rfl, hT, hF⟩) | (go_at_call 111; refine (cloneB_ok _ xs _ (HB.out.fr hF (fun _ _ h => h))).mono ?_; rintro e w2 ⟨v2, rfl, ho, hb2⟩) | (at_builtin; go_loud (refine wpl_append (S := fun _ => False) (base := w1.heap.size) rfl rfl etB rfl (Own.fr ho ((Fr.refl (fun _ => False) w2).alloc _) (fun _ _ h => h)) rfl (tail_row _ _) (bcells_one _) (by omega) (by have := hb2.size; simp; omega) ?_); intro v3 w3 ho3 hf3 hm3))
  go_ret
  have hA : Fr (fun k => w.heap.size ≤ k) w1 w3 := ((Fr.of_below hb2).alloc _).trans' hf3 (fun k hk hm => absurd ((Own.mine_ge ho hm).1) (by omega))
  have hF3 : Fr (· = t) w w3 := hF.trans' hA (fun i hi hk => absurd hk (by omega))
  refine ⟨_, rfl, ?_, hT.fr hA (by omega), hF3⟩
  rw [bcells_append] at ho3
  have hl : xs.length + 4 = (sealed xs).length := by simp [sealed, tail4]
  rw [hl] at ho3
  exact Own.mono ho3 hF.size
end Go.Proofs.Ytelijfdpgachnaa
