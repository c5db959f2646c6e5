/- crc's Open and New. -/
import Derived.Test.YtdbpkiddiehliaaGreatCrc
namespace Go.Proofs.YtdbpkiddiehliaaGreat
open Go Go.RowKit
theorem Bs.take {S : Nat → Prop} {w : World} {a : Option Addr} {c : Nat} {xs : List UInt8} (h : Bs S w (.slice a xs.length c) xs) (k : Nat) (hk : k ≤ xs.length) : Bs S w (.slice a k c) (xs.take k) := by
  obtain ⟨a', c', h1, h2, h3', h4⟩ := h
  injection h1 with e1 _ e3
  subst e1 e3
  have hl : (xs.take k).length = k := by simp; omega
  refine ⟨a, c, by rw [hl], ⟨by have := h2.1; omega, by have := h2.2.1; omega, h2.2.2⟩, h3', ?_⟩
  rcases h4 with h4 | ⟨b, off, e1, e2, e3, e4⟩
  · subst h4; exact .inl (by simp)
  · refine .inr ⟨b, off, e1, e2, e3, fun i x hx => e4 i x ?_⟩
    have hi : i < k := by have := (List.getElem?_eq_some_iff.1 hx).1; omega
    rwa [List.getElem?_take_of_lt hi] at hx
/-- What Open answers: bytes, and a fault's number. -/
def crcOpenF (xs : List UInt8) : List UInt8 × Int :=
  if xs.length < 4 then ([], 3) else if sealed (xs.take (xs.length - 4)) = xs then (xs.take (xs.length - 4), 0) else ([], 4)
theorem crcOpen_short {xs : List UInt8} (h : xs.length < 4) : crcOpenF xs = ([], 3) := by simp [crcOpenF, h]
theorem crcOpen_ok {xs : List UInt8} (h : ¬ xs.length < 4) (h2 : sealed (xs.take (xs.length - 4)) = xs) : crcOpenF xs = (xs.take (xs.length - 4), 0) := by rw [crcOpenF, if_neg h, if_pos h2]
theorem crcOpen_bad {xs : List UInt8} (h : ¬ xs.length < 4) (h2 : ¬ sealed (xs.take (xs.length - 4)) = xs) : crcOpenF xs = ([], 4) := by rw [crcOpenF, if_neg h, if_neg h2]
/-- Bytes that were made, and a fault. -/
def RetBF (w : World) (t : Nat) (r : List UInt8 × Int) (e : Ending) (w' : World) : Prop :=
  ∃ v', e = .returned (.tuple #[v', .int .i64 r.2]) ∧ OwnB w' w.heap.size v' r.1 ∧ Tab w' t ∧ Fr (· = t) w w'
/-- A new table. -/
theorem new_ok (w : World) : Calls Tryz.prog 18 #[] w fun e w' => ∃ t, e = .returned (.pointer (some ⟨t, 0, none⟩)) ∧ w.heap.size ≤ t ∧ Tab w' t ∧ Below w.heap.size w w' := by
  go_enter Tryz.func18, Tryz.ntmps18
  go_wp2
  go_ret
  refine ⟨w.heap.size, rfl, Nat.le_refl _, ⟨Tryz.zeroCells88, .inr ⟨heap_alloc_new w _, by kernel_rfl, by kernel_rfl, ⟨0, by kernel_rfl⟩, by kernel_rfl⟩⟩, (Below.refl _ _).alloc (Nat.le_refl _) _⟩
end Go.Proofs.YtdbpkiddiehliaaGreat
