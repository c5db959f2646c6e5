/- slices.Equal of bytes. -/
import Derived.Test.YtgehalfnpbjjcaaGreatClone
import Derived.Deep.QuietTactic
import Derived.BigQuiet
namespace Go.Proofs.YtgehalfnpbjjcaaGreat
open Go Go.RowKit
theorem take_eq_step {xs ys : List UInt8} {k : Nat} (h : xs.take k = ys.take k) (hx : k < xs.length) (hy : k < ys.length) (he : xs[k] = ys[k]) : xs.take (k + 1) = ys.take (k + 1) := by
  rw [List.take_succ_eq_append_getElem hx, List.take_succ_eq_append_getElem hy, h, he]
theorem below_dN {B : Nat} {a w : World} (h : Below B a w) (n : Nat) : Below B a (w.drewN n) := ⟨h.os, h.tape, h.output, h.size, h.block⟩
theorem below_drewN' (w : World) (n : Nat) : Below w.heap.size w (w.drewN n) := ⟨rfl, rfl, rfl, Nat.le_refl _, fun _ _ => rfl⟩
end Go.Proofs.YtgehalfnpbjjcaaGreat
