/- tlv's only and inner. -/
import Derived.Test.YtelijfdpgachnaaTlvA
import Derived.Test.YtelijfdpgachnaaShelf
import Derived.Test.YtelijfdpgachnaaEqual
import Derived.Deep.QuietTactic
import Derived.BigQuiet
import Derived.Outline
namespace Go.Proofs.Ytelijfdpgachnaa
open Go Go.RowKit
theorem onlyB_1 (n : Nat) (b : List UInt8) (k : Nat) : onlyB 1 n b k = (b.isEmpty && !decide (0 < k)) := by
  cases k <;> simp [onlyB]
theorem onlyB_2 (n : Nat) (b : List UInt8) (k : Nat) : onlyB 2 n b k = (!((n : Int) != 0) && !decide (0 < k)) := by
  cases k <;> cases n <;> simp [onlyB] <;> omega
theorem onlyB_3 (n : Nat) (b : List UInt8) (k : Nat) : onlyB 3 n b k = (!((n : Int) != 0) && !decide (0 < b.length)) := by
  cases b <;> cases n <;> simp [onlyB] <;> omega
set_option maxRecDepth 100000 in
set_option maxHeartbeats 1000000 in
theorem only_ok {S : Nat → Prop} (v : TV) (x : Value) (w : World) (hv : TVv S w v x) :
    Calls Try.prog 152 #[x] w fun e w' => e = .returned (.bool (onlyB v.tag v.num v.byt v.lst.length)) ∧ Below w.heap.size w w' := by
  obtain ⟨c0, c1, c2, c3, rfl, h⟩ := hv
  obtain ⟨hn, vb, vl, ks, hc, hb, hr, _⟩ := h.cells
  simp only [List.cons.injEq, and_true] at hc
  obtain ⟨rfl, rfl, rfl, rfl⟩ := hc
  obtain ⟨a, c, rfl, ⟨hlb, _, hcm⟩, _, _⟩ := hb
  obtain ⟨_, a', c', rfl, ⟨hll, _, hcm'⟩, _, _⟩ := hr
  unfold maxLen at hcm hcm'
  obtain ⟨tag, n, b, l⟩ := v
  simp only [TV.tag, TV.num, TV.byt, TV.lst] at *
  clear h
  rename_i hX1 hX2 hX3 hX4
  clear hX1 hX2 hX3 hX4
  by_cases h1 : tag = 1
  · subst h1
    go_enter Try.func152, Try.ntmps152
    go_wp2
    go_quiet (fail)
    go_wp2
    all_goals
      go_ret
      refine ⟨ret_bool ?_, below_dN ((Below.refl _ _).alloc (Nat.le_refl _) _) _⟩
      rw [onlyB_1]
      simp [*]
  by_cases h2 : tag = 2
  · subst h2
    go_enter Try.func152, Try.ntmps152
    go_wp2
    go_quiet (fail)
    go_wp2
    all_goals
      go_ret
      refine ⟨ret_bool ?_, below_dN ((Below.refl _ _).alloc (Nat.le_refl _) _) _⟩
      rw [onlyB_2]
      simp [*]
  by_cases h3 : tag = 3
  · subst h3
    go_enter Try.func152, Try.ntmps152
    go_wp2
    go_quiet (fail)
    go_wp2
    all_goals
      go_ret
      refine ⟨ret_bool ?_, below_dN ((Below.refl _ _).alloc (Nat.le_refl _) _) _⟩
      rw [onlyB_3]
      simp [*]
  · have e1 : (tag == 1) = false := by simp [h1]
    have e2 : (tag == 2) = false := by simp [h2]
    have e3 : (tag == 3) = false := by simp [h3]
    have f1 : ((1 : Int) == tag) = false := by simp; omega
    have f2 : ((2 : Int) == tag) = false := by simp; omega
    have f3 : ((3 : Int) == tag) = false := by simp; omega
    have HO := hid (show onlyB tag n b l.length = false by simp [onlyB, h1, h2, h3])
    clear h1 h2 h3
    go_enter Try.func152, Try.ntmps152
    go_wp2
    go_quiet (fail)
    go_wp2
    all_goals
      go_ret
      exact ⟨ret_bool HO.out.symm, below_dN ((Below.refl _ _).alloc (Nat.le_refl _) _) _⟩
end Go.Proofs.Ytelijfdpgachnaa
