/- simfs: names, and what is wrong with a call. -/
import Derived.Test.YtgehalfnpbjjcaaShelf
import Derived.Test.YtgehalfnpbjjcaaFsr
import Derived.Test.YtgehalfnpbjjcaaNameF
import Derived.Test.YtgehalfnpbjjcaaPureFs2
import Derived.Test.YtgehalfnpbjjcaaClone
namespace Go.Proofs.Ytgehalfnpbjjcaa
open Go Go.RowKit Go.Sort
set_option maxRecDepth 100000 in
theorem fsName1_ok (r : Nat) (w : World) : Calls Try.prog 31 #[.int .i32 (r : Int)] w fun e w' => e = .returned (.bool (oddR r)) ∧ w' = w := by
  by_cases h1 : r < 33
  · have h2 : ((r : Int) < 33) := by omega
    go_enter Try.func31, Try.ntmps31
    go_wp2
    go_ret
    exact ⟨by rw [show oddR r = true from decide_eq_true (.inl h1)]; rfl, rfl⟩
  · have h2 : ¬ ((r : Int) < 33) := by omega
    by_cases h3 : 126 < r
    · have h4 : (126 : Int) < (r : Int) := by omega
      go_enter Try.func31, Try.ntmps31
      go_wp2
      go_ret
      exact ⟨by rw [show oddR r = true from decide_eq_true (.inr (.inl h3))]; rfl, rfl⟩
    · have h4 : ¬ (126 : Int) < (r : Int) := by omega
      by_cases h5 : r = 47
      · subst h5
        go_enter Try.func31, Try.ntmps31
        go_wp2
        go_ret
        exact ⟨rfl, rfl⟩
      · have h6 : ((r : Int) == 47) = false := by simp; omega
        go_enter Try.func31, Try.ntmps31
        go_wp2
        go_ret
        exact ⟨by rw [show oddR r = false from decide_eq_false (by omega)]; rfl, rfl⟩
theorem odd_at (w : World) : PredAt Try.prog 31 #[] encR oddR w := fun W x _ => (fsName1_ok x W).mono fun e w' ⟨h1, h2⟩ => ⟨h1, 0, by rw [h2]; rfl⟩
theorem nameR_of {s : ByteArray} (h1 : 1 ≤ s.size) (h2 : s.size ≤ 40) : nameR s = s.data.toList.all byteR := by unfold nameR; rw [decide_eq_true ⟨h1, h2⟩]; rfl
set_option maxRecDepth 100000 in
theorem fsName_ok (s : ByteArray) (w : World) : Calls Try.prog 8 #[.string s] w fun e w' => e = .returned (.bool (nameR s)) ∧ Below w.heap.size w w' := by
  by_cases h1 : 1 ≤ s.size
  · by_cases h2 : s.size ≤ 40
    · have hc := Try.strings_ContainsFunc 31 #[] (enters_of Try.func31 rfl rfl) oddR s w (odd_at w)
      rw [idx_odd] at hc
      rw [nameR_of h1 h2]
      have HC := hid hc
      clear hc
      generalize s.data.toList.all byteR = b at *
      have g1 : (1 : Int) ≤ (s.size : Int) := by omega
      have g2 : (s.size : Int) ≤ 40 := by omega
      go_enter Try.func8, Try.ntmps8
      go_wp2_with (go_at_call 32; refine HC.out.mono ?_; rintro e w1 ⟨rfl, hb⟩)

      go_ret
      exact ⟨by simp, hb⟩
    · have hn : nameR s = false := by unfold nameR; rw [decide_eq_false (by omega)]; rfl
      rw [hn]
      have g1 : (1 : Int) ≤ (s.size : Int) := by omega
      have g2 : ¬ (s.size : Int) ≤ 40 := by omega
      clear hn
      go_enter Try.func8, Try.ntmps8
      go_wp2
      go_ret
      exact ⟨rfl, Below.refl _ _⟩
  · have hn : nameR s = false := by unfold nameR; rw [decide_eq_false (by omega)]; rfl
    rw [hn]
    have g1 : ¬ (1 : Int) ≤ (s.size : Int) := by omega
    clear hn
    go_enter Try.func8, Try.ntmps8
    go_wp2
    go_ret
    exact ⟨rfl, Below.refl _ _⟩
theorem FSr.head {w : World} {F D : Nat → Prop} {sb : Nat} {st : FSt} (h : FSr w F D sb st) : ∃ m1 m2 ca cc, w.heap[sb]? = some (.cells (fsC st m1 m2 (.slice ca st.chg.length cc)) 72 (0, 0)) := by
  obtain ⟨m1, m2, ca, cc, ho⟩ := h.lies
  exact ⟨m1, m2, ca, cc, ho.head⟩
set_option maxRecDepth 100000 in
theorem fsIs_ok {F D : Nat → Prop} {sb : Nat} {st : FSt} (w : World) (h : FSr w F D sb st) : Calls Try.prog 53 #[.pointer (some ⟨sb, 0, none⟩)] w fun e w' => e = .returned (.int .i64 (isF st)) ∧ w' = w := by
  obtain ⟨m1, m2, ca, cc, hh⟩ := h.head
  have c6 : w.cell? ⟨sb, 6, none⟩ = some (.bool st.down) := cell_of_heap hh 6
  clear hh h
  unfold isF
  cases hd : st.down
  all_goals
    rw [hd] at c6
    go_enter Try.func53, Try.ntmps53
    go_wp2
    go_ret
    exact ⟨rfl, rfl⟩
theorem fsIs_nil (w : World) : Calls Try.prog 53 #[.pointer none] w fun e w' => e = .returned (.int .i64 18) ∧ w' = w := by
  go_enter Try.func53, Try.ntmps53
  go_wp2
  go_ret
  exact ⟨rfl, rfl⟩
end Go.Proofs.Ytgehalfnpbjjcaa
