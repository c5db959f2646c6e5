/- Which names are right: what strings.ContainsFunc finds. -/
import Derived.Test.YtgehalfnpbjjcaaGreatAlivePure
import Derived.Shelf.GgClosure.StringsIndexFuncTop
import Derived.Test.YtgehalfnpbjjcaaGreatShelf
import Derived.Test.YtgehalfnpbjjcaaGreatFsr
import Derived.Test.YtgehalfnpbjjcaaGreatClone
namespace Go.Proofs.YtgehalfnpbjjcaaGreat
open Go Go.RowKit
def oddR (r : Nat) : Bool := decide (r < 33 ∨ 126 < r ∨ r = 47)
theorem decodeN_high (n b0 b1 b2 b3 : Nat) (h : 128 ≤ b0) : 128 ≤ (Lib.decodeN n b0 b1 b2 b3).1 := by
  unfold Lib.decodeN
  rw [if_neg (by omega)]
  repeat' split
  all_goals simp only
  all_goals omega
theorem odd_byte {b : Nat} (u : UInt8) (hu : u.toNat = b) : oddR b = !byteR u := by
  unfold oddR byteR
  rw [hu, ← decide_not]
  exact decide_eq_decide.2 (by omega)
theorem idx_from (s : ByteArray) : ∀ (f pos : Nat), s.size ≤ pos + f → (Lib.idxFuncFrom oddR true s f pos = -1 ↔ ∀ i, pos ≤ i → i < s.size → byteR (s.get! i) = true)
  | 0, pos, h => by
    unfold Lib.idxFuncFrom
    exact ⟨fun _ i h1 h2 => by omega, fun _ => rfl⟩
  | f + 1, pos, h => by
    unfold Lib.idxFuncFrom
    by_cases hp : pos < s.size
    · rw [if_pos hp]
      have hd := Lib.decode_at s pos
      by_cases hb : (s.get! pos).toNat < 128
      · have hd2 : Utf8.decode s pos = ((s.get! pos).toNat, 1) := by
          rw [hd]; unfold Lib.decodeN; rw [if_pos hb]
        rw [hd2, odd_byte (s.get! pos) rfl]
        have ih := idx_from s f (pos + 1) (by omega)
        cases hr : byteR (s.get! pos) with
        | true =>
          simp only [Bool.not_true, Bool.false_eq_true, if_false]
          rw [ih]
          exact ⟨fun h i h1 h2 => (Nat.lt_or_eq_of_le h1).elim (fun h3 => h i h3 h2) (fun h3 => h3 ▸ hr), fun h i h1 h2 => h i (by omega) h2⟩
        | false =>
          simp only [Bool.not_false, if_true]
          exact ⟨fun h => absurd h (by omega), fun h => by have := h pos (Nat.le_refl _) hp; rw [hr] at this; cases this⟩
      · have hh := decodeN_high (s.size - pos) (s.get! pos).toNat (s.get! (pos + 1)).toNat (s.get! (pos + 2)).toNat (s.get! (pos + 3)).toNat (by omega)
        rw [← hd] at hh
        have ho : oddR (Utf8.decode s pos).1 = true := by unfold oddR; exact decide_eq_true (by omega)
        rw [ho]
        simp only [if_true]
        have hr : byteR (s.get! pos) = false := by unfold byteR; exact decide_eq_false (by omega)
        exact ⟨fun h => absurd h (by omega), fun h => by have := h pos (Nat.le_refl _) hp; rw [hr] at this; cases this⟩
    · rw [if_neg hp]
      exact ⟨fun _ i h1 h2 => by omega, fun _ => rfl⟩
theorem get_data (s : ByteArray) {i : Nat} (h : i < s.size) : s.data.toList[i]? = some (s.get! i) := by
  have h' : i < s.data.size := h
  rw [Array.getElem?_toList, Array.getElem?_eq_getElem h']
  congr 1
  unfold ByteArray.get!
  exact (getElem!_pos s.data i h').symm
theorem idx_odd (s : ByteArray) : decide (0 ≤ Lib.idxFunc oddR true s) = !(s.data.toList.all byteR) := by
  have h := idx_from s s.size 0 (by omega)
  have hr := Lib.idxFunc_range oddR true s
  change (Lib.idxFunc oddR true s = -1 ↔ _) at h
  have ha : s.data.toList.all byteR = true ↔ ∀ i, 0 ≤ i → i < s.size → byteR (s.get! i) = true := by
    rw [List.all_eq_true]
    constructor
    · intro h i _ hi
      exact h _ (List.mem_of_getElem? (get_data s hi))
    · intro h x hx
      obtain ⟨i, hi⟩ := List.getElem?_of_mem hx
      have hlt : i < s.size := by simpa using (List.getElem?_eq_some_iff.1 hi).1
      rw [get_data s hlt] at hi
      injection hi with hi
      subst hi
      exact h i (Nat.zero_le _) hlt
  cases hb : s.data.toList.all byteR with
  | true =>
    rw [h.2 (ha.1 hb)]; rfl
  | false =>
    rcases hr with hr | hr
    · have := ha.2 (h.1 hr)
      rw [hb] at this; cases this
    · exact decide_eq_true hr.1
end Go.Proofs.YtgehalfnpbjjcaaGreat
/- simfs: names, and what is wrong with a call. -/
namespace Go.Proofs.YtgehalfnpbjjcaaGreat
open Go Go.RowKit Go.Sort
set_option maxRecDepth 100000 in
theorem fsName1_ok (r : Nat) (w : World) : Calls Tryz.prog 83 #[.int .i32 (r : Int)] w fun e w' => e = .returned (.bool (oddR r)) ∧ w' = w := by
  by_cases h1 : r < 33
  · have h2 : ((r : Int) < 33) := by omega
    go_enter Tryz.func83, Tryz.ntmps83
    go_wp2
    go_ret
    exact ⟨by rw [show oddR r = true from decide_eq_true (.inl h1)]; rfl, rfl⟩
  · have h2 : ¬ ((r : Int) < 33) := by omega
    by_cases h3 : 126 < r
    · have h4 : (126 : Int) < (r : Int) := by omega
      go_enter Tryz.func83, Tryz.ntmps83
      go_wp2
      go_ret
      exact ⟨by rw [show oddR r = true from decide_eq_true (.inr (.inl h3))]; rfl, rfl⟩
    · have h4 : ¬ (126 : Int) < (r : Int) := by omega
      by_cases h5 : r = 47
      · subst h5
        go_enter Tryz.func83, Tryz.ntmps83
        go_wp2
        go_ret
        exact ⟨rfl, rfl⟩
      · have h6 : ((r : Int) == 47) = false := by simp; omega
        go_enter Tryz.func83, Tryz.ntmps83
        go_wp2
        go_ret
        exact ⟨by rw [show oddR r = false from decide_eq_false (by omega)]; rfl, rfl⟩
theorem odd_at (w : World) : PredAt Tryz.prog 83 #[] encR oddR w := fun W x _ => (fsName1_ok x W).mono fun e w' ⟨h1, h2⟩ => ⟨h1, 0, by rw [h2]; rfl⟩
theorem nameR_of {s : ByteArray} (h1 : 1 ≤ s.size) (h2 : s.size ≤ 40) : nameR s = s.data.toList.all byteR := by unfold nameR; rw [decide_eq_true ⟨h1, h2⟩]; rfl
set_option maxRecDepth 100000 in
theorem fsName_ok (s : ByteArray) (w : World) : Calls Tryz.prog 76 #[.string s] w fun e w' => e = .returned (.bool (nameR s)) ∧ Below w.heap.size w w' := by
  by_cases h1 : 1 ≤ s.size
  · by_cases h2 : s.size ≤ 40
    · have hc := Tryz.strings_ContainsFunc 83 #[] (enters_of Tryz.func83 rfl rfl) oddR s w (odd_at w)
      rw [idx_odd] at hc
      rw [nameR_of h1 h2]
      have HC := hid hc
      clear hc
      generalize s.data.toList.all byteR = b at *
      have g1 : (1 : Int) ≤ (s.size : Int) := by omega
      have g2 : (s.size : Int) ≤ 40 := by omega
      go_enter Tryz.func76, Tryz.ntmps76
      go_wp2_with (go_at_call 84; refine HC.out.mono ?_; rintro e w1 ⟨rfl, hb⟩)

      go_ret
      exact ⟨by simp, hb⟩
    · have hn : nameR s = false := by unfold nameR; rw [decide_eq_false (by omega)]; rfl
      rw [hn]
      have g1 : (1 : Int) ≤ (s.size : Int) := by omega
      have g2 : ¬ (s.size : Int) ≤ 40 := by omega
      clear hn
      go_enter Tryz.func76, Tryz.ntmps76
      go_wp2
      go_ret
      exact ⟨rfl, Below.refl _ _⟩
  · have hn : nameR s = false := by unfold nameR; rw [decide_eq_false (by omega)]; rfl
    rw [hn]
    have g1 : ¬ (1 : Int) ≤ (s.size : Int) := by omega
    clear hn
    go_enter Tryz.func76, Tryz.ntmps76
    go_wp2
    go_ret
    exact ⟨rfl, Below.refl _ _⟩
theorem FSr.head {w : World} {F D : Nat → Prop} {sb : Nat} {st : FSt} (h : FSr w F D sb st) : ∃ m1 m2 ca cc, w.heap[sb]? = some (.cells (fsC st m1 m2 (.slice ca st.chg.length cc)) 62 (0, 0)) := by
  obtain ⟨m1, m2, ca, cc, ho⟩ := h.lies
  exact ⟨m1, m2, ca, cc, ho.head⟩
set_option maxRecDepth 100000 in
theorem fsIs_ok {F D : Nat → Prop} {sb : Nat} {st : FSt} (w : World) (h : FSr w F D sb st) : Calls Tryz.prog 53 #[.pointer (some ⟨sb, 0, none⟩)] w fun e w' => e = .returned (.int .i64 (isF st)) ∧ w' = w := by
  obtain ⟨m1, m2, ca, cc, hh⟩ := h.head
  have c6 : w.cell? ⟨sb, 6, none⟩ = some (.bool st.down) := cell_of_heap hh 6
  clear hh h
  unfold isF
  cases hd : st.down
  all_goals
    rw [hd] at c6
    go_enter Tryz.func53, Tryz.ntmps53
    go_wp2
    go_ret
    exact ⟨rfl, rfl⟩
theorem fsIs_nil (w : World) : Calls Tryz.prog 53 #[.pointer none] w fun e w' => e = .returned (.int .i64 18) ∧ w' = w := by
  go_enter Tryz.func53, Tryz.ntmps53
  go_wp2
  go_ret
  exact ⟨rfl, rfl⟩
end Go.Proofs.YtgehalfnpbjjcaaGreat
