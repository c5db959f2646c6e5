/- Which names are right: what strings.ContainsFunc finds. -/
import Derived.Test.YtgehalfnpbjjcaaPureFs
import Derived.Shelf.GgClosure.StringsIndexFuncTop
namespace Go.Proofs.Ytgehalfnpbjjcaa
open Go Go.RowKit
def oddR (r : Nat) : Bool := decide (r < 33 ∨ 126 < r ∨ r = 47)
theorem decodeN_high (n b0 b1 b2 b3 : Nat) (h : 128 ≤ b0) : 128 ≤ (Lib.decodeN n b0 b1 b2 b3).1 := by
  unfold Lib.decodeN
  rw [if_neg (by omega)]
  repeat' split
  all_goals simp only
  all_goals omega
theorem odd_byte {b : Nat} (u : UInt8) (hu : u.toNat = b) : oddR b = !byteR u := by
  unfold oddR byteR
  rw [hu, ← decide_not]
  exact decide_eq_decide.2 (by omega)
theorem idx_from (s : ByteArray) : ∀ (f pos : Nat), s.size ≤ pos + f → (Lib.idxFuncFrom oddR true s f pos = -1 ↔ ∀ i, pos ≤ i → i < s.size → byteR (s.get! i) = true)
  | 0, pos, h => by
    unfold Lib.idxFuncFrom
    exact ⟨fun _ i h1 h2 => by omega, fun _ => rfl⟩
  | f + 1, pos, h => by
    unfold Lib.idxFuncFrom
    by_cases hp : pos < s.size
    · rw [if_pos hp]
      have hd := Lib.decode_at s pos
      by_cases hb : (s.get! pos).toNat < 128
      · have hd2 : Utf8.decode s pos = ((s.get! pos).toNat, 1) := by
          rw [hd]; unfold Lib.decodeN; rw [if_pos hb]
        rw [hd2, odd_byte (s.get! pos) rfl]
        have ih := idx_from s f (pos + 1) (by omega)
        cases hr : byteR (s.get! pos) with
        | true =>
          simp only [Bool.not_true, Bool.false_eq_true, if_false]
          rw [ih]
          exact ⟨fun h i h1 h2 => (Nat.lt_or_eq_of_le h1).elim (fun h3 => h i h3 h2) (fun h3 => h3 ▸ hr), fun h i h1 h2 => h i (by omega) h2⟩
        | false =>
          simp only [Bool.not_false, if_true]
          exact ⟨fun h => absurd h (by omega), fun h => by have := h pos (Nat.le_refl _) hp; rw [hr] at this; cases this⟩
      · have hh := decodeN_high (s.size - pos) (s.get! pos).toNat (s.get! (pos + 1)).toNat (s.get! (pos + 2)).toNat (s.get! (pos + 3)).toNat (by omega)
        rw [← hd] at hh
        have ho : oddR (Utf8.decode s pos).1 = true := by unfold oddR; exact decide_eq_true (by omega)
        rw [ho]
        simp only [if_true]
        have hr : byteR (s.get! pos) = false := by unfold byteR; exact decide_eq_false (by omega)
        exact ⟨fun h => absurd h (by omega), fun h => by have := h pos (Nat.le_refl _) hp; rw [hr] at this; cases this⟩
    · rw [if_neg hp]
      exact ⟨fun _ i h1 h2 => by omega, fun _ => rfl⟩
theorem get_data (s : ByteArray) {i : Nat} (h : i < s.size) : s.data.toList[i]? = some (s.get! i) := by
  have h' : i < s.data.size := h
  rw [Array.getElem?_toList, Array.getElem?_eq_getElem h']
  congr 1
  unfold ByteArray.get!
  exact (getElem!_pos s.data i h').symm
theorem idx_odd (s : ByteArray) : decide (0 ≤ Lib.idxFunc oddR true s) = !(s.data.toList.all byteR) := by
  have h := idx_from s s.size 0 (by omega)
  have hr := Lib.idxFunc_range oddR true s
  change (Lib.idxFunc oddR true s = -1 ↔ _) at h
  have ha : s.data.toList.all byteR = true ↔ ∀ i, 0 ≤ i → i < s.size → byteR (s.get! i) = true := by
    rw [List.all_eq_true]
    constructor
    · intro h i _ hi
      exact h _ (List.mem_of_getElem? (get_data s hi))
    · intro h x hx
      obtain ⟨i, hi⟩ := List.getElem?_of_mem hx
      have hlt : i < s.size := by simpa using (List.getElem?_eq_some_iff.1 hi).1
      rw [get_data s hlt] at hi
      injection hi with hi
      subst hi
      exact h i (Nat.zero_le _) hlt
  cases hb : s.data.toList.all byteR with
  | true =>
    rw [h.2 (ha.1 hb)]; rfl
  | false =>
    rcases hr with hr | hr
    · have := ha.2 (h.1 hr)
      rw [hb] at this; cases this
    · exact decide_eq_true hr.1
end Go.Proofs.Ytgehalfnpbjjcaa
