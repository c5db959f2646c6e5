/- How many bytes a number has, by its bits; what inner comes to. -/
import Derived.Test.YtpomfegcifpfkaaPureTlv
import Derived.Lib.BitFns
namespace Go.Proofs.Ytpomfegcifpfkaa
open Go Go.RowKit
theorem bitLenAux_zero (f : Nat) : Lib.bitLenAux f 0 = 0 := by cases f <;> simp [Lib.bitLenAux]
theorem bitLenAux_le (f x : Nat) : Lib.bitLenAux f x ≤ f := by
  induction f generalizing x with
  | zero => simp [Lib.bitLenAux]
  | succ f ih => rw [Lib.bitLenAux]; split; omega; have := ih (x / 2); omega
theorem bitLenAux_add (k f x : Nat) (h : 2 ^ k ≤ x) : Lib.bitLenAux (k + f) x = k + Lib.bitLenAux f (x / 2 ^ k) := by
  induction k generalizing x with
  | zero => simp
  | succ k ih =>
    have hx : x ≠ 0 := by have := Nat.two_pow_pos (k + 1); omega
    have h2 : 2 ^ k ≤ x / 2 := by rw [Nat.le_div_iff_mul_le (by omega)]; rw [Nat.pow_succ] at h; omega
    rw [show k + 1 + f = (k + f) + 1 from by omega, Lib.bitLenAux, if_neg hx, ih _ h2, Nat.div_div_eq_div_mul, Nat.pow_succ, Nat.mul_comm 2]
    omega
theorem bitLenAux_small (f x : Nat) (hx : x ≠ 0) (h : x < 2 ^ 8) (hf : 8 ≤ f) : 1 ≤ Lib.bitLenAux f x ∧ Lib.bitLenAux f x ≤ 8 := by
  have low : ∀ (k f x : Nat), x < 2 ^ k → Lib.bitLenAux f x ≤ k := by
    intro k
    induction k with
    | zero => intro f x h; obtain rfl : x = 0 := by omega
              rw [bitLenAux_zero]; omega
    | succ k ih =>
      intro f x h
      cases f with
      | zero => simp [Lib.bitLenAux]
      | succ f =>
        rw [Lib.bitLenAux]
        split
        · omega
        · have := ih f (x / 2) (by rw [Nat.pow_succ] at h; omega); omega
  refine ⟨?_, low 8 f x h⟩
  obtain ⟨g, rfl⟩ : ∃ g, f = g + 1 := ⟨f - 1, by omega⟩
  rw [Lib.bitLenAux, if_neg hx]; omega
theorem numBytes_zero : numBytes 0 = [] := by rw [numBytes]; rfl
theorem numBytes_pos (n : Nat) (h : n ≠ 0) : numBytes n = numBytes (n / 256) ++ [UInt8.ofNat (n % 256)] := by
  rw [numBytes, dif_neg h]
theorem bitLen_bytes (k n : Nat) (h : n < 256 ^ k) : (Lib.bitLenAux (8 * k) n + 7) / 8 = (numBytes n).length := by
  induction k generalizing n with
  | zero => obtain rfl : n = 0 := by simpa using h
            simp [numBytes_zero, Lib.bitLenAux]
  | succ k ih =>
    by_cases h0 : n = 0
    · subst h0; simp [numBytes_zero, bitLenAux_zero]
    · rw [numBytes_pos n h0, List.length_append, List.length_singleton]
      by_cases hs : n < 256
      · have h1 := bitLenAux_small (8 * (k + 1)) n h0 hs (by omega)
        rw [Nat.div_eq_of_lt hs, numBytes_zero]; simp; omega
      · have h2 := bitLenAux_add 8 (8 * k) n (by omega)
        rw [show 8 * (k + 1) = 8 + 8 * k from by omega, h2]
        have h3 := ih (n / 2 ^ 8) (by rw [Nat.pow_succ] at h; have : (2 : Nat) ^ 8 = 256 := rfl; rw [this]; omega)
        have : (2 : Nat) ^ 8 = 256 := rfl
        rw [this] at h3 ⊢
        omega
theorem bitLen_len (n : Nat) (h : n < 18446744073709551616) : (Lib.bitLen n + 7) / 8 = (numBytes n).length := bitLen_bytes 8 n h
theorem bitLen_le (n : Nat) : Lib.bitLen n ≤ 64 := bitLenAux_le 64 n
/-- What inner answers. -/
def innI (d : Nat) (v : TV) : Int := match inn d v with | some k => k | none => -1
theorem inns_append (d : Nat) : ∀ (l m : List TV), inns d (l ++ m) = (inns d l).bind fun s => (inns d m).map fun t => s + t
  | [], m => by simp [inns]
  | v :: l, m => by
    rw [List.cons_append, inns, inns, inns_append d l m]
    cases inn d v <;> cases inns d l <;> cases inns d m <;> simp [Nat.add_assoc]
theorem inns_snoc {d : Nat} {l : List TV} {i : Nat} {s : Nat} (h : inns d (l.take i) = some s) (hi : i < l.length) : inns d (l.take (i + 1)) = (inn d l[i]).map fun k => s + (3 + k) := by
  rw [List.take_succ_eq_append_getElem hi, inns_append, h, Option.bind_some, inns, inns]
  cases inn d l[i] <;> simp
theorem inns_prefix {d : Nat} {l : List TV} {i : Nat} : inns d l = (inns d (l.take i)).bind fun s => (inns d (l.drop i)).map fun t => s + t := by
  rw [← inns_append, List.take_append_drop]
theorem inn_no {d : Nat} {tag : Int} {n : Nat} {b : List UInt8} {l : List TV} (h : ¬ (onlyB tag n b l.length = true ∧ (tag = 3 → d ≠ 0))) : innI d (.mk tag n b l) = -1 := by
  rw [innI, inn, if_neg h]
theorem inn_elem_none {d : Nat} {tag : Int} {n : Nat} {b : List UInt8} {l : List TV} {i : Nat} (h : inns (d - 1) (l.take i) = none) : innI d (.mk tag n b l) = -1 := by
  rw [innI, inn, inns_prefix (i := i), h]
  by_cases hc : onlyB tag n b l.length = true ∧ (tag = 3 → d ≠ 0)
  · rw [if_pos hc]; rfl
  · rw [if_neg hc]
theorem inn_elem_big {d : Nat} {tag : Int} {n : Nat} {b : List UInt8} {l : List TV} {i s : Nat} (h : inns (d - 1) (l.take i) = some s) (hs : 65535 < (numBytes n).length + b.length + s) : innI d (.mk tag n b l) = -1 := by
  rw [innI, inn, inns_prefix (i := i), h, Option.bind_some]
  by_cases hc : onlyB tag n b l.length = true ∧ (tag = 3 → d ≠ 0)
  · rw [if_pos hc]
    cases inns (d - 1) (l.drop i) with
    | none => rfl
    | some t => simp only [Option.map_some, Option.bind_some]; rw [if_neg (by omega)]
  · rw [if_neg hc]
theorem inn_all {d : Nat} {tag : Int} {n : Nat} {b : List UInt8} {l : List TV} {s : Nat} (h0 : onlyB tag n b l.length = true ∧ (tag = 3 → d ≠ 0)) (h : inns (d - 1) l = some s) (hs : (numBytes n).length + b.length + s ≤ 65535) : innI d (.mk tag n b l) = ((numBytes n).length + b.length + s : Nat) := by
  rw [innI, inn, if_pos h0, h, Option.bind_some, if_pos hs]
/-- A number's j-th byte from the highest. -/
theorem numBytes_get (n : Nat) : ∀ (L j : Nat), (numBytes n).length = L → j < L → (numBytes n)[j]? = some (UInt8.ofNat (n / 256 ^ (L - 1 - j) % 256)) := by
  induction n using Nat.strongRecOn with
  | ind n ih =>
    intro L j hL hj
    by_cases h0 : n = 0
    · subst h0; rw [numBytes_zero] at hL; simp at hL; omega
    · rw [numBytes_pos n h0] at hL ⊢
      rw [List.length_append, List.length_singleton] at hL
      by_cases hl : j < (numBytes (n / 256)).length
      · rw [List.getElem?_append_left hl, ih (n / 256) (by omega) _ j rfl hl, Nat.div_div_eq_div_mul]
        congr 4
        rw [show L - 1 - j = ((numBytes (n / 256)).length - 1 - j) + 1 from by omega, Nat.pow_succ, Nat.mul_comm]
      · obtain rfl : j = (numBytes (n / 256)).length := by omega
        rw [List.getElem?_append_right (Nat.le_refl _), Nat.sub_self]
        simp only [List.getElem?_cons_zero]
        rw [show L - 1 - (numBytes (n / 256)).length = 0 from by omega, Nat.pow_zero, Nat.div_one]
theorem numBytes_le (n : Nat) (h : n < 18446744073709551616) : (numBytes n).length ≤ 8 := by have := bitLen_len n h; have := bitLen_le n; omega
theorem inn_le {d : Nat} {v : TV} {k : Nat} (h : inn d v = some k) : k ≤ 65535 := by
  obtain ⟨tag, n, b, l⟩ := v
  rw [inn] at h
  split at h
  · rw [Option.bind_eq_some_iff] at h
    obtain ⟨s, _, h⟩ := h
    split at h
    · simp only [Option.some.injEq] at h; omega
    · cases h
  · cases h
theorem onlyB_list {tag : Int} {n : Nat} {b : List UInt8} {k : Nat} (h : onlyB tag n b k = true) (hk : 0 < k) : tag = 3 := by
  unfold onlyB at h
  split at h
  · simp at h; omega
  · split at h
    · simp at h; omega
    · split at h
      · assumption
      · cases h
end Go.Proofs.Ytpomfegcifpfkaa
