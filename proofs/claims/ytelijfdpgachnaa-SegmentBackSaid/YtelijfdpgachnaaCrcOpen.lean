/- crc's Open and New. -/
import Derived.Test.YtelijfdpgachnaaCrc
namespace Go.Proofs.Ytelijfdpgachnaa
open Go Go.RowKit
theorem Bs.take {S : Nat → Prop} {w : World} {a : Option Addr} {c : Nat} {xs : List UInt8} (h : Bs S w (.slice a xs.length c) xs) (k : Nat) (hk : k ≤ xs.length) : Bs S w (.slice a k c) (xs.take k) := by
  obtain ⟨a', c', h1, h2, h3', h4⟩ := h
  injection h1 with e1 _ e3
  subst e1 e3
  have hl : (xs.take k).length = k := by simp; omega
  refine ⟨a, c, by rw [hl], ⟨by have := h2.1; omega, by have := h2.2.1; omega, h2.2.2⟩, h3', ?_⟩
  rcases h4 with h4 | ⟨b, off, e1, e2, e3, e4⟩
  · subst h4; exact .inl (by simp)
  · refine .inr ⟨b, off, e1, e2, e3, fun i x hx => e4 i x ?_⟩
    have hi : i < k := by have := (List.getElem?_eq_some_iff.1 hx).1; omega
    rwa [List.getElem?_take_of_lt hi] at hx
/-- What Open answers: bytes, and a fault's number. -/
def crcOpenF (xs : List UInt8) : List UInt8 × Int :=
  if xs.length < 4 then ([], 3) else if sealed (xs.take (xs.length - 4)) = xs then (xs.take (xs.length - 4), 0) else ([], 4)
theorem crcOpen_short {xs : List UInt8} (h : xs.length < 4) : crcOpenF xs = ([], 3) := by simp [crcOpenF, h]
theorem crcOpen_ok {xs : List UInt8} (h : ¬ xs.length < 4) (h2 : sealed (xs.take (xs.length - 4)) = xs) : crcOpenF xs = (xs.take (xs.length - 4), 0) := by rw [crcOpenF, if_neg h, if_pos h2]
theorem crcOpen_bad {xs : List UInt8} (h : ¬ xs.length < 4) (h2 : ¬ sealed (xs.take (xs.length - 4)) = xs) : crcOpenF xs = ([], 4) := by rw [crcOpenF, if_neg h, if_neg h2]
/-- Bytes that were made, and a fault. -/
def RetBF (w : World) (t : Nat) (r : List UInt8 × Int) (e : Ending) (w' : World) : Prop :=
  ∃ v', e = .returned (.tuple #[v', .int .i64 r.2]) ∧ OwnB w' w.heap.size v' r.1 ∧ Tab w' t ∧ Fr (· = t) w w'
set_option maxRecDepth 100000 in
set_option maxHeartbeats 1000000 in
theorem open_ok (t : Nat) (b : Value) (xs : List UInt8) (w : World) (hT : Tab w t) (hb : Bs (· = t) w b xs) (hlen : xs.length ≤ 1099511627776) :
    Calls Try.prog 56 #[.pointer (some ⟨t, 0, none⟩), b] w (RetBF w t (crcOpenF xs)) := by
  have HB := hid hb
  obtain ⟨a, c, rfl, ⟨hc, _, hm⟩, _, _⟩ := hb
  unfold maxLen at hm
  by_cases hs : xs.length < 4
  · have hd : decide (((xs.length : Int) - 4) < 0) = true := by simp; omega
    have HT := hid hT
    rw [crcOpen_short hs]
    clear hT
    go_enter Try.func56, Try.ntmps56
    go_wp2_with fail
    go_ret2
    exact ⟨_, rfl, Own.nil _ _ _ _, HT.out, Fr.refl _ _⟩
  · obtain ⟨k, hk⟩ : ∃ k, k = xs.length - 4 := ⟨_, rfl⟩
    have hkl : (xs.length : Int) - 4 = (k : Int) := by omega
    have hk2 : k + 4 = xs.length := by omega
    have hd : decide ((k : Int) < 0) = false := by simp
    have HTk := hid (HB.out.take k (by omega))
    have HT := hid hT
    have hq := fun W => eql_slice_nil (P := Try.prog) W a xs.length c Try.underlying23
    have HRF := hid (show crcOpenF xs = if sealed (xs.take k) = xs then (xs.take k, 0) else ([], 4) by rw [crcOpenF, if_neg hs, ← hk])
    have hlk : (xs.take k).length ≤ 1099511627776 := by simp; omega
    rw [HRF.out]
    clear hT hk HRF hs
    have hk3 : k ≤ xs.length := by omega
    clear hk2
    by_cases he : sealed (xs.take k) = xs
    · rw [if_pos he]
      have hde : decide (sealed (xs.take k) = xs) = true := by simp [he]
      have HE := hid he
      clear he
      generalize xs.take k = ys at *
      go_enter Try.func56, Try.ntmps56
      go_wp2_with (first | (go_at_call 52; refine (seal_ok t _ ys _ HT.out HTk.out hlk).mono ?_; rintro e w1 ⟨v1, rfl, ho1, hT1, hF1⟩) | (go_at_call 114; (refine (equalB_ok (S := fun _ => False) (S' := (· = t)) _ _ (sealed ys) xs _ (ho1.bs (fun _ _ _ h => h)) (HB.out.fr hF1 (fun _ _ h => h))).mono ?_); rintro e w2 ⟨rfl, hb2⟩) | (go_at_call 111; (refine (cloneB_ok (S := (· = t)) _ ys _ ((HTk.out.fr hF1 (fun _ _ h => h)).fr (Fr.of_below hb2) (fun _ _ h => h)) ).mono ?_); rintro e w3 ⟨v3, rfl, ho3, hb3⟩))
      go_ret2
      have hF := (hF1.trans (Fr.of_below hb2)).trans (Fr.of_below hb3)
      exact ⟨_, rfl, Own.mono ho3 (Nat.le_trans hF1.size hb2.size), (hT1.fr (S := fun _ => False) (Fr.of_below hb2) id).fr (S := fun _ => False) (Fr.of_below hb3) id, hF⟩
    · rw [if_neg he]
      have hde : decide (sealed (xs.take k) = xs) = false := by simp [he]
      have HE := hid he
      clear he
      generalize xs.take k = ys at *
      go_enter Try.func56, Try.ntmps56
      go_wp2_with (first | (go_at_call 52; refine (seal_ok t _ ys _ HT.out HTk.out hlk).mono ?_; rintro e w1 ⟨v1, rfl, ho1, hT1, hF1⟩) | (go_at_call 114; (refine (equalB_ok (S := fun _ => False) (S' := (· = t)) _ _ (sealed ys) xs _ (ho1.bs (fun _ _ _ h => h)) (HB.out.fr hF1 (fun _ _ h => h))).mono ?_); rintro e w2 ⟨rfl, hb2⟩) | (go_at_call 111; (refine (cloneB_ok (S := (· = t)) _ ys _ ((HTk.out.fr hF1 (fun _ _ h => h)).fr (Fr.of_below hb2) (fun _ _ h => h)) ).mono ?_); rintro e w3 ⟨v3, rfl, ho3, hb3⟩))
      go_ret2
      exact ⟨_, rfl, Own.nil _ _ _ _, hT1.fr (S := fun _ => False) (Fr.of_below hb2) id, hF1.trans (Fr.of_below hb2)⟩
/-- Of no table. -/
theorem open_nil (b : Value) (w : World) (a : Option Addr) (n c : Nat) (hb : b = .slice a n c) (hn : n ≤ 1099511627776) :
    Calls Try.prog 56 #[.pointer none, b] w fun e w' => e = .returned (.tuple #[.slice none 0 0, .int .i64 18]) ∧ w = w' := by
  subst hb
  go_enter Try.func56, Try.ntmps56
  go_wp2_with fail
  go_ret2
  exact ⟨rfl, rfl⟩
/-- A new table. -/
theorem new_ok (w : World) : Calls Try.prog 10 #[] w fun e w' => ∃ t, e = .returned (.pointer (some ⟨t, 0, none⟩)) ∧ w.heap.size ≤ t ∧ Tab w' t ∧ Below w.heap.size w w' := by
  go_enter Try.func10, Try.ntmps10
  go_wp2
  go_ret
  refine ⟨w.heap.size, rfl, Nat.le_refl _, ⟨Try.zeroCells108, .inr ⟨heap_alloc_new w _, by kernel_rfl, by kernel_rfl, ⟨0, by kernel_rfl⟩, by kernel_rfl⟩⟩, (Below.refl _ _).alloc (Nat.le_refl _) _⟩
end Go.Proofs.Ytelijfdpgachnaa
