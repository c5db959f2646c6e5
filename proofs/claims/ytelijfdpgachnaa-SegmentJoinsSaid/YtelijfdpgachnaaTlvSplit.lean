/- tlv's split: tag, what is in a form, what is behind it. -/
import Derived.Test.YtelijfdpgachnaaTlvPut
namespace Go.Proofs.Ytelijfdpgachnaa
open Go Go.RowKit
theorem Bs.sub {S : Nat → Prop} {w : World} {b off c c' n : Nat} {xs ys : List UInt8} (h : Bs S w (.slice (some ⟨b, off, none⟩) xs.length c) xs) (lo : Nat) (hn : ys.length = n) (hc : n ≤ c') (hc' : c' ≤ c) (hy : ∀ i y, ys[i]? = some y → xs[lo + i]? = some y) (hl : n ≤ xs.length) :
    Bs S w (.slice (some ⟨b, off + lo, none⟩) n c') ys := by
  obtain ⟨a, c1, h1, h2, h3', h4⟩ := h
  injection h1 with e1 _ e3
  subst e1 e3
  refine ⟨some ⟨b, off + lo, none⟩, c', by rw [hn], ⟨by omega, by have := h2.2.1; omega, by have := h2.2.2; omega⟩, (fun h => nomatch h), ?_⟩
  rcases h4 with h4 | ⟨b', off', e1, e2, e3, e4⟩
  · subst h4
    simp only [List.length_nil] at hl
    exact .inl (List.eq_nil_of_length_eq_zero (by omega))
  · injection e1 with e1
    injection e1 with e1 e5 _
    subst e1 e5
    exact .inr ⟨b, off + lo, rfl, e2, e3, fun i y hy' => by rw [Nat.add_assoc]; exact e4 _ y (hy i y hy')⟩
theorem Bs.empty (S : Nat → Prop) (w : World) (a : Addr) (c : Nat) (hc : c ≤ maxLen) : Bs S w (.slice (some a) 0 c) [] := ⟨some a, c, rfl, ⟨Nat.zero_le _, Nat.zero_le _, hc⟩, (fun h => nomatch h), .inl rfl⟩
theorem or_bytes (x y : UInt8) : bits .or .i64 ((x.toNat : Int) * 256) (y.toNat : Int) = ((x.toNat * 256 + y.toNat : Nat) : Int) := by
  have hx := x.toNat_lt
  have hy := y.toNat_lt
  have h1 : (BitVec.ofInt 64 ((x.toNat : Int) * 256)).toNat = x.toNat * 256 := by
    rw [show ((x.toNat : Int) * 256) = ((x.toNat * 256 : Nat) : Int) by omega, BitVec.ofInt_natCast, BitVec.toNat_ofNat]; omega
  have h2 : (BitVec.ofInt 64 (y.toNat : Int)).toNat = y.toNat := by rw [BitVec.ofInt_natCast, BitVec.toNat_ofNat]; omega
  show IntKind.i64.wrap ((BitVec.ofInt 64 ((x.toNat : Int) * 256) ||| BitVec.ofInt 64 (y.toNat : Int)).toNat : Int) = _
  rw [BitVec.toNat_or, h1, h2]
  have h3 : x.toNat * 256 ||| y.toNat = x.toNat * 256 + y.toNat := by
    rw [show x.toNat * 256 = 2 ^ 8 * x.toNat by omega, Nat.two_pow_add_eq_or_of_lt (by omega)]
  rw [h3, IntKind.wrap_i64]; omega
theorem results_tmp4' {fn : Func} {t u v x : Tmp} (h : fn.results = #[.tmp t, .tmp u, .tmp v, .tmp x]) (tmps : Array Value) (P : Program) (w : World) :
    (results fn tmps).run P w = .ok (.tuple #[tmps.getD t undef, tmps.getD u undef, tmps.getD v undef, tmps.getD x undef]) w := by simp [results, h]
def RetS (S : Nat → Prop) (w : World) (r : Option (UInt8 × List UInt8 × List UInt8)) (e : Ending) (w' : World) : Prop :=
  Below w.heap.size w w' ∧ match r with
  | none => e = .returned (.tuple #[.int .i64 0, .slice none 0 0, .slice none 0 0, .bool false])
  | some (t, i, r) => ∃ ai ci ar cr, e = .returned (.tuple #[.int .i64 (t.toNat : Int), .slice ai i.length ci, .slice ar r.length cr, .bool true]) ∧ Bs S w' (.slice ai i.length ci) i ∧ Bs S w' (.slice ar r.length cr) r
theorem RetS.no {S : Nat → Prop} {w w' : World} (h : Below w.heap.size w w') : RetS S w none (.returned (.tuple #[.int .i64 0, .slice none 0 0, .slice none 0 0, .bool false])) w' := ⟨h, rfl⟩
theorem RetS.yes {S : Nat → Prop} {w w' : World} {t : UInt8} {i r : List UInt8} {ai ar : Option Addr} {ci cr n m : Nat} (h : Below w.heap.size w w') (hn : i.length = n) (hm : r.length = m) (h1 : Bs S w' (.slice ai n ci) i) (h2 : Bs S w' (.slice ar m cr) r) :
    RetS S w (some (t, i, r)) (.returned (.tuple #[.int .i64 (t.toNat : Int), .slice ai n ci, .slice ar m cr, .bool true])) w' := by
  subst hn hm; exact ⟨h, _, _, _, _, rfl, h1, h2⟩
set_option maxRecDepth 100000 in
set_option maxHeartbeats 1000000 in
theorem split_ok {S : Nat → Prop} (v : Value) (xs : List UInt8) (w : World) (hb : Bs S w v xs) : Calls Try.prog 141 #[v] w (RetS S w (splitF xs)) := by
  have HB := hid hb
  obtain ⟨a, c, rfl, ⟨hlc, hlim, hcm⟩, _, h4⟩ := hb
  unfold maxLen at hcm
  match xs, h4 with
  | [], _ =>
    rw [show splitF [] = none from rfl]
    go_enter Try.func141, Try.ntmps141
    go_wp2
    refine bodyPost_ret (results_tmp4' rfl _ _ _) rfl (RetS.no (Below.refl _ _))
  | [p], _ =>
    rw [show splitF [p] = none from rfl]
    go_enter Try.func141, Try.ntmps141
    go_wp2
    refine bodyPost_ret (results_tmp4' rfl _ _ _) rfl (RetS.no (Below.refl _ _))
  | [p, q], _ =>
    rw [show splitF [p, q] = none from rfl]
    go_enter Try.func141, Try.ntmps141
    go_wp2
    refine bodyPost_ret (results_tmp4' rfl _ _ _) rfl (RetS.no (Below.refl _ _))
  | t :: x :: y :: r, h4 =>
    rcases h4 with h | ⟨b, off, ha, hbl, hS, hcell⟩
    · cases h
    subst ha
    have k0 := hcell 0 t rfl
    have k1 := hcell 1 x rfl
    have k2 := hcell 2 y rfl
    rw [Nat.add_zero] at k0
    have ho := or_bytes x y
    have hx := u8_lt x
    have ht := u8_lt t
    have ht0 : (0 : Int) ≤ (t.toNat : Int) := by omega
    have hy := u8_lt y
    have HL := hid (show (t :: x :: y :: r).length = r.length + 3 from rfl)
    have hl : (t :: x :: y :: r).length = r.length + 3 := rfl
    rw [hl] at hlc hlim ⊢
    clear hcell hl
    have HF := hid (show splitF (t :: x :: y :: r) = if x.toNat * 256 + y.toNat ≤ r.length then some (t, r.take (x.toNat * 256 + y.toNat), r.drop (x.toNat * 256 + y.toNat)) else none from rfl)
    rw [HF.out]
    generalize hn : x.toNat * 256 + y.toNat = n at *
    have HN := hid hn
    clear hn
    by_cases hnr : n ≤ r.length
    · rw [if_pos hnr]
      go_enter Try.func141, Try.ntmps141
      go_wp2
      go_quiet (fail)
      go_wp2
      have q1 : IntKind.i64.wrap (3 + (n : Int)) = 3 + (n : Int) := IntWalk.i64_in _ (by omega)
      have q2 : (0 : Int) ≤ 3 + (n : Int) := by omega
      have q3 : (3 + (n : Int)).toNat = 3 + n := by omega
      have q4 : 3 + n ≤ c := by omega
      have q5 : 3 + n ≤ r.length + 3 := by omega
      have q6 : (3 : Int) ≤ 3 + (n : Int) := by omega
      have q7 : 3 + (n : Int) ≤ (c : Int) := by omega
      have q8 : 3 + (n : Int) ≤ (r.length : Int) + 3 := by omega
      go_quiet (fail)
      go_wp2
      · obtain rfl : r = [] := List.eq_nil_of_length_eq_zero (by omega)
        exact bodyPost_ret (results_tmp4' rfl _ _ _) rfl (RetS.yes (below_dN (Below.refl _ _) _) rfl rfl (Bs.empty _ _ _ _ (by unfold maxLen; omega)) (Bs.empty _ _ _ _ (by unfold maxLen; omega)))
      · have hr0 : r.drop n = [] := List.drop_eq_nil_of_le (by omega)
        rw [hr0]
        have hBw := fun m => HB.out.fr (Fr.of_below (S := fun _ => False) (below_dN (Below.refl w.heap.size w) m)) (fun _ _ h => h.elim)
        refine bodyPost_ret (results_tmp4' rfl _ _ _) rfl (RetS.yes (below_dN (Below.refl _ _) _) (by simp; omega) (by simp; omega) (Bs.sub (hBw _) 3 (by simp; omega) (by omega) (by omega) (fun i y hy => ?_) (by simp; omega)) ?_)
        · have hi : i < n := by have := (List.getElem?_eq_some_iff.1 hy).1; simp at this; omega
          rw [List.getElem?_take_of_lt hi] at hy
          rw [Nat.add_comm]; exact hy
        · rw [show r.length + 3 - (3 + n) = 0 by omega]
          exact Bs.empty _ _ _ _ (by unfold maxLen; omega)
      · have hBw := fun m => HB.out.fr (Fr.of_below (S := fun _ => False) (below_dN (Below.refl w.heap.size w) m)) (fun _ _ h => h.elim)
        refine bodyPost_ret (results_tmp4' rfl _ _ _) rfl (RetS.yes (below_dN (Below.refl _ _) _) (by simp; omega) (by simp; omega) (Bs.sub (hBw _) 3 (by simp; omega) (by omega) (by omega) (fun i y hy => ?_) (by simp; omega)) (Bs.sub (hBw _) (3 + n) (by rw [List.length_drop]; omega) (by omega) (by omega) (fun i y hy => ?_) (by simp only [List.length_cons]; omega)))
        · have hi : i < n := by have := (List.getElem?_eq_some_iff.1 hy).1; simp at this; omega
          rw [List.getElem?_take_of_lt hi] at hy
          rw [Nat.add_comm]; exact hy
        · rw [List.getElem?_drop] at hy
          rw [show 3 + n + i = (n + i) + 3 by omega]; exact hy
    · rw [if_neg hnr]
      go_enter Try.func141, Try.ntmps141
      go_wp2
      go_quiet (fail)
      go_wp2
      refine bodyPost_ret (results_tmp4' rfl _ _ _) rfl (RetS.no (below_dN (Below.refl _ _) _))
end Go.Proofs.Ytelijfdpgachnaa
