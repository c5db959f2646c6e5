/- ref10's number and small. -/
import Derived.Test.YtpomfegcifpfkaaRefTake
namespace Go.Proofs.Ytpomfegcifpfkaa
open Go Go.RowKit
/-- A number as a value. -/
def numTV (n : Nat) : TV := .mk 1 n [] []
theorem TVv_num {S : Nat → Prop} (w : World) (n : Nat) (hn : n < 18446744073709551616) : TVv S w (numTV n) (.agg #[.int .i64 1, .int .u64 (n : Int), .slice none 0 0, .slice none 0 0]) := by
  refine ⟨_, _, _, _, rfl, ?_⟩
  rw [numTV, TVr]
  exact ⟨hn, _, _, [], rfl, Bs.nil0' _ _, ⟨rfl, none, 0, rfl, ⟨Nat.le_refl _, Nat.zero_le _, Nat.zero_le _⟩, fun _ => rfl, .inl rfl⟩, by rw [TVch]⟩
set_option maxRecDepth 100000 in
set_option maxHeartbeats 1000000 in
theorem r10Number_ok (w : World) (n : Nat) (hn : n ≤ 999999) : Calls Try.prog 23 #[.int .i64 (n : Int)] w fun r w' => r = .returned (.agg #[.int .i64 1, .int .u64 (n : Int), .slice none 0 0, .slice none 0 0]) ∧ Below w.heap.size w w' := by
  have hw : IntKind.u64.wrap (n : Int) = (n : Int) := by simp [IntKind.wrap, IntKind.signed, IntKind.bits]; omega
  go_enter Try.func23, Try.ntmps23
  go_wp2
  refine bodyPost_ret (v := .agg #[.int .i64 1, .int .u64 (n : Int), .slice none 0 0, .slice none 0 0]) (by simp [results, Try.results23, go_sem]) rfl ⟨rfl, ?_⟩
  exact (Below.refl _ _).alloc (Nat.le_refl _) _
/-- What small answers. -/
def smallF (v : TV) : Int := if v.tag = 1 ∧ v.num ≤ 1000000000 then (v.num : Int) else -1
set_option maxRecDepth 100000 in
set_option maxHeartbeats 1000000 in
theorem r10Small_ok {S : Nat → Prop} (w : World) (v : TV) (c0 c1 c2 c3 : Value) (hv : TVr S w v [c0, c1, c2, c3]) : Calls Try.prog 31 #[.agg #[c0, c1, c2, c3]] w fun r w' => r = .returned (.int .i64 (smallF v)) ∧ Below w.heap.size w w' := by
  obtain ⟨hvn, vb, vl, kv, hce, hbv, hrv, _⟩ := hv.cells
  obtain ⟨ab, cb, rfl, _⟩ := hbv
  obtain ⟨_, al2, cl2, rfl, _⟩ := hrv
  simp only [List.cons.injEq, and_true] at hce
  obtain ⟨rfl, rfl, rfl, rfl⟩ := hce
  unfold smallF
  clear hv
  generalize v.tag = t at *
  generalize v.num = n at *
  by_cases h1 : t = 1
  · subst h1
    by_cases h2 : n ≤ 1000000000
    · rw [if_pos ⟨rfl, h2⟩]
      have hd : decide ((1000000000 : Int) < (n : Int)) = false := by simp; omega
      have hw : IntKind.i64.wrap (n : Int) = (n : Int) := IntWalk.i64_in _ (by omega)
      go_enter Try.func31, Try.ntmps31
      go_wp2
      go_ret
      exact ⟨rfl, (Below.refl _ _).alloc (Nat.le_refl _) _⟩
    · rw [if_neg (fun h => h2 h.2)]
      have hd : decide ((1000000000 : Int) < (n : Int)) = true := by simp; omega
      go_enter Try.func31, Try.ntmps31
      go_wp2
      go_ret
      exact ⟨rfl, (Below.refl _ _).alloc (Nat.le_refl _) _⟩
  · rw [if_neg (fun h => h1 h.1)]
    have hb : (t == 1) = false := by simpa using h1
    have hb' : (t != 1) = true := by simpa using h1
    go_enter Try.func31, Try.ntmps31
    go_wp2
    go_ret
    exact ⟨rfl, (Below.refl _ _).alloc (Nat.le_refl _) _⟩
end Go.Proofs.Ytpomfegcifpfkaa
