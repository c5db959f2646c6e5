/- tlv's Get. -/
import Derived.Test.YtpomfegcifpfkaaTlvRead4
namespace Go.Proofs.Ytpomfegcifpfkaa
open Go Go.RowKit
/-- A value and a fault are answered. -/
def RetG (S : Nat → Prop) (w : World) (r : TV × Int) (e : Ending) (w' : World) : Prop :=
  Below w.heap.size w w' ∧ ∃ x, e = .returned (.tuple #[x, .int .i64 r.2]) ∧ TVv S w' r.1 x
theorem TVv.zero (S : Nat → Prop) (w : World) : TVv S w TV.zero (.agg #[.int .i64 0, .int .u64 0, .slice none 0 0, .slice none 0 0]) := by
  refine ⟨_, _, _, _, rfl, ?_⟩
  rw [TV.zero, TVr]
  exact ⟨by omega, _, _, [], rfl, Bs.nil _ _, ⟨rfl, none, 0, rfl, ⟨Nat.le_refl _, Nat.zero_le _, Nat.zero_le _⟩, fun _ => rfl, .inl rfl⟩, by rw [TVch]⟩
set_option maxRecDepth 100000 in
set_option maxHeartbeats 2000000 in
theorem get_ok {S : Nat → Prop} (b : Value) (xs : List UInt8) (w : World) (hSB : SB S w) (hb : Bs S w b xs) : Calls Try.prog 27 #[b] w (RetG S w (getF xs)) := by
  have hSB2 : SB (fun k => S k ∨ k = w.heap.size) (w.alloc (.cells #[.int .i64 0, .int .u64 0, .slice none 0 0, .slice none 0 0] 74 (0, 0))) := fun k hk => by
    rcases hk with hk | rfl
    · have := hSB k hk; simp; omega
    · simp
  have hIH := read_ok 8 (by omega) (fun k => S k ∨ k = w.heap.size) b xs _ hSB2 (hb.shift ((Fr.refl (fun _ => False) w).alloc _) (fun _ _ h => h.elim) (fun k hk hs => hs.resolve_right (by omega)))
  clear hSB2 hb hSB
  cases hrd : readF 8 xs with
  | none =>
    rw [hrd] at hIH
    have HC := hid hIH
    rw [show getF xs = (TV.zero, 3) by unfold getF; rw [hrd]]
    clear hIH
    go_enter Try.func27, Try.ntmps27
    go_wp2_with (go_at_call 52; refine HC.out.mono ?_; rintro e w2 ⟨hb2, rfl⟩; obtain ⟨hc2, hf2⟩ := wold hb2; have hsz2 : w.heap.size < w2.heap.size := (by have := hb2.size; simp at this; omega))
    have hx2 : w2.heap[w.heap.size]? = some (.cells #[.int .i64 0, .int .u64 0, .slice none 0 0, .slice none 0 0] 74 (0, 0)) := by
      rw [hb2.block _ (by simp)]; exact heap_alloc_new w _
    have hx3 := heap_store (heap_store (heap_store (heap_store hx2 0 (.int .i64 0)) 1 (.int .u64 0)) 2 (.slice none 0 0)) 3 (.slice none 0 0)
    have hF := ((((Fr.refl (· = w.heap.size) w2).set1 0 (.int .i64 0)).set1 1 (.int .u64 0)).set1 2 (.slice none 0 0)).set1 3 (.slice none 0 0)
    have hB := Below.fr (((Below.refl _ _).alloc (Nat.le_refl _) _).trans (hb2.mono (by simp))) hF (fun i hi e => by omega)
    refine bodyPost_ret (results_ct rfl _ _ w.heap.size _ _ _ _ rfl ((heap_alloc_old _ _ (lt_of_heap hx3)).trans hx3) Try.underlying74 rfl (by kernel_rfl)) rfl ⟨hB.alloc (by have := hF.size; omega) _, _, rfl, ?_⟩
    exact TVv.zero _ _
  | some p =>
    obtain ⟨v, r⟩ := p
    rw [hrd] at hIH
    have HC := hid hIH
    clear hIH
    cases r with
    | nil =>
      rw [show getF xs = (v, 0) by unfold getF; rw [hrd]]
      go_enter Try.func27, Try.ntmps27
      go_wp2_with (go_at_call 52; refine HC.out.mono ?_; rintro e w2 ⟨hb2, x, ar2, cr2, rfl, ⟨x0, x1, x2, x3, rfl, hv2⟩, hr2⟩; obtain ⟨hvn, vb, vl, kv, hce, hbv, hrv, _⟩ := hv2.cells; obtain ⟨ab, cb, rfl, _⟩ := hbv; obtain ⟨_, al2, cl2, rfl, _⟩ := hrv; simp only [List.cons.injEq, and_true] at hce; obtain ⟨rfl, rfl, rfl, rfl⟩ := hce; obtain ⟨hc2, hf2⟩ := wold hb2; have hsz2 : w.heap.size < w2.heap.size := (by have := hb2.size; simp at this; omega))
      have hx2 : w2.heap[w.heap.size]? = some (.cells #[.int .i64 0, .int .u64 0, .slice none 0 0, .slice none 0 0] 74 (0, 0)) := by
        rw [hb2.block _ (by simp)]; exact heap_alloc_new w _
      have hx3 := heap_store (heap_store (heap_store (heap_store hx2 0 (.int .i64 v.tag)) 1 (.int .u64 (v.num : Int))) 2 (.slice ab v.byt.length cb)) 3 (.slice al2 v.lst.length cl2)
      have hF := ((((Fr.refl (· = w.heap.size) w2).set1 0 (.int .i64 v.tag)).set1 1 (.int .u64 (v.num : Int))).set1 2 (.slice ab v.byt.length cb)).set1 3 (.slice al2 v.lst.length cl2)
      have hB := Below.fr (((Below.refl _ _).alloc (Nat.le_refl _) _).trans (hb2.mono (by simp))) hF (fun i hi e => by omega)
      refine bodyPost_ret (results_ct rfl _ _ w.heap.size _ _ _ _ rfl ((heap_alloc_old _ _ (lt_of_heap hx3)).trans hx3) Try.underlying74 rfl (by kernel_rfl)) rfl ⟨hB.alloc (by have := hF.size; omega) _, _, rfl, ?_⟩
      exact ⟨_, _, _, _, rfl, TVr.mono (fun k _ hs => .inl hs) _ _ (TVr.fr (hF.alloc _) (fun k _ e => .inr e) _ _ hv2)⟩
    | cons c r =>
      rw [show getF xs = (TV.zero, 3) by unfold getF; rw [hrd]]
      have hpos : (0 : Int) < ((c :: r : List UInt8).length : Int) := by simp only [List.length_cons]; omega
      generalize (c :: r : List UInt8) = r at *
      go_enter Try.func27, Try.ntmps27
      go_wp2_with (go_at_call 52; refine HC.out.mono ?_; rintro e w2 ⟨hb2, x, ar2, cr2, rfl, ⟨x0, x1, x2, x3, rfl, hv2⟩, hr2⟩; obtain ⟨hvn, vb, vl, kv, hce, hbv, hrv, _⟩ := hv2.cells; obtain ⟨ab, cb, rfl, _⟩ := hbv; obtain ⟨_, al2, cl2, rfl, _⟩ := hrv; simp only [List.cons.injEq, and_true] at hce; obtain ⟨rfl, rfl, rfl, rfl⟩ := hce; obtain ⟨hc2, hf2⟩ := wold hb2; have hsz2 : w.heap.size < w2.heap.size := (by have := hb2.size; simp at this; omega))
      have hx2 : w2.heap[w.heap.size]? = some (.cells #[.int .i64 0, .int .u64 0, .slice none 0 0, .slice none 0 0] 74 (0, 0)) := by
        rw [hb2.block _ (by simp)]; exact heap_alloc_new w _
      have hx3 := heap_store (heap_store (heap_store (heap_store hx2 0 (.int .i64 0)) 1 (.int .u64 0)) 2 (.slice none 0 0)) 3 (.slice none 0 0)
      have hF := ((((Fr.refl (· = w.heap.size) w2).set1 0 (.int .i64 0)).set1 1 (.int .u64 0)).set1 2 (.slice none 0 0)).set1 3 (.slice none 0 0)
      have hB := Below.fr (((Below.refl _ _).alloc (Nat.le_refl _) _).trans (hb2.mono (by simp))) hF (fun i hi e => by omega)
      refine bodyPost_ret (results_ct rfl _ _ w.heap.size _ _ _ _ rfl ((heap_alloc_old _ _ (lt_of_heap hx3)).trans hx3) Try.underlying74 rfl (by kernel_rfl)) rfl ⟨hB.alloc (by have := hF.size; omega) _, _, rfl, ?_⟩
      exact TVv.zero _ _
end Go.Proofs.Ytpomfegcifpfkaa
