/- tlv's makers: Number, Bytes, Many. -/
import Derived.Test.YtpomfegcifpfkaaTv
namespace Go.Proofs.Ytpomfegcifpfkaa
open Go Go.RowKit
theorem et_cloneV : ET Try.prog 71 74 4 64 (.agg #[.int .i64 0, .int .u64 0, .slice none 0 0, .slice none 0 0]) := ⟨Try.underlying71, by kernel_rfl, rfl, by decide, by decide⟩
set_option maxRecDepth 100000 in
set_option maxHeartbeats 400000 in
/-- slices.Clone (cloneV): the same cells, in new memory. -/
theorem cloneV_ok {S : Nat → Prop} (v : Value) (n : Nat) (cs : List Value) (w : World) (h : Row S w v n 4 cs) (h1 : ∀ u ∈ cs, u.oneCell' = true) (hlen : n * 64 ≤ 140737488355328) :
    Calls Try.prog 46 #[v] w fun e w' => ∃ v', e = .returned v' ∧ Own w' w.heap.size 74 4 v' n cs ∧ Below w.heap.size w w' := by
  have HR := hid h
  obtain ⟨h0, a, c, rfl, ⟨hc, _, hm⟩, hn, h4⟩ := h
  have hq := fun W => eql_slice_nil (P := Try.prog) W a n c Try.underlying71
  cases a with
  | none =>
    obtain rfl : n = 0 := by
      rcases h4 with h | ⟨b, off, h, _⟩
      · exact h
      · cases h
    obtain rfl : c = 0 := hn rfl
    obtain rfl : cs = [] := List.eq_nil_of_length_eq_zero (by simpa using h0)
    clear h4 hn hq h0 h1
    have hq0 := fun W => eql_slice_nil (P := Try.prog) W none 0 0 Try.underlying71
    go_enter Try.func46, Try.ntmps46
    go_wp2
    go_ret
    exact ⟨_, rfl, Own.nil _ _ _ _, Below.refl _ _⟩
  | some a =>
    clear h4 hn h0
    have H1 := hid h1
    clear h1
    go_enter Try.func46, Try.ntmps46
    go_wp2_with (at_builtin; refine wpl_append (S := S) (base := w.heap.size) (n := 0) (xs := []) rfl rfl et_cloneV rfl (own_empty _ _ _ _ _) rfl (HR.out.fr ((Fr.refl (fun _ => False) w).alloc _) (fun _ _ h => h.elim)) H1.out (by omega) (by simp) ?_; intro v' w1 ho hf _)
    simp only [Nat.zero_add, List.nil_append] at ho
    have hb : Below w.heap.size w w1 := Below.fr ((Below.refl _ _).alloc (Nat.le_refl _) _) hf (fun i hi hm => by
      obtain ⟨off, n, c, hv, hc⟩ := hm
      injection hv with e1 e2 e3
      exact hc e3.symm)
    go_wp2
    go_ret
    exact ⟨_, rfl, ho, hb⟩
/-- What is new lies outside S. -/
def Sok (S : Nat → Prop) (w w' : World) : Prop := ∀ k, w.heap.size ≤ k → k < w'.heap.size → ¬ S k
theorem TVsl.of_own {S : Nat → Prop} {w w' : World} {e : TypeId} {v : Value} {l : List TV} {ks : List Value} (h : Own w' w.heap.size e 4 v l.length ks) (hc : TVch S w' l ks) (hS : Sok S w w') : TVsl S w' l v :=
  ⟨ks, h.row hS, hc⟩
theorem Fr.set1 {b : Nat} {a w : World} (h : Fr (· = b) a w) (o : Nat) (v : Value) : Fr (· = b) a (w.setCell ⟨b, o, none⟩ v) := h.setCell (p := ⟨b, o, none⟩) (fun _ => rfl) v
theorem wold {W w1 : World} (hb : Below W.heap.size W w1) : (∀ b o, b < W.heap.size → w1.cell? ⟨b, o, none⟩ = W.cell? ⟨b, o, none⟩) ∧ (∀ b o, b < W.heap.size → w1.frozen? ⟨b, o, none⟩ = W.frozen? ⟨b, o, none⟩) :=
  ⟨fun b o h => hb.cell (p := ⟨b, o, none⟩) h, fun b o h => hb.frozen (p := ⟨b, o, none⟩) h⟩
set_option maxRecDepth 100000 in
theorem number_ok (n : Nat) (w : World) (hn : n < 18446744073709551616) : Calls Try.prog 42 #[.int .u64 (n : Int)] w fun e w' => ∃ x, e = .returned x ∧ (∀ S, TVv S w' (.mk 1 n [] []) x) ∧ Below w.heap.size w w' := by
  go_enter Try.func42, Try.ntmps42
  go_wp2
  refine bodyPost_ret (v := .agg #[.int .i64 1, .int .u64 (n : Int), .slice none 0 0, .slice none 0 0]) (by simp [results, Try.results42, go_sem]) rfl ⟨_, rfl, fun S => ⟨_, _, _, _, rfl, ?_⟩, ?_⟩
  · rw [TVr]
    exact ⟨hn, _, _, [], rfl, Bs.nil _ _, ⟨rfl, none, 0, rfl, ⟨Nat.le_refl _, Nat.zero_le _, Nat.zero_le _⟩, fun _ => rfl, .inl rfl⟩, by rw [TVch]⟩
  · exact (Below.refl _ _).alloc (Nat.le_refl _) _
set_option maxRecDepth 100000 in
theorem bytes_ok {S' : Nat → Prop} (b : Value) (xs : List UInt8) (w : World) (hb : Bs S' w b xs) :
    Calls Try.prog 43 #[b] w fun e w' => ∃ x, e = .returned x ∧ (∀ S, Sok S w w' → TVv S w' (.mk 2 0 xs []) x) ∧ Below w.heap.size w w' := by
  have HB := hid hb
  clear hb
  go_enter Try.func43, Try.ntmps43
  go_wp2_with (go_at_call 48; refine (cloneB_ok (S := S') _ xs _ (HB.out.fr ((Fr.refl (fun _ => False) w).alloc _) (fun _ _ h => h.elim))).mono ?_; rintro e w1 ⟨v1, rfl, ho1, hb1⟩; obtain ⟨a1, c1, rfl, _⟩ := ho1.len; obtain ⟨hc1, hf1⟩ := wold hb1)
  have hsz := hb1.size
  simp only [World.size_alloc] at hsz
  have hF : Fr (· = w.heap.size) w1 ((((w1.setCell ⟨w.heap.size, 0, none⟩ (.int .i64 2)).setCell ⟨w.heap.size, 1, none⟩ (.int .u64 0)).setCell ⟨w.heap.size, 2, none⟩ (.slice a1 xs.length c1)).setCell ⟨w.heap.size, 3, none⟩ (.slice none 0 0)) :=
    ((((Fr.refl _ _).set1 _ _).set1 _ _).set1 _ _).set1 _ _
  have ho2 : OwnB _ _ _ _ := Own.fr ho1 hF (fun k hk he => by have := (Own.mine_ge ho1 hk).1; simp only [World.size_alloc] at this; omega)
  refine bodyPost_ret (v := .agg #[.int .i64 2, .int .u64 0, .slice a1 xs.length c1, .slice none 0 0]) (by simp [results, Try.results43, go_sem, hc1]) rfl ⟨_, rfl, fun S hS => ⟨_, _, _, _, rfl, ?_⟩, ?_⟩
  · rw [TVr]
    exact ⟨by omega, _, _, [], rfl, ho2.bs (fun k hk hl => hS k (by simp only [World.size_alloc] at hk; omega) hl), ⟨rfl, none, 0, rfl, ⟨Nat.le_refl _, Nat.zero_le _, Nat.zero_le _⟩, fun _ => rfl, .inl rfl⟩, by rw [TVch]⟩
  · exact (((((Below.refl _ _).alloc (Nat.le_refl _) _).trans (hb1.mono (by simp))).setCell (Nat.le_refl _) _).setCell (Nat.le_refl _) _).setCell (Nat.le_refl _) _ |>.setCell (Nat.le_refl _) _
set_option maxRecDepth 100000 in
theorem many_ok {S' : Nat → Prop} (x : Value) (l : List TV) (w : World) (hl : TVsl S' w l x) (hlen : l.length ≤ 1099511627776) :
    Calls Try.prog 21 #[x] w fun e w' => ∃ y, e = .returned y ∧ (∀ S, (∀ k, S k → S' k) → Sok S w w' → TVv S w' (.mk 3 0 [] l) y) ∧ Below w.heap.size w w' := by
  obtain ⟨ks, hr, hch⟩ := hl
  have HR := hid hr
  have HC := hid hch
  have h1 := hid hch.one
  clear hr hch
  go_enter Try.func21, Try.ntmps21
  go_wp2_with (go_at_call 46; refine (cloneV_ok (S := S') _ l.length ks _ (HR.out.fr ((Fr.refl (fun _ => False) w).alloc _) (fun _ _ h => h.elim)) h1.out (by omega)).mono ?_; rintro e w1 ⟨v1, rfl, ho1, hb1⟩; obtain ⟨a1, c1, rfl, _⟩ := ho1.len; obtain ⟨hc1, hf1⟩ := wold hb1)
  have hsz := hb1.size
  simp only [World.size_alloc] at hsz
  have hF : Fr (· = w.heap.size) w1 ((((w1.setCell ⟨w.heap.size, 0, none⟩ (.int .i64 3)).setCell ⟨w.heap.size, 1, none⟩ (.int .u64 0)).setCell ⟨w.heap.size, 2, none⟩ (.slice none 0 0)).setCell ⟨w.heap.size, 3, none⟩ (.slice a1 l.length c1)) :=
    ((((Fr.refl _ _).set1 _ _).set1 _ _).set1 _ _).set1 _ _
  have ho2 := Own.fr ho1 hF (fun k hk he => by have := (Own.mine_ge ho1 hk).1; simp only [World.size_alloc] at this; omega)
  have hB : Below w.heap.size w w1 := ((Below.refl _ _).alloc (Nat.le_refl _) _).trans (hb1.mono (by simp))
  have hB2 : Below w.heap.size w ((((w1.setCell ⟨w.heap.size, 0, none⟩ (.int .i64 3)).setCell ⟨w.heap.size, 1, none⟩ (.int .u64 0)).setCell ⟨w.heap.size, 2, none⟩ (.slice none 0 0)).setCell ⟨w.heap.size, 3, none⟩ (.slice a1 l.length c1)) :=
    (((hB.setCell (Nat.le_refl _) _).setCell (Nat.le_refl _) _).setCell (Nat.le_refl _) _).setCell (Nat.le_refl _) _
  refine bodyPost_ret (v := .agg #[.int .i64 3, .int .u64 0, .slice none 0 0, .slice a1 l.length c1]) (by simp [results, Try.results21, go_sem, hc1]) rfl ⟨_, rfl, fun S hS1 hS => ⟨_, _, _, _, rfl, ?_⟩, hB2⟩
  rw [TVr]
  exact ⟨by omega, _, _, ks, rfl, Bs.nil _ _, ho2.row (fun k hk hl => hS k (by simp only [World.size_alloc] at hk; omega) hl), TVch.fr (Fr.of_below (S := fun _ => False) hB2) (fun _ _ h => h.elim) _ _ (TVch.mono (fun k _ h => hS1 k h) _ _ HC.out)⟩
end Go.Proofs.Ytpomfegcifpfkaa
