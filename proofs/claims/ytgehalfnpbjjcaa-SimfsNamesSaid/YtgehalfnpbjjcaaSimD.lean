/- simfs: step. -/
import Derived.Test.YtgehalfnpbjjcaaSimC
namespace Go.Proofs.Ytgehalfnpbjjcaa
open Go Go.RowKit Go.Sort
theorem add64_ok (a : Addr) (n y : Int) (w : World) (hc : w.cell? a = some (.int .i64 n)) (hz : w.frozen? a = false) :
    Calls Try.prog 64 #[.pointer (some a), .int .i64 y] w fun e w' => e = .returned (.int .i64 (wrap64 (n + y))) ∧ w' = w.setCell a (.int .i64 (wrap64 (n + y))) := by
  have hadd := run_call_add (P := Try.prog) Try.func81 (by kernel_rfl) (by kernel_rfl) (by kernel_rfl) .i64 (by kernel_rfl) (y := y) (s := IntKind.i64.wrap (n + y)) hc hz (by simp [go_sem])
  go_enter Try.func64, Try.ntmps64
  go_wp2
  go_ret
  exact ⟨rfl, rfl⟩
theorem FSo.store {w : World} {F D : Nat → Prop} {sb m1 m2 : Nat} {st st' : FSt} {ch : Value} (h : FSo w F D sb st m1 m2 ch) (i : Nat) (v : Value) (he : (fsC st m1 m2 ch).setIfInBounds i v = fsC st' m1 m2 ch) (hf : st'.files = st.files) (h1 : st'.seen = st.seen) (h2 : st'.safe = st.safe) (h3 : st'.chg = st.chg) :
    FSo (w.setCell ⟨sb, i, none⟩ v) F D sb st' m1 m2 ch :=
  h.setHead ((Fr.refl (· = sb) w).setCell (fun _ => rfl) _) (by rw [heap_store h.head, he]) hf h.f1 h.f2 h.ne (by rw [h1]; exact h.seen) (by rw [h2]; exact h.safe) (by rw [h3]; exact h.own) h.hm
set_option maxRecDepth 100000 in
/-- s.step(do). -/
theorem fsStep_ok {F D : Nat → Prop} {sb m1 m2 : Nat} {st : FSt} {ch : Value} (w : World) (h : FSo w F D sb st m1 m2 ch) (g : Nat) (cb : Array Value) (eg : ∀ args w, (callFunc g args).run Try.prog w = .ok (.enter g args) w) (Q : World → Prop)
    (hdo : ∀ w1, FSo w1 F D sb (tick st) m1 m2 ch → Fr (· = sb) w w1 → w1.heap.size = w.heap.size → Calls Try.prog g cb w1 fun e w' => e = .returned (.tuple #[]) ∧ Q w') :
    Calls Try.prog 34 #[.pointer (some ⟨sb, 0, none⟩), .func (.func g) #[] cb] w fun e w' =>
      (st.armed = true ∧ st.left = 0 ∧ e = .returned (.int .i64 12) ∧ FSo w' F D sb { st with down := true } m1 m2 ch ∧ Fr (· = sb) w w') ∨ (¬ (st.armed = true ∧ st.left = 0) ∧ e = .returned (.int .i64 0) ∧ Q w') := by
  have hh := h.head
  have c4 : w.cell? ⟨sb, 4, none⟩ = some (.int .i64 st.left) := cell_of_heap hh 4
  have c5 : w.cell? ⟨sb, 5, none⟩ = some (.bool st.armed) := cell_of_heap hh 5
  have c6 : w.cell? ⟨sb, 6, none⟩ = some (.bool st.down) := cell_of_heap hh 6
  have f4 := frozen_of hh 4
  have f6 := frozen_of hh 6
  have hd := h.store (st' := { st with down := true }) 6 (.bool true) rfl rfl rfl rfl rfl
  have hl := h.store (st' := { st with left := wrap64 (st.left - 1) }) 4 (.int .i64 (wrap64 (st.left - 1))) rfl rfl rfl rfl rfl
  have ht := hl.store (st' := tick st) 7 (.int .i64 (wrap64 (st.steps + 1))) rfl rfl rfl rfl rfl
  have hadd := add64_ok ⟨sb, 7, none⟩ st.steps 1 _ (cell_of_heap hl.head 7) (frozen_of hl.head 7)
  have hfr : Fr (· = sb) w (w.setCell ⟨sb, 6, none⟩ (.bool true)) := (Fr.refl (· = sb) w).setCell (fun _ => rfl) _
  have hcl := hdo _ ht (((Fr.refl (· = sb) w).setCell (p := ⟨sb, 4, none⟩) (fun _ => rfl) _).setCell (p := ⟨sb, 7, none⟩) (fun _ => rfl) _) (by simp [World.setCell])
  have HD := hid hd
  have HADD := hid hadd
  have HFR := hid hfr
  have HCL := hid hcl
  clear hd hl ht hadd hfr hcl hdo hh h
  cases ha : st.armed with
  | true =>
    rw [ha] at c5
    by_cases h0 : st.left = 0
    · have h0b : (st.left == 0) = true := by simpa using h0
      rw [h0] at c4
      go_enter Try.func34, Try.ntmps34
      go_wp2
      go_ret
      exact .inl ⟨by trivial, h0, rfl, by have h9 := HD.out; rw [ha] at h9; exact h9, HFR.out⟩
    · have h0b : (st.left == 0) = false := by simpa using h0
      go_enter Try.func34, Try.ntmps34
      go_wp2_with (first | (go_at_call 64; refine HADD.out.mono ?_; rintro e w1 ⟨rfl, rfl⟩) | (go_at_fn g; refine HCL.out.mono ?_; rintro e w2 ⟨rfl, hq⟩; have HQ := hid hq; clear hq))
      go_ret
      exact .inr ⟨fun h => h0 h.2, rfl, HQ.out⟩
  | false =>
    rw [ha] at c5
    go_enter Try.func34, Try.ntmps34
    go_wp2_with (first | (go_at_call 64; refine HADD.out.mono ?_; rintro e w1 ⟨rfl, rfl⟩) | (go_at_fn g; refine HCL.out.mono ?_; rintro e w2 ⟨rfl, hq⟩; have HQ := hid hq; clear hq))
    go_ret
    exact .inr ⟨fun h => by simp at h, rfl, HQ.out⟩
end Go.Proofs.Ytgehalfnpbjjcaa
