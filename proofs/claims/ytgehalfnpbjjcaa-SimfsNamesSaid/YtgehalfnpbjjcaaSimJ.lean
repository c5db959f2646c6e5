/- simfs: SyncDir, Rename. -/
import Derived.Test.YtgehalfnpbjjcaaSimI
namespace Go.Proofs.Ytgehalfnpbjjcaa
open Go Go.RowKit Go.Sort
set_option maxRecDepth 100000 in
theorem fsSync1_ok {F D : Nat → Prop} {sb m1 m2 : Nat} {s : FSt} {ca : Option Addr} {cc : Nat} (w : World) (h : FSo w F D sb s m1 m2 (.slice ca s.chg.length cc)) (b1 : Nat) (k1 : w.cell? ⟨b1, 0, none⟩ = some (.pointer (some ⟨sb, 0, none⟩))) :
    Calls Try.prog 54 #[.pointer (some ⟨b1, 0, none⟩)] w fun e w' => e = .returned (.tuple #[]) ∧ FSo w' F D sb (settleF s s.chg.length) m1 m2 (.slice none 0 0) ∧ Fr F w w' := by
  have mixed : Try.prog.follows .mixedOrders = true := by kernel_rfl
  have c3 : w.cell? ⟨sb, 3, none⟩ = some (.slice ca s.chg.length cc) := cell_of_heap h.head 3
  have HSE := hid (fsSettle_ok w.drew (h.fr ((Fr.refl (fun _ => False) w).drew) (fun _ _ => id)) s.chg.length (Nat.le_refl _))
  clear h
  go_enter Try.func54, Try.ntmps54
  go_wp2_with fail
  go_region_law_o ((go_simp; go_at_call 55; refine HSE.out.mono ?_; rintro e w2 ⟨rfl, hq, hf⟩; have HQ := hid hq; have HF := hid hf; clear hq hf))
  all_goals
    go_end0
    exact ⟨rfl, HQ.out, ⟨HF.out.os, HF.out.tape, HF.out.output, HF.out.size, HF.out.block⟩⟩
set_option maxHeartbeats 1000000 in
set_option maxRecDepth 100000 in
theorem fsSync_ok {F D : Nat → Prop} {sb : Nat} {st : FSt} (w : World) (h : FSr w F D sb st) :
    Calls Try.prog 21 #[.pointer (some ⟨sb, 0, none⟩)] w fun e w' => e = .returned (.int .i64 (syncF st).2) ∧ ∃ F' D', FSr w' F' D' sb (syncF st).1 ∧ Turn F D F' D' w w' := by
  obtain ⟨w0, hw0⟩ : ∃ w0, w0 = w.alloc (.cells #[.pointer (some ⟨sb, 0, none⟩)] 23) := ⟨_, rfl⟩
  have hb0 : Below w.heap.size w w0 := by rw [hw0]; exact (Below.refl _ _).alloc (Nat.le_refl _) _
  have hx1 : w0.heap[w.heap.size]? = some (.cells #[.pointer (some ⟨sb, 0, none⟩)] 23 (0, 0)) := by rw [hw0]; exact heap_alloc_new w _
  have hsb := h.sb_lt
  have q1 : w0.cell? ⟨w.heap.size, 0, none⟩ = some (.pointer (some ⟨sb, 0, none⟩)) := cell_of_heap hx1 0
  have HI := hid (fsIs_ok w0 (h.below hb0))
  have hl1 := lt_of_heap hx1
  have HB0 := hid hb0
  have HH := hid h
  have HW0 := hid hw0
  clear hb0 hx1 h hw0
  have hmf : ∀ (fn : Fn) (first cap : Array Value) (w : World), (Instr.makeFunc fn first cap).run Try.prog w = .ok (.func fn first cap) w := fun _ _ _ _ => rfl
  unfold isF at HI
  unfold syncF
  cases hd : st.down with
  | true =>
    rw [hd] at HI
    simp only [if_true] at HI ⊢
    go_enter Try.func21, Try.ntmps21
    go_wp2_with (go_at_call 53; rw [← HW0.out]; refine HI.out.mono ?_; rintro e w1 ⟨rfl, rfl⟩)
    go_ret
    exact ⟨rfl, HH.out.same HB0.out⟩
  | false =>
    rw [hd] at HI
    simp only [Bool.false_eq_true, if_false] at HI ⊢
    have HST := hid (step_any (F1 := F) (D1 := D) HH.out HB0.out 54 #[.pointer (some ⟨w.heap.size, 0, none⟩)] (enters_of Try.func54 rfl rfl) (fun s => settleF s s.chg.length) (HH.out.ok.tick.settle _)
      (fun _ _ _ h => h) (fun k h => .inl h) (fun k h => .inl h) (fun w2 m1 m2 ca cc h2 hf2 hs2 => by
        have k1 := (hf2.cell (p := ⟨w.heap.size, 0, none⟩) hl1 (fun e => absurd (show w.heap.size = sb from e) (by omega))).trans q1
        refine (fsSync1_ok w2 h2 _ k1).mono ?_
        rintro e w' ⟨rfl, h3, hf3⟩
        exact ⟨rfl, ⟨m1, m2, _, h3⟩, hf3⟩))
    generalize (goF st fun s => settleF s s.chg.length) = R at *
    go_enter Try.func21, Try.ntmps21
    go_wp2_with (first | (go_at_call 53; rw [← HW0.out]; refine HI.out.mono ?_; rintro e w1 ⟨rfl, rfl⟩) | (go_at_call 34; refine HST.out.mono ?_; rintro e w2 ⟨rfl, hr⟩; have HR := hid hr; clear hr))
    go_ret
    exact ⟨rfl, HR.out⟩
end Go.Proofs.Ytgehalfnpbjjcaa
