/- SimfsArms: walked. -/
import Derived.Test.YtgehalfnpbjjcaaGreatStepW
import Derived.Test.YtgehalfnpbjjcaaGreatNilFs
namespace Go.Proofs.YtgehalfnpbjjcaaGreat
open Go Go.RowKit Go.Sort
def StepQ (wa : World) (sb rb : Nat) (st : FSt) (N : Nat) (o : OpV) (e : Ending) (w' : World) : Prop := ∃ (ys : List UInt8) (b : Bool) (st' : FSt), e = .returned (.bool b) ∧ ys.length = o.bn ∧ Bs (fun _ => False) wa (.slice o.ba o.bn o.bc) ys ∧ SRel st o.kind o.name o.to ys o.n st' ∧ Two wa.heap.size w' sb rb st' (N + 3) ∧ Below wa.heap.size wa w'
theorem step_ok {wa w : World} {sb rb N : Nat} {st : FSt} (hT : Two wa.heap.size w sb rb st N) (hb : Below wa.heap.size wa w) (hN : N ≤ 900000) (o : OpV) (hk : o.kind < 8) (hG : OpG wa o) (hL : OpL o) :
    Calls Tryz.prog 8 #[.pointer (some ⟨sb, 0, none⟩), .pointer (some ⟨rb, 0, none⟩), .agg (opC o).toArray] w fun e w' => StepQ wa sb rb st N o e w' := by
  obtain ⟨Fs, Ds, Gr, Er, rs, hB⟩ := hT
  obtain ⟨k, nm, tt, ba, bn, bc, n, y, ca, cn, cc⟩ := o
  obtain ⟨h1, h2, h3, h4⟩ := hL
  simp only at h1 h2 h3 h4 hk
  obtain ⟨ys, hyl, hys⟩ := hG.b.2.2 (by show bn ≤ _; omega)
  simp only at hyl hys
  have hyw : Bs (fun k => wa.heap.size ≤ k) w (.slice ba bn bc) ys := (hys.mono (S' := fun k => wa.heap.size ≤ k) (fun k hk h => by omega)).fr (Fr.of_below hb : Fr (fun _ => False) wa w) (fun _ _ h => h.elim)
  have fin : ∀ e w', StepR wa.heap.size sb rb st rs N k nm tt ys n y [] w e w' → StepQ wa sb rb st N ⟨k, nm, tt, ba, bn, bc, n, y, ca, cn, cc⟩ e w' := fun e w' hq => by
    obtain ⟨b, st', q1, q2, q3, q4⟩ := hq
    exact ⟨ys, b, st', q1, hyl, hys, q2.low hk, q3.two, Below.trans hb q4⟩
  have hyl2 : ys.length ≤ 200 := by omega
  by_cases hneg : k < 0
  · exact (stepx_ok hB hN hb.size nm tt ba bn bc n y ca cn cc [] ys k (.inl hneg)).mono fin
  have hkk : k = 0 ∨ k = 1 ∨ k = 2 ∨ k = 3 ∨ k = 4 ∨ k = 5 ∨ k = 6 ∨ k = 7 := by omega
  rcases hkk with rfl | rfl | rfl | rfl | rfl | rfl | rfl | rfl
  · exact (step0_ok hB hN hb.size nm tt ba bn bc n y ca cn cc [] ys hyl2 hyw).mono fin
  · exact (step1_ok hB hN hb.size nm tt ba bn bc n y ca cn cc [] ys hyl2 hyw).mono fin
  · exact (step2_ok hB hN hb.size nm tt ba bn bc n y ca cn cc [] ys).mono fin
  · exact (step3_ok hB hN hb.size nm tt ba bn bc n y ca cn cc [] ys hyl2 hyw).mono fin
  · exact (step4_ok hB hN hb.size nm tt ba bn bc n y ca cn cc [] ys hyl2 hyw).mono fin
  · exact (step5_ok hB hN hb.size nm tt ba bn bc n y ca cn cc [] ys hyl2 hyw).mono fin
  · exact (step6_ok hB hN hb.size nm tt ba bn bc n y ca cn cc [] ys).mono fin
  · exact (step7_ok hB hN hb.size nm tt ba bn bc n y ca cn cc [] ys hyl2 hyw).mono fin
/-- An armed system, n steps of which are done or left. -/
structure ArmI (st : FSt) (n : Int) : Prop where
  armed : st.armed = true
  l0 : 0 ≤ st.left
  s0 : 0 ≤ st.steps
  sum : st.left + st.steps = n
  dn : st.down = true → st.left = 0
theorem ArmI.step {st st' : FSt} {n : Int} (h : ArmI st n) (hn : n ≤ 40) (hs : StepA st st') : ArmI st' n ∧ ((st'.steps = st.steps ∧ st'.down = st.down) ∨ (st.down = false ∧ st'.down = true ∧ st'.steps = st.steps ∧ st'.steps = n) ∨ (st.down = false ∧ st'.down = false ∧ st'.steps = st.steps + 1)) := by
  obtain ⟨a1, a2, a3, a4, a5⟩ := h
  rcases hs with ⟨b1, b2, b3, b4⟩ | ⟨b0, bl, b1, b2, b3, b4⟩ | ⟨b0, bl, b1, b2, b3, b4⟩
  · exact ⟨⟨by rw [b1]; exact a1, by rw [b2]; exact a2, by rw [b3]; exact a3, by rw [b2, b3]; exact a4, fun h => by rw [b2]; exact a5 (by rw [← b4]; exact h)⟩, .inl ⟨b3, b4⟩⟩
  · exact ⟨⟨by rw [b1]; exact a1, by rw [b2]; exact a2, by rw [b3]; exact a3, by rw [b2, b3]; exact a4, fun _ => by rw [b2]; exact bl⟩, .inr (.inl ⟨b0, b4, b3, by rw [b3]; omega⟩)⟩
  · have e1 : wrap64 (st.left - 1) = st.left - 1 := by rw [← IntWalk.i64_left]; exact IntWalk.i64_in _ (by omega)
    have e2 : wrap64 (st.steps + 1) = st.steps + 1 := by rw [← IntWalk.i64_left]; exact IntWalk.i64_in _ (by omega)
    rw [e1] at b2
    rw [e2] at b3
    exact ⟨⟨by rw [b1]; exact a1, by omega, by omega, by omega, fun h => by rw [b4] at h; cases h⟩, .inr (.inr ⟨b0, b4, b3⟩)⟩
theorem two_steps {base : Nat} {w : World} {sb rb N : Nat} {st : FSt} (h : Two base w sb rb st N) : Calls Tryz.prog 37 #[.pointer (some ⟨sb, 0, none⟩)] w fun e w' => e = .returned (.int .i64 st.steps) ∧ w' = w := by
  obtain ⟨Fs, Ds, Gr, Er, rs, hB⟩ := h
  exact fsSteps_ok w hB.fs
theorem two_down {base : Nat} {w : World} {sb rb N : Nat} {st : FSt} (h : Two base w sb rb st N) : Calls Tryz.prog 46 #[.pointer (some ⟨sb, 0, none⟩)] w fun e w' => e = .returned (.bool st.down) ∧ w' = w := by
  obtain ⟨Fs, Ds, Gr, Er, rs, hB⟩ := h
  exact fsDown_ok w hB.fs
end Go.Proofs.YtgehalfnpbjjcaaGreat
