/- SimfsArms: walked. -/
import Derived.Test.YtgehalfnpbjjcaaStepW
import Derived.Test.YtgehalfnpbjjcaaNilFs
namespace Go.Proofs.Ytgehalfnpbjjcaa
open Go Go.RowKit Go.Sort
def StepQ (wa : World) (sb rb : Nat) (st : FSt) (N : Nat) (o : OpV) (e : Ending) (w' : World) : Prop := ∃ (ys : List UInt8) (b : Bool) (st' : FSt), e = .returned (.bool b) ∧ ys.length = o.bn ∧ Bs (fun _ => False) wa (.slice o.ba o.bn o.bc) ys ∧ SRel st o.kind o.name o.to ys o.n st' ∧ Two wa.heap.size w' sb rb st' (N + 3) ∧ Below wa.heap.size wa w'
theorem step_ok {wa w : World} {sb rb N : Nat} {st : FSt} (hT : Two wa.heap.size w sb rb st N) (hb : Below wa.heap.size wa w) (hN : N ≤ 900000) (o : OpV) (hk : o.kind < 8) (hG : OpG wa o) (hL : OpL o) :
    Calls Try.prog 20 #[.pointer (some ⟨sb, 0, none⟩), .pointer (some ⟨rb, 0, none⟩), .agg (opC o).toArray] w fun e w' => StepQ wa sb rb st N o e w' := by
  obtain ⟨Fs, Ds, Gr, Er, rs, hB⟩ := hT
  obtain ⟨k, nm, tt, ba, bn, bc, n, y, ca, cn, cc⟩ := o
  obtain ⟨h1, h2, h3, h4⟩ := hL
  simp only at h1 h2 h3 h4 hk
  obtain ⟨ys, hyl, hys⟩ := hG.b.2.2 (by show bn ≤ _; omega)
  simp only at hyl hys
  have hyw : Bs (fun k => wa.heap.size ≤ k) w (.slice ba bn bc) ys := (hys.mono (S' := fun k => wa.heap.size ≤ k) (fun k hk h => by omega)).fr (Fr.of_below hb : Fr (fun _ => False) wa w) (fun _ _ h => h.elim)
  have fin : ∀ e w', StepR wa.heap.size sb rb st N k nm tt ys n w e w' → StepQ wa sb rb st N ⟨k, nm, tt, ba, bn, bc, n, y, ca, cn, cc⟩ e w' := fun e w' hq => by
    obtain ⟨b, st', q1, q2, q3, q4⟩ := hq
    exact ⟨ys, b, st', q1, hyl, hys, q2, q3, Below.trans hb q4⟩
  have hyl2 : ys.length ≤ 200 := by omega
  by_cases hneg : k < 0
  · exact (stepx_ok hB hN hb.size nm tt ba bn bc n y ca cn cc ys k hneg).mono fin
  have hkk : k = 0 ∨ k = 1 ∨ k = 2 ∨ k = 3 ∨ k = 4 ∨ k = 5 ∨ k = 6 ∨ k = 7 := by omega
  rcases hkk with rfl | rfl | rfl | rfl | rfl | rfl | rfl | rfl
  · exact (step0_ok hB hN hb.size nm tt ba bn bc n y ca cn cc ys hyl2 hyw).mono fin
  · exact (step1_ok hB hN hb.size nm tt ba bn bc n y ca cn cc ys hyl2 hyw).mono fin
  · exact (step2_ok hB hN hb.size nm tt ba bn bc n y ca cn cc ys).mono fin
  · exact (step3_ok hB hN hb.size nm tt ba bn bc n y ca cn cc ys hyl2 hyw).mono fin
  · exact (step4_ok hB hN hb.size nm tt ba bn bc n y ca cn cc ys hyl2 hyw).mono fin
  · exact (step5_ok hB hN hb.size nm tt ba bn bc n y ca cn cc ys hyl2 hyw).mono fin
  · exact (step6_ok hB hN hb.size nm tt ba bn bc n y ca cn cc ys).mono fin
  · exact (step7_ok hB hN hb.size nm tt ba bn bc n y ca cn cc ys hyl2 hyw).mono fin
/-- An armed system, n steps of which are done or left. -/
structure ArmI (st : FSt) (n : Int) : Prop where
  armed : st.armed = true
  l0 : 0 ≤ st.left
  s0 : 0 ≤ st.steps
  sum : st.left + st.steps = n
  dn : st.down = true → st.left = 0
theorem ArmI.step {st st' : FSt} {n : Int} (h : ArmI st n) (hn : n ≤ 40) (hs : StepA st st') : ArmI st' n ∧ ((st'.steps = st.steps ∧ st'.down = st.down) ∨ (st.down = false ∧ st'.down = true ∧ st'.steps = st.steps ∧ st'.steps = n) ∨ (st.down = false ∧ st'.down = false ∧ st'.steps = st.steps + 1)) := by
  obtain ⟨a1, a2, a3, a4, a5⟩ := h
  rcases hs with ⟨b1, b2, b3, b4⟩ | ⟨b0, bl, b1, b2, b3, b4⟩ | ⟨b0, bl, b1, b2, b3, b4⟩
  · exact ⟨⟨by rw [b1]; exact a1, by rw [b2]; exact a2, by rw [b3]; exact a3, by rw [b2, b3]; exact a4, fun h => by rw [b2]; exact a5 (by rw [← b4]; exact h)⟩, .inl ⟨b3, b4⟩⟩
  · exact ⟨⟨by rw [b1]; exact a1, by rw [b2]; exact a2, by rw [b3]; exact a3, by rw [b2, b3]; exact a4, fun _ => by rw [b2]; exact bl⟩, .inr (.inl ⟨b0, b4, b3, by rw [b3]; omega⟩)⟩
  · have e1 : wrap64 (st.left - 1) = st.left - 1 := by rw [← IntWalk.i64_left]; exact IntWalk.i64_in _ (by omega)
    have e2 : wrap64 (st.steps + 1) = st.steps + 1 := by rw [← IntWalk.i64_left]; exact IntWalk.i64_in _ (by omega)
    rw [e1] at b2
    rw [e2] at b3
    exact ⟨⟨by rw [b1]; exact a1, by omega, by omega, by omega, fun h => by rw [b4] at h; cases h⟩, .inr (.inr ⟨b0, b4, b3⟩)⟩
theorem two_steps {base : Nat} {w : World} {sb rb N : Nat} {st : FSt} (h : Two base w sb rb st N) : Calls Try.prog 27 #[.pointer (some ⟨sb, 0, none⟩)] w fun e w' => e = .returned (.int .i64 st.steps) ∧ w' = w := by
  obtain ⟨Fs, Ds, Gr, Er, rs, hB⟩ := h
  exact fsSteps_ok w hB.fs
theorem two_down {base : Nat} {w : World} {sb rb N : Nat} {st : FSt} (h : Two base w sb rb st N) : Calls Try.prog 24 #[.pointer (some ⟨sb, 0, none⟩)] w fun e w' => e = .returned (.bool st.down) ∧ w' = w := by
  obtain ⟨Fs, Ds, Gr, Er, rs, hB⟩ := h
  exact fsDown_ok w hB.fs
set_option maxRecDepth 100000 in
theorem arms_neg (w : World) (n : Int) (a : Option Addr) (k c : Nat) (h : n < 0 ∨ 40 < n) : Calls Try.prog 5 #[.int .i64 n, .slice a k c] w fun e w' => e = .returned (.bool true) ∧ Below w.heap.size w w' := by
  have HAL := hid (l06alive_ok w)
  by_cases h1 : n < 0
  · have t1 : decide (n < 0) = true := decide_eq_true h1
    go_enter Try.func5, Try.ntmps5
    go_wp2_with (go_at_call 6; refine HAL.out.mono ?_; rintro e w1 ⟨rfl, hb1⟩; have B1 := hid hb1; clear hb1)
    go_ret
    exact ⟨rfl, B1.out⟩
  · have h2 : 40 < n := h.resolve_left h1
    have t1 : decide (n < 0) = false := decide_eq_false h1
    have t2 : decide (40 < n) = true := decide_eq_true h2
    go_enter Try.func5, Try.ntmps5
    go_wp2_with (go_at_call 6; refine HAL.out.mono ?_; rintro e w1 ⟨rfl, hb1⟩; have B1 := hid hb1; clear hb1)
    go_ret
    exact ⟨rfl, B1.out⟩
set_option maxRecDepth 100000 in
theorem arms_heavy (w : World) (n : Int) (a : Option Addr) (k c : Nat) (h0 : 0 ≤ n) (h1 : n ≤ 40) (HLI : Hid (Calls Try.prog 18 #[.slice a k c, .int .i64 40] w fun e w' => e = .returned (.bool false) ∧ w' = w)) : Calls Try.prog 5 #[.int .i64 n, .slice a k c] w fun e w' => e = .returned (.bool true) ∧ Below w.heap.size w w' := by
  have HAL := hid (l06alive_ok w)
  have t1 : decide (n < 0) = false := decide_eq_false (by omega)
  have t2 : decide (40 < n) = false := decide_eq_false (by omega)
  go_enter Try.func5, Try.ntmps5
  go_wp2_with (first | (go_at_call 18; refine HLI.out.mono ?_; rintro e w2 ⟨rfl, rfl⟩) | (go_at_call 6; refine HAL.out.mono ?_; rintro e w1 ⟨rfl, hb1⟩; have B1 := hid hb1; clear hb1))
  go_ret
  exact ⟨rfl, B1.out⟩
set_option maxHeartbeats 2000000 in
set_option maxRecDepth 100000 in
theorem arms_light (w : World) (n : Int) (a : Option Addr) (c : Nat) (l : List OpV) (hr : Row (fun _ => False) w (.slice a l.length c) l.length 7 (l.flatMap opC)) (hG : ∀ o ∈ l, OpG w o) (hl : l.length ≤ 40) (h0 : 0 ≤ n) (h1 : n ≤ 40)
    (HLI : Hid (Calls Try.prog 18 #[.slice a l.length c, .int .i64 40] w fun e w' => LightR l w e w')) : Calls Try.prog 5 #[.int .i64 n, .slice a l.length c] w fun e w' => e = .returned (.bool true) ∧ Below w.heap.size w w' := by
  have t1 : decide (n < 0) = false := decide_eq_false (by omega)
  have t2 : decide (40 < n) = false := decide_eq_false (by omega)
  have HNEW := hid (fsNew_ok w 99000 (by decide) (by decide))
  have HV := hid hr
  have HG := hid hG
  have HALW := hid l06alive_ok
  clear hr hG
  go_enter Try.func5, Try.ntmps5
  go_wp2_with fail
  refine HLI.out.mono ?_
  rintro e w1 ⟨bl, hbl, rfl, rfl⟩
  cases bl with
  | false =>
    clear HLI HNEW hbl
    go_wp2_with (go_at_call 6; refine (HALW.out _).mono ?_; rintro e w2 ⟨rfl, hb2⟩; have B2 := hid hb2; clear hb2)
    go_ret
    exact ⟨rfl, B2.out⟩
  | true =>
  have HL := hid (hbl rfl)
  clear hbl HALW HLI
  go_wp2_with fail
  refine HNEW.out.mono ?_
  rintro e w2 ⟨sb, rfl, F2, hs2, hF2, hb2⟩
  have H2 := hid hs2
  have G2 := hid hF2
  have B2 := hid hb2
  have HRN := hid (r06New_ok w2 99000 (by decide) (by decide))
  clear hs2 hF2 hb2 HNEW
  go_wp2_with fail
  refine HRN.out.mono ?_
  rintro e w3 ⟨rb, rfl, G3, hs3, hG3, hb3⟩
  have hB3 : Both w1.heap.size w3 F2 F2 sb (newF 99000) G3 G3 rb (rnewF 99000) 3 := ⟨H2.out.below hb3, hs3, fun k hk hE => by have := H2.out.lt k hk; have := hG3 k hE; omega, G2.out, fun k hk => by have := hG3 k hk; have := B2.out.size; omega, ⟨by simp [newF], by simp [newF]⟩, ⟨by simp [rnewF], by simp [rnewF], by simp [rnewF]⟩⟩
  have HB3 := hid hB3
  have BL3 := hid (show Below w1.heap.size w1 w3 from Below.below B2.out hb3)
  have HA := hid (fsArm_ok w3 hB3.fs n)
  have ea : armF (newF 99000) n = ({ newF 99000 with left := n, armed := true }, 0) := by unfold armF; rw [if_neg (by simp [newF]), if_neg (by omega)]
  rw [ea] at HA
  clear hs3 hG3 hb3 HRN ea hB3
  go_wp2_with fail
  refine HA.out.mono ?_
  rintro e w4 ⟨rfl, F4, D4, hs4, ht4⟩
  obtain ⟨hB4, hbl4⟩ := HB3.out.stepS BL3.out.size hs4 ht4 (N' := 3) ⟨by simp [newF], by simp [newF]⟩ (Nat.le_refl _)
  have HB4 := hid hB4
  have BL4 := hid (Below.trans BL3.out hbl4)
  have HRA := hid (r06Arm_ok w4 hB4.rf n)
  have er : rarm (rnewF 99000) n = ({ rnewF 99000 with armed := n }, 0) := by unfold rarm; rw [if_neg (by simp [rnewF]), if_neg (by omega)]
  rw [er] at HRA
  clear hs4 ht4 hB4 hbl4 HA er
  go_wp2_with fail
  refine HRA.out.mono ?_
  rintro e w5 ⟨rfl, G5, E5, hs5, ht5⟩
  obtain ⟨hB5, hbl5⟩ := HB4.out.stepR BL4.out.size hs5 ht5 (N' := 3) ⟨by simp [rnewF], by simp [rnewF], by simp [rnewF]⟩ (Nat.le_refl _)
  have HT5 := hid (show Two w1.heap.size w5 sb rb { newF 99000 with left := n, armed := true } 3 from ⟨_, _, _, _, _, hB5⟩)
  have BL5 := hid (Below.trans BL4.out hbl5)
  clear hs5 ht5 hB5 hbl5 HRA
  go_wp2
  go_loopg [9] l.length (fun kx s9 wr => ∃ (i : Nat) (st : FSt), s9 = .int .i64 i ∧ i ≤ l.length ∧ l.length - i ≤ kx ∧ Hid (ArmI st n) ∧ Hid (Two w1.heap.size wr sb rb st (3 * i + 3)) ∧ Hid (Below w1.heap.size w1 wr))
  case atStart => exact ⟨0, _, rfl, Nat.zero_le _, Nat.le_refl _, hid ⟨rfl, h0, Int.le_refl _, by show n + 0 = n; omega, (fun h => by cases h)⟩, HT5, BL5⟩
  case round =>
    obtain ⟨i, st, rfl, hi, hk, HI, HT, HBL⟩ := hrel
    by_cases hlt : i < l.length
    · have hlt' : (i : Int) < (l.length : Int) := by omega
      obtain ⟨o, ho⟩ : ∃ o, l[i]? = some o := ⟨_, List.getElem?_eq_getElem hlt⟩
      obtain ⟨b, off, rfl, hb, _, hc1, hc2, hcell⟩ := (HV.out.fr (Fr.of_below HBL.out : Fr (fun _ => False) w1 wr) (fun _ _ h => h.elim)).elem opC_len (by decide) ho
      have k0 : wr.cell? ⟨b, off + i * 7, none⟩ = some (.int .i64 o.kind) := hcell 0 _ rfl
      have k1 : wr.cell? ⟨b, off + i * 7 + 1, none⟩ = some (.string o.name) := hcell 1 _ rfl
      have k2 : wr.cell? ⟨b, off + i * 7 + 2, none⟩ = some (.string o.to) := hcell 2 _ rfl
      have k3 : wr.cell? ⟨b, off + i * 7 + 3, none⟩ = some (.slice o.ba o.bn o.bc) := hcell 3 _ rfl
      have k4 : wr.cell? ⟨b, off + i * 7 + 4, none⟩ = some (.int .i64 o.n) := hcell 4 _ rfl
      have k5 : wr.cell? ⟨b, off + i * 7 + 5, none⟩ = some (bcell o.by_) := hcell 5 _ rfl
      have k6 : wr.cell? ⟨b, off + i * 7 + 6, none⟩ = some (.slice o.ca o.cn o.cc) := hcell 6 _ rfl
      have hmem := List.mem_of_getElem? ho
      clear hcell ho
      by_cases h7 : 7 ≤ o.kind
      · have t7 : decide (7 ≤ o.kind) = true := decide_eq_true h7
        go_wp2_with fail
        go_roundg (l.length - (i + 1))
        case measure => exact meas_ltL hk hlt
        case rel =>
          obtain ⟨Fs, Ds, Gr, Er, rs, hB⟩ := HT.out
          exact ⟨i + 1, st, by go_num, hlt, Nat.le_refl _, HI, hid ⟨_, _, _, _, _, ⟨hB.fs, hB.rf, hB.apart, hB.b1, hB.b2, hB.few.up (by omega), hB.fewr.up (by omega)⟩⟩, HBL⟩
      · have t7 : decide (7 ≤ o.kind) = false := decide_eq_false h7
        have HS1 := hid (two_steps HT.out)
        have HD1 := hid (two_down HT.out)
        have HSTEP := hid (step_ok HT.out HBL.out (by omega) o (by omega) (HG.out o hmem) (HL.out o hmem))
        have H7 := hid h7
        clear hmem h7
        go_wp2_with (first | (go_at_call 27; refine HS1.out.mono ?_; rintro e w6 ⟨rfl, rfl⟩) | (go_at_call 24; refine HD1.out.mono ?_; rintro e w6 ⟨rfl, rfl⟩))
        refine HSTEP.out.mono ?_
        rintro e w7 hq
        obtain ⟨ys, bb, st', rfl, _, _, hrel, htwo, hbel⟩ := hq
        obtain ⟨hI', hcase⟩ := HI.out.step h1 (hrel.arm HI.out.armed (by have := H7.out; omega))
        have HT7 := hid htwo
        have HBL7 := hid hbel
        have HI7 := hid hI'
        have HS2 := hid (two_steps htwo)
        have HD2 := hid (two_down htwo)
        have q2 : decide (n < st'.steps) = false := decide_eq_false (by have := HI7.out.sum; have := HI7.out.l0; omega)
        have q0 := HI.out.s0
        have q9 := HI.out.sum
        have q8 := HI.out.l0
        clear hrel htwo hbel HSTEP HS1 HD1
        rcases hcase with ⟨c1, c2⟩ | ⟨c0, c2, c1, c3⟩ | ⟨c0, c2, c1⟩
        · rw [c1] at HS2 q2
          rw [c2] at HD2
          have q1 : IntKind.i64.wrap (st.steps - st.steps) = 0 := by rw [Int.sub_self]; exact IntWalk.i64_in _ (by decide)
          have q3 : (st.steps != st.steps) = false := by simp
          clear c1 c2 q0 q8 q9 hI'
          cases hdn : st.down with
          | true =>
            rw [hdn] at HD2
            clear hdn
            go_wp2_with (first | (go_at_call 27; refine HS2.out.mono ?_; rintro e w8 ⟨rfl, rfl⟩) | (go_at_call 24; refine HD2.out.mono ?_; rintro e w8 ⟨rfl, rfl⟩))
            go_roundg (l.length - (i + 1))
            case measure => exact meas_ltL hk hlt
            case rel => exact ⟨i + 1, st', by go_num, hlt, Nat.le_refl _, HI7, (by rw [show 3 * (i + 1) + 3 = 3 * i + 3 + 3 by omega]; exact HT7), HBL7⟩
          | false =>
            rw [hdn] at HD2
            clear hdn
            go_wp2_with (first | (go_at_call 27; refine HS2.out.mono ?_; rintro e w8 ⟨rfl, rfl⟩) | (go_at_call 24; refine HD2.out.mono ?_; rintro e w8 ⟨rfl, rfl⟩))
            go_roundg (l.length - (i + 1))
            case measure => exact meas_ltL hk hlt
            case rel => exact ⟨i + 1, st', by go_num, hlt, Nat.le_refl _, HI7, (by rw [show 3 * (i + 1) + 3 = 3 * i + 3 + 3 by omega]; exact HT7), HBL7⟩
        · rw [c1] at HS2 q2
          rw [c2] at HD2
          have q1 : IntKind.i64.wrap (st.steps - st.steps) = 0 := by rw [Int.sub_self]; exact IntWalk.i64_in _ (by decide)
          have q4 : (st.steps != n) = false := by rw [← c3, c1]; simp
          rw [c0]
          clear c0 c1 c2 c3 q0 q8 q9 hI'
          go_wp2_with (first | (go_at_call 27; refine HS2.out.mono ?_; rintro e w8 ⟨rfl, rfl⟩) | (go_at_call 24; refine HD2.out.mono ?_; rintro e w8 ⟨rfl, rfl⟩))
          go_roundg (l.length - (i + 1))
          case measure => exact meas_ltL hk hlt
          case rel => exact ⟨i + 1, st', by go_num, hlt, Nat.le_refl _, HI7, (by rw [show 3 * (i + 1) + 3 = 3 * i + 3 + 3 by omega]; exact HT7), HBL7⟩
        · rw [c1] at HS2 q2
          rw [c2] at HD2
          have q1 : IntKind.i64.wrap (st.steps + 1 - st.steps) = 1 := by rw [show st.steps + 1 - st.steps = 1 by omega]; exact IntWalk.i64_in _ (by decide)
          rw [c0]
          clear c0 c1 c2 q0 q8 q9 hI'
          go_wp2_with (first | (go_at_call 27; refine HS2.out.mono ?_; rintro e w8 ⟨rfl, rfl⟩) | (go_at_call 24; refine HD2.out.mono ?_; rintro e w8 ⟨rfl, rfl⟩))
          go_roundg (l.length - (i + 1))
          case measure => exact meas_ltL hk hlt
          case rel => exact ⟨i + 1, st', by go_num, hlt, Nat.le_refl _, HI7, (by rw [show 3 * (i + 1) + 3 = 3 * i + 3 + 3 by omega]; exact HT7), HBL7⟩
    · obtain rfl : i = l.length := by omega
      have BA := hid HBL.out
      clear HT HI
      go_wp2_with (first | (go_at_call 12; refine (nilRead _ _).mono ?_; rintro e wn ⟨rfl, hbn⟩; have BA := hid (Below.trans BA.out (hbn.mono BA.out.size)); clear hbn) | (go_at_call 13; refine (nilSize _ _).mono ?_; rintro e wn ⟨rfl, hbn⟩; have BA := hid (Below.trans BA.out (hbn.mono BA.out.size)); clear hbn) | (go_at_call 10; refine (nilCreate _ _).mono ?_; rintro e wn ⟨rfl, hbn⟩; have BA := hid (Below.trans BA.out (hbn.mono BA.out.size)); clear hbn) | (go_at_call 14; refine (nilAppend _ _).mono ?_; rintro e wn ⟨rfl, hbn⟩; have BA := hid (Below.trans BA.out (hbn.mono BA.out.size)); clear hbn) | (go_at_call 11; refine (nilRename _ _ _).mono ?_; rintro e wn ⟨rfl, hbn⟩; have BA := hid (Below.trans BA.out (hbn.mono BA.out.size)); clear hbn) | (go_at_call 15; refine (nilRemove _ _).mono ?_; rintro e wn ⟨rfl, hbn⟩; have BA := hid (Below.trans BA.out (hbn.mono BA.out.size)); clear hbn) | (go_at_call 28; refine (nilList _).mono ?_; rintro e wn ⟨rfl, hbn⟩; have BA := hid (Below.trans BA.out (hbn.mono BA.out.size)); clear hbn) | (go_at_call 16; refine (nilFsync _ _).mono ?_; rintro e wn ⟨rfl, hbn⟩; have BA := hid (Below.trans BA.out (hbn.mono BA.out.size)); clear hbn) | (go_at_call 21; refine (nilSync _).mono ?_; rintro e wn ⟨rfl, hbn⟩; have BA := hid (Below.trans BA.out (hbn.mono BA.out.size)); clear hbn) | (go_at_call 25; refine (nilArm _ _).mono ?_; rintro e wn ⟨rfl, hbn⟩; have BA := hid (Below.trans BA.out (hbn.mono BA.out.size)); clear hbn) | (go_at_call 24; refine (nilDown _).mono ?_; rintro e wn ⟨rfl, hbn⟩; have BA := hid (Below.trans BA.out (hbn.mono BA.out.size)); clear hbn) | (go_at_call 22; refine (nilUp _ _ _).mono ?_; rintro e wn ⟨rfl, hbn⟩; have BA := hid (Below.trans BA.out (hbn.mono BA.out.size)); clear hbn) | (go_at_call 17; refine (nilFlip _ _ _ _).mono ?_; rintro e wn ⟨rfl, hbn⟩; have BA := hid (Below.trans BA.out (hbn.mono BA.out.size)); clear hbn) | (go_at_call 29; refine (nilUsed _).mono ?_; rintro e wn ⟨rfl, hbn⟩; have BA := hid (Below.trans BA.out (hbn.mono BA.out.size)); clear hbn) | (go_at_call 27; refine (nilSteps _).mono ?_; rintro e wn ⟨rfl, hbn⟩; have BA := hid (Below.trans BA.out (hbn.mono BA.out.size)); clear hbn) | (go_at_call 30; refine (nilCopy _).mono ?_; rintro e wn ⟨rfl, hbn⟩; have BA := hid (Below.trans BA.out (hbn.mono BA.out.size)); clear hbn) | (go_at_call 6; refine (l06alive_ok _).mono ?_; rintro e wn ⟨rfl, hbn⟩; have BA := hid (Below.trans BA.out (hbn.mono BA.out.size)); clear hbn))
      go_ret
      exact ⟨rfl, BA.out⟩
end Go.Proofs.Ytgehalfnpbjjcaa
