/- SimfsCopies: walked. -/
import Derived.Test.YtgehalfnpbjjcaaGreatAlike
import Derived.Test.YtgehalfnpbjjcaaGreatSafeLaw
namespace Go.Proofs.YtgehalfnpbjjcaaGreat
open Go Go.RowKit Go.Sort
def StepZ (wa : World) (sb rb : Nat) (st : FSt) (rs : RSt) (N : Nat) (o : OpV) (e : Ending) (w' : World) : Prop := ∃ (ys : List UInt8) (cuts : List Int) (b : Bool) (st' : FSt), e = .returned (.bool b) ∧ SRelX st o.kind o.name o.to ys o.n o.by_ cuts st' ∧ Two2 wa.heap.size w' sb rb st' (rop rs o.kind o.name o.to ys o.n o.by_ cuts) (N + 3) ∧ Below wa.heap.size wa w'
theorem stepz_ok {wa w : World} {sb rb N : Nat} {st : FSt} {rs : RSt} (hT : Two2 wa.heap.size w sb rb st rs N) (hb : Below wa.heap.size wa w) (hN : N ≤ 90000) (o : OpV) (hG : OpG wa o) (hL : OpL o) :
    Calls Tryz.prog 8 #[.pointer (some ⟨sb, 0, none⟩), .pointer (some ⟨rb, 0, none⟩), .agg (opC o).toArray] w fun e w' => StepZ wa sb rb st rs N o e w' := by
  obtain ⟨Fs, Ds, Gr, Er, hB⟩ := hT
  obtain ⟨k, nm, tt, ba, bn, bc, n, y, ca, cn, cc⟩ := o
  obtain ⟨h1, h2, h3, h4⟩ := hL
  simp only at h1 h2 h3 h4
  obtain ⟨ys, hyl, hys⟩ := hG.b.2.2 (by show bn ≤ _; omega)
  obtain ⟨cuts, hcl, hcs⟩ := hG.c.2.2 (by show cn ≤ _; omega)
  simp only at hyl hys hcl hcs
  subst hcl
  have hyw : Bs (fun k => wa.heap.size ≤ k) w (.slice ba bn bc) ys := (hys.mono (S' := fun k => wa.heap.size ≤ k) (fun k hk h => by omega)).fr (Fr.of_below hb : Fr (fun _ => False) wa w) (fun _ _ h => h.elim)
  have hcw : Row (fun k => wa.heap.size ≤ k) w (.slice ca cuts.length cc) cuts.length 1 (cuts.map (Value.int .i64)) := (hcs.mono (S' := fun k => wa.heap.size ≤ k) (fun k hk h => by omega)).fr (Fr.of_below hb : Fr (fun _ => False) wa w) (fun _ _ h => h.elim)
  have fin : ∀ e w', StepR wa.heap.size sb rb st rs N k nm tt ys n y cuts w e w' → StepZ wa sb rb st rs N ⟨k, nm, tt, ba, bn, bc, n, y, ca, cuts.length, cc⟩ e w' := fun e w' hq => by
    obtain ⟨b, st', q1, q2, q3, q4⟩ := hq
    exact ⟨ys, cuts, b, st', q1, q2, q3, Below.trans hb q4⟩
  have hyl2 : ys.length ≤ 200 := by omega
  have hN' : N ≤ 900000 := by omega
  by_cases hneg : k < 0
  · exact (stepx_ok hB hN' hb.size nm tt ba bn bc n y ca cuts.length cc cuts ys k (.inl hneg)).mono fin
  by_cases hbig : 9 < k
  · exact (stepx_ok hB hN' hb.size nm tt ba bn bc n y ca cuts.length cc cuts ys k (.inr hbig)).mono fin
  have hkk : k = 0 ∨ k = 1 ∨ k = 2 ∨ k = 3 ∨ k = 4 ∨ k = 5 ∨ k = 6 ∨ k = 7 ∨ k = 8 ∨ k = 9 := by omega
  rcases hkk with rfl | rfl | rfl | rfl | rfl | rfl | rfl | rfl | rfl | rfl
  · exact (step0_ok hB hN' hb.size nm tt ba bn bc n y ca cuts.length cc cuts ys hyl2 hyw).mono fin
  · exact (step1_ok hB hN' hb.size nm tt ba bn bc n y ca cuts.length cc cuts ys hyl2 hyw).mono fin
  · exact (step2_ok hB hN' hb.size nm tt ba bn bc n y ca cuts.length cc cuts ys).mono fin
  · exact (step3_ok hB hN' hb.size nm tt ba bn bc n y ca cuts.length cc cuts ys hyl2 hyw).mono fin
  · exact (step4_ok hB hN' hb.size nm tt ba bn bc n y ca cuts.length cc cuts ys hyl2 hyw).mono fin
  · exact (step5_ok hB hN' hb.size nm tt ba bn bc n y ca cuts.length cc cuts ys hyl2 hyw).mono fin
  · exact (step6_ok hB hN' hb.size nm tt ba bn bc n y ca cuts.length cc cuts ys).mono fin
  · exact (step7_ok hB hN' hb.size nm tt ba bn bc n y ca cuts.length cc cuts ys hyl2 hyw).mono fin
  · exact (step8_ok hB hN hb.size nm tt ba bn bc n y ca cc cuts ys hcw).mono fin
  · exact (step9_ok hB hN' hb.size nm tt ba bn bc n y ca cuts.length cc cuts ys hyl2 hyw).mono fin
theorem ABs.fr {w w' : World} {a : Option Addr} {n c : Nat} (h : ABs w a n c) (hb : Below w.heap.size w w') : ABs w' a n c := ⟨h.1, h.2.1, fun hn => by
  obtain ⟨xs, e, h9⟩ := h.2.2 hn
  exact ⟨xs, e, h9.fr (Fr.of_below hb : Fr (fun _ => False) w w') (fun _ _ h => h)⟩⟩
theorem AIs.fr {w w' : World} {a : Option Addr} {n c : Nat} (h : AIs w a n c) (hb : Below w.heap.size w w') : AIs w' a n c := ⟨h.1, h.2.1, fun hn => by
  obtain ⟨xs, e, h9⟩ := h.2.2 hn
  exact ⟨xs, e, h9.fr (Fr.of_below hb : Fr (fun _ => False) w w') (fun _ _ h => h)⟩⟩
theorem OpG.fr {w w' : World} {o : OpV} (h : OpG w o) (hb : Below w.heap.size w w') : OpG w' o := ⟨h.b.fr hb, h.c.fr hb, h.n⟩
theorem copy_few {st st' : FSt} {φ : Nat → Nat} (h : CopyOf st st' φ) {N : Nat} (hf : FewS st N) : FewS st' N := by
  have h1 := h.seen.length_eq
  have h2 := h.safe.length_eq
  rw [List.length_map] at h1 h2
  have h3 : st'.chg.length = st.chg.length := by rw [h.chg, List.length_map]
  exact ⟨by rw [h1]; exact hf.a, by rw [h2, h3]; exact hf.b⟩
section
variable (w : World) (a0 : Option Addr) (n0 c0 : Nat) (a1 : Option Addr) (n1 c1 : Nat)
set_option maxRecDepth 100000 in
theorem copies_out1 (HL0 : Hid (Calls Tryz.prog 4 #[.slice a0 n0 c0, .int .i64 20] w fun e w' => e = .returned (.bool false) ∧ w' = w)) : Calls Tryz.prog 3 #[.slice a0 n0 c0, .slice a1 n1 c1] w fun e w' => e = .returned (.bool true) ∧ Below w.heap.size w w' := by
  have HAL := hid (l06alive_ok w)
  go_enter Tryz.func3, Tryz.ntmps3
  go_wp2_with (first | (go_at_call 4; refine HL0.out.mono ?_; rintro e w2 ⟨rfl, rfl⟩) | (go_at_call 5; refine HAL.out.mono ?_; rintro e w1 ⟨rfl, hb1⟩; have B1 := hid hb1; clear hb1))
  go_ret
  exact ⟨rfl, B1.out⟩
set_option maxRecDepth 100000 in
theorem copies_out2 (l : List OpV) (HL0 : Hid (Calls Tryz.prog 4 #[.slice a0 n0 c0, .int .i64 20] w fun e w' => LightR l w e w')) (HL3 : Hid (Calls Tryz.prog 4 #[.slice a1 n1 c1, .int .i64 20] w fun e w' => e = .returned (.bool false) ∧ w' = w)) : Calls Tryz.prog 3 #[.slice a0 n0 c0, .slice a1 n1 c1] w fun e w' => e = .returned (.bool true) ∧ Below w.heap.size w w' := by
  have HAL := hid l06alive_ok
  go_enter Tryz.func3, Tryz.ntmps3
  go_wp2_with fail
  refine HL0.out.mono ?_
  rintro e w1 ⟨b, _, rfl, rfl⟩
  clear HL0
  cases b with
  | false =>
    go_wp2_with (go_at_call 5; refine (HAL.out _).mono ?_; rintro e w2 ⟨rfl, hb1⟩; have B1 := hid hb1; clear hb1)
    go_ret
    exact ⟨rfl, B1.out⟩
  | true =>
    go_wp2_with (first | (go_at_call 4; refine HL3.out.mono ?_; rintro e w2 ⟨rfl, rfl⟩) | (go_at_call 5; refine (HAL.out _).mono ?_; rintro e w3 ⟨rfl, hb1⟩; have B1 := hid hb1; clear hb1))
    go_ret
    exact ⟨rfl, B1.out⟩
end
set_option maxHeartbeats 2000000 in
set_option maxRecDepth 100000 in
theorem copies_main (w : World) (a0 : Option Addr) (c0 : Nat) (l : List OpV) (a3 : Option Addr) (c3 : Nat) (more : List OpV)
    (hr0 : Row (fun _ => False) w (.slice a0 l.length c0) l.length 7 (l.flatMap opC)) (hG0 : ∀ o ∈ l, OpG w o) (hl0 : l.length ≤ 20) (hr3 : Row (fun _ => False) w (.slice a3 more.length c3) more.length 7 (more.flatMap opC)) (hG3 : ∀ o ∈ more, OpG w o) (hl3 : more.length ≤ 20)
    (HL0 : Hid (Calls Tryz.prog 4 #[.slice a0 l.length c0, .int .i64 20] w fun e w' => LightR l w e w')) (HL3 : Hid (Calls Tryz.prog 4 #[.slice a3 more.length c3, .int .i64 20] w fun e w' => LightR more w e w')) :
    Calls Tryz.prog 3 #[.slice a0 l.length c0, .slice a3 more.length c3] w fun e w' => e = .returned (.bool true) ∧ Below w.heap.size w w' := by
  have HAL := hid l06alive_ok
  have HV0 := hid hr0
  have HV3 := hid hr3
  have HG0 := hid hG0
  have HG3 := hid hG3
  clear hr0 hr3 hG0 hG3
  go_enter Tryz.func3, Tryz.ntmps3
  go_wp2_with fail
  refine HL0.out.mono ?_
  rintro e w1 ⟨bl, hbl0, rfl, rfl⟩
  clear HL0
  cases bl with
  | false =>
    clear hbl0
    go_wp2_with (go_at_call 5; refine (HAL.out _).mono ?_; rintro e w2 ⟨rfl, hb1⟩; have B1 := hid hb1; clear hb1)
    go_ret
    exact ⟨rfl, B1.out⟩
  | true =>
  have HLO := hid (hbl0 rfl)
  clear hbl0
  go_wp2_with fail
  refine HL3.out.mono ?_
  rintro e w1 ⟨bl, hbl3, rfl, rfl⟩
  clear HL3
  cases bl with
  | false =>
    clear hbl3
    go_wp2_with (go_at_call 5; refine (HAL.out _).mono ?_; rintro e w2 ⟨rfl, hb1⟩; have B1 := hid hb1; clear hb1)
    go_ret
    exact ⟨rfl, B1.out⟩
  | true =>
  have HLM := hid (hbl3 rfl)
  clear hbl3
  have HNEW := hid (fsNew_ok w1 99000 (by decide) (by decide))
  go_wp2_with fail
  refine HNEW.out.mono ?_
  rintro e w2 ⟨sb, rfl, F2, hs2, hF2, hb2⟩
  have H2 := hid hs2
  have G2 := hid hF2
  have B2 := hid hb2
  have HRN := hid (r06New_ok w2 99000 (by decide) (by decide))
  clear hs2 hF2 hb2 HNEW
  go_wp2_with fail
  refine HRN.out.mono ?_
  rintro e w3 ⟨rb, rfl, G3, hs3, hG3', hb3⟩
  have hB3 : Two2 w1.heap.size w3 sb rb (newF 99000) (rnewF 99000) 3 := ⟨_, _, _, _, ⟨H2.out.below hb3, hs3, fun k hk hE => by have := H2.out.lt k hk; have := hG3' k hE; omega, fun k hk => G2.out k hk, fun k hk => by have := hG3' k hk; have := B2.out.size; omega, ⟨by simp [newF], by simp [newF]⟩, ⟨by simp [rnewF], by simp [rnewF], by simp [rnewF]⟩⟩⟩
  have HB3 := hid hB3
  have BL3 := hid (show Below w1.heap.size w1 w3 from Below.below B2.out hb3)
  clear hs3 hG3' hb3 HRN hB3
  go_wp2
  go_loopg [9] l.length (fun kx s9 wr => ∃ (i : Nat) (st : FSt) (rs : RSt) (ps : List Nat), s9 = .int .i64 i ∧ i ≤ l.length ∧ l.length - i ≤ kx ∧ Hid (Sim ps st rs) ∧ Hid (Two2 w1.heap.size wr sb rb st rs (3 * i + 3)) ∧ Hid (Below w1.heap.size w1 wr))
  case atStart => exact ⟨0, _, _, _, rfl, Nat.zero_le _, Nat.le_refl _, hid (Sim.new 99000), HB3, BL3⟩
  case round =>
    obtain ⟨i, st, rs, ps, rfl, hi, hk, HI, HT, HBL⟩ := hrel
    by_cases hlt : i < l.length
    · have hlt' : (i : Int) < (l.length : Int) := by omega
      obtain ⟨o, ho⟩ : ∃ o, l[i]? = some o := ⟨_, List.getElem?_eq_getElem hlt⟩
      obtain ⟨bb, off, rfl, hbb, _, hc1, hc2, hcell⟩ := (HV0.out.fr (Fr.of_below HBL.out : Fr (fun _ => False) w1 wr) (fun _ _ h => h.elim)).elem opC_len (by decide) ho
      have k0 : wr.cell? ⟨bb, off + i * 7, none⟩ = some (.int .i64 o.kind) := hcell 0 _ rfl
      have k1 : wr.cell? ⟨bb, off + i * 7 + 1, none⟩ = some (.string o.name) := hcell 1 _ rfl
      have k2 : wr.cell? ⟨bb, off + i * 7 + 2, none⟩ = some (.string o.to) := hcell 2 _ rfl
      have k3 : wr.cell? ⟨bb, off + i * 7 + 3, none⟩ = some (.slice o.ba o.bn o.bc) := hcell 3 _ rfl
      have k4 : wr.cell? ⟨bb, off + i * 7 + 4, none⟩ = some (.int .i64 o.n) := hcell 4 _ rfl
      have k5 : wr.cell? ⟨bb, off + i * 7 + 5, none⟩ = some (bcell o.by_) := hcell 5 _ rfl
      have k6 : wr.cell? ⟨bb, off + i * 7 + 6, none⟩ = some (.slice o.ca o.cn o.cc) := hcell 6 _ rfl
      have hmem := List.mem_of_getElem? ho
      clear hcell ho
      have HOG := hid (HG0.out o hmem)
      have HSTEP := hid (stepz_ok HT.out HBL.out (by omega) o HOG.out (HLO.out o hmem))
      clear hmem
      go_wp2_with fail
      refine HSTEP.out.mono ?_
      rintro e w7 hq
      obtain ⟨ys, cuts, bq, st', rfl, hrel, htwo, hbel⟩ := hq
      obtain ⟨ps', hsim⟩ := HI.out.op hrel HOG.out.n
      have HI7 := hid hsim
      have HT7 := hid htwo
      have HBL7 := hid hbel
      clear hrel htwo hbel HSTEP hsim
      go_wp2_with fail
      go_roundg (l.length - (i + 1))
      case measure => exact meas_ltL hk hlt
      case rel => exact ⟨i + 1, st', _, ps', by go_num, hlt, Nat.le_refl _, HI7, (by rw [show 3 * (i + 1) + 3 = 3 * i + 3 + 3 by omega]; exact HT7), HBL7⟩
    · obtain rfl : i = l.length := by omega
      obtain ⟨wp, hwp⟩ : ∃ wp, wp = wr := ⟨_, rfl⟩
      subst hwp
      obtain ⟨Fs, Ds, Gr, Er, hB⟩ := HT.out
      have HB := hid hB
      have HCP := hid (fsCopy_ok wp hB.fs (by have := hB.few.b; omega))
      clear hB HT
      go_wp2_with fail
      refine HCP.out.mono ?_
      rintro e wc ⟨cb, rfl, st1, φ, F1, D1, hf1, hc1, hF1, hD1, hb4⟩
      have HO4 := hid (show One wp.heap.size wc cb st1 100 from ⟨F1, D1, hf1, hF1, (copy_few hc1 HB.out.few).up (by omega)⟩)
      have BL4 := hid hb4
      have HG4 := hid (fun o ho => (HG3.out o ho).fr (show Below w1.heap.size w1 wp from HBL.out))
      have HV4 := hid (HV3.out.fr (Fr.of_below HBL.out : Fr (fun _ => False) w1 wp) (fun _ _ h => h))
      clear hf1 hc1 hF1 hD1 hb4 HCP
      go_wp2
      go_loopg [11] more.length (fun kx s11 wx => ∃ (i : Nat) (st : FSt), s11 = .int .i64 i ∧ i ≤ more.length ∧ more.length - i ≤ kx ∧ Hid (One wp.heap.size wx cb st (3 * i + 100)) ∧ Hid (Below wp.heap.size wp wx))
      case atStart => exact ⟨0, _, rfl, Nat.zero_le _, Nat.le_refl _, HO4, BL4⟩
      case round =>
        clear HO4 BL4
        obtain ⟨i, st2, rfl, hi, hk, HOO, HBM⟩ := hrel
        by_cases hlt : i < more.length
        · have hlt' : (i : Int) < (more.length : Int) := by omega
          obtain ⟨o, ho⟩ : ∃ o, more[i]? = some o := ⟨_, List.getElem?_eq_getElem hlt⟩
          obtain ⟨bb, off, rfl, hbb, _, hc1, hc2, hcell⟩ := (HV4.out.fr (Fr.of_below HBM.out : Fr (fun _ => False) wp wr) (fun _ _ h => h.elim)).elem opC_len (by decide) ho
          have k0 : wr.cell? ⟨bb, off + i * 7, none⟩ = some (.int .i64 o.kind) := hcell 0 _ rfl
          have k1 : wr.cell? ⟨bb, off + i * 7 + 1, none⟩ = some (.string o.name) := hcell 1 _ rfl
          have k2 : wr.cell? ⟨bb, off + i * 7 + 2, none⟩ = some (.string o.to) := hcell 2 _ rfl
          have k3 : wr.cell? ⟨bb, off + i * 7 + 3, none⟩ = some (.slice o.ba o.bn o.bc) := hcell 3 _ rfl
          have k4 : wr.cell? ⟨bb, off + i * 7 + 4, none⟩ = some (.int .i64 o.n) := hcell 4 _ rfl
          have k5 : wr.cell? ⟨bb, off + i * 7 + 5, none⟩ = some (bcell o.by_) := hcell 5 _ rfl
          have k6 : wr.cell? ⟨bb, off + i * 7 + 6, none⟩ = some (.slice o.ca o.cn o.cc) := hcell 6 _ rfl
          have hmem := List.mem_of_getElem? ho
          clear hcell ho
          obtain ⟨q1, q2, q3, q4, q5, hT2⟩ := HOO.out.beside HBM.out.size
          have hba : Below wp.heap.size wp (wr.alloc (.cells #[.int .i64 0, .slice none 0 0, .slice none 0 0, .slice none 0 0, .slice none 0 0, .int .i64 0, .bool false, .int .i64 0] 42)) := HBM.out.alloc HBM.out.size _
          have HSTEP := hid (stepz_ok ⟨q1, q2, q3, q4, hT2⟩ hba (by omega) o (HG4.out o hmem) (HLM.out o hmem))
          clear hmem hba hT2
          go_wp2_with fail
          refine HSTEP.out.mono ?_
          rintro e w9 hq
          obtain ⟨ys, cuts, bq, st', rfl, hrel, htwo, hbel⟩ := hq
          have HT9 := hid htwo.two.one
          have HBL9 := hid hbel
          clear hrel htwo hbel HSTEP
          go_wp2_with fail
          go_roundg (more.length - (i + 1))
          case measure => exact meas_ltL hk hlt
          case rel => exact ⟨i + 1, st', by go_num, hlt, Nat.le_refl _, (by rw [show 3 * (i + 1) + 100 = 3 * i + 100 + 3 by omega]; exact HT9), HBL9⟩
        · obtain rfl : i = more.length := by omega
          have HB5 := hid (HB.out.below HBM.out)
          have BL5 := hid (Below.below HBL.out HBM.out)
          have HLI := hid (fsList_ok wr HB5.out.fs (by have := HB5.out.few.a; omega))
          clear HB HOO HBM HBL
          obtain ⟨nl, hnl⟩ : ∃ nl, listF st = nl := ⟨_, rfl⟩
          rw [hnl] at HLI
          clear hnl
          go_wp2_with fail
          refine HLI.out.mono ?_
          rintro e wl ⟨la, lc, rfl, hol, hbl⟩
          have HB6 := hid (HB5.out.below hbl)
          have BL6 := hid (Below.below BL5.out hbl)
          have HRW := hid (show Row (fun _ => False) wl (.slice la nl.length lc) nl.length 1 (nl.map Value.string) from hol.row (fun _ _ _ h => h))
          clear HB5 BL5 HLI hol hbl
          go_wp2
          go_loopg [13] nl.length (fun kx s13 wy => ∃ (i : Nat), s13 = .int .i64 i ∧ i ≤ nl.length ∧ nl.length - i ≤ kx ∧ Hid (Below wl.heap.size wl wy))
          case atStart => exact ⟨0, rfl, Nat.zero_le _, Nat.le_refl _, hid (Below.refl _ _)⟩
          case round =>
            obtain ⟨i, rfl, hi, hk, HBY⟩ := hrel
            obtain ⟨wy, hwy⟩ : ∃ wy, wy = wr := ⟨_, rfl⟩
            subst hwy
            by_cases hlt : i < nl.length
            · have hlt' : (i : Int) < (nl.length : Int) := by omega
              obtain ⟨x, hx⟩ : ∃ x, nl[i]? = some x := ⟨_, List.getElem?_eq_getElem hlt⟩
              obtain ⟨bb, off, rfl, hc, hb, _, e1, e2⟩ := HRW.out.cellAt (i := i) (x := .string x) (by rw [List.getElem?_map, hx]; rfl)
              have hmx : nl.length ≤ 9223372036854775807 := by unfold maxLen at e2; omega
              have kx : wy.cell? ⟨bb, off + i, none⟩ = some (.string x) := ((Fr.of_below HBY.out : Fr (fun _ => False) wl wy).cell (p := ⟨bb, off + i, none⟩) hb id).trans hc
              have HRS := hid (fsRead_ok wy (HB6.out.fs.below HBY.out) x)
              obtain ⟨xs, hxs⟩ : ∃ xs, (readF st x).1 = xs := ⟨_, rfl⟩
              obtain ⟨xf, hxf⟩ : ∃ xf, (readF st x).2 = xf := ⟨_, rfl⟩
              rw [hxs, hxf] at HRS
              clear hx hc hxs hxf
              go_wp2_with fail
              refine HRS.out.mono ?_
              rintro e w8 ⟨a8, c8, rfl, ho8, hb8⟩
              have HO8 := hid ho8
              have HB8 := hid hb8
              obtain ⟨_, _, hv9, hfit⟩ := ho8.len
              obtain ⟨_, hf1, hf2⟩ := hfit
              clear ho8 hb8 HRS hv9
              go_wp2
              go_loopg [16] xs.length (fun ky s16 wz => ∃ (k : Nat) (cs : List Value), s16 = .int .i64 k ∧ k ≤ xs.length ∧ xs.length - k ≤ ky ∧ Hid (Own wz wy.heap.size 5 1 (.slice a8 xs.length c8) xs.length cs) ∧ Hid (∀ j, k ≤ j → cs[j]? = (bcells xs)[j]?) ∧ Hid (Below wy.heap.size wy wz))
              case atStart => exact ⟨0, _, rfl, Nat.zero_le _, Nat.le_refl _, HO8, hid (fun _ _ => rfl), HB8⟩
              case round =>
                obtain ⟨k, cs, rfl, hk2, hm2, HOW, HCS, HBZ⟩ := hrel
                by_cases hlk : k < xs.length
                · obtain ⟨hl0, ⟨h0, _⟩ | ⟨g, cap, cur, hgv, hgb, hgh, hgn, hgz, hgt⟩⟩ := id HOW.out
                  · omega
                  injection hgv with e1 e2 e3
                  subst e1 e3
                  have kb : wr.cell? ⟨g, k, none⟩ = some (bcell xs[k]) := ((Own.cellAt HOW.out (i := k) (by omega)).2).trans ((HCS.out k (Nat.le_refl _)).trans (by unfold bcells; rw [List.getElem?_map, List.getElem?_eq_getElem hlk]; rfl))
                  have zk := frozen_of hgh k
                  have hlk' : (k : Int) < (xs.length : Int) := by omega
                  have HGB := hid hgb
                  have hmk : xs.length ≤ 9223372036854775807 := by unfold maxLen at hf2; omega
                  unfold bcell at kb
                  clear hl0 hgb hgh hgn hgz hgt
                  go_wp2
                  go_roundg (xs.length - (k + 1))
                  case measure => exact meas_ltL hm2 hlk
                  case rel => exact ⟨k + 1, cs.set k _, by go_num, hlk, Nat.le_refl _, hid (Own.store HOW.out k (by omega) _).2, hid (fun j hj => by rw [List.getElem?_set_ne (by omega)]; exact HCS.out j (by omega)), hid (HBZ.out.setCell (p := ⟨g, k, none⟩) HGB.out _)⟩
                · obtain rfl : k = xs.length := by omega
                  have hlk' : ¬ (xs.length : Int) < (xs.length : Int) := by omega
                  go_wp2
                  go_roundg (nl.length - (i + 1))
                  case measure => exact meas_ltL hk hlt
                  case rel => exact ⟨i + 1, by go_num, hlt, Nat.le_refl _, hid (Below.below HBY.out HBZ.out)⟩
            · obtain rfl : i = nl.length := by omega
              have hlt' : ¬ (nl.length : Int) < (nl.length : Int) := by omega
              have HAK := hid (alike_ok (HB6.out.below HBY.out) (by omega) HI.out)
              go_wp2_with (first | (go_at_call 12; refine HAK.out.mono ?_; rintro e wk ⟨rfl, hbk⟩; have BK := hid hbk; clear hbk) | (go_at_call 5; refine (HAL.out _).mono ?_; rintro e we ⟨rfl, hbe⟩; have BE := hid hbe; clear hbe))
              go_ret
              exact ⟨rfl, Below.below (Below.below (Below.below BL6.out HBY.out) BK.out) BE.out⟩
theorem copies_all (w : World) (a0 : Option Addr) (n0 c0 : Nat) (a3 : Option Addr) (n3 c3 : Nat) (h0 : AOps w a0 n0 c0) (h3 : AOps w a3 n3 c3) :
    Calls Tryz.prog 3 #[.slice a0 n0 c0, .slice a3 n3 c3] w fun e w' => e = .returned (.bool true) ∧ Below w.heap.size w w' := by
  by_cases e0 : 20 < n0
  · exact copies_out1 w a0 n0 c0 a3 n3 c3 (hid (light_long w a0 n0 c0 20 e0))
  obtain ⟨l, rfl, hG0, hr0⟩ := h0.2.2 (Nat.le_trans (Nat.le_of_not_lt e0) (by decide))
  have HL0 := hid (light_short w a0 c0 l hr0 20 (by omega) (by decide))
  by_cases e3 : 20 < n3
  · exact copies_out2 w a0 l.length c0 a3 n3 c3 l HL0 (hid (light_long w a3 n3 c3 20 e3))
  obtain ⟨more, rfl, hG3, hr3⟩ := h3.2.2 (Nat.le_trans (Nat.le_of_not_lt e3) (by decide))
  exact copies_main w a0 c0 l a3 c3 more hr0 hG0 (by omega) hr3 hG3 (by omega) HL0 (hid (light_short w a3 c3 more hr3 20 (by omega) (by decide)))
end Go.Proofs.YtgehalfnpbjjcaaGreat
