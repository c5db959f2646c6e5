/- SegmentForms, walked: with the contracts of what it calls. -/
import Derived.Test.YtpomfegcifpfkaaBackLaw
import Derived.Test.YtpomfegcifpfkaaR10Get2
import Derived.Test.YtpomfegcifpfkaaR10Sort
namespace Go.Proofs.Ytpomfegcifpfkaa
open Go Go.RowKit Go.Sort
variable {P : Program} {k h : Nat}
theorem getSegF_len (xs : List UInt8) : (getSegF xs).1.length ≤ 900 := by
  by_cases hg : (getSegF xs).2 = 0
  · obtain ⟨m, hm⟩ : ∃ m, getSegF xs = (m, 0) := ⟨_, by rw [← hg]⟩
    have := rightL_len (getSegF_back hm).1
    rw [hm]; exact this
  · rw [getSegF_none hg]; exact Nat.zero_le _
theorem segPut_all (L : SG P k h) (K : SK P) {S : Nat → Prop} (t : Nat) (w : World) (v : Value) (l : List Ent) (hv : Es S w v l) (hT : Tab w t) :
    Calls P 6 #[.pointer (some ⟨t, 0, none⟩), v] w fun e w' => ∃ a c, e = .returned (.tuple #[.slice a (putSegF l).1.length c, .int .i64 (putSegF l).2]) ∧ OwnB w' w.heap.size (.slice a (putSegF l).1.length c) (putSegF l).1 ∧ Tab w' t ∧ Fr (· = t) w w' := by
  cases hr : rightL l with
  | true =>
    refine (segPut_good L K t w v l hv hr hT).mono ?_
    rw [show putSegF l = (sealed (enc (segsTV l)), 0) by unfold putSegF; rw [hr]; rfl]
    exact fun _ _ h => h
  | false =>
    refine (segPut_bad L K t w v l hv hr).mono ?_
    rw [show putSegF l = ([], 1) by unfold putSegF; rw [hr]; rfl]
    rintro e w' ⟨rfl, hg⟩
    exact ⟨none, 0, rfl, Own.nil _ _ _ _, hT.fr (hg.fr (fun _ => False)) id, hg.fr _⟩
theorem r10Put_all (L : SG P k h) (R : SR P) (K : RK P) {S : Nat → Prop} (w : World) (v : Value) (l : List Ent) (hv : Es S w v l) :
    Calls P 8 #[v] w fun e w' => ∃ a c, e = .returned (.tuple #[.slice a (putSegF l).1.length c, .int .i64 (putSegF l).2]) ∧ OwnB w' w.heap.size (.slice a (putSegF l).1.length c) (putSegF l).1 ∧ Below w.heap.size w w' := by
  cases hr : rightL l with
  | true =>
    refine (r10Put_good L R K w v l hv hr).mono ?_
    rw [show putSegF l = (sealed (enc (segsTV l)), 0) by unfold putSegF; rw [hr]; rfl]
    exact fun _ _ h => h
  | false =>
    refine (r10Put_bad L R K w v l hv hr).mono ?_
    rw [show putSegF l = ([], 1) by unfold putSegF; rw [hr]; rfl]
    rintro e w' ⟨rfl, hg⟩
    exact ⟨none, 0, rfl, Own.nil _ _ _ _, hg.below⟩
theorem pair_ex {α β : Type} (p : α × β) : ∃ a b, p = (a, b) := ⟨p.1, p.2, rfl⟩
theorem Own.turn {W W' : World} {z t : Nat} {e : TypeId} {s : Nat} {v : Value} {n : Nat} {cs : List Value} (h : Own W z e s v n cs) (htz : t < z) (hf : Fr (· = t) W W') : Own W' z e s v n cs :=
  Own.fr h hf (fun k hk e => by have := (Own.mine_ge h hk).1; omega)
theorem Own.under {W W' : World} {z : Nat} {e : TypeId} {s : Nat} {v : Value} {n : Nat} {cs : List Value} (h : Own W z e s v n cs) (hb : Below W.heap.size W W') : Own W' z e s v n cs :=
  Own.fr h (Fr.of_below hb : Fr (fun _ => False) _ _) (fun _ _ => id)
structure FMC (P : Program) : Prop where
  f_segForms : P.funcs[3]? = some Try.f3
theorem fmc : FMC Try.prog := {
  f_segForms := Try.func3
  }
set_option maxHeartbeats 4000000 in
set_option maxRecDepth 100000 in
theorem forms_long (L : SG P k h) (C : BC P) (F : FMC P) (w : World) (a1 a2 : Option Addr) (n1 c1 n2 c2 : Nat) (h1 : Arg w a1 n1 c1) (h2 : ArgB w a2 n2 c2) (hl : ¬ (n1 ≤ 60 ∧ n2 ≤ 2000)) :
    Calls P 3 #[.slice a1 n1 c1, .slice a2 n2 c2] w fun e w' => e = .returned (.bool true) ∧ Below w.heap.size w w' := by
  obtain ⟨b1, b2, _⟩ := h1
  obtain ⟨b3, b4, _⟩ := h2
  unfold maxLen at b2 b4
  have u_tUnit := L.u_tUnit; have r_tUnit := L.r_tUnit; have a_tUnit := L.a_tUnit; have z_tUnit := L.z_tUnit; have v_tUnit := L.v_tUnit; have u_tInt := L.u_tInt; have r_tInt := L.r_tInt; have a_tInt := L.a_tInt; have z_tInt := L.z_tInt; have v_tInt := L.v_tInt; have u_tBool := L.u_tBool; have r_tBool := L.r_tBool; have a_tBool := L.a_tBool; have z_tBool := L.z_tBool; have v_tBool := L.v_tBool; have u_tREnts := L.u_tREnts; have r_tREnts := L.r_tREnts; have a_tREnts := L.a_tREnts; have z_tREnts := L.z_tREnts; have v_tREnts := L.v_tREnts; have u_tByte := L.u_tByte; have r_tByte := L.r_tByte; have a_tByte := L.a_tByte; have z_tByte := L.z_tByte; have v_tByte := L.v_tByte; have u_tBytes := L.u_tBytes; have r_tBytes := L.r_tBytes; have a_tBytes := L.a_tBytes; have z_tBytes := L.z_tBytes; have v_tBytes := L.v_tBytes
  have mixed := L.mixed
  have e1 : ∀ args w, (callFunc 4 args).run P w = .ok (.enter 4 args) w := enters_of C.f_l10alive rfl rfl
  have CA := hid C.alive
  by_cases q1 : n1 ≤ 60
  · have q2 : ¬ n2 ≤ 2000 := fun h => hl ⟨q1, h⟩
    go_enter F.f_segForms, Try.ntmps3
    go_wp2_with (go_at_fn 4; refine (CA.out _).mono ?_; rintro e w1 ⟨rfl, hb⟩)
    go_ret
    exact ⟨rfl, hb⟩
  · go_enter F.f_segForms, Try.ntmps3
    go_wp2_with (go_at_fn 4; refine (CA.out _).mono ?_; rintro e w1 ⟨rfl, hb⟩)
    go_ret
    exact ⟨rfl, hb⟩
set_option maxHeartbeats 8000000 in
set_option maxRecDepth 100000 in
theorem forms_short (L : SG P k h) (K : SK P) (O : SO P) (R : SR P) (RKK : RK P) (G : RG P) (C : BC P) (F : FMC P) (w : World) (a1 a2 : Option Addr) (n1 c1 n2 c2 : Nat) (h1 : Arg w a1 n1 c1) (h2 : ArgB w a2 n2 c2) (q1 : n1 ≤ 60) (q2 : n2 ≤ 2000) :
    Calls P 3 #[.slice a1 n1 c1, .slice a2 n2 c2] w fun e w' => e = .returned (.bool true) ∧ Below w.heap.size w w' := by
  obtain ⟨b1, b2, o1⟩ := h1
  obtain ⟨b3, b4, o2⟩ := h2
  obtain ⟨l1, rfl, E1⟩ := o1 q1
  obtain ⟨ys, rfl, E2⟩ := o2 q2
  unfold maxLen at b2 b4
  have HE1 := hid E1
  have HE2 := hid E2
  clear o1 o2 E1 E2
  have u_tUnit := L.u_tUnit; have r_tUnit := L.r_tUnit; have a_tUnit := L.a_tUnit; have z_tUnit := L.z_tUnit; have v_tUnit := L.v_tUnit; have u_tInt := L.u_tInt; have r_tInt := L.r_tInt; have a_tInt := L.a_tInt; have z_tInt := L.z_tInt; have v_tInt := L.v_tInt; have u_tBool := L.u_tBool; have r_tBool := L.r_tBool; have a_tBool := L.a_tBool; have z_tBool := L.z_tBool; have v_tBool := L.v_tBool; have u_tEnts := L.u_tEnts; have r_tEnts := L.r_tEnts; have a_tEnts := L.a_tEnts; have z_tEnts := L.z_tEnts; have v_tEnts := L.v_tEnts; have u_tREnts := L.u_tREnts; have r_tREnts := L.r_tREnts; have a_tREnts := L.a_tREnts; have z_tREnts := L.z_tREnts; have v_tREnts := L.v_tREnts; have u_tByte := L.u_tByte; have r_tByte := L.r_tByte; have a_tByte := L.a_tByte; have z_tByte := L.z_tByte; have v_tByte := L.v_tByte; have u_tBytes := L.u_tBytes; have r_tBytes := L.r_tBytes; have a_tBytes := L.a_tBytes; have z_tBytes := L.z_tBytes; have v_tBytes := L.v_tBytes
  have mixed := L.mixed
  have u_tFault := C.u_tFault; have a_tFault := C.a_tFault; have z_tFault := C.z_tFault; have v_tFault := C.v_tFault
  have e_l10Own : ∀ args w, (callFunc 7 args).run P w = .ok (.enter 7 args) w := enters_of L.f_l10Own rfl rfl
  have e_segSort : ∀ args w, (callFunc 15 args).run P w = .ok (.enter 15 args) w := enters_of L.f_segSort rfl rfl
  have e_segRight : ∀ args w, (callFunc 11 args).run P w = .ok (.enter 11 args) w := enters_of L.f_segRight rfl rfl
  have e_l10Back : ∀ args w, (callFunc 14 args).run P w = .ok (.enter 14 args) w := enters_of L.f_l10Back rfl rfl
  have e_r10Same : ∀ args w, (callFunc 13 args).run P w = .ok (.enter 13 args) w := enters_of L.f_r10Same rfl rfl
  have e_r10Right : ∀ args w, (callFunc 12 args).run P w = .ok (.enter 12 args) w := enters_of R.f_r10Right rfl rfl
  have e_r10Sort : ∀ args w, (callFunc 16 args).run P w = .ok (.enter 16 args) w := enters_of R.f_r10Sort rfl rfl
  have e_r10Put : ∀ args w, (callFunc 8 args).run P w = .ok (.enter 8 args) w := enters_of R.f_r10Put rfl rfl
  have e_r10Get : ∀ args w, (callFunc 10 args).run P w = .ok (.enter 10 args) w := enters_of R.f_r10Get rfl rfl
  have e_crcNew : ∀ args w, (callFunc 5 args).run P w = .ok (.enter 5 args) w := enters_of C.f_crcNew rfl rfl
  have e_refBytes : ∀ args w, (callFunc 17 args).run P w = .ok (.enter 17 args) w := enters_of C.f_refBytes rfl rfl
  have e_l10alive : ∀ args w, (callFunc 4 args).run P w = .ok (.enter 4 args) w := enters_of C.f_l10alive rfl rfl
  have e_segPut : ∀ args w, (callFunc 6 args).run P w = .ok (.enter 6 args) w := enters_of C.f_segPut rfl rfl
  have e_segGet : ∀ args w, (callFunc 9 args).run P w = .ok (.enter 9 args) w := enters_of C.f_segGet rfl rfl
  have hd1 : decide ((60 : Int) < (l1.length : Int)) = false := decide_eq_false (by omega)
  have hd2 : decide ((2000 : Int) < (ys.length : Int)) = false := decide_eq_false (by omega)
  have hly : ys.length ≤ 100000 := by omega
  have CN := hid C.new
  have CA := hid C.alive
  have CB := hid C.bytes
  have CO := hid (fun (S : Nat → Prop) W a c (hv : Es S W (.slice a l1.length c) l1) => l10Own_ok L W _ l1 hv (by omega))
  have ER : ET P 22 81 k 56 (.agg (entC default).toArray) := G.etRE L.hk
  have CBK := hid (fun (S : Nat → Prop) W a c (m : List Ent) (hm : m.length ≤ 900) (hv : Es S W (.slice a m.length c) m) => l10Back_ok L ER W _ m hv (by omega))
  have CSM : Hid (∀ (W : World) (m : List Ent) (a : Option Addr) (c : Nat) (a' : Option Addr) (c' : Nat), Row (fun _ => False) W (.slice a m.length c) m.length 35 (m.flatMap entC) → Row (fun _ => False) W (.slice a' m.length c') m.length 35 (m.flatMap entC) → Calls P 13 #[.slice a m.length c, .slice a' m.length c'] W fun r w' => r = .returned (.bool true) ∧ Below W.heap.size W w') := hid (fun W m a c a' c' hu hv => r10Same_ok L C.gR C.eR W m _ _ hu hv)
  have CRS := hid (fun (S : Nat → Prop) W a c (hv : Es S W (.slice a l1.length c) l1) => r10Sort_ok L R ER W _ l1 hv (by omega))
  have CSR := hid (fun (S : Nat → Prop) W a c (hv : Es S W (.slice a l1.length c) l1) => segRight_ok L W _ l1 hv)
  have CRR := hid (fun (S : Nat → Prop) W a c (hv : Es S W (.slice a l1.length c) l1) => r10Right_ok L R W _ l1 hv)
  have CSP := hid (fun (S : Nat → Prop) t W a c (hv : Es S W (.slice a l1.length c) l1) (hT : Tab W t) => segPut_all L K t W _ l1 hv hT)
  have CRP := hid (fun (S : Nat → Prop) W a c (hv : Es S W (.slice a l1.length c) l1) => r10Put_all L R RKK W _ l1 hv)
  have CSG := hid (fun t W a c (hT : Tab W t) (hb : Bs (· = t) W (.slice a ys.length c) ys) => segGet_ok L K O t W _ ys hT hb hly)
  have CRG := hid (fun W a c (hb : Bs (fun _ => False) W (.slice a ys.length c) ys) => r10Get_ok L R RKK G W _ ys hb hly)
  have CSS := hid (fun W a c (hv : Es (fun _ => False) W (.slice a l1.length c) l1) => C.sort W _ l1 hv (by omega))
  have hml := getSegF_len ys
  have hsl := sortE_length l1
  obtain ⟨X, f, hX⟩ := pair_ex (putSegF l1)
  obtain ⟨m, g, hm⟩ := pair_ex (getSegF ys)
  rw [hX] at CSP CRP
  unfold GetPost at CSG
  unfold RGetPost at CRG
  rw [hm] at CSG CRG hml
  simp only at CSP CRP CSG CRG hml
  have hsm : (sortE l1).length ≤ 900 := by omega
  clear hX hm hsl
  generalize sortE l1 = s at *
  generalize rightL l1 = rl at *
  go_enter F.f_segForms, Try.ntmps3
  go_wp2_with fail
  refine (CN.out _).mono ?_
  rintro e w1 ⟨t, rfl, ht1, hT1, hb1⟩
  have S1 : Hid (ST t w1.heap.size w w1 w1 (.slice a1 l1.length c1) l1 (.slice a2 ys.length c2) ys) := hid (by
    have hz := hb1.size
    have htl := hT1.lt
    exact ⟨hT1, Fr.refl _ _, Row.shift HE1.out (Fr.of_below hb1 : Fr (fun _ => False) _ _) (fun _ _ h => h) (fun k h1 h2 => by omega), HE2.out.shift (Fr.of_below hb1 : Fr (fun _ => False) _ _) (fun _ _ h => h) (fun k h1 h2 => by omega), hb1, ht1, htl, Nat.le_refl _, Nat.le_refl _⟩)
  have htz := S1.out.tz
  clear hT1 hb1 CN HE1 HE2
  go_wp2_with fail
  refine (CO.out _ _ _ _ S1.out.ez).mono ?_
  rintro e w2 ⟨a3, c3, rfl, ho, hb⟩
  have S2 := hid (S1.out.below hb)
  have O2 := hid ho
  clear hb ho
  go_wp2_with fail
  refine (CSP.out _ t _ _ _ (Own.row (S := fun _ => False) O2.out (fun _ _ _ => id)) S2.out.tab).mono ?_
  rintro e w3 ⟨ax, cx, rfl, ho, hT, hF⟩
  have S3 := hid (S2.out.step hT hF)
  have X3 := hid (Own.mono ho S2.out.zW)
  clear ho hT hF O2
  go_wp2_with fail
  refine (CRP.out _ _ _ _ S3.out.ez).mono ?_
  rintro e w4 ⟨ay, cy, rfl, ho, hb⟩
  have S4 := hid (S3.out.below hb)
  have X4 := hid (Own.under X3.out hb)
  have Y4 := hid (Own.mono ho S3.out.zW)
  clear ho hb X3
  go_wp2_with fail
  refine (CSG.out t _ _ _ S4.out.tab S4.out.bs).mono ?_
  rintro e w5 ⟨am, cm, rfl, ho, hT, hF⟩
  have S5 := hid (S4.out.step hT hF)
  have X5 := hid (Own.turn X4.out htz hF)
  have Y5 := hid (Own.turn Y4.out htz hF)
  have M5 := hid (Own.mono ho S4.out.zW)
  clear ho hT hF X4 Y4
  go_wp2_with fail
  refine (CRG.out _ _ _ (S5.out.bz.mono (fun _ _ h => h.elim))).mono ?_
  rintro e w6 ⟨an, cn, rfl, ho, hb⟩
  have S6 := hid (S5.out.below hb)
  have X6 := hid (Own.under X5.out hb)
  have Y6 := hid (Own.under Y5.out hb)
  have M6 := hid (Own.under M5.out hb)
  have N6 := hid (Own.mono ho S5.out.zW)
  clear ho hb X5 Y5 M5
  go_wp2_with fail
  refine (CO.out _ _ _ _ S6.out.ez).mono ?_
  rintro e w7 ⟨a7, c7, rfl, ho, hb⟩
  have S7 := hid (S6.out.below hb)
  have X7 := hid (Own.under X6.out hb)
  have Y7 := hid (Own.under Y6.out hb)
  have M7 := hid (Own.under M6.out hb)
  have N7 := hid (Own.under N6.out hb)
  have O7 := hid ho
  clear ho hb X6 Y6 M6 N6
  go_wp2_with fail
  refine (CSR.out _ _ _ _ (Own.row (S := fun _ => False) O7.out (fun _ _ _ => id))).mono ?_
  rintro e w8 ⟨rfl, hg⟩
  have hb := hg.below
  have S8 := hid (S7.out.below hb)
  have X8 := hid (Own.under X7.out hb)
  have Y8 := hid (Own.under Y7.out hb)
  have M8 := hid (Own.under M7.out hb)
  have N8 := hid (Own.under N7.out hb)
  clear hg hb O7 X7 Y7 M7 N7
  go_wp2_with fail
  refine (CRR.out _ _ _ _ S8.out.ez).mono ?_
  rintro e w9 ⟨rfl, hg⟩
  have hb := hg.below
  have S9 := hid (S8.out.below hb)
  have X9 := hid (Own.under X8.out hb)
  have Y9 := hid (Own.under Y8.out hb)
  have M9 := hid (Own.under M8.out hb)
  have N9 := hid (Own.under N8.out hb)
  clear hg hb X8 Y8 M8 N8
  go_wp2_with fail
  refine (CO.out _ _ _ _ S9.out.ez).mono ?_
  rintro e w10 ⟨a10, c10, rfl, ho, hb⟩
  have S10 := hid (S9.out.below hb)
  have X10 := hid (Own.under X9.out hb)
  have Y10 := hid (Own.under Y9.out hb)
  have M10 := hid (Own.under M9.out hb)
  have N10 := hid (Own.under N9.out hb)
  have O10 := hid ho
  clear ho hb X9 Y9 M9 N9
  go_wp2_with fail
  refine (CSS.out _ _ _ (Own.row (S := fun _ => False) O10.out (fun _ _ _ => id))).mono ?_
  rintro e w11 ⟨a11, c11, rfl, ho, hb⟩
  have S11 := hid (S10.out.below hb)
  have X11 := hid (Own.under X10.out hb)
  have Y11 := hid (Own.under Y10.out hb)
  have M11 := hid (Own.under M10.out hb)
  have N11 := hid (Own.under N10.out hb)
  have O11 := hid ho
  clear ho hb X10 Y10 M10 N10 O10
  go_wp2_with fail
  refine (CBK.out _ _ _ _ s hsm (Own.row (S := fun _ => False) O11.out (fun _ _ _ => id))).mono ?_
  rintro e w12 ⟨a12, c12, rfl, ho, hb⟩
  have S12 := hid (S11.out.below hb)
  have X12 := hid (Own.under X11.out hb)
  have Y12 := hid (Own.under Y11.out hb)
  have M12 := hid (Own.under M11.out hb)
  have N12 := hid (Own.under N11.out hb)
  have O12 := hid ho
  clear ho hb X11 Y11 M11 N11 O11
  go_wp2_with fail
  refine (CRS.out _ _ _ _ S12.out.ez).mono ?_
  rintro e w13 ⟨a13, c13, rfl, ho, hb⟩
  have S13 := hid (S12.out.below hb)
  have X13 := hid (Own.under X12.out hb)
  have Y13 := hid (Own.under Y12.out hb)
  have M13 := hid (Own.under M12.out hb)
  have N13 := hid (Own.under N12.out hb)
  have P13 := hid (Own.under O12.out hb)
  have O13 := hid ho
  clear ho hb X12 Y12 M12 N12 O12
  go_wp2_with fail
  refine (CSM.out _ s _ _ _ _ (Own.row P13.out (fun _ _ _ => id)) (Own.row O13.out (fun _ _ _ => id))).mono ?_
  rintro e w14 ⟨rfl, hb⟩
  have S14 := hid (S13.out.below hb)
  have X14 := hid (Own.under X13.out hb)
  have Y14 := hid (Own.under Y13.out hb)
  have M14 := hid (Own.under M13.out hb)
  have N14 := hid (Own.under N13.out hb)
  clear hb X13 Y13 M13 N13 P13 O13
  go_wp2_with fail
  refine (CB.out _ _ _ X (OwnB.bs X14.out (fun _ _ _ => id)) (OwnB.bs Y14.out (fun _ _ _ => id))).mono ?_
  rintro e w15 ⟨rfl, hb⟩
  have S15 := hid (S14.out.below hb)
  have M15 := hid (Own.under M14.out hb)
  have N15 := hid (Own.under N14.out hb)
  clear hb X14 Y14 M14 N14
  go_wp2_with fail
  refine (CBK.out _ _ _ _ m hml (Own.row (S := fun _ => False) M15.out (fun _ _ _ => id))).mono ?_
  rintro e w16 ⟨a16, c16, rfl, ho, hb⟩
  have S16 := hid (S15.out.below hb)
  have N16 := hid (Own.under N15.out hb)
  have O16 := hid ho
  clear hb ho M15 N15
  go_wp2_with fail
  refine (CSM.out _ m _ _ _ _ (Own.row O16.out (fun _ _ _ => id)) (Own.row N16.out (fun _ _ _ => id))).mono ?_
  rintro e w17 ⟨rfl, hb⟩
  have S17 := hid (S16.out.below hb)
  clear hb O16 N16
  go_wp2_with fail
  refine (CA.out _).mono ?_
  rintro e w18 ⟨rfl, hb⟩
  have S18 := hid (S17.out.below hb)
  clear hb
  go_wp2
  go_ret
  exact ⟨rfl, S18.out.fin⟩
end Go.Proofs.Ytpomfegcifpfkaa
