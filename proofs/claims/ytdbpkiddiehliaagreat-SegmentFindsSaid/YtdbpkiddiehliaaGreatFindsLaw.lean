/- SegmentFinds, walked: with the contracts of what it calls. -/
import Derived.Test.YtdbpkiddiehliaaGreatLies
import Derived.Test.YtdbpkiddiehliaaGreatRegStep
import Derived.Deep.MidRow
import Derived.Test.YtdbpkiddiehliaaGreatSegWithout
import Derived.Test.YtdbpkiddiehliaaGreatSegPacks2
import Derived.Deep.DeepCutAuto
namespace Go.Proofs.YtdbpkiddiehliaaGreat
open Go Go.RowKit Go.Sort
variable {P : Program} {k h : Nat}
/-- Contracts of what the law calls beside, over a program that is a variable. -/
structure FC (P : Program) : Prop where
  ER : ET P 22 61 35 56 (.agg (entC default).toArray)
  gR : P.eqGuardType P.depth 61 = false
  eR : ∀ (e : Ent) (w : World), (Op.equalIn 10000 61 (.agg (entC e).toArray) (.agg (entC e).toArray)).run P w = .ok true w
  gW : P.eqGuardType P.depth 33 = false
  eqW : ∀ (x y z : Int) (w : World), (Op.equalIn 10000 33 (.agg #[.int .i64 x, .int .i64 y, .int .i64 z]) (.agg #[.int .i64 x, .int .i64 y, .int .i64 z])).run P w = .ok true w
  iR : (P.info? 33).map (·.size) = some 3
  iW : (P.info? 28).map (·.size) = some 3
  join : ∀ (W : World) (v1 v2 : Value) (l1 l2 : List Ent), Es (fun _ => False) W v1 l1 → Es (fun _ => False) W v2 l2 → l1.length + l2.length ≤ 1000 → Calls P 11 #[v1, v2] W (RetE' W (sortE (l1 ++ l2)))
  without : ∀ (W : World) (v v' : Value) (l : List Ent) (ps : List Int), Es (fun _ => False) W v l → Is (fun _ => False) W v' ps → l.length ≤ 1000 → Calls P 13 #[v, v'] W (RetE' W (l.filter (keepF ps)))
  alive : ∀ W : World, Calls P 4 #[] W fun e w' => e = .returned (.bool true) ∧ Below W.heap.size W w'
  f_l10alive : P.funcs[4]? = some Tryz.f4
  f_segFinds : P.funcs[3]? = some Tryz.f3
  f_segJoin : P.funcs[11]? = some Tryz.f11
  f_segWithout : P.funcs[13]? = some Tryz.f13
/-- Numbers, as far as the law looks at them. -/
def ArgI (w : World) (a : Option Addr) (n c : Nat) : Prop := n ≤ c ∧ c ≤ maxLen ∧ (n ≤ 20 → ∃ ps : List Int, ps.length = n ∧ Is (fun _ => False) w (.slice a n c) ps)
def LiesI (w : World) (a : Option Addr) (n c : Nat) (l : List Int) : Prop := n = l.length ∧ ∀ W, Below w.heap.size w W → Is (fun _ => False) W (.slice a n c) l
theorem LiesI.on {w W : World} {a : Option Addr} {n c : Nat} {l : List Int} (h : LiesI w a n c l) (hb : Below w.heap.size w W) : LiesI W a n c l :=
  ⟨h.1, fun W' hb' => h.2 W' (hb.trans (hb'.mono hb.size))⟩
set_option maxHeartbeats 4000000 in
set_option maxRecDepth 100000 in
theorem finds_long (L : SG P k h) (D : SD P) (C : FC P) (w : World) (a1 a2 a3 : Option Addr) (n1 c1 n2 c2 n3 c3 : Nat) (n : Nm) (h1 : Arg w a1 n1 c1) (h2 : Arg w a2 n2 c2) (h3 : ArgI w a3 n3 c3) (hl : ¬ (n1 ≤ 60 ∧ n2 ≤ 60 ∧ n3 ≤ 20)) :
    Calls P 3 #[.slice a1 n1 c1, .slice a2 n2 c2, .agg (bcells n.1).toArray, .slice a3 n3 c3] w fun e w' => e = .returned (.bool true) ∧ Below w.heap.size w w' := by
  obtain ⟨b1, b2, _⟩ := h1
  obtain ⟨b3, b4, _⟩ := h2
  obtain ⟨b5, b6, _⟩ := h3
  unfold maxLen at b2 b4 b6
  have u_tUnit := L.u_tUnit; have r_tUnit := L.r_tUnit; have a_tUnit := L.a_tUnit; have z_tUnit := L.z_tUnit; have v_tUnit := L.v_tUnit; have u_tInt := L.u_tInt; have r_tInt := L.r_tInt; have a_tInt := L.a_tInt; have z_tInt := L.z_tInt; have v_tInt := L.v_tInt; have u_tBool := L.u_tBool; have r_tBool := L.r_tBool; have a_tBool := L.a_tBool; have z_tBool := L.z_tBool; have v_tBool := L.v_tBool; have u_tREnts := L.u_tREnts; have r_tREnts := L.r_tREnts; have a_tREnts := L.a_tREnts; have z_tREnts := L.z_tREnts; have v_tREnts := L.v_tREnts; have u_tHash := L.u_tHash; have r_tHash := L.r_tHash; have a_tHash := L.a_tHash; have z_tHash := L.z_tHash; have v_tHash := L.v_tHash
  have u_tInts := D.u_tInts; have r_tInts := D.r_tInts; have a_tInts := D.a_tInts; have z_tInts := D.z_tInts; have v_tInts := D.v_tInts
  have mixed := L.mixed
  have e_l10alive : ∀ args w, (callFunc 4 args).run P w = .ok (.enter 4 args) w := enters_of C.f_l10alive rfl rfl
  have CA := hid C.alive
  have hN : (bcells n.1).length = h := by rw [L.hh, bcells_length, n.2]
  generalize bcells n.1 = N at *
  by_cases q1 : n1 ≤ 60
  · have d1 : decide ((60 : Int) < (n1 : Int)) = false := decide_eq_false (by omega)
    by_cases q2 : n2 ≤ 60
    · have d2 : decide ((60 : Int) < (n2 : Int)) = false := decide_eq_false (by omega)
      have d3 : decide ((20 : Int) < (n3 : Int)) = true := decide_eq_true (by omega)
      go_enter C.f_segFinds, Tryz.ntmps3
      go_wp2_with (go_at_fn 4; refine (CA.out _).mono ?_; rintro e w1 ⟨rfl, hb⟩)
      go_ret
      exact ⟨rfl, ((Below.refl _ _).alloc (Nat.le_refl _) _).trans (hb.mono (by simp))⟩
    · have d2 : decide ((60 : Int) < (n2 : Int)) = true := decide_eq_true (by omega)
      go_enter C.f_segFinds, Tryz.ntmps3
      go_wp2_with (go_at_fn 4; refine (CA.out _).mono ?_; rintro e w1 ⟨rfl, hb⟩)
      go_ret
      exact ⟨rfl, ((Below.refl _ _).alloc (Nat.le_refl _) _).trans (hb.mono (by simp))⟩
  · have d1 : decide ((60 : Int) < (n1 : Int)) = true := decide_eq_true (by omega)
    go_enter C.f_segFinds, Tryz.ntmps3
    go_wp2_with (go_at_fn 4; refine (CA.out _).mono ?_; rintro e w1 ⟨rfl, hb⟩)
    go_ret
    exact ⟨rfl, ((Below.refl _ _).alloc (Nat.le_refl _) _).trans (hb.mono (by simp))⟩
set_option maxHeartbeats 4000000 in
set_option maxRecDepth 100000 in
theorem finds_short (L : SG P k h) (R : SR P) (D : SD P) (Q : PC P) (C : FC P) (w : World) (a1 a2 a3 : Option Addr) (n1 c1 n2 c2 n3 c3 : Nat) (n : Nm) (h1 : Arg w a1 n1 c1) (h2 : Arg w a2 n2 c2) (h3 : ArgI w a3 n3 c3) (q1 : n1 ≤ 60) (q2 : n2 ≤ 60) (q3 : n3 ≤ 20) :
    Calls P 3 #[.slice a1 n1 c1, .slice a2 n2 c2, .agg (bcells n.1).toArray, .slice a3 n3 c3] w fun e w' => e = .returned (.bool true) ∧ Below w.heap.size w w' := by
  obtain ⟨b1, b2, o1⟩ := h1
  obtain ⟨b3, b4, o2⟩ := h2
  obtain ⟨b5, b6, o3⟩ := h3
  obtain ⟨l1, rfl, E1⟩ := o1 q1
  obtain ⟨l2, rfl, E2⟩ := o2 q2
  obtain ⟨ps, rfl, E3⟩ := o3 q3
  unfold maxLen at b2 b4 b6
  have Y1 := hid (Es.lies rfl E1)
  have Y2 := hid (Es.lies rfl E2)
  have Y3 : Hid (LiesI w a3 ps.length c3 ps) := hid ⟨rfl, fun W hb => E3.fr (Fr.of_below hb : Fr (fun _ => False) w W) (fun _ _ h => h.elim)⟩
  clear o1 o2 o3 E1 E2 E3
  have u_tUnit := L.u_tUnit; have r_tUnit := L.r_tUnit; have a_tUnit := L.a_tUnit; have z_tUnit := L.z_tUnit; have v_tUnit := L.v_tUnit; have u_tInt := L.u_tInt; have r_tInt := L.r_tInt; have a_tInt := L.a_tInt; have z_tInt := L.z_tInt; have v_tInt := L.v_tInt; have u_tBool := L.u_tBool; have r_tBool := L.r_tBool; have a_tBool := L.a_tBool; have z_tBool := L.z_tBool; have v_tBool := L.v_tBool; have u_tHash := L.u_tHash; have r_tHash := L.r_tHash; have a_tHash := L.a_tHash; have z_tHash := L.z_tHash; have v_tHash := L.v_tHash; have u_tWhere := L.u_tWhere; have r_tWhere := L.r_tWhere; have a_tWhere := L.a_tWhere; have z_tWhere := L.z_tWhere; have v_tWhere := L.v_tWhere; have u_tRWhere := L.u_tRWhere; have r_tRWhere := L.r_tRWhere; have a_tRWhere := L.a_tRWhere; have z_tRWhere := L.z_tRWhere; have v_tRWhere := L.v_tRWhere; have u_tREnt := L.u_tREnt; have r_tREnt := L.r_tREnt; have a_tREnt := L.a_tREnt; have z_tREnt := L.z_tREnt; have v_tREnt := L.v_tREnt; have u_tEnts := L.u_tEnts; have r_tEnts := L.r_tEnts; have a_tEnts := L.a_tEnts; have z_tEnts := L.z_tEnts; have v_tEnts := L.v_tEnts; have u_tREnts := L.u_tREnts; have r_tREnts := L.r_tREnts; have a_tREnts := L.a_tREnts; have z_tREnts := L.z_tREnts; have v_tREnts := L.v_tREnts; have u_tWhereBool := L.u_tWhereBool; have r_tWhereBool := L.r_tWhereBool; have a_tWhereBool := L.a_tWhereBool; have z_tWhereBool := L.z_tWhereBool; have v_tWhereBool := L.v_tWhereBool
  have u_tInts := D.u_tInts; have r_tInts := D.r_tInts; have a_tInts := D.a_tInts; have z_tInts := D.z_tInts; have v_tInts := D.v_tInts
  have mixed := L.mixed
  have gW := C.gW
  have eqW := C.eqW
  have e_l10alive : ∀ args w, (callFunc 4 args).run P w = .ok (.enter 4 args) w := enters_of C.f_l10alive rfl rfl
  have e_segJoin : ∀ args w, (callFunc 11 args).run P w = .ok (.enter 11 args) w := enters_of C.f_segJoin rfl rfl
  have e_segWithout : ∀ args w, (callFunc 13 args).run P w = .ok (.enter 13 args) w := enters_of C.f_segWithout rfl rfl
  have e_l10Own : ∀ args w, (callFunc 6 args).run P w = .ok (.enter 6 args) w := enters_of L.f_l10Own rfl rfl
  have e_l10Back : ∀ args w, (callFunc 10 args).run P w = .ok (.enter 10 args) w := enters_of L.f_l10Back rfl rfl
  have e_l10Where : ∀ args w, (callFunc 8 args).run P w = .ok (.enter 8 args) w := enters_of L.f_l10Where rfl rfl
  have e_segFind : ∀ args w, (callFunc 5 args).run P w = .ok (.enter 5 args) w := enters_of L.f_segFind rfl rfl
  have e_r10Same : ∀ args w, (callFunc 9 args).run P w = .ok (.enter 9 args) w := enters_of L.f_r10Same rfl rfl
  have e_r10Find : ∀ args w, (callFunc 7 args).run P w = .ok (.enter 7 args) w := enters_of R.f_r10Find rfl rfl
  have e_r10Sort : ∀ args w, (callFunc 12 args).run P w = .ok (.enter 12 args) w := enters_of R.f_r10Sort rfl rfl
  have e_r10Without : ∀ args w, (callFunc 14 args).run P w = .ok (.enter 14 args) w := enters_of R.f_r10Without rfl rfl
  have e_r10Packs : ∀ args w, (callFunc 17 args).run P w = .ok (.enter 17 args) w := enters_of R.f_r10Packs rfl rfl
  have e_segPacks : ∀ args w, (callFunc 16 args).run P w = .ok (.enter 16 args) w := enters_of D.f_segPacks rfl rfl
  have e_r08Numbers : ∀ args w, (callFunc 15 args).run P w = .ok (.enter 15 args) w := enters_of D.f_r08Numbers rfl rfl
  have ER : ET P 22 61 k 56 (.agg (entC default).toArray) := by rw [L.hk]; exact C.ER
  have d1 : decide ((60 : Int) < (l1.length : Int)) = false := decide_eq_false (by omega)
  have d2 : decide ((60 : Int) < (l2.length : Int)) = false := decide_eq_false (by omega)
  have d3 : decide ((20 : Int) < (ps.length : Int)) = false := decide_eq_false (by omega)
  have hN : (bcells n.1).length = h := by rw [L.hh, bcells_length, n.2]
  have h0 : ¬ h = 0 := by rw [L.hh]; omega
  have CO : Hid (∀ W a c l, Lies W a l.length c l → l.length ≤ 60 → Calls P 6 #[.slice a l.length c] W (RetE' W l)) := hid fun W a c l hl hn => l10Own_ok L W _ l (hl.2 W (Below.refl _ _)) (by omega)
  obtain ⟨x0, y0, z0, hwh⟩ := whC_ex (findF l1 n)
  have CF : Hid (∀ W a c, Es (fun _ => False) W (.slice a l1.length c) l1 → Calls P 5 #[.slice a l1.length c, .agg (bcells n.1).toArray] W fun r w' => r = .returned (.tuple #[.agg #[.int .i64 x0, .int .i64 y0, .int .i64 z0], .bool (findF l1 n).isSome]) ∧ Below W.heap.size W w') := hid fun W a c ho => by
    have := segFind_ok L W _ l1 n ho
    unfold FindPost at this
    rw [hwh] at this
    exact this
  have CRF : Hid (∀ W, Below w.heap.size w W → Calls P 7 #[.slice a1 l1.length c1, .agg (bcells n.1).toArray] W fun r w' => r = .returned (.tuple #[.agg #[.int .i64 x0, .int .i64 y0, .int .i64 z0], .bool (findF l1 n).isSome]) ∧ Below W.heap.size W w') := hid fun W hb => by
    have := r10Find_ok L R C.iR W _ l1 (Y1.out.2 W hb) n
    unfold FindPost at this
    rw [hwh] at this
    exact this
  generalize (findF l1 n).isSome = is at *
  have HLB := hid (show ∀ W : World, W.heap[w.heap.size]? = some (.cells (bcells n.1).toArray 24 (0, 0)) → Sem.run P (loadCellsFrom ⟨w.heap.size, 0, none⟩ 0 h #[]) W = .ok (bcells n.1).toArray W from fun W hW => by rw [L.hh]; exact load_hash hW)
  clear hwh
  generalize bcells n.1 = N at *
  obtain ⟨wb, hwb⟩ : ∃ wb, wb = w.alloc (.cells N.toArray 24 (0, 0)) := ⟨_, rfl⟩
  have HNB := hid (show wb.heap[w.heap.size]? = some (.cells N.toArray 24 (0, 0)) by rw [hwb]; exact heap_alloc_new w _)
  have HWB := hid (show Below w.heap.size w wb by rw [hwb]; exact (Below.refl _ _).alloc (Nat.le_refl _) _)
  have zwb : wb.heap.size = w.heap.size + 1 := by rw [hwb]; simp
  have ZWB := hid zwb
  clear zwb
  go_enter C.f_segFinds, Tryz.ntmps3
  go_upto_region 3 with (fail)
  rw [← hwb]
  clear hwb
  have DW := hid (show ∀ W, Below wb.heap.size wb W → Below w.heap.size w W from fun W hW => HWB.out.trans (hW.mono HWB.out.size))
  have DN := hid (show ∀ W, Below wb.heap.size wb W → Sem.run P (loadCellsFrom ⟨w.heap.size, 0, none⟩ 0 h #[]) W = .ok N.toArray W from fun W hW => HLB.out W ((hW.block _ (by have := ZWB.out; omega)).trans HNB.out))
  go_cut [9, 10] (fun s9 s10 wx => ∃ g : Nat, s9 = .pointer (some ⟨g, 0, none⟩) ∧ s10 = .bool is ∧ Hid (wx.heap[g]? = some (.cells #[.int .i64 x0, .int .i64 y0, .int .i64 z0] 28 (0, 0))) ∧ Hid (Below wb.heap.size wb wx))
  case first =>
    have S0 := hid ((Below.refl wb.heap.size wb).drew)
    have S1 := hid (((Below.refl wb.heap.size wb).alloc (Nat.le_refl _) (.cells #[.int .i64 0, .int .i64 0, .int .i64 0] 28 (0, 0))).drew)
    have ld0 := DN.out _ S0.out
    have ld1 := DN.out _ S1.out
    go_region_law_o ((first
      | ((go_simp; go_at_fn 6; (with_reducible refine (CO.out wb.drew _ _ l1 (Y1.out.on (DW.out _ S0.out)) q1).mono ?_); rintro e w1 ⟨a5, c5, rfl, ho1, hb1⟩; have T1 := hid (show Below wb.heap.size wb w1 from S0.out.trans hb1); have ld2 := DN.out w1 T1.out; have ld3 := DN.out (w1.alloc (.cells #[.int .i64 0, .int .i64 0, .int .i64 0] 28 (0, 0))) (T1.out.alloc T1.out.size _); have EA := hid (show Es (fun _ => False) w1 _ l1 from Own.row ho1 (fun _ _ _ => id)); have EB := hid (EA.out.fr ((Fr.refl (fun _ => False) w1).alloc (.cells #[.int .i64 0, .int .i64 0, .int .i64 0] 28 (0, 0))) (fun _ _ h => h)); clear ho1 hb1))
      | ((go_simp; go_at_fn 6; (with_reducible refine (CO.out (wb.alloc (.cells #[.int .i64 0, .int .i64 0, .int .i64 0] 28 (0, 0))).drew _ _ l1 (Y1.out.on (DW.out _ S1.out)) q1).mono ?_); rintro e w1 ⟨a5, c5, rfl, ho1, hb1⟩; have T1 := hid (show Below wb.heap.size wb w1 from S1.out.trans (hb1.mono (by simp))); have ld2 := DN.out w1 T1.out; have EA := hid (show Es (fun _ => False) w1 _ l1 from Own.row ho1 (fun _ _ _ => id)); have ZC := hid ((hb1.block wb.heap.size (by simp)).trans (heap_alloc_new wb (.cells #[.int .i64 0, .int .i64 0, .int .i64 0] 28 (0, 0)))); clear ho1 hb1))
      | ((go_simp; go_at_fn 5; (with_reducible refine (CF.out w1 _ _ EA.out).mono ?_); rintro e w2 ⟨rfl, hb2⟩; have ZD := hid ((hb2.block wb.heap.size (lt_of_heap ZC.out)).trans ZC.out); have T2 := hid (T1.out.trans (hb2.mono T1.out.size)); have m0 := cell_of_heap ZD.out 0; have m1 := cell_of_heap ZD.out 1; have m2 := cell_of_heap ZD.out 2; have g0 := frozen_of_row w2 _ 0 _ _ ZD.out; have g1 := frozen_of_row w2 _ 1 _ _ ZD.out; have g2 := frozen_of_row w2 _ 2 _ _ ZD.out; clear hb2))
      | ((go_simp; go_at_fn 5; (with_reducible refine (CF.out (w1.alloc (.cells #[.int .i64 0, .int .i64 0, .int .i64 0] 28 (0, 0))) _ _ EB.out).mono ?_); rintro e w2 ⟨rfl, hb2⟩; have ZE := hid ((hb2.block w1.heap.size (by simp)).trans (heap_alloc_new w1 (.cells #[.int .i64 0, .int .i64 0, .int .i64 0] 28 (0, 0)))); have T2 := hid ((T1.out.alloc T1.out.size (.cells #[.int .i64 0, .int .i64 0, .int .i64 0] 28 (0, 0))).trans (hb2.mono (by have := T1.out.size; simp; omega))); have z1 := T1.out.size; have m0 := cell_of_heap ZE.out 0; have m1 := cell_of_heap ZE.out 1; have m2 := cell_of_heap ZE.out 2; have g0 := frozen_of_row w2 _ 0 _ _ ZE.out; have g1 := frozen_of_row w2 _ 1 _ _ ZE.out; have g2 := frozen_of_row w2 _ 2 _ _ ZE.out; clear hb2))
      | ((go_simp; go_at_fn 5; (with_reducible refine (CF.out w1 _ _ EA.out).mono ?_); rintro e w2 ⟨rfl, hb2⟩; have ZF := hid (T1.out.trans (hb2.mono T1.out.size)); clear hb2))))
    all_goals go_wp2
    all_goals go_meet
    all_goals
      case rel =>
        first
        | exact ⟨w2.heap.size, rfl, rfl, hid (heap_alloc_new w2 _), hid (ZF.out.alloc ZF.out.size _)⟩
        | exact ⟨w1.heap.size, rfl, rfl, hid (heap_store (heap_store (heap_store ZE.out 0 (.int .i64 x0)) 1 (.int .i64 y0)) 2 (.int .i64 z0)), hid (((T2.out.setCell (show wb.heap.size ≤ w1.heap.size from z1) _).setCell (show wb.heap.size ≤ w1.heap.size from z1) _).setCell (show wb.heap.size ≤ w1.heap.size from z1) _)⟩
        | exact ⟨wb.heap.size, rfl, rfl, hid (heap_store (heap_store (heap_store ZD.out 0 (.int .i64 x0)) 1 (.int .i64 y0)) 2 (.int .i64 z0)), hid (((T2.out.setCell (Nat.le_refl _) _).setCell (Nat.le_refl _) _).setCell (Nat.le_refl _) _)⟩
  case rest =>
    obtain ⟨g9, rfl, rfl, H9, B9⟩ := hcut
    have hz9 := B9.out.size
    have ld0 := DN.out _ B9.out
    have CRW := hid (CRF.out wc (DW.out _ B9.out))
    clear CRF
    have RL1 := hid (show ∀ W, Below wb.heap.size wb W → Row (fun _ => False) W (.slice a1 l1.length c1) l1.length k (l1.flatMap entC) from fun W hW => by rw [L.hk]; exact Y1.out.2 W (DW.out _ hW))
    have RL2 := hid (show ∀ W, Below wb.heap.size wb W → Row (fun _ => False) W (.slice a2 l2.length c2) l2.length k (l2.flatMap entC) from fun W hW => by rw [L.hk]; exact Y2.out.2 W (DW.out _ hW))
    have on1 := hid (flatE_one l1)
    have on2 := hid (flatE_one l2)
    have hapl := hid (show l1.flatMap entC ++ l2.flatMap entC = (l1 ++ l2).flatMap entC by simp)
    go_wp2_with (first
      | (go_at_fn 7; refine CRW.out.mono ?_; rintro e w1 ⟨rfl, hb1⟩; have T1 := hid (show Below wb.heap.size wb w1 from B9.out.trans (hb1.mono hz9)); have H91 := hid ((hb1.block g9 (lt_of_heap H9.out)).trans H9.out); have z1 := T1.out.size; clear hb1)
      | (at_builtin; refine wpl_append (S := fun _ => False) (base := w1.heap.size + 2) (n := 0) (xs := []) rfl rfl ER rfl (own_empty _ _ _ _ _) rfl (RL1.out _ ((T1.out.alloc T1.out.size (.cells #[.int .i64 x0, .int .i64 y0, .int .i64 z0] 33 (0, 0))).alloc (by simp; omega) (.cells #[] 61 (0, 0)))) on1.out (by omega) (by simp) ?_; intro v5 w5 ho5 hf5 hm5; simp only [Nat.zero_add, List.nil_append] at ho5; obtain ⟨a5, c5, rfl, _⟩ := ho5.len; have T5 := hid (show Below wb.heap.size wb w5 from Below.fr ((T1.out.alloc T1.out.size (.cells #[.int .i64 x0, .int .i64 y0, .int .i64 z0] 33 (0, 0))).alloc (by simp; omega) (.cells #[] 61 (0, 0))) hf5 (fun q hq hm => by obtain ⟨_, _, c', hv, hc⟩ := hm; injection hv with _ _ e3; omega)); have F5 := hid hf5; have Z5 := hid (show w1.heap.size + 2 ≤ w5.heap.size by have := hf5.size; simp at this; omega); have O5 := hid ho5; clear ho5 hf5 hm5)
      | (at_builtin; refine wpl_append (S := fun _ => False) (base := w1.heap.size + 2) (n := l1.length) (v := .slice a5 l1.length c5) rfl rfl ER rfl O5.out rfl (RL2.out _ T5.out) on2.out (by omega) Z5.out ?_; intro v6 w6 ho6 hf6 hm6; rw [hapl.out] at ho6; obtain ⟨a6, c6, rfl, _⟩ := ho6.len; have T6 := hid (show Below wb.heap.size wb w6 from Below.fr T5.out hf6 (fun q hq hm => by have := (Own.mine_ge O5.out hm).1; omega)); have F6 := hid hf6; have O6 := hid ho6; clear ho6 hf6 hm6))
    have hg9 := lt_of_heap H91.out
    have H96 := hid (show w6.heap[g9]? = some (.cells #[.int .i64 x0, .int .i64 y0, .int .i64 z0] 28 (0, 0)) from F6.out.heap (F5.out.heap ((heap_alloc_old _ _ (by simp; omega)).trans ((heap_alloc_old _ _ hg9).trans H91.out)) (fun hm => by obtain ⟨_, _, c', hv, hc⟩ := hm; injection hv with _ _ e3; omega)) (fun hm => by have := (Own.mine_ge O5.out hm).1; omega))
    have H116 := hid (show w6.heap[w1.heap.size]? = some (.cells #[.int .i64 x0, .int .i64 y0, .int .i64 z0] 33 (0, 0)) from F6.out.heap (F5.out.heap ((heap_alloc_old _ _ (by simp)).trans (heap_alloc_new w1 _)) (fun hm => by obtain ⟨_, _, c', hv, hc⟩ := hm; injection hv with _ _ e3; omega)) (fun hm => by have := (Own.mine_ge O5.out hm).1; omega))
    have Z1 := hid (Y1.out.on (DW.out _ T6.out))
    have Z2 := hid (Y2.out.on (DW.out _ T6.out))
    have Z3 := hid (Y3.out.on (DW.out _ T6.out))
    have hsl : (sortE (l1 ++ l2)).length ≤ 120 := by have := sortE_length (l1 ++ l2); rw [List.length_append] at this; omega
    have hfl : (l1.filter (keepF ps)).length ≤ 60 := by have := List.length_filter_le (keepF ps) l1; omega
    have CW := hid (fun W x y z => l10Where_ok L W x y z)
    have CJ : Hid (∀ (W : World) (v1 v2 : Value), Es (fun _ => False) W v1 l1 → Es (fun _ => False) W v2 l2 → Calls P 11 #[v1, v2] W (RetE' W (sortE (l1 ++ l2)))) := hid fun W v1 v2 h1 h2 => C.join W v1 v2 l1 l2 h1 h2 (by omega)
    have CBk : Hid (∀ (W : World) (base : Nat) (a : Option Addr) (c : Nat) (l : List Ent), OwnE W base (.slice a l.length c) l → l.length ≤ 1000 → Calls P 10 #[.slice a l.length c] W (RetR' W l)) := hid fun W base a c l ho hl => l10Back_ok L ER (S := fun _ => False) W _ l (Own.row ho (fun _ _ _ => id)) (by omega)
    have CSo : Hid (∀ W, Below w6.heap.size w6 W → Calls P 12 #[.slice a6 (l1.length + l2.length) c6] W (RetR' W (sortE (l1 ++ l2)))) := hid fun W hW => r10Sort_ok L R ER (S := fun _ => False) W _ (l1 ++ l2) (by
      have := (O6.out.row (S := fun _ => False) (fun _ _ _ => id)).fr (Fr.of_below hW : Fr (fun _ => False) _ _) (fun _ _ h => h)
      rw [L.hk] at this
      rw [Es, List.length_append]; exact this) (by rw [List.length_append]; omega)
    have CSm : Hid (∀ (W : World) (base base' : Nat) (a : Option Addr) (c : Nat) (a' : Option Addr) (c' : Nat) (l : List Ent), Own W base 61 35 (.slice a l.length c) l.length (l.flatMap entC) → Own W base' 61 35 (.slice a' l.length c') l.length (l.flatMap entC) → Calls P 9 #[.slice a l.length c, .slice a' l.length c'] W fun r w' => r = .returned (.bool true) ∧ Below W.heap.size W w') := hid fun W base base' a c a' c' l h1 h2 => r10Same_ok L C.gR C.eR (S := fun _ => False) (S' := fun _ => False) W l _ _ (h1.row (fun _ _ _ => id)) (h2.row (fun _ _ _ => id))
    have CWo : Hid (∀ W base a c, OwnE W base (.slice a l1.length c) l1 → Below w6.heap.size w6 W → Calls P 13 #[.slice a l1.length c, .slice a3 ps.length c3] W (RetE' W (l1.filter (keepF ps)))) := hid fun W base a c ho hW => C.without W _ _ l1 ps (Own.row ho (fun _ _ _ => id)) (Z3.out.2 W hW) (by omega)
    have CRWo : Hid (∀ W, Below w6.heap.size w6 W → Calls P 14 #[.slice a1 l1.length c1, .slice a3 ps.length c3] W (RetR' W (l1.filter (keepF ps)))) := hid fun W hW => r10Without_ok L R ER D.u_tInts W _ _ l1 ps (Z1.out.2 W hW) (Z3.out.2 W hW) (by omega)
    have CPk : Hid (∀ W base a c, OwnE W base (.slice a l1.length c) l1 → Calls P 16 #[.slice a l1.length c] W (RetIs W (packsF l1))) := hid fun W base a c ho => segPacks_ok L D Q (S := fun _ => False) W _ l1 (Own.row ho (fun _ _ _ => id)) (by omega)
    have CRP : Hid (∀ W, Below w6.heap.size w6 W → Calls P 17 #[.slice a1 l1.length c1] W (RetIs W (packsF l1))) := hid fun W hW => r10Packs_ok L R Q.E W _ l1 (Z1.out.2 W hW) (by omega)
    have CNu : Hid (∀ (W : World) (base base' : Nat) (a : Option Addr) (c : Nat) (a' : Option Addr) (c' : Nat) (l : List Int), Own W base 3 1 (.slice a l.length c) l.length (icells l) → Own W base' 3 1 (.slice a' l.length c') l.length (icells l) → Calls P 15 #[.slice a l.length c, .slice a' l.length c'] W fun r w' => r = .returned (.bool true) ∧ Below W.heap.size W w') := hid fun W base base' a c a' c' l h1 h2 => r08Numbers_ok L D (S := fun _ => False) (S' := fun _ => False) W l _ _ (h1.row (fun _ _ _ => id)) (h2.row (fun _ _ _ => id))
    have CAl := hid C.alive
    have n0 : w6.drew.cell? ⟨g9, 0, none⟩ = some (.int .i64 x0) := cell_of_heap (w := w6.drew) H96.out 0
    have n1 : w6.drew.cell? ⟨g9, 1, none⟩ = some (.int .i64 y0) := cell_of_heap (w := w6.drew) H96.out 1
    have n2 : w6.drew.cell? ⟨g9, 2, none⟩ = some (.int .i64 z0) := cell_of_heap (w := w6.drew) H96.out 2
    have p0 : w6.drew.cell? ⟨w1.heap.size, 0, none⟩ = some (.int .i64 x0) := cell_of_heap (w := w6.drew) H116.out 0
    have p1 : w6.drew.cell? ⟨w1.heap.size, 1, none⟩ = some (.int .i64 y0) := cell_of_heap (w := w6.drew) H116.out 1
    have p2 : w6.drew.cell? ⟨w1.heap.size, 2, none⟩ = some (.int .i64 z0) := cell_of_heap (w := w6.drew) H116.out 2
    generalize sortE (l1 ++ l2) = sj at *
    generalize l1.filter (keepF ps) = fk at *
    generalize packsF l1 = pk at *
    have S6 := hid ((Below.refl w6.heap.size w6).drew)
    have LD9 := hid (show ∀ v, Below w6.heap.size w6 v → (Instr.loadAt 28 (.pointer (some ⟨g9, 0, none⟩))).run P v = .ok (.agg #[.int .i64 x0, .int .i64 y0, .int .i64 z0]) v from fun v hv => run_loadAt_mid v g9 0 28 [.int .i64 x0, .int .i64 y0, .int .i64 z0] _ (World.rangeAt_of_block ((hv.block _ (lt_of_heap H96.out)).trans H96.out) 0 3) u_tWhere rfl C.iW)
    have LD11 := hid (show ∀ v, Below w6.heap.size w6 v → (Instr.loadAt 33 (.pointer (some ⟨w1.heap.size, 0, none⟩))).run P v = .ok (.agg #[.int .i64 x0, .int .i64 y0, .int .i64 z0]) v from fun v hv => run_loadAt_mid v w1.heap.size 0 33 [.int .i64 x0, .int .i64 y0, .int .i64 z0] _ (World.rangeAt_of_block ((hv.block _ (lt_of_heap H116.out)).trans H116.out) 0 3) u_tRWhere rfl C.iR)
    have hEG := hid (show ∀ v x y, (eqGuard .eql 33 x y (.agg #[.int .i64 x0, .int .i64 y0, .int .i64 z0]) (.agg #[.int .i64 x0, .int .i64 y0, .int .i64 z0])).run P v = .ok () v from fun v x y => by go_simp)
    have hEB := hid (show ∀ v, (Go.binOp .eql 33 (.agg #[.int .i64 x0, .int .i64 y0, .int .i64 z0]) (.agg #[.int .i64 x0, .int .i64 y0, .int .i64 z0])).run P v = .ok (.bool true) v from fun v => by go_simp)
    have hBG := hid (show ∀ v x y, (eqGuard .eql 4 x y (.bool is) (.bool is)).run P v = .ok () v from fun v x y => by go_simp)
    have hBB := hid (show ∀ v, (Go.binOp .eql 4 (.bool is) (.bool is)).run P v = .ok (.bool true) v from fun v => by go_simp)
    refine rg_start mixed ?_
    apply share2 (H := Below w6.heap.size w6)
    · intro tail
      refine rg_pair [0, 2] (by kernel_rfl) (by simp) ?_
      intro i hi
      simp only [List.mem_cons, List.not_mem_nil, or_false] at hi
      rcases hi with rfl | rfl
      · refine rg_load 46 28 (.tmp 9) (.pointer (some ⟨g9, 0, none⟩)) (.agg #[.int .i64 x0, .int .i64 y0, .int .i64 z0]) (by kernel_rfl) (by kernel_rfl) (LD9.out _ S6.out) ?_
        refine rg_pair [1, 2] (by kernel_rfl) (by simp) ?_
        intro i hi
        simp only [List.mem_cons, List.not_mem_nil, or_false] at hi
        rcases hi with rfl | rfl
        · refine rg_call 47 8 [.tmp 46] [.agg #[.int .i64 x0, .int .i64 y0, .int .i64 z0]] (by kernel_rfl) (by kernel_rfl) e_l10Where (CW.out _ _ _ _) ?_
          rintro e v1 ⟨rfl, hg1⟩
          have J1 : Below w6.heap.size w6 v1 := S6.out.trans hg1.below
          refine ⟨_, rfl, ?_⟩
          refine rg1 2 (by kernel_rfl) ?_
          refine rg_load 48 33 (.tmp 11) (.pointer (some ⟨w1.heap.size, 0, none⟩)) (.agg #[.int .i64 x0, .int .i64 y0, .int .i64 z0]) (by kernel_rfl) (by kernel_rfl) (LD11.out _ J1) ?_
          exact tail _ J1
        · refine rg_load 48 33 (.tmp 11) (.pointer (some ⟨w1.heap.size, 0, none⟩)) (.agg #[.int .i64 x0, .int .i64 y0, .int .i64 z0]) (by kernel_rfl) (by kernel_rfl) (LD11.out _ S6.out) ?_
          refine rg1 1 (by kernel_rfl) ?_
          refine rg_call 47 8 [.tmp 46] [.agg #[.int .i64 x0, .int .i64 y0, .int .i64 z0]] (by kernel_rfl) (by kernel_rfl) e_l10Where (CW.out _ _ _ _) ?_
          rintro e v1 ⟨rfl, hg1⟩
          have J1 : Below w6.heap.size w6 v1 := S6.out.trans hg1.below
          refine ⟨_, rfl, ?_⟩
          exact tail _ J1
      · refine rg_load 48 33 (.tmp 11) (.pointer (some ⟨w1.heap.size, 0, none⟩)) (.agg #[.int .i64 x0, .int .i64 y0, .int .i64 z0]) (by kernel_rfl) (by kernel_rfl) (LD11.out _ S6.out) ?_
        refine rg1 0 (by kernel_rfl) ?_
        refine rg_load 46 28 (.tmp 9) (.pointer (some ⟨g9, 0, none⟩)) (.agg #[.int .i64 x0, .int .i64 y0, .int .i64 z0]) (by kernel_rfl) (by kernel_rfl) (LD9.out _ S6.out) ?_
        refine rg1 1 (by kernel_rfl) ?_
        refine rg_call 47 8 [.tmp 46] [.agg #[.int .i64 x0, .int .i64 y0, .int .i64 z0]] (by kernel_rfl) (by kernel_rfl) e_l10Where (CW.out _ _ _ _) ?_
        rintro e v1 ⟨rfl, hg1⟩
        have J1 : Below w6.heap.size w6 v1 := S6.out.trans hg1.below
        refine ⟨_, rfl, ?_⟩
        exact tail _ J1
    intro v1 j1
    have J1 := hid j1; clear j1
    refine rg1 3 (by kernel_rfl) ?_
    refine rg_bin 49 .eql 33 (.tmp 47) (.tmp 48) (.agg #[.int .i64 x0, .int .i64 y0, .int .i64 z0]) (.agg #[.int .i64 x0, .int .i64 y0, .int .i64 z0]) (.bool true) (by kernel_rfl) (by kernel_rfl) (by kernel_rfl) (hEG.out _ _ _) (hEB.out _) ?_
    refine rgt_move 4 50 (.tmp 49) (.bool true) (by kernel_rfl) (by kernel_rfl) (by kernel_rfl) (by kernel_rfl) (by exact fun _ _ _ h => h) (by kernel_rfl) ?_
    refine rgt_move 5 51 (.tmp 10) (.bool is) (by kernel_rfl) (by kernel_rfl) (by kernel_rfl) (by kernel_rfl) (by exact fun _ _ _ h => h) (by kernel_rfl) ?_
    refine rgt_move 6 52 (.tmp 12) (.bool is) (by kernel_rfl) (by kernel_rfl) (by kernel_rfl) (by kernel_rfl) (by exact fun _ _ _ h => h) (by kernel_rfl) ?_
    refine rg1 7 (by kernel_rfl) ?_
    refine rg_bin 53 .eql 4 (.tmp 51) (.tmp 52) (.bool is) (.bool is) (.bool true) (by kernel_rfl) (by kernel_rfl) (by kernel_rfl) (hBG.out _ _ _) (hBB.out _) ?_
    refine rg1 8 (by kernel_rfl) ?_
    refine rg_pick 54 (.tmp 50, .tmp 53, .const (.bool false)) true (.bool true) (by kernel_rfl) (by kernel_rfl) (by kernel_rfl) ?_
    refine rgt_move 9 55 (.tmp 54) (.bool true) (by kernel_rfl) (by kernel_rfl) (by kernel_rfl) (by kernel_rfl) (by exact fun _ _ _ h => h) (by kernel_rfl) ?_
    refine rgt_move 10 56 (.tmp 0) (.slice a1 l1.length c1) (by kernel_rfl) (by kernel_rfl) (by kernel_rfl) (by kernel_rfl) (by exact fun _ _ _ h => h) (by kernel_rfl) ?_
    refine rgt_move 12 58 (.tmp 1) (.slice a2 l2.length c2) (by kernel_rfl) (by kernel_rfl) (by kernel_rfl) (by kernel_rfl) (by exact fun _ _ _ h => h) (by kernel_rfl) ?_
    refine rgt_move 16 62 (.tmp 13) (.slice a6 (l1.length + l2.length) c6) (by kernel_rfl) (by kernel_rfl) (by kernel_rfl) (by kernel_rfl) (by exact fun _ _ _ h => h) (by kernel_rfl) ?_
    refine rg1 11 (by kernel_rfl) ?_
    refine rg_call 57 6 [.tmp 56] [.slice a1 l1.length c1] (by kernel_rfl) (by kernel_rfl) e_l10Own (CO.out v1 _ _ l1 (Z1.out.on J1.out) q1) ?_
    rintro e v2 ⟨a21, c21, rfl, ho2, hb2⟩
    have O2 := hid ho2; have J2 := hid (Below.below J1.out hb2); clear ho2 hb2
    refine ⟨_, rfl, ?_⟩
    refine rg1 13 (by kernel_rfl) ?_
    refine rg_call 59 6 [.tmp 58] [.slice a2 l2.length c2] (by kernel_rfl) (by kernel_rfl) e_l10Own (CO.out v2 _ _ l2 (Z2.out.on J2.out) q2) ?_
    rintro e v3 ⟨a31, c31, rfl, ho3, hb3⟩
    have O3 := hid ho3; have O23 := hid (Own.fr O2.out (Fr.of_below hb3 : Fr (fun _ => False) _ _) (fun _ _ => id)); have J3 := hid (Below.below J2.out hb3); clear ho3 hb3
    refine ⟨_, rfl, ?_⟩
    refine rg1 14 (by kernel_rfl) ?_
    refine rg_call 60 11 [.tmp 57, .tmp 59] [.slice a21 l1.length c21, .slice a31 l2.length c31] (by kernel_rfl) (by kernel_rfl) e_segJoin (CJ.out v3 _ _ (Own.row O23.out (fun _ _ _ => id)) (Own.row O3.out (fun _ _ _ => id))) ?_
    rintro e v4 ⟨a41, c41, rfl, ho4, hb4⟩
    have O4 := hid ho4; have J4 := hid (Below.below J3.out hb4); clear ho4 hb4
    refine ⟨_, rfl, ?_⟩
    refine rg1 15 (by kernel_rfl) ?_
    refine rg_call 61 10 [.tmp 60] [.slice a41 sj.length c41] (by kernel_rfl) (by kernel_rfl) e_l10Back (CBk.out v4 _ _ _ sj O4.out (by omega)) ?_
    rintro e v5 ⟨a51, c51, rfl, ho5, hb5⟩
    have O51 := hid ho5; have J5 := hid (Below.below J4.out hb5); clear ho5 hb5
    refine ⟨_, rfl, ?_⟩
    refine rg1 17 (by kernel_rfl) ?_
    refine rg_call 63 12 [.tmp 62] [.slice a6 (l1.length + l2.length) c6] (by kernel_rfl) (by kernel_rfl) e_r10Sort (CSo.out _ J5.out) ?_
    rintro e v6 ⟨a61, c61, rfl, ho6, hb6⟩
    have O61 := hid ho6; have O56 := hid (Own.fr O51.out (Fr.of_below hb6 : Fr (fun _ => False) _ _) (fun _ _ => id)); have J6 := hid (Below.below J5.out hb6); clear ho6 hb6
    refine ⟨_, rfl, ?_⟩
    refine rg1 18 (by kernel_rfl) ?_
    refine rg_call 64 9 [.tmp 61, .tmp 63] [.slice a51 sj.length c51, .slice a61 sj.length c61] (by kernel_rfl) (by kernel_rfl) e_r10Same (CSm.out v6 _ _ _ _ _ _ sj O56.out O61.out) ?_
    rintro e v7 ⟨rfl, hb7⟩
    have J7 := hid (Below.below J6.out hb7); clear hb7
    refine ⟨_, rfl, ?_⟩
    refine rg1 19 (by kernel_rfl) ?_
    refine rg_pick 65 (.tmp 55, .tmp 64, .const (.bool false)) true (.bool true) (by kernel_rfl) (by kernel_rfl) (by kernel_rfl) ?_
    refine rgt_move 20 66 (.tmp 65) (.bool true) (by kernel_rfl) (by kernel_rfl) (by kernel_rfl) (by kernel_rfl) (by exact fun _ _ _ h => h) (by kernel_rfl) ?_
    refine rgt_move 21 67 (.tmp 0) (.slice a1 l1.length c1) (by kernel_rfl) (by kernel_rfl) (by kernel_rfl) (by kernel_rfl) (by exact fun _ _ _ h => h) (by kernel_rfl) ?_
    refine rgt_move 23 69 (.tmp 3) (.slice a3 ps.length c3) (by kernel_rfl) (by kernel_rfl) (by kernel_rfl) (by kernel_rfl) (by exact fun _ _ _ h => h) (by kernel_rfl) ?_
    refine rgt_move 26 72 (.tmp 0) (.slice a1 l1.length c1) (by kernel_rfl) (by kernel_rfl) (by kernel_rfl) (by kernel_rfl) (by exact fun _ _ _ h => h) (by kernel_rfl) ?_
    refine rgt_move 27 73 (.tmp 3) (.slice a3 ps.length c3) (by kernel_rfl) (by kernel_rfl) (by kernel_rfl) (by kernel_rfl) (by exact fun _ _ _ h => h) (by kernel_rfl) ?_
    refine rg1 22 (by kernel_rfl) ?_
    refine rg_call 68 6 [.tmp 67] [.slice a1 l1.length c1] (by kernel_rfl) (by kernel_rfl) e_l10Own (CO.out v7 _ _ l1 (Z1.out.on J7.out) q1) ?_
    rintro e v8 ⟨a81, c81, rfl, ho8, hb8⟩
    have O8 := hid ho8; have J8 := hid (Below.below J7.out hb8); clear ho8 hb8
    refine ⟨_, rfl, ?_⟩
    refine rg1 24 (by kernel_rfl) ?_
    refine rg_call 70 13 [.tmp 68, .tmp 69] [.slice a81 l1.length c81, .slice a3 ps.length c3] (by kernel_rfl) (by kernel_rfl) e_segWithout (CWo.out v8 _ _ _ O8.out J8.out) ?_
    rintro e v9 ⟨a91, c91, rfl, ho9, hb9⟩
    have O9 := hid ho9; have J9 := hid (Below.below J8.out hb9); clear ho9 hb9
    refine ⟨_, rfl, ?_⟩
    refine rg1 25 (by kernel_rfl) ?_
    refine rg_call 71 10 [.tmp 70] [.slice a91 fk.length c91] (by kernel_rfl) (by kernel_rfl) e_l10Back (CBk.out v9 _ _ _ fk O9.out (by omega)) ?_
    rintro e v10 ⟨a101, c101, rfl, ho10, hb10⟩
    have O10 := hid ho10; have J10 := hid (Below.below J9.out hb10); clear ho10 hb10
    refine ⟨_, rfl, ?_⟩
    refine rg1 28 (by kernel_rfl) ?_
    refine rg_call 74 14 [.tmp 72, .tmp 73] [.slice a1 l1.length c1, .slice a3 ps.length c3] (by kernel_rfl) (by kernel_rfl) e_r10Without (CRWo.out _ J10.out) ?_
    rintro e v11 ⟨a111, c111, rfl, ho11, hb11⟩
    have O11 := hid ho11; have O101 := hid (Own.fr O10.out (Fr.of_below hb11 : Fr (fun _ => False) _ _) (fun _ _ => id)); have J11 := hid (Below.below J10.out hb11); clear ho11 hb11
    refine ⟨_, rfl, ?_⟩
    refine rg1 29 (by kernel_rfl) ?_
    refine rg_call 75 9 [.tmp 71, .tmp 74] [.slice a101 fk.length c101, .slice a111 fk.length c111] (by kernel_rfl) (by kernel_rfl) e_r10Same (CSm.out v11 _ _ _ _ _ _ fk O101.out O11.out) ?_
    rintro e v12 ⟨rfl, hb12⟩
    have J12 := hid (Below.below J11.out hb12); clear hb12
    refine ⟨_, rfl, ?_⟩
    refine rg1 30 (by kernel_rfl) ?_
    refine rg_pick 76 (.tmp 66, .tmp 75, .const (.bool false)) true (.bool true) (by kernel_rfl) (by kernel_rfl) (by kernel_rfl) ?_
    refine rgt_move 31 77 (.tmp 76) (.bool true) (by kernel_rfl) (by kernel_rfl) (by kernel_rfl) (by kernel_rfl) (by exact fun _ _ _ h => h) (by kernel_rfl) ?_
    refine rgt_move 32 78 (.tmp 0) (.slice a1 l1.length c1) (by kernel_rfl) (by kernel_rfl) (by kernel_rfl) (by kernel_rfl) (by exact fun _ _ _ h => h) (by kernel_rfl) ?_
    refine rgt_move 35 81 (.tmp 0) (.slice a1 l1.length c1) (by kernel_rfl) (by kernel_rfl) (by kernel_rfl) (by kernel_rfl) (by exact fun _ _ _ h => h) (by kernel_rfl) ?_
    refine rg1 33 (by kernel_rfl) ?_
    refine rg_call 79 6 [.tmp 78] [.slice a1 l1.length c1] (by kernel_rfl) (by kernel_rfl) e_l10Own (CO.out v12 _ _ l1 (Z1.out.on J12.out) q1) ?_
    rintro e v13 ⟨a131, c131, rfl, ho13, hb13⟩
    have O13 := hid ho13; have J13 := hid (Below.below J12.out hb13); clear ho13 hb13
    refine ⟨_, rfl, ?_⟩
    refine rg1 34 (by kernel_rfl) ?_
    refine rg_call 80 16 [.tmp 79] [.slice a131 l1.length c131] (by kernel_rfl) (by kernel_rfl) e_segPacks (CPk.out v13 _ _ _ O13.out) ?_
    rintro e v14 ⟨a141, c141, rfl, ho14, hb14⟩
    have O14 := hid ho14; have J14 := hid (Below.below J13.out hb14); clear ho14 hb14
    refine ⟨_, rfl, ?_⟩
    refine rg1 36 (by kernel_rfl) ?_
    refine rg_call 82 17 [.tmp 81] [.slice a1 l1.length c1] (by kernel_rfl) (by kernel_rfl) e_r10Packs (CRP.out _ J14.out) ?_
    rintro e v15 ⟨a151, c151, rfl, ho15, hb15⟩
    have O15 := hid ho15; have O145 := hid (Own.fr O14.out (Fr.of_below hb15 : Fr (fun _ => False) _ _) (fun _ _ => id)); have J15 := hid (Below.below J14.out hb15); clear ho15 hb15
    refine ⟨_, rfl, ?_⟩
    refine rg1 37 (by kernel_rfl) ?_
    refine rg_call 83 15 [.tmp 80, .tmp 82] [.slice a141 pk.length c141, .slice a151 pk.length c151] (by kernel_rfl) (by kernel_rfl) e_r08Numbers (CNu.out v15 _ _ _ _ _ _ pk O145.out O15.out) ?_
    rintro e v16 ⟨rfl, hb16⟩
    have J16 := hid (Below.below J15.out hb16); clear hb16
    refine ⟨_, rfl, ?_⟩
    refine rg1 38 (by kernel_rfl) ?_
    refine rg_pick 84 (.tmp 77, .tmp 83, .const (.bool false)) true (.bool true) (by kernel_rfl) (by kernel_rfl) (by kernel_rfl) ?_
    refine rgt_move 39 85 (.tmp 84) (.bool true) (by kernel_rfl) (by kernel_rfl) (by kernel_rfl) (by kernel_rfl) (by exact fun _ _ _ h => h) (by kernel_rfl) ?_
    refine rg1 40 (by kernel_rfl) ?_
    refine rg_call 86 4 [] [] (by kernel_rfl) (by kernel_rfl) e_l10alive (CAl.out _) ?_
    rintro e v17 ⟨rfl, hb17⟩
    have J17 := hid (Below.below J16.out hb17); clear hb17
    refine ⟨_, rfl, ?_⟩
    refine rg1 41 (by kernel_rfl) ?_
    refine rg_pick 87 (.tmp 85, .tmp 86, .const (.bool false)) true (.bool true) (by kernel_rfl) (by kernel_rfl) (by kernel_rfl) ?_
    refine rg1 42 (by kernel_rfl) ?_
    refine rg_assign 8 (.tmp 87) (.bool true) (by kernel_rfl) (by kernel_rfl) ?_
    refine rg_done (by kernel_rfl) ?_
    go_wp2
    go_ret
    exact ⟨rfl, Below.below (DW.out _ T6.out) J17.out⟩
end Go.Proofs.YtdbpkiddiehliaaGreat
