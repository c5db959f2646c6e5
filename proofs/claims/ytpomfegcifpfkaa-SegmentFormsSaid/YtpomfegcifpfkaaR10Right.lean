/- The document's Less of two names, and Right: over a program that is a variable. -/
import Derived.Test.YtpomfegcifpfkaaSegRight2
import Derived.BigQuiet
namespace Go.Proofs.Ytpomfegcifpfkaa
open Go Go.RowKit Go.Sort
/-- What the document's functions over entries lean on of the program. -/
structure SR (P : Program) : Prop where
  f_r03Less : P.funcs[34]? = some Try.f34
  f_r10Right : P.funcs[12]? = some Try.f12
  f_r10Sort : P.funcs[16]? = some Try.f16
  f_r10Put : P.funcs[8]? = some Try.f8
  f_r10Get : P.funcs[10]? = some Try.f10
  f_r10small : P.funcs[31]? = some Try.f31
  f_r10number : P.funcs[23]? = some Try.f23
theorem sr : SR Try.prog := {
  f_r03Less := Try.func34
  f_r10Right := Try.func12
  f_r10Sort := Try.func16
  f_r10Put := Try.func8
  f_r10Get := Try.func10
  f_r10small := Try.func31
  f_r10number := Try.func23
  }
theorem ltL_at : ∀ (i : Nat) (a b : List UInt8), (∀ j, j < i → a[j]? = b[j]?) → ∀ u v, a[i]? = some u → b[i]? = some v → u ≠ v → ltL a b = decide (u.toNat < v.toNat)
  | 0, x :: a, y :: b, _, u, v, hu, hv, hn => by
    simp only [List.getElem?_cons_zero, Option.some.injEq] at hu hv
    subst hu hv
    rw [ltL, if_neg hn]
    apply Bool.eq_iff_iff.2
    simp [UInt8.lt_iff_toNat_lt]
  | i + 1, x :: a, y :: b, h, u, v, hu, hv, hn => by
    have h0 := h 0 (by omega)
    simp only [List.getElem?_cons_zero, Option.some.injEq] at h0
    subst h0
    rw [ltL, if_pos rfl]
    exact ltL_at i a b (fun j hj => by have := h (j + 1) (by omega); simpa using this) u v (by simpa using hu) (by simpa using hv) hn
  | _, [], _, _, u, v, hu, _, _ => by simp at hu
  | _, _ :: _, [], _, u, v, _, hv, _ => by simp at hv
variable {P : Program} {k h : Nat}
set_option maxHeartbeats 2000000 in
set_option maxRecDepth 100000 in
theorem r03Less_ok (L : SG P k h) (R : SR P) (w : World) (x y : Nm) : Calls P 34 #[.agg (bcells x.1).toArray, .agg (bcells y.1).toArray] w fun e w' => e = .returned (.bool (ltL x.1 y.1)) ∧ Grown w w' := by
  have u_tUnit := L.u_tUnit; have r_tUnit := L.r_tUnit; have a_tUnit := L.a_tUnit; have z_tUnit := L.z_tUnit; have v_tUnit := L.v_tUnit; have u_tInt := L.u_tInt; have r_tInt := L.r_tInt; have a_tInt := L.a_tInt; have z_tInt := L.z_tInt; have v_tInt := L.v_tInt; have u_tBool := L.u_tBool; have r_tBool := L.r_tBool; have a_tBool := L.a_tBool; have z_tBool := L.z_tBool; have v_tBool := L.v_tBool; have u_tHash := L.u_tHash; have r_tHash := L.r_tHash; have a_tHash := L.a_tHash; have z_tHash := L.z_tHash; have v_tHash := L.v_tHash; have u_tByte := L.u_tByte; have r_tByte := L.r_tByte; have a_tByte := L.a_tByte; have z_tByte := L.z_tByte; have v_tByte := L.v_tByte
  have mixed := L.mixed
  obtain ⟨xs, hx32⟩ := x
  obtain ⟨ys, hy32⟩ := y
  show Calls P 34 #[.agg (bcells xs).toArray, .agg (bcells ys).toArray] w fun e w' => e = .returned (.bool (ltL xs ys)) ∧ Grown w w'
  have nX : (bcells xs).length = h := by rw [L.hh, bcells_length, hx32]
  have nY : (bcells ys).length = h := by rw [L.hh, bcells_length, hy32]
  have HB := hid (two_boxes w (.cells (bcells xs).toArray 46 (0, 0)) (.cells (bcells ys).toArray 46 (0, 0)))
  have HXC := hid (show ∀ (i : Nat) (u : UInt8), xs[i]? = some u → (bcells xs).toArray[i]? = some (Value.int .u8 (u.toNat : Int)) from fun i u hu => by rw [List.getElem?_toArray]; unfold bcells; rw [List.getElem?_map, hu]; rfl)
  have HYC := hid (show ∀ (i : Nat) (u : UInt8), ys[i]? = some u → (bcells ys).toArray[i]? = some (Value.int .u8 (u.toNat : Int)) from fun i u hu => by rw [List.getElem?_toArray]; unfold bcells; rw [List.getElem?_map, hu]; rfl)
  generalize bcells xs = X at *
  generalize bcells ys = Y at *
  go_enter R.f_r03Less, Try.ntmps34
  go_wp2
  obtain ⟨wb, hwb⟩ : ∃ wb, wb = (w.alloc (.cells X.toArray 46 (0, 0))).alloc (.cells Y.toArray 46 (0, 0)) := ⟨_, rfl⟩
  have HGB := hid (show Grown w wb by rw [hwb]; exact ((Grown.refl w).alloc _).alloc _)
  rw [← hwb]
  rw [← hwb] at HB
  clear hwb
  go_loopg [5] 32 (fun kx s5 wr => ∃ i : Nat, s5 = .int .i64 i ∧ i ≤ 32 ∧ 32 - i ≤ kx ∧ Hid (∀ j, j < i → xs[j]? = ys[j]?) ∧ Hid (Grown wb wr))
  case atStart => exact ⟨0, rfl, by omega, by omega, hid (fun j hj => by omega), hid (Grown.refl _)⟩
  case round =>
    obtain ⟨i, rfl, hi, hkx, HE, HG⟩ := hrel
    by_cases hlt : i < 32
    · obtain ⟨u, hu⟩ : ∃ u, xs[i]? = some u := ⟨_, List.getElem?_eq_getElem (by omega)⟩
      obtain ⟨v, hv⟩ : ∃ v, ys[i]? = some v := ⟨_, List.getElem?_eq_getElem (by omega)⟩
      have k0 : wr.cell? ⟨w.heap.size, i, none⟩ = some (.int .u8 (u.toNat : Int)) := (cell_of_heap ((HG.out.fr (fun _ => False)).heap HB.out.1 id) i).trans (HXC.out i u hu)
      have k1 : wr.cell? ⟨w.heap.size + 1, i, none⟩ = some (.int .u8 (v.toNat : Int)) := (cell_of_heap ((HG.out.fr (fun _ => False)).heap HB.out.2 id) i).trans (HYC.out i v hv)
      have HU := hid (And.intro hu hv)
      clear hu hv
      by_cases huv : u = v
      · have hd : ((u.toNat : Int) != (v.toNat : Int)) = false := by rw [huv]; simp
        have HUV := hid huv
        clear huv
        go_wp2_with fail
        refine wp_region_quiet_lit (by assumption) (by kernel_rfl) ?_
        repeat (first | go_big_quiet_step (fail) | quiet_step (fail))
        refine wpQuiet_nil ?_
        intro _ hw'
        obtain ⟨nq, hw''⟩ := hw'
        subst hw''
        go_wp2
        go_roundg (32 - (i + 1))
        case measure => omega
        case rel => exact ⟨i + 1, by go_num, hlt, Nat.le_refl _, hid (fun j hj => by
          by_cases hji : j < i
          · exact HE.out j hji
          · obtain rfl : j = i := by omega
            rw [HU.out.1, HU.out.2, HUV.out]), hid (HG.out.drewN nq)⟩
      · have hd : ((u.toNat : Int) != (v.toNat : Int)) = true := by
          have : u.toNat ≠ v.toNat := fun h => huv (UInt8.toNat_inj.1 h)
          simp; omega
        have HL := hid (ltL_at i xs ys HE.out u v HU.out.1 HU.out.2 huv)
        clear huv
        go_wp2_with fail
        refine wp_region_quiet_lit (by assumption) (by kernel_rfl) ?_
        repeat (first | go_big_quiet_step (fail) | quiet_step (fail))
        refine wpQuiet_nil ?_
        intro _ hw'
        obtain ⟨nq, hw''⟩ := hw'
        subst hw''
        go_wp2_with fail
        refine wp_region_quiet_lit (by assumption) (by kernel_rfl) ?_
        repeat (first | go_big_quiet_step (fail) | quiet_step (fail))
        refine wpQuiet_nil ?_
        intro _ hw'
        obtain ⟨nq, hw''⟩ := hw'
        subst hw''
        go_wp2
        go_ret
        exact ⟨by rw [HL.out]; rfl, HGB.out.trans ((HG.out.drewN _).drewN _)⟩
    · obtain rfl : i = 32 := by omega
      have HL := hid (show ltL xs ys = false by
        have : xs = ys := by
          apply List.ext_getElem?
          intro j
          by_cases hj : j < 32
          · exact HE.out j hj
          · rw [List.getElem?_eq_none (by omega), List.getElem?_eq_none (by omega)]
        rw [this, ltL_irrefl])
      go_wp2
      go_ret
      exact ⟨by rw [HL.out]; rfl, HGB.out.trans HG.out⟩
set_option maxHeartbeats 8000000 in
set_option maxRecDepth 100000 in
theorem r10Right_ok (L : SG P k h) (R : SR P) {S : Nat → Prop} (w : World) (v : Value) (l : List Ent) (hv : Es S w v l) : Calls P 12 #[v] w fun r w' => r = .returned (.bool (rightL l)) ∧ Grown w w' := by
  obtain ⟨a, c, rfl, hl1, hl2, hl3, _, h4⟩ := hv.cases
  unfold maxLen at hl3
  have u_tUnit := L.u_tUnit; have r_tUnit := L.r_tUnit; have a_tUnit := L.a_tUnit; have z_tUnit := L.z_tUnit; have v_tUnit := L.v_tUnit; have u_tInt := L.u_tInt; have r_tInt := L.r_tInt; have a_tInt := L.a_tInt; have z_tInt := L.z_tInt; have v_tInt := L.v_tInt; have u_tBool := L.u_tBool; have r_tBool := L.r_tBool; have a_tBool := L.a_tBool; have z_tBool := L.z_tBool; have v_tBool := L.v_tBool; have u_tHash := L.u_tHash; have r_tHash := L.r_tHash; have a_tHash := L.a_tHash; have z_tHash := L.z_tHash; have v_tHash := L.v_tHash; have u_tRWhere := L.u_tRWhere; have r_tRWhere := L.r_tRWhere; have a_tRWhere := L.a_tRWhere; have z_tRWhere := L.z_tRWhere; have v_tRWhere := L.v_tRWhere; have u_tREnt := L.u_tREnt; have r_tREnt := L.r_tREnt; have a_tREnt := L.a_tREnt; have z_tREnt := L.z_tREnt; have v_tREnt := L.v_tREnt; have u_tREnts := L.u_tREnts; have r_tREnts := L.r_tREnts; have a_tREnts := L.a_tREnts; have z_tREnts := L.z_tREnts; have v_tREnts := L.v_tREnts
  have mixed := L.mixed
  have e_r03Less : ∀ args w, (callFunc 34 args).run P w = .ok (.enter 34 args) w := enters_of R.f_r03Less rfl rfl
  have R2 := hid (fun W x y => r03Less_ok L R W x y)
  have H4 := hid h4
  clear h4 hv
  have HN : Hid (∀ b, b = rightL l → Ending.returned (.bool b) = .returned (.bool (rightL l))) := hid fun b hb => by rw [hb]
  go_enter R.f_r10Right, Try.ntmps12
  go_wp2
  go_loopg [3] l.length (fun kx s3 wr => ∃ i : Nat, s3 = .int .i64 i ∧ i ≤ l.length ∧ l.length - i ≤ kx ∧ Hid (rightTo l i = true) ∧ Hid (Grown w wr))
  case atStart => exact ⟨0, rfl, Nat.zero_le _, Nat.le_refl _, hid rfl, hid (Grown.refl w)⟩
  case round =>
    obtain ⟨i, rfl, hi, hkx, HT, HG⟩ := hrel
    by_cases hlt : i < l.length
    · obtain ⟨b, off, rfl, hb, hS, hcell⟩ := H4.out.resolve_left (fun e => by subst e; simp at hlt)
      obtain ⟨e, he⟩ : ∃ e, l[i]? = some e := ⟨l[i], by simp [hlt]⟩
      have hge : l[i]! = e := by rw [getElem!_pos l i hlt]; have := List.getElem?_eq_getElem hlt; rw [he] at this; injection this with this; exact this.symm
      have hcr := HG.out.cells hb hcell
      have hE := entC_at e
      have c0 : wr.cell? ⟨b, off + i * k + 32, none⟩ = some (.int .i64 e.pk) := by rw [L.hk]; exact hcr i e 32 _ he hE.1
      have c1 : wr.cell? ⟨b, off + i * k + 33, none⟩ = some (.int .i64 e.pos) := by rw [L.hk]; exact hcr i e 33 _ he hE.2.1
      have c2 : wr.cell? ⟨b, off + i * k + 34, none⟩ = some (.int .i64 e.ln) := by rw [L.hk]; exact hcr i e 34 _ he hE.2.2
      have k0 : ¬ k = 0 := by rw [L.hk]; omega
      have h0 : ¬ h = 0 := by rw [L.hh]; omega
      obtain ⟨w1, hw1⟩ : ∃ w1, w1 = wr.alloc (.cells #[.int .i64 e.pk, .int .i64 e.pos, .int .i64 e.ln] 79 (0, 0)) := ⟨_, rfl⟩
      have hg1 : Grown w w1 := by rw [hw1]; exact HG.out.alloc _
      have hx : w1.heap[wr.heap.size]? = some (.cells #[.int .i64 e.pk, .int .i64 e.pos, .int .i64 e.ln] 79 (0, 0)) := by rw [hw1]; exact heap_alloc_new wr _
      have qx : ∀ n os, (grow (w1.drewN n) os).heap[wr.heap.size]? = some (.cells #[.int .i64 e.pk, .int .i64 e.pos, .int .i64 e.ln] 79 (0, 0)) := fun n os => (Grown.fr ⟨n, os, rfl⟩ (fun _ => False)).heap hx id
      have q0 : ∀ n os, (grow (w1.drewN n) os).cell? ⟨wr.heap.size, 0, none⟩ = some (.int .i64 e.pk) := fun n os => cell_of_heap (qx n os) 0
      have q1 : ∀ n os, (grow (w1.drewN n) os).cell? ⟨wr.heap.size, 1, none⟩ = some (.int .i64 e.pos) := fun n os => cell_of_heap (qx n os) 1
      have q2 : ∀ n os, (grow (w1.drewN n) os).cell? ⟨wr.heap.size, 2, none⟩ = some (.int .i64 e.ln) := fun n os => cell_of_heap (qx n os) 2
      have lb : ∀ j p, l[j]? = some p → ∀ n os, Sem.run P (loadCellsFrom ⟨b, off + j * k, none⟩ 0 h #[]) (grow (w1.drewN n) os) = .ok (bcells p.nm.1).toArray (grow (w1.drewN n) os) := fun j p hp n os => by
        rw [L.hk, L.hh]
        refine run_loadCellsFrom_list P _ _ (bcells p.nm.1) 32 (by rw [bcells_length, p.nm.2]) (fun q u hu => ?_)
        have hadd : (⟨b, off + j * 35, none⟩ : Addr).add q = ⟨b, off + j * 35 + q, none⟩ := by unfold Addr.add; split <;> simp_all
        rw [hadd]
        refine Grown.cells (hg1.trans ⟨n, os, rfl⟩) hb hcell j p q u hp ?_
        unfold entC
        rw [List.getElem?_append_left (List.getElem?_eq_some_iff.1 hu).1]; exact hu
      have LB := hid lb
      have G1 := hid hg1
      have GE := hid hge
      have HE := hid he
      clear hcell hcr lb hg1 hx he hge qx hE
      have hw1' := hid hw1
      clear hw1
      cases hr : rightP e with
      | false =>
        have HRR := hid hr
        have hc : e.pk < 1 ∨ (¬ e.pk < 1 ∧ 999999 < e.pk) ∨ (¬ e.pk < 1 ∧ ¬ 999999 < e.pk ∧ e.pos < 0) ∨ (¬ e.pk < 1 ∧ ¬ 999999 < e.pk ∧ ¬ e.pos < 0 ∧ 12000 < e.pos) ∨ (¬ e.pk < 1 ∧ ¬ 999999 < e.pk ∧ ¬ e.pos < 0 ∧ ¬ 12000 < e.pos ∧ e.ln < 1) ∨ (¬ e.pk < 1 ∧ ¬ 999999 < e.pk ∧ ¬ e.pos < 0 ∧ ¬ 12000 < e.pos ∧ ¬ e.ln < 1 ∧ 12000 < e.ln) := by
          unfold rightP at hr
          rw [decide_eq_false_iff_not] at hr
          omega
        clear hr LB
        rcases hc with h1 | ⟨h1, h2⟩ | ⟨h1, h2, h3⟩ | ⟨h1, h2, h3, h4⟩ | ⟨h1, h2, h3, h4, h5⟩ | ⟨h1, h2, h3, h4, h5, h6⟩
        · have d1 := decide_eq_true h1; clear h1
          generalize e.pk = p0 at *
          generalize e.pos = p1 at *
          generalize e.ln = p2 at *
          go_wp2_with fail
          rw [← hw1'.out]
          refine wp_region_quiet_grown (by assumption) (by kernel_rfl) ?_
          repeat (first | go_big_quiet_step (fail) | quiet_step (fail))
          refine wpQuiet_nil ?_
          intro _ hw'
          obtain ⟨⟨nq, osq⟩, hw''⟩ := hw'
          subst hw''
          go_wp2
          go_ret
          exact ⟨HN.out _ (rightL_no hlt (by rw [GE.out, HRR.out]; rfl)).symm, G1.out.trans ⟨nq, osq, rfl⟩⟩
        · have d1 := decide_eq_false h1; have d2 := decide_eq_true h2; clear h1 h2
          generalize e.pk = p0 at *
          generalize e.pos = p1 at *
          generalize e.ln = p2 at *
          go_wp2_with fail
          rw [← hw1'.out]
          refine wp_region_quiet_grown (by assumption) (by kernel_rfl) ?_
          repeat (first | go_big_quiet_step (fail) | quiet_step (fail))
          refine wpQuiet_nil ?_
          intro _ hw'
          obtain ⟨⟨nq, osq⟩, hw''⟩ := hw'
          subst hw''
          go_wp2
          go_ret
          exact ⟨HN.out _ (rightL_no hlt (by rw [GE.out, HRR.out]; rfl)).symm, G1.out.trans ⟨nq, osq, rfl⟩⟩
        · have d1 := decide_eq_false h1; have d2 := decide_eq_false h2; have d3 := decide_eq_true h3; clear h1 h2 h3
          generalize e.pk = p0 at *
          generalize e.pos = p1 at *
          generalize e.ln = p2 at *
          go_wp2_with fail
          rw [← hw1'.out]
          refine wp_region_quiet_grown (by assumption) (by kernel_rfl) ?_
          repeat (first | go_big_quiet_step (fail) | quiet_step (fail))
          refine wpQuiet_nil ?_
          intro _ hw'
          obtain ⟨⟨nq, osq⟩, hw''⟩ := hw'
          subst hw''
          go_wp2
          go_ret
          exact ⟨HN.out _ (rightL_no hlt (by rw [GE.out, HRR.out]; rfl)).symm, G1.out.trans ⟨nq, osq, rfl⟩⟩
        · have d1 := decide_eq_false h1; have d2 := decide_eq_false h2; have d3 := decide_eq_false h3; have d4 := decide_eq_true h4; clear h1 h2 h3 h4
          generalize e.pk = p0 at *
          generalize e.pos = p1 at *
          generalize e.ln = p2 at *
          go_wp2_with fail
          rw [← hw1'.out]
          refine wp_region_quiet_grown (by assumption) (by kernel_rfl) ?_
          repeat (first | go_big_quiet_step (fail) | quiet_step (fail))
          refine wpQuiet_nil ?_
          intro _ hw'
          obtain ⟨⟨nq, osq⟩, hw''⟩ := hw'
          subst hw''
          go_wp2
          go_ret
          exact ⟨HN.out _ (rightL_no hlt (by rw [GE.out, HRR.out]; rfl)).symm, G1.out.trans ⟨nq, osq, rfl⟩⟩
        · have d1 := decide_eq_false h1; have d2 := decide_eq_false h2; have d3 := decide_eq_false h3; have d4 := decide_eq_false h4; have d5 := decide_eq_true h5; clear h1 h2 h3 h4 h5
          generalize e.pk = p0 at *
          generalize e.pos = p1 at *
          generalize e.ln = p2 at *
          go_wp2_with fail
          rw [← hw1'.out]
          refine wp_region_quiet_grown (by assumption) (by kernel_rfl) ?_
          repeat (first | go_big_quiet_step (fail) | quiet_step (fail))
          refine wpQuiet_nil ?_
          intro _ hw'
          obtain ⟨⟨nq, osq⟩, hw''⟩ := hw'
          subst hw''
          go_wp2
          go_ret
          exact ⟨HN.out _ (rightL_no hlt (by rw [GE.out, HRR.out]; rfl)).symm, G1.out.trans ⟨nq, osq, rfl⟩⟩
        · have d1 := decide_eq_false h1; have d2 := decide_eq_false h2; have d3 := decide_eq_false h3; have d4 := decide_eq_false h4; have d5 := decide_eq_false h5; have d6 := decide_eq_true h6; clear h1 h2 h3 h4 h5 h6
          generalize e.pk = p0 at *
          generalize e.pos = p1 at *
          generalize e.ln = p2 at *
          go_wp2_with fail
          rw [← hw1'.out]
          refine wp_region_quiet_grown (by assumption) (by kernel_rfl) ?_
          repeat (first | go_big_quiet_step (fail) | quiet_step (fail))
          refine wpQuiet_nil ?_
          intro _ hw'
          obtain ⟨⟨nq, osq⟩, hw''⟩ := hw'
          subst hw''
          go_wp2
          go_ret
          exact ⟨HN.out _ (rightL_no hlt (by rw [GE.out, HRR.out]; rfl)).symm, G1.out.trans ⟨nq, osq, rfl⟩⟩
      | true =>
        have HRR := hid hr
        have hc : ¬ e.pk < 1 ∧ ¬ 999999 < e.pk ∧ ¬ e.pos < 0 ∧ ¬ 12000 < e.pos ∧ ¬ e.ln < 1 ∧ ¬ 12000 < e.ln := by
          unfold rightP at hr
          rw [decide_eq_true_eq] at hr
          omega
        clear hr
        obtain ⟨h1, h2, h3, h4, h5, h6⟩ := hc
        have d1 := decide_eq_false h1; have d2 := decide_eq_false h2; have d3 := decide_eq_false h3; have d4 := decide_eq_false h4; have d5 := decide_eq_false h5; have d6 := decide_eq_false h6
        clear h1 h2 h3 h4 h5 h6
        by_cases hi0 : i = 0
        · have hi1 : ¬ (0 : Int) < (i : Int) := by omega
          have hi2 : decide (0 < i) = false := decide_eq_false (by omega)
          have HI := hid hi0
          clear hi0 LB
          generalize e.pk = p0 at *
          generalize e.pos = p1 at *
          generalize e.ln = p2 at *
          go_wp2_with fail
          rw [← hw1'.out]
          refine wp_region_quiet_grown (by assumption) (by kernel_rfl) ?_
          repeat (first | go_big_quiet_step (fail) | quiet_step (fail))
          refine wpQuiet_nil ?_
          intro _ hw'
          obtain ⟨⟨nq, osq⟩, hw''⟩ := hw'
          subst hw''
          go_wp2
          go_roundg (l.length - (i + 1))
          case measure => omega
          case rel => exact ⟨i + 1, by go_num, hlt, Nat.le_refl _, hid (by rw [rightTo_succ, HT.out, GE.out, HRR.out, HI.out]; rfl), hid (G1.out.trans ⟨nq, osq, rfl⟩)⟩
        · obtain ⟨j, rfl⟩ : ∃ j, i = j + 1 := ⟨i - 1, by omega⟩
          have hj : j < l.length := by omega
          obtain ⟨p, hp⟩ : ∃ p, l[j]? = some p := ⟨l[j], by simp [hj]⟩
          have hgp : l[j]! = p := by rw [getElem!_pos l j hj]; have := List.getElem?_eq_getElem hj; rw [hp] at this; injection this with this; exact this.symm
          have lb := LB.out j p hp
          have la := LB.out (j + 1) e HE.out
          have c2 : ∀ n os, Calls P 34 #[.agg (bcells p.nm.1).toArray, .agg (bcells e.nm.1).toArray] (grow (w1.drewN n) os) fun r w' => r = .returned (.bool (ltE p e)) ∧ ∃ q os', w' = grow ((grow (w1.drewN n) os).drewN q) os' := fun n os => R2.out _ p.nm e.nm
          have GP := hid hgp
          have hh1 : (bcells p.nm.1).length = h := by rw [L.hh, bcells_length, p.nm.2]
          have hh2 : (bcells e.nm.1).length = h := by rw [L.hh, bcells_length, e.nm.2]
          clear hp hgp LB
          cases hl : ltE p e with
          | true =>
            have HLL := hid hl
            rw [hl] at c2
            clear hl
            generalize e.pk = p0 at *
            generalize e.pos = p1 at *
            generalize e.ln = p2 at *
            generalize bcells p.nm.1 = Y at *
            generalize bcells e.nm.1 = X at *
            go_wp2_with fail
            rw [← hw1'.out]
            refine wp_region_quiet_grown (by assumption) (by kernel_rfl) ?_
            repeat (first | go_big_quiet_step ((go_at_fn 34; refine Calls.grown_of (c2 _ _))) | quiet_step ((go_at_fn 34; refine Calls.grown_of (c2 _ _))))
            refine wpQuiet_nil ?_
            intro _ hw'
            obtain ⟨⟨nq, osq⟩, hw''⟩ := hw'
            subst hw''
            go_wp2
            go_roundg (l.length - (j + 1 + 1))
            case measure => omega
            case rel => exact ⟨j + 1 + 1, by go_num, hlt, Nat.le_refl _, hid (by rw [rightTo_succ, HT.out, GE.out, HRR.out, Nat.add_sub_cancel, GP.out, HLL.out]; simp), hid (G1.out.trans ⟨nq, osq, rfl⟩)⟩
          | false =>
            have HLL := hid hl
            rw [hl] at c2
            clear hl
            generalize e.pk = p0 at *
            generalize e.pos = p1 at *
            generalize e.ln = p2 at *
            generalize bcells p.nm.1 = Y at *
            generalize bcells e.nm.1 = X at *
            go_wp2_with fail
            rw [← hw1'.out]
            refine wp_region_quiet_grown (by assumption) (by kernel_rfl) ?_
            repeat (first | go_big_quiet_step ((go_at_fn 34; refine Calls.grown_of (c2 _ _))) | quiet_step ((go_at_fn 34; refine Calls.grown_of (c2 _ _))))
            refine wpQuiet_nil ?_
            intro _ hw'
            obtain ⟨⟨nq, osq⟩, hw''⟩ := hw'
            subst hw''
            go_wp2
            go_ret
            exact ⟨HN.out _ (rightL_no hlt (by rw [GE.out, HRR.out, Nat.add_sub_cancel, GP.out, HLL.out]; simp)).symm, G1.out.trans ⟨nq, osq, rfl⟩⟩
    · obtain rfl : i = l.length := by omega
      have HRL := hid (show rightL l = decide (l.length ≤ 900) by unfold rightL; rw [HT.out]; rfl)
      go_wp2
      go_ret
      exact ⟨HN.out _ (by rw [HRL.out]; first | rfl | (apply Bool.eq_iff_iff.2; simp; omega)), HG.out⟩
end Go.Proofs.Ytpomfegcifpfkaa
