/- The document's Find. -/
import Derived.Test.YtdbpkiddiehliaaGreatR10Right
import Derived.Test.YtdbpkiddiehliaaGreatSegFind
namespace Go.Proofs.YtdbpkiddiehliaaGreat
open Go Go.RowKit Go.Sort
variable {P : Program} {k h : Nat}
theorem firstE_at {l : List Ent} {n : Nm} : ∀ {i : Nat} {e : Ent}, l[i]? = some e → (∀ j x, j < i → l[j]? = some x → x.nm ≠ n) → e.nm = n → firstE n l = some e := by
  induction l with
  | nil => intro i e h; simp at h
  | cons a l ih =>
    intro i e h hno hn
    rw [firstE_cons]
    cases i with
    | zero => simp only [List.getElem?_cons_zero, Option.some.injEq] at h; subst h; rw [if_pos hn]
    | succ i =>
      rw [if_neg (hno 0 a (by omega) rfl)]
      exact ih (by simpa using h) (fun j x hj hx => hno (j + 1) x (by omega) (by simpa using hx)) hn
theorem firstE_no {l : List Ent} {n : Nm} (hno : ∀ (j : Nat) (x : Ent), l[j]? = some x → x.nm ≠ n) : firstE n l = none := by
  induction l with
  | nil => rfl
  | cons a l ih =>
    rw [firstE_cons, if_neg (hno 0 a rfl)]
    exact ih fun j x hx => hno (j + 1) x (by simpa using hx)
/-- A name is loaded out of an entry of a list. -/
theorem load_nm {P : Program} {w : World} {b off i : Nat} {l : List Ent} {e : Ent} (hc : ∀ i e j x, l[i]? = some e → (entC e)[j]? = some x → w.cell? ⟨b, off + i * 35 + j, none⟩ = some x) (hi : l[i]? = some e) :
    Sem.run P (loadCellsFrom ⟨b, off + i * 35, none⟩ 0 32 #[]) w = .ok (bcells e.nm.1).toArray w := by
  refine run_loadCellsFrom_list P _ _ (bcells e.nm.1) 32 (by rw [bcells_length, e.nm.2]) (fun q u hu => ?_)
  have hadd : (⟨b, off + i * 35, none⟩ : Addr).add q = ⟨b, off + i * 35 + q, none⟩ := by unfold Addr.add; split <;> simp_all
  rw [hadd]
  refine hc i e q u hi ?_
  unfold entC
  rw [List.getElem?_append_left (List.getElem?_eq_some_iff.1 hu).1]; exact hu
set_option maxHeartbeats 8000000 in
set_option maxRecDepth 100000 in
theorem r10Find_ok (L : SG P k h) (R : SR P) (iR : (P.info? 33).map (·.size) = some 3) {S : Nat → Prop} (w : World) (v : Value) (l : List Ent) (hv : Es S w v l) (n : Nm) : Calls P 7 #[v, .agg (bcells n.1).toArray] w (FindPost w (findF l n)) := by
  have hR := r10Right_ok L R (w := (w.alloc (.cells (bcells n.1).toArray 24 (0, 0))).alloc (.cells #[.int .i64 0, .int .i64 0, .int .i64 0] 33 (0, 0))) (v := v) (l := l) (hv.fr (((Fr.refl (fun _ => False) w).alloc _).alloc _) (fun _ _ h => h.elim))
  obtain ⟨a, c, rfl, hl1, hl2, hl3, _, h4⟩ := hv.cases
  unfold maxLen at hl3
  have u_tUnit := L.u_tUnit; have r_tUnit := L.r_tUnit; have a_tUnit := L.a_tUnit; have z_tUnit := L.z_tUnit; have v_tUnit := L.v_tUnit; have u_tInt := L.u_tInt; have r_tInt := L.r_tInt; have a_tInt := L.a_tInt; have z_tInt := L.z_tInt; have v_tInt := L.v_tInt; have u_tBool := L.u_tBool; have r_tBool := L.r_tBool; have a_tBool := L.a_tBool; have z_tBool := L.z_tBool; have v_tBool := L.v_tBool; have u_tHash := L.u_tHash; have r_tHash := L.r_tHash; have a_tHash := L.a_tHash; have z_tHash := L.z_tHash; have v_tHash := L.v_tHash; have u_tRWhere := L.u_tRWhere; have r_tRWhere := L.r_tRWhere; have a_tRWhere := L.a_tRWhere; have z_tRWhere := L.z_tRWhere; have v_tRWhere := L.v_tRWhere; have u_tREnt := L.u_tREnt; have r_tREnt := L.r_tREnt; have a_tREnt := L.a_tREnt; have z_tREnt := L.z_tREnt; have v_tREnt := L.v_tREnt; have u_tREnts := L.u_tREnts; have r_tREnts := L.r_tREnts; have a_tREnts := L.a_tREnts; have z_tREnts := L.z_tREnts; have v_tREnts := L.v_tREnts; have u_tWhereBool := L.u_tWhereBool; have r_tWhereBool := L.r_tWhereBool; have a_tWhereBool := L.a_tWhereBool; have z_tWhereBool := L.z_tWhereBool; have v_tWhereBool := L.v_tWhereBool
  have mixed := L.mixed
  have e_r10Right : ∀ args w, (callFunc 23 args).run P w = .ok (.enter 23 args) w := enters_of R.f_r10Right rfl rfl
  have hN : (bcells n.1).length = h := by rw [L.hh, bcells_length, n.2]
  have HB := hid (two_boxes w (.cells (bcells n.1).toArray 24 (0, 0)) (.cells #[.int .i64 0, .int .i64 0, .int .i64 0] 33 (0, 0)))
  have H4 := hid h4
  have k0 : ¬ k = 0 := by rw [L.hk]; omega
  have h0 : ¬ h = 0 := by rw [L.hh]; omega
  have HLB := hid (show ∀ W : World, W.heap[w.heap.size]? = some (.cells (bcells n.1).toArray 24 (0, 0)) → Sem.run P (loadCellsFrom ⟨w.heap.size, 0, none⟩ 0 h #[]) W = .ok (bcells n.1).toArray W from fun W hW => by rw [L.hh]; exact load_hash hW)
  have HEQ := hid (fun (x : Nm) => eqH L.sc x n)
  have gH := L.sc.gH
  clear h4 hv
  cases hr : rightL l with
  | false =>
    have HF := hid (show findF l n = none by unfold findF; rw [hr]; rfl)
    rw [hr] at hR
    have HR := hid hR
    clear hr hR HLB HEQ
    generalize bcells n.1 = N at *
    go_enter R.f_r10Find, Tryz.ntmps7
    go_wp2_with (go_at_fn 23; refine HR.out.mono ?_; rintro r w1 ⟨rfl, hg1⟩; have HG1 := hid hg1; have x1 := (hg1.fr (fun _ => False)).heap HB.out.2 id; have y0 := cell_of_heap x1 0; have y1 := cell_of_heap x1 1; have y2 := cell_of_heap x1 2; have z0 := frozen_of_row w1 _ 0 _ _ x1; have z1 := frozen_of_row w1 _ 1 _ _ x1; have z2 := frozen_of_row w1 _ 2 _ _ x1; have X1 := hid x1; clear hg1 x1)
    have hx3 := heap_store (heap_store (heap_store X1.out 0 (.int .i64 0)) 1 (.int .i64 0)) 2 (.int .i64 0)
    refine bodyPost_ret (results_ct rfl _ _ (w.heap.size + 1) _ _ _ _ rfl hx3 u_tRWhere rfl (by simpa using iR)) rfl ⟨by rw [HF.out]; rfl, ?_⟩
    exact ((((((Below.refl _ _).alloc (Nat.le_refl _) _).alloc (by simp) _).trans (HG1.out.below.mono (by simp; omega))).setCell (by simp) _).setCell (by simp) _).setCell (by simp) _
  | true =>
    have HFF := hid (show findF l n = firstE n l by unfold findF; rw [hr]; rfl)
    rw [hr] at hR
    have HR := hid hR
    clear hr hR
    rw [HFF.out]
    generalize bcells n.1 = N at *
    go_enter R.f_r10Find, Tryz.ntmps7
    go_wp2_with (go_at_fn 23; refine HR.out.mono ?_; rintro r w1 ⟨rfl, hg1⟩; have HG1 := hid hg1; have X0 := hid ((hg1.fr (fun _ => False)).heap HB.out.1 id); have X1 := hid ((hg1.fr (fun _ => False)).heap HB.out.2 id); have Z1 := hid hg1.size; clear hg1)
    go_loopg [6] l.length (fun kx s6 wr => ∃ i : Nat, s6 = .int .i64 i ∧ i ≤ l.length ∧ l.length - i ≤ kx ∧ Hid (∀ j x, j < i → l[j]? = some x → x.nm ≠ n) ∧ Hid (Grown w1 wr))
    case atStart => exact ⟨0, rfl, Nat.zero_le _, Nat.le_refl _, hid (fun j x hj => by omega), hid (Grown.refl _)⟩
    case round =>
      obtain ⟨i, rfl, hi, hkx, HNO, HG⟩ := hrel
      by_cases hlt : i < l.length
      · obtain ⟨b, off, rfl, hb, hS, hcell⟩ := H4.out.resolve_left (fun e => by subst e; simp at hlt)
        obtain ⟨e, he⟩ : ∃ e, l[i]? = some e := ⟨l[i], by simp [hlt]⟩
        have hgw : ∀ n, Below w.heap.size w (wr.drewN n) := fun n => below_dN ((((Below.refl w.heap.size w).alloc (Nat.le_refl _) (.cells N.toArray 24 (0, 0))).alloc (by simp) (.cells #[.int .i64 0, .int .i64 0, .int .i64 0] 33 (0, 0))).trans ((HG1.out.trans HG.out).below.mono (by simp; omega))) n
        have hcr : ∀ n, ∀ i e j x, l[i]? = some e → (entC e)[j]? = some x → (wr.drewN n).cell? ⟨b, off + i * 35 + j, none⟩ = some x := fun n i e j x h1 h2 => ((hgw n).cell (p := ⟨b, off + i * 35 + j, none⟩) hb).trans (hcell i e j x h1 h2)
        have l1 : ∀ n, Sem.run P (loadCellsFrom ⟨b, off + i * k, none⟩ 0 h #[]) (wr.drewN n) = .ok (bcells e.nm.1).toArray (wr.drewN n) := fun n => by rw [L.hk, L.hh]; exact load_nm (hcr n) he
        have l2 : ∀ n, Sem.run P (loadCellsFrom ⟨w.heap.size, 0, none⟩ 0 h #[]) (wr.drewN n) = .ok N.toArray (wr.drewN n) := fun n => HLB.out _ ((HG.out.fr (fun _ => False)).heap X0.out id)
        have hE := entC_at e
        have c0 : ∀ n, (wr.drewN n).cell? ⟨b, off + i * k + 32, none⟩ = some (.int .i64 e.pk) := fun n => by rw [L.hk]; exact hcr n i e 32 _ he hE.1
        have c1 : ∀ n, (wr.drewN n).cell? ⟨b, off + i * k + 33, none⟩ = some (.int .i64 e.pos) := fun n => by rw [L.hk]; exact hcr n i e 33 _ he hE.2.1
        have c2 : ∀ n, (wr.drewN n).cell? ⟨b, off + i * k + 34, none⟩ = some (.int .i64 e.ln) := fun n => by rw [L.hk]; exact hcr n i e 34 _ he hE.2.2
        have x1 := (HG.out.fr (fun _ => False)).heap X1.out id
        have XR := hid x1
        have heq := HEQ.out e.nm
        have HE := hid he
        have hb1 : (bcells e.nm.1).length = h := by rw [L.hh, bcells_length, e.nm.2]
        clear hgw hcr he hE
        by_cases hen : e.nm = n
        · rw [decide_eq_true hen] at heq
          have HF := hid (firstE_at HE.out HNO.out hen)
          rw [HF.out]
          clear hen
          have y0 := cell_of_heap x1 0; have y1 := cell_of_heap x1 1; have y2 := cell_of_heap x1 2; have z0 := frozen_of_row wr _ 0 _ _ x1; have z1 := frozen_of_row wr _ 1 _ _ x1; have z2 := frozen_of_row wr _ 2 _ _ x1
          clear x1
          generalize bcells e.nm.1 = X at *
          go_wp2_with fail
          refine wp_region_quiet_lit (by assumption) (by kernel_rfl) ?_
          repeat (first | go_big_quiet_step (fail) | quiet_step (fail))
          refine wpQuiet_nil ?_
          intro _ hw'
          obtain ⟨nq, hw''⟩ := hw'
          subst hw''
          go_wp2
          have hx3 := heap_store (heap_store (heap_store (w := wr.drewN nq) XR.out 0 (.int .i64 e.pk)) 1 (.int .i64 e.pos)) 2 (.int .i64 e.ln)
          refine bodyPost_ret (results_ct rfl _ _ (w.heap.size + 1) _ _ _ _ rfl hx3 u_tRWhere rfl (by simpa using iR)) rfl ⟨rfl, ?_⟩
          exact ((((((Below.refl _ _).alloc (Nat.le_refl _) _).alloc (by simp) _).trans ((HG1.out.trans (HG.out.drewN _)).below.mono (by simp; omega))).setCell (by simp) _).setCell (by simp) _).setCell (by simp) _
        · rw [decide_eq_false hen] at heq
          clear x1 c0 c1 c2
          generalize bcells e.nm.1 = X at *
          go_wp2_with fail
          refine wp_region_quiet_lit (by assumption) (by kernel_rfl) ?_
          repeat (first | go_big_quiet_step (fail) | quiet_step (fail))
          refine wpQuiet_nil ?_
          intro _ hw'
          obtain ⟨nq, hw''⟩ := hw'
          subst hw''
          go_wp2
          go_roundg (l.length - (i + 1))
          case measure => omega
          case rel => exact ⟨i + 1, by go_num, hlt, Nat.le_refl _, hid (fun j x hj hx => by
            by_cases hji : j < i
            · exact HNO.out j x hji hx
            · obtain rfl : j = i := by omega
              rw [HE.out] at hx; injection hx with hx; subst hx; exact hen), hid (HG.out.drewN _)⟩
      · obtain rfl : i = l.length := by omega
        have HF := hid (firstE_no (n := n) (l := l) (fun j x hx => HNO.out j x (List.getElem?_eq_some_iff.1 hx).1 hx))
        have x1 := (HG.out.fr (fun _ => False)).heap X1.out id
        have XR := hid x1
        have y0 := cell_of_heap x1 0; have y1 := cell_of_heap x1 1; have y2 := cell_of_heap x1 2; have z0 := frozen_of_row wr _ 0 _ _ x1; have z1 := frozen_of_row wr _ 1 _ _ x1; have z2 := frozen_of_row wr _ 2 _ _ x1
        clear x1
        go_wp2
        have hx3 := heap_store (heap_store (heap_store XR.out 0 (.int .i64 0)) 1 (.int .i64 0)) 2 (.int .i64 0)
        refine bodyPost_ret (results_ct rfl _ _ (w.heap.size + 1) _ _ _ _ rfl hx3 u_tRWhere rfl (by simpa using iR)) rfl ⟨by rw [HF.out]; rfl, ?_⟩
        exact ((((((Below.refl _ _).alloc (Nat.le_refl _) _).alloc (by simp) _).trans ((HG1.out.trans HG.out).below.mono (by simp; omega))).setCell (by simp) _).setCell (by simp) _).setCell (by simp) _
end Go.Proofs.YtdbpkiddiehliaaGreat
