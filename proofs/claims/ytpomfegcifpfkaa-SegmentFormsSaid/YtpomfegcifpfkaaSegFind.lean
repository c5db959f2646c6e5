/- segment's Find. -/
import Derived.Test.YtpomfegcifpfkaaSearchE
import Derived.Test.YtpomfegcifpfkaaTlvRead4
namespace Go.Proofs.Ytpomfegcifpfkaa
open Go Go.RowKit Go.Sort
variable {P : Program} {k h : Nat}
def findF (l : List Ent) (n : Nm) : Option Ent := if rightL l then firstE n l else none
def whC : Option Ent → Value
  | none => .agg #[.int .i64 0, .int .i64 0, .int .i64 0]
  | some e => .agg #[.int .i64 e.pk, .int .i64 e.pos, .int .i64 e.ln]
def FindPost (w : World) (o : Option Ent) (r : Ending) (w' : World) : Prop := r = .returned (.tuple #[whC o, .bool o.isSome]) ∧ Below w.heap.size w w'
def SearchYes (w : World) (l : List Ent) (e0 : Ent) (r : Ending) (w' : World) : Prop := ∃ i : Nat, i < l.length ∧ l[i]? = some e0 ∧ r = .returned (.tuple #[.int .i64 i, .bool true]) ∧ Grown w w'
def SearchNo (w : World) (r : Ending) (w' : World) : Prop := ∃ i : Nat, r = .returned (.tuple #[.int .i64 i, .bool false]) ∧ Grown w w'
theorem SearchPost.yes {w : World} {l : List Ent} {n : Nm} {e0 : Ent} (hA : Asc l) (hf : firstE n l = some e0) {r : Ending} {w' : World} (h : SearchPost w l n r w') : SearchYes w l e0 r w' := by
  obtain ⟨i, hF, rfl, hg⟩ := h
  have := hF.first hA
  rw [hf] at this
  by_cases hc : i < l.length ∧ l[i]!.nm = n
  · rw [if_pos hc] at this
    injection this with this
    refine ⟨i, hc.1, ?_, by rw [decide_eq_true hc], hg⟩
    rw [this, getElem!_pos l i hc.1]; simp [hc.1]
  · rw [if_neg hc] at this; cases this
theorem SearchPost.no {w : World} {l : List Ent} {n : Nm} (hA : Asc l) (hf : firstE n l = none) {r : Ending} {w' : World} (h : SearchPost w l n r w') : SearchNo w r w' := by
  obtain ⟨i, hF, rfl, hg⟩ := h
  have := hF.first hA
  rw [hf] at this
  by_cases hc : i < l.length ∧ l[i]!.nm = n
  · rw [if_pos hc] at this; cases this
  · exact ⟨i, by rw [decide_eq_false hc], hg⟩
set_option maxHeartbeats 4000000 in
set_option maxRecDepth 100000 in
theorem segFind_ok (L : SG P k h) {S : Nat → Prop} (w : World) (v : Value) (l : List Ent) (n : Nm) (hv : Es S w v l) : Calls P 18 #[v, .agg (bcells n.1).toArray] w (FindPost w (findF l n)) := by
  have hN : (bcells n.1).length = h := by rw [L.hh, bcells_length, n.2]
  obtain ⟨W, hW⟩ : ∃ W, W = (w.alloc (.cells (bcells n.1).toArray 46 (0, 0))).alloc (.cells #[.int .i64 0, .int .i64 0, .int .i64 0] 48 (0, 0)) := ⟨_, rfl⟩
  have hgW : Grown w W := by rw [hW]; exact ((Grown.refl w).alloc _).alloc _
  have hB : W.heap[w.heap.size]? = some (.cells (bcells n.1).toArray 46 (0, 0)) ∧ W.heap[w.heap.size + 1]? = some (.cells #[.int .i64 0, .int .i64 0, .int .i64 0] 48 (0, 0)) := by rw [hW]; exact two_boxes w _ _
  have hR := segRight_ok L W v l (hv.fr (hgW.fr (fun _ => False)) (fun _ _ h => h.elim))
  have hSr : rightL l = true → ∀ w1, Grown W w1 → Calls P 40 #[v, .agg (bcells n.1).toArray, .func (.func 41) #[] #[]] w1 (SearchPost w1 l n) := fun hr w1 hg => searchE_ok L w1 v l n (rightL_asc hr) (hv.fr ((hgW.trans hg).fr (fun _ => False)) (fun _ _ h => h.elim))
  obtain ⟨a, c, rfl, hl1, hl2, hl3, _, h4⟩ := hv.cases
  unfold maxLen at hl3
  have u_tUnit := L.u_tUnit; have r_tUnit := L.r_tUnit; have a_tUnit := L.a_tUnit; have z_tUnit := L.z_tUnit; have v_tUnit := L.v_tUnit; have u_tInt := L.u_tInt; have r_tInt := L.r_tInt; have a_tInt := L.a_tInt; have z_tInt := L.z_tInt; have v_tInt := L.v_tInt; have u_tBool := L.u_tBool; have r_tBool := L.r_tBool; have a_tBool := L.a_tBool; have z_tBool := L.z_tBool; have v_tBool := L.v_tBool; have u_tHash := L.u_tHash; have r_tHash := L.r_tHash; have a_tHash := L.a_tHash; have z_tHash := L.z_tHash; have v_tHash := L.v_tHash; have u_tWhere := L.u_tWhere; have r_tWhere := L.r_tWhere; have a_tWhere := L.a_tWhere; have z_tWhere := L.z_tWhere; have v_tWhere := L.v_tWhere; have u_tEnt := L.u_tEnt; have r_tEnt := L.r_tEnt; have a_tEnt := L.a_tEnt; have z_tEnt := L.z_tEnt; have v_tEnt := L.v_tEnt; have u_tEnts := L.u_tEnts; have r_tEnts := L.r_tEnts; have a_tEnts := L.a_tEnts; have z_tEnts := L.z_tEnts; have v_tEnts := L.v_tEnts; have u_tAgainst := L.u_tAgainst; have r_tAgainst := L.r_tAgainst; have a_tAgainst := L.a_tAgainst; have z_tAgainst := L.z_tAgainst; have v_tAgainst := L.v_tAgainst; have u_tIntBool := L.u_tIntBool; have r_tIntBool := L.r_tIntBool; have a_tIntBool := L.a_tIntBool; have z_tIntBool := L.z_tIntBool; have v_tIntBool := L.v_tIntBool; have u_tWhereBool := L.u_tWhereBool; have r_tWhereBool := L.r_tWhereBool; have a_tWhereBool := L.a_tWhereBool; have z_tWhereBool := L.z_tWhereBool; have v_tWhereBool := L.v_tWhereBool
  have mixed := L.mixed
  have e_segRight : ∀ args w, (callFunc 11 args).run P w = .ok (.enter 11 args) w := enters_of L.f_segRight rfl rfl
  have e_searchE : ∀ args w, (callFunc 40 args).run P w = .ok (.enter 40 args) w := enters_of L.f_searchE rfl rfl
  have hld : ∀ w1, Grown W w1 → Sem.run P (loadCellsFrom ⟨w.heap.size, 0, none⟩ 0 h #[]) w1 = .ok (bcells n.1).toArray w1 := fun w1 hg => by rw [L.hh]; exact load_hash ((hg.fr (fun _ => False)).heap hB.1 id)
  have hz : W.heap.size = w.heap.size + 2 := by rw [hW]; simp
  have HW := hid hW
  have HG := hid hgW
  have HB := hid hB
  have H4 := hid h4
  have HS := hid hSr
  have HL := hid hld
  rw [hW] at hR
  clear hgW hB hSr hld h4 hW
  cases hr : rightL l with
  | false =>
    have hF : findF l n = none := by unfold findF; rw [hr]; rfl
    rw [hr] at hR
    rw [hF]
    clear hF hr
    go_enter L.f_segFind, Try.ntmps18
    go_wp2_with (go_at_fn 11; refine hR.mono ?_; rintro r w1 ⟨rfl, hg1⟩; rw [← HW.out] at hg1; have G1 := hid hg1; clear hg1; have hx1 := (G1.out.fr (fun _ => False)).heap HB.out.2 id; have k0 := cell_of_heap hx1 0; have k1 := cell_of_heap hx1 1; have k2 := cell_of_heap hx1 2; have z0 := frozen_of_row w1 (w.heap.size + 1) 0 _ _ hx1; have z1 := frozen_of_row w1 (w.heap.size + 1) 1 _ _ hx1; have z2 := frozen_of_row w1 (w.heap.size + 1) 2 _ _ hx1; have X1 := hid hx1; clear hx1)
    have hx3 := heap_store (heap_store (heap_store X1.out 0 (.int .i64 0)) 1 (.int .i64 0)) 2 (.int .i64 0)
    refine bodyPost_ret (results_ct rfl _ _ (w.heap.size + 1) _ _ _ _ rfl hx3 L.u_tWhere rfl L.iW) rfl ⟨rfl, ?_⟩
    exact (((((HG.out.trans G1.out).below).setCell (by simp) _).setCell (by simp) _).setCell (by simp) _)
  | true =>
    rw [hr] at hR
    have HSR := hid (HS.out hr)
    have hA := rightL_asc hr
    have hF : findF l n = firstE n l := by unfold findF; rw [hr]; rfl
    rw [hF]
    have HA := hid hA
    clear hF hr hA HS
    cases hf : firstE n l with
    | none =>
      have HSN := hid (fun w1 hg => (HSR.out w1 hg).mono fun _ _ hp => SearchPost.no HA.out hf hp)
      clear hf HSR
      go_enter L.f_segFind, Try.ntmps18
      go_wp2_with (first | (go_at_fn 11; refine hR.mono ?_; rintro r w1 ⟨rfl, hg1⟩; rw [← HW.out] at hg1; have G1 := hid hg1; clear hg1; have hx1 := (G1.out.fr (fun _ => False)).heap HB.out.2 id; have k0 := cell_of_heap hx1 0; have k1 := cell_of_heap hx1 1; have k2 := cell_of_heap hx1 2; have z0 := frozen_of_row w1 (w.heap.size + 1) 0 _ _ hx1; have z1 := frozen_of_row w1 (w.heap.size + 1) 1 _ _ hx1; have z2 := frozen_of_row w1 (w.heap.size + 1) 2 _ _ hx1; have X1 := hid hx1; clear hx1; have hl1 := HL.out w1 G1.out) | (go_at_fn 40; refine (HSN.out w1 G1.out).mono ?_; rintro r w2 ⟨i, rfl, hg2⟩; have hx2 := (hg2.fr (fun _ => False)).heap X1.out id; have j0 := cell_of_heap hx2 0; have j1 := cell_of_heap hx2 1; have j2 := cell_of_heap hx2 2; have y0 := frozen_of_row w2 (w.heap.size + 1) 0 _ _ hx2; have y1 := frozen_of_row w2 (w.heap.size + 1) 1 _ _ hx2; have y2 := frozen_of_row w2 (w.heap.size + 1) 2 _ _ hx2; have X2 := hid hx2; have G2 := hid hg2; clear hx2 hg2))
      have hx3 := heap_store (heap_store (heap_store X2.out 0 (.int .i64 0)) 1 (.int .i64 0)) 2 (.int .i64 0)
      refine bodyPost_ret (results_ct rfl _ _ (w.heap.size + 1) _ _ _ _ rfl hx3 L.u_tWhere rfl L.iW) rfl ⟨rfl, ?_⟩
      exact ((((((HG.out.trans G1.out).trans G2.out).below).setCell (by simp) _).setCell (by simp) _).setCell (by simp) _)
    | some e0 =>
      have HSN := hid (fun w1 hg => (HSR.out w1 hg).mono fun _ _ hp => SearchPost.yes HA.out hf hp)
      have HNE := hid (show l ≠ [] by rintro rfl; cases hf)
      clear hf HSR
      obtain ⟨b, off, rfl, hb, hS, hcell⟩ := H4.out.resolve_left HNE.out
      have HCELL := hid hcell
      clear hcell H4
      go_enter L.f_segFind, Try.ntmps18
      go_wp2_with (first | (go_at_fn 11; refine hR.mono ?_; rintro r w1 ⟨rfl, hg1⟩; rw [← HW.out] at hg1; have G1 := hid hg1; clear hg1; have hx1 := (G1.out.fr (fun _ => False)).heap HB.out.2 id; have k0 := cell_of_heap hx1 0; have k1 := cell_of_heap hx1 1; have k2 := cell_of_heap hx1 2; have z0 := frozen_of_row w1 (w.heap.size + 1) 0 _ _ hx1; have z1 := frozen_of_row w1 (w.heap.size + 1) 1 _ _ hx1; have z2 := frozen_of_row w1 (w.heap.size + 1) 2 _ _ hx1; have X1 := hid hx1; clear hx1; have hl1 := HL.out w1 G1.out) | (go_at_fn 40; refine (HSN.out w1 G1.out).mono ?_; rintro r w2 ⟨i, hi, hie, rfl, hg2⟩; have hx2 := (hg2.fr (fun _ => False)).heap X1.out id; have j0 := cell_of_heap hx2 0; have j1 := cell_of_heap hx2 1; have j2 := cell_of_heap hx2 2; have y0 := frozen_of_row w2 (w.heap.size + 1) 0 _ _ hx2; have y1 := frozen_of_row w2 (w.heap.size + 1) 1 _ _ hx2; have y2 := frozen_of_row w2 (w.heap.size + 1) 2 _ _ hx2; have X2 := hid hx2; have G2 := hid hg2; have q0 := (((HG.out.trans G1.out).trans G2.out).cells hb HCELL.out) i e0 32 _ hie (entC_at e0).1; have q1 := (((HG.out.trans G1.out).trans G2.out).cells hb HCELL.out) i e0 33 _ hie (entC_at e0).2.1; have q2 := (((HG.out.trans G1.out).trans G2.out).cells hb HCELL.out) i e0 34 _ hie (entC_at e0).2.2; rw [← L.hk] at q0 q1 q2; have HIE := hid hie; clear hx2 hg2 hie))
      have hx3 := heap_store (heap_store (heap_store X2.out 0 (.int .i64 e0.pk)) 1 (.int .i64 e0.pos)) 2 (.int .i64 e0.ln)
      refine bodyPost_ret (results_ct rfl _ _ (w.heap.size + 1) _ _ _ _ rfl hx3 L.u_tWhere rfl L.iW) rfl ⟨rfl, ?_⟩
      exact ((((((HG.out.trans G1.out).trans G2.out).below).setCell (by simp) _).setCell (by simp) _).setCell (by simp) _)
end Go.Proofs.Ytpomfegcifpfkaa
