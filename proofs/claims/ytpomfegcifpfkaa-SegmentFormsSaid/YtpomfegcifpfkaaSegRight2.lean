/- segment's right and Right. -/
import Derived.Test.YtpomfegcifpfkaaSG
namespace Go.Proofs.Ytpomfegcifpfkaa
open Go Go.RowKit Go.Sort
variable {P : Program} {k h : Nat}
theorem entC_at (e : Ent) : (entC e)[32]? = some (.int .i64 e.pk) ∧ (entC e)[33]? = some (.int .i64 e.pos) ∧ (entC e)[34]? = some (.int .i64 e.ln) := by
  have hl : (bcells e.nm.1).length = 32 := by rw [bcells_length, e.nm.2]
  unfold entC
  refine ⟨?_, ?_, ?_⟩ <;> (rw [List.getElem?_append_right (by omega), hl]; rfl)
/-- A whole row is laid into a new block of the same size. -/
theorem stores_new {P : Program} {w : World} {t : Nat} {old new : List Value} (hl : old.length = new.length) (h1 : ∀ u ∈ new, u.oneCell' = true) :
    Sem.run P (storeCells ⟨w.heap.size, 0, none⟩ new 0) (w.alloc (.cells old.toArray t (0, 0))) = .ok () (w.alloc (.cells new.toArray t (0, 0))) := by
  have hH : Holds id (w.alloc (.cells old.toArray t (0, 0))) w.heap.size 0 old.toArray := fun i hi => by
    have hi' : i < old.length := by simpa using hi
    refine ⟨?_, ?_⟩
    · rw [Nat.zero_add, cell_of_heap (heap_alloc_new w _)]
      simp [hi']
    · simp
  have h3 := stores_of_holds P hH 0 new (by simp; omega) h1
  rw [Nat.zero_add] at h3
  rw [h3]
  congr 1
  have h2 : ∀ (l : List Value) (s : Nat) (c : Array Value), s + l.length ≤ c.size → (w.alloc (.cells c t (0, 0))).setCells w.heap.size s l = w.alloc (.cells (setMany c s l) t (0, 0)) := by
    intro l
    induction l with
    | nil => intro s c _; rfl
    | cons v l ih =>
      intro s c hs
      rw [World.setCells, setMany, ← ih (s + 1) _ (by simp at hs ⊢; omega), World.setCell_alloc_new]
  rw [h2 new 0 old.toArray (by simp; omega)]
  congr 2
  refine Array.ext (by rw [size_setMany]; simp [hl]) fun i h4 h5 => ?_
  have h6 := get_setMany new 0 old.toArray i (by rw [size_setMany] at h4; exact h4)
  have h7 : i < new.length := by simpa using h5
  rw [if_pos (by omega), getElem!_pos _ i h4, Nat.sub_zero, getElem!_pos new i h7] at h6
  simpa using h6
set_option maxHeartbeats 2000000 in
set_option maxRecDepth 100000 in
theorem segRightE_ok (L : SG P k h) (w : World) (e : Ent) : Calls P 32 #[.agg (entC e).toArray] w fun r w' => r = .returned (.bool (rightP e)) ∧ Grown w w' := by
  obtain ⟨h1, h2, h3⟩ := entC_at e
  have hP : ∀ b, b = rightP e → Ending.returned (.bool b) = .returned (.bool (rightP e)) := fun b hb => by rw [hb]
  have hR : rightP e = decide (1 ≤ e.pk ∧ e.pk ≤ 999999 ∧ 0 ≤ e.pos ∧ e.pos ≤ 12000 ∧ 1 ≤ e.ln ∧ e.ln ≤ 12000) := rfl
  generalize rightP e = r at *
  generalize entC e = X at *
  generalize e.pk = p at *
  generalize e.pos = q at *
  generalize e.ln = n at *
  have h1' : X.toArray[32]? = some (.int .i64 p) := by simpa using h1
  have h2' : X.toArray[33]? = some (.int .i64 q) := by simpa using h2
  have h3' : X.toArray[34]? = some (.int .i64 n) := by simpa using h3
  have HP := hid hP
  have HR := hid hR
  clear hP hR
  have u_tUnit := L.u_tUnit; have r_tUnit := L.r_tUnit; have a_tUnit := L.a_tUnit; have z_tUnit := L.z_tUnit; have v_tUnit := L.v_tUnit; have u_tInt := L.u_tInt; have r_tInt := L.r_tInt; have a_tInt := L.a_tInt; have z_tInt := L.z_tInt; have v_tInt := L.v_tInt; have u_tBool := L.u_tBool; have r_tBool := L.r_tBool; have a_tBool := L.a_tBool; have z_tBool := L.z_tBool; have v_tBool := L.v_tBool; have u_tHash := L.u_tHash; have r_tHash := L.r_tHash; have a_tHash := L.a_tHash; have z_tHash := L.z_tHash; have v_tHash := L.v_tHash; have u_tWhere := L.u_tWhere; have r_tWhere := L.r_tWhere; have a_tWhere := L.a_tWhere; have z_tWhere := L.z_tWhere; have v_tWhere := L.v_tWhere; have u_tEnt := L.u_tEnt; have r_tEnt := L.r_tEnt; have a_tEnt := L.a_tEnt; have z_tEnt := L.z_tEnt; have v_tEnt := L.v_tEnt
  have mixed := L.mixed
  go_enter L.f_segRightE, Try.ntmps32
  go_wp2
  all_goals
    go_ret
    refine ⟨HP.out _ ?_, ((Grown.refl w).alloc _).alloc _⟩
    rw [HR.out]
    first
    | (apply (decide_eq_false _).symm; omega)
    | (apply (decide_eq_true _).symm; omega)
    | (apply Bool.eq_iff_iff.2; simp; omega)
end Go.Proofs.Ytpomfegcifpfkaa
/- segment's Right. -/
namespace Go.Proofs.Ytpomfegcifpfkaa
open Go Go.RowKit Go.Sort
variable {P : Program} {k h : Nat}
/-- v is a slice of just these entries, which lie outside S. -/
def Es (S : Nat → Prop) (w : World) (v : Value) (l : List Ent) : Prop := Row S w v l.length 35 (l.flatMap entC)
theorem flat_at {f : Ent → List Value} {k : Nat} (hf : ∀ e, (f e).length = k) : ∀ {l : List Ent} {i : Nat} {e : Ent} {j : Nat} {x : Value}, l[i]? = some e → (f e)[j]? = some x → (l.flatMap f)[i * k + j]? = some x
  | [], i, e, j, x, h, _ => by simp at h
  | a :: l, 0, e, j, x, h, hx => by
    simp only [List.getElem?_cons_zero, Option.some.injEq] at h
    subst h
    rw [List.flatMap_cons, Nat.zero_mul, Nat.zero_add, List.getElem?_append_left (List.getElem?_eq_some_iff.1 hx).1]; exact hx
  | a :: l, i + 1, e, j, x, h, hx => by
    rw [List.flatMap_cons, List.getElem?_append_right (by rw [hf, Nat.add_mul]; omega), hf]
    have := flat_at hf (l := l) (i := i) (by simpa using h) hx
    rw [← this]; congr 1; rw [Nat.add_mul]; omega
theorem Es.fr {S S' : Nat → Prop} {w w' : World} {v : Value} {l : List Ent} (h : Es S w v l) (hf : Fr S' w w') (hs : ∀ k, k < w.heap.size → S' k → S k) : Es S w' v l := Row.fr h hf hs
theorem Es.mono {S S' : Nat → Prop} {w : World} {v : Value} {l : List Ent} (h : Es S w v l) (hs : ∀ k, k < w.heap.size → S' k → S k) : Es S' w v l := Row.mono h hs
/-- A slice of entries, opened: without entries, or in a block. -/
theorem Es.cases {S : Nat → Prop} {w : World} {v : Value} {l : List Ent} (h : Es S w v l) : ∃ a c, v = .slice a l.length c ∧ l.length ≤ 140737488355328 ∧ l.length ≤ c ∧ c ≤ maxLen ∧ (a = none → c = 0) ∧
    (l = [] ∨ ∃ b off, a = some ⟨b, off, none⟩ ∧ b < w.heap.size ∧ ¬ S b ∧ ∀ i e j x, l[i]? = some e → (entC e)[j]? = some x → w.cell? ⟨b, off + i * 35 + j, none⟩ = some x) := by
  obtain ⟨_, a, c, h1, h2, h3, h4⟩ := h
  refine ⟨a, c, h1, h2.2.1, h2.1, h2.2.2, h3, ?_⟩
  rcases h4 with h4 | ⟨b, off, e1, e2, e3, e4⟩
  · exact .inl (List.eq_nil_of_length_eq_zero h4)
  · exact .inr ⟨b, off, e1, e2, e3, fun i e j x hi hj => by rw [Nat.add_assoc]; exact e4 _ _ (flat_at entC_length hi hj)⟩
/-- An entry is loaded. -/
theorem load_ent {P : Program} {w : World} {b off i : Nat} {l : List Ent} {e : Ent} (hc : ∀ i e j x, l[i]? = some e → (entC e)[j]? = some x → w.cell? ⟨b, off + i * 35 + j, none⟩ = some x) (hi : l[i]? = some e) :
    Sem.run P (loadCellsFrom ⟨b, off + i * 35, none⟩ 0 35 #[]) w = .ok (entC e).toArray w := by
  refine run_loadCellsFrom_list P w _ (entC e) 35 (entC_length e) (fun j v hv => ?_)
  have hadd : (⟨b, off + i * 35, none⟩ : Addr).add j = ⟨b, off + i * 35 + j, none⟩ := by unfold Addr.add; split <;> simp_all
  rw [hadd]; exact hc i e j v hi hv
theorem load_box {P : Program} {w : World} {b t : Nat} {e : Ent} (hb : w.heap[b]? = some (.cells (entC e).toArray t (0, 0))) : Sem.run P (loadCellsFrom ⟨b, 0, none⟩ 0 35 #[]) w = .ok (entC e).toArray w := by
  refine run_loadCellsFrom_list P w ⟨b, 0, none⟩ (entC e) 35 (entC_length e) (fun j v hv => ?_)
  have hadd : (⟨b, 0, none⟩ : Addr).add j = ⟨b, j, none⟩ := by unfold Addr.add; split <;> simp_all
  rw [hadd, cell_of_heap hb]
  simpa using hv
theorem Grown.cells {w w' : World} {b off : Nat} {l : List Ent} (hg : Grown w w') (hb : b < w.heap.size) (hc : ∀ i e j x, l[i]? = some e → (entC e)[j]? = some x → w.cell? ⟨b, off + i * 35 + j, none⟩ = some x) :
    ∀ i e j x, l[i]? = some e → (entC e)[j]? = some x → w'.cell? ⟨b, off + i * 35 + j, none⟩ = some x := fun i e j x h1 h2 => ((hg.fr (fun _ => False)).cell (p := ⟨b, off + i * 35 + j, none⟩) hb id).trans (hc i e j x h1 h2)

/-- The first k of the entries are right, and ascend. -/
def rightTo (l : List Ent) (k : Nat) : Bool := (List.range k).all fun i => rightP l[i]! && (i == 0 || ltE l[i - 1]! l[i]!)
def rightL (l : List Ent) : Bool := rightTo l l.length && decide (l.length ≤ 900)
theorem rightTo_succ (l : List Ent) (k : Nat) : rightTo l (k + 1) = (rightTo l k && (rightP l[k]! && (k == 0 || ltE l[k - 1]! l[k]!))) := by
  unfold rightTo; rw [List.range_succ, List.all_append]; simp
theorem rightTo_le {l : List Ent} {j k : Nat} (h : j ≤ k) (hk : rightTo l k = true) : rightTo l j = true := by
  unfold rightTo at hk ⊢
  rw [List.all_eq_true] at hk ⊢
  intro i hi
  exact hk i (by simp at hi ⊢; omega)
theorem rightL_no {l : List Ent} {i : Nat} (hi : i < l.length) (h : (rightP l[i]! && (i == 0 || ltE l[i - 1]! l[i]!)) = false) : rightL l = false := by
  unfold rightL
  cases hr : rightTo l l.length with
  | false => rfl
  | true =>
    have := rightTo_le (show i + 1 ≤ l.length from hi) hr
    rw [rightTo_succ, h] at this
    simp at this
set_option maxHeartbeats 4000000 in
set_option maxRecDepth 100000 in
theorem segRight_ok (L : SG P k h) {S : Nat → Prop} (w : World) (v : Value) (l : List Ent) (hv : Es S w v l) : Calls P 11 #[v] w fun r w' => r = .returned (.bool (rightL l)) ∧ Grown w w' := by
  obtain ⟨a, c, rfl, hl1, hl2, hl3, _, h4⟩ := hv.cases
  unfold maxLen at hl3
  have u_tUnit := L.u_tUnit; have r_tUnit := L.r_tUnit; have a_tUnit := L.a_tUnit; have z_tUnit := L.z_tUnit; have v_tUnit := L.v_tUnit; have u_tInt := L.u_tInt; have r_tInt := L.r_tInt; have a_tInt := L.a_tInt; have z_tInt := L.z_tInt; have v_tInt := L.v_tInt; have u_tBool := L.u_tBool; have r_tBool := L.r_tBool; have a_tBool := L.a_tBool; have z_tBool := L.z_tBool; have v_tBool := L.v_tBool; have u_tHash := L.u_tHash; have r_tHash := L.r_tHash; have a_tHash := L.a_tHash; have z_tHash := L.z_tHash; have v_tHash := L.v_tHash; have u_tWhere := L.u_tWhere; have r_tWhere := L.r_tWhere; have a_tWhere := L.a_tWhere; have z_tWhere := L.z_tWhere; have v_tWhere := L.v_tWhere; have u_tEnt := L.u_tEnt; have r_tEnt := L.r_tEnt; have a_tEnt := L.a_tEnt; have z_tEnt := L.z_tEnt; have v_tEnt := L.v_tEnt; have u_tEnts := L.u_tEnts; have r_tEnts := L.r_tEnts; have a_tEnts := L.a_tEnts; have z_tEnts := L.z_tEnts; have v_tEnts := L.v_tEnts
  have mixed := L.mixed
  have e_segRightE : ∀ args w, (callFunc 32 args).run P w = .ok (.enter 32 args) w := enters_of L.f_segRightE rfl rfl
  have e_segCompare : ∀ args w, (callFunc 33 args).run P w = .ok (.enter 33 args) w := enters_of L.f_segCompare rfl rfl
  have hR1 : ∀ W e, Calls P 32 #[.agg (entC e).toArray] W fun r w' => r = .returned (.bool (rightP e)) ∧ Grown W w' := fun W e => segRightE_ok L W e
  have hR2 : ∀ W x y, Calls P 33 #[.agg (entC x).toArray, .agg (entC y).toArray] W fun r w' => r = .returned (.int .i64 (cmpE x y)) ∧ Grown W w' := fun W x y => segCompare_ok L.sc L.hh W x y
  have R1 := hid hR1
  have R2 := hid hR2
  have H4 := hid h4
  clear hR1 hR2 h4 hv
  have HN : Hid (∀ b, b = rightL l → Ending.returned (.bool b) = .returned (.bool (rightL l))) := hid fun b hb => by rw [hb]
  go_enter L.f_segRight, Try.ntmps11
  go_wp2
  go_loopg [7] l.length (fun kx s7 wr => ∃ i : Nat, s7 = .int .i64 i ∧ i ≤ l.length ∧ l.length - i ≤ kx ∧ Hid (rightTo l i = true) ∧ Hid (Grown w wr))
  case atStart => exact ⟨0, rfl, Nat.zero_le _, Nat.le_refl _, hid rfl, hid (Grown.refl w)⟩
  case round =>
    obtain ⟨i, rfl, hi, hkx, HT, HG⟩ := hrel
    by_cases hlt : i < l.length
    · obtain ⟨b, off, rfl, hb, hS, hcell⟩ := H4.out.resolve_left (fun e => by subst e; simp at hlt)
      obtain ⟨e, he⟩ : ∃ e, l[i]? = some e := ⟨l[i], by simp [hlt]⟩
      have hge : l[i]! = e := by rw [getElem!_pos l i hlt]; have := List.getElem?_eq_getElem hlt; rw [he] at this; injection this with this; exact this.symm
      have hcr := HG.out.cells hb hcell
      have hbr : b < wr.heap.size := Nat.lt_of_lt_of_le hb HG.out.size
      have l1 : Sem.run P (loadCellsFrom ⟨b, off + i * k, none⟩ 0 k #[]) wr = .ok (entC e).toArray wr := by rw [L.hk]; exact load_ent hcr he
      have st : Sem.run P (storeCells ⟨wr.heap.size, 0, none⟩ (entC e) 0) (wr.alloc (.cells (entC default).toArray 50 (0, 0))) = .ok () (wr.alloc (.cells (entC e).toArray 50 (0, 0))) := stores_new (by rw [entC_length, entC_length]) (entC_one e)
      obtain ⟨w1, hw1⟩ : ∃ w1, w1 = wr.alloc (.cells (entC e).toArray 50 (0, 0)) := ⟨_, rfl⟩
      have hg1 : Grown w w1 := by rw [hw1]; exact HG.out.alloc _
      have hx : w1.heap[wr.heap.size]? = some (.cells (entC e).toArray 50 (0, 0)) := by rw [hw1]; exact heap_alloc_new wr _
      have la : ∀ n os, Sem.run P (loadCellsFrom ⟨wr.heap.size, 0, none⟩ 0 k #[]) (grow (w1.drewN n) os) = .ok (entC e).toArray (grow (w1.drewN n) os) := fun n os => by
        rw [L.hk]; exact load_box ((Grown.fr ⟨n, os, rfl⟩ (fun _ => False)).heap hx id)
      have lb : ∀ p, l[i - 1]? = some p → ∀ n os, Sem.run P (loadCellsFrom ⟨b, off + (i - 1) * k, none⟩ 0 k #[]) (grow (w1.drewN n) os) = .ok (entC p).toArray (grow (w1.drewN n) os) := fun p hp n os => by
        rw [L.hk]; exact load_ent (Grown.cells (hg1.trans ⟨n, os, rfl⟩) hb hcell) hp
      have c1 : ∀ n os, Calls P 32 #[.agg (entC e).toArray] (grow (w1.drewN n) os) fun r w' => r = .returned (.bool (rightP e)) ∧ ∃ q os', w' = grow ((grow (w1.drewN n) os).drewN q) os' := fun n os => R1.out _ e
      have nX : (entC e).length = k := by rw [L.hk]; exact entC_length e
      have LB := hid lb
      have G1 := hid hg1
      have GE := hid hge
      have HE := hid he
      clear hcell hcr lb hg1 hx he hge
      rw [← hw1] at st
      clear hw1
      cases hr : rightP e with
      | false =>
        have HRR := hid hr
        rw [hr] at c1
        clear hr
        generalize entC e = X at *
        generalize entC default = Z at *
        go_wp2_with fail
        refine wp_region_quiet_grown (by assumption) (by kernel_rfl) ?_
        repeat (first | go_big_quiet_step (first | (go_at_fn 32; refine Calls.grown_of (c1 _ _))) | quiet_step (first | (go_at_fn 32; refine Calls.grown_of (c1 _ _))))
        refine wpQuiet_nil ?_
        intro _ hw'
        obtain ⟨⟨nq, osq⟩, hw''⟩ := hw'
        subst hw''
        go_wp2
        go_ret
        exact ⟨HN.out _ (rightL_no hlt (by rw [GE.out, HRR.out]; rfl)).symm, G1.out.trans ⟨nq, osq, rfl⟩⟩
      | true =>
        have HRR := hid hr
        rw [hr] at c1
        clear hr
        by_cases hi0 : i = 0
        · have hi1 : ¬ (0 : Int) < (i : Int) := by omega
          have hi2 : decide (0 < i) = false := decide_eq_false (by omega)
          have HI := hid hi0
          clear hi0
          generalize entC e = X at *
          generalize entC default = Z at *
          go_wp2_with fail
          refine wp_region_quiet_grown (by assumption) (by kernel_rfl) ?_
          repeat (first | go_big_quiet_step (first | (go_at_fn 32; refine Calls.grown_of (c1 _ _))) | quiet_step (first | (go_at_fn 32; refine Calls.grown_of (c1 _ _))))
          refine wpQuiet_nil ?_
          intro _ hw'
          obtain ⟨⟨nq, osq⟩, hw''⟩ := hw'
          subst hw''
          go_wp2
          go_roundg (l.length - (i + 1))
          case measure => omega
          case rel => exact ⟨i + 1, by go_num, hlt, Nat.le_refl _, hid (by rw [rightTo_succ, HT.out, GE.out, HRR.out, HI.out]; rfl), hid (G1.out.trans ⟨nq, osq, rfl⟩)⟩
        · obtain ⟨j, rfl⟩ : ∃ j, i = j + 1 := ⟨i - 1, by omega⟩
          have hj : j < l.length := by omega
          obtain ⟨p, hp⟩ : ∃ p, l[j]? = some p := ⟨l[j], by simp [hj]⟩
          have hgp : l[j]! = p := by rw [getElem!_pos l j hj]; have := List.getElem?_eq_getElem hj; rw [hp] at this; injection this with this; exact this.symm
          have lb := LB.out p (by rw [Nat.add_sub_cancel]; exact hp)
          rw [Nat.add_sub_cancel] at lb
          have c2 : ∀ n os, Calls P 33 #[.agg (entC p).toArray, .agg (entC e).toArray] (grow (w1.drewN n) os) fun r w' => r = .returned (.int .i64 (cmpE p e)) ∧ ∃ q os', w' = grow ((grow (w1.drewN n) os).drewN q) os' := fun n os => R2.out _ p e
          have hlc : decide (cmpE p e < 0) = ltE p e := cmpL_neg _ _
          have GP := hid hgp
          have HLC := hid hlc
          clear hp hgp hlc LB
          cases hl : ltE p e with
          | true =>
            have HLL := hid hl
            have hd : cmpE p e < 0 := by have := HLC.out; rw [hl] at this; exact of_decide_eq_true this
            have hd2 : ¬ (0 ≤ cmpE p e) := by omega
            clear hl
            generalize cmpE p e = cc at *
            generalize entC e = X at *
            generalize entC p = Y at *
            generalize entC default = Z at *
            go_wp2_with fail
            refine wp_region_quiet_grown (by assumption) (by kernel_rfl) ?_
            repeat (first | go_big_quiet_step (first | (go_at_fn 32; refine Calls.grown_of (c1 _ _)) | (go_at_fn 33; refine Calls.grown_of (c2 _ _))) | quiet_step (first | (go_at_fn 32; refine Calls.grown_of (c1 _ _)) | (go_at_fn 33; refine Calls.grown_of (c2 _ _))))
            refine wpQuiet_nil ?_
            intro _ hw'
            obtain ⟨⟨nq, osq⟩, hw''⟩ := hw'
            subst hw''
            go_wp2
            go_roundg (l.length - (j + 1 + 1))
            case measure => omega
            case rel => exact ⟨j + 1 + 1, by go_num, hlt, Nat.le_refl _, hid (by rw [rightTo_succ, HT.out, GE.out, HRR.out, Nat.add_sub_cancel, GP.out, HLL.out]; simp), hid (G1.out.trans ⟨nq, osq, rfl⟩)⟩
          | false =>
            have HLL := hid hl
            have hd : ¬ cmpE p e < 0 := by have := HLC.out; rw [hl] at this; exact of_decide_eq_false this
            have hd2 : 0 ≤ cmpE p e := by omega
            clear hl hd
            generalize cmpE p e = cc at *
            generalize entC e = X at *
            generalize entC p = Y at *
            generalize entC default = Z at *
            go_wp2_with fail
            refine wp_region_quiet_grown (by assumption) (by kernel_rfl) ?_
            repeat (first | go_big_quiet_step (first | (go_at_fn 32; refine Calls.grown_of (c1 _ _)) | (go_at_fn 33; refine Calls.grown_of (c2 _ _))) | quiet_step (first | (go_at_fn 32; refine Calls.grown_of (c1 _ _)) | (go_at_fn 33; refine Calls.grown_of (c2 _ _))))
            refine wpQuiet_nil ?_
            intro _ hw'
            obtain ⟨⟨nq, osq⟩, hw''⟩ := hw'
            subst hw''
            go_wp2
            go_ret
            exact ⟨HN.out _ (rightL_no hlt (by rw [GE.out, HRR.out, Nat.add_sub_cancel, GP.out, HLL.out]; simp)).symm, G1.out.trans ⟨nq, osq, rfl⟩⟩
    · obtain rfl : i = l.length := by omega
      have HRL := hid (show rightL l = decide (l.length ≤ 900) by unfold rightL; rw [HT.out]; rfl)
      by_cases h9 : l.length ≤ 900
      · go_wp2
        go_ret
        exact ⟨HN.out _ (by rw [HRL.out]; first | rfl | (apply Bool.eq_iff_iff.2; simp; omega) | simp [h9]), HG.out⟩
      · go_wp2
        go_ret
        exact ⟨HN.out _ (by rw [HRL.out]; first | rfl | (apply Bool.eq_iff_iff.2; simp; omega) | simp [h9]), HG.out⟩
end Go.Proofs.Ytpomfegcifpfkaa
