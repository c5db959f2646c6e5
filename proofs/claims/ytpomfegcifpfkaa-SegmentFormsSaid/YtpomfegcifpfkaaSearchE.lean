/- slices.BinarySearchFunc at segment's entries, and segment's Find. -/
import Derived.Test.YtpomfegcifpfkaaSegRight2
namespace Go.Proofs.Ytpomfegcifpfkaa
open Go Go.RowKit Go.Sort
variable {P : Program} {k h : Nat}
/-- How many are less than a name. -/
def lessN (l : List Ent) (n : Nm) : Nat := (l.filter fun e => ltL e.nm.1 n.1).length
/-- Where a search in ascending entries ends. -/
structure Found (l : List Ent) (n : Nm) (i : Nat) : Prop where
  le : i ≤ l.length
  lo : ∀ j, j < i → ltL l[j]!.nm.1 n.1 = true
  hi : ∀ j, i ≤ j → j < l.length → ltL l[j]!.nm.1 n.1 = false
theorem rightL_asc {l : List Ent} (h : rightL l = true) : Asc l := by
  unfold rightL at h
  rw [Bool.and_eq_true] at h
  have h1 := h.1
  unfold rightTo at h1
  rw [List.all_eq_true] at h1
  have adj : ∀ i, i + 1 < l.length → ltE l[i]! l[i + 1]! = true := fun i hi => by
    have := h1 (i + 1) (by simpa using hi)
    rw [Bool.and_eq_true, Bool.or_eq_true, Nat.add_sub_cancel] at this
    rcases this.2 with h3 | h3
    · simp at h3
    · exact h3
  have far : ∀ m i, i + m + 1 < l.length → ltE l[i]! l[i + m + 1]! = true := fun m => by
    induction m with
    | zero => intro i hi; exact adj i hi
    | succ m ih =>
      intro i hi
      exact ltE_swo.trans _ _ _ (ih i (by omega)) (by have := adj (i + m + 1) (by omega); rwa [show i + m + 1 + 1 = i + (m + 1) + 1 by omega] at this)
  refine List.pairwise_iff_getElem.2 fun i j hi hj hij => ?_
  have := far (j - i - 1) i (by omega)
  rw [show i + (j - i - 1) + 1 = j by omega, getElem!_pos l i hi, getElem!_pos l j hj] at this
  exact this
theorem Asc.at {l : List Ent} (h : Asc l) {i j : Nat} (hij : i < j) (hj : j < l.length) : ltE l[i]! l[j]! = true := by
  have := List.pairwise_iff_getElem.1 h i j (by omega) hj hij
  rw [getElem!_pos l i (by omega), getElem!_pos l j hj]; exact this
/-- What is found is the first one of its name. -/
theorem Found.first {l : List Ent} {n : Nm} {i : Nat} (hA : Asc l) (h : Found l n i) : firstE n l = if i < l.length ∧ l[i]!.nm = n then some l[i]! else none := by
  have hlo : ∀ e ∈ l.take i, ¬ e.nm = n := fun e he hn => by
    obtain ⟨j, hj, rfl⟩ := List.mem_iff_getElem.1 he
    have hj2 := hj
    rw [List.length_take] at hj2
    have := h.lo j (by omega)
    rw [getElem!_pos l j (by omega)] at this
    simp only [List.getElem_take] at hn
    rw [hn, ltL_irrefl] at this; cases this
  have h1 : firstE n (l.take i) = none := by
    cases hf : firstE n (l.take i) with
    | none => rfl
    | some z => obtain ⟨h2, h3⟩ := firstE_nm hf; exact absurd h2 (hlo z h3)
  have hsplit : firstE n l = firstE n (l.drop i) := by
    conv => lhs; rw [← List.take_append_drop i l, firstE_append, h1]
    rfl
  rw [hsplit]
  by_cases hi : i < l.length
  · rw [List.drop_eq_getElem_cons hi, firstE_cons, getElem!_pos l i hi]
    by_cases hn : l[i].nm = n
    · rw [if_pos hn, if_pos ⟨hi, hn⟩]
    · rw [if_neg hn, if_neg (fun q => hn q.2)]
      cases hf : firstE n (l.drop (i + 1)) with
      | none => rfl
      | some z =>
        obtain ⟨h2, h3⟩ := firstE_nm hf
        obtain ⟨j, hj, rfl⟩ := List.mem_iff_getElem.1 h3
        rw [List.length_drop] at hj
        have h4 := hA.at (i := i) (j := i + 1 + j) (by omega) (by omega)
        rw [getElem!_pos l i hi, getElem!_pos l (i + 1 + j) (by omega)] at h4
        rw [List.getElem_drop] at h2
        unfold ltE at h4
        rw [h2] at h4
        have h5 := h.hi i (Nat.le_refl _) hi
        rw [getElem!_pos l i hi, h4] at h5; cases h5
  · rw [if_neg (fun q => hi q.1), List.drop_eq_nil_of_le (by omega)]; rfl
/-- A search's answer. -/
def SearchPost (w : World) (l : List Ent) (n : Nm) (r : Ending) (w' : World) : Prop :=
  ∃ i : Nat, Found l n i ∧ r = .returned (.tuple #[.int .i64 i, .bool (decide (i < l.length ∧ l[i]!.nm = n))]) ∧ Grown w w'
set_option maxHeartbeats 4000000 in
set_option maxRecDepth 100000 in
theorem searchE_ok (L : SG P k h) {S : Nat → Prop} (w : World) (v : Value) (l : List Ent) (n : Nm) (hA : Asc l) (hv : Es S w v l) : Calls P 40 #[v, .agg (bcells n.1).toArray, .func (.func 41) #[] #[]] w (SearchPost w l n) := by
  obtain ⟨a, c, rfl, hl1, hl2, hl3, _, h4⟩ := hv.cases
  unfold maxLen at hl3
  have u_tUnit := L.u_tUnit; have r_tUnit := L.r_tUnit; have a_tUnit := L.a_tUnit; have z_tUnit := L.z_tUnit; have v_tUnit := L.v_tUnit; have u_tInt := L.u_tInt; have r_tInt := L.r_tInt; have a_tInt := L.a_tInt; have z_tInt := L.z_tInt; have v_tInt := L.v_tInt; have u_tBool := L.u_tBool; have r_tBool := L.r_tBool; have a_tBool := L.a_tBool; have z_tBool := L.z_tBool; have v_tBool := L.v_tBool; have u_tUint := L.u_tUint; have r_tUint := L.r_tUint; have a_tUint := L.a_tUint; have z_tUint := L.z_tUint; have v_tUint := L.v_tUint; have u_tHash := L.u_tHash; have r_tHash := L.r_tHash; have a_tHash := L.a_tHash; have z_tHash := L.z_tHash; have v_tHash := L.v_tHash; have u_tWhere := L.u_tWhere; have r_tWhere := L.r_tWhere; have a_tWhere := L.a_tWhere; have z_tWhere := L.z_tWhere; have v_tWhere := L.v_tWhere; have u_tEnt := L.u_tEnt; have r_tEnt := L.r_tEnt; have a_tEnt := L.a_tEnt; have z_tEnt := L.z_tEnt; have v_tEnt := L.v_tEnt; have u_tEnts := L.u_tEnts; have r_tEnts := L.r_tEnts; have a_tEnts := L.a_tEnts; have z_tEnts := L.z_tEnts; have v_tEnts := L.v_tEnts; have u_tAgainst := L.u_tAgainst; have r_tAgainst := L.r_tAgainst; have a_tAgainst := L.a_tAgainst; have z_tAgainst := L.z_tAgainst; have v_tAgainst := L.v_tAgainst; have u_tIntBool := L.u_tIntBool; have r_tIntBool := L.r_tIntBool; have a_tIntBool := L.a_tIntBool; have z_tIntBool := L.z_tIntBool; have v_tIntBool := L.v_tIntBool
  have mixed := L.mixed
  have e_segAgainst : ∀ args w, (callFunc 41 args).run P w = .ok (.enter 41 args) w := enters_of L.f_segAgainst rfl rfl
  have hR : ∀ W e, Calls P 41 #[.agg (entC e).toArray, .agg (bcells n.1).toArray] W fun r w' => r = .returned (.int .i64 (cmpL e.nm.1 n.1)) ∧ Grown W w' := fun W e => segAgainst_ok L.sc L.hh W e n
  have RR := hid hR
  have H4 := hid h4
  have HA := hid hA
  clear hR h4 hv hA
  have hx : (w.alloc (.cells (bcells n.1).toArray 46 (0, 0))).heap[w.heap.size]? = some (.cells (bcells n.1).toArray 46 (0, 0)) := heap_alloc_new w _
  have HX := hid hx
  clear hx
  have hN : (bcells n.1).length = h := by rw [L.hh, bcells_length, n.2]
  obtain ⟨wb, hwb⟩ : ∃ wb, wb = w.alloc (.cells (bcells n.1).toArray 46 (0, 0)) := ⟨_, rfl⟩
  have HG0 := hid (show Grown w wb by rw [hwb]; exact (Grown.refl w).alloc _)
  have HX2 := hid (show wb.heap[w.heap.size]? = some (.cells (bcells n.1).toArray 46 (0, 0)) by rw [hwb]; exact HX.out)
  go_enter L.f_searchE, Try.ntmps40
  go_wp2
  go_loopg [9, 10] l.length (fun kx s9 s10 wr => ∃ (i j : Nat), s9 = .int .i64 i ∧ s10 = .int .i64 j ∧ i ≤ j ∧ j ≤ l.length ∧ j - i ≤ kx ∧ Hid (∀ t, t < i → ltL l[t]!.nm.1 n.1 = true) ∧ Hid (∀ t, j ≤ t → t < l.length → ltL l[t]!.nm.1 n.1 = false) ∧ Hid (Grown wb wr))
  case atStart => exact ⟨0, l.length, rfl, rfl, Nat.zero_le _, Nat.le_refl _, Nat.le_refl _, hid (fun t h => absurd h (by omega)), hid (fun t h1 h2 => absurd h1 (by omega)), hid (by rw [← hwb]; exact Grown.refl _)⟩
  case round =>
    clear hwb
    obtain ⟨i, j, rfl, rfl, hij, hj, hkx, HL, HH, HG⟩ := hrel
    have ldh : ∀ m os, Sem.run P (loadCellsFrom ⟨w.heap.size, 0, none⟩ 0 h #[]) (grow (wr.drewN m) os) = .ok (bcells n.1).toArray (grow (wr.drewN m) os) := fun m os => by
      rw [L.hh]; exact load_hash (((HG.out.trans ⟨m, os, rfl⟩).fr (fun _ => False)).heap HX2.out id)
    by_cases hlt : i < j
    · obtain ⟨b, off, rfl, hb, hS, hcell⟩ := H4.out.resolve_left (fun e => by subst e; simp at hj; omega)
      obtain ⟨m, hm⟩ : ∃ m, m = (i + j) / 2 := ⟨_, rfl⟩
      have hm2 : ((i : Int) + (j : Int)) / 2 = (m : Int) := by omega
      have hm3 : i ≤ m := by omega
      have hm4 : m < j := by omega
      have hm5 : m < l.length := by omega
      clear hm
      obtain ⟨e, he⟩ : ∃ e, l[m]? = some e := ⟨l[m], by simp [hm5]⟩
      have hge : l[m]! = e := by rw [getElem!_pos l m hm5]; have := List.getElem?_eq_getElem hm5; rw [he] at this; injection this with this; exact this.symm
      have l1 : ∀ q os, Sem.run P (loadCellsFrom ⟨b, off + m * k, none⟩ 0 k #[]) (grow (wr.drewN q) os) = .ok (entC e).toArray (grow (wr.drewN q) os) := fun q os => by
        rw [L.hk]; exact load_ent (((HG0.out.trans HG.out).trans ⟨q, os, rfl⟩).cells hb hcell) he
      have hc := fun q os => RR.out (grow (wr.drewN q) os) e
      have hA2 : ∀ t, t < l.length → t < m → ltE l[t]! e = true := fun t h1 h2 => by rw [← hge]; exact HA.out.at h2 hm5
      have hA3 : ∀ t, t < l.length → m < t → ltE e l[t]! = true := fun t h1 h2 => by rw [← hge]; exact HA.out.at h2 h1
      have hcl : decide (cmpL e.nm.1 n.1 < 0) = ltL e.nm.1 n.1 := cmpL_neg _ _
      have A2 := hid hA2
      have A3 := hid hA3
      have GE := hid hge
      clear hcell he hge hA2 hA3
      cases hlv : ltL e.nm.1 n.1 with
      | true =>
        have HLV := hid hlv
        have hd : cmpL e.nm.1 n.1 < 0 := by rw [hlv] at hcl; exact of_decide_eq_true hcl
        clear hlv hcl
        generalize cmpL e.nm.1 n.1 = cc at *
        generalize entC e = X at *
        generalize bcells n.1 = N at *
        go_wp2_with fail
        refine wp_region_quiet_grown (by assumption) (by kernel_rfl) ?_
        repeat (first | go_big_quiet_step ((go_at_fn 41; refine Calls.grown_of (hc _ _))) | quiet_step ((go_at_fn 41; refine Calls.grown_of (hc _ _))))
        refine wpQuiet_nil ?_
        intro _ hw'
        obtain ⟨⟨nq, osq⟩, hw''⟩ := hw'
        subst hw''
        go_wp2
        go_roundg (j - (m + 1))
        case measure => omega
        case rel => exact ⟨m + 1, j, by go_num, rfl, by omega, hj, Nat.le_refl _, hid (fun t ht => by
          by_cases e1 : t = m
          · rw [e1, GE.out]; exact HLV.out
          · exact ltL_trans _ _ _ (A2.out t (by omega) (by omega)) HLV.out), HH, hid (HG.out.trans ⟨nq, osq, rfl⟩)⟩
      | false =>
        have HLV := hid hlv
        have hd : ¬ cmpL e.nm.1 n.1 < 0 := by rw [hlv] at hcl; exact of_decide_eq_false hcl
        clear hlv hcl
        generalize cmpL e.nm.1 n.1 = cc at *
        generalize entC e = X at *
        generalize bcells n.1 = N at *
        go_wp2_with fail
        refine wp_region_quiet_grown (by assumption) (by kernel_rfl) ?_
        repeat (first | go_big_quiet_step ((go_at_fn 41; refine Calls.grown_of (hc _ _))) | quiet_step ((go_at_fn 41; refine Calls.grown_of (hc _ _))))
        refine wpQuiet_nil ?_
        intro _ hw'
        obtain ⟨⟨nq, osq⟩, hw''⟩ := hw'
        subst hw''
        go_wp2
        go_roundg (m - i)
        case measure => omega
        case rel => exact ⟨i, m, rfl, rfl, hm3, by omega, Nat.le_refl _, HL, hid (fun t h1 h2 => by
          by_cases e1 : t = m
          · rw [e1, GE.out]; exact HLV.out
          · cases hq : ltL l[t]!.nm.1 n.1 with
            | false => rfl
            | true => have := ltL_trans _ _ _ (A3.out t h2 (by omega)) hq; rw [HLV.out] at this; cases this), hid (HG.out.trans ⟨nq, osq, rfl⟩)⟩
    · obtain rfl : i = j := by omega
      have HF := hid (show Found l n i from ⟨hj, HL.out, HH.out⟩)
      clear HL HH
      by_cases hin : i < l.length
      · obtain ⟨b, off, rfl, hb, hS, hcell⟩ := H4.out.resolve_left (fun e => by subst e; simp at hin)
        obtain ⟨e, he⟩ : ∃ e, l[i]? = some e := ⟨l[i], by simp [hin]⟩
        have hge : l[i]! = e := by rw [getElem!_pos l i hin]; have := List.getElem?_eq_getElem hin; rw [he] at this; injection this with this; exact this.symm
        have l1 : ∀ q os, Sem.run P (loadCellsFrom ⟨b, off + i * k, none⟩ 0 k #[]) (grow (wr.drewN q) os) = .ok (entC e).toArray (grow (wr.drewN q) os) := fun q os => by
          rw [L.hk]; exact load_ent (((HG0.out.trans HG.out).trans ⟨q, os, rfl⟩).cells hb hcell) he
        have hc := fun q os => RR.out (grow (wr.drewN q) os) e
        have hB : (cmpL e.nm.1 n.1 == 0) = decide (i < l.length ∧ l[i]!.nm = n) := by
          rw [hge]
          have := cmpL_zero e.nm.1 n.1
          by_cases q : e.nm = n
          · rw [q] at this ⊢
            simp [hin, this.2 rfl]
          · have q2 : e.nm.1 ≠ n.1 := fun h => q (Subtype.ext h)
            have q3 : ¬ cmpL e.nm.1 n.1 = 0 := fun h => q2 (this.1 h)
            simp [q, q3]
        have HB := hid hB
        have hii : decide (i < l.length) = true := decide_eq_true hin
        clear hcell he hge hB
        generalize cmpL e.nm.1 n.1 = cc at *
        generalize entC e = X at *
        generalize bcells n.1 = N at *
        go_wp2_with fail
        refine wp_region_quiet_grown (by assumption) (by kernel_rfl) ?_
        repeat (first | go_big_quiet_step ((go_at_fn 41; refine Calls.grown_of (hc _ _))) | quiet_step ((go_at_fn 41; refine Calls.grown_of (hc _ _))))
        refine wpQuiet_nil ?_
        intro _ hw'
        obtain ⟨⟨nq, osq⟩, hw''⟩ := hw'
        subst hw''
        go_wp2
        go_ret2
        exact ⟨i, HF.out, by rw [← HB.out]; rfl, (HG0.out.trans HG.out).trans ⟨nq, osq, rfl⟩⟩
      · obtain rfl : i = l.length := by omega
        have HB := hid (show (false : Bool) = decide (l.length < l.length ∧ l[l.length]!.nm = n) by simp)
        generalize bcells n.1 = N at *
        go_wp2_with fail
        refine wp_region_quiet_grown (by assumption) (by kernel_rfl) ?_
        repeat (first | go_big_quiet_step (fail) | quiet_step (fail))
        refine wpQuiet_nil ?_
        intro _ hw'
        obtain ⟨⟨nq, osq⟩, hw''⟩ := hw'
        subst hw''
        go_wp2
        go_ret2
        exact ⟨l.length, HF.out, by rw [← HB.out]; rfl, (HG0.out.trans HG.out).trans ⟨nq, osq, rfl⟩⟩
end Go.Proofs.Ytpomfegcifpfkaa
