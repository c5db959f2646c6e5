/- The document's Find. -/
import Derived.Test.YtpomfegcifpfkaaR10Right
import Derived.Test.YtpomfegcifpfkaaSegFind
import Derived.Test.YtpomfegcifpfkaaR10Same
namespace Go.Proofs.Ytpomfegcifpfkaa
open Go Go.RowKit Go.Sort
variable {P : Program} {k h : Nat}
theorem firstE_at {l : List Ent} {n : Nm} : ∀ {i : Nat} {e : Ent}, l[i]? = some e → (∀ j x, j < i → l[j]? = some x → x.nm ≠ n) → e.nm = n → firstE n l = some e := by
  induction l with
  | nil => intro i e h; simp at h
  | cons a l ih =>
    intro i e h hno hn
    rw [firstE_cons]
    cases i with
    | zero => simp only [List.getElem?_cons_zero, Option.some.injEq] at h; subst h; rw [if_pos hn]
    | succ i =>
      rw [if_neg (hno 0 a (by omega) rfl)]
      exact ih (by simpa using h) (fun j x hj hx => hno (j + 1) x (by omega) (by simpa using hx)) hn
theorem firstE_no {l : List Ent} {n : Nm} (hno : ∀ (j : Nat) (x : Ent), l[j]? = some x → x.nm ≠ n) : firstE n l = none := by
  induction l with
  | nil => rfl
  | cons a l ih =>
    rw [firstE_cons, if_neg (hno 0 a rfl)]
    exact ih fun j x hx => hno (j + 1) x (by simpa using hx)
/-- A name is loaded out of an entry of a list. -/
theorem load_nm {P : Program} {w : World} {b off i : Nat} {l : List Ent} {e : Ent} (hc : ∀ i e j x, l[i]? = some e → (entC e)[j]? = some x → w.cell? ⟨b, off + i * 35 + j, none⟩ = some x) (hi : l[i]? = some e) :
    Sem.run P (loadCellsFrom ⟨b, off + i * 35, none⟩ 0 32 #[]) w = .ok (bcells e.nm.1).toArray w := by
  refine run_loadCellsFrom_list P _ _ (bcells e.nm.1) 32 (by rw [bcells_length, e.nm.2]) (fun q u hu => ?_)
  have hadd : (⟨b, off + i * 35, none⟩ : Addr).add q = ⟨b, off + i * 35 + q, none⟩ := by unfold Addr.add; split <;> simp_all
  rw [hadd]
  refine hc i e q u hi ?_
  unfold entC
  rw [List.getElem?_append_left (List.getElem?_eq_some_iff.1 hu).1]; exact hu
end Go.Proofs.Ytpomfegcifpfkaa
/- Slices of numbers; the document's Without. -/
namespace Go.Proofs.Ytpomfegcifpfkaa
open Go Go.RowKit Go.Sort
def icells (l : List Int) : List Value := l.map (Value.int .i64)
theorem icells_length (l : List Int) : (icells l).length = l.length := List.length_map ..
theorem icells_one (l : List Int) : ∀ u ∈ icells l, u.oneCell' = true := by
  intro u hu
  obtain ⟨z, _, rfl⟩ := List.mem_map.1 hu
  rfl
theorem icells_at {l : List Int} {i : Nat} {z : Int} (h : l[i]? = some z) : (icells l)[i]? = some (.int .i64 z) := by unfold icells; rw [List.getElem?_map, h]; rfl
/-- v is a slice of just these numbers, which lie outside S. -/
def Is (S : Nat → Prop) (w : World) (v : Value) (l : List Int) : Prop := Row S w v l.length 1 (icells l)
theorem Is.cases {S : Nat → Prop} {w : World} {v : Value} {l : List Int} (h : Is S w v l) : ∃ a c, v = .slice a l.length c ∧ l.length ≤ 140737488355328 ∧ l.length ≤ c ∧ c ≤ maxLen ∧
    (l = [] ∨ ∃ b off, a = some ⟨b, off, none⟩ ∧ b < w.heap.size ∧ ¬ S b ∧ ∀ (i : Nat) (z : Int), l[i]? = some z → w.cell? ⟨b, off + i, none⟩ = some (.int .i64 z)) := by
  obtain ⟨_, a, c, h1, h2, h3, h4⟩ := h
  refine ⟨a, c, h1, h2.2.1, h2.1, h2.2.2, ?_⟩
  rcases h4 with h4 | ⟨b, off, e1, e2, e3, e4⟩
  · exact .inl (List.eq_nil_of_length_eq_zero h4)
  · exact .inr ⟨b, off, e1, e2, e3, fun i z hi => e4 _ _ (icells_at hi)⟩
/-- Is a number among these? -/
def inI (ps : List Int) (x : Int) : Bool := decide (x ∈ ps)
/-- An entry is none of these packs. -/
def keepF (ps : List Int) (e : Ent) : Bool := !inI ps e.pk
theorem inI_take {ps : List Int} {q : Nat} {z x : Int} (h : ps[q]? = some z) : inI (ps.take (q + 1)) x = (inI (ps.take q) x || decide (z = x)) := by
  unfold inI
  rw [List.take_add_one, h, ← Bool.decide_or]
  refine decide_eq_decide.2 ?_
  simp only [Option.toList_some, List.mem_append, List.mem_singleton]
  exact ⟨fun h => h.imp id Eq.symm, fun h => h.imp id Eq.symm⟩
variable {P : Program} {k h : Nat}
end Go.Proofs.Ytpomfegcifpfkaa
/- The document's Sort. -/
namespace Go.Proofs.Ytpomfegcifpfkaa
open Go Go.RowKit Go.Sort
theorem insE_end {e : Ent} : ∀ {o : List Ent}, (∀ (q : Nat) (x : Ent), o[q]? = some x → ltE x e = true) → insE e o = o ++ [e]
  | [], _ => rfl
  | a :: o, h => by
    rw [insE, if_pos (h 0 a rfl), insE_end (fun q x hx => h (q + 1) x (by simpa using hx))]; rfl
theorem insE_mid {e : Ent} : ∀ {o : List Ent} {j : Nat} {x : Ent}, o[j]? = some x → (∀ (q : Nat) (y : Ent), q < j → o[q]? = some y → ltE y e = true) → ltE x e = false → insE e o = if x.nm = e.nm then o else o.take j ++ (e :: o.drop j)
  | [], j, x, h, _, _ => by simp at h
  | a :: o, 0, x, h, _, hl => by
    simp only [List.getElem?_cons_zero, Option.some.injEq] at h
    subst h
    rw [insE, if_neg (by rw [hl]; simp)]; rfl
  | a :: o, j + 1, x, h, hq, hl => by
    rw [insE, if_pos (hq 0 a (by omega) rfl), insE_mid (o := o) (j := j) (by simpa using h) (fun q y hq' hy => hq (q + 1) y (by omega) (by simpa using hy)) hl]
    split <;> rfl
theorem flatE_one' (o : List Ent) : ∀ u ∈ o.flatMap entC, u.oneCell' = true := fun u hu => by
  obtain ⟨x, _, hx⟩ := List.mem_flatMap.1 hu
  exact entC_one x u hx
theorem flatC_length : ∀ s : List Ent, (s.flatMap entC).length = s.length * 35
  | [] => rfl
  | a :: s => by rw [List.flatMap_cons, List.length_append, entC_length, flatC_length s, List.length_cons, Nat.add_mul]; omega
/-- Entries that lie one behind the other are a row. -/
theorem rows_of {W : World} {g og c : Nat} {s : List Ent} (hb : g < W.heap.size) (hf : Fits s.length c) (h : ∀ i e q x, s[i]? = some e → (entC e)[q]? = some x → W.cell? ⟨g, og + i * 35 + q, none⟩ = some x) :
    Row (fun _ => False) W (.slice (some ⟨g, og, none⟩) s.length c) s.length 35 (s.flatMap entC) := by
  have hl : (s.flatMap entC).length = s.length * 35 := flatC_length s
  refine ⟨hl, some ⟨g, og, none⟩, c, rfl, hf, (fun h => nomatch h), .inr ⟨g, og, rfl, hb, id, fun t x hx => ?_⟩⟩
  have ht : t < s.length * 35 := by rw [← hl]; exact (List.getElem?_eq_some_iff.1 hx).1
  have hr : t % 35 < 35 := Nat.mod_lt _ (by omega)
  obtain ⟨e, he⟩ : ∃ e, s[t / 35]? = some e := ⟨_, List.getElem?_eq_getElem (by omega)⟩
  obtain ⟨y, hy⟩ : ∃ y, (entC e)[t % 35]? = some y := ⟨_, List.getElem?_eq_getElem (by rw [entC_length]; exact hr)⟩
  have h9 := flat_at entC_length he hy
  rw [show t / 35 * 35 + t % 35 = t by omega, hx] at h9
  injection h9 with h9
  subst h9
  have := h (t / 35) e (t % 35) x he hy
  rwa [show og + t / 35 * 35 + t % 35 = og + t by omega] at this
variable {P : Program} {k h : Nat}
set_option maxHeartbeats 8000000 in
set_option maxRecDepth 100000 in
theorem r10Sort_ok (L : SG P k h) (R : SR P) (E : ET P 22 81 k 56 (.agg (entC default).toArray)) {S : Nat → Prop} (w : World) (v : Value) (l : List Ent) (hv : Es S w v l) (hlen : l.length ≤ 1000000) : Calls P 16 #[v] w (RetR' w (sortE l)) := by
  obtain ⟨a, c, rfl, hl1, hl2, hl3, _, h4⟩ := hv.cases
  unfold maxLen at hl3
  have u_tUnit := L.u_tUnit; have r_tUnit := L.r_tUnit; have a_tUnit := L.a_tUnit; have z_tUnit := L.z_tUnit; have v_tUnit := L.v_tUnit; have u_tInt := L.u_tInt; have r_tInt := L.r_tInt; have a_tInt := L.a_tInt; have z_tInt := L.z_tInt; have v_tInt := L.v_tInt; have u_tBool := L.u_tBool; have r_tBool := L.r_tBool; have a_tBool := L.a_tBool; have z_tBool := L.z_tBool; have v_tBool := L.v_tBool; have u_tHash := L.u_tHash; have r_tHash := L.r_tHash; have a_tHash := L.a_tHash; have z_tHash := L.z_tHash; have v_tHash := L.v_tHash; have u_tWhere := L.u_tWhere; have r_tWhere := L.r_tWhere; have a_tWhere := L.a_tWhere; have z_tWhere := L.z_tWhere; have v_tWhere := L.v_tWhere; have u_tRWhere := L.u_tRWhere; have r_tRWhere := L.r_tRWhere; have a_tRWhere := L.a_tRWhere; have z_tRWhere := L.z_tRWhere; have v_tRWhere := L.v_tRWhere; have u_tREnt := L.u_tREnt; have r_tREnt := L.r_tREnt; have a_tREnt := L.a_tREnt; have z_tREnt := L.z_tREnt; have v_tREnt := L.v_tREnt; have u_tREnts := L.u_tREnts; have r_tREnts := L.r_tREnts; have a_tREnts := L.a_tREnts; have z_tREnts := L.z_tREnts; have v_tREnts := L.v_tREnts
  have mixed := L.mixed
  have e_r03Less : ∀ args w, (callFunc 34 args).run P w = .ok (.enter 34 args) w := enters_of R.f_r03Less rfl rfl
  have R2 := hid (fun W x y => r03Less_ok L R W x y)
  have HEQ := hid (fun (x y : Nm) => eqH L.sc x y)
  have gH := L.sc.gH
  have H4 := hid h4
  have k0 : ¬ k = 0 := by rw [L.hk]; omega
  have h0 : ¬ h = 0 := by rw [L.hh]; omega
  clear h4 hv
  go_enter R.f_r10Sort, Try.ntmps16
  go_wp2
  go_loopg [3, 4] l.length (fun kx s3 s4 wr => ∃ (i : Nat) (a : Option Addr) (c : Nat) (o : List Ent), s4 = .int .i64 i ∧ i ≤ l.length ∧ l.length - i ≤ kx ∧ s3 = .slice a o.length c ∧ o.length ≤ i ∧ Hid (sortE (l.take i) = o) ∧ Hid (Own wr w.heap.size 81 k (.slice a o.length c) o.length (o.flatMap entC)) ∧ Hid (Below w.heap.size w wr))
  case atStart => exact ⟨0, none, 0, [], rfl, Nat.zero_le _, Nat.le_refl _, rfl, Nat.le_refl _, hid rfl, hid (by simpa using Own.nil _ _ _ _), hid (Below.refl _ _)⟩
  case round =>
    obtain ⟨i, a3, c3, o, rfl, hi, hkx, rfl, hon, HS, HO, HB⟩ := hrel
    by_cases hlt : i < l.length
    · obtain ⟨b, off, rfl, hb, hS, hcell⟩ := H4.out.resolve_left (fun e => by subst e; simp at hlt)
      obtain ⟨e, he⟩ : ∃ e, l[i]? = some e := ⟨l[i], by simp [hlt]⟩
      have HE := hid he
      have hble := HB.out.size
      have HNE := hid (fun W (hW : Below wr.heap.size wr W) => show Sem.run P (loadCellsFrom ⟨b, off + i * k, none⟩ 0 h #[]) W = .ok (bcells e.nm.1).toArray W by
        rw [L.hk, L.hh]
        exact load_nm (fun i e j x h1 h2 => ((HB.out.trans (hW.mono hble)).cell (p := ⟨b, off + i * 35 + j, none⟩) hb).trans (hcell i e j x h1 h2)) he)
      have HLE := hid (fun W (hW : Below wr.heap.size wr W) => show Sem.run P (loadCellsFrom ⟨b, off + i * k, none⟩ 0 k #[]) W = .ok (entC e).toArray W by
        rw [L.hk]
        exact load_ent (fun i e j x h1 h2 => ((HB.out.trans (hW.mono hble)).cell (p := ⟨b, off + i * 35 + j, none⟩) hb).trans (hcell i e j x h1 h2)) he)
      have hes : Es (fun _ => False) wr (.slice a3 o.length c3) o := by
        have := HO.out.row (S := fun _ => False) (fun _ _ _ => id)
        rw [L.hk] at this; exact this
      obtain ⟨_, _, hsl, ho1, ho2, ho3, hnn, ho4⟩ := hes.cases
      injection hsl with e1 _ e3
      subst e1 e3
      unfold maxLen at ho3
      have HO4 := hid ho4
      have HNN := hid hnn
      have HES := hid hes
      clear he hcell ho4 hes hnn
      go_wp2
      obtain ⟨wo, rfl⟩ : ∃ wo : World, wo = wr := ⟨_, rfl⟩
      go_loopg [5] o.length (fun ky s5 wi => ∃ j : Nat, s5 = .int .i64 j ∧ j ≤ o.length ∧ o.length - j ≤ ky ∧ Hid (∀ (q : Nat) (x : Ent), q < j → o[q]? = some x → ltE x e = true) ∧ Hid (Grown wo wi))
      case atStart => exact ⟨0, rfl, Nat.zero_le _, Nat.le_refl _, hid (fun q x hq => by omega), hid (Grown.refl _)⟩
      case round =>
        have HKX := hid hkx
        clear hkx
        obtain ⟨j, rfl, hj, hky, HQ, HG⟩ := hrel
        by_cases hjl : j < o.length
        · obtain ⟨g, og, rfl, hg, _, hoc⟩ := HO4.out.resolve_left (fun e => by subst e; simp at hjl)
          obtain ⟨x, hx⟩ : ∃ x, o[j]? = some x := ⟨o[j], by simp [hjl]⟩
          have lx : ∀ n os, Sem.run P (loadCellsFrom ⟨g, og + j * k, none⟩ 0 h #[]) (grow (wr.drewN n) os) = .ok (bcells x.nm.1).toArray (grow (wr.drewN n) os) := fun n os => by
            rw [L.hk, L.hh]
            exact load_nm (Grown.cells (HG.out.trans ⟨n, os, rfl⟩) hg hoc) hx
          have ly : ∀ n os, Sem.run P (loadCellsFrom ⟨b, off + i * k, none⟩ 0 h #[]) (grow (wr.drewN n) os) = .ok (bcells e.nm.1).toArray (grow (wr.drewN n) os) := fun n os => HNE.out _ (HG.out.trans ⟨n, os, rfl⟩ : Grown wo _).below
          have c2 : ∀ n os, Calls P 34 #[.agg (bcells x.nm.1).toArray, .agg (bcells e.nm.1).toArray] (grow (wr.drewN n) os) fun r w' => r = .returned (.bool (ltE x e)) ∧ ∃ q os', w' = grow ((grow (wr.drewN n) os).drewN q) os' := fun n os => R2.out _ x.nm e.nm
          have hh1 : (bcells x.nm.1).length = h := by rw [L.hh, bcells_length, x.nm.2]
          have hh2 : (bcells e.nm.1).length = h := by rw [L.hh, bcells_length, e.nm.2]
          have HX := hid hx
          have HOC := hid hoc
          clear hx hoc
          cases hl : ltE x e with
          | true =>
            rw [hl] at c2
            have HL := hid hl
            clear hl
            generalize bcells x.nm.1 = X at *
            generalize bcells e.nm.1 = Y at *
            go_wp2_with fail
            refine wp_region_quiet_grown (by assumption) (by kernel_rfl) ?_
            repeat (first | go_big_quiet_step ((go_at_fn 34; refine Calls.grown_of (c2 _ _))) | quiet_step ((go_at_fn 34; refine Calls.grown_of (c2 _ _))))
            refine wpQuiet_nil ?_
            intro _ hw'
            obtain ⟨⟨nq, osq⟩, hw''⟩ := hw'
            subst hw''
            go_wp2
            go_roundg (o.length - (j + 1))
            case measure => omega
            case rel => exact ⟨j + 1, by go_num, hjl, Nat.le_refl _, hid (fun q y hq hy => by
              by_cases hqj : q < j
              · exact HQ.out q y hqj hy
              · obtain rfl : q = j := by omega
                rw [HX.out] at hy; injection hy with hy; subst hy; exact HL.out), hid (HG.out.trans ⟨nq, osq, rfl⟩)⟩
          | false =>
            rw [hl] at c2
            have HL := hid hl
            clear hl
            go_wp2_with fail
            refine wp_region_quiet_grown (by assumption) (by kernel_rfl) ?_
            repeat (first | go_big_quiet_step ((go_at_fn 34; refine Calls.grown_of (c2 _ _))) | quiet_step ((go_at_fn 34; refine Calls.grown_of (c2 _ _))))
            refine wpQuiet_nil ?_
            intro _ hw'
            obtain ⟨⟨nq, osq⟩, hw''⟩ := hw'
            subst hw''
            go_wp2
            obtain ⟨wy, hwy⟩ : ∃ wy, wy = grow (wr.drewN nq) osq := ⟨_, rfl⟩
            have HGY := hid (show Grown wo wy by rw [hwy]; exact HG.out.trans ⟨nq, osq, rfl⟩)
            rw [← hwy]
            clear hwy c2 lx ly
            have lx : ∀ n, Sem.run P (loadCellsFrom ⟨g, og + j * k, none⟩ 0 h #[]) (wy.drewN n) = .ok (bcells x.nm.1).toArray (wy.drewN n) := fun n => by
              rw [L.hk, L.hh]
              exact load_nm (Grown.cells (HGY.out.drewN n) hg HOC.out) HX.out
            have ly : ∀ n, Sem.run P (loadCellsFrom ⟨b, off + i * k, none⟩ 0 h #[]) (wy.drewN n) = .ok (bcells e.nm.1).toArray (wy.drewN n) := fun n => HNE.out _ (HGY.out.drewN n).below
            have heq := HEQ.out x.nm e.nm
            have hne : ¬ c3 = j := by omega
            have hjn : (j == o.length) = false := by simp; omega
            have hjn2 : ((j : Int) == (o.length : Int)) = false := by simp; omega
            have hjn3 : decide (j = o.length) = false := decide_eq_false (by omega)
            have hjn4 : ¬ j = o.length := by omega
            by_cases hsame : x.nm = e.nm
            · rw [decide_eq_true hsame] at heq
              have HSM := hid hsame
              clear hsame
              generalize bcells x.nm.1 = X at *
              generalize bcells e.nm.1 = Y at *
              refine wp_region_quiet_lit (by assumption) (by kernel_rfl) ?_
              repeat (first | go_big_quiet_step (fail) | quiet_step (fail))
              refine wpQuiet_nil ?_
              intro _ hw'
              obtain ⟨nq, hw''⟩ := hw'
              subst hw''
              go_wp2
              go_roundg (l.length - (i + 1))
              case measure => have := HKX.out; omega
              case rel =>
                have hs : sortE (l.take (i + 1)) = o := by rw [List.take_add_one, HE.out]; show sortE (l.take i ++ [e]) = _; rw [sortE_snoc, HS.out, insE_mid HX.out HQ.out HL.out, if_pos HSM.out]
                exact ⟨i + 1, some ⟨g, og, none⟩, c3, o, by go_num, hlt, Nat.le_refl _, rfl, by omega, hid hs, hid (HO.out.fr ((HGY.out.drewN nq).fr (fun _ => False)) (fun _ _ => id)), hid (HB.out.trans ((HGY.out.drewN nq).below.mono hble))⟩
            · rw [decide_eq_false hsame] at heq
              have HSM := hid hsame
              clear hsame
              generalize bcells x.nm.1 = X at *
              generalize bcells e.nm.1 = Y at *
              refine wp_region_quiet_lit (by assumption) (by kernel_rfl) ?_
              repeat (first | go_big_quiet_step (fail) | quiet_step (fail))
              refine wpQuiet_nil ?_
              intro _ hw'
              obtain ⟨nq, hw''⟩ := hw'
              subst hw''
              obtain ⟨wz, hwz⟩ : ∃ wz, wz = wy.drewN nq := ⟨_, rfl⟩
              have HGZ := hid (show Grown wo wz by rw [hwz]; exact HGY.out.drewN _)
              rw [← hwz]
              clear hwz lx ly
              go_wp2
              have hjc : j ≤ c3 := by omega
              have hjl2 : (o.take j).length = j := by rw [List.length_take]; omega
              have hjd : (o.drop j).length = o.length - j := List.length_drop
              have HR1 := hid (show ∀ W, Below wo.heap.size wo W → Row (fun _ => False) W (.slice (some ⟨g, og, none⟩) j c3) j k ((o.take j).flatMap entC) from fun W hW => by
                have := rows_of (W := W) (g := g) (og := og) (c := c3) (s := o.take j) (Nat.lt_of_lt_of_le hg hW.size) ⟨by omega, by omega, by unfold maxLen; omega⟩ (fun q y r z h1 h2 => by
                  have hqj : q < j := by have := (List.getElem?_eq_some_iff.1 h1).1; omega
                  rw [List.getElem?_take_of_lt hqj] at h1
                  exact (hW.cell (p := ⟨g, og + q * 35 + r, none⟩) hg).trans (HOC.out q y r z h1 h2))
                rw [hjl2] at this
                rw [L.hk]; exact this)
              have hone1 := hid (flatE_one' (o.take j))
              have hone0 := hid (flatE_one' (o.drop j))
              have HR0 := hid (show ∀ W, Below wo.heap.size wo W → Row (fun _ => False) W (.slice (some ⟨g, og + j * k, none⟩) (o.length - j) (c3 - j)) (o.length - j) k ((o.drop j).flatMap entC) from fun W hW => by
                have := rows_of (W := W) (g := g) (og := og + j * 35) (c := c3 - j) (s := o.drop j) (Nat.lt_of_lt_of_le hg hW.size) ⟨by omega, by omega, by unfold maxLen; omega⟩ (fun q y r z h1 h2 => by
                  rw [List.getElem?_drop] at h1
                  have := (hW.cell (p := ⟨g, og + (j + q) * 35 + r, none⟩) hg).trans (HOC.out (j + q) y r z h1 h2)
                  rwa [show og + j * 35 + q * 35 + r = og + (j + q) * 35 + r by rw [Nat.add_mul]; omega])
                rw [hjd] at this
                rw [L.hk]; exact this)
              have le0 := HLE.out ((wz.alloc (.cells #[] 81 (0, 0))).drew) ((HGZ.out.alloc _).drew : Grown wo _).below
              have le1 := HLE.out wz.drew (HGZ.out.drew : Grown wo _).below
              have HA1 := hid ((HGZ.out.alloc (.cells #[] 81 (0, 0))).drew : Grown wo _).below
              have hone := hid (entC_one e)
              have b7 : ¬ 16777216 < k := by rw [L.hk]; omega
              have b8 : (entC e).length = k := by rw [L.hk, entC_length]
              have b9 : ¬ k < (entC e).length := by omega
              have b10 : List.foldl (fun (cs : Array Value) (x : Value × Nat) => cs.setIfInBounds x.snd x.fst) (Array.map (fun x => (entC default)[x % (entC default).length]?.getD default) (Array.range k)) (entC e).zipIdx = (entC e).toArray := by
                rw [foldl_zipIdx]; exact setMany_full (by simp [b8])
              generalize entC default = Z at *
              have HYF : Hid (∃ Y, Y = entC e ∧ o.flatMap entC ++ Y = (o ++ [e]).flatMap entC) := hid ⟨_, rfl, by simp⟩
              have HYG := hid (show o.flatMap entC ++ entC e = (o ++ [e]).flatMap entC by simp)
              have HYT := hid (show ∀ j, (o.take j).flatMap entC ++ entC e ++ (o.drop j).flatMap entC = (o.take j ++ (e :: o.drop j)).flatMap entC from fun j => by simp)
              clear HYF
              generalize entC e = Y at *
              have HA2 := hid (((HGZ.out.alloc (.cells #[] 81 (0, 0))).alloc (.cells Y.toArray 81 (0, 0))).drew : Grown wo _).below
              have HA3 := hid (((HGZ.out.alloc (.cells Y.toArray 81 (0, 0))).alloc (.cells #[] 81 (0, 0))).drew : Grown wo _).below
              have hzz := HGZ.out.size
              have HRY := hid (show ∀ W : World, Row (fun _ => False) (W.alloc (.cells Y.toArray 81 (0, 0))) (.slice (some ⟨W.heap.size, 0, none⟩) 1 1) 1 k Y from fun W => by
                refine ⟨by rw [b8]; omega, _, 1, rfl, ⟨by omega, by omega, by unfold maxLen; omega⟩, (fun h => nomatch h), .inr ⟨W.heap.size, 0, rfl, by simp, id, fun j x hx => ?_⟩⟩
                have h9 := cell_of_heap (heap_alloc_new W (.cells Y.toArray 81 (0, 0))) j
                rw [Nat.zero_add]
                refine h9.trans ?_
                simpa using hx)
              have HY2 := hid (show Row (fun _ => False) ((wz.alloc (.cells #[] 81 (0, 0))).alloc (.cells Y.toArray 81 (0, 0))).drew (.slice (some ⟨wz.heap.size + 1, 0, none⟩) 1 1) 1 k Y by
                have := HRY.out (wz.alloc (.cells #[] 81 (0, 0)))
                rw [show (wz.alloc (.cells #[] 81 (0, 0))).heap.size = wz.heap.size + 1 by simp] at this
                exact this.fr ((Fr.refl (fun _ => False) _).drew) (fun _ _ h => h))
              have HY3 := hid (show Row (fun _ => False) ((wz.alloc (.cells Y.toArray 81 (0, 0))).alloc (.cells #[] 81 (0, 0))).drew (.slice (some ⟨wz.heap.size, 0, none⟩) 1 1) 1 k Y from (HRY.out wz).fr (((Fr.refl (fun _ => False) _).alloc _).drew) (fun _ _ h => h))
              go_region_law_o ((first
                | (refine step_append (n := 0) (xs := []) (S := fun _ => False) (base := wo.heap.size) rfl rfl E rfl (own_empty _ _ _ _ _) rfl (HR1.out _ ?_) hone1.out (by omega) ?_ ?_; (· first | exact HA1.out | exact HA2.out | exact HA3.out); (· first | (simp; omega)); intro a5 c5 w5 ho5 hf5 hm5; simp only [Nat.zero_add, List.nil_append] at ho5 hm5; have B5 := hid (show Below wo.heap.size wo w5 from Below.fr (by first | exact HA1.out | exact HA2.out | exact HA3.out) hf5 (fun q hq hm => by obtain ⟨_, _, c', hv, hc⟩ := hm; injection hv with _ _ e3; omega)); have le5 := HLE.out w5 B5.out; have H5 := hid (And.intro ho5 (And.intro hf5 hm5)); have z5 := B5.out.size; clear ho5 hf5 hm5)
                | (refine step_append (n := j) (S := fun _ => False) (base := wo.heap.size) rfl rfl E rfl (Own.fr H5.out.1 ((Fr.refl (fun _ => False) w5).alloc (.cells Y.toArray 81 (0, 0))) (fun _ _ => id)) rfl (HRY.out w5) hone.out (by omega) (by simp; omega) ?_; intro a6 c6 w6 ho6 hf6 hm6; have B6 := hid (Below.fr (B5.out.alloc (by omega) (.cells Y.toArray 81 (0, 0))) hf6 (fun q hq hm => by have := (Own.mine_ge H5.out.1 hm).1; omega)); have z6 := B6.out.size; have H6 := hid ho6; clear ho6 hf6 hm6)
                | (refine step_append (n := j) (S := fun _ => False) (base := wo.heap.size) rfl rfl E rfl H5.out.1 rfl (Row.fr HY2.out H5.out.2.1 (fun q _ hm => by obtain ⟨_, _, c', hv, hc⟩ := hm; injection hv with _ _ e3; omega)) hone.out (by omega) (by omega) ?_; intro a6 c6 w6 ho6 hf6 hm6; have B6 := hid (Below.fr B5.out hf6 (fun q hq hm => by have := (Own.mine_ge H5.out.1 hm).1; omega)); have z6 := B6.out.size; have H6 := hid ho6; clear ho6 hf6 hm6)
                | (refine step_append (n := j) (S := fun _ => False) (base := wo.heap.size) rfl rfl E rfl H5.out.1 rfl (Row.fr HY3.out H5.out.2.1 (fun q _ hm => by obtain ⟨_, _, c', hv, hc⟩ := hm; injection hv with _ _ e3; omega)) hone.out (by omega) (by omega) ?_; intro a6 c6 w6 ho6 hf6 hm6; have B6 := hid (Below.fr B5.out hf6 (fun q hq hm => by have := (Own.mine_ge H5.out.1 hm).1; omega)); have z6 := B6.out.size; have H6 := hid ho6; clear ho6 hf6 hm6)
                | (refine step_append (n := j + 1) (m := o.length - j) (news := (o.drop j).flatMap entC) (S := fun _ => False) (base := wo.heap.size) rfl rfl E rfl H6.out rfl (HR0.out w6 B6.out) hone0.out (by omega) (by omega) ?_; intro a7 c7 w7 ho7 hf7 hm7; have B7 := hid (Below.fr B6.out hf7 (fun q hq hm => by have := (Own.mine_ge H6.out hm).1; omega)); have H7 := hid ho7; clear ho7 hf7 hm7)))
              all_goals go_wp2
              all_goals
                go_roundg (l.length - (i + 1))
                case measure => have := HKX.out; omega
                case rel =>
                  have hs : sortE (l.take (i + 1)) = o.take j ++ (e :: o.drop j) := by rw [List.take_add_one, HE.out]; show sortE (l.take i ++ [e]) = _; rw [sortE_snoc, HS.out, insE_mid HX.out HQ.out HL.out, if_neg HSM.out]
                  have hln : (o.take j ++ (e :: o.drop j)).length = j + 1 + (o.length - j) := by rw [List.length_append, List.length_cons, hjl2, hjd]; omega
                  have ho7 := H7.out
                  rw [HYT.out] at ho7
                  exact ⟨i + 1, a7, c7, o.take j ++ (e :: o.drop j), by go_num, hlt, Nat.le_refl _, by rw [hln], by omega, hid hs, hid (by rw [hln]; exact Own.mono ho7 hble), hid (HB.out.trans (B7.out.mono hble))⟩
        · obtain rfl : j = o.length := by omega
          go_wp2_with fail
          refine wp_region_quiet_grown (by assumption) (by kernel_rfl) ?_
          repeat (first | go_big_quiet_step (fail) | quiet_step (fail))
          refine wpQuiet_nil ?_
          intro _ hw'
          obtain ⟨⟨nq, osq⟩, hw''⟩ := hw'
          subst hw''
          go_wp2
          obtain ⟨wy, hwy⟩ : ∃ wy, wy = grow (wr.drewN nq) osq := ⟨_, rfl⟩
          have HGY := hid (show Grown wo wy by rw [hwy]; exact HG.out.trans ⟨nq, osq, rfl⟩)
          rw [← hwy]
          clear hwy
          refine wp_region_quiet_lit (by assumption) (by kernel_rfl) ?_
          repeat (first | go_big_quiet_step (fail) | quiet_step (fail))
          refine wpQuiet_nil ?_
          intro _ hw'
          obtain ⟨nq, hw''⟩ := hw'
          subst hw''
          obtain ⟨wz, hwz⟩ : ∃ wz, wz = wy.drewN nq := ⟨_, rfl⟩
          have HGZ := hid (show Grown wo wz by rw [hwz]; exact HGY.out.drewN _)
          rw [← hwz]
          clear hwz
          go_wp2
          have HR1 := hid (show ∀ W, Below wo.heap.size wo W → Row (fun _ => False) W (.slice a3 o.length c3) o.length k (o.flatMap entC) from fun W hW => by rw [L.hk]; exact HES.out.fr (Fr.of_below hW : Fr (fun _ => False) _ _) (fun _ _ h => h))
          have hone1 := hid (flatE_one' o)
          have hone0 := hid (show ∀ u ∈ ([] : List Value), u.oneCell' = true from fun u h => by cases h)
          have HR0 := hid (show ∀ W : World, Below wo.heap.size wo W → Row (fun _ => False) W (.slice (if c3 = o.length then a3 else Option.map (fun x => x.add (o.length * k)) a3) 0 (c3 - o.length)) 0 k [] from fun W _ => ⟨by simp, _, _, rfl, ⟨Nat.zero_le _, Nat.zero_le _, by unfold maxLen; omega⟩, (fun hn => by
            cases a3 with
            | none => have := HNN.out rfl; omega
            | some a => split at hn <;> cases hn), .inl rfl⟩)
          have le0 := HLE.out ((wz.alloc (.cells #[] 81 (0, 0))).drew) ((HGZ.out.alloc _).drew : Grown wo _).below
          have le1 := HLE.out wz.drew (HGZ.out.drew : Grown wo _).below
          have HA1 := hid ((HGZ.out.alloc (.cells #[] 81 (0, 0))).drew : Grown wo _).below
          have hone := hid (entC_one e)
          have b7 : ¬ 16777216 < k := by rw [L.hk]; omega
          have b8 : (entC e).length = k := by rw [L.hk, entC_length]
          have b9 : ¬ k < (entC e).length := by omega
          have b10 : List.foldl (fun (cs : Array Value) (x : Value × Nat) => cs.setIfInBounds x.snd x.fst) (Array.map (fun x => (entC default)[x % (entC default).length]?.getD default) (Array.range k)) (entC e).zipIdx = (entC e).toArray := by
            rw [foldl_zipIdx]; exact setMany_full (by simp [b8])
          generalize entC default = Z at *
          have HYF : Hid (∃ Y, Y = entC e ∧ o.flatMap entC ++ Y = (o ++ [e]).flatMap entC) := hid ⟨_, rfl, by simp⟩
          have HYG := hid (show o.flatMap entC ++ entC e = (o ++ [e]).flatMap entC by simp)
          have HYT := hid (show ∀ j, (o.take j).flatMap entC ++ entC e ++ (o.drop j).flatMap entC = (o.take j ++ (e :: o.drop j)).flatMap entC from fun j => by simp)
          clear HYF
          generalize entC e = Y at *
          have HA2 := hid (((HGZ.out.alloc (.cells #[] 81 (0, 0))).alloc (.cells Y.toArray 81 (0, 0))).drew : Grown wo _).below
          have HA3 := hid (((HGZ.out.alloc (.cells Y.toArray 81 (0, 0))).alloc (.cells #[] 81 (0, 0))).drew : Grown wo _).below
          have hzz := HGZ.out.size
          have HRY := hid (show ∀ W : World, Row (fun _ => False) (W.alloc (.cells Y.toArray 81 (0, 0))) (.slice (some ⟨W.heap.size, 0, none⟩) 1 1) 1 k Y from fun W => by
            refine ⟨by rw [b8]; omega, _, 1, rfl, ⟨by omega, by omega, by unfold maxLen; omega⟩, (fun h => nomatch h), .inr ⟨W.heap.size, 0, rfl, by simp, id, fun j x hx => ?_⟩⟩
            have h9 := cell_of_heap (heap_alloc_new W (.cells Y.toArray 81 (0, 0))) j
            rw [Nat.zero_add]
            refine h9.trans ?_
            simpa using hx)
          have HY2 := hid (show Row (fun _ => False) ((wz.alloc (.cells #[] 81 (0, 0))).alloc (.cells Y.toArray 81 (0, 0))).drew (.slice (some ⟨wz.heap.size + 1, 0, none⟩) 1 1) 1 k Y by
            have := HRY.out (wz.alloc (.cells #[] 81 (0, 0)))
            rw [show (wz.alloc (.cells #[] 81 (0, 0))).heap.size = wz.heap.size + 1 by simp] at this
            exact this.fr ((Fr.refl (fun _ => False) _).drew) (fun _ _ h => h))
          have HY3 := hid (show Row (fun _ => False) ((wz.alloc (.cells Y.toArray 81 (0, 0))).alloc (.cells #[] 81 (0, 0))).drew (.slice (some ⟨wz.heap.size, 0, none⟩) 1 1) 1 k Y from (HRY.out wz).fr (((Fr.refl (fun _ => False) _).alloc _).drew) (fun _ _ h => h))
          go_region_law_o ((first
            | (refine step_append (n := 0) (xs := []) (S := fun _ => False) (base := wo.heap.size) rfl rfl E rfl (own_empty _ _ _ _ _) rfl (HR1.out _ ?_) hone1.out (by omega) ?_ ?_; (· first | exact HA1.out | exact HA2.out | exact HA3.out); (· first | (simp; omega)); intro a5 c5 w5 ho5 hf5 hm5; simp only [Nat.zero_add, List.nil_append] at ho5 hm5; have B5 := hid (show Below wo.heap.size wo w5 from Below.fr (by first | exact HA1.out | exact HA2.out | exact HA3.out) hf5 (fun q hq hm => by obtain ⟨_, _, c', hv, hc⟩ := hm; injection hv with _ _ e3; omega)); have le5 := HLE.out w5 B5.out; have H5 := hid (And.intro ho5 (And.intro hf5 hm5)); have z5 := B5.out.size; clear ho5 hf5 hm5)
            | (refine step_append (n := o.length) (S := fun _ => False) (base := wo.heap.size) rfl rfl E rfl (Own.fr H5.out.1 ((Fr.refl (fun _ => False) w5).alloc (.cells Y.toArray 81 (0, 0))) (fun _ _ => id)) rfl (HRY.out w5) hone.out (by omega) (by simp; omega) ?_; intro a6 c6 w6 ho6 hf6 hm6; have B6 := hid (Below.fr (B5.out.alloc (by omega) (.cells Y.toArray 81 (0, 0))) hf6 (fun q hq hm => by have := (Own.mine_ge H5.out.1 hm).1; omega)); have z6 := B6.out.size; have H6 := hid ho6; clear ho6 hf6 hm6)
            | (refine step_append (n := o.length) (S := fun _ => False) (base := wo.heap.size) rfl rfl E rfl H5.out.1 rfl (Row.fr HY2.out H5.out.2.1 (fun q _ hm => by obtain ⟨_, _, c', hv, hc⟩ := hm; injection hv with _ _ e3; omega)) hone.out (by omega) (by omega) ?_; intro a6 c6 w6 ho6 hf6 hm6; have B6 := hid (Below.fr B5.out hf6 (fun q hq hm => by have := (Own.mine_ge H5.out.1 hm).1; omega)); have z6 := B6.out.size; have H6 := hid ho6; clear ho6 hf6 hm6)
            | (refine step_append (n := o.length) (S := fun _ => False) (base := wo.heap.size) rfl rfl E rfl H5.out.1 rfl (Row.fr HY3.out H5.out.2.1 (fun q _ hm => by obtain ⟨_, _, c', hv, hc⟩ := hm; injection hv with _ _ e3; omega)) hone.out (by omega) (by omega) ?_; intro a6 c6 w6 ho6 hf6 hm6; have B6 := hid (Below.fr B5.out hf6 (fun q hq hm => by have := (Own.mine_ge H5.out.1 hm).1; omega)); have z6 := B6.out.size; have H6 := hid ho6; clear ho6 hf6 hm6)
            | (refine step_append (n := o.length + 1) (m := 0) (news := []) (S := fun _ => False) (base := wo.heap.size) rfl rfl E rfl H6.out rfl (HR0.out w6 B6.out) hone0.out (by omega) (by omega) ?_; intro a7 c7 w7 ho7 hf7 hm7; have B7 := hid (Below.fr B6.out hf7 (fun q hq hm => by have := (Own.mine_ge H6.out hm).1; omega)); have H7 := hid ho7; clear ho7 hf7 hm7)))
          all_goals go_wp2
          all_goals
            go_roundg (l.length - (i + 1))
            case measure => have := HKX.out; omega
            case rel =>
              have hs : sortE (l.take (i + 1)) = o ++ [e] := by rw [List.take_add_one, HE.out]; show sortE (l.take i ++ [e]) = _; rw [sortE_snoc, HS.out]; exact insE_end (fun q x hx => HQ.out q x (List.getElem?_eq_some_iff.1 hx).1 hx)
              have ho7 := H7.out
              rw [List.append_nil, Nat.add_zero, HYG.out] at ho7
              exact ⟨i + 1, a7, c7, o ++ [e], by go_num, hlt, Nat.le_refl _, by rw [List.length_append]; rfl, by rw [List.length_append]; simp; omega, hid hs, hid (by rw [List.length_append]; exact Own.mono ho7 hble), hid (HB.out.trans (B7.out.mono hble))⟩
    · obtain rfl : i = l.length := by omega
      go_wp2
      go_ret
      have h1 := HO.out
      have h2 := HS.out
      rw [List.take_of_length_le (Nat.le_refl _)] at h2
      rw [L.hk] at h1
      subst h2
      exact ⟨_, _, rfl, h1, HB.out⟩
end Go.Proofs.Ytpomfegcifpfkaa
