/- Slices of numbers; the document's Without. -/
import Derived.Test.YtdbpkiddiehliaaGreatR10Find
import Derived.Test.YtdbpkiddiehliaaGreatR10Same
namespace Go.Proofs.YtdbpkiddiehliaaGreat
open Go Go.RowKit Go.Sort
def icells (l : List Int) : List Value := l.map (Value.int .i64)
theorem icells_length (l : List Int) : (icells l).length = l.length := List.length_map ..
theorem icells_one (l : List Int) : ∀ u ∈ icells l, u.oneCell' = true := by
  intro u hu
  obtain ⟨z, _, rfl⟩ := List.mem_map.1 hu
  rfl
theorem icells_at {l : List Int} {i : Nat} {z : Int} (h : l[i]? = some z) : (icells l)[i]? = some (.int .i64 z) := by unfold icells; rw [List.getElem?_map, h]; rfl
/-- v is a slice of just these numbers, which lie outside S. -/
def Is (S : Nat → Prop) (w : World) (v : Value) (l : List Int) : Prop := Row S w v l.length 1 (icells l)
theorem Is.cases {S : Nat → Prop} {w : World} {v : Value} {l : List Int} (h : Is S w v l) : ∃ a c, v = .slice a l.length c ∧ l.length ≤ 140737488355328 ∧ l.length ≤ c ∧ c ≤ maxLen ∧
    (l = [] ∨ ∃ b off, a = some ⟨b, off, none⟩ ∧ b < w.heap.size ∧ ¬ S b ∧ ∀ (i : Nat) (z : Int), l[i]? = some z → w.cell? ⟨b, off + i, none⟩ = some (.int .i64 z)) := by
  obtain ⟨_, a, c, h1, h2, h3, h4⟩ := h
  refine ⟨a, c, h1, h2.2.1, h2.1, h2.2.2, ?_⟩
  rcases h4 with h4 | ⟨b, off, e1, e2, e3, e4⟩
  · exact .inl (List.eq_nil_of_length_eq_zero h4)
  · exact .inr ⟨b, off, e1, e2, e3, fun i z hi => e4 _ _ (icells_at hi)⟩
/-- Is a number among these? -/
def inI (ps : List Int) (x : Int) : Bool := decide (x ∈ ps)
/-- An entry is none of these packs. -/
def keepF (ps : List Int) (e : Ent) : Bool := !inI ps e.pk
theorem inI_take {ps : List Int} {q : Nat} {z x : Int} (h : ps[q]? = some z) : inI (ps.take (q + 1)) x = (inI (ps.take q) x || decide (z = x)) := by
  unfold inI
  rw [List.take_add_one, h, ← Bool.decide_or]
  refine decide_eq_decide.2 ?_
  simp only [Option.toList_some, List.mem_append, List.mem_singleton]
  exact ⟨fun h => h.imp id Eq.symm, fun h => h.imp id Eq.symm⟩
variable {P : Program} {k h : Nat}
set_option maxHeartbeats 8000000 in
set_option maxRecDepth 100000 in
theorem r10Without_ok (L : SG P k h) (R : SR P) (E : ET P 22 61 k 56 (.agg (entC default).toArray)) (u_tInts : P.underlying 25 = some (TypeDesc.slice 3)) {S S' : Nat → Prop} (w : World) (v v' : Value) (l : List Ent) (ps : List Int) (hv : Es S w v l) (hp : Is S' w v' ps) (hlen : l.length ≤ 1000000) : Calls P 14 #[v, v'] w (RetR' w (l.filter (keepF ps))) := by
  obtain ⟨a, c, rfl, hl1, hl2, hl3, _, h4⟩ := hv.cases
  obtain ⟨a', c', rfl, hp1, hp2, hp3, h4'⟩ := hp.cases
  unfold maxLen at hl3 hp3
  have u_tUnit := L.u_tUnit; have r_tUnit := L.r_tUnit; have a_tUnit := L.a_tUnit; have z_tUnit := L.z_tUnit; have v_tUnit := L.v_tUnit; have u_tInt := L.u_tInt; have r_tInt := L.r_tInt; have a_tInt := L.a_tInt; have z_tInt := L.z_tInt; have v_tInt := L.v_tInt; have u_tBool := L.u_tBool; have r_tBool := L.r_tBool; have a_tBool := L.a_tBool; have z_tBool := L.z_tBool; have v_tBool := L.v_tBool; have u_tHash := L.u_tHash; have r_tHash := L.r_tHash; have a_tHash := L.a_tHash; have z_tHash := L.z_tHash; have v_tHash := L.v_tHash; have u_tWhere := L.u_tWhere; have r_tWhere := L.r_tWhere; have a_tWhere := L.a_tWhere; have z_tWhere := L.z_tWhere; have v_tWhere := L.v_tWhere; have u_tRWhere := L.u_tRWhere; have r_tRWhere := L.r_tRWhere; have a_tRWhere := L.a_tRWhere; have z_tRWhere := L.z_tRWhere; have v_tRWhere := L.v_tRWhere; have u_tREnt := L.u_tREnt; have r_tREnt := L.r_tREnt; have a_tREnt := L.a_tREnt; have z_tREnt := L.z_tREnt; have v_tREnt := L.v_tREnt; have u_tREnts := L.u_tREnts; have r_tREnts := L.r_tREnts; have a_tREnts := L.a_tREnts; have z_tREnts := L.z_tREnts; have v_tREnts := L.v_tREnts
  have r_tInts := fun w => run_underlying (w := w) u_tInts
  have mixed := L.mixed
  have H4 := hid h4
  have H4' := hid h4'
  clear h4 h4' hv hp
  go_enter R.f_r10Without, Tryz.ntmps14
  go_wp2
  go_loopg [5, 6] l.length (fun kx s5 s6 wr => ∃ (i : Nat) (a : Option Addr) (c n : Nat), s6 = .int .i64 i ∧ i ≤ l.length ∧ l.length - i ≤ kx ∧ s5 = .slice a n c ∧ n ≤ i ∧ Hid (((l.take i).filter (keepF ps)).length = n) ∧ Hid (Own wr w.heap.size 61 k (.slice a n c) n (((l.take i).filter (keepF ps)).flatMap entC)) ∧ Hid (Below w.heap.size w wr))
  case atStart => exact ⟨0, none, 0, 0, rfl, Nat.zero_le _, Nat.le_refl _, rfl, Nat.le_refl _, hid rfl, hid (by simpa using Own.nil _ _ _ _), hid (Below.refl _ _)⟩
  case round =>
    obtain ⟨i, a5, c5, n5, rfl, hi, hkx, rfl, hn5, HN, HO, HB⟩ := hrel
    by_cases hlt : i < l.length
    · obtain ⟨b, off, rfl, hb, hS, hcell⟩ := H4.out.resolve_left (fun e => by subst e; simp at hlt)
      obtain ⟨e, he⟩ : ∃ e, l[i]? = some e := ⟨l[i], by simp [hlt]⟩
      have HE := hid he
      have HC := hid hcell
      clear he hcell
      go_wp2
      obtain ⟨wo, rfl⟩ : ∃ wo : World, wo = wr := ⟨_, rfl⟩
      go_loopg [7, 8] ps.length (fun ky s7 s8 wi => ∃ q : Nat, s8 = .int .i64 q ∧ q ≤ ps.length ∧ ps.length - q ≤ ky ∧ s7 = .bool (inI (ps.take q) e.pk) ∧ Hid (Grown wo wi))
      case atStart => exact ⟨0, rfl, Nat.zero_le _, Nat.le_refl _, by simp [inI], hid (Grown.refl _)⟩
      case round =>
        have HKX := hid hkx
        clear hkx
        obtain ⟨q, rfl, hq, hky, rfl, HG⟩ := hrel
        have hble := HB.out.size
        have hcr : ∀ W, Below wo.heap.size wo W → ∀ i e j x, l[i]? = some e → (entC e)[j]? = some x → W.cell? ⟨b, off + i * 35 + j, none⟩ = some x := fun W hW i e j x h1 h2 => ((HB.out.trans (hW.mono hble)).cell (p := ⟨b, off + i * 35 + j, none⟩) hb).trans (HC.out i e j x h1 h2)
        have k0 : ¬ k = 0 := by rw [L.hk]; omega
        by_cases hql : q < ps.length
        · obtain ⟨pb, po, rfl, hpb, _, hpc⟩ := H4'.out.resolve_left (fun e => by subst e; simp at hql)
          obtain ⟨z, hz⟩ : ∃ z, ps[q]? = some z := ⟨ps[q], by simp [hql]⟩
          have kz : ∀ n, (wr.drewN n).cell? ⟨pb, po + q, none⟩ = some (.int .i64 z) := fun n => ((HB.out.trans ((HG.out.drewN n).below.mono hble)).cell (p := ⟨pb, po + q, none⟩) hpb).trans (hpc q z hz)
          have c0 : ∀ n, (wr.drewN n).cell? ⟨b, off + i * k + 32, none⟩ = some (.int .i64 e.pk) := fun n => by rw [L.hk]; exact hcr _ (HG.out.drewN n).below i e 32 _ HE.out (entC_at e).1
          have HZ := hid (inI_take (x := e.pk) hz)
          clear hcr hz hpc
          generalize e.pk = p0 at *
          cases hin : inI (ps.take q) p0 with
          | true =>
            rw [hin] at HZ
            clear hin
            go_wp2_with fail
            refine wp_region_quiet_lit (by assumption) (by kernel_rfl) ?_
            repeat (first | go_big_quiet_step (fail) | quiet_step (fail))
            refine wpQuiet_nil ?_
            intro _ hw'
            obtain ⟨nq, hw''⟩ := hw'
            subst hw''
            go_wp2
            go_roundg (ps.length - (q + 1))
            case measure => omega
            case rel => exact ⟨q + 1, by go_num, hql, Nat.le_refl _, by rw [HZ.out]; rfl, hid (HG.out.drewN _)⟩
          | false =>
            rw [hin] at HZ
            clear hin
            by_cases hzp : z = p0
            · have hd : (z == p0) = true := by simpa using hzp
              have HD := hid hzp
              clear hzp
              go_wp2_with fail
              refine wp_region_quiet_lit (by assumption) (by kernel_rfl) ?_
              repeat (first | go_big_quiet_step (fail) | quiet_step (fail))
              refine wpQuiet_nil ?_
              intro _ hw'
              obtain ⟨nq, hw''⟩ := hw'
              subst hw''
              go_wp2
              go_roundg (ps.length - (q + 1))
              case measure => omega
              case rel => exact ⟨q + 1, by go_num, hql, Nat.le_refl _, by rw [HZ.out, HD.out]; simp, hid (HG.out.drewN _)⟩
            · have hd : (z == p0) = false := by simpa using hzp
              have HD := hid hzp
              clear hzp
              go_wp2_with fail
              refine wp_region_quiet_lit (by assumption) (by kernel_rfl) ?_
              repeat (first | go_big_quiet_step (fail) | quiet_step (fail))
              refine wpQuiet_nil ?_
              intro _ hw'
              obtain ⟨nq, hw''⟩ := hw'
              subst hw''
              go_wp2
              go_roundg (ps.length - (q + 1))
              case measure => omega
              case rel => exact ⟨q + 1, by go_num, hql, Nat.le_refl _, by rw [HZ.out, decide_eq_false HD.out]; rfl, hid (HG.out.drewN _)⟩
        · obtain rfl : q = ps.length := by omega
          have HK := hid (show keepF ps e = !inI (ps.take ps.length) e.pk by rw [List.take_of_length_le (Nat.le_refl _)]; rfl)
          have HT := hid (show l.take (i + 1) = l.take i ++ [e] by rw [List.take_add_one, HE.out]; rfl)
          cases hin : inI (ps.take ps.length) e.pk with
          | true =>
            rw [hin] at HK
            clear hin hcr
            go_wp2
            go_roundg (l.length - (i + 1))
            case measure => have := HKX.out; omega
            case rel =>
              have hk : keepF ps e = false := HK.out
              have hf : (l.take (i + 1)).filter (keepF ps) = (l.take i).filter (keepF ps) := by rw [HT.out, List.filter_append]; simp [hk]
              have hgb := HG.out.below
              exact ⟨i + 1, a5, c5, n5, by go_num, hlt, Nat.le_refl _, rfl, by omega, hid (by rw [hf]; exact HN.out), hid (by rw [hf]; exact HO.out.fr (HG.out.fr (fun _ => False)) (fun _ _ => id)), hid (HB.out.trans (hgb.mono hble))⟩
          | false =>
            rw [hin] at HK
            have hgb := HG.out.below
            have l1 : Sem.run P (loadCellsFrom ⟨b, off + i * k, none⟩ 0 k #[]) wr = .ok (entC e).toArray wr := by rw [L.hk]; exact load_ent (hcr wr hgb) HE.out
            have b7 : ¬ 16777216 < k := by rw [L.hk]; omega
            have b8 : (entC e).length = k := by rw [L.hk, entC_length]
            have b9 : ¬ k < (entC e).length := by omega
            have b10 : List.foldl (fun (cs : Array Value) (x : Value × Nat) => cs.setIfInBounds x.snd x.fst) (Array.map (fun x => (entC default)[x % (entC default).length]?.getD default) (Array.range k)) (entC e).zipIdx = (entC e).toArray := by
              rw [foldl_zipIdx]; exact setMany_full (by simp [b8])
            have hrow : Row (fun _ => False) (wr.alloc (.cells (entC e).toArray 61 (0, 0))) (.slice (some ⟨wr.heap.size, 0, none⟩) 1 1) 1 k (entC e) := by
              refine ⟨by rw [entC_length, L.hk], _, 1, rfl, ⟨by omega, by omega, by unfold maxLen; omega⟩, (fun h => nomatch h), .inr ⟨wr.heap.size, 0, rfl, by simp, id, fun j x hx => ?_⟩⟩
              have h9 := cell_of_heap (heap_alloc_new wr (.cells (entC e).toArray 61 (0, 0))) j
              rw [Nat.zero_add]
              refine h9.trans ?_
              simpa using hx
            have HROW := hid hrow
            have hone := hid (entC_one e)
            have HGB := hid hgb
            have hgz := hgb.size
            clear hin hcr hrow hgb
            have HF := hid (show ((l.take i).filter (keepF ps)).flatMap entC ++ entC e = ((l.take (i + 1)).filter (keepF ps)).flatMap entC ∧ ((l.take (i + 1)).filter (keepF ps)).length = n5 + 1 by
              have hk : keepF ps e = true := HK.out
              have hf : (l.take (i + 1)).filter (keepF ps) = (l.take i).filter (keepF ps) ++ [e] := by rw [HT.out, List.filter_append]; simp [hk]
              rw [hf, List.length_append, HN.out]; simp)
            generalize entC default = Z at *
            generalize entC e = Y at *
            go_wp2_with (at_builtin; refine wpl_append (v := .slice a5 n5 c5) (S := fun _ => False) (base := w.heap.size) rfl rfl E rfl (Own.fr HO.out ((HG.out.fr (fun _ => False)).alloc _) (fun _ _ h => h)) rfl HROW.out hone.out (by omega) (by simp; omega) ?_; intro v6 w6 ho6 hf6 hm6; obtain ⟨a6, c6, rfl, _⟩ := ho6.len; have HO6 := hid (And.intro ho6 (And.intro hf6 hm6)); clear ho6 hf6 hm6)
            go_roundg (l.length - (i + 1))
            case measure => have := HKX.out; omega
            case rel =>
              obtain ⟨ho6, hf6, hm6⟩ := HO6.out
              rw [HF.out.1] at ho6
              refine ⟨i + 1, a6, c6, n5 + 1, by go_num, hlt, Nat.le_refl _, rfl, by omega, hid HF.out.2, hid ho6, hid ?_⟩
              refine Below.fr ((HB.out.trans (HGB.out.mono hble)).alloc (by omega) _) hf6 (fun q hq hm => ?_)
              have := (Own.mine_ge HO.out hm).1
              omega
    · obtain rfl : i = l.length := by omega
      go_wp2
      go_ret
      have h1 := HO.out
      have h2 := HN.out
      rw [List.take_of_length_le (Nat.le_refl _)] at h1 h2
      rw [L.hk] at h1
      subst h2
      exact ⟨_, _, rfl, h1, HB.out⟩
end Go.Proofs.YtdbpkiddiehliaaGreat
