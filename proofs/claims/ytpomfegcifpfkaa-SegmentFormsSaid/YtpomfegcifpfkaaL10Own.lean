/- law10's Own. -/
import Derived.Test.YtpomfegcifpfkaaSegSort
import Derived.Deep.RegionLaw
namespace Go.Proofs.Ytpomfegcifpfkaa
open Go Go.RowKit Go.Sort
variable {P : Program} {k h : Nat}
theorem foldl_zipIdx : ∀ (xs : List Value) (n : Nat) (arr : Array Value), List.foldl (fun (cs : Array Value) (x : Value × Nat) => cs.setIfInBounds x.snd x.fst) arr (xs.zipIdx n) = setMany arr n xs
  | [], _, _ => rfl
  | v :: r, n, arr => by rw [List.zipIdx_cons, List.foldl_cons, foldl_zipIdx r (n + 1)]; rfl
theorem setMany_full {arr : Array Value} {l : List Value} (h : arr.size = l.length) : setMany arr 0 l = l.toArray := by
  refine ext_get! (by simp [h]) fun t ht => ?_
  have ht' : t < arr.size := by simpa using ht
  rw [get_setMany _ _ _ t ht', if_pos (by omega), Nat.sub_zero, getElem!_pos l t (by omega), getElem!_pos l.toArray t (by simp; omega)]
  simp
/-- An entry is built out of its name and its three numbers. -/
theorem built_ent (e : Ent) : (((setMany (entC default).toArray 0 (bcells e.nm.1)).setIfInBounds 32 (.int .i64 e.pk)).setIfInBounds 33 (.int .i64 e.pos)).setIfInBounds 34 (.int .i64 e.ln) = (entC e).toArray := by
  have hl : (bcells e.nm.1).length = 32 := by rw [bcells_length, e.nm.2]
  have hE := entC_at e
  have hz : (setMany (entC default).toArray 0 (bcells e.nm.1)).size = 35 := by rw [size_setMany]; simp [entC_length]
  have gs : ∀ (F : Array Value) (i t : Nat) (v : Value), i < F.size → t < F.size → (F.setIfInBounds i v)[t]! = if t = i then v else F[t]! := fun F i t v hi ht => by
    by_cases h : t = i
    · subst h; rw [if_pos rfl]; exact getElem!_set_same F t v ht
    · rw [if_neg h, getElem!_pos _ t (by simpa using ht), getElem!_pos F t ht, Array.getElem_setIfInBounds ht, if_neg (Ne.symm h)]
  refine ext_get! (by simp [entC_length, hz]) fun t ht => ?_
  have ht' : t < 35 := by simpa [hz] using ht
  have hin : t < (entC e).length := by rw [entC_length]; exact ht'
  have hr : ∀ x, (entC e)[t]? = some x → (entC e).toArray[t]! = x := fun x hx => by
    rw [getElem!_pos _ t (by simpa using hin)]
    rw [List.getElem?_eq_getElem hin] at hx; injection hx with hx
  rw [gs _ _ _ _ (by simp [hz]) (by simp [hz]; omega), gs _ _ _ _ (by simp [hz]) (by simp [hz]; omega), gs _ _ _ _ (by simp [hz]) (by simp [hz]; omega)]
  by_cases h4 : t = 34
  · rw [if_pos h4]; subst h4; exact (hr _ hE.2.2).symm
  by_cases h3 : t = 33
  · rw [if_neg h4, if_pos h3]; subst h3; exact (hr _ hE.2.1).symm
  by_cases h2 : t = 32
  · rw [if_neg h4, if_neg h3, if_pos h2]; subst h2; exact (hr _ hE.1).symm
  rw [if_neg h4, if_neg h3, if_neg h2]
  have := get_setMany (bcells e.nm.1) 0 (entC default).toArray t (by simp [entC_length]; omega)
  rw [if_pos (by omega), Nat.sub_zero, getElem!_pos (bcells e.nm.1) t (by omega)] at this
  rw [this]
  refine (hr _ ?_).symm
  unfold entC; rw [List.getElem?_append_left (by omega), List.getElem?_eq_getElem (by omega)]
set_option maxHeartbeats 4000000 in
set_option maxRecDepth 100000 in
theorem l10Own_ok (L : SG P k h) {S : Nat → Prop} (w : World) (v : Value) (l : List Ent) (hv : Es S w v l) (hlen : l.length ≤ 1000000000) : Calls P 7 #[v] w (RetE' w l) := by
  obtain ⟨a, c, rfl, hl1, hl2, hl3, _, h4⟩ := hv.cases
  unfold maxLen at hl3
  have u_tUnit := L.u_tUnit; have r_tUnit := L.r_tUnit; have a_tUnit := L.a_tUnit; have z_tUnit := L.z_tUnit; have v_tUnit := L.v_tUnit; have u_tInt := L.u_tInt; have r_tInt := L.r_tInt; have a_tInt := L.a_tInt; have z_tInt := L.z_tInt; have v_tInt := L.v_tInt; have u_tBool := L.u_tBool; have r_tBool := L.r_tBool; have a_tBool := L.a_tBool; have z_tBool := L.z_tBool; have v_tBool := L.v_tBool; have u_tHash := L.u_tHash; have r_tHash := L.r_tHash; have a_tHash := L.a_tHash; have z_tHash := L.z_tHash; have v_tHash := L.v_tHash; have u_tWhere := L.u_tWhere; have r_tWhere := L.r_tWhere; have a_tWhere := L.a_tWhere; have z_tWhere := L.z_tWhere; have v_tWhere := L.v_tWhere; have u_tRWhere := L.u_tRWhere; have r_tRWhere := L.r_tRWhere; have a_tRWhere := L.a_tRWhere; have z_tRWhere := L.z_tRWhere; have v_tRWhere := L.v_tRWhere; have u_tEnt := L.u_tEnt; have r_tEnt := L.r_tEnt; have a_tEnt := L.a_tEnt; have z_tEnt := L.z_tEnt; have v_tEnt := L.v_tEnt; have u_tREnt := L.u_tREnt; have r_tREnt := L.r_tREnt; have a_tREnt := L.a_tREnt; have z_tREnt := L.z_tREnt; have v_tREnt := L.v_tREnt; have u_tEnts := L.u_tEnts; have r_tEnts := L.r_tEnts; have a_tEnts := L.a_tEnts; have z_tEnts := L.z_tEnts; have v_tEnts := L.v_tEnts; have u_tREnts := L.u_tREnts; have r_tREnts := L.r_tREnts; have a_tREnts := L.a_tREnts; have z_tREnts := L.z_tREnts; have v_tREnts := L.v_tREnts
  have mixed := L.mixed
  have H4 := hid h4
  clear h4 hv
  go_enter L.f_l10Own, Try.ntmps7
  go_wp2
  go_loopg [3, 4] l.length (fun kx s3 s4 wr => ∃ (i : Nat) (a : Option Addr) (c : Nat), s4 = .int .i64 i ∧ i ≤ l.length ∧ l.length - i ≤ kx ∧ s3 = .slice a i c ∧ Hid (Own wr w.heap.size 50 k (.slice a i c) i ((l.take i).flatMap entC)) ∧ Hid (Below w.heap.size w wr))
  case atStart => exact ⟨0, none, 0, rfl, Nat.zero_le _, Nat.le_refl _, rfl, hid (by simpa using Own.nil _ _ _ _), hid (Below.refl _ _)⟩
  case round =>
    obtain ⟨i, a3, c3, rfl, hi, hkx, rfl, HO, HB⟩ := hrel
    by_cases hlt : i < l.length
    · obtain ⟨b, off, rfl, hb, hS, hcell⟩ := H4.out.resolve_left (fun e => by subst e; simp at hlt)
      obtain ⟨e, he⟩ : ∃ e, l[i]? = some e := ⟨l[i], by simp [hlt]⟩
      have hcr : ∀ i e j x, l[i]? = some e → (entC e)[j]? = some x → wr.cell? ⟨b, off + i * 35 + j, none⟩ = some x := fun i e j x h1 h2 => (HB.out.cell (p := ⟨b, off + i * 35 + j, none⟩) hb).trans (hcell i e j x h1 h2)
      have l1 : Sem.run P (loadCellsFrom ⟨b, off + i * k, none⟩ 0 h #[]) wr.drew = .ok (bcells e.nm.1).toArray wr.drew := by
        rw [L.hh, L.hk]
        refine run_loadCellsFrom_list P _ _ (bcells e.nm.1) 32 (by rw [bcells_length, e.nm.2]) (fun j v hv => ?_)
        have hadd : (⟨b, off + i * 35, none⟩ : Addr).add j = ⟨b, off + i * 35 + j, none⟩ := by unfold Addr.add; split <;> simp_all
        rw [hadd]
        refine hcr i e j v he ?_
        unfold entC
        rw [List.getElem?_append_left (List.getElem?_eq_some_iff.1 hv).1]; exact hv
      have hE := entC_at e
      have c0 : wr.cell? ⟨b, off + i * k + 32, none⟩ = some (.int .i64 e.pk) := by rw [L.hk]; exact hcr i e 32 _ he hE.1
      have c1 : wr.cell? ⟨b, off + i * k + 33, none⟩ = some (.int .i64 e.pos) := by rw [L.hk]; exact hcr i e 33 _ he hE.2.1
      have c2 : wr.cell? ⟨b, off + i * k + 34, none⟩ = some (.int .i64 e.ln) := by rw [L.hk]; exact hcr i e 34 _ he hE.2.2
      have k0 : ¬ k = 0 := by rw [L.hk]; omega
      have h0 : ¬ h = 0 := by rw [L.hh]; omega
      have b1 : (bcells e.nm.1).length = h := by rw [L.hh, bcells_length, e.nm.2]
      have b2 : ¬ (entC default).length < (bcells e.nm.1).length := by rw [entC_length, bcells_length, e.nm.2]; omega
      have b3 : List.foldl (fun (cs : Array Value) (x : Value × Nat) => cs.setIfInBounds x.snd x.fst) (entC default).toArray (bcells e.nm.1).zipIdx = setMany (entC default).toArray 0 (bcells e.nm.1) := foldl_zipIdx _ 0 _
      have b4 : ¬ (setMany (entC default).toArray 0 (bcells e.nm.1)).size < 35 := by rw [size_setMany]; simp [entC_length]
      have b5 := built_ent e
      have b7 : ¬ 16777216 < k := by rw [L.hk]; omega
      have b8 : (entC e).length = k := by rw [L.hk, entC_length]
      have b9 : ¬ k < (entC e).length := by omega
      have b10 : List.foldl (fun (cs : Array Value) (x : Value × Nat) => cs.setIfInBounds x.snd x.fst) (Array.map (fun x => (entC default)[x % (entC default).length]?.getD default) (Array.range k)) (entC e).zipIdx = (entC e).toArray := by
        rw [foldl_zipIdx]; exact setMany_full (by simp [b8])
      have b6 : ¬ (entC default).length < h := by rw [entC_length, L.hh]; omega
      have hrow : Row (fun _ => False) (wr.drew.alloc (.cells (entC e).toArray 50 (0, 0))) (.slice (some ⟨wr.heap.size, 0, none⟩) 1 1) 1 k (entC e) := by
        refine ⟨by rw [entC_length, L.hk], _, 1, rfl, ⟨by omega, by omega, by unfold maxLen; omega⟩, (fun h => nomatch h), .inr ⟨wr.heap.size, 0, rfl, by simp, id, fun j x hx => ?_⟩⟩
        have h9 := cell_of_heap (heap_alloc_new wr.drew (.cells (entC e).toArray 50 (0, 0))) j
        rw [Nat.zero_add]
        refine h9.trans ?_
        simpa using hx
      have hod : Own (wr.drew.alloc (.cells (entC e).toArray 50 (0, 0))) w.heap.size 50 k (.slice a3 i c3) i ((l.take i).flatMap entC) := HO.out.fr (S := fun _ => False) ((Fr.refl _ wr).drew.alloc _) (fun _ _ => id)
      have HROW := hid hrow
      have HOD := hid hod
      have hone := hid (entC_one e)
      have hble := HB.out.size
      have HSN := hid (show (l.take i).flatMap entC ++ entC e = (l.take (i + 1)).flatMap entC by
        rw [List.take_add_one, he]; simp)
      clear hrow hod
      have GE := hid (And.intro he (And.intro hcr hE))
      have HCELL := hid hcell
      clear hcr hE he hcell
      generalize setMany (entC default).toArray 0 (bcells e.nm.1) = F at b3 b4 b5
      generalize bcells e.nm.1 = X at l1 b1 b2 b3
      generalize entC default = Z at *
      generalize entC e = Y at *
      go_wp2_with fail
      go_region_law_o ((refine step_append (S := fun _ => False) (base := w.heap.size) rfl rfl L.etE rfl HOD.out rfl HROW.out hone.out (by omega) (by simp; omega) ?_; intro a5 c5 w5 ho5 hf5 hm5))
      all_goals
        rw [HSN.out] at ho5
        have HO5 := hid (And.intro ho5 hf5)
        clear ho5 hf5 hm5
        go_wp2
        go_roundg (l.length - (i + 1))
        case measure => omega
        case rel =>
          refine ⟨i + 1, a5, c5, by go_num, hlt, Nat.le_refl _, rfl, hid HO5.out.1, hid ?_⟩
          refine Below.fr (HB.out.drew.alloc (by simp; omega) _) HO5.out.2 (fun q hq hm => ?_)
          obtain ⟨off, n', c', hv, hc⟩ := hm
          have := (HO.out.mine_ge ⟨off, n', c', hv, hc⟩).1
          omega
    · obtain rfl : i = l.length := by omega
      go_wp2
      go_ret
      have := HO.out
      rw [List.take_of_length_le (Nat.le_refl _), L.hk] at this
      exact ⟨_, _, rfl, this, HB.out⟩
end Go.Proofs.Ytpomfegcifpfkaa
