/- law10's Where and Back. -/
import Derived.Test.YtpomfegcifpfkaaL10Own
namespace Go.Proofs.Ytpomfegcifpfkaa
open Go Go.RowKit Go.Sort
variable {P : Program} {k h : Nat}
set_option maxHeartbeats 2000000 in
set_option maxRecDepth 100000 in
theorem l10Where_ok (L : SG P k h) (w : World) (x y z : Int) : Calls P 35 #[.agg #[.int .i64 x, .int .i64 y, .int .i64 z]] w fun r w' => r = .returned (.agg #[.int .i64 x, .int .i64 y, .int .i64 z]) ∧ Grown w w' := by
  have u_tUnit := L.u_tUnit; have r_tUnit := L.r_tUnit; have a_tUnit := L.a_tUnit; have z_tUnit := L.z_tUnit; have v_tUnit := L.v_tUnit; have u_tInt := L.u_tInt; have r_tInt := L.r_tInt; have a_tInt := L.a_tInt; have z_tInt := L.z_tInt; have v_tInt := L.v_tInt; have u_tWhere := L.u_tWhere; have r_tWhere := L.r_tWhere; have a_tWhere := L.a_tWhere; have z_tWhere := L.z_tWhere; have v_tWhere := L.v_tWhere; have u_tRWhere := L.u_tRWhere; have r_tRWhere := L.r_tRWhere; have a_tRWhere := L.a_tRWhere; have z_tRWhere := L.z_tRWhere; have v_tRWhere := L.v_tRWhere
  have mixed := L.mixed
  go_enter L.f_l10Where, Try.ntmps35
  go_wp2
  refine bodyPost_ret (v := .agg #[.int .i64 x, .int .i64 y, .int .i64 z]) (by simp [results, Try.results35, go_sem, z_tRWhere, a_tRWhere]) rfl ⟨rfl, ?_⟩
  exact ((Grown.refl w).alloc _).alloc _
def RetR' (w : World) (l : List Ent) (e : Ending) (w' : World) : Prop := ∃ a c, e = .returned (.slice a l.length c) ∧ Own w' w.heap.size 81 35 (.slice a l.length c) l.length (l.flatMap entC) ∧ Below w.heap.size w w'
set_option maxHeartbeats 4000000 in
set_option maxRecDepth 100000 in
theorem l10Back_ok (L : SG P k h) (E : ET P 22 81 k 56 (.agg (entC default).toArray)) {S : Nat → Prop} (w : World) (v : Value) (l : List Ent) (hv : Es S w v l) (hlen : l.length ≤ 1000000000) : Calls P 14 #[v] w (RetR' w l) := by
  obtain ⟨a, c, rfl, hl1, hl2, hl3, _, h4⟩ := hv.cases
  unfold maxLen at hl3
  have u_tUnit := L.u_tUnit; have r_tUnit := L.r_tUnit; have a_tUnit := L.a_tUnit; have z_tUnit := L.z_tUnit; have v_tUnit := L.v_tUnit; have u_tInt := L.u_tInt; have r_tInt := L.r_tInt; have a_tInt := L.a_tInt; have z_tInt := L.z_tInt; have v_tInt := L.v_tInt; have u_tBool := L.u_tBool; have r_tBool := L.r_tBool; have a_tBool := L.a_tBool; have z_tBool := L.z_tBool; have v_tBool := L.v_tBool; have u_tHash := L.u_tHash; have r_tHash := L.r_tHash; have a_tHash := L.a_tHash; have z_tHash := L.z_tHash; have v_tHash := L.v_tHash; have u_tWhere := L.u_tWhere; have r_tWhere := L.r_tWhere; have a_tWhere := L.a_tWhere; have z_tWhere := L.z_tWhere; have v_tWhere := L.v_tWhere; have u_tRWhere := L.u_tRWhere; have r_tRWhere := L.r_tRWhere; have a_tRWhere := L.a_tRWhere; have z_tRWhere := L.z_tRWhere; have v_tRWhere := L.v_tRWhere; have u_tEnt := L.u_tEnt; have r_tEnt := L.r_tEnt; have a_tEnt := L.a_tEnt; have z_tEnt := L.z_tEnt; have v_tEnt := L.v_tEnt; have u_tREnt := L.u_tREnt; have r_tREnt := L.r_tREnt; have a_tREnt := L.a_tREnt; have z_tREnt := L.z_tREnt; have v_tREnt := L.v_tREnt; have u_tEnts := L.u_tEnts; have r_tEnts := L.r_tEnts; have a_tEnts := L.a_tEnts; have z_tEnts := L.z_tEnts; have v_tEnts := L.v_tEnts; have u_tREnts := L.u_tREnts; have r_tREnts := L.r_tREnts; have a_tREnts := L.a_tREnts; have z_tREnts := L.z_tREnts; have v_tREnts := L.v_tREnts
  have mixed := L.mixed
  have e_l10Where : ∀ args w, (callFunc 35 args).run P w = .ok (.enter 35 args) w := enters_of L.f_l10Where rfl rfl
  have CW := hid (fun W x y z => l10Where_ok L W x y z)
  have H4 := hid h4
  clear h4 hv
  go_enter  L.f_l10Back, Try.ntmps14
  go_wp2
  go_loopg [3, 4] l.length (fun kx s3 s4 wr => ∃ (i : Nat) (a : Option Addr) (c : Nat), s4 = .int .i64 i ∧ i ≤ l.length ∧ l.length - i ≤ kx ∧ s3 = .slice a i c ∧ Hid (Own wr w.heap.size 81 k (.slice a i c) i ((l.take i).flatMap entC)) ∧ Hid (Below w.heap.size w wr))
  case atStart => exact ⟨0, none, 0, rfl, Nat.zero_le _, Nat.le_refl _, rfl, hid (by simpa using Own.nil _ _ _ _), hid (Below.refl _ _)⟩
  case round =>
    obtain ⟨i, a3, c3, rfl, hi, hkx, rfl, HO, HB⟩ := hrel
    by_cases hlt : i < l.length
    · obtain ⟨b, off, rfl, hb, hS, hcell⟩ := H4.out.resolve_left (fun e => by subst e; simp at hlt)
      obtain ⟨e, he⟩ : ∃ e, l[i]? = some e := ⟨l[i], by simp [hlt]⟩
      have hcr : ∀ i e j x, l[i]? = some e → (entC e)[j]? = some x → wr.cell? ⟨b, off + i * 35 + j, none⟩ = some x := fun i e j x h1 h2 => (HB.out.cell (p := ⟨b, off + i * 35 + j, none⟩) hb).trans (hcell i e j x h1 h2)
      have ld : ∀ W, Below wr.heap.size wr W → Sem.run P (loadCellsFrom ⟨b, off + i * k, none⟩ 0 h #[]) W = .ok (bcells e.nm.1).toArray W := fun W hW => by
        rw [L.hh, L.hk]
        refine run_loadCellsFrom_list P _ _ (bcells e.nm.1) 32 (by rw [bcells_length, e.nm.2]) (fun j v hv => ?_)
        have hadd : (⟨b, off + i * 35, none⟩ : Addr).add j = ⟨b, off + i * 35 + j, none⟩ := by unfold Addr.add; split <;> simp_all
        rw [hadd]
        refine (hW.cell (p := ⟨b, off + i * 35 + j, none⟩) (Nat.lt_of_lt_of_le hb HB.out.size)).trans (hcr i e j v he ?_)
        unfold entC
        rw [List.getElem?_append_left (List.getElem?_eq_some_iff.1 hv).1]; exact hv
      have l1 := ld wr.drew (Below.refl _ _).drew
      have LD := hid ld
      clear ld
      have hE := entC_at e
      have c0 : wr.cell? ⟨b, off + i * k + 32, none⟩ = some (.int .i64 e.pk) := by rw [L.hk]; exact hcr i e 32 _ he hE.1
      have c1 : wr.cell? ⟨b, off + i * k + 33, none⟩ = some (.int .i64 e.pos) := by rw [L.hk]; exact hcr i e 33 _ he hE.2.1
      have c2 : wr.cell? ⟨b, off + i * k + 34, none⟩ = some (.int .i64 e.ln) := by rw [L.hk]; exact hcr i e 34 _ he hE.2.2
      have k0 : ¬ k = 0 := by rw [L.hk]; omega
      have h0 : ¬ h = 0 := by rw [L.hh]; omega
      have b1 : (bcells e.nm.1).length = h := by rw [L.hh, bcells_length, e.nm.2]
      have b2 : ¬ (entC default).length < (bcells e.nm.1).length := by rw [entC_length, bcells_length, e.nm.2]; omega
      have b3 : List.foldl (fun (cs : Array Value) (x : Value × Nat) => cs.setIfInBounds x.snd x.fst) (entC default).toArray (bcells e.nm.1).zipIdx = setMany (entC default).toArray 0 (bcells e.nm.1) := foldl_zipIdx _ 0 _
      have b4 : ¬ (setMany (entC default).toArray 0 (bcells e.nm.1)).size < 35 := by rw [size_setMany]; simp [entC_length]
      have b5 := built_ent e
      have b7 : ¬ 16777216 < k := by rw [L.hk]; omega
      have b8 : (entC e).length = k := by rw [L.hk, entC_length]
      have b9 : ¬ k < (entC e).length := by omega
      have b10 : List.foldl (fun (cs : Array Value) (x : Value × Nat) => cs.setIfInBounds x.snd x.fst) (Array.map (fun x => (entC default)[x % (entC default).length]?.getD default) (Array.range k)) (entC e).zipIdx = (entC e).toArray := by
        rw [foldl_zipIdx]; exact setMany_full (by simp [b8])
      have b6 : ¬ (entC default).length < h := by rw [entC_length, L.hh]; omega
      have hrow : ∀ W : World, Row (fun _ => False) (W.alloc (.cells (entC e).toArray 81 (0, 0))) (.slice (some ⟨W.heap.size, 0, none⟩) 1 1) 1 k (entC e) := fun W => by
        refine ⟨by rw [entC_length, L.hk], _, 1, rfl, ⟨by omega, by omega, by unfold maxLen; omega⟩, (fun h => nomatch h), .inr ⟨W.heap.size, 0, rfl, by simp, id, fun j x hx => ?_⟩⟩
        have h9 := cell_of_heap (heap_alloc_new W (.cells (entC e).toArray 81 (0, 0))) j
        rw [Nat.zero_add]
        refine h9.trans ?_
        simpa using hx
      have hod : ∀ W : World, Below wr.heap.size wr W → Own (W.alloc (.cells (entC e).toArray 81 (0, 0))) w.heap.size 81 k (.slice a3 i c3) i ((l.take i).flatMap entC) := fun W hW => HO.out.fr (S := fun _ => False) ((Fr.of_below hW).alloc _) (fun _ _ => id)
      have HROW := hid hrow
      have HOD := hid hod
      have hone := hid (entC_one e)
      have hble := HB.out.size
      have HSN := hid (show (l.take i).flatMap entC ++ entC e = (l.take (i + 1)).flatMap entC by
        rw [List.take_add_one, he]; simp)
      clear hrow hod
      have GE := hid (And.intro he (And.intro hcr hE))
      have HCELL := hid hcell
      clear hcr hE he hcell
      generalize setMany (entC default).toArray 0 (bcells e.nm.1) = F at b3 b4 b5
      generalize bcells e.nm.1 = X at l1 LD b1 b2 b3
      generalize entC default = Z at *
      generalize entC e = Y at *
      go_wp2_with fail
      go_region_law_o (first
        | ((refine step_append (S := fun _ => False) (base := w.heap.size) rfl rfl E rfl (HOD.out w2 B2.out) rfl (HROW.out w2) hone.out (by omega) (by simp; have := B2.out.size; omega) ?_; intro a5 c5 w5 ho5 hf5 hm5))
        | ((go_simp; go_at_fn 35; refine (CW.out _ _ _ _).mono ?_; rintro r w2 ⟨rfl, hg2⟩; have B2 := hid ((Below.refl wr.heap.size wr).drew.trans hg2.below); have l2 := LD.out w2 B2.out; clear hg2)))
      all_goals
        rw [HSN.out] at ho5
        have HO5 := hid (And.intro ho5 hf5)
        clear ho5 hf5 hm5
        go_wp2
        go_roundg (l.length - (i + 1))
        case measure => omega
        case rel =>
          refine ⟨i + 1, a5, c5, by go_num, hlt, Nat.le_refl _, rfl, hid HO5.out.1, hid ?_⟩
          refine Below.fr ((HB.out.trans (B2.out.mono hble)).alloc (by have := B2.out.size; omega) _) HO5.out.2 (fun q hq hm => ?_)
          obtain ⟨off, n', c', hv, hc⟩ := hm
          have := (HO.out.mine_ge ⟨off, n', c', hv, hc⟩).1
          omega
    · obtain rfl : i = l.length := by omega
      go_wp2
      go_ret
      have := HO.out
      rw [List.take_of_length_le (Nat.le_refl _), L.hk] at this
      exact ⟨_, _, rfl, this, HB.out⟩
end Go.Proofs.Ytpomfegcifpfkaa
/- ref10's Same of two lists that are one. -/
namespace Go.Proofs.Ytpomfegcifpfkaa
open Go Go.RowKit Go.Sort
variable {P : Program} {k h : Nat}
set_option maxHeartbeats 4000000 in
set_option maxRecDepth 100000 in
theorem r10Same_ok (L : SG P k h) (gR : P.eqGuardType P.depth 81 = false) (eR : ∀ (e : Ent) (w : World), (Op.equalIn 10000 81 (.agg (entC e).toArray) (.agg (entC e).toArray)).run P w = .ok true w)
    {S S' : Nat → Prop} (w : World) (l : List Ent) (u v : Value) (hu : Row S w u l.length 35 (l.flatMap entC)) (hv : Row S' w v l.length 35 (l.flatMap entC)) :
    Calls P 13 #[u, v] w fun r w' => r = .returned (.bool true) ∧ Below w.heap.size w w' := by
  obtain ⟨_, a, c, rfl, ⟨hl1, hl2, hl3⟩, _, h4⟩ := hu
  obtain ⟨_, a', c', rfl, ⟨hl1', hl2', hl3'⟩, _, h4'⟩ := hv
  unfold maxLen at hl3 hl3'
  have u_tUnit := L.u_tUnit; have r_tUnit := L.r_tUnit; have a_tUnit := L.a_tUnit; have z_tUnit := L.z_tUnit; have v_tUnit := L.v_tUnit; have u_tInt := L.u_tInt; have r_tInt := L.r_tInt; have a_tInt := L.a_tInt; have z_tInt := L.z_tInt; have v_tInt := L.v_tInt; have u_tBool := L.u_tBool; have r_tBool := L.r_tBool; have a_tBool := L.a_tBool; have z_tBool := L.z_tBool; have v_tBool := L.v_tBool; have u_tREnt := L.u_tREnt; have r_tREnt := L.r_tREnt; have a_tREnt := L.a_tREnt; have z_tREnt := L.z_tREnt; have v_tREnt := L.v_tREnt; have u_tREnts := L.u_tREnts; have r_tREnts := L.r_tREnts; have a_tREnts := L.a_tREnts; have z_tREnts := L.z_tREnts; have v_tREnts := L.v_tREnts
  have mixed := L.mixed
  have H4 := hid h4
  have H4' := hid h4'
  clear h4 h4'
  go_enter L.f_r10Same, Try.ntmps13
  go_wp2
  go_loopg [5] l.length (fun kx s5 wr => ∃ i : Nat, s5 = .int .i64 i ∧ i ≤ l.length ∧ l.length - i ≤ kx ∧ Hid (Below w.heap.size w wr))
  case atStart => exact ⟨0, rfl, Nat.zero_le _, Nat.le_refl _, hid (Below.refl _ _)⟩
  case round =>
    obtain ⟨i, rfl, hi, hkx, HB⟩ := hrel
    by_cases hlt : i < l.length
    · obtain ⟨b, off, rfl, hb, _, hcell⟩ := H4.out.resolve_left (fun e => by omega)
      obtain ⟨b', off', rfl, hb', _, hcell'⟩ := H4'.out.resolve_left (fun e => by omega)
      obtain ⟨e, he⟩ : ∃ e, l[i]? = some e := ⟨l[i], by simp [hlt]⟩
      have l1 : ∀ n, Sem.run P (loadCellsFrom ⟨b, off + i * k, none⟩ 0 k #[]) (wr.drewN n) = .ok (entC e).toArray (wr.drewN n) := fun n => by
        rw [L.hk]
        refine load_ent (l := l) (fun i e j x h1 h2 => ?_) he
        have := (HB.out.trans ((Grown.refl wr).drewN n |>.below |>.mono HB.out.size) |>.cell (p := ⟨b, off + (i * 35 + j), none⟩) hb).trans (hcell (i * 35 + j) x (flat_at entC_length h1 h2))
        rw [← Nat.add_assoc] at this; exact this
      have l2 : ∀ n, Sem.run P (loadCellsFrom ⟨b', off' + i * k, none⟩ 0 k #[]) (wr.drewN n) = .ok (entC e).toArray (wr.drewN n) := fun n => by
        rw [L.hk]
        refine load_ent (l := l) (fun i e j x h1 h2 => ?_) he
        have := (HB.out.trans ((Grown.refl wr).drewN n |>.below |>.mono HB.out.size) |>.cell (p := ⟨b', off' + (i * 35 + j), none⟩) hb').trans (hcell' (i * 35 + j) x (flat_at entC_length h1 h2))
        rw [← Nat.add_assoc] at this; exact this
      have eq := eR e
      clear hcell hcell' he
      generalize entC e = X at *
      go_wp2_with fail
      refine wp_region_quiet_lit (by assumption) (by kernel_rfl) ?_
      repeat (first | go_big_quiet_step (fail) | quiet_step (fail))
      refine wpQuiet_nil ?_
      intro _ hw'
      obtain ⟨nq, hw''⟩ := hw'
      subst hw''
      go_wp2
      go_roundg (l.length - (i + 1))
      case measure => omega
      case rel => exact ⟨i + 1, by go_num, hlt, Nat.le_refl _, hid (HB.out.trans (((Grown.refl wr).drewN nq).below.mono HB.out.size))⟩
    · obtain rfl : i = l.length := by omega
      go_wp2
      go_ret
      exact ⟨rfl, HB.out⟩
end Go.Proofs.Ytpomfegcifpfkaa
