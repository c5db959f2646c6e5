/- segment's Packs, walked; ref08's Numbers of two lists that are one. -/
import Derived.Test.YtdbpkiddiehliaaGreatSegPacks
namespace Go.Proofs.YtdbpkiddiehliaaGreat
open Go Go.RowKit Go.Sort
/-- What Packs calls, over a program that is a variable. -/
structure PC (P : Program) : Prop where
  E : ET P 25 3 1 8 (.int .i64 0)
  sort : ∀ (W : World) (base g cap : Nat) (zs : List Int), Own W base 3 1 (.slice (some ⟨g, 0, none⟩) zs.length cap) zs.length (icells zs) → zs ≠ [] → zs.length ≤ 1000000000 → Calls P 30 #[.slice (some ⟨g, 0, none⟩) zs.length cap] W (SortI base g cap zs W)
  comp : ∀ (W : World) (base g cap n : Nat) (zs : List Int), zs.length = n → Own W base 3 1 (.slice (some ⟨g, 0, none⟩) n cap) n (icells zs) → zs ≠ [] → n ≤ 1000000000 → Calls P 31 #[.slice (some ⟨g, 0, none⟩) n cap] W (CompI base g cap zs W)
  sort0 : ∀ (W : World) (a : Option Addr) (c : Nat), Calls P 30 #[.slice a 0 c] W fun e w' => e = .returned (.tuple #[]) ∧ w' = W
  comp0 : ∀ (W : World) (a : Option Addr) (c : Nat), Calls P 31 #[.slice a 0 c] W fun e w' => e = .returned (.slice a 0 c) ∧ w' = W
theorem pc : PC Tryz.prog := {
  E := ⟨Tryz.underlying25, by kernel_rfl, rfl, by decide, by decide⟩
  sort := fun W base g cap zs ho hl hn => sort_own ho hl hn
  comp := fun W base g cap n zs hn ho hl hle => compI_own hn ho hl hle
  sort0 := fun W a c => Tryz.slices_Sort_int_none a c W
  comp0 := fun W a c => Tryz.slices_Compact_int_empty a c W }
variable {P : Program} {k h : Nat}
set_option maxHeartbeats 4000000 in
set_option maxRecDepth 100000 in
theorem segPacks_ok (L : SG P k h) (D : SD P) (C : PC P) {S : Nat → Prop} (w : World) (v : Value) (l : List Ent) (hv : Es S w v l) (hlen : l.length ≤ 1000000) : Calls P 16 #[v] w (RetIs w (packsF l)) := by
  obtain ⟨a, c, rfl, hl1, hl2, hl3, _, h4⟩ := hv.cases
  unfold maxLen at hl3
  have u_tUnit := L.u_tUnit; have r_tUnit := L.r_tUnit; have a_tUnit := L.a_tUnit; have z_tUnit := L.z_tUnit; have v_tUnit := L.v_tUnit; have u_tInt := L.u_tInt; have r_tInt := L.r_tInt; have a_tInt := L.a_tInt; have z_tInt := L.z_tInt; have v_tInt := L.v_tInt; have u_tBool := L.u_tBool; have r_tBool := L.r_tBool; have a_tBool := L.a_tBool; have z_tBool := L.z_tBool; have v_tBool := L.v_tBool; have u_tHash := L.u_tHash; have r_tHash := L.r_tHash; have a_tHash := L.a_tHash; have z_tHash := L.z_tHash; have v_tHash := L.v_tHash; have u_tWhere := L.u_tWhere; have r_tWhere := L.r_tWhere; have a_tWhere := L.a_tWhere; have z_tWhere := L.z_tWhere; have v_tWhere := L.v_tWhere; have u_tEnt := L.u_tEnt; have r_tEnt := L.r_tEnt; have a_tEnt := L.a_tEnt; have z_tEnt := L.z_tEnt; have v_tEnt := L.v_tEnt; have u_tEnts := L.u_tEnts; have r_tEnts := L.r_tEnts; have a_tEnts := L.a_tEnts; have z_tEnts := L.z_tEnts; have v_tEnts := L.v_tEnts
  have u_tInts := D.u_tInts; have r_tInts := D.r_tInts; have a_tInts := D.a_tInts; have z_tInts := D.z_tInts; have v_tInts := D.v_tInts
  have e_sortI : ∀ args w, (callFunc 30 args).run P w = .ok (.enter 30 args) w := enters_of D.f_sortI rfl rfl
  have e_compactI : ∀ args w, (callFunc 31 args).run P w = .ok (.enter 31 args) w := enters_of D.f_compactI rfl rfl
  have E := C.E
  have mixed := L.mixed
  have H4 := hid h4
  have k0 : ¬ k = 0 := by rw [L.hk]; omega
  clear h4 hv
  go_enter D.f_segPacks, Tryz.ntmps16
  go_wp2
  go_loopg [2, 7] l.length (fun kx s2 s7 wr => ∃ (i : Nat) (a : Option Addr) (c : Nat), s7 = .int .i64 i ∧ i ≤ l.length ∧ l.length - i ≤ kx ∧ s2 = .slice a i c ∧ Hid (Own wr w.heap.size 3 1 (.slice a i c) i (icells ((l.take i).map Ent.pk))) ∧ Hid (Below w.heap.size w wr))
  case atStart => exact ⟨0, none, 0, rfl, Nat.zero_le _, Nat.le_refl _, rfl, hid (Own.nil _ _ _ _), hid (Below.refl _ _)⟩
  case round =>
    obtain ⟨i, a2, c2, rfl, hi, hkx, rfl, HO, HB⟩ := hrel
    by_cases hlt : i < l.length
    · obtain ⟨b, off, rfl, hb, hS, hcell⟩ := H4.out.resolve_left (fun e => by subst e; simp at hlt)
      obtain ⟨e, he⟩ : ∃ e, l[i]? = some e := ⟨l[i], by simp [hlt]⟩
      have l1 : Sem.run P (loadCellsFrom ⟨b, off + i * k, none⟩ 0 k #[]) wr = .ok (entC e).toArray wr := by
        rw [L.hk]
        exact load_ent (fun i e j x h1 h2 => (HB.out.cell (p := ⟨b, off + i * 35 + j, none⟩) hb).trans (hcell i e j x h1 h2)) he
      have st : Sem.run P (storeCells ⟨wr.heap.size, 0, none⟩ (entC e) 0) (wr.alloc (.cells (entC default).toArray 54 (0, 0))) = .ok () (wr.alloc (.cells (entC e).toArray 54 (0, 0))) := stores_new (by rw [entC_length, entC_length]) (entC_one e)
      obtain ⟨wx, hwx⟩ : ∃ wx, wx = wr.alloc (.cells (entC e).toArray 54 (0, 0)) := ⟨_, rfl⟩
      have hx : wx.heap[wr.heap.size]? = some (.cells (entC e).toArray 54 (0, 0)) := by rw [hwx]; exact heap_alloc_new wr _
      have kp : wx.cell? ⟨wr.heap.size, 32, none⟩ = some (.int .i64 e.pk) := by rw [cell_of_heap hx]; simpa using (entC_at e).1
      have HGX := hid (show Grown wr wx by rw [hwx]; exact (Grown.refl _).alloc _)
      have nX : (entC e).length = k := by rw [L.hk]; exact entC_length e
      have HT := hid (show icells ((l.take i).map Ent.pk) ++ [.int .i64 e.pk] = icells ((l.take (i + 1)).map Ent.pk) by rw [List.take_add_one, he]; unfold icells; simp)
      have hzx := HGX.out.size
      have hble := HB.out.size
      rw [← hwx] at st
      clear hx hwx he hcell
      generalize e.pk = z at *
      generalize entC e = X at *
      generalize entC default = Z at *
      go_wp2_with (at_builtin; refine wpl_append (v := .slice a2 i c2) (S := fun _ => False) (base := w.heap.size) (xs := icells ((l.take i).map Ent.pk)) rfl rfl E rfl (Own.fr HO.out ((HGX.out.fr (fun _ => False)).alloc _) (fun _ _ h => h)) rfl (row_atk (heap_alloc_new wx _) rfl (by omega)) (fun u hu => by simp at hu; subst hu; rfl) (by omega) (by simp; omega) ?_; intro v5 w5 ho5 hf5 hm5; obtain ⟨a5, c5, rfl, _⟩ := ho5.len; have HO5 := hid (And.intro ho5 (And.intro hf5 hm5)); clear ho5 hf5 hm5)
      go_roundg (l.length - (i + 1))
      case measure => omega
      case rel =>
        obtain ⟨ho5, hf5, hm5⟩ := HO5.out
        rw [HT.out] at ho5
        refine ⟨i + 1, a5, c5, by go_num, hlt, Nat.le_refl _, rfl, hid ho5, hid ?_⟩
        refine Below.fr ((HB.out.trans (HGX.out.below.mono hble)).alloc (by omega) _) hf5 (fun q hq hm => ?_)
        have := (Own.mine_ge HO.out hm).1
        omega
    · obtain rfl : i = l.length := by omega
      have ho := HO.out
      rw [List.take_of_length_le (Nat.le_refl _)] at ho
      have hml : (l.map Ent.pk).length = l.length := List.length_map ..
      by_cases hl : l = []
      · subst hl
        have CS := hid C.sort0
        have CC := hid C.comp0
        go_wp2_with (first | (go_at_fn 30; refine (CS.out _ _ _).mono ?_; rintro r w2 ⟨rfl, rfl⟩) | (go_at_fn 31; refine (CC.out _ _ _).mono ?_; rintro r w2 ⟨rfl, rfl⟩))
        go_ret
        exact ⟨a2, c2, rfl, ho, HB.out⟩
      · have hne : l.map Ent.pk ≠ [] := fun h => hl (List.map_eq_nil_iff.1 h)
        rcases id ho with ⟨_, ⟨h0, _⟩ | ⟨g, cap, cur, hv, hbg, _⟩⟩
        · exact absurd (List.eq_nil_of_length_eq_zero h0) hl
        injection hv with ea _ ec
        subst ea ec
        have hs := C.sort wr w.heap.size g c2 (l.map Ent.pk) (by rw [hml]; exact ho) hne (by omega)
        rw [hml] at hs
        have HSO := hid hs
        have CC := hid C.comp
        have HNE := hid (show ∀ zs' : List Int, zs' = ((l.map Ent.pk).mergeSort fun x y => decide (x ≤ y)) → zs'.length = l.length ∧ zs' ≠ [] ∧ Lib.compact zs' = packsF l from fun zs' hz => by
          subst hz
          refine ⟨by rw [List.length_mergeSort, hml], fun h => ?_, packs_eq l⟩
          have := congrArg List.length h
          rw [List.length_mergeSort, hml] at this
          exact hl (List.eq_nil_of_length_eq_zero this))
        clear hs ho hne hl
        go_wp2_with (first
          | (go_at_fn 30; refine HSO.out.mono ?_; rintro r w2 ⟨rfl, zs', hzs, ho2, hf2⟩; rw [hml] at ho2; have N2 := hid (HNE.out zs' hzs); have O2 := hid ho2; have F2 := hid hf2; clear ho2 hf2 hzs)
          | (go_at_fn 31; refine (CC.out _ _ _ _ _ zs' N2.out.1 O2.out N2.out.2.1 (by omega)).mono ?_; rintro r w3 ⟨m, hm, rfl, ho3, hf3⟩; subst hm; have O3 := hid ho3; have F3 := hid hf3; clear ho3 hf3))
        go_ret
        have ho3 := O3.out
        rw [N2.out.2.2] at ho3 ⊢
        exact ⟨_, _, rfl, ho3, Below.fr HB.out (F2.out.trans F3.out) (fun q hq e => by omega)⟩
set_option maxHeartbeats 4000000 in
set_option maxRecDepth 100000 in
theorem r08Numbers_ok (L : SG P k h) (D : SD P) {S S' : Nat → Prop} (w : World) (l : List Int) (u v : Value) (hu : Is S w u l) (hv : Is S' w v l) :
    Calls P 15 #[u, v] w fun r w' => r = .returned (.bool true) ∧ Below w.heap.size w w' := by
  obtain ⟨a, c, rfl, hl1, hl2, hl3, h4⟩ := hu.cases
  obtain ⟨a', c', rfl, _, hl2', hl3', h4'⟩ := hv.cases
  unfold maxLen at hl3 hl3'
  have u_tUnit := L.u_tUnit; have r_tUnit := L.r_tUnit; have a_tUnit := L.a_tUnit; have z_tUnit := L.z_tUnit; have v_tUnit := L.v_tUnit; have u_tInt := L.u_tInt; have r_tInt := L.r_tInt; have a_tInt := L.a_tInt; have z_tInt := L.z_tInt; have v_tInt := L.v_tInt; have u_tBool := L.u_tBool; have r_tBool := L.r_tBool; have a_tBool := L.a_tBool; have z_tBool := L.z_tBool; have v_tBool := L.v_tBool
  have u_tInts := D.u_tInts; have r_tInts := D.r_tInts; have a_tInts := D.a_tInts; have z_tInts := D.z_tInts; have v_tInts := D.v_tInts
  have mixed := L.mixed
  have H4 := hid h4
  have H4' := hid h4'
  clear h4 h4' hu hv
  go_enter D.f_r08Numbers, Tryz.ntmps15
  go_wp2
  go_loopg [5] l.length (fun kx s5 wr => ∃ i : Nat, s5 = .int .i64 i ∧ i ≤ l.length ∧ l.length - i ≤ kx ∧ Hid (Below w.heap.size w wr))
  case atStart => exact ⟨0, rfl, Nat.zero_le _, Nat.le_refl _, hid (Below.refl _ _)⟩
  case round =>
    obtain ⟨i, rfl, hi, hkx, HB⟩ := hrel
    by_cases hlt : i < l.length
    · obtain ⟨b, off, rfl, hb, _, hcell⟩ := H4.out.resolve_left (fun e => by subst e; simp at hlt)
      obtain ⟨b', off', rfl, hb', _, hcell'⟩ := H4'.out.resolve_left (fun e => by subst e; simp at hlt)
      obtain ⟨z, hz⟩ : ∃ z, l[i]? = some z := ⟨l[i], by simp [hlt]⟩
      have k1 : ∀ n, (wr.drewN n).cell? ⟨b, off + i, none⟩ = some (.int .i64 z) := fun n => ((below_dN HB.out n).cell (p := ⟨b, off + i, none⟩) hb).trans (hcell i z hz)
      have k2 : ∀ n, (wr.drewN n).cell? ⟨b', off' + i, none⟩ = some (.int .i64 z) := fun n => ((below_dN HB.out n).cell (p := ⟨b', off' + i, none⟩) hb').trans (hcell' i z hz)
      have hq : (z != z) = false := by simp
      clear hcell hcell' hz
      go_wp2_with fail
      refine wp_region_quiet_lit (by assumption) (by kernel_rfl) ?_
      repeat (first | go_big_quiet_step (fail) | quiet_step (fail))
      refine wpQuiet_nil ?_
      intro _ hw'
      obtain ⟨nq, hw''⟩ := hw'
      subst hw''
      go_wp2
      go_roundg (l.length - (i + 1))
      case measure => omega
      case rel => exact ⟨i + 1, by go_num, hlt, Nat.le_refl _, hid (below_dN HB.out _)⟩
    · obtain rfl : i = l.length := by omega
      go_wp2
      go_ret
      exact ⟨rfl, HB.out⟩
end Go.Proofs.YtdbpkiddiehliaaGreat
