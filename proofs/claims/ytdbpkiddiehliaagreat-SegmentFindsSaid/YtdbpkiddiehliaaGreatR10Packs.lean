/- The document's Packs. -/
import Derived.Test.YtdbpkiddiehliaaGreatR10Sort
namespace Go.Proofs.YtdbpkiddiehliaaGreat
open Go Go.RowKit Go.Sort
/-- A number goes in at its place, if it is not there. -/
def insI (z : Int) : List Int → List Int
  | [] => [z]
  | a :: l => if a < z then a :: insI z l else if a = z then a :: l else z :: a :: l
/-- The packs of entries, ascending. -/
def packsF (l : List Ent) : List Int := l.foldl (fun o e => insI e.pk o) []
theorem packsF_snoc (l : List Ent) (e : Ent) : packsF (l ++ [e]) = insI e.pk (packsF l) := by unfold packsF; rw [List.foldl_append]; rfl
theorem insI_end {z : Int} : ∀ {o : List Int}, (∀ (q : Nat) (x : Int), o[q]? = some x → x < z) → insI z o = o ++ [z]
  | [], _ => rfl
  | a :: o, h => by
    rw [insI, if_pos (h 0 a rfl), insI_end (fun q x hx => h (q + 1) x (by simpa using hx))]; rfl
theorem insI_mid {z : Int} : ∀ {o : List Int} {j : Nat} {x : Int}, o[j]? = some x → (∀ (q : Nat) (y : Int), q < j → o[q]? = some y → y < z) → ¬ x < z → insI z o = if x = z then o else o.take j ++ (z :: o.drop j)
  | [], j, x, h, _, _ => by simp at h
  | a :: o, 0, x, h, _, hl => by
    simp only [List.getElem?_cons_zero, Option.some.injEq] at h
    subst h
    rw [insI, if_neg hl]; rfl
  | a :: o, j + 1, x, h, hq, hl => by
    rw [insI, if_pos (hq 0 a (by omega) rfl), insI_mid (o := o) (j := j) (by simpa using h) (fun q y hq' hy => hq (q + 1) y (by omega) (by simpa using hy)) hl]
    split <;> rfl
/-- Numbers that lie one behind the other are a row. -/
theorem rowi_of {W : World} {g og c : Nat} {s : List Int} (hb : g < W.heap.size) (hf : Fits s.length c) (h : ∀ (i : Nat) (z : Int), s[i]? = some z → W.cell? ⟨g, og + i, none⟩ = some (.int .i64 z)) :
    Row (fun _ => False) W (.slice (some ⟨g, og, none⟩) s.length c) s.length 1 (icells s) := by
  refine ⟨by rw [icells_length]; omega, some ⟨g, og, none⟩, c, rfl, hf, (fun h => nomatch h), .inr ⟨g, og, rfl, hb, id, fun t x hx => ?_⟩⟩
  unfold icells at hx
  rw [List.getElem?_map, Option.map_eq_some_iff] at hx
  obtain ⟨z, hz, rfl⟩ := hx
  exact h t z hz
def RetIs (w : World) (l : List Int) (e : Ending) (w' : World) : Prop := ∃ a c, e = .returned (.slice a l.length c) ∧ Own w' w.heap.size 3 1 (.slice a l.length c) l.length (icells l) ∧ Below w.heap.size w w'
variable {P : Program} {k h : Nat}
set_option maxHeartbeats 8000000 in
set_option maxRecDepth 100000 in
theorem r10Packs_ok (L : SG P k h) (R : SR P) (E : ET P 25 3 1 8 (.int .i64 0)) {S : Nat → Prop} (w : World) (v : Value) (l : List Ent) (hv : Es S w v l) (hlen : l.length ≤ 1000000) : Calls P 17 #[v] w (RetIs w (packsF l)) := by
  obtain ⟨a, c, rfl, hl1, hl2, hl3, _, h4⟩ := hv.cases
  unfold maxLen at hl3
  have u_tUnit := L.u_tUnit; have r_tUnit := L.r_tUnit; have a_tUnit := L.a_tUnit; have z_tUnit := L.z_tUnit; have v_tUnit := L.v_tUnit; have u_tInt := L.u_tInt; have r_tInt := L.r_tInt; have a_tInt := L.a_tInt; have z_tInt := L.z_tInt; have v_tInt := L.v_tInt; have u_tBool := L.u_tBool; have r_tBool := L.r_tBool; have a_tBool := L.a_tBool; have z_tBool := L.z_tBool; have v_tBool := L.v_tBool; have u_tHash := L.u_tHash; have r_tHash := L.r_tHash; have a_tHash := L.a_tHash; have z_tHash := L.z_tHash; have v_tHash := L.v_tHash; have u_tWhere := L.u_tWhere; have r_tWhere := L.r_tWhere; have a_tWhere := L.a_tWhere; have z_tWhere := L.z_tWhere; have v_tWhere := L.v_tWhere; have u_tRWhere := L.u_tRWhere; have r_tRWhere := L.r_tRWhere; have a_tRWhere := L.a_tRWhere; have z_tRWhere := L.z_tRWhere; have v_tRWhere := L.v_tRWhere; have u_tREnt := L.u_tREnt; have r_tREnt := L.r_tREnt; have a_tREnt := L.a_tREnt; have z_tREnt := L.z_tREnt; have v_tREnt := L.v_tREnt; have u_tREnts := L.u_tREnts; have r_tREnts := L.r_tREnts; have a_tREnts := L.a_tREnts; have z_tREnts := L.z_tREnts; have v_tREnts := L.v_tREnts
  have u_tInts := E.ht
  have r_tInts := fun w => run_underlying (w := w) u_tInts
  have mixed := L.mixed
  have H4 := hid h4
  have k0 : ¬ k = 0 := by rw [L.hk]; omega
  clear h4 hv
  go_enter R.f_r10Packs, Tryz.ntmps17
  go_wp2
  go_loopg [3, 4] l.length (fun kx s3 s4 wr => ∃ (i : Nat) (a : Option Addr) (c : Nat) (o : List Int), s4 = .int .i64 i ∧ i ≤ l.length ∧ l.length - i ≤ kx ∧ s3 = .slice a o.length c ∧ o.length ≤ i ∧ Hid (packsF (l.take i) = o) ∧ Hid (Own wr w.heap.size 3 1 (.slice a o.length c) o.length (icells o)) ∧ Hid (Below w.heap.size w wr))
  case atStart => exact ⟨0, none, 0, [], rfl, Nat.zero_le _, Nat.le_refl _, rfl, Nat.le_refl _, hid rfl, hid (Own.nil _ _ _ _), hid (Below.refl _ _)⟩
  case round =>
    obtain ⟨i, a3, c3, o, rfl, hi, hkx, rfl, hon, HS, HO, HB⟩ := hrel
    by_cases hlt : i < l.length
    · obtain ⟨b, off, rfl, hb, hS, hcell⟩ := H4.out.resolve_left (fun e => by subst e; simp at hlt)
      obtain ⟨e, he⟩ : ∃ e, l[i]? = some e := ⟨l[i], by simp [hlt]⟩
      have hble := HB.out.size
      obtain ⟨z, hz⟩ : ∃ z, z = e.pk := ⟨_, rfl⟩
      have HLE := hid (fun W (hW : Below wr.heap.size wr W) => show W.cell? ⟨b, off + i * k + 32, none⟩ = some (.int .i64 z) by
        rw [L.hk, hz]
        exact ((HB.out.trans (hW.mono hble)).cell (p := ⟨b, off + i * 35 + 32, none⟩) hb).trans (hcell i e 32 _ he (entC_at e).1))
      have HT := hid (show packsF (l.take (i + 1)) = insI z o by rw [List.take_add_one, he]; show packsF (l.take i ++ [e]) = _; rw [packsF_snoc, HS.out, hz])
      have hes : Is (fun _ => False) wr (.slice a3 o.length c3) o := HO.out.row (S := fun _ => False) (fun _ _ _ => id)
      have hnn : a3 = none → c3 = 0 := by
        obtain ⟨_, a', c', hv, _, hn, _⟩ := id hes
        injection hv with e1 _ e3
        subst e1 e3
        exact hn
      obtain ⟨_, _, hsl, ho1, ho2, ho3, ho4⟩ := hes.cases
      injection hsl with e1 _ e3
      subst e1 e3
      unfold maxLen at ho3
      have HO4 := hid ho4
      have HNN := hid hnn
      have HES := hid hes
      clear he hcell ho4 hes hnn hz
      go_wp2
      obtain ⟨wo, rfl⟩ : ∃ wo : World, wo = wr := ⟨_, rfl⟩
      go_loopg [5] o.length (fun ky s5 wi => ∃ j : Nat, s5 = .int .i64 j ∧ j ≤ o.length ∧ o.length - j ≤ ky ∧ Hid (∀ (q : Nat) (x : Int), q < j → o[q]? = some x → x < z) ∧ Hid (Grown wo wi))
      case atStart => exact ⟨0, rfl, Nat.zero_le _, Nat.le_refl _, hid (fun q x hq => by omega), hid (Grown.refl _)⟩
      case round =>
        have HKX := hid hkx
        clear hkx
        obtain ⟨j, rfl, hj, hky, HQ, HG⟩ := hrel
        by_cases hjl : j < o.length
        · obtain ⟨g, og, rfl, hg, _, hoc⟩ := HO4.out.resolve_left (fun e => by subst e; simp at hjl)
          obtain ⟨x, hx⟩ : ∃ x, o[j]? = some x := ⟨o[j], by simp [hjl]⟩
          have lx : ∀ n, (wr.drewN n).cell? ⟨g, og + j, none⟩ = some (.int .i64 x) := fun n => ((HG.out.drewN n).below.cell (p := ⟨g, og + j, none⟩) hg).trans (hoc j x hx)
          have ly : ∀ n, (wr.drewN n).cell? ⟨b, off + i * k + 32, none⟩ = some (.int .i64 z) := fun n => HLE.out _ (HG.out.drewN n).below
          have HX := hid hx
          have HOC := hid hoc
          clear hx hoc
          by_cases hl : x < z
          · have HL := hid hl
            have hd := decide_eq_true hl
            clear hl
            go_wp2_with fail
            refine wp_region_quiet_lit (by assumption) (by kernel_rfl) ?_
            repeat (first | go_big_quiet_step (fail) | quiet_step (fail))
            refine wpQuiet_nil ?_
            intro _ hw'
            obtain ⟨nq, hw''⟩ := hw'
            subst hw''
            go_wp2
            go_roundg (o.length - (j + 1))
            case measure => omega
            case rel => exact ⟨j + 1, by go_num, hjl, Nat.le_refl _, hid (fun q y hq hy => by
              by_cases hqj : q < j
              · exact HQ.out q y hqj hy
              · obtain rfl : q = j := by omega
                rw [HX.out] at hy; injection hy with hy; subst hy; exact HL.out), hid (HG.out.drewN _)⟩
          · have HL := hid hl
            have hd := decide_eq_false hl
            clear hl
            go_wp2_with fail
            refine wp_region_quiet_lit (by assumption) (by kernel_rfl) ?_
            repeat (first | go_big_quiet_step (fail) | quiet_step (fail))
            refine wpQuiet_nil ?_
            intro _ hw'
            obtain ⟨nq, hw''⟩ := hw'
            subst hw''
            go_wp2
            obtain ⟨wy, hwy⟩ : ∃ wy, wy = wr.drewN nq := ⟨_, rfl⟩
            have HGY := hid (show Grown wo wy by rw [hwy]; exact HG.out.drewN _)
            rw [← hwy]
            clear hwy lx ly
            have lx : ∀ n, (wy.drewN n).cell? ⟨g, og + j, none⟩ = some (.int .i64 x) := fun n => ((HGY.out.drewN n).below.cell (p := ⟨g, og + j, none⟩) hg).trans (HOC.out j x HX.out)
            have ly : ∀ n, (wy.drewN n).cell? ⟨b, off + i * k + 32, none⟩ = some (.int .i64 z) := fun n => HLE.out _ (HGY.out.drewN n).below
            have hne : ¬ c3 = j := by omega
            have hjn : (j == o.length) = false := by simp; omega
            have hjn2 : ((j : Int) == (o.length : Int)) = false := by simp; omega
            have hjn3 : decide (j = o.length) = false := decide_eq_false (by omega)
            have hjn4 : ¬ j = o.length := by omega
            by_cases hsame : x = z
            · have hq1 : (x != z) = false := by simpa using hsame
              have HSM := hid hsame
              clear hsame
              refine wp_region_quiet_lit (by assumption) (by kernel_rfl) ?_
              repeat (first | go_big_quiet_step (fail) | quiet_step (fail))
              refine wpQuiet_nil ?_
              intro _ hw'
              obtain ⟨nq, hw''⟩ := hw'
              subst hw''
              go_wp2
              go_roundg (l.length - (i + 1))
              case measure => have := HKX.out; omega
              case rel =>
                have hs : packsF (l.take (i + 1)) = o := by rw [HT.out, insI_mid HX.out HQ.out (by have := HL.out; omega), if_pos HSM.out]
                exact ⟨i + 1, some ⟨g, og, none⟩, c3, o, by go_num, hlt, Nat.le_refl _, rfl, by omega, hid hs, hid (HO.out.fr ((HGY.out.drewN nq).fr (fun _ => False)) (fun _ _ => id)), hid (HB.out.trans ((HGY.out.drewN nq).below.mono hble))⟩
            · have hq1 : (x != z) = true := by simpa using hsame
              have HSM := hid hsame
              clear hsame
              refine wp_region_quiet_lit (by assumption) (by kernel_rfl) ?_
              repeat (first | go_big_quiet_step (fail) | quiet_step (fail))
              refine wpQuiet_nil ?_
              intro _ hw'
              obtain ⟨nq, hw''⟩ := hw'
              subst hw''
              obtain ⟨wz, hwz⟩ : ∃ wz, wz = wy.drewN nq := ⟨_, rfl⟩
              have HGZ := hid (show Grown wo wz by rw [hwz]; exact HGY.out.drewN _)
              rw [← hwz]
              clear hwz lx ly
              go_wp2
              have hjc : j ≤ c3 := by omega
              have hjl2 : (o.take j).length = j := by rw [List.length_take]; omega
              have hjd : (o.drop j).length = o.length - j := List.length_drop
              have HR1 := hid (show ∀ W, Below wo.heap.size wo W → Row (fun _ => False) W (.slice (some ⟨g, og, none⟩) j c3) j 1 (icells (o.take j)) from fun W hW => by
                have := rowi_of (W := W) (g := g) (og := og) (c := c3) (s := o.take j) (Nat.lt_of_lt_of_le hg hW.size) ⟨by omega, by omega, by unfold maxLen; omega⟩ (fun q y h1 => by
                  have hqj : q < j := by have := (List.getElem?_eq_some_iff.1 h1).1; omega
                  rw [List.getElem?_take_of_lt hqj] at h1
                  exact (hW.cell (p := ⟨g, og + q, none⟩) hg).trans (HOC.out q y h1))
                rw [hjl2] at this
                exact this)
              have hone1 := hid (icells_one (o.take j))
              have hone0 := hid (icells_one (o.drop j))
              have HR0 := hid (show ∀ W, Below wo.heap.size wo W → Row (fun _ => False) W (.slice (some ⟨g, og + j, none⟩) (o.length - j) (c3 - j)) (o.length - j) 1 (icells (o.drop j)) from fun W hW => by
                have := rowi_of (W := W) (g := g) (og := og + j) (c := c3 - j) (s := o.drop j) (Nat.lt_of_lt_of_le hg hW.size) ⟨by omega, by omega, by unfold maxLen; omega⟩ (fun q y h1 => by
                  rw [List.getElem?_drop] at h1
                  have := (hW.cell (p := ⟨g, og + (j + q), none⟩) hg).trans (HOC.out (j + q) y h1)
                  rwa [show og + j + q = og + (j + q) by omega])
                rw [hjd] at this
                exact this)
              have le0 : (wz.alloc (.cells #[] 3 (0, 0))).drew.cell? ⟨b, off + i * k + 32, none⟩ = some (.int .i64 z) := HLE.out _ ((HGZ.out.alloc _).drew : Grown wo _).below
              have le1 : wz.drew.cell? ⟨b, off + i * k + 32, none⟩ = some (.int .i64 z) := HLE.out wz.drew (HGZ.out.drew : Grown wo _).below
              have HA1 := hid ((HGZ.out.alloc (.cells #[] 3 (0, 0))).drew : Grown wo _).below
              have HYT := hid (show ∀ j, icells (o.take j) ++ [.int .i64 z] ++ icells (o.drop j) = icells (o.take j ++ (z :: o.drop j)) from fun j => by unfold icells; simp)
              have hone := hid (show ∀ u ∈ ([.int .i64 z] : List Value), u.oneCell' = true from fun u hu => by simp at hu; subst hu; rfl)
              have HA2 := hid (((HGZ.out.alloc (.cells #[] 3 (0, 0))).alloc (.cells #[.int .i64 z] 3 (0, 0))).drew : Grown wo _).below
              have HA3 := hid (((HGZ.out.alloc (.cells #[.int .i64 z] 3 (0, 0))).alloc (.cells #[] 3 (0, 0))).drew : Grown wo _).below
              have hzz := HGZ.out.size
              have HRY := hid (show ∀ W : World, Row (fun _ => False) (W.alloc (.cells #[.int .i64 z] 3 (0, 0))) (.slice (some ⟨W.heap.size, 0, none⟩) 1 1) 1 1 [.int .i64 z] from fun W => row_atk (heap_alloc_new W _) rfl (by omega))
              have HY2 := hid (show Row (fun _ => False) ((wz.alloc (.cells #[] 3 (0, 0))).alloc (.cells #[.int .i64 z] 3 (0, 0))).drew (.slice (some ⟨wz.heap.size + 1, 0, none⟩) 1 1) 1 1 [.int .i64 z] by
                have := HRY.out (wz.alloc (.cells #[] 3 (0, 0)))
                rw [show (wz.alloc (.cells #[] 3 (0, 0))).heap.size = wz.heap.size + 1 by simp] at this
                exact this.fr ((Fr.refl (fun _ => False) _).drew) (fun _ _ h => h))
              have HY3 := hid (show Row (fun _ => False) ((wz.alloc (.cells #[.int .i64 z] 3 (0, 0))).alloc (.cells #[] 3 (0, 0))).drew (.slice (some ⟨wz.heap.size, 0, none⟩) 1 1) 1 1 [.int .i64 z] from (HRY.out wz).fr (((Fr.refl (fun _ => False) _).alloc _).drew) (fun _ _ h => h))
              go_region_law_o ((first
                | (refine step_append (n := 0) (xs := []) (S := fun _ => False) (base := wo.heap.size) rfl rfl E rfl (own_empty _ _ _ _ _) rfl (HR1.out _ ?_) hone1.out (by omega) ?_ ?_; (· first | exact HA1.out | exact HA2.out | exact HA3.out); (· first | (simp; omega)); intro a5 c5 w5 ho5 hf5 hm5; simp only [Nat.zero_add, List.nil_append] at ho5 hm5; have B5 := hid (show Below wo.heap.size wo w5 from Below.fr (by first | exact HA1.out | exact HA2.out | exact HA3.out) hf5 (fun q hq hm => by obtain ⟨_, _, c', hv, hc⟩ := hm; injection hv with _ _ e3; omega)); have le5 := HLE.out w5 B5.out; have H5 := hid (And.intro ho5 (And.intro hf5 hm5)); have z5 := B5.out.size; clear ho5 hf5 hm5)
                | (refine step_append (n := j) (S := fun _ => False) (base := wo.heap.size) rfl rfl E rfl (Own.fr H5.out.1 ((Fr.refl (fun _ => False) w5).alloc (.cells #[.int .i64 z] 3 (0, 0))) (fun _ _ => id)) rfl (HRY.out w5) hone.out (by omega) (by simp; omega) ?_; intro a6 c6 w6 ho6 hf6 hm6; have B6 := hid (Below.fr (B5.out.alloc (by omega) (.cells #[.int .i64 z] 3 (0, 0))) hf6 (fun q hq hm => by have := (Own.mine_ge H5.out.1 hm).1; omega)); have z6 := B6.out.size; have H6 := hid ho6; clear ho6 hf6 hm6)
                | (refine step_append (n := j) (S := fun _ => False) (base := wo.heap.size) rfl rfl E rfl H5.out.1 rfl (Row.fr HY2.out H5.out.2.1 (fun q _ hm => by obtain ⟨_, _, c', hv, hc⟩ := hm; injection hv with _ _ e3; omega)) hone.out (by omega) (by omega) ?_; intro a6 c6 w6 ho6 hf6 hm6; have B6 := hid (Below.fr B5.out hf6 (fun q hq hm => by have := (Own.mine_ge H5.out.1 hm).1; omega)); have z6 := B6.out.size; have H6 := hid ho6; clear ho6 hf6 hm6)
                | (refine step_append (n := j) (S := fun _ => False) (base := wo.heap.size) rfl rfl E rfl H5.out.1 rfl (Row.fr HY3.out H5.out.2.1 (fun q _ hm => by obtain ⟨_, _, c', hv, hc⟩ := hm; injection hv with _ _ e3; omega)) hone.out (by omega) (by omega) ?_; intro a6 c6 w6 ho6 hf6 hm6; have B6 := hid (Below.fr B5.out hf6 (fun q hq hm => by have := (Own.mine_ge H5.out.1 hm).1; omega)); have z6 := B6.out.size; have H6 := hid ho6; clear ho6 hf6 hm6)
                | (refine step_append (n := j + 1) (m := o.length - j) (news := icells (o.drop j)) (S := fun _ => False) (base := wo.heap.size) rfl rfl E rfl H6.out rfl (HR0.out w6 B6.out) hone0.out (by omega) (by omega) ?_; intro a7 c7 w7 ho7 hf7 hm7; have B7 := hid (Below.fr B6.out hf7 (fun q hq hm => by have := (Own.mine_ge H6.out hm).1; omega)); have H7 := hid ho7; clear ho7 hf7 hm7)))
              all_goals go_wp2
              all_goals
                go_roundg (l.length - (i + 1))
                case measure => have := HKX.out; omega
                case rel =>
                  have hs : packsF (l.take (i + 1)) = o.take j ++ (z :: o.drop j) := by rw [HT.out, insI_mid HX.out HQ.out (by have := HL.out; omega), if_neg HSM.out]
                  have hln : (o.take j ++ (z :: o.drop j)).length = j + 1 + (o.length - j) := by rw [List.length_append, List.length_cons, hjl2, hjd]; omega
                  have ho7 := H7.out
                  rw [HYT.out] at ho7
                  exact ⟨i + 1, a7, c7, o.take j ++ (z :: o.drop j), by go_num, hlt, Nat.le_refl _, by rw [hln], by omega, hid hs, hid (by rw [hln]; exact Own.mono ho7 hble), hid (HB.out.trans (B7.out.mono hble))⟩
        · obtain rfl : j = o.length := by omega
          go_wp2_with fail
          refine wp_region_quiet_lit (by assumption) (by kernel_rfl) ?_
          repeat (first | go_big_quiet_step (fail) | quiet_step (fail))
          refine wpQuiet_nil ?_
          intro _ hw'
          obtain ⟨nq, hw''⟩ := hw'
          subst hw''
          go_wp2
          obtain ⟨wy, hwy⟩ : ∃ wy, wy = wr.drewN nq := ⟨_, rfl⟩
          have HGY := hid (show Grown wo wy by rw [hwy]; exact HG.out.drewN _)
          rw [← hwy]
          clear hwy
          refine wp_region_quiet_lit (by assumption) (by kernel_rfl) ?_
          repeat (first | go_big_quiet_step (fail) | quiet_step (fail))
          refine wpQuiet_nil ?_
          intro _ hw'
          obtain ⟨nq, hw''⟩ := hw'
          subst hw''
          obtain ⟨wz, hwz⟩ : ∃ wz, wz = wy.drewN nq := ⟨_, rfl⟩
          have HGZ := hid (show Grown wo wz by rw [hwz]; exact HGY.out.drewN _)
          rw [← hwz]
          clear hwz
          go_wp2
          have HR1 := hid (show ∀ W, Below wo.heap.size wo W → Row (fun _ => False) W (.slice a3 o.length c3) o.length 1 (icells o) from fun W hW => HES.out.fr (Fr.of_below hW : Fr (fun _ => False) _ _) (fun _ _ h => h))
          have hone1 := hid (icells_one o)
          have hone0 := hid (show ∀ u ∈ ([] : List Value), u.oneCell' = true from fun u h => by cases h)
          have HR0 := hid (show ∀ W : World, Below wo.heap.size wo W → Row (fun _ => False) W (.slice (if c3 = o.length then a3 else Option.map (fun x => x.add o.length) a3) 0 (c3 - o.length)) 0 1 [] from fun W _ => ⟨by simp, _, _, rfl, ⟨Nat.zero_le _, Nat.zero_le _, by unfold maxLen; omega⟩, (fun hn => by
            cases a3 with
            | none => have := HNN.out rfl; omega
            | some a => split at hn <;> cases hn), .inl rfl⟩)
          have le0 : (wz.alloc (.cells #[] 3 (0, 0))).drew.cell? ⟨b, off + i * k + 32, none⟩ = some (.int .i64 z) := HLE.out _ ((HGZ.out.alloc _).drew : Grown wo _).below
          have le1 : wz.drew.cell? ⟨b, off + i * k + 32, none⟩ = some (.int .i64 z) := HLE.out wz.drew (HGZ.out.drew : Grown wo _).below
          have HA1 := hid ((HGZ.out.alloc (.cells #[] 3 (0, 0))).drew : Grown wo _).below
          have HYT := hid (show ∀ j, icells (o.take j) ++ [.int .i64 z] ++ icells (o.drop j) = icells (o.take j ++ (z :: o.drop j)) from fun j => by unfold icells; simp)
          have hone := hid (show ∀ u ∈ ([.int .i64 z] : List Value), u.oneCell' = true from fun u hu => by simp at hu; subst hu; rfl)
          have HA2 := hid (((HGZ.out.alloc (.cells #[] 3 (0, 0))).alloc (.cells #[.int .i64 z] 3 (0, 0))).drew : Grown wo _).below
          have HA3 := hid (((HGZ.out.alloc (.cells #[.int .i64 z] 3 (0, 0))).alloc (.cells #[] 3 (0, 0))).drew : Grown wo _).below
          have hzz := HGZ.out.size
          have HRY := hid (show ∀ W : World, Row (fun _ => False) (W.alloc (.cells #[.int .i64 z] 3 (0, 0))) (.slice (some ⟨W.heap.size, 0, none⟩) 1 1) 1 1 [.int .i64 z] from fun W => row_atk (heap_alloc_new W _) rfl (by omega))
          have HY2 := hid (show Row (fun _ => False) ((wz.alloc (.cells #[] 3 (0, 0))).alloc (.cells #[.int .i64 z] 3 (0, 0))).drew (.slice (some ⟨wz.heap.size + 1, 0, none⟩) 1 1) 1 1 [.int .i64 z] by
            have := HRY.out (wz.alloc (.cells #[] 3 (0, 0)))
            rw [show (wz.alloc (.cells #[] 3 (0, 0))).heap.size = wz.heap.size + 1 by simp] at this
            exact this.fr ((Fr.refl (fun _ => False) _).drew) (fun _ _ h => h))
          have HY3 := hid (show Row (fun _ => False) ((wz.alloc (.cells #[.int .i64 z] 3 (0, 0))).alloc (.cells #[] 3 (0, 0))).drew (.slice (some ⟨wz.heap.size, 0, none⟩) 1 1) 1 1 [.int .i64 z] from (HRY.out wz).fr (((Fr.refl (fun _ => False) _).alloc _).drew) (fun _ _ h => h))
          go_region_law_o ((first
            | (refine step_append (n := 0) (xs := []) (S := fun _ => False) (base := wo.heap.size) rfl rfl E rfl (own_empty _ _ _ _ _) rfl (HR1.out _ ?_) hone1.out (by omega) ?_ ?_; (· first | exact HA1.out | exact HA2.out | exact HA3.out); (· first | (simp; omega)); intro a5 c5 w5 ho5 hf5 hm5; simp only [Nat.zero_add, List.nil_append] at ho5 hm5; have B5 := hid (show Below wo.heap.size wo w5 from Below.fr (by first | exact HA1.out | exact HA2.out | exact HA3.out) hf5 (fun q hq hm => by obtain ⟨_, _, c', hv, hc⟩ := hm; injection hv with _ _ e3; omega)); have le5 := HLE.out w5 B5.out; have H5 := hid (And.intro ho5 (And.intro hf5 hm5)); have z5 := B5.out.size; clear ho5 hf5 hm5)
            | (refine step_append (n := o.length) (S := fun _ => False) (base := wo.heap.size) rfl rfl E rfl (Own.fr H5.out.1 ((Fr.refl (fun _ => False) w5).alloc (.cells #[.int .i64 z] 3 (0, 0))) (fun _ _ => id)) rfl (HRY.out w5) hone.out (by omega) (by simp; omega) ?_; intro a6 c6 w6 ho6 hf6 hm6; have B6 := hid (Below.fr (B5.out.alloc (by omega) (.cells #[.int .i64 z] 3 (0, 0))) hf6 (fun q hq hm => by have := (Own.mine_ge H5.out.1 hm).1; omega)); have z6 := B6.out.size; have H6 := hid ho6; clear ho6 hf6 hm6)
            | (refine step_append (n := o.length) (S := fun _ => False) (base := wo.heap.size) rfl rfl E rfl H5.out.1 rfl (Row.fr HY2.out H5.out.2.1 (fun q _ hm => by obtain ⟨_, _, c', hv, hc⟩ := hm; injection hv with _ _ e3; omega)) hone.out (by omega) (by omega) ?_; intro a6 c6 w6 ho6 hf6 hm6; have B6 := hid (Below.fr B5.out hf6 (fun q hq hm => by have := (Own.mine_ge H5.out.1 hm).1; omega)); have z6 := B6.out.size; have H6 := hid ho6; clear ho6 hf6 hm6)
            | (refine step_append (n := o.length) (S := fun _ => False) (base := wo.heap.size) rfl rfl E rfl H5.out.1 rfl (Row.fr HY3.out H5.out.2.1 (fun q _ hm => by obtain ⟨_, _, c', hv, hc⟩ := hm; injection hv with _ _ e3; omega)) hone.out (by omega) (by omega) ?_; intro a6 c6 w6 ho6 hf6 hm6; have B6 := hid (Below.fr B5.out hf6 (fun q hq hm => by have := (Own.mine_ge H5.out.1 hm).1; omega)); have z6 := B6.out.size; have H6 := hid ho6; clear ho6 hf6 hm6)
            | (refine step_append (n := o.length + 1) (m := 0) (news := []) (S := fun _ => False) (base := wo.heap.size) rfl rfl E rfl H6.out rfl (HR0.out w6 B6.out) hone0.out (by omega) (by omega) ?_; intro a7 c7 w7 ho7 hf7 hm7; have B7 := hid (Below.fr B6.out hf7 (fun q hq hm => by have := (Own.mine_ge H6.out hm).1; omega)); have H7 := hid ho7; clear ho7 hf7 hm7)))
          all_goals go_wp2
          all_goals
            go_roundg (l.length - (i + 1))
            case measure => have := HKX.out; omega
            case rel =>
              have hs : packsF (l.take (i + 1)) = o ++ [z] := by rw [HT.out]; exact insI_end (fun q x hx => HQ.out q x (List.getElem?_eq_some_iff.1 hx).1 hx)
              have ho7 := H7.out
              rw [List.append_nil, Nat.add_zero, show icells o ++ [.int .i64 z] = icells (o ++ [z]) by unfold icells; simp] at ho7
              exact ⟨i + 1, a7, c7, o ++ [z], by go_num, hlt, Nat.le_refl _, by rw [List.length_append]; rfl, by rw [List.length_append]; simp; omega, hid hs, hid (by rw [List.length_append]; exact Own.mono ho7 hble), hid (HB.out.trans (B7.out.mono hble))⟩
    · obtain rfl : i = l.length := by omega
      go_wp2
      go_ret
      have h1 := HO.out
      have h2 := HS.out
      rw [List.take_of_length_le (Nat.le_refl _)] at h2
      subst h2
      exact ⟨_, _, rfl, h1, HB.out⟩
end Go.Proofs.YtdbpkiddiehliaaGreat
