/- slices.CompactFunc at segment's entries. -/
import Derived.Test.YtelijfdpgachnaaSWKmore
namespace Go.Proofs.Ytelijfdpgachnaa
open Go Go.RowKit Go.Sort
variable {P : Program} {k h : Nat}
theorem uniqE_snoc (e : Ent) : ∀ (n : Nat) (a : Ent) (l : List Ent), l.length ≤ n → uniqE ((a :: l) ++ [e]) = if e.nm = ((a :: l).getLast (by simp)).nm then uniqE (a :: l) else uniqE (a :: l) ++ [e]
  | _, a, [], _ => by simp [uniqE]
  | 0, a, b :: l, h => by simp at h
  | n + 1, a, b :: l, h => by
    have hl : l.length ≤ n := by simp at h; omega
    rw [List.cons_append, List.cons_append, uniqE, uniqE]
    by_cases hb : b.nm = a.nm
    · rw [if_pos hb, if_pos hb, ← List.cons_append, uniqE_snoc e n a l hl]
      cases l with
      | nil => simp [hb, uniqE]
      | cons c l => rw [List.getLast_cons (a := a) (by simp), List.getLast_cons (a := a) (by simp), List.getLast_cons (a := b) (by simp)]
    · rw [if_neg hb, if_neg hb, ← List.cons_append, uniqE_snoc e n b l hl, List.getLast_cons (a := a) (by simp)]
      by_cases he : e.nm = ((b :: l).getLast (by simp)).nm
      · rw [if_pos he, if_pos he]
      · rw [if_neg he, if_neg he]; rfl
theorem uniqE_take {d : Array Ent} {i : Nat} (h0 : 0 < i) (hi : i < d.size) : uniqE (d.toList.take (i + 1)) = if d[i]!.nm = d[i - 1]!.nm then uniqE (d.toList.take i) else uniqE (d.toList.take i) ++ [d[i]!] := by
  have e1 : d.toList.take (i + 1) = d.toList.take i ++ [d[i]!] := by
    rw [List.take_succ_eq_append_getElem (by simpa using hi), getElem!_pos d i hi]; simp
  have hne : d.toList.take i ≠ [] := by
    intro h; have := congrArg List.length h; rw [List.length_take, Array.length_toList, List.length_nil] at this; omega
  obtain ⟨a, l, hal⟩ : ∃ a l, d.toList.take i = a :: l := by
    cases hc : d.toList.take i with
    | nil => exact absurd hc hne
    | cons a l => exact ⟨a, l, rfl⟩
  have hlast : (a :: l).getLast (by simp) = d[i - 1]! := by
    have h2 : (a :: l)[i - 1]? = some d[i - 1]! := by
      rw [← hal, List.getElem?_take_of_lt (by omega), getElem!_pos d (i - 1) (by omega)]
      simp [show i - 1 < d.size by omega]
    have hlen : (a :: l).length = i := by rw [← hal]; simp; omega
    rw [List.getLast_eq_getElem]
    have h3 : (a :: l)[(a :: l).length - 1]? = some d[i - 1]! := by rw [hlen]; exact h2
    rw [List.getElem?_eq_getElem (by simp)] at h3
    injection h3
  rw [e1, hal, uniqE_snoc _ _ a l (Nat.le_refl _), hlast]
/-- What CompactFunc leaves. -/
def CompPost (k : Nat) (w0 : World) (blk off cap : Nat) (d : Array Ent) (r : Ending) (w' : World) : Prop :=
  ∃ m dk, r = .returned (.slice (some ⟨blk, off, none⟩) m cap) ∧ m ≤ d.size ∧ dk.size = d.size ∧ dk.toList.take m = uniqE d.toList ∧ SWK entC k w0 blk off dk w'
theorem uniqE_all {d : Array Ent} (n : Nat) (hn : n ≤ d.size) (h : ∀ j, 0 < j → j < n → d[j]!.nm ≠ d[j - 1]!.nm) : uniqE (d.toList.take n) = d.toList.take n := by
  induction n with
  | zero => simp [uniqE]
  | succ n ih =>
    have e1 : d.toList.take (n + 1) = d.toList.take n ++ [d[n]!] := by
      rw [List.take_succ_eq_append_getElem (by simp; omega), getElem!_pos d n hn]; simp
    by_cases h0 : n = 0
    · subst h0
      rw [e1]; simp [uniqE]
    · rw [uniqE_take (by omega) hn, if_neg (h n (by omega) (by omega)), ih (by omega) (fun j h1 h2 => h j h1 (by omega)), ← e1]
set_option maxHeartbeats 8000000 in
set_option maxRecDepth 1000000 in
theorem compactE_ok (L : SG P k h) (g : Nat) (cb : Array Value) (blk off cap : Nat) (d : Array Ent) (w : World)
    (eg : ∀ args w, (callFunc g args).run P w = .ok (.enter g args) w)
    (heq : ∀ W x y, Calls P g (#[.agg (entC x).toArray, .agg (entC y).toArray] ++ cb) W fun r w' => r = .returned (.bool (decide (x.nm = y.nm))) ∧ Grown W w')
    (R : RowK entC k w blk off d) (hsz : d.size ≤ 140737488355328) (hcap : d.size ≤ cap) (hcm : cap ≤ maxLen) :
    Calls P 68 #[.slice (some ⟨blk, off, none⟩) d.size cap, .func (.func g) #[] cb] w (CompPost k w blk off cap d) := by
  unfold maxLen at hcm
  have u_tUnit := L.u_tUnit; have r_tUnit := L.r_tUnit; have a_tUnit := L.a_tUnit; have z_tUnit := L.z_tUnit; have v_tUnit := L.v_tUnit; have u_tInt := L.u_tInt; have r_tInt := L.r_tInt; have a_tInt := L.a_tInt; have z_tInt := L.z_tInt; have v_tInt := L.v_tInt; have u_tBool := L.u_tBool; have r_tBool := L.r_tBool; have a_tBool := L.a_tBool; have z_tBool := L.z_tBool; have v_tBool := L.v_tBool; have u_tHash := L.u_tHash; have r_tHash := L.r_tHash; have a_tHash := L.a_tHash; have z_tHash := L.z_tHash; have v_tHash := L.v_tHash; have u_tWhere := L.u_tWhere; have r_tWhere := L.r_tWhere; have a_tWhere := L.a_tWhere; have z_tWhere := L.z_tWhere; have v_tWhere := L.v_tWhere; have u_tEnt := L.u_tEnt; have r_tEnt := L.r_tEnt; have a_tEnt := L.a_tEnt; have z_tEnt := L.z_tEnt; have v_tEnt := L.v_tEnt; have u_tEnts := L.u_tEnts; have r_tEnts := L.r_tEnts; have a_tEnts := L.a_tEnts; have z_tEnts := L.z_tEnts; have v_tEnts := L.v_tEnts; have u_tEqE := L.u_tEqE; have r_tEqE := L.r_tEqE; have a_tEqE := L.a_tEqE; have z_tEqE := L.z_tEqE; have v_tEqE := L.v_tEqE
  have mixed := L.mixed
  have HC := hid heq
  have S0 := hid (SWK.start R.hH)
  have k0 : 0 < k := by rw [L.hk]; omega
  clear heq
  by_cases h2 : d.size < 2
  · have hu : d.toList.take d.size = uniqE d.toList := by
      have := uniqE_all d.size (Nat.le_refl _) (d := d) (fun j h1 h3 => by omega)
      rw [List.take_of_length_le (by simp)] at this ⊢
      exact this.symm
    have HU := hid hu
    clear hu
    go_enter L.f_compactE, Try.ntmps68
    go_wp2
    go_ret
    exact ⟨d.size, d, rfl, Nat.le_refl _, rfl, HU.out, S0.out⟩
  have hd2 : decide ((d.size : Int) < 2) = false := decide_eq_false (by omega)
  go_enter L.f_compactE, Try.ntmps68
  go_wp2
  go_loopg [5] d.size (fun kx s5 wr => ∃ i : Nat, s5 = .int .i64 i ∧ 1 ≤ i ∧ i ≤ d.size ∧ d.size - i ≤ kx ∧ Hid (∀ j, 0 < j → j < i → d[j]!.nm ≠ d[j - 1]!.nm) ∧ Hid (SWK entC k w blk off d wr))
  case atStart => exact ⟨1, rfl, Nat.le_refl _, by omega, by omega, hid (fun j h1 h3 => absurd h3 (by omega)), S0⟩
  case round =>
    clear S0
    obtain ⟨i, rfl, hi1, hi, hkx, HA, S1⟩ := hrel
    by_cases hlt : i < d.size
    · obtain ⟨j, rfl⟩ : ∃ j, i = j + 1 := ⟨i - 1, by omega⟩
      have hjs : j < d.size := by omega
      have la := S1.out.ld R rfl P (j + 1) hlt
      have lb := S1.out.ld R rfl P j hjs
      have hc := fun n os => HC.out (grow (wr.drewN n) os) d[j + 1]! d[j]!
      have HD := hid (show d[j + 1]! = d[j + 1]! ∧ d[j]! = d[j]! from ⟨rfl, rfl⟩)
      by_cases hnm : d[j + 1]!.nm = d[j]!.nm
      · have hd : decide (d[j + 1]!.nm = d[j]!.nm) = true := by simp [hnm]
        rw [hd] at hc
        have HU := hid (show uniqE (d.toList.take (j + 2)) = d.toList.take (j + 1) by
          rw [uniqE_take (by omega) hlt, Nat.add_sub_cancel, if_pos hnm]
          exact uniqE_all (j + 1) (by omega) HA.out)
        clear hd hnm HA HD
        generalize entC d[j + 1]! = X at la hc
        generalize entC d[j]! = Y at lb hc
        go_wp2_with fail
        refine wp_region_quiet_grown (by assumption) (by kernel_rfl) ?_
        repeat (first | go_big_quiet_step ((go_at_fn g; refine Calls.grown_of (hc _ _))) | quiet_step ((go_at_fn g; refine Calls.grown_of (hc _ _))))
        refine wpQuiet_nil ?_
        intro _ hw'
        obtain ⟨⟨nq, osq⟩, hw''⟩ := hw'
        subst hw''
        have S2 := hid (S1.out.grown nq osq)
        clear S1 la lb hc
        generalize grow (wr.drewN nq) osq = w2 at S2 ⊢
        clear nq osq
        have hcap2 : ¬ (cap = j + 1) := by omega
        go_wp2
        go_loopg [5, 7] d.size (fun kx s5 s7 wr => ∃ (kk q : Nat) (dk : Array Ent), s5 = .int .i64 kk ∧ s7 = .int .i64 q ∧ j + 1 ≤ kk ∧ kk ≤ j + q ∧ 1 ≤ q ∧ j + 1 + q ≤ d.size ∧ d.size - (j + 1 + q) ≤ kx ∧ dk.size = d.size ∧ Hid (∀ t, kk ≤ t → dk[t]! = d[t]!) ∧ Hid (dk.toList.take kk = uniqE (d.toList.take (j + 1 + q))) ∧ Hid (SWK entC k w blk off dk wr))
        case atStart => exact ⟨j + 1, 1, d, by go_num, rfl, Nat.le_refl _, Nat.le_refl _, Nat.le_refl _, by omega, by omega, rfl, hid (fun _ _ => rfl), hid HU.out.symm, S2⟩
        case round =>
          clear S2 HU
          obtain ⟨kk, q, dk, rfl, rfl, hk1, hk2, hq1, hq2, hkx2, hds, HT, HU, S1⟩ := hrel
          obtain ⟨p, rfl⟩ : ∃ p, q = p + 1 := ⟨q - 1, by omega⟩
          by_cases hlt2 : j + 1 + (p + 1) < d.size
          · have ha1 : j + 1 + (p + 1) < dk.size := by omega
            have ha2 : j + 1 + p < dk.size := by omega
            have la := S1.out.ld R hds P (j + 1 + (p + 1)) ha1
            have lb := S1.out.ld R hds P (j + 1 + p) ha2
            have hc := fun n os => HC.out (grow (wr.drewN n) os) d[j + 1 + (p + 1)]! d[j + 1 + p]!
            rw [HT.out _ (by omega)] at la lb
            have hst2 : ∀ nq osq, Sem.run P (storeCells ⟨blk, off + kk * k, none⟩ (entC d[j + 1 + (p + 1)]!) 0) (grow (wr.drewN nq) osq) = .ok () ((grow (wr.drewN nq) osq).setCells blk (off + kk * k) (entC d[j + 1 + (p + 1)]!)) := fun nq osq => SWK.st (S1.out.grown nq osq) R hds P kk (by omega) _
            have hld2 : ∀ nq osq, Sem.run P (loadCellsFrom ⟨blk, off + (j + 1 + (p + 1)) * k, none⟩ 0 k #[]) (grow (wr.drewN nq) osq) = .ok (entC d[j + 1 + (p + 1)]!).toArray (grow (wr.drewN nq) osq) := fun nq osq => by
              have := (S1.out.grown nq osq).load R hds P (j + 1 + (p + 1)) ha1
              rwa [HT.out _ (by omega)] at this
            have hS3 : ∀ nq osq, SWK entC k w blk off (dk.setIfInBounds kk d[j + 1 + (p + 1)]!) ((grow (wr.drewN nq) osq).setCells blk (off + kk * k) (entC d[j + 1 + (p + 1)]!)) := fun nq osq => SWK.set1 (S1.out.grown nq osq) R kk (by omega) _
            have hut := uniqE_take (d := d) (i := j + 1 + (p + 1)) (by omega) hlt2
            rw [show j + 1 + (p + 1) - 1 = j + 1 + p by omega] at hut
            have HUT := hid hut
            have HST := hid hst2
            have HLD := hid hld2
            have HS3 := hid hS3
            clear hst2 hld2 hS3 hut
            have ad1 : off + (j + 1) * k + (p + 1) * k = off + (j + 1 + (p + 1)) * k := by rw [Nat.add_mul (j + 1)]; omega
            have ad2 : off + (j + 1) * k + p * k = off + (j + 1 + p) * k := by rw [Nat.add_mul (j + 1)]; omega
            have hpl : (p : Int) + 1 < ((d.size - (j + 1) : Nat) : Int) := by omega
            have nX : (entC d[j + 1 + (p + 1)]!).length = k := by rw [L.hk]; exact entC_length _
            by_cases hnm : d[j + 1 + (p + 1)]!.nm = d[j + 1 + p]!.nm
            · have hd : decide (d[j + 1 + (p + 1)]!.nm = d[j + 1 + p]!.nm) = true := by simp [hnm]
              rw [hd] at hc
              have HNM := hid hnm
              clear hd hnm HST HLD HS3
              generalize entC d[j + 1 + (p + 1)]! = X at la hc nX
              generalize entC d[j + 1 + p]! = Y at lb hc
              rw [← ad1] at la
              rw [← ad2] at lb
              clear ad1 ad2
              go_wp2_with fail
              refine wp_region_quiet_grown (by assumption) (by kernel_rfl) ?_
              repeat (first | go_big_quiet_step ((go_at_fn g; refine Calls.grown_of (hc _ _))) | quiet_step ((go_at_fn g; refine Calls.grown_of (hc _ _))))
              refine wpQuiet_nil ?_
              intro _ hw'
              obtain ⟨⟨nq, osq⟩, hw''⟩ := hw'
              subst hw''
              go_wp2
              go_roundg (d.size - (j + 1 + (p + 1 + 1)))
              case measure => omega
              case rel => exact ⟨kk, p + 1 + 1, dk, rfl, by go_num, hk1, by omega, by omega, by omega, Nat.le_refl _, hds, HT, hid (by rw [HU.out, show j + 1 + (p + 1 + 1) = j + 1 + (p + 1) + 1 by omega, HUT.out, if_pos HNM.out]), hid (S1.out.grown nq osq)⟩
            · have hd : decide (d[j + 1 + (p + 1)]!.nm = d[j + 1 + p]!.nm) = false := by simp [hnm]
              rw [hd] at hc
              have HNM := hid hnm
              clear hd hnm
              obtain ⟨X, hX⟩ : ∃ X, X = entC d[j + 1 + (p + 1)]! := ⟨_, rfl⟩
              have HX := hid hX
              rw [← hX] at la hc nX
              clear hX
              generalize entC d[j + 1 + p]! = Y at lb hc
              rw [← ad1] at la
              rw [← ad2] at lb
              have AD1 := hid ad1
              clear ad1 ad2
              go_wp2_with fail
              refine wp_region_quiet_grown (by assumption) (by kernel_rfl) ?_
              repeat (first | go_big_quiet_step ((go_at_fn g; refine Calls.grown_of (hc _ _))) | quiet_step ((go_at_fn g; refine Calls.grown_of (hc _ _))))
              refine wpQuiet_nil ?_
              intro _ hw'
              obtain ⟨⟨nq, osq⟩, hw''⟩ := hw'
              subst hw''
              have hst := HST.out nq osq
              have hld := HLD.out nq osq
              rw [← AD1.out] at hld
              rw [← HX.out] at hst hld
              have hS3 := HS3.out nq osq
              rw [← HX.out] at hS3
              have S3 := hid hS3
              clear hS3 HST HLD HS3 S1 la lb hc
              generalize grow (wr.drewN nq) osq = w2 at hst hld S3 ⊢
              go_wp2
              go_roundg (d.size - (j + 1 + (p + 1 + 1)))
              case measure => omega
              case rel =>
                refine ⟨kk + 1, p + 1 + 1, _, by go_num, by go_num, by omega, by omega, by omega, by omega, Nat.le_refl _, by simp [hds], hid (fun t ht => ?_), hid ?_, S3⟩
                · by_cases hts : t < dk.size
                  · rw [getElem!_pos _ t (by simpa using hts), Array.getElem_setIfInBounds (by simpa using hts), if_neg (by omega), ← getElem!_pos dk t hts]
                    exact HT.out t (by omega)
                  · rw [getElem!_neg _ t (by simpa using hts), ← getElem!_neg dk t hts]
                    exact HT.out t (by omega)
                · rw [show j + 1 + (p + 1 + 1) = j + 1 + (p + 1) + 1 by omega, HUT.out, if_neg HNM.out, ← HU.out]
                  rw [List.take_succ_eq_append_getElem (by simp; omega)]
                  simp [List.take_set]
                  exact List.set_eq_of_length_le (by simp; omega)
          · obtain ⟨hq3⟩ : j + 1 + (p + 1) = d.size ∧ True := ⟨by omega, trivial⟩
            have hcl := SWK.clear S1.out R hds P default (d.size - kk) kk (by omega)
            obtain ⟨d', f1, f2, f3⟩ := SWK.fill R default (d.size - kk) kk dk wr S1.out (by omega)
            have hrun : ∀ ty, (Builtin.clear_ #[30] ty #[.slice (some ⟨blk, off + kk * k, none⟩) (d.size - kk) (cap - kk)]).run P wr = .ok (.tuple #[]) (wr.setCells blk (off + kk * k) (List.replicate (d.size - kk) (entC default)).flatten) := fun ty =>
              run_clear_rows wr _ _ ty _ L.u_tEnts L.v_tEnt blk _ _ _ (by omega) _ hcl
            have HP : Hid (d'.toList.take kk = uniqE d.toList) := hid (by
              have h1 := HU.out
              rw [hq3, List.take_of_length_le (l := d.toList) (by simp)] at h1
              rw [← h1]
              apply List.ext_getElem?
              intro t
              by_cases ht : t < kk
              · rw [List.getElem?_take_of_lt ht, List.getElem?_take_of_lt ht]
                have := f2 t ht
                rw [getElem!_pos d' t (by omega), getElem!_pos dk t (by omega)] at this
                simp [show t < d'.size by omega, show t < dk.size by omega, this]
              · rw [List.getElem?_eq_none (by simp; omega), List.getElem?_eq_none (by simp; omega)])
            have HF := hid (show d'.size = d.size ∧ SWK entC k w blk off d' _ from ⟨f1.trans hds, f3⟩)
            have hkc : ¬ (cap = kk) := by omega
            have hpl : ¬ ((p : Int) + 1 < ((d.size - (j + 1) : Nat) : Int)) := by omega
            clear f1 f2 f3 hcl S1 HT HU hq3
            generalize (wr.setCells blk (off + kk * k) (List.replicate (d.size - kk) (entC default)).flatten) = w9 at hrun HF
            generalize entC default = Z at *
            go_wp2
            go_ret
            exact ⟨kk, d', rfl, by omega, HF.out.1, HP.out, HF.out.2⟩
      · have hd : decide (d[j + 1]!.nm = d[j]!.nm) = false := by simp [hnm]
        rw [hd] at hc
        have HNM := hid hnm
        clear hd hnm HD
        generalize entC d[j + 1]! = X at la hc
        generalize entC d[j]! = Y at lb hc
        go_wp2_with fail
        refine wp_region_quiet_grown (by assumption) (by kernel_rfl) ?_
        repeat (first | go_big_quiet_step ((go_at_fn g; refine Calls.grown_of (hc _ _))) | quiet_step ((go_at_fn g; refine Calls.grown_of (hc _ _))))
        refine wpQuiet_nil ?_
        intro _ hw'
        obtain ⟨⟨nq, osq⟩, hw''⟩ := hw'
        subst hw''
        go_wp2
        go_roundg (d.size - (j + 1 + 1))
        case measure => omega
        case rel => exact ⟨j + 1 + 1, by go_num, by omega, by omega, Nat.le_refl _, hid (fun t h1 h2 => by
          by_cases e : t = j + 1
          · subst e; exact HNM.out
          · exact HA.out t h1 (by omega)), hid (S1.out.grown nq osq)⟩
    · obtain rfl : i = d.size := by omega
      have HP : Hid (d.toList.take d.size = uniqE d.toList) := hid (by
        have := uniqE_all d.size (Nat.le_refl _) HA.out
        rw [List.take_of_length_le (by simp)] at this ⊢
        exact this.symm)
      clear HA
      go_wp2
      go_ret
      exact ⟨d.size, d, rfl, Nat.le_refl _, rfl, HP.out, S1.out⟩
end Go.Proofs.Ytelijfdpgachnaa
