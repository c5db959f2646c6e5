/- slices.IndexFunc and DeleteFunc at segment's entries, with a function value that may have captured cells. -/
import Derived.Test.YtdbpkiddiehliaaGreatR10Packs
import Derived.Test.YtdbpkiddiehliaaGreatCompactE
namespace Go.Proofs.YtdbpkiddiehliaaGreat
open Go Go.RowKit Go.Sort
/-- What segment's Without and Packs lean on of the program. -/
structure SD (P : Program) : Prop where
  u_tPredE : P.underlying 68 = some (TypeDesc.func #[54] #[4] false)
  r_tPredE : ∀ w, (underlying 68).run P w = .ok (TypeDesc.func #[54] #[4] false) w
  a_tPredE : ∀ w, Sem.run P (isAgg 68) w = Result.ok false w
  z_tPredE : ∀ w, Sem.run P (Go.sizeOf 68) w = Result.ok 1 w
  v_tPredE : ∀ w, Sem.run P (zeroValue 68) w = Result.ok Value.nilFunc w
  u_tMapIB : P.underlying 66 = some (TypeDesc.map 3 4)
  r_tMapIB : ∀ w, (underlying 66).run P w = .ok (TypeDesc.map 3 4) w
  a_tMapIB : ∀ w, Sem.run P (isAgg 66) w = Result.ok false w
  z_tMapIB : ∀ w, Sem.run P (Go.sizeOf 66) w = Result.ok 1 w
  v_tMapIB : ∀ w, Sem.run P (zeroValue 66) w = Result.ok (Value.map none) w
  u_tInts : P.underlying 25 = some (TypeDesc.slice 3)
  r_tInts : ∀ w, (underlying 25).run P w = .ok (TypeDesc.slice 3) w
  a_tInts : ∀ w, Sem.run P (isAgg 25) w = Result.ok false w
  z_tInts : ∀ w, Sem.run P (Go.sizeOf 25) w = Result.ok 1 w
  v_tInts : ∀ w, Sem.run P (zeroValue 25) w = Result.ok (Value.slice none 0 0) w
  f_deleteE : P.funcs[27]? = some Tryz.f27
  f_indexE : P.funcs[43]? = some Tryz.f43
  f_segWithout : P.funcs[13]? = some Tryz.f13
  f_segWithoutF : P.funcs[29]? = some Tryz.f29
  f_segPacks : P.funcs[16]? = some Tryz.f16
  f_r08Numbers : P.funcs[15]? = some Tryz.f15
  f_sortI : P.funcs[30]? = some Tryz.f30
  f_compactI : P.funcs[31]? = some Tryz.f31
theorem sd : SD Tryz.prog := {
  u_tPredE := Tryz.underlying68
  r_tPredE := fun w => run_underlying Tryz.underlying68 w
  a_tPredE := Tryz.isAgg68
  z_tPredE := Tryz.sizeOf68
  v_tPredE := Tryz.zeroValue68
  u_tMapIB := Tryz.underlying66
  r_tMapIB := fun w => run_underlying Tryz.underlying66 w
  a_tMapIB := Tryz.isAgg66
  z_tMapIB := Tryz.sizeOf66
  v_tMapIB := Tryz.zeroValue66
  u_tInts := Tryz.underlying25
  r_tInts := fun w => run_underlying Tryz.underlying25 w
  a_tInts := Tryz.isAgg25
  z_tInts := Tryz.sizeOf25
  v_tInts := Tryz.zeroValue25
  f_deleteE := Tryz.func27
  f_indexE := Tryz.func43
  f_segWithout := Tryz.func13
  f_segWithoutF := Tryz.func29
  f_segPacks := Tryz.func16
  f_r08Numbers := Tryz.func15
  f_sortI := Tryz.func30
  f_compactI := Tryz.func31
  }
theorem first_or (del : Ent → Bool) (d : Array Ent) : ∀ n, n ≤ d.size → (∃ i, i < n ∧ del d[i]! = true ∧ ∀ j, j < i → del d[j]! = false) ∨ (∀ j, j < n → del d[j]! = false)
  | 0, _ => .inr fun j hj => by omega
  | n + 1, h => by
    rcases first_or del d n (by omega) with ⟨i, hi, h1, h2⟩ | h3
    · exact .inl ⟨i, by omega, h1, h2⟩
    · cases hd : del d[n]! with
      | true => exact .inl ⟨n, by omega, hd, h3⟩
      | false =>
        refine .inr fun j hj => ?_
        by_cases e : j = n
        · subst e; exact hd
        · exact h3 j (by omega)
theorem SWK.fr {w W : World} {k blk off : Nat} {dk : Array Ent} (S : SWK entC k w blk off dk W) : Fr (· = blk) w W := by
  obtain ⟨q, os, rfl⟩ := S
  refine ⟨rfl, rfl, rfl, ?_, fun b hb' hne => ?_⟩
  · unfold sortWorldK; rw [size_grow, size_putRowK]; exact Nat.le_add_right _ _
  · unfold sortWorldK
    rw [heap_grow_old _ _ (by rw [size_putRowK]; exact hb')]
    unfold putRowK putRow mapBlock
    show (w.heap.modify blk _)[b]? = _
    rw [Array.getElem?_modify, if_neg (fun e => hne e.symm)]
theorem SWK.grows {w W W' : World} {k blk off : Nat} {dk : Array Ent} (S : SWK entC k w blk off dk W) (h : Grown W W') : SWK entC k w blk off dk W' := by
  obtain ⟨q, os, rfl⟩ := h
  exact S.grown q os
variable {P : Program} {k h : Nat}
set_option maxHeartbeats 4000000 in
set_option maxRecDepth 1000000 in
theorem indexE_ok (L : SG P k h) (D : SD P) (g : Nat) (cb : Array Value) (blk off cap : Nat) (d : Array Ent) (w : World) (del : Ent → Bool)
    (eg : ∀ args w, (callFunc g args).run P w = .ok (.enter g args) w)
    (hdel : ∀ W, Grown w W → ∀ x, Calls P g (#[.agg (entC x).toArray] ++ cb) W fun r w' => r = .returned (.bool (del x)) ∧ Grown W w')
    (R : RowK entC k w blk off d) (hsz : d.size ≤ 140737488355328) (hcap : d.size ≤ cap) (hcm : cap ≤ maxLen) :
    (∀ i, i < d.size → del d[i]! = true → (∀ j, j < i → del d[j]! = false) → Calls P 43 #[.slice (some ⟨blk, off, none⟩) d.size cap, .func (.func g) #[] cb] w fun r w' => r = .returned (.int .i64 i) ∧ Grown w w') ∧
    ((∀ j, j < d.size → del d[j]! = false) → Calls P 43 #[.slice (some ⟨blk, off, none⟩) d.size cap, .func (.func g) #[] cb] w fun r w' => r = .returned (.int .i64 (-1)) ∧ Grown w w') := by
  unfold maxLen at hcm
  have u_tUnit := L.u_tUnit; have r_tUnit := L.r_tUnit; have a_tUnit := L.a_tUnit; have z_tUnit := L.z_tUnit; have v_tUnit := L.v_tUnit; have u_tInt := L.u_tInt; have r_tInt := L.r_tInt; have a_tInt := L.a_tInt; have z_tInt := L.z_tInt; have v_tInt := L.v_tInt; have u_tBool := L.u_tBool; have r_tBool := L.r_tBool; have a_tBool := L.a_tBool; have z_tBool := L.z_tBool; have v_tBool := L.v_tBool; have u_tHash := L.u_tHash; have r_tHash := L.r_tHash; have a_tHash := L.a_tHash; have z_tHash := L.z_tHash; have v_tHash := L.v_tHash; have u_tWhere := L.u_tWhere; have r_tWhere := L.r_tWhere; have a_tWhere := L.a_tWhere; have z_tWhere := L.z_tWhere; have v_tWhere := L.v_tWhere; have u_tEnt := L.u_tEnt; have r_tEnt := L.r_tEnt; have a_tEnt := L.a_tEnt; have z_tEnt := L.z_tEnt; have v_tEnt := L.v_tEnt; have u_tEnts := L.u_tEnts; have r_tEnts := L.r_tEnts; have a_tEnts := L.a_tEnts; have z_tEnts := L.z_tEnts; have v_tEnts := L.v_tEnts
  have u_tPredE := D.u_tPredE; have r_tPredE := D.r_tPredE; have a_tPredE := D.a_tPredE; have z_tPredE := D.z_tPredE; have v_tPredE := D.v_tPredE
  have mixed := L.mixed
  have HC := hid hdel
  have S0 : Hid (SWK entC k w blk off d w) := hid (SWK.start R.hH)
  have k0 : ¬ k = 0 := by rw [L.hk]; omega
  clear hdel
  refine ⟨fun i0 hi0 hd0 hno => ?_, fun hno => ?_⟩
  · have HNO := hid hno
    have HD0 := hid hd0
    clear hno hd0
    go_enter D.f_indexE, Tryz.ntmps43
    go_wp2
    go_loopg [8] d.size (fun kx s8 wr => ∃ j : Nat, s8 = .int .i64 j ∧ j ≤ i0 ∧ d.size - j ≤ kx ∧ Hid (Grown w wr))
    case atStart => exact ⟨0, rfl, Nat.zero_le _, by omega, hid (Grown.refl _)⟩
    case round =>
      obtain ⟨j, rfl, hj, hkx, HG⟩ := hrel
      have hlt : j < d.size := by omega
      have la := (SWK.grows S0.out HG.out).load R rfl P j hlt
      have hc := HC.out wr HG.out d[j]!
      by_cases hji : j = i0
      · subst hji
        rw [HD0.out] at hc
        generalize entC d[j]! = X at *
        go_wp2_with (go_at_fn g; refine hc.mono ?_; rintro r w2 ⟨rfl, hg2⟩; have HG2 := hid hg2; clear hg2)
        go_ret
        exact ⟨rfl, HG.out.trans HG2.out⟩
      · rw [HNO.out j (by omega)] at hc
        generalize entC d[j]! = X at *
        go_wp2_with (go_at_fn g; refine hc.mono ?_; rintro r w2 ⟨rfl, hg2⟩; have HG2 := hid hg2; clear hg2)
        go_roundg (d.size - (j + 1))
        case measure => omega
        case rel => exact ⟨j + 1, by go_num, by omega, Nat.le_refl _, hid (HG.out.trans HG2.out)⟩
  · have HNO := hid hno
    clear hno
    go_enter D.f_indexE, Tryz.ntmps43
    go_wp2
    go_loopg [8] d.size (fun kx s8 wr => ∃ j : Nat, s8 = .int .i64 j ∧ j ≤ d.size ∧ d.size - j ≤ kx ∧ Hid (Grown w wr))
    case atStart => exact ⟨0, rfl, Nat.zero_le _, by omega, hid (Grown.refl _)⟩
    case round =>
      obtain ⟨j, rfl, hj, hkx, HG⟩ := hrel
      by_cases hlt : j < d.size
      · have la := (SWK.grows S0.out HG.out).load R rfl P j hlt
        have hc := HC.out wr HG.out d[j]!
        rw [HNO.out j hlt] at hc
        generalize entC d[j]! = X at *
        go_wp2_with (go_at_fn g; refine hc.mono ?_; rintro r w2 ⟨rfl, hg2⟩; have HG2 := hid hg2; clear hg2)
        go_roundg (d.size - (j + 1))
        case measure => omega
        case rel => exact ⟨j + 1, by go_num, by omega, Nat.le_refl _, hid (HG.out.trans HG2.out)⟩
      · obtain rfl : j = d.size := by omega
        go_wp2
        go_ret
        exact ⟨rfl, HG.out⟩
def DelPost (k : Nat) (w0 : World) (blk off cap : Nat) (d : Array Ent) (del : Ent → Bool) (r : Ending) (w' : World) : Prop :=
  ∃ m dk, r = .returned (.slice (some ⟨blk, off, none⟩) m cap) ∧ m ≤ d.size ∧ dk.size = d.size ∧ dk.toList.take m = d.toList.filter (fun e => !del e) ∧ SWK entC k w0 blk off dk w'
theorem take_succ_bang {d : Array Ent} {q : Nat} (h : q < d.size) : d.toList.take (q + 1) = d.toList.take q ++ [d[q]!] := by
  rw [List.take_succ_eq_append_getElem (by simpa using h), getElem!_pos d q h]; simp
theorem filter_all {d : Array Ent} {del : Ent → Bool} : ∀ n, n ≤ d.size → (∀ j, j < n → del d[j]! = false) → (d.toList.take n).filter (fun e => !del e) = d.toList.take n
  | 0, _, _ => by simp
  | n + 1, h, hn => by
    rw [take_succ_bang (by omega), List.filter_append, filter_all n (by omega) (fun j hj => hn j (by omega))]
    simp [hn n (by omega)]
set_option maxHeartbeats 8000000 in
set_option maxRecDepth 1000000 in
theorem deleteE_ok (L : SG P k h) (D : SD P) (g : Nat) (cb : Array Value) (blk off cap : Nat) (d : Array Ent) (w : World) (del : Ent → Bool)
    (eg : ∀ args w, (callFunc g args).run P w = .ok (.enter g args) w)
    (hdel : ∀ W, Fr (· = blk) w W → ∀ x, Calls P g (#[.agg (entC x).toArray] ++ cb) W fun r w' => r = .returned (.bool (del x)) ∧ Grown W w')
    (R : RowK entC k w blk off d) (hsz : d.size ≤ 140737488355328) (hcap : d.size ≤ cap) (hcm : cap ≤ maxLen) :
    Calls P 27 #[.slice (some ⟨blk, off, none⟩) d.size cap, .func (.func g) #[] cb] w (DelPost k w blk off cap d del) := by
  have hI := indexE_ok L D g cb blk off cap d w del eg (fun W hW x => hdel W (hW.fr _) x) R hsz hcap hcm
  unfold maxLen at hcm
  have u_tUnit := L.u_tUnit; have r_tUnit := L.r_tUnit; have a_tUnit := L.a_tUnit; have z_tUnit := L.z_tUnit; have v_tUnit := L.v_tUnit; have u_tInt := L.u_tInt; have r_tInt := L.r_tInt; have a_tInt := L.a_tInt; have z_tInt := L.z_tInt; have v_tInt := L.v_tInt; have u_tBool := L.u_tBool; have r_tBool := L.r_tBool; have a_tBool := L.a_tBool; have z_tBool := L.z_tBool; have v_tBool := L.v_tBool; have u_tHash := L.u_tHash; have r_tHash := L.r_tHash; have a_tHash := L.a_tHash; have z_tHash := L.z_tHash; have v_tHash := L.v_tHash; have u_tWhere := L.u_tWhere; have r_tWhere := L.r_tWhere; have a_tWhere := L.a_tWhere; have z_tWhere := L.z_tWhere; have v_tWhere := L.v_tWhere; have u_tEnt := L.u_tEnt; have r_tEnt := L.r_tEnt; have a_tEnt := L.a_tEnt; have z_tEnt := L.z_tEnt; have v_tEnt := L.v_tEnt; have u_tEnts := L.u_tEnts; have r_tEnts := L.r_tEnts; have a_tEnts := L.a_tEnts; have z_tEnts := L.z_tEnts; have v_tEnts := L.v_tEnts
  have u_tPredE := D.u_tPredE; have r_tPredE := D.r_tPredE; have a_tPredE := D.a_tPredE; have z_tPredE := D.z_tPredE; have v_tPredE := D.v_tPredE
  have e_indexE : ∀ args w, (callFunc 43 args).run P w = .ok (.enter 43 args) w := enters_of D.f_indexE rfl rfl
  have mixed := L.mixed
  have HC := hid hdel
  have S0 : Hid (SWK entC k w blk off d w) := hid (SWK.start R.hH)
  have k0 : ¬ k = 0 := by rw [L.hk]; omega
  rcases first_or del d d.size (Nat.le_refl _) with ⟨i0, hi0, hd0, hno⟩ | hno
  · have HI := hid (hI.1 i0 hi0 hd0 hno)
    have HF0 := hid (show d.toList.take i0 = (d.toList.take (i0 + 1)).filter (fun e => !del e) by
      rw [take_succ_bang hi0, List.filter_append, filter_all i0 (by omega) hno]; simp [hd0])
    clear hI hdel hd0 hno
    go_enter D.f_deleteE, Tryz.ntmps27
    go_wp2_with (go_at_fn 43; refine HI.out.mono ?_; rintro r w1 ⟨rfl, hg1⟩; have S1 := hid (SWK.grows S0.out hg1); clear hg1)
    go_loopg [5, 6] d.size (fun kx s5 s6 wr => ∃ (kk q : Nat) (dk : Array Ent), s5 = .int .i64 kk ∧ s6 = .int .i64 q ∧ kk < q ∧ q ≤ d.size ∧ d.size - q ≤ kx ∧ dk.size = d.size ∧ Hid (∀ t, q ≤ t → dk[t]! = d[t]!) ∧ Hid (dk.toList.take kk = (d.toList.take q).filter (fun e => !del e)) ∧ Hid (SWK entC k w blk off dk wr))
    case atStart => exact ⟨i0, i0 + 1, d, rfl, by go_num, by omega, by omega, by omega, rfl, hid (fun _ _ => rfl), HF0, S1⟩
    case round =>
      clear S1 HF0 HI
      obtain ⟨kk, q, dk, rfl, rfl, hkq, hq, hkx, hds, HT, HU, S1⟩ := hrel
      by_cases hlt : q < d.size
      · have la := S1.out.load R hds P q (by omega)
        rw [HT.out q (Nat.le_refl _)] at la
        obtain ⟨wx, hwx⟩ : ∃ wx, wx = wr.alloc (.cells (entC d[q]!).toArray 54 (0, 0)) := ⟨_, rfl⟩
        have HGX := hid (show Grown wr wx by rw [hwx]; exact (Grown.refl _).alloc _)
        have st : Sem.run P (storeCells ⟨wr.heap.size, 0, none⟩ (entC d[q]!) 0) (wr.alloc (.cells (entC default).toArray 54 (0, 0))) = .ok () (wr.alloc (.cells (entC d[q]!).toArray 54 (0, 0))) := stores_new (by rw [entC_length, entC_length]) (entC_one _)
        have hx : wx.heap[wr.heap.size]? = some (.cells (entC d[q]!).toArray 54 (0, 0)) := by rw [hwx]; exact heap_alloc_new wr _
        have lx : Sem.run P (loadCellsFrom ⟨wr.heap.size, 0, none⟩ 0 k #[]) wx = .ok (entC d[q]!).toArray wx := by rw [L.hk]; exact load_box hx
        have hc := HC.out wx (SWK.fr (SWK.grows S1.out HGX.out)) d[q]!
        have HXB := hid hx
        have nX : (entC d[q]!).length = k := by rw [L.hk]; exact entC_length _
        have HLX := hid (fun W (hW : Grown wx W) => show Sem.run P (loadCellsFrom ⟨wr.heap.size, 0, none⟩ 0 k #[]) W = .ok (entC d[q]!).toArray W by rw [L.hk]; exact load_box ((hW.fr (fun _ => False)).heap HXB.out id))
        have HSS := hid (fun W (hW : Grown wr W) => SWK.st (SWK.grows S1.out hW) R hds P kk (by omega) d[q]!)
        have HS3 := hid (fun W (hW : Grown wr W) => SWK.set1 (SWK.grows S1.out hW) R kk (by omega) d[q]!)
        have HTS := hid (take_succ_bang hlt)
        rw [← hwx] at st
        clear hx hwx
        cases hdq : del d[q]! with
        | true =>
          rw [hdq] at hc
          have HDQ := hid hdq
          clear hdq
          generalize entC d[q]! = X at *
          generalize entC default = Z at *
          go_wp2_with (go_at_fn g; refine hc.mono ?_; rintro r w2 ⟨rfl, hg2⟩; have HG2 := hid hg2; clear hg2)
          go_roundg (d.size - (q + 1))
          case measure => omega
          case rel => exact ⟨kk, q + 1, dk, rfl, by go_num, by omega, hlt, Nat.le_refl _, hds, hid (fun t ht => HT.out t (by omega)), hid (by rw [HTS.out, List.filter_append, ← HU.out]; simp [HDQ.out]), hid (SWK.grows S1.out (HGX.out.trans HG2.out))⟩
        | false =>
          rw [hdq] at hc
          have HDQ := hid hdq
          clear hdq
          generalize entC d[q]! = X at *
          generalize entC default = Z at *
          have hkd : kk < d.size := by omega
          go_wp2_with (go_at_fn g; refine hc.mono ?_; rintro r w2 ⟨rfl, hg2⟩; have HG2 := hid hg2; have ly := HLX.out w2 hg2; have sy := HSS.out w2 (HGX.out.trans hg2); have S3 := hid (HS3.out w2 (HGX.out.trans hg2)); clear hg2)
          go_roundg (d.size - (q + 1))
          case measure => omega
          case rel =>
            refine ⟨kk + 1, q + 1, _, by go_num, by go_num, by omega, hlt, Nat.le_refl _, by simp [hds], hid (fun t ht => ?_), hid ?_, S3⟩
            · by_cases hts : t < dk.size
              · rw [getElem!_pos _ t (by simpa using hts), Array.getElem_setIfInBounds (by simpa using hts), if_neg (by omega), ← getElem!_pos dk t hts]
                exact HT.out t (by omega)
              · rw [getElem!_neg _ t (by simpa using hts), ← getElem!_neg dk t hts]
                exact HT.out t (by omega)
            · rw [HTS.out, List.filter_append, ← HU.out, List.take_succ_eq_append_getElem (by simp; omega)]
              simp [List.take_set, HDQ.out]
              exact List.set_eq_of_length_le (by simp; omega)
      · obtain rfl : q = d.size := by omega
        have hcl := SWK.clear S1.out R hds P default (d.size - kk) kk (by omega)
        obtain ⟨d', f1, f2, f3⟩ := SWK.fill R default (d.size - kk) kk dk wr S1.out (by omega)
        have hrun : ∀ ty, (Builtin.clear_ #[31] ty #[.slice (some ⟨blk, off + kk * k, none⟩) (d.size - kk) (cap - kk)]).run P wr = .ok (.tuple #[]) (wr.setCells blk (off + kk * k) (List.replicate (d.size - kk) (entC default)).flatten) := fun ty =>
          run_clear_rows wr _ _ ty _ L.u_tEnts L.v_tEnt blk _ _ _ (by omega) _ hcl
        have HP : Hid (d'.toList.take kk = d.toList.filter (fun e => !del e)) := hid (by
          have h1 := HU.out
          rw [List.take_of_length_le (l := d.toList) (by simp)] at h1
          rw [← h1]
          apply List.ext_getElem?
          intro t
          by_cases ht : t < kk
          · rw [List.getElem?_take_of_lt ht, List.getElem?_take_of_lt ht]
            have := f2 t ht
            rw [getElem!_pos d' t (by omega), getElem!_pos dk t (by omega)] at this
            simp [show t < d'.size by omega, show t < dk.size by omega, this]
          · rw [List.getElem?_eq_none (by simp; omega), List.getElem?_eq_none (by simp; omega)])
        have HF := hid (show d'.size = d.size ∧ SWK entC k w blk off d' _ from ⟨f1.trans hds, f3⟩)
        have hkc : ¬ (cap = kk) := by omega
        have hkc2 : kk ≤ d.size := by omega
        have hkc3 : kk ≤ cap := by omega
        clear f1 f2 f3 hcl S1 HT HU
        generalize (wr.setCells blk (off + kk * k) (List.replicate (d.size - kk) (entC default)).flatten) = w9 at hrun HF
        generalize entC default = Z at *
        go_wp2
        go_ret
        exact ⟨kk, d', rfl, by omega, HF.out.1, HP.out, HF.out.2⟩
  · have HI := hid (hI.2 hno)
    have HF := hid (show d.toList.take d.size = d.toList.filter (fun e => !del e) by
      have := filter_all (del := del) d.size (Nat.le_refl _) hno
      rw [List.take_of_length_le (by simp)] at this ⊢
      exact this.symm)
    clear hI hdel hno
    go_enter D.f_deleteE, Tryz.ntmps27
    go_wp2_with (go_at_fn 43; refine HI.out.mono ?_; rintro r w1 ⟨rfl, hg1⟩; have S1 := hid (SWK.grows S0.out hg1); clear hg1)
    go_ret
    exact ⟨d.size, d, rfl, Nat.le_refl _, rfl, HF.out, S1.out⟩
end Go.Proofs.YtdbpkiddiehliaaGreat
