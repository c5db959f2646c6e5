/- simfs: do, change, step. -/
import Derived.Test.YtgehalfnpbjjcaaSimB
namespace Go.Proofs.Ytgehalfnpbjjcaa
open Go Go.RowKit Go.Sort
theorem keyNm : KeyG Try.prog 9 Value.string (fun _ _ => True) := keyS (fun w => run_underlying Try.underlying9 w)
theorem r_names (w : World) : (underlying 64).run Try.prog w = .ok (.map 9 75) w := run_underlying Try.underlying64 w
theorem toList_empty {s : ByteArray} : (s.toList == []) = decide (s = ByteArray.empty) := by
  have h : ([] : List UInt8) = ByteArray.empty.toList := by rw [ByteArray.toList_eq]; rfl
  rw [h, ← beq_toListBytes, Bool.eq_iff_iff, MapKept.bytes_beq, decide_eq_true_eq]
set_option maxRecDepth 100000 in
theorem fsDo_ok (w : World) (m : Nat) (d : Dir) (c : Chg) (h : MapG Value.string ekP w m d) :
    Calls Try.prog 65 #[.map (some m), .agg (chgC c).toArray] w fun e w' => e = .returned (.tuple #[]) ∧ MapG Value.string ekP w' m (doF d c) ∧ Fr (· = m) w w' := by
  obtain ⟨nm, src, dst⟩ := c
  have hml := h.lt
  have HM := hid (show MapG Value.string ekP (w.alloc (.cells #[.string nm, .string src, .pointer (dst.map fun p => ⟨p, 0, none⟩)] 83)) m d from h.fr ((Fr.refl (fun _ => False) w).alloc _) id)
  have HF := hid (show Fr (· = m) w (w.alloc (.cells #[.string nm, .string src, .pointer (dst.map fun p => ⟨p, 0, none⟩)] 83)) from (Fr.refl _ w).alloc _)
  have HB := hid (heap_alloc_new w (.cells #[.string nm, .string src, .pointer (dst.map fun p => ⟨p, 0, none⟩)] 83))
  have HNE := hid (show w.heap.size ≠ m by omega)
  have he := toList_empty (s := src)
  clear h hml
  show Calls Try.prog 65 #[.map (some m), .agg #[.string nm, .string src, .pointer (dst.map fun p => ⟨p, 0, none⟩)]] w _
  unfold doF
  by_cases hsrc : src = ByteArray.empty
  · rw [decide_eq_true hsrc] at he
    simp only [if_pos hsrc]
    clear hsrc
    cases dst with
    | none =>
      simp only [Option.map_none] at *
      go_enter Try.func65, Try.ntmps65
      go_wp2_with (at_delete; refine wpl_deleteG rfl rfl keyNm r_names HM.out (fun _ _ => trivial) trivial rfl rfl ?_; intro w2 hm2 hf2 hs2; have HM2 := hid hm2; have HF2 := hid hf2; clear hm2 hf2 hs2)
      refine bodyPost_ret (results_none rfl _ _ _) rfl ?_
      exact ⟨rfl, HM2.out, HF.out.trans HF2.out⟩
    | some p =>
      simp only [Option.map_some] at *
      go_enter Try.func65, Try.ntmps65
      go_wp2_with (at_mapUpdate; refine wpl_updateG (v := p) rfl rfl keyNm r_names HM.out (fun _ _ => trivial) trivial rfl rfl rfl ?_; intro w2 hm2 hf2 hs2; have HM2 := hid hm2; have HF2 := hid hf2; clear hm2 hf2 hs2)
      go_end0
      exact ⟨rfl, HM2.out, HF.out.trans HF2.out⟩
  · rw [decide_eq_false hsrc] at he
    simp only [if_neg hsrc]
    clear hsrc
    cases dst with
    | none =>
      simp only [Option.map_none] at *
      go_enter Try.func65, Try.ntmps65
      go_wp2_with (first
        | (at_delete; refine wpl_deleteG rfl rfl keyNm r_names HM2.out (fun _ _ => trivial) trivial rfl rfl ?_; intro w3 hm3 hf3 hs3; have HM3 := hid hm3; have HF3 := hid hf3; clear hm3 hf3 hs3)
        | (at_delete; refine wpl_deleteG rfl rfl keyNm r_names HM.out (fun _ _ => trivial) trivial rfl rfl ?_; intro w2 hm2 hf2 hs2; have HM2 := hid hm2; have HF2 := hid hf2; have k0 := cell_of_heap (hf2.heap HB.out HNE.out) 0; have k2 := cell_of_heap (hf2.heap HB.out HNE.out) 2; simp at k0 k2; clear hm2 hf2 hs2))
      refine bodyPost_ret (results_none rfl _ _ _) rfl ?_
      exact ⟨rfl, HM3.out, (HF.out.trans HF2.out).trans HF3.out⟩
    | some p =>
      simp only [Option.map_some] at *
      go_enter Try.func65, Try.ntmps65
      go_wp2_with (first
        | (at_mapUpdate; refine wpl_updateG (v := p) rfl rfl keyNm r_names HM2.out (fun _ _ => trivial) trivial rfl rfl rfl ?_; intro w3 hm3 hf3 hs3; have HM3 := hid hm3; have HF3 := hid hf3; clear hm3 hf3 hs3)
        | (at_delete; refine wpl_deleteG rfl rfl keyNm r_names HM.out (fun _ _ => trivial) trivial rfl rfl ?_; intro w2 hm2 hf2 hs2; have HM2 := hid hm2; have HF2 := hid hf2; have k0 := cell_of_heap (hf2.heap HB.out HNE.out) 0; have k2 := cell_of_heap (hf2.heap HB.out HNE.out) 2; simp at k0 k2; clear hm2 hf2 hs2))
      go_end0
      exact ⟨rfl, HM3.out, (HF.out.trans HF2.out).trans HF3.out⟩
theorem chgC_one (l : List Chg) : ∀ u ∈ l.flatMap chgC, u.oneCell' = true := by
  intro u hu
  obtain ⟨c, _, h⟩ := List.mem_flatMap.1 hu
  simp only [chgC, List.mem_cons, List.not_mem_nil, or_false] at h
  rcases h with rfl | rfl | rfl <;> rfl
theorem etChg : ET Try.prog 65 83 3 40 (.agg #[.string ByteArray.empty, .string ByteArray.empty, .pointer none]) := ⟨Try.underlying65, by kernel_rfl, by kernel_rfl, by decide, by decide⟩
theorem frozen_of {w : World} {b t : Nat} {cs : Array Value} (h : w.heap[b]? = some (.cells cs t (0, 0))) (i : Nat) : w.frozen? ⟨b, i, none⟩ = false := frozen_of_row w _ _ _ _ h
set_option maxHeartbeats 2000000 in
set_option maxRecDepth 100000 in
/-- s.change(c). -/
theorem fsChange_ok {F D : Nat → Prop} {sb m1 m2 : Nat} {st : FSt} {ca : Option Addr} {cc : Nat} (w : World) (h : FSo w F D sb st m1 m2 (.slice ca st.chg.length cc)) (hw : ∀ k, w.heap.size ≤ k → F k) (hlen : st.chg.length ≤ 1000000) (c : Chg) :
    Calls Try.prog 36 #[.pointer (some ⟨sb, 0, none⟩), .agg (chgC c).toArray] w fun e w' => e = .returned (.tuple #[]) ∧ (∃ ca' cc', FSo w' F D sb (chgF st c) m1 m2 (.slice ca' (chgF st c).chg.length cc')) ∧ Fr F w w' := by
  obtain ⟨PV, hPV⟩ : ∃ PV, PV = Value.pointer (c.dst.map fun p => (⟨p, 0, none⟩ : Addr)) := ⟨_, rfl⟩
  have hcc : (chgC c).toArray = #[.string c.nm, .string c.src, PV] := by rw [hPV]; rfl
  have HPV := hid hPV
  clear hPV
  obtain ⟨w0, hw0⟩ : ∃ w0, w0 = w.alloc (.cells #[.string c.nm, .string c.src, PV] 83) := ⟨_, rfl⟩
  have hb0 : Below w.heap.size w w0 := by rw [hw0]; exact (Below.refl _ _).alloc (Nat.le_refl _) _
  have hbx : w0.heap[w.heap.size]? = some (.cells #[.string c.nm, .string c.src, PV] 83 (0, 0)) := by rw [hw0]; exact heap_alloc_new w _
  have h0 := h.below hb0
  have hs0 := hb0.size
  have hbl := lt_of_heap hbx
  have hm1 := h.seen.lt
  have hdo := fsDo_ok w0.drew m1 st.seen c (h0.seen.fr ((Fr.refl (fun _ => False) w0).drew) id)
  rw [hcc] at hdo ⊢
  have HDO := hid hdo
  have H0 := hid h0
  have HB0 := hid hb0
  have HBX := hid hbx
  have q0 := cell_of_heap hbx 0
  have q1 := cell_of_heap hbx 1
  have q2 := cell_of_heap hbx 2
  simp at q0 q1 q2
  have c1 : w0.cell? ⟨sb, 1, none⟩ = some (.map (some m1)) := cell_of_heap h0.head 1
  have mixed : Try.prog.follows .mixedOrders = true := by kernel_rfl
  clear hdo h0 hb0 hbx
  go_enter Try.func36, Try.ntmps36
  go_wp2_with fail
  rw [← hw0]
  clear hw0
  go_region_law_o ((go_simp; go_at_call 65; refine HDO.out.mono ?_; rintro e w2 ⟨rfl, hm2, hf2⟩; have HM2 := hid hm2; have HF2 := hid hf2; clear hm2 hf2))
  all_goals
    have h2 := (H0.out.fr ((Fr.refl (fun _ => False) w0).drew) (fun _ _ => id)).setSeen HF2.out HM2.out
    have hbx2 : w2.heap[w.heap.size]? = some (.cells #[.string c.nm, .string c.src, PV] 83 (0, 0)) := HF2.out.heap (a := w0.drew) HBX.out (by omega)
    have c3 : w2.cell? ⟨sb, 3, none⟩ = some (.slice ca st.chg.length cc) := cell_of_heap h2.head 3
    have r0 := cell_of_heap hbx2 0
    have r1 := cell_of_heap hbx2 1
    have r2 := cell_of_heap hbx2 2
    simp at r0 r1 r2
    have hba : Below w2.heap.size w2 (w2.alloc (.cells #[.string c.nm, .string c.src, PV] 83)).drew := ((Below.refl _ w2).alloc (Nat.le_refl _) _).drew
    have hrow : Row (fun _ => False) (w2.alloc (.cells #[.string c.nm, .string c.src, PV] 83)).drew (.slice (some ⟨w2.heap.size, 0, none⟩) 1 1) 1 3 (chgC c) := by
      refine ⟨rfl, _, 1, rfl, ⟨by omega, by omega, by unfold maxLen; omega⟩, (fun h => nomatch h), .inr ⟨w2.heap.size, 0, rfl, by show _ < (w2.alloc _).heap.size; simp, id, fun j x hx => ?_⟩⟩
      have h9 := cell_of_heap (w := (w2.alloc (.cells #[.string c.nm, .string c.src, PV] 83)).drew) (heap_alloc_new w2 (.cells #[.string c.nm, .string c.src, PV] 83)) j
      rw [Nat.zero_add]
      refine h9.trans ?_
      rw [← hcc]
      simpa using hx
    have HROW := hid hrow
    have ha := h2.below hba
    have HOWN := hid ha.own
    have HA := hid ha
    have H2 := hid h2
    have c3a : (w2.alloc (.cells #[.string c.nm, .string c.src, PV] 83)).cell? ⟨sb, 3, none⟩ = some (.slice ca st.chg.length cc) := cell_of_heap (w := w2.alloc (.cells #[.string c.nm, .string c.src, PV] 83)) ha.head 3
    have hone := hid (show ∀ u ∈ chgC c, u.oneCell' = true from fun u hu => chgC_one [c] u (by simpa using hu))
    have hsz2 : w0.heap.size ≤ w2.heap.size := HF2.out.size
    have HHD := hid (show ∀ w5, Fr (mine (.slice ca st.chg.length cc)) (w2.alloc (.cells #[.string c.nm, .string c.src, PV] 83)).drew w5 → w5.heap[sb]? = some (.cells (fsC { st with seen := doF st.seen c } m1 m2 (.slice ca st.chg.length cc)) 72 (0, 0)) from fun w5 hf5 => hf5.heap ha.head (fun hk => ha.ne_own ha.own hk rfl))
    clear h2 hbx2 hba hrow ha
    go_wp2_with fail
    go_region_law_o ((refine step_append (S := fun _ => False) (base := 0) rfl rfl etChg rfl HOWN.out rfl HROW.out hone.out (by omega) (Nat.zero_le _) ?_; intro a5 c5 w5 ho5 hf5 hm5; have HO5 := hid ho5; have HF5 := hid hf5; have HM5 := hid hm5; have f5 := frozen_of (HHD.out _ hf5) 3; have c5' : w5.cell? ⟨sb, 3, none⟩ = some (.slice ca st.chg.length cc) := cell_of_heap (HHD.out _ hf5) 3; clear ho5 hf5 hm5))
    all_goals
      go_end0
      have hln : (st.chg ++ [c]).length = st.chg.length + 1 := by simp
      have ho6 : Own w5 0 83 3 (.slice a5 (st.chg ++ [c]).length c5) (st.chg ++ [c]).length ((st.chg ++ [c]).flatMap chgC) := by
        have h9 := HO5.out
        rw [hln]
        simpa using h9
      have hset := heap_store (HHD.out _ HF5.out) 3 (.slice a5 (st.chg.length + 1) c5)
      have hfin := HA.out.setChg (w' := w5.setCell ⟨sb, 3, none⟩ (.slice a5 (st.chg.length + 1) c5)) HF5.out ho6 (fun k hk => by
        rw [hln] at hk
        refine (HM5.out k hk).elim (fun hk => H2.out.hm k hk) (fun hk => hw k (Nat.le_trans ?_ hk))
        show w.heap.size ≤ (w2.alloc _).heap.size
        simp; omega) ((Fr.refl (· = sb) w5).setCell (fun _ => rfl) _) (by rw [hset, hln]; rfl)
      refine ⟨rfl, ⟨a5, c5, hfin⟩, ?_⟩
      have f0 : Fr F w w0.drew := (Fr.of_below HB0.out : Fr F w w0).drew
      have f1 : Fr F w w2 := f0.trans (HF2.out.mono (fun k _ e => e ▸ h.f1))
      have f2 : Fr F w (w2.alloc (.cells #[.string c.nm, .string c.src, PV] 83)).drew := (f1.alloc _).drew
      have f3 : Fr F w w5 := f2.trans (HF5.out.mono (fun k _ hk => H2.out.hm k hk))
      exact f3.setCell (fun _ => h.self) _
end Go.Proofs.Ytgehalfnpbjjcaa
