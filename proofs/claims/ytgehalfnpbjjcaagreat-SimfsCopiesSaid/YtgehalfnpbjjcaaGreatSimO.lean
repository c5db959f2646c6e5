/- simfs: Append. -/
import Derived.Test.YtgehalfnpbjjcaaGreatSimM
namespace Go.Proofs.YtgehalfnpbjjcaaGreat
open Go Go.RowKit Go.Sort
theorem lt_of_cell {w : World} {b o : Nat} {v : Value} (h : w.cell? ⟨b, o, none⟩ = some v) : b < w.heap.size := by
  unfold World.cell? at h
  by_cases hlt : b < w.heap.size
  · exact hlt
  · rw [Array.getElem?_eq_none (xs := w.heap) (i := b) (by omega)] at h; cases h
set_option maxHeartbeats 1000000 in
set_option maxRecDepth 100000 in
theorem fsAppend1_ok {F D S : Nat → Prop} {sb m1 m2 : Nat} {s : FSt} {ch : Value} (w : World) (h : FSo w F D sb s m1 m2 ch) (hD : ∀ k, w.heap.size ≤ k → D k ∧ ¬ F k) {p : Nat} {x : Fil} (hx : s.files p = some x) (b1 b2 : Nat) (k1 : w.cell? ⟨b1, 0, none⟩ = some (.pointer (some ⟨p, 0, none⟩)))
    {v : Value} {ys : List UInt8} (k2 : w.cell? ⟨b2, 0, none⟩ = some v) (hv : Bs S w v ys) (hlen : x.b.length + ys.length ≤ 1000000) :
    Calls Tryz.prog 50 #[.pointer (some ⟨b1, 0, none⟩), .pointer (some ⟨b2, 0, none⟩)] w fun e w' => e = .returned (.tuple #[]) ∧ FSo w' F D sb { s with files := putFil s.files p ⟨x.b ++ ys, x.safe⟩ } m1 m2 ch ∧ Fr F w w' := by
  obtain ⟨hF, v0, hv0, hb⟩ := h.files p x hx
  have mixed : Tryz.prog.follows .mixedOrders = true := by kernel_rfl
  have HB := hid (hb.mono (S' := fun _ => False) (fun _ _ h => h.elim))
  have HV := hid (hv.mono (S' := fun _ => False) (fun _ _ h => h.elim))
  obtain ⟨a, c, rfl, _⟩ := hb
  obtain ⟨a2, c2, rfl, _⟩ := hv
  have c0 : w.cell? ⟨p, 0, none⟩ = some (.slice a x.b.length c) := cell_of_heap hv0 0
  have hbw : Below w.heap.size w (w.alloc (.cells #[.slice a x.b.length c, .slice a2 ys.length c2] 33)).drew := ((Below.refl _ _).alloc (Nat.le_refl _) _).drew
  have hcc := concatB_ok (S := fun _ => False) (w.alloc (.cells #[.slice a x.b.length c, .slice a2 ys.length c2] 33)).drew w.heap.size _ _ x.b ys (heap_alloc_new w _) (HB.out.fr (Fr.of_below hbw : Fr (fun _ => False) _ _) (fun _ _ h => h.elim)) (HV.out.fr (Fr.of_below hbw : Fr (fun _ => False) _ _) (fun _ _ h => h.elim)) hlen
  have HCC := hid hcc
  have HBW := hid hbw
  have HH := hid h
  have HX := hid hx
  have HV0 := hid hv0
  have HHF := hid (show ∀ w3, Below w.heap.size w w3 → w3.heap[p]? = some (.cells #[.slice a x.b.length c, .int .i64 (x.safe : Int)] 87 (0, 0)) from fun w3 hb => (hb.block _ (lt_of_heap hv0)).trans hv0)
  have ka : (w.alloc (.cells #[.slice a x.b.length c, .slice a2 ys.length c2] 33)).cell? ⟨b1, 0, none⟩ = some (.pointer (some ⟨p, 0, none⟩)) := (hbw.cell (p := ⟨b1, 0, none⟩) (lt_of_cell k1)).trans k1
  have HK := hid (show ∀ w3, Below w.heap.size w w3 → w3.cell? ⟨b1, 0, none⟩ = some (.pointer (some ⟨p, 0, none⟩)) from fun w3 hb => (hb.cell (p := ⟨b1, 0, none⟩) (lt_of_cell k1)).trans k1)
  clear hcc hbw h hx hv0
  generalize x.b ++ ys = L at *
  go_enter Tryz.func50, Tryz.ntmps50
  go_wp2_with fail
  go_region_law_o ((go_simp; go_at_call 51; refine HCC.out.mono ?_; rintro e w3 ⟨a3, c3, rfl, ho, hb3⟩; have hb33 := Below.below HBW.out hb3; have c0' : w3.cell? ⟨p, 0, none⟩ = some (.slice a x.b.length c) := cell_of_heap (HHF.out _ hb33) 0; have f0' := frozen_of (HHF.out _ hb33) 0; have kb := HK.out _ hb33; have HO := hid ho; have HB3 := hid hb3; have HB33 := hid hb33; clear ho hb3 hb33))
  all_goals
    go_end0
    have hset := heap_store (HHF.out _ HB33.out) 0 (.slice a3 L.length c3)
    have hfr : Fr (· = p) w3 (w3.setCell ⟨p, 0, none⟩ (.slice a3 L.length c3)) := (Fr.refl (· = p) w3).setCell (fun _ => rfl) _
    have hbs : Bs (fun k => D k → F k) w3 (.slice a3 L.length c3) L := OwnB.bs HO.out (fun k h1 _ h3 => (hD k (Nat.le_trans HBW.out.size h1)).2 (h3 (hD k (Nat.le_trans HBW.out.size h1)).1))
    exact ⟨rfl, (HH.out.below HB33.out).setFile (y := ⟨L, x.safe⟩) HX.out hfr (hset.trans rfl) hbs, (Fr.of_below HB33.out : Fr F w w3).trans (hfr.mono (fun k _ e => e ▸ hF))⟩
end Go.Proofs.YtgehalfnpbjjcaaGreat
/- simfs: Append, whole. -/
namespace Go.Proofs.YtgehalfnpbjjcaaGreat
open Go Go.RowKit Go.Sort
theorem wrap_i64_id {x : Int} (h1 : -9223372036854775808 ≤ x) (h2 : x ≤ 9223372036854775807) : IntKind.i64.wrap x = x := by
  simp only [IntKind.wrap, IntKind.signed, IntKind.bits]
  simp
  omega
def addB (p : Nat) (b : List UInt8) (s : FSt) : FSt := match s.files p with | some x => { s with files := putFil s.files p ⟨x.b ++ b, x.safe⟩ } | none => s
theorem appendF_yes' {st : FSt} {n : ByteArray} {b : List UInt8} {p : Nat} (h : findF st n = (0, some p)) : appendF st n b = if st.room - usedF st < b.length then (st, 11) else goF st (addB p b) := appendF_yes h
set_option maxHeartbeats 1000000 in
set_option maxRecDepth 100000 in
theorem fsAppend_ok {F D : Nat → Prop} {sb : Nat} {st : FSt} (w : World) (h : FSr w F D sb st) (hl : st.seen.length ≤ 1000000) (n : ByteArray) (v : Value) (ys : List UInt8) (hv : Bs F w v ys) (hys : ys.length ≤ 100000) :
    Calls Tryz.prog 14 #[.pointer (some ⟨sb, 0, none⟩), .string n, v] w fun e w' => e = .returned (.int .i64 (appendF st n ys).2) ∧ ∃ F' D', FSr w' F' D' sb (appendF st n ys).1 ∧ Turn F D F' D' w w' := by
  have HV := hid hv
  obtain ⟨ay, cy, rfl, ⟨hy1, hy2, hy3⟩, _⟩ := hv
  unfold maxLen at hy3
  obtain ⟨w0, hw0⟩ : ∃ w0, w0 = w.alloc (.cells #[.slice ay ys.length cy] 33) := ⟨_, rfl⟩
  have hb0 : Below w.heap.size w w0 := by rw [hw0]; exact (Below.refl _ _).alloc (Nat.le_refl _) _
  have hx1 : w0.heap[w.heap.size]? = some (.cells #[.slice ay ys.length cy] 33 (0, 0)) := by rw [hw0]; exact heap_alloc_new w _
  have hsb := h.sb_lt
  have q1 : w0.cell? ⟨w.heap.size, 0, none⟩ = some (.slice ay ys.length cy) := cell_of_heap hx1 0
  have HF := hid (fsFind_ok w0 (h.below hb0) n)
  have hl1 := lt_of_heap hx1
  have HB0 := hid hb0
  have HH := hid h
  have HW0 := hid hw0
  have HLS := hid hl
  clear hb0 hx1 h hw0
  have mixed : Tryz.prog.follows .mixedOrders = true := by kernel_rfl
  have hmf : ∀ (fn : Fn) (first cap : Array Value) (w : World), (Instr.makeFunc fn first cap).run Tryz.prog w = .ok (.func fn first cap) w := fun _ _ _ _ => rfl
  cases hfo : findF st n with
  | mk f o =>
  rw [hfo] at HF
  unfold findC at HF
  by_cases h0 : f = 0
  · subst h0
    obtain ⟨p, rfl⟩ := findF_some hfo
    have hmem := mem_seen hfo
    obtain ⟨x, hx⟩ := Option.isSome_iff_exists.1 (HH.out.ok.seenI _ hmem).1
    simp only at hx
    rw [appendF_yes' hfo]
    have hxu : x.b.length ≤ usedF st := by
      have := len_le_sum (f := lenF st.files) hmem
      have e : lenF st.files p = x.b.length := by unfold lenF; rw [hx]
      unfold usedF
      omega
    have HX := hid hx
    simp only [Option.map_some] at HF
    have HU := hid (fun W (hb : Below w.heap.size w W) => fsUsed_ok W (HH.out.below hb) HLS.out)
    have hul := usedF_le HH.out.ok
    have hr0 := HH.out.ok.room0
    have hr1 := HH.out.ok.room1
    have hrange : usedF st ≤ 99000000000 := by omega
    have hwr : IntKind.i64.wrap (st.room - (usedF st : Int)) = st.room - (usedF st : Int) := wrap_i64_id (by omega) (by omega)
    have HRM := hid (show ∀ W, Below w.heap.size w W → W.cell? ⟨sb, 0, none⟩ = some (.int .i64 st.room) from fun W hb => by
      obtain ⟨m1, m2, ca, cc, ho⟩ := (HH.out.below hb).lies
      exact cell_of_heap ho.head 0)
    clear hfo hmem hx hul
    have HFLT := hid (show ∀ k, F k → k < w.heap.size from fun k hk => by
      obtain ⟨m1, m2, ca, cc, ho⟩ := HH.out.lies
      exact HH.out.lt k (ho.sub k hk))
    by_cases hsp : st.room - usedF st < ys.length
    · rw [if_pos hsp]
      have hsp' : decide (st.room - (usedF st : Int) < (ys.length : Int)) = true := decide_eq_true hsp
      clear hsp
      go_enter Tryz.func14, Tryz.ntmps14
      go_wp2_with (go_at_call 40; rw [← HW0.out]; refine HF.out.mono ?_; rintro e w1 ⟨rfl, hb1⟩; have HB1 := hid hb1; clear hb1)
      have hb2 : Below w0.heap.size w0 (w1.alloc (.cells #[.pointer (some ⟨p, 0, none⟩)] 73)) := Below.below HB1.out ((Below.refl _ _).alloc (Nat.le_refl _) _)
      obtain ⟨w2, hw2⟩ : ∃ w2, w2 = w1.alloc (.cells #[.pointer (some ⟨p, 0, none⟩)] 73) := ⟨_, rfl⟩
      rw [← hw2] at hb2 ⊢
      have HB2 := hid (Below.below HB0.out hb2)
      have e1 : w2.cell? ⟨w.heap.size, 0, none⟩ = some (.slice ay ys.length cy) := (hb2.cell (p := ⟨w.heap.size, 0, none⟩) hl1).trans q1
      have HE1 := hid (show ∀ W, Below w2.heap.size w2 W → W.cell? ⟨w.heap.size, 0, none⟩ = some (.slice ay ys.length cy) from fun W hb => ((Below.below hb2 hb).cell (p := ⟨w.heap.size, 0, none⟩) hl1).trans q1)
      have e2 := HRM.out w2 HB2.out
      clear hw2 hb2
      go_region_law_o ((go_simp; go_at_call 44; refine (HU.out w2.drew HB2.out.drew).mono ?_; rintro e w3 ⟨rfl, hb3⟩; have e3 := HE1.out w3 (Below.below ((Below.refl _ w2).drew) hb3); have e4 := HRM.out w3 (Below.below HB2.out (Below.below ((Below.refl _ w2).drew) hb3)); have HB3 := hid hb3; clear hb3))
      all_goals
        go_wp2
        go_ret
        exact ⟨rfl, HH.out.same (Below.below HB2.out (Below.below ((Below.refl _ w2).drew) HB3.out))⟩
    · rw [if_neg hsp]
      have hsp' : decide (st.room - (usedF st : Int) < (ys.length : Int)) = false := decide_eq_false hsp
      have hfx : addB p ys (tick st) = { tick st with files := putFil st.files p ⟨x.b ++ ys, x.safe⟩ } := by
        unfold addB
        rw [show (tick st).files p = some x from HX.out]
        rfl
      have HFX := hid hfx
      have hxl : x.b.length + ys.length ≤ 99000 := by omega
      have HST := hid (show ∀ W bx, Below w.heap.size w W → w.heap.size ≤ bx → W.cell? ⟨bx, 0, none⟩ = some (.pointer (some ⟨p, 0, none⟩)) → W.cell? ⟨w.heap.size, 0, none⟩ = some (.slice ay ys.length cy) → Calls Tryz.prog 47 #[.pointer (some ⟨sb, 0, none⟩), .func (.func 50) #[] #[.pointer (some ⟨bx, 0, none⟩), .pointer (some ⟨w.heap.size, 0, none⟩)]] W fun e w' => e = .returned (.int .i64 (goF st (addB p ys)).2) ∧ ∃ F' D', FSr w' F' D' sb (goF st (addB p ys)).1 ∧ Turn F D F' D' w w' from fun W bx hb hbx k1 k2 => by
        refine step_any (F1 := F) (D1 := fun k => D k ∨ W.heap.size ≤ k) HH.out hb 50 _ (enters_of Tryz.func50 rfl rfl) (addB p ys)
          (by rw [HFX.out]; exact HH.out.ok.tick.put ⟨by have := (HH.out.ok.fil p x HX.out).1; simp only [List.length_append]; omega, by simp only [List.length_append]; omega⟩)
          (fun m1 m2 ch ho => ho.growD) (fun k h => .inl h) (fun k h => h) (fun w2 m1 m2 ca cc h2 hf2 hs2 => ?_)
        have g1 := (hf2.cell (p := ⟨bx, 0, none⟩) (lt_of_cell k1) (fun e => absurd (show bx = sb from e) (by omega))).trans k1
        have g2 := (hf2.cell (p := ⟨w.heap.size, 0, none⟩) (lt_of_cell k2) (fun e => absurd (show w.heap.size = sb from e) (by omega))).trans k2
        have hsz := hb.size
        refine (fsAppend1_ok w2 h2 (fun k hk => ⟨.inr (by omega), fun hF => by have := HFLT.out k hF; omega⟩) (x := x) HX.out bx w.heap.size g1 g2 ((HV.out.fr (Fr.of_below hb : Fr (fun _ => False) _ _) (fun _ _ h => h.elim)).fr hf2 (fun k _ e => e ▸ h2.self)) (by omega)).mono ?_
        rintro e w' ⟨rfl, h3, hf3⟩
        exact ⟨rfl, ⟨m1, m2, _, by rw [HFX.out]; exact h3⟩, hf3⟩)
      clear hsp hfx hxl
      generalize goF st (addB p ys) = R at *
      go_enter Tryz.func14, Tryz.ntmps14
      go_wp2_with (go_at_call 40; rw [← HW0.out]; refine HF.out.mono ?_; rintro e w1 ⟨rfl, hb1⟩; have HB1 := hid hb1; clear hb1)
      have hb2 : Below w0.heap.size w0 (w1.alloc (.cells #[.pointer (some ⟨p, 0, none⟩)] 73)) := Below.below HB1.out ((Below.refl _ _).alloc (Nat.le_refl _) _)
      have hx2 := cell_of_heap (heap_alloc_new w1 (.cells #[.pointer (some ⟨p, 0, none⟩)] 73)) 0
      have hlx2 := lt_of_heap (heap_alloc_new w1 (.cells #[.pointer (some ⟨p, 0, none⟩)] 73))
      have hz1 : w.heap.size ≤ w1.heap.size := Nat.le_trans HB0.out.size HB1.out.size
      obtain ⟨w2, hw2⟩ : ∃ w2, w2 = w1.alloc (.cells #[.pointer (some ⟨p, 0, none⟩)] 73) := ⟨_, rfl⟩
      rw [← hw2] at hb2 hx2 hlx2 ⊢
      generalize w1.heap.size = bx at *
      simp at hx2
      have HB2 := hid (Below.below HB0.out hb2)
      have e1 : w2.cell? ⟨w.heap.size, 0, none⟩ = some (.slice ay ys.length cy) := (hb2.cell (p := ⟨w.heap.size, 0, none⟩) hl1).trans q1
      have HE1 := hid (show ∀ W, Below w2.heap.size w2 W → W.cell? ⟨w.heap.size, 0, none⟩ = some (.slice ay ys.length cy) from fun W hb => ((Below.below hb2 hb).cell (p := ⟨w.heap.size, 0, none⟩) hl1).trans q1)
      have HE2 := hid (show ∀ W, Below w2.heap.size w2 W → W.cell? ⟨bx, 0, none⟩ = some (.pointer (some ⟨p, 0, none⟩)) from fun W hb => (hb.cell (p := ⟨bx, 0, none⟩) hlx2).trans hx2)
      have e2 := HRM.out w2 HB2.out
      clear hw2 hb2
      go_region_law_o ((go_simp; go_at_call 44; refine (HU.out w2.drew HB2.out.drew).mono ?_; rintro e w3 ⟨rfl, hb3⟩; have e3 := HE1.out w3 (Below.below ((Below.refl _ w2).drew) hb3); have e4 := HRM.out w3 (Below.below HB2.out (Below.below ((Below.refl _ w2).drew) hb3)); have HB3 := hid hb3; clear hb3))
      all_goals
        go_wp2_with (go_at_call 47; refine (HST.out _ bx (Below.below HB2.out (Below.below ((Below.refl _ w2).drew) HB3.out)) hz1 (HE2.out _ (Below.below ((Below.refl _ w2).drew) HB3.out)) (HE1.out _ (Below.below ((Below.refl _ w2).drew) HB3.out))).mono ?_; rintro e w5 ⟨rfl, hr⟩; have HR := hid hr; clear hr)
        go_ret
        exact ⟨rfl, HR.out⟩
  · have g1 : (f != 0) = true := by simpa using h0
    rw [appendF_no hfo h0]
    clear hfo
    generalize Option.map (fun p => (⟨p, 0, none⟩ : Addr)) o = po at HF
    go_enter Tryz.func14, Tryz.ntmps14
    go_wp2_with (go_at_call 40; rw [← HW0.out]; refine HF.out.mono ?_; rintro e w1 ⟨rfl, hb1⟩; have HB1 := hid hb1; clear hb1)
    go_ret
    exact ⟨rfl, HH.out.same (Below.below (Below.below HB0.out HB1.out) ((Below.refl _ _).alloc (Nat.le_refl _) _))⟩
end Go.Proofs.YtgehalfnpbjjcaaGreat
