/- segment's value of an entry. -/
import Derived.Test.YtpomfegcifpfkaaSegBackPure
import Derived.Test.YtpomfegcifpfkaaSegSort
import Derived.Test.YtpomfegcifpfkaaTlvA
import Derived.Deep.RegionHeld3
namespace Go.Proofs.Ytpomfegcifpfkaa
open Go Go.RowKit Go.Sort
theorem cells3_keep {b : Nat} {x y z : Value} {W w1 : World} (hb : Below W.heap.size W w1) (hl : b < W.heap.size) (h : W.cell? ⟨b, 32, none⟩ = some x ∧ W.cell? ⟨b, 33, none⟩ = some y ∧ W.cell? ⟨b, 34, none⟩ = some z) : w1.cell? ⟨b, 32, none⟩ = some x ∧ w1.cell? ⟨b, 33, none⟩ = some y ∧ w1.cell? ⟨b, 34, none⟩ = some z :=
  ⟨(hb.cell (p := ⟨b, 32, none⟩) hl).trans h.1, (hb.cell (p := ⟨b, 33, none⟩) hl).trans h.2.1, (hb.cell (p := ⟨b, 34, none⟩) hl).trans h.2.2⟩
theorem TVv.shape {S : Nat → Prop} {w : World} {v : TV} {x : Value} (h : TVv S w v x) : ∃ a c a' c', x = .agg #[.int .i64 v.tag, .int .u64 (v.num : Int), .slice a v.byt.length c, .slice a' v.lst.length c'] ∧ TVr S w v [.int .i64 v.tag, .int .u64 (v.num : Int), .slice a v.byt.length c, .slice a' v.lst.length c'] := by
  obtain ⟨c0, c1, c2, c3, rfl, h⟩ := h
  obtain ⟨_, vb, vl, ks, he, hb, hr, _⟩ := h.cells
  obtain ⟨a, c, rfl, _⟩ := hb
  obtain ⟨_, a', c', rfl, _⟩ := hr
  simp only [List.cons.injEq, and_true] at he
  obtain ⟨rfl, rfl, rfl, rfl⟩ := he
  exact ⟨_, _, _, _, rfl, h⟩
theorem TVr.on {S : Nat → Prop} {w w' : World} {v : TV} {cs : List Value} (h : TVr S w v cs) (hb : Below w.heap.size w w') : TVr S w' v cs := TVr.fr (Fr.of_below hb : Fr (fun _ => False) w w') (fun _ _ h => h.elim) v cs h
/-- Four values in a row, new. -/
theorem vals4 {S : Nat → Prop} {w : World} {t : Nat} {v1 v2 v3 v4 : TV} {a0 a1 a2 a3 b0 b1 b2 b3 c0 c1 c2 c3 d0 d1 d2 d3 : Value} (hS : ¬ S w.heap.size) (h1 : TVr S w v1 [a0, a1, a2, a3]) (h2 : TVr S w v2 [b0, b1, b2, b3]) (h3 : TVr S w v3 [c0, c1, c2, c3]) (h4 : TVr S w v4 [d0, d1, d2, d3]) :
    TVsl S (w.alloc (.cells #[a0, a1, a2, a3, b0, b1, b2, b3, c0, c1, c2, c3, d0, d1, d2, d3] t (0, 0))) [v1, v2, v3, v4] (.slice (some ⟨w.heap.size, 0, none⟩) 4 4) := by
  have hb : ∀ o, Below w.heap.size w (w.alloc o) := fun o => (Below.refl _ _).alloc (Nat.le_refl _) _
  refine ⟨[a0, a1, a2, a3, b0, b1, b2, b3, c0, c1, c2, c3, d0, d1, d2, d3], ⟨rfl, _, 4, rfl, ⟨by simp, by simp, by unfold maxLen; omega⟩, (fun h => nomatch h), .inr ⟨w.heap.size, 0, rfl, by simp, hS, fun j x hx => ?_⟩⟩, ?_⟩
  · have h9 := cell_of_heap (heap_alloc_new w (.cells #[a0, a1, a2, a3, b0, b1, b2, b3, c0, c1, c2, c3, d0, d1, d2, d3] t (0, 0))) j
    rw [Nat.zero_add]
    refine h9.trans ?_
    simpa using hx
  · rw [TVch]; refine ⟨[a0, a1, a2, a3], _, rfl, h1.on (hb _), ?_⟩
    rw [TVch]; refine ⟨[b0, b1, b2, b3], _, rfl, h2.on (hb _), ?_⟩
    rw [TVch]; refine ⟨[c0, c1, c2, c3], _, rfl, h3.on (hb _), ?_⟩
    rw [TVch]; refine ⟨[d0, d1, d2, d3], _, rfl, h4.on (hb _), ?_⟩
    rw [TVch]
set_option maxHeartbeats 4000000 in
set_option maxRecDepth 100000 in
theorem segValue_ok (w : World) (nm : Nm) (n1 n2 n3 : Nat) (h1 : n1 ≤ 999999) (h2 : n2 ≤ 999999) (h3 : n3 ≤ 999999) : Calls Try.prog 19 #[.agg (entC ⟨nm, n1, n2, n3⟩).toArray] w fun r w' => ∃ x, r = .returned x ∧ TVv (fun k => k < w.heap.size) w' (segTV ⟨nm, n1, n2, n3⟩) x ∧ Below w.heap.size w w' := by
  have hE := entC_at ⟨nm, n1, n2, n3⟩
  have hB := two_boxes w (.cells (entC ⟨nm, n1, n2, n3⟩).toArray 50) (.cells #[.int .i64 0, .int .u64 0, .slice none 0 0, .slice none 0 0] 74)
  have hbytes : ∀ W : World, W.heap[w.heap.size]? = some (.cells (entC ⟨nm, n1, n2, n3⟩).toArray 50 (0, 0)) → Bs (· = w.heap.size + 1) W (.slice (some ⟨w.heap.size, 0, none⟩) 32 32) nm.1 := fun W hW => by
    have hlt := lt_of_heap hW
    have hx : ∀ j x, nm.1[j]? = some x → W.cell? ⟨w.heap.size, 0 + j, none⟩ = some (.int .u8 (x.toNat : Int)) := fun j x hx => by
      rw [Nat.zero_add]
      refine (cell_of_heap hW j).trans ?_
      have hj := (List.getElem?_eq_some_iff.1 hx).1
      simp only [List.getElem?_toArray]
      unfold entC
      rw [List.getElem?_append_left (by rw [bcells_length]; show j < nm.1.length * 1; omega)]
      simp [bcells, hx, bcell]
    have h9 : Bs (· = w.heap.size + 1) W (.slice (some ⟨w.heap.size, 0, none⟩) nm.1.length nm.1.length) nm.1 :=
      ⟨some ⟨w.heap.size, 0, none⟩, nm.1.length, rfl, ⟨Nat.le_refl _, by rw [nm.2]; omega, by rw [nm.2]; unfold maxLen; omega⟩, (fun h => nomatch h), .inr ⟨w.heap.size, 0, rfl, hlt, (fun h => by omega), hx⟩⟩
    rw [nm.2] at h9
    exact h9
  have hc3 : ∀ W : World, W.heap[w.heap.size]? = some (.cells (entC ⟨nm, n1, n2, n3⟩).toArray 50 (0, 0)) → W.cell? ⟨w.heap.size, 32, none⟩ = some (.int .i64 n1) ∧ W.cell? ⟨w.heap.size, 33, none⟩ = some (.int .i64 n2) ∧ W.cell? ⟨w.heap.size, 34, none⟩ = some (.int .i64 n3) := fun W hW =>
    ⟨(cell_of_heap hW 32).trans (by simpa using hE.1), (cell_of_heap hW 33).trans (by simpa using hE.2.1), (cell_of_heap hW 34).trans (by simpa using hE.2.2)⟩
  have HBY := hid hbytes
  have HC3 := hid hc3
  have HE := hid hE
  clear hbytes hc3 hE
  generalize entC ⟨nm, n1, n2, n3⟩ = X at *
  go_enter Try.func19, Try.ntmps19
  go_wp2
  have hBe : Below w.heap.size w ((w.alloc (.cells X.toArray 50)).alloc (.cells #[.int .i64 0, .int .u64 0, .slice none 0 0, .slice none 0 0] 74)) := ((Below.refl _ _).alloc (Nat.le_refl _) _).alloc (by simp) _
  have hsz : ((w.alloc (.cells X.toArray 50)).alloc (.cells #[.int .i64 0, .int .u64 0, .slice none 0 0, .slice none 0 0] 74)).heap.size = w.heap.size + 2 := by simp
  generalize ((w.alloc (.cells X.toArray 50)).alloc (.cells #[.int .i64 0, .int .u64 0, .slice none 0 0, .slice none 0 0] 74)) = W at *
  have HB1 := hid hB.1
  have HB2 := hid hB.2
  have HBE := hid hBe
  have HSZ := hid hsz
  obtain ⟨q1, q2, q3⟩ := HC3.out W hB.1
  clear hB hBe hsz
  have u1 : IntKind.u64.wrap (n1 : Int) = n1 := by simp [IntKind.wrap, IntKind.signed, IntKind.bits]; omega
  have u2 : IntKind.u64.wrap (n2 : Int) = n2 := by simp [IntKind.wrap, IntKind.signed, IntKind.bits]; omega
  have u3 : IntKind.u64.wrap (n3 : Int) = n3 := by simp [IntKind.wrap, IntKind.signed, IntKind.bits]; omega
  go_region_held3 (fun w' => w'.cell? ⟨w.heap.size, 32, none⟩ = some (.int .i64 n1) ∧ w'.cell? ⟨w.heap.size, 33, none⟩ = some (.int .i64 n2) ∧ w'.cell? ⟨w.heap.size, 34, none⟩ = some (.int .i64 n3)) (go_keep) (first
    | (go_at_call 43; refine (bytes_ok (S' := (· = w.heap.size + 1)) _ nm.1 _ (HBY.out _ ?_)).mono ?_; exact HB1.out; rintro r w1 ⟨x1, rfl, hx1, hb1⟩; have k1 := cells3_keep hb1 (by simp; have := HSZ.out; omega) ⟨q1, q2, q3⟩; obtain ⟨a1, c1, d1, g1, rfl, hr1⟩ := (hx1 (fun k => k < w.heap.size + 2) (fun k hk _ he => by have := HSZ.out; have m6 : W.drew.heap.size = W.heap.size := rfl; omega)).shape; have HX1 := hid hr1; have L1 := hid hb1; clear hx1 hb1 hr1)
    | (go_at_call_of 42 (Value.int .u64 (n1 : Int)); refine (number_ok n1 _ (by omega)).mono ?_; rintro r w2 ⟨x2, rfl, hx2, hb2⟩; have k2 := cells3_keep hb2 (by have := L1.out.size; simp at this; have := HSZ.out; omega) k1; obtain ⟨a2, c2, d2, g2, rfl, hr2⟩ := (hx2 (fun k => k < w.heap.size + 2)).shape; have HX2 := hid hr2; have L2 := hid hb2; clear hx2 hb2 hr2)
    | (go_at_call_of 42 (Value.int .u64 (n2 : Int)); refine (number_ok n2 _ (by omega)).mono ?_; rintro r w3 ⟨x3, rfl, hx3, hb3⟩; have k3 := cells3_keep hb3 (by have := L1.out.size; simp at this; have := L2.out.size; have := HSZ.out; omega) k2; obtain ⟨a3, c3, d3, g3, rfl, hr3⟩ := (hx3 (fun k => k < w.heap.size + 2)).shape; have HX3 := hid hr3; have L3 := hid hb3; clear hx3 hb3 hr3)
    | (go_at_call_of 42 (Value.int .u64 (n3 : Int)); refine (number_ok n3 _ (by omega)).mono ?_; rintro r w4 ⟨x4, rfl, hx4, hb4⟩; have k4 := cells3_keep hb4 (by have := L1.out.size; simp at this; have := L2.out.size; have := L3.out.size; have := HSZ.out; omega) k3; obtain ⟨a4, c4, d4, g4, rfl, hr4⟩ := (hx4 (fun k => k < w.heap.size + 2)).shape; have HX4 := hid hr4; have L4 := hid hb4; clear hx4 hb4 hr4)
    | (go_at_call 21; have hsz4 : w.heap.size + 2 ≤ w4.heap.size := (by have m1 := L1.out.size; have m2 := L2.out.size; have m3 := L3.out.size; have m4 := L4.out.size; have m5 := HSZ.out; have m6 : W.drew.heap.size = W.heap.size := rfl; omega); have hv := vals4 (S := (fun k => k < w.heap.size + 2)) (t := 74) (w := w4) (by omega) (((HX1.out.on L2.out).on L3.out).on L4.out) ((HX2.out.on L3.out).on L4.out) (HX3.out.on L4.out) HX4.out; refine (many_ok _ _ _ hv (by simp)).mono ?_; rintro r w5 ⟨x5, rfl, hx5, hb5⟩; clear hv; have hb6 := (((Below.refl _ w4).alloc (Nat.le_refl _) _).trans (hb5.mono (by simp)) : Below w4.heap.size w4 w5); have k5 := cells3_keep hb6 (by omega) k4; obtain ⟨a5, c5, d5, g5, rfl, hr5⟩ := (hx5 (fun k => k < w.heap.size + 2) (fun _ h => h) (fun k hk _ he => by simp at hk; omega)).shape; have HX5 := hid hr5; have L5 := hid hb6; have Z4 := hid hsz4; clear hx5 hb5 hb6 hr5 hsz4
       have hX2 : w5.heap[w.heap.size + 1]? = some (.cells #[.int .i64 0, .int .u64 0, .slice none 0 0, .slice none 0 0] 74 (0, 0)) := (by have m1 := L1.out.size; have m2 := L2.out.size; have m3 := L3.out.size; have m5 := HSZ.out; have m6 : W.drew.heap.size = W.heap.size := rfl; exact (L5.out.block _ (by have := Z4.out; omega)).trans ((L4.out.block _ (by omega)).trans ((L3.out.block _ (by omega)).trans ((L2.out.block _ (by omega)).trans ((L1.out.block _ (by omega)).trans HB2.out)))))
       have j0 := cell_of_heap hX2 0; have j1 := cell_of_heap hX2 1; have j2 := cell_of_heap hX2 2; have j3 := cell_of_heap hX2 3
       have y0 := frozen_of_row w5 (w.heap.size + 1) 0 _ _ hX2; have y1 := frozen_of_row w5 (w.heap.size + 1) 1 _ _ hX2; have y2 := frozen_of_row w5 (w.heap.size + 1) 2 _ _ hX2; have y3 := frozen_of_row w5 (w.heap.size + 1) 3 _ _ hX2; have X2 := hid hX2; clear hX2))
  go_wp2
  have X3 := heap_store (heap_store (heap_store (heap_store X2.out 0 (.int .i64 3)) 1 (.int .u64 0)) 2 (.slice a5 0 c5)) 3 (.slice d5 4 g5)
  have hF : Fr (· = w.heap.size + 1) w5 ((((w5.setCell ⟨w.heap.size + 1, 0, none⟩ (.int .i64 3)).setCell ⟨w.heap.size + 1, 1, none⟩ (.int .u64 0)).setCell ⟨w.heap.size + 1, 2, none⟩ (.slice a5 0 c5)).setCell ⟨w.heap.size + 1, 3, none⟩ (.slice d5 4 g5)) :=
    ((((Fr.refl _ _).set1 _ _).set1 _ _).set1 _ _).set1 _ _
  have hB4 : Below w.heap.size w w5 := by
    have m1 := L1.out.size; have m2 := L2.out.size; have m3 := L3.out.size; have m4 := L4.out.size; have m5 := HSZ.out; have m6 : W.drew.heap.size = W.heap.size := rfl
    exact HBE.out.drew.trans ((L1.out.mono (by omega)).trans ((L2.out.mono (by omega)).trans ((L3.out.mono (by omega)).trans ((L4.out.mono (by omega)).trans (L5.out.mono (by omega))))))
  refine bodyPost_ret (v := .agg #[.int .i64 3, .int .u64 0, .slice a5 0 c5, .slice d5 4 g5]) ?_ rfl ⟨_, rfl, ⟨_, _, _, _, rfl, TVr.mono (S := (fun k => k < w.heap.size + 2)) (fun k _ (h : k < w.heap.size) => by omega) _ _ (TVr.fr hF (fun k _ (h : k = w.heap.size + 1) => by omega) _ _ HX5.out)⟩, ?_⟩
  · simp [results, Try.results19, go_sem, TV.tag, TV.num, TV.byt, TV.lst, j0, j1, j2, j3]
  · exact (((hB4.setCell (by simp) _).setCell (by simp) _).setCell (by simp) _).setCell (by simp) _
end Go.Proofs.Ytpomfegcifpfkaa
