/- tlv's read where there is no value. -/
import Derived.Test.YtelijfdpgachnaaTlvRead1
namespace Go.Proofs.Ytelijfdpgachnaa
open Go Go.RowKit
set_option maxRecDepth 100000 in
set_option maxHeartbeats 2000000 in
theorem read_else {S : Nat → Prop} (d : Nat) (b : Value) (xs : List UInt8) (w : World) (hb : Bs S w b xs) (t : UInt8) (i r : List UInt8) (hsp : splitF xs = some (t, i, r))
    (h1 : t.toNat = 1 → ¬ (i.length ≤ 8 ∧ i.head? ≠ some 0)) (h2 : t.toNat ≠ 2) (h3 : t.toNat = 3 → d = 0) :
    Calls Try.prog 115 #[b, .int .i64 (d : Int)] w (RetR S w none) := by
  have HS := hid (show ∀ w', Bs (SN S w) w' b xs → Calls Try.prog 141 #[b] w' (RetS (SN S w) w' (some (t, i, r))) from fun w' h => hsp ▸ split_ok b xs w' h)
  have HB := hid hb
  have H1 := hid h1
  have t2 : ((t.toNat : Int) == 2) = false := by simp only [beq_eq_false_iff_ne, ne_eq]; omega
  have hcase : ((t.toNat : Int) == 3) = false ∨ (((t.toNat : Int) == 3) = true ∧ d = 0) := by
    by_cases e : t.toNat = 3
    · exact .inr ⟨by simp only [beq_iff_eq]; omega, h3 e⟩
    · exact .inl (by simp only [beq_eq_false_iff_ne, ne_eq]; omega)
  clear hb hsp h1 h2 h3
  have htl := u8_lt t
  have hcase1 : ((t.toNat : Int) == 1) = false ∨ (((t.toNat : Int) == 1) = true ∧ (decide ((i.length : Int) ≤ 8) = false ∨ (decide ((i.length : Int) ≤ 8) = true ∧ i[0]? = some 0))) := by
    by_cases e : t.toNat = 1
    · refine .inr ⟨by simp only [beq_iff_eq]; omega, ?_⟩
      by_cases e8 : i.length ≤ 8
      · refine .inr ⟨by simp; omega, ?_⟩
        cases i with
        | nil => exact absurd ⟨e8, by simp⟩ (H1.out e)
        | cons c i =>
          by_cases ec : c = 0
          · rw [ec]; rfl
          · exact absurd ⟨e8, by simpa using ec⟩ (H1.out e)
      · exact .inl (by simp; omega)
    · exact .inl (by simp only [beq_eq_false_iff_ne, ne_eq]; omega)
  clear H1
  rcases hcase with hc3 | ⟨hc3, rfl⟩
  all_goals rcases hcase1 with hc1' | ⟨hc1', h8 | ⟨h8, hi0⟩⟩
  · skip
    go_enter Try.func115, Try.ntmps115
    go_upto_block 0 with (go_at_call 141; refine (HS.out _ (HB.out.new ((Fr.refl (fun _ => False) w).alloc _) (fun _ _ h => h.elim))).mono ?_; rintro e w1 ⟨hb1, ai, ci, ar, cr, rfl, hbi, hbr⟩; obtain ⟨hc1, hf1⟩ := wold hb1; have hsz1 : w.heap.size < w1.heap.size := (by have := hb1.size; simp at this; omega))
    have hB : Below w.heap.size w w1 := ((Below.refl _ _).alloc (Nat.le_refl _) _).trans (hb1.mono (by simp))
    have hx1 : w1.heap[w.heap.size]? = some (.cells #[.int .i64 0, .int .u64 0, .slice none 0 0, .slice none 0 0] 112 (0, 0)) := by
      rw [hb1.block _ (by simp)]; exact heap_alloc_new w _
    have hFt := (Fr.refl (· = w.heap.size) w1).set1 0 (.int .i64 (t.toNat : Int))
    have hxt := heap_store hx1 0 (.int .i64 (t.toNat : Int))
    generalize w1.setCell ⟨w.heap.size, 0, none⟩ (.int .i64 (t.toNat : Int)) = wt at *
    have hBt : Below w.heap.size w wt := Below.fr hB hFt (fun i hi e => by omega)
    have z0 : wt.frozen? ⟨w.heap.size, 0, none⟩ = false := frozen_of_row wt _ 0 _ _ hxt
    have z1 : wt.frozen? ⟨w.heap.size, 1, none⟩ = false := frozen_of_row wt _ 1 _ _ hxt
    have z2 : wt.frozen? ⟨w.heap.size, 2, none⟩ = false := frozen_of_row wt _ 2 _ _ hxt
    have z3 : wt.frozen? ⟨w.heap.size, 3, none⟩ = false := frozen_of_row wt _ 3 _ _ hxt
    have b0 := cell_of_heap hxt 0
    have b1 := cell_of_heap hxt 1
    have b2 := cell_of_heap hxt 2
    have b3 := cell_of_heap hxt 3
    simp at b0 b1 b2 b3
    have HXT := hid hxt
    have HBT := hid hBt
    clear hxt hBt hFt hx1 hB hc1 hf1 hb1 hbi hbr
    go_wp2
    have hx3 := heap_store (heap_store (heap_store (heap_store HXT.out 0 (.int .i64 0)) 1 (.int .u64 0)) 2 (.slice none 0 0)) 3 (.slice none 0 0)
    have hF2 := ((((Fr.refl (· = w.heap.size) wt).set1 0 (.int .i64 0)).set1 1 (.int .u64 0)).set1 2 (.slice none 0 0)).set1 3 (.slice none 0 0)
    refine bodyPost_ret (results_ctt rfl _ _ w.heap.size _ _ _ _ rfl hx3 Try.underlying112 rfl (by kernel_rfl)) rfl ?_
    exact RetR.no (Below.fr HBT.out hF2 (fun i hi e => by omega))
  · skip
    go_enter Try.func115, Try.ntmps115
    go_upto_block 0 with (go_at_call 141; refine (HS.out _ (HB.out.new ((Fr.refl (fun _ => False) w).alloc _) (fun _ _ h => h.elim))).mono ?_; rintro e w1 ⟨hb1, ai, ci, ar, cr, rfl, hbi, hbr⟩; obtain ⟨hc1, hf1⟩ := wold hb1; have hsz1 : w.heap.size < w1.heap.size := (by have := hb1.size; simp at this; omega))
    have hB : Below w.heap.size w w1 := ((Below.refl _ _).alloc (Nat.le_refl _) _).trans (hb1.mono (by simp))
    have hx1 : w1.heap[w.heap.size]? = some (.cells #[.int .i64 0, .int .u64 0, .slice none 0 0, .slice none 0 0] 112 (0, 0)) := by
      rw [hb1.block _ (by simp)]; exact heap_alloc_new w _
    have hFt := (Fr.refl (· = w.heap.size) w1).set1 0 (.int .i64 (t.toNat : Int))
    have hxt := heap_store hx1 0 (.int .i64 (t.toNat : Int))
    generalize w1.setCell ⟨w.heap.size, 0, none⟩ (.int .i64 (t.toNat : Int)) = wt at *
    have hBt : Below w.heap.size w wt := Below.fr hB hFt (fun i hi e => by omega)
    have z0 : wt.frozen? ⟨w.heap.size, 0, none⟩ = false := frozen_of_row wt _ 0 _ _ hxt
    have z1 : wt.frozen? ⟨w.heap.size, 1, none⟩ = false := frozen_of_row wt _ 1 _ _ hxt
    have z2 : wt.frozen? ⟨w.heap.size, 2, none⟩ = false := frozen_of_row wt _ 2 _ _ hxt
    have z3 : wt.frozen? ⟨w.heap.size, 3, none⟩ = false := frozen_of_row wt _ 3 _ _ hxt
    have b0 := cell_of_heap hxt 0
    have b1 := cell_of_heap hxt 1
    have b2 := cell_of_heap hxt 2
    have b3 := cell_of_heap hxt 3
    simp at b0 b1 b2 b3
    have HXT := hid hxt
    have HBT := hid hBt
    clear hxt hBt hFt hx1 hB hc1 hf1 hb1 hbi hbr
    go_wp2
    have hx3 := heap_store (heap_store (heap_store (heap_store HXT.out 0 (.int .i64 0)) 1 (.int .u64 0)) 2 (.slice none 0 0)) 3 (.slice none 0 0)
    have hF2 := ((((Fr.refl (· = w.heap.size) wt).set1 0 (.int .i64 0)).set1 1 (.int .u64 0)).set1 2 (.slice none 0 0)).set1 3 (.slice none 0 0)
    refine bodyPost_ret (results_ctt rfl _ _ w.heap.size _ _ _ _ rfl hx3 Try.underlying112 rfl (by kernel_rfl)) rfl ?_
    exact RetR.no (Below.fr HBT.out hF2 (fun i hi e => by omega))
  · skip
    go_enter Try.func115, Try.ntmps115
    go_upto_block 0 with (go_at_call 141; refine (HS.out _ (HB.out.new ((Fr.refl (fun _ => False) w).alloc _) (fun _ _ h => h.elim))).mono ?_; rintro e w1 ⟨hb1, ai, ci, ar, cr, rfl, hbi, hbr⟩; obtain ⟨hc1, hf1⟩ := wold hb1; have hsz1 : w.heap.size < w1.heap.size := (by have := hb1.size; simp at this; omega))
    have hB : Below w.heap.size w w1 := ((Below.refl _ _).alloc (Nat.le_refl _) _).trans (hb1.mono (by simp))
    have hx1 : w1.heap[w.heap.size]? = some (.cells #[.int .i64 0, .int .u64 0, .slice none 0 0, .slice none 0 0] 112 (0, 0)) := by
      rw [hb1.block _ (by simp)]; exact heap_alloc_new w _
    have hFt := (Fr.refl (· = w.heap.size) w1).set1 0 (.int .i64 (t.toNat : Int))
    have hxt := heap_store hx1 0 (.int .i64 (t.toNat : Int))
    have hbi2 := hbi.fr hFt (fun k hk h => .inr (by omega))
    generalize hwt : w1.setCell ⟨w.heap.size, 0, none⟩ (.int .i64 (t.toNat : Int)) = wt at *
    obtain ⟨_, _, hsl, ⟨hf1a, hf2a, hf3a⟩, _, h4⟩ := hbi2
    injection hsl with e1 _ e3
    subst e1 e3
    unfold maxLen at hf3a
    rcases h4 with h | ⟨blk, off, ha, _, _, hc⟩
    · rw [h] at hi0; cases hi0
    subst ha
    have hcell : wt.cell? ⟨blk, off, none⟩ = some (.int .u8 0) := by have := hc 0 0 hi0; rwa [Nat.add_zero] at this
    have hpos : (0 : Int) < (i.length : Int) := by
      have := (List.getElem?_eq_some_iff.1 hi0).1
      omega
    have hlen2 : ((i.length : Int) == 0) = false := by simp only [beq_eq_false_iff_ne, ne_eq]; omega
    clear hc hwt
    have hBt : Below w.heap.size w wt := Below.fr hB hFt (fun i hi e => by omega)
    have z0 : wt.frozen? ⟨w.heap.size, 0, none⟩ = false := frozen_of_row wt _ 0 _ _ hxt
    have z1 : wt.frozen? ⟨w.heap.size, 1, none⟩ = false := frozen_of_row wt _ 1 _ _ hxt
    have z2 : wt.frozen? ⟨w.heap.size, 2, none⟩ = false := frozen_of_row wt _ 2 _ _ hxt
    have z3 : wt.frozen? ⟨w.heap.size, 3, none⟩ = false := frozen_of_row wt _ 3 _ _ hxt
    have b0 := cell_of_heap hxt 0
    have b1 := cell_of_heap hxt 1
    have b2 := cell_of_heap hxt 2
    have b3 := cell_of_heap hxt 3
    simp at b0 b1 b2 b3
    have HXT := hid hxt
    have HBT := hid hBt
    clear hxt hBt hFt hx1 hB hc1 hf1 hb1 hbi hbr
    go_wp2
    have hx3 := heap_store (heap_store (heap_store (heap_store HXT.out 0 (.int .i64 0)) 1 (.int .u64 0)) 2 (.slice none 0 0)) 3 (.slice none 0 0)
    have hF2 := ((((Fr.refl (· = w.heap.size) wt).set1 0 (.int .i64 0)).set1 1 (.int .u64 0)).set1 2 (.slice none 0 0)).set1 3 (.slice none 0 0)
    refine bodyPost_ret (results_ctt rfl _ _ w.heap.size _ _ _ _ rfl hx3 Try.underlying112 rfl (by kernel_rfl)) rfl ?_
    exact RetR.no (Below.fr HBT.out hF2 (fun i hi e => by omega))
  · show Calls Try.prog 115 #[b, .int .i64 0] w (RetR S w none)
    go_enter Try.func115, Try.ntmps115
    go_upto_block 0 with (go_at_call 141; refine (HS.out _ (HB.out.new ((Fr.refl (fun _ => False) w).alloc _) (fun _ _ h => h.elim))).mono ?_; rintro e w1 ⟨hb1, ai, ci, ar, cr, rfl, hbi, hbr⟩; obtain ⟨hc1, hf1⟩ := wold hb1; have hsz1 : w.heap.size < w1.heap.size := (by have := hb1.size; simp at this; omega))
    have hB : Below w.heap.size w w1 := ((Below.refl _ _).alloc (Nat.le_refl _) _).trans (hb1.mono (by simp))
    have hx1 : w1.heap[w.heap.size]? = some (.cells #[.int .i64 0, .int .u64 0, .slice none 0 0, .slice none 0 0] 112 (0, 0)) := by
      rw [hb1.block _ (by simp)]; exact heap_alloc_new w _
    have hFt := (Fr.refl (· = w.heap.size) w1).set1 0 (.int .i64 (t.toNat : Int))
    have hxt := heap_store hx1 0 (.int .i64 (t.toNat : Int))
    generalize w1.setCell ⟨w.heap.size, 0, none⟩ (.int .i64 (t.toNat : Int)) = wt at *
    have hBt : Below w.heap.size w wt := Below.fr hB hFt (fun i hi e => by omega)
    have z0 : wt.frozen? ⟨w.heap.size, 0, none⟩ = false := frozen_of_row wt _ 0 _ _ hxt
    have z1 : wt.frozen? ⟨w.heap.size, 1, none⟩ = false := frozen_of_row wt _ 1 _ _ hxt
    have z2 : wt.frozen? ⟨w.heap.size, 2, none⟩ = false := frozen_of_row wt _ 2 _ _ hxt
    have z3 : wt.frozen? ⟨w.heap.size, 3, none⟩ = false := frozen_of_row wt _ 3 _ _ hxt
    have b0 := cell_of_heap hxt 0
    have b1 := cell_of_heap hxt 1
    have b2 := cell_of_heap hxt 2
    have b3 := cell_of_heap hxt 3
    simp at b0 b1 b2 b3
    have HXT := hid hxt
    have HBT := hid hBt
    clear hxt hBt hFt hx1 hB hc1 hf1 hb1 hbi hbr
    go_wp2
    have hx3 := heap_store (heap_store (heap_store (heap_store HXT.out 0 (.int .i64 0)) 1 (.int .u64 0)) 2 (.slice none 0 0)) 3 (.slice none 0 0)
    have hF2 := ((((Fr.refl (· = w.heap.size) wt).set1 0 (.int .i64 0)).set1 1 (.int .u64 0)).set1 2 (.slice none 0 0)).set1 3 (.slice none 0 0)
    refine bodyPost_ret (results_ctt rfl _ _ w.heap.size _ _ _ _ rfl hx3 Try.underlying112 rfl (by kernel_rfl)) rfl ?_
    exact RetR.no (Below.fr HBT.out hF2 (fun i hi e => by omega))
  · show Calls Try.prog 115 #[b, .int .i64 0] w (RetR S w none)
    go_enter Try.func115, Try.ntmps115
    go_upto_block 0 with (go_at_call 141; refine (HS.out _ (HB.out.new ((Fr.refl (fun _ => False) w).alloc _) (fun _ _ h => h.elim))).mono ?_; rintro e w1 ⟨hb1, ai, ci, ar, cr, rfl, hbi, hbr⟩; obtain ⟨hc1, hf1⟩ := wold hb1; have hsz1 : w.heap.size < w1.heap.size := (by have := hb1.size; simp at this; omega))
    have hB : Below w.heap.size w w1 := ((Below.refl _ _).alloc (Nat.le_refl _) _).trans (hb1.mono (by simp))
    have hx1 : w1.heap[w.heap.size]? = some (.cells #[.int .i64 0, .int .u64 0, .slice none 0 0, .slice none 0 0] 112 (0, 0)) := by
      rw [hb1.block _ (by simp)]; exact heap_alloc_new w _
    have hFt := (Fr.refl (· = w.heap.size) w1).set1 0 (.int .i64 (t.toNat : Int))
    have hxt := heap_store hx1 0 (.int .i64 (t.toNat : Int))
    generalize w1.setCell ⟨w.heap.size, 0, none⟩ (.int .i64 (t.toNat : Int)) = wt at *
    have hBt : Below w.heap.size w wt := Below.fr hB hFt (fun i hi e => by omega)
    have z0 : wt.frozen? ⟨w.heap.size, 0, none⟩ = false := frozen_of_row wt _ 0 _ _ hxt
    have z1 : wt.frozen? ⟨w.heap.size, 1, none⟩ = false := frozen_of_row wt _ 1 _ _ hxt
    have z2 : wt.frozen? ⟨w.heap.size, 2, none⟩ = false := frozen_of_row wt _ 2 _ _ hxt
    have z3 : wt.frozen? ⟨w.heap.size, 3, none⟩ = false := frozen_of_row wt _ 3 _ _ hxt
    have b0 := cell_of_heap hxt 0
    have b1 := cell_of_heap hxt 1
    have b2 := cell_of_heap hxt 2
    have b3 := cell_of_heap hxt 3
    simp at b0 b1 b2 b3
    have HXT := hid hxt
    have HBT := hid hBt
    clear hxt hBt hFt hx1 hB hc1 hf1 hb1 hbi hbr
    go_wp2
    have hx3 := heap_store (heap_store (heap_store (heap_store HXT.out 0 (.int .i64 0)) 1 (.int .u64 0)) 2 (.slice none 0 0)) 3 (.slice none 0 0)
    have hF2 := ((((Fr.refl (· = w.heap.size) wt).set1 0 (.int .i64 0)).set1 1 (.int .u64 0)).set1 2 (.slice none 0 0)).set1 3 (.slice none 0 0)
    refine bodyPost_ret (results_ctt rfl _ _ w.heap.size _ _ _ _ rfl hx3 Try.underlying112 rfl (by kernel_rfl)) rfl ?_
    exact RetR.no (Below.fr HBT.out hF2 (fun i hi e => by omega))
  · show Calls Try.prog 115 #[b, .int .i64 0] w (RetR S w none)
    go_enter Try.func115, Try.ntmps115
    go_upto_block 0 with (go_at_call 141; refine (HS.out _ (HB.out.new ((Fr.refl (fun _ => False) w).alloc _) (fun _ _ h => h.elim))).mono ?_; rintro e w1 ⟨hb1, ai, ci, ar, cr, rfl, hbi, hbr⟩; obtain ⟨hc1, hf1⟩ := wold hb1; have hsz1 : w.heap.size < w1.heap.size := (by have := hb1.size; simp at this; omega))
    have hB : Below w.heap.size w w1 := ((Below.refl _ _).alloc (Nat.le_refl _) _).trans (hb1.mono (by simp))
    have hx1 : w1.heap[w.heap.size]? = some (.cells #[.int .i64 0, .int .u64 0, .slice none 0 0, .slice none 0 0] 112 (0, 0)) := by
      rw [hb1.block _ (by simp)]; exact heap_alloc_new w _
    have hFt := (Fr.refl (· = w.heap.size) w1).set1 0 (.int .i64 (t.toNat : Int))
    have hxt := heap_store hx1 0 (.int .i64 (t.toNat : Int))
    have hbi2 := hbi.fr hFt (fun k hk h => .inr (by omega))
    generalize hwt : w1.setCell ⟨w.heap.size, 0, none⟩ (.int .i64 (t.toNat : Int)) = wt at *
    obtain ⟨_, _, hsl, ⟨hf1a, hf2a, hf3a⟩, _, h4⟩ := hbi2
    injection hsl with e1 _ e3
    subst e1 e3
    unfold maxLen at hf3a
    rcases h4 with h | ⟨blk, off, ha, _, _, hc⟩
    · rw [h] at hi0; cases hi0
    subst ha
    have hcell : wt.cell? ⟨blk, off, none⟩ = some (.int .u8 0) := by have := hc 0 0 hi0; rwa [Nat.add_zero] at this
    have hpos : (0 : Int) < (i.length : Int) := by
      have := (List.getElem?_eq_some_iff.1 hi0).1
      omega
    have hlen2 : ((i.length : Int) == 0) = false := by simp only [beq_eq_false_iff_ne, ne_eq]; omega
    clear hc hwt
    have hBt : Below w.heap.size w wt := Below.fr hB hFt (fun i hi e => by omega)
    have z0 : wt.frozen? ⟨w.heap.size, 0, none⟩ = false := frozen_of_row wt _ 0 _ _ hxt
    have z1 : wt.frozen? ⟨w.heap.size, 1, none⟩ = false := frozen_of_row wt _ 1 _ _ hxt
    have z2 : wt.frozen? ⟨w.heap.size, 2, none⟩ = false := frozen_of_row wt _ 2 _ _ hxt
    have z3 : wt.frozen? ⟨w.heap.size, 3, none⟩ = false := frozen_of_row wt _ 3 _ _ hxt
    have b0 := cell_of_heap hxt 0
    have b1 := cell_of_heap hxt 1
    have b2 := cell_of_heap hxt 2
    have b3 := cell_of_heap hxt 3
    simp at b0 b1 b2 b3
    have HXT := hid hxt
    have HBT := hid hBt
    clear hxt hBt hFt hx1 hB hc1 hf1 hb1 hbi hbr
    go_wp2
    have hx3 := heap_store (heap_store (heap_store (heap_store HXT.out 0 (.int .i64 0)) 1 (.int .u64 0)) 2 (.slice none 0 0)) 3 (.slice none 0 0)
    have hF2 := ((((Fr.refl (· = w.heap.size) wt).set1 0 (.int .i64 0)).set1 1 (.int .u64 0)).set1 2 (.slice none 0 0)).set1 3 (.slice none 0 0)
    refine bodyPost_ret (results_ctt rfl _ _ w.heap.size _ _ _ _ rfl hx3 Try.underlying112 rfl (by kernel_rfl)) rfl ?_
    exact RetR.no (Below.fr HBT.out hF2 (fun i hi e => by omega))
end Go.Proofs.Ytelijfdpgachnaa
