/- hayloftlaw06: Step, of the calls of kinds 8 and 9. -/
import Derived.Test.YtgehalfnpbjjcaaGreatStepW
import Derived.Test.YtgehalfnpbjjcaaGreatSimT
namespace Go.Proofs.YtgehalfnpbjjcaaGreat
open Go Go.RowKit Go.Sort
theorem FewS.flip {st : FSt} {N : Nat} (h : FewS st N) (n : ByteArray) (i : Int) (u : UInt8) : FewS (flipF st n i u).1 N := by
  unfold flipF
  split
  · split
    · exact h
    · split
      · exact ⟨h.a, h.b⟩
      · exact h
  · exact h
theorem FewR.flip {st : RSt} {N : Nat} (h : FewR st N) (n : ByteArray) (i : Int) (u : UInt8) : FewR (rflip st n i u).1 (N + 3) := by
  unfold rflip
  split
  · exact h.up (by omega)
  · split
    · exact h.up (by omega)
    · exact ⟨Nat.le_trans h.a (by omega), Nat.le_trans h.b (by omega), by show (rset _ _ _).length ≤ _; rw [rset_length]; exact Nat.le_trans h.c (by omega)⟩
theorem FewS.upF {st : FSt} {N : Nat} (h : FewS st N) (n : Int) (cuts : List Int) : FewS (upF st n cuts) N := by
  have hs := h.settle (upN st n)
  exact ⟨by show (settleF st (upN st n)).safe.length ≤ N; have := hs.b; omega, hs.b⟩
theorem rupGo_length {cuts : List Int} : ∀ {l : RDir} {i : Nat} {done : List Int} {fs : List RFil}, (rupGo cuts l i done fs).length = fs.length
  | [], _, _, _ => rfl
  | p :: l, i, done, fs => by
    unfold rupGo
    split
    · exact rupGo_length
    · rw [rupGo_length, rset_length]
theorem FewR.rup {st : RSt} {N : Nat} (h : FewR st N) (n : Int) (cuts : List Int) : FewR (rup st n cuts) (N + 3) := by
  have h1 := rsafe_len st (rupN st n)
  have h2 : rupN st n ≤ st.chg.length := by unfold rupN; omega
  have h3 := h.b
  have h4 := h.c
  refine ⟨?_, ?_, ?_⟩
  · show (rsafeF st (rupN st n)).length ≤ _
    omega
  · show (rsafeF st (rupN st n)).length + 2 * ([] : List RChg).length ≤ _
    simp only [List.length_nil]
    omega
  · show (rupGo _ _ _ _ _).length ≤ _
    rw [rupGo_length]
    omega
theorem row_base {base : Nat} {w W : World} {v : Value} {m : Nat} {cs : List Value} (h : Row (fun k => base ≤ k) w v m 1 cs) (hW : Below base w W) {G : Nat → Prop} (hG : ∀ k, G k → base ≤ k) : Row G W v m 1 cs := by
  have hf : Fr (fun k => base ≤ k) w W := ⟨hW.os, hW.tape, hW.output, hW.size, fun i _ hi => hW.block i (Nat.lt_of_not_le hi)⟩
  exact (h.fr hf (fun k _ hk => hk)).mono (fun k _ hk => hG k hk)
set_option maxHeartbeats 2000000 in
set_option maxRecDepth 100000 in
theorem step9_ok {base : Nat} {w : World} {Fs Ds Gr Er : Nat → Prop} {sb rb N : Nat} {st : FSt} {rs : RSt} (hB : Both base w Fs Ds sb st Gr Er rb rs N) (hN : N ≤ 900000) (hbase : base ≤ w.heap.size) (nm tt : ByteArray) (ba : Option Addr) (bn bc : Nat) (n : Int) (y : UInt8) (ca : Option Addr) (cn cc : Nat) (cuts : List Int) (ys : List UInt8) (_hys : ys.length ≤ 200) (hyb : Bs (fun k => base ≤ k) w (.slice ba bn bc) ys) :
    Calls Tryz.prog 8 #[.pointer (some ⟨sb, 0, none⟩), .pointer (some ⟨rb, 0, none⟩), .agg #[.int .i64 9, .string nm, .string tt, .slice ba bn bc, .int .i64 n, bcell y, .slice ca cn cc]] w fun e w' => StepR base sb rb st rs N 9 nm tt ys n y cuts w e w' := by
  have mixed : Tryz.prog.follows .mixedOrders = true := by kernel_rfl
  obtain ⟨w0, hw0⟩ : ∃ w0, w.alloc (.cells (opC ⟨9, nm, tt, ba, bn, bc, n, y, ca, cn, cc⟩).toArray 36) = w0 := ⟨_, rfl⟩
  have hb0 : Below w.heap.size w w0 := by rw [← hw0]; exact (Below.refl _ _).alloc (Nat.le_refl _) _
  have hS0 : w0.drew.heap[w.heap.size]? = some (.cells (opC ⟨9, nm, tt, ba, bn, bc, n, y, ca, cn, cc⟩).toArray 36 (0, 0)) := by
    have h9 : w0.heap[w.heap.size]? = some (.cells (opC ⟨9, nm, tt, ba, bn, bc, n, y, ca, cn, cc⟩).toArray 36 (0, 0)) := by rw [← hw0]; exact heap_alloc_new w _
    exact h9
  have HB := hid ((hB.below hb0).below ((Below.refl _ w0).drew))
  have HBS := hid (show base ≤ w0.drew.heap.size from Nat.le_trans hbase hb0.size)
  have HLF := hid (fun k (hk : Fs k) => hB.fs.ltF hk)
  have HLR := hid (fun k (hk : Gr k) => hB.rf.ltF hk)
  have HBW := hid (show Below base w w0.drew from (hb0.mono hbase).drew)
  have HYS := hid (show ∀ W, Below base w W → ∀ {G : Nat → Prop}, (∀ k, G k → base ≤ k) → Bs G W (.slice ba bn bc) ys from fun W hW G hG => bs_base hyb hW hG)
  have HW0 := hid (show w.alloc (.cells #[.int .i64 9, .string nm, .string tt, .slice ba bn bc, .int .i64 n, bcell y, .slice ca cn cc] 36) = w0 from hw0)
  have FA1 := hid (show ∀ W, (Instr.fieldAt 36 (.pointer (some ⟨w.heap.size, 0, none⟩)) 1).run Tryz.prog W = .ok (.pointer (some ⟨w.heap.size, 1, none⟩)) W from fun W => by go_simp)
  have FA2 := hid (show ∀ W, (Instr.fieldAt 36 (.pointer (some ⟨w.heap.size, 0, none⟩)) 2).run Tryz.prog W = .ok (.pointer (some ⟨w.heap.size, 2, none⟩)) W from fun W => by go_simp)
  have FA3 := hid (show ∀ W, (Instr.fieldAt 36 (.pointer (some ⟨w.heap.size, 0, none⟩)) 3).run Tryz.prog W = .ok (.pointer (some ⟨w.heap.size, 3, none⟩)) W from fun W => by go_simp)
  have FA4 := hid (show ∀ W, (Instr.fieldAt 36 (.pointer (some ⟨w.heap.size, 0, none⟩)) 4).run Tryz.prog W = .ok (.pointer (some ⟨w.heap.size, 4, none⟩)) W from fun W => by go_simp)
  have LD1 := hid (show ∀ W, W.heap[w.heap.size]? = some (.cells (opC ⟨9, nm, tt, ba, bn, bc, n, y, ca, cn, cc⟩).toArray 36 (0, 0)) → (Instr.loadAt 9 (.pointer (some ⟨w.heap.size, 1, none⟩))).run Tryz.prog W = .ok (.string nm) W from fun W hW => by have hc : W.cell? ⟨w.heap.size, 1, none⟩ = some (.string nm) := cell_of_heap hW 1; clear hW; go_simp)
  have LD2 := hid (show ∀ W, W.heap[w.heap.size]? = some (.cells (opC ⟨9, nm, tt, ba, bn, bc, n, y, ca, cn, cc⟩).toArray 36 (0, 0)) → (Instr.loadAt 9 (.pointer (some ⟨w.heap.size, 2, none⟩))).run Tryz.prog W = .ok (.string tt) W from fun W hW => by have hc : W.cell? ⟨w.heap.size, 2, none⟩ = some (.string tt) := cell_of_heap hW 2; clear hW; go_simp)
  have LD3 := hid (show ∀ W, W.heap[w.heap.size]? = some (.cells (opC ⟨9, nm, tt, ba, bn, bc, n, y, ca, cn, cc⟩).toArray 36 (0, 0)) → (Instr.loadAt 33 (.pointer (some ⟨w.heap.size, 3, none⟩))).run Tryz.prog W = .ok (.slice ba bn bc) W from fun W hW => ldb W (cell_of_heap hW 3))
  have LD4 := hid (show ∀ W, W.heap[w.heap.size]? = some (.cells (opC ⟨9, nm, tt, ba, bn, bc, n, y, ca, cn, cc⟩).toArray 36 (0, 0)) → (Instr.loadAt 3 (.pointer (some ⟨w.heap.size, 4, none⟩))).run Tryz.prog W = .ok (.int .i64 n) W from fun W hW => ldi W (cell_of_heap hW 4))
  have FA5 := hid (show ∀ W, (Instr.fieldAt 36 (.pointer (some ⟨w.heap.size, 0, none⟩)) 5).run Tryz.prog W = .ok (.pointer (some ⟨w.heap.size, 5, none⟩)) W from fun W => by go_simp)
  have LD5 := hid (show ∀ W, W.heap[w.heap.size]? = some (.cells (opC ⟨9, nm, tt, ba, bn, bc, n, y, ca, cn, cc⟩).toArray 36 (0, 0)) → (Instr.loadAt 5 (.pointer (some ⟨w.heap.size, 5, none⟩))).run Tryz.prog W = .ok (bcell y) W from fun W hW => by have hc : W.cell? ⟨w.heap.size, 5, none⟩ = some (bcell y) := cell_of_heap hW 5; clear hW; unfold bcell at *; go_simp)
  have PEQ := hid (show ∀ (a b : Int) W, (binOp .eql 26 (.int .i64 a) (.int .i64 b)).run Tryz.prog W = .ok (.bool (a == b)) W from fun a b W => by go_simp)
  have k0 : w0.cell? ⟨w.heap.size, 0, none⟩ = some (.int .i64 9) := cell_of_heap (w := w0) hS0 0
  clear hw0 hb0 hyb
  go_enter Tryz.func8, Tryz.ntmps8
  go_wp2_with fail
  rw [HW0.out]
  refine hg_start (fun W => W.heap[w.heap.size]? = some (.cells (opC ⟨9, nm, tt, ba, bn, bc, n, y, ca, cn, cc⟩).toArray 36 (0, 0))) 99 mixed ?_
  refine hgt 0 155 kMove (.tmp 0) (.pointer (some ⟨sb, 0, none⟩)) (by kernel_rfl) (by kernel_rfl) (by kernel_rfl) (by kernel_rfl) (by exact fun _ _ _ h => h) (by kernel_rfl) (by kernel_rfl) hS0 (fun o w' ho hs => ex_move ho (by kernel_rfl)) ?_
  refine hgt 1 156 kFA (36, .tmp 5, 1) (.pointer (some ⟨w.heap.size, 1, none⟩)) (by kernel_rfl) (by kernel_rfl) (by kernel_rfl) (by kernel_rfl) (by exact fun _ _ _ h => h) (by kernel_rfl) (by kernel_rfl) hS0 (fun o w' ho hs => ex_fa ho (by kernel_rfl) (FA1.out _)) ?_
  refine hgt 2 157 kLoad (9, .tmp 156) (.string nm) (by kernel_rfl) (by kernel_rfl) (by kernel_rfl) (by kernel_rfl) (by exact fun _ _ _ h => h) (by kernel_rfl) (by kernel_rfl) hS0 (fun o w' ho hs => ex_load ho (by kernel_rfl) (LD1.out _ hs)) ?_
  refine hgt 3 158 kFA (36, .tmp 5, 4) (.pointer (some ⟨w.heap.size, 4, none⟩)) (by kernel_rfl) (by kernel_rfl) (by kernel_rfl) (by kernel_rfl) (by exact fun _ _ _ h => h) (by kernel_rfl) (by kernel_rfl) hS0 (fun o w' ho hs => ex_fa ho (by kernel_rfl) (FA4.out _)) ?_
  refine hgt 4 159 kLoad (3, .tmp 158) (.int .i64 n) (by kernel_rfl) (by kernel_rfl) (by kernel_rfl) (by kernel_rfl) (by exact fun _ _ _ h => h) (by kernel_rfl) (by kernel_rfl) hS0 (fun o w' ho hs => ex_load ho (by kernel_rfl) (LD4.out _ hs)) ?_
  refine hgt 5 160 kFA (36, .tmp 5, 5) (.pointer (some ⟨w.heap.size, 5, none⟩)) (by kernel_rfl) (by kernel_rfl) (by kernel_rfl) (by kernel_rfl) (by exact fun _ _ _ h => h) (by kernel_rfl) (by kernel_rfl) hS0 (fun o w' ho hs => ex_fa ho (by kernel_rfl) (FA5.out _)) ?_
  refine hgt 6 161 kLoad (5, .tmp 160) (bcell y) (by kernel_rfl) (by kernel_rfl) (by kernel_rfl) (by kernel_rfl) (by exact fun _ _ _ h => h) (by kernel_rfl) (by kernel_rfl) hS0 (fun o w' ho hs => ex_load ho (by kernel_rfl) (LD5.out _ hs)) ?_
  refine hgt 8 163 kMove (.tmp 1) (.pointer (some ⟨rb, 0, none⟩)) (by kernel_rfl) (by kernel_rfl) (by kernel_rfl) (by kernel_rfl) (by exact fun _ _ _ h => h) (by kernel_rfl) (by kernel_rfl) hS0 (fun o w' ho hs => ex_move ho (by kernel_rfl)) ?_
  refine hgt 9 164 kFA (36, .tmp 5, 1) (.pointer (some ⟨w.heap.size, 1, none⟩)) (by kernel_rfl) (by kernel_rfl) (by kernel_rfl) (by kernel_rfl) (by exact fun _ _ _ h => h) (by kernel_rfl) (by kernel_rfl) hS0 (fun o w' ho hs => ex_fa ho (by kernel_rfl) (FA1.out _)) ?_
  refine hgt 10 165 kLoad (9, .tmp 164) (.string nm) (by kernel_rfl) (by kernel_rfl) (by kernel_rfl) (by kernel_rfl) (by exact fun _ _ _ h => h) (by kernel_rfl) (by kernel_rfl) hS0 (fun o w' ho hs => ex_load ho (by kernel_rfl) (LD1.out _ hs)) ?_
  refine hgt 11 166 kFA (36, .tmp 5, 4) (.pointer (some ⟨w.heap.size, 4, none⟩)) (by kernel_rfl) (by kernel_rfl) (by kernel_rfl) (by kernel_rfl) (by exact fun _ _ _ h => h) (by kernel_rfl) (by kernel_rfl) hS0 (fun o w' ho hs => ex_fa ho (by kernel_rfl) (FA4.out _)) ?_
  refine hgt 12 167 kLoad (3, .tmp 166) (.int .i64 n) (by kernel_rfl) (by kernel_rfl) (by kernel_rfl) (by kernel_rfl) (by exact fun _ _ _ h => h) (by kernel_rfl) (by kernel_rfl) hS0 (fun o w' ho hs => ex_load ho (by kernel_rfl) (LD4.out _ hs)) ?_
  refine hgt 13 168 kFA (36, .tmp 5, 5) (.pointer (some ⟨w.heap.size, 5, none⟩)) (by kernel_rfl) (by kernel_rfl) (by kernel_rfl) (by kernel_rfl) (by exact fun _ _ _ h => h) (by kernel_rfl) (by kernel_rfl) hS0 (fun o w' ho hs => ex_fa ho (by kernel_rfl) (FA5.out _)) ?_
  refine hgt 14 169 kLoad (5, .tmp 168) (bcell y) (by kernel_rfl) (by kernel_rfl) (by kernel_rfl) (by kernel_rfl) (by exact fun _ _ _ h => h) (by kernel_rfl) (by kernel_rfl) hS0 (fun o w' ho hs => ex_load ho (by kernel_rfl) (LD5.out _ hs)) ?_
  refine hg1 7 (by kernel_rfl) ?_
  refine hg_call 162 32 [.tmp 155, .tmp 157, .tmp 159, .tmp 161] [.pointer (some ⟨sb, 0, none⟩), .string nm, .int .i64 n, bcell y] (by kernel_rfl) (by kernel_rfl) (enters_of Tryz.func32 rfl rfl) (fsFlip_ok w0.drew HB.out.fs nm n y) ?_
  rintro e w1 ⟨rfl, F1, D1, hs1, ht1⟩
  obtain ⟨hb1, hbl1⟩ := HB.out.stepS HBS.out hs1 ht1 (N' := N + 3) ((HB.out.few.flip nm n y).up (by omega)) (by omega)
  have hS1 := ht1.fr.heap hS0 (fun hF => by have := HLF.out _ hF; omega)
  obtain ⟨xs, hxs⟩ : ∃ xs, (flipF st nm n y).2 = xs := ⟨_, rfl⟩
  rw [hxs]
  refine ⟨_, rfl, .inr hS1, ?_⟩
  refine hg1 15 (by kernel_rfl) ?_
  refine hg_call 170 33 [.tmp 163, .tmp 165, .tmp 167, .tmp 169] [.pointer (some ⟨rb, 0, none⟩), .string nm, .int .i64 n, bcell y] (by kernel_rfl) (by kernel_rfl) (enters_of Tryz.func33 rfl rfl) (r06Flip_ok w1 hb1.rf (by have := hb1.fewr.a; omega) nm n y) ?_
  rintro e w2 ⟨rfl, F2, D2, hs2, ht2⟩
  obtain ⟨hb2, hbl2⟩ := hb1.stepR (Nat.le_trans HBS.out ht1.fr.size) hs2 ht2 (N' := N + 3) (HB.out.fewr.flip nm n y) (Nat.le_refl _)
  have hS2 := ht2.fr.heap hS1 (fun hF => by have := HLR.out _ hF; omega)
  obtain ⟨xr, hxr⟩ : ∃ xr, (rflip rs nm n y).2 = xr := ⟨_, rfl⟩
  rw [hxr]
  refine ⟨_, rfl, .inr hS2, ?_⟩
  refine hg1 16 (by kernel_rfl) ?_
  refine hg_val 171 kBin (.eql, 26, .tmp 162, .tmp 170) (.bool (xs == xr)) (by kernel_rfl) (fun o ho => ex_bin (vx := .int .i64 xs) (vy := .int .i64 xr) ho (by kernel_rfl) (by kernel_rfl) rfl (PEQ.out xs xr _)) (.inr hS2) ?_
  refine hg1 17 (by kernel_rfl) ?_
  refine hg_val 6 kAssign (.tmp 171) (.bool (xs == xr)) (by kernel_rfl) (fun o ho => ex_assign ho (by kernel_rfl)) (.inr hS2) ?_
  refine hg_done (by kernel_rfl) ?_
  have HREL := hid (show SRelX st 9 nm tt ys n y cuts _ from by rfl)
  have HB2 := hid hb2
  have HBL := hid (Below.trans hbl1 hbl2)
  clear hb1 hb2 hbl1 hbl2 hs1 hs2 ht1 ht2 hS0 hS1 hS2
  go_wp2
  go_ret
  refine ⟨xs == xr, _, ?_, HREL.out, ⟨_, _, _, _, HB2.out⟩, Below.trans HBW.out HBL.out⟩
  kernel_rfl
set_option maxHeartbeats 2000000 in
set_option maxRecDepth 100000 in
theorem step8_ok {base : Nat} {w : World} {Fs Ds Gr Er : Nat → Prop} {sb rb N : Nat} {st : FSt} {rs : RSt} (hB : Both base w Fs Ds sb st Gr Er rb rs N) (hN : N ≤ 90000) (hbase : base ≤ w.heap.size) (nm tt : ByteArray) (ba : Option Addr) (bn bc : Nat) (n : Int) (y : UInt8) (ca : Option Addr) (cc : Nat) (cuts : List Int) (ys : List UInt8) (hrow : Row (fun k => base ≤ k) w (.slice ca cuts.length cc) cuts.length 1 (cuts.map (Value.int .i64))) :
    Calls Tryz.prog 8 #[.pointer (some ⟨sb, 0, none⟩), .pointer (some ⟨rb, 0, none⟩), .agg #[.int .i64 8, .string nm, .string tt, .slice ba bn bc, .int .i64 n, bcell y, .slice ca cuts.length cc]] w fun e w' => StepR base sb rb st rs N 8 nm tt ys n y cuts w e w' := by
  obtain ⟨w0, hw0⟩ : ∃ w0, w.alloc (.cells (opC ⟨8, nm, tt, ba, bn, bc, n, y, ca, cuts.length, cc⟩).toArray 36) = w0 := ⟨_, rfl⟩
  have hb0 : Below w.heap.size w w0 := by rw [← hw0]; exact (Below.refl _ _).alloc (Nat.le_refl _) _
  have h9 : w0.heap[w.heap.size]? = some (.cells (opC ⟨8, nm, tt, ba, bn, bc, n, y, ca, cuts.length, cc⟩).toArray 36 (0, 0)) := by rw [← hw0]; exact heap_alloc_new w _
  have HB := hid (hB.below hb0)
  have HBS := hid (show base ≤ w0.heap.size from Nat.le_trans hbase hb0.size)
  have HLF := hid (fun k (hk : Fs k) => hB.fs.ltF hk)
  have HLR := hid (fun k (hk : Gr k) => hB.rf.ltF hk)
  have HBW := hid (show Below base w w0 from (hb0.mono hbase))
  have HW0 := hid (show w.alloc (.cells #[.int .i64 8, .string nm, .string tt, .slice ba bn bc, .int .i64 n, bcell y, .slice ca cuts.length cc] 36) = w0 from hw0)
  have HS9 := hid h9
  have k0 : w0.cell? ⟨w.heap.size, 0, none⟩ = some (.int .i64 8) := cell_of_heap (w := w0) h9 0
  have k1 : w0.cell? ⟨w.heap.size, 1, none⟩ = some (.string nm) := cell_of_heap (w := w0) h9 1
  have k4 : w0.cell? ⟨w.heap.size, 4, none⟩ = some (.int .i64 n) := cell_of_heap (w := w0) h9 4
  have k6 : w0.cell? ⟨w.heap.size, 6, none⟩ = some (.slice ca cuts.length cc) := cell_of_heap (w := w0) h9 6
  clear hw0 hb0 h9
  have HROW := hid hrow
  have HUR := hid (r06Up_ok w0 HB.out.rf (by have := HB.out.fewr.b; omega) (by have := HB.out.fewr.b; omega) (by have := HB.out.fewr.c; omega) n ca cc cuts (row_base hrow HBW.out (fun k hk => HB.out.b2 k hk)))
  clear hrow
  go_enter Tryz.func8, Tryz.ntmps8
  go_wp2_with fail
  rw [HW0.out]
  refine HUR.out.mono ?_
  rintro e w1 ⟨rfl, F1, D1, hs1, ht1⟩
  obtain ⟨hb1, hbl1⟩ := HB.out.stepR HBS.out hs1 ht1 (N' := N + 3) (HB.out.fewr.rup n cuts) (by omega)
  have hh1 := ht1.fr.heap HS9.out (fun hF => by have := HLR.out _ hF; have := Nat.le_of_lt_succ (Nat.lt_succ_of_lt this); exact absurd this (by omega))
  have k4 : w1.cell? ⟨w.heap.size, 4, none⟩ = some (.int .i64 n) := cell_of_heap hh1 4
  have k6 : w1.cell? ⟨w.heap.size, 6, none⟩ = some (.slice ca cuts.length cc) := cell_of_heap hh1 6
  have HB1 := hid hb1
  have HL1 := hid hbl1
  have HZ1 := hid (show base ≤ w1.heap.size from Nat.le_trans HBS.out ht1.fr.size)
  have HUS := hid (fsUp_ok w1 hb1.fs (by have := hb1.few.b; omega) n (by have := (hb1.few.settle (upN st n)).b; omega) (row_base HROW.out (Below.trans HBW.out hbl1) (fun k hk => hb1.b1 k hk)))
  clear hb1 hbl1 hs1 ht1 hh1
  go_wp2_with fail
  refine HUS.out.mono ?_
  rintro e w2 ⟨rfl, F2, D2, hs2, ht2⟩
  obtain ⟨hb2, hbl2⟩ := HB1.out.stepS HZ1.out hs2 ht2 (N' := N + 3) ((HB1.out.few.upF n cuts).up (by omega)) (Nat.le_refl _)
  have HB2 := hid hb2
  have HBL := hid (Below.trans HL1.out hbl2)
  clear hb2 hbl2 hs2 ht2
  go_wp2
  go_ret
  exact ⟨_, _, rfl, (show SRelX st 8 nm tt ys n y cuts _ from by rfl), ⟨_, _, _, _, HB2.out⟩, Below.trans HBW.out HBL.out⟩
end Go.Proofs.YtgehalfnpbjjcaaGreat
