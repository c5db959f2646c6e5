/- hayloftlaw06: Step, of the calls of kinds below 8: what it makes of both file systems. -/
import Derived.Test.YtgehalfnpbjjcaaGreatStepP
import Derived.Test.YtgehalfnpbjjcaaGreatSimulP
import Derived.Test.YtgehalfnpbjjcaaGreatLight
import Derived.Test.YtgehalfnpbjjcaaGreatAlive06
import Derived.Test.YtgehalfnpbjjcaaGreatSimF
import Derived.Test.YtgehalfnpbjjcaaGreatRefBytes
namespace Go.Proofs.YtgehalfnpbjjcaaGreat
open Go Go.RowKit Go.Sort
/-- Both file systems, in blocks of their own from base on. -/
structure Both (base : Nat) (w : World) (Fs Ds : Nat → Prop) (sb : Nat) (st : FSt) (Gr Er : Nat → Prop) (rb : Nat) (rs : RSt) (N : Nat) : Prop where
  fs : FSr w Fs Ds sb st
  rf : RSr w Gr Er rb rs
  apart : ∀ k, Ds k → ¬ Er k
  b1 : ∀ k, Fs k → base ≤ k
  b2 : ∀ k, Gr k → base ≤ k
  few : FewS st N
  fewr : FewR rs N
theorem FSr.fsub {w : World} {F D : Nat → Prop} {sb : Nat} {st : FSt} (h : FSr w F D sb st) {k : Nat} (hk : F k) : D k := by
  obtain ⟨m1, m2, ca, cc, ho⟩ := h.lies
  exact ho.sub k hk
theorem RSr.rsub {w : World} {F D : Nat → Prop} {rb : Nat} {st : RSt} (h : RSr w F D rb st) {k : Nat} (hk : F k) : D k := by
  obtain ⟨fs, vf, vs, va, vc, he, hb, hh⟩ := h.lies
  exact hb.sub k hk
theorem below_of_fr {base : Nat} {w w' : World} {S : Nat → Prop} (h : Fr S w w') (hb : base ≤ w.heap.size) (hs : ∀ k, S k → base ≤ k) : Below base w w' := ⟨h.os, h.tape, h.output, h.size, fun i hi => h.block i (by omega) (fun hS => by have := hs i hS; omega)⟩
theorem bs_base {base : Nat} {w W : World} {v : Value} {ys : List UInt8} (h : Bs (fun k => base ≤ k) w v ys) (hW : Below base w W) {G : Nat → Prop} (hG : ∀ k, G k → base ≤ k) : Bs G W v ys := by
  obtain ⟨a, c, h1, h2, h3, h4⟩ := h
  refine ⟨a, c, h1, h2, h3, h4.imp id ?_⟩
  rintro ⟨b, off, e1, e2, e3, e4⟩
  have hlt : b < base := Nat.lt_of_not_le e3
  have hf : Fr (fun k => base ≤ k) w W := ⟨hW.os, hW.tape, hW.output, hW.size, fun i _ hi => hW.block i (Nat.lt_of_not_le hi)⟩
  exact ⟨b, off, e1, Nat.lt_of_lt_of_le e2 hW.size, fun hg => by have := hG b hg; omega, fun i y hy => (hf.cell (p := ⟨b, off + i, none⟩) e2 e3).trans (e4 i y hy)⟩
section
variable {base : Nat} {w w' : World} {Fs Ds Gr Er : Nat → Prop} {sb rb N N' : Nat} {st st' : FSt} {rs rs' : RSt}
theorem Both.fsub (h : Both base w Fs Ds sb st Gr Er rb rs N) (k : Nat) (hk : Fs k) : Ds k := h.fs.fsub hk
theorem Both.rsub (h : Both base w Fs Ds sb st Gr Er rb rs N) (k : Nat) (hk : Gr k) : Er k := h.rf.rsub hk
theorem Both.below (h : Both base w Fs Ds sb st Gr Er rb rs N) (hb : Below w.heap.size w w') : Both base w' Fs Ds sb st Gr Er rb rs N := ⟨h.fs.below hb, h.rf.below hb, h.apart, h.b1, h.b2, h.few, h.fewr⟩
theorem Both.stepS (h : Both base w Fs Ds sb st Gr Er rb rs N) (hb : base ≤ w.heap.size) {F' D' : Nat → Prop} (h' : FSr w' F' D' sb st') (t : Turn Fs Ds F' D' w w') (hf : FewS st' N') (hN : N ≤ N') : Both base w' F' D' sb st' Gr Er rb rs N' ∧ Below base w w' :=
  ⟨⟨h', h.rf.fr t.fr (fun k hk hF => h.apart k (h.fsub k hF) hk), fun k hk hE => (t.fD k hk).elim (fun hD => h.apart k hD hE) (fun hn => by have := h.rf.lt k hE; omega), fun k hk => (t.fF k hk).elim (h.b1 k) (fun hn => by omega), h.b2, hf, h.fewr.up hN⟩, below_of_fr t.fr hb (fun k hk => h.b1 k hk)⟩
theorem Both.stepR (h : Both base w Fs Ds sb st Gr Er rb rs N) (hb : base ≤ w.heap.size) {G' E' : Nat → Prop} (h' : RSr w' G' E' rb rs') (t : Turn Gr Er G' E' w w') (hf : FewR rs' N') (hN : N ≤ N') : Both base w' Fs Ds sb st G' E' rb rs' N' ∧ Below base w w' :=
  ⟨⟨h.fs.fr t.fr (fun k hk hG => h.apart k hk (h.rsub k hG)), h', fun k hk hE => (t.fD k hE).elim (h.apart k hk) (fun hn => by have := h.fs.lt k hk; omega), h.b1, fun k hk => (t.fF k hk).elim (h.b2 k) (fun hn => by omega), h.few.up hN, hf⟩, below_of_fr t.fr hb (fun k hk => h.b2 k hk)⟩
end
/-- What Step answers, and what it leaves. -/
def Two (base : Nat) (w : World) (sb rb : Nat) (st : FSt) (N : Nat) : Prop := ∃ Fs Ds Gr Er rs, Both base w Fs Ds sb st Gr Er rb rs N
def Two2 (base : Nat) (w : World) (sb rb : Nat) (st : FSt) (rs : RSt) (N : Nat) : Prop := ∃ Fs Ds Gr Er, Both base w Fs Ds sb st Gr Er rb rs N
theorem Two2.two {base : Nat} {w : World} {sb rb N : Nat} {st : FSt} {rs : RSt} (h : Two2 base w sb rb st rs N) : Two base w sb rb st N := by
  obtain ⟨a, b, c, d, h⟩ := h
  exact ⟨a, b, c, d, rs, h⟩
theorem SRelX.low {st st' : FSt} {k : Int} {nm to : ByteArray} {b : List UInt8} {n : Int} {u : UInt8} {cuts : List Int} (h : SRelX st k nm to b n u cuts st') (hk : k < 8) : SRel st k nm to b n st' := by
  unfold SRelX at h
  rwa [if_neg (by omega), if_neg (by omega)] at h
def StepR (base sb rb : Nat) (st : FSt) (rs : RSt) (N : Nat) (k : Int) (nm tt : ByteArray) (ys : List UInt8) (n : Int) (u : UInt8) (cuts : List Int) (w : World) (e : Ending) (w' : World) : Prop := ∃ (b : Bool) (st' : FSt), e = .returned (.bool b) ∧ SRelX st k nm tt ys n u cuts st' ∧ Two2 base w' sb rb st' (rop rs k nm tt ys n u cuts) (N + 3) ∧ Below base w w'
set_option maxHeartbeats 2000000 in
set_option maxRecDepth 100000 in
theorem step0_ok {base : Nat} {w : World} {Fs Ds Gr Er : Nat → Prop} {sb rb N : Nat} {st : FSt} {rs : RSt} (hB : Both base w Fs Ds sb st Gr Er rb rs N) (hN : N ≤ 900000) (hbase : base ≤ w.heap.size) (nm tt : ByteArray) (ba : Option Addr) (bn bc : Nat) (n : Int) (y : UInt8) (ca : Option Addr) (cn cc : Nat) (cuts : List Int) (ys : List UInt8) (_hys : ys.length ≤ 200) (hyb : Bs (fun k => base ≤ k) w (.slice ba bn bc) ys) :
    Calls Tryz.prog 8 #[.pointer (some ⟨sb, 0, none⟩), .pointer (some ⟨rb, 0, none⟩), .agg #[.int .i64 0, .string nm, .string tt, .slice ba bn bc, .int .i64 n, bcell y, .slice ca cn cc]] w fun e w' => StepR base sb rb st rs N 0 nm tt ys n y cuts w e w' := by
  have mixed : Tryz.prog.follows .mixedOrders = true := by kernel_rfl
  obtain ⟨w0, hw0⟩ : ∃ w0, w.alloc (.cells (opC ⟨0, nm, tt, ba, bn, bc, n, y, ca, cn, cc⟩).toArray 36) = w0 := ⟨_, rfl⟩
  have hb0 : Below w.heap.size w w0 := by rw [← hw0]; exact (Below.refl _ _).alloc (Nat.le_refl _) _
  have hS0 : w0.drew.heap[w.heap.size]? = some (.cells (opC ⟨0, nm, tt, ba, bn, bc, n, y, ca, cn, cc⟩).toArray 36 (0, 0)) := by
    have h9 : w0.heap[w.heap.size]? = some (.cells (opC ⟨0, nm, tt, ba, bn, bc, n, y, ca, cn, cc⟩).toArray 36 (0, 0)) := by rw [← hw0]; exact heap_alloc_new w _
    exact h9
  have HB := hid ((hB.below hb0).below ((Below.refl _ w0).drew))
  have HBS := hid (show base ≤ w0.drew.heap.size from Nat.le_trans hbase hb0.size)
  have HLF := hid (fun k (hk : Fs k) => hB.fs.ltF hk)
  have HLR := hid (fun k (hk : Gr k) => hB.rf.ltF hk)
  have HBW := hid (show Below base w w0.drew from (hb0.mono hbase).drew)
  have HYS := hid (show ∀ W, Below base w W → ∀ {G : Nat → Prop}, (∀ k, G k → base ≤ k) → Bs G W (.slice ba bn bc) ys from fun W hW G hG => bs_base hyb hW hG)
  have HW0 := hid (show w.alloc (.cells #[.int .i64 0, .string nm, .string tt, .slice ba bn bc, .int .i64 n, bcell y, .slice ca cn cc] 36) = w0 from hw0)
  have FA1 := hid (show ∀ W, (Instr.fieldAt 36 (.pointer (some ⟨w.heap.size, 0, none⟩)) 1).run Tryz.prog W = .ok (.pointer (some ⟨w.heap.size, 1, none⟩)) W from fun W => by go_simp)
  have FA2 := hid (show ∀ W, (Instr.fieldAt 36 (.pointer (some ⟨w.heap.size, 0, none⟩)) 2).run Tryz.prog W = .ok (.pointer (some ⟨w.heap.size, 2, none⟩)) W from fun W => by go_simp)
  have FA3 := hid (show ∀ W, (Instr.fieldAt 36 (.pointer (some ⟨w.heap.size, 0, none⟩)) 3).run Tryz.prog W = .ok (.pointer (some ⟨w.heap.size, 3, none⟩)) W from fun W => by go_simp)
  have FA4 := hid (show ∀ W, (Instr.fieldAt 36 (.pointer (some ⟨w.heap.size, 0, none⟩)) 4).run Tryz.prog W = .ok (.pointer (some ⟨w.heap.size, 4, none⟩)) W from fun W => by go_simp)
  have LD1 := hid (show ∀ W, W.heap[w.heap.size]? = some (.cells (opC ⟨0, nm, tt, ba, bn, bc, n, y, ca, cn, cc⟩).toArray 36 (0, 0)) → (Instr.loadAt 9 (.pointer (some ⟨w.heap.size, 1, none⟩))).run Tryz.prog W = .ok (.string nm) W from fun W hW => by have hc : W.cell? ⟨w.heap.size, 1, none⟩ = some (.string nm) := cell_of_heap hW 1; clear hW; go_simp)
  have LD2 := hid (show ∀ W, W.heap[w.heap.size]? = some (.cells (opC ⟨0, nm, tt, ba, bn, bc, n, y, ca, cn, cc⟩).toArray 36 (0, 0)) → (Instr.loadAt 9 (.pointer (some ⟨w.heap.size, 2, none⟩))).run Tryz.prog W = .ok (.string tt) W from fun W hW => by have hc : W.cell? ⟨w.heap.size, 2, none⟩ = some (.string tt) := cell_of_heap hW 2; clear hW; go_simp)
  have LD3 := hid (show ∀ W, W.heap[w.heap.size]? = some (.cells (opC ⟨0, nm, tt, ba, bn, bc, n, y, ca, cn, cc⟩).toArray 36 (0, 0)) → (Instr.loadAt 33 (.pointer (some ⟨w.heap.size, 3, none⟩))).run Tryz.prog W = .ok (.slice ba bn bc) W from fun W hW => ldb W (cell_of_heap hW 3))
  have LD4 := hid (show ∀ W, W.heap[w.heap.size]? = some (.cells (opC ⟨0, nm, tt, ba, bn, bc, n, y, ca, cn, cc⟩).toArray 36 (0, 0)) → (Instr.loadAt 3 (.pointer (some ⟨w.heap.size, 4, none⟩))).run Tryz.prog W = .ok (.int .i64 n) W from fun W hW => ldi W (cell_of_heap hW 4))
  have PEQ := hid (show ∀ (a b : Int) W, (binOp .eql 26 (.int .i64 a) (.int .i64 b)).run Tryz.prog W = .ok (.bool (a == b)) W from fun a b W => by go_simp)
  have k0 : w0.cell? ⟨w.heap.size, 0, none⟩ = some (.int .i64 0) := cell_of_heap (w := w0) hS0 0
  clear hw0 hb0 hyb
  go_enter Tryz.func8, Tryz.ntmps8
  go_wp2_with fail
  rw [HW0.out]
  refine hg_start (fun W => W.heap[w.heap.size]? = some (.cells (opC ⟨0, nm, tt, ba, bn, bc, n, y, ca, cn, cc⟩).toArray 36 (0, 0))) 99 mixed ?_
  refine hgt 0 17 kMove (.tmp 0) (.pointer (some ⟨sb, 0, none⟩)) (by kernel_rfl) (by kernel_rfl) (by kernel_rfl) (by kernel_rfl) (by exact fun _ _ _ h => h) (by kernel_rfl) (by kernel_rfl) hS0 (fun o w' ho hs => ex_move ho (by kernel_rfl)) ?_
  refine hgt 1 18 kFA (36, .tmp 5, 1) (.pointer (some ⟨w.heap.size, 1, none⟩)) (by kernel_rfl) (by kernel_rfl) (by kernel_rfl) (by kernel_rfl) (by exact fun _ _ _ h => h) (by kernel_rfl) (by kernel_rfl) hS0 (fun o w' ho hs => ex_fa ho (by kernel_rfl) (FA1.out _)) ?_
  refine hgt 2 19 kLoad (9, .tmp 18) (.string nm) (by kernel_rfl) (by kernel_rfl) (by kernel_rfl) (by kernel_rfl) (by exact fun _ _ _ h => h) (by kernel_rfl) (by kernel_rfl) hS0 (fun o w' ho hs => ex_load ho (by kernel_rfl) (LD1.out _ hs)) ?_
  refine hgt 4 21 kMove (.tmp 1) (.pointer (some ⟨rb, 0, none⟩)) (by kernel_rfl) (by kernel_rfl) (by kernel_rfl) (by kernel_rfl) (by exact fun _ _ _ h => h) (by kernel_rfl) (by kernel_rfl) hS0 (fun o w' ho hs => ex_move ho (by kernel_rfl)) ?_
  refine hgt 5 22 kFA (36, .tmp 5, 1) (.pointer (some ⟨w.heap.size, 1, none⟩)) (by kernel_rfl) (by kernel_rfl) (by kernel_rfl) (by kernel_rfl) (by exact fun _ _ _ h => h) (by kernel_rfl) (by kernel_rfl) hS0 (fun o w' ho hs => ex_fa ho (by kernel_rfl) (FA1.out _)) ?_
  refine hgt 6 23 kLoad (9, .tmp 22) (.string nm) (by kernel_rfl) (by kernel_rfl) (by kernel_rfl) (by kernel_rfl) (by exact fun _ _ _ h => h) (by kernel_rfl) (by kernel_rfl) hS0 (fun o w' ho hs => ex_load ho (by kernel_rfl) (LD1.out _ hs)) ?_
  refine hg1 3 (by kernel_rfl) ?_
  refine hg_call 20 13 [.tmp 17, .tmp 19] [.pointer (some ⟨sb, 0, none⟩), .string nm] (by kernel_rfl) (by kernel_rfl) (enters_of Tryz.func13 rfl rfl) (fsCreate_ok w0.drew HB.out.fs (by have := HB.out.few.b; omega) nm) ?_
  rintro e w1 ⟨p, hp, rfl, F1, D1, hs1, ht1⟩
  obtain ⟨hb1, hbl1⟩ := HB.out.stepS HBS.out hs1 ht1 (N' := N + 3) ((FewS.rel HB.out.few (show SRel st 0 nm tt ys n _ from ⟨p, hp, rfl⟩)).up (by omega)) (by omega)
  have hS1 := ht1.fr.heap hS0 (fun hF => by have := HLF.out _ hF; omega)
  obtain ⟨xs, hxs⟩ : ∃ xs, (createF st nm p).2 = xs := ⟨_, rfl⟩
  rw [hxs]
  refine ⟨_, rfl, .inr hS1, ?_⟩
  refine hg1 7 (by kernel_rfl) ?_
  refine hg_call 24 18 [.tmp 21, .tmp 23] [.pointer (some ⟨rb, 0, none⟩), .string nm] (by kernel_rfl) (by kernel_rfl) (enters_of Tryz.func18 rfl rfl) (r06Create_ok w1 hb1.rf (by have := hb1.fewr.a; omega) (by have := hb1.fewr.b; omega) (by have := hb1.fewr.c; omega) nm) ?_
  rintro e w2 ⟨rfl, F2, D2, hs2, ht2⟩
  obtain ⟨hb2, hbl2⟩ := hb1.stepR (Nat.le_trans HBS.out ht1.fr.size) hs2 ht2 (N' := N + 3) (HB.out.fewr.create nm) (Nat.le_refl _)
  have hS2 := ht2.fr.heap hS1 (fun hF => by have := HLR.out _ hF; omega)
  obtain ⟨xr, hxr⟩ : ∃ xr, (rcreate rs nm).2 = xr := ⟨_, rfl⟩
  rw [hxr]
  refine ⟨_, rfl, .inr hS2, ?_⟩
  refine hg1 8 (by kernel_rfl) ?_
  refine hg_val 25 kBin (.eql, 26, .tmp 20, .tmp 24) (.bool (xs == xr)) (by kernel_rfl) (fun o ho => ex_bin (vx := .int .i64 xs) (vy := .int .i64 xr) ho (by kernel_rfl) (by kernel_rfl) rfl (PEQ.out xs xr _)) (.inr hS2) ?_
  refine hg1 9 (by kernel_rfl) ?_
  refine hg_val 6 kAssign (.tmp 25) (.bool (xs == xr)) (by kernel_rfl) (fun o ho => ex_assign ho (by kernel_rfl)) (.inr hS2) ?_
  refine hg_done (by kernel_rfl) ?_
  have HREL := hid (show SRelX st 0 nm tt ys n y cuts _ from ⟨p, hp, rfl⟩)
  have HB2 := hid hb2
  have HBL := hid (Below.trans hbl1 hbl2)
  clear hb1 hb2 hbl1 hbl2 hs1 hs2 ht1 ht2 hS0 hS1 hS2
  go_wp2
  go_ret
  refine ⟨xs == xr, _, ?_, HREL.out, ⟨_, _, _, _, HB2.out⟩, Below.trans HBW.out HBL.out⟩
  kernel_rfl
set_option maxHeartbeats 2000000 in
set_option maxRecDepth 100000 in
theorem step1_ok {base : Nat} {w : World} {Fs Ds Gr Er : Nat → Prop} {sb rb N : Nat} {st : FSt} {rs : RSt} (hB : Both base w Fs Ds sb st Gr Er rb rs N) (hN : N ≤ 900000) (hbase : base ≤ w.heap.size) (nm tt : ByteArray) (ba : Option Addr) (bn bc : Nat) (n : Int) (y : UInt8) (ca : Option Addr) (cn cc : Nat) (cuts : List Int) (ys : List UInt8) (hys : ys.length ≤ 200) (hyb : Bs (fun k => base ≤ k) w (.slice ba bn bc) ys) :
    Calls Tryz.prog 8 #[.pointer (some ⟨sb, 0, none⟩), .pointer (some ⟨rb, 0, none⟩), .agg #[.int .i64 1, .string nm, .string tt, .slice ba bn bc, .int .i64 n, bcell y, .slice ca cn cc]] w fun e w' => StepR base sb rb st rs N 1 nm tt ys n y cuts w e w' := by
  have mixed : Tryz.prog.follows .mixedOrders = true := by kernel_rfl
  obtain ⟨w0, hw0⟩ : ∃ w0, w.alloc (.cells (opC ⟨1, nm, tt, ba, bn, bc, n, y, ca, cn, cc⟩).toArray 36) = w0 := ⟨_, rfl⟩
  have hb0 : Below w.heap.size w w0 := by rw [← hw0]; exact (Below.refl _ _).alloc (Nat.le_refl _) _
  have hS0 : w0.drew.heap[w.heap.size]? = some (.cells (opC ⟨1, nm, tt, ba, bn, bc, n, y, ca, cn, cc⟩).toArray 36 (0, 0)) := by
    have h9 : w0.heap[w.heap.size]? = some (.cells (opC ⟨1, nm, tt, ba, bn, bc, n, y, ca, cn, cc⟩).toArray 36 (0, 0)) := by rw [← hw0]; exact heap_alloc_new w _
    exact h9
  have HB := hid ((hB.below hb0).below ((Below.refl _ w0).drew))
  have HBS := hid (show base ≤ w0.drew.heap.size from Nat.le_trans hbase hb0.size)
  have HLF := hid (fun k (hk : Fs k) => hB.fs.ltF hk)
  have HLR := hid (fun k (hk : Gr k) => hB.rf.ltF hk)
  have HBW := hid (show Below base w w0.drew from (hb0.mono hbase).drew)
  have HYS := hid (show ∀ W, Below base w W → ∀ {G : Nat → Prop}, (∀ k, G k → base ≤ k) → Bs G W (.slice ba bn bc) ys from fun W hW G hG => bs_base hyb hW hG)
  have HW0 := hid (show w.alloc (.cells #[.int .i64 1, .string nm, .string tt, .slice ba bn bc, .int .i64 n, bcell y, .slice ca cn cc] 36) = w0 from hw0)
  have FA1 := hid (show ∀ W, (Instr.fieldAt 36 (.pointer (some ⟨w.heap.size, 0, none⟩)) 1).run Tryz.prog W = .ok (.pointer (some ⟨w.heap.size, 1, none⟩)) W from fun W => by go_simp)
  have FA2 := hid (show ∀ W, (Instr.fieldAt 36 (.pointer (some ⟨w.heap.size, 0, none⟩)) 2).run Tryz.prog W = .ok (.pointer (some ⟨w.heap.size, 2, none⟩)) W from fun W => by go_simp)
  have FA3 := hid (show ∀ W, (Instr.fieldAt 36 (.pointer (some ⟨w.heap.size, 0, none⟩)) 3).run Tryz.prog W = .ok (.pointer (some ⟨w.heap.size, 3, none⟩)) W from fun W => by go_simp)
  have FA4 := hid (show ∀ W, (Instr.fieldAt 36 (.pointer (some ⟨w.heap.size, 0, none⟩)) 4).run Tryz.prog W = .ok (.pointer (some ⟨w.heap.size, 4, none⟩)) W from fun W => by go_simp)
  have LD1 := hid (show ∀ W, W.heap[w.heap.size]? = some (.cells (opC ⟨1, nm, tt, ba, bn, bc, n, y, ca, cn, cc⟩).toArray 36 (0, 0)) → (Instr.loadAt 9 (.pointer (some ⟨w.heap.size, 1, none⟩))).run Tryz.prog W = .ok (.string nm) W from fun W hW => by have hc : W.cell? ⟨w.heap.size, 1, none⟩ = some (.string nm) := cell_of_heap hW 1; clear hW; go_simp)
  have LD2 := hid (show ∀ W, W.heap[w.heap.size]? = some (.cells (opC ⟨1, nm, tt, ba, bn, bc, n, y, ca, cn, cc⟩).toArray 36 (0, 0)) → (Instr.loadAt 9 (.pointer (some ⟨w.heap.size, 2, none⟩))).run Tryz.prog W = .ok (.string tt) W from fun W hW => by have hc : W.cell? ⟨w.heap.size, 2, none⟩ = some (.string tt) := cell_of_heap hW 2; clear hW; go_simp)
  have LD3 := hid (show ∀ W, W.heap[w.heap.size]? = some (.cells (opC ⟨1, nm, tt, ba, bn, bc, n, y, ca, cn, cc⟩).toArray 36 (0, 0)) → (Instr.loadAt 33 (.pointer (some ⟨w.heap.size, 3, none⟩))).run Tryz.prog W = .ok (.slice ba bn bc) W from fun W hW => ldb W (cell_of_heap hW 3))
  have LD4 := hid (show ∀ W, W.heap[w.heap.size]? = some (.cells (opC ⟨1, nm, tt, ba, bn, bc, n, y, ca, cn, cc⟩).toArray 36 (0, 0)) → (Instr.loadAt 3 (.pointer (some ⟨w.heap.size, 4, none⟩))).run Tryz.prog W = .ok (.int .i64 n) W from fun W hW => ldi W (cell_of_heap hW 4))
  have PEQ := hid (show ∀ (a b : Int) W, (binOp .eql 26 (.int .i64 a) (.int .i64 b)).run Tryz.prog W = .ok (.bool (a == b)) W from fun a b W => by go_simp)
  have k0 : w0.cell? ⟨w.heap.size, 0, none⟩ = some (.int .i64 1) := cell_of_heap (w := w0) hS0 0
  clear hw0 hb0 hyb
  go_enter Tryz.func8, Tryz.ntmps8
  go_wp2_with fail
  rw [HW0.out]
  refine hg_start (fun W => W.heap[w.heap.size]? = some (.cells (opC ⟨1, nm, tt, ba, bn, bc, n, y, ca, cn, cc⟩).toArray 36 (0, 0))) 99 mixed ?_
  refine hgt 0 28 kMove (.tmp 0) (.pointer (some ⟨sb, 0, none⟩)) (by kernel_rfl) (by kernel_rfl) (by kernel_rfl) (by kernel_rfl) (by exact fun _ _ _ h => h) (by kernel_rfl) (by kernel_rfl) hS0 (fun o w' ho hs => ex_move ho (by kernel_rfl)) ?_
  refine hgt 1 29 kFA (36, .tmp 5, 1) (.pointer (some ⟨w.heap.size, 1, none⟩)) (by kernel_rfl) (by kernel_rfl) (by kernel_rfl) (by kernel_rfl) (by exact fun _ _ _ h => h) (by kernel_rfl) (by kernel_rfl) hS0 (fun o w' ho hs => ex_fa ho (by kernel_rfl) (FA1.out _)) ?_
  refine hgt 2 30 kLoad (9, .tmp 29) (.string nm) (by kernel_rfl) (by kernel_rfl) (by kernel_rfl) (by kernel_rfl) (by exact fun _ _ _ h => h) (by kernel_rfl) (by kernel_rfl) hS0 (fun o w' ho hs => ex_load ho (by kernel_rfl) (LD1.out _ hs)) ?_
  refine hgt 3 31 kFA (36, .tmp 5, 3) (.pointer (some ⟨w.heap.size, 3, none⟩)) (by kernel_rfl) (by kernel_rfl) (by kernel_rfl) (by kernel_rfl) (by exact fun _ _ _ h => h) (by kernel_rfl) (by kernel_rfl) hS0 (fun o w' ho hs => ex_fa ho (by kernel_rfl) (FA3.out _)) ?_
  refine hgt 4 32 kLoad (33, .tmp 31) (.slice ba bn bc) (by kernel_rfl) (by kernel_rfl) (by kernel_rfl) (by kernel_rfl) (by exact fun _ _ _ h => h) (by kernel_rfl) (by kernel_rfl) hS0 (fun o w' ho hs => ex_load ho (by kernel_rfl) (LD3.out _ hs)) ?_
  refine hgt 6 34 kMove (.tmp 1) (.pointer (some ⟨rb, 0, none⟩)) (by kernel_rfl) (by kernel_rfl) (by kernel_rfl) (by kernel_rfl) (by exact fun _ _ _ h => h) (by kernel_rfl) (by kernel_rfl) hS0 (fun o w' ho hs => ex_move ho (by kernel_rfl)) ?_
  refine hgt 7 35 kFA (36, .tmp 5, 1) (.pointer (some ⟨w.heap.size, 1, none⟩)) (by kernel_rfl) (by kernel_rfl) (by kernel_rfl) (by kernel_rfl) (by exact fun _ _ _ h => h) (by kernel_rfl) (by kernel_rfl) hS0 (fun o w' ho hs => ex_fa ho (by kernel_rfl) (FA1.out _)) ?_
  refine hgt 8 36 kLoad (9, .tmp 35) (.string nm) (by kernel_rfl) (by kernel_rfl) (by kernel_rfl) (by kernel_rfl) (by exact fun _ _ _ h => h) (by kernel_rfl) (by kernel_rfl) hS0 (fun o w' ho hs => ex_load ho (by kernel_rfl) (LD1.out _ hs)) ?_
  refine hgt 9 37 kFA (36, .tmp 5, 3) (.pointer (some ⟨w.heap.size, 3, none⟩)) (by kernel_rfl) (by kernel_rfl) (by kernel_rfl) (by kernel_rfl) (by exact fun _ _ _ h => h) (by kernel_rfl) (by kernel_rfl) hS0 (fun o w' ho hs => ex_fa ho (by kernel_rfl) (FA3.out _)) ?_
  refine hgt 10 38 kLoad (33, .tmp 37) (.slice ba bn bc) (by kernel_rfl) (by kernel_rfl) (by kernel_rfl) (by kernel_rfl) (by exact fun _ _ _ h => h) (by kernel_rfl) (by kernel_rfl) hS0 (fun o w' ho hs => ex_load ho (by kernel_rfl) (LD3.out _ hs)) ?_
  refine hg1 5 (by kernel_rfl) ?_
  refine hg_call 33 14 [.tmp 28, .tmp 30, .tmp 32] [.pointer (some ⟨sb, 0, none⟩), .string nm, .slice ba bn bc] (by kernel_rfl) (by kernel_rfl) (enters_of Tryz.func14 rfl rfl) (fsAppend_ok w0.drew HB.out.fs (by have := HB.out.few.a; omega) nm (.slice ba bn bc) ys (HYS.out w0.drew HBW.out (fun k hk => HB.out.b1 k hk)) (by omega)) ?_
  rintro e w1 ⟨rfl, F1, D1, hs1, ht1⟩
  obtain ⟨hb1, hbl1⟩ := HB.out.stepS HBS.out hs1 ht1 (N' := N + 3) ((FewS.rel HB.out.few (show SRel st 1 nm tt ys n _ from by rfl)).up (by omega)) (by omega)
  have hS1 := ht1.fr.heap hS0 (fun hF => by have := HLF.out _ hF; omega)
  obtain ⟨xs, hxs⟩ : ∃ xs, (appendF st nm ys).2 = xs := ⟨_, rfl⟩
  rw [hxs]
  refine ⟨_, rfl, .inr hS1, ?_⟩
  refine hg1 11 (by kernel_rfl) ?_
  refine hg_call 39 19 [.tmp 34, .tmp 36, .tmp 38] [.pointer (some ⟨rb, 0, none⟩), .string nm, .slice ba bn bc] (by kernel_rfl) (by kernel_rfl) (enters_of Tryz.func19 rfl rfl) (r06Append_ok w1 hb1.rf (by have := hb1.fewr.a; omega) nm (.slice ba bn bc) ys (HYS.out w1 (Below.trans HBW.out hbl1) (fun k hk => HB.out.b2 k hk)) (by omega)) ?_
  rintro e w2 ⟨rfl, F2, D2, hs2, ht2⟩
  obtain ⟨hb2, hbl2⟩ := hb1.stepR (Nat.le_trans HBS.out ht1.fr.size) hs2 ht2 (N' := N + 3) (HB.out.fewr.append nm ys) (Nat.le_refl _)
  have hS2 := ht2.fr.heap hS1 (fun hF => by have := HLR.out _ hF; omega)
  obtain ⟨xr, hxr⟩ : ∃ xr, (rappend rs nm ys).2 = xr := ⟨_, rfl⟩
  rw [hxr]
  refine ⟨_, rfl, .inr hS2, ?_⟩
  refine hg1 12 (by kernel_rfl) ?_
  refine hg_val 40 kBin (.eql, 26, .tmp 33, .tmp 39) (.bool (xs == xr)) (by kernel_rfl) (fun o ho => ex_bin (vx := .int .i64 xs) (vy := .int .i64 xr) ho (by kernel_rfl) (by kernel_rfl) rfl (PEQ.out xs xr _)) (.inr hS2) ?_
  refine hg1 13 (by kernel_rfl) ?_
  refine hg_val 6 kAssign (.tmp 40) (.bool (xs == xr)) (by kernel_rfl) (fun o ho => ex_assign ho (by kernel_rfl)) (.inr hS2) ?_
  refine hg_done (by kernel_rfl) ?_
  have HREL := hid (show SRelX st 1 nm tt ys n y cuts _ from by rfl)
  have HB2 := hid hb2
  have HBL := hid (Below.trans hbl1 hbl2)
  clear hb1 hb2 hbl1 hbl2 hs1 hs2 ht1 ht2 hS0 hS1 hS2
  go_wp2
  go_ret
  refine ⟨xs == xr, _, ?_, HREL.out, ⟨_, _, _, _, HB2.out⟩, Below.trans HBW.out HBL.out⟩
  kernel_rfl
set_option maxHeartbeats 2000000 in
set_option maxRecDepth 100000 in
theorem step3_ok {base : Nat} {w : World} {Fs Ds Gr Er : Nat → Prop} {sb rb N : Nat} {st : FSt} {rs : RSt} (hB : Both base w Fs Ds sb st Gr Er rb rs N) (hN : N ≤ 900000) (hbase : base ≤ w.heap.size) (nm tt : ByteArray) (ba : Option Addr) (bn bc : Nat) (n : Int) (y : UInt8) (ca : Option Addr) (cn cc : Nat) (cuts : List Int) (ys : List UInt8) (_hys : ys.length ≤ 200) (hyb : Bs (fun k => base ≤ k) w (.slice ba bn bc) ys) :
    Calls Tryz.prog 8 #[.pointer (some ⟨sb, 0, none⟩), .pointer (some ⟨rb, 0, none⟩), .agg #[.int .i64 3, .string nm, .string tt, .slice ba bn bc, .int .i64 n, bcell y, .slice ca cn cc]] w fun e w' => StepR base sb rb st rs N 3 nm tt ys n y cuts w e w' := by
  have mixed : Tryz.prog.follows .mixedOrders = true := by kernel_rfl
  obtain ⟨w0, hw0⟩ : ∃ w0, w.alloc (.cells (opC ⟨3, nm, tt, ba, bn, bc, n, y, ca, cn, cc⟩).toArray 36) = w0 := ⟨_, rfl⟩
  have hb0 : Below w.heap.size w w0 := by rw [← hw0]; exact (Below.refl _ _).alloc (Nat.le_refl _) _
  have hS0 : w0.drew.heap[w.heap.size]? = some (.cells (opC ⟨3, nm, tt, ba, bn, bc, n, y, ca, cn, cc⟩).toArray 36 (0, 0)) := by
    have h9 : w0.heap[w.heap.size]? = some (.cells (opC ⟨3, nm, tt, ba, bn, bc, n, y, ca, cn, cc⟩).toArray 36 (0, 0)) := by rw [← hw0]; exact heap_alloc_new w _
    exact h9
  have HB := hid ((hB.below hb0).below ((Below.refl _ w0).drew))
  have HBS := hid (show base ≤ w0.drew.heap.size from Nat.le_trans hbase hb0.size)
  have HLF := hid (fun k (hk : Fs k) => hB.fs.ltF hk)
  have HLR := hid (fun k (hk : Gr k) => hB.rf.ltF hk)
  have HBW := hid (show Below base w w0.drew from (hb0.mono hbase).drew)
  have HYS := hid (show ∀ W, Below base w W → ∀ {G : Nat → Prop}, (∀ k, G k → base ≤ k) → Bs G W (.slice ba bn bc) ys from fun W hW G hG => bs_base hyb hW hG)
  have HW0 := hid (show w.alloc (.cells #[.int .i64 3, .string nm, .string tt, .slice ba bn bc, .int .i64 n, bcell y, .slice ca cn cc] 36) = w0 from hw0)
  have FA1 := hid (show ∀ W, (Instr.fieldAt 36 (.pointer (some ⟨w.heap.size, 0, none⟩)) 1).run Tryz.prog W = .ok (.pointer (some ⟨w.heap.size, 1, none⟩)) W from fun W => by go_simp)
  have FA2 := hid (show ∀ W, (Instr.fieldAt 36 (.pointer (some ⟨w.heap.size, 0, none⟩)) 2).run Tryz.prog W = .ok (.pointer (some ⟨w.heap.size, 2, none⟩)) W from fun W => by go_simp)
  have FA3 := hid (show ∀ W, (Instr.fieldAt 36 (.pointer (some ⟨w.heap.size, 0, none⟩)) 3).run Tryz.prog W = .ok (.pointer (some ⟨w.heap.size, 3, none⟩)) W from fun W => by go_simp)
  have FA4 := hid (show ∀ W, (Instr.fieldAt 36 (.pointer (some ⟨w.heap.size, 0, none⟩)) 4).run Tryz.prog W = .ok (.pointer (some ⟨w.heap.size, 4, none⟩)) W from fun W => by go_simp)
  have LD1 := hid (show ∀ W, W.heap[w.heap.size]? = some (.cells (opC ⟨3, nm, tt, ba, bn, bc, n, y, ca, cn, cc⟩).toArray 36 (0, 0)) → (Instr.loadAt 9 (.pointer (some ⟨w.heap.size, 1, none⟩))).run Tryz.prog W = .ok (.string nm) W from fun W hW => by have hc : W.cell? ⟨w.heap.size, 1, none⟩ = some (.string nm) := cell_of_heap hW 1; clear hW; go_simp)
  have LD2 := hid (show ∀ W, W.heap[w.heap.size]? = some (.cells (opC ⟨3, nm, tt, ba, bn, bc, n, y, ca, cn, cc⟩).toArray 36 (0, 0)) → (Instr.loadAt 9 (.pointer (some ⟨w.heap.size, 2, none⟩))).run Tryz.prog W = .ok (.string tt) W from fun W hW => by have hc : W.cell? ⟨w.heap.size, 2, none⟩ = some (.string tt) := cell_of_heap hW 2; clear hW; go_simp)
  have LD3 := hid (show ∀ W, W.heap[w.heap.size]? = some (.cells (opC ⟨3, nm, tt, ba, bn, bc, n, y, ca, cn, cc⟩).toArray 36 (0, 0)) → (Instr.loadAt 33 (.pointer (some ⟨w.heap.size, 3, none⟩))).run Tryz.prog W = .ok (.slice ba bn bc) W from fun W hW => ldb W (cell_of_heap hW 3))
  have LD4 := hid (show ∀ W, W.heap[w.heap.size]? = some (.cells (opC ⟨3, nm, tt, ba, bn, bc, n, y, ca, cn, cc⟩).toArray 36 (0, 0)) → (Instr.loadAt 3 (.pointer (some ⟨w.heap.size, 4, none⟩))).run Tryz.prog W = .ok (.int .i64 n) W from fun W hW => ldi W (cell_of_heap hW 4))
  have PEQ := hid (show ∀ (a b : Int) W, (binOp .eql 26 (.int .i64 a) (.int .i64 b)).run Tryz.prog W = .ok (.bool (a == b)) W from fun a b W => by go_simp)
  have k0 : w0.cell? ⟨w.heap.size, 0, none⟩ = some (.int .i64 3) := cell_of_heap (w := w0) hS0 0
  clear hw0 hb0 hyb
  go_enter Tryz.func8, Tryz.ntmps8
  go_wp2_with fail
  rw [HW0.out]
  refine hg_start (fun W => W.heap[w.heap.size]? = some (.cells (opC ⟨3, nm, tt, ba, bn, bc, n, y, ca, cn, cc⟩).toArray 36 (0, 0))) 99 mixed ?_
  refine hgt 0 85 kMove (.tmp 0) (.pointer (some ⟨sb, 0, none⟩)) (by kernel_rfl) (by kernel_rfl) (by kernel_rfl) (by kernel_rfl) (by exact fun _ _ _ h => h) (by kernel_rfl) (by kernel_rfl) hS0 (fun o w' ho hs => ex_move ho (by kernel_rfl)) ?_
  refine hgt 1 86 kFA (36, .tmp 5, 1) (.pointer (some ⟨w.heap.size, 1, none⟩)) (by kernel_rfl) (by kernel_rfl) (by kernel_rfl) (by kernel_rfl) (by exact fun _ _ _ h => h) (by kernel_rfl) (by kernel_rfl) hS0 (fun o w' ho hs => ex_fa ho (by kernel_rfl) (FA1.out _)) ?_
  refine hgt 2 87 kLoad (9, .tmp 86) (.string nm) (by kernel_rfl) (by kernel_rfl) (by kernel_rfl) (by kernel_rfl) (by exact fun _ _ _ h => h) (by kernel_rfl) (by kernel_rfl) hS0 (fun o w' ho hs => ex_load ho (by kernel_rfl) (LD1.out _ hs)) ?_
  refine hgt 3 88 kFA (36, .tmp 5, 2) (.pointer (some ⟨w.heap.size, 2, none⟩)) (by kernel_rfl) (by kernel_rfl) (by kernel_rfl) (by kernel_rfl) (by exact fun _ _ _ h => h) (by kernel_rfl) (by kernel_rfl) hS0 (fun o w' ho hs => ex_fa ho (by kernel_rfl) (FA2.out _)) ?_
  refine hgt 4 89 kLoad (9, .tmp 88) (.string tt) (by kernel_rfl) (by kernel_rfl) (by kernel_rfl) (by kernel_rfl) (by exact fun _ _ _ h => h) (by kernel_rfl) (by kernel_rfl) hS0 (fun o w' ho hs => ex_load ho (by kernel_rfl) (LD2.out _ hs)) ?_
  refine hgt 6 91 kMove (.tmp 1) (.pointer (some ⟨rb, 0, none⟩)) (by kernel_rfl) (by kernel_rfl) (by kernel_rfl) (by kernel_rfl) (by exact fun _ _ _ h => h) (by kernel_rfl) (by kernel_rfl) hS0 (fun o w' ho hs => ex_move ho (by kernel_rfl)) ?_
  refine hgt 7 92 kFA (36, .tmp 5, 1) (.pointer (some ⟨w.heap.size, 1, none⟩)) (by kernel_rfl) (by kernel_rfl) (by kernel_rfl) (by kernel_rfl) (by exact fun _ _ _ h => h) (by kernel_rfl) (by kernel_rfl) hS0 (fun o w' ho hs => ex_fa ho (by kernel_rfl) (FA1.out _)) ?_
  refine hgt 8 93 kLoad (9, .tmp 92) (.string nm) (by kernel_rfl) (by kernel_rfl) (by kernel_rfl) (by kernel_rfl) (by exact fun _ _ _ h => h) (by kernel_rfl) (by kernel_rfl) hS0 (fun o w' ho hs => ex_load ho (by kernel_rfl) (LD1.out _ hs)) ?_
  refine hgt 9 94 kFA (36, .tmp 5, 2) (.pointer (some ⟨w.heap.size, 2, none⟩)) (by kernel_rfl) (by kernel_rfl) (by kernel_rfl) (by kernel_rfl) (by exact fun _ _ _ h => h) (by kernel_rfl) (by kernel_rfl) hS0 (fun o w' ho hs => ex_fa ho (by kernel_rfl) (FA2.out _)) ?_
  refine hgt 10 95 kLoad (9, .tmp 94) (.string tt) (by kernel_rfl) (by kernel_rfl) (by kernel_rfl) (by kernel_rfl) (by exact fun _ _ _ h => h) (by kernel_rfl) (by kernel_rfl) hS0 (fun o w' ho hs => ex_load ho (by kernel_rfl) (LD2.out _ hs)) ?_
  refine hg1 5 (by kernel_rfl) ?_
  refine hg_call 90 23 [.tmp 85, .tmp 87, .tmp 89] [.pointer (some ⟨sb, 0, none⟩), .string nm, .string tt] (by kernel_rfl) (by kernel_rfl) (enters_of Tryz.func23 rfl rfl) (fsRename_ok w0.drew HB.out.fs (by have := HB.out.few.b; omega) nm tt) ?_
  rintro e w1 ⟨rfl, F1, D1, hs1, ht1⟩
  obtain ⟨hb1, hbl1⟩ := HB.out.stepS HBS.out hs1 ht1 (N' := N + 3) ((FewS.rel HB.out.few (show SRel st 3 nm tt ys n _ from by rfl)).up (by omega)) (by omega)
  have hS1 := ht1.fr.heap hS0 (fun hF => by have := HLF.out _ hF; omega)
  obtain ⟨xs, hxs⟩ : ∃ xs, (renameF st nm tt).2 = xs := ⟨_, rfl⟩
  rw [hxs]
  refine ⟨_, rfl, .inr hS1, ?_⟩
  refine hg1 11 (by kernel_rfl) ?_
  refine hg_call 96 24 [.tmp 91, .tmp 93, .tmp 95] [.pointer (some ⟨rb, 0, none⟩), .string nm, .string tt] (by kernel_rfl) (by kernel_rfl) (enters_of Tryz.func24 rfl rfl) (r06Rename_ok w1 hb1.rf (by have := hb1.fewr.a; omega) (by have := hb1.fewr.b; omega) nm tt) ?_
  rintro e w2 ⟨rfl, F2, D2, hs2, ht2⟩
  obtain ⟨hb2, hbl2⟩ := hb1.stepR (Nat.le_trans HBS.out ht1.fr.size) hs2 ht2 (N' := N + 3) (HB.out.fewr.rename nm tt) (Nat.le_refl _)
  have hS2 := ht2.fr.heap hS1 (fun hF => by have := HLR.out _ hF; omega)
  obtain ⟨xr, hxr⟩ : ∃ xr, (rrename rs nm tt).2 = xr := ⟨_, rfl⟩
  rw [hxr]
  refine ⟨_, rfl, .inr hS2, ?_⟩
  refine hg1 12 (by kernel_rfl) ?_
  refine hg_val 97 kBin (.eql, 26, .tmp 90, .tmp 96) (.bool (xs == xr)) (by kernel_rfl) (fun o ho => ex_bin (vx := .int .i64 xs) (vy := .int .i64 xr) ho (by kernel_rfl) (by kernel_rfl) rfl (PEQ.out xs xr _)) (.inr hS2) ?_
  refine hg1 13 (by kernel_rfl) ?_
  refine hg_val 6 kAssign (.tmp 97) (.bool (xs == xr)) (by kernel_rfl) (fun o ho => ex_assign ho (by kernel_rfl)) (.inr hS2) ?_
  refine hg_done (by kernel_rfl) ?_
  have HREL := hid (show SRelX st 3 nm tt ys n y cuts _ from by rfl)
  have HB2 := hid hb2
  have HBL := hid (Below.trans hbl1 hbl2)
  clear hb1 hb2 hbl1 hbl2 hs1 hs2 ht1 ht2 hS0 hS1 hS2
  go_wp2
  go_ret
  refine ⟨xs == xr, _, ?_, HREL.out, ⟨_, _, _, _, HB2.out⟩, Below.trans HBW.out HBL.out⟩
  kernel_rfl
set_option maxHeartbeats 2000000 in
set_option maxRecDepth 100000 in
theorem step4_ok {base : Nat} {w : World} {Fs Ds Gr Er : Nat → Prop} {sb rb N : Nat} {st : FSt} {rs : RSt} (hB : Both base w Fs Ds sb st Gr Er rb rs N) (hN : N ≤ 900000) (hbase : base ≤ w.heap.size) (nm tt : ByteArray) (ba : Option Addr) (bn bc : Nat) (n : Int) (y : UInt8) (ca : Option Addr) (cn cc : Nat) (cuts : List Int) (ys : List UInt8) (_hys : ys.length ≤ 200) (hyb : Bs (fun k => base ≤ k) w (.slice ba bn bc) ys) :
    Calls Tryz.prog 8 #[.pointer (some ⟨sb, 0, none⟩), .pointer (some ⟨rb, 0, none⟩), .agg #[.int .i64 4, .string nm, .string tt, .slice ba bn bc, .int .i64 n, bcell y, .slice ca cn cc]] w fun e w' => StepR base sb rb st rs N 4 nm tt ys n y cuts w e w' := by
  have mixed : Tryz.prog.follows .mixedOrders = true := by kernel_rfl
  obtain ⟨w0, hw0⟩ : ∃ w0, w.alloc (.cells (opC ⟨4, nm, tt, ba, bn, bc, n, y, ca, cn, cc⟩).toArray 36) = w0 := ⟨_, rfl⟩
  have hb0 : Below w.heap.size w w0 := by rw [← hw0]; exact (Below.refl _ _).alloc (Nat.le_refl _) _
  have hS0 : w0.drew.heap[w.heap.size]? = some (.cells (opC ⟨4, nm, tt, ba, bn, bc, n, y, ca, cn, cc⟩).toArray 36 (0, 0)) := by
    have h9 : w0.heap[w.heap.size]? = some (.cells (opC ⟨4, nm, tt, ba, bn, bc, n, y, ca, cn, cc⟩).toArray 36 (0, 0)) := by rw [← hw0]; exact heap_alloc_new w _
    exact h9
  have HB := hid ((hB.below hb0).below ((Below.refl _ w0).drew))
  have HBS := hid (show base ≤ w0.drew.heap.size from Nat.le_trans hbase hb0.size)
  have HLF := hid (fun k (hk : Fs k) => hB.fs.ltF hk)
  have HLR := hid (fun k (hk : Gr k) => hB.rf.ltF hk)
  have HBW := hid (show Below base w w0.drew from (hb0.mono hbase).drew)
  have HYS := hid (show ∀ W, Below base w W → ∀ {G : Nat → Prop}, (∀ k, G k → base ≤ k) → Bs G W (.slice ba bn bc) ys from fun W hW G hG => bs_base hyb hW hG)
  have HW0 := hid (show w.alloc (.cells #[.int .i64 4, .string nm, .string tt, .slice ba bn bc, .int .i64 n, bcell y, .slice ca cn cc] 36) = w0 from hw0)
  have FA1 := hid (show ∀ W, (Instr.fieldAt 36 (.pointer (some ⟨w.heap.size, 0, none⟩)) 1).run Tryz.prog W = .ok (.pointer (some ⟨w.heap.size, 1, none⟩)) W from fun W => by go_simp)
  have FA2 := hid (show ∀ W, (Instr.fieldAt 36 (.pointer (some ⟨w.heap.size, 0, none⟩)) 2).run Tryz.prog W = .ok (.pointer (some ⟨w.heap.size, 2, none⟩)) W from fun W => by go_simp)
  have FA3 := hid (show ∀ W, (Instr.fieldAt 36 (.pointer (some ⟨w.heap.size, 0, none⟩)) 3).run Tryz.prog W = .ok (.pointer (some ⟨w.heap.size, 3, none⟩)) W from fun W => by go_simp)
  have FA4 := hid (show ∀ W, (Instr.fieldAt 36 (.pointer (some ⟨w.heap.size, 0, none⟩)) 4).run Tryz.prog W = .ok (.pointer (some ⟨w.heap.size, 4, none⟩)) W from fun W => by go_simp)
  have LD1 := hid (show ∀ W, W.heap[w.heap.size]? = some (.cells (opC ⟨4, nm, tt, ba, bn, bc, n, y, ca, cn, cc⟩).toArray 36 (0, 0)) → (Instr.loadAt 9 (.pointer (some ⟨w.heap.size, 1, none⟩))).run Tryz.prog W = .ok (.string nm) W from fun W hW => by have hc : W.cell? ⟨w.heap.size, 1, none⟩ = some (.string nm) := cell_of_heap hW 1; clear hW; go_simp)
  have LD2 := hid (show ∀ W, W.heap[w.heap.size]? = some (.cells (opC ⟨4, nm, tt, ba, bn, bc, n, y, ca, cn, cc⟩).toArray 36 (0, 0)) → (Instr.loadAt 9 (.pointer (some ⟨w.heap.size, 2, none⟩))).run Tryz.prog W = .ok (.string tt) W from fun W hW => by have hc : W.cell? ⟨w.heap.size, 2, none⟩ = some (.string tt) := cell_of_heap hW 2; clear hW; go_simp)
  have LD3 := hid (show ∀ W, W.heap[w.heap.size]? = some (.cells (opC ⟨4, nm, tt, ba, bn, bc, n, y, ca, cn, cc⟩).toArray 36 (0, 0)) → (Instr.loadAt 33 (.pointer (some ⟨w.heap.size, 3, none⟩))).run Tryz.prog W = .ok (.slice ba bn bc) W from fun W hW => ldb W (cell_of_heap hW 3))
  have LD4 := hid (show ∀ W, W.heap[w.heap.size]? = some (.cells (opC ⟨4, nm, tt, ba, bn, bc, n, y, ca, cn, cc⟩).toArray 36 (0, 0)) → (Instr.loadAt 3 (.pointer (some ⟨w.heap.size, 4, none⟩))).run Tryz.prog W = .ok (.int .i64 n) W from fun W hW => ldi W (cell_of_heap hW 4))
  have PEQ := hid (show ∀ (a b : Int) W, (binOp .eql 26 (.int .i64 a) (.int .i64 b)).run Tryz.prog W = .ok (.bool (a == b)) W from fun a b W => by go_simp)
  have k0 : w0.cell? ⟨w.heap.size, 0, none⟩ = some (.int .i64 4) := cell_of_heap (w := w0) hS0 0
  clear hw0 hb0 hyb
  go_enter Tryz.func8, Tryz.ntmps8
  go_wp2_with fail
  rw [HW0.out]
  refine hg_start (fun W => W.heap[w.heap.size]? = some (.cells (opC ⟨4, nm, tt, ba, bn, bc, n, y, ca, cn, cc⟩).toArray 36 (0, 0))) 99 mixed ?_
  refine hgt 0 100 kMove (.tmp 0) (.pointer (some ⟨sb, 0, none⟩)) (by kernel_rfl) (by kernel_rfl) (by kernel_rfl) (by kernel_rfl) (by exact fun _ _ _ h => h) (by kernel_rfl) (by kernel_rfl) hS0 (fun o w' ho hs => ex_move ho (by kernel_rfl)) ?_
  refine hgt 1 101 kFA (36, .tmp 5, 1) (.pointer (some ⟨w.heap.size, 1, none⟩)) (by kernel_rfl) (by kernel_rfl) (by kernel_rfl) (by kernel_rfl) (by exact fun _ _ _ h => h) (by kernel_rfl) (by kernel_rfl) hS0 (fun o w' ho hs => ex_fa ho (by kernel_rfl) (FA1.out _)) ?_
  refine hgt 2 102 kLoad (9, .tmp 101) (.string nm) (by kernel_rfl) (by kernel_rfl) (by kernel_rfl) (by kernel_rfl) (by exact fun _ _ _ h => h) (by kernel_rfl) (by kernel_rfl) hS0 (fun o w' ho hs => ex_load ho (by kernel_rfl) (LD1.out _ hs)) ?_
  refine hgt 4 104 kMove (.tmp 1) (.pointer (some ⟨rb, 0, none⟩)) (by kernel_rfl) (by kernel_rfl) (by kernel_rfl) (by kernel_rfl) (by exact fun _ _ _ h => h) (by kernel_rfl) (by kernel_rfl) hS0 (fun o w' ho hs => ex_move ho (by kernel_rfl)) ?_
  refine hgt 5 105 kFA (36, .tmp 5, 1) (.pointer (some ⟨w.heap.size, 1, none⟩)) (by kernel_rfl) (by kernel_rfl) (by kernel_rfl) (by kernel_rfl) (by exact fun _ _ _ h => h) (by kernel_rfl) (by kernel_rfl) hS0 (fun o w' ho hs => ex_fa ho (by kernel_rfl) (FA1.out _)) ?_
  refine hgt 6 106 kLoad (9, .tmp 105) (.string nm) (by kernel_rfl) (by kernel_rfl) (by kernel_rfl) (by kernel_rfl) (by exact fun _ _ _ h => h) (by kernel_rfl) (by kernel_rfl) hS0 (fun o w' ho hs => ex_load ho (by kernel_rfl) (LD1.out _ hs)) ?_
  refine hg1 3 (by kernel_rfl) ?_
  refine hg_call 103 25 [.tmp 100, .tmp 102] [.pointer (some ⟨sb, 0, none⟩), .string nm] (by kernel_rfl) (by kernel_rfl) (enters_of Tryz.func25 rfl rfl) (fsRemove_ok w0.drew HB.out.fs (by have := HB.out.few.b; omega) nm) ?_
  rintro e w1 ⟨rfl, F1, D1, hs1, ht1⟩
  obtain ⟨hb1, hbl1⟩ := HB.out.stepS HBS.out hs1 ht1 (N' := N + 3) ((FewS.rel HB.out.few (show SRel st 4 nm tt ys n _ from by rfl)).up (by omega)) (by omega)
  have hS1 := ht1.fr.heap hS0 (fun hF => by have := HLF.out _ hF; omega)
  obtain ⟨xs, hxs⟩ : ∃ xs, (removeF st nm).2 = xs := ⟨_, rfl⟩
  rw [hxs]
  refine ⟨_, rfl, .inr hS1, ?_⟩
  refine hg1 7 (by kernel_rfl) ?_
  refine hg_call 107 26 [.tmp 104, .tmp 106] [.pointer (some ⟨rb, 0, none⟩), .string nm] (by kernel_rfl) (by kernel_rfl) (enters_of Tryz.func26 rfl rfl) (r06Remove_ok w1 hb1.rf (by have := hb1.fewr.a; omega) (by have := hb1.fewr.b; omega) nm) ?_
  rintro e w2 ⟨rfl, F2, D2, hs2, ht2⟩
  obtain ⟨hb2, hbl2⟩ := hb1.stepR (Nat.le_trans HBS.out ht1.fr.size) hs2 ht2 (N' := N + 3) (HB.out.fewr.remove nm) (Nat.le_refl _)
  have hS2 := ht2.fr.heap hS1 (fun hF => by have := HLR.out _ hF; omega)
  obtain ⟨xr, hxr⟩ : ∃ xr, (rremove rs nm).2 = xr := ⟨_, rfl⟩
  rw [hxr]
  refine ⟨_, rfl, .inr hS2, ?_⟩
  refine hg1 8 (by kernel_rfl) ?_
  refine hg_val 108 kBin (.eql, 26, .tmp 103, .tmp 107) (.bool (xs == xr)) (by kernel_rfl) (fun o ho => ex_bin (vx := .int .i64 xs) (vy := .int .i64 xr) ho (by kernel_rfl) (by kernel_rfl) rfl (PEQ.out xs xr _)) (.inr hS2) ?_
  refine hg1 9 (by kernel_rfl) ?_
  refine hg_val 6 kAssign (.tmp 108) (.bool (xs == xr)) (by kernel_rfl) (fun o ho => ex_assign ho (by kernel_rfl)) (.inr hS2) ?_
  refine hg_done (by kernel_rfl) ?_
  have HREL := hid (show SRelX st 4 nm tt ys n y cuts _ from by rfl)
  have HB2 := hid hb2
  have HBL := hid (Below.trans hbl1 hbl2)
  clear hb1 hb2 hbl1 hbl2 hs1 hs2 ht1 ht2 hS0 hS1 hS2
  go_wp2
  go_ret
  refine ⟨xs == xr, _, ?_, HREL.out, ⟨_, _, _, _, HB2.out⟩, Below.trans HBW.out HBL.out⟩
  kernel_rfl
set_option maxHeartbeats 2000000 in
set_option maxRecDepth 100000 in
theorem step5_ok {base : Nat} {w : World} {Fs Ds Gr Er : Nat → Prop} {sb rb N : Nat} {st : FSt} {rs : RSt} (hB : Both base w Fs Ds sb st Gr Er rb rs N) (hN : N ≤ 900000) (hbase : base ≤ w.heap.size) (nm tt : ByteArray) (ba : Option Addr) (bn bc : Nat) (n : Int) (y : UInt8) (ca : Option Addr) (cn cc : Nat) (cuts : List Int) (ys : List UInt8) (_hys : ys.length ≤ 200) (hyb : Bs (fun k => base ≤ k) w (.slice ba bn bc) ys) :
    Calls Tryz.prog 8 #[.pointer (some ⟨sb, 0, none⟩), .pointer (some ⟨rb, 0, none⟩), .agg #[.int .i64 5, .string nm, .string tt, .slice ba bn bc, .int .i64 n, bcell y, .slice ca cn cc]] w fun e w' => StepR base sb rb st rs N 5 nm tt ys n y cuts w e w' := by
  have mixed : Tryz.prog.follows .mixedOrders = true := by kernel_rfl
  obtain ⟨w0, hw0⟩ : ∃ w0, w.alloc (.cells (opC ⟨5, nm, tt, ba, bn, bc, n, y, ca, cn, cc⟩).toArray 36) = w0 := ⟨_, rfl⟩
  have hb0 : Below w.heap.size w w0 := by rw [← hw0]; exact (Below.refl _ _).alloc (Nat.le_refl _) _
  have hS0 : w0.drew.heap[w.heap.size]? = some (.cells (opC ⟨5, nm, tt, ba, bn, bc, n, y, ca, cn, cc⟩).toArray 36 (0, 0)) := by
    have h9 : w0.heap[w.heap.size]? = some (.cells (opC ⟨5, nm, tt, ba, bn, bc, n, y, ca, cn, cc⟩).toArray 36 (0, 0)) := by rw [← hw0]; exact heap_alloc_new w _
    exact h9
  have HB := hid ((hB.below hb0).below ((Below.refl _ w0).drew))
  have HBS := hid (show base ≤ w0.drew.heap.size from Nat.le_trans hbase hb0.size)
  have HLF := hid (fun k (hk : Fs k) => hB.fs.ltF hk)
  have HLR := hid (fun k (hk : Gr k) => hB.rf.ltF hk)
  have HBW := hid (show Below base w w0.drew from (hb0.mono hbase).drew)
  have HYS := hid (show ∀ W, Below base w W → ∀ {G : Nat → Prop}, (∀ k, G k → base ≤ k) → Bs G W (.slice ba bn bc) ys from fun W hW G hG => bs_base hyb hW hG)
  have HW0 := hid (show w.alloc (.cells #[.int .i64 5, .string nm, .string tt, .slice ba bn bc, .int .i64 n, bcell y, .slice ca cn cc] 36) = w0 from hw0)
  have FA1 := hid (show ∀ W, (Instr.fieldAt 36 (.pointer (some ⟨w.heap.size, 0, none⟩)) 1).run Tryz.prog W = .ok (.pointer (some ⟨w.heap.size, 1, none⟩)) W from fun W => by go_simp)
  have FA2 := hid (show ∀ W, (Instr.fieldAt 36 (.pointer (some ⟨w.heap.size, 0, none⟩)) 2).run Tryz.prog W = .ok (.pointer (some ⟨w.heap.size, 2, none⟩)) W from fun W => by go_simp)
  have FA3 := hid (show ∀ W, (Instr.fieldAt 36 (.pointer (some ⟨w.heap.size, 0, none⟩)) 3).run Tryz.prog W = .ok (.pointer (some ⟨w.heap.size, 3, none⟩)) W from fun W => by go_simp)
  have FA4 := hid (show ∀ W, (Instr.fieldAt 36 (.pointer (some ⟨w.heap.size, 0, none⟩)) 4).run Tryz.prog W = .ok (.pointer (some ⟨w.heap.size, 4, none⟩)) W from fun W => by go_simp)
  have LD1 := hid (show ∀ W, W.heap[w.heap.size]? = some (.cells (opC ⟨5, nm, tt, ba, bn, bc, n, y, ca, cn, cc⟩).toArray 36 (0, 0)) → (Instr.loadAt 9 (.pointer (some ⟨w.heap.size, 1, none⟩))).run Tryz.prog W = .ok (.string nm) W from fun W hW => by have hc : W.cell? ⟨w.heap.size, 1, none⟩ = some (.string nm) := cell_of_heap hW 1; clear hW; go_simp)
  have LD2 := hid (show ∀ W, W.heap[w.heap.size]? = some (.cells (opC ⟨5, nm, tt, ba, bn, bc, n, y, ca, cn, cc⟩).toArray 36 (0, 0)) → (Instr.loadAt 9 (.pointer (some ⟨w.heap.size, 2, none⟩))).run Tryz.prog W = .ok (.string tt) W from fun W hW => by have hc : W.cell? ⟨w.heap.size, 2, none⟩ = some (.string tt) := cell_of_heap hW 2; clear hW; go_simp)
  have LD3 := hid (show ∀ W, W.heap[w.heap.size]? = some (.cells (opC ⟨5, nm, tt, ba, bn, bc, n, y, ca, cn, cc⟩).toArray 36 (0, 0)) → (Instr.loadAt 33 (.pointer (some ⟨w.heap.size, 3, none⟩))).run Tryz.prog W = .ok (.slice ba bn bc) W from fun W hW => ldb W (cell_of_heap hW 3))
  have LD4 := hid (show ∀ W, W.heap[w.heap.size]? = some (.cells (opC ⟨5, nm, tt, ba, bn, bc, n, y, ca, cn, cc⟩).toArray 36 (0, 0)) → (Instr.loadAt 3 (.pointer (some ⟨w.heap.size, 4, none⟩))).run Tryz.prog W = .ok (.int .i64 n) W from fun W hW => ldi W (cell_of_heap hW 4))
  have PEQ := hid (show ∀ (a b : Int) W, (binOp .eql 26 (.int .i64 a) (.int .i64 b)).run Tryz.prog W = .ok (.bool (a == b)) W from fun a b W => by go_simp)
  have k0 : w0.cell? ⟨w.heap.size, 0, none⟩ = some (.int .i64 5) := cell_of_heap (w := w0) hS0 0
  clear hw0 hb0 hyb
  go_enter Tryz.func8, Tryz.ntmps8
  go_wp2_with fail
  rw [HW0.out]
  refine hg_start (fun W => W.heap[w.heap.size]? = some (.cells (opC ⟨5, nm, tt, ba, bn, bc, n, y, ca, cn, cc⟩).toArray 36 (0, 0))) 99 mixed ?_
  refine hgt 0 111 kMove (.tmp 0) (.pointer (some ⟨sb, 0, none⟩)) (by kernel_rfl) (by kernel_rfl) (by kernel_rfl) (by kernel_rfl) (by exact fun _ _ _ h => h) (by kernel_rfl) (by kernel_rfl) hS0 (fun o w' ho hs => ex_move ho (by kernel_rfl)) ?_
  refine hgt 1 112 kFA (36, .tmp 5, 1) (.pointer (some ⟨w.heap.size, 1, none⟩)) (by kernel_rfl) (by kernel_rfl) (by kernel_rfl) (by kernel_rfl) (by exact fun _ _ _ h => h) (by kernel_rfl) (by kernel_rfl) hS0 (fun o w' ho hs => ex_fa ho (by kernel_rfl) (FA1.out _)) ?_
  refine hgt 2 113 kLoad (9, .tmp 112) (.string nm) (by kernel_rfl) (by kernel_rfl) (by kernel_rfl) (by kernel_rfl) (by exact fun _ _ _ h => h) (by kernel_rfl) (by kernel_rfl) hS0 (fun o w' ho hs => ex_load ho (by kernel_rfl) (LD1.out _ hs)) ?_
  refine hgt 4 115 kMove (.tmp 1) (.pointer (some ⟨rb, 0, none⟩)) (by kernel_rfl) (by kernel_rfl) (by kernel_rfl) (by kernel_rfl) (by exact fun _ _ _ h => h) (by kernel_rfl) (by kernel_rfl) hS0 (fun o w' ho hs => ex_move ho (by kernel_rfl)) ?_
  refine hgt 5 116 kFA (36, .tmp 5, 1) (.pointer (some ⟨w.heap.size, 1, none⟩)) (by kernel_rfl) (by kernel_rfl) (by kernel_rfl) (by kernel_rfl) (by exact fun _ _ _ h => h) (by kernel_rfl) (by kernel_rfl) hS0 (fun o w' ho hs => ex_fa ho (by kernel_rfl) (FA1.out _)) ?_
  refine hgt 6 117 kLoad (9, .tmp 116) (.string nm) (by kernel_rfl) (by kernel_rfl) (by kernel_rfl) (by kernel_rfl) (by exact fun _ _ _ h => h) (by kernel_rfl) (by kernel_rfl) hS0 (fun o w' ho hs => ex_load ho (by kernel_rfl) (LD1.out _ hs)) ?_
  refine hg1 3 (by kernel_rfl) ?_
  refine hg_call 114 15 [.tmp 111, .tmp 113] [.pointer (some ⟨sb, 0, none⟩), .string nm] (by kernel_rfl) (by kernel_rfl) (enters_of Tryz.func15 rfl rfl) (fsFsync_ok w0.drew HB.out.fs nm) ?_
  rintro e w1 ⟨rfl, F1, D1, hs1, ht1⟩
  obtain ⟨hb1, hbl1⟩ := HB.out.stepS HBS.out hs1 ht1 (N' := N + 3) ((FewS.rel HB.out.few (show SRel st 5 nm tt ys n _ from by rfl)).up (by omega)) (by omega)
  have hS1 := ht1.fr.heap hS0 (fun hF => by have := HLF.out _ hF; omega)
  obtain ⟨xs, hxs⟩ : ∃ xs, (fsyncF st nm).2 = xs := ⟨_, rfl⟩
  rw [hxs]
  refine ⟨_, rfl, .inr hS1, ?_⟩
  refine hg1 7 (by kernel_rfl) ?_
  refine hg_call 118 27 [.tmp 115, .tmp 117] [.pointer (some ⟨rb, 0, none⟩), .string nm] (by kernel_rfl) (by kernel_rfl) (enters_of Tryz.func27 rfl rfl) (r06Fsync_ok w1 hb1.rf (by have := hb1.fewr.a; omega) nm) ?_
  rintro e w2 ⟨rfl, F2, D2, hs2, ht2⟩
  obtain ⟨hb2, hbl2⟩ := hb1.stepR (Nat.le_trans HBS.out ht1.fr.size) hs2 ht2 (N' := N + 3) (HB.out.fewr.fsync nm) (Nat.le_refl _)
  have hS2 := ht2.fr.heap hS1 (fun hF => by have := HLR.out _ hF; omega)
  obtain ⟨xr, hxr⟩ : ∃ xr, (rfsync rs nm).2 = xr := ⟨_, rfl⟩
  rw [hxr]
  refine ⟨_, rfl, .inr hS2, ?_⟩
  refine hg1 8 (by kernel_rfl) ?_
  refine hg_val 119 kBin (.eql, 26, .tmp 114, .tmp 118) (.bool (xs == xr)) (by kernel_rfl) (fun o ho => ex_bin (vx := .int .i64 xs) (vy := .int .i64 xr) ho (by kernel_rfl) (by kernel_rfl) rfl (PEQ.out xs xr _)) (.inr hS2) ?_
  refine hg1 9 (by kernel_rfl) ?_
  refine hg_val 6 kAssign (.tmp 119) (.bool (xs == xr)) (by kernel_rfl) (fun o ho => ex_assign ho (by kernel_rfl)) (.inr hS2) ?_
  refine hg_done (by kernel_rfl) ?_
  have HREL := hid (show SRelX st 5 nm tt ys n y cuts _ from by rfl)
  have HB2 := hid hb2
  have HBL := hid (Below.trans hbl1 hbl2)
  clear hb1 hb2 hbl1 hbl2 hs1 hs2 ht1 ht2 hS0 hS1 hS2
  go_wp2
  go_ret
  refine ⟨xs == xr, _, ?_, HREL.out, ⟨_, _, _, _, HB2.out⟩, Below.trans HBW.out HBL.out⟩
  kernel_rfl
set_option maxHeartbeats 2000000 in
set_option maxRecDepth 100000 in
theorem step7_ok {base : Nat} {w : World} {Fs Ds Gr Er : Nat → Prop} {sb rb N : Nat} {st : FSt} {rs : RSt} (hB : Both base w Fs Ds sb st Gr Er rb rs N) (_hN : N ≤ 900000) (hbase : base ≤ w.heap.size) (nm tt : ByteArray) (ba : Option Addr) (bn bc : Nat) (n : Int) (y : UInt8) (ca : Option Addr) (cn cc : Nat) (cuts : List Int) (ys : List UInt8) (_hys : ys.length ≤ 200) (hyb : Bs (fun k => base ≤ k) w (.slice ba bn bc) ys) :
    Calls Tryz.prog 8 #[.pointer (some ⟨sb, 0, none⟩), .pointer (some ⟨rb, 0, none⟩), .agg #[.int .i64 7, .string nm, .string tt, .slice ba bn bc, .int .i64 n, bcell y, .slice ca cn cc]] w fun e w' => StepR base sb rb st rs N 7 nm tt ys n y cuts w e w' := by
  have mixed : Tryz.prog.follows .mixedOrders = true := by kernel_rfl
  obtain ⟨w0, hw0⟩ : ∃ w0, w.alloc (.cells (opC ⟨7, nm, tt, ba, bn, bc, n, y, ca, cn, cc⟩).toArray 36) = w0 := ⟨_, rfl⟩
  have hb0 : Below w.heap.size w w0 := by rw [← hw0]; exact (Below.refl _ _).alloc (Nat.le_refl _) _
  have hS0 : w0.drew.heap[w.heap.size]? = some (.cells (opC ⟨7, nm, tt, ba, bn, bc, n, y, ca, cn, cc⟩).toArray 36 (0, 0)) := by
    have h9 : w0.heap[w.heap.size]? = some (.cells (opC ⟨7, nm, tt, ba, bn, bc, n, y, ca, cn, cc⟩).toArray 36 (0, 0)) := by rw [← hw0]; exact heap_alloc_new w _
    exact h9
  have HB := hid ((hB.below hb0).below ((Below.refl _ w0).drew))
  have HBS := hid (show base ≤ w0.drew.heap.size from Nat.le_trans hbase hb0.size)
  have HLF := hid (fun k (hk : Fs k) => hB.fs.ltF hk)
  have HLR := hid (fun k (hk : Gr k) => hB.rf.ltF hk)
  have HBW := hid (show Below base w w0.drew from (hb0.mono hbase).drew)
  have HYS := hid (show ∀ W, Below base w W → ∀ {G : Nat → Prop}, (∀ k, G k → base ≤ k) → Bs G W (.slice ba bn bc) ys from fun W hW G hG => bs_base hyb hW hG)
  have HW0 := hid (show w.alloc (.cells #[.int .i64 7, .string nm, .string tt, .slice ba bn bc, .int .i64 n, bcell y, .slice ca cn cc] 36) = w0 from hw0)
  have FA1 := hid (show ∀ W, (Instr.fieldAt 36 (.pointer (some ⟨w.heap.size, 0, none⟩)) 1).run Tryz.prog W = .ok (.pointer (some ⟨w.heap.size, 1, none⟩)) W from fun W => by go_simp)
  have FA2 := hid (show ∀ W, (Instr.fieldAt 36 (.pointer (some ⟨w.heap.size, 0, none⟩)) 2).run Tryz.prog W = .ok (.pointer (some ⟨w.heap.size, 2, none⟩)) W from fun W => by go_simp)
  have FA3 := hid (show ∀ W, (Instr.fieldAt 36 (.pointer (some ⟨w.heap.size, 0, none⟩)) 3).run Tryz.prog W = .ok (.pointer (some ⟨w.heap.size, 3, none⟩)) W from fun W => by go_simp)
  have FA4 := hid (show ∀ W, (Instr.fieldAt 36 (.pointer (some ⟨w.heap.size, 0, none⟩)) 4).run Tryz.prog W = .ok (.pointer (some ⟨w.heap.size, 4, none⟩)) W from fun W => by go_simp)
  have LD1 := hid (show ∀ W, W.heap[w.heap.size]? = some (.cells (opC ⟨7, nm, tt, ba, bn, bc, n, y, ca, cn, cc⟩).toArray 36 (0, 0)) → (Instr.loadAt 9 (.pointer (some ⟨w.heap.size, 1, none⟩))).run Tryz.prog W = .ok (.string nm) W from fun W hW => by have hc : W.cell? ⟨w.heap.size, 1, none⟩ = some (.string nm) := cell_of_heap hW 1; clear hW; go_simp)
  have LD2 := hid (show ∀ W, W.heap[w.heap.size]? = some (.cells (opC ⟨7, nm, tt, ba, bn, bc, n, y, ca, cn, cc⟩).toArray 36 (0, 0)) → (Instr.loadAt 9 (.pointer (some ⟨w.heap.size, 2, none⟩))).run Tryz.prog W = .ok (.string tt) W from fun W hW => by have hc : W.cell? ⟨w.heap.size, 2, none⟩ = some (.string tt) := cell_of_heap hW 2; clear hW; go_simp)
  have LD3 := hid (show ∀ W, W.heap[w.heap.size]? = some (.cells (opC ⟨7, nm, tt, ba, bn, bc, n, y, ca, cn, cc⟩).toArray 36 (0, 0)) → (Instr.loadAt 33 (.pointer (some ⟨w.heap.size, 3, none⟩))).run Tryz.prog W = .ok (.slice ba bn bc) W from fun W hW => ldb W (cell_of_heap hW 3))
  have LD4 := hid (show ∀ W, W.heap[w.heap.size]? = some (.cells (opC ⟨7, nm, tt, ba, bn, bc, n, y, ca, cn, cc⟩).toArray 36 (0, 0)) → (Instr.loadAt 3 (.pointer (some ⟨w.heap.size, 4, none⟩))).run Tryz.prog W = .ok (.int .i64 n) W from fun W hW => ldi W (cell_of_heap hW 4))
  have PEQ := hid (show ∀ (a b : Int) W, (binOp .eql 26 (.int .i64 a) (.int .i64 b)).run Tryz.prog W = .ok (.bool (a == b)) W from fun a b W => by go_simp)
  have k0 : w0.cell? ⟨w.heap.size, 0, none⟩ = some (.int .i64 7) := cell_of_heap (w := w0) hS0 0
  clear hw0 hb0 hyb
  go_enter Tryz.func8, Tryz.ntmps8
  go_wp2_with fail
  rw [HW0.out]
  refine hg_start (fun W => W.heap[w.heap.size]? = some (.cells (opC ⟨7, nm, tt, ba, bn, bc, n, y, ca, cn, cc⟩).toArray 36 (0, 0))) 99 mixed ?_
  refine hgt 0 129 kMove (.tmp 0) (.pointer (some ⟨sb, 0, none⟩)) (by kernel_rfl) (by kernel_rfl) (by kernel_rfl) (by kernel_rfl) (by exact fun _ _ _ h => h) (by kernel_rfl) (by kernel_rfl) hS0 (fun o w' ho hs => ex_move ho (by kernel_rfl)) ?_
  refine hgt 1 130 kFA (36, .tmp 5, 4) (.pointer (some ⟨w.heap.size, 4, none⟩)) (by kernel_rfl) (by kernel_rfl) (by kernel_rfl) (by kernel_rfl) (by exact fun _ _ _ h => h) (by kernel_rfl) (by kernel_rfl) hS0 (fun o w' ho hs => ex_fa ho (by kernel_rfl) (FA4.out _)) ?_
  refine hgt 2 131 kLoad (3, .tmp 130) (.int .i64 n) (by kernel_rfl) (by kernel_rfl) (by kernel_rfl) (by kernel_rfl) (by exact fun _ _ _ h => h) (by kernel_rfl) (by kernel_rfl) hS0 (fun o w' ho hs => ex_load ho (by kernel_rfl) (LD4.out _ hs)) ?_
  refine hgt 4 133 kMove (.tmp 1) (.pointer (some ⟨rb, 0, none⟩)) (by kernel_rfl) (by kernel_rfl) (by kernel_rfl) (by kernel_rfl) (by exact fun _ _ _ h => h) (by kernel_rfl) (by kernel_rfl) hS0 (fun o w' ho hs => ex_move ho (by kernel_rfl)) ?_
  refine hgt 5 134 kFA (36, .tmp 5, 4) (.pointer (some ⟨w.heap.size, 4, none⟩)) (by kernel_rfl) (by kernel_rfl) (by kernel_rfl) (by kernel_rfl) (by exact fun _ _ _ h => h) (by kernel_rfl) (by kernel_rfl) hS0 (fun o w' ho hs => ex_fa ho (by kernel_rfl) (FA4.out _)) ?_
  refine hgt 6 135 kLoad (3, .tmp 134) (.int .i64 n) (by kernel_rfl) (by kernel_rfl) (by kernel_rfl) (by kernel_rfl) (by exact fun _ _ _ h => h) (by kernel_rfl) (by kernel_rfl) hS0 (fun o w' ho hs => ex_load ho (by kernel_rfl) (LD4.out _ hs)) ?_
  refine hg1 3 (by kernel_rfl) ?_
  refine hg_call 132 29 [.tmp 129, .tmp 131] [.pointer (some ⟨sb, 0, none⟩), .int .i64 n] (by kernel_rfl) (by kernel_rfl) (enters_of Tryz.func29 rfl rfl) (fsArm_ok w0.drew HB.out.fs n) ?_
  rintro e w1 ⟨rfl, F1, D1, hs1, ht1⟩
  obtain ⟨hb1, hbl1⟩ := HB.out.stepS HBS.out hs1 ht1 (N' := N + 3) ((FewS.rel HB.out.few (show SRel st 7 nm tt ys n _ from by rfl)).up (by omega)) (by omega)
  have hS1 := ht1.fr.heap hS0 (fun hF => by have := HLF.out _ hF; omega)
  obtain ⟨xs, hxs⟩ : ∃ xs, (armF st n).2 = xs := ⟨_, rfl⟩
  rw [hxs]
  refine ⟨_, rfl, .inr hS1, ?_⟩
  refine hg1 7 (by kernel_rfl) ?_
  refine hg_call 136 30 [.tmp 133, .tmp 135] [.pointer (some ⟨rb, 0, none⟩), .int .i64 n] (by kernel_rfl) (by kernel_rfl) (enters_of Tryz.func30 rfl rfl) (r06Arm_ok w1 hb1.rf n) ?_
  rintro e w2 ⟨rfl, F2, D2, hs2, ht2⟩
  obtain ⟨hb2, hbl2⟩ := hb1.stepR (Nat.le_trans HBS.out ht1.fr.size) hs2 ht2 (N' := N + 3) (HB.out.fewr.arm n) (Nat.le_refl _)
  have hS2 := ht2.fr.heap hS1 (fun hF => by have := HLR.out _ hF; omega)
  obtain ⟨xr, hxr⟩ : ∃ xr, (rarm rs n).2 = xr := ⟨_, rfl⟩
  rw [hxr]
  refine ⟨_, rfl, .inr hS2, ?_⟩
  refine hg1 8 (by kernel_rfl) ?_
  refine hg_val 137 kBin (.eql, 26, .tmp 132, .tmp 136) (.bool (xs == xr)) (by kernel_rfl) (fun o ho => ex_bin (vx := .int .i64 xs) (vy := .int .i64 xr) ho (by kernel_rfl) (by kernel_rfl) rfl (PEQ.out xs xr _)) (.inr hS2) ?_
  refine hg1 9 (by kernel_rfl) ?_
  refine hg_val 6 kAssign (.tmp 137) (.bool (xs == xr)) (by kernel_rfl) (fun o ho => ex_assign ho (by kernel_rfl)) (.inr hS2) ?_
  refine hg_done (by kernel_rfl) ?_
  have HREL := hid (show SRelX st 7 nm tt ys n y cuts _ from by rfl)
  have HB2 := hid hb2
  have HBL := hid (Below.trans hbl1 hbl2)
  clear hb1 hb2 hbl1 hbl2 hs1 hs2 ht1 ht2 hS0 hS1 hS2
  go_wp2
  go_ret
  refine ⟨xs == xr, _, ?_, HREL.out, ⟨_, _, _, _, HB2.out⟩, Below.trans HBW.out HBL.out⟩
  kernel_rfl
set_option maxHeartbeats 2000000 in
set_option maxRecDepth 100000 in
theorem step6_ok {base : Nat} {w : World} {Fs Ds Gr Er : Nat → Prop} {sb rb N : Nat} {st : FSt} {rs : RSt} (hB : Both base w Fs Ds sb st Gr Er rb rs N) (_hN : N ≤ 900000) (hbase : base ≤ w.heap.size) (nm tt : ByteArray) (ba : Option Addr) (bn bc : Nat) (n : Int) (y : UInt8) (ca : Option Addr) (cn cc : Nat) (cuts : List Int) (ys : List UInt8) :
    Calls Tryz.prog 8 #[.pointer (some ⟨sb, 0, none⟩), .pointer (some ⟨rb, 0, none⟩), .agg #[.int .i64 6, .string nm, .string tt, .slice ba bn bc, .int .i64 n, bcell y, .slice ca cn cc]] w fun e w' => StepR base sb rb st rs N 6 nm tt ys n y cuts w e w' := by
  obtain ⟨w0, hw0⟩ : ∃ w0, w.alloc (.cells (opC ⟨6, nm, tt, ba, bn, bc, n, y, ca, cn, cc⟩).toArray 36) = w0 := ⟨_, rfl⟩
  have hb0 : Below w.heap.size w w0 := by rw [← hw0]; exact (Below.refl _ _).alloc (Nat.le_refl _) _
  have h9 : w0.heap[w.heap.size]? = some (.cells (opC ⟨6, nm, tt, ba, bn, bc, n, y, ca, cn, cc⟩).toArray 36 (0, 0)) := by rw [← hw0]; exact heap_alloc_new w _
  have HB := hid (hB.below hb0)
  have HBS := hid (show base ≤ w0.heap.size from Nat.le_trans hbase hb0.size)
  have HLF := hid (fun k (hk : Fs k) => hB.fs.ltF hk)
  have HLR := hid (fun k (hk : Gr k) => hB.rf.ltF hk)
  have HBW := hid (show Below base w w0 from (hb0.mono hbase))
  have HW0 := hid (show w.alloc (.cells #[.int .i64 6, .string nm, .string tt, .slice ba bn bc, .int .i64 n, bcell y, .slice ca cn cc] 36) = w0 from hw0)
  have HS9 := hid h9
  have k0 : w0.cell? ⟨w.heap.size, 0, none⟩ = some (.int .i64 6) := cell_of_heap (w := w0) h9 0
  have k1 : w0.cell? ⟨w.heap.size, 1, none⟩ = some (.string nm) := cell_of_heap (w := w0) h9 1
  clear hw0 hb0 h9
  have HSY := hid (fsSync_ok w0 HB.out.fs)
  go_enter Tryz.func8, Tryz.ntmps8
  go_wp2_with fail
  rw [HW0.out]
  refine HSY.out.mono ?_
  rintro e w1 ⟨rfl, F1, D1, hs1, ht1⟩
  obtain ⟨hb1, hbl1⟩ := HB.out.stepS HBS.out hs1 ht1 (N' := N + 3) ((FewS.rel HB.out.few (show SRel st 6 nm tt ys n _ from by rfl)).up (by omega)) (by omega)
  have HB1 := hid hb1
  have HL1 := hid hbl1
  have HZ1 := hid (show base ≤ w1.heap.size from Nat.le_trans HBS.out ht1.fr.size)
  have HSR := hid (r06Sync_ok w1 hb1.rf)
  clear hb1 hbl1 hs1 ht1
  go_wp2_with fail
  refine HSR.out.mono ?_
  rintro e w2 ⟨rfl, F2, D2, hs2, ht2⟩
  obtain ⟨hb2, hbl2⟩ := HB1.out.stepR HZ1.out hs2 ht2 (N' := N + 3) (HB.out.fewr.sync) (Nat.le_refl _)
  have HB2 := hid hb2
  have HBL := hid (Below.trans HL1.out hbl2)
  clear hb2 hbl2 hs2 ht2
  go_wp2
  go_ret
  exact ⟨_, _, rfl, (show SRelX st 6 nm tt ys n y cuts _ from by rfl), ⟨_, _, _, _, HB2.out⟩, Below.trans HBW.out HBL.out⟩
set_option maxHeartbeats 2000000 in
set_option maxRecDepth 100000 in
theorem step2_ok {base : Nat} {w : World} {Fs Ds Gr Er : Nat → Prop} {sb rb N : Nat} {st : FSt} {rs : RSt} (hB : Both base w Fs Ds sb st Gr Er rb rs N) (hN : N ≤ 900000) (hbase : base ≤ w.heap.size) (nm tt : ByteArray) (ba : Option Addr) (bn bc : Nat) (n : Int) (y : UInt8) (ca : Option Addr) (cn cc : Nat) (cuts : List Int) (ys : List UInt8) :
    Calls Tryz.prog 8 #[.pointer (some ⟨sb, 0, none⟩), .pointer (some ⟨rb, 0, none⟩), .agg #[.int .i64 2, .string nm, .string tt, .slice ba bn bc, .int .i64 n, bcell y, .slice ca cn cc]] w fun e w' => StepR base sb rb st rs N 2 nm tt ys n y cuts w e w' := by
  obtain ⟨w0, hw0⟩ : ∃ w0, w.alloc (.cells (opC ⟨2, nm, tt, ba, bn, bc, n, y, ca, cn, cc⟩).toArray 36) = w0 := ⟨_, rfl⟩
  have hb0 : Below w.heap.size w w0 := by rw [← hw0]; exact (Below.refl _ _).alloc (Nat.le_refl _) _
  have h9 : w0.heap[w.heap.size]? = some (.cells (opC ⟨2, nm, tt, ba, bn, bc, n, y, ca, cn, cc⟩).toArray 36 (0, 0)) := by rw [← hw0]; exact heap_alloc_new w _
  have HB := hid (hB.below hb0)
  have HBS := hid (show base ≤ w0.heap.size from Nat.le_trans hbase hb0.size)
  have HLF := hid (fun k (hk : Fs k) => hB.fs.ltF hk)
  have HLR := hid (fun k (hk : Gr k) => hB.rf.ltF hk)
  have HBW := hid (show Below base w w0 from (hb0.mono hbase))
  have HW0 := hid (show w.alloc (.cells #[.int .i64 2, .string nm, .string tt, .slice ba bn bc, .int .i64 n, bcell y, .slice ca cn cc] 36) = w0 from hw0)
  have HS9 := hid h9
  have k0 : w0.cell? ⟨w.heap.size, 0, none⟩ = some (.int .i64 2) := cell_of_heap (w := w0) h9 0
  have k1 : w0.cell? ⟨w.heap.size, 1, none⟩ = some (.string nm) := cell_of_heap (w := w0) h9 1
  clear hw0 hb0 h9
  have HRD := hid (fsRead_ok w0 HB.out.fs nm)
  go_enter Tryz.func8, Tryz.ntmps8
  go_wp2_with fail
  rw [HW0.out]
  refine HRD.out.mono ?_
  rintro e w1 ⟨a1, c1, rfl, ho1, hb1⟩
  have HB1 := hid (HB.out.below hb1)
  have HO1 := hid ho1
  have HL1 := hid hb1
  have k1 : w1.cell? ⟨w.heap.size, 1, none⟩ = some (.string nm) := cell_of_heap ((Fr.of_below hb1 : Fr (fun _ => False) w0 w1).heap HS9.out id) 1
  have HRR := hid (r06Read_ok w1 HB1.out.rf (by have := HB1.out.fewr.a; omega) nm)
  clear ho1 hb1
  obtain ⟨x1, hx1⟩ : ∃ x1, (readF st nm).1 = x1 := ⟨_, rfl⟩
  obtain ⟨f1, hf1⟩ : ∃ f1, (readF st nm).2 = f1 := ⟨_, rfl⟩
  rw [hx1] at HO1 ⊢
  rw [hf1]
  go_wp2_with fail
  refine HRR.out.mono ?_
  rintro e w2 ⟨a2, c2, rfl, ho2, hb2⟩
  have HB2 := hid (HB1.out.below hb2)
  have HO2 := hid ho2
  have HL2 := hid hb2
  have k1 : w2.cell? ⟨w.heap.size, 1, none⟩ = some (.string nm) := cell_of_heap ((Fr.of_below hb2 : Fr (fun _ => False) w1 w2).heap ((Fr.of_below HL1.out : Fr (fun _ => False) w0 w1).heap HS9.out id) id) 1
  have HSZ := hid (fsSize_ok w2 HB2.out.fs nm)
  clear ho2 hb2
  obtain ⟨x2, hx2⟩ : ∃ x2, (rread rs nm).1 = x2 := ⟨_, rfl⟩
  obtain ⟨f2, hf2⟩ : ∃ f2, (rread rs nm).2 = f2 := ⟨_, rfl⟩
  rw [hx2] at HO2 ⊢
  rw [hf2]
  go_wp2_with fail
  refine HSZ.out.mono ?_
  rw [hx1, hf1]
  rintro e w3 ⟨rfl, hb3⟩
  have HB3 := hid (HB2.out.below hb3)
  have HL3 := hid hb3
  have hv1 : Bs (fun _ => False) w3 (.slice a1 x1.length c1) x1 := ((OwnB.bs HO1.out (fun _ _ _ => id)).fr (Fr.of_below HL2.out : Fr (fun _ => False) w1 w2) (fun _ _ h => h)).fr (Fr.of_below hb3 : Fr (fun _ => False) w2 w3) (fun _ _ h => h)
  have hv2 := HO2.out.fr (Fr.of_below hb3 : Fr (fun _ => False) w2 w3) (fun _ _ h => h.elim)
  have HBY := hid (refBytes_ok (.slice a1 x1.length c1) (.slice a2 x2.length c2) x1 x2 w3 hv1 hv2)
  clear hb3 hv1 hv2 hx1 hx2 hf1 hf2
  go_wp2_with fail
  refine HBY.out.mono ?_
  rintro e w4 ⟨rfl, hb4⟩
  have HB4 := hid (HB3.out.below hb4)
  have HL4 := hid hb4
  have HLL := hid (Below.trans (HL1.out.mono HBS.out) (Below.trans (HL2.out.mono (Nat.le_trans HBS.out HL1.out.size)) (Below.trans (HL3.out.mono (Nat.le_trans HBS.out (Nat.le_trans HL1.out.size HL2.out.size))) (HL4.out.mono (Nat.le_trans HBS.out (Nat.le_trans HL1.out.size (Nat.le_trans HL2.out.size HL3.out.size)))))))
  clear hb4
  have HFIN := hid (fun b => show StepR base sb rb st rs N 2 nm tt ys n y cuts w (.returned (.bool b)) w4 from ⟨b, st, rfl, (show SRelX st 2 nm tt ys n y cuts st from by rfl), ⟨_, _, _, _, ⟨HB4.out.fs, HB4.out.rf, HB4.out.apart, HB4.out.b1, HB4.out.b2, HB4.out.few.up (by omega), HB4.out.fewr.up (by omega)⟩⟩, Below.trans HBW.out HLL.out⟩)
  by_cases hxe : x1 = x2
  · have tl : ((x1.length : Int) == (x2.length : Int)) = true := by rw [hxe]; simp
    rw [decide_eq_true hxe]
    clear hxe
    cases hf : (f1 == f2) with
    | true =>
      go_wp2
      go_ret
      exact HFIN.out _
    | false =>
      go_wp2
      go_ret
      exact HFIN.out _
  · rw [decide_eq_false hxe]
    clear hxe
    go_wp2
    go_ret
    exact HFIN.out _
set_option maxHeartbeats 2000000 in
set_option maxRecDepth 100000 in
theorem stepx_ok {base : Nat} {w : World} {Fs Ds Gr Er : Nat → Prop} {sb rb N : Nat} {st : FSt} {rs : RSt} (hB : Both base w Fs Ds sb st Gr Er rb rs N) (_hN : N ≤ 900000) (hbase : base ≤ w.heap.size) (nm tt : ByteArray) (ba : Option Addr) (bn bc : Nat) (n : Int) (y : UInt8) (ca : Option Addr) (cn cc : Nat) (cuts : List Int) (ys : List UInt8) (k : Int) (hk : k < 0 ∨ 9 < k) :
    Calls Tryz.prog 8 #[.pointer (some ⟨sb, 0, none⟩), .pointer (some ⟨rb, 0, none⟩), .agg #[.int .i64 k, .string nm, .string tt, .slice ba bn bc, .int .i64 n, bcell y, .slice ca cn cc]] w fun e w' => StepR base sb rb st rs N k nm tt ys n y cuts w e w' := by
  obtain ⟨w0, hw0⟩ : ∃ w0, w.alloc (.cells (opC ⟨k, nm, tt, ba, bn, bc, n, y, ca, cn, cc⟩).toArray 36) = w0 := ⟨_, rfl⟩
  have hb0 : Below w.heap.size w w0 := by rw [← hw0]; exact (Below.refl _ _).alloc (Nat.le_refl _) _
  have h9 : w0.heap[w.heap.size]? = some (.cells (opC ⟨k, nm, tt, ba, bn, bc, n, y, ca, cn, cc⟩).toArray 36 (0, 0)) := by rw [← hw0]; exact heap_alloc_new w _
  have HB := hid (hB.below hb0)
  have HBS := hid (show base ≤ w0.heap.size from Nat.le_trans hbase hb0.size)
  have HLF := hid (fun k (hk : Fs k) => hB.fs.ltF hk)
  have HLR := hid (fun k (hk : Gr k) => hB.rf.ltF hk)
  have HBW := hid (show Below base w w0 from (hb0.mono hbase))
  have HW0 := hid (show w.alloc (.cells #[.int .i64 k, .string nm, .string tt, .slice ba bn bc, .int .i64 n, bcell y, .slice ca cn cc] 36) = w0 from hw0)
  have HS9 := hid h9
  have k0 : w0.cell? ⟨w.heap.size, 0, none⟩ = some (.int .i64 k) := cell_of_heap (w := w0) h9 0
  have k1 : w0.cell? ⟨w.heap.size, 1, none⟩ = some (.string nm) := cell_of_heap (w := w0) h9 1
  clear hw0 hb0 h9
  have t0 : (k == 0) = false := by simp; omega
  have t1 : (k == 1) = false := by simp; omega
  have t2 : (k == 2) = false := by simp; omega
  have t3 : (k == 3) = false := by simp; omega
  have t4 : (k == 4) = false := by simp; omega
  have t5 : (k == 5) = false := by simp; omega
  have t6 : (k == 6) = false := by simp; omega
  have t7 : (k == 7) = false := by simp; omega
  have t8 : (k == 8) = false := by simp; omega
  have t9 : (k == 9) = false := by simp; omega
  have HRL := hid (show SRelX st k nm tt ys n y cuts st from by
    unfold SRelX SRel
    rw [if_neg (by omega), if_neg (by omega), if_neg (by omega), if_neg (by omega), if_neg (by omega), if_neg (by omega), if_neg (by omega), if_neg (by omega), if_neg (by omega)])
  have HRO := hid (show rop rs k nm tt ys n y cuts = rs from by
    unfold rop
    rw [if_neg (by omega), if_neg (by omega), if_neg (by omega), if_neg (by omega), if_neg (by omega), if_neg (by omega), if_neg (by omega), if_neg (by omega), if_neg (by omega)])
  go_enter Tryz.func8, Tryz.ntmps8
  go_wp2
  go_ret
  rw [HW0.out]
  refine ⟨true, st, rfl, HRL.out, ?_, HBW.out⟩
  rw [HRO.out]
  exact ⟨_, _, _, _, ⟨HB.out.fs, HB.out.rf, HB.out.apart, HB.out.b1, HB.out.b2, HB.out.few.up (by omega), HB.out.fewr.up (by omega)⟩⟩
end Go.Proofs.YtgehalfnpbjjcaaGreat
