/- simfs: Copy. -/
import Derived.Test.YtgehalfnpbjjcaaGreatCopyG
import Derived.Test.YtgehalfnpbjjcaaGreatRegHeld
namespace Go.Proofs.YtgehalfnpbjjcaaGreat
open Go Go.RowKit Go.Sort
def kNil : Op → Option Operand
  | .nilCheck x => some x
  | _ => none
def kBox : Op → Option (TypeId × Operand)
  | .box t x => some (t, x)
  | _ => none
theorem kNil_out {op : Op} {x : Operand} (h : kNil op = some x) : op = .nilCheck x := by
  cases op <;> simp [kNil] at h
  rw [h]
theorem kBox_out {op : Op} {x : TypeId × Operand} (h : kBox op = some x) : op = .box x.1 x.2 := by
  cases op <;> simp [kBox] at h
  rw [← h]
section
variable {P : Program} {w w' : World} {a : Act}
theorem ex_nil {o : Oper} {x : Operand} {ad : Addr} (h : kNil o.op = some x) (hx : a.eval x = .pointer (some ad)) : (execOp a.eval o).run P w = .ok (.value (.pointer (some ad))) w := by
  unfold execOp
  rw [kNil_out h]
  simp only [hx]
  rfl
theorem ex_box {o : Oper} {t : TypeId} {x : Operand} {vx v : Value} (h : kBox o.op = some (t, x)) (hx : a.eval x = vx) (hr : (Instr.box t vx).run P w = .ok v w') : (execOp a.eval o).run P w = .ok (.value v) w' := by
  unfold execOp; rw [kBox_out h]; subst hx; simp [hr]
theorem ex_assign {o : Oper} {x : Operand} {v : Value} (h : kAssign o.op = some x) (hv : a.eval x = v) : (execOp a.eval o).run P w = .ok (.value v) w := by
  unfold execOp; rw [kAssign_out h]; subst hv; rfl
end
theorem store64_ok (a : Addr) (n y : Int) (w : World) (hc : w.cell? a = some (.int .i64 n)) (hz : w.frozen? a = false) :
    Calls Tryz.prog 36 #[.pointer (some a), .int .i64 y] w fun e w' => e = .returned (.tuple #[]) ∧ w' = w.setCell a (.int .i64 y) := by
  have hst := run_call_store (P := Tryz.prog) Tryz.func66 (by kernel_rfl) (by kernel_rfl) (by kernel_rfl) (by kernel_rfl) (k := .i64) (y := y) hc hz
  go_enter Tryz.func36, Tryz.ntmps36
  go_wp2
  go_end0
  exact ⟨rfl, rfl⟩
/-- Behind both directories' copies. -/
structure CopyMid (F D : Nat → Prop) (st : FSt) (mc : Nat) (wc W : World) (mo1 mo2 : Nat) (φ : List (Nat × Nat)) (d1 d2 : Dir) : Prop where
  fr : Fr (· = mc) wc W
  c1 : wc.heap.size ≤ mo1
  c2 : wc.heap.size ≤ mo2
  ne : mo1 ≠ mo2
  seen : MapG Value.string ekP W mo1 d1
  safe : MapG Value.string ekP W mo2 d2
  copies : Copies W F D mc st mc φ
  p1 : d1.Perm (toC φ st.seen)
  p2 : d2.Perm (toC φ st.safe)
  i1 : ∀ p ∈ st.seen, (dget φ p.2).isSome = true
  i2 : ∀ p ∈ st.safe, (dget φ p.2).isSome = true
theorem isSome_ext {φ φ' : List (Nat × Nat)} (h : Ext φ φ') {d : Dir} (hd : ∀ p ∈ d, (dget φ p.2).isSome = true) : ∀ p ∈ d, (dget φ' p.2).isSome = true := fun p hp => by
  obtain ⟨b, hb⟩ := Option.isSome_iff_exists.1 (hd p hp)
  rw [h _ _ hb]; rfl
set_option maxHeartbeats 1000000 in
set_option maxRecDepth 100000 in
theorem fsCopy_ok {F D : Nat → Prop} {sb : Nat} {st : FSt} (w : World) (h : FSr w F D sb st) (hlen : st.chg.length ≤ 1000000) :
    Calls Tryz.prog 9 #[.pointer (some ⟨sb, 0, none⟩)] w fun e w' => ∃ cb, e = .returned (.pointer (some ⟨cb, 0, none⟩)) ∧ ∃ st' φ F' D', FSr w' F' D' cb st' ∧ CopyOf st st' φ ∧ (∀ k, F' k → w.heap.size ≤ k) ∧ (∀ k, D' k → (D k ∧ ¬ F k) ∨ w.heap.size ≤ k) ∧ Below w.heap.size w w' := by
  have hmm := @run_makeMap Tryz.prog
  have mixed : Tryz.prog.follows .mixedOrders = true := by kernel_rfl
  obtain ⟨m1, m2, ca, cc, ho⟩ := h.lies
  have hba : Below w.heap.size w (w.alloc (.map #[] 0)) := (Below.refl _ _).alloc (Nat.le_refl _) _
  have HH := hid h
  have HO := hid ho
  clear h ho
  go_enter Tryz.func9, Tryz.ntmps9
  go_wp2_with fail
  obtain ⟨wc, hwc⟩ : ∃ wc, wc = w.alloc (.map #[] 0) := ⟨_, rfl⟩
  rw [← hwc] at hba ⊢
  have hzc : wc.heap.size = w.heap.size + 1 := by rw [hwc]; simp
  have HMC := hid (show MapG ekP ekP wc w.heap.size [] from by rw [hwc]; exact MapG.made)
  have HHc := hid (HH.out.below hba)
  have HOc := hid (HO.out.below hba)
  generalize hmc : w.heap.size = mc at *
  have HS0 := hid (show Fr (· = mc) wc wc.drew from (Fr.refl _ wc).drew)
  have hsbm : sb ≠ mc := by
    have := lt_of_heap HO.out.head
    omega
  have HEADW := hid (show ∀ W, Fr (· = mc) wc W → W.heap[sb]? = some (.cells (fsC st m1 m2 (.slice ca st.chg.length cc)) 62 (0, 0)) from fun W hW => hW.heap HOc.out.head hsbm)
  have FA0 := hid (show ∀ W, (Instr.fieldAt 62 (.pointer (some ⟨sb, 0, none⟩)) 0).run Tryz.prog W = .ok (.pointer (some ⟨sb, 0, none⟩)) W from fun W => by go_simp)
  have FA1 := hid (show ∀ W, (Instr.fieldAt 62 (.pointer (some ⟨sb, 0, none⟩)) 1).run Tryz.prog W = .ok (.pointer (some ⟨sb, 1, none⟩)) W from fun W => by go_simp)
  have FA2 := hid (show ∀ W, (Instr.fieldAt 62 (.pointer (some ⟨sb, 0, none⟩)) 2).run Tryz.prog W = .ok (.pointer (some ⟨sb, 2, none⟩)) W from fun W => by go_simp)
  have FA4 := hid (show ∀ W, (Instr.fieldAt 62 (.pointer (some ⟨sb, 0, none⟩)) 4).run Tryz.prog W = .ok (.pointer (some ⟨sb, 4, none⟩)) W from fun W => by go_simp)
  have FA5 := hid (show ∀ W, (Instr.fieldAt 62 (.pointer (some ⟨sb, 0, none⟩)) 5).run Tryz.prog W = .ok (.pointer (some ⟨sb, 5, none⟩)) W from fun W => by go_simp)
  have FA6 := hid (show ∀ W, (Instr.fieldAt 62 (.pointer (some ⟨sb, 0, none⟩)) 6).run Tryz.prog W = .ok (.pointer (some ⟨sb, 6, none⟩)) W from fun W => by go_simp)
  have FL0 := hid (show ∀ W, Fr (· = mc) wc W → (Instr.loadAt 3 (.pointer (some ⟨sb, 0, none⟩))).run Tryz.prog W = .ok (.int .i64 st.room) W from fun W hW => by have hc : W.cell? ⟨sb, 0, none⟩ = some (.int .i64 st.room) := cell_of_heap (HEADW.out W hW) 0; go_simp)
  have FL1 := hid (show ∀ W, Fr (· = mc) wc W → (Instr.loadAt 54 (.pointer (some ⟨sb, 1, none⟩))).run Tryz.prog W = .ok (.map (some m1)) W from fun W hW => by have hc : W.cell? ⟨sb, 1, none⟩ = some (.map (some m1)) := cell_of_heap (HEADW.out W hW) 1; go_simp)
  have FL2 := hid (show ∀ W, Fr (· = mc) wc W → (Instr.loadAt 54 (.pointer (some ⟨sb, 2, none⟩))).run Tryz.prog W = .ok (.map (some m2)) W from fun W hW => by have hc : W.cell? ⟨sb, 2, none⟩ = some (.map (some m2)) := cell_of_heap (HEADW.out W hW) 2; go_simp)
  have FL4 := hid (show ∀ W, Fr (· = mc) wc W → (Instr.loadAt 3 (.pointer (some ⟨sb, 4, none⟩))).run Tryz.prog W = .ok (.int .i64 st.left) W from fun W hW => by have hc : W.cell? ⟨sb, 4, none⟩ = some (.int .i64 st.left) := cell_of_heap (HEADW.out W hW) 4; go_simp)
  have FL5 := hid (show ∀ W, Fr (· = mc) wc W → (Instr.loadAt 4 (.pointer (some ⟨sb, 5, none⟩))).run Tryz.prog W = .ok (.bool st.armed) W from fun W hW => by have hc : W.cell? ⟨sb, 5, none⟩ = some (.bool st.armed) := cell_of_heap (HEADW.out W hW) 5; go_simp)
  have FL6 := hid (show ∀ W, Fr (· = mc) wc W → (Instr.loadAt 4 (.pointer (some ⟨sb, 6, none⟩))).run Tryz.prog W = .ok (.bool st.down) W from fun W hW => by have hc : W.cell? ⟨sb, 6, none⟩ = some (.bool st.down) := cell_of_heap (HEADW.out W hW) 6; go_simp)
  refine hg_start (fun W => Fr (· = mc) wc W) 30 mixed ?_
  refine hgt 0 10 kMove (.tmp 0) (.pointer (some ⟨sb, 0, none⟩)) (by kernel_rfl) (by kernel_rfl) (by kernel_rfl) (by kernel_rfl) (by exact fun _ _ _ h => h) (by kernel_rfl) (by kernel_rfl) HS0.out (fun o w' ho hs => ex_move ho (by kernel_rfl)) ?_
  refine hgt 1 11 kNil (.tmp 10) (.pointer (some ⟨sb, 0, none⟩)) (by kernel_rfl) (by kernel_rfl) (by kernel_rfl) (by kernel_rfl) (by exact fun _ _ _ h => h) (by kernel_rfl) (by kernel_rfl) HS0.out (fun o w' ho hs => ex_nil ho (by kernel_rfl)) ?_
  refine hgt 2 12 kFA (62, .tmp 11, 0) (.pointer (some ⟨sb, 0, none⟩)) (by kernel_rfl) (by kernel_rfl) (by kernel_rfl) (by kernel_rfl) (by exact fun _ _ _ h => h) (by kernel_rfl) (by kernel_rfl) HS0.out (fun o w' ho hs => ex_fa ho (by kernel_rfl) (FA0.out _)) ?_
  refine hgt 3 13 kLoad (3, .tmp 12) (.int .i64 st.room) (by kernel_rfl) (by kernel_rfl) (by kernel_rfl) (by kernel_rfl) (by exact fun _ _ _ h => h) (by kernel_rfl) (by kernel_rfl) HS0.out (fun o w' ho hs => ex_load ho (by kernel_rfl) (FL0.out _ hs)) ?_
  refine hgt 4 14 kMove (.tmp 3) (.map (some mc)) (by kernel_rfl) (by kernel_rfl) (by kernel_rfl) (by kernel_rfl) (by exact fun _ _ _ h => h) (by kernel_rfl) (by kernel_rfl) HS0.out (fun o w' ho hs => ex_move ho (by kernel_rfl)) ?_
  refine hgt 5 15 kMove (.tmp 0) (.pointer (some ⟨sb, 0, none⟩)) (by kernel_rfl) (by kernel_rfl) (by kernel_rfl) (by kernel_rfl) (by exact fun _ _ _ h => h) (by kernel_rfl) (by kernel_rfl) HS0.out (fun o w' ho hs => ex_move ho (by kernel_rfl)) ?_
  refine hgt 6 16 kNil (.tmp 15) (.pointer (some ⟨sb, 0, none⟩)) (by kernel_rfl) (by kernel_rfl) (by kernel_rfl) (by kernel_rfl) (by exact fun _ _ _ h => h) (by kernel_rfl) (by kernel_rfl) HS0.out (fun o w' ho hs => ex_nil ho (by kernel_rfl)) ?_
  refine hgt 7 17 kFA (62, .tmp 16, 1) (.pointer (some ⟨sb, 1, none⟩)) (by kernel_rfl) (by kernel_rfl) (by kernel_rfl) (by kernel_rfl) (by exact fun _ _ _ h => h) (by kernel_rfl) (by kernel_rfl) HS0.out (fun o w' ho hs => ex_fa ho (by kernel_rfl) (FA1.out _)) ?_
  refine hgt 8 18 kLoad (54, .tmp 17) (.map (some m1)) (by kernel_rfl) (by kernel_rfl) (by kernel_rfl) (by kernel_rfl) (by exact fun _ _ _ h => h) (by kernel_rfl) (by kernel_rfl) HS0.out (fun o w' ho hs => ex_load ho (by kernel_rfl) (FL1.out _ hs)) ?_
  refine hgt 10 20 kMove (.tmp 3) (.map (some mc)) (by kernel_rfl) (by kernel_rfl) (by kernel_rfl) (by kernel_rfl) (by exact fun _ _ _ h => h) (by kernel_rfl) (by kernel_rfl) HS0.out (fun o w' ho hs => ex_move ho (by kernel_rfl)) ?_
  refine hgt 11 21 kMove (.tmp 0) (.pointer (some ⟨sb, 0, none⟩)) (by kernel_rfl) (by kernel_rfl) (by kernel_rfl) (by kernel_rfl) (by exact fun _ _ _ h => h) (by kernel_rfl) (by kernel_rfl) HS0.out (fun o w' ho hs => ex_move ho (by kernel_rfl)) ?_
  refine hgt 12 22 kNil (.tmp 21) (.pointer (some ⟨sb, 0, none⟩)) (by kernel_rfl) (by kernel_rfl) (by kernel_rfl) (by kernel_rfl) (by exact fun _ _ _ h => h) (by kernel_rfl) (by kernel_rfl) HS0.out (fun o w' ho hs => ex_nil ho (by kernel_rfl)) ?_
  refine hgt 13 23 kFA (62, .tmp 22, 2) (.pointer (some ⟨sb, 2, none⟩)) (by kernel_rfl) (by kernel_rfl) (by kernel_rfl) (by kernel_rfl) (by exact fun _ _ _ h => h) (by kernel_rfl) (by kernel_rfl) HS0.out (fun o w' ho hs => ex_fa ho (by kernel_rfl) (FA2.out _)) ?_
  refine hgt 14 24 kLoad (54, .tmp 23) (.map (some m2)) (by kernel_rfl) (by kernel_rfl) (by kernel_rfl) (by kernel_rfl) (by exact fun _ _ _ h => h) (by kernel_rfl) (by kernel_rfl) HS0.out (fun o w' ho hs => ex_load ho (by kernel_rfl) (FL2.out _ hs)) ?_
  refine hgt 16 26 kMove (.tmp 0) (.pointer (some ⟨sb, 0, none⟩)) (by kernel_rfl) (by kernel_rfl) (by kernel_rfl) (by kernel_rfl) (by exact fun _ _ _ h => h) (by kernel_rfl) (by kernel_rfl) HS0.out (fun o w' ho hs => ex_move ho (by kernel_rfl)) ?_
  refine hgt 17 27 kNil (.tmp 26) (.pointer (some ⟨sb, 0, none⟩)) (by kernel_rfl) (by kernel_rfl) (by kernel_rfl) (by kernel_rfl) (by exact fun _ _ _ h => h) (by kernel_rfl) (by kernel_rfl) HS0.out (fun o w' ho hs => ex_nil ho (by kernel_rfl)) ?_
  refine hgt 18 28 kFA (62, .tmp 27, 4) (.pointer (some ⟨sb, 4, none⟩)) (by kernel_rfl) (by kernel_rfl) (by kernel_rfl) (by kernel_rfl) (by exact fun _ _ _ h => h) (by kernel_rfl) (by kernel_rfl) HS0.out (fun o w' ho hs => ex_fa ho (by kernel_rfl) (FA4.out _)) ?_
  refine hgt 19 29 kLoad (3, .tmp 28) (.int .i64 st.left) (by kernel_rfl) (by kernel_rfl) (by kernel_rfl) (by kernel_rfl) (by exact fun _ _ _ h => h) (by kernel_rfl) (by kernel_rfl) HS0.out (fun o w' ho hs => ex_load ho (by kernel_rfl) (FL4.out _ hs)) ?_
  refine hgt 20 30 kMove (.tmp 0) (.pointer (some ⟨sb, 0, none⟩)) (by kernel_rfl) (by kernel_rfl) (by kernel_rfl) (by kernel_rfl) (by exact fun _ _ _ h => h) (by kernel_rfl) (by kernel_rfl) HS0.out (fun o w' ho hs => ex_move ho (by kernel_rfl)) ?_
  refine hgt 21 31 kNil (.tmp 30) (.pointer (some ⟨sb, 0, none⟩)) (by kernel_rfl) (by kernel_rfl) (by kernel_rfl) (by kernel_rfl) (by exact fun _ _ _ h => h) (by kernel_rfl) (by kernel_rfl) HS0.out (fun o w' ho hs => ex_nil ho (by kernel_rfl)) ?_
  refine hgt 22 32 kFA (62, .tmp 31, 5) (.pointer (some ⟨sb, 5, none⟩)) (by kernel_rfl) (by kernel_rfl) (by kernel_rfl) (by kernel_rfl) (by exact fun _ _ _ h => h) (by kernel_rfl) (by kernel_rfl) HS0.out (fun o w' ho hs => ex_fa ho (by kernel_rfl) (FA5.out _)) ?_
  refine hgt 23 33 kLoad (4, .tmp 32) (.bool st.armed) (by kernel_rfl) (by kernel_rfl) (by kernel_rfl) (by kernel_rfl) (by exact fun _ _ _ h => h) (by kernel_rfl) (by kernel_rfl) HS0.out (fun o w' ho hs => ex_load ho (by kernel_rfl) (FL5.out _ hs)) ?_
  refine hgt 24 34 kMove (.tmp 0) (.pointer (some ⟨sb, 0, none⟩)) (by kernel_rfl) (by kernel_rfl) (by kernel_rfl) (by kernel_rfl) (by exact fun _ _ _ h => h) (by kernel_rfl) (by kernel_rfl) HS0.out (fun o w' ho hs => ex_move ho (by kernel_rfl)) ?_
  refine hgt 25 35 kNil (.tmp 34) (.pointer (some ⟨sb, 0, none⟩)) (by kernel_rfl) (by kernel_rfl) (by kernel_rfl) (by kernel_rfl) (by exact fun _ _ _ h => h) (by kernel_rfl) (by kernel_rfl) HS0.out (fun o w' ho hs => ex_nil ho (by kernel_rfl)) ?_
  refine hgt 26 36 kFA (62, .tmp 35, 6) (.pointer (some ⟨sb, 6, none⟩)) (by kernel_rfl) (by kernel_rfl) (by kernel_rfl) (by kernel_rfl) (by exact fun _ _ _ h => h) (by kernel_rfl) (by kernel_rfl) HS0.out (fun o w' ho hs => ex_fa ho (by kernel_rfl) (FA6.out _)) ?_
  refine hgt 27 37 kLoad (4, .tmp 36) (.bool st.down) (by kernel_rfl) (by kernel_rfl) (by kernel_rfl) (by kernel_rfl) (by exact fun _ _ _ h => h) (by kernel_rfl) (by kernel_rfl) HS0.out (fun o w' ho hs => ex_load ho (by kernel_rfl) (FL6.out _ hs)) ?_
  have e_cp : ∀ args w, (callFunc 34 args).run Tryz.prog w = .ok (.enter 34 args) w := enters_of Tryz.func34 rfl rfl
  have hDm : ∀ k, D k → k < mc := fun k hk => by have := HH.out.lt k hk; omega
  have hm1 : m1 < mc := by have := HO.out.seen.lt; omega
  have hm2 : m2 < mc := by have := HO.out.safe.lt; omega
  have hok := HH.out.ok
  have CN1 := hid (fun W φ (hW : Fr (· = mc) wc W) (hC : Copies W F D mc st mc φ) => cpNames_ok W (HHc.out.fr hW (fun k hk e => by have := hDm k hk; omega)) hDm (by have := hW.size; omega) hC (HOc.out.seen.fr hW (by omega)) hm1 (fun p hp => (hok.seenI p hp).1))
  have CN2 := hid (fun W φ (hW : Fr (· = mc) wc W) (hC : Copies W F D mc st mc φ) => cpNames_ok W (HHc.out.fr hW (fun k hk e => by have := hDm k hk; omega)) hDm (by have := hW.size; omega) hC (HOc.out.safe.fr hW (by omega)) hm2 (fun p hp => (hok.safeI p hp).1))
  have HC0 : Copies wc.drew F D mc st mc [] := ⟨HMC.out.fr ((Fr.refl (fun _ => False) wc).drew) id, Nat.le_refl _, by simp, fun _ _ h => by simp at h⟩
  refine hg1 9 (by kernel_rfl) ?_
  refine hg_call 19 34 [.tmp 14, .tmp 18] [.map (some mc), .map (some m1)] (by kernel_rfl) (by kernel_rfl) e_cp (CN1.out wc.drew [] HS0.out HC0) ?_
  rintro e w1 ⟨mo1, rfl, φ1, d1, a1, a2, a3, a4, a5, a6, a7⟩
  have hS1 := HS0.out.trans a7
  refine ⟨_, rfl, .inr hS1, ?_⟩
  refine hg1 15 (by kernel_rfl) ?_
  refine hg_call 25 34 [.tmp 20, .tmp 24] [.map (some mc), .map (some m2)] (by kernel_rfl) (by kernel_rfl) e_cp (CN2.out w1 φ1 hS1 a3) ?_
  rintro e W ⟨mo2, rfl, φ, d2, b1, b2, b3, b4, b5, b6, b7⟩
  have hS2 := hS1.trans b7
  refine ⟨_, rfl, .inr hS2, ?_⟩
  have z1 : wc.heap.size ≤ mo1 := a1
  have z2 := a2.lt
  have z3 := hS1.size
  have HM := hid (show CopyMid F D st mc wc W mo1 mo2 φ d1 d2 from ⟨hS2, z1, Nat.le_trans z3 b1, by omega, a2.fr b7 (by omega), b2, b3, by rw [toC_ext b6 a5]; exact a4, b4, isSome_ext b6 a5, b5⟩)
  clear a1 a2 a3 a4 a5 a6 a7 b1 b2 b3 b4 b5 b6 b7 z1 z2 z3 hS1 CN1 CN2 HC0 FL0 FL1 FL2 FL4 FL5 FL6 FA0 FA1 FA2 FA4 FA5 FA6
  have FB := hid (show ∀ W, (Instr.build 62 #[(0, .int .i64 st.room), (1, .map (some mo1)), (2, .map (some mo2)), (4, .int .i64 st.left), (5, .bool st.armed), (6, .bool st.down)]).run Tryz.prog W = .ok (.agg #[.int .i64 st.room, .map (some mo1), .map (some mo2), .slice none 0 0, .int .i64 st.left, .bool st.armed, .bool st.down, .int .i64 0]) W from fun W => by go_simp)
  have FX := hid (show ∀ W, (Instr.box 62 (.agg #[.int .i64 st.room, .map (some mo1), .map (some mo2), .slice none 0 0, .int .i64 st.left, .bool st.armed, .bool st.down, .int .i64 0])).run Tryz.prog W = .ok (.pointer (some ⟨W.heap.size, 0, none⟩)) (W.alloc (.cells #[.int .i64 st.room, .map (some mo1), .map (some mo2), .slice none 0 0, .int .i64 st.left, .bool st.armed, .bool st.down, .int .i64 0] 62)) from fun W => by go_simp)
  refine hg1 28 (by kernel_rfl) ?_
  refine hg_val 38 kBuild (62, [(0, .tmp 13), (1, .tmp 19), (2, .tmp 25), (4, .tmp 29), (5, .tmp 33), (6, .tmp 37)]) _ (by kernel_rfl) (fun o ho => ex_build (vs := [(0, .int .i64 st.room), (1, .map (some mo1)), (2, .map (some mo2)), (4, .int .i64 st.left), (5, .bool st.armed), (6, .bool st.down)]) ho (by kernel_rfl) (FB.out _)) (.inr hS2) ?_
  refine hg1 29 (by kernel_rfl) ?_
  refine hg_val 39 kBox (62, .tmp 38) _ (by kernel_rfl) (fun o ho => ex_box ho (by kernel_rfl) (FX.out _)) (.inr (hS2.alloc _)) ?_
  refine hg1 30 (by kernel_rfl) ?_
  refine hg_val 4 kAssign (.tmp 39) (.pointer (some ⟨W.heap.size, 0, none⟩)) (by kernel_rfl) (fun o ho => ex_assign ho (by kernel_rfl)) (.inl rfl) ?_
  refine hg_done (by kernel_rfl) ?_
  obtain ⟨wn, hwn⟩ : ∃ wn, W.alloc (.cells #[.int .i64 st.room, .map (some mo1), .map (some mo2), .slice none 0 0, .int .i64 st.left, .bool st.armed, .bool st.down, .int .i64 0] 62) = wn := ⟨_, rfl⟩
  have hbn : Below W.heap.size W wn := by rw [← hwn]; exact (Below.refl _ _).alloc (Nat.le_refl _) _
  have hhn : wn.heap[W.heap.size]? = some (.cells (fsC (midF st φ d1 d2 0 0) mo1 mo2 (.slice none 0 0)) 62 (0, 0)) := by rw [← hwn]; exact heap_alloc_new W _
  rw [hwn]
  have hfn : Fr (fun _ => False) W wn := Fr.of_below hbn
  have hSrc : FSo wn F D sb st m1 m2 (.slice ca st.chg.length cc) := (HOc.out.fr hS2 (fun k hk e => by have := hDm k hk; omega)).fr hfn (fun _ _ => id)
  have hsz2 : wc.heap.size ≤ W.heap.size := hS2.size
  have HCn := hid (HM.out.copies.fr hfn id (fun _ _ _ => id) (fun _ _ _ => id))
  have HNEW := hid (show FSo wn (fun k => mc ≤ k) (fun k => (D k ∧ ¬ F k) ∨ mc ≤ k) W.heap.size (midF st φ d1 d2 0 0) mo1 mo2 (.slice none 0 0) from {
    head := hhn
    self := by omega
    f1 := by have := HM.out.c1; omega
    f2 := by have := HM.out.c2; omega
    ne := HM.out.ne
    seen := HM.out.seen.fr hfn id
    safe := HM.out.safe.fr hfn id
    own := Own.nil _ _ _ _
    hm := fun k hk => by obtain ⟨off, m, c, hv, hc⟩ := hk; cases hv
    files := HCn.out.files hDm
    sub := fun k hk => .inr hk })
  have HSRC := hid hSrc
  have c3 : wn.cell? ⟨sb, 3, none⟩ = some (.slice ca st.chg.length cc) := cell_of_heap hSrc.head 3
  have HBN := hid hbn
  have HS2 := hid hS2
  clear hwn hbn hhn hfn hSrc hS2 FB FX
  generalize hcb : W.heap.size = cb at *
  go_wp2
  go_loopg [45] st.chg.length (fun kx s45 wr => ∃ (i : Nat) (φr : List (Nat × Nat)) (ca' : Option Addr) (cc' : Nat), s45 = .int .i64 i ∧ i ≤ st.chg.length ∧ st.chg.length - i ≤ kx ∧ Hid (Ext φ φr) ∧ Hid (Copies wr F D mc st mc φr) ∧ Hid (∀ c ∈ st.chg.take i, ∀ p, c.dst = some p → (dget φr p).isSome = true) ∧ Hid (FSo wr (fun k => mc ≤ k) (fun k => (D k ∧ ¬ F k) ∨ mc ≤ k) cb (midF st φr d1 d2 i 0) mo1 mo2 (.slice ca' i cc')) ∧ Hid (Fr (fun k => mc ≤ k) wn wr))
  case atStart => exact ⟨0, φ, none, 0, rfl, Nat.zero_le _, Nat.le_refl _, hid (fun _ _ h => h), HCn, hid (by simp), HNEW, hid (Fr.refl _ _)⟩
  case round =>
    obtain ⟨i, φr, ca', cc', rfl, hi, hk, HE, HC, HIC, HN, HFR⟩ := hrel
    by_cases hlt : i < st.chg.length
    · obtain ⟨c, hc⟩ : ∃ c, st.chg[i]? = some c := ⟨_, List.getElem?_eq_getElem hlt⟩
      have hSO : FSo wr F D sb st m1 m2 (.slice ca st.chg.length cc) := HSRC.out.fr HFR.out (fun k hk h => by have := hDm k hk; omega)
      obtain ⟨g, rfl⟩ : ∃ g, ca = some ⟨g, 0, none⟩ := by
        rcases hSO.own.2 with ⟨h0, a, ha⟩ | ⟨g, cap, cur, hv, _⟩
        · have h0' : st.chg.length = 0 := h0
          omega
        · injection hv with e1 _ _; exact ⟨g, e1⟩
      obtain ⟨PV, hPV⟩ : ∃ PV, PV = c.dst.map fun p => (⟨p, 0, none⟩ : Addr) := ⟨_, rfl⟩
      obtain ⟨r0, r1, r2⟩ := own_chg hSO.own rfl hc
      rw [← hPV] at r2
      have HPV := hid hPV
      have HC9 := hid hc
      have hlt' : (i : Int) < (st.chg.length : Int) := by omega
      have hSr : FSr wr F D sb st := ((HHc.out.fr HS2.out (fun k hk e => by have := hDm k hk; omega)).below (by rw [hcb]; exact HBN.out)).fr HFR.out (fun k hk h => by have := hDm k hk; omega)
      have HSR := hid hSr
      clear hPV hSr hSO
      go_wp2_with fail
      obtain ⟨wb, hwb⟩ : ∃ wb, wr.alloc (.cells #[.string c.nm, .string c.src, .pointer PV] 75) = wb := ⟨_, rfl⟩
      have hbb : Below wr.heap.size wr wb := by rw [← hwb]; exact (Below.refl _ _).alloc (Nat.le_refl _) _
      have hbx : wb.heap[wr.heap.size]? = some (.cells #[.string c.nm, .string c.src, .pointer PV] 75 (0, 0)) := by rw [← hwb]; exact heap_alloc_new wr _
      rw [hwb]
      have hmcr : mc < wr.heap.size := HC.out.map.lt
      have hNb := HN.out.below hbb
      have hcbr := lt_of_heap HN.out.head
      have hfb : Fr (fun _ => False) wr wb := Fr.of_below hbb
      have hCb : Copies wb.drew F D mc st mc φr := (HC.out.fr hfb id (fun _ _ _ => id) (fun _ _ _ => id)).fr ((Fr.refl (fun _ => False) wb).drew) id (fun _ _ _ => id) (fun _ _ _ => id)
      have hSb : FSr wb.drew F D sb st := (HSR.out.below hbb).fr ((Fr.refl (fun _ => False) wb).drew) (fun _ _ => id)
      have hcp : Calls Tryz.prog 35 #[.map (some mc), .pointer PV] wb.drew fun e w' => ∃ φ', e = .returned (.pointer (c.dst.map fun p => ⟨phi φ' p, 0, none⟩)) ∧ Copies w' F D mc st mc φ' ∧ Ext φr φ' ∧ (∀ p, c.dst = some p → (dget φ' p).isSome = true) ∧ Fr (· = mc) wb.drew w' := by
        rw [HPV.out]
        cases hd : c.dst with
        | none =>
          refine (cpFile_nil mc _).mono ?_
          rintro e w' ⟨rfl, rfl⟩
          exact ⟨φr, rfl, hCb, fun _ _ h => h, by simp, Fr.refl _ _⟩
        | some p =>
          obtain ⟨x, hx⟩ : ∃ x, st.files p = some x := Option.isSome_iff_exists.1 ((hok.chgI c (List.mem_iff_getElem?.2 ⟨i, HC9.out⟩)).2 p hd)
          refine (cpFile_ok wb.drew hSb hDm (by have := hbb.size; show mc ≤ wb.heap.size; omega) hCb hx).mono ?_
          rintro e w' ⟨q, rfl, φ', a1, a2, a3, a4⟩
          exact ⟨φ', by simp [phi_at a2], a1, a3, fun p' hp' => by cases hp'; rw [a2]; rfl, a4⟩
      have HCP := hid hcp
      have HNB := hid hNb
      have HBX := hid hbx
      have HBB := hid hbb
      have hS0 : Fr (fun k => k = mc ∨ mine (.slice ca' i cc') k) wb wb.drew := (Fr.refl _ wb).drew
      have hcbm : cb ≠ mc := by have := HM.out.c1; have := HS2.out.size; omega
      have HHC := hid (show ∀ W, Fr (fun k => k = mc ∨ mine (.slice ca' i cc') k) wb W → W.heap[cb]? = some (.cells (fsC (midF st φr d1 d2 i 0) mo1 mo2 (.slice ca' i cc')) 62 (0, 0)) from fun W hW => hW.heap HNB.out.head (fun h => h.elim hcbm (fun hk => HNB.out.ne_own HNB.out.own hk rfl)))
      have HHB := hid (show ∀ W, Fr (fun k => k = mc ∨ mine (.slice ca' i cc') k) wb W → W.heap[wr.heap.size]? = some (.cells #[.string c.nm, .string c.src, .pointer PV] 75 (0, 0)) from fun W hW => hW.heap HBX.out (fun h => h.elim (fun e => by omega) (fun hk => by obtain ⟨cur, hc⟩ := own_mine HN.out.own hk; have := lt_of_heap hc; omega)))
      have GA3 := hid (show ∀ W, (Instr.fieldAt 62 (.pointer (some ⟨cb, 0, none⟩)) 3).run Tryz.prog W = .ok (.pointer (some ⟨cb, 3, none⟩)) W from fun W => by go_simp)
      have GL3 := hid (show ∀ W, Fr (fun k => k = mc ∨ mine (.slice ca' i cc') k) wb W → (Instr.loadAt 55 (.pointer (some ⟨cb, 3, none⟩))).run Tryz.prog W = .ok (.slice ca' i cc') W from fun W hW => by have hc : W.cell? ⟨cb, 3, none⟩ = some (.slice ca' i cc') := cell_of_heap (HHC.out W hW) 3; go_simp)
      refine hg_start (fun W => Fr (fun k => k = mc ∨ mine (.slice ca' i cc') k) wb W) 18 mixed ?_
      refine hgt 0 49 kMove (.tmp 4) (.pointer (some ⟨cb, 0, none⟩)) (by kernel_rfl) (by kernel_rfl) (by kernel_rfl) (by kernel_rfl) (by exact fun _ _ _ h => h) (by kernel_rfl) (by kernel_rfl) hS0 (fun o w' ho hs => ex_move ho (by kernel_rfl)) ?_
      refine hgt 1 50 kMove (.tmp 4) (.pointer (some ⟨cb, 0, none⟩)) (by kernel_rfl) (by kernel_rfl) (by kernel_rfl) (by kernel_rfl) (by exact fun _ _ _ h => h) (by kernel_rfl) (by kernel_rfl) hS0 (fun o w' ho hs => ex_move ho (by kernel_rfl)) ?_
      refine hgt 2 51 kNil (.tmp 50) (.pointer (some ⟨cb, 0, none⟩)) (by kernel_rfl) (by kernel_rfl) (by kernel_rfl) (by kernel_rfl) (by exact fun _ _ _ h => h) (by kernel_rfl) (by kernel_rfl) hS0 (fun o w' ho hs => ex_nil ho (by kernel_rfl)) ?_
      refine hgt 3 52 kFA (62, .tmp 51, 3) (.pointer (some ⟨cb, 3, none⟩)) (by kernel_rfl) (by kernel_rfl) (by kernel_rfl) (by kernel_rfl) (by exact fun _ _ _ h => h) (by kernel_rfl) (by kernel_rfl) hS0 (fun o w' ho hs => ex_fa ho (by kernel_rfl) (GA3.out _)) ?_
      refine hgt 4 53 kLoad (55, .tmp 52) (.slice ca' i cc') (by kernel_rfl) (by kernel_rfl) (by kernel_rfl) (by kernel_rfl) (by exact fun _ _ _ h => h) (by kernel_rfl) (by kernel_rfl) hS0 (fun o w' ho hs => ex_load ho (by kernel_rfl) (GL3.out _ hs)) ?_
      have BA := hid (show ∀ (j : Nat) W, (Instr.fieldAt 75 (.pointer (some ⟨wr.heap.size, 0, none⟩)) 0).run Tryz.prog W = .ok (.pointer (some ⟨wr.heap.size, 0, none⟩)) W from fun _ W => by go_simp)
      have BA1 := hid (show ∀ W, (Instr.fieldAt 75 (.pointer (some ⟨wr.heap.size, 0, none⟩)) 1).run Tryz.prog W = .ok (.pointer (some ⟨wr.heap.size, 1, none⟩)) W from fun W => by go_simp)
      have BA2 := hid (show ∀ W, (Instr.fieldAt 75 (.pointer (some ⟨wr.heap.size, 0, none⟩)) 2).run Tryz.prog W = .ok (.pointer (some ⟨wr.heap.size, 2, none⟩)) W from fun W => by go_simp)
      have BL0 := hid (show ∀ W, Fr (fun k => k = mc ∨ mine (.slice ca' i cc') k) wb W → (Instr.loadAt 9 (.pointer (some ⟨wr.heap.size, 0, none⟩))).run Tryz.prog W = .ok (.string c.nm) W from fun W hW => by have hc : W.cell? ⟨wr.heap.size, 0, none⟩ = some (.string c.nm) := cell_of_heap (HHB.out W hW) 0; go_simp)
      have BL1 := hid (show ∀ W, Fr (fun k => k = mc ∨ mine (.slice ca' i cc') k) wb W → (Instr.loadAt 9 (.pointer (some ⟨wr.heap.size, 1, none⟩))).run Tryz.prog W = .ok (.string c.src) W from fun W hW => by have hc : W.cell? ⟨wr.heap.size, 1, none⟩ = some (.string c.src) := cell_of_heap (HHB.out W hW) 1; go_simp)
      have BL2 := hid (show ∀ W, Fr (fun k => k = mc ∨ mine (.slice ca' i cc') k) wb W → (Instr.loadAt 73 (.pointer (some ⟨wr.heap.size, 2, none⟩))).run Tryz.prog W = .ok (.pointer PV) W from fun W hW => by have hc : W.cell? ⟨wr.heap.size, 2, none⟩ = some (.pointer PV) := cell_of_heap (HHB.out W hW) 2; go_simp)
      refine hgt 5 54 kFA (75, .tmp 6, 0) (.pointer (some ⟨wr.heap.size, 0, none⟩)) (by kernel_rfl) (by kernel_rfl) (by kernel_rfl) (by kernel_rfl) (by exact fun _ _ _ h => h) (by kernel_rfl) (by kernel_rfl) hS0 (fun o w' ho hs => ex_fa ho (by kernel_rfl) (BA.out 0 _)) ?_
      refine hgt 6 55 kLoad (9, .tmp 54) (.string c.nm) (by kernel_rfl) (by kernel_rfl) (by kernel_rfl) (by kernel_rfl) (by exact fun _ _ _ h => h) (by kernel_rfl) (by kernel_rfl) hS0 (fun o w' ho hs => ex_load ho (by kernel_rfl) (BL0.out _ hs)) ?_
      refine hgt 7 56 kFA (75, .tmp 6, 1) (.pointer (some ⟨wr.heap.size, 1, none⟩)) (by kernel_rfl) (by kernel_rfl) (by kernel_rfl) (by kernel_rfl) (by exact fun _ _ _ h => h) (by kernel_rfl) (by kernel_rfl) hS0 (fun o w' ho hs => ex_fa ho (by kernel_rfl) (BA1.out _)) ?_
      refine hgt 8 57 kLoad (9, .tmp 56) (.string c.src) (by kernel_rfl) (by kernel_rfl) (by kernel_rfl) (by kernel_rfl) (by exact fun _ _ _ h => h) (by kernel_rfl) (by kernel_rfl) hS0 (fun o w' ho hs => ex_load ho (by kernel_rfl) (BL1.out _ hs)) ?_
      refine hgt 9 58 kMove (.tmp 3) (.map (some mc)) (by kernel_rfl) (by kernel_rfl) (by kernel_rfl) (by kernel_rfl) (by exact fun _ _ _ h => h) (by kernel_rfl) (by kernel_rfl) hS0 (fun o w' ho hs => ex_move ho (by kernel_rfl)) ?_
      refine hgt 10 59 kFA (75, .tmp 6, 2) (.pointer (some ⟨wr.heap.size, 2, none⟩)) (by kernel_rfl) (by kernel_rfl) (by kernel_rfl) (by kernel_rfl) (by exact fun _ _ _ h => h) (by kernel_rfl) (by kernel_rfl) hS0 (fun o w' ho hs => ex_fa ho (by kernel_rfl) (BA2.out _)) ?_
      refine hgt 11 60 kLoad (73, .tmp 59) (.pointer PV) (by kernel_rfl) (by kernel_rfl) (by kernel_rfl) (by kernel_rfl) (by exact fun _ _ _ h => h) (by kernel_rfl) (by kernel_rfl) hS0 (fun o w' ho hs => ex_load ho (by kernel_rfl) (BL2.out _ hs)) ?_
      have e_cf : ∀ args w, (callFunc 35 args).run Tryz.prog w = .ok (.enter 35 args) w := enters_of Tryz.func35 rfl rfl
      refine hg1 12 (by kernel_rfl) ?_
      refine hg_call 61 35 [.tmp 58, .tmp 60] [.map (some mc), .pointer PV] (by kernel_rfl) (by kernel_rfl) e_cf HCP.out ?_
      rintro e w2 ⟨φ', rfl, a1, a2, a3, a4⟩
      have hS2' : Fr (fun k => k = mc ∨ mine (.slice ca' i cc') k) wb w2 := hS0.trans (a4.mono (fun k _ e => .inl e))
      refine ⟨_, rfl, .inr hS2', ?_⟩
      obtain ⟨QV, hQV⟩ : ∃ QV, QV = c.dst.map fun p => (⟨phi φ' p, 0, none⟩ : Addr) := ⟨_, rfl⟩
      rw [← hQV]
      have FB := hid (show ∀ W, (Instr.build 75 #[(0, .string c.nm), (1, .string c.src), (2, .pointer QV)]).run Tryz.prog W = .ok (.agg #[.string c.nm, .string c.src, .pointer QV]) W from fun W => by go_simp)
      have FX := hid (show ∀ W, (Instr.buildSlice 55 1 #[(0, .agg #[.string c.nm, .string c.src, .pointer QV])]).run Tryz.prog W = .ok (.slice (some ⟨W.heap.size, 0, none⟩) 1 1) (W.alloc (.cells #[.string c.nm, .string c.src, .pointer QV] 75)) from fun W => by go_simp)
      refine hg1 13 (by kernel_rfl) ?_
      refine hg_val 62 kBuild (75, [(0, .tmp 55), (1, .tmp 57), (2, .tmp 61)]) _ (by kernel_rfl) (fun o ho => ex_build (vs := [(0, .string c.nm), (1, .string c.src), (2, .pointer QV)]) ho (by kernel_rfl) (FB.out _)) (.inr hS2') ?_
      refine hg1 14 (by kernel_rfl) ?_
      refine hg_val 63 kBS (55, 1, [(0, .tmp 62)]) _ (by kernel_rfl) (fun o ho => ex_bs (vs := [(0, .agg #[.string c.nm, .string c.src, .pointer QV])]) ho (by kernel_rfl) (FX.out _)) (.inr (hS2'.alloc _)) ?_
      refine hg1 15 (by kernel_rfl) ?_
      refine hg_app 64 (.tmp 53) (.tmp 63) 55 (.slice ca' i cc') (.slice (some ⟨w2.heap.size, 0, none⟩) 1 1) (by kernel_rfl) (by kernel_rfl) (by kernel_rfl) (fun ty => ?_)
      have hlen0 : ((st.chg.take i).map (chgCopy φ')).length = i := by simp; omega
      have hmm2 : ∀ k, mine (.slice ca' i cc') k → k ≠ mc := fun k hk e => by
        obtain ⟨cur, hcur⟩ := own_mine HNB.out.own hk
        obtain ⟨es, _, hmp, _⟩ := hCb.map
        have h9 : wb.heap[mc]? = some _ := hmp
        rw [e, h9] at hcur
        cases hcur
      have hext : (st.chg.take i).map (chgCopy φ') = (st.chg.take i).map (chgCopy φr) := mid_chg_ext a2 HIC.out
      have f2 : Fr (· = mc) wb w2 := ((Fr.refl (· = mc) wb).drew).trans a4
      have hN2 : FSo w2 (fun k => mc ≤ k) (fun k => (D k ∧ ¬ F k) ∨ mc ≤ k) cb (midF st φ' d1 d2 i 0) mo1 mo2 (.slice ca' i cc') := {
        head := f2.heap HNB.out.head hcbm
        self := HNB.out.self
        f1 := HNB.out.f1
        f2 := HNB.out.f2
        ne := HNB.out.ne
        seen := HNB.out.seen.fr f2 (by have := HM.out.c1; omega)
        safe := HNB.out.safe.fr f2 (by have := HM.out.c2; omega)
        own := by
          have h9 := HNB.out.own.fr f2 hmm2
          show Own w2 0 75 3 _ ((st.chg.take i).map (chgCopy φ')).length (((st.chg.take i).map (chgCopy φ')).flatMap chgC)
          rw [hext]
          exact h9
        hm := HNB.out.hm
        files := a1.files hDm
        sub := HNB.out.sub }
      have hcc : (chgC (chgCopy φ' c)).toArray = #[.string c.nm, .string c.src, .pointer QV] := by rw [hQV]; simp [chgC, chgCopy]; cases c.dst <;> rfl
      have hba : Below w2.heap.size w2 (w2.alloc (.cells #[.string c.nm, .string c.src, .pointer QV] 75)) := (Below.refl _ w2).alloc (Nat.le_refl _) _
      have ha := hN2.below hba
      have hrow : Row (fun _ => False) (w2.alloc (.cells #[.string c.nm, .string c.src, .pointer QV] 75)) (.slice (some ⟨w2.heap.size, 0, none⟩) 1 1) 1 3 (chgC (chgCopy φ' c)) := by
        refine ⟨rfl, _, 1, rfl, ⟨by omega, by omega, by unfold maxLen; omega⟩, (fun h => nomatch h), .inr ⟨w2.heap.size, 0, rfl, by simp, id, fun j x hx => ?_⟩⟩
        have h9 := cell_of_heap (heap_alloc_new w2 (.cells #[.string c.nm, .string c.src, .pointer QV] 75)) j
        rw [Nat.zero_add]
        refine h9.trans ?_
        rw [← hcc]
        simpa using hx
      have hown : Own (w2.alloc (.cells #[.string c.nm, .string c.src, .pointer QV] 75)) 0 75 3 (.slice ca' i cc') i (((st.chg.take i).map (chgCopy φ')).flatMap chgC) := by
        have h9 := ha.own
        have h8 : (midF st φ' d1 d2 i 0).chg.length = i := hlen0
        rw [h8] at h9
        exact h9
      obtain ⟨v5, w5, hrun, ho5, hf5, hm5⟩ := append_mine (ty := ty) etChg hown hrow (fun u hu => chgC_one [chgCopy φ' c] u (by simpa using hu)) (by omega) (Nat.zero_le _)
      obtain ⟨a5, c5, rfl, _⟩ := ho5.len
      have hS5 : Fr (fun k => k = mc ∨ mine (.slice ca' i cc') k) wb w5 := (hS2'.alloc _).trans (hf5.mono (fun k _ h => .inr h))
      refine ⟨_, _, hrun, .inr hS5, ?_⟩
      have c53 : w5.cell? ⟨cb, 3, none⟩ = some (.slice ca' i cc') := cell_of_heap (HHC.out _ hS5) 3
      have f53 := frozen_of (HHC.out _ hS5) 3
      have FST := hid (show (Instr.storeAt 55 (.pointer (some ⟨cb, 3, none⟩)) (.slice a5 (i + 1) c5)).run Tryz.prog w5 = .ok () (w5.setCell ⟨cb, 3, none⟩ (.slice a5 (i + 1) c5)) from by go_simp)
      refine hg1 16 (by kernel_rfl) ?_
      refine hg_val 65 kNil (.tmp 49) (.pointer (some ⟨cb, 0, none⟩)) (by kernel_rfl) (fun o ho => ex_nil ho (by kernel_rfl)) (.inr hS5) ?_
      refine hg1 17 (by kernel_rfl) ?_
      refine hg_val 66 kFA (62, .tmp 65, 3) (.pointer (some ⟨cb, 3, none⟩)) (by kernel_rfl) (fun o ho => ex_fa ho (by kernel_rfl) (GA3.out _)) (.inr hS5) ?_
      refine hg1 18 (by kernel_rfl) ?_
      refine hg_store 55 (.tmp 66) (.tmp 64) (.pointer (some ⟨cb, 3, none⟩)) (.slice a5 (i + 1) c5) (by kernel_rfl) (by kernel_rfl) (by kernel_rfl) FST.out (.inl rfl) ?_
      refine hg_done (by kernel_rfl) ?_
      have hset := heap_store (HHC.out _ hS5) 3 (.slice a5 (i + 1) c5)
      have HA5 := hid ha
      have HO5 := hid ho5
      have HF5 := hid hf5
      have HM5 := hid hm5
      have HN2 := hid hN2
      have HA1 := hid a1
      have HA2 := hid a2
      have HA3 := hid a3
      have HF2 := hid f2
      have HSET := hid hset
      have HL0 := hid hlen0
      have HMM := hid hmm2
      clear ha ho5 hf5 hm5 hN2 a1 a2 a3 a4 f2 hset c53 f53 hrun hown hrow hba hcc hS0 hS2' hS5 hext r0 r1 r2
      go_wp2_with fail
      go_roundg (st.chg.length - (i + 1))
      case measure => omega
      case rel =>
        refine ⟨i + 1, φ', a5, c5, by go_num, hlt, Nat.le_refl _, hid (fun a b h => HA2.out a b (HE.out a b h)), hid ?_, hid ?_, hid ?_, hid ?_⟩
        · have hcb1 : mc ≤ cb := HNB.out.self
          have hfr : Fr (fun k => mine (.slice ca' i cc') k ∨ k = cb) w2 (w5.setCell ⟨cb, 3, none⟩ (.slice a5 (i + 1) c5)) := (((Fr.refl _ w2).alloc _).trans (HF5.out.mono (fun k _ h => .inl h))).setCell (fun _ => .inr rfl) _
          refine HA1.out.fr hfr (fun h => h.elim (fun h => HMM.out _ h rfl) (fun h => hcbm h.symm)) (fun p q hpq h => ?_) (fun k hk hnf h => ?_)
          · obtain ⟨_, x, v, _, hq, _⟩ := HA1.out.each p q hpq
            rcases h with h | rfl
            · obtain ⟨cur, hcur⟩ := own_mine HN2.out.own h
              rw [hcur] at hq
              injection hq with hq
              injection hq with _ hq _
              exact absurd hq (by decide)
            · have h9 := HN2.out.head
              rw [h9] at hq
              injection hq with hq
              injection hq with _ hq _
              exact absurd hq (by decide)
          · have h1 := hDm k hk
            rcases h with h | rfl
            · have h2 : mc ≤ k := HN2.out.hm k h
              omega
            · omega
        · intro d hd p hp
          rw [List.take_add_one, HC9.out, Option.toList_some, List.mem_append, List.mem_singleton] at hd
          rcases hd with hd | rfl
          · obtain ⟨b, hb⟩ := Option.isSome_iff_exists.1 (HIC.out d hd p hp)
            rw [HA2.out _ _ hb]; rfl
          · exact HA3.out p hp
        · have hln : ((st.chg.take i).map (chgCopy φ') ++ [chgCopy φ' c]).length = i + 1 := by rw [List.length_append, HL0.out]; rfl
          have ho6 : Own w5 0 75 3 (.slice a5 (i + 1) c5) ((st.chg.take i).map (chgCopy φ') ++ [chgCopy φ' c]).length (((st.chg.take i).map (chgCopy φ') ++ [chgCopy φ' c]).flatMap chgC) := by
            have h9 := HO5.out
            rw [hln]
            simpa using h9
          have h9 := HA5.out.setChg (w' := w5.setCell ⟨cb, 3, none⟩ (.slice a5 (i + 1) c5)) HF5.out ho6 (fun k hk => (HM5.out k hk).elim (fun hk => HN2.out.hm k hk) (fun hk => by
            show mc ≤ k
            have h1 := HF2.out.size
            have h2 := HBB.out.size
            have h3 : w2.heap.size ≤ k := Nat.le_trans (by simp) hk
            omega)) ((Fr.refl (· = cb) w5).setCell (fun _ => rfl) _) (HSET.out.trans rfl)
          have he : midF st φ' d1 d2 (i + 1) 0 = { midF st φ' d1 d2 i 0 with chg := (st.chg.take i).map (chgCopy φ') ++ [chgCopy φ' c] } := by
            unfold midF
            rw [List.take_add_one, HC9.out, Option.toList_some, List.map_append]
            rfl
          rw [he]
          exact h9
        · have g1 : Fr (fun k => mc ≤ k) wn wb := HFR.out.trans (Fr.of_below HBB.out)
          have g2 : Fr (fun k => mc ≤ k) wn w2 := g1.trans (HF2.out.mono (fun k _ e => by show mc ≤ k; omega))
          have g3 : Fr (fun k => mc ≤ k) wn w5 := (g2.alloc _).trans (HF5.out.mono (fun k _ h => HN2.out.hm k h))
          exact g3.setCell (fun _ => HNB.out.self) _
    · obtain rfl : i = st.chg.length := by omega
      have hSr : FSr wr F D sb st := ((HHc.out.fr HS2.out (fun k hk e => by have := hDm k hk; omega)).below (by rw [hcb]; exact HBN.out)).fr HFR.out (fun k hk h => by have := hDm k hk; omega)
      have hd := hSr.fr ((Fr.refl (fun _ => False) wr).drew) (fun _ _ => id)
      have HST := hid (fsSteps_ok wr.drew hd)
      have hNd := HN.out.fr ((Fr.refl (fun _ => False) wr).drew) (fun _ _ => id)
      have HSO := hid (store64_ok ⟨cb, 7, none⟩ 0 st.steps wr.drew (cell_of_heap hNd.head 7) (frozen_of hNd.head 7))
      have HFIN := hid (hNd.store (st' := midF st φr d1 d2 st.chg.length st.steps) 7 (.int .i64 st.steps) rfl rfl rfl rfl rfl)
      clear hSr hd hNd
      go_wp2_with fail
      go_region_law_o (first | (go_simp; go_at_call 37; refine HST.out.mono ?_; rintro e w2 ⟨rfl, rfl⟩) | (go_simp; go_at_call 36; refine HSO.out.mono ?_; rintro e w3 ⟨rfl, rfl⟩))
      go_wp2
      go_ret
      have hmem : st.chg.take st.chg.length = st.chg := List.take_length
      have hIC : ∀ c ∈ st.chg, ∀ p, c.dst = some p → (dget φr p).isSome = true := by
        have := HIC.out
        rwa [hmem] at this
      have hP1 : d1.Perm (toC φr st.seen) := by rw [toC_ext HE.out HM.out.i1]; exact HM.out.p1
      have hP2 : d2.Perm (toC φr st.safe) := by rw [toC_ext HE.out HM.out.i2]; exact HM.out.p2
      have hI1 := isSome_ext HE.out HM.out.i1
      have hI2 := isSome_ext HE.out HM.out.i2
      have hn := HC.out.inj
      have hok' := mid_ok (steps := st.steps) hok hn HM.out.seen.nodup HM.out.safe.nodup hP1 hP2 hI1 hI2 hIC
      have hcp := mid_copy hn hP1 hP2 hI1 hI2 hIC
      have hfin := HFIN.out.shut hok'
      subst hmc
      have hb1 : Below w.heap.size w W := Below.fr hba HS2.out (fun k hk e => by omega)
      have hb2 : Below w.heap.size w wn := by
        refine hb1.trans (HBN.out.mono ?_)
        have := HM.out.c1
        have := HS2.out.size
        omega
      have hb3 : Below w.heap.size w wr := Below.fr hb2 HFR.out (fun k hk e => by omega)
      have hb4 : Below w.heap.size w (wr.setCell ⟨cb, 7, none⟩ (.int .i64 st.steps)).drew := Below.fr hb3 (((Fr.refl (fun k => w.heap.size ≤ k) wr).setCell (fun _ => by show w.heap.size ≤ cb; have := HM.out.c1; have := HS2.out.size; omega) _).drew) (fun k hk e => by omega)
      rw [show (wr.setCell ⟨cb, 7, none⟩ (.int .i64 st.steps)).drew = wr.drew.setCell ⟨cb, 7, none⟩ (.int .i64 st.steps) from rfl] at hb4 ⊢
      exact ⟨cb, rfl, _, _, _, _, hfin, hcp, fun k hk => hk.1, fun k hk => hk.1, hb4⟩
end Go.Proofs.YtgehalfnpbjjcaaGreat
