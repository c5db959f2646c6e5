/- A region that draws its order, walked by hand: one lemma for each kind of operation; what an operation is, is told by its number and settled by the kernel. -/
import Derived.RegionTactic
import Derived.WalkKit
namespace Go.Proofs.YtdbpkiddiehliaaGreat
open Go Go.RowKit
/-- What operation i is: its target, its kind, and that it is wanted. -/
def isOp {α : Type} (ops : Array Oper) (a : Act) (i : Nat) (k : Op → Option α) : Option (Option Tmp × Option α × Bool) := (ops[i]?).map fun o => (o.dst, k o.op, Region.wanted o (yielded ops a.tmps))
def kMove : Op → Option Operand
  | .move x => some x
  | _ => none
def kAssign : Op → Option Operand
  | .assign x => some x
  | _ => none
def kPick : Op → Option (Operand × Operand × Operand)
  | .pick c x y => some (c, x, y)
  | _ => none
def kLoad : Op → Option (TypeId × Operand)
  | .load t x => some (t, x)
  | _ => none
def kBin : Op → Option (BinOp × TypeId × Operand × Operand)
  | .binOp b t x y _ => some (b, t, x, y)
  | _ => none
def kCall : Op → Option (FuncId × List Operand)
  | .call { callee := .value (.func f), args := xs, .. } => some (f, xs.toList)
  | _ => none
theorem isOp_out {α : Type} {ops : Array Oper} {a : Act} {i : Nat} {k : Op → Option α} {d : Option Tmp} {x : α} (h : isOp ops a i k = some (d, some x, true)) : ∃ o, ops[i]? = some o ∧ o.dst = d ∧ k o.op = some x ∧ Region.wanted o (yielded ops a.tmps) = true := by
  unfold isOp at h
  cases ho : ops[i]? with
  | none => rw [ho] at h; cases h
  | some o =>
    rw [ho] at h
    simp only [Option.map_some, Option.some.injEq, Prod.mk.injEq] at h
    exact ⟨o, rfl, h⟩
theorem kMove_out {op : Op} {x : Operand} (h : kMove op = some x) : op = .move x := by
  cases op <;> simp [kMove] at h
  rw [h]
theorem kAssign_out {op : Op} {x : Operand} (h : kAssign op = some x) : op = .assign x := by
  cases op <;> simp [kAssign] at h
  rw [h]
theorem kPick_out {op : Op} {x : Operand × Operand × Operand} (h : kPick op = some x) : op = .pick x.1 x.2.1 x.2.2 := by
  cases op <;> simp [kPick] at h
  rw [← h]
theorem kLoad_out {op : Op} {x : TypeId × Operand} (h : kLoad op = some x) : op = .load x.1 x.2 := by
  cases op <;> simp [kLoad] at h
  rw [← h]
theorem kBin_out {op : Op} {x : BinOp × TypeId × Operand × Operand} (h : kBin op = some x) : ∃ u, op = .binOp x.1 x.2.1 x.2.2.1 x.2.2.2 u := by
  cases op <;> simp [kBin] at h
  rw [← h]
  exact ⟨_, rfl⟩
theorem kCall_out {op : Op} {x : FuncId × List Operand} (h : kCall op = some x) : ∃ ts, op = .call { callee := .value (.func x.1), args := x.2.toArray, argTypes := ts } := by
  unfold kCall at h
  split at h
  · simp only [Option.some.injEq] at h
    subst h
    exact ⟨_, rfl⟩
  · cases h
/-- The rest of a region; a structure, so that nothing lays it open. -/
structure RgAny (P : Program) (md : Region.Mode) (ops : Array Oper) (Q : Exit → Act → World → Prop) (fuel : Nat) (listed : Array Bool) (a : Act) (w : World) : Prop where
  out : wpAny P md ops Q fuel listed a w
/-- Operation i, and then the rest. -/
structure RgOp (P : Program) (md : Region.Mode) (ops : Array Oper) (Q : Exit → Act → World → Prop) (fuel : Nat) (listed : Array Bool) (i : Nat) (a : Act) (w : World) : Prop where
  out : wpOp P ops Q i (wpAny P md ops Q fuel (listed.setIfInBounds i true)) a w
section
variable {P : Program} {ops : Array Oper} {Q : Exit → Act → World → Prop} {md : Region.Mode} {fuel : Nat} {listed : Array Bool} {a : Act} {w : World}
theorem rg_start {id : Nat} (hm : P.follows .mixedOrders = true) (h : RgAny P .any ops Q ops.size (Array.replicate ops.size false) a w.drew) : (Code.region id ops true).wp P Q a w := wp_region_any hm h.out
theorem rg_done (hr : Region.ready md ops listed = []) (h : Q .normal a w) : RgAny P md ops Q fuel listed a w := ⟨wpAny_done hr h _⟩
theorem rg_pair (rs : List Nat) (hr : Region.ready md ops listed = rs) (hne : rs ≠ []) (h : ∀ i ∈ rs, RgOp P md ops Q fuel listed i a w) : RgAny P md ops Q (fuel + 1) listed a w := ⟨wpAny_all hr hne fun i hi => (h i hi).out⟩
theorem rg1 (i : Nat) (hr : Region.ready md ops listed = [i]) (h : RgOp P md ops Q fuel listed i a w) : RgAny P md ops Q (fuel + 1) listed a w := rg_pair [i] hr (by simp) (fun j hj => by
    obtain rfl : j = i := by simpa using hj
    exact h)
theorem rgo {i : Nat} {o : Oper} (ho : ops[i]? = some o) (hw : Region.wanted o (yielded ops a.tmps) = true) (h : o.wp P a w (wpAny P md ops Q fuel (listed.setIfInBounds i true)) Q) : RgOp P md ops Q fuel listed i a w := by
  refine ⟨?_⟩
  unfold wpOp
  rw [ho]
  show if Region.wanted o (yielded ops a.tmps) = true then _ else _
  rw [if_pos hw]
  exact .inl h
theorem rg_move {i : Nat} (d : Tmp) (x : Operand) (v : Value) (ho : isOp ops a i kMove = some (some d, some x, true)) (hv : a.eval x = v) (h : RgAny P md ops Q fuel (listed.setIfInBounds i true) (a.put (some d) v) w) : RgOp P md ops Q fuel listed i a w := by
  obtain ⟨o, ho, hd, hop, hw⟩ := isOp_out ho
  refine rgo ho hw ?_
  unfold Oper.wp execOp
  rw [kMove_out hop]
  subst hv
  rw [← hd] at h
  exact h.out
theorem rg_assign {i : Nat} (d : Tmp) (x : Operand) (v : Value) (ho : isOp ops a i kAssign = some (some d, some x, true)) (hv : a.eval x = v) (h : RgAny P md ops Q fuel (listed.setIfInBounds i true) (a.put (some d) v) w) : RgOp P md ops Q fuel listed i a w := by
  obtain ⟨o, ho, hd, hop, hw⟩ := isOp_out ho
  refine rgo ho hw ?_
  unfold Oper.wp execOp
  rw [kAssign_out hop]
  subst hv
  rw [← hd] at h
  exact h.out
/-- A move is taken first, whatever else may come up. -/
theorem rgt_move (i : Nat) (d : Tmp) (x : Operand) (v : Value) (ho : isOp ops a i kMove = some (some d, some x, true))
    (hs : Region.noSelect ops = true) (hf : Region.free md ops listed i = true) (hr : (Region.ready md ops listed).contains i = true)
    (hQ : ∀ c a w, Q (.panic c) (a.put (some d) v) w → Q (.panic c) a w) (hv : a.eval x = v)
    (h : RgAny P md ops Q fuel (listed.setIfInBounds i true) (a.put (some d) v) w) : RgAny P md ops Q (fuel + 1) listed a w := by
  obtain ⟨o, ho, hd, hop, hw⟩ := isOp_out ho
  rw [← hd] at h hQ
  exact ⟨wpAny_take ho hs hf hr hQ (.inl ⟨hw, fun w => by unfold execOp; rw [kMove_out hop]; subst hv; rfl⟩) h.out⟩
theorem rg_pick {i : Nat} (d : Tmp) (x : Operand × Operand × Operand) (b : Bool) (v : Value) (ho : isOp ops a i kPick = some (some d, some x, true)) (hc : a.eval x.1 = .bool b) (hv : (if b = true then a.eval x.2.1 else a.eval x.2.2) = v) (h : RgAny P md ops Q fuel (listed.setIfInBounds i true) (a.put (some d) v) w) : RgOp P md ops Q fuel listed i a w := by
  obtain ⟨o, ho, hd, hop, hw⟩ := isOp_out ho
  refine rgo ho hw ?_
  unfold Oper.wp execOp
  rw [kPick_out hop]
  rw [← hd] at h
  cases b with
  | true => rw [if_pos rfl] at hv; subst hv; simp [hc, asBool, Oper.upon]; exact h.out
  | false => rw [if_neg (by simp)] at hv; subst hv; simp [hc, asBool, Oper.upon]; exact h.out
theorem rg_load {i : Nat} (d : Tmp) (t : TypeId) (x : Operand) (vx v : Value) (ho : isOp ops a i kLoad = some (some d, some (t, x), true)) (hx : a.eval x = vx) (hv : (Instr.loadAt t vx).run P w = .ok v w) (h : RgAny P md ops Q fuel (listed.setIfInBounds i true) (a.put (some d) v) w) : RgOp P md ops Q fuel listed i a w := by
  obtain ⟨o, ho, hd, hop, hw⟩ := isOp_out ho
  refine rgo ho hw ?_
  subst hx
  unfold Oper.wp execOp
  rw [kLoad_out hop]
  rw [← hd] at h
  simp [hv, Oper.upon]; exact h.out
theorem rg_bin {i : Nat} (d : Tmp) (b : BinOp) (t : TypeId) (x y : Operand) (vx vy v : Value) (ho : isOp ops a i kBin = some (some d, some (b, t, x, y), true)) (hx : a.eval x = vx) (hy : a.eval y = vy) (hg : (eqGuard b t x y vx vy).run P w = .ok () w) (hv : (binOp b t vx vy).run P w = .ok v w) (h : RgAny P md ops Q fuel (listed.setIfInBounds i true) (a.put (some d) v) w) : RgOp P md ops Q fuel listed i a w := by
  obtain ⟨o, ho, hd, hop, hw⟩ := isOp_out ho
  refine rgo ho hw ?_
  subst hx hy
  unfold Oper.wp execOp
  obtain ⟨u, hu⟩ := kBin_out hop
  rw [hu]
  rw [← hd] at h
  simp [hg, hv, Oper.upon]; exact h.out
theorem rg_call {i : Nat} (d : Tmp) (f : FuncId) (xs : List Operand) (vs : List Value) {R : Ending → World → Prop} (ho : isOp ops a i kCall = some (some d, some (f, xs), true))
    (hvs : xs.map a.eval = vs) (he : ∀ vs w, (callFunc f vs).run P w = .ok (.enter f vs) w)
    (hc : Calls P f vs.toArray w R) (h : ∀ e w', R e w' → ∃ v, e = .returned v ∧ RgAny P md ops Q fuel (listed.setIfInBounds i true) (a.put (some d) v) w') : RgOp P md ops Q fuel listed i a w := by
  obtain ⟨o, ho, hd, hop, hw⟩ := isOp_out ho
  refine rgo ho hw ?_
  rw [← hd] at h
  subst hvs
  unfold Oper.wp execOp
  obtain ⟨ts, hu⟩ := kCall_out hop
  rw [hu]
  have e1 : (resolve a.eval { callee := .value (.func f), args := xs.toArray, argTypes := ts } o.type).run P w = .ok { target := .fn (.func f) #[], args := (xs.map a.eval).toArray } w := by
    simp [resolve, Act.eval, Deferred.ofValue]
  simp [e1, invoke, he, Oper.upon]
  refine hc.mono fun e w' hR => ?_
  obtain ⟨v, rfl, hk⟩ := h e w' hR
  exact hk.out
end
theorem share2 {A H : World → Prop} {X : Prop} (h : (∀ v, H v → A v) → X) (hP : ∀ v, H v → A v) : X := h hP
end Go.Proofs.YtdbpkiddiehliaaGreat
