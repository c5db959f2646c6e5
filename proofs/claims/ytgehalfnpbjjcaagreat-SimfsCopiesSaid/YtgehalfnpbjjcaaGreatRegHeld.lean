/- A region that draws its order, walked by hand: one lemma for each kind of operation; what an operation is, is told by its number and settled by the kernel. -/
import Derived.RegionTactic
import Derived.WalkKit
import Derived.OrdersHeld
namespace Go.Proofs.YtgehalfnpbjjcaaGreat
open Go Go.RowKit
/-- What operation i is: its target, its kind, and that it is wanted. -/
def isOp {α : Type} (ops : Array Oper) (a : Act) (i : Nat) (k : Op → Option α) : Option (Option Tmp × Option α × Bool) := (ops[i]?).map fun o => (o.dst, k o.op, Region.wanted o (yielded ops a.tmps))
def kMove : Op → Option Operand
  | .move x => some x
  | _ => none
def kAssign : Op → Option Operand
  | .assign x => some x
  | _ => none
def kPick : Op → Option (Operand × Operand × Operand)
  | .pick c x y => some (c, x, y)
  | _ => none
def kLoad : Op → Option (TypeId × Operand)
  | .load t x => some (t, x)
  | _ => none
def kBin : Op → Option (BinOp × TypeId × Operand × Operand)
  | .binOp b t x y _ => some (b, t, x, y)
  | _ => none
def kCall : Op → Option (FuncId × List Operand)
  | .call { callee := .value (.func f), args := xs, .. } => some (f, xs.toList)
  | _ => none
theorem isOp_out {α : Type} {ops : Array Oper} {a : Act} {i : Nat} {k : Op → Option α} {d : Option Tmp} {x : α} (h : isOp ops a i k = some (d, some x, true)) : ∃ o, ops[i]? = some o ∧ o.dst = d ∧ k o.op = some x ∧ Region.wanted o (yielded ops a.tmps) = true := by
  unfold isOp at h
  cases ho : ops[i]? with
  | none => rw [ho] at h; cases h
  | some o =>
    rw [ho] at h
    simp only [Option.map_some, Option.some.injEq, Prod.mk.injEq] at h
    exact ⟨o, rfl, h⟩
theorem kMove_out {op : Op} {x : Operand} (h : kMove op = some x) : op = .move x := by
  cases op <;> simp [kMove] at h
  rw [h]
theorem kAssign_out {op : Op} {x : Operand} (h : kAssign op = some x) : op = .assign x := by
  cases op <;> simp [kAssign] at h
  rw [h]
theorem kPick_out {op : Op} {x : Operand × Operand × Operand} (h : kPick op = some x) : op = .pick x.1 x.2.1 x.2.2 := by
  cases op <;> simp [kPick] at h
  rw [← h]
theorem kLoad_out {op : Op} {x : TypeId × Operand} (h : kLoad op = some x) : op = .load x.1 x.2 := by
  cases op <;> simp [kLoad] at h
  rw [← h]
theorem kBin_out {op : Op} {x : BinOp × TypeId × Operand × Operand} (h : kBin op = some x) : ∃ u, op = .binOp x.1 x.2.1 x.2.2.1 x.2.2.2 u := by
  cases op <;> simp [kBin] at h
  rw [← h]
  exact ⟨_, rfl⟩
theorem kCall_out {op : Op} {x : FuncId × List Operand} (h : kCall op = some x) : ∃ ts, op = .call { callee := .value (.func x.1), args := x.2.toArray, argTypes := ts } := by
  unfold kCall at h
  split at h
  · simp only [Option.some.injEq] at h
    subst h
    exact ⟨_, rfl⟩
  · cases h
/-- The rest of a region; a structure, so that nothing lays it open. -/
structure RgAny (P : Program) (md : Region.Mode) (ops : Array Oper) (Q : Exit → Act → World → Prop) (fuel : Nat) (listed : Array Bool) (a : Act) (w : World) : Prop where
  out : wpAny P md ops Q fuel listed a w
/-- Operation i, and then the rest. -/
structure RgOp (P : Program) (md : Region.Mode) (ops : Array Oper) (Q : Exit → Act → World → Prop) (fuel : Nat) (listed : Array Bool) (i : Nat) (a : Act) (w : World) : Prop where
  out : wpOp P ops Q i (wpAny P md ops Q fuel (listed.setIfInBounds i true)) a w
section
variable {P : Program} {ops : Array Oper} {Q : Exit → Act → World → Prop} {md : Region.Mode} {fuel : Nat} {listed : Array Bool} {a : Act} {w : World}
theorem rg_start {id : Nat} (hm : P.follows .mixedOrders = true) (h : RgAny P .any ops Q ops.size (Array.replicate ops.size false) a w.drew) : (Code.region id ops true).wp P Q a w := wp_region_any hm h.out
theorem rg_done (hr : Region.ready md ops listed = []) (h : Q .normal a w) : RgAny P md ops Q fuel listed a w := ⟨wpAny_done hr h _⟩
theorem rg_pair (rs : List Nat) (hr : Region.ready md ops listed = rs) (hne : rs ≠ []) (h : ∀ i ∈ rs, RgOp P md ops Q fuel listed i a w) : RgAny P md ops Q (fuel + 1) listed a w := ⟨wpAny_all hr hne fun i hi => (h i hi).out⟩
theorem rg1 (i : Nat) (hr : Region.ready md ops listed = [i]) (h : RgOp P md ops Q fuel listed i a w) : RgAny P md ops Q (fuel + 1) listed a w := rg_pair [i] hr (by simp) (fun j hj => by
    obtain rfl : j = i := by simpa using hj
    exact h)
theorem rgo {i : Nat} {o : Oper} (ho : ops[i]? = some o) (hw : Region.wanted o (yielded ops a.tmps) = true) (h : o.wp P a w (wpAny P md ops Q fuel (listed.setIfInBounds i true)) Q) : RgOp P md ops Q fuel listed i a w := by
  refine ⟨?_⟩
  unfold wpOp
  rw [ho]
  show if Region.wanted o (yielded ops a.tmps) = true then _ else _
  rw [if_pos hw]
  exact .inl h
theorem rg_move {i : Nat} (d : Tmp) (x : Operand) (v : Value) (ho : isOp ops a i kMove = some (some d, some x, true)) (hv : a.eval x = v) (h : RgAny P md ops Q fuel (listed.setIfInBounds i true) (a.put (some d) v) w) : RgOp P md ops Q fuel listed i a w := by
  obtain ⟨o, ho, hd, hop, hw⟩ := isOp_out ho
  refine rgo ho hw ?_
  unfold Oper.wp execOp
  rw [kMove_out hop]
  subst hv
  rw [← hd] at h
  exact h.out
theorem rg_assign {i : Nat} (d : Tmp) (x : Operand) (v : Value) (ho : isOp ops a i kAssign = some (some d, some x, true)) (hv : a.eval x = v) (h : RgAny P md ops Q fuel (listed.setIfInBounds i true) (a.put (some d) v) w) : RgOp P md ops Q fuel listed i a w := by
  obtain ⟨o, ho, hd, hop, hw⟩ := isOp_out ho
  refine rgo ho hw ?_
  unfold Oper.wp execOp
  rw [kAssign_out hop]
  subst hv
  rw [← hd] at h
  exact h.out
/-- A move is taken first, whatever else may come up. -/
theorem rgt_move (i : Nat) (d : Tmp) (x : Operand) (v : Value) (ho : isOp ops a i kMove = some (some d, some x, true))
    (hs : Region.noSelect ops = true) (hf : Region.free md ops listed i = true) (hr : (Region.ready md ops listed).contains i = true)
    (hQ : ∀ c a w, Q (.panic c) (a.put (some d) v) w → Q (.panic c) a w) (hv : a.eval x = v)
    (h : RgAny P md ops Q fuel (listed.setIfInBounds i true) (a.put (some d) v) w) : RgAny P md ops Q (fuel + 1) listed a w := by
  obtain ⟨o, ho, hd, hop, hw⟩ := isOp_out ho
  rw [← hd] at h hQ
  exact ⟨wpAny_take ho hs hf hr hQ (.inl ⟨hw, fun w => by unfold execOp; rw [kMove_out hop]; subst hv; rfl⟩) h.out⟩
theorem rg_pick {i : Nat} (d : Tmp) (x : Operand × Operand × Operand) (b : Bool) (v : Value) (ho : isOp ops a i kPick = some (some d, some x, true)) (hc : a.eval x.1 = .bool b) (hv : (if b = true then a.eval x.2.1 else a.eval x.2.2) = v) (h : RgAny P md ops Q fuel (listed.setIfInBounds i true) (a.put (some d) v) w) : RgOp P md ops Q fuel listed i a w := by
  obtain ⟨o, ho, hd, hop, hw⟩ := isOp_out ho
  refine rgo ho hw ?_
  unfold Oper.wp execOp
  rw [kPick_out hop]
  rw [← hd] at h
  cases b with
  | true => rw [if_pos rfl] at hv; subst hv; simp [hc, asBool, Oper.upon]; exact h.out
  | false => rw [if_neg (by simp)] at hv; subst hv; simp [hc, asBool, Oper.upon]; exact h.out
theorem rg_load {i : Nat} (d : Tmp) (t : TypeId) (x : Operand) (vx v : Value) (ho : isOp ops a i kLoad = some (some d, some (t, x), true)) (hx : a.eval x = vx) (hv : (Instr.loadAt t vx).run P w = .ok v w) (h : RgAny P md ops Q fuel (listed.setIfInBounds i true) (a.put (some d) v) w) : RgOp P md ops Q fuel listed i a w := by
  obtain ⟨o, ho, hd, hop, hw⟩ := isOp_out ho
  refine rgo ho hw ?_
  subst hx
  unfold Oper.wp execOp
  rw [kLoad_out hop]
  rw [← hd] at h
  simp [hv, Oper.upon]; exact h.out
theorem rg_bin {i : Nat} (d : Tmp) (b : BinOp) (t : TypeId) (x y : Operand) (vx vy v : Value) (ho : isOp ops a i kBin = some (some d, some (b, t, x, y), true)) (hx : a.eval x = vx) (hy : a.eval y = vy) (hg : (eqGuard b t x y vx vy).run P w = .ok () w) (hv : (binOp b t vx vy).run P w = .ok v w) (h : RgAny P md ops Q fuel (listed.setIfInBounds i true) (a.put (some d) v) w) : RgOp P md ops Q fuel listed i a w := by
  obtain ⟨o, ho, hd, hop, hw⟩ := isOp_out ho
  refine rgo ho hw ?_
  subst hx hy
  unfold Oper.wp execOp
  obtain ⟨u, hu⟩ := kBin_out hop
  rw [hu]
  rw [← hd] at h
  simp [hg, hv, Oper.upon]; exact h.out
theorem rg_call {i : Nat} (d : Tmp) (f : FuncId) (xs : List Operand) (vs : List Value) {R : Ending → World → Prop} (ho : isOp ops a i kCall = some (some d, some (f, xs), true))
    (hvs : xs.map a.eval = vs) (he : ∀ vs w, (callFunc f vs).run P w = .ok (.enter f vs) w)
    (hc : Calls P f vs.toArray w R) (h : ∀ e w', R e w' → ∃ v, e = .returned v ∧ RgAny P md ops Q fuel (listed.setIfInBounds i true) (a.put (some d) v) w') : RgOp P md ops Q fuel listed i a w := by
  obtain ⟨o, ho, hd, hop, hw⟩ := isOp_out ho
  refine rgo ho hw ?_
  rw [← hd] at h
  subst hvs
  unfold Oper.wp execOp
  obtain ⟨ts, hu⟩ := kCall_out hop
  rw [hu]
  have e1 : (resolve a.eval { callee := .value (.func f), args := xs.toArray, argTypes := ts } o.type).run P w = .ok { target := .fn (.func f) #[], args := (xs.map a.eval).toArray } w := by
    simp [resolve, Act.eval, Deferred.ofValue]
  simp [e1, invoke, he, Oper.upon]
  refine hc.mono fun e w' hR => ?_
  obtain ⟨v, rfl, hk⟩ := h e w' hR
  exact hk.out
end
theorem share2 {A H : World → Prop} {X : Prop} (h : (∀ v, H v → A v) → X) (hP : ∀ v, H v → A v) : X := h hP
end Go.Proofs.YtgehalfnpbjjcaaGreat
/- A region that draws its order, walked by hand, where what is only read is taken first: what holds of the world at every step is S. -/
namespace Go.Proofs.YtgehalfnpbjjcaaGreat
open Go Go.RowKit
def kFA : Op → Option (TypeId × Operand × Nat)
  | .fieldAddr t x f => some (t, x, f)
  | _ => none
def kIA : Op → Option (TypeId × Operand × Operand)
  | .indexAddr t x i => some (t, x, i)
  | _ => none
def kSl : Op → Option (TypeId × Operand × Option Operand × Option Operand × Option Operand)
  | .slice t x lo hi mx => some (t, x, lo, hi, mx)
  | _ => none
def kBuild : Op → Option (TypeId × List (Nat × Operand))
  | .build t ps => some (t, ps.toList)
  | _ => none
def kBS : Op → Option (TypeId × Nat × List (Nat × Operand))
  | .buildSlice t n ps => some (t, n, ps.toList)
  | _ => none
def kApp : Op → Option (Operand × Operand × TypeId)
  | .call { callee := .builtin .append, args := xs, argTypes := ts } => match xs.toList, ts.toList with
    | [x, y], [t, u] => if t = u then some (x, y, t) else none
    | _, _ => none
  | _ => none
def kStore : Op → Option (TypeId × Operand × Operand)
  | .store t x y => some (t, x, y)
  | _ => none
def kAlloc : Op → Option TypeId
  | .alloc t => some t
  | _ => none
def kConv : Op → Option (TypeId × TypeId × Operand)
  | .convert t u x => some (t, u, x)
  | _ => none
def kExt : Op → Option (Operand × Nat)
  | .extract x i => some (x, i)
  | _ => none
theorem kExt_out {op : Op} {x : Operand × Nat} (h : kExt op = some x) : op = .extract x.1 x.2 := by
  cases op <;> simp [kExt] at h
  rw [← h]
theorem kFA_out {op : Op} {x : TypeId × Operand × Nat} (h : kFA op = some x) : op = .fieldAddr x.1 x.2.1 x.2.2 := by
  cases op <;> simp [kFA] at h
  rw [← h]
theorem kIA_out {op : Op} {x : TypeId × Operand × Operand} (h : kIA op = some x) : op = .indexAddr x.1 x.2.1 x.2.2 := by
  cases op <;> simp [kIA] at h
  rw [← h]
theorem kSl_out {op : Op} {x : TypeId × Operand × Option Operand × Option Operand × Option Operand} (h : kSl op = some x) : op = .slice x.1 x.2.1 x.2.2.1 x.2.2.2.1 x.2.2.2.2 := by
  cases op <;> simp [kSl] at h
  rw [← h]
theorem kBuild_out {op : Op} {x : TypeId × List (Nat × Operand)} (h : kBuild op = some x) : op = .build x.1 x.2.toArray := by
  cases op <;> simp [kBuild] at h
  rw [← h]
theorem kBS_out {op : Op} {x : TypeId × Nat × List (Nat × Operand)} (h : kBS op = some x) : op = .buildSlice x.1 x.2.1 x.2.2.toArray := by
  cases op <;> simp [kBS] at h
  rw [← h]
theorem kStore_out {op : Op} {x : TypeId × Operand × Operand} (h : kStore op = some x) : op = .store x.1 x.2.1 x.2.2 := by
  cases op <;> simp [kStore] at h
  rw [← h]
theorem kAlloc_out {op : Op} {x : TypeId} (h : kAlloc op = some x) : op = .alloc x := by
  cases op <;> simp [kAlloc] at h
  rw [← h]
theorem kConv_out {op : Op} {x : TypeId × TypeId × Operand} (h : kConv op = some x) : op = .convert x.1 x.2.1 x.2.2 := by
  cases op <;> simp [kConv] at h
  rw [← h]
theorem kApp_out {op : Op} {x y : Operand} {t : TypeId} (h : kApp op = some (x, y, t)) : op = .call { callee := .builtin .append, args := #[x, y], argTypes := #[t, t] } := by
  unfold kApp at h
  split at h
  · rename_i xs ts
    split at h
    · rename_i h1 h2
      split at h
      · rename_i h3
        simp only [Option.some.injEq, Prod.mk.injEq] at h
        obtain ⟨rfl, rfl, rfl⟩ := h
        subst h3
        have e1 : xs = xs.toList.toArray := by simp
        have e2 : ts = ts.toList.toArray := by simp
        rw [h1] at e1
        rw [h2] at e2
        rw [e1, e2]
      · cases h
    · cases h
  · cases h
section
variable {P : Program} {ops : Array Oper} {Q : Exit → Act → World → Prop} {md : Region.Mode} {S : World → Prop} {L : Nat}
/-- Whatever order is picked, S holds behind every operation but the last one, L. -/
def wpAnyE (P : Program) (md : Region.Mode) (ops : Array Oper) (Q : Exit → Act → World → Prop) (S : World → Prop) (L : Nat) : Nat → Array Bool → Act → World → Prop
  | 0, listed, a, w => Region.ready md ops listed = [] ∧ Q .normal a w
  | fuel + 1, listed, a, w =>
    (Region.ready md ops listed = [] → Q .normal a w) ∧
    ∀ i ∈ Region.ready md ops listed, wpOp P ops Q i (fun a' w' => (i = L ∨ S w') ∧ wpAnyE P md ops Q S L fuel (listed.setIfInBounds i true) a' w') a w
theorem wpAny_of_E : ∀ (fuel : Nat) (listed : Array Bool) (a : Act) (w : World), wpAnyE P md ops Q S L fuel listed a w → wpAny P md ops Q fuel listed a w
  | 0, _, _, _, h => h
  | fuel + 1, _, _, _, h => ⟨h.1, fun i hi => wpOp_mono (fun a' w' h' => wpAny_of_E fuel _ a' w' h'.2) (h.2 i hi)⟩
/-- The last operation waits for i. -/
def waitsFor (md : Region.Mode) (ops : Array Oper) (L i : Nat) : Bool := match ops[L]? with
  | none => true
  | some o => o.after.any fun e => Region.binds md e && e.on == i
theorem wpAnyE_first {i : Nat} {oi : Oper} {v : Value} (hi : ops[i]? = some oi) (hsel : ∀ (j : Nat) (o : Oper) cs b, ops[j]? = some o → o.op ≠ .select cs b)
    (hQ : ∀ c a w, Q (.panic c) (a.put oi.dst v) w → Q (.panic c) a w) (hLi : i ≠ L) (hL : waitsFor md ops L i = true) :
    ∀ (fuel : Nat) (listed : Array Bool) (a : Act) (w : World),
      (∀ j oj, ops[j]? = some oj → j ≠ i → listed.getD j true = false → (∀ e ∈ oj.after, Region.binds md e = true → e.on ≠ i) → oi.apart ops oj = true) →
      i ∈ Region.ready md ops listed → YieldsIf P ops S oi v a → S w →
      wpAnyE P md ops Q S L fuel (listed.setIfInBounds i true) (a.put oi.dst v) w → wpAnyE P md ops Q S L (fuel + 1) listed a w := by
  intro fuel
  induction fuel with
  | zero =>
    intro listed a w _ hr hy hS H
    refine ⟨fun h => (by rw [h] at hr; cases hr), fun j hj => ?_⟩
    by_cases hji : j = i
    · subst hji; exact hy.wpOp hi hS ⟨.inr hS, H⟩
    · have := ready_mono hj hji
      rw [H.1] at this
      cases this
  | succ fuel ih =>
    intro listed a w hfree hr hy hS H
    refine ⟨fun h => (by rw [h] at hr; cases hr), fun j hj => ?_⟩
    by_cases hji : j = i
    · subst hji; exact hy.wpOp hi hS ⟨.inr hS, H⟩
    · have h1 := H.2 j (ready_mono hj hji)
      obtain ⟨hjun, oj, hoj, hall⟩ := mem_ready.1 hj
      have hnot : ∀ e ∈ oj.after, Region.binds md e = true → e.on ≠ i := fun e he hb heq => by
        have h1 := hall e he hb
        have h0 := (mem_ready.1 hr).1
        rw [heq] at h1
        rcases Nat.lt_or_ge i listed.size with h' | h'
        · simp [h'] at h0 h1; rw [h0] at h1; cases h1
        · simp [Array.getElem?_eq_none h'] at h1
      have hjL : j ≠ L := fun he => by
        subst he
        unfold waitsFor at hL
        rw [hoj] at hL
        simp only [Array.any_eq_true] at hL
        obtain ⟨n, hn, hb⟩ := hL
        simp only [Bool.and_eq_true, beq_iff_eq] at hb
        exact hnot _ (Array.getElem_mem hn) hb.1 hb.2
      have h2 := wpOp_putIf (S := S) hoj (hfree j oj hoj hji hjun hnot) (fun cs b => hsel i oi cs b hi) (fun cs b => hsel j oj cs b hoj) hQ hy h1
      have hfree' : ∀ k ok, ops[k]? = some ok → k ≠ i → (listed.setIfInBounds j true).getD k true = false →
          (∀ e ∈ ok.after, Region.binds md e = true → e.on ≠ i) → oi.apart ops ok = true := fun k ok hk hki hun hno => by
        refine hfree k ok hk hki ?_ hno
        by_cases hjk : j = k
        · subst hjk; exact hjun
        · rw [getD_set_ne true hjk] at hun; exact hun
      refine wpOp_mono (fun a' w' h3 => ?_) h2
      have hS' := h3.2.1.resolve_left hjL
      refine ⟨.inr hS', ih (listed.setIfInBounds j true) a' w' hfree' (ready_mono hr (Ne.symm hji)) h3.1 hS' ?_⟩
      rw [Array.setIfInBounds_comm _ _ hji]
      exact h3.2.2
end
/-- The rest of a region under S, which the last operation L alone may break. -/
structure HgAny (P : Program) (md : Region.Mode) (ops : Array Oper) (Q : Exit → Act → World → Prop) (S : World → Prop) (L fuel : Nat) (listed : Array Bool) (a : Act) (w : World) : Prop where
  out : wpAnyE P md ops Q S L fuel listed a w
structure HgOp (P : Program) (md : Region.Mode) (ops : Array Oper) (Q : Exit → Act → World → Prop) (S : World → Prop) (L fuel : Nat) (listed : Array Bool) (i : Nat) (a : Act) (w : World) : Prop where
  out : wpOp P ops Q i (fun a' w' => (i = L ∨ S w') ∧ wpAnyE P md ops Q S L fuel (listed.setIfInBounds i true) a' w') a w
section
variable {P : Program} {ops : Array Oper} {Q : Exit → Act → World → Prop} {md : Region.Mode} {S : World → Prop} {L fuel : Nat} {listed : Array Bool} {a : Act} {w : World}
theorem hg_start (S : World → Prop) (L : Nat) {id : Nat} (hm : P.follows .mixedOrders = true) (h : HgAny P .any ops Q S L ops.size (Array.replicate ops.size false) a w.drew) : (Code.region id ops true).wp P Q a w := wp_region_any hm (wpAny_of_E _ _ _ _ h.out)
theorem hg_done (hr : Region.ready md ops listed = []) (h : Q .normal a w) : HgAny P md ops Q S L fuel listed a w := ⟨by
  cases fuel with
  | zero => exact ⟨hr, h⟩
  | succ f => exact ⟨fun _ => h, by rw [hr]; simp⟩⟩
theorem hg_pair (rs : List Nat) (hr : Region.ready md ops listed = rs) (hne : rs ≠ []) (h : ∀ i ∈ rs, HgOp P md ops Q S L fuel listed i a w) : HgAny P md ops Q S L (fuel + 1) listed a w := ⟨⟨fun h0 => absurd (hr ▸ h0) hne, fun i hi => (h i (hr ▸ hi)).out⟩⟩
theorem hg1 (i : Nat) (hr : Region.ready md ops listed = [i]) (h : HgOp P md ops Q S L fuel listed i a w) : HgAny P md ops Q S L (fuel + 1) listed a w := hg_pair [i] hr (by simp) (fun j hj => by
    obtain rfl : j = i := by simpa using hj
    exact h)
/-- What only reads is taken first. -/
theorem hgt (i : Nat) (d : Tmp) {α : Type} (k : Op → Option α) (x : α) (v : Value) (ho : isOp ops a i k = some (some d, some x, true))
    (hs : Region.noSelect ops = true) (hf : Region.free md ops listed i = true) (hr : (Region.ready md ops listed).contains i = true)
    (hQ : ∀ c a w, Q (.panic c) (a.put (some d) v) w → Q (.panic c) a w) (hLi : (i == L) = false) (hL : waitsFor md ops L i = true) (hS : S w) (hy : ∀ (o : Oper) (w' : World), k o.op = some x → S w' → (execOp a.eval o).run P w' = .ok (.value v) w')
    (h : HgAny P md ops Q S L fuel (listed.setIfInBounds i true) (a.put (some d) v) w) : HgAny P md ops Q S L (fuel + 1) listed a w := by
  obtain ⟨o, ho, hd, hop, hw⟩ := isOp_out ho
  rw [← hd] at h hQ
  exact ⟨wpAnyE_first ho (Region.noSelect_spec hs) hQ (by simpa using hLi) hL fuel listed a w (Region.free_spec ho hf) (by simpa using hr) (.inl ⟨hw, fun w' hS' => hy o w' hop hS'⟩) hS h.out⟩
theorem ex_move {o : Oper} {x : Operand} {v : Value} (h : kMove o.op = some x) (hv : a.eval x = v) : (execOp a.eval o).run P w = .ok (.value v) w := by
  unfold execOp; rw [kMove_out h]; subst hv; rfl
theorem ex_load {o : Oper} {t : TypeId} {x : Operand} {vx v : Value} {w' : World} (h : kLoad o.op = some (t, x)) (hx : a.eval x = vx) (hr : (Instr.loadAt t vx).run P w = .ok v w') : (execOp a.eval o).run P w = .ok (.value v) w' := by
  unfold execOp; rw [kLoad_out h]; subst hx; simp [hr]
theorem ex_fa {o : Oper} {t : TypeId} {x : Operand} {f : Nat} {vx v : Value} {w' : World} (h : kFA o.op = some (t, x, f)) (hx : a.eval x = vx) (hr : (Instr.fieldAt t vx f).run P w = .ok v w') : (execOp a.eval o).run P w = .ok (.value v) w' := by
  unfold execOp; rw [kFA_out h]; subst hx; simp [hr]
theorem ex_ia {o : Oper} {t : TypeId} {x y : Operand} {vx vy v : Value} {w' : World} (h : kIA o.op = some (t, x, y)) (hx : a.eval x = vx) (hy : a.eval y = vy) (hr : (Instr.indexAt t vx vy).run P w = .ok v w') : (execOp a.eval o).run P w = .ok (.value v) w' := by
  unfold execOp; rw [kIA_out h]; subst hx hy; simp [hr]
theorem ex_alloc {o : Oper} {t : TypeId} {v : Value} {w' : World} (h : kAlloc o.op = some t) (hr : (Instr.alloc t true (.tuple #[])).run P w = .ok v w') : (execOp a.eval o).run P w = .ok (.value v) w' := by
  unfold execOp; rw [kAlloc_out h]; simp [hr]
theorem ex_conv {o : Oper} {t u : TypeId} {x : Operand} {vx v : Value} {w' : World} (h : kConv o.op = some (t, u, x)) (hx : a.eval x = vx) (hr : (convert t u vx).run P w = .ok v w') : (execOp a.eval o).run P w = .ok (.value v) w' := by
  unfold execOp; rw [kConv_out h]; subst hx; simp [hr]
theorem ex_build {o : Oper} {t : TypeId} {ps : List (Nat × Operand)} {vs : List (Nat × Value)} {v : Value} {w' : World} (h : kBuild o.op = some (t, ps)) (hx : (ps.map fun p => (p.1, a.eval p.2)) = vs) (hr : (Instr.build t vs.toArray).run P w = .ok v w') : (execOp a.eval o).run P w = .ok (.value v) w' := by
  unfold execOp; rw [kBuild_out h]; subst hx; simp [hr]
theorem ex_bs {o : Oper} {t : TypeId} {n : Nat} {ps : List (Nat × Operand)} {vs : List (Nat × Value)} {v : Value} {w' : World} (h : kBS o.op = some (t, n, ps)) (hx : (ps.map fun p => (p.1, a.eval p.2)) = vs) (hr : (Instr.buildSlice t n vs.toArray).run P w = .ok v w') : (execOp a.eval o).run P w = .ok (.value v) w' := by
  unfold execOp; rw [kBS_out h]; subst hx; simp [hr]
theorem ex_sl {o : Oper} {t : TypeId} {x : Operand} {lo hi mx : Option Operand} {vx v : Value} {l h' m : Option Value} {w' : World} (h : kSl o.op = some (t, x, lo, hi, mx)) (hx : a.eval x = vx) (h1 : lo.map a.eval = l) (h2 : hi.map a.eval = h') (h3 : mx.map a.eval = m) (hr : (Instr.sliceAt t vx l h' m).run P w = .ok v w') : (execOp a.eval o).run P w = .ok (.value v) w' := by
  unfold execOp; rw [kSl_out h]; subst hx h1 h2 h3; simp [hr]
/-- An operation that leaves a value. -/
theorem hg_val {i : Nat} (d : Tmp) {α : Type} (k : Op → Option α) (x : α) (v : Value) {w' : World} (ho : isOp ops a i k = some (some d, some x, true)) (hy : ∀ o : Oper, k o.op = some x → (execOp a.eval o).run P w = .ok (.value v) w')
    (hS : i = L ∨ S w') (h : HgAny P md ops Q S L fuel (listed.setIfInBounds i true) (a.put (some d) v) w') : HgOp P md ops Q S L fuel listed i a w := by
  obtain ⟨o, ho, hd, hop, hw⟩ := isOp_out ho
  rw [← hd] at h
  refine ⟨?_⟩
  unfold wpOp
  rw [ho]
  show if Region.wanted o (yielded ops a.tmps) = true then _ else _
  rw [if_pos hw]
  refine .inl ?_
  unfold Oper.wp
  rw [hy o hop]
  exact ⟨hS, h.out⟩
/-- A store. -/
theorem hg_store {i : Nat} (t : TypeId) (x y : Operand) (vx vy : Value) {w' : World} (ho : isOp ops a i kStore = some (none, some (t, x, y), true)) (hx : a.eval x = vx) (hy : a.eval y = vy) (hr : (Instr.storeAt t vx vy).run P w = .ok () w')
    (hS : i = L ∨ S w') (h : HgAny P md ops Q S L fuel (listed.setIfInBounds i true) a w') : HgOp P md ops Q S L fuel listed i a w := by
  obtain ⟨o, ho, hd, hop, hw⟩ := isOp_out ho
  refine ⟨?_⟩
  unfold wpOp
  rw [ho]
  show if Region.wanted o (yielded ops a.tmps) = true then _ else _
  rw [if_pos hw]
  refine .inl ?_
  unfold Oper.wp execOp
  rw [kStore_out hop]
  subst hx hy
  simp [hr, Oper.upon, hd, Act.put]
  exact ⟨hS, h.out⟩
theorem hg_call {i : Nat} (d : Tmp) (f : FuncId) (xs : List Operand) (vs : List Value) {R : Ending → World → Prop} (ho : isOp ops a i kCall = some (some d, some (f, xs), true))
    (hvs : xs.map a.eval = vs) (he : ∀ vs w, (callFunc f vs).run P w = .ok (.enter f vs) w)
    (hc : Calls P f vs.toArray w R) (h : ∀ e w', R e w' → ∃ v, e = .returned v ∧ (i = L ∨ S w') ∧ HgAny P md ops Q S L fuel (listed.setIfInBounds i true) (a.put (some d) v) w') : HgOp P md ops Q S L fuel listed i a w := by
  obtain ⟨o, ho, hd, hop, hw⟩ := isOp_out ho
  rw [← hd] at h
  refine ⟨?_⟩
  unfold wpOp
  rw [ho]
  show if Region.wanted o (yielded ops a.tmps) = true then _ else _
  rw [if_pos hw]
  refine .inl ?_
  subst hvs
  unfold Oper.wp execOp
  obtain ⟨ts, hu⟩ := kCall_out hop
  rw [hu]
  have e1 : (resolve a.eval { callee := .value (.func f), args := xs.toArray, argTypes := ts } o.type).run P w = .ok { target := .fn (.func f) #[], args := (xs.map a.eval).toArray } w := by
    simp [resolve, Act.eval, Deferred.ofValue]
  simp [e1, invoke, he, Oper.upon]
  refine hc.mono fun e w' hR => ?_
  obtain ⟨v, rfl, hS, hk⟩ := h e w' hR
  exact ⟨hS, hk.out⟩
/-- append. -/
theorem hg_app {i : Nat} (d : Tmp) (x y : Operand) (t : TypeId) (vx vy : Value) (ho : isOp ops a i kApp = some (some d, some (x, y, t), true)) (hx : a.eval x = vx) (hy : a.eval y = vy)
    (hr : ∀ ty, ∃ v w', (Builtin.append_ #[t, t] ty #[vx, vy]).run P w = .ok v w' ∧ (i = L ∨ S w') ∧ HgAny P md ops Q S L fuel (listed.setIfInBounds i true) (a.put (some d) v) w') : HgOp P md ops Q S L fuel listed i a w := by
  obtain ⟨o, ho, hd, hop, hw⟩ := isOp_out ho
  refine ⟨?_⟩
  unfold wpOp
  rw [ho]
  show if Region.wanted o (yielded ops a.tmps) = true then _ else _
  rw [if_pos hw]
  refine .inl ?_
  obtain ⟨v, w', hr, hS, hk⟩ := hr o.type
  rw [← hd] at hk
  unfold Oper.wp execOp
  simp only [kApp_out hop, resolve, invoke, builtin, Sem.run_bind, Sem.run_pure, Result.andThen_ok, List.map_toArray, List.map_cons, List.map_nil, hx, hy, hr]
  exact ⟨hS, hk.out⟩
end
theorem put_swap (i j : Nat) {a : Act} {x y : Value} (h : i ≠ j) : (a.put (some i) x).put (some j) y = (a.put (some j) y).put (some i) x := by
  unfold Act.put
  simp only [Act.mk.injEq, and_true]
  exact Array.setIfInBounds_comm _ _ h
theorem set_swap (i j : Nat) {l : Array Bool} (h : i ≠ j) : (l.setIfInBounds i true).setIfInBounds j true = (l.setIfInBounds j true).setIfInBounds i true := Array.setIfInBounds_comm _ _ h
theorem share3 {A H : World → Nat → Prop} {X : Prop} (h : (∀ v g, H v g → A v g) → X) (hP : ∀ v g, H v g → A v g) : X := h hP
end Go.Proofs.YtgehalfnpbjjcaaGreat
