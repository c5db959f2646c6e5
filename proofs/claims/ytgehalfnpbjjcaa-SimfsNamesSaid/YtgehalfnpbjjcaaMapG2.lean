/- Maps laid bare: ranging; and the laws for the walk. -/
import Derived.Test.YtgehalfnpbjjcaaMapG
namespace Go.Proofs.Ytgehalfnpbjjcaa
open Go Go.RowKit
open Go.ChangeMaps (setBlock)
theorem filter_born {e : MapEntry} : ∀ {l : List MapEntry} {j : Nat}, (l.map (·.born)).Nodup → l[j]? = some e → l.filter (fun x => !(x.born == e.born)) = l.eraseIdx j
  | [], _, _, h => by simp at h
  | a :: l, 0, hn, h => by
    simp only [List.getElem?_cons_zero, Option.some.injEq] at h
    subst h
    have hn' := List.nodup_cons.1 hn
    simp only [List.eraseIdx_zero, List.tail_cons, List.filter_cons, beq_self_eq_true, Bool.not_true, Bool.false_eq_true, if_false]
    rw [List.filter_eq_self]
    intro x hx
    simp only [Bool.not_eq_true', beq_eq_false_iff_ne]
    exact fun h => hn'.1 (List.mem_map.2 ⟨x, hx, h⟩)
  | a :: l, j + 1, hn, h => by
    have hn' := List.nodup_cons.1 hn
    have h' : l[j]? = some e := by simpa using h
    have ha : (a.born == e.born) = false := by
      rw [beq_eq_false_iff_ne]
      exact fun h => hn'.1 (List.mem_map.2 ⟨e, List.mem_of_getElem? h', h.symm⟩)
    rw [List.eraseIdx_cons_succ, List.filter_cons, ha, filter_born hn'.2 h']
    rfl
theorem perm_eraseIdx {γ : Type} {x : γ} : ∀ {l : List γ} {j : Nat}, l[j]? = some x → l.Perm (x :: l.eraseIdx j)
  | [], _, h => by simp at h
  | a :: l, 0, h => by
    simp only [List.getElem?_cons_zero, Option.some.injEq] at h
    subst h
    exact List.Perm.refl _
  | a :: l, j + 1, h => by
    have h' : l[j]? = some x := by simpa using h
    rw [List.eraseIdx_cons_succ]
    exact ((perm_eraseIdx h').cons a).trans (List.Perm.swap x a _)
section
variable {α β : Type} {ek : α → Value} {ev : β → Value}
/-- Block r goes over map m, which holds d: rest is still to come. -/
def IterG (ek : α → Value) (ev : β → Value) (w : World) (m r : Nat) (d rest : List (α × β)) : Prop :=
  ∃ es clock since seen c0, w.heap[m]? = some (.map es clock) ∧ es.toList.map (fun e => (e.key, e.val)) = d.map (fun p => (ek p.1, ev p.2)) ∧ (∀ e ∈ es.toList, e.born < clock) ∧ (es.toList.map (·.born)).Nodup ∧ (d.map Prod.fst).Nodup ∧
    w.heap[r]? = some (.mapIter (some m) since seen c0) ∧ (∀ e ∈ es.toList, e.born < since) ∧ since ≤ c0 ∧ since ≤ clock ∧
    (es.toList.filter (fun e => !seen.contains e.born)).map (fun e => (e.key, e.val)) = rest.map (fun p => (ek p.1, ev p.2)) ∧ ∀ p ∈ rest, p ∈ d
theorem IterG.map {w : World} {m r : Nat} {d rest : List (α × β)} (h : IterG ek ev w m r d rest) : MapG ek ev w m d := by
  obtain ⟨es, clock, since, seen, c0, h1, h2, h3, h4, h5, _⟩ := h
  exact ⟨es, clock, h1, h2, h3, h4, h5⟩
theorem IterG.ne {w : World} {m r : Nat} {d rest : List (α × β)} (h : IterG ek ev w m r d rest) : r ≠ m := by
  obtain ⟨es, clock, since, seen, c0, h1, _, _, _, _, h6, _⟩ := h
  intro e
  rw [e, h1] at h6
  cases h6
theorem IterG.lt {w : World} {m r : Nat} {d rest : List (α × β)} (h : IterG ek ev w m r d rest) : r < w.heap.size := by
  obtain ⟨es, clock, since, seen, c0, h1, _, _, _, _, h6, _⟩ := h
  exact lt_of_heap h6
theorem IterG.fr {w w' : World} {m r : Nat} {d rest : List (α × β)} (h : IterG ek ev w m r d rest) {S : Nat → Prop} (hf : Fr S w w') (hm : ¬ S m) (hr : ¬ S r) : IterG ek ev w' m r d rest := by
  obtain ⟨es, clock, since, seen, c0, h1, h2, h3, h4, h5, h6, h7⟩ := h
  exact ⟨es, clock, since, seen, c0, hf.heap h1 hm, h2, h3, h4, h5, hf.heap h6 hr, h7⟩
theorem MapG.range {P : Program} {tm tk te : TypeId} (u_tm : P.underlying tm = some (.map tk te)) {w : World} {m : Nat} {d : List (α × β)} (h : MapG ek ev w m d) :
    ∃ w', (Instr.range tm (.map (some m))).run P w = .ok (.pointer (some ⟨w.heap.size, 0, none⟩)) w' ∧ IterG ek ev w' m w.heap.size d d ∧ Below w.heap.size w w' ∧ w'.heap.size = w.heap.size + 1 := by
  have hm := h.lt
  obtain ⟨es, c, h1, h2, h3, h4, h5⟩ := h
  refine ⟨_, run_range_map w tm tk te m es c u_tm h1, ⟨es, c, c, #[], c, (heap_alloc_old w _ hm).trans h1, h2, h3, h4, h5, heap_alloc_new w _, h3, Nat.le_refl _, Nat.le_refl _, ?_, fun _ h => h⟩, (Below.refl _ _).alloc (Nat.le_refl _) _, by simp⟩
  rw [← h2]
  congr 1
  rw [List.filter_eq_self]
  intro e _
  simp
/-- The step. -/
theorem IterG.next {P : Program} {w : World} {m r : Nat} {d rest : List (α × β)} (h : IterG ek ev w m r d rest) (ty : TypeId) :
    (rest = [] ∧ (Instr.next (.pointer (some ⟨r, 0, none⟩)) false ty).run P w = .ok (.tuple #[.bool false]) w) ∨
    ∃ k v rest' w', rest.Perm ((k, v) :: rest') ∧ (Instr.next (.pointer (some ⟨r, 0, none⟩)) false ty).run P w = .ok (.tuple #[.bool true, ek k, ev v]) w' ∧ IterG ek ev w' m r d rest' ∧ Fr (· = r) w w' ∧ w'.heap.size = w.heap.size ∧
      ∀ W, Fr (fun i => i ≠ m ∧ i ≠ r) w' W → (Instr.entry (.pointer (some ⟨r, 0, none⟩))).run P W = .ok (.tuple #[ek k, ev v]) W := by
  have hne := h.ne
  have hrl := h.lt
  obtain ⟨es, clock, since, seen, c0, h1, h2, h3, h4, h5, h6, h7, h8, h9, h10, h11⟩ := h
  have hleft : (leftOf es seen).toList = es.toList.filter (fun e => !seen.contains e.born) := by unfold leftOf; simp
  rcases run_next_at (P := P) w ty r m since c0 seen es clock h6 h1 h7 h8 with ⟨h0, hrun⟩ | ⟨e, he, w1, hal, hrun⟩
  · refine .inl ⟨?_, hrun⟩
    have hz : (leftOf es seen).toList = [] := by
      have : (leftOf es seen) = #[] := Array.eq_empty_of_size_eq_zero h0
      rw [this]
    rw [hleft] at hz
    rw [hz] at h10
    simpa using h10.symm
  · obtain ⟨hem, hes⟩ := mem_left he
    rw [hleft] at he
    obtain ⟨j, hj⟩ := List.getElem?_of_mem he
    have hkv : ∃ k v, rest[j]? = some (k, v) ∧ e.key = ek k ∧ e.val = ev v := by
      have g1 : ((es.toList.filter (fun e => !seen.contains e.born)).map (fun e => (e.key, e.val)))[j]? = some (e.key, e.val) := by rw [List.getElem?_map, hj]; rfl
      rw [h10, List.getElem?_map, Option.map_eq_some_iff] at g1
      obtain ⟨⟨k, v⟩, g2, g3⟩ := g1
      injection g3 with g3 g4
      exact ⟨k, v, g2, g3.symm, g4.symm⟩
    obtain ⟨k, v, hr, hk, hv⟩ := hkv
    have e6 : w1.heap[r]? = some (.mapIter (some m) since seen c0) := by rcases hal with rfl | rfl <;> exact h6
    have e1 : w1.heap[m]? = some (.map es clock) := by rcases hal with rfl | rfl <;> exact h1
    have hsz : w1.heap.size = w.heap.size := by rcases hal with rfl | rfl <;> rfl
    have hfw : Fr (· = r) w w1 := by rcases hal with rfl | rfl; exact Fr.refl _ _; exact (Fr.refl _ _).drew
    have hm' : (setBlock w1 r (.mapIter (some m) since (seen.push e.born) clock)).heap[m]? = some (.map es clock) := (setBlock_fr (w := w1) (m := r) _).heap e1 (fun e => hne e.symm)
    have hr' := setBlock_at (w := w1) (m := r) (by rw [hsz]; exact hrl) (.mapIter (some m) since (seen.push e.born) clock)
    refine .inr ⟨k, v, rest.eraseIdx j, _, perm_eraseIdx hr, by rw [hrun, hk, hv], ⟨es, clock, since, seen.push e.born, clock, hm', h2, h3, h4, h5, hr', h7, h9, h9, ?_, fun p hp => h11 p (List.mem_of_mem_eraseIdx hp)⟩, hfw.trans (setBlock_fr _), by simp [setBlock, hsz], fun W hW => ?_⟩
    · rw [map_eraseIdx, ← h10, ← map_eraseIdx]
      congr 1
      rw [← filter_born (h4.sublist (List.Sublist.map _ List.filter_sublist)) hj, List.filter_filter]
      congr 1
      funext x
      rw [contains_push]
      cases seen.contains x.born <;> cases (x.born == e.born) <;> rfl
    · rw [← hk, ← hv]
      exact run_entry_at W r m since seen es clock e (hW.heap hr' (fun h => h.2 rfl)) (hW.heap hm' (fun h => h.1 rfl)) hem h4
end
section
variable {P : Program} {w : World} {ops : Array Oper} {rest : List Oper} {o : Oper} {a : Act} {Q : Exit → Act → World → Prop}
variable {α β : Type} [DecidableEq α] {tm tk te : TypeId} {ek : α → Value} {ev : β → Value} {good : World → α → Prop}
theorem wpl_lookupG (hgd : o.guard = none) {x kk : Operand} (ho : o.op = .lookup tm x kk false) (K : KeyG P tk ek good) (r_tm : ∀ w, (underlying tm).run P w = .ok (.map tk te) w) {z : Value} (v_te : ∀ w, (zeroValue te).run P w = .ok z w)
    {m : Nat} {d : List (α × β)} (h : MapG ek ev w m d) (hgs : ∀ p ∈ d, good w p.1) {k : α} (hgk : good w k) (hx : a.eval x = .map (some m)) (hk : a.eval kk = ek k)
    (hK : wpList P ops Q rest (a.put o.dst (match dget d k with | some v => ev v | none => z)) w) : wpList P ops Q (o :: rest) a w := by
  refine wpList_plain hgd fun K' hK' => ?_
  have hr := run_lookupG (ok := false) K r_tm v_te h hgs k hgk
  unfold Oper.wp
  simp only [execOp, ho, hx, hk, Sem.run_bind, hr, Result.andThen_ok, Sem.run_pure]
  refine hK' _ _ ?_
  cases hd : dget d k <;> (rw [hd] at hK; exact hK)
theorem wpl_lookupokG (hgd : o.guard = none) {x kk : Operand} (ho : o.op = .lookup tm x kk true) (K : KeyG P tk ek good) (r_tm : ∀ w, (underlying tm).run P w = .ok (.map tk te) w) {z : Value} (v_te : ∀ w, (zeroValue te).run P w = .ok z w)
    {m : Nat} {d : List (α × β)} (h : MapG ek ev w m d) (hgs : ∀ p ∈ d, good w p.1) {k : α} (hgk : good w k) (hx : a.eval x = .map (some m)) (hk : a.eval kk = ek k)
    (hK : wpList P ops Q rest (a.put o.dst (match dget d k with | some v => .tuple #[ev v, .bool true] | none => .tuple #[z, .bool false])) w) : wpList P ops Q (o :: rest) a w := by
  refine wpList_plain hgd fun K' hK' => ?_
  have hr := run_lookupG (ok := true) K r_tm v_te h hgs k hgk
  unfold Oper.wp
  simp only [execOp, ho, hx, hk, Sem.run_bind, hr, Result.andThen_ok, Sem.run_pure]
  refine hK' _ _ ?_
  cases hd : dget d k <;> (rw [hd] at hK; exact hK)
theorem wpl_updateG (hgd : o.guard = none) {x kk y : Operand} (ho : o.op = .mapUpdate tm x kk y) (K : KeyG P tk ek good) (r_tm : ∀ w, (underlying tm).run P w = .ok (.map tk te) w)
    {m : Nat} {d : List (α × β)} (h : MapG ek ev w m d) (hgs : ∀ p ∈ d, good w p.1) {k : α} (hgk : good w k) {v : β} (hx : a.eval x = .map (some m)) (hk : a.eval kk = ek k) (hy : a.eval y = ev v)
    (hK : ∀ w', MapG ek ev w' m (dput d k v) → Fr (· = m) w w' → w'.heap.size = w.heap.size → wpList P ops Q rest (a.put o.dst undef) w') : wpList P ops Q (o :: rest) a w := by
  refine wpList_plain hgd fun K' hK' => ?_
  obtain ⟨w', hr, h1, h2, h3⟩ := run_updateG K r_tm h hgs k hgk v
  unfold Oper.wp
  simp only [execOp, ho, hx, hk, hy, Sem.run_bind, hr, Result.andThen_ok, Sem.run_pure]
  exact hK' _ _ (hK w' h1 h2 h3)
theorem wpl_deleteG (hgd : o.guard = none) {x kk : Operand} (ho : o.op = Op.call { callee := Callee.builtin Builtin.delete, args := #[x, kk], argTypes := #[tm, tk] }) (K : KeyG P tk ek good) (r_tm : ∀ w, (underlying tm).run P w = .ok (.map tk te) w)
    {m : Nat} {d : List (α × β)} (h : MapG ek ev w m d) (hgs : ∀ p ∈ d, good w p.1) {k : α} (hgk : good w k) (hx : a.eval x = .map (some m)) (hk : a.eval kk = ek k)
    (hK : ∀ w', MapG ek ev w' m (ddel d k) → Fr (· = m) w w' → w'.heap.size = w.heap.size → wpList P ops Q rest (a.put o.dst (.tuple #[])) w') : wpList P ops Q (o :: rest) a w := by
  refine wpList_plain hgd fun K' hK' => ?_
  obtain ⟨w', hr, h1, h2, h3⟩ := run_deleteG K r_tm h hgs k hgk o.type
  unfold Oper.wp
  simp [execOp, ho, resolve, invoke, builtin, hx, hk, hr, Result.andThen]
  exact hK' _ _ (hK w' h1 h2 h3)
end
section
variable {P : Program} {w : World} {ops : Array Oper} {rest : List Oper} {o : Oper} {a : Act} {Q : Exit → Act → World → Prop}
variable {α β : Type} {tm tk te : TypeId} {ek : α → Value} {ev : β → Value}
theorem wpl_rangeG (hgd : o.guard = none) {x : Operand} (ho : o.op = Op.range tm x) (u_tm : P.underlying tm = some (.map tk te)) {m : Nat} {d : List (α × β)} (h : MapG ek ev w m d) (hx : a.eval x = .map (some m))
    (hK : ∀ w', IterG ek ev w' m w.heap.size d d → Below w.heap.size w w' → w'.heap.size = w.heap.size + 1 → wpList P ops Q rest (a.put o.dst (.pointer (some ⟨w.heap.size, 0, none⟩))) w') : wpList P ops Q (o :: rest) a w := by
  refine wpList_plain hgd fun K' hK' => ?_
  obtain ⟨w', hrun, r1, r2, r3⟩ := h.range u_tm
  unfold Oper.wp
  simp [execOp, ho, hx, hrun, Result.andThen]
  exact hK' _ _ (hK w' r1 r2 r3)
theorem wpl_nextG (hgd : o.guard = none) {x : Operand} (ho : o.op = Op.next x false) {m r : Nat} {d left : List (α × β)} (h : IterG ek ev w m r d left) (hx : a.eval x = .pointer (some ⟨r, 0, none⟩))
    (hDone : left = [] → wpList P ops Q rest (a.put o.dst (.tuple #[.bool false])) w)
    (hMore : ∀ k v left' w', left.Perm ((k, v) :: left') → IterG ek ev w' m r d left' → Fr (· = r) w w' → w'.heap.size = w.heap.size → (∀ W, Fr (fun i => i ≠ m ∧ i ≠ r) w' W → (Instr.entry (.pointer (some ⟨r, 0, none⟩))).run P W = .ok (.tuple #[ek k, ev v]) W) →
      wpList P ops Q rest (a.put o.dst (.tuple #[.bool true, ek k, ev v])) w') : wpList P ops Q (o :: rest) a w := by
  refine wpList_plain hgd fun K' hK' => ?_
  unfold Oper.wp
  rcases h.next (P := P) o.type with ⟨h0, hrun⟩ | ⟨k, v, left', w', h1, hrun, h2, h3, h4, h5⟩
  · simp [execOp, ho, hx, hrun, Result.andThen]
    exact hK' _ _ (hDone h0)
  · simp [execOp, ho, hx, hrun, Result.andThen]
    exact hK' _ _ (hMore k v left' w' h1 h2 h3 h4 h5)
end
end Go.Proofs.Ytgehalfnpbjjcaa
