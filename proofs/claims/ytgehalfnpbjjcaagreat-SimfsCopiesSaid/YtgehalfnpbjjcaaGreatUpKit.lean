/- simfs: what Up's drawn regions need: builtins and operators by number, rows of cells read, files cut. -/
import Derived.Test.YtgehalfnpbjjcaaGreatSimS
import Derived.Test.YtgehalfnpbjjcaaGreatAlivePure
namespace Go.Proofs.YtgehalfnpbjjcaaGreat
open Go Go.RowKit Go.Sort
def kBi : Op → Option (Builtin × List Operand × List TypeId)
  | .call { callee := .builtin b, args := xs, argTypes := ts } => some (b, xs.toList, ts.toList)
  | _ => none
theorem kBi_out {op : Op} {b : Builtin} {xs : List Operand} {ts : List TypeId} (h : kBi op = some (b, xs, ts)) : op = .call { callee := .builtin b, args := xs.toArray, argTypes := ts.toArray } := by
  unfold kBi at h
  split at h
  · simp only [Option.some.injEq, Prod.mk.injEq] at h
    obtain ⟨rfl, rfl, rfl⟩ := h
    rfl
  · cases h
section
variable {P : Program} {w w' : World} {a : Act}
theorem ex_bin {o : Oper} {b : BinOp} {t : TypeId} {x y : Operand} {vx vy v : Value} (h : kBin o.op = some (b, t, x, y)) (hx : a.eval x = vx) (hy : a.eval y = vy) (hg : (eqGuard b t x y vx vy).run P w = .ok () w) (hv : (binOp b t vx vy).run P w = .ok v w) : (execOp a.eval o).run P w = .ok (.value v) w := by
  unfold execOp
  obtain ⟨u, hu⟩ := kBin_out h
  rw [hu]
  subst hx hy
  simp [hg, hv]
theorem ex_bi {o : Oper} {b : Builtin} {xs : List Operand} {ts : List TypeId} {vs : List Value} {v : Value} (h : kBi o.op = some (b, xs, ts)) (hx : xs.map a.eval = vs) (hr : ∀ ty cs, (builtin b ts.toArray ty cs vs.toArray).run P w = .ok (.value v) w') : (execOp a.eval o).run P w = .ok (.value v) w' := by
  unfold execOp
  subst hx
  simp only [kBi_out h, resolve, invoke, Sem.run_bind, Sem.run_pure, Result.andThen_ok, List.map_toArray, hr]
end
/-- One cell of a row. -/
theorem Row.cellAt {S : Nat → Prop} {w : World} {a : Option Addr} {n c : Nat} {cs : List Value} (h : Row S w (.slice a n c) n 1 cs) {i : Nat} {x : Value} (hx : cs[i]? = some x) : ∃ b off, a = some ⟨b, off, none⟩ ∧ w.cell? ⟨b, off + i, none⟩ = some x ∧ b < w.heap.size ∧ ¬ S b ∧ n ≤ c ∧ c ≤ maxLen := by
  obtain ⟨h0, a', c', h1, h2, _, h4⟩ := h
  injection h1 with e1 e2 e3
  subst e1 e3
  have hi := (List.getElem?_eq_some_iff.1 hx).1
  rcases h4 with h4 | ⟨b, off, e, hb, hs, h4⟩
  · subst h4; simp at h0; rw [h0] at hi; simp at hi
  · exact ⟨b, off, e, h4 i x hx, hb, hs, h2.1, h2.2.2⟩
/-- What is cut off a byte slice. -/
theorem Bs.cut {S : Nat → Prop} {w : World} {a : Option Addr} {b : List UInt8} {c n : Nat} (h : Bs S w (.slice a b.length c) b) (hn : n ≤ b.length) : Bs S w (.slice a n n) (b.take n) := by
  obtain ⟨a', c', h1, h2, h3, h4⟩ := h
  injection h1 with e1 _ e3
  subst e1 e3
  have hl : (b.take n).length = n := by rw [List.length_take]; omega
  refine ⟨a, n, by rw [hl], by rw [hl]; exact ⟨Nat.le_refl _, by have := h2.2.1; omega, by have := h2.1; have := h2.2.2; omega⟩, fun ha => by have := h3 ha; have := h2.1; omega, ?_⟩
  rcases h4 with h4 | ⟨k, off, e1, e2, e3, e4⟩
  · left
    subst h4
    simp
  · right
    refine ⟨k, off, e1, e2, e3, fun i y hy => e4 i y ?_⟩
    have hi : i < n := by have := (List.getElem?_eq_some_iff.1 hy).1; rw [hl] at this; exact this
    rwa [List.getElem?_take_of_lt hi] at hy
section
variable {w : World} {F D : Nat → Prop} {sb : Nat} {st : FSt} {m1 m2 : Nat} {ch : Value}
theorem putFil_twice (f : Nat → Option Fil) (p : Nat) (x y : Fil) : putFil (putFil f p x) p y = putFil f p y := by
  funext q
  unfold putFil
  split <;> rfl
/-- A file's mark is moved. -/
theorem FSo.mark (h : FSo w F D sb st m1 m2 ch) {p : Nat} {x : Fil} (hx : st.files p = some x) {v : Value} (hv : w.heap[p]? = some (.cells #[v, .int .i64 (x.safe : Int)] 87 (0, 0))) (hb : Bs (fun k => D k → F k) w v x.b) (n : Nat) :
    FSo (w.drew.setCell ⟨p, 1, none⟩ (.int .i64 (n : Int))) F D sb { st with files := putFil st.files p ⟨x.b, n⟩ } m1 m2 ch := by
  have h2 := h.fr ((Fr.refl (fun _ => False) w).drew) (fun _ _ => id)
  exact h2.setFile hx ((Fr.refl (· = p) w.drew).setCell (fun _ => rfl) _) (y := ⟨x.b, n⟩) (v := v) ((heap_store (w := w.drew) hv 1 (.int .i64 (n : Int))).trans rfl) (hb.dep ((Fr.refl (fun _ => False) w).drew) (fun _ _ _ => id))
/-- A file is cut. -/
theorem FSo.cut (h : FSo w F D sb st m1 m2 ch) {p : Nat} {x : Fil} (hx : st.files p = some x) {a : Option Addr} {c : Nat} (hv : w.heap[p]? = some (.cells #[.slice a x.b.length c, .int .i64 (x.safe : Int)] 87 (0, 0))) (hb : Bs (fun k => D k → F k) w (.slice a x.b.length c) x.b) (hn : x.safe ≤ x.b.length) :
    FSo (w.drew.setCell ⟨p, 0, none⟩ (.slice a x.safe x.safe)) F D sb { st with files := putFil st.files p ⟨x.b.take x.safe, x.safe⟩ } m1 m2 ch := by
  have h2 := h.fr ((Fr.refl (fun _ => False) w).drew) (fun _ _ => id)
  exact h2.setFile hx ((Fr.refl (· = p) w.drew).setCell (fun _ => rfl) _) (y := ⟨x.b.take x.safe, x.safe⟩) (v := .slice a x.safe x.safe) ((heap_store (w := w.drew) hv 0 (.slice a x.safe x.safe)).trans rfl) ((hb.cut hn).dep ((Fr.refl (fun _ => False) w).drew) (fun _ _ _ => id))
end
theorem r_doneM (w : World) : (underlying 94).run Tryz.prog w = .ok (.map 73 4) w := run_underlying Tryz.underlying94 w
end Go.Proofs.YtgehalfnpbjjcaaGreat
