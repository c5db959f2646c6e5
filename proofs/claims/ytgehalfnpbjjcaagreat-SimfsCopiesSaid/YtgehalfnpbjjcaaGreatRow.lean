/- Slices as rows of cells: read (Row), owned (Own); the one law of append that all walks use. -/
import Derived.Test.YtgehalfnpbjjcaaGreatBase
import Derived.Deep.Upon
import Derived.OwnWalk
import Derived.Laws.AppendOwn
namespace Go.Proofs.YtgehalfnpbjjcaaGreat
open Go Go.RowKit

/-- v is a slice of n elements of size cells each: these cells; they lie outside S. -/
def Row (S : Nat → Prop) (w : World) (v : Value) (n size : Nat) (cs : List Value) : Prop :=
  cs.length = n * size ∧ ∃ a c, v = .slice a n c ∧ Fits n c ∧ (a = none → c = 0) ∧
    (n = 0 ∨ ∃ b off, a = some ⟨b, off, none⟩ ∧ b < w.heap.size ∧ ¬ S b ∧ ∀ j x, cs[j]? = some x → w.cell? ⟨b, off + j, none⟩ = some x)
theorem Row.fr {S S' : Nat → Prop} {w w' : World} {v : Value} {n size : Nat} {cs : List Value} (h : Row S w v n size cs) (hf : Fr S' w w') (hs : ∀ k, k < w.heap.size → S' k → S k) : Row S w' v n size cs := by
  obtain ⟨h0, a, c, h1, h2, h3', h4⟩ := h
  refine ⟨h0, a, c, h1, h2, h3', h4.imp id ?_⟩
  rintro ⟨b, off, e1, e2, e3, e4⟩
  exact ⟨b, off, e1, Nat.lt_of_lt_of_le e2 hf.size, e3, fun j x hx => (hf.cell (p := ⟨b, off + j, none⟩) e2 (fun hS => e3 (hs b e2 hS))).trans (e4 j x hx)⟩
theorem Row.mono {S S' : Nat → Prop} {w : World} {v : Value} {n size : Nat} {cs : List Value} (h : Row S w v n size cs) (hs : ∀ k, k < w.heap.size → S' k → S k) : Row S' w v n size cs := by
  obtain ⟨h0, a, c, h1, h2, h3', h4⟩ := h
  refine ⟨h0, a, c, h1, h2, h3', h4.imp id ?_⟩
  rintro ⟨b, off, e1, e2, e3, e4⟩
  exact ⟨b, off, e1, e2, fun h => e3 (hs b e2 h), e4⟩
/-- v is a slice of n elements that the call has made itself (or empty, without room): its block lies from base on. -/
def Own (w : World) (base : Nat) (e : TypeId) (size : Nat) (v : Value) (n : Nat) (cs : List Value) : Prop :=
  cs.length = n * size ∧ ((n = 0 ∧ ∃ a, v = .slice a 0 0) ∨
   ∃ g cap cur, v = .slice (some ⟨g, 0, none⟩) n cap ∧ base ≤ g ∧ w.heap[g]? = some (.cells cur e (0, 0)) ∧ Fits n cap ∧ cur.size = cap * size ∧ cur.toList.take (n * size) = cs)
/-- The block that an owned slice may write. -/
def mine (v : Value) (k : Nat) : Prop := ∃ off n c, v = .slice (some ⟨k, off, none⟩) n c ∧ c ≠ 0
theorem Own.nil (w : World) (base : Nat) (e : TypeId) (size : Nat) : Own w base e size (.slice none 0 0) 0 [] := ⟨by simp, .inl ⟨rfl, none, rfl⟩⟩
theorem Own.row {w : World} {base : Nat} {e : TypeId} {size : Nat} {v : Value} {n : Nat} {cs : List Value} (h : Own w base e size v n cs) {S : Nat → Prop} (hs : ∀ k, base ≤ k → k < w.heap.size → ¬ S k) : Row S w v n size cs := by
  obtain ⟨h0, ⟨rfl, a, rfl⟩ | ⟨g, cap, cur, rfl, hb, hg, hn, hz, ht⟩⟩ := h
  · exact ⟨h0, a, 0, rfl, ⟨Nat.le_refl _, Nat.zero_le _, Nat.zero_le _⟩, fun _ => rfl, .inl rfl⟩
  · refine ⟨h0, _, cap, rfl, hn, (fun h => nomatch h), .inr ⟨g, 0, rfl, lt_of_heap hg, hs g hb (lt_of_heap hg), fun j x hx => ?_⟩⟩
    rw [cell_of_heap hg, Nat.zero_add, ← Array.getElem?_toList]
    rw [← ht] at hx
    have hj : j < n * size := by
      have := (List.getElem?_eq_some_iff.1 hx).1
      simp at this; omega
    rwa [List.getElem?_take_of_lt hj] at hx
theorem Own.fr {w w' : World} {base : Nat} {e : TypeId} {size : Nat} {v : Value} {n : Nat} {cs : List Value} (h : Own w base e size v n cs) {S : Nat → Prop} (hf : Fr S w w') (hs : ∀ k, mine v k → ¬ S k) : Own w' base e size v n cs := by
  obtain ⟨h0, h | ⟨g, cap, cur, rfl, hb, hg, hn, hz, ht⟩⟩ := h
  · exact ⟨h0, .inl h⟩
  · by_cases hc : cap = 0
    · subst hc
      obtain rfl : n = 0 := by have := hn.1; omega
      exact ⟨h0, .inl ⟨rfl, _, rfl⟩⟩
    · exact ⟨h0, .inr ⟨g, cap, cur, rfl, hb, hf.heap hg (hs g ⟨_, _, _, rfl, hc⟩), hn, hz, ht⟩⟩
theorem Own.mine_ge {w : World} {base : Nat} {e : TypeId} {size : Nat} {v : Value} {n : Nat} {cs : List Value} (h : Own w base e size v n cs) {k : Nat} (hk : mine v k) : base ≤ k ∧ k < w.heap.size := by
  obtain ⟨off, m, c, hv, hc⟩ := hk
  obtain ⟨h0, ⟨rfl, a, h⟩ | ⟨g, cap, cur, h, hb, hg, hn, hz, ht⟩⟩ := h
  · rw [h] at hv; injection hv with _ _ e; exact absurd e.symm hc
  · rw [h] at hv; injection hv with e1 _ _; injection e1 with e1; injection e1 with e1 _ _; subst e1; exact ⟨hb, lt_of_heap hg⟩
theorem Own.mono {w : World} {base base' : Nat} {e : TypeId} {size : Nat} {v : Value} {n : Nat} {cs : List Value} (h : Own w base e size v n cs) (hb' : base' ≤ base) : Own w base' e size v n cs := by
  obtain ⟨h0, h | ⟨g, cap, cur, h, hb, r⟩⟩ := h
  · exact ⟨h0, .inl h⟩
  · exact ⟨h0, .inr ⟨g, cap, cur, h, Nat.le_trans hb' hb, r⟩⟩
theorem Own.len {w : World} {base : Nat} {e : TypeId} {size : Nat} {v : Value} {n : Nat} {cs : List Value} (h : Own w base e size v n cs) : ∃ a c, v = .slice a n c ∧ Fits n c := by
  obtain ⟨h0, ⟨rfl, a, rfl⟩ | ⟨g, cap, cur, rfl, hb, hg, hn, r⟩⟩ := h
  · exact ⟨a, 0, rfl, Nat.le_refl _, Nat.zero_le _, Nat.zero_le _⟩
  · exact ⟨_, cap, rfl, hn⟩
theorem Own.frozen {w : World} {base : Nat} {e : TypeId} {size : Nat} {n g off c : Nat} {cs : List Value} (h : Own w base e size (.slice (some ⟨g, off, none⟩) n c) n cs) (hn : 0 < n) (j : Nat) : w.frozen? ⟨g, j, none⟩ = false := by
  obtain ⟨h0, ⟨rfl, _⟩ | ⟨g', cap, cur, hv, hb, hg, r⟩⟩ := h
  · omega
  · injection hv with e1 _ _; injection e1 with e1; injection e1 with e1 _ _; subst e1
    exact frozen_of_row w g j _ _ hg

/-- A cell of an owned slice is written. -/
theorem Own.store {w : World} {base : Nat} {e : TypeId} {size n g off c : Nat} {cs : List Value} (h : Own w base e size (.slice (some ⟨g, off, none⟩) n c) n cs) (i : Nat) (hi : i < n * size) (v : Value) :
    off = 0 ∧ Own (w.setCell ⟨g, i, none⟩ v) base e size (.slice (some ⟨g, 0, none⟩) n c) n (cs.set i v) := by
  obtain ⟨h0, ⟨rfl, _⟩ | ⟨g', cap, cur, hv, hb, hg, hf, hz, ht⟩⟩ := h
  · simp at hi
  · injection hv with e1 e2 e3; injection e1 with e1; injection e1 with e1 e4 _; subst e1 e3 e4
    refine ⟨rfl, by simpa using h0, .inr ⟨g, c, _, rfl, hb, heap_store hg i v, hf, by simpa using hz, ?_⟩⟩
    rw [← ht]
    simp [List.take_set]
theorem Own.cellAt {w : World} {base : Nat} {e : TypeId} {size n g off c : Nat} {cs : List Value} (h : Own w base e size (.slice (some ⟨g, off, none⟩) n c) n cs) {i : Nat} (hi : i < n * size) : off = 0 ∧ w.cell? ⟨g, i, none⟩ = cs[i]? := by
  obtain ⟨h0, ⟨rfl, _⟩ | ⟨g', cap, cur, hv, hb, hg, hf, hz, ht⟩⟩ := h
  · simp at hi
  · injection hv with e1 e2 e3; injection e1 with e1; injection e1 with e1 e4 _; subst e1 e3 e4
    refine ⟨rfl, ?_⟩
    rw [cell_of_heap hg, ← ht, List.getElem?_take_of_lt hi, Array.getElem?_toList]
section
variable {P : Program}
/-- An element type's row of the program's tables: the slice type t, the element type e, its cells and bytes, its zero value. -/
structure ET (P : Program) (t e size bytes : Nat) (z : Value) : Prop where
  ht : P.underlying t = some (.slice e)
  hi : (P.info? e).map (fun i => (i.zero, i.size, i.bytes)) = some (some z, size, bytes)
  hz : z.cells.size = size
  h0 : 0 < size
  hb : 0 < bytes
theorem append_mine {w : World} {t ty e size bytes : Nat} {z : Value} (E : ET P t e size bytes z) {base : Nat} {v : Value} {n : Nat} {xs : List Value} (hown : Own w base e size v n xs)
    {S : Nat → Prop} {x : Value} {m : Nat} {news : List Value} (hx : Row S w x m size news) (h1 : ∀ u ∈ news, u.oneCell' = true) (hbytes : (n + m) * bytes ≤ 140737488355328) (hbase : base ≤ w.heap.size) :
    ∃ v' w', (Builtin.append_ #[t, t] ty #[v, x]).run P w = .ok v' w' ∧ Own w' base e size v' (n + m) (xs ++ news) ∧ Fr (mine v) w w' ∧ (∀ k, mine v' k → mine v k ∨ w.heap.size ≤ k) := by
  obtain ⟨i, hi, hz, hsize, hby⟩ := info_parts E.hi
  have hlow : n + m ≤ (n + m) * bytes := Nat.le_mul_of_pos_right _ E.hb
  have h63 : n + m ≤ maxLen := by unfold maxLen; omega
  obtain ⟨hl, a, c, rfl, ⟨hmc, _, hcm⟩, hnil, hcells⟩ := hx
  have hlen : (xs ++ news).length = (n + m) * size := by rw [List.length_append, hown.1, hl, Nat.add_mul]
  have hsrc : Src P i.size t (.slice a m c) m news w := by
    rw [hsize]
    rcases hcells with rfl | ⟨b, off, rfl, hbl, hbS, hcell⟩
    · obtain rfl : news = [] := List.eq_nil_of_length_eq_zero (by simpa using hl)
      cases a with
      | none => exact Src.ofNil w E.ht c
      | some a => exact Src.ofSlice w E.ht a 0 c [] (by simp) (by simp) h1
    · refine Src.ofSlice w E.ht ⟨b, off, none⟩ m c news hl (fun j u hj => ?_) h1
      have hadd : (⟨b, off, none⟩ : Addr).add j = ⟨b, off + j, none⟩ := by unfold Addr.add; split <;> simp_all
      rw [hadd]; exact hcell j u hj
  by_cases hm : m = 0
  · subst hm
    obtain rfl : news = [] := List.eq_nil_of_length_eq_zero (by simpa using hl)
    obtain ⟨av, cv, rfl, hnc, _, _⟩ := hown.len
    refine ⟨_, w, run_append_nothing w t t ty e i E.ht hi av _ _ hnc _ hsrc, by simpa using hown, Fr.refl _ _, fun k hk => .inl hk⟩
  have grown : ∀ (old : Nat), old < n + m → ∀ (V : Nat → Prop),
      Own (w.drew.alloc (.cells ((xs ++ news).toArray ++ Builtin.zeroCells z.cells (grownCap w (n + m) old e - (n + m))) e)) base e size
        (.slice (some ⟨w.heap.size, 0, none⟩) (n + m) (grownCap w (n + m) old e)) (n + m) (xs ++ news) ∧
      Fr V w (w.drew.alloc (.cells ((xs ++ news).toArray ++ Builtin.zeroCells z.cells (grownCap w (n + m) old e - (n + m))) e)) := by
    intro old ho V
    have hge := grownCap_ge w (n + m) old e
    have hcm : grownCap w (n + m) old e ≤ maxLen := grownCap_le_maxLen w (n + m) old e h63
    refine ⟨⟨hlen, .inr ⟨w.heap.size, _, _, rfl, hbase, heap_alloc_new w.drew _, ⟨hge, by omega, hcm⟩, ?_, ?_⟩⟩, (Fr.refl V w).drew.alloc _⟩
    · simp only [Array.size_append, List.size_toArray, size_zeroCells, E.hz, hlen, ← Nat.add_mul]
      congr 1
      omega
    · simp only [Array.toList_append]
      rw [← hlen]
      exact List.take_left
  have hnew : ∀ (k n' c' : Nat), mine (.slice (some ⟨w.heap.size, 0, none⟩) n' c') k → w.heap.size ≤ k := by
    rintro k n' c' ⟨off, n2, c2, hv, _⟩
    injection hv with e1 _ _; injection e1 with e1; injection e1 with e1 _ _; omega
  obtain ⟨h0, ⟨rfl, av, rfl⟩ | ⟨g, cap, cur, rfl, hbg, hg, ⟨hnc, hlim, hcm'⟩, hcs, htake⟩⟩ := hown
  · obtain rfl : xs = [] := List.eq_nil_of_length_eq_zero (by simpa using h0)
    have hold : (Builtin.firstCells i.size 0 (.slice av 0 0)).run P w.drew = .ok ([] : List Value).toArray w.drew := by
      cases av with
      | none => exact run_firstCells_none w.drew i.size 0 0 0
      | some a => exact run_firstCells_some (P := P) w.drew i.size 0 a 0 0 [] (by simp) (by simp)
    have hr := run_append_grow_src (P := P) w t t ty e i z E.ht hi hz av 0 0 [] hold _ m news hsrc (by omega) (by unfold maxLen at h63; omega) (growslice_fits (by omega) (by rw [hby]; exact hbytes))
    have hgr := grown 0 (by omega) (mine (.slice av 0 0))
    exact ⟨_, _, hr, hgr.1, hgr.2, fun k hk => .inr (hnew k _ _ hk)⟩
  · by_cases hroom : n + m ≤ cap
    · rcases hcells with h | ⟨b, off, rfl, hbl, hbS, hcell⟩
      · exact absurd h hm
      have hadd : ∀ j, (⟨b, off, none⟩ : Addr).add j = ⟨b, off + j, none⟩ := fun j => by unfold Addr.add; split <;> simp_all
      have hfit : n * i.size + news.length ≤ cur.size := by rw [hl, hcs, hsize, ← Nat.add_mul]; exact Nat.mul_le_mul_right _ hroom
      have hr := run_append_room (P := P) w t ty e i E.ht hi g n cap cur hg ⟨b, off, none⟩ m c news (by rw [hsize]; exact hl) (fun j u hj => by rw [hadd]; exact hcell j u hj) h1 hroom hfit
      have hcap0 : cap ≠ 0 := by omega
      refine ⟨_, _, hr, ⟨hlen, .inr ⟨g, cap, _, rfl, hbg, setRow_heap w g cur _ e _ hg, ⟨hroom, by omega, hcm'⟩, ?_, ?_⟩⟩,
        ⟨rfl, rfl, rfl, by simp, fun k _ hk => setRow_other w g k _ (fun e => hk ⟨0, n, cap, by rw [e], hcap0⟩)⟩, fun k hk => .inl ?_⟩
      · rw [hsize] at hfit ⊢
        simp only [List.size_toArray, List.length_append, List.length_take, List.length_drop, Array.length_toList]
        omega
      · rw [hsize, htake, ← hlen]
        exact List.take_left
      · obtain ⟨o2, n2, c2, hv, hc⟩ := hk
        injection hv with e1 _ e3
        exact ⟨0, n, cap, by rw [show (⟨g, 0, none⟩ : Addr) = ⟨k, 0, none⟩ from by injection e1 with e1; injection e1 with e1 _ _; rw [e1]], hcap0⟩
    · have hold : (Builtin.firstCells i.size n (.slice (some ⟨g, 0, none⟩) n cap)).run P w.drew = .ok xs.toArray w.drew := by
        refine run_firstCells_some (P := P) w.drew i.size n ⟨g, 0, none⟩ n cap xs (by rw [hsize]; exact h0) (fun j u hj => ?_)
        have hadd : (⟨g, 0, none⟩ : Addr).add j = ⟨g, j, none⟩ := by unfold Addr.add; split <;> simp_all
        rw [hadd, cell_of_heap (w := w.drew) hg, ← Array.getElem?_toList]
        rw [← htake] at hj
        have hj' : j < n * size := by
          have := (List.getElem?_eq_some_iff.1 hj).1
          simp at this; omega
        rwa [List.getElem?_take_of_lt hj'] at hj
      have hr := run_append_grow_src (P := P) w t t ty e i z E.ht hi hz (some ⟨g, 0, none⟩) n cap xs hold _ m news hsrc (by omega) (by unfold maxLen at h63; omega) (growslice_fits (by omega) (by rw [hby]; exact hbytes))
      have hgr := grown cap (by omega) (mine (.slice (some ⟨g, 0, none⟩) n cap))
      exact ⟨_, _, hr, hgr.1, hgr.2, fun k hk => .inr (hnew k _ _ hk)⟩

/-- append, for the walk. -/
theorem wpl_append {w : World} {ops : Array Oper} {rest : List Oper} {o : Oper} {a : Act} {Q : Exit → Act → World → Prop} (hgd : o.guard = none) {s y : Operand} {t : TypeId}
    (ho : o.op = .call { callee := .builtin .append, args := #[s, y], argTypes := #[t, t] })
    {e size bytes : Nat} {z : Value} (E : ET P t e size bytes z) {base : Nat} {v : Value} {n : Nat} {xs : List Value} (hs : a.eval s = v) (hown : Own w base e size v n xs)
    {S : Nat → Prop} {x : Value} {m : Nat} {news : List Value} (hy : a.eval y = x) (hx : Row S w x m size news) (h1 : ∀ u ∈ news, u.oneCell' = true) (hbytes : (n + m) * bytes ≤ 140737488355328) (hbase : base ≤ w.heap.size)
    (h : ∀ v' w', Own w' base e size v' (n + m) (xs ++ news) → Fr (mine v) w w' → (∀ k, mine v' k → mine v k ∨ w.heap.size ≤ k) → wpList P ops Q rest (a.put o.dst v') w') : wpList P ops Q (o :: rest) a w := by
  obtain ⟨v', w', hr, h2, h3, h4⟩ := append_mine (P := P) (ty := o.type) E hown hx h1 hbytes hbase
  refine wpList_plain hgd fun K hK => ?_
  unfold Oper.wp execOp
  simp only [ho, resolve, invoke, builtin, Sem.run_bind, Sem.run_pure, Result.andThen_ok, List.map_toArray, List.map_cons, List.map_nil, hs, hy, hr]
  exact hK _ _ (h v' w' h2 h3 h4)
/-- append, as one operation of a region. -/
theorem step_append {w : World} {ops : Array Oper} {o : Oper} {a : Act} {K : Act → World → Prop} {Q : Exit → Act → World → Prop} {X : Prop} (hgd : o.guard = none) {s y : Operand} {t : TypeId}
    (ho : o.op = .call { callee := .builtin .append, args := #[s, y], argTypes := #[t, t] })
    {e size bytes : Nat} {z : Value} (E : ET P t e size bytes z) {base : Nat} {v : Value} {n : Nat} {xs : List Value} (hs : a.eval s = v) (hown : Own w base e size v n xs)
    {S : Nat → Prop} {x : Value} {m : Nat} {news : List Value} (hy : a.eval y = x) (hx : Row S w x m size news) (h1 : ∀ u ∈ news, u.oneCell' = true) (hbytes : (n + m) * bytes ≤ 140737488355328) (hbase : base ≤ w.heap.size)
    (h : ∀ a' c' w', Own w' base e size (.slice a' (n + m) c') (n + m) (xs ++ news) → Fr (mine v) w w' → (∀ k, mine (.slice a' (n + m) c') k → mine v k ∨ w.heap.size ≤ k) → K (a.put o.dst (.slice a' (n + m) c')) w') :
    if Region.wanted o (yielded ops a.tmps) = true then Oper.wp P o a w K Q else X := by
  rw [if_pos (by simp [Region.wanted, hgd])]
  obtain ⟨v', w', hr, h2, h3, h4⟩ := append_mine (P := P) (ty := o.type) E hown hx h1 hbytes hbase
  obtain ⟨a', c', rfl, _⟩ := h2.len
  unfold Oper.wp execOp
  simp only [ho, resolve, invoke, builtin, Sem.run_bind, Sem.run_pure, Result.andThen_ok, List.map_toArray, List.map_cons, List.map_nil, hs, hy, hr]
  exact h a' c' w' h2 h3 h4
end
end Go.Proofs.YtgehalfnpbjjcaaGreat
