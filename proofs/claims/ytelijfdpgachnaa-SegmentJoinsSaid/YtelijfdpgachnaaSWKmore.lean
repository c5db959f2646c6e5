/- More on rows of structs that a call rewrites: one element stored, the rest cleared; and how an owned slice stands to them. -/
import Derived.Test.YtelijfdpgachnaaSegRight2
import Derived.Test.YtelijfdpgachnaaStable6
import Derived.Test.YtelijfdpgachnaaClone
import Derived.Lib.SliceRun
namespace Go.Proofs.Ytelijfdpgachnaa
open Go Go.RowKit Go.Sort
section
variable {α : Type} [Inhabited α] {enc : α → List Value} {k : Nat} {w0 W : World} {blk off : Nat} {dk d0 : Array α}
omit [Inhabited α] in
theorem flat_atk (hk : ∀ x, (enc x).length = k) : ∀ {l : List α} {i : Nat} {e : α} {j : Nat} {x : Value}, l[i]? = some e → (enc e)[j]? = some x → (l.flatMap enc)[i * k + j]? = some x
  | [], i, e, j, x, h, _ => by simp at h
  | a :: l, 0, e, j, x, h, hx => by
    simp only [List.getElem?_cons_zero, Option.some.injEq] at h
    subst h
    rw [List.flatMap_cons, Nat.zero_mul, Nat.zero_add, List.getElem?_append_left (List.getElem?_eq_some_iff.1 hx).1]; exact hx
  | a :: l, i + 1, e, j, x, h, hx => by
    rw [List.flatMap_cons, List.getElem?_append_right (by rw [hk, Nat.add_mul]; omega), hk]
    have := flat_atk hk (l := l) (i := i) (by simpa using h) hx
    rw [← this]; congr 1; rw [Nat.add_mul]; omega
theorem flatK_set (hk : ∀ x, (enc x).length = k) (d : Array α) (i : Nat) (hi : i < d.size) (u : α) : setMany (flatK enc k d) (i * k) (enc u) = flatK enc k (d.setIfInBounds i u) := by
  refine ext_get! (by simp) fun t ht => ?_
  have ht' : t < d.size * k := by simpa using ht
  have k0 : 0 < k := by rcases Nat.eq_zero_or_pos k with h | h; · subst h; simp at ht'
                        · exact h
  rw [get_setMany _ _ _ t (by simpa using ht'), get_flatK _ _ _ t ht', get_flatK _ _ _ t (by simpa using ht'), hk]
  by_cases a : t / k = i
  · rw [if_pos ((blk_iff k i t k0).2 a)]
    have e : (d.setIfInBounds i u)[t / k]! = u := by rw [a]; exact getElem!_set_same d i u hi
    rw [e]; congr 1; subst a; rw [Nat.mod_eq_sub_div_mul]
  · rw [if_neg (fun h => a ((blk_iff k i t k0).1 h))]
    have e : (d.setIfInBounds i u)[t / k]! = d[t / k]! := by
      by_cases hs : t / k < d.size
      · rw [getElem!_pos _ _ (by simpa using hs), getElem!_pos d _ hs, Array.getElem_setIfInBounds (by simpa using hs), if_neg (Ne.symm a)]
      · rw [getElem!_neg _ _ (by simpa using hs), getElem!_neg d _ hs]
    rw [e]
theorem SWK.set1 (h : SWK enc k w0 blk off dk W) (R : RowK enc k w0 blk off d0) (i : Nat) (hi : i < dk.size) (u : α) : SWK enc k w0 blk off (dk.setIfInBounds i u) (W.setCells blk (off + i * k) (enc u)) := by
  obtain ⟨n, os, rfl⟩ := h
  refine ⟨n, os, ?_⟩
  unfold sortWorldK
  rw [setCells_grow os blk _ _ _ (by rw [size_putRowK]; exact R.hblk)]
  congr 1
  unfold putRowK
  rw [setCells_putRow _ _ _ _ _ _ (by rw [R.hk, size_flatK]; exact rowK_bnd dk k i hi), flatK_set R.hk dk i hi u]
theorem SWK.st (h : SWK enc k w0 blk off dk W) (R : RowK enc k w0 blk off d0) (hs : dk.size = d0.size) (P : Program) (i : Nat) (hi : i < dk.size) (u : α) :
    Sem.run P (storeCells ⟨blk, off + i * k, none⟩ (enc u) 0) W = .ok () (W.setCells blk (off + i * k) (enc u)) :=
  stores_of_holds P (h.holds R.hblk R.hH hs) (i * k) _ (by rw [R.hk, size_flatK]; exact rowK_bnd dk k i hi) (R.h1 _)
theorem setCells_append (b : Nat) : ∀ (xs ys : List Value) (o : Nat) (w : World), w.setCells b o (xs ++ ys) = (w.setCells b o xs).setCells b (o + xs.length) ys
  | [], ys, o, w => rfl
  | x :: xs, ys, o, w => by
    rw [List.cons_append, World.setCells, World.setCells, setCells_append b xs ys]
    congr 1; simp; omega
/-- m elements from i on are overwritten. -/
theorem SWK.fill (R : RowK enc k w0 blk off d0) (z : α) : ∀ (m i : Nat) (dk : Array α) (W : World), SWK enc k w0 blk off dk W → i + m ≤ dk.size →
    ∃ d', d'.size = dk.size ∧ (∀ t, t < i → d'[t]! = dk[t]!) ∧ SWK enc k w0 blk off d' (W.setCells blk (off + i * k) (List.replicate m (enc z)).flatten)
  | 0, i, dk, W, h, _ => ⟨dk, rfl, fun _ _ => rfl, h⟩
  | m + 1, i, dk, W, h, hm => by
    obtain ⟨d', h1, h2, h3⟩ := SWK.fill R z m (i + 1) _ _ (SWK.set1 h R i (by omega) z) (by simp; omega)
    refine ⟨d', by rw [h1]; simp, fun t ht => ?_, ?_⟩
    · rw [h2 t (by omega)]
      by_cases hs : t < dk.size
      · rw [getElem!_pos _ _ (by simpa using hs), getElem!_pos dk _ hs, Array.getElem_setIfInBounds (by simpa using hs), if_neg (by omega)]
      · rw [getElem!_neg _ _ (by simpa using hs), getElem!_neg dk _ hs]
    · rw [List.replicate_succ, List.flatten_cons, setCells_append, R.hk]
      rw [show off + i * k + k = off + (i + 1) * k by rw [Nat.add_mul]; omega]
      exact h3
theorem zeroCells_list (z : List Value) (n : Nat) : (Builtin.zeroCells z.toArray n).toList = (List.replicate n z).flatten := by
  induction n with
  | zero => simp [Builtin.zeroCells]
  | succ n ih =>
    rw [List.replicate_succ', List.flatten_append, ← ih]
    unfold Builtin.zeroCells
    apply List.ext_getElem
    · simp [Nat.add_mul]
    · intro i h1 h2
      simp only [List.getElem_append]
      split
      · simp
      · next hlt =>
        simp at h1 hlt
        have e : i % z.length = i - n * z.length := by
          rw [show i = (i - n * z.length) + n * z.length by omega, Nat.add_mul_mod_self_right, Nat.mod_eq_of_lt (by rw [Nat.add_mul] at h1; omega)]; omega
        have hlt2 : i - n * z.length < z.length := by rw [Nat.add_mul] at h1; omega
        simp [e, List.getElem?_eq_getElem hlt2]
theorem run_clear_rows {P : Program} (w : World) (t e ty : TypeId) (z : List Value) (ht : P.underlying t = some (.slice e)) (hv : ∀ w, (zeroValue e).run P w = .ok (.agg z.toArray) w) (b o n c : Nat) (hn : 0 < n) (w' : World)
    (hst : Sem.run P (storeCells ⟨b, o, none⟩ (List.replicate n z).flatten 0) w = .ok () w') :
    (Builtin.clear_ #[t] ty #[.slice (some ⟨b, o, none⟩) n c]).run P w = .ok (.tuple #[]) w' := by
  obtain ⟨m, rfl⟩ : ∃ m, n = m + 1 := ⟨n - 1, by omega⟩
  have hzc : (Builtin.zeroCells (Value.agg z.toArray).cells (m + 1)).toList = (List.replicate (m + 1) z).flatten := zeroCells_list z _
  simp only [Builtin.clear_, Sem.run_bind, run_underlying ht, hv, Result.andThen_ok, hzc, List.getElem?_toArray, List.getElem?_cons_zero, hst, Sem.run_pure]
theorem SWK.clear (h : SWK enc k w0 blk off dk W) (R : RowK enc k w0 blk off d0) (hs : dk.size = d0.size) (P : Program) (z : α) (m i : Nat) (hi : i + m ≤ dk.size) :
    Sem.run P (storeCells ⟨blk, off + i * k, none⟩ (List.replicate m (enc z)).flatten 0) W = .ok () (W.setCells blk (off + i * k) (List.replicate m (enc z)).flatten) :=
  stores_of_holds P (h.holds R.hblk R.hH hs) (i * k) _ (by
    have hl : (List.replicate m (enc z)).flatten.length = m * k := by simp [R.hk]
    rw [hl, size_flatK, ← Nat.add_mul]; exact Nat.mul_le_mul_right k hi) (by
    intro v hv
    obtain ⟨l, hl, hv⟩ := List.mem_flatten.1 hv
    rw [List.eq_of_mem_replicate hl] at hv
    exact R.h1 _ v hv)
theorem flatK_list (hk : ∀ x, (enc x).length = k) (h0 : 0 < k) (d : Array α) : (flatK enc k d).toList = d.toList.flatMap enc := by
  have hlen : ∀ l : List α, (l.flatMap enc).length = l.length * k := fun l => by
    induction l with
    | nil => simp
    | cons a l ih => rw [List.flatMap_cons, List.length_append, ih, hk, List.length_cons, Nat.add_mul]; omega
  apply List.ext_getElem
  · rw [hlen]; simp
  · intro t h1 h2
    have ht : t < d.size * k := by simpa using h1
    have hq : t / k < d.size := Nat.div_lt_of_lt_mul (by rwa [Nat.mul_comm])
    have hm : t % k < k := Nat.mod_lt _ h0
    have h3 := get_flatK enc k d t ht
    rw [getElem!_pos _ t (by simpa using ht), getElem!_pos d _ hq] at h3
    have h4 : (enc d[t / k])[t % k]? = some ((enc d[t / k])[t % k]'(by rw [hk]; exact hm)) := List.getElem?_eq_getElem _
    have h5 : (d.toList.flatMap enc)[t]? = some ((enc d[t / k])[t % k]'(by rw [hk]; exact hm)) := by
      have := flat_atk hk (l := d.toList) (i := t / k) (e := d[t / k]) (by simp [hq]) h4
      rwa [show t / k * k + t % k = t by rw [Nat.mul_comm]; exact Nat.div_add_mod t k] at this
    rw [List.getElem?_eq_getElem h2] at h5
    injection h5 with h5
    rw [h5]
    simp only [Array.getElem_toList]
    rw [h3, getElem!_pos (enc d[t / k]) _ (by rw [hk]; exact hm)]
end
/-- An owned slice with elements, as a row. -/
theorem Own.holdsK {w : World} {base e cap g : Nat} {l : List Ent} (h : Own w base e 35 (.slice (some ⟨g, 0, none⟩) l.length cap) l.length (l.flatMap entC)) (hl : l ≠ []) : RowK entC 35 w g 0 l.toArray ∧ ∃ cur, w.heap[g]? = some (.cells cur e (0, 0)) ∧ cur.size = cap * 35 ∧ base ≤ g ∧ Fits l.length cap := by
  obtain ⟨h0, ⟨hn, _⟩ | ⟨g', cap', cur, hv, hb, hg, hf, hz, ht⟩⟩ := h
  · exact absurd (List.eq_nil_of_length_eq_zero hn) hl
  · injection hv with e1 e2 e3; injection e1 with e1; injection e1 with e1 _ _; subst e1 e3
    refine ⟨⟨entC_length, entC_one, fun j hj => ?_, lt_of_heap hg⟩, cur, hg, hz, hb, hf⟩
    rw [size_flatK] at hj
    have hj' : j < l.length * 35 := by simpa using hj
    have hfl := flatK_list entC_length (by decide) l.toArray
    refine ⟨?_, frozen_of_row w g _ _ _ hg⟩
    rw [Nat.zero_add, cell_of_heap hg]
    have h1 : (l.flatMap entC)[j]? = some (flatK entC 35 l.toArray)[j]! := by
      rw [show l.flatMap entC = (flatK entC 35 l.toArray).toList from hfl.symm, getElem!_pos _ j (by rw [size_flatK]; simpa using hj')]
      simp [hj']
    rw [← ht, List.getElem?_take_of_lt hj', Array.getElem?_toList] at h1
    exact h1
/-- .. and behind what rewrote it. -/
theorem SWK.own {w W : World} {base e cap g n m : Nat} {cur : Array Value} {d dk : Array Ent} (S : SWK entC 35 w g 0 dk W) (R : RowK entC 35 w g 0 d) (hs : dk.size = d.size) (hn : d.size = n) (hm : m ≤ n)
    (hg : w.heap[g]? = some (.cells cur e (0, 0))) (hz : cur.size = cap * 35) (hb : base ≤ g) (hf : Fits n cap) :
    Own W base e 35 (.slice (some ⟨g, 0, none⟩) m cap) m ((dk.toList.take m).flatMap entC) ∧ Fr (· = g) w W := by
  have hH := S.holds R.hblk R.hH hs
  obtain ⟨q, os, rfl⟩ := S
  have hblock : (sortWorldK entC 35 w g 0 q dk os).heap[g]? = some (.cells (putCells id 0 (flatK entC 35 dk) cur) e (0, 0)) := by
    unfold sortWorldK
    rw [heap_grow_old _ _ (by rw [size_putRowK]; exact R.hblk)]
    unfold putRowK putRow mapBlock
    show (w.heap.modify g _)[g]? = _
    rw [Array.getElem?_modify, if_pos rfl, hg]; rfl
  have hsz : (putCells id 0 (flatK entC 35 dk) cur).size = cur.size := by simp [putCells]
  have hflm : ∀ l : List Ent, (l.flatMap entC).length = l.length * 35 := fun l => by
    induction l with
    | nil => simp
    | cons a l ih => rw [List.flatMap_cons, List.length_append, ih, entC_length, List.length_cons, Nat.add_mul]; omega
  have hlm : (dk.toList.take m).length = m := by simp; omega
  refine ⟨⟨by rw [hflm, hlm], .inr ⟨g, cap, _, rfl, hb, hblock, ⟨by have := hf.1; omega, by have := hf.2.1; omega, hf.2.2⟩, by rw [hsz]; exact hz, ?_⟩⟩, ⟨rfl, rfl, rfl, ?_, fun b hb' hne => ?_⟩⟩
  · have h1 : (dk.toList.take m).flatMap entC = (dk.toList.flatMap entC).take (m * 35) := by
      have := List.take_append_drop m dk.toList
      generalize hA : dk.toList.take m = A at *
      generalize hB : dk.toList.drop m = B at *
      rw [← this, List.flatMap_append, List.take_append_of_le_length (by rw [hflm, hlm]; exact Nat.le_refl _), List.take_of_length_le (by rw [hflm, hlm]; exact Nat.le_refl _)]
    rw [h1, ← flatK_list entC_length (by decide) dk]
    apply List.ext_getElem?
    intro t
    by_cases ht : t < m * 35
    · rw [List.getElem?_take_of_lt ht, List.getElem?_take_of_lt ht, Array.getElem?_toList, Array.getElem?_toList]
      have ht2 : t < dk.size * 35 := Nat.lt_of_lt_of_le ht (Nat.mul_le_mul_right 35 (by omega))
      have := (hH t (by rw [size_flatK]; exact ht2)).1
      rw [Nat.zero_add, cell_of_heap hblock] at this
      rw [this, getElem!_pos _ t (by rw [size_flatK]; exact ht2)]
      simp [ht2]
    · rw [List.getElem?_eq_none (by simp; omega), List.getElem?_eq_none (by simp; omega)]
  · unfold sortWorldK; rw [size_grow, size_putRowK]; exact Nat.le_add_right _ _
  · unfold sortWorldK
    rw [heap_grow_old _ _ (by rw [size_putRowK]; exact hb')]
    unfold putRowK putRow mapBlock
    show (w.heap.modify g _)[b]? = _
    rw [Array.getElem?_modify, if_neg (fun e => hne e.symm)]
end Go.Proofs.Ytelijfdpgachnaa
