/- More on rows of structs that a call rewrites: one element stored, the rest cleared; and how an owned slice stands to them. -/
import Derived.Test.YtpomfegcifpfkaaSegRight2
import Derived.Test.YtpomfegcifpfkaaStable6
import Derived.Test.YtpomfegcifpfkaaClone
import Derived.Lib.SliceRun
namespace Go.Proofs.Ytpomfegcifpfkaa
open Go Go.RowKit Go.Sort
section
variable {α : Type} [Inhabited α] {enc : α → List Value} {k : Nat} {w0 W : World} {blk off : Nat} {dk d0 : Array α}
omit [Inhabited α] in
theorem flat_atk (hk : ∀ x, (enc x).length = k) : ∀ {l : List α} {i : Nat} {e : α} {j : Nat} {x : Value}, l[i]? = some e → (enc e)[j]? = some x → (l.flatMap enc)[i * k + j]? = some x
  | [], i, e, j, x, h, _ => by simp at h
  | a :: l, 0, e, j, x, h, hx => by
    simp only [List.getElem?_cons_zero, Option.some.injEq] at h
    subst h
    rw [List.flatMap_cons, Nat.zero_mul, Nat.zero_add, List.getElem?_append_left (List.getElem?_eq_some_iff.1 hx).1]; exact hx
  | a :: l, i + 1, e, j, x, h, hx => by
    rw [List.flatMap_cons, List.getElem?_append_right (by rw [hk, Nat.add_mul]; omega), hk]
    have := flat_atk hk (l := l) (i := i) (by simpa using h) hx
    rw [← this]; congr 1; rw [Nat.add_mul]; omega
theorem flatK_set (hk : ∀ x, (enc x).length = k) (d : Array α) (i : Nat) (hi : i < d.size) (u : α) : setMany (flatK enc k d) (i * k) (enc u) = flatK enc k (d.setIfInBounds i u) := by
  refine ext_get! (by simp) fun t ht => ?_
  have ht' : t < d.size * k := by simpa using ht
  have k0 : 0 < k := by rcases Nat.eq_zero_or_pos k with h | h; · subst h; simp at ht'
                        · exact h
  rw [get_setMany _ _ _ t (by simpa using ht'), get_flatK _ _ _ t ht', get_flatK _ _ _ t (by simpa using ht'), hk]
  by_cases a : t / k = i
  · rw [if_pos ((blk_iff k i t k0).2 a)]
    have e : (d.setIfInBounds i u)[t / k]! = u := by rw [a]; exact getElem!_set_same d i u hi
    rw [e]; congr 1; subst a; rw [Nat.mod_eq_sub_div_mul]
  · rw [if_neg (fun h => a ((blk_iff k i t k0).1 h))]
    have e : (d.setIfInBounds i u)[t / k]! = d[t / k]! := by
      by_cases hs : t / k < d.size
      · rw [getElem!_pos _ _ (by simpa using hs), getElem!_pos d _ hs, Array.getElem_setIfInBounds (by simpa using hs), if_neg (Ne.symm a)]
      · rw [getElem!_neg _ _ (by simpa using hs), getElem!_neg d _ hs]
    rw [e]
theorem SWK.set1 (h : SWK enc k w0 blk off dk W) (R : RowK enc k w0 blk off d0) (i : Nat) (hi : i < dk.size) (u : α) : SWK enc k w0 blk off (dk.setIfInBounds i u) (W.setCells blk (off + i * k) (enc u)) := by
  obtain ⟨n, os, rfl⟩ := h
  refine ⟨n, os, ?_⟩
  unfold sortWorldK
  rw [setCells_grow os blk _ _ _ (by rw [size_putRowK]; exact R.hblk)]
  congr 1
  unfold putRowK
  rw [setCells_putRow _ _ _ _ _ _ (by rw [R.hk, size_flatK]; exact rowK_bnd dk k i hi), flatK_set R.hk dk i hi u]
theorem SWK.st (h : SWK enc k w0 blk off dk W) (R : RowK enc k w0 blk off d0) (hs : dk.size = d0.size) (P : Program) (i : Nat) (hi : i < dk.size) (u : α) :
    Sem.run P (storeCells ⟨blk, off + i * k, none⟩ (enc u) 0) W = .ok () (W.setCells blk (off + i * k) (enc u)) :=
  stores_of_holds P (h.holds R.hblk R.hH hs) (i * k) _ (by rw [R.hk, size_flatK]; exact rowK_bnd dk k i hi) (R.h1 _)
theorem setCells_append (b : Nat) : ∀ (xs ys : List Value) (o : Nat) (w : World), w.setCells b o (xs ++ ys) = (w.setCells b o xs).setCells b (o + xs.length) ys
  | [], ys, o, w => rfl
  | x :: xs, ys, o, w => by
    rw [List.cons_append, World.setCells, World.setCells, setCells_append b xs ys]
    congr 1; simp; omega
/-- m elements from i on are overwritten. -/
theorem SWK.fill (R : RowK enc k w0 blk off d0) (z : α) : ∀ (m i : Nat) (dk : Array α) (W : World), SWK enc k w0 blk off dk W → i + m ≤ dk.size →
    ∃ d', d'.size = dk.size ∧ (∀ t, t < i → d'[t]! = dk[t]!) ∧ SWK enc k w0 blk off d' (W.setCells blk (off + i * k) (List.replicate m (enc z)).flatten)
  | 0, i, dk, W, h, _ => ⟨dk, rfl, fun _ _ => rfl, h⟩
  | m + 1, i, dk, W, h, hm => by
    obtain ⟨d', h1, h2, h3⟩ := SWK.fill R z m (i + 1) _ _ (SWK.set1 h R i (by omega) z) (by simp; omega)
    refine ⟨d', by rw [h1]; simp, fun t ht => ?_, ?_⟩
    · rw [h2 t (by omega)]
      by_cases hs : t < dk.size
      · rw [getElem!_pos _ _ (by simpa using hs), getElem!_pos dk _ hs, Array.getElem_setIfInBounds (by simpa using hs), if_neg (by omega)]
      · rw [getElem!_neg _ _ (by simpa using hs), getElem!_neg dk _ hs]
    · rw [List.replicate_succ, List.flatten_cons, setCells_append, R.hk]
      rw [show off + i * k + k = off + (i + 1) * k by rw [Nat.add_mul]; omega]
      exact h3
theorem zeroCells_list (z : List Value) (n : Nat) : (Builtin.zeroCells z.toArray n).toList = (List.replicate n z).flatten := by
  induction n with
  | zero => simp [Builtin.zeroCells]
  | succ n ih =>
    rw [List.replicate_succ', List.flatten_append, ← ih]
    unfold Builtin.zeroCells
    apply List.ext_getElem
    · simp [Nat.add_mul]
    · intro i h1 h2
      simp only [List.getElem_append]
      split
      · simp
      · next hlt =>
        simp at h1 hlt
        have e : i % z.length = i - n * z.length := by
          rw [show i = (i - n * z.length) + n * z.length by omega, Nat.add_mul_mod_self_right, Nat.mod_eq_of_lt (by rw [Nat.add_mul] at h1; omega)]; omega
        have hlt2 : i - n * z.length < z.length := by rw [Nat.add_mul] at h1; omega
        simp [e, List.getElem?_eq_getElem hlt2]
theorem run_clear_rows {P : Program} (w : World) (t e ty : TypeId) (z : List Value) (ht : P.underlying t = some (.slice e)) (hv : ∀ w, (zeroValue e).run P w = .ok (.agg z.toArray) w) (b o n c : Nat) (hn : 0 < n) (w' : World)
    (hst : Sem.run P (storeCells ⟨b, o, none⟩ (List.replicate n z).flatten 0) w = .ok () w') :
    (Builtin.clear_ #[t] ty #[.slice (some ⟨b, o, none⟩) n c]).run P w = .ok (.tuple #[]) w' := by
  obtain ⟨m, rfl⟩ : ∃ m, n = m + 1 := ⟨n - 1, by omega⟩
  have hzc : (Builtin.zeroCells (Value.agg z.toArray).cells (m + 1)).toList = (List.replicate (m + 1) z).flatten := zeroCells_list z _
  simp only [Builtin.clear_, Sem.run_bind, run_underlying ht, hv, Result.andThen_ok, hzc, List.getElem?_toArray, List.getElem?_cons_zero, hst, Sem.run_pure]
theorem SWK.clear (h : SWK enc k w0 blk off dk W) (R : RowK enc k w0 blk off d0) (hs : dk.size = d0.size) (P : Program) (z : α) (m i : Nat) (hi : i + m ≤ dk.size) :
    Sem.run P (storeCells ⟨blk, off + i * k, none⟩ (List.replicate m (enc z)).flatten 0) W = .ok () (W.setCells blk (off + i * k) (List.replicate m (enc z)).flatten) :=
  stores_of_holds P (h.holds R.hblk R.hH hs) (i * k) _ (by
    have hl : (List.replicate m (enc z)).flatten.length = m * k := by simp [R.hk]
    rw [hl, size_flatK, ← Nat.add_mul]; exact Nat.mul_le_mul_right k hi) (by
    intro v hv
    obtain ⟨l, hl, hv⟩ := List.mem_flatten.1 hv
    rw [List.eq_of_mem_replicate hl] at hv
    exact R.h1 _ v hv)
theorem flatK_list (hk : ∀ x, (enc x).length = k) (h0 : 0 < k) (d : Array α) : (flatK enc k d).toList = d.toList.flatMap enc := by
  have hlen : ∀ l : List α, (l.flatMap enc).length = l.length * k := fun l => by
    induction l with
    | nil => simp
    | cons a l ih => rw [List.flatMap_cons, List.length_append, ih, hk, List.length_cons, Nat.add_mul]; omega
  apply List.ext_getElem
  · rw [hlen]; simp
  · intro t h1 h2
    have ht : t < d.size * k := by simpa using h1
    have hq : t / k < d.size := Nat.div_lt_of_lt_mul (by rwa [Nat.mul_comm])
    have hm : t % k < k := Nat.mod_lt _ h0
    have h3 := get_flatK enc k d t ht
    rw [getElem!_pos _ t (by simpa using ht), getElem!_pos d _ hq] at h3
    have h4 : (enc d[t / k])[t % k]? = some ((enc d[t / k])[t % k]'(by rw [hk]; exact hm)) := List.getElem?_eq_getElem _
    have h5 : (d.toList.flatMap enc)[t]? = some ((enc d[t / k])[t % k]'(by rw [hk]; exact hm)) := by
      have := flat_atk hk (l := d.toList) (i := t / k) (e := d[t / k]) (by simp [hq]) h4
      rwa [show t / k * k + t % k = t by rw [Nat.mul_comm]; exact Nat.div_add_mod t k] at this
    rw [List.getElem?_eq_getElem h2] at h5
    injection h5 with h5
    rw [h5]
    simp only [Array.getElem_toList]
    rw [h3, getElem!_pos (enc d[t / k]) _ (by rw [hk]; exact hm)]
end
/-- An owned slice with elements, as a row. -/
theorem Own.holdsK {w : World} {base e cap g : Nat} {l : List Ent} (h : Own w base e 35 (.slice (some ⟨g, 0, none⟩) l.length cap) l.length (l.flatMap entC)) (hl : l ≠ []) : RowK entC 35 w g 0 l.toArray ∧ ∃ cur, w.heap[g]? = some (.cells cur e (0, 0)) ∧ cur.size = cap * 35 ∧ base ≤ g ∧ Fits l.length cap := by
  obtain ⟨h0, ⟨hn, _⟩ | ⟨g', cap', cur, hv, hb, hg, hf, hz, ht⟩⟩ := h
  · exact absurd (List.eq_nil_of_length_eq_zero hn) hl
  · injection hv with e1 e2 e3; injection e1 with e1; injection e1 with e1 _ _; subst e1 e3
    refine ⟨⟨entC_length, entC_one, fun j hj => ?_, lt_of_heap hg⟩, cur, hg, hz, hb, hf⟩
    rw [size_flatK] at hj
    have hj' : j < l.length * 35 := by simpa using hj
    have hfl := flatK_list entC_length (by decide) l.toArray
    refine ⟨?_, frozen_of_row w g _ _ _ hg⟩
    rw [Nat.zero_add, cell_of_heap hg]
    have h1 : (l.flatMap entC)[j]? = some (flatK entC 35 l.toArray)[j]! := by
      rw [show l.flatMap entC = (flatK entC 35 l.toArray).toList from hfl.symm, getElem!_pos _ j (by rw [size_flatK]; simpa using hj')]
      simp [hj']
    rw [← ht, List.getElem?_take_of_lt hj', Array.getElem?_toList] at h1
    exact h1
/-- .. and behind what rewrote it. -/
theorem SWK.own {w W : World} {base e cap g n m : Nat} {cur : Array Value} {d dk : Array Ent} (S : SWK entC 35 w g 0 dk W) (R : RowK entC 35 w g 0 d) (hs : dk.size = d.size) (hn : d.size = n) (hm : m ≤ n)
    (hg : w.heap[g]? = some (.cells cur e (0, 0))) (hz : cur.size = cap * 35) (hb : base ≤ g) (hf : Fits n cap) :
    Own W base e 35 (.slice (some ⟨g, 0, none⟩) m cap) m ((dk.toList.take m).flatMap entC) ∧ Fr (· = g) w W := by
  have hH := S.holds R.hblk R.hH hs
  obtain ⟨q, os, rfl⟩ := S
  have hblock : (sortWorldK entC 35 w g 0 q dk os).heap[g]? = some (.cells (putCells id 0 (flatK entC 35 dk) cur) e (0, 0)) := by
    unfold sortWorldK
    rw [heap_grow_old _ _ (by rw [size_putRowK]; exact R.hblk)]
    unfold putRowK putRow mapBlock
    show (w.heap.modify g _)[g]? = _
    rw [Array.getElem?_modify, if_pos rfl, hg]; rfl
  have hsz : (putCells id 0 (flatK entC 35 dk) cur).size = cur.size := by simp [putCells]
  have hflm : ∀ l : List Ent, (l.flatMap entC).length = l.length * 35 := fun l => by
    induction l with
    | nil => simp
    | cons a l ih => rw [List.flatMap_cons, List.length_append, ih, entC_length, List.length_cons, Nat.add_mul]; omega
  have hlm : (dk.toList.take m).length = m := by simp; omega
  refine ⟨⟨by rw [hflm, hlm], .inr ⟨g, cap, _, rfl, hb, hblock, ⟨by have := hf.1; omega, by have := hf.2.1; omega, hf.2.2⟩, by rw [hsz]; exact hz, ?_⟩⟩, ⟨rfl, rfl, rfl, ?_, fun b hb' hne => ?_⟩⟩
  · have h1 : (dk.toList.take m).flatMap entC = (dk.toList.flatMap entC).take (m * 35) := by
      have := List.take_append_drop m dk.toList
      generalize hA : dk.toList.take m = A at *
      generalize hB : dk.toList.drop m = B at *
      rw [← this, List.flatMap_append, List.take_append_of_le_length (by rw [hflm, hlm]; exact Nat.le_refl _), List.take_of_length_le (by rw [hflm, hlm]; exact Nat.le_refl _)]
    rw [h1, ← flatK_list entC_length (by decide) dk]
    apply List.ext_getElem?
    intro t
    by_cases ht : t < m * 35
    · rw [List.getElem?_take_of_lt ht, List.getElem?_take_of_lt ht, Array.getElem?_toList, Array.getElem?_toList]
      have ht2 : t < dk.size * 35 := Nat.lt_of_lt_of_le ht (Nat.mul_le_mul_right 35 (by omega))
      have := (hH t (by rw [size_flatK]; exact ht2)).1
      rw [Nat.zero_add, cell_of_heap hblock] at this
      rw [this, getElem!_pos _ t (by rw [size_flatK]; exact ht2)]
      simp [ht2]
    · rw [List.getElem?_eq_none (by simp; omega), List.getElem?_eq_none (by simp; omega)]
  · unfold sortWorldK; rw [size_grow, size_putRowK]; exact Nat.le_add_right _ _
  · unfold sortWorldK
    rw [heap_grow_old _ _ (by rw [size_putRowK]; exact hb')]
    unfold putRowK putRow mapBlock
    show (w.heap.modify g _)[b]? = _
    rw [Array.getElem?_modify, if_neg (fun e => hne e.symm)]
end Go.Proofs.Ytpomfegcifpfkaa
/- slices.CompactFunc at segment's entries. -/
namespace Go.Proofs.Ytpomfegcifpfkaa
open Go Go.RowKit Go.Sort
variable {P : Program} {k h : Nat}
theorem uniqE_snoc (e : Ent) : ∀ (n : Nat) (a : Ent) (l : List Ent), l.length ≤ n → uniqE ((a :: l) ++ [e]) = if e.nm = ((a :: l).getLast (by simp)).nm then uniqE (a :: l) else uniqE (a :: l) ++ [e]
  | _, a, [], _ => by simp [uniqE]
  | 0, a, b :: l, h => by simp at h
  | n + 1, a, b :: l, h => by
    have hl : l.length ≤ n := by simp at h; omega
    rw [List.cons_append, List.cons_append, uniqE, uniqE]
    by_cases hb : b.nm = a.nm
    · rw [if_pos hb, if_pos hb, ← List.cons_append, uniqE_snoc e n a l hl]
      cases l with
      | nil => simp [hb, uniqE]
      | cons c l => rw [List.getLast_cons (a := a) (by simp), List.getLast_cons (a := a) (by simp), List.getLast_cons (a := b) (by simp)]
    · rw [if_neg hb, if_neg hb, ← List.cons_append, uniqE_snoc e n b l hl, List.getLast_cons (a := a) (by simp)]
      by_cases he : e.nm = ((b :: l).getLast (by simp)).nm
      · rw [if_pos he, if_pos he]
      · rw [if_neg he, if_neg he]; rfl
theorem uniqE_take {d : Array Ent} {i : Nat} (h0 : 0 < i) (hi : i < d.size) : uniqE (d.toList.take (i + 1)) = if d[i]!.nm = d[i - 1]!.nm then uniqE (d.toList.take i) else uniqE (d.toList.take i) ++ [d[i]!] := by
  have e1 : d.toList.take (i + 1) = d.toList.take i ++ [d[i]!] := by
    rw [List.take_succ_eq_append_getElem (by simpa using hi), getElem!_pos d i hi]; simp
  have hne : d.toList.take i ≠ [] := by
    intro h; have := congrArg List.length h; rw [List.length_take, Array.length_toList, List.length_nil] at this; omega
  obtain ⟨a, l, hal⟩ : ∃ a l, d.toList.take i = a :: l := by
    cases hc : d.toList.take i with
    | nil => exact absurd hc hne
    | cons a l => exact ⟨a, l, rfl⟩
  have hlast : (a :: l).getLast (by simp) = d[i - 1]! := by
    have h2 : (a :: l)[i - 1]? = some d[i - 1]! := by
      rw [← hal, List.getElem?_take_of_lt (by omega), getElem!_pos d (i - 1) (by omega)]
      simp [show i - 1 < d.size by omega]
    have hlen : (a :: l).length = i := by rw [← hal]; simp; omega
    rw [List.getLast_eq_getElem]
    have h3 : (a :: l)[(a :: l).length - 1]? = some d[i - 1]! := by rw [hlen]; exact h2
    rw [List.getElem?_eq_getElem (by simp)] at h3
    injection h3
  rw [e1, hal, uniqE_snoc _ _ a l (Nat.le_refl _), hlast]
/-- What CompactFunc leaves. -/
def CompPost (k : Nat) (w0 : World) (blk off cap : Nat) (d : Array Ent) (r : Ending) (w' : World) : Prop :=
  ∃ m dk, r = .returned (.slice (some ⟨blk, off, none⟩) m cap) ∧ m ≤ d.size ∧ dk.size = d.size ∧ dk.toList.take m = uniqE d.toList ∧ SWK entC k w0 blk off dk w'
theorem uniqE_all {d : Array Ent} (n : Nat) (hn : n ≤ d.size) (h : ∀ j, 0 < j → j < n → d[j]!.nm ≠ d[j - 1]!.nm) : uniqE (d.toList.take n) = d.toList.take n := by
  induction n with
  | zero => simp [uniqE]
  | succ n ih =>
    have e1 : d.toList.take (n + 1) = d.toList.take n ++ [d[n]!] := by
      rw [List.take_succ_eq_append_getElem (by simp; omega), getElem!_pos d n hn]; simp
    by_cases h0 : n = 0
    · subst h0
      rw [e1]; simp [uniqE]
    · rw [uniqE_take (by omega) hn, if_neg (h n (by omega) (by omega)), ih (by omega) (fun j h1 h2 => h j h1 (by omega)), ← e1]
set_option maxHeartbeats 8000000 in
set_option maxRecDepth 1000000 in
theorem compactE_ok (L : SG P k h) (g : Nat) (cb : Array Value) (blk off cap : Nat) (d : Array Ent) (w : World)
    (eg : ∀ args w, (callFunc g args).run P w = .ok (.enter g args) w)
    (heq : ∀ W x y, Calls P g (#[.agg (entC x).toArray, .agg (entC y).toArray] ++ cb) W fun r w' => r = .returned (.bool (decide (x.nm = y.nm))) ∧ Grown W w')
    (R : RowK entC k w blk off d) (hsz : d.size ≤ 140737488355328) (hcap : d.size ≤ cap) (hcm : cap ≤ maxLen) :
    Calls P 38 #[.slice (some ⟨blk, off, none⟩) d.size cap, .func (.func g) #[] cb] w (CompPost k w blk off cap d) := by
  unfold maxLen at hcm
  have u_tUnit := L.u_tUnit; have r_tUnit := L.r_tUnit; have a_tUnit := L.a_tUnit; have z_tUnit := L.z_tUnit; have v_tUnit := L.v_tUnit; have u_tInt := L.u_tInt; have r_tInt := L.r_tInt; have a_tInt := L.a_tInt; have z_tInt := L.z_tInt; have v_tInt := L.v_tInt; have u_tBool := L.u_tBool; have r_tBool := L.r_tBool; have a_tBool := L.a_tBool; have z_tBool := L.z_tBool; have v_tBool := L.v_tBool; have u_tHash := L.u_tHash; have r_tHash := L.r_tHash; have a_tHash := L.a_tHash; have z_tHash := L.z_tHash; have v_tHash := L.v_tHash; have u_tWhere := L.u_tWhere; have r_tWhere := L.r_tWhere; have a_tWhere := L.a_tWhere; have z_tWhere := L.z_tWhere; have v_tWhere := L.v_tWhere; have u_tEnt := L.u_tEnt; have r_tEnt := L.r_tEnt; have a_tEnt := L.a_tEnt; have z_tEnt := L.z_tEnt; have v_tEnt := L.v_tEnt; have u_tEnts := L.u_tEnts; have r_tEnts := L.r_tEnts; have a_tEnts := L.a_tEnts; have z_tEnts := L.z_tEnts; have v_tEnts := L.v_tEnts; have u_tEqE := L.u_tEqE; have r_tEqE := L.r_tEqE; have a_tEqE := L.a_tEqE; have z_tEqE := L.z_tEqE; have v_tEqE := L.v_tEqE
  have mixed := L.mixed
  have HC := hid heq
  have S0 := hid (SWK.start R.hH)
  have k0 : 0 < k := by rw [L.hk]; omega
  clear heq
  by_cases h2 : d.size < 2
  · have hu : d.toList.take d.size = uniqE d.toList := by
      have := uniqE_all d.size (Nat.le_refl _) (d := d) (fun j h1 h3 => by omega)
      rw [List.take_of_length_le (by simp)] at this ⊢
      exact this.symm
    have HU := hid hu
    clear hu
    go_enter L.f_compactE, Try.ntmps38
    go_wp2
    go_ret
    exact ⟨d.size, d, rfl, Nat.le_refl _, rfl, HU.out, S0.out⟩
  have hd2 : decide ((d.size : Int) < 2) = false := decide_eq_false (by omega)
  go_enter L.f_compactE, Try.ntmps38
  go_wp2
  go_loopg [5] d.size (fun kx s5 wr => ∃ i : Nat, s5 = .int .i64 i ∧ 1 ≤ i ∧ i ≤ d.size ∧ d.size - i ≤ kx ∧ Hid (∀ j, 0 < j → j < i → d[j]!.nm ≠ d[j - 1]!.nm) ∧ Hid (SWK entC k w blk off d wr))
  case atStart => exact ⟨1, rfl, Nat.le_refl _, by omega, by omega, hid (fun j h1 h3 => absurd h3 (by omega)), S0⟩
  case round =>
    clear S0
    obtain ⟨i, rfl, hi1, hi, hkx, HA, S1⟩ := hrel
    by_cases hlt : i < d.size
    · obtain ⟨j, rfl⟩ : ∃ j, i = j + 1 := ⟨i - 1, by omega⟩
      have hjs : j < d.size := by omega
      have la := S1.out.ld R rfl P (j + 1) hlt
      have lb := S1.out.ld R rfl P j hjs
      have hc := fun n os => HC.out (grow (wr.drewN n) os) d[j + 1]! d[j]!
      have HD := hid (show d[j + 1]! = d[j + 1]! ∧ d[j]! = d[j]! from ⟨rfl, rfl⟩)
      by_cases hnm : d[j + 1]!.nm = d[j]!.nm
      · have hd : decide (d[j + 1]!.nm = d[j]!.nm) = true := by simp [hnm]
        rw [hd] at hc
        have HU := hid (show uniqE (d.toList.take (j + 2)) = d.toList.take (j + 1) by
          rw [uniqE_take (by omega) hlt, Nat.add_sub_cancel, if_pos hnm]
          exact uniqE_all (j + 1) (by omega) HA.out)
        clear hd hnm HA HD
        generalize entC d[j + 1]! = X at la hc
        generalize entC d[j]! = Y at lb hc
        go_wp2_with fail
        refine wp_region_quiet_grown (by assumption) (by kernel_rfl) ?_
        repeat (first | go_big_quiet_step ((go_at_fn g; refine Calls.grown_of (hc _ _))) | quiet_step ((go_at_fn g; refine Calls.grown_of (hc _ _))))
        refine wpQuiet_nil ?_
        intro _ hw'
        obtain ⟨⟨nq, osq⟩, hw''⟩ := hw'
        subst hw''
        have S2 := hid (S1.out.grown nq osq)
        clear S1 la lb hc
        generalize grow (wr.drewN nq) osq = w2 at S2 ⊢
        clear nq osq
        have hcap2 : ¬ (cap = j + 1) := by omega
        go_wp2
        go_loopg [5, 7] d.size (fun kx s5 s7 wr => ∃ (kk q : Nat) (dk : Array Ent), s5 = .int .i64 kk ∧ s7 = .int .i64 q ∧ j + 1 ≤ kk ∧ kk ≤ j + q ∧ 1 ≤ q ∧ j + 1 + q ≤ d.size ∧ d.size - (j + 1 + q) ≤ kx ∧ dk.size = d.size ∧ Hid (∀ t, kk ≤ t → dk[t]! = d[t]!) ∧ Hid (dk.toList.take kk = uniqE (d.toList.take (j + 1 + q))) ∧ Hid (SWK entC k w blk off dk wr))
        case atStart => exact ⟨j + 1, 1, d, by go_num, rfl, Nat.le_refl _, Nat.le_refl _, Nat.le_refl _, by omega, by omega, rfl, hid (fun _ _ => rfl), hid HU.out.symm, S2⟩
        case round =>
          clear S2 HU
          obtain ⟨kk, q, dk, rfl, rfl, hk1, hk2, hq1, hq2, hkx2, hds, HT, HU, S1⟩ := hrel
          obtain ⟨p, rfl⟩ : ∃ p, q = p + 1 := ⟨q - 1, by omega⟩
          by_cases hlt2 : j + 1 + (p + 1) < d.size
          · have ha1 : j + 1 + (p + 1) < dk.size := by omega
            have ha2 : j + 1 + p < dk.size := by omega
            have la := S1.out.ld R hds P (j + 1 + (p + 1)) ha1
            have lb := S1.out.ld R hds P (j + 1 + p) ha2
            have hc := fun n os => HC.out (grow (wr.drewN n) os) d[j + 1 + (p + 1)]! d[j + 1 + p]!
            rw [HT.out _ (by omega)] at la lb
            have hst2 : ∀ nq osq, Sem.run P (storeCells ⟨blk, off + kk * k, none⟩ (entC d[j + 1 + (p + 1)]!) 0) (grow (wr.drewN nq) osq) = .ok () ((grow (wr.drewN nq) osq).setCells blk (off + kk * k) (entC d[j + 1 + (p + 1)]!)) := fun nq osq => SWK.st (S1.out.grown nq osq) R hds P kk (by omega) _
            have hld2 : ∀ nq osq, Sem.run P (loadCellsFrom ⟨blk, off + (j + 1 + (p + 1)) * k, none⟩ 0 k #[]) (grow (wr.drewN nq) osq) = .ok (entC d[j + 1 + (p + 1)]!).toArray (grow (wr.drewN nq) osq) := fun nq osq => by
              have := (S1.out.grown nq osq).load R hds P (j + 1 + (p + 1)) ha1
              rwa [HT.out _ (by omega)] at this
            have hS3 : ∀ nq osq, SWK entC k w blk off (dk.setIfInBounds kk d[j + 1 + (p + 1)]!) ((grow (wr.drewN nq) osq).setCells blk (off + kk * k) (entC d[j + 1 + (p + 1)]!)) := fun nq osq => SWK.set1 (S1.out.grown nq osq) R kk (by omega) _
            have hut := uniqE_take (d := d) (i := j + 1 + (p + 1)) (by omega) hlt2
            rw [show j + 1 + (p + 1) - 1 = j + 1 + p by omega] at hut
            have HUT := hid hut
            have HST := hid hst2
            have HLD := hid hld2
            have HS3 := hid hS3
            clear hst2 hld2 hS3 hut
            have ad1 : off + (j + 1) * k + (p + 1) * k = off + (j + 1 + (p + 1)) * k := by rw [Nat.add_mul (j + 1)]; omega
            have ad2 : off + (j + 1) * k + p * k = off + (j + 1 + p) * k := by rw [Nat.add_mul (j + 1)]; omega
            have hpl : (p : Int) + 1 < ((d.size - (j + 1) : Nat) : Int) := by omega
            have nX : (entC d[j + 1 + (p + 1)]!).length = k := by rw [L.hk]; exact entC_length _
            by_cases hnm : d[j + 1 + (p + 1)]!.nm = d[j + 1 + p]!.nm
            · have hd : decide (d[j + 1 + (p + 1)]!.nm = d[j + 1 + p]!.nm) = true := by simp [hnm]
              rw [hd] at hc
              have HNM := hid hnm
              clear hd hnm HST HLD HS3
              generalize entC d[j + 1 + (p + 1)]! = X at la hc nX
              generalize entC d[j + 1 + p]! = Y at lb hc
              rw [← ad1] at la
              rw [← ad2] at lb
              clear ad1 ad2
              go_wp2_with fail
              refine wp_region_quiet_grown (by assumption) (by kernel_rfl) ?_
              repeat (first | go_big_quiet_step ((go_at_fn g; refine Calls.grown_of (hc _ _))) | quiet_step ((go_at_fn g; refine Calls.grown_of (hc _ _))))
              refine wpQuiet_nil ?_
              intro _ hw'
              obtain ⟨⟨nq, osq⟩, hw''⟩ := hw'
              subst hw''
              go_wp2
              go_roundg (d.size - (j + 1 + (p + 1 + 1)))
              case measure => omega
              case rel => exact ⟨kk, p + 1 + 1, dk, rfl, by go_num, hk1, by omega, by omega, by omega, Nat.le_refl _, hds, HT, hid (by rw [HU.out, show j + 1 + (p + 1 + 1) = j + 1 + (p + 1) + 1 by omega, HUT.out, if_pos HNM.out]), hid (S1.out.grown nq osq)⟩
            · have hd : decide (d[j + 1 + (p + 1)]!.nm = d[j + 1 + p]!.nm) = false := by simp [hnm]
              rw [hd] at hc
              have HNM := hid hnm
              clear hd hnm
              obtain ⟨X, hX⟩ : ∃ X, X = entC d[j + 1 + (p + 1)]! := ⟨_, rfl⟩
              have HX := hid hX
              rw [← hX] at la hc nX
              clear hX
              generalize entC d[j + 1 + p]! = Y at lb hc
              rw [← ad1] at la
              rw [← ad2] at lb
              have AD1 := hid ad1
              clear ad1 ad2
              go_wp2_with fail
              refine wp_region_quiet_grown (by assumption) (by kernel_rfl) ?_
              repeat (first | go_big_quiet_step ((go_at_fn g; refine Calls.grown_of (hc _ _))) | quiet_step ((go_at_fn g; refine Calls.grown_of (hc _ _))))
              refine wpQuiet_nil ?_
              intro _ hw'
              obtain ⟨⟨nq, osq⟩, hw''⟩ := hw'
              subst hw''
              have hst := HST.out nq osq
              have hld := HLD.out nq osq
              rw [← AD1.out] at hld
              rw [← HX.out] at hst hld
              have hS3 := HS3.out nq osq
              rw [← HX.out] at hS3
              have S3 := hid hS3
              clear hS3 HST HLD HS3 S1 la lb hc
              generalize grow (wr.drewN nq) osq = w2 at hst hld S3 ⊢
              go_wp2
              go_roundg (d.size - (j + 1 + (p + 1 + 1)))
              case measure => omega
              case rel =>
                refine ⟨kk + 1, p + 1 + 1, _, by go_num, by go_num, by omega, by omega, by omega, by omega, Nat.le_refl _, by simp [hds], hid (fun t ht => ?_), hid ?_, S3⟩
                · by_cases hts : t < dk.size
                  · rw [getElem!_pos _ t (by simpa using hts), Array.getElem_setIfInBounds (by simpa using hts), if_neg (by omega), ← getElem!_pos dk t hts]
                    exact HT.out t (by omega)
                  · rw [getElem!_neg _ t (by simpa using hts), ← getElem!_neg dk t hts]
                    exact HT.out t (by omega)
                · rw [show j + 1 + (p + 1 + 1) = j + 1 + (p + 1) + 1 by omega, HUT.out, if_neg HNM.out, ← HU.out]
                  rw [List.take_succ_eq_append_getElem (by simp; omega)]
                  simp [List.take_set]
                  exact List.set_eq_of_length_le (by simp; omega)
          · obtain ⟨hq3⟩ : j + 1 + (p + 1) = d.size ∧ True := ⟨by omega, trivial⟩
            have hcl := SWK.clear S1.out R hds P default (d.size - kk) kk (by omega)
            obtain ⟨d', f1, f2, f3⟩ := SWK.fill R default (d.size - kk) kk dk wr S1.out (by omega)
            have hrun : ∀ ty, (Builtin.clear_ #[30] ty #[.slice (some ⟨blk, off + kk * k, none⟩) (d.size - kk) (cap - kk)]).run P wr = .ok (.tuple #[]) (wr.setCells blk (off + kk * k) (List.replicate (d.size - kk) (entC default)).flatten) := fun ty =>
              run_clear_rows wr _ _ ty _ L.u_tEnts L.v_tEnt blk _ _ _ (by omega) _ hcl
            have HP : Hid (d'.toList.take kk = uniqE d.toList) := hid (by
              have h1 := HU.out
              rw [hq3, List.take_of_length_le (l := d.toList) (by simp)] at h1
              rw [← h1]
              apply List.ext_getElem?
              intro t
              by_cases ht : t < kk
              · rw [List.getElem?_take_of_lt ht, List.getElem?_take_of_lt ht]
                have := f2 t ht
                rw [getElem!_pos d' t (by omega), getElem!_pos dk t (by omega)] at this
                simp [show t < d'.size by omega, show t < dk.size by omega, this]
              · rw [List.getElem?_eq_none (by simp; omega), List.getElem?_eq_none (by simp; omega)])
            have HF := hid (show d'.size = d.size ∧ SWK entC k w blk off d' _ from ⟨f1.trans hds, f3⟩)
            have hkc : ¬ (cap = kk) := by omega
            have hpl : ¬ ((p : Int) + 1 < ((d.size - (j + 1) : Nat) : Int)) := by omega
            clear f1 f2 f3 hcl S1 HT HU hq3
            generalize (wr.setCells blk (off + kk * k) (List.replicate (d.size - kk) (entC default)).flatten) = w9 at hrun HF
            generalize entC default = Z at *
            go_wp2
            go_ret
            exact ⟨kk, d', rfl, by omega, HF.out.1, HP.out, HF.out.2⟩
      · have hd : decide (d[j + 1]!.nm = d[j]!.nm) = false := by simp [hnm]
        rw [hd] at hc
        have HNM := hid hnm
        clear hd hnm HD
        generalize entC d[j + 1]! = X at la hc
        generalize entC d[j]! = Y at lb hc
        go_wp2_with fail
        refine wp_region_quiet_grown (by assumption) (by kernel_rfl) ?_
        repeat (first | go_big_quiet_step ((go_at_fn g; refine Calls.grown_of (hc _ _))) | quiet_step ((go_at_fn g; refine Calls.grown_of (hc _ _))))
        refine wpQuiet_nil ?_
        intro _ hw'
        obtain ⟨⟨nq, osq⟩, hw''⟩ := hw'
        subst hw''
        go_wp2
        go_roundg (d.size - (j + 1 + 1))
        case measure => omega
        case rel => exact ⟨j + 1 + 1, by go_num, by omega, by omega, Nat.le_refl _, hid (fun t h1 h2 => by
          by_cases e : t = j + 1
          · subst e; exact HNM.out
          · exact HA.out t h1 (by omega)), hid (S1.out.grown nq osq)⟩
    · obtain rfl : i = d.size := by omega
      have HP : Hid (d.toList.take d.size = uniqE d.toList) := hid (by
        have := uniqE_all d.size (Nat.le_refl _) HA.out
        rw [List.take_of_length_le (by simp)] at this ⊢
        exact this.symm)
      clear HA
      go_wp2
      go_ret
      exact ⟨d.size, d, rfl, Nat.le_refl _, rfl, HP.out, S1.out⟩
end Go.Proofs.Ytpomfegcifpfkaa
