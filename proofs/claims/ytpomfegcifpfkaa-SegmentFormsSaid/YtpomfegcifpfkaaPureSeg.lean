/- The plain side of a stable sort by blocks and merges: rotations, exchanges of ranges, and what is kept. -/
import Derived.Sort.LotA
import Derived.Sort.WalkA
namespace Go.Proofs.Ytpomfegcifpfkaa
open Go Go.Sort
variable {α : Type} [Inhabited α]

theorem ext_at {a b : Array α} (hs : a.size = b.size) (h : ∀ t, t < a.size → a[t]! = b[t]!) : a = b :=
  Array.ext hs fun t h1 h2 => by have := h t h1; rwa [getElem!_pos a t h1, getElem!_pos b t h2] at this
theorem at_list (d : Array α) (t : Nat) : d[t]! = (d.toList[t]?).getD default := by
  by_cases h : t < d.size
  · rw [getElem!_pos d t h]; simp [h]
  · rw [getElem!_neg d t h]; simp [h]

/-- n places from a on and from b on are exchanged, the first i of them have been. -/
def swapFrom (a b : Nat) : Nat → Nat → Array α → Array α
  | 0, _, d => d
  | k + 1, i, d => swapFrom a b k (i + 1) (swp d (a + i) (b + i))
def swapRange (d : Array α) (a b n : Nat) : Array α := swapFrom a b n 0 d
theorem size_swapFrom (a b : Nat) : ∀ (k i : Nat) (d : Array α), (swapFrom a b k i d).size = d.size
  | 0, _, _ => rfl
  | k + 1, i, d => by rw [swapFrom, size_swapFrom a b k, size_swp]
theorem size_swapRange (d : Array α) (a b n : Nat) : (swapRange d a b n).size = d.size := size_swapFrom a b n 0 d
theorem swapFrom_get (a b : Nat) : ∀ (k i : Nat) (d : Array α) (t : Nat), a + i + k ≤ b + i → b + i + k ≤ d.size → a + (i + k) ≤ b →
    (swapFrom a b k i d)[t]! = if a + i ≤ t ∧ t < a + i + k then d[b + (t - a)]! else if b + i ≤ t ∧ t < b + i + k then d[a + (t - b)]! else d[t]!
  | 0, i, d, t, _, _, _ => by
    rw [swapFrom, if_neg (by omega), if_neg (by omega)]
  | k + 1, i, d, t, h1, h2, h3 => by
    have hs : ∀ u, (swp d (a + i) (b + i))[u]! = if u = b + i then d[a + i]! else if u = a + i then d[b + i]! else d[u]! := fun u => by
      by_cases e1 : u = b + i
      · rw [if_pos e1, e1, swp_right d _ _ (by omega)]
      · rw [if_neg e1]
        by_cases e2 : u = a + i
        · rw [if_pos e2, e2, swp_left d _ _ (by omega) (by omega)]
        · rw [if_neg e2, swp_other d _ _ _ e2 e1]
    rw [swapFrom, swapFrom_get a b k (i + 1) _ t (by omega) (by rw [size_swp]; omega) (by omega), hs, hs, hs]
    by_cases c1 : t = a + i
    · subst c1
      rw [if_neg (by omega), if_neg (by omega), if_neg (by omega), if_pos rfl, if_pos (by omega), show b + (a + i - a) = b + i by omega]
    · by_cases c2 : t = b + i
      · subst c2
        rw [if_neg (by omega), if_neg (by omega), if_pos rfl, if_neg (by omega), if_pos (by omega), show a + (b + i - b) = a + i by omega]
      · by_cases c3 : a + i ≤ t ∧ t < a + i + (k + 1)
        · rw [if_pos (by omega), if_pos c3, if_neg (by omega), if_neg (by omega)]
        · by_cases c4 : b + i ≤ t ∧ t < b + i + (k + 1)
          · rw [if_neg (by omega), if_pos (by omega), if_neg c3, if_pos c4, if_neg (by omega), if_neg (by omega)]
          · rw [if_neg (by omega), if_neg (by omega), if_neg c3, if_neg c4, if_neg c2, if_neg c1]
theorem swapRange_get (d : Array α) (a b n t : Nat) (h : a + n ≤ b) (hb : b + n ≤ d.size) :
    (swapRange d a b n)[t]! = if a ≤ t ∧ t < a + n then d[b + (t - a)]! else if b ≤ t ∧ t < b + n then d[a + (t - b)]! else d[t]! := by
  have := swapFrom_get a b n 0 d t (by omega) (by omega) (by omega)
  unfold swapRange
  simpa using this
theorem swapFrom_snoc (a b : Nat) : ∀ (k i : Nat) (d : Array α), swapFrom a b (k + 1) i d = swp (swapFrom a b k i d) (a + (i + k)) (b + (i + k))
  | 0, i, d => rfl
  | k + 1, i, d => by
    rw [swapFrom, swapFrom_snoc a b k (i + 1), swapFrom]
    rw [show i + 1 + k = i + (k + 1) by omega]
theorem swapRange_snoc (d : Array α) (a b k : Nat) : swapRange d a b (k + 1) = swp (swapRange d a b k) (a + k) (b + k) := by
  unfold swapRange; rw [swapFrom_snoc]; simp

/-- The places a ≤ i < b: those from m on come first. -/
def rot (d : Array α) (a m b : Nat) : Array α := (d.toList.take a ++ ((d.toList.take b).drop m ++ (d.toList.take m).drop a) ++ d.toList.drop b).toArray
def rotI (a m b t : Nat) : Nat := if a ≤ t ∧ t < a + (b - m) then m + (t - a) else if a + (b - m) ≤ t ∧ t < b then a + (t - (a + (b - m))) else t
omit [Inhabited α] in
theorem size_rot (d : Array α) (a m b : Nat) (h1 : a ≤ m) (h2 : m ≤ b) (h3 : b ≤ d.size) : (rot d a m b).size = d.size := by
  unfold rot; simp; omega
theorem rot_get (d : Array α) (a m b t : Nat) (h1 : a ≤ m) (h2 : m ≤ b) (h3 : b ≤ d.size) : (rot d a m b)[t]! = d[rotI a m b t]! := by
  have hl : d.toList.length = d.size := by simp
  rw [at_list, at_list]
  congr 1
  unfold rot rotI
  rw [show ∀ l : List α, l.toArray.toList = l from fun _ => rfl]
  generalize d.toList = l at *
  by_cases c0 : t < a
  · rw [if_neg (by omega), if_neg (by omega), List.append_assoc, List.getElem?_append_left (by simp; omega), List.getElem?_take_of_lt c0]
  · by_cases c1 : t < a + (b - m)
    · rw [if_pos (by omega), List.append_assoc, List.append_assoc, List.getElem?_append_right (by simp; omega), List.getElem?_append_left (by simp; omega)]
      rw [List.getElem?_drop, List.getElem?_take_of_lt (by simp; omega)]
      congr 1; simp; omega
    · by_cases c2 : t < b
      · rw [if_neg (by omega), if_pos (by omega), List.append_assoc, List.append_assoc, List.getElem?_append_right (by simp; omega), List.getElem?_append_right (by simp; omega), List.getElem?_append_left (by simp; omega)]
        rw [List.getElem?_drop, List.getElem?_take_of_lt (by simp; omega)]
        congr 1; simp; omega
      · rw [if_neg (by omega), if_neg (by omega), List.getElem?_append_right (by simp; omega), List.getElem?_drop]
        congr 1; simp; omega
theorem rot_self (d : Array α) (a b : Nat) (h : a ≤ b) (hb : b ≤ d.size) : rot d a b b = d := by
  refine ext_at (size_rot d _ _ _ h (Nat.le_refl _) hb) fun t _ => ?_
  rw [rot_get d _ _ _ _ h (Nat.le_refl _) hb]
  unfold rotI
  by_cases c : a ≤ t ∧ t < b
  · rw [if_neg (by omega), if_pos (by omega)]; congr 1; omega
  · rw [if_neg (by omega), if_neg (by omega)]
theorem rot_self' (d : Array α) (a b : Nat) (h : a ≤ b) (hb : b ≤ d.size) : rot d a a b = d := by
  refine ext_at (size_rot d _ _ _ (Nat.le_refl _) h hb) fun t _ => ?_
  rw [rot_get d _ _ _ _ (Nat.le_refl _) h hb]
  unfold rotI
  by_cases c : a ≤ t ∧ t < b
  · rw [if_pos (by omega)]; congr 1; omega
  · rw [if_neg (by omega), if_neg (by omega)]
theorem rot_gt (d : Array α) (m i j : Nat) (hij : j < i) (hi : i ≤ m) (hm : m + j ≤ d.size) : rot (swapRange d (m - i) m j) (m - (i - j)) m (m + j) = rot d (m - i) m (m + j) := by
  refine ext_at (by rw [size_rot _ _ _ _ (by omega) (by omega) (by rw [size_swapRange]; omega), size_rot _ _ _ _ (by omega) (by omega) (by omega), size_swapRange]) fun t _ => ?_
  rw [rot_get _ _ _ _ _ (by omega) (by omega) (by rw [size_swapRange]; omega), rot_get _ _ _ _ _ (by omega) (by omega) hm, swapRange_get _ _ _ _ _ (by omega) hm]
  unfold rotI
  repeat' split
  all_goals first | (exfalso; omega) | (congr 1 <;> omega)
theorem rot_lt (d : Array α) (m i j : Nat) (hij : i < j) (hi : i ≤ m) (hm : m + j ≤ d.size) : rot (swapRange d (m - i) (m + j - i) i) (m - i) m (m + (j - i)) = rot d (m - i) m (m + j) := by
  refine ext_at (by rw [size_rot _ _ _ _ (by omega) (by omega) (by rw [size_swapRange]; omega), size_rot _ _ _ _ (by omega) (by omega) (by omega), size_swapRange]) fun t _ => ?_
  rw [rot_get _ _ _ _ _ (by omega) (by omega) (by rw [size_swapRange]; omega), rot_get _ _ _ _ _ (by omega) (by omega) hm, swapRange_get _ _ _ _ _ (by omega) (by omega)]
  unfold rotI
  repeat' split
  all_goals first | (exfalso; omega) | (congr 1 <;> omega)
theorem rot_eq (d : Array α) (m i : Nat) (hi : i ≤ m) (hm : m + i ≤ d.size) : swapRange d (m - i) m i = rot d (m - i) m (m + i) := by
  refine ext_at (by rw [size_rot _ _ _ _ (by omega) (by omega) (by omega), size_swapRange]) fun t _ => ?_
  rw [rot_get _ _ _ _ _ (by omega) (by omega) hm, swapRange_get _ _ _ _ _ (by omega) (by omega)]
  unfold rotI
  repeat' split
  all_goals first | (exfalso; omega) | (congr 1 <;> omega)
theorem swp_at (d : Array α) (i j u : Nat) (hi : i < d.size) (hj : j < d.size) (hij : i ≠ j) : (swp d i j)[u]! = if u = j then d[i]! else if u = i then d[j]! else d[u]! := by
  by_cases e1 : u = j
  · rw [if_pos e1, e1, swp_right d _ _ hj]
  · rw [if_neg e1]
    by_cases e2 : u = i
    · rw [if_pos e2, e2, swp_left d _ _ hi hij]
    · rw [if_neg e2, swp_other d _ _ _ e2 e1]
/-- The element at a goes one on. -/
theorem rot_on (d : Array α) (a k : Nat) (hk : a ≤ k) (hs : k + 2 ≤ d.size) : swp (rot d a (a + 1) (k + 1)) k (k + 1) = rot d a (a + 1) (k + 2) := by
  have hz := size_rot d a (a + 1) (k + 1) (by omega) (by omega) (by omega)
  refine ext_at (by rw [size_swp, size_rot _ _ _ _ (by omega) (by omega) (by omega), size_rot _ _ _ _ (by omega) (by omega) (by omega)]) fun t _ => ?_
  rw [rot_get _ _ _ _ _ (by omega) (by omega) (by omega), swp_at _ _ _ _ (by omega) (by omega) (by omega), rot_get _ _ _ _ _ (by omega) (by omega) (by omega), rot_get _ _ _ _ _ (by omega) (by omega) (by omega), rot_get _ _ _ _ _ (by omega) (by omega) (by omega)]
  unfold rotI
  repeat' split
  all_goals first | (exfalso; omega) | (congr 1 <;> omega)
/-- The element that came from m goes one back. -/
theorem rot_back (d : Array α) (m k : Nat) (hk : k + 1 ≤ m) (hs : m < d.size) : swp (rot d (k + 1) m (m + 1)) (k + 1) k = rot d k m (m + 1) := by
  have hz := size_rot d (k + 1) m (m + 1) (by omega) (by omega) (by omega)
  refine ext_at (by rw [size_swp, size_rot _ _ _ _ (by omega) (by omega) (by omega), size_rot _ _ _ _ (by omega) (by omega) (by omega)]) fun t _ => ?_
  rw [rot_get _ _ _ _ _ (by omega) (by omega) (by omega), swp_at _ _ _ _ (by omega) (by omega) (by omega), rot_get _ _ _ _ _ (by omega) (by omega) (by omega), rot_get _ _ _ _ _ (by omega) (by omega) (by omega), rot_get _ _ _ _ _ (by omega) (by omega) (by omega)]
  unfold rotI
  repeat' split
  all_goals first | (exfalso; omega) | (congr 1 <;> omega)

section
variable (lt : α → α → Bool)
/-- Neither is less. -/
def eqv (x y : α) : Bool := !lt x y && !lt y x
/-- The elements that are as great as x stand in d' as they stand in d. -/
def Stab (d d' : Array α) : Prop := d'.size = d.size ∧ ∀ x, d'.toList.filter (eqv lt x) = d.toList.filter (eqv lt x)
omit [Inhabited α] in
theorem Stab.refl (d : Array α) : Stab lt d d := ⟨rfl, fun _ => rfl⟩
omit [Inhabited α] in
theorem Stab.trans {a b c : Array α} (h : Stab lt a b) (k : Stab lt b c) : Stab lt a c := ⟨k.1.trans h.1, fun x => (k.2 x).trans (h.2 x)⟩
omit [Inhabited α] in
theorem toList_split (l : List α) (a m b : Nat) (h1 : a ≤ m) (h2 : m ≤ b) : l = l.take a ++ ((l.take m).drop a ++ (l.take b).drop m) ++ l.drop b := by
  have e1 : (l.take m).take a = l.take a := by rw [List.take_take]; congr 1; omega
  have e2 : (l.take b).take m = l.take m := by rw [List.take_take]; congr 1; omega
  have s1 := List.take_append_drop a (l.take m)
  have s2 := List.take_append_drop m (l.take b)
  rw [e1] at s1; rw [e2] at s2
  rw [← List.append_assoc, s1, s2, List.take_append_drop]
theorem mem_seg {d : Array α} {a b : Nat} {x : α} (hb : b ≤ d.size) (h : x ∈ (d.toList.take b).drop a) : ∃ i, a ≤ i ∧ i < b ∧ d[i]! = x := by
  obtain ⟨k, hk, e⟩ := List.mem_iff_getElem.1 h
  simp at hk e
  refine ⟨a + k, by omega, by omega, ?_⟩
  rw [getElem!_pos d (a + k) (by omega)]; exact e
theorem rot_stab (hO : SWO lt) (d : Array α) (a m b : Nat) (h1 : a ≤ m) (h2 : m ≤ b) (h3 : b ≤ d.size) (h : ∀ i j, a ≤ i → i < m → m ≤ j → j < b → lt d[j]! d[i]! = true) : Stab lt d (rot d a m b) := by
  refine ⟨size_rot d a m b h1 h2 h3, fun x => ?_⟩
  conv => rhs; rw [toList_split d.toList a m b h1 h2]
  unfold rot
  simp only [List.filter_append]
  congr 2
  have key : ((d.toList.take m).drop a).filter (eqv lt x) = [] ∨ ((d.toList.take b).drop m).filter (eqv lt x) = [] := by
    by_cases e : ((d.toList.take m).drop a).filter (eqv lt x) = []
    · exact .inl e
    · refine .inr (List.filter_eq_nil_iff.2 fun y hy hx => ?_)
      obtain ⟨z, hz⟩ := List.exists_mem_of_ne_nil _ e
      obtain ⟨hz1, hz2⟩ := List.mem_filter.1 hz
      obtain ⟨i, ha, hm, rfl⟩ := mem_seg (by omega) hz1
      obtain ⟨j, hm', hb, rfl⟩ := mem_seg h3 hy
      have hl := h i j ha hm hm' hb
      simp only [eqv, Bool.and_eq_true, Bool.not_eq_true'] at hx hz2
      have := hO.ntrans _ _ _ hx.2 hz2.1
      rw [hl] at this; cases this
  rcases key with e | e <;> rw [e] <;> simp
theorem swp_adj (d : Array α) (j : Nat) (hj : j + 1 < d.size) : swp d (j + 1) j = rot d j (j + 1) (j + 2) := by
  refine ext_at (by rw [size_swp, size_rot _ _ _ _ (by omega) (by omega) (by omega)]) fun t _ => ?_
  rw [rot_get _ _ _ _ _ (by omega) (by omega) (by omega), swp_at _ _ _ _ (by omega) (by omega) (by omega)]
  unfold rotI
  repeat' split
  all_goals first | (exfalso; omega) | (congr 1 <;> omega)
theorem insInner_stab (hO : SWO lt) (a : Nat) : ∀ (j : Nat) (d : Array α), j < d.size → Stab lt d (insInner lt a j d)
  | 0, d, _ => by rw [insInner]; exact Stab.refl lt d
  | j + 1, d, hj => by
    rw [insInner]
    split
    · next h =>
      simp only [Bool.and_eq_true, decide_eq_true_eq] at h
      rw [swp_adj d j hj]
      have s := rot_stab lt hO d j (j + 1) (j + 2) (by omega) (by omega) (by omega) (fun i k h1 h2 h3 h4 => by
        obtain rfl : i = j := by omega
        obtain rfl : k = i + 1 := by omega
        exact h.2)
      exact s.trans lt (insInner_stab hO a j _ (by rw [s.1]; omega))
    · exact Stab.refl lt d
theorem insOuter_stab (hO : SWO lt) (a b : Nat) (k : Nat) : ∀ (i : Nat) (d : Array α), b - i ≤ k → b ≤ d.size → Stab lt d (insOuter lt a b i d) := by
  induction k with
  | zero => intro i d hk _; rw [insOuter_stop lt _ _ _ _ (by omega)]; exact Stab.refl lt d
  | succ k ih =>
    intro i d hk hb
    by_cases h : i < b
    · rw [insOuter_go lt _ _ _ _ h]
      have s := insInner_stab lt hO a i d (by omega)
      exact s.trans lt (ih (i + 1) _ (by omega) (by rw [s.1]; exact hb))
    · rw [insOuter_stop lt _ _ _ _ h]; exact Stab.refl lt d
theorem insertionSort_stab (hO : SWO lt) (d : Array α) (a b : Nat) (hb : b ≤ d.size) : Stab lt d (insertionSort lt d a b) := insOuter_stab lt hO a b _ _ d (Nat.le_refl _) hb

/-- What a merge of the places a ≤ i < b leaves. -/
structure Mrg (a b : Nat) (d d' : Array α) : Prop where
  size : d'.size = d.size
  out : ∀ i, i < a ∨ b ≤ i → d'[i]! = d[i]!
  sorted : SortedIn lt a b d'
  stab : Stab lt d d'
theorem Mrg.insertion (hO : SWO lt) (d : Array α) (a b : Nat) (hab : a ≤ b) (hb : b ≤ d.size) : Mrg lt a b d (insertionSort lt d a b) := by
  obtain ⟨h1, h2⟩ := insertionSort_holds hO d a b hab hb
  exact ⟨h1.1, h1.2.1, h2, insertionSort_stab lt hO d a b hb⟩
/-- All places of d' between a and b hold what a place of d between them holds. -/
theorem Stab.mem {d d' : Array α} (hO : SWO lt) (h : Stab lt d d') (i : Nat) (hi : i < d'.size) : d'[i]! ∈ d.toList := by
  have hm : d'[i]! ∈ d'.toList := by rw [getElem!_pos d' i hi]; exact Array.getElem_mem_toList hi
  have : d'[i]! ∈ d'.toList.filter (eqv lt d'[i]!) := List.mem_filter.2 ⟨hm, by simp [eqv, hO.irrefl]⟩
  rw [h.2] at this
  exact (List.mem_filter.1 this).1
theorem Mrg.all {a b : Nat} {d d' : Array α} (hO : SWO lt) (h : Mrg lt a b d d') (hab : a ≤ b) (hb : b ≤ d.size) (p : α → Prop) (hp : ∀ i, a ≤ i → i < b → p d[i]!) : ∀ i, a ≤ i → i < b → p d'[i]! := by
  have len : ∀ x, ((d'.toList.take b).drop a).filter (eqv lt x) = ((d.toList.take b).drop a).filter (eqv lt x) := fun x => by
    have h1 := h.stab.2 x
    rw [toList_split d'.toList a a b (Nat.le_refl _) hab, toList_split d.toList a a b (Nat.le_refl _) hab] at h1
    have e0 : d'.toList.take a = d.toList.take a := by
      apply List.ext_getElem?
      intro t
      by_cases ht : t < a
      · rw [List.getElem?_take_of_lt ht, List.getElem?_take_of_lt ht]
        have := h.out t (.inl ht)
        rw [getElem!_pos d' t (by have := h.size; omega), getElem!_pos d t (by omega)] at this
        simp [show t < d'.size by have := h.size; omega, show t < d.size by omega, this]
      · rw [List.getElem?_eq_none (by simp; omega), List.getElem?_eq_none (by simp; omega)]
    have e1 : d'.toList.drop b = d.toList.drop b := by
      apply List.ext_getElem?
      intro t
      rw [List.getElem?_drop, List.getElem?_drop]
      by_cases ht : b + t < d.size
      · have := h.out (b + t) (.inr (by omega))
        rw [getElem!_pos d' (b + t) (by have := h.size; omega), getElem!_pos d (b + t) ht] at this
        simp [show b + t < d'.size by have := h.size; omega, ht, this]
      · rw [List.getElem?_eq_none (by have := h.size; simp; omega), List.getElem?_eq_none (by simp; omega)]
    rw [e0, e1] at h1
    have hd : ∀ l : List α, (l.take a).drop a = [] := fun l => by simp
    simp only [hd, List.nil_append, List.filter_append] at h1
    exact List.append_cancel_left (List.append_cancel_right h1)
  intro i hai hib
  have hi : i < d'.size := by have := h.size; omega
  have hm : d'[i]! ∈ (d'.toList.take b).drop a := by
    rw [List.mem_iff_getElem]
    refine ⟨i - a, by simp; omega, ?_⟩
    rw [getElem!_pos d' i hi]
    simp [show a + (i - a) = i by omega]
  have : d'[i]! ∈ ((d'.toList.take b).drop a).filter (eqv lt d'[i]!) := List.mem_filter.2 ⟨hm, by simp [eqv, hO.irrefl]⟩
  rw [len] at this
  obtain ⟨j, h1, h2, h3⟩ := mem_seg hb (List.mem_filter.1 this).1
  rw [← h3]; exact hp j h1 h2
end
end Go.Proofs.Ytpomfegcifpfkaa
/- The plain side of a merge in place: where it is cut, and what the rotation leaves. -/
namespace Go.Proofs.Ytpomfegcifpfkaa
open Go Go.Sort
variable {α : Type} [Inhabited α] (lt : α → α → Bool)

omit [Inhabited α] in
theorem SWO.asymm {lt : α → α → Bool} (hO : SWO lt) {x y : α} (h : lt x y = true) : lt y x = false := by
  cases e : lt y x with
  | false => rfl
  | true => have := hO.trans _ _ _ h e; rw [hO.irrefl] at this; cases this
omit [Inhabited α] in
/-- x' is no greater than x, y' no less than y. -/
theorem SWO.wide {lt : α → α → Bool} (hO : SWO lt) {x y x' y' : α} (h : lt x y = true) (hx : lt x x' = false) (hy : lt y' y = false) : lt x' y' = true := by
  cases e : lt x' y' with
  | true => rfl
  | false =>
    have := hO.ntrans _ _ _ (hO.ntrans _ _ _ hx e) hy
    rw [h] at this; cases this
theorem SortedIn.le {lt : α → α → Bool} (hO : SWO lt) {a b : Nat} {d : Array α} (h : SortedIn lt a b d) {i j : Nat} (hai : a ≤ i) (hij : i ≤ j) (hjb : j < b) : lt d[j]! d[i]! = false := by
  rcases Nat.lt_or_eq_of_le hij with hl | rfl
  · exact h i j hai hl hjb
  · exact hO.irrefl _

/-- Where a merge is cut. -/
structure Cut (a s m e b : Nat) (d : Array α) : Prop where
  has : a ≤ s
  hsm : s ≤ m
  hme : m ≤ e
  heb : e ≤ b
  hb : b ≤ d.size
  s1 : SortedIn lt a m d
  s2 : SortedIn lt m b d
  x : ∀ i j, s ≤ i → i < m → m ≤ j → j < e → lt d[j]! d[i]! = true
  y : ∀ i j, a ≤ i → i < s → e ≤ j → j < b → lt d[j]! d[i]! = false
/-- What the rotation leaves. -/
structure Cutted (a s mid e b : Nat) (d d1 : Array α) : Prop where
  size : d1.size = d.size
  out : ∀ i, i < a ∨ b ≤ i → d1[i]! = d[i]!
  stab : Stab lt d d1
  s1 : SortedIn lt a s d1
  s2 : SortedIn lt s mid d1
  s3 : SortedIn lt mid e d1
  s4 : SortedIn lt e b d1
  lr : ∀ i j, a ≤ i → i < mid → mid ≤ j → j < b → lt d1[j]! d1[i]! = false
theorem Cut.turned {lt : α → α → Bool} (hO : SWO lt) {a s m e b : Nat} {d : Array α} (h : Cut lt a s m e b d) {mid : Nat} (hmid : s + (e - m) = mid) : Cutted lt a s mid e b d (rot d s m e) := by
  obtain ⟨has, hsm, hme, heb, hb, s1, s2, x, y⟩ := h
  have hg : ∀ t, (rot d s m e)[t]! = d[rotI s m e t]! := fun t => rot_get d s m e t hsm hme (by omega)
  have i0 : ∀ t, t < s ∨ e ≤ t → rotI s m e t = t := fun t ht => by unfold rotI; rw [if_neg (by omega), if_neg (by omega)]
  have i1 : ∀ t, s ≤ t → t < mid → rotI s m e t = m + (t - s) := fun t h1 h2 => by unfold rotI; rw [if_pos (by omega)]
  have i2 : ∀ t, mid ≤ t → t < e → rotI s m e t = s + (t - mid) := fun t h1 h2 => by unfold rotI; rw [if_neg (by omega), if_pos (by omega), hmid]
  refine ⟨size_rot d s m e hsm hme (by omega), fun i hi => ?_, rot_stab lt hO d s m e hsm hme (by omega) x, ?_, ?_, ?_, ?_, ?_⟩
  · rw [hg, i0 i (by omega)]
  · intro i j h1 h2 h3; rw [hg, hg, i0 _ (by omega), i0 _ (by omega)]; exact s1 i j h1 h2 (by omega)
  · intro i j h1 h2 h3; rw [hg, hg, i1 _ (by omega) (by omega), i1 _ (by omega) (by omega)]; exact s2 _ _ (by omega) (by omega) (by omega)
  · intro i j h1 h2 h3; rw [hg, hg, i2 _ (by omega) (by omega), i2 _ (by omega) (by omega)]; exact s1 _ _ (by omega) (by omega) (by omega)
  · intro i j h1 h2 h3; rw [hg, hg, i0 _ (by omega), i0 _ (by omega)]; exact s2 _ _ (by omega) (by omega) (by omega)
  · intro i j h1 h2 h3 h4
    rw [hg, hg]
    by_cases hi : i < s
    · rw [i0 i (.inl hi)]
      by_cases hj : j < e
      · rw [i2 j h3 hj]; exact s1 _ _ (by omega) (by omega) (by omega)
      · rw [i0 j (by omega)]; exact y i j h1 hi (by omega) h4
    · rw [i1 i (by omega) h2]
      by_cases hj : j < e
      · rw [i2 j h3 hj]; exact SWO.asymm hO (x _ _ (by omega) (by omega) (by omega) (by omega))
      · rw [i0 j (by omega)]; exact s2 _ _ (by omega) (by omega) (by omega)
theorem Cutted.joined {lt : α → α → Bool} (hO : SWO lt) {a s mid e b : Nat} {d d1 d2 d3 : Array α} (h : Cutted lt a s mid e b d d1) (ham : a ≤ mid) (hmb : mid ≤ b) (hb : b ≤ d.size) (m1 : Mrg lt a mid d1 d2) (m2 : Mrg lt mid b d2 d3) : Mrg lt a b d d3 := by
  have z1 := h.size
  have z2 := m1.size
  have z3 := m2.size
  refine ⟨by omega, fun i hi => ?_, fun i j h1 h2 h3 => ?_, h.stab.trans lt (m1.stab.trans lt m2.stab)⟩
  · rw [m2.out i (by omega), m1.out i (by omega), h.out i hi]
  · by_cases hj : j < mid
    · rw [m2.out i (by omega), m2.out j (by omega)]; exact m1.sorted i j h1 h2 hj
    · by_cases hi : i < mid
      · rw [m2.out i (by omega)]
        refine Mrg.all lt hO m2 hmb (by omega) (fun y => lt y d2[i]! = false) (fun j' h5 h6 => ?_) j (by omega) h3
        rw [m1.out j' (by omega)]
        exact Mrg.all lt hO m1 ham (by omega) (fun y => lt d1[j']! y = false) (fun i' h7 h8 => h.lr i' j' h7 h8 h5 h6) i h1 hi
      · exact m2.sorted i j (by omega) h2 h3
theorem Mrg.idle {lt : α → α → Bool} {a b : Nat} {d : Array α} (h : SortedIn lt a b d) : Mrg lt a b d d := ⟨rfl, fun _ _ => rfl, h, Stab.refl lt d⟩
/-- Of one element and those behind it. -/
theorem Mrg.one_left {lt : α → α → Bool} (hO : SWO lt) {a b i : Nat} {d : Array α} (hi1 : a + 1 ≤ i) (hi2 : i ≤ b) (hb : b ≤ d.size) (s2 : SortedIn lt (a + 1) b d)
    (h1 : a + 1 < i → lt d[i - 1]! d[a]! = true) (h2 : i < b → lt d[i]! d[a]! = false) : Mrg lt a b d (rot d a (a + 1) i) := by
  have hg : ∀ t, (rot d a (a + 1) i)[t]! = d[rotI a (a + 1) i t]! := fun t => rot_get d a (a + 1) i t (by omega) hi1 (by omega)
  have x : ∀ j, a + 1 ≤ j → j < i → lt d[j]! d[a]! = true := fun j h3 h4 => SWO.wide hO (h1 (by omega)) (SortedIn.le hO s2 h3 (by omega) (by omega)) (hO.irrefl _)
  have y : ∀ j, i ≤ j → j < b → lt d[j]! d[a]! = false := fun j h3 h4 => hO.ntrans _ _ _ (SortedIn.le hO s2 hi1 h3 h4) (h2 (by omega))
  refine ⟨size_rot d a (a + 1) i (by omega) hi1 (by omega), fun t ht => ?_, fun p q h3 h4 h5 => ?_, rot_stab lt hO d a (a + 1) i (by omega) hi1 (by omega) (fun p q h3 h4 h5 h6 => ?_)⟩
  · rw [hg]; unfold rotI; rw [if_neg (by omega), if_neg (by omega)]
  · rw [hg, hg]; unfold rotI
    by_cases hp : p < i - 1
    · rw [if_pos (c := a ≤ p ∧ _) (by omega)]
      by_cases hq : q < i - 1
      · rw [if_pos (by omega)]; exact s2 _ _ (by omega) (by omega) (by omega)
      · by_cases hq2 : q < i
        · rw [if_neg (by omega), if_pos (by omega), show a + (q - (a + (i - (a + 1)))) = a by omega]; exact SWO.asymm hO (x _ (by omega) (by omega))
        · rw [if_neg (by omega), if_neg (by omega)]; exact s2 _ _ (by omega) (by omega) (by omega)
    · by_cases hp2 : p < i
      · rw [if_neg (c := a ≤ p ∧ _) (by omega), if_pos (c := a + (i - (a + 1)) ≤ p ∧ _) (by omega), if_neg (by omega), if_neg (by omega), show a + (p - (a + (i - (a + 1)))) = a by omega]
        exact y q (by omega) h5
      · rw [if_neg (by omega), if_neg (by omega), if_neg (by omega), if_neg (by omega)]; exact s2 _ _ (by omega) (by omega) (by omega)
  · obtain rfl : p = a := by omega
    exact x q h5 h6
/-- Of one element behind the others. -/
theorem Mrg.one_right {lt : α → α → Bool} (hO : SWO lt) {a m i : Nat} {d : Array α} (hi1 : a ≤ i) (hi2 : i ≤ m) (hb : m + 1 ≤ d.size) (s1 : SortedIn lt a m d)
    (h1 : a < i → lt d[m]! d[i - 1]! = false) (h2 : i < m → lt d[m]! d[i]! = true) : Mrg lt a (m + 1) d (rot d i m (m + 1)) := by
  have hg : ∀ t, (rot d i m (m + 1))[t]! = d[rotI i m (m + 1) t]! := fun t => rot_get d i m (m + 1) t hi2 (by omega) hb
  have x : ∀ j, i ≤ j → j < m → lt d[m]! d[j]! = true := fun j h3 h4 => SWO.wide hO (h2 (by omega)) (hO.irrefl _) (SortedIn.le hO s1 hi1 h3 h4)
  have y : ∀ j, a ≤ j → j < i → lt d[m]! d[j]! = false := fun j h3 h4 => hO.ntrans _ _ _ (h1 (by omega)) (SortedIn.le hO s1 h3 (by omega) (by omega))
  refine ⟨size_rot d i m (m + 1) hi2 (by omega) hb, fun t ht => ?_, fun p q h3 h4 h5 => ?_, rot_stab lt hO d i m (m + 1) hi2 (by omega) hb (fun p q h3 h4 h5 h6 => ?_)⟩
  · rw [hg]; unfold rotI; rw [if_neg (by omega), if_neg (by omega)]
  · rw [hg, hg]; unfold rotI
    by_cases hp : p < i
    · rw [if_neg (c := i ≤ p ∧ _) (by omega), if_neg (c := i + (m + 1 - m) ≤ p ∧ _) (by omega)]
      by_cases hq : q < i
      · rw [if_neg (by omega), if_neg (by omega)]; exact s1 _ _ (by omega) (by omega) (by omega)
      · by_cases hq2 : q = i
        · rw [if_pos (by omega), show m + (q - i) = m by omega]; exact y _ (by omega) hp
        · rw [if_neg (by omega), if_pos (by omega)]; exact s1 _ _ (by omega) (by omega) (by omega)
    · by_cases hp2 : p = i
      · rw [if_pos (c := i ≤ p ∧ _) (by omega), if_neg (by omega), if_pos (by omega), show m + (p - i) = m by omega]
        exact SWO.asymm hO (x _ (by omega) (by omega))
      · rw [if_neg (by omega), if_pos (by omega), if_neg (by omega), if_pos (by omega)]; exact s1 _ _ (by omega) (by omega) (by omega)
  · obtain rfl : q = m := by omega
    exact x p h3 h4
/-- Out of the search: the last one that it said no of, the first one that it said yes of. -/
theorem Cut.of_search {lt : α → α → Bool} (hO : SWO lt) {a m b s : Nat} {d : Array α} (ham : a < m) (hmb : m < b) (hb : b ≤ d.size) (s1 : SortedIn lt a m d) (s2 : SortedIn lt m b d) {lo hi : Nat}
    (hlh : if (a + b) / 2 < m then lo = (a + b) / 2 + m - b ∧ hi = (a + b) / 2 else lo = a ∧ hi = m) (hlo : lo ≤ s) (hhi : s ≤ hi)
    (h1 : lo < s → lt d[(a + b) / 2 + m - s]! d[s - 1]! = false) (h2 : s < hi → lt d[(a + b) / 2 + m - 1 - s]! d[s]! = true) : Cut lt a s m ((a + b) / 2 + m - s) b d := by
  generalize hmid : (a + b) / 2 = mid at *
  by_cases c : mid < m
  · rw [if_pos c] at hlh
    refine ⟨by omega, by omega, by omega, by omega, hb, s1, s2, fun i j h3 h4 h5 h6 => ?_, fun i j h3 h4 h5 h6 => ?_⟩
    · exact SWO.wide hO (h2 (by omega)) (SortedIn.le hO s2 h5 (by omega) (by omega)) (SortedIn.le hO s1 (by omega) h3 h4)
    · exact hO.ntrans _ _ _ (SortedIn.le hO s2 (by omega) h5 h6) (hO.ntrans _ _ _ (h1 (by omega)) (SortedIn.le hO s1 h3 (by omega) (by omega)))
  · rw [if_neg c] at hlh
    refine ⟨by omega, by omega, by omega, by omega, hb, s1, s2, fun i j h3 h4 h5 h6 => ?_, fun i j h3 h4 h5 h6 => ?_⟩
    · exact SWO.wide hO (h2 (by omega)) (SortedIn.le hO s2 h5 (by omega) (by omega)) (SortedIn.le hO s1 (by omega) h3 h4)
    · exact hO.ntrans _ _ _ (SortedIn.le hO s2 (by omega) h5 h6) (hO.ntrans _ _ _ (h1 (by omega)) (SortedIn.le hO s1 h3 (by omega) (by omega)))
/-- Blocks of bs places, sorted each, up to n. -/
def BS (bs n : Nat) (d : Array α) : Prop := ∀ q, SortedIn lt (q * bs) (min (q * bs + bs) n) d
end Go.Proofs.Ytpomfegcifpfkaa
/- The plain side of segments: names in order, entries, which lists of them are right, sorted, found. -/
namespace Go.Proofs.Ytpomfegcifpfkaa
open Go Go.Sort

theorem snoc_ind {α : Type} {p : List α → Prop} (h0 : p []) (h1 : ∀ l e, p l → p (l ++ [e])) (l : List α) : p l := by
  have h : ∀ r : List α, p r.reverse := fun r => by
    induction r with
    | nil => exact h0
    | cons e r ih => rw [List.reverse_cons]; exact h1 _ _ ih
  have := h l.reverse
  rwa [List.reverse_reverse] at this
/-- Byte by byte. -/
def ltL : List UInt8 → List UInt8 → Bool
  | [], [] => false
  | [], _ :: _ => true
  | _ :: _, [] => false
  | x :: a, y :: b => if x = y then ltL a b else decide (x < y)
theorem ltL_irrefl : ∀ a, ltL a a = false
  | [] => rfl
  | x :: a => by rw [ltL, if_pos rfl]; exact ltL_irrefl a
theorem ltL_trans : ∀ a b c, ltL a b = true → ltL b c = true → ltL a c = true
  | [], [], c, h, _ => by cases h
  | [], _ :: _, [], _, h => by cases h
  | [], _ :: _, _ :: _, _, _ => rfl
  | _ :: _, [], c, h, _ => by cases h
  | _ :: _, _ :: _, [], _, h => by cases h
  | x :: a, y :: b, z :: c, h1, h2 => by
    rw [ltL] at h1 h2 ⊢
    by_cases e1 : x = y
    · subst e1
      rw [if_pos rfl] at h1
      by_cases e2 : x = z
      · subst e2; rw [if_pos rfl] at h2 ⊢; exact ltL_trans a b c h1 h2
      · rw [if_neg e2] at h2 ⊢; exact h2
    · rw [if_neg e1] at h1
      by_cases e2 : y = z
      · subst e2; rw [if_neg e1]; exact h1
      · rw [if_neg e2] at h2
        have h1' : x < y := by simpa using h1
        have h2' : y < z := by simpa using h2
        have h3 : x < z := UInt8.lt_trans h1' h2'
        rw [if_neg (fun e => by subst e; exact absurd h3 (UInt8.lt_irrefl _))]; simpa using h3
theorem ltL_total : ∀ a b, ltL a b = false → ltL b a = false → a = b
  | [], [], _, _ => rfl
  | [], _ :: _, h, _ => by cases h
  | _ :: _, [], _, h => by cases h
  | x :: a, y :: b, h1, h2 => by
    rw [ltL] at h1 h2
    by_cases e : x = y
    · subst e; rw [if_pos rfl] at h1 h2; rw [ltL_total a b h1 h2]
    · rw [if_neg e] at h1; rw [if_neg (Ne.symm e)] at h2
      simp only [decide_eq_false_iff_not, UInt8.not_lt] at h1 h2
      exact absurd (UInt8.le_antisymm h2 h1) e
theorem ltL_swo : SWO ltL := ⟨ltL_irrefl, ltL_trans, fun a b c h1 h2 => by
  cases h : ltL a c with
  | false => rfl
  | true =>
    cases h3 : ltL b a with
    | true => have := ltL_trans _ _ _ h3 h; rw [h2] at this; cases this
    | false => rw [ltL_total a b h1 h3] at h; rw [h2] at h; cases h⟩
/-- -1, 0 or 1. -/
def cmpL (a b : List UInt8) : Int := if ltL a b then -1 else if a = b then 0 else 1
theorem cmpL_neg (a b : List UInt8) : decide (cmpL a b < 0) = ltL a b := by
  unfold cmpL
  cases ltL a b with
  | true => rfl
  | false => simp only [Bool.false_eq_true, if_false]; split <;> rfl
theorem cmpL_zero (a b : List UInt8) : cmpL a b = 0 ↔ a = b := by
  unfold cmpL
  constructor
  · intro h
    split at h
    · cases h
    · split at h
      · assumption
      · cases h
  · rintro rfl; simp [ltL_irrefl]

abbrev Nm := { l : List UInt8 // l.length = 32 }
structure Ent where
  nm : Nm
  pk : Int
  pos : Int
  ln : Int
  deriving DecidableEq
instance : Inhabited Ent := ⟨⟨⟨List.replicate 32 0, rfl⟩, 0, 0, 0⟩⟩
instance : Inhabited Nm := ⟨⟨List.replicate 32 0, rfl⟩⟩
def ltE (a b : Ent) : Bool := ltL a.nm.1 b.nm.1
def cmpE (a b : Ent) : Int := cmpL a.nm.1 b.nm.1
theorem ltE_swo : SWO ltE := ⟨fun _ => ltL_irrefl _, fun _ _ _ => ltL_trans _ _ _, fun _ _ _ => ltL_swo.ntrans _ _ _⟩
theorem ltE_total {a b : Ent} (h1 : ltE a b = false) (h2 : ltE b a = false) : a.nm = b.nm := Subtype.ext (ltL_total _ _ h1 h2)
theorem ltE_of_nm {a b : Ent} (h : a.nm = b.nm) : ltE a b = false := by unfold ltE; rw [h]; exact ltL_irrefl _
theorem eqv_ltE (a b : Ent) : eqv ltE a b = decide (a.nm = b.nm) := by
  unfold eqv
  by_cases h : a.nm = b.nm
  · simp [h, ltE_of_nm h, ltE_of_nm h.symm]
  · simp only [h, decide_false, Bool.and_eq_false_iff, Bool.not_eq_false']
    cases h1 : ltE a b with
    | true => exact .inl rfl
    | false =>
      cases h2 : ltE b a with
      | true => exact .inr rfl
      | false => exact absurd (ltE_total h1 h2) h

/-- Neighbours of one name: the first one stays. -/
def uniqE : List Ent → List Ent
  | [] => []
  | [a] => [a]
  | a :: b :: l => if b.nm = a.nm then uniqE (a :: l) else a :: uniqE (b :: l)
/-- An entry goes in at its place, if its name is not there. -/
def insE (e : Ent) : List Ent → List Ent
  | [] => [e]
  | a :: l => if ltE a e then a :: insE e l else if a.nm = e.nm then a :: l else e :: a :: l
def sortE (l : List Ent) : List Ent := l.foldl (fun o e => insE e o) []

/-- Each name is greater than those ahead. -/
def Asc (l : List Ent) : Prop := l.Pairwise fun a b => ltE a b = true
/-- The first one of a name. -/
def firstE (n : Nm) (l : List Ent) : Option Ent := l.find? fun e => decide (e.nm = n)
theorem firstE_cons (n : Nm) (a : Ent) (l : List Ent) : firstE n (a :: l) = if a.nm = n then some a else firstE n l := by
  unfold firstE; rw [List.find?_cons]; by_cases h : a.nm = n <;> simp [h]
theorem firstE_append (n : Nm) (a b : List Ent) : firstE n (a ++ b) = (firstE n a).or (firstE n b) := by unfold firstE; rw [List.find?_append]
theorem firstE_nm {n : Nm} {l : List Ent} {e : Ent} (h : firstE n l = some e) : e.nm = n ∧ e ∈ l := by
  have h1 := List.find?_some h
  exact ⟨by simpa using h1, List.mem_of_find?_eq_some h⟩
theorem firstE_mem {l : List Ent} {e : Ent} (h : e ∈ l) : ∃ x, firstE e.nm l = some x := by
  cases hf : firstE e.nm l with
  | some x => exact ⟨x, rfl⟩
  | none => have := List.find?_eq_none.1 hf e h; simp at this
theorem Asc.firstE_eq {l : List Ent} (h : Asc l) {e : Ent} (he : e ∈ l) : firstE e.nm l = some e := by
  induction l with
  | nil => cases he
  | cons a l ih =>
    rw [firstE_cons]
    rcases List.mem_cons.1 he with rfl | he'
    · rw [if_pos rfl]
    · have h1 := (List.pairwise_cons.1 h).1 e he'
      rw [if_neg (fun h2 => by rw [ltE_of_nm h2] at h1; cases h1)]
      exact ih (List.pairwise_cons.1 h).2 he'
/-- Two ascending lists with the same first ones are one. -/
theorem Asc.ext : ∀ {a b : List Ent}, Asc a → Asc b → (∀ n, firstE n a = firstE n b) → a = b
  | [], [], _, _, _ => rfl
  | [], y :: b, _, _, h => by have := h y.nm; rw [firstE_cons, if_pos rfl] at this; cases this
  | x :: a, [], _, _, h => by have := h x.nm; rw [firstE_cons, if_pos rfl] at this; cases this
  | x :: a, y :: b, ha, hb, h => by
    have ha' := List.pairwise_cons.1 ha
    have hb' := List.pairwise_cons.1 hb
    have e : x.nm = y.nm := by
      apply ltE_total
      · cases hl : ltE x y with
        | false => rfl
        | true =>
          have := h x.nm
          rw [firstE_cons, if_pos rfl, firstE_cons, if_neg (fun h2 => by rw [ltE_of_nm h2.symm] at hl; cases hl)] at this
          obtain ⟨h1, h2⟩ := firstE_nm this.symm
          have h3 := ltE_swo.trans _ _ _ hl (hb'.1 _ h2)
          rw [ltE_swo.irrefl] at h3; cases h3
      · cases hl : ltE y x with
        | false => rfl
        | true =>
          have := h y.nm
          rw [firstE_cons y.nm y b, if_pos rfl, firstE_cons, if_neg (fun h2 => by rw [ltE_of_nm h2.symm] at hl; cases hl)] at this
          obtain ⟨h1, h2⟩ := firstE_nm this
          have h3 := ltE_swo.trans _ _ _ hl (ha'.1 _ h2)
          rw [ltE_swo.irrefl] at h3; cases h3
    have exy : x = y := by
      have := h x.nm
      rw [firstE_cons, if_pos rfl, firstE_cons, if_pos e.symm] at this
      injection this
    subst exy
    congr 1
    refine Asc.ext ha'.2 hb'.2 fun n => ?_
    by_cases hn : x.nm = n
    · subst hn
      have na : firstE x.nm a = none := by
        cases hf : firstE x.nm a with
        | none => rfl
        | some z => obtain ⟨h1, h2⟩ := firstE_nm hf; have := ha'.1 z h2; rw [ltE_of_nm h1.symm] at this; cases this
      have nb : firstE x.nm b = none := by
        cases hf : firstE x.nm b with
        | none => rfl
        | some z => obtain ⟨h1, h2⟩ := firstE_nm hf; have := hb'.1 z h2; rw [ltE_of_nm h1.symm] at this; cases this
      rw [na, nb]
    · have := h n
      rwa [firstE_cons, if_neg hn, firstE_cons, if_neg hn] at this
theorem insE_mem {e x : Ent} : ∀ {l : List Ent}, x ∈ insE e l → x = e ∨ x ∈ l
  | [], h => by simp [insE] at h; exact .inl h
  | a :: l, h => by
    rw [insE] at h
    split at h
    · rcases List.mem_cons.1 h with h | h
      · exact .inr (by simp [h])
      · exact (insE_mem h).imp id (List.mem_cons_of_mem _)
    · split at h
      · exact .inr h
      · rcases List.mem_cons.1 h with h | h
        · exact .inl h
        · exact .inr h
theorem insE_asc {e : Ent} : ∀ {l : List Ent}, Asc l → Asc (insE e l)
  | [], _ => by rw [insE]; exact List.pairwise_singleton _ _
  | a :: l, h => by
    have h' := List.pairwise_cons.1 h
    rw [insE]
    split
    · next hl =>
      refine List.pairwise_cons.2 ⟨fun x hx => ?_, insE_asc h'.2⟩
      rcases insE_mem hx with rfl | hx
      · exact hl
      · exact h'.1 x hx
    · next hl =>
      split
      · exact h
      · next hn =>
        have he : ltE e a = true := by
          cases hh : ltE e a with
          | true => rfl
          | false => exact absurd (ltE_total (by simpa using hl) hh) hn
        refine List.pairwise_cons.2 ⟨fun x hx => ?_, h⟩
        rcases List.mem_cons.1 hx with rfl | hx
        · exact he
        · exact ltE_swo.trans _ _ _ he (h'.1 x hx)
theorem insE_first {e : Ent} (n : Nm) : ∀ {l : List Ent}, Asc l → firstE n (insE e l) = (firstE n l).or (if e.nm = n then some e else none)
  | [], _ => by rw [insE, firstE_cons]; simp [firstE]
  | a :: l, h => by
    have h' := List.pairwise_cons.1 h
    rw [insE]
    split
    · rw [firstE_cons, firstE_cons, insE_first n h'.2]
      split <;> rfl
    · next hl =>
      split
      · next hn =>
        by_cases c : e.nm = n
        · rw [if_pos c, firstE_cons, if_pos (hn.trans c)]; rfl
        · rw [if_neg c, Option.or_none]
      · next hn =>
        rw [firstE_cons]
        by_cases c : e.nm = n
        · rw [if_pos c, if_pos c]
          have he : ltE e a = true := by
            cases hh : ltE e a with
            | true => rfl
            | false => exact absurd (ltE_total (by simpa using hl) hh) hn
          cases hf : firstE n (a :: l) with
          | none => rfl
          | some z =>
            obtain ⟨h1, h2⟩ := firstE_nm hf
            have hz : ltE e z = true := by
              rcases List.mem_cons.1 h2 with rfl | h2
              · exact he
              · exact ltE_swo.trans _ _ _ he (h'.1 z h2)
            rw [ltE_of_nm (c.trans h1.symm)] at hz; cases hz
        · rw [if_neg c, if_neg c, Option.or_none]
theorem sortE_snoc (l : List Ent) (e : Ent) : sortE (l ++ [e]) = insE e (sortE l) := by unfold sortE; rw [List.foldl_append]; rfl
theorem sortE_asc (l : List Ent) : Asc (sortE l) := by
  refine snoc_ind (p := fun l => Asc (sortE l)) List.Pairwise.nil (fun l e ih => ?_) l
  rw [sortE_snoc]; exact insE_asc ih
theorem sortE_first (n : Nm) (l : List Ent) : firstE n (sortE l) = firstE n l := by
  refine snoc_ind (p := fun l => firstE n (sortE l) = firstE n l) rfl (fun l e ih => ?_) l
  rw [sortE_snoc, insE_first n (sortE_asc l), ih, firstE_append, firstE_cons]
  simp [firstE]
/-- No later one is less than an earlier one. -/
def Wk (l : List Ent) : Prop := l.Pairwise fun a b => ltE b a = false
theorem uniqE_spec : ∀ (k : Nat) (l : List Ent), l.length ≤ k → Wk l → Asc (uniqE l) ∧ (∀ n, firstE n (uniqE l) = firstE n l) ∧ (∀ x, x ∈ uniqE l → x ∈ l) ∧ (uniqE l).length ≤ l.length
  | _, [], _, _ => by rw [uniqE]; exact ⟨List.Pairwise.nil, fun _ => rfl, fun _ h => h, Nat.le_refl _⟩
  | _, [a], _, _ => by rw [uniqE]; exact ⟨List.pairwise_singleton _ _, fun _ => rfl, fun _ h => h, Nat.le_refl _⟩
  | 0, a :: b :: l, h, _ => by simp at h
  | k + 1, a :: b :: l, h, hw => by
    have w1 := List.pairwise_cons.1 hw
    have w2 := List.pairwise_cons.1 w1.2
    rw [uniqE]
    split
    · next hn =>
      obtain ⟨h1, h2, h3, h4⟩ := uniqE_spec k (a :: l) (by simp at h ⊢; omega) (List.pairwise_cons.2 ⟨fun x hx => w1.1 x (List.mem_cons_of_mem _ hx), w2.2⟩)
      refine ⟨h1, fun n => ?_, fun x hx => ?_, by simp at h4 ⊢; omega⟩
      · rw [h2, firstE_cons, firstE_cons, firstE_cons]
        by_cases c : a.nm = n
        · rw [if_pos c, if_pos c]
        · rw [if_neg c, if_neg c, if_neg (fun e => c (hn.symm.trans e))]
      · rcases List.mem_cons.1 (h3 x hx) with h | h
        · simp [h]
        · simp [h]
    · next hn =>
      obtain ⟨h1, h2, h3, h4⟩ := uniqE_spec k (b :: l) (by simp at h ⊢; omega) w1.2
      refine ⟨List.pairwise_cons.2 ⟨fun x hx => ?_, h1⟩, fun n => ?_, fun x hx => ?_, by simp at h4 ⊢; omega⟩
      · have hab : ltE a b = true := by
          cases hh : ltE a b with
          | true => rfl
          | false => exact absurd (ltE_total (w1.1 b (by simp)) hh) hn
        rcases List.mem_cons.1 (h3 x hx) with rfl | hx
        · exact hab
        · exact SWO.wide ltE_swo hab (ltE_swo.irrefl _) (w2.1 x hx)
      · rw [firstE_cons, firstE_cons n a, h2]
      · rcases List.mem_cons.1 hx with h | h
        · simp [h]
        · exact List.mem_cons_of_mem _ (h3 x h)
theorem firstE_filter (n : Nm) (l : List Ent) : firstE n l = (l.filter fun e => decide (n = e.nm)).head? := by
  induction l with
  | nil => rfl
  | cons a l ih =>
    rw [firstE_cons, List.filter_cons]
    by_cases h : a.nm = n
    · rw [if_pos h, if_pos (by simp [h])]; rfl
    · rw [if_neg h, if_neg (by simpa using fun e => h e.symm)]; exact ih
theorem Stab.first {d d' : Array Ent} (h : Stab ltE d d') (n : Nm) : firstE n d'.toList = firstE n d.toList := by
  rw [firstE_filter, firstE_filter]
  have := h.2 ⟨n, 0, 0, 0⟩
  rw [show eqv ltE ⟨n, 0, 0, 0⟩ = fun e : Ent => decide (n = e.nm) from funext fun x => eqv_ltE _ x] at this
  rw [this]
theorem SortedIn.wk {d : Array Ent} (h : SortedIn ltE 0 d.size d) : Wk d.toList := by
  refine List.pairwise_iff_getElem.2 fun i j hi hj hij => ?_
  have := h i j (Nat.zero_le _) hij (by simpa using hj)
  rw [getElem!_pos d i (by simpa using hi), getElem!_pos d j (by simpa using hj)] at this
  simpa using this
/-- What a stable sort leaves, without neighbours of one name: one list. -/
theorem uniqE_sort {d d' : Array Ent} (h : Mrg ltE 0 d.size d d') : uniqE d'.toList = sortE d.toList := by
  have hw : Wk d'.toList := SortedIn.wk (by rw [h.size]; exact h.sorted)
  obtain ⟨h1, h2, _⟩ := uniqE_spec _ _ (Nat.le_refl _) hw
  exact Asc.ext h1 (sortE_asc _) fun n => by rw [h2, h.stab.first, sortE_first]
theorem sortE_length (l : List Ent) : (sortE l).length ≤ l.length := by
  refine snoc_ind (p := fun l => (sortE l).length ≤ l.length) (by simp [sortE]) (fun l e ih => ?_) l
  rw [sortE_snoc]
  have : ∀ o : List Ent, (insE e o).length ≤ o.length + 1 := fun o => by
    induction o with
    | nil => simp [insE]
    | cons a o ih2 => rw [insE]; split <;> (try split) <;> simp <;> omega
  have := this (sortE l)
  simp; omega
theorem sortE_mem {l : List Ent} {x : Ent} (h : x ∈ sortE l) : x ∈ l := by
  have h1 := (sortE_asc l).firstE_eq h
  rw [sortE_first] at h1
  exact (firstE_nm h1).2

/-- May its place be one? -/
def rightP (e : Ent) : Bool := decide (1 ≤ e.pk ∧ e.pk ≤ 999999 ∧ 0 ≤ e.pos ∧ e.pos ≤ 12000 ∧ 1 ≤ e.ln ∧ e.ln ≤ 12000)
end Go.Proofs.Ytpomfegcifpfkaa
