/- segment's Packs, and ref08's Numbers. -/
import Derived.Test.YtdbpkiddiehliaaGreatR10Packs
import Derived.Test.YtdbpkiddiehliaaGreatSegSort
import Derived.Test.YtdbpkiddiehliaaGreatDeleteE
import Derived.Test.YtdbpkiddiehliaaGreatShelf
namespace Go.Proofs.YtdbpkiddiehliaaGreat
open Go Go.RowKit Go.Sort
theorem asc_ext : ∀ {a b : List Int}, a.Pairwise (· < ·) → b.Pairwise (· < ·) → (∀ x, x ∈ a ↔ x ∈ b) → a = b
  | [], [], _, _, _ => rfl
  | [], y :: b, _, _, h => absurd ((h y).2 (by simp)) (by simp)
  | x :: a, [], _, _, h => absurd ((h x).1 (by simp)) (by simp)
  | x :: a, y :: b, ha, hb, h => by
    rw [List.pairwise_cons] at ha hb
    have hxy : x = y := by
      rcases List.mem_cons.1 ((h x).1 (by simp)) with e | h1
      · exact e
      · rcases List.mem_cons.1 ((h y).2 (by simp)) with e | h2
        · exact e.symm
        · have := hb.1 x h1; have := ha.1 y h2; omega
    subst hxy
    congr 1
    refine asc_ext ha.2 hb.2 fun z => ⟨fun hz => ?_, fun hz => ?_⟩
    · rcases List.mem_cons.1 ((h z).1 (by simp [hz])) with e | h1
      · subst e; have := ha.1 z hz; omega
      · exact h1
    · rcases List.mem_cons.1 ((h z).2 (by simp [hz])) with e | h1
      · subst e; have := hb.1 z hz; omega
      · exact h1
theorem insI_mem {z x : Int} : ∀ {o : List Int}, x ∈ insI z o ↔ x = z ∨ x ∈ o
  | [] => by simp [insI]
  | a :: o => by
    rw [insI]
    split
    · rw [List.mem_cons, insI_mem (o := o), List.mem_cons]
      exact ⟨fun h => h.elim (fun h => .inr (.inl h)) (fun h => h.elim .inl (fun h => .inr (.inr h))), fun h => h.elim (fun h => .inr (.inl h)) (fun h => h.elim .inl (fun h => .inr (.inr h)))⟩
    · split
      · rename_i h; subst h; rw [List.mem_cons]; exact ⟨fun h => h.elim .inl (fun h => .inr (.inr h)), fun h => h.elim .inl id⟩
      · rw [List.mem_cons]
theorem insI_asc {z : Int} : ∀ {o : List Int}, o.Pairwise (· < ·) → (insI z o).Pairwise (· < ·)
  | [], _ => by simp [insI]
  | a :: o, h => by
    have h' := h
    rw [List.pairwise_cons] at h
    rw [insI]
    split
    · rw [List.pairwise_cons]
      refine ⟨fun y hy => ?_, insI_asc h.2⟩
      rcases insI_mem.1 hy with e | hy
      · subst e; assumption
      · exact h.1 y hy
    · split
      · exact h'
      · rw [List.pairwise_cons]
        refine ⟨fun y hy => ?_, h'⟩
        rcases List.mem_cons.1 hy with e | hy
        · subst e; omega
        · have := h.1 y hy; omega
theorem packsF_spec (l : List Ent) : (packsF l).Pairwise (· < ·) ∧ ∀ x, x ∈ packsF l ↔ ∃ e, e ∈ l ∧ e.pk = x := by
  induction l using snoc_ind with
  | h0 => exact ⟨List.Pairwise.nil, fun x => by simp [packsF]⟩
  | h1 l e ih =>
    rw [packsF_snoc]
    refine ⟨insI_asc ih.1, fun x => ?_⟩
    rw [insI_mem, ih.2]
    constructor
    · rintro (rfl | ⟨e', h1, h2⟩)
      · exact ⟨e, by simp, rfl⟩
      · exact ⟨e', by simp [h1], h2⟩
    · rintro ⟨e', h1, h2⟩
      rcases List.mem_append.1 h1 with h1 | h1
      · exact .inr ⟨e', h1, h2⟩
      · simp at h1; subst h1; exact .inl h2.symm
theorem compact_spec {zs : List Int} (hs : zs.Pairwise (· ≤ ·)) : ∀ m, m ≤ zs.length → (Lib.compactUpTo zs.toArray m).Pairwise (· < ·) ∧ ∀ x, x ∈ Lib.compactUpTo zs.toArray m ↔ ∃ j, j < m ∧ zs[j]! = x
  | 0, _ => ⟨by simp [Lib.compactUpTo], fun x => by simp [Lib.compactUpTo]⟩
  | m + 1, hm => by
    obtain ⟨h1, h2⟩ := compact_spec hs m (by omega)
    have hget : ∀ j : Nat, zs.toArray[j]! = zs[j]! := fun j => by
      by_cases hj : j < zs.length
      · rw [getElem!_pos zs.toArray j (by simpa using hj), getElem!_pos zs j hj]; simp
      · rw [getElem!_neg zs.toArray j (by simpa using hj), getElem!_neg zs j hj]
    have hle : ∀ i j, i < j → j < zs.length → zs[i]! ≤ zs[j]! := fun i j hij hj => by
      rw [getElem!_pos zs i (by omega), getElem!_pos zs j hj]
      exact List.pairwise_iff_getElem.1 hs i j (by omega) hj hij
    rw [Lib.compactUpTo_succ]
    by_cases hk : Lib.keeps zs.toArray m = true
    · rw [if_pos hk, hget]
      have hlt : ∀ x, x ∈ Lib.compactUpTo zs.toArray m → x < zs[m]! := fun x hx => by
        obtain ⟨j, hj, rfl⟩ := (h2 x).1 hx
        have hne : zs[m]! ≠ zs[m - 1]! := by
          unfold Lib.keeps at hk
          simp only [hget] at hk
          intro e
          simp [e] at hk
          omega
        have h3 : zs[j]! ≤ zs[m - 1]! := by
          by_cases e : j = m - 1
          · rw [e]; exact Int.le_refl _
          · exact hle j (m - 1) (by omega) (by omega)
        have h4 := hle (m - 1) m (by omega) (by omega)
        omega
      refine ⟨List.pairwise_append.2 ⟨h1, by simp, fun a ha b hb => by rw [List.mem_singleton.1 hb]; exact hlt a ha⟩, fun x => ?_⟩
      rw [List.mem_append, h2]
      constructor
      · rintro (⟨j, hj, rfl⟩ | hx)
        · exact ⟨j, by omega, rfl⟩
        · exact ⟨m, by omega, (List.mem_singleton.1 hx).symm⟩
      · rintro ⟨j, hj, rfl⟩
        by_cases e : j = m
        · subst e; exact .inr (List.mem_singleton.2 rfl)
        · exact .inl ⟨j, by omega, rfl⟩
    · rw [if_neg hk, List.append_nil]
      refine ⟨h1, fun x => ?_⟩
      rw [h2]
      constructor
      · rintro ⟨j, hj, rfl⟩; exact ⟨j, by omega, rfl⟩
      · rintro ⟨j, hj, rfl⟩
        by_cases e : j = m
        · subst e
          have hk' : j ≠ 0 ∧ zs[j]! = zs[j - 1]! := by
            unfold Lib.keeps at hk
            simp only [hget] at hk
            simpa using hk
          exact ⟨j - 1, by omega, hk'.2.symm⟩
        · exact ⟨j, by omega, rfl⟩
theorem packs_eq (l : List Ent) : Lib.compact ((l.map Ent.pk).mergeSort fun x y => decide (x ≤ y)) = packsF l := by
  have hs : ((l.map Ent.pk).mergeSort fun x y => decide (x ≤ y)).Pairwise (· ≤ ·) := by
    have := List.pairwise_mergeSort (le := fun x y : Int => decide (x ≤ y)) (fun a b c h1 h2 => by simp at h1 h2 ⊢; omega) (fun a b => by simp; omega) (l.map Ent.pk)
    exact this.imp (fun h => by simpa using h)
  obtain ⟨h1, h2⟩ := compact_spec hs _ (Nat.le_refl _)
  obtain ⟨h3, h4⟩ := packsF_spec l
  refine asc_ext h1 h3 fun x => ?_
  unfold Lib.compact
  rw [h2, h4]
  constructor
  · rintro ⟨j, hj, rfl⟩
    rw [getElem!_pos _ j hj]
    have := List.getElem_mem hj
    rw [List.mem_mergeSort] at this
    obtain ⟨e, he, h⟩ := List.mem_map.1 this
    exact ⟨e, he, h⟩
  · rintro ⟨e, he, rfl⟩
    have : e.pk ∈ (l.map Ent.pk).mergeSort fun x y => decide (x ≤ y) := by rw [List.mem_mergeSort]; exact List.mem_map.2 ⟨e, he, rfl⟩
    obtain ⟨j, hj, h⟩ := List.mem_iff_getElem.1 this
    exact ⟨j, hj, by rw [getElem!_pos _ j hj]; exact h⟩
/-- An owned slice of numbers, with elements, as a row; and behind what rewrote it. -/
theorem Own.holdsI {w : World} {base e cap g : Nat} {zs : List Int} (h : Own w base e 1 (.slice (some ⟨g, 0, none⟩) zs.length cap) zs.length (icells zs)) (hl : zs ≠ []) :
    Holds (Value.int .i64) w g 0 zs.toArray ∧ g < w.heap.size ∧ base ≤ g ∧ Fits zs.length cap ∧ ∀ (zs' : List Int) (q m : Nat) (os : Array Obj), zs'.length = zs.length → m ≤ zs.length →
      Own (grow (putRow (Value.int .i64) (Sort.ahead w q) g 0 zs'.toArray) os) base e 1 (.slice (some ⟨g, 0, none⟩) m cap) m (icells (zs'.take m)) ∧ Fr (· = g) w (grow (putRow (Value.int .i64) (Sort.ahead w q) g 0 zs'.toArray) os) := by
  obtain ⟨h0, ⟨hn, _⟩ | ⟨g', cap', cur, hv, hb, hg, hf, hz, ht⟩⟩ := h
  · exact absurd (List.eq_nil_of_length_eq_zero hn) hl
  · injection hv with e1 e2 e3; injection e1 with e1; injection e1 with e1 _ _; subst e1 e3
    have hgl := lt_of_heap hg
    refine ⟨fun j hj => ?_, hgl, hb, hf, fun zs' q m os hlen hm => ?_⟩
    · have hj' : j < zs.length := by simpa using hj
      refine ⟨?_, frozen_of_row w g _ _ _ hg⟩
      rw [Nat.zero_add, cell_of_heap hg]
      have h1 : (icells zs)[j]? = some (.int .i64 zs[j]) := icells_at (List.getElem?_eq_getElem hj')
      rw [← ht, List.getElem?_take_of_lt (by omega), Array.getElem?_toList] at h1
      rw [h1, getElem!_pos zs.toArray j hj]; simp
    · have hblock : (grow (putRow (Value.int .i64) (Sort.ahead w q) g 0 zs'.toArray) os).heap[g]? = some (.cells (putCells (Value.int .i64) 0 zs'.toArray cur) e (0, 0)) := by
        rw [heap_grow_old _ _ (by rw [size_putRow]; exact hgl)]
        unfold putRow mapBlock
        show (w.heap.modify g _)[g]? = _
        rw [Array.getElem?_modify, if_pos rfl, hg]; rfl
      have hml : (zs'.take m).length = m := by rw [List.length_take]; omega
      refine ⟨⟨by rw [icells_length, hml]; omega, .inr ⟨g, cap, _, rfl, hb, hblock, ⟨by have := hf.1; omega, by have := hf.2.1; omega, hf.2.2⟩, by simpa [putCells] using hz, ?_⟩⟩, ⟨rfl, rfl, rfl, ?_, fun b hb' hne => ?_⟩⟩
      · apply List.ext_getElem?
        intro t
        by_cases htm : t < m * 1
        · have hts : t < zs'.length := by omega
          have hcs : t < cur.size := by have := hf.1; omega
          rw [List.getElem?_take_of_lt htm, Array.getElem?_toList]
          unfold icells
          rw [List.getElem?_map, List.getElem?_take_of_lt (by omega), List.getElem?_eq_getElem hts]
          unfold putCells
          rw [Array.getElem?_mapIdx, Array.getElem?_eq_getElem hcs]
          simp [hts]
        · rw [List.getElem?_eq_none (by simp; omega), List.getElem?_eq_none (by rw [icells_length, hml]; omega)]
      · rw [size_grow, size_putRow]; exact Nat.le_add_right _ _
      · rw [heap_grow_old _ _ (by rw [size_putRow]; exact hb')]
        unfold putRow mapBlock
        show (w.heap.modify g _)[b]? = _
        rw [Array.getElem?_modify, if_neg (fun e => hne e.symm)]
def SortI (base g cap : Nat) (zs : List Int) (w1 : World) (e : Ending) (w2 : World) : Prop :=
  e = .returned (.tuple #[]) ∧ ∃ zs' : List Int, zs' = (zs.mergeSort fun x y => decide (x ≤ y)) ∧ Own w2 base 3 1 (.slice (some ⟨g, 0, none⟩) zs.length cap) zs.length (icells zs') ∧ Fr (· = g) w1 w2
theorem sort_own {w1 : World} {base g cap : Nat} {zs : List Int} (ho : Own w1 base 3 1 (.slice (some ⟨g, 0, none⟩) zs.length cap) zs.length (icells zs)) (hl : zs ≠ []) (hlen : zs.length ≤ 1000000000) :
    Calls Tryz.prog 30 #[.slice (some ⟨g, 0, none⟩) zs.length cap] w1 (SortI base g cap zs w1) := by
  obtain ⟨hH, hg, hb, hf, hafter⟩ := Own.holdsI ho hl
  refine (Tryz.slices_Sort_int g 0 cap zs w1 hH hg (by omega)).mono ?_
  rintro e w2 ⟨rfl, q, os, rfl⟩
  obtain ⟨h1, h2⟩ := hafter (zs.mergeSort fun x y => decide (x ≤ y)) q zs.length os (by simp) (Nat.le_refl _)
  rw [List.take_of_length_le (by simp)] at h1
  exact ⟨rfl, _, rfl, h1, h2⟩
def CompI (base g cap : Nat) (zs : List Int) (w1 : World) (e : Ending) (w2 : World) : Prop :=
  ∃ m, m = (Lib.compact zs).length ∧ e = .returned (.slice (some ⟨g, 0, none⟩) m cap) ∧ Own w2 base 3 1 (.slice (some ⟨g, 0, none⟩) m cap) m (icells (Lib.compact zs)) ∧ Fr (· = g) w1 w2
theorem compI_own {w1 : World} {base g cap n : Nat} {zs : List Int} (hn : zs.length = n) (ho : Own w1 base 3 1 (.slice (some ⟨g, 0, none⟩) n cap) n (icells zs)) (hl : zs ≠ []) (hlen : n ≤ 1000000000) :
    Calls Tryz.prog 31 #[.slice (some ⟨g, 0, none⟩) n cap] w1 (CompI base g cap zs w1) := by
  subst hn
  obtain ⟨hH, hg, hb, hf, hafter⟩ := Own.holdsI ho hl
  refine (Tryz.slices_Compact_int g 0 cap zs w1 hH (by omega) hf.1).mono ?_
  rintro e w2 ⟨rfl, q, rfl⟩
  have hcl := Lib.compact_length_le zs
  obtain ⟨h1, h2⟩ := hafter (Lib.compact zs ++ List.replicate (zs.length - (Lib.compact zs).length) 0) q (Lib.compact zs).length #[] (by rw [List.length_append, List.length_replicate]; omega) hcl
  rw [List.take_left' rfl, grow_empty] at h1
  rw [grow_empty] at h2
  exact ⟨_, rfl, rfl, h1, h2⟩
end Go.Proofs.YtdbpkiddiehliaaGreat
