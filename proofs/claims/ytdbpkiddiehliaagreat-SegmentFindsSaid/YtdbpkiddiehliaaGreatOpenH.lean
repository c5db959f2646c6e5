/- Arguments that are a name, and numbers: opened. -/
import Derived.Test.YtdbpkiddiehliaaGreatOpenE
import Derived.Test.YtdbpkiddiehliaaGreatR10Without
namespace Go.Proofs.YtdbpkiddiehliaaGreat
open Go Go.RowKit Go.Sort Go.ChangeShapes Go.WideShapes Go.Deep
theorem okWide_arr {P : Program} {w : World} {r : Reach} {base : Nat} {t : TypeId} {v : Value} {n : Nat} {e : TypeId} (ht : P.underlying t = some (.array n e)) (h : Value.okWide P w r base t v) : ∃ cs, v = .agg cs := by
  simp only [Value.okWide, ht] at h
  obtain ⟨cs, h1, _⟩ := h
  exact ⟨cs, h1⟩
section
variable {H : Type} {enc : TypeId × Value → H} {w : World} {base : Nat} {spare : Nat → Bool} {held : Bool}
set_option maxRecDepth 100000 in
theorem open_is {v : Value} {d : DataW H} {ps : List MemPlace} (hok : Value.okWide Tryz.prog w .any base 25 v) (h : DataW.Trod enc Tryz.prog w 0 (fun _ => true) held 25 v d ps) :
    ∃ a n c, v = .slice a n c ∧ n ≤ c ∧ c ≤ maxLen ∧ (n ≤ 140737488355328 → ∃ xs : List Int, xs.length = n ∧ Is (fun _ => False) w (.slice a n c) xs) := by
  obtain ⟨a, n, c, rfl⟩ := okWide_slice Tryz.underlying25 hok
  obtain ⟨fuel, hf⟩ := h
  have hf' : DataW.trod enc Tryz.prog w 0 (fun _ => true) held fuel 25 [.slice a n c] = some (d, ps) := hf
  rcases open_ints Tryz.underlying25 Tryz.underlying3 (by kernel_rfl) hf' with ⟨h0, _⟩ | ⟨a', len, cap, zs, hcs, _, hl, hm, hz, _, hcell, _⟩
  · injection h0 with h0 _
    injection h0 with e1 e2 e3
    subst e1 e2 e3
    exact ⟨none, 0, 0, rfl, Nat.le_refl _, Nat.zero_le _, fun _ => ⟨[], rfl, ⟨rfl, none, 0, rfl, ⟨Nat.le_refl _, Nat.zero_le _, Nat.zero_le _⟩, fun _ => rfl, .inl rfl⟩⟩⟩
  · injection hcs with hcs _
    injection hcs with e1 e2 e3
    subst e1 e2 e3
    simp only [if_true] at hz
    refine ⟨some a', n, c, rfl, hl, hm, fun hn => ?_⟩
    by_cases h0 : n = 0
    · subst h0
      exact ⟨[], rfl, ⟨rfl, some a', c, rfl, ⟨Nat.zero_le _, Nat.zero_le _, hm⟩, (fun h => nomatch h), .inl rfl⟩⟩
    obtain ⟨b, off, sp⟩ := a'
    have hspot : sp = none := by simpa [Addr.add] using World.cell?_spot (hcell 0 (by omega))
    subst hspot
    have hadd : ∀ j, (⟨b, off, none⟩ : Addr).add j = ⟨b, off + j, none⟩ := fun j => by unfold Addr.add; split <;> simp_all
    have hb : b < w.heap.size := by
      have := hcell 0 (by omega)
      unfold World.cell? at this
      by_cases hlt : b < w.heap.size
      · exact hlt
      · rw [show ((⟨b, off, none⟩ : Addr).add 0).block = b by rw [hadd], Array.getElem?_eq_none (xs := w.heap) (i := b) (by omega)] at this; cases this
    have hln : (zs.take n).length = n := by rw [List.length_take]; omega
    refine ⟨zs.take n, hln, ?_⟩
    unfold Is
    rw [hln]
    refine ⟨by rw [icells_length, hln]; omega, some ⟨b, off, none⟩, c, rfl, ⟨hl, hn, hm⟩, (fun h => nomatch h), .inr ⟨b, off, rfl, hb, id, fun i x hx => ?_⟩⟩
    unfold icells at hx
    rw [List.getElem?_map, Option.map_eq_some_iff] at hx
    obtain ⟨z, hzi, rfl⟩ := hx
    have hi : i < n := by
      have := (List.getElem?_eq_some_iff.1 hzi).1
      omega
    rw [List.getElem?_take_of_lt hi] at hzi
    have h3 := hcell i (by omega)
    rw [hadd] at h3
    rw [h3, List.getD_eq_getElem?_getD, hzi]; rfl
set_option maxRecDepth 100000 in
theorem open_nm {v : Value} {d : DataW H} {ps : List MemPlace} (hok : Value.okWide Tryz.prog w .any base 24 v) (h : DataW.Trod enc Tryz.prog w 0 (fun _ => true) held 24 v d ps) : ∃ n : Nm, v = .agg (bcells n.1).toArray := by
  obtain ⟨cs, rfl⟩ := okWide_arr Tryz.underlying24 hok
  obtain ⟨fuel, hf⟩ := h
  have hf' : DataW.trod enc Tryz.prog w 0 (fun _ => true) held fuel 24 cs.toList = some (d, ps) := hf
  obtain ⟨n, hn⟩ := hash_of hf'
  exact ⟨n, by rw [← hn]⟩
end
end Go.Proofs.YtdbpkiddiehliaaGreat
