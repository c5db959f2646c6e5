/- Arguments that are bytes, numbers, a byte: opened. -/
import Derived.Test.YtelijfdpgachnaaOpenE
namespace Go.Proofs.Ytelijfdpgachnaa
open Go Go.RowKit Go.Sort Go.ChangeShapes Go.WideShapes Go.Deep
section
variable {H : Type} {enc : TypeId × Value → H} {w : World} {base : Nat} {spare : Nat → Bool} {held : Bool}
set_option maxRecDepth 100000 in
theorem open_bs {v : Value} {d : DataW H} {ps : List MemPlace} (hok : Value.okWide Try.prog w .any base 23 v) (h : DataW.Trod enc Try.prog w 0 (fun _ => true) held 23 v d ps) :
    ∃ a n c, v = .slice a n c ∧ n ≤ c ∧ c ≤ maxLen ∧ (n ≤ 140737488355328 → ∃ xs : List UInt8, xs.length = n ∧ Bs (fun _ => False) w v xs) := by
  obtain ⟨a, n, c, rfl⟩ := okWide_slice Try.underlying23 hok
  obtain ⟨fuel, hf⟩ := h
  have hf' : DataW.trod enc Try.prog w 0 (fun _ => true) held fuel 23 [.slice a n c] = some (d, ps) := hf
  rcases open_ints Try.underlying23 Try.underlying5 (by kernel_rfl) hf' with ⟨h0, _⟩ | ⟨a', len, cap, zs, hcs, _, hl, hm, hz, _, hcell, hwf⟩
  · injection h0 with h0 _
    injection h0 with e1 e2 e3
    subst e1 e2 e3
    exact ⟨none, 0, 0, rfl, Nat.le_refl _, Nat.zero_le _, fun _ => ⟨[], rfl, Bs.nil _ _⟩⟩
  · injection hcs with hcs _
    injection hcs with e1 e2 e3
    subst e1 e2 e3
    simp only [if_true] at hz
    refine ⟨some a', n, c, rfl, hl, hm, fun hn => ?_⟩
    by_cases h0 : n = 0
    · subst h0
      exact ⟨[], rfl, some a', c, rfl, ⟨Nat.zero_le _, Nat.zero_le _, hm⟩, (fun h => nomatch h), .inl rfl⟩
    obtain ⟨b, off, sp⟩ := a'
    have hspot : sp = none := by simpa [Addr.add] using World.cell?_spot (hcell 0 (by omega))
    subst hspot
    have hadd : ∀ j, (⟨b, off, none⟩ : Addr).add j = ⟨b, off + j, none⟩ := fun j => by unfold Addr.add; split <;> simp_all
    have hb : b < w.heap.size := by
      have := hcell 0 (by omega)
      unfold World.cell? at this
      by_cases hlt : b < w.heap.size
      · exact hlt
      · rw [show ((⟨b, off, none⟩ : Addr).add 0).block = b by rw [hadd], Array.getElem?_eq_none (xs := w.heap) (i := b) (by omega)] at this; cases this
    refine ⟨(zs.take n).map fun z => UInt8.ofNat z.toNat, by simp; omega, some ⟨b, off, none⟩, c, by simp; omega, ⟨by simp; omega, by simp; omega, hm⟩, (fun h => nomatch h), .inr ⟨b, off, rfl, hb, id, fun i x hx => ?_⟩⟩
    rw [List.getElem?_map, Option.map_eq_some_iff] at hx
    obtain ⟨z, hzi, rfl⟩ := hx
    have hi : i < n := by
      have := (List.getElem?_eq_some_iff.1 hzi).1
      simp at this; omega
    rw [List.getElem?_take_of_lt hi] at hzi
    have h3 := hcell i (by omega)
    rw [hadd] at h3
    rw [h3]
    have h4 : zs.getD i 0 = z := by rw [List.getD_eq_getElem?_getD, hzi]; rfl
    have h5 := hwf z (List.mem_of_getElem? hzi)
    have h6 : 0 ≤ z ∧ z ≤ 255 := by simpa [Lit.wf, IntKind.min, IntKind.max, IntKind.signed, IntKind.bits] using h5
    rw [h4]
    congr 2
    simp only [UInt8.toNat_ofNat']
    omega
set_option maxRecDepth 100000 in
theorem open_num {v : Value} (hok : Value.okWide Try.prog w .any base 3 v) : ∃ n : Int, v = .int .i64 n := okWide_int Try.underlying3 hok
set_option maxRecDepth 100000 in
theorem open_u8 {v : Value} {d : DataW H} {ps : List MemPlace} (hok : Value.okWide Try.prog w .any base 5 v) (h : DataW.Trod enc Try.prog w 0 (fun _ => true) held 5 v d ps) : ∃ b : UInt8, v = .int .u8 (b.toNat : Int) := by
  obtain ⟨n, rfl⟩ := okWide_int Try.underlying5 hok
  obtain ⟨fuel, hf⟩ := h
  have hf' : DataW.trod enc Try.prog w 0 (fun _ => true) held fuel 5 [.int .u8 n] = some (d, ps) := hf
  obtain ⟨b, hb⟩ := byte_of hf'
  refine ⟨b, ?_⟩
  injection hb
end
end Go.Proofs.Ytelijfdpgachnaa
