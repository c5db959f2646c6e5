/- simfs: Used. -/
import Derived.Test.YtgehalfnpbjjcaaSimK
namespace Go.Proofs.Ytgehalfnpbjjcaa
open Go Go.RowKit Go.Sort
theorem sum_perm {l l' : Dir} {f : Nat → Nat} (h : l.Perm l') : (l.map fun p => f p.2).sum = (l'.map fun p => f p.2).sum := (h.map _).sum_nat
set_option maxHeartbeats 1000000 in
set_option maxRecDepth 100000 in
theorem fsUsed_ok {F D : Nat → Prop} {sb : Nat} {st : FSt} (w : World) (h : FSr w F D sb st) (hl : st.seen.length ≤ 1000000) :
    Calls Try.prog 29 #[.pointer (some ⟨sb, 0, none⟩)] w fun e w' => e = .returned (.int .i64 (usedF st : Nat)) ∧ Below w.heap.size w w' := by
  obtain ⟨m1, m2, ca, cc, ho⟩ := h.lies
  have c1 : w.cell? ⟨sb, 1, none⟩ = some (.map (some m1)) := cell_of_heap ho.head 1
  have HM := hid ho.seen
  have HH := hid h
  have HML := hid (show m1 < w.heap.size from ho.seen.lt)
  have hul := usedF_le h.ok
  clear ho h
  go_enter Try.func29, Try.ntmps29
  go_wp2_with (at_range; refine wpl_rangeG rfl rfl Try.underlying64 HM.out rfl ?_; intro w0 hit hb0 hs0; have HIT := hid hit; have HB0 := hid hb0; clear hit hb0 hs0)
  go_frame
  go_loopg [2] st.seen.length (fun kx s2 wr => ∃ (left : Dir) (acc : Nat), s2 = .int .i64 acc ∧ left.length ≤ kx ∧ Hid (acc + (left.map fun p => lenF st.files p.2).sum = usedF st) ∧ Hid (IterG Value.string ekP wr m1 w.heap.size st.seen left) ∧ Hid (Below w.heap.size w wr))
  case atStart => exact ⟨st.seen, 0, rfl, Nat.le_refl _, hid (by simp [usedF]), HIT, HB0⟩
  case round =>
    obtain ⟨left, acc, rfl, hk, HS, HI, HB⟩ := hrel
    go_wp2_with (at_next; refine wpl_nextG rfl rfl HI.out rfl ?_ ?_)
    · intro hnil
      subst hnil
      have hs := HS.out
      simp at hs
      have HS2 := hid hs
      clear hs
      go_wp2
      go_ret
      exact ⟨by rw [HS2.out]; rfl, HB.out⟩
    · intro k p left' w1 hperm hit1 hf1 hs1 hen
      have hmem : (k, p) ∈ st.seen := by
        obtain ⟨_, _, _, _, _, _, _, _, _, _, _, _, _, _, _, hm⟩ := HI.out
        exact hm _ (hperm.mem_iff.2 (by simp))
      obtain ⟨x, hx⟩ := Option.isSome_iff_exists.1 (HH.out.ok.seenI _ hmem).1
      simp only at hx
      have hbw : Below w.heap.size w w1 := Below.fr HB.out hf1 (fun i hi e => by omega)
      obtain ⟨m1', m2', ca', cc', ho⟩ := (HH.out.below hbw).lies
      obtain ⟨_, v, hv, hbs⟩ := ho.files p x hx
      obtain ⟨a, c, rfl, _⟩ := id hbs
      have cx : w1.cell? ⟨p, 0, none⟩ = some (.slice a x.b.length c) := cell_of_heap hv 0
      have hen1 := hen w1 (Fr.refl _ _)
      simp only [ekP_def] at hen1
      have hlen := hperm.length_eq
      have hsum : acc + x.b.length + (left'.map fun p => lenF st.files p.2).sum = usedF st := by
        rw [← HS.out, sum_perm hperm]
        simp only [List.map_cons, List.sum_cons]
        have : lenF st.files p = x.b.length := by unfold lenF; rw [hx]
        omega
      have HSUM := hid hsum
      have HIT1 := hid hit1
      have HBW := hid hbw
      have hle : acc + x.b.length ≤ 99000000000 := by omega
      clear hmem hx hbw ho hv hbs hen hsum hit1 hf1 hs1 hperm
      simp only [List.length_cons] at hlen
      go_wp2
      go_roundg left'.length
      case measure => omega
      case rel => exact ⟨left', acc + x.b.length, by go_num, Nat.le_refl _, HSUM, HIT1, HBW⟩
end Go.Proofs.Ytgehalfnpbjjcaa
